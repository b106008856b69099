/- What a table is behind a write into one of its blocks. -/
import Derived.Test.YtellmhllgmimiaaT2
import Derived.Test.YtellmhllgmimiaaMapW
namespace Go.Proofs.Ytellmhllgmimiaa
open Go.RowKit Go.Maps
set_option linter.unusedVariables false

section
variable {Z : Zone} {w w' : World} {tb : Nat} {T : TS} {ff : R3 → Option Value} {ls : R3 → List Nat} {L : Int} {fa : Nat → Int → Option Value} {D : TabD}

theorem turned_heap {b : Nat} (h : w.mapTurned w' b) : (∃ es c, w.heap[b]? = some (.map es c)) ∧ ∀ i, i ≠ b → w'.heap[i]? = w.heap[i]? := by
  obtain ⟨es, clock, es', clock', hb, rfl⟩ := h
  exact ⟨⟨es, clock, hb⟩, fun i hi => ChangeMaps.heap_setBlock_other hb _ hi⟩

/-- the parts that are no maps -/
theorem IsG.noMap (h : IsG Z w tb T ff ls L fa D) {b : Nat} (hb : ∃ es c, w.heap[b]? = some (.map es c)) (hg : ∀ i, i ≠ b → w'.heap[i]? = w.heap[i]?) :
    w'.heap[tb]? = some (.cells (D.cells L) 61 (0, 0)) ∧ Sl Z w' 25 3 D.vr T.length (rcs T) ∧ Sl Z w' 32 1 D.vb T.length (bcs T) ∧ ByG Z w' ls D.mb := by
  obtain ⟨es, c, hb⟩ := hb
  have hne : ∀ i cur e fz, w.heap[i]? = some (.cells cur e fz) → i ≠ b := fun i cur e fz hi e1 => by
    subst e1; rw [hb] at hi; injection hi with hi; cases hi
  refine ⟨(hg _ (hne _ _ _ _ h.obj)).trans h.obj, h.rows.stayB (fun g hv => ?_), h.bits.stayB (fun g hv => ?_), h.byOk.stayB (fun g cur fz hi => hg _ (hne _ _ _ _ hi))⟩
  · obtain ⟨_, cur, fz, h1⟩ := h.rows.lt g hv; exact hg _ (hne _ _ _ _ h1)
  · obtain ⟨_, cur, fz, h1⟩ := h.bits.lt g hv; exact hg _ (hne _ _ _ _ h1)

theorem IsG.turnA (h : IsG Z w tb T ff ls L fa D) {p : Nat} (hp : p < 3) (ht : w.mapTurned w' (D.ba p)) {g : Int → Option Value} (hm : MapAt uv is32 w' (D.ba p) g) :
    IsG Z w' tb T ff ls L (fun q => if q = p then g else fa q) D := by
  obtain ⟨hb, hg⟩ := turned_heap ht
  obtain ⟨h1, h2, h3, h4⟩ := h.noMap hb hg
  exact { h with
    obj := h1
    rows := h2
    bits := h3
    byOk := h4
    find := h.find.stay (hg _ (h.ne2 p hp).1)
    by_ := h.by_.stay (hg _ (h.ne2 p hp).2)
    at_ := fun q hq => by
      by_cases hqp : q = p
      · subst hqp; rw [if_pos rfl]; exact hm
      · rw [if_neg hqp]; exact (h.at_ q hq).stay (hg _ (h.ne3 q p hq hp hqp)) }
theorem IsG.congr (h : IsG Z w tb T ff ls L fa D) {fb : Nat → Int → Option Value} (hf : ∀ p, p < 3 → ∀ x, is32 x → fb p x = fa p x) : IsG Z w tb T ff ls L fb D :=
  { h with at_ := fun p hp => (h.at_ p hp).congr (hf p hp) }

theorem cells_set7 (D : TabD) (L L' : Int) : (D.cells L).setIfInBounds 7 (.int .i64 L') = D.cells L' := rfl
theorem heap_setCell_at {cur : Array Value} {t : TypeId} {fz : Nat × Nat} {b : Nat} (hb : w.heap[b]? = some (.cells cur t fz)) (j : Nat) (v : Value) : (w.setCell ⟨b, j, none⟩ v).heap[b]? = some (.cells (cur.setIfInBounds j v) t fz) := by
  obtain ⟨hlt, hk⟩ := Array.getElem?_eq_some_iff.1 hb
  show (w.heap.modify b _)[b]? = _
  rw [Array.getElem?_eq_getElem (by rw [Array.size_modify]; exact hlt), Array.getElem_modify_self, hk]
  simp

/-- a block of cells is turned: the parts that lie elsewhere -/
theorem IsG.maps (h : IsG Z w tb T ff ls L fa D) {b : Nat} (hb : ∃ cur t fz, w.heap[b]? = some (.cells cur t fz)) (hg : ∀ i, i < w.heap.size → i ≠ b → w'.heap[i]? = w.heap[i]?) :
    MapAt rv rok w' D.bf ff ∧ MapAt rv rok w' D.bb D.mb ∧ ∀ p, p < 3 → MapAt uv is32 w' (D.ba p) (fa p) := by
  obtain ⟨cur, t, fz, hb⟩ := hb
  have hm : ∀ {κ : Type} {enc : κ → Value} {ok : κ → Prop} {m : Nat} {f : κ → Option Value}, MapAt enc ok w m f → MapAt enc ok w' m f := by
    intro κ enc ok m f hm
    obtain ⟨es, c, hb'⟩ := hm.heap
    exact hm.stay (hg _ (Array.getElem?_eq_some_iff.1 hb').1 (fun e => by subst e; rw [hb] at hb'; injection hb' with hb'; cases hb'))
  exact ⟨hm h.find, hm h.by_, fun p hp => hm (h.at_ p hp)⟩

theorem IsG.setLive (h : IsG Z w tb T ff ls L fa D) (L' : Int) : IsG Z (w.setCell ⟨tb, 7, none⟩ (.int .i64 L')) tb T ff ls L' fa D := by
  have hg : ∀ i, i ≠ tb → (w.setCell ⟨tb, 7, none⟩ (.int .i64 L')).heap[i]? = w.heap[i]? := fun i hi => Below.heap_setCell w _ _ i hi
  obtain ⟨h1, h2, h3⟩ := h.maps (w' := w.setCell ⟨tb, 7, none⟩ (.int .i64 L')) ⟨_, _, _, h.obj⟩ (fun i _ hi => hg i hi)
  have hty : ∀ {e : TypeId} {i : Nat} {cur : Array Value} {fz : Nat × Nat}, e ≠ 61 → w.heap[i]? = some (.cells cur e fz) → i ≠ tb := fun he hi e1 => by
    subst e1; rw [h.obj] at hi; injection hi with hi; injection hi with _ hi; exact he hi.symm
  exact { h with
    obj := by rw [heap_setCell_at h.obj]; rfl
    rows := h.rows.stayB (fun g hv => by obtain ⟨_, cur, fz, h1⟩ := h.rows.lt g hv; exact hg _ (hty (by decide) h1))
    bits := h.bits.stayB (fun g hv => by obtain ⟨_, cur, fz, h1⟩ := h.bits.lt g hv; exact hg _ (hty (by decide) h1))
    byOk := h.byOk.stayB (fun g cur fz hi => hg _ (hty (by decide) hi))
    find := h1
    by_ := h2
    at_ := h3 }

theorem bcs_set (T : TS) (n : Nat) (b : Int) : bcs (setB T n b) = (bcs T).set n (.int .u8 b) := by
  apply List.ext_getElem (by simp [bcs, setB])
  intro i h1 h2
  simp only [bcs, List.getElem_map, List.getElem_set, setB_get]
  by_cases hi : i = n
  · subst hi; simp
  · simp [hi, Ne.symm hi]
theorem yok_set {T : TS} (h : ∀ y ∈ T, yok y) (n : Nat) {b : Int} (hb : is8 b) : ∀ y ∈ setB T n b, yok y := by
  intro y hy
  obtain ⟨i, hi, rfl⟩ := List.getElem_of_mem hy
  have hi' : i < T.length := by simpa [setB] using hi
  rw [setB_get]
  split
  · obtain ⟨h1, h2, h3, h4, _⟩ := h _ (List.getElem_mem hi'); exact ⟨h1, h2, h3, h4, hb⟩
  · exact h _ (List.getElem_mem hi')

theorem IsG.congrS (h : IsG Z w tb T ff ls L fa D) {ff' : R3 → Option Value} {ls' : R3 → List Nat} (h1 : ∀ r, rok r → ff' r = ff r) (h2 : ∀ x, rok x → ls' x = ls x) : IsG Z w tb T ff' ls' L fa D :=
  { h with
    find := h.find.congr h1
    byOk := ⟨h.byOk.look, fun x hx hl hn => by rw [h2 x hx]; exact h.byOk.non x hx hl hn, fun x v hx hv => by rw [h2 x hx]; exact h.byOk.has x v hx hv, h.byOk.apart⟩ }

/-- the bits of a row are set -/
theorem IsG.setBit (h : IsG Z w tb T ff ls L fa D) (n : Nat) (hn : n < T.length) {g cap : Nat} (hv : D.vb = .slice (some ⟨g, 0, none⟩) T.length cap) (b : Int) (hb : is8 b) :
    IsG Z (w.setCell ⟨g, n, none⟩ (.int .u8 b)) tb (setB T n b) ff ls L fa D := by
  obtain ⟨_, cur0, fz0, hgb⟩ := h.bits.lt g (by rw [hv]; rfl)
  have hg : ∀ i, i ≠ g → (w.setCell ⟨g, n, none⟩ (.int .u8 b)).heap[i]? = w.heap[i]? := fun i hi => Below.heap_setCell w _ _ i hi
  obtain ⟨h1, h2, h3⟩ := h.maps (w' := w.setCell ⟨g, n, none⟩ (.int .u8 b)) ⟨_, _, _, hgb⟩ (fun i _ hi => hg i hi)
  have hty : ∀ {e : TypeId} {i : Nat} {cur : Array Value} {fz : Nat × Nat}, e ≠ 32 → w.heap[i]? = some (.cells cur e fz) → i ≠ g := fun he hi e1 => by
    subst e1; rw [hgb] at hi; injection hi with hi; injection hi with _ hi; exact he hi.symm
  have hrw := setB_rows T n b
  refine { h with
    obj := (hg _ (hty (by decide) h.obj)).trans h.obj
    rows := by
      rw [setB_length, rcs_rows hrw]
      exact h.rows.stayB (fun g hv => by obtain ⟨_, cur, fz, h1⟩ := h.rows.lt g hv; exact hg _ (hty (by decide) h1))
    bits := ?_
    byOk := h.byOk.stayB (fun g cur fz hi => hg _ (hty (by decide) hi))
    find := h1
    by_ := h2
    at_ := h3
    oks := yok_set h.oks n hb
    nodup := by rw [hrw]; exact h.nodup
    long := by rw [setB_length]; exact h.long }
  rw [setB_length]
  have hbits := h.bits
  refine ⟨bcs_length _ |>.trans (by rw [setB_length]), ?_⟩
  rcases hbits.2 with ⟨e1, e2⟩ | ⟨g', cap', cur, e1, hgg, k1, k2, k3, k4, k5, k6⟩
  · omega
  · have : g' = g := by rw [hv] at e1; injection e1 with e1; injection e1 with e1; injection e1 with e1; exact e1.symm
    subst this
    refine .inr ⟨g', cap', _, e1, heap_setCell_at hgg n _, k1, k2, by simpa using k3, ?_, k5, k6⟩
    rw [Array.toList_setIfInBounds, List.take_set, k4, bcs_set]

end
end Go.Proofs.Ytellmhllgmimiaa
