/- A table that is rewritten (plain); the table's acts and the reference's, side by side. -/
import Derived.Test.YtghihhjcoilmgaaK14
import Derived.Test.YtghihhjcoilmgaaKS2
namespace Go.Proofs.Ytghihhjcoilmgaa.T
set_option maxRecDepth 100000
set_option linter.unusedVariables false
set_option linter.unusedSimpArgs false

/-- a table's rows that are not their own go out, and their own come: so many rounds, from row n on; how many went out -/
def rwGo (own : R3 → R3) : Nat → Nat → TS → Nat → TS × Nat
  | 0, _, T, out => (T, out)
  | k + 1, n, T, out => match T[n]? with
    | none => (T, out)
    | some y => if y.2 ≠ 0 ∧ own y.1 ≠ y.1 then rwGo own k (n + 1) (addT (setB T n 0) (own y.1) y.2) (out + 1) else rwGo own k (n + 1) T out
theorem rwGo_end (own : R3 → R3) (k n : Nat) (T : TS) (out : Nat) (h : T.length ≤ n) : rwGo own k n T out = (T, out) := by
  cases k with
  | zero => rfl
  | succ k => simp [rwGo, List.getElem?_eq_none h]
theorem rwGo_yes {own : R3 → R3} {k n : Nat} {T : TS} {out : Nat} (hn : n < T.length) (h : T[n].2 ≠ 0 ∧ own T[n].1 ≠ T[n].1) : rwGo own (k + 1) n T out = rwGo own k (n + 1) (addT (setB T n 0) (own T[n].1) T[n].2) (out + 1) := by
  rw [rwGo, List.getElem?_eq_getElem hn]
  simp only
  rw [if_pos h]
theorem rwGo_no {own : R3 → R3} {k n : Nat} {T : TS} {out : Nat} (hn : n < T.length) (h : ¬ (T[n].2 ≠ 0 ∧ own T[n].1 ≠ T[n].1)) : rwGo own (k + 1) n T out = rwGo own k (n + 1) T out := by
  rw [rwGo, List.getElem?_eq_getElem hn]
  simp only
  rw [if_neg h]
/-- what is not out is its own -/
def CleanT (own : R3 → R3) (n : Nat) (T : TS) : Prop := ∀ i (h : i < T.length), i < n → T[i].2 ≠ 0 → own T[i].1 = T[i].1
theorem rwGo_clean {own : R3 → R3} : ∀ (k n : Nat) (T : TS) (out : Nat), CleanT own T.length T → rwGo own k n T out = (T, out)
  | 0, _, _, _, _ => rfl
  | k + 1, n, T, out, h => by
    by_cases hn : n < T.length
    · rw [rwGo_no hn (fun h2 => h2.2 (h n hn hn h2.1))]
      exact rwGo_clean k (n + 1) T out h
    · exact rwGo_end _ _ _ _ _ (by omega)
structure RwI (own : R3 → R3) (N0 n : Nat) (T : TS) : Prop where
  le : N0 ≤ T.length
  up : T.length ≤ N0 + min n N0
  tail : ∀ i (h : i < T.length), N0 ≤ i → own T[i].1 = T[i].1
  clean : CleanT own n T
theorem RwI.start (own : R3 → R3) (T : TS) : RwI own T.length 0 T := ⟨Nat.le_refl _, by omega, fun i h h1 => by omega, fun i h h1 => by omega⟩
theorem RwI.skip {own : R3 → R3} {N0 n : Nat} {T : TS} (h : RwI own N0 n T) (hn : n < T.length) (hs : ¬ (T[n].2 ≠ 0 ∧ own T[n].1 ≠ T[n].1)) : RwI own N0 (n + 1) T := by
  refine ⟨h.le, by have := h.up; omega, h.tail, fun i hi hin hb => ?_⟩
  rcases Nat.lt_succ_iff_lt_or_eq.1 hin with h1 | rfl
  · exact h.clean i hi h1 hb
  · exact Classical.byContradiction fun e => hs ⟨hb, e⟩
theorem RwI.put {own : R3 → R3} {N0 n : Nat} {T : TS} (h : RwI own N0 n T) (hn : n < T.length) (hs : T[n].2 ≠ 0 ∧ own T[n].1 ≠ T[n].1) (hid : own (own T[n].1) = own T[n].1) : RwI own N0 (n + 1) (addT (setB T n 0) (own T[n].1) T[n].2) := by
  have hnN : n < N0 := by
    refine Nat.lt_of_not_le fun e => hs.2 (h.tail n hn e)
  have hl := setB_length T n 0
  have hrow : ∀ i (hi : i < (setB T n 0).length), (setB T n 0)[i].1 = (T[i]'(by rw [← hl]; exact hi)).1 ∧ ((setB T n 0)[i].2 ≠ 0 → i ≠ n ∧ (T[i]'(by rw [← hl]; exact hi)).2 ≠ 0) := fun i hi => by
    rw [setB_get]
    split
    · exact ⟨rfl, fun e => absurd rfl e⟩
    · rename_i e; exact ⟨rfl, fun h2 => ⟨e, h2⟩⟩
  have h0 : RwI own N0 (n + 1) (setB T n 0) := by
    refine ⟨by rw [hl]; exact h.le, by rw [hl]; have := h.up; omega, fun i hi h1 => ?_, fun i hi hin hb => ?_⟩
    · rw [(hrow i hi).1]; exact h.tail i _ h1
    · obtain ⟨h1, h2⟩ := (hrow i hi).2 hb
      rw [(hrow i hi).1]
      exact h.clean i (by rw [← hl]; exact hi) (by omega) h2
  have hup : (setB T n 0).length ≤ N0 + n := by rw [hl]; have := h.up; omega
  generalize setB T n 0 = U at *
  clear hrow hl
  have turn : ∀ (V : TS) (m : Nat) (b : Int), RwI own N0 (n + 1) V → (∀ hm : m < V.length, own V[m].1 = V[m].1) → RwI own N0 (n + 1) (setB V m b) := fun V m b hV hm => by
    have hl := setB_length V m b
    refine ⟨by rw [hl]; exact hV.le, by rw [hl]; exact hV.up, fun i hi h1 => ?_, fun i hi hin hb => ?_⟩
    · rw [setB_get]
      split
      · rename_i e; exact hV.tail i (by rw [← hl]; exact hi) h1
      · exact hV.tail i (by rw [← hl]; exact hi) h1
    · rw [setB_get] at hb ⊢
      split
      · rename_i e; subst e; exact hm (by rw [← hl]; exact hi)
      · rename_i e
        rw [if_neg e] at hb
        exact hV.clean i (by rw [← hl]; exact hi) hin hb
  unfold addT
  split
  · exact h0
  · split
    · rename_i m hm
      obtain ⟨hm1, hm2⟩ := idx_lt hm
      exact turn _ _ _ h0 fun _ => by rw [hm2]; exact hid
    · refine turn _ _ _ ⟨by have := h0.le; simp; omega, by simp; omega, fun i hi h1 => ?_, fun i hi hin hb => ?_⟩ fun _ => by simp [hid]
      · rcases Nat.lt_or_ge i U.length with h2 | h2
        · rw [List.getElem_append_left h2]; exact h0.tail i h2 h1
        · have e : i = U.length := by simp at hi; omega
          subst e; simp [hid]
      · rcases Nat.lt_or_ge i U.length with h2 | h2
        · rw [List.getElem_append_left h2] at hb ⊢; exact h0.clean i h2 hin hb
        · have e : i = U.length := by simp at hi; omega
          subst e; simp [hid]
end Go.Proofs.Ytghihhjcoilmgaa.T

namespace Go.Proofs.Ytghihhjcoilmgaa.T
set_option maxRecDepth 100000
open Go.RowKit Go.Maps
set_option linter.unusedVariables false
set_option linter.unusedSimpArgs false

theorem isR_nil {Z : Zone} {w : World} (hw : ∀ j, Z.W w.heap.size j) : IsR Z (w.alloc (.cells #[.slice none 0 0, .slice none 0 0] 53)) w.heap.size [] (.slice none 0 0) (.slice none 0 0) where
  obj := World.alloc_heap_new w _
  own := hw
  rows := Sl.nil _ _ _ _
  rowsW := fun g hg => by simp [Value.ownBlock] at hg
  bits := Sl.nil _ _ _ _
  bitsW := fun g hg => by simp [Value.ownBlock] at hg
  oks := by simp
  long := by simp
  nil0 := fun _ => ⟨rfl, rfl⟩
/-- what is made from n0 on -/
def Zone.from (n0 : Nat) : Zone where
  W i _ := n0 ≤ i
  R i _ := n0 ≤ i
  M i := n0 ≤ i
  sub _ _ h := h
/-- one block -/
def Zone.one (n : Nat) : Zone where
  W i _ := i = n
  R i _ := i = n
  M _ := False
  sub _ _ h := h
theorem Sts.start {n0 : Nat} {w1 : World} {D : TabD} {tb : Nat} (hI : IsT (Zone.from n0) w1 tb [] D) (hn : n0 ≤ w1.heap.size) :
    Sts n0 (w1.alloc (.cells #[.slice none 0 0, .slice none 0 0] 53)) tb w1.heap.size [] [] := by
  have hz := World.size_alloc w1 (.cells #[.slice none 0 0, .slice none 0 0] 53)
  refine ⟨(Zone.from n0).cut w1.heap.size, Zone.one w1.heap.size, D, _, _, (hI.cut (Nat.le_refl _)).below ((Below.refl _ w1).alloc (Nat.le_refl _) _), isR_nil (fun _ => rfl), ?_, ?_, ?_, by omega⟩
  · rintro i j ⟨_, h1⟩ h2
    exact Nat.ne_of_lt h1 h2
  · rintro i j ⟨h1, h2⟩
    exact ⟨h1, by omega⟩
  · rintro i j h1
    exact ⟨by rw [show i = _ from h1]; exact hn, by rw [show i = _ from h1]; omega⟩


theorem andNot_self {x : Int} (h : is8 x) : bits .andNot .u8 x x = 0 := by
  obtain ⟨h1, h2⟩ := h
  obtain ⟨n, rfl⟩ : ∃ n : Nat, x = n := ⟨x.toNat, by omega⟩
  have hn : n < 256 := by omega
  have : ∀ i : Fin 256, bits .andNot .u8 ((i.val : Nat) : Int) ((i.val : Nat) : Int) = 0 := by decide
  exact this ⟨n, hn⟩
section
variable {n0 : Nat} {w : World} {tb rb : Nat} {T TR : TS}
theorem Sts.oks (h : Sts n0 w tb rb T TR) : (∀ y ∈ T, yok y) ∧ (∀ y ∈ TR, yok y) := by
  obtain ⟨A, B, D, vr, vb, h⟩ := h
  exact ⟨h.t.oks, h.r.oks⟩
theorem Sts.long (h : Sts n0 w tb rb T TR) : T.length ≤ 1000000 ∧ TR.length ≤ 1000000 := by
  obtain ⟨A, B, D, vr, vb, h⟩ := h
  exact ⟨h.t.long, h.r.long⟩
theorem Sts.len (h : Sts n0 w tb rb T TR) : Calls Try.prog 22 #[.pointer (some ⟨tb, 0, none⟩)] w fun e w' => e = .returned (.int .i64 T.length) ∧ w = w' := by
  obtain ⟨A, B, D, vr, vb, h⟩ := h
  exact len_any h.t
theorem Sts.get (h : Sts n0 w tb rb T TR) (n : Nat) (hn : n < T.length) : Calls Try.prog 23 #[.pointer (some ⟨tb, 0, none⟩), .int .i64 n] w fun e w' => e = .returned (.tuple #[rv T[n].1, .int .u8 T[n].2]) ∧ Below w.heap.size w w' := by
  obtain ⟨A, B, D, vr, vb, h⟩ := h
  exact get_yes h.t n hn
theorem Sts.add (h : Sts n0 w tb rb T TR) (r : R3) (b : Int) (hr : rok r) (hlen : T.length + 1 ≤ 1000000) :
    Calls Try.prog 18 #[.pointer (some ⟨tb, 0, none⟩), rv r, .int .u8 b] w fun e w' => (∃ x y, e = .returned (.tuple #[.int .i64 x, .bool y])) ∧ Sts n0 w' tb rb (addT T r b) TR ∧ Below n0 w w' := by
  obtain ⟨A, B, D, vr, vb, h⟩ := h
  refine (add_any (h.t.up w.heap.size) (Zone.up_opn _ _) r b hr hlen).mono ?_
  rintro e w2 ⟨rfl, ⟨D2, t2⟩, f2⟩
  exact ⟨⟨_, _, rfl⟩, h.turnT t2 f2⟩
theorem Sts.radd (h : Sts n0 w tb rb T TR) (r : R3) (b : Int) (hr : rok r) (hlen : TR.length + 1 ≤ 1000000) :
    Calls Try.prog 19 #[.pointer (some ⟨rb, 0, none⟩), rv r, .int .u8 b] w fun e w' => (∃ x y, e = .returned (.tuple #[.int .i64 x, .bool y])) ∧ Sts n0 w' tb rb T (addT TR r b) ∧ Below n0 w w' := by
  obtain ⟨A, B, D, vr, vb, h⟩ := h
  refine (radd_any (h.r.up w.heap.size) (Zone.up_opn _ _) r hr b hlen).mono ?_
  rintro e w2 ⟨rfl, ⟨vr2, vb2, t2⟩, f2⟩
  exact ⟨⟨_, _, rfl⟩, h.turnR t2 f2⟩
theorem Sts.clear {W : World} (h : Sts n0 w tb rb T TR) (hb : Below w.heap.size w W) (n : Nat) (hn : n < T.length) :
    Calls Try.prog 39 #[.pointer (some ⟨tb, 0, none⟩), .int .i64 n, .int .u8 T[n].2] W fun e w' => e = .returned (.tuple #[]) ∧ Sts n0 w' tb rb (setB T n 0) TR ∧ Below n0 W w' ∧ ∀ i, w.heap.size ≤ i → i < W.heap.size → w'.heap[i]? = W.heap[i]? := by
  obtain ⟨A, B, D, vr, vb, h0⟩ := h
  have h := h0.below hb
  have h8 : is8 T[n].2 := (h.t.oks _ (List.getElem_mem hn)).2.2.2.2
  have hc := clear_yes (h.t.up W.heap.size) n hn T[n].2 h8
  rw [andNot_self h8] at hc
  refine hc.mono ?_
  rintro e w2 ⟨rfl, t2, f2⟩
  obtain ⟨k1, k2⟩ := h.turnT t2 f2
  refine ⟨rfl, k1, k2, fun i h1 h2 => f2.block i h2 fun j hj => ?_⟩
  rcases hj with hj | hj
  · have := (h0.al i j (A.sub i j hj)).2; omega
  · omega
/-- the reference's rows and bits -/
theorem Sts.ref (h : Sts n0 w tb rb T TR) : ∃ vr vb, (w.cell? ⟨rb, 0, none⟩ = some vr ∧ w.cell? ⟨rb, 1, none⟩ = some vb) ∧ (∃ a c, vr = .slice a TR.length c) ∧ (∃ a c, vb = .slice a TR.length c) ∧
    (∀ n (hn : n < TR.length), ∃ g cap, vr = .slice (some ⟨g, 0, none⟩) TR.length cap ∧ g < w.heap.size ∧ w.cell? ⟨g, n * 3, none⟩ = some (.int .u32 TR[n].1.1) ∧ w.cell? ⟨g, n * 3 + 1, none⟩ = some (.int .u32 TR[n].1.2.1) ∧ w.cell? ⟨g, n * 3 + 2, none⟩ = some (.int .u32 TR[n].1.2.2)) ∧
    (∀ n (hn : n < TR.length), ∃ g cap, vb = .slice (some ⟨g, 0, none⟩) TR.length cap ∧ (∃ cur fz, w.heap[g]? = some (.cells cur 56 fz)) ∧ w.cell? ⟨g, n, none⟩ = some (.int .u8 TR[n].2) ∧ w.frozen? ⟨g, n, none⟩ = false ∧ Sts n0 (w.setCell ⟨g, n, none⟩ (.int .u8 0)) tb rb T (setB TR n 0) ∧ Below n0 w (w.setCell ⟨g, n, none⟩ (.int .u8 0))) := by
  obtain ⟨A, B, D, vr, vb, h⟩ := h
  obtain ⟨c0, c1, _⟩ := h.r.cells
  refine ⟨vr, vb, ⟨c0, c1⟩, ?_, ?_, fun n hn => h.r.row n hn, fun n hn => ?_⟩
  · rcases h.r.rows.form with ⟨h1, h2⟩ | ⟨g, cap, h1, _⟩
    · exact ⟨none, 0, by rw [h1, h2]⟩
    · exact ⟨_, cap, h1⟩
  · rcases h.r.bits.form with ⟨h1, h2⟩ | ⟨g, cap, h1, _⟩
    · exact ⟨none, 0, by rw [h1, h2]⟩
    · exact ⟨_, cap, h1⟩
  · obtain ⟨g, cap, h1, h2, h3, h4, h5⟩ := h.r.bit n hn
    refine ⟨g, cap, h1, by obtain ⟨_, cur, fz, hc⟩ := h.r.bits.lt g (by rw [h1]; rfl); exact ⟨cur, fz, hc⟩, h3, h4, ?_⟩
    have t2 := (h.r.up w.heap.size).setBit n hn h1 0 (by simp [is8])
    exact h.turnR t2 ((Fr.refl _ w).setCell (.inl h5))
end
/-- an empty table at nil has no rows -/
theorem len_nil (w : World) : Calls Try.prog 22 #[.pointer none] w fun e w' => e = .returned (.int .i64 0) ∧ w = w' := by
  have ht : Calls Try.prog 34 #[.pointer none] w fun e w' => e = .returned (.bool false) ∧ w = w' := by
    go_enter Try.func34, Try.ntmps34
    go_wp2_with fail
    go_ret
    exact ⟨rfl, rfl⟩
  go_enter Try.func22, Try.ntmps22
  go_wp2_with (go_at_call 34; refine ht.mono ?_; rintro e w' ⟨rfl, rfl⟩)
  go_ret
  exact ⟨rfl, rfl⟩
end Go.Proofs.Ytghihhjcoilmgaa.T
