/- A row that comes: one list of rows has grown. -/
import Derived.Test.YtghihhjcoilmgaaK9
namespace Go.Proofs.Ytghihhjcoilmgaa.T
set_option maxRecDepth 100000
open Go.RowKit Go.Maps
set_option linter.unusedVariables false
set_option linter.unusedSimpArgs false

section
variable {Z : Zone} {w w' : World} {tb : Nat} {T : TS} {ff : R3 → Option Value} {ls : R3 → List Nat} {L : Int} {fa : Nat → Int → Option Value} {D : TabD}

def nilS : Value := .slice none 0 0
/-- the list of a look, or none yet -/
theorem ByG.list0 {mb : R3 → Option Value} (h : ByG Z w ls mb) {x : R3} (hx : rok x) (hl : look2 x = true) : Sl Z w 3 1 ((mb x).getD nilS) (ls x).length (ics (ls x)) := by
  cases hm : mb x with
  | none => rw [h.non x hx hl hm]; exact Sl.nil _ _ _ _
  | some v => exact (h.has x v hx hm).2
theorem upd_upd {κ β : Type} [DecidableEq κ] (f : κ → Option β) (x : κ) (u v : Option β) : upd (upd f x u) x v = upd f x v := by
  funext y; unfold upd; split <;> rfl

/-- W: the round's begin. X: behind the box of the new number and the map's entry, X2: behind the append, X3: behind the entry's store. -/
theorem IsG.listed (h : IsG Z w tb T ff ls L fa D) {x : R3} (hx : rok x) (hl : look2 x = true) (n : Nat) {X X2 X3 : World} {v' : Value}
    (hX : ∀ i, i < w.heap.size → i ≠ D.bb → X.heap[i]? = w.heap[i]?) (hXf : Fr Z w X) (hXm : ∃ es c, X.heap[D.bb]? = some (.map es c)) (hZ : Z.opn X.heap.size)
    (r1 : Sl Z X2 3 1 v' ((ls x).length + 1) (ics (ls x) ++ [.int .i64 n])) (r2 : Fr Z X X2) (r3 : X.grownBy X2 ((D.mb x).getD nilS).ownBlock)
    (r4 : (v'.ownBlock = ((D.mb x).getD nilS).ownBlock ∧ ∃ g, ((D.mb x).getD nilS).ownBlock = some g) ∨ v'.ownBlock = some X.heap.size ∧ Below X.heap.size X X2)
    (s1 : MapAt rv rok X3 D.bb (upd D.mb x (some v'))) (s2 : X2.mapTurned X3 D.bb) :
    IsG Z X3 tb T ff (fun y => if y = x then ls x ++ [n] else ls y) L fa { D with mb := upd D.mb x (some v') } ∧ Fr Z w X3 := by
  obtain ⟨hb3, o3⟩ := turned_heap s2
  have hv0 : ∀ g, ((D.mb x).getD nilS).ownBlock = some g → g < w.heap.size ∧ (∃ c z, w.heap[g]? = some (.cells c 3 z)) ∧ ∃ v, D.mb x = some v ∧ v.ownBlock = some g := by
    intro g hg
    have h1 := h.byOk.list0 hx hl
    obtain ⟨a, b⟩ := h1.lt g hg
    refine ⟨a, b, ?_⟩
    cases hm : D.mb x with
    | none => rw [hm] at hg; simp [nilS, Value.ownBlock] at hg
    | some v => rw [hm] at hg; exact ⟨v, rfl, hg⟩
  have hcells : ∀ {i : Nat} {c : Array Value} {e : TypeId} {z : Nat × Nat}, w.heap[i]? = some (.cells c e z) → i ≠ D.bb := by
    intro i c e z hi e1
    obtain ⟨es, c', hm⟩ := h.by_.heap
    rw [e1, hm] at hi; injection hi with hi; cases hi
  have hkeep : ∀ i, i < w.heap.size → i ≠ D.bb → some i ≠ ((D.mb x).getD nilS).ownBlock → X3.heap[i]? = w.heap[i]? := by
    intro i hi h1 h2
    exact (o3 i h1).trans ((r3.block i (Nat.lt_of_lt_of_le hi hXf.size) h2).trans (hX i hi h1))
  have hty : ∀ {e : TypeId} {i : Nat} {c : Array Value} {z : Nat × Nat}, w.heap[i]? = some (.cells c e z) → e ≠ 3 → X3.heap[i]? = w.heap[i]? := by
    intro e i c z hi he
    refine hkeep i (Array.getElem?_eq_some_iff.1 hi).1 (hcells hi) (fun e1 => ?_)
    obtain ⟨_, ⟨c', z', hc⟩, _⟩ := hv0 i e1.symm
    rw [hi] at hc; injection hc with hc; injection hc with _ hc; exact he hc
  have hmap : ∀ {i : Nat} {es : Array MapEntry} {c : Nat}, w.heap[i]? = some (.map es c) → i ≠ D.bb → X3.heap[i]? = w.heap[i]? := by
    intro i es c hi h1
    refine hkeep i (Array.getElem?_eq_some_iff.1 hi).1 h1 (fun e1 => ?_)
    obtain ⟨_, ⟨c', z', hc⟩, _⟩ := hv0 i e1.symm
    rw [hi] at hc; injection hc with hc; cases hc
  have hm : ∀ {κ : Type} {enc : κ → Value} {ok : κ → Prop} {b : Nat} {f : κ → Option Value}, MapAt enc ok w b f → b ≠ D.bb → MapAt enc ok X3 b f := by
    intro κ enc ok b f hm hb
    obtain ⟨es, c, hb'⟩ := hm.heap
    exact hm.stay (hmap hb' hb)
  have hbb : D.bb < w.heap.size := h.by_.lt
  refine ⟨{ h with
    obj := (hty h.obj (by decide)).trans h.obj
    rows := h.rows.stayB (fun g hg => by obtain ⟨_, c, z, hc⟩ := h.rows.lt g hg; exact hty hc (by decide))
    bits := h.bits.stayB (fun g hg => by obtain ⟨_, c, z, hc⟩ := h.bits.lt g hg; exact hty hc (by decide))
    find := hm h.find h.ne1
    by_ := s1
    byOk := ?_
    at_ := fun p hp => hm (h.at_ p hp) (Ne.symm (h.ne2 p hp).2) }, ?_⟩
  · refine h.byOk.step x hx hl n (r1.stayB (fun g hg => o3 g (fun e => ?_))) ?_ ?_
    · subst e
      obtain ⟨_, c, z, hc⟩ := r1.lt _ hg
      obtain ⟨es, c', hb3⟩ := hb3
      rw [hb3] at hc; injection hc with hc; cases hc
    · intro y v hy hne hv g hg
      obtain ⟨hlt, c, z, hc⟩ := (h.byOk.has y v hy hv).2.lt g hg
      refine hkeep g hlt (hcells hc) (fun e => ?_)
      obtain ⟨_, _, u, hu, hgu⟩ := hv0 g e.symm
      exact h.byOk.apart y x v u hy hx hv hu hne (by rw [hg, hgu])
    · intro y v hy hne hv e
      rcases r4 with ⟨h1, g, hg⟩ | ⟨h1, _⟩
      · obtain ⟨_, _, u, hu, hgu⟩ := hv0 g hg
        exact h.byOk.apart y x v u hy hx hv hu hne (by rw [e, h1, hg, hgu])
      · rw [h1] at e
        have := ((h.byOk.has y v hy hv).2.lt _ e).1
        have := hXf.size
        omega
  · exact (hXf.trans r2).trans (.turned s2 ⟨0, h.byW.1 0⟩ h.byW.2)
end

theorem msk_rok {r : R3} (h : rok r) (m : Nat) : rok (msk r m) := by
  obtain ⟨h1, h2, h3⟩ := h
  have h0 : is32 0 := ⟨by omega, by omega⟩
  refine ⟨?_, ?_, ?_⟩ <;> simp only [msk] <;> split <;> assumption
theorem msk_look {r : R3} (h0 : r.1 ≠ 0) (h1 : r.2.1 ≠ 0) (h2 : r.2.2 ≠ 0) (x : Fin 6) : look2 (msk r (x.val + 1)) = true := by
  have : x.val = 0 ∨ x.val = 1 ∨ x.val = 2 ∨ x.val = 3 ∨ x.val = 4 ∨ x.val = 5 := by omega
  rcases this with h | h | h | h | h | h <;> simp [msk, look2, h, h0, h1, h2]

/-- what the looks that have come give to a list -/
def came (r : R3) (l : Nat) (pre : List (Fin 6)) (y : R3) : List Nat := List.replicate (pre.countP (fun i => msk r (i.val + 1) == y)) l
theorem came_nil (r : R3) (l : Nat) (y : R3) : came r l [] y = [] := rfl
theorem came_snoc (r : R3) (l : Nat) (pre : List (Fin 6)) (x : Fin 6) (f : R3 → List Nat) :
    (fun y => f y ++ came r l (pre ++ [x]) y) = (fun y => if y = msk r (x.val + 1) then (f (msk r (x.val + 1)) ++ came r l pre (msk r (x.val + 1))) ++ [l] else f y ++ came r l pre y) := by
  funext y
  simp only [came, List.countP_append, List.countP_cons, List.countP_nil, Nat.zero_add]
  by_cases h : y = msk r (x.val + 1)
  · subst h
    simp [List.replicate_succ']
  · rw [if_neg h, if_neg (by simpa using Ne.symm h)]
    simp
theorem came_six {r : R3} (h0 : r.1 ≠ 0) (h1 : r.2.1 ≠ 0) (h2 : r.2.2 ≠ 0) (l : Nat) (y : R3) (hy : look2 y = true) : came r l six y = if fits y r then [l] else [] := by
  obtain ⟨a, b, c⟩ := r
  obtain ⟨x, u, v⟩ := y
  simp only at h0 h1 h2
  simp only [look2, Bool.and_eq_true, Bool.or_eq_true, beq_iff_eq, bne_iff_ne, ne_eq] at hy
  have hs : six.map (fun i => msk (a, b, c) (i.val + 1)) = [(a, 0, 0), (0, b, 0), (a, b, 0), (0, 0, c), (a, 0, c), (0, b, c)] := rfl
  have hc : six.countP (fun i => msk (a, b, c) (i.val + 1) == (x, u, v)) = [(a, 0, 0), (0, b, 0), (a, b, 0), (0, 0, c), (a, 0, c), (0, b, c)].countP (fun y => y == (x, u, v)) := by
    rw [← hs, List.countP_map]; rfl
  unfold came
  rw [hc]
  by_cases hx0 : x = 0 <;> by_cases hu0 : u = 0 <;> by_cases hv0 : v = 0 <;> by_cases hx : a = x <;> by_cases hu : b = u <;> by_cases hv : c = v <;>
    simp_all [fits, List.countP_cons, @eq_comm Int 0, @eq_comm Int u b, @eq_comm Int v c, @eq_comm Int x a]
section
variable {Z : Zone} {w : World} {tb : Nat} {T : TS} {ff : R3 → Option Value} {ls : R3 → List Nat} {L : Int} {fa : Nat → Int → Option Value} {D : TabD}
theorem ByG.congr {mb : R3 → Option Value} (h : ByG Z w ls mb) {ls' : R3 → List Nat} (hs : ∀ x, rok x → look2 x = true → ls' x = ls x) : ByG Z w ls' mb :=
  ⟨h.look, fun x hx hl hn => (hs x hx hl).trans (h.non x hx hl hn), fun x v hx hv => by rw [hs x hx (h.look x hx (by rw [hv]; simp))]; exact h.has x v hx hv, h.apart⟩
/-- a row has come -/
theorem IsG.come (r : R3) (l : Nat) (hr : rok r) (h0 : r.1 ≠ 0) (h1 : r.2.1 ≠ 0) (h2 : r.2.2 ≠ 0) (hl : T.length = l) (hn : idx T r = none)
    (h : IsG Z w tb (T ++ [(r, 0)]) (upd (idxF T) r (some (.int .i64 l))) (fun y => lst T y ++ came r l six y) (live T) (cntF T) D) : IsT Z w tb (T ++ [(r, 0)]) D := by
  have e1 : (live (T ++ [(r, 0)]) : Int) = live T := by rw [live_snoc]; simp
  unfold IsT
  rw [e1]
  exact { h with
    find := h.find.congr (fun x hx => by
      simp only [idxF, idx_snoc, upd]
      by_cases hxr : x = r
      · subst hxr; rw [hn]; simp [hl]
      · rw [if_neg hxr]
        cases idx T x with
        | some n => rfl
        | none => simp [Ne.symm hxr])
    byOk := h.byOk.congr (fun x hx hlx => by rw [lst_snoc, came_six h0 h1 h2 l x hlx, hl])
    at_ := fun p hp => (h.at_ p hp).congr (fun x hx => by simp only [cntF, cnt_snoc]; simp) }
end

theorem Try.zeroInts (w : World) : (zeroValue 73).run Try.prog w = .ok nilS w := by kernel_rfl
section
variable {P : Program} {o : Oper} {a : Act} {K : Act → World → Prop} {Q : Exit → Act → World → Prop} {w : World} {κ : Type} [DecidableEq κ] {enc : κ → Value} {ok : κ → Prop} {b : Nat} {f : κ → Option Value}
/-- a map's entry, at an operation -/
theorem wp_mapEntry (m x : Operand) (t k e : TypeId) (hop : o.op = .mapEntry t m x) (Ky : Kys P k enc ok) (ht : P.underlying t = some (.map k e)) {z : Value} (hz : (zeroValue e).run P w = .ok z w)
    (hm : a.eval m = .map (some b)) (hmap : MapAt enc ok w b f) {y : κ} (hy : ok y) (hx : a.eval x = enc y)
    (hK : ∀ w' born, EntAt enc ok w' b (upd f y (some ((f y).getD z))) y born → w.mapTurned w' b → K (a.put o.dst (.tuple #[(f y).getD z, .int .i64 born])) w') : o.wp P a w K Q := by
  obtain ⟨w', born, hr, h1, h2⟩ := hmap.entry Ky ht hz hy
  unfold Oper.wp execOp
  simp only [hop, Sem.run_bind, Sem.run_pure, Result.andThen_ok, hm, hx, hr]
  exact hK w' born h1 h2
theorem wp_entryStore (m x v : Operand) (t k e : TypeId) (hop : o.op = .entryStore t m x v) (Ky : Kys P k enc ok)
    {y : κ} {born : Int} {val : Value} (hm : a.eval m = .map (some b)) (hx : a.eval x = .int .i64 born) (hv : a.eval v = val) (hmap : EntAt enc ok w b f y born) (hy : ok y)
    (hK : ∀ w', MapAt enc ok w' b (upd f y (some val)) → w.mapTurned w' b → K (a.put o.dst undef) w') : o.wp P a w K Q := by
  obtain ⟨w', hr, h1, h2⟩ := hmap.store (t := t) Ky hy val
  unfold Oper.wp execOp
  simp only [hop, Sem.run_bind, Sem.run_pure, Result.andThen_ok, hm, hx, hv, hr]
  exact hK w' h1 h2
end

section
variable {Z : Zone} {w w' : World} {tb : Nat} {T : TS} {ff : R3 → Option Value} {ls : R3 → List Nat} {L : Int} {fa : Nat → Int → Option Value} {D : TabD}
/-- what a loop's own books turn is none of the table's -/
theorem Fr.grown {row : Option Nat} {w0 : World} (h : Fr Z w0 w) (hg : w.grownBy w' row) (hr : ∀ r, row = some r → w0.heap.size ≤ r) : Fr Z w0 w' := by
  have hb : ∀ i, i < w0.heap.size → w'.heap[i]? = w.heap[i]? := fun i hi => hg.block i (Nat.lt_of_lt_of_le hi h.size) (fun e => by have := hr i e.symm; omega)
  refine ⟨hg.os.trans h.os, hg.tape.trans h.tape, hg.output.trans h.output, Nat.le_trans h.size hg.size, fun i hi hn => (hb i hi).trans (h.block i hi hn), ?_, ?_⟩
  · intro i cur e fz hc
    obtain ⟨c1, h1, h2, h3⟩ := h.cells i cur e fz hc
    exact ⟨c1, (hb i (Array.getElem?_eq_some_iff.1 hc).1).trans h1, h2, h3⟩
  · intro i o hc ho
    exact (h.oth i o hc ho).imp id (fun h1 => (hb i (Array.getElem?_eq_some_iff.1 hc).1).trans h1)
theorem IsG.grown {row : Option Nat} {B : Nat} (h : IsG Z w tb T ff ls L fa D) (hg : w.grownBy w' row) (hr : ∀ r, row = some r → B ≤ r ∧ ∃ o : Obj, w.heap[r]? = some o ∧ o.isCells = false)
    (hm : D.bf < B ∧ D.bb < B ∧ ∀ p, p < 3 → D.ba p < B) : IsG Z w' tb T ff ls L fa D := by
  have hc : ∀ {i : Nat} {c : Array Value} {e : TypeId} {z : Nat × Nat}, w.heap[i]? = some (.cells c e z) → w'.heap[i]? = w.heap[i]? := by
    intro i c e z hi
    refine hg.block i (Array.getElem?_eq_some_iff.1 hi).1 (fun e1 => ?_)
    obtain ⟨_, o, ho, hn⟩ := hr i e1.symm
    rw [hi] at ho; injection ho with ho; subst ho; cases hn
  have hk : ∀ {κ : Type} {enc : κ → Value} {ok : κ → Prop} {b : Nat} {f : κ → Option Value}, MapAt enc ok w b f → b < B → MapAt enc ok w' b f := by
    intro κ enc ok b f hm hb
    exact hm.stay (hg.block b hm.lt (fun e1 => by have := (hr b e1.symm).1; omega))
  exact { h with
    obj := (hc h.obj).trans h.obj
    rows := h.rows.stayB (fun g hv => by obtain ⟨_, c, z, h1⟩ := h.rows.lt g hv; exact hc h1)
    bits := h.bits.stayB (fun g hv => by obtain ⟨_, c, z, h1⟩ := h.bits.lt g hv; exact hc h1)
    find := hk h.find hm.1
    by_ := hk h.by_ hm.2.1
    byOk := h.byOk.stayB (fun g cur fz h1 => hc h1)
    at_ := fun p hp => hk (h.at_ p hp) (hm.2.2 p hp) }
end

/-- the frame and the box of a loop's variable, a row -/
def RowAx {α : Type} (B : Nat) (p q : Nat) (a : Act) (enc : α → R3) : α → Act → World → Prop := fun x a' W =>
  ∃ bx, B ≤ bx ∧ a' = { tmps := (a.tmps.setIfInBounds p (rv (enc x))).setIfInBounds q (.pointer (some ⟨bx, 0, none⟩)), defers := [] } ∧
    W.heap[bx]? = some (.cells #[.int .u32 (enc x).1, .int .u32 (enc x).2.1, .int .u32 (enc x).2.2] 37 (0, 0))
theorem rowAx_own {α : Type} (B p q : Nat) (a : Act) (enc : α → R3) (x : α) (a' : Act) (B' : Nat) : OwnFrom B' (fun (_ : Unit) W => RowAx B p q a enc x a' W) := by
  rintro s W W' row ⟨bx, h1, h2, h3⟩ hg hr
  refine ⟨bx, h1, h2, (hg.block bx (Array.getElem?_eq_some_iff.1 h3).1 (fun e => ?_)).trans h3⟩
  obtain ⟨_, o, ho, hc⟩ := hr bx e.symm
  rw [h3] at ho; injection ho with ho; subst ho; cases hc
/-- a range over a function, its variable a row in a box -/
theorem wpIn_rangeFunc_row {F : Fence} {n : Nat} {P : Program} {w : World} {α : Type} {g : Operand} {p q : Nat} {assign body : Code} {Q : Exit → Act → World → Prop} {a : Act}
    (hro : F.round = none) (h1 : 1 ≤ n) {gf : Nat} {lb : Array Value} (hg : a.eval g = .func (.func gf) #[] lb) (hFg : F.fn gf) (eg : ∀ args w, (callFunc gf args).run P w = .ok (.enter gf args) w)
    {enc : α → R3} {Kp : World → World → Prop} {S Sp : List α → Prop} {N : Nat} {w0 : World} (hseq : SeqStopsK F (n - 1) P gf lb (fun x => #[rv (enc x)]) Kp S Sp N w0)
    (hKt : ∀ {A B C : World}, Kp A B → Kp B C → Kp A C) (hKb : ∀ (W : World) (l : Nat) (o o' : Obj), w.heap.size ≤ l → W.heap[l]? = some o → o.isCells = false → o.isWalk = false → Kp W (W.putObj l o')) (hb0 : Below w0.heap.size w0 w)
    (I : List α → World → Prop) (hI : OwnFrom w.heap.size I) (h0 : I [] w)
    (hassign : ∀ (l : Nat) (pre : List α) (x : α) (W : World) (K : Act → World → Prop), I pre W → (∀ a' W', KeepsFrom w.heap.size W W' → Kp W W' → I pre W' → RowAx w.heap.size p q a enc x a' W' → K a' W') →
      assign.wpIn (F.inRound l) (n - 1 - 1) P (Exit.then K (fun _ _ _ => False)) { tmps := a.tmps.setIfInBounds p (rv (enc x)), defers := [] } W)
    (hbody : ∀ (l : Nat) (pre : List α) (x : α) (W : World) (bx : Nat), w.heap.size ≤ l → I pre W → w.heap.size ≤ bx → W.heap[bx]? = some (.cells #[.int .u32 (enc x).1, .int .u32 (enc x).2.1, .int .u32 (enc x).2.2] 37 (0, 0)) → pre.length < N →
      body.wpIn (F.inRound l) (n - 1 - 1) P (ownPostG w.heap.size Kp I (fun _ _ _ => False) (pre ++ [x]) W) { tmps := (a.tmps.setIfInBounds p (rv (enc x))).setIfInBounds q (.pointer (some ⟨bx, 0, none⟩)), defers := [] } W)
    (hdone : ∀ (D : Nat) (xs : List α) (W : World), w.heap.size ≤ D → S xs → I xs W → W.heap[D]? = some (.deferred (some [])) → Q .normal { a with defers := { target := .collected D, args := #[] } :: a.defers } W) :
    (Code.rangeFunc g #[p] assign body).wpIn F n P Q a w :=
  wpIn_rangeFunc_ownH hro h1 hg hFg eg hseq hKt hKb hb0 (fun _ => rfl) I (fun _ _ _ => False) hI (fun _ _ _ _ _ h _ _ => h) h0 (RowAx w.heap.size p q a enc) (fun x a' => rowAx_own _ _ _ _ _ _ _ _)
    (fun l pre x W K hi hK => by
      have e : (#[p].zip #[rv (enc x)]).foldl (fun t (p, v) => t.setIfInBounds p v) a.tmps = a.tmps.setIfInBounds p (rv (enc x)) := by simp
      rw [e]
      exact hassign l pre x W K hi hK)
    (fun l pre x a' W hl _ hi ⟨bx, h1, h2, h3⟩ hlen => by subst h2; exact hbody l pre x W bx hl hi h1 h3 hlen)
    hdone (fun _ _ _ _ _ _ h _ => h.elim)
theorem lst_len (T : TS) (x : R3) : (lst T x).length ≤ T.length := by
  unfold lst
  exact Nat.le_trans (List.length_filterMap_le _ _) (by simp)
theorem came_len (r : R3) (l : Nat) (pre : List (Fin 6)) (y : R3) : (came r l pre y).length ≤ pre.length := by
  simp only [came, List.length_replicate]; exact List.countP_le_length
end Go.Proofs.Ytghihhjcoilmgaa.T
