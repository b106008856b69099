/- Layer 14: what is gone through, in plain words: looks and bindings, in order. -/
import Derived.Test.YtkgkkbfpkgfcaaaJ11
import Derived.WalkMore
import Derived.Laws.Cover3
namespace Go.Proofs.Ytkgkkbfpkgfcaaa
set_option maxRecDepth 100000
open Go.RowKit Go.Maps
set_option linter.unusedVariables false
set_option linter.unusedSimpArgs false

def holdsP (T : TS) (L : List Int) (s : StepT) : Bool :=
  if s.kind = 2 then decide (mlist T (lookP L s) 0 T.length 3 = []) else if s.kind = 3 then plVal L s.a == plVal L s.b else plVal L s.a != plVal L s.b
/-- what is met: none: a row is looked at; some: a binding -/
def evs (T : TS) : List (StepT × Vw) → List Int → List (Option (List Int))
  | [], L => [some L]
  | (s, v) :: t, L =>
    if s.kind = 1 then (stepRows T L s v.1 v.2.1 v.2.2).flatMap (fun r => none :: (if (bindP (prs s r) L).1 then evs T t (bindP (prs s r) L).2 else []))
    else if holdsP T L s then evs T t L else []
/-- a level: its step, its values ahead, the variables that it binds, the rows left -/
structure LevT where
  i : Nat
  s : StepT
  base : List Int
  own : List Nat
  rows : List R3
def rowE (T : TS) (ss : List (StepT × Vw)) (l : LevT) (r : R3) : List (Option (List Int)) := if (bindP (prs l.s r) l.base).1 then evs T (ss.drop (l.i + 1)) (bindP (prs l.s r) l.base).2 else []
def levE (T : TS) (ss : List (StepT × Vw)) (l : LevT) : List (Option (List Int)) := l.rows.flatMap (fun r => none :: rowE T ss l r)
/-- what the stack (its last first) still meets -/
def stE (T : TS) (ss : List (StepT × Vw)) (st : List LevT) : List (Option (List Int)) := st.reverse.flatMap (levE T ss)
theorem stE_nil (T : TS) (ss : List (StepT × Vw)) : stE T ss [] = [] := rfl
theorem stE_snoc (T : TS) (ss : List (StepT × Vw)) (st : List LevT) (l : LevT) : stE T ss (st ++ [l]) = levE T ss l ++ stE T ss st := by simp [stE]
theorem levE_nil (T : TS) (ss : List (StepT × Vw)) (l : LevT) (h : l.rows = []) : levE T ss l = [] := by simp [levE, h]
theorem levE_cons (T : TS) (ss : List (StepT × Vw)) (l : LevT) (r : R3) (t : List R3) (h : l.rows = r :: t) : levE T ss l = none :: (rowE T ss l r ++ levE T ss { l with rows := t }) := by simp [levE, h, rowE]
theorem evs_out (T : TS) (L : List Int) : evs T [] L = [some L] := rfl
theorem evs_match (T : TS) (ss : List (StepT × Vw)) (i : Nat) (s : StepT) (v : Vw) (h : ss[i]? = some (s, v)) (hk : s.kind = 1) (L : List Int) (own : List Nat) :
    evs T (ss.drop i) L = levE T ss { i := i, s := s, base := L, own := own, rows := stepRows T L s v.1 v.2.1 v.2.2 } := by
  obtain ⟨hi, h⟩ := List.getElem?_eq_some_iff.1 h
  rw [List.drop_eq_getElem_cons hi, h, evs, if_pos hk]
  rfl
theorem evs_hold (T : TS) (ss : List (StepT × Vw)) (i : Nat) (s : StepT) (v : Vw) (h : ss[i]? = some (s, v)) (hk : s.kind ≠ 1) (L : List Int) (hh : holdsP T L s = true) : evs T (ss.drop i) L = evs T (ss.drop (i + 1)) L := by
  obtain ⟨hi, h⟩ := List.getElem?_eq_some_iff.1 h
  rw [List.drop_eq_getElem_cons hi, h, evs, if_neg hk, if_pos hh]
theorem evs_not (T : TS) (ss : List (StepT × Vw)) (i : Nat) (s : StepT) (v : Vw) (h : ss[i]? = some (s, v)) (hk : s.kind ≠ 1) (L : List Int) (hh : holdsP T L s = false) : evs T (ss.drop i) L = [] := by
  obtain ⟨hi, h⟩ := List.getElem?_eq_some_iff.1 h
  rw [List.drop_eq_getElem_cons hi, h, evs, if_neg hk, if_neg (by simp [hh])]
def looksE (l : List (Option (List Int))) : Nat := l.countP (fun e => e.isNone)
def outsE (l : List (Option (List Int))) : List (List Int) := l.filterMap id
theorem looksE_app (a b : List (Option (List Int))) : looksE (a ++ b) = looksE a + looksE b := by simp [looksE]
theorem outsE_app (a b : List (Option (List Int))) : outsE (a ++ b) = outsE a ++ outsE b := by simp [outsE]
theorem looksE_none (a : List (Option (List Int))) : looksE (none :: a) = looksE a + 1 := by simp [looksE]
theorem outsE_none (a : List (Option (List Int))) : outsE (none :: a) = outsE a := by simp [outsE]
theorem looksE_some (b : List Int) (a : List (Option (List Int))) : looksE (some b :: a) = looksE a := by simp [looksE]
theorem outsE_some (b : List Int) (a : List (Option (List Int))) : outsE (some b :: a) = b :: outsE a := by simp [outsE]

/-- the values lie over the levels' (the last level first) -/
def chainR : List Int → List LevT → Prop
  | _, [] => True
  | L, l :: t => zeroOwn l.own L = l.base ∧ chainR l.base t
def chain (L : List Int) (st : List LevT) : Prop := chainR L st.reverse
theorem chain_snoc (L : List Int) (st : List LevT) (l : LevT) : chain L (st ++ [l]) ↔ zeroOwn l.own L = l.base ∧ chain l.base st := by simp [chain, chainR]
theorem zeroOwn_get (own : List Nat) : ∀ (L : List Int) (v : Nat), (zeroOwn own L)[v]? = if v ∈ own then L[v]?.map (fun _ => 0) else L[v]? := by
  induction own with
  | nil => intro L v; simp [zeroOwn]
  | cons o own ih =>
    intro L v
    show (zeroOwn own (L.set o 0))[v]? = _
    rw [ih, List.getElem?_set]
    by_cases h1 : v ∈ own
    · simp only [h1, if_true, List.mem_cons, or_true]
      by_cases h2 : o = v
      · subst h2
        by_cases h3 : o < L.length
        · simp [h3]
        · simp [h3]
      · simp [h2]
    · simp only [h1, if_false, List.mem_cons, or_false]
      by_cases h2 : o = v
      · subst h2
        by_cases h3 : o < L.length
        · simp [h3]
        · simp [h3]
      · simp [h2, Ne.symm h2]
theorem zeroOwn_same {own : List Nat} {L : List Int} (h : ∀ v ∈ own, L.getD v 0 = 0) : zeroOwn own L = L := by
  refine List.ext_getElem? (fun v => ?_)
  rw [zeroOwn_get]
  by_cases hv : v ∈ own
  · rw [if_pos hv]
    have := h v hv
    rw [List.getD_eq_getElem?_getD] at this
    cases hl : L[v]? with
    | none => rfl
    | some x => rw [hl] at this; simp at this; simp [this]
  · rw [if_neg hv]
/-- what is bound lies in the places -/
theorem bindP_keep : ∀ (ps : List (Pl × Int)) (L : List Int), (bindP ps L).2.length = L.length ∧ ∀ v : Nat, (L.getD v 0 ≠ 0 ∨ ∀ p ∈ ps, p.1.1 ≠ v) → (bindP ps L).2[v]? = L[v]?
  | [], L => ⟨rfl, fun _ _ => rfl⟩
  | (x, y) :: t, L => by
    unfold bindP
    by_cases hx : x.1 < 0
    · rw [if_pos hx]
      exact ⟨(bindP_keep t L).1, fun v hv => (bindP_keep t L).2 v (hv.imp id (fun h p hp => h p (List.mem_cons_of_mem _ hp)))⟩
    · rw [if_neg hx]
      obtain ⟨k, hk⟩ : ∃ k : Nat, x.1 = k := ⟨x.1.toNat, by omega⟩
      have hkn : x.1.toNat = k := by omega
      simp only [hkn]
      have key : ∀ L1 : List Int, L1.length = L.length → (∀ v : Nat, v ≠ k ∨ L.getD v 0 ≠ 0 → L1[v]? = L[v]?) →
          (if L1.getD k 0 = y then bindP t L1 else (false, L1)).2.length = L.length ∧ ∀ v : Nat, (L.getD v 0 ≠ 0 ∨ ∀ p ∈ (x, y) :: t, p.1.1 ≠ v) → (if L1.getD k 0 = y then bindP t L1 else (false, L1)).2[v]? = L[v]? := by
        intro L1 h1 h2
        have h3 : ∀ v : Nat, (L.getD v 0 ≠ 0 ∨ ∀ p ∈ (x, y) :: t, p.1.1 ≠ v) → L1[v]? = L[v]? := by
          intro v hv
          refine h2 v ?_
          rcases hv with h | h
          · exact .inr h
          · refine .inl (fun e => h (x, y) (by simp) ?_)
            rw [hk, e]
        split
        · refine ⟨(bindP_keep t L1).1.trans h1, fun v hv => ?_⟩
          rw [(bindP_keep t L1).2 v ?_, h3 v hv]
          rcases hv with h | h
          · left
            rw [List.getD_eq_getElem?_getD, h2 v (.inr h), ← List.getD_eq_getElem?_getD]
            exact h
          · exact .inr (fun p hp => h p (List.mem_cons_of_mem _ hp))
        · exact ⟨h1, fun v hv => h3 v hv⟩
      split
      · rename_i h0
        refine key _ (by simp) (fun v hv => ?_)
        rw [List.getElem?_set]
        by_cases he : k = v
        · subst he
          rcases hv with h | h
          · exact absurd rfl h
          · exact absurd h0 h
        · simp [he]
      · exact key _ rfl (fun v _ => rfl)
theorem mem_ownStep (L : List Int) (own : List Nat) (x : Pl) (v : Nat) : v ∈ ownStep L own x ↔ v ∈ own ∨ (x.1 = v ∧ L.getD v 0 = 0) := by
  unfold ownStep
  split
  · rename_i h
    obtain ⟨h1, h2, h3⟩ := h
    simp only [List.mem_append, List.mem_singleton]
    constructor
    · rintro (h | rfl)
      · exact .inl h
      · exact .inr ⟨by omega, h2⟩
    · rintro (h | ⟨h, _⟩)
      · exact .inl h
      · exact .inr (by omega)
  · rename_i h
    constructor
    · exact .inl
    · rintro (h' | ⟨h1, h2⟩)
      · exact h'
      · apply Classical.byContradiction
        intro hn
        have hv : x.1.toNat = v := by omega
        exact h ⟨by omega, by rw [hv]; exact h2, by rw [hv]; exact hn⟩
theorem mem_ownOf (L : List Int) (s : StepT) (v : Nat) : v ∈ ownOf L s ↔ L.getD v 0 = 0 ∧ (s.r0.1 = v ∨ s.r1.1 = v ∨ s.r2.1 = v) := by
  simp only [ownOf, List.foldl_cons, List.foldl_nil, mem_ownStep, List.not_mem_nil, false_or]
  constructor
  · rintro ((⟨h1, h2⟩ | ⟨h1, h2⟩) | ⟨h1, h2⟩)
    · exact ⟨h2, .inl h1⟩
    · exact ⟨h2, .inr (.inl h1)⟩
    · exact ⟨h2, .inr (.inr h1)⟩
  · rintro ⟨h2, h | h | h⟩
    · exact .inl (.inl ⟨h, h2⟩)
    · exact .inl (.inr ⟨h, h2⟩)
    · exact .inr ⟨h, h2⟩
theorem ownOf_len (L : List Int) (s : StepT) : (ownOf L s).length ≤ 3 := by
  simp only [ownOf, List.foldl_cons, List.foldl_nil]
  have h1 := ownStep_len L (ownStep L (ownStep L [] s.r0) s.r1) s.r2
  have h2 := ownStep_len L (ownStep L [] s.r0) s.r1
  have h3 := ownStep_len L [] s.r0
  simp at h3
  omega
theorem zeroOwn_own (L : List Int) (s : StepT) : zeroOwn (ownOf L s) L = L := zeroOwn_same (fun v hv => ((mem_ownOf L s v).1 hv).1)
theorem zeroOwn_bind (L : List Int) (s : StepT) (r : R3) : zeroOwn (ownOf L s) (bindP (prs s r) L).2 = L := by
  obtain ⟨h1, h2⟩ := bindP_keep (prs s r) L
  refine List.ext_getElem? (fun v => ?_)
  rw [zeroOwn_get]
  by_cases hv : v ∈ ownOf L s
  · rw [if_pos hv]
    have hz := ((mem_ownOf L s v).1 hv).1
    rw [List.getD_eq_getElem?_getD] at hz
    by_cases hl : v < L.length
    · rw [List.getElem?_eq_getElem (by omega), List.getElem?_eq_getElem hl]
      rw [List.getElem?_eq_getElem hl] at hz
      simp at hz ⊢
      exact hz.symm
    · rw [List.getElem?_eq_none (by omega), List.getElem?_eq_none (by omega)]; rfl
  · rw [if_neg hv]
    refine h2 v ?_
    apply Classical.byContradiction
    intro hn
    simp only [not_or, ne_eq, Classical.not_not, Classical.not_forall] at hn
    obtain ⟨h0, p, hp, hpv⟩ := hn
    refine hv ((mem_ownOf L s v).2 ⟨h0, ?_⟩)
    simp only [prs, List.mem_cons, List.not_mem_nil, or_false] at hp
    rcases hp with rfl | rfl | rfl
    · exact .inl hpv
    · exact .inr (.inl hpv)
    · exact .inr (.inr hpv)
def u32s (L : List Int) : Prop := ∀ x ∈ L, is32 x
theorem u32s_set {L : List Int} {k : Nat} {x : Int} (h : u32s L) (hx : is32 x) : u32s (L.set k x) := by
  intro y hy
  rcases List.mem_or_eq_of_mem_set hy with h1 | h1
  · exact h y h1
  · exact h1 ▸ hx
theorem u32s_bind : ∀ (ps : List (Pl × Int)) (L : List Int), u32s L → (∀ p ∈ ps, is32 p.2) → u32s (bindP ps L).2
  | [], L, h, _ => h
  | (x, y) :: t, L, h, hp => by
    unfold bindP
    have hy := hp (x, y) (by simp)
    have ht := fun p hp' => hp p (List.mem_cons_of_mem _ hp')
    split
    · exact u32s_bind t L h ht
    · have h1 : u32s (if L.getD x.1.toNat 0 = 0 then L.set x.1.toNat y else L) := by
        split
        · exact u32s_set h hy
        · exact h
      have key : ∀ L1 : List Int, u32s L1 → u32s (if L1.getD x.1.toNat 0 = y then bindP t L1 else (false, L1)).2 := by
        intro L1 h1
        split
        · exact u32s_bind t _ h1 ht
        · exact h1
      exact key _ h1
theorem u32s_zero (own : List Nat) : ∀ L : List Int, u32s L → u32s (zeroOwn own L) := by
  induction own with
  | nil => intro L h; exact h
  | cons o own ih => intro L h; exact ih _ (u32s_set h ⟨by decide, by decide⟩)
theorem plVal_32 {L : List Int} (h : u32s L) {x : Pl} (hx : is32 x.2) : is32 (plVal L x) := by
  unfold plVal
  split
  · exact hx
  · rw [List.getD_eq_getElem?_getD]
    cases hl : L[x.1.toNat]? with
    | none => exact ⟨by decide, by decide⟩
    | some y => exact h y (List.mem_of_getElem? hl)
end Go.Proofs.Ytkgkkbfpkgfcaaa

namespace Go.Proofs.Ytkgkkbfpkgfcaaa
set_option maxRecDepth 100000
open Go.RowKit Go.Maps
set_option linter.unusedVariables false
set_option linter.unusedSimpArgs false

/-- what lies below N, and the private blocks, stays -/
structure KpX (N : Nat) (X : Nat → Prop) (A B : World) : Prop where
  size : A.heap.size ≤ B.heap.size
  same : ∀ i, (i < N ∨ X i) → B.heap[i]? = A.heap[i]?
/-- private blocks may turn, new ones may come -/
structure GrX (X : Nat → Prop) (A B : World) : Prop where
  os : B.os = A.os
  tape : B.tape = A.tape
  output : B.output = A.output
  size : A.heap.size ≤ B.heap.size
  block : ∀ i, i < A.heap.size → ¬ X i → B.heap[i]? = A.heap[i]?
theorem GrX.refl (X : Nat → Prop) (A : World) : GrX X A A := ⟨rfl, rfl, rfl, Nat.le_refl _, fun _ _ _ => rfl⟩
theorem GrX.below {X : Nat → Prop} {A B : World} (h : Below A.heap.size A B) : GrX X A B := ⟨h.os, h.tape, h.output, h.size, fun i hi _ => h.block i hi⟩
theorem GrX.trans {X X' : Nat → Prop} {A B C : World} (h : GrX X A B) (hx : ∀ i, X' i → X i ∨ A.heap.size ≤ i) (k : GrX X' B C) : GrX X A C :=
  ⟨k.os.trans h.os, k.tape.trans h.tape, k.output.trans h.output, Nat.le_trans h.size k.size, fun i hi hn =>
    (k.block i (Nat.lt_of_lt_of_le hi h.size) (fun hx' => (hx i hx').elim hn (fun h' => by omega))).trans (h.block i hi hn)⟩
theorem GrX.set {X : Nat → Prop} (A : World) (b o : Nat) (v : Value) (h : X b) : GrX X A (A.setCell ⟨b, o, none⟩ v) :=
  ⟨rfl, rfl, rfl, by rw [World.size_setCell]; exact Nat.le_refl _, fun i _ hn => Below.heap_setCell A _ _ i (fun e => hn (by rw [e]; exact h))⟩
theorem GrX.grown {X : Nat → Prop} {A B : World} {b : Nat} (h : A.grownBy B (some b)) (hb : X b) : GrX X A B :=
  ⟨h.os, h.tape, h.output, h.size, fun i hi hn => h.block i hi (fun e => hn (by injection e with e; rw [e]; exact hb))⟩
theorem KpX.below {N : Nat} {X : Nat → Prop} {A B : World} (h : Below A.heap.size A B) (hN : N ≤ A.heap.size) (hX : ∀ i, X i → i < A.heap.size) : KpX N X A B :=
  ⟨h.size, fun i hi => h.block i (hi.elim (fun h => Nat.lt_of_lt_of_le h hN) (hX i))⟩

/-- a call of a function value that is a loop's yield or a function with what it holds -/
def FnAt (P : Program) (fv : Value) (args : Array Value) (W : World) (R : Ending → World → Prop) : Prop :=
  (∃ l, fv = .func (.yield l) #[] #[] ∧ YieldAt Fence.wide 8 P l args W R) ∨ (∃ k lb, fv = .func (.func k) #[] lb ∧ (∀ (xs : Array Value) (w : World), (callFunc k xs).run P w = .ok (.enter k xs) w) ∧ Calls P k (args ++ lb) W R)
/-- a binding, handed over in memory of its own -/
def IsOut (B : Nat) (W : World) (sv : Value) (b : List Int) : Prop := W.ownsRow B 23 1 sv b.length (uvs b).toList
abbrev OutT := Value × List Int
structure YieldsX (P : Program) (fv : Value) (N : Nat) (outs : List (List Int)) (J : List OutT → (Nat → Prop) → World → Prop) (Jx : List OutT → World → Prop) : Prop where
  grow : ∀ pre X X' A B, J pre X A → GrX X A B → (∀ i, X' i → X i ∨ A.heap.size ≤ i) → J pre X' B
  call : ∀ pre X A W sv b, J pre X A → (∀ i, X i → i < A.heap.size) → Below A.heap.size A W → IsOut A.heap.size W sv b → pre.map (·.2) ++ [b] <+: outs →
    FnAt P fv #[sv] W fun e W' => (e = .returned (.bool true) ∧ J (pre ++ [(sv, b)]) X W' ∧ KpX N X W W') ∨ (e = .returned (.bool false) ∧ Jx (pre ++ [(sv, b)]) W')

abbrev LevV := LevT × Value × Value
def lvCells (l : List LevV) : List Value := l.flatMap (fun y => [.int .i64 (y.1.i : Nat), y.2.1, y.2.2])
theorem lvCells_snoc (l : List LevV) (y : LevV) : lvCells (l ++ [y]) = lvCells l ++ [.int .i64 (y.1.i : Nat), y.2.1, y.2.2] := by simp [lvCells]
theorem lvCells_len (l : List LevV) : (lvCells l).length = l.length * 3 := by
  induction l with
  | nil => rfl
  | cons y l ih => simp [lvCells] at ih ⊢; omega
def RowsAt (X : Nat → Prop) (w : World) (v : Value) (rows : List R3) : Prop := ∃ a cap, v = .slice a rows.length cap ∧ rows.length ≤ cap ∧ cap ≤ maxLen ∧
  ∀ j (h : j < rows.length), ∃ g o, a = some ⟨g, o, none⟩ ∧ X g ∧ (∃ cur fz, w.heap[g]? = some (.cells cur 58 fz)) ∧
    w.cell? ⟨g, o + j * 3, none⟩ = some (.int .u32 rows[j].1) ∧ w.cell? ⟨g, o + j * 3 + 1, none⟩ = some (.int .u32 rows[j].2.1) ∧ w.cell? ⟨g, o + j * 3 + 2, none⟩ = some (.int .u32 rows[j].2.2)
def OwnAt (X : Nat → Prop) (w : World) (v : Value) (own : List Nat) : Prop := ∃ oa oc, v = .slice oa own.length oc ∧ IsI w oa own ∧ ∀ b off, oa = some ⟨b, off, none⟩ → X b ∧ ∃ cur fz, w.heap[b]? = some (.cells cur 3 fz)
structure LevOK (X : Nat → Prop) (w : World) (vars : Nat) (ss : List (StepT × Vw)) (y : LevV) : Prop where
  rows : RowsAt X w y.2.1 y.1.rows
  own : OwnAt X w y.2.2 y.1.own
  step : ∃ v, ss[y.1.i]? = some (y.1.s, v)
  len : y.1.base.length = vars
  b32 : u32s y.1.base
  ownEq : y.1.own = ownOf y.1.base y.1.s
  rok : ∀ r ∈ y.1.rows, rok r
  kind : y.1.s.kind = 1
theorem RowsAt.keep {X X' : Nat → Prop} {A B : World} {v : Value} {rows : List R3} (h : RowsAt X A v rows) (hX : ∀ i, X i → X' i) (hs : ∀ i cur fz, X i → A.heap[i]? = some (.cells cur 58 fz) → B.heap[i]? = A.heap[i]?) : RowsAt X' B v rows := by
  obtain ⟨a, cap, h1, h2, h3, h4⟩ := h
  refine ⟨a, cap, h1, h2, h3, fun j hj => ?_⟩
  obtain ⟨g, o, k1, k2, ⟨cur, fz, k3⟩, k4, k5, k6⟩ := h4 j hj
  have hg := hs g cur fz k2 k3
  exact ⟨g, o, k1, hX _ k2, ⟨cur, fz, hg.trans k3⟩, (World.cell?_of_block (w := A) (a := ⟨g, _, none⟩) hg).trans k4, (World.cell?_of_block (w := A) (a := ⟨g, _, none⟩) hg).trans k5, (World.cell?_of_block (w := A) (a := ⟨g, _, none⟩) hg).trans k6⟩
theorem OwnAt.keep {X X' : Nat → Prop} {A B : World} {v : Value} {own : List Nat} (h : OwnAt X A v own) (hX : ∀ i, X i → X' i) (hsz : A.heap.size ≤ B.heap.size) (hs : ∀ i cur fz, X i → A.heap[i]? = some (.cells cur 3 fz) → B.heap[i]? = A.heap[i]?) : OwnAt X' B v own := by
  obtain ⟨oa, oc, h1, h2, h3⟩ := h
  refine ⟨oa, oc, h1, fun j hj => ?_, fun b off e => ?_⟩
  · obtain ⟨b, off, k1, k2, k3⟩ := h2 j hj
    obtain ⟨hx, cur, fz, hb⟩ := h3 b off k1
    exact ⟨b, off, k1, Nat.lt_of_lt_of_le k2 hsz, (World.cell?_of_block (w := A) (a := ⟨b, _, none⟩) (hs b cur fz hx hb)).trans k3⟩
  · obtain ⟨hx, cur, fz, hb⟩ := h3 b off e
    exact ⟨hX _ hx, cur, fz, (hs b cur fz hx hb).trans hb⟩
theorem LevOK.keep {X X' : Nat → Prop} {A B : World} {vars : Nat} {ss : List (StepT × Vw)} {y : LevV} (h : LevOK X A vars ss y) (hX : ∀ i, X i → X' i) (hsz : A.heap.size ≤ B.heap.size)
    (hs : ∀ i cur t fz, X i → A.heap[i]? = some (.cells cur t fz) → t = 3 ∨ t = 58 → B.heap[i]? = A.heap[i]?) : LevOK X' B vars ss y :=
  { h with rows := h.rows.keep hX (fun i cur fz hx hc => hs i cur _ fz hx hc (.inr rfl)), own := h.own.keep hX hsz (fun i cur fz hx hc => hs i cur _ fz hx hc (.inl rfl)) }
theorem OwnAt.of {B : Nat} {X : Nat → Prop} {w : World} {v : Value} {own : List Nat} (h : w.ownsRow B 3 1 v own.length (ics own)) (hX : ∀ i, B ≤ i → i < w.heap.size → X i) : OwnAt X w v own := by
  obtain ⟨ao, cap, h1, h2⟩ := own_formB h
  refine ⟨ao, cap, h1, h2, fun b off e => ?_⟩
  subst e
  obtain ⟨h3, cur, fz, h4⟩ := own_ltJ h b (by rw [h1]; rfl)
  exact ⟨hX b h3 (Array.getElem?_eq_some_iff.1 h4).1, cur, fz, h4⟩
theorem rws_get (l : List R3) (j : Nat) (h : j < l.length) : (rws l)[j * 3]? = some (.int .u32 l[j].1) ∧ (rws l)[j * 3 + 1]? = some (.int .u32 l[j].2.1) ∧ (rws l)[j * 3 + 2]? = some (.int .u32 l[j].2.2) := by
  induction l generalizing j with
  | nil => simp at h
  | cons y l ih =>
    cases j with
    | zero => simp [rws]
    | succ j =>
      obtain ⟨h1, h2, h3⟩ := ih j (by simpa using h)
      have e : ∀ k, (rws (y :: l))[k + 3]? = (rws l)[k]? := fun k => by simp [rws]
      have e0 : (j + 1) * 3 = j * 3 + 3 := by omega
      refine ⟨by rw [e0, e, h1]; rfl, ?_, ?_⟩
      · rw [show (j + 1) * 3 + 1 = (j * 3 + 1) + 3 by omega, e, h2]; rfl
      · rw [show (j + 1) * 3 + 2 = (j * 3 + 2) + 3 by omega, e, h3]; rfl
theorem own_cellsJ {w : World} {B e size n : Nat} {v : Value} {xs : List Value} (h : w.ownsRow B e size v n xs) : (v = .slice none 0 0 ∧ n = 0) ∨ ∃ g cap, v = .slice (some ⟨g, 0, none⟩) n cap ∧ B ≤ g ∧ n ≤ cap ∧ cap ≤ maxLen ∧ (∃ cur, w.heap[g]? = some (.cells cur e (0, 0)) ∧ cur.size = cap * size) ∧ ∀ (j : Nat) (u : Value), xs[j]? = some u → w.cell? ⟨g, j, none⟩ = some u ∧ w.frozen? ⟨g, j, none⟩ = false := by
  rcases h.2 with h' | ⟨g, cap, cur, rfl, h1, h2, h3, h4, h5, h6⟩
  · exact .inl h'
  · refine .inr ⟨g, cap, rfl, h1, h3, h4, ⟨cur, h2, h5⟩, fun j u hj => ?_⟩
    rw [← h6] at hj
    have hu : cur[j]? = some u := by
      rw [← Array.getElem?_toList]
      rw [List.getElem?_take] at hj
      split at hj
      · exact hj
      · cases hj
    unfold World.cell? World.frozen?
    rw [h2]
    simp [hu]
theorem RowsAt.of {B : Nat} {X : Nat → Prop} {w : World} {v : Value} {rows : List R3} (h : w.ownsRow B 58 3 v rows.length (rws rows)) (hX : ∀ i, B ≤ i → i < w.heap.size → X i) : RowsAt X w v rows := by
  rcases own_cellsJ h with ⟨rfl, h0⟩ | ⟨g, cap, rfl, h1, h2, h3, ⟨cur, h4, h5⟩, h6⟩
  · exact ⟨none, 0, by rw [h0], Nat.le_of_eq (by rw [h0]), by decide, fun j hj => by omega⟩
  · refine ⟨_, cap, rfl, h2, h3, fun j hj => ?_⟩
    obtain ⟨k1, k2, k3⟩ := rws_get rows j hj
    refine ⟨g, 0, rfl, hX g h1 (Array.getElem?_eq_some_iff.1 h4).1, ⟨cur, _, h4⟩, ?_, ?_, ?_⟩
    · rw [Nat.zero_add]; exact (h6 _ _ k1).1
    · rw [Nat.zero_add]; exact (h6 _ _ k2).1
    · rw [Nat.zero_add]; exact (h6 _ _ k3).1
/-- the rows behind the first -/
theorem RowsAt.tail {X : Nat → Prop} {w : World} {a : Option Addr} {cap : Nat} {r : R3} {rows : List R3} (h : RowsAt X w (.slice a (r :: rows).length cap) (r :: rows)) :
    RowsAt X w (.slice (if cap = 1 then a else a.map (·.add 3)) rows.length (cap - 1)) rows := by
  obtain ⟨a', cap', h1, h2, h3, h4⟩ := h
  injection h1 with h1 _ h1'
  subst h1 h1'
  simp only [List.length_cons] at h2 h4
  refine ⟨_, _, rfl, by omega, by omega, fun j hj => ?_⟩
  obtain ⟨g, o, k1, k2, k3, k4, k5, k6⟩ := h4 (j + 1) (by omega)
  simp only [List.getElem_cons_succ] at k4 k5 k6
  subst k1
  rw [if_neg (by omega)]
  refine ⟨g, o + 3, rfl, k2, k3, ?_, ?_, ?_⟩
  · rw [show o + 3 + j * 3 = o + (j + 1) * 3 by omega]; exact k4
  · rw [show o + 3 + j * 3 + 1 = o + (j + 1) * 3 + 1 by omega]; exact k5
  · rw [show o + 3 + j * 3 + 2 = o + (j + 1) * 3 + 2 by omega]; exact k6

def wkC (tb : Nat) (h0 h1 h2 h3 h4 h5 : Int) (sa : Option Addr) (n cap vars : Nat) (vv : Value) (vb : Nat) (k : Int) : Array Value :=
  #[.pointer (some ⟨tb, 0, none⟩), .int .i64 h0, .int .u32 h1, .int .i64 h2, .int .u32 h3, .int .i64 h4, .int .u32 h5, .slice sa n cap, .int .i64 (vars : Nat), vv, .slice (some ⟨vb, 0, none⟩) vars vars, .int .i64 k]
/-- what stays the same all along run -/
structure RunE where
  wt : World
  tb : Nat
  wb : Nat
  vb : Nat
  h0 : Int
  h1 : Int
  h2 : Int
  h3 : Int
  h4 : Int
  h5 : Int
  sa : Option Addr
  cap : Nat
  vars : Nat
  steps : List StepT
  vws : List Vw
  vv : Value
def RunE.cells (E : RunE) (k : Int) : Array Value := wkC E.tb E.h0 E.h1 E.h2 E.h3 E.h4 E.h5 E.sa E.steps.length E.cap E.vars E.vv E.vb k
def RunE.ss (E : RunE) : List (StepT × Vw) := E.steps.zip E.vws
/-- what run only reads -/
structure RB (E : RunE) (X : Nat → Prop) (w : World) (st : List LevV) : Prop where
  low : ∀ i, i < E.wt.heap.size → w.heap[i]? = E.wt.heap[i]?
  lows : E.wt.heap.size ≤ w.heap.size
  vw : w.ownsRow E.wt.heap.size 42 3 E.vv E.steps.length (vcs E.vws)
  vwX : ∀ g, E.vv.ownBlock = some g → X g
  lev : ∀ y ∈ st, LevOK X w E.vars E.ss y
  xs : ∀ i, X i → E.wt.heap.size ≤ i ∧ i < w.heap.size
structure RS (E : RunE) (X : Nat → Prop) (w : World) (L : List Int) (k : Int) (sv : Value) (st : List LevV) : Prop where
  rb : RB E X w st
  wk : w.heap[E.wb]? = some (.cells (E.cells k) 79 (0, 0))
  wbX : X E.wb
  va : w.heap[E.vb]? = some (.cells (uvs L) 23 (0, 0))
  vbX : X E.vb
  vlen : L.length = E.vars
  v32 : u32s L
  sk : w.ownsRow E.wt.heap.size 102 3 sv st.length (lvCells st)
  skX : ∀ g, sv.ownBlock = some g → X g
  ch : chain L (st.map (·.1))
theorem RB.turn {E : RunE} {X X' : Nat → Prop} {A B : World} {st : List LevV} (h : RB E X A st) (hX : ∀ i, X i → X' i) (hX' : ∀ i, X' i → E.wt.heap.size ≤ i ∧ i < B.heap.size) (hsz : A.heap.size ≤ B.heap.size) (hl : ∀ i, i < E.wt.heap.size → B.heap[i]? = A.heap[i]?)
    (hs : ∀ i cur t fz, X i → A.heap[i]? = some (.cells cur t fz) → t = 3 ∨ t = 58 ∨ t = 42 → B.heap[i]? = A.heap[i]?) : RB E X' B st :=
  { low := fun i hi => (hl i hi).trans (h.low i hi)
    lows := Nat.le_trans h.lows hsz
    vw := jown_blk h.vw (fun g hg => by
      obtain ⟨_, cur, fz, hc⟩ := own_ltJ h.vw g hg
      exact hs g cur _ fz (h.vwX g hg) hc (.inr (.inr rfl)))
    vwX := fun g hg => hX _ (h.vwX g hg)
    lev := fun y hy => (h.lev y hy).keep hX hsz (fun i cur t fz hx hc ht => hs i cur t fz hx hc (ht.imp id .inl))
    xs := hX' }
theorem RS.lt {E : RunE} {X : Nat → Prop} {A : World} {L : List Int} {k : Int} {sv : Value} {st : List LevV} (h : RS E X A L k sv st) : ∀ i, X i → i < A.heap.size := fun i hi => (h.rb.xs i hi).2
theorem RS.keep {E : RunE} {X : Nat → Prop} {A B : World} {L : List Int} {k : Int} {sv : Value} {st : List LevV} (h : RS E X A L k sv st) (hk : KpX E.wt.heap.size X A B) : RS E X B L k sv st :=
  { h with
    rb := h.rb.turn (fun _ h => h) (fun i hi => ⟨(h.rb.xs i hi).1, Nat.lt_of_lt_of_le (h.rb.xs i hi).2 hk.size⟩) hk.size (fun i hi => hk.same i (.inl hi)) (fun i cur t fz hx _ _ => hk.same i (.inr hx))
    wk := (hk.same _ (.inr h.wbX)).trans h.wk
    va := (hk.same _ (.inr h.vbX)).trans h.va
    sk := jown_blk h.sk (fun g hg => hk.same g (.inr (h.skX g hg))) }
theorem RS.below {E : RunE} {X : Nat → Prop} {A B : World} {L : List Int} {k : Int} {sv : Value} {st : List LevV} (h : RS E X A L k sv st) (hb : Below A.heap.size A B) : RS E X B L k sv st :=
  h.keep (KpX.below hb h.rb.lows h.lt)
theorem RS.more {E : RunE} {X X' : Nat → Prop} {A : World} {L : List Int} {k : Int} {sv : Value} {st : List LevV} (h : RS E X A L k sv st) (hX : ∀ i, X i → X' i) (hX' : ∀ i, X' i → E.wt.heap.size ≤ i ∧ i < A.heap.size) : RS E X' A L k sv st :=
  { h with
    rb := h.rb.turn hX hX' (Nat.le_refl _) (fun _ _ => rfl) (fun _ _ _ _ _ _ _ => rfl)
    wbX := hX _ h.wbX
    vbX := hX _ h.vbX
    skX := fun g hg => hX _ (h.skX g hg) }
theorem blk_typ {w : World} {a b : Nat} {c1 c2 : Array Value} {t1 t2 : TypeId} {f1 f2 : Nat × Nat} (h1 : w.heap[a]? = some (.cells c1 t1 f1)) (h2 : w.heap[b]? = some (.cells c2 t2 f2)) (ht : t1 ≠ t2) : a ≠ b := by
  rintro rfl
  rw [h1] at h2
  injection h2 with h2; injection h2 with _ h2 _
  exact ht h2
theorem blk_eq {w : World} {a b : Nat} {c1 c2 : Array Value} {t1 t2 : TypeId} {f1 f2 : Nat × Nat} (h1 : w.heap[a]? = some (.cells c1 t1 f1)) (h2 : w.heap[b]? = some (.cells c2 t2 f2)) (e : a = b) : t1 = t2 := by
  subst e
  rw [h1] at h2
  injection h2 with h2; injection h2
/-- one block of run's turns: all else stays -/
theorem RB.one {E : RunE} {X : Nat → Prop} {A B : World} {st : List LevV} (h : RB E X A st) {b : Nat} {c : Array Value} {t : TypeId} {f : Nat × Nat} (hb : A.heap[b]? = some (.cells c t f)) (hX : X b) (ht : t ≠ 3 ∧ t ≠ 58 ∧ t ≠ 42) (hsz : A.heap.size ≤ B.heap.size)
    (hs : ∀ i, i < A.heap.size → i ≠ b → B.heap[i]? = A.heap[i]?) : RB E X B st :=
  h.turn (fun _ h => h) (fun i hi => ⟨(h.xs i hi).1, Nat.lt_of_lt_of_le (h.xs i hi).2 hsz⟩) hsz (fun i hi => hs i (Nat.lt_of_lt_of_le hi h.lows) (by have := (h.xs b hX).1; omega))
    (fun i cur t' fz hx hc ht' => hs i (h.xs i hx).2 (fun e => by
      have := blk_eq hc hb e
      subst this
      rcases ht' with h' | h' | h'
      · exact ht.1 h'
      · exact ht.2.1 h'
      · exact ht.2.2 h'))
section
variable {E : RunE} {X : Nat → Prop} {w : World} {L : List Int} {k : Int} {sv : Value} {st : List LevV}
theorem RS.c0 (h : RS E X w L k sv st) : w.cell? ⟨E.wb, 0, none⟩ = some (.pointer (some ⟨E.tb, 0, none⟩)) := by unfold World.cell?; rw [h.wk]; rfl
theorem RS.c7 (h : RS E X w L k sv st) : w.cell? ⟨E.wb, 7, none⟩ = some (.slice E.sa E.steps.length E.cap) := by unfold World.cell?; rw [h.wk]; rfl
theorem RS.c9 (h : RS E X w L k sv st) : w.cell? ⟨E.wb, 9, none⟩ = some E.vv := by unfold World.cell?; rw [h.wk]; rfl
theorem RS.c10 (h : RS E X w L k sv st) : w.cell? ⟨E.wb, 10, none⟩ = some (.slice (some ⟨E.vb, 0, none⟩) E.vars E.vars) := by unfold World.cell?; rw [h.wk]; rfl
theorem RS.c11 (h : RS E X w L k sv st) : w.cell? ⟨E.wb, 11, none⟩ = some (.int .i64 k) ∧ w.frozen? ⟨E.wb, 11, none⟩ = false := by unfold World.cell? World.frozen?; rw [h.wk]; exact ⟨rfl, rfl⟩
theorem RS.wlt (h : RS E X w L k sv st) : E.wb < w.heap.size := h.lt _ h.wbX
theorem RS.ne (h : RS E X w L k sv st) : E.wb ≠ E.vb := blk_typ h.wk h.va (by decide)
theorem RS.wkB (h : RS E X w L k sv st) : WkB w E.wb E.vb L := ⟨by rw [h.vlen]; exact h.c10, h.va, h.wlt, h.ne⟩
theorem RS.val (h : RS E X w L k sv st) (v : Nat) (hv : v < L.length) : w.cell? ⟨E.vb, v, none⟩ = some (.int .u32 L[v]) ∧ w.frozen? ⟨E.vb, v, none⟩ = false := h.wkB.v v hv
theorem RS.tab {Z : Zone} {T : TS} {D : TabD} (h : RS E X w L k sv st) (ht : IsT Z E.wt E.tb T D) : IsT Z w E.tb T D := ht.blocks h.rb.low
theorem IsSteps.low {A B : World} {sa : Option Addr} {l : List StepT} (h : IsSteps A sa l) (hs : A.heap.size ≤ B.heap.size) (hl : ∀ i, i < A.heap.size → B.heap[i]? = A.heap[i]?) : IsSteps B sa l := fun i hi => by
  obtain ⟨sb, so, h1, h2⟩ := h i hi
  have e : ∀ {o : Nat} {v : Value}, A.cell? ⟨sb, o, none⟩ = some v → B.cell? ⟨sb, o, none⟩ = some v := fun {o v} hc => (World.cell?_of_block (w := A) (a := ⟨sb, o, none⟩) (hl sb h2.lt)).trans hc
  exact ⟨sb, so, h1, Nat.lt_of_lt_of_le h2.lt hs, e h2.c0, e h2.c1, e h2.c2, e h2.c3, e h2.c4, e h2.c5, e h2.c6, e h2.c7, e h2.c8, e h2.c9, e h2.c10⟩
theorem RS.stp (h : RS E X w L k sv st) (hs : IsSteps E.wt E.sa E.steps) : IsSteps w E.sa E.steps := hs.low h.rb.lows h.rb.low
theorem vcs_get (l : List Vw) (j : Nat) (h : j < l.length) : (vcs l)[j * 3]? = some (.int .i64 l[j].1) ∧ (vcs l)[j * 3 + 1]? = some (.int .i64 l[j].2.1) ∧ (vcs l)[j * 3 + 2]? = some (.int .u8 l[j].2.2) := by
  induction l generalizing j with
  | nil => simp at h
  | cons y l ih =>
    cases j with
    | zero => simp [vcs]
    | succ j =>
      obtain ⟨h1, h2, h3⟩ := ih j (by simpa using h)
      have e : ∀ k, (vcs (y :: l))[k + 3]? = (vcs l)[k]? := fun k => by simp [vcs]
      have e0 : (j + 1) * 3 = j * 3 + 3 := by omega
      refine ⟨by rw [e0, e, h1]; rfl, ?_, ?_⟩
      · rw [show (j + 1) * 3 + 1 = (j * 3 + 1) + 3 by omega, e, h2]; rfl
      · rw [show (j + 1) * 3 + 2 = (j * 3 + 2) + 3 by omega, e, h3]; rfl
theorem RS.view (h : RS E X w L k sv st) (hl : E.vws.length = E.steps.length) (i : Nat) (hi : i < E.vws.length) : ∃ va vcap, E.vv = .slice (some ⟨va, 0, none⟩) E.steps.length vcap ∧ IsView w va 0 i E.vws[i].1 E.vws[i].2.1 E.vws[i].2.2 := by
  rcases own_cellsJ h.rb.vw with ⟨_, h0⟩ | ⟨g, cap, hv, h1, h2, h3, ⟨cur, h4, h5⟩, h6⟩
  · omega
  · obtain ⟨k1, k2, k3⟩ := vcs_get E.vws i hi
    refine ⟨g, cap, hv, (Array.getElem?_eq_some_iff.1 h4).1, ?_, ?_, ?_⟩
    · rw [Nat.zero_add]; exact (h6 _ _ k1).1
    · rw [Nat.zero_add]; exact (h6 _ _ k2).1
    · rw [Nat.zero_add]; exact (h6 _ _ k3).1
theorem RS.looked (h : RS E X w L k sv st) (k' : Int) : RS E X (w.setCell ⟨E.wb, 11, none⟩ (.int .i64 k')) L k' sv st :=
  have hs : ∀ i, i ≠ E.wb → (w.setCell ⟨E.wb, 11, none⟩ (.int .i64 k')).heap[i]? = w.heap[i]? := fun i hi => Below.heap_setCell w _ _ i hi
  { h with
    rb := h.rb.one h.wk h.wbX (by decide) (by rw [World.size_setCell]; exact Nat.le_refl _) (fun i _ hi => hs i hi)
    wk := (blk_set h.wk 11 _).trans rfl
    va := (hs _ (Ne.symm h.ne)).trans h.va
    sk := jown_blk h.sk (fun g hg => hs g (fun e => own_ne h.sk h.wk (by decide) (by rw [hg, e]))) }
/-- the values turn -/
theorem RS.vals {w' : World} {L' : List Int} (h : RS E X w L k sv st) (hg : w.grownBy w' (some E.vb)) (hv : w'.heap[E.vb]? = some (.cells (uvs L') 23 (0, 0))) (hl : L'.length = L.length) (h32 : u32s L') (hc : chain L' (st.map (·.1))) : RS E X w' L' k sv st :=
  have hs : ∀ i, i < w.heap.size → i ≠ E.vb → w'.heap[i]? = w.heap[i]? := fun i hi hn => hg.block i hi (fun e => hn (by injection e))
  { h with
    rb := h.rb.one h.va h.vbX (by decide) hg.size hs
    wk := (hs _ h.wlt h.ne).trans h.wk
    va := hv
    vlen := hl.trans h.vlen
    v32 := h32
    sk := jown_blk h.sk (fun g hg => hs g (h.lt _ (h.skX g hg)) (fun e => own_ne h.sk h.va (by decide) (by rw [hg, e])))
    ch := hc }
end
end Go.Proofs.Ytkgkkbfpkgfcaaa

namespace Go.Proofs.Ytkgkkbfpkgfcaaa
set_option maxRecDepth 100000
open Go.RowKit Go.Maps
set_option linter.unusedVariables false
set_option linter.unusedSimpArgs false

theorem stepRows_rok {Z : Zone} {w : World} {tb : Nat} {T : TS} {D : TabD} (ht : IsT Z w tb T D) (L : List Int) (s : StepT) (fr tu b : Int) : ∀ r ∈ stepRows T L s fr tu b, rok r := by
  intro r hr
  simp only [stepRows, List.mem_map] at hr
  obtain ⟨c, hc, rfl⟩ := hr
  have hl : c < T.length := by
    simp only [mlist, candP, List.mem_filter, List.mem_range] at hc
    exact hc.1.1
  rw [rowOf_get T c hl]
  exact (ht.oks _ (List.getElem_mem hl)).1
theorem look_rok {L : List Int} (h : u32s L) {s : StepT} (hi : is32 s.r0.2 ∧ is32 s.r1.2 ∧ is32 s.r2.2) : rok (lookP L s) := ⟨plVal_32 h hi.1, plVal_32 h hi.2.1, plVal_32 h hi.2.2⟩
section
variable {E : RunE} {X : Nat → Prop} {w : World} {L : List Int} {k : Int} {sv : Value} {st : List LevV}
/-- the last level, as it lies in the stack -/
theorem RS.top {y : LevV} (h : RS E X w L k sv (st ++ [y])) : ∃ g cap, sv = .slice (some ⟨g, 0, none⟩) (st.length + 1) cap ∧ X g ∧ g ≠ E.vb ∧ g ≠ E.wb ∧ st.length + 1 ≤ cap ∧ cap ≤ maxLen ∧
    (w.cell? ⟨g, st.length * 3, none⟩ = some (.int .i64 (y.1.i : Nat)) ∧ w.cell? ⟨g, st.length * 3 + 1, none⟩ = some y.2.1 ∧ w.cell? ⟨g, st.length * 3 + 2, none⟩ = some y.2.2) ∧ w.frozen? ⟨g, st.length * 3 + 1, none⟩ = false := by
  have hsk := h.sk
  rw [List.length_append, List.length_singleton] at hsk
  rcases own_cellsJ hsk with ⟨_, h0⟩ | ⟨g, cap, hv, h1, h2, h3, ⟨cur, h4, h5⟩, h6⟩
  · omega
  · refine ⟨g, cap, hv, h.skX g (by rw [hv]; rfl), blk_typ h4 h.va (by decide), blk_typ h4 h.wk (by decide), h2, h3, ?_⟩
    rw [lvCells_snoc] at h6
    have e : ∀ j, j < 3 → (lvCells st ++ [Value.int .i64 (y.1.i : Nat), y.2.1, y.2.2])[st.length * 3 + j]? = [Value.int .i64 (y.1.i : Nat), y.2.1, y.2.2][j]? := by
      intro j hj
      rw [List.getElem?_append_right (by rw [lvCells_len]; omega), lvCells_len]
      congr 1
      omega
    exact ⟨⟨(h6 _ _ (e 0 (by omega))).1, (h6 _ _ (e 1 (by omega))).1, (h6 _ _ (e 2 (by omega))).1⟩, (h6 _ _ (e 1 (by omega))).2⟩
theorem own_setJ {B e size n : Nat} {g cap : Nat} {xs : List Value} (h : w.ownsRow B e size (.slice (some ⟨g, 0, none⟩) n cap) n xs) (j : Nat) (hj : j < n * size) (u : Value) : (w.setCell ⟨g, j, none⟩ u).ownsRow B e size (.slice (some ⟨g, 0, none⟩) n cap) n (xs.set j u) := by
  refine ⟨by rw [List.length_set]; exact h.1, ?_⟩
  rcases h.2 with ⟨h', _⟩ | ⟨g', cap', cur, h0, h1, h2, h3, h4, h5, h6⟩
  · cases h'
  · injection h0 with h0 _ h0'
    injection h0 with h0
    injection h0 with h0
    subst h0 h0'
    refine .inr ⟨g, cap, cur.setIfInBounds j u, rfl, h1, blk_set h2 j u, h3, h4, by simpa using h5, ?_⟩
    rw [Array.toList_setIfInBounds, List.take_set]
    rw [h6]
/-- a row is taken off the last level -/
theorem RS.adv {y : LevV} {r : R3} {t : List R3} (h : RS E X w L k sv (st ++ [y])) (hy : y.1.rows = r :: t) {g cap : Nat} (hg : sv = .slice (some ⟨g, 0, none⟩) (st.length + 1) cap) {a : Option Addr} {c : Nat} (hr : y.2.1 = .slice a (t.length + 1) c) :
    RS E X (w.setCell ⟨g, st.length * 3 + 1, none⟩ (.slice (if c = 1 then a else a.map (·.add 3)) t.length (c - 1))) L k sv (st ++ [({ y.1 with rows := t }, .slice (if c = 1 then a else a.map (·.add 3)) t.length (c - 1), y.2.2)]) := by
  obtain ⟨g', cap', hv, hX, hvb, hwb, -, -, -, -⟩ := h.top
  rw [hg] at hv
  injection hv with hv _ _
  injection hv with hv
  injection hv with hv
  subst hv
  obtain ⟨_, cur, fz, hb⟩ := own_ltJ h.sk g (by rw [hg]; rfl)
  have hs : ∀ i, i ≠ g → (w.setCell ⟨g, st.length * 3 + 1, none⟩ (.slice (if c = 1 then a else a.map (·.add 3)) t.length (c - 1))).heap[i]? = w.heap[i]? := fun i hi => Below.heap_setCell w _ _ i hi
  have hrb := h.rb.one hb hX (by decide) (B := w.setCell ⟨g, st.length * 3 + 1, none⟩ (.slice (if c = 1 then a else a.map (·.add 3)) t.length (c - 1))) (by rw [World.size_setCell]; exact Nat.le_refl _) (fun i _ hi => hs i hi)
  have hlev := hrb.lev y (by simp)
  have hrows := hlev.rows
  rw [hr, hy] at hrows
  refine { h with
    rb := { hrb with lev := fun z hz => ?_ }
    wk := (hs _ (Ne.symm hwb)).trans h.wk
    va := (hs _ (Ne.symm hvb)).trans h.va
    sk := ?_
    ch := ?_ }
  · simp only [List.mem_append, List.mem_singleton] at hz
    rcases hz with hz | rfl
    · exact hrb.lev z (by simp [hz])
    · exact { rows := hrows.tail, own := hlev.own, step := hlev.step, len := hlev.len, b32 := hlev.b32, ownEq := hlev.ownEq, rok := fun r' hr' => hlev.rok r' (by rw [hy]; exact List.mem_cons_of_mem _ hr'), kind := hlev.kind }
  · have hsk := h.sk
    rw [List.length_append, List.length_singleton, lvCells_snoc, hg] at hsk
    rw [List.length_append, List.length_singleton, lvCells_snoc, hg]
    have := own_setJ hsk (st.length * 3 + 1) (by omega) (.slice (if c = 1 then a else a.map (·.add 3)) t.length (c - 1))
    rw [List.set_append_right _ _ (by rw [lvCells_len]; omega), lvCells_len, show st.length * 3 + 1 - st.length * 3 = 1 by omega] at this
    exact this
  · have := h.ch
    rw [List.map_append, List.map_singleton, chain_snoc] at this ⊢
    exact this
theorem own_popJ {B e size n : Nat} {g cap : Nat} {xs ys : List Value} (h : w.ownsRow B e size (.slice (some ⟨g, 0, none⟩) (n + 1) cap) (n + 1) (xs ++ ys)) (hx : xs.length = n * size) : w.ownsRow B e size (.slice (some ⟨g, 0, none⟩) n cap) n xs := by
  refine ⟨hx, ?_⟩
  rcases h.2 with ⟨h', _⟩ | ⟨g', cap', cur, h0, h1, h2, h3, h4, h5, h6⟩
  · cases h'
  · injection h0 with h0 _ h0'
    injection h0 with h0
    injection h0 with h0
    subst h0 h0'
    refine .inr ⟨g, cap, cur, rfl, h1, h2, by omega, h4, h5, ?_⟩
    have := congrArg (List.take (n * size)) h6
    have e : List.take (n * size) (xs ++ ys) = xs := by rw [← hx]; exact List.take_left
    rw [List.take_take, Nat.min_eq_left (Nat.mul_le_mul_right _ (by omega)), e] at this
    exact this
/-- the last level goes -/
theorem RS.pop {y : LevV} (h : RS E X w L k sv (st ++ [y])) {g cap : Nat} (hg : sv = .slice (some ⟨g, 0, none⟩) (st.length + 1) cap) (hL : L = y.1.base) : RS E X w L k (.slice (some ⟨g, 0, none⟩) st.length cap) st := by
  have hsk := h.sk
  rw [List.length_append, List.length_singleton, lvCells_snoc, hg] at hsk
  have hch := h.ch
  rw [List.map_append, List.map_singleton, chain_snoc] at hch
  exact { h with
    rb := { h.rb with lev := fun z hz => h.rb.lev z (by simp [hz]) }
    sk := own_popJ hsk (lvCells_len st)
    skX := fun g' hg' => h.skX g' (by rw [hg]; exact hg')
    ch := by rw [hL]; exact hch.2 }
/-- a level comes -/
theorem RS.push {X' : Nat → Prop} {W1 W2 : World} {sv' : Value} {i : Nat} {s : StepT} {v : Vw} {rs os : Value} {rows : List R3} (h : RS E X w L k sv st) (hb : Below w.heap.size w W1)
    (hr : W1.ownsRow w.heap.size 58 3 rs rows.length (rws rows)) (ho : W1.ownsRow w.heap.size 3 1 os (ownOf L s).length (ics (ownOf L s)))
    (h2 : W2.ownsRow E.wt.heap.size 102 3 sv' (st.length + 1) (lvCells st ++ [.int .i64 (i : Nat), rs, os])) (hg : W1.grownBy W2 sv.ownBlock) (hw : sv'.ownBlock = sv.ownBlock ∨ sv'.ownBlock = some W1.heap.size)
    (hX' : ∀ j, X' j ↔ X j ∨ (w.heap.size ≤ j ∧ j < W2.heap.size)) (hs : E.ss[i]? = some (s, v)) (hrk : ∀ r ∈ rows, rok r) (hkd : s.kind = 1) :
    RS E X' W2 L k sv' (st ++ [({ i := i, s := s, base := L, own := ownOf L s, rows := rows }, rs, os)]) ∧ GrX X w W2 := by
  have hsz := hb.size
  have hsz2 := hg.size
  have h1 := h.below hb
  have hne : ∀ {b : Nat} {c : Array Value} {t : TypeId} {f : Nat × Nat}, W1.heap[b]? = some (Obj.cells c t f) → t ≠ 102 → some b ≠ sv.ownBlock := fun hc ht e => own_ne h1.sk hc ht e.symm
  have hlow : ∀ j, j < E.wt.heap.size → W2.heap[j]? = W1.heap[j]? := by
    intro j hj
    refine hg.block j (by have := h1.rb.lows; omega) (fun e => ?_)
    obtain ⟨h3, _⟩ := own_ltJ h1.sk j e.symm
    omega
  have hsame : ∀ (j : Nat) (cur : Array Value) (t : TypeId) (fz : Nat × Nat), W1.heap[j]? = some (Obj.cells cur t fz) → t ≠ 102 → W2.heap[j]? = W1.heap[j]? := fun j cur t fz hc ht => hg.block j (Array.getElem?_eq_some_iff.1 hc).1 (hne hc ht)
  have hXlt : ∀ j, X' j → E.wt.heap.size ≤ j ∧ j < W2.heap.size := by
    intro j hj
    rcases (hX' j).1 hj with h3 | ⟨h3, h4⟩
    · have := h.rb.xs j h3
      omega
    · have := h.rb.lows
      omega
  have hrb : RB E X' W2 st := h1.rb.turn (fun j hj => (hX' j).2 (.inl hj)) hXlt hsz2 hlow (fun j cur t fz _ hc ht => hsame j cur t fz hc (by rcases ht with rfl | rfl | rfl <;> decide))
  have hnew : ∀ j, w.heap.size ≤ j → j < W1.heap.size → X' j := fun j h3 h4 => (hX' j).2 (.inr ⟨h3, by omega⟩)
  have hra := (RowsAt.of hr hnew).keep (fun _ h => h) (fun j cur fz _ hc => hsame j cur _ fz hc (by decide))
  have hoa := (OwnAt.of ho hnew).keep (fun _ h => h) hsz2 (fun j cur fz _ hc => hsame j cur _ fz hc (by decide))
  refine ⟨{
    rb := { hrb with lev := fun z hz => ?_ }
    wk := (hsame _ _ _ _ h1.wk (by decide)).trans h1.wk
    wbX := (hX' _).2 (.inl h.wbX)
    va := (hsame _ _ _ _ h1.va (by decide)).trans h1.va
    vbX := (hX' _).2 (.inl h.vbX)
    vlen := h.vlen
    v32 := h.v32
    sk := ?_
    skX := fun g hgs => ?_
    ch := ?_ }, ?_⟩
  · simp only [List.mem_append, List.mem_singleton] at hz
    rcases hz with hz | rfl
    · exact hrb.lev z hz
    · exact { rows := hra, own := hoa, step := ⟨v, hs⟩, len := h.vlen, b32 := h.v32, ownEq := rfl, rok := hrk, kind := hkd }
  · rw [List.length_append, List.length_singleton, lvCells_snoc]
    exact h2
  · refine (hX' g).2 ?_
    rcases hw with e | e
    · exact .inl (h.skX g (e ▸ hgs))
    · rw [e] at hgs
      injection hgs with hgs
      obtain ⟨_, cur, fz, hc⟩ := own_ltJ h2 g (by rw [e, hgs])
      have := (Array.getElem?_eq_some_iff.1 hc).1
      exact .inr ⟨by omega, this⟩
  · rw [List.map_append, List.map_singleton, chain_snoc]
    exact ⟨zeroOwn_own L s, h.ch⟩
  · refine ⟨hg.os.trans hb.os, hg.tape.trans hb.tape, hg.output.trans hb.output, by omega, fun j hj hn => ?_⟩
    refine (hg.block j (by omega) (fun e => hn (h.skX j e.symm))).trans (hb.block j hj)
theorem zeroOwn_idem (own : List Nat) (j : Nat) (L : List Int) : zeroOwn own (zeroOwn (own.take j) L) = zeroOwn own L := by
  refine List.ext_getElem? (fun v => ?_)
  simp only [zeroOwn_get]
  by_cases h1 : v ∈ own
  · simp only [h1, if_true]
    by_cases h2 : v ∈ own.take j
    · simp only [h2, if_true, Option.map_map]; rfl
    · simp only [h2, if_false]
  · have h2 : v ∉ own.take j := fun h => h1 (List.mem_of_mem_take h)
    simp only [h1, h2, if_false]
end
theorem run_pop (g m cap : Nat) (hc : m + 1 ≤ cap) (w : World) : (Instr.slice 98 (.slice (some ⟨g, 0, none⟩) (m + 1) cap) none (some (.int .i64 (m : Nat))) none).run Try.prog w = .ok (.slice (some ⟨g, 0, none⟩) m cap) w := by
  have h1 : (m : Int) ≤ (cap : Int) := by omega
  have h2 : ¬ cap = 0 := by omega
  unfold Instr.slice
  go_simp
theorem run_tail (a : Option Addr) (n cap : Nat) (hc : n + 1 ≤ cap) (w : World) : (Instr.slice 68 (.slice a (n + 1) cap) (some (.int .i64 1)) none none).run Try.prog w = .ok (.slice (if cap = 1 then a else a.map (·.add 3)) n (cap - 1)) w := by
  unfold Instr.slice
  go_simp
  simp [Addr.add]
  intro h
  omega
theorem jeql_slice_nil {P : Program} (w : World) (t e : TypeId) (a : Option Addr) (n c : Nat) (h : P.underlying t = some (.slice e)) :
    (binOp .eql t (.slice a n c) (.slice none 0 0)).run P w = .ok (.bool a.isNone) w := by
  simp only [binOp]
  simp [run_equal_slice_nil w t e a n c h]
theorem jown_empty (w : World) (e size : Nat) : (w.alloc (.cells #[] e)).ownsRow w.heap.size e size (.slice (some ⟨w.heap.size, 0, none⟩) 0 0) 0 [] :=
  ⟨by simp, .inr ⟨w.heap.size, 0, #[], rfl, Nat.le_refl _, World.alloc_heap_new _ _, Nat.le_refl _, Nat.zero_le _, by simp, by simp⟩⟩
theorem uvs_size (L : List Int) : (uvs L).size = L.length := by simp [uvs]
theorem uvs_list (L : List Int) : (uvs L).toList = L.map (fun x : Int => Value.int .u32 x) := by simp [uvs]
set_option maxRecDepth 100000 in
theorem clone_vals {w : World} {vb : Nat} {L : List Int} (h : w.heap[vb]? = some (.cells (uvs L) 23 (0, 0))) (hn : L.length ≤ 1000000) :
    Calls Try.prog 32 #[.slice (some ⟨vb, 0, none⟩) L.length L.length] w fun e w' => ∃ v', e = .returned v' ∧ IsOut w.heap.size w' v' L ∧ Below w.heap.size w w' := by
  obtain ⟨i0, hi0, hz0, hz1, hz2⟩ := info_parts Try.info32
  have Hi := Lib.hid hi0; have Hz0 := Lib.hid hz0; have Hz1 := Lib.hid hz1; have Hz2 := Lib.hid hz2
  obtain ⟨n, hnn⟩ : ∃ n, L.length = n := ⟨_, rfl⟩
  obtain ⟨W1, hW1⟩ : ∃ W1, W1 = w.alloc (.cells #[] 23) := ⟨_, rfl⟩
  have hb1 : Below w.heap.size w W1 := by rw [hW1]; exact (Below.refl _ w).alloc (Nat.le_refl _) _
  have hc : ∀ j u, (uvs L).toList[j]? = some u → W1.cell? ((⟨vb, 0, none⟩ : Addr).add j) = some u := by
    intro j u hj
    rw [show (⟨vb, 0, none⟩ : Addr).add j = ⟨vb, j, none⟩ by unfold Addr.add; split <;> simp_all]
    refine cell_later hb1 ?_
    unfold World.cell?
    rw [h]
    simpa using hj
  have Hc := Lib.hid hc; have HW1 := Lib.hid hW1; have Hn := Lib.hid hnn
  have hq := jeql_slice_nil w 51 _ (some ⟨vb, 0, none⟩) n n Try.underlying51
  rw [hnn] at hn ⊢
  have HA := Lib.hid hb1
  clear hi0 hz0 hz1 hz2 h hc hb1 hW1 hnn
  go_enter Try.func32, Try.ntmps32
  go_wp2_with (at_builtin; rw [← HW1.out]; refine wpList_append_own_at _ rfl _ _ 51 rfl w.heap.size 23 i0 (.int .u32 0) 1 4 Try.underlying51 Hi.out Hz0.out Hz1.out Hz2.out rfl (by decide) _ _ _ rfl (by rw [HW1.out]; exact jown_empty w _ _) ⟨vb, 0, none⟩ n n (uvs L).toList rfl (by have := Hn.out; simp [uvs]; omega) Hc.out (by simp [uvs, Value.oneCell']) (by unfold maxLen; omega) (by omega) HA.out.size ?_; intro v' w4 hown' hgrow _ hwh; have Hown' := Lib.hid hown'; have Hgrow := Lib.hid hgrow; clear hown' hgrow hwh)
  go_ret
  refine ⟨_, rfl, ?_, HA.out.grown Hgrow.out HA.out.size (fun j hj => by injection hj with hj; first | exact Nat.le_of_eq hj | exact Nat.le_of_eq hj.symm)⟩
  have := Hown'.out
  rw [← Hn.out] at this
  simpa [IsOut] using this
end Go.Proofs.Ytkgkkbfpkgfcaaa
