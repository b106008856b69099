/- Layer 14: the reference's way through a plan, in plain words. -/
import Derived.Test.YtkgkkbfpkgfcaaaJ28
namespace Go.Proofs.Ytkgkkbfpkgfcaaa
set_option maxRecDepth 100000
open Go.RowKit Go.Maps
set_option linter.unusedVariables false
set_option linter.unusedSimpArgs false

/-- the reference binds on, whatever it has met; is it good all the way? -/
def rbindP : List (Pl × Int) → Bool × List Int → Bool × List Int
  | [], q => q
  | (x, y) :: t, (g, c) => if x.1 < 0 then rbindP t (g, c) else
    let c1 := if c.getD x.1.toNat 0 = 0 then c.set x.1.toNat y else c
    rbindP t (g && decide (c1.getD x.1.toNat 0 = y), c1)
theorem rbindP_bad : ∀ (ps : List (Pl × Int)) (c : List Int), (rbindP ps (false, c)).1 = false
  | [], _ => rfl
  | (x, y) :: t, c => by
    unfold rbindP
    split
    · exact rbindP_bad t c
    · simp only [Bool.false_and]
      exact rbindP_bad t _
theorem rbindP_bind : ∀ (ps : List (Pl × Int)) (c : List Int), (rbindP ps (true, c)).1 = (bindP ps c).1 ∧ ((bindP ps c).1 = true → (rbindP ps (true, c)).2 = (bindP ps c).2)
  | [], _ => ⟨rfl, fun _ => rfl⟩
  | (x, y) :: t, c => by
    unfold rbindP bindP
    split
    · exact rbindP_bind t c
    · have key : ∀ c1 : List Int, (rbindP t (true && decide (c1.getD x.1.toNat 0 = y), c1)).1 = (if c1.getD x.1.toNat 0 = y then bindP t c1 else (false, c1)).1 ∧ ((if c1.getD x.1.toNat 0 = y then bindP t c1 else (false, c1)).1 = true → (rbindP t (true && decide (c1.getD x.1.toNat 0 = y), c1)).2 = (if c1.getD x.1.toNat 0 = y then bindP t c1 else (false, c1)).2) := by
        intro c1
        by_cases h : c1.getD x.1.toNat 0 = y
        · rw [if_pos h, decide_eq_true h]
          exact rbindP_bind t c1
        · rw [if_neg h, decide_eq_false h]
          exact ⟨rbindP_bad t c1, fun h => by cases h⟩
      exact key _
/-- the view at a match -/
def viewAt (d : Vw) (views : List Vw) (m : Nat) : Vw := views.getD m d
theorem extV_cons (d : Vw) (s : StepT) (t : List StepT) (views : List Vw) (m : Nat) : extV d (s :: t) (views.drop m) = if s.kind = 1 then viewAt d views m :: extV d t (views.drop (m + 1)) else d :: extV d t (views.drop m) := by
  rw [extV]
  by_cases hk : s.kind = 1
  · rw [if_pos hk, if_pos hk, List.tail_drop]
    congr 1
    unfold viewAt
    rw [List.headD_eq_head?_getD, List.head?_drop, List.getD_eq_getElem?_getD]
  · rw [if_neg hk, if_neg hk]
end Go.Proofs.Ytkgkkbfpkgfcaaa
