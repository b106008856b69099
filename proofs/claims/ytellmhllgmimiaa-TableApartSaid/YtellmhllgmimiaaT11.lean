/- Add, whatever the row. -/
import Derived.Test.YtellmhllgmimiaaT10
namespace Go.Proofs.Ytellmhllgmimiaa
open Go.RowKit Go.Maps
set_option linter.unusedVariables false
set_option linter.unusedSimpArgs false

def has0 (r : R3) : Bool := has3 r.1 r.2.1 r.2.2 0
/-- the table behind Add; what Add answers -/
def addT (T : TS) (r : R3) (b : Int) : TS :=
  if b = 0 ∨ has0 r = true then T else match idx T r with
    | some n => setB T n (bits .or .u8 (bitsOf T n) b)
    | none => setB (T ++ [(r, 0)]) T.length (bits .or .u8 0 b)
def addN (T : TS) (r : R3) (b : Int) : Int := if b = 0 ∨ has0 r = true then -1 else match idx T r with
    | some n => n
    | none => T.length
def addB (T : TS) (r : R3) (b : Int) : Bool := if b = 0 ∨ has0 r = true then false else match idx T r with
    | some n => bitsOf T n == 0
    | none => true

section
variable {Z : Zone} {w : World} {tb : Nat} {T : TS} {D : TabD}
theorem add_any (h : IsT Z w tb T D) (hZ : Z.opn w.heap.size) (r : R3) (b : Int) (hr : rok r) (hlen : T.length + 1 ≤ 1000000) :
    Calls Try.prog 9 #[.pointer (some ⟨tb, 0, none⟩), rv r, .int .u8 b] w fun e w' =>
      e = .returned (.tuple #[.int .i64 (addN T r b), .bool (addB T r b)]) ∧ (∃ D', IsT Z w' tb (addT T r b) D') ∧ Fr Z w w' := by
  by_cases hb : b = 0
  · refine (add_zero h r b hb).mono ?_
    rintro e w' ⟨rfl, h2⟩
    have hB := h2
    simp only [addN, addB, addT, if_pos (Or.inl hb : b = 0 ∨ has0 r = true)]
    exact ⟨trivial, ⟨D, h.below hB⟩, .of_below hB⟩
  · by_cases h0 : has0 r = true
    · obtain ⟨x0, x1, x2⟩ := r
      refine (add_has0 h x0 x1 x2 b hb h0).mono ?_
      rintro e w' ⟨rfl, h2⟩
      have hB := h2
      simp only [addN, addB, addT, if_pos (Or.inr h0 : b = 0 ∨ has0 (x0, x1, x2) = true)]
      exact ⟨trivial, ⟨D, h.below hB⟩, .of_below hB⟩
    · have hn : ¬ (b = 0 ∨ has0 r = true) := fun e => e.elim hb h0
      have h0' : has0 r = false := by simpa using h0
      obtain ⟨x0, x1, x2⟩ := r
      cases hi : idx T (x0, x1, x2) with
      | some n =>
        refine (add_old h hZ x0 x1 x2 b hb h0' hr n hi).mono ?_
        rintro e w' ⟨rfl, h1, h2⟩
        simp only [addN, addB, addT, if_neg hn, hi]
        exact ⟨trivial, ⟨D, h1⟩, h2⟩
      | none =>
        refine (callsIn_wide.1 (add_new_in h hZ x0 x1 x2 b hb h0' hr hi hlen)).mono ?_
        rintro e w' ⟨rfl, h1, h2⟩
        simp only [addN, addB, addT, if_neg hn, hi]
        exact ⟨trivial, h1, h2⟩
end
end Go.Proofs.Ytellmhllgmimiaa
