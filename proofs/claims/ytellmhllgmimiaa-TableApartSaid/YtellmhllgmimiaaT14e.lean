/- Two rows are the same. -/
import Derived.Test.YtellmhllgmimiaaT13
import Derived.ChangeKeysEq
namespace Go.Proofs.Ytellmhllgmimiaa
open Go.RowKit Go.Maps
set_option linter.unusedVariables false
set_option linter.unusedSimpArgs false
theorem Try.info32 : (Try.prog.info? 23).map (fun i => (i.zero, i.size, i.bytes)) = some (some (.int .u32 0), 1, 4) := by kernel_rfl
theorem Try.cells32 : Try.prog.cellsOf 23 = 1 := by kernel_rfl
theorem eq32 (a b : Int) (w : World) (d : Nat) : (Op.equalIn (d + 1) 23 (.int .u32 a) (.int .u32 b)).run Try.prog w = .ok (a == b) w := by
  simp [Op.equalIn, run_underlying Try.underlying23, Result.andThen]
theorem part32 (a0 a1 a2 : Int) (w : World) :
    (Go.part 23 #[.int .u32 a0, .int .u32 a1, .int .u32 a2] 0).run Try.prog w = .ok (.int .u32 a0) w ∧
    (Go.part 23 #[.int .u32 a0, .int .u32 a1, .int .u32 a2] 1).run Try.prog w = .ok (.int .u32 a1) w ∧
    (Go.part 23 #[.int .u32 a0, .int .u32 a1, .int .u32 a2] 2).run Try.prog w = .ok (.int .u32 a2) w := ⟨by rfl, by rfl, by rfl⟩
theorem eqRow (a0 a1 a2 b0 b1 b2 : Int) (w : World) :
    (Op.equalIn 10000 25 (.agg #[.int .u32 a0, .int .u32 a1, .int .u32 a2]) (.agg #[.int .u32 b0, .int .u32 b1, .int .u32 b2])).run Try.prog w = .ok (a0 == b0 && (a1 == b1 && a2 == b2)) w := by
  obtain ⟨i, hi, _⟩ := info_parts Try.info32
  rw [run_equalIn_array w 9999 _ _ Try.underlying25 hi, Try.cells32]
  obtain ⟨p0, p1, p2⟩ := part32 a0 a1 a2 w
  obtain ⟨q0, q1, q2⟩ := part32 b0 b1 b2 w
  simp only [show List.range 3 = [0, 1, 2] from rfl, Op.eqItems, Sem.run_bind, Nat.mul_one, p0, p1, p2, q0, q1, q2, Result.andThen_ok, eq32 _ _ _ 9998]
  cases h0 : (a0 == b0) <;> cases h1 : (a1 == b1) <;> cases h2 : (a2 == b2) <;> simp [Sem.run_bind, Result.andThen, q1, q2, p1, p2, eq32 _ _ _ 9998, h0, h1, h2]
end Go.Proofs.Ytellmhllgmimiaa
