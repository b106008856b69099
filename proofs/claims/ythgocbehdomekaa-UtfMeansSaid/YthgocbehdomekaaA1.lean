/- May, size, head, num: what these small functions of layer 1 return, for every number. -/
import Derived.Test.YthgocbehdomekaaRows
import Derived.Test.YthgocbehdomekaaPlain
import Derived.WalkKit
import Derived.WalkSpells
import Derived.WalkLawsBesides
namespace Go.Proofs.Ythgocbehdomekaa
open Go.RowKit Plain

theorem ret2 {k k' : IntKind} {a b a' b' : Int} (h : a = a') (h' : b = b') : Ending.returned (.tuple #[.int k a, .int k' b]) = .returned (.tuple #[.int k a', .int k' b']) := by rw [h, h']
theorem retB {a a' : Bool} (h : a = a') : Ending.returned (.bool a) = .returned (.bool a') := by rw [h]
theorem retI {k : IntKind} {a b : Int} (h : a = b) : Ending.returned (.int k a) = .returned (.int k b) := by rw [h]

set_option maxHeartbeats 400000 in
theorem head_any (c : Int) (h0 : 0 ≤ c) (h1 : c ≤ 255) (w : World) :
    Calls Try.prog 23 #[.int .u8 c] w fun e w' => e = .returned (.tuple #[.int .i64 (headR c), .int .i64 (headM c)]) ∧ w = w' := by
  go_enter Try.func23, Try.ntmps23
  go_wp2
  all_goals go_ret2
  all_goals exact ⟨ret2 (by unfold headR; (repeat' split) <;> omega) (by unfold headM; (repeat' split) <;> omega), rfl⟩

theorem byte_le (c : UInt8) : (c.toNat : Int) ≤ 255 := by have := c.toNat_lt; omega
theorem byte_ge (c : UInt8) : 0 ≤ (c.toNat : Int) := by omega
theorem head_byte (c : UInt8) (w : World) :
    Calls Try.prog 23 #[.int .u8 c.toNat] w fun e w' => e = .returned (.tuple #[.int .i64 (headR c.toNat), .int .i64 (headM c.toNat)]) ∧ w = w' := head_any _ (byte_ge c) (byte_le c) w

set_option maxHeartbeats 400000 in
theorem may_any (r : Int) (w : World) :
    Calls Try.prog 21 #[.int .i64 r] w fun e w' => e = .returned (.bool (mayB r)) ∧ w = w' := by
  go_enter Try.func21, Try.ntmps21
  go_wp2
  all_goals go_ret
  all_goals exact ⟨retB (by unfold mayB; rw [Bool.eq_iff_iff]; simp; try omega), rfl⟩

set_option maxHeartbeats 400000 in
theorem rmay_any (r : Int) (w : World) :
    Calls Try.prog 13 #[.int .i64 r] w fun e w' => e = .returned (.bool (mayB r)) ∧ w = w' := by
  go_enter Try.func13, Try.ntmps13
  go_wp2
  all_goals go_ret
  all_goals exact ⟨retB (by unfold mayB; rw [Bool.eq_iff_iff]; simp; try omega), rfl⟩

set_option maxHeartbeats 400000 in
theorem size_any (r : Int) (w : World) :
    Calls Try.prog 22 #[.int .i64 r] w fun e w' => e = .returned (.int .i64 (sizeN r)) ∧ w = w' := by
  go_enter Try.func22, Try.ntmps22
  go_wp2
  all_goals go_ret
  all_goals exact ⟨retI (by unfold sizeN; (repeat' split) <;> omega), rfl⟩

set_option maxHeartbeats 400000 in
theorem num_any (r : Int) (w : World) :
    Calls Try.prog 12 #[.int .i64 r] w fun e w' => e = .returned (.int .i64 r) ∧ w = w' := by
  go_enter Try.func12, Try.ntmps12
  go_wp2
  go_ret
  exact ⟨rfl, rfl⟩

end Go.Proofs.Ythgocbehdomekaa
