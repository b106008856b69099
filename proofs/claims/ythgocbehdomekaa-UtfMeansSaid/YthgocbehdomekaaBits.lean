/- Some bit operations as sums and remainders. -/
import Derived.Laws.BitsLemmas
import Derived.Laws.BitsAllLaws
import Derived.RowKit
import Derived.Test.YthgocbehdomekaaPlain
namespace Go.Proofs.Ythgocbehdomekaa
open Go.RowKit Plain

theorem nat192 : ∀ c : Fin 256, ((c.val &&& 192) != 128) = !(decide (128 ≤ c.val ∧ c.val < 192)) := by decide +kernel
theorem and192 (c : UInt8) : (bits .and .u8 (c.toNat : Int) 192 != 128) = !(decide (cont c.toNat)) := by
  have h := UInt8.toNat_lt c
  have e : bits .and .u8 (c.toNat : Int) 192 = ((c.toNat &&& 192 : Nat) : Int) := u8_and_nat c.toNat 192 (by omega) (by omega)
  rw [e]
  have := nat192 ⟨c.toNat, by omega⟩
  simp only at this
  have e2 : (((c.toNat &&& 192 : Nat) : Int) != 128) = ((c.toNat &&& 192) != 128) := by
    rw [Bool.eq_iff_iff]; simp; omega
  rw [e2, this]; congr 1; rw [decide_eq_decide]; unfold cont; omega
theorem and63 (c : UInt8) : bits .and .u8 (c.toNat : Int) 63 = (c.toNat : Int) % 64 := by
  have h := UInt8.toNat_lt c
  have e : bits .and .u8 (c.toNat : Int) 63 = ((c.toNat &&& 63 : Nat) : Int) := u8_and_nat c.toNat 63 (by omega) (by omega)
  rw [e, nat_mask6]; omega
theorem wraps_i64 (n : Int) (h₀ : 0 ≤ n) (h₁ : n < 2 ^ 63) : IntKind.i64.wrap n = n := by rw [IntKind.wrap_i64]; omega
theorem or64 (a y : Int) (h0 : 0 ≤ a) (h1 : a ≤ 100000000) (h2 : 0 ≤ y) (h3 : y < 64) : bits .or .i64 (wrap64 (a * 64)) (wrap64 y) = a * 64 + y := by
  have e1 : wrap64 (a * 64) = a * 64 := by unfold wrap64; omega
  have e2 : wrap64 y = y := by unfold wrap64; omega
  rw [e1, e2]
  have := bits_join .i64 63 (by decide) wraps_i64 6 (a * 64) y (by omega) (by omega) (by omega) h2 (by omega) (by omega)
  exact this
end Go.Proofs.Ythgocbehdomekaa
