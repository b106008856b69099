/- The small helpers of the sort: how many bits a number has. -/
import Derived.Test.YtghihhjcoilmgaaV1
import Derived.IntWalk
namespace Go.Proofs.Ytghihhjcoilmgaa
set_option maxRecDepth 100000
open Go.RowKit Go.Maps Go.Sort
set_option linter.unusedVariables false
set_option linter.unusedSimpArgs false

theorem ba_get (T : ByteArray) (x : Nat) (h : x < T.size) : T[x]'h = T.data.getD x 0 := by
  show T.data[x]'h = _
  rw [Array.getD_eq_getD_getElem?, Array.getElem?_eq_getElem h]
  rfl
section
variable {w : World}
set_option maxRecDepth 100000 in
set_option maxHeartbeats 4000000 in
theorem len64_u (x : Nat) (hx : x < 256) : Calls Try.prog 64 #[.int .u64 (x : Nat)] w fun e w' => e = .returned (.int .i64 (bitsLen x : Nat)) ∧ w = w' := by
  have h1 : decide ((x : Int) ≥ 4294967296) = false := by simp; omega
  have h2 : decide ((x : Int) ≥ 65536) = false := by simp; omega
  have h3 : decide ((x : Int) ≥ 256) = false := by simp; omega
  have hw : IntKind.u8.wrap (x : Int) = (x : Int) := IntWalk.u8_in _ (by omega)
  go_enter Try.func64, Try.ntmps64
  go_wp2_with fail
  go_ret
  refine ⟨?_, rfl⟩
  refine congrArg (fun z => Ending.returned (.int .i64 z)) ?_
  simp only [ba_get]
  rename_i h9
  clear h1 h2 h3 hw h9
  revert x
  decide +kernel
theorem bitsLen_le {x : Nat} (hx : x < 256) : bitsLen x ≤ 8 := by
  revert x
  decide +kernel
set_option maxHeartbeats 1000000 in
theorem len_u (x : Nat) (hx : x < 256) : Calls Try.prog 53 #[.int .u64 (x : Nat)] w fun e w' => e = .returned (.int .i64 (bitsLen x : Nat)) ∧ w = w' := by
  go_enter Try.func53, Try.ntmps53
  go_wp2_with fail
  refine (len64_u x hx).mono ?_
  rintro e w' ⟨rfl, rfl⟩
  go_wp2_with fail
  go_ret
  exact ⟨rfl, rfl⟩
set_option maxHeartbeats 1000000 in
theorem npot_u (x : Nat) (hx : x < 256) : Calls Try.prog 66 #[.int .i64 (x : Nat)] w fun e w' => e = .returned (.int .u64 ((1 <<< bitsLen x : Nat) : Int)) ∧ w = w' := by
  have hu : IntKind.u64.wrap (x : Int) = (x : Int) := IntWalk.u64_in _ (by omega)
  have hk := bitsLen_le hx
  go_enter Try.func66, Try.ntmps66
  go_wp2_with fail
  refine (len_u x hx).mono ?_
  rintro e w' ⟨rfl, rfl⟩
  obtain ⟨k, hk'⟩ : ∃ k, bitsLen x = k := ⟨_, rfl⟩
  rw [hk'] at hk ⊢
  have Hk := Lib.hid hk'
  clear hk'
  go_wp2_with fail
  go_ret
  refine ⟨?_, rfl⟩
  refine congrArg (fun z => Ending.returned (.int .u64 z)) ?_
  rw [Hk.out]
  clear Hk hu
  revert k
  decide +kernel
end
end Go.Proofs.Ytghihhjcoilmgaa
