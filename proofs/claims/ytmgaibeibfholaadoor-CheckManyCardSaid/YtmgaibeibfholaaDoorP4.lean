/- IRIs and values: walked, of the program and of the reference. -/
import Derived.Test.YtmgaibeibfholaaDoorP3
import Derived.Test.YtmgaibeibfholaaDoorU5
import Derived.Lib.Strings
import Derived.Lib.Slices
import Derived.Lib.Walk
import Derived.Lib.Bytealg
namespace Go.Proofs.YtmgaibeibfholaaDoor
set_option maxRecDepth 100000
open Go.RowKit Go.Shelf Plain
set_option linter.unusedVariables false
attribute [local go_sem] Oper.semAt_some

set_option maxHeartbeats 1000000 in
set_option maxRecDepth 100000 in
theorem liteIndexByte_any (s : ByteArray) (c : Int) (w : World) :
    Calls Tryd.prog 68 #[.string s, .int .u8 c] w fun e w' => e = .returned (.int .i64 (Lib.indexByte s.data.toList c.toNat.toUInt8)) ∧ w' = w := by
  go_enter Tryd.func68, Tryd.ntmps68
  go_wp2
  rw [run_callFunc_extern Tryd.func74 (by kernel_rfl) (by kernel_rfl) (by kernel_rfl) (e := Extern.BytealgIndexByte.indexByte) (by kernel_rfl), Lib.run_indexByteString]
  simp only [Result.andThen]
  rw [Oper.upon_value]
  go_wp2
  go_ret
  exact ⟨rfl, rfl⟩
set_option maxHeartbeats 1000000 in
theorem indexByte_any (s : ByteArray) (c : Int) (r : Int) (hr : Lib.indexByte s.data.toList c.toNat.toUInt8 = r) (w : World) :
    Calls Tryd.prog 60 #[.string s, .int .u8 c] w fun e w' => e = .returned (.int .i64 r) ∧ w' = w := by
  subst hr
  go_enter Tryd.func60, Tryd.ntmps60
  go_wp2_with (go_at_call 68; refine (liteIndexByte_any _ _ _).mono ?_; rintro e w' ⟨rfl, rfl⟩)
  go_ret
  exact ⟨rfl, rfl⟩
def badS : ByteArray := ⟨#[60, 62, 34, 123, 125, 124, 94, 96, 92]⟩
theorem badS_iff (c : Int) (h0 : 32 < c) (h1 : c < 128) : 0 ≤ Lib.indexByte badS.data.toList c.toNat.toUInt8 ↔ ¬ okc c := by
  have key : ∀ n : Fin 128, 32 < n.val → (0 ≤ Lib.indexByte badS.data.toList n.val.toUInt8 ↔ ¬ okc (n.val : Int)) := by decide +kernel
  have := key ⟨c.toNat, by omega⟩ (by simp; omega)
  simp only at this
  rw [this]
  rw [show ((c.toNat : Nat) : Int) = c by omega]

theorem valid_any (s : ByteArray) (hs : s.size ≤ 100000000) (b : Bool) (hb : vlB s = b) (w : World) :
    Calls Tryd.prog 58 #[.string s] w fun e w' => e = .returned (.bool b) ∧ Below w.heap.size w w' := by
  subst hb; exact callsIn_wide.1 (valid_in s hs w)
set_option maxHeartbeats 400000 in
theorem rvalid_any (s : ByteArray) (hs : s.size ≤ 100000000) (b : Bool) (hb : vlB s = b) (w : World) :
    Calls Tryd.prog 42 #[.string s] w fun e w' => e = .returned (.bool b) ∧ Below w.heap.size w w' := by
  go_enter Tryd.func42, Tryd.ntmps42
  go_wp2_with fail
  refine (rrunes_any s hs w).mono ?_
  rintro e w' ⟨v, rfl, _, hB⟩
  have HB := Lib.hid hB; clear hB
  go_wp2
  go_ret
  refine ⟨retB ?_, HB.out⟩
  subst hb
  unfold vlB
  rw [Bool.eq_iff_iff]; simp; omega

set_option maxHeartbeats 1000000 in
theorem value_any (s : ByteArray) (b : Bool) (hb : valB s = b) (w : World) :
    Calls Tryd.prog 52 #[.string s] w fun e w' => e = .returned (.bool b) ∧ Below w.heap.size w w' := by
  by_cases h : s.size ≤ 4000
  · have hv : vlB s = b := by rw [← hb]; unfold valB; rw [decide_eq_true h]; rfl
    have Hv := Lib.hid hv; clear hv hb
    have g1 : decide ((s.size : Int) ≤ 4000) = true := decide_eq_true (by omega)
    go_enter Tryd.func52, Tryd.ntmps52
    go_wp2_with (go_at_call 58; refine (valid_any s (by omega) b Hv.out _).mono ?_; rintro e w' ⟨rfl, hB⟩; have HB := Lib.hid hB; clear hB)
    go_ret
    exact ⟨rfl, HB.out⟩
  · have hv : b = false := by rw [← hb]; unfold valB; rw [decide_eq_false h]; rfl
    subst hv; clear hb
    have g1 : decide ((s.size : Int) ≤ 4000) = false := decide_eq_false (by omega)
    go_enter Tryd.func52, Tryd.ntmps52
    go_wp2
    all_goals (go_ret; exact ⟨rfl, Below.refl _ _⟩)
end Go.Proofs.YtmgaibeibfholaaDoor
