/- Utf.Put and the reference Put of every rune. -/
import Derived.Test.YthgocbehdomekaaA3
import Derived.Test.YthgocbehdomekaaPure
namespace Go.Proofs.Ythgocbehdomekaa
open Go.RowKit Plain
set_option linter.unusedVariables false

set_option maxRecDepth 100000 in
set_option maxHeartbeats 1000000 in
theorem put_1 (r : Int) (h1 : 0 ≤ r) (h2 : r < 128) (hm : mayB r = true) (w : World) : Calls Try.prog 9 #[.int .i64 r] w (PutPost w [r]) := by
  have H := Lib.hid hm; clear hm
  have HS := Lib.hid (show sizeN r = 1 by unfold sizeN; (repeat' split) <;> omega)
  go_enter Try.func9, Try.ntmps9
  go_wp2_with (first | (go_at_call 21; refine (may_yes _ H.out _).mono ?_; rintro e w' ⟨rfl, rfl⟩) | (go_at_call 22; refine (size_is _ _ HS.out _).mono ?_; rintro e w' ⟨rfl, rfl⟩))
  go_ret2
  refine ⟨_, rfl, ?_, (Below.refl _ w).alloc (Nat.le_refl _) _⟩
  exact World.ownsRow_lit (base := w.heap.size) (e := 5) (size := 1) w #[.int .u8 r] 1 (Nat.le_refl _) (by decide) rfl

theorem put_yes (r : Int) (hm : mayB r = true) (w : World) : Calls Try.prog 9 #[.int .i64 r] w (PutPost w (putL r)) := by
  have hb : 0 ≤ r ∧ r ≤ 1114111 := by unfold mayB at hm; have := of_decide_eq_true hm; omega
  unfold putL
  by_cases c1 : r ≤ 127
  · rw [if_pos c1]; exact put_1 r hb.1 (by omega) hm w
  rw [if_neg c1]
  by_cases c2 : r ≤ 2047
  · rw [if_pos c2]; exact put_2 r (by omega) (by omega) hm w
  rw [if_neg c2]
  by_cases c3 : r ≤ 65535
  · rw [if_pos c3]; exact put_3 r (by omega) (by omega) hm w
  rw [if_neg c3]; exact put_4 r (by omega) (by omega) hm w

def RPutPost (w : World) (xs : List Int) (e : Ending) (w' : World) : Prop := ∃ v, e = .returned v ∧ OwnB w.heap.size w' v xs ∧ Below w.heap.size w w'

set_option maxRecDepth 100000 in
set_option maxHeartbeats 1000000 in
theorem rput_any (r : Int) (h1 : 0 ≤ r) (h2 : r ≤ 1114111) (w : World) : Calls Try.prog 14 #[.int .i64 r] w (RPutPost w (putL r)) := by
  unfold putL
  by_cases c1 : r ≤ 127
  · rw [if_pos c1]
    go_enter Try.func14, Try.ntmps14
    go_wp2
    go_ret
    refine ⟨_, rfl, ?_, (Below.refl _ w).alloc (Nat.le_refl _) _⟩
    exact World.ownsRow_lit (base := w.heap.size) (e := 5) (size := 1) w #[.int .u8 r] 1 (Nat.le_refl _) (by decide) rfl
  rw [if_neg c1]
  by_cases c2 : r ≤ 2047
  · rw [if_pos c2]
    go_enter Try.func14, Try.ntmps14
    go_wp2
    go_ret
    refine ⟨_, rfl, ?_, (Below.refl _ w).alloc (Nat.le_refl _) _⟩
    exact World.ownsRow_lit (base := w.heap.size) (e := 5) (size := 1) w #[.int .u8 (192 + r / 64), .int .u8 (128 + r % 64)] 2 (Nat.le_refl _) (by decide) rfl
  rw [if_neg c2]
  by_cases c3 : r ≤ 65535
  · rw [if_pos c3]
    go_enter Try.func14, Try.ntmps14
    go_wp2
    go_ret
    refine ⟨_, rfl, ?_, (Below.refl _ w).alloc (Nat.le_refl _) _⟩
    exact World.ownsRow_lit (base := w.heap.size) (e := 5) (size := 1) w #[.int .u8 (224 + r / 4096), .int .u8 (128 + r / 64 % 64), .int .u8 (128 + r % 64)] 3 (Nat.le_refl _) (by decide) rfl
  rw [if_neg c3]
  go_enter Try.func14, Try.ntmps14
  go_wp2
  go_ret
  refine ⟨_, rfl, ?_, (Below.refl _ w).alloc (Nat.le_refl _) _⟩
  exact World.ownsRow_lit (base := w.heap.size) (e := 5) (size := 1) w #[.int .u8 (240 + r / 262144), .int .u8 (128 + r / 4096 % 64), .int .u8 (128 + r / 64 % 64), .int .u8 (128 + r % 64)] 4 (Nat.le_refl _) (by decide) rfl
end Go.Proofs.Ythgocbehdomekaa
