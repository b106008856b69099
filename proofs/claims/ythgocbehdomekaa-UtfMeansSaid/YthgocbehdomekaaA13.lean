/- Known returns true. -/
import Derived.Test.YthgocbehdomekaaA12
namespace Go.Proofs.Ythgocbehdomekaa
open Go.RowKit Go.Shelf Plain
set_option linter.unusedVariables false

/-- is a text well made? -/
def validB (s : ByteArray) : Bool := decide (endP (bl s) 0 = s.size)
theorem valid_any (s : ByteArray) (hs : s.size ≤ 100000000) (b : Bool) (hb : validB s = b) (w : World) :
    Calls Try.prog 16 #[.string s] w fun e w' => e = .returned (.bool b) ∧ Below w.heap.size w w' := by
  subst hb; exact callsIn_wide.1 (valid_in s hs w)
theorem len_any (s : ByteArray) (hs : s.size ≤ 100000000) (w : World) :
    Calls Try.prog 17 #[.string s] w fun e w' => e = .returned (.int .i64 (rl (bl s) 0).length) ∧ Below w.heap.size w w' := callsIn_wide.1 (len_in s hs w)
theorem once_any (s : ByteArray) (hs : s.size ≤ 100000000) (most : Int) (a : Option Addr) (cap : Nat) (w : World) (hcs : RAt w a (rl (bl s) 0)) :
    Calls Try.prog 18 #[.string s, .slice a (rl (bl s) 0).length cap, .int .i64 most] w fun e w' => e = .returned (.bool true) ∧ Below w.heap.size w w' := callsIn_wide.1 (once_in s hs most a cap w hcs)
theorem lrunes_any (s : ByteArray) (hs : s.size ≤ 100000000) (w : World) :
    Calls Try.prog 20 #[.string s] w fun e w' => ∃ v, e = .returned v ∧ OwnI w.heap.size w' v (rvals (rl (bl s) 0)) ∧ Below w.heap.size w w' := callsIn_wide.1 (lrunes_in s hs w)

theorem get_c080 (w : World) : Calls Try.prog 10 #[.string ⟨#[192, 128]⟩] w fun e w' => e = .returned (.tuple #[.int .i64 0, .int .i64 0, .int .i64 4]) ∧ w = w' := by
  have h := get_any ⟨#[192, 128]⟩ (by decide) w
  have e : getP ⟨#[192, 128]⟩ = (0, 0) := by rw [getP_eq]; decide
  rw [e] at h
  exact h
theorem valid_a : validB ⟨#[97]⟩ = true := by
  have e : bl ⟨#[97]⟩ = [97] := rfl
  unfold validB
  rw [e, (rl_go (l := [97]) (p := 0) (by decide) (by decide)).2, (rl_stop (l := [97]) (by decide)).2]
  decide

set_option maxRecDepth 100000 in
set_option maxHeartbeats 2000000 in
theorem known_any (w : World) : Calls Try.prog 8 #[] w fun e w' => e = .returned (.bool true) ∧ Below w.heap.size w w' := by
  go_enter Try.func8, Try.ntmps8
  go_wp2_with fail
  refine (put_yes 233 (by decide) _).mono ?_
  rintro e w1 ⟨v1, rfl, ho1, hb1⟩
  have Ho1 := Lib.hid ho1; have Hb1 := Lib.hid hb1; clear ho1 hb1
  go_wp2_with fail
  refine (put_yes 8364 (by decide) _).mono ?_
  rintro e w2 ⟨v2, rfl, ho2, hb2⟩
  have Ho2 := Lib.hid ho2; have Hb2 := Lib.hid (Hb1.out.trans (hb2.mono Hb1.out.size)); have Ho12 := Lib.hid (own_below Ho1.out hb2); clear ho2 hb2
  have c1 : (convert 23 9 v1).run Try.prog w2 = .ok (.string ⟨#[195, 169]⟩) w2 := own_string Ho12.out
  have c2 : (convert 23 9 v2).run Try.prog w2 = .ok (.string ⟨#[226, 130, 172]⟩) w2 := own_string Ho2.out
  go_wp2_with (first | (go_at_call 9; refine (put_no 55296 (by decide) _).mono ?_; rintro e w' ⟨rfl, rfl⟩) | (go_at_call 10; refine (get_c080 _).mono ?_; rintro e w' ⟨rfl, rfl⟩) | (go_at_call 12; refine (num_any _ _).mono ?_; rintro e w' ⟨rfl, rfl⟩) | (go_at_call 16; refine (valid_any _ (by decide) true valid_a _).mono ?_; rintro e w' ⟨rfl, hb3⟩; have HB3 := Lib.hid hb3; clear hb3))
  go_ret
  exact ⟨rfl, Hb2.out.trans (HB3.out.mono Hb2.out.size)⟩
end Go.Proofs.Ythgocbehdomekaa
