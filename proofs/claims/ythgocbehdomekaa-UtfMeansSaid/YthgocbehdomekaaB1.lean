/- UtfRunes returns true, for every number and every text. -/
import Derived.Test.YthgocbehdomekaaA13
namespace Go.Proofs.Ythgocbehdomekaa
open Go.RowKit Go.Shelf Plain
set_option linter.unusedVariables false

theorem get2_any (s : ByteArray) (hs : s.size ≤ 100000000) (x n k : Int) (hg : getL (bl s) = (x, n)) (hk : errOf n = k) (w : World) :
    Calls Try.prog 10 #[.string s] w fun e w' => e = .returned (.tuple #[.int .i64 x, .int .i64 n, .int .i64 k]) ∧ w = w' := by
  have := get_any s (by omega) w
  rw [getP_eq, hg] at this
  rw [← hk]; exact this
theorem rget2_any (s : ByteArray) (hs : s.size ≤ 100000000) (x n : Int) (hg : getL (bl s) = (x, n)) (w : World) :
    Calls Try.prog 11 #[.string s] w fun e w' => e = .returned (.tuple #[.int .i64 x, .int .i64 n]) ∧ Below w.heap.size w w' := by
  have := rget_is s (by omega) w
  rw [hg] at this
  exact this

set_option maxRecDepth 100000 in
set_option maxHeartbeats 2000000 in
theorem utfRunes_no (r : Int) (s : ByteArray) (hs : s.size ≤ 9000) (hm : mayB r = false) (x n k : Int) (hg : getL (bl s) = (x, n)) (hk : errOf n = k) (hnk : (0 < n ∧ k = 0) ∨ (n = 0 ∧ k = 4)) (w : World) :
    Calls Try.prog 3 #[.int .i64 r, .string s] w fun e w' => e = .returned (.bool true) ∧ Below w.heap.size w w' := by
  have H := Lib.hid hm; have Hg := Lib.hid hg; have Hk := Lib.hid hk; clear hm hg hk
  have H' : Hid (¬ mayB r = true) := fun h => by rw [H.out] at h; cases h
  rcases hnk with ⟨h1, rfl⟩ | ⟨rfl, rfl⟩
  all_goals
    go_enter Try.func3, Try.ntmps3
    go_wp2_with (first | (go_at_call 9; refine (put_no _ H.out _).mono ?_; rintro e w' ⟨rfl, rfl⟩) | (go_at_call 10; refine (get2_any _ (by omega) _ _ _ Hg.out Hk.out _).mono ?_; rintro e w' ⟨rfl, rfl⟩) | (go_at_call 11; refine (rget2_any _ (by omega) _ _ Hg.out _).mono ?_; rintro e w1 ⟨rfl, hb1⟩; have HB1 := Lib.hid hb1; clear hb1) | (go_at_call 12; refine (num_any _ _).mono ?_; rintro e w' ⟨rfl, rfl⟩) | (go_at_call 13; refine (rmay_no _ H'.out _).mono ?_; rintro e w' ⟨rfl, rfl⟩)| (go_at_call 8; refine (known_any _).mono ?_; rintro e w2 ⟨rfl, hb2⟩; have HB2 := Lib.hid (HB1.out.trans (hb2.mono HB1.out.size)); clear hb2))
    go_ret
    exact ⟨rfl, HB2.out⟩

set_option maxRecDepth 100000 in
set_option maxHeartbeats 2000000 in
theorem utfRunes_yes (r : Int) (s : ByteArray) (hs : s.size ≤ 9000) (hm : mayB r = true) (x n k : Int) (hg : getL (bl s) = (x, n)) (hk : errOf n = k) (hnk : (0 < n ∧ k = 0) ∨ (n = 0 ∧ k = 4)) (w : World) :
    Calls Try.prog 3 #[.int .i64 r, .string s] w fun e w' => e = .returned (.bool true) ∧ Below w.heap.size w w' := by
  have hr := (may_iff r).1 hm
  have H := Lib.hid hm; have Hg := Lib.hid hg; have Hk := Lib.hid hk; have Hr := Lib.hid hr; clear hm hg hk hr
  rcases hnk with ⟨h1, rfl⟩ | ⟨rfl, rfl⟩
  all_goals
    go_enter Try.func3, Try.ntmps3
    go_wp2_with fail
    refine (put_yes _ H.out _).mono ?_
    rintro e w1 ⟨vb, rfl, ho1, hb1⟩
    have Ho1 := Lib.hid ho1; have Hb1 := Lib.hid hb1; clear ho1 hb1
    go_wp2_with (first | (go_at_call 10; refine (get2_any _ (by omega) _ _ _ Hg.out Hk.out _).mono ?_; rintro e w' ⟨rfl, rfl⟩) | (go_at_call 11; refine (rget2_any _ (by omega) _ _ Hg.out _).mono ?_; rintro e w2 ⟨rfl, hb2⟩; have Ho2 := Lib.hid (own_below Ho1.out hb2); have Hb2 := Lib.hid (Hb1.out.trans (hb2.mono Hb1.out.size)); clear hb2) | (go_at_call 12; refine (num_any _ _).mono ?_; rintro e w' ⟨rfl, rfl⟩) | (go_at_call 13; refine (rmay_yes _ H.out _).mono ?_; rintro e w' ⟨rfl, rfl⟩))
    have hcA : (convert 23 9 vb).run Try.prog w2.drew = .ok (.string (strOfNums (putL r))) w2.drew := own_string (World.ownsRow.drew Ho2.out)
    have Hd2 := Lib.hid (Hb2.out.drew)
    go_region_with (first | (go_at_call 14; refine (rput_any _ Hr.out.1 Hr.out.2.1 _).mono ?_; rintro e w3 ⟨v3, rfl, ho3, hb3⟩; have hcA3 := own_string (own_below (World.ownsRow.drew Ho2.out) hb3); have hcB3 := own_string ho3; have Hb3 := Lib.hid (Hd2.out.trans (hb3.mono Hd2.out.size)); clear ho3 hb3) | (go_at_call 12; refine (num_any _ _).mono ?_; rintro e w' ⟨rfl, rfl⟩) | (go_at_call 8; refine (known_any _).mono ?_; rintro e w4 ⟨rfl, hb4⟩; have Hb4 := Lib.hid (Hb3.out.trans (hb4.mono Hb3.out.size)); clear hb4))
    all_goals (go_wp2; go_ret; exact ⟨rfl, Hb4.out⟩)

set_option maxHeartbeats 2000000 in
theorem utfRunes_long (r : Int) (s : ByteArray) (hs : 9000 < s.size) (w : World) :
    Calls Try.prog 3 #[.int .i64 r, .string s] w fun e w' => e = .returned (.bool true) ∧ Below w.heap.size w w' := by
  go_enter Try.func3, Try.ntmps3
  go_wp2_with (go_at_call 8; refine (known_any _).mono ?_; rintro e w2 ⟨rfl, hb2⟩; have HB2 := Lib.hid hb2; clear hb2)
  go_ret
  exact ⟨rfl, HB2.out⟩

theorem utfRunes_any (r : Int) (s : ByteArray) (w : World) :
    Calls Try.prog 3 #[.int .i64 r, .string s] w fun e w' => e = .returned (.bool true) ∧ Below w.heap.size w w' := by
  by_cases hs : s.size ≤ 9000
  · obtain ⟨x, n, hg⟩ : ∃ x n, getL (bl s) = (x, n) := ⟨_, _, rfl⟩
    have hb := getL_bd (bl_isB s)
    rw [hg] at hb
    simp only at hb
    have hnk : ∃ k, errOf n = k ∧ ((0 < n ∧ k = 0) ∨ (n = 0 ∧ k = 4)) := by
      unfold errOf
      by_cases h : n = 0
      · exact ⟨4, by rw [if_pos h], .inr ⟨h, rfl⟩⟩
      · exact ⟨0, by rw [if_neg h], .inl ⟨by omega, rfl⟩⟩
    obtain ⟨k, hk, hnk⟩ := hnk
    cases hm : mayB r with
    | true => exact utfRunes_yes r s hs hm x n k hg hk hnk w
    | false => exact utfRunes_no r s hs hm x n k hg hk hnk w
  · exact utfRunes_long r s (by omega) w
end Go.Proofs.Ythgocbehdomekaa
