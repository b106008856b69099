/- UtfTexts returns true, for every text and every number. -/
import Derived.Test.YthgocbehdomekaaA13
namespace Go.Proofs.Ythgocbehdomekaa
open Go.RowKit Go.Shelf Plain
set_option linter.unusedVariables false

theorem once2_any (s : ByteArray) (hs : s.size ≤ 100000000) (most : Int) (a : Option Addr) (n cap : Nat) (w : World) (hn : n = (rl (bl s) 0).length) (hcs : RAt w a (rl (bl s) 0)) :
    Calls Try.prog 18 #[.string s, .slice a n cap, .int .i64 most] w fun e w' => e = .returned (.bool true) ∧ Below w.heap.size w w' := by
  subst hn; exact once_any s hs most a cap w hcs

set_option maxRecDepth 100000 in
set_option maxHeartbeats 2000000 in
theorem utfTexts_short (s : ByteArray) (hs : s.size ≤ 9000) (leave : Int) (w : World) :
    Calls Try.prog 4 #[.string s, .int .i64 leave] w fun e w' => e = .returned (.bool true) ∧ Below w.heap.size w w' := by
  go_enter Try.func4, Try.ntmps4
  go_wp2_with fail
  refine (rrunes_any s (by omega) _).mono ?_
  rintro e w1 ⟨v, rfl, ho, hb⟩
  obtain ⟨a, cap, rfl, hr⟩ := own_rat ho
  have Hr := Lib.hid hr; have Hb := Lib.hid hb; clear ho hr hb
  obtain ⟨L, hL⟩ : ∃ L, (rl (bl s) 0).length = L := ⟨_, rfl⟩
  obtain ⟨E, hE⟩ : ∃ E, endP (bl s) 0 = E := ⟨_, rfl⟩
  rw [hL, hE]
  have HL := Lib.hid hL; have HE := Lib.hid hE; clear hL hE
  obtain ⟨b, hbv⟩ : ∃ b, decide (E = s.size) = b := ⟨_, rfl⟩
  have HV : Hid (validB s = b) := by show validB s = b; unfold validB; rw [HE.out]; exact hbv
  have hbE : (((E : Int) == (s.size : Int)) = b) := by rw [← hbv, Bool.eq_iff_iff]; simp; omega
  clear hbv
  cases b
  all_goals
    go_wp2_with fail
    refine (valid_any s (by omega) _ HV.out _).mono ?_
    rintro e w2 ⟨rfl, hb2⟩
    have Hr2 := Lib.hid (Hr.out.below hb2); have Hb2 := Lib.hid (Hb.out.trans (hb2.mono Hb.out.size)); clear hb2
    go_wp2_with fail
    refine (len_any s (by omega) _).mono ?_
    rintro e w3 ⟨rfl, hb3⟩
    rw [HL.out]
    have Hr3 := Lib.hid (Hr2.out.below hb3); have Hb3 := Lib.hid (Hb2.out.trans (hb3.mono Hb2.out.size)); clear hb3
    go_wp2_with fail
    refine (once2_any s (by omega) _ _ _ _ _ HL.out.symm Hr3.out).mono ?_
    rintro e w4 ⟨rfl, hb4⟩
    have Hr4 := Lib.hid (Hr3.out.below hb4); have Hb4 := Lib.hid (Hb3.out.trans (hb4.mono Hb3.out.size)); clear hb4
    go_wp2_with fail
    refine (once2_any s (by omega) _ _ _ _ _ HL.out.symm Hr4.out).mono ?_
    rintro e w5 ⟨rfl, hb5⟩
    have Hb5 := Lib.hid (Hb4.out.trans (hb5.mono Hb4.out.size)); clear hb5
    go_wp2_with fail
    refine (known_any _).mono ?_
    rintro e w6 ⟨rfl, hb6⟩
    have Hb6 := Lib.hid (Hb5.out.trans (hb6.mono Hb5.out.size)); clear hb6
    go_wp2
    go_ret
    exact ⟨rfl, Hb6.out⟩

set_option maxHeartbeats 2000000 in
theorem utfTexts_long (s : ByteArray) (hs : 9000 < s.size) (leave : Int) (w : World) :
    Calls Try.prog 4 #[.string s, .int .i64 leave] w fun e w' => e = .returned (.bool true) ∧ Below w.heap.size w w' := by
  go_enter Try.func4, Try.ntmps4
  go_wp2_with (go_at_call 8; refine (known_any _).mono ?_; rintro e w2 ⟨rfl, hb2⟩; have HB2 := Lib.hid hb2; clear hb2)
  go_ret
  exact ⟨rfl, HB2.out⟩
theorem utfTexts_any (s : ByteArray) (leave : Int) (w : World) :
    Calls Try.prog 4 #[.string s, .int .i64 leave] w fun e w' => e = .returned (.bool true) ∧ Below w.heap.size w w' := by
  by_cases hs : s.size ≤ 9000
  · exact utfTexts_short s hs leave w
  · exact utfTexts_long s (by omega) leave w
end Go.Proofs.Ythgocbehdomekaa
