/- UtfJoins returns true, for every two texts and every number. -/
import Derived.Test.YthgocbehdomekaaA13
import Derived.Test.YthgocbehdomekaaPure3
namespace Go.Proofs.Ythgocbehdomekaa
open Go.RowKit Go.Shelf Plain
set_option linter.unusedVariables false

theorem validB_iff (s : ByteArray) : validB s = true ↔ okL (bl s) := by unfold validB okL; rw [bl_length, decide_eq_true_iff]
theorem validB_join {s t : ByteArray} (h : validB s = true) : validB (s ++ t) = validB t := by
  rw [Bool.eq_iff_iff, validB_iff, validB_iff, bl_append]
  exact (join_ok (bl_isB s) ((validB_iff s).1 h)).1
theorem len_join {s t : ByteArray} (h : validB s = true) : (rl (bl (s ++ t)) 0).length = (rl (bl s) 0).length + (rl (bl t) 0).length := by
  rw [bl_append]; exact (join_ok (bl_isB s) ((validB_iff s).1 h)).2
/-- does a rune begin at q, among the first k? -/
def begB (L : List (Nat × Int)) (q n k : Nat) : Bool := decide (q = n) || (L.take k).any (fun x => decide (x.1 = q))
theorem begB_succ (L : List (Nat × Int)) (q n k : Nat) (h : k < L.length) : begB L q n (k + 1) = (begB L q n k || decide (L[k].1 = q)) := by
  unfold begB; rw [List.take_succ_eq_append_getElem h, List.any_append]; simp [Bool.or_assoc]
theorem begB_all {s : ByteArray} (h : validB s = true) (q : Nat) (hq : q ≤ s.size) :
    validB (s.extract 0 q) = begB (rl (bl s) 0) q s.size (rl (bl s) 0).length ∧ validB (s.extract q s.size) = begB (rl (bl s) 0) q s.size (rl (bl s) 0).length := by
  have hc := cut_ok (bl_isB s) ((validB_iff s).1 h) q (by rw [bl_length]; exact hq)
  rw [bl_length] at hc
  have hb : begB (rl (bl s) 0) q s.size (rl (bl s) 0).length = true ↔ (q = s.size ∨ ∃ x ∈ rl (bl s) 0, x.1 = q) := by
    unfold begB; rw [List.take_length]; simp
  constructor
  · rw [Bool.eq_iff_iff, hb, validB_iff, bl_extract, ← hc.1]; simp
  · rw [Bool.eq_iff_iff, hb, validB_iff, bl_extract, ← hc.2, List.take_of_length_le (by rw [List.length_drop, bl_length]; exact Nat.le_refl _)]

set_option maxHeartbeats 2000000 in
theorem utfJoins_1 (s t : ByteArray) (cut : Int) (hs : 3000 < s.size) (w : World) :
    Calls Try.prog 5 #[.string s, .string t, .int .i64 cut] w fun e w' => e = .returned (.bool true) ∧ Below w.heap.size w w' := by
  go_enter Try.func5, Try.ntmps5
  go_wp2_with (go_at_call 8; refine (known_any _).mono ?_; rintro e w2 ⟨rfl, hb2⟩; have HB2 := Lib.hid hb2; clear hb2)
  go_ret
  exact ⟨rfl, HB2.out⟩
set_option maxHeartbeats 2000000 in
theorem utfJoins_2 (s t : ByteArray) (cut : Int) (hs : s.size ≤ 3000) (ht : 3000 < t.size) (w : World) :
    Calls Try.prog 5 #[.string s, .string t, .int .i64 cut] w fun e w' => e = .returned (.bool true) ∧ Below w.heap.size w w' := by
  go_enter Try.func5, Try.ntmps5
  go_wp2_with (go_at_call 8; refine (known_any _).mono ?_; rintro e w2 ⟨rfl, hb2⟩; have HB2 := Lib.hid hb2; clear hb2)
  go_ret
  exact ⟨rfl, HB2.out⟩
set_option maxHeartbeats 2000000 in
theorem utfJoins_3 (s t : ByteArray) (cut : Int) (hs : s.size ≤ 3000) (ht : t.size ≤ 3000) (hv : validB s = false) (w : World) :
    Calls Try.prog 5 #[.string s, .string t, .int .i64 cut] w fun e w' => e = .returned (.bool true) ∧ Below w.heap.size w w' := by
  have HV := Lib.hid hv; clear hv
  go_enter Try.func5, Try.ntmps5
  go_wp2_with fail
  refine (valid_any s (by omega) _ HV.out _).mono ?_
  rintro e w1 ⟨rfl, hb1⟩
  have HB1 := Lib.hid hb1; clear hb1
  go_wp2_with (go_at_call 8; refine (known_any _).mono ?_; rintro e w2 ⟨rfl, hb2⟩; have HB2 := Lib.hid (HB1.out.trans (hb2.mono HB1.out.size)); clear hb2)
  go_ret
  exact ⟨rfl, HB2.out⟩

set_option maxRecDepth 100000 in
set_option maxHeartbeats 2000000 in
theorem utfJoins_4 (s t : ByteArray) (cut : Int) (hs : s.size ≤ 3000) (ht : t.size ≤ 3000) (hv : validB s = true) (w : World) :
    Calls Try.prog 5 #[.string s, .string t, .int .i64 cut] w fun e w' => e = .returned (.bool true) ∧ Below w.heap.size w w' := by
  have hsz : (s ++ t).size ≤ 6000 := by rw [ByteArray.size_append]; omega
  have HV := Lib.hid hv
  have HJ := Lib.hid (validB_join (t := t) hv)
  have HL := Lib.hid (len_join (t := t) hv)
  clear hv
  obtain ⟨b, hbt⟩ : ∃ b, validB t = b := ⟨_, rfl⟩
  rw [hbt] at HJ
  have Hbt := Lib.hid hbt; clear hbt
  have hLs : (rl (bl s) 0).length ≤ 3000 := by have := rl_length (bl_isB s) 0; rw [bl_length] at this; omega
  have hLt : (rl (bl t) 0).length ≤ 3000 := by have := rl_length (bl_isB t) 0; rw [bl_length] at this; omega
  have hcut : (∃ q : Nat, cut = q ∧ q ≤ s.size) ∨ cut < 0 ∨ (s.size : Int) < cut := by
    rcases (show (0 ≤ cut ∧ cut ≤ s.size) ∨ cut < 0 ∨ (s.size : Int) < cut by omega) with ⟨h0, h1⟩ | h
    · obtain ⟨q, rfl⟩ := Int.eq_ofNat_of_zero_le h0
      exact .inl ⟨q, rfl, by omega⟩
    · exact .inr h
  rcases hcut with ⟨q, rfl, hq⟩ | hc | hc
  all_goals
    cases b
    all_goals
      go_enter Try.func5, Try.ntmps5
      go_wp2_with fail
      refine (valid_any s (by omega) _ HV.out _).mono ?_
      rintro e w1 ⟨rfl, hb1⟩
      have HB1 := Lib.hid hb1; clear hb1
      go_wp2_with fail
      refine (valid_any (s ++ t) (by omega) _ HJ.out _).mono ?_
      rintro e w2 ⟨rfl, hb2⟩
      have HB2 := Lib.hid (HB1.out.trans (hb2.mono HB1.out.size)); clear hb2
      go_wp2_with fail
      refine (valid_any t (by omega) _ Hbt.out _).mono ?_
      rintro e w3 ⟨rfl, hb3⟩
      have HB3 := Lib.hid (HB2.out.trans (hb3.mono HB2.out.size)); clear hb3
      go_wp2_with fail
      refine (valid_any t (by omega) _ Hbt.out _).mono ?_
      rintro e w4 ⟨rfl, hb4⟩
      have HB4 := Lib.hid (HB3.out.trans (hb4.mono HB3.out.size)); clear hb4
      go_wp2_with fail
    all_goals
      try (go_at_call 17
           refine (len_any (s ++ t) (by omega) _).mono ?_
           rintro e w5 ⟨rfl, hb5⟩
           rw [HL.out]
           have HB5 := Lib.hid (HB4.out.trans (hb5.mono HB4.out.size)); clear hb5 HB4
           go_wp2_with fail
           refine (len_any s (by omega) _).mono ?_
           rintro e w6 ⟨rfl, hb6⟩
           have HB6 := Lib.hid (HB5.out.trans (hb6.mono HB5.out.size)); clear hb6
           go_wp2_with fail
           refine (len_any t (by omega) _).mono ?_
           rintro e w7 ⟨rfl, hb7⟩
           have HB4 := Lib.hid (HB6.out.trans (hb7.mono HB6.out.size)); clear hb7
           go_wp2_with fail)
  all_goals
    try (go_at_call 8
         refine (known_any _).mono ?_
         rintro e w8 ⟨rfl, hb8⟩
         have HB8 := Lib.hid (HB4.out.trans (hb8.mono HB4.out.size)); clear hb8
         go_wp2
         go_ret
         exact ⟨rfl, HB8.out⟩)
  all_goals
    refine (rrunes_any s (by omega) _).mono ?_
    rintro e w9 ⟨v, rfl, ho, hb9⟩
    obtain ⟨a, cap, rfl, hr⟩ := own_rat ho
    have Hr := Lib.hid hr; have HB9 := Lib.hid (HB4.out.trans (hb9.mono HB4.out.size)); clear ho hr hb9
    have Hbeg := Lib.hid (begB_all HV.out q hq)
    generalize rl (bl s) 0 = L at Hr Hbeg hLs ⊢
    clear HL HJ HV Hbt hLt HB1 HB2 HB3 HB4
    go_wp2
    go_loop [9, 10] (fun g i => ∃ k : Nat, k ≤ L.length ∧ i = .int .i64 k ∧ g = .bool (begB L q s.size k)) (fun _ i => L.length - (intOf i).toNat)
    case atStart => exact ⟨0, by omega, rfl, congrArg Value.bool (by unfold begB; rw [Bool.eq_iff_iff]; simp; omega)⟩
    case round =>
      obtain ⟨k, hk, rfl, rfl⟩ := hrel
      by_cases hlt : k < L.length
      · obtain ⟨g, rfl, hg, cA, _⟩ := Hr.out k hlt
        have hsucc := begB_succ L q s.size k hlt
        obtain ⟨x, hx⟩ : ∃ x, L[k].1 = x := ⟨_, rfl⟩
        rw [hx] at cA hsucc
        have Hs := Lib.hid hsucc; clear hsucc hx
        obtain ⟨b, hb⟩ : ∃ b, begB L q s.size k = b := ⟨_, rfl⟩
        rw [hb] at Hs ⊢
        clear hb
        cases b
        all_goals go_wp2
        · go_round
          case rel =>
            refine ⟨k + 1, by omega, by go_num, congrArg Value.bool ?_⟩
            rw [Hs.out, Bool.eq_iff_iff]; simp; try omega
          case measure => simp [intOf]; omega
        · go_round
          case rel => exact ⟨k + 1, by omega, by go_num, congrArg Value.bool (by rw [Hs.out]; rfl)⟩
          case measure => simp [intOf]; omega
      · have hkl : k = L.length := by omega
        subst hkl
        obtain ⟨b, hb⟩ : ∃ b, begB L q s.size L.length = b := ⟨_, rfl⟩
        rw [hb] at Hbeg ⊢
        clear hb
        cases b
        all_goals
          go_wp2_with fail
          refine (valid_any (s.extract 0 q) (by rw [ByteArray.size_extract]; omega) _ Hbeg.out.1 _).mono ?_
          rintro e w10 ⟨rfl, hb10⟩
          have HB10 := Lib.hid (HB9.out.trans (hb10.mono HB9.out.size)); clear hb10
          go_wp2_with fail
          refine (valid_any (s.extract q s.size) (by rw [ByteArray.size_extract]; omega) _ Hbeg.out.2 _).mono ?_
          rintro e w11 ⟨rfl, hb11⟩
          have HB11 := Lib.hid (HB10.out.trans (hb11.mono HB10.out.size)); clear hb11
          go_wp2_with fail
          refine (known_any _).mono ?_
          rintro e w12 ⟨rfl, hb12⟩
          have HB12 := Lib.hid (HB11.out.trans (hb12.mono HB11.out.size)); clear hb12
          go_wp2
          go_ret
          exact ⟨rfl, HB12.out⟩

theorem utfJoins_any (s t : ByteArray) (cut : Int) (w : World) :
    Calls Try.prog 5 #[.string s, .string t, .int .i64 cut] w fun e w' => e = .returned (.bool true) ∧ Below w.heap.size w w' := by
  by_cases hs : s.size ≤ 3000
  · by_cases ht : t.size ≤ 3000
    · cases hv : validB s with
      | true => exact utfJoins_4 s t cut hs ht hv w
      | false => exact utfJoins_3 s t cut hs ht hv w
    · exact utfJoins_2 s t cut hs (by omega) w
  · exact utfJoins_1 s t cut (by omega) w
end Go.Proofs.Ythgocbehdomekaa
