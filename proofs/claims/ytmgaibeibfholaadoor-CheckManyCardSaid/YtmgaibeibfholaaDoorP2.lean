/- Letters, digits, words: walked, of the program and of the reference. -/
import Derived.Test.YtmgaibeibfholaaDoorP1
namespace Go.Proofs.YtmgaibeibfholaaDoor
set_option maxRecDepth 100000
open Go.RowKit Go.Shelf Plain
set_option linter.unusedVariables false

set_option maxHeartbeats 400000 in
theorem letter_any (c : Int) (b : Bool) (hb : letB c = b) (w : World) : Calls Tryd.prog 61 #[.int .u8 c] w fun e w' => e = .returned (.bool b) ∧ w = w' := by
  subst hb
  go_enter Tryd.func61, Tryd.ntmps61
  go_wp2
  all_goals go_ret
  all_goals exact ⟨retB (by unfold letB; rw [Bool.eq_iff_iff]; simp; try omega), rfl⟩
set_option maxHeartbeats 400000 in
theorem digit_any (c : Int) (b : Bool) (hb : digB c = b) (w : World) : Calls Tryd.prog 62 #[.int .u8 c] w fun e w' => e = .returned (.bool b) ∧ w = w' := by
  subst hb
  go_enter Tryd.func62, Tryd.ntmps62
  go_wp2
  all_goals go_ret
  all_goals exact ⟨retB (by unfold digB; rw [Bool.eq_iff_iff]; simp; try omega), rfl⟩
set_option maxHeartbeats 400000 in
theorem rletter_any (c : Int) (b : Bool) (hb : letB c = b) (w : World) : Calls Tryd.prog 45 #[.int .u8 c] w fun e w' => e = .returned (.bool b) ∧ w = w' := by
  subst hb
  go_enter Tryd.func45, Tryd.ntmps45
  go_wp2
  all_goals go_ret
  all_goals exact ⟨retB (by unfold letB; rw [Bool.eq_iff_iff]; simp; try omega), rfl⟩
set_option maxHeartbeats 400000 in
theorem rdigit_any (c : Int) (b : Bool) (hb : digB c = b) (w : World) : Calls Tryd.prog 46 #[.int .u8 c] w fun e w' => e = .returned (.bool b) ∧ w = w' := by
  subst hb
  go_enter Tryd.func46, Tryd.ntmps46
  go_wp2
  all_goals go_ret
  all_goals exact ⟨retB (by unfold digB; rw [Bool.eq_iff_iff]; simp; try omega), rfl⟩

theorem letB_no {c : Int} (h : letB c = false) : ¬ (65 ≤ c ∧ c ≤ 90) ∧ ¬ (97 ≤ c ∧ c ≤ 122) := by
  have : ¬ letB c = true := by rw [h]; simp
  rw [letB_iff] at this; omega
theorem digB_no {c : Int} (h : digB c = false) : ¬ (48 ≤ c ∧ c ≤ 57) := by
  have : ¬ digB c = true := by rw [h]; simp
  rw [digB_iff] at this; omega
/-- the loop has gone so far -/
def WUp (s : ByteArray) (n : Nat) : Prop := ∀ j, j < n → letB (bt s j) = true ∨ (j ≠ 0 ∧ digB (bt s j) = true)
theorem WUp.next {s : ByteArray} {n : Nat} (h : WUp s n) (g : letB (bt s n) = true ∨ (n ≠ 0 ∧ digB (bt s n) = true)) : WUp s (n + 1) := fun j hj => by
  rcases Nat.lt_or_ge j n with h' | h'
  · exact h j h'
  · obtain rfl : j = n := by omega
    exact g

theorem word_yes {s : ByteArray} {n : Nat} (m : Nat) (hu : WUp s n) (hn : s.size ≤ n) (h : (1 : Int) ≤ s.size) : decide ((s.size : Int) ≤ m) = wordB s m := by
  rw [word_end (fun j hj => hu j (by omega)) m]
  have e1 : decide (1 ≤ s.size) = true := decide_eq_true (by omega)
  have e2 : decide (s.size ≤ m) = decide ((s.size : Int) ≤ m) := by congr 1; rw [eq_iff_iff]; omega
  rw [e1, e2]; rfl
theorem word_none {s : ByteArray} (m : Nat) (h : ¬ (1 : Int) ≤ s.size) : false = wordB s m := by
  have e1 : decide (1 ≤ s.size) = false := decide_eq_false (by omega)
  unfold wordB; rw [e1]; rfl

set_option maxRecDepth 100000 in
set_option maxHeartbeats 800000 in
theorem blank_any (s : ByteArray) (hs : s.size ≤ 9223372036854775807) (b : Bool) (hb : wordB s 64 = b) (w : World) :
    Calls Tryd.prog 50 #[.string s] w fun e w' => e = .returned (.bool b) ∧ w = w' := by
  subst hb
  go_enter Tryd.func50, Tryd.ntmps50
  go_wp2
  go_loop [6] (fun n => ∃ k : Nat, k ≤ s.size ∧ n = .int .i64 k ∧ WUp s k) (fun n => s.size - (intOf n).toNat)
  case atStart => exact ⟨0, by omega, rfl, fun j hj => by omega⟩
  case round =>
    obtain ⟨k, hk, rfl, hu⟩ := hrel
    have Hu := Lib.hid hu; clear hu
    by_cases hlt : k < s.size
    · obtain ⟨x, hx⟩ : ∃ x, letB ((s[k].toNat : Nat) : Int) = x := ⟨_, rfl⟩
      obtain ⟨y, hy⟩ : ∃ y, digB ((s[k].toNat : Nat) : Int) = y := ⟨_, rfl⟩
      have hx' : letB (bt s k) = x := by rw [← bt_of hlt]; exact hx
      have hy' : digB (bt s k) = y := by rw [← bt_of hlt]; exact hy
      have Hx := Lib.hid hx; have Hy := Lib.hid hy; have Hx' := Lib.hid hx'; have Hy' := Lib.hid hy'
      clear hx hy hx' hy'
      cases x
      · cases y
        all_goals
          go_wp2_with (first | (go_at_call 61; refine (letter_any ((s[k].toNat : Nat) : Int) _ Hx.out _).mono ?_; rintro e w' ⟨rfl, rfl⟩) | (go_at_call 62; refine (digit_any ((s[k].toNat : Nat) : Int) _ Hy.out _).mono ?_; rintro e w' ⟨rfl, rfl⟩))
        · go_ret
          exact ⟨retB (word_bad hlt Hx'.out (.inl (by omega)) 64).symm, rfl⟩
        · go_ret
          exact ⟨retB (word_bad hlt Hx'.out (.inr Hy'.out) 64).symm, rfl⟩
        · go_ret
          exact ⟨retB (word_bad hlt Hx'.out (.inl (by omega)) 64).symm, rfl⟩
        · refine ⟨⟨k + 1, by omega, by simp, Hu.out.next (.inr ⟨by rintro rfl; simp_all, Hy'.out⟩)⟩, by simp [intOf]; omega⟩
      · go_wp2_with (go_at_call 61; refine (letter_any ((s[k].toNat : Nat) : Int) _ Hx.out _).mono ?_; rintro e w' ⟨rfl, rfl⟩)
        refine ⟨⟨k + 1, by omega, by simp, Hu.out.next (.inl Hx'.out)⟩, by simp [intOf]; omega⟩
    · go_wp2
      · go_ret
        exact ⟨retB (word_yes 64 Hu.out (by omega) (by omega)), rfl⟩
      · go_ret
        exact ⟨retB (word_none 64 (by omega)), rfl⟩
end Go.Proofs.YtmgaibeibfholaaDoor
