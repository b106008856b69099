/- Names of variables, words of the reference: walked. -/
import Derived.Test.YtmgaibeibfholaaDoorP2
namespace Go.Proofs.YtmgaibeibfholaaDoor
set_option maxRecDepth 100000
open Go.RowKit Go.Shelf Plain
set_option linter.unusedVariables false

set_option maxRecDepth 100000 in
set_option maxHeartbeats 1000000 in
theorem name_any (s : ByteArray) (hs : s.size ≤ 9223372036854775807) (b : Bool) (hb : wordB s 32 = b) (w : World) :
    Calls Tryd.prog 37 #[.string s] w fun e w' => e = .returned (.bool b) ∧ w = w' := by
  subst hb
  go_enter Tryd.func37, Tryd.ntmps37
  go_wp2
  go_loop [7] (fun n => ∃ k : Nat, k ≤ s.size ∧ n = .int .i64 k ∧ WUp s k) (fun n => s.size - (intOf n).toNat)
  case atStart => exact ⟨0, by omega, rfl, fun j hj => by omega⟩
  case round =>
    obtain ⟨k, hk, rfl, hu⟩ := hrel
    have Hu := Lib.hid hu; clear hu
    by_cases hlt : k < s.size
    · by_cases hk0 : k = 0
      · subst hk0
        go_wp2
        all_goals first
          | (refine ⟨⟨1, by omega, rfl, Hu.out.next ?_⟩, by simp [intOf]; omega⟩
             rw [← bt_of hlt]
             first | exact .inl ((letB_iff _).2 (by omega)) | exact .inr ⟨by omega, (digB_iff _).2 (by omega)⟩)
          | (go_ret
             refine ⟨retB (word_bad hlt ?_ ?_ 32).symm, rfl⟩
             · rw [← bt_of hlt, ← Bool.not_eq_true, letB_iff]; omega
             · first
               | exact .inl (by omega)
               | (right; rw [← bt_of hlt, ← Bool.not_eq_true, digB_iff]; omega))
      · have hb0 : ((k : Int) == 0) = false := beq_eq_false_iff_ne.2 (by omega)
        go_wp2
        all_goals first
          | (refine ⟨⟨k + 1, by omega, congrArg (Value.int .i64) (by omega), Hu.out.next ?_⟩, by simp [intOf]; omega⟩
             rw [← bt_of hlt]
             first | exact .inl ((letB_iff _).2 (by omega)) | exact .inr ⟨by omega, (digB_iff _).2 (by omega)⟩)
          | (go_ret
             refine ⟨retB (word_bad hlt ?_ ?_ 32).symm, rfl⟩
             · rw [← bt_of hlt, ← Bool.not_eq_true, letB_iff]; omega
             · first
               | exact .inl (by omega)
               | (right; rw [← bt_of hlt, ← Bool.not_eq_true, digB_iff]; omega))
    · go_wp2
      · go_ret
        exact ⟨retB (word_yes 32 Hu.out (by omega) (by omega)), rfl⟩
      · go_ret
        exact ⟨retB (word_none 32 (by omega)), rfl⟩

/-- as far as the reference has gone -/
def VUp (s : ByteArray) (n : Nat) : Prop := ∀ j, j < n → letB (bt s j) = true ∨ digB (bt s j) = true
theorem VUp.next {s : ByteArray} {n : Nat} (h : VUp s n) (g : letB (bt s n) = true ∨ digB (bt s n) = true) : VUp s (n + 1) := fun j hj => by
  rcases Nat.lt_or_ge j n with h' | h'
  · exact h j h'
  · obtain rfl : j = n := by omega
    exact g
theorem vword_yes {s : ByteArray} {m n : Nat} (h1 : 1 ≤ s.size) (h2 : s.size ≤ m) (h0 : letB (bt s 0) = true) (hu : VUp s n) (hn : s.size ≤ n) : true = wordB s m := by
  rw [word_end (fun j hj => by
    rcases Nat.eq_zero_or_pos j with rfl | hp
    · exact .inl h0
    · rcases hu j (by omega) with h | h
      · exact .inl h
      · exact .inr ⟨by omega, h⟩) m]
  simp [h1, h2]
theorem vword_bad {s : ByteArray} {m j : Nat} (hj : j < s.size) (h : letB (bt s j) = false) (h' : digB (bt s j) = false) : false = wordB s m := (word_bad hj h (.inr h') m).symm
theorem vword_first {s : ByteArray} {m : Nat} (h : letB (bt s 0) = false) : false = wordB s m := by unfold wordB; rw [h]; simp
theorem vword_size {s : ByteArray} {m : Nat} (h : ¬ (1 ≤ s.size ∧ s.size ≤ m)) : false = wordB s m := by
  unfold wordB
  by_cases h1 : 1 ≤ s.size
  · have : decide (s.size ≤ m) = false := decide_eq_false (by omega)
    rw [this]; simp
  · have : decide (1 ≤ s.size) = false := decide_eq_false h1
    rw [this]; simp

set_option maxRecDepth 100000 in
set_option maxHeartbeats 1000000 in
theorem rword_any (s : ByteArray) (hs : s.size ≤ 9223372036854775807) (m : Nat) (hm : m ≤ 100000) (b : Bool) (hb : wordB s m = b) (w : World) :
    Calls Tryd.prog 40 #[.string s, .int .i64 m] w fun e w' => e = .returned (.bool b) ∧ w = w' := by
  subst hb
  by_cases hz : 1 ≤ s.size ∧ s.size ≤ m
  · obtain ⟨z1, z2⟩ := hz
    have h0 : 0 < s.size := z1
    obtain ⟨x, hx⟩ : ∃ x, letB ((s[0].toNat : Nat) : Int) = x := ⟨_, rfl⟩
    have hx' : letB (bt s 0) = x := by rw [← bt_of h0]; exact hx
    have Hx := Lib.hid hx; have Hx' := Lib.hid hx'
    clear hx hx'
    have gA : decide ((s.size : Int) < 1) = false := decide_eq_false (by omega)
    have gB : decide ((m : Int) < s.size) = false := decide_eq_false (by omega)
    have gC : decide (m < s.size) = false := decide_eq_false (by omega)
    go_enter Tryd.func40, Tryd.ntmps40
    cases x
    · go_wp2_with (go_at_call 45; refine (rletter_any ((s[0].toNat : Nat) : Int) _ Hx.out _).mono ?_; rintro e w' ⟨rfl, rfl⟩)
      go_ret
      exact ⟨retB (vword_first Hx'.out), rfl⟩
    · go_wp2_with (go_at_call 45; refine (rletter_any ((s[0].toNat : Nat) : Int) _ Hx.out _).mono ?_; rintro e w' ⟨rfl, rfl⟩)
      go_loop [5] (fun n => ∃ k : Nat, k ≤ s.size ∧ n = .int .i64 k ∧ VUp s k) (fun n => s.size - (intOf n).toNat)
      case atStart => exact ⟨0, by omega, rfl, fun j hj => by omega⟩
      case round =>
        obtain ⟨k, hk, rfl, hu⟩ := hrel
        have Hu := Lib.hid hu; clear hu
        by_cases hlt : k < s.size
        · obtain ⟨x, hx⟩ : ∃ x, letB ((s[k].toNat : Nat) : Int) = x := ⟨_, rfl⟩
          obtain ⟨y, hy⟩ : ∃ y, digB ((s[k].toNat : Nat) : Int) = y := ⟨_, rfl⟩
          have hx' : letB (bt s k) = x := by rw [← bt_of hlt]; exact hx
          have hy' : digB (bt s k) = y := by rw [← bt_of hlt]; exact hy
          have Gx := Lib.hid hx; have Gy := Lib.hid hy; have Gx' := Lib.hid hx'; have Gy' := Lib.hid hy'
          clear hx hy hx' hy'
          cases x
          · cases y
            all_goals
              go_wp2_with (first | (go_at_call 45; refine (rletter_any ((s[k].toNat : Nat) : Int) _ Gx.out _).mono ?_; rintro e w' ⟨rfl, rfl⟩) | (go_at_call 46; refine (rdigit_any ((s[k].toNat : Nat) : Int) _ Gy.out _).mono ?_; rintro e w' ⟨rfl, rfl⟩))
            · go_ret
              exact ⟨retB (vword_bad hlt Gx'.out Gy'.out), rfl⟩
            · refine ⟨⟨k + 1, by omega, by simp, Hu.out.next (.inr Gy'.out)⟩, by simp [intOf]; omega⟩
          · go_wp2_with (go_at_call 45; refine (rletter_any ((s[k].toNat : Nat) : Int) _ Gx.out _).mono ?_; rintro e w' ⟨rfl, rfl⟩)
            refine ⟨⟨k + 1, by omega, by simp, Hu.out.next (.inl Gx'.out)⟩, by simp [intOf]; omega⟩
        · go_wp2
          go_ret
          exact ⟨retB (vword_yes z1 z2 Hx'.out Hu.out (by omega)), rfl⟩
  · have hz' := vword_size hz
    have Hz := Lib.hid hz'; clear hz'
    go_enter Tryd.func40, Tryd.ntmps40
    have hz2 : (s.size : Int) < 1 ∨ (m : Int) < s.size := by omega
    rcases hz2 with h | h
    · go_wp2
      all_goals (go_ret; exact ⟨retB Hz.out, rfl⟩)
    · by_cases h1 : (s.size : Int) < 1
      · go_wp2
        all_goals (go_ret; exact ⟨retB Hz.out, rfl⟩)
      · go_wp2
        all_goals (go_ret; exact ⟨retB Hz.out, rfl⟩)
end Go.Proofs.YtmgaibeibfholaaDoor
