/- May a text be a language's tag: the reference, walked. -/
import Derived.Test.YtmgaibeibfholaaDoorP8
namespace Go.Proofs.YtmgaibeibfholaaDoor
set_option maxRecDepth 100000
open Go.RowKit Go.Shelf Plain
set_option linter.unusedVariables false

theorem tagR_cons (a b : Bool) (c : Int) (t : List Int) : tagR a b (c :: t) = if c = 45 then !b && tagR false true t else (smlB c || (!a && digB c)) && tagR a false t := rfl
theorem bl_drop {s : ByteArray} {k : Nat} (h : k < s.size) : (bl s).drop k = bt s k :: (bl s).drop (k + 1) := by
  rw [List.drop_eq_getElem_cons (by rw [bl_length]; exact h)]
  congr 1
  rw [← bl_getD, List.getD_eq_getElem?_getD, List.getElem?_eq_getElem (by rw [bl_length]; exact h)]; rfl
theorem bl_end {s : ByteArray} {k : Nat} (h : s.size ≤ k) : (bl s).drop k = [] := List.drop_of_length_le (by rw [bl_length]; exact h)
/-- where the loop stands -/
def TgAt (s : ByteArray) (k : Nat) (f : Bool) : Prop := tagR f (decide (k = 0 ∨ bt s (k - 1) = 45)) ((bl s).drop k) = tagR true true (bl s)
theorem TgAt.zero (s : ByteArray) : TgAt s 0 true := by unfold TgAt; simp
theorem TgAt.dash {s : ByteArray} {k : Nat} {f : Bool} (h : TgAt s k f) (hk : k < s.size) (h0 : k ≠ 0) (hp : bt s (k - 1) ≠ 45) (hc : bt s k = 45) : TgAt s (k + 1) false := by
  unfold TgAt at *
  rw [bl_drop hk] at h
  have e : decide (k = 0 ∨ bt s (k - 1) = 45) = false := decide_eq_false (by rintro (h | h); exact h0 h; exact hp h)
  rw [e] at h
  rw [← h, Nat.add_sub_cancel, decide_eq_true (.inr hc)]
  rw [tagR_cons, if_pos hc]; rfl
theorem TgAt.char {s : ByteArray} {k : Nat} {f : Bool} (h : TgAt s k f) (hk : k < s.size) (hc : bt s k ≠ 45) (hg : (smlB (bt s k) || (!f && digB (bt s k))) = true) : TgAt s (k + 1) f := by
  unfold TgAt at *
  rw [bl_drop hk] at h
  rw [tagR_cons] at h
  rw [if_neg hc, hg, Bool.true_and] at h
  have e : decide (k + 1 = 0 ∨ bt s (k + 1 - 1) = 45) = false := decide_eq_false (by rintro (h | h); omega; exact hc h)
  rw [e, h]
theorem TgAt.twice {s : ByteArray} {k : Nat} {f : Bool} (h : TgAt s k f) (hk : k < s.size) (hp : bt s (k - 1) = 45) (hc : bt s k = 45) : false = tagB s := by
  unfold TgAt at h
  rw [bl_drop hk, decide_eq_true (.inr hp)] at h
  rw [tagR_cons] at h
  rw [if_pos hc] at h
  unfold tagB; rw [← h]; rfl
theorem TgAt.bad {s : ByteArray} {k : Nat} {f : Bool} (h : TgAt s k f) (hk : k < s.size) (hc : bt s k ≠ 45) (hg : (smlB (bt s k) || (!f && digB (bt s k))) = false) : false = tagB s := by
  unfold TgAt at h
  rw [bl_drop hk] at h
  rw [tagR_cons] at h
  rw [if_neg hc, hg] at h
  unfold tagB; rw [← h]; rfl
theorem TgAt.fin {s : ByteArray} {k : Nat} {f : Bool} (h : TgAt s k f) (hk : k = s.size) (h1 : 1 ≤ s.size) (h2 : s.size ≤ 35) (hl : bt s (s.size - 1) ≠ 45) : true = tagB s := by
  subst hk
  unfold TgAt at h
  rw [bl_end (Nat.le_refl _)] at h
  have e : decide (s.size = 0 ∨ bt s (s.size - 1) = 45) = false := decide_eq_false (by rintro (h | h); omega; exact hl h)
  rw [e] at h
  unfold tagB; rw [← h, decide_eq_true h2]; rfl
theorem tag_short {s : ByteArray} (h : ¬ (1 ≤ s.size ∧ s.size ≤ 35)) : false = tagB s := by
  unfold tagB
  by_cases h2 : s.size ≤ 35
  · have : bl s = [] := List.length_eq_zero_iff.1 (by rw [bl_length]; omega)
    rw [this]; rfl
  · rw [decide_eq_false h2]; simp
theorem tag_first {s : ByteArray} (h1 : 1 ≤ s.size) (h : bt s 0 = 45) : false = tagB s := by
  unfold tagB
  have := bl_drop (s := s) (k := 0) h1
  rw [List.drop_zero, h] at this
  rw [this]; rfl
theorem tag_last {s : ByteArray} (h1 : 1 ≤ s.size) (h : bt s (s.size - 1) = 45) : false = tagB s := by
  unfold tagB
  rw [tagR_last _ _ (l := bl s) (by
    rw [List.getLast?_eq_getElem?, bl_length, List.getElem?_eq_getElem (by rw [bl_length]; omega)]
    congr 1
    rw [← h, ← bl_getD, List.getD_eq_getElem?_getD, List.getElem?_eq_getElem (by rw [bl_length]; omega)]; rfl)]
  rfl

set_option maxRecDepth 100000 in
set_option maxHeartbeats 2000000 in
theorem rtag_any (s : ByteArray) (hs : s.size ≤ 9223372036854775807) (b : Bool) (hb : tagB s = b) (w : World) :
    Calls Tryd.prog 44 #[.string s] w fun e w' => e = .returned (.bool b) ∧ w = w' := by
  subst hb
  by_cases hz : 1 ≤ s.size ∧ s.size ≤ 35
  · obtain ⟨h1, h2⟩ := hz
    have gA : decide ((s.size : Int) < 1) = false := decide_eq_false (by omega)
    have gB : decide ((35 : Int) < s.size) = false := decide_eq_false (by omega)
    have gC : decide (35 < s.size) = false := decide_eq_false (by omega)
    have q0 : 0 < s.size := h1
    have q1 : s.size - 1 < s.size := by omega
    by_cases c0 : ((s[0].toNat : Nat) : Int) = 45
    · have Hn := Lib.hid (tag_first h1 (by rw [← bt_of q0]; exact c0))
      have e0 : (((s[0].toNat : Nat) : Int) == 45) = true := by rw [c0]; rfl
      go_enter Tryd.func44, Tryd.ntmps44
      go_wp2_with fail
      go_ret
      exact ⟨retB Hn.out, rfl⟩
    · have e0 : (((s[0].toNat : Nat) : Int) == 45) = false := beq_eq_false_iff_ne.2 c0
      by_cases c1 : ((s[s.size - 1].toNat : Nat) : Int) = 45
      · have Hn := Lib.hid (tag_last h1 (by rw [← bt_of q1]; exact c1))
        have e1 : (((s[s.size - 1].toNat : Nat) : Int) == 45) = true := by rw [c1]; rfl
        have C1 := Lib.hid c1; clear c1
        go_enter Tryd.func44, Tryd.ntmps44
        go_wp2_with fail
        go_ret
        exact ⟨retB Hn.out, rfl⟩
      · have e1 : (((s[s.size - 1].toNat : Nat) : Int) == 45) = false := beq_eq_false_iff_ne.2 c1
        have C1 := Lib.hid (show bt s (s.size - 1) ≠ 45 by rw [← bt_of q1]; exact c1)
        have C0 := Lib.hid (show bt s 0 ≠ 45 by rw [← bt_of q0]; exact c0)
        clear c0 c1
        go_enter Tryd.func44, Tryd.ntmps44
        go_wp2_with fail
        go_loop [3, 4] (fun f n => ∃ (fb : Bool) (k : Nat), k ≤ s.size ∧ f = .bool fb ∧ n = .int .i64 k ∧ TgAt s k fb) (fun _ n => s.size - (intOf n).toNat)
        case atStart => exact ⟨true, 0, by omega, rfl, rfl, TgAt.zero s⟩
        case round =>
          obtain ⟨fb, k, hk, rfl, rfl, hu⟩ := hrel
          have Hu := Lib.hid hu; clear hu
          clear e0 e1 gA gB gC
          by_cases hlt : k < s.size
          · have he := bt_of hlt
            have HE := Lib.hid he; clear he
            by_cases hc : ((s[k].toNat : Nat) : Int) = 45
            · have Hc := Lib.hid (show bt s k = 45 by rw [← HE.out]; exact hc)
              have e2 : (((s[k].toNat : Nat) : Int) == 45) = true := by rw [hc]; rfl
              have e3 : decide ((97 : Int) ≤ ((s[k].toNat : Nat) : Int)) = false := decide_eq_false (by omega)
              have hk0 : k ≠ 0 := by rintro rfl; exact C0.out Hc.out
              have Hk0 := Lib.hid hk0
              have hk1 : 1 ≤ k := by omega
              have hk2 : k - 1 < s.size := by omega
              have HE1 := Lib.hid (bt_of hk2)
              clear hc hk0
              by_cases hp : ((s[k - 1].toNat : Nat) : Int) = 45
              · have e4 : (((s[k - 1].toNat : Nat) : Int) == 45) = true := by rw [hp]; rfl
                have Hn := Lib.hid (Hu.out.twice hlt (by rw [← HE1.out]; exact hp) Hc.out)
                clear hp
                go_wp2_with fail
                go_ret
                exact ⟨retB Hn.out, rfl⟩
              · have e4 : (((s[k - 1].toNat : Nat) : Int) == 45) = false := beq_eq_false_iff_ne.2 hp
                have Hn := Lib.hid (Hu.out.dash hlt Hk0.out (by rw [← HE1.out]; exact hp) Hc.out)
                clear hp
                go_wp2_with fail
                refine ⟨⟨false, k + 1, by omega, rfl, by simp, Hn.out⟩, by simp [intOf]; omega⟩
            · have Hc := Lib.hid (show bt s k ≠ 45 by rw [← HE.out]; exact hc)
              have e2 : (((s[k].toNat : Nat) : Int) == 45) = false := beq_eq_false_iff_ne.2 hc
              obtain ⟨y, hy⟩ : ∃ y, digB ((s[k].toNat : Nat) : Int) = y := ⟨_, rfl⟩
              obtain ⟨x, hx⟩ : ∃ x, smlB ((s[k].toNat : Nat) : Int) = x := ⟨_, rfl⟩
              have Hy := Lib.hid hy; have Hx := Lib.hid hx
              clear hc hy hx
              have Hg : (x || (!fb && y)) = true → TgAt s (k + 1) fb := fun h => Hu.out.char hlt Hc.out (by rw [← HE.out, Hx.out, Hy.out]; exact h)
              have Hb : (x || (!fb && y)) = false → false = tagB s := fun h => Hu.out.bad hlt Hc.out (by rw [← HE.out, Hx.out, Hy.out]; exact h)
              have HG := Lib.hid Hg; have HB := Lib.hid Hb; clear Hg Hb
              cases x
              · have hsm : ¬ (97 ≤ ((s[k].toNat : Nat) : Int) ∧ ((s[k].toNat : Nat) : Int) ≤ 122) := fun h => by have := (smlB_iff _).2 h; rw [Hx.out] at this; cases this
                by_cases h97 : 97 ≤ ((s[k].toNat : Nat) : Int)
                · have h122 : ¬ ((s[k].toNat : Nat) : Int) ≤ 122 := fun h => hsm ⟨h97, h⟩
                  have d97 : decide ((97 : Int) ≤ ((s[k].toNat : Nat) : Int)) = true := decide_eq_true h97
                  have d122 : decide (((s[k].toNat : Nat) : Int) ≤ 122) = false := decide_eq_false h122
                  clear hsm h97 h122
                  cases fb
                  all_goals
                    cases y
                    all_goals
                      go_wp2_with (go_at_call 46; refine (rdigit_any ((s[k].toNat : Nat) : Int) _ Hy.out _).mono ?_; rintro e w' ⟨rfl, rfl⟩)
                      all_goals first
                        | (refine ⟨⟨_, k + 1, by omega, rfl, by simp, HG.out rfl⟩, by simp [intOf]; omega⟩)
                        | (go_ret; exact ⟨retB (HB.out rfl), rfl⟩)
                · have d97 : decide ((97 : Int) ≤ ((s[k].toNat : Nat) : Int)) = false := decide_eq_false h97
                  clear hsm h97
                  cases fb
                  all_goals
                    cases y
                    all_goals
                      go_wp2_with (go_at_call 46; refine (rdigit_any ((s[k].toNat : Nat) : Int) _ Hy.out _).mono ?_; rintro e w' ⟨rfl, rfl⟩)
                      all_goals first
                        | (refine ⟨⟨_, k + 1, by omega, rfl, by simp, HG.out rfl⟩, by simp [intOf]; omega⟩)
                        | (go_ret; exact ⟨retB (HB.out rfl), rfl⟩)
              · have hsm := (smlB_iff _).1 Hx.out
                obtain ⟨h97, h122⟩ := hsm
                go_wp2_with fail
                refine ⟨⟨_, k + 1, by omega, rfl, by simp, HG.out rfl⟩, by simp [intOf]; omega⟩
          · have Hn := Lib.hid (Hu.out.fin (by omega) h1 h2 C1.out)
            go_wp2_with fail
            go_ret
            exact ⟨retB Hn.out, rfl⟩
  · have Hn := Lib.hid (tag_short hz)
    go_enter Tryd.func44, Tryd.ntmps44
    by_cases h1 : s.size < 1
    · have gA : decide ((s.size : Int) < 1) = true := decide_eq_true (by omega)
      go_wp2_with fail
      go_ret
      exact ⟨retB Hn.out, rfl⟩
    · have gA : decide ((s.size : Int) < 1) = false := decide_eq_false (by omega)
      have gB : decide ((35 : Int) < s.size) = true := decide_eq_true (by omega)
      go_wp2_with fail
      go_ret
      exact ⟨retB Hn.out, rfl⟩
end Go.Proofs.YtmgaibeibfholaaDoor
