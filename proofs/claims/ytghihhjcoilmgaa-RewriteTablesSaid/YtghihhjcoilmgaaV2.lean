/- The insertion sort at numbers of 32 bits, walked. -/
import Derived.Test.YtghihhjcoilmgaaV1
import Derived.IntWalk
namespace Go.Proofs.Ytghihhjcoilmgaa
set_option maxRecDepth 100000
open Go.RowKit Go.Maps Go.Sort
set_option linter.unusedVariables false
set_option linter.unusedSimpArgs false

theorem i64w {x : Int} (h : -9223372036854775808 ≤ x) (h' : x ≤ 9223372036854775807) : IntKind.i64.wrap x = x := IntWalk.i64_in x ⟨h, h'⟩
theorem ins_go {a k : Nat} {d : Array Int} (hk : a < k + 1) (hl : ltInt d[k + 1]! d[k]! = true) : insInner ltInt a (k + 1) d = insInner ltInt a k (swp d (k + 1) k) := by
  rw [insInner]
  simp only [hl, Bool.and_true, gt_iff_lt, decide_eq_true_eq, if_pos hk]
theorem ins_stop {a k : Nat} {d : Array Int} (hl : ltInt d[k + 1]! d[k]! = false) : insInner ltInt a (k + 1) d = d := by
  rw [insInner]
  simp [hl]
theorem ins_low (a : Nat) (d : Array Int) : insInner ltInt a a d = d := by
  cases a with
  | zero => rfl
  | succ a => rw [insInner]; simp
theorem insO_go {a b i : Nat} {d : Array Int} (h : i < b) : insOuter ltInt a b i d = insOuter ltInt a b (i + 1) (insInner ltInt a i d) := by rw [insOuter, if_pos h]
theorem insO_stop {a b i : Nat} {d : Array Int} (h : ¬ i < b) : insOuter ltInt a b i d = d := by rw [insOuter, if_neg h]
section
variable {w : World} {g n cap : Nat} {d : Array Int}
set_option maxRecDepth 100000 in
set_option maxHeartbeats 4000000 in
theorem insertion_u (h : IsA w g n cap d) (hn6 : n ≤ 1000000) (a b : Nat) (hab : a ≤ b) (hb : b ≤ n) : Calls Try.prog 54 #[.slice (some ⟨g, 0, none⟩) n cap, .int .i64 (a : Nat), .int .i64 (b : Nat)] w fun e w' => e = .returned (.tuple #[]) ∧ IsA w' g n cap (insertionSort ltInt d a b) ∧ TnA w w' g := by
  have H := Lib.hid h
  clear h
  go_enter Try.func54, Try.ntmps54
  go_wp2_with fail
  go_loopw [6] (fun u wr => ∃ (i : Nat) (d0 : Array Int), u = .int .i64 i ∧ a + 1 ≤ i ∧ (i ≤ b ∨ i = a + 1) ∧ IsA wr g n cap d0 ∧ TnA w wr g ∧ insOuter ltInt a b i d0 = insOuter ltInt a b (a + 1) d) (fun u _ => b - (intOf u).toNat)
  case atStart => exact ⟨a + 1, d, by push_cast; rfl, Nat.le_refl _, .inr rfl, H.out, TnA.refl _ _, rfl⟩
  case round =>
    obtain ⟨i, d0, rfl, hai, hib, hA, hT, he⟩ := hrel
    have HA0 := Lib.hid hA; have HT0 := Lib.hid hT; have He := Lib.hid he
    clear hA hT he
    by_cases hlt : i < b
    · have hdi : decide ((i : Int) < (b : Int)) = true := by simp; omega
      go_wp2_with fail
      go_loopw [7] (fun u wx => ∃ (j : Nat) (d1 : Array Int), u = .int .i64 j ∧ a ≤ j ∧ j ≤ i ∧ IsA wx g n cap d1 ∧ TnA w wx g ∧ insInner ltInt a j d1 = insInner ltInt a i d0) (fun u _ => (intOf u).toNat)
      case atStart => exact ⟨i, d0, rfl, by omega, Nat.le_refl _, HA0.out, HT0.out, rfl⟩
      case round =>
        rename World => wx
        obtain ⟨j, d1, rfl, haj, hji, hA, hT, he⟩ := hrel
        have HA := Lib.hid hA; have HT := Lib.hid hT; have He1 := Lib.hid he
        clear hA hT he
        by_cases hja : a < j
        · have hdj : decide ((j : Int) > (a : Int)) = true := by simp; omega
          obtain ⟨k, rfl⟩ : ∃ k, j = k + 1 := ⟨j - 1, by omega⟩
          have hk0 : ((k + 1 : Nat) : Int) - 1 = (k : Int) := by push_cast; omega
          cases hl : ltInt d1[k + 1]! d1[k]!
          · go_wp2_with fail
            have c0 : wx.drew.cell? ⟨g, k + 1, none⟩ = some (.int .u32 d1[k + 1]!) := (HA.out.at (j := k + 1) (by omega)).1
            have c1 : wx.drew.cell? ⟨g, k, none⟩ = some (.int .u32 d1[k]!) := (HA.out.at (j := k) (by omega)).1
            obtain ⟨S4, hSe⟩ : ∃ S : Array Bool → World → Prop, S = fun _ w' => w' = wx.drew := ⟨_, rfl⟩
            have hdrop : ∀ i : Nat, i ≠ 1000 → ∀ L w', S4 (L.setIfInBounds i true) w' → S4 L w' := by
              intro i _ L w' h; rw [hSe] at h ⊢; exact h
            have hS : ∀ L, S4 L wx.drew := by intro L; rw [hSe]
            have hSo : ∀ {L w'}, S4 L w' → w' = wx.drew := by intro L w' h; rw [hSe] at h; exact h
            clear hSe
            refine wp_region_LN S4 15 #[false, false, false, false, false, false, false, false, false, false, false, false, false, false, false] (by kernel_rfl) (by kernel_rfl) rfl ?_
            obtain ⟨X1, hX1⟩ : ∃ X1, X1 = wx.drew := ⟨_, rfl⟩
            rw [← hX1] at c0 c1 hSo hS ⊢
            have HX1 := Lib.hid hX1
            clear hX1
            refine WA.tk (i := 0) (v := .int .i64 ((k + 1 : Nat) : Int)) rfl (hdrop 0 (by decide)) (Or.inl ⟨by rfl, ?_⟩) (hS _) ?_
            · rintro w' ⟨L, hL, hSw, hun⟩
              go_simp
            simp only [nA, nB, nC, Act.put, nD, nE, nF]
            refine WA.tk (i := 1) (v := .int .i64 (a : Nat)) rfl (hdrop 1 (by decide)) (Or.inl ⟨by rfl, ?_⟩) (hS _) ?_
            · rintro w' ⟨L, hL, hSw, hun⟩
              go_simp
            simp only [nA, nB, nC, Act.put, nD, nE, nF]
            refine WA.tk (i := 2) (v := .bool true) rfl (hdrop 2 (by decide)) (Or.inl ⟨by rfl, ?_⟩) (hS _) ?_
            · rintro w' ⟨L, hL, hSw, hun⟩
              go_simp
              omega
            simp only [nA, nB, nC, Act.put, nD, nE, nF]
            refine WA.tk (i := 3) (v := .bool true) rfl (hdrop 3 (by decide)) (Or.inl ⟨by rfl, ?_⟩) (hS _) ?_
            · rintro w' ⟨L, hL, hSw, hun⟩
              go_simp
            simp only [nA, nB, nC, Act.put, nD, nE, nF]
            refine WA.tk (i := 4) (v := .slice (some ⟨g, 0, none⟩) n cap) rfl (hdrop 4 (by decide)) (Or.inl ⟨by rfl, ?_⟩) (hS _) ?_
            · rintro w' ⟨L, hL, hSw, hun⟩
              go_simp
            simp only [nA, nB, nC, Act.put, nD, nE, nF]
            refine WA.tk (i := 5) (v := .int .i64 ((k + 1 : Nat) : Int)) rfl (hdrop 5 (by decide)) (Or.inl ⟨by rfl, ?_⟩) (hS _) ?_
            · rintro w' ⟨L, hL, hSw, hun⟩
              go_simp
            simp only [nA, nB, nC, Act.put, nD, nE, nF]
            refine WA.tk (i := 6) (v := .pointer (some ⟨g, k + 1, none⟩)) rfl (hdrop 6 (by decide)) (Or.inl ⟨by rfl, ?_⟩) (hS _) ?_
            · rintro w' ⟨L, hL, hSw, hun⟩
              go_simp
              intro h5; omega
            simp only [nA, nB, nC, Act.put, nD, nE, nF]
            refine WA.tk (i := 7) (v := .int .u32 d1[k + 1]!) rfl (hdrop 7 (by decide)) (Or.inl ⟨by rfl, ?_⟩) (hS _) ?_
            · rintro w' ⟨L, hL, hSw, hun⟩
              obtain rfl := hSo hSw 
              go_simp
            simp only [nA, nB, nC, Act.put, nD, nE, nF]
            refine WA.tk (i := 8) (v := .slice (some ⟨g, 0, none⟩) n cap) rfl (hdrop 8 (by decide)) (Or.inl ⟨by rfl, ?_⟩) (hS _) ?_
            · rintro w' ⟨L, hL, hSw, hun⟩
              go_simp
            simp only [nA, nB, nC, Act.put, nD, nE, nF]
            refine WA.tk (i := 9) (v := .int .i64 ((k + 1 : Nat) : Int)) rfl (hdrop 9 (by decide)) (Or.inl ⟨by rfl, ?_⟩) (hS _) ?_
            · rintro w' ⟨L, hL, hSw, hun⟩
              go_simp
            simp only [nA, nB, nC, Act.put, nD, nE, nF]
            refine WA.tk (i := 10) (v := .int .i64 ((k : Nat) : Int)) rfl (hdrop 10 (by decide)) (Or.inl ⟨by rfl, ?_⟩) (hS _) ?_
            · rintro w' ⟨L, hL, hSw, hun⟩
              go_simp
              exact i64w (by omega) (by omega)
            simp only [nA, nB, nC, Act.put, nD, nE, nF]
            refine WA.tk (i := 11) (v := .pointer (some ⟨g, k, none⟩)) rfl (hdrop 11 (by decide)) (Or.inl ⟨by rfl, ?_⟩) (hS _) ?_
            · rintro w' ⟨L, hL, hSw, hun⟩
              go_simp
              intro h5; omega
            simp only [nA, nB, nC, Act.put, nD, nE, nF]
            refine WA.tk (i := 12) (v := .int .u32 d1[k]!) rfl (hdrop 12 (by decide)) (Or.inl ⟨by rfl, ?_⟩) (hS _) ?_
            · rintro w' ⟨L, hL, hSw, hun⟩
              obtain rfl := hSo hSw 
              go_simp
            simp only [nA, nB, nC, Act.put, nD, nE, nF]
            refine WA.one (i := 13) (by kernel_rfl) rfl (by rfl) (fun K hK => ?_)
            go_simp
            refine (less_u _ _).mono ?_
            rintro e w_ ⟨rfl, hw_⟩
            subst hw_
            rw [hl]
            refine hK _ _ (hS _) ?_
            clear hK
            try simp only [nA, nB, nC, Act.put, nD, nE, nF]
            refine WA.tk (i := 14) (v := .bool false) rfl (hdrop 14 (by decide)) (Or.inl ⟨by rfl, ?_⟩) (hS _) ?_
            · rintro w' ⟨L, hL, hSw, hun⟩
              go_simp
            simp only [nA, nB, nC, Act.put, nD, nE, nF]
            refine WA.done (by kernel_rfl) ?_ _
            refine Nrm.normal ?_
            clear hSo hS hdrop c0 c1
            clear S4
            go_wp2_with fail
            refine ⟨⟨i + 1, d1, by push_cast; rfl, by omega, by omega, ?_, ?_, ?_⟩, by simp [intOf]; omega⟩
            · rw [HX1.out]; exact HA.out.stay rfl
            · rw [HX1.out]; exact HT.out.drew
            · rw [← He.out, insO_go hlt, ← He1.out, ins_stop hl]
          · go_wp2_with fail
            have c0 : wx.drew.cell? ⟨g, k + 1, none⟩ = some (.int .u32 d1[k + 1]!) := (HA.out.at (j := k + 1) (by omega)).1
            have c1 : wx.drew.cell? ⟨g, k, none⟩ = some (.int .u32 d1[k]!) := (HA.out.at (j := k) (by omega)).1
            obtain ⟨S4, hSe⟩ : ∃ S : Array Bool → World → Prop, S = fun _ w' => w' = wx.drew := ⟨_, rfl⟩
            have hdrop : ∀ i : Nat, i ≠ 1000 → ∀ L w', S4 (L.setIfInBounds i true) w' → S4 L w' := by
              intro i _ L w' h; rw [hSe] at h ⊢; exact h
            have hS : ∀ L, S4 L wx.drew := by intro L; rw [hSe]
            have hSo : ∀ {L w'}, S4 L w' → w' = wx.drew := by intro L w' h; rw [hSe] at h; exact h
            clear hSe
            refine wp_region_LN S4 15 #[false, false, false, false, false, false, false, false, false, false, false, false, false, false, false] (by kernel_rfl) (by kernel_rfl) rfl ?_
            obtain ⟨X1, hX1⟩ : ∃ X1, X1 = wx.drew := ⟨_, rfl⟩
            rw [← hX1] at c0 c1 hSo hS ⊢
            have HX1 := Lib.hid hX1
            clear hX1
            refine WA.tk (i := 0) (v := .int .i64 ((k + 1 : Nat) : Int)) rfl (hdrop 0 (by decide)) (Or.inl ⟨by rfl, ?_⟩) (hS _) ?_
            · rintro w' ⟨L, hL, hSw, hun⟩
              go_simp
            simp only [nA, nB, nC, Act.put, nD, nE, nF]
            refine WA.tk (i := 1) (v := .int .i64 (a : Nat)) rfl (hdrop 1 (by decide)) (Or.inl ⟨by rfl, ?_⟩) (hS _) ?_
            · rintro w' ⟨L, hL, hSw, hun⟩
              go_simp
            simp only [nA, nB, nC, Act.put, nD, nE, nF]
            refine WA.tk (i := 2) (v := .bool true) rfl (hdrop 2 (by decide)) (Or.inl ⟨by rfl, ?_⟩) (hS _) ?_
            · rintro w' ⟨L, hL, hSw, hun⟩
              go_simp
              omega
            simp only [nA, nB, nC, Act.put, nD, nE, nF]
            refine WA.tk (i := 3) (v := .bool true) rfl (hdrop 3 (by decide)) (Or.inl ⟨by rfl, ?_⟩) (hS _) ?_
            · rintro w' ⟨L, hL, hSw, hun⟩
              go_simp
            simp only [nA, nB, nC, Act.put, nD, nE, nF]
            refine WA.tk (i := 4) (v := .slice (some ⟨g, 0, none⟩) n cap) rfl (hdrop 4 (by decide)) (Or.inl ⟨by rfl, ?_⟩) (hS _) ?_
            · rintro w' ⟨L, hL, hSw, hun⟩
              go_simp
            simp only [nA, nB, nC, Act.put, nD, nE, nF]
            refine WA.tk (i := 5) (v := .int .i64 ((k + 1 : Nat) : Int)) rfl (hdrop 5 (by decide)) (Or.inl ⟨by rfl, ?_⟩) (hS _) ?_
            · rintro w' ⟨L, hL, hSw, hun⟩
              go_simp
            simp only [nA, nB, nC, Act.put, nD, nE, nF]
            refine WA.tk (i := 6) (v := .pointer (some ⟨g, k + 1, none⟩)) rfl (hdrop 6 (by decide)) (Or.inl ⟨by rfl, ?_⟩) (hS _) ?_
            · rintro w' ⟨L, hL, hSw, hun⟩
              go_simp
              intro h5; omega
            simp only [nA, nB, nC, Act.put, nD, nE, nF]
            refine WA.tk (i := 7) (v := .int .u32 d1[k + 1]!) rfl (hdrop 7 (by decide)) (Or.inl ⟨by rfl, ?_⟩) (hS _) ?_
            · rintro w' ⟨L, hL, hSw, hun⟩
              obtain rfl := hSo hSw 
              go_simp
            simp only [nA, nB, nC, Act.put, nD, nE, nF]
            refine WA.tk (i := 8) (v := .slice (some ⟨g, 0, none⟩) n cap) rfl (hdrop 8 (by decide)) (Or.inl ⟨by rfl, ?_⟩) (hS _) ?_
            · rintro w' ⟨L, hL, hSw, hun⟩
              go_simp
            simp only [nA, nB, nC, Act.put, nD, nE, nF]
            refine WA.tk (i := 9) (v := .int .i64 ((k + 1 : Nat) : Int)) rfl (hdrop 9 (by decide)) (Or.inl ⟨by rfl, ?_⟩) (hS _) ?_
            · rintro w' ⟨L, hL, hSw, hun⟩
              go_simp
            simp only [nA, nB, nC, Act.put, nD, nE, nF]
            refine WA.tk (i := 10) (v := .int .i64 ((k : Nat) : Int)) rfl (hdrop 10 (by decide)) (Or.inl ⟨by rfl, ?_⟩) (hS _) ?_
            · rintro w' ⟨L, hL, hSw, hun⟩
              go_simp
              exact i64w (by omega) (by omega)
            simp only [nA, nB, nC, Act.put, nD, nE, nF]
            refine WA.tk (i := 11) (v := .pointer (some ⟨g, k, none⟩)) rfl (hdrop 11 (by decide)) (Or.inl ⟨by rfl, ?_⟩) (hS _) ?_
            · rintro w' ⟨L, hL, hSw, hun⟩
              go_simp
              intro h5; omega
            simp only [nA, nB, nC, Act.put, nD, nE, nF]
            refine WA.tk (i := 12) (v := .int .u32 d1[k]!) rfl (hdrop 12 (by decide)) (Or.inl ⟨by rfl, ?_⟩) (hS _) ?_
            · rintro w' ⟨L, hL, hSw, hun⟩
              obtain rfl := hSo hSw 
              go_simp
            simp only [nA, nB, nC, Act.put, nD, nE, nF]
            refine WA.one (i := 13) (by kernel_rfl) rfl (by rfl) (fun K hK => ?_)
            go_simp
            refine (less_u _ _).mono ?_
            rintro e w_ ⟨rfl, hw_⟩
            subst hw_
            rw [hl]
            refine hK _ _ (hS _) ?_
            clear hK
            try simp only [nA, nB, nC, Act.put, nD, nE, nF]
            refine WA.tk (i := 14) (v := .bool true) rfl (hdrop 14 (by decide)) (Or.inl ⟨by rfl, ?_⟩) (hS _) ?_
            · rintro w' ⟨L, hL, hSw, hun⟩
              go_simp
            simp only [nA, nB, nC, Act.put, nD, nE, nF]
            refine WA.done (by kernel_rfl) ?_ _
            refine Nrm.normal ?_
            clear hSo hS hdrop c0 c1
            clear S4
            go_wp2_with fail
            have HA1 := Lib.hid (show IsA X1 g n cap d1 by rw [HX1.out]; exact HA.out.stay rfl)
            have c0 : X1.drew.cell? ⟨g, k + 1, none⟩ = some (.int .u32 d1[k + 1]!) := (HA1.out.at (j := k + 1) (by omega)).1
            have c1 : X1.drew.cell? ⟨g, k, none⟩ = some (.int .u32 d1[k]!) := (HA1.out.at (j := k) (by omega)).1
            obtain ⟨S6, hSe⟩ : ∃ S : Array Bool → World → Prop, S = fun L w' => L.getD 15 true = false → w' = X1.drew := ⟨_, rfl⟩
            have hdrop : ∀ i, i ≠ 15 → ∀ L w', S6 (L.setIfInBounds i true) w' → S6 L w' := by
              intro i hi L w'
              rw [hSe]
              intro h hl
              exact h (by rw [getD_set_ne true hi]; exact hl)
            have hS : ∀ L, S6 L X1.drew := by intro L; rw [hSe]; exact fun _ => rfl
            have hSo : ∀ {L w'}, S6 L w' → L.getD 15 true = false → w' = X1.drew := by intro L w' h hl; rw [hSe] at h; exact h hl
            have hSd : ∀ (L : Array Bool) X, L.getD 15 true = true → S6 L X := by
              intro L X h; rw [hSe]; intro h1; rw [h] at h1; cases h1
            clear hSe
            refine wp_region_LN S6 18 #[false, false, false, false, false, false, false, false, false, false, false, false, false, false, false, false, false, false] (by kernel_rfl) (by kernel_rfl) rfl ?_
            obtain ⟨X2, hX2⟩ : ∃ X2, X2 = X1.drew := ⟨_, rfl⟩
            rw [← hX2] at c0 c1 hSo hS ⊢
            have HX2 := Lib.hid hX2
            clear hX2
            refine WA.tk (i := 0) (v := .slice (some ⟨g, 0, none⟩) n cap) rfl (hdrop 0 (by decide)) (Or.inl ⟨by rfl, ?_⟩) (hS _) ?_
            · rintro w' ⟨L, hL, hSw, hun⟩
              go_simp
            simp only [nA, nB, nC, Act.put, nD, nE, nF]
            refine WA.tk (i := 1) (v := .int .i64 ((k + 1 : Nat) : Int)) rfl (hdrop 1 (by decide)) (Or.inl ⟨by rfl, ?_⟩) (hS _) ?_
            · rintro w' ⟨L, hL, hSw, hun⟩
              go_simp
            simp only [nA, nB, nC, Act.put, nD, nE, nF]
            refine WA.tk (i := 2) (v := .slice (some ⟨g, 0, none⟩) n cap) rfl (hdrop 2 (by decide)) (Or.inl ⟨by rfl, ?_⟩) (hS _) ?_
            · rintro w' ⟨L, hL, hSw, hun⟩
              go_simp
            simp only [nA, nB, nC, Act.put, nD, nE, nF]
            refine WA.tk (i := 3) (v := .int .i64 ((k + 1 : Nat) : Int)) rfl (hdrop 3 (by decide)) (Or.inl ⟨by rfl, ?_⟩) (hS _) ?_
            · rintro w' ⟨L, hL, hSw, hun⟩
              go_simp
            simp only [nA, nB, nC, Act.put, nD, nE, nF]
            refine WA.tk (i := 4) (v := .int .i64 ((k : Nat) : Int)) rfl (hdrop 4 (by decide)) (Or.inl ⟨by rfl, ?_⟩) (hS _) ?_
            · rintro w' ⟨L, hL, hSw, hun⟩
              go_simp
              exact i64w (by omega) (by omega)
            simp only [nA, nB, nC, Act.put, nD, nE, nF]
            refine WA.tk (i := 5) (v := .slice (some ⟨g, 0, none⟩) n cap) rfl (hdrop 5 (by decide)) (Or.inl ⟨by rfl, ?_⟩) (hS _) ?_
            · rintro w' ⟨L, hL, hSw, hun⟩
              go_simp
            simp only [nA, nB, nC, Act.put, nD, nE, nF]
            refine WA.tk (i := 6) (v := .int .i64 ((k + 1 : Nat) : Int)) rfl (hdrop 6 (by decide)) (Or.inl ⟨by rfl, ?_⟩) (hS _) ?_
            · rintro w' ⟨L, hL, hSw, hun⟩
              go_simp
            simp only [nA, nB, nC, Act.put, nD, nE, nF]
            refine WA.tk (i := 7) (v := .int .i64 ((k : Nat) : Int)) rfl (hdrop 7 (by decide)) (Or.inl ⟨by rfl, ?_⟩) (hS _) ?_
            · rintro w' ⟨L, hL, hSw, hun⟩
              go_simp
              exact i64w (by omega) (by omega)
            simp only [nA, nB, nC, Act.put, nD, nE, nF]
            refine WA.tk (i := 8) (v := .pointer (some ⟨g, k, none⟩)) rfl (hdrop 8 (by decide)) (Or.inl ⟨by rfl, ?_⟩) (hS _) ?_
            · rintro w' ⟨L, hL, hSw, hun⟩
              go_simp
              intro h5; omega
            simp only [nA, nB, nC, Act.put, nD, nE, nF]
            refine WA.tk (i := 9) (v := .int .u32 d1[k]!) rfl (hdrop 9 (by decide)) (Or.inl ⟨by rfl, ?_⟩) (hS _) ?_
            · rintro w' ⟨L, hL, hSw, hun⟩
              obtain rfl := hSo hSw (hL.wait 15 9 (by kernel_rfl) hun)
              go_simp
            simp only [nA, nB, nC, Act.put, nD, nE, nF]
            refine WA.tk (i := 10) (v := .slice (some ⟨g, 0, none⟩) n cap) rfl (hdrop 10 (by decide)) (Or.inl ⟨by rfl, ?_⟩) (hS _) ?_
            · rintro w' ⟨L, hL, hSw, hun⟩
              go_simp
            simp only [nA, nB, nC, Act.put, nD, nE, nF]
            refine WA.tk (i := 11) (v := .int .i64 ((k + 1 : Nat) : Int)) rfl (hdrop 11 (by decide)) (Or.inl ⟨by rfl, ?_⟩) (hS _) ?_
            · rintro w' ⟨L, hL, hSw, hun⟩
              go_simp
            simp only [nA, nB, nC, Act.put, nD, nE, nF]
            refine WA.tk (i := 12) (v := .pointer (some ⟨g, k + 1, none⟩)) rfl (hdrop 12 (by decide)) (Or.inl ⟨by rfl, ?_⟩) (hS _) ?_
            · rintro w' ⟨L, hL, hSw, hun⟩
              go_simp
              intro h5; omega
            simp only [nA, nB, nC, Act.put, nD, nE, nF]
            refine WA.tk (i := 13) (v := .int .u32 d1[k + 1]!) rfl (hdrop 13 (by decide)) (Or.inl ⟨by rfl, ?_⟩) (hS _) ?_
            · rintro w' ⟨L, hL, hSw, hun⟩
              obtain rfl := hSo hSw (hL.wait 15 13 (by kernel_rfl) hun)
              go_simp
            simp only [nA, nB, nC, Act.put, nD, nE, nF]
            refine WA.tk (i := 14) (v := .pointer (some ⟨g, k + 1, none⟩)) rfl (hdrop 14 (by decide)) (Or.inl ⟨by rfl, ?_⟩) (hS _) ?_
            · rintro w' ⟨L, hL, hSw, hun⟩
              go_simp
              intro h5; omega
            simp only [nA, nB, nC, Act.put, nD, nE, nF]
            have HX := Lib.hid (show IsA X2 g n cap d1 by rw [HX2.out]; exact HA1.out.stay rfl)
            obtain ⟨cx, fx⟩ := HX.out.at (j := k + 1) (by omega)
            obtain ⟨cy, fy⟩ := (HX.out.set (j := k + 1) (by omega) d1[k]!).at (j := k) (by omega)
            refine WA.one (i := 15) (by kernel_rfl) rfl (by rfl) (fun K hK => ?_)
            go_simp
            refine hK _ _ (hSd _ _ (by rfl)) ?_
            clear hK
            try simp only [nA, nB, nC, Act.put, nD, nE, nF]
            refine WA.tk (i := 16) (v := .pointer (some ⟨g, k, none⟩)) rfl (hdrop 16 (by decide)) (Or.inl ⟨by rfl, ?_⟩) (hSd _ _ (by rfl)) ?_
            · rintro w' ⟨L, hL, hSw, hun⟩
              go_simp
              intro h5; omega
            simp only [nA, nB, nC, Act.put, nD, nE, nF]
            refine WA.one (i := 17) (by kernel_rfl) rfl (by rfl) (fun K hK => ?_)
            go_simp
            refine hK _ _ (hSd _ _ (by rfl)) ?_
            clear hK
            try simp only [nA, nB, nC, Act.put, nD, nE, nF]
            refine WA.done (by kernel_rfl) ?_ _
            refine Nrm.normal ?_
            clear hSo hS hSd hdrop c0 c1 cx fx cy fy
            clear S6
            go_wp2_with fail
            refine ⟨⟨k, swp d1 (k + 1) k, by first | rfl | (congr 1; omega), by omega, by omega, HX.out.swp (by omega) (by omega), ?_, ?_⟩, by simp [intOf]⟩
            · have ht := HT.out.drew
              rw [← HX1.out] at ht
              have ht := ht.drew
              rw [← HX2.out] at ht
              exact (ht.set _ _).set _ _
            · rw [← He1.out, ins_go (by omega) hl]
        · have haj' : j = a := by omega
          subst haj'
          have hdj : decide ((j : Int) > (j : Int)) = false := by simp
          go_wp2_with fail
          obtain ⟨S4, hSe⟩ : ∃ S : Array Bool → World → Prop, S = fun _ w' => w' = wx.drew := ⟨_, rfl⟩
          have hdrop : ∀ i : Nat, i ≠ 1000 → ∀ L w', S4 (L.setIfInBounds i true) w' → S4 L w' := by
            intro i _ L w' h; rw [hSe] at h ⊢; exact h
          have hS : ∀ L, S4 L wx.drew := by intro L; rw [hSe]
          have hSo : ∀ {L w'}, S4 L w' → w' = wx.drew := by intro L w' h; rw [hSe] at h; exact h
          clear hSe
          refine wp_region_LN S4 15 #[false, false, false, false, false, false, false, false, false, false, false, false, false, false, false] (by kernel_rfl) (by kernel_rfl) rfl ?_
          obtain ⟨X1, hX1⟩ : ∃ X1, X1 = wx.drew := ⟨_, rfl⟩
          rw [← hX1] at hSo hS ⊢
          have HX1 := Lib.hid hX1
          clear hX1
          refine WA.tk (i := 0) (v := .int .i64 (j : Nat)) rfl (hdrop 0 (by decide)) (Or.inl ⟨by rfl, ?_⟩) (hS _) ?_
          · rintro w' ⟨L, hL, hSw, hun⟩
            go_simp
          simp only [nA, nB, nC, Act.put, nD, nE, nF]
          refine WA.tk (i := 1) (v := .int .i64 (j : Nat)) rfl (hdrop 1 (by decide)) (Or.inl ⟨by rfl, ?_⟩) (hS _) ?_
          · rintro w' ⟨L, hL, hSw, hun⟩
            go_simp
          simp only [nA, nB, nC, Act.put, nD, nE, nF]
          refine WA.tk (i := 2) (v := .bool false) rfl (hdrop 2 (by decide)) (Or.inl ⟨by rfl, ?_⟩) (hS _) ?_
          · rintro w' ⟨L, hL, hSw, hun⟩
            go_simp
          simp only [nA, nB, nC, Act.put, nD, nE, nF]
          refine WA.tk (i := 3) (v := .bool false) rfl (hdrop 3 (by decide)) (Or.inl ⟨by rfl, ?_⟩) (hS _) ?_
          · rintro w' ⟨L, hL, hSw, hun⟩
            go_simp
          simp only [nA, nB, nC, Act.put, nD, nE, nF]
          refine WA.tk (i := 4) (v := undef) rfl (hdrop 4 (by decide)) (Or.inr ⟨by rfl, rfl⟩) (hS _) ?_
          simp only [nA, nB, nC, Act.put, nD, nE, nF]
          refine WA.tk (i := 5) (v := undef) rfl (hdrop 5 (by decide)) (Or.inr ⟨by rfl, rfl⟩) (hS _) ?_
          simp only [nA, nB, nC, Act.put, nD, nE, nF]
          refine WA.tk (i := 6) (v := undef) rfl (hdrop 6 (by decide)) (Or.inr ⟨by rfl, rfl⟩) (hS _) ?_
          simp only [nA, nB, nC, Act.put, nD, nE, nF]
          refine WA.tk (i := 7) (v := undef) rfl (hdrop 7 (by decide)) (Or.inr ⟨by rfl, rfl⟩) (hS _) ?_
          simp only [nA, nB, nC, Act.put, nD, nE, nF]
          refine WA.tk (i := 8) (v := undef) rfl (hdrop 8 (by decide)) (Or.inr ⟨by rfl, rfl⟩) (hS _) ?_
          simp only [nA, nB, nC, Act.put, nD, nE, nF]
          refine WA.tk (i := 9) (v := undef) rfl (hdrop 9 (by decide)) (Or.inr ⟨by rfl, rfl⟩) (hS _) ?_
          simp only [nA, nB, nC, Act.put, nD, nE, nF]
          refine WA.tk (i := 10) (v := undef) rfl (hdrop 10 (by decide)) (Or.inr ⟨by rfl, rfl⟩) (hS _) ?_
          simp only [nA, nB, nC, Act.put, nD, nE, nF]
          refine WA.tk (i := 11) (v := undef) rfl (hdrop 11 (by decide)) (Or.inr ⟨by rfl, rfl⟩) (hS _) ?_
          simp only [nA, nB, nC, Act.put, nD, nE, nF]
          refine WA.tk (i := 12) (v := undef) rfl (hdrop 12 (by decide)) (Or.inr ⟨by rfl, rfl⟩) (hS _) ?_
          simp only [nA, nB, nC, Act.put, nD, nE, nF]
          refine WA.skip (i := 13) (by kernel_rfl) rfl (by rfl) (hS _) ?_
          simp only [nA, nB, nC, Act.put, nD, nE, nF]
          refine WA.tk (i := 14) (v := .bool false) rfl (hdrop 14 (by decide)) (Or.inl ⟨by rfl, ?_⟩) (hS _) ?_
          · rintro w' ⟨L, hL, hSw, hun⟩
            go_simp
          simp only [nA, nB, nC, Act.put, nD, nE, nF]
          refine WA.done (by kernel_rfl) ?_ _
          refine Nrm.normal ?_
          clear hSo hS hdrop
          clear S4
          go_wp2_with fail
          refine ⟨⟨i + 1, d1, by push_cast; rfl, by omega, by omega, ?_, ?_, ?_⟩, by simp [intOf]; omega⟩
          · rw [HX1.out]; exact HA.out.stay rfl
          · rw [HX1.out]; exact HT.out.drew
          · rw [← He.out, insO_go hlt, ← He1.out, ins_low]
    · have hdi : decide ((i : Int) < (b : Int)) = false := by simp; omega
      go_wp2_with fail
      (try simp only [Exit.inBlock, Exit.then]); refine bodyPost_end (results_none rfl _ _ _) rfl ?_
      refine ⟨rfl, ?_, HT0.out⟩
      unfold insertionSort
      rw [← He.out, insO_stop hlt]
      exact HA0.out
end
end Go.Proofs.Ytghihhjcoilmgaa
