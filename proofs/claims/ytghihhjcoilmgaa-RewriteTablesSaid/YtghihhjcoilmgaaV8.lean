/- The heap sort at numbers of 32 bits, walked. -/
import Derived.Test.YtghihhjcoilmgaaV7
namespace Go.Proofs.Ytghihhjcoilmgaa
set_option maxRecDepth 100000
open Go.RowKit Go.Maps Go.Sort
set_option linter.unusedVariables false
set_option linter.unusedSimpArgs false

theorem hb_succ (hi F k : Nat) (d : Array Int) : heapBuild ltInt hi F (k + 1) d = heapBuild ltInt hi F k (siftDown ltInt hi F k d) := rfl
theorem hp_succ (F k : Nat) (d : Array Int) : heapPop ltInt F (k + 1) d = heapPop ltInt F k (siftDown ltInt k F 0 (swp d F (F + k))) := rfl
theorem half_is {a b : Nat} (hab : a < b) : ((b : Int) - (a : Int) - 1).tdiv 2 = (((b - a - 1) / 2 : Nat) : Int) := by
  rw [show (b : Int) - (a : Int) - 1 = ((b - a - 1 : Nat) : Int) by omega]
  rw [Int.tdiv_eq_ediv_of_nonneg (by omega)]
  omega
section
variable {w : World} {g n cap : Nat} {d : Array Int}
set_option maxRecDepth 100000 in
set_option maxHeartbeats 8000000 in
theorem heapSort_u (h : IsA w g n cap d) (hn6 : n ≤ 1000000) (a b : Nat) (hab : a < b) (hb : b ≤ n) : Calls Try.prog 55 #[.slice (some ⟨g, 0, none⟩) n cap, .int .i64 (a : Nat), .int .i64 (b : Nat)] w fun e w' => e = .returned (.tuple #[]) ∧ IsA w' g n cap (heapSort ltInt d a b) ∧ TnA w w' g := by
  have H := Lib.hid h
  have hh := half_is hab
  have hhw : IntKind.i64.wrap (((b : Int) - (a : Int) - 1).tdiv 2) = (((b - a - 1) / 2 : Nat) : Int) := by rw [hh]; exact i64w (by omega) (by omega)
  clear h
  go_enter Try.func55, Try.ntmps55
  go_wp2_with fail
  clear hh hhw
  go_loopw [9] (fun u wr => ∃ (k : Nat) (d1 : Array Int), u = .int .i64 ((k : Int) - 1) ∧ k ≤ (b - a - 1) / 2 + 1 ∧ IsA wr g n cap d1 ∧ TnA w wr g ∧ heapBuild ltInt (b - a) a k d1 = heapBuild ltInt (b - a) a ((b - a - 1) / 2 + 1) d) (fun u _ => (intOf u + 1).toNat)
  case atStart => exact ⟨(b - a - 1) / 2 + 1, d, by congr 1; omega, Nat.le_refl _, H.out, TnA.refl _ _, rfl⟩
  case round =>
    rename World => w1
    obtain ⟨k, d1, rfl, hk, hA, hT, he⟩ := hrel
    have HA := Lib.hid hA; have HT := Lib.hid hT; have He := Lib.hid he
    clear hA hT he
    by_cases hk0 : k = 0
    · subst hk0
      rw [show (((0 : Nat) : Int) - 1) = -1 from rfl]
      have HD0 : heapBuild ltInt (b - a) a ((b - a - 1) / 2 + 1) d = d1 := He.out.symm
      have HD := Lib.hid HD0
      clear HD0 He
      go_wp2_with fail
      go_loopw [10] (fun u wr => ∃ (k : Nat) (d2 : Array Int), u = .int .i64 ((k : Int) - 1) ∧ k ≤ b - a ∧ IsA wr g n cap d2 ∧ TnA w wr g ∧ heapPop ltInt a k d2 = heapPop ltInt a (b - a) d1) (fun u _ => (intOf u + 1).toNat)
      case atStart => exact ⟨b - a, d1, by congr 1; omega, Nat.le_refl _, HA.out, HT.out, rfl⟩
      case round =>
        rename World => w2
        obtain ⟨k, d2, rfl, hk2, hA, hT, he⟩ := hrel
        have HA2 := Lib.hid hA; have HT2 := Lib.hid hT; have He := Lib.hid he
        clear hA hT he
        by_cases hk0 : k = 0
        · subst hk0
          go_wp2_with fail
          (try simp only [Exit.inBlock, Exit.then]); refine bodyPost_end (results_none rfl _ _ _) rfl ?_
          refine ⟨rfl, ?_, HT2.out⟩
          unfold heapSort
          rw [HD.out, ← He.out]
          exact HA2.out
        · obtain ⟨m, rfl⟩ : ∃ m, k = m + 1 := ⟨k - 1, by omega⟩
          go_wp2_with fail
          have HA_X1 := Lib.hid (show IsA w2.drew g n cap d2 from HA2.out.stay rfl)
          have c0 : w2.drew.cell? ⟨g, a + m, none⟩ = some (.int .u32 d2[a + m]!) := (HA_X1.out.at (j := a + m) (by omega)).1
          have c1 : w2.drew.cell? ⟨g, a, none⟩ = some (.int .u32 d2[a]!) := (HA_X1.out.at (j := a) (by omega)).1
          obtain ⟨S10, hSe⟩ : ∃ S : Array Bool → World → Prop, S = fun L w' => L.getD 17 true = false → w' = w2.drew := ⟨_, rfl⟩
          have hdrop : ∀ i, i ≠ 17 → ∀ L w', S10 (L.setIfInBounds i true) w' → S10 L w' := by
            intro i hi L w'
            rw [hSe]
            intro h hl
            exact h (by rw [getD_set_ne true hi]; exact hl)
          have hS : ∀ L, S10 L w2.drew := by intro L; rw [hSe]; exact fun _ => rfl
          have hSo : ∀ {L w'}, S10 L w' → L.getD 17 true = false → w' = w2.drew := by intro L w' h hl; rw [hSe] at h; exact h hl
          have hSd : ∀ (L : Array Bool) X, L.getD 17 true = true → S10 L X := by
            intro L X h; rw [hSe]; intro h1; rw [h] at h1; cases h1
          clear hSe
          refine wp_region_LN S10 20 #[false, false, false, false, false, false, false, false, false, false, false, false, false, false, false, false, false, false, false, false] (by kernel_rfl) (by kernel_rfl) rfl ?_
          obtain ⟨X1, hX1⟩ : ∃ X1, X1 = w2.drew := ⟨_, rfl⟩
          rw [← hX1] at c0 c1 HA_X1 hSo hS ⊢
          have HX1 := Lib.hid hX1
          clear hX1
          refine WA.tk (i := 0) (v := .slice (some ⟨g, 0, none⟩) n cap) rfl (hdrop 0 (by decide)) (Or.inl ⟨by rfl, ?_⟩) (hS _) ?_
          · rintro w' ⟨L, hL, hSw, hun⟩
            go_simp
          simp only [nA, nB, nC, Act.put, nD, nE, nF]
          refine WA.tk (i := 1) (v := .int .i64 ((a : Nat) : Int)) rfl (hdrop 1 (by decide)) (Or.inl ⟨by rfl, ?_⟩) (hS _) ?_
          · rintro w' ⟨L, hL, hSw, hun⟩
            go_simp
            all_goals omega
          simp only [nA, nB, nC, Act.put, nD, nE, nF]
          refine WA.tk (i := 2) (v := .slice (some ⟨g, 0, none⟩) n cap) rfl (hdrop 2 (by decide)) (Or.inl ⟨by rfl, ?_⟩) (hS _) ?_
          · rintro w' ⟨L, hL, hSw, hun⟩
            go_simp
          simp only [nA, nB, nC, Act.put, nD, nE, nF]
          refine WA.tk (i := 3) (v := .int .i64 ((a : Nat) : Int)) rfl (hdrop 3 (by decide)) (Or.inl ⟨by rfl, ?_⟩) (hS _) ?_
          · rintro w' ⟨L, hL, hSw, hun⟩
            go_simp
            all_goals omega
          simp only [nA, nB, nC, Act.put, nD, nE, nF]
          refine WA.tk (i := 4) (v := .int .i64 ((m : Nat) : Int)) rfl (hdrop 4 (by decide)) (Or.inl ⟨by rfl, ?_⟩) (hS _) ?_
          · rintro w' ⟨L, hL, hSw, hun⟩
            go_simp
            all_goals omega
          simp only [nA, nB, nC, Act.put, nD, nE, nF]
          refine WA.tk (i := 5) (v := .int .i64 ((a + m : Nat) : Int)) rfl (hdrop 5 (by decide)) (Or.inl ⟨by rfl, ?_⟩) (hS _) ?_
          · rintro w' ⟨L, hL, hSw, hun⟩
            go_simp
            all_goals (exact i64w (by omega) (by omega))
          simp only [nA, nB, nC, Act.put, nD, nE, nF]
          refine WA.tk (i := 6) (v := .slice (some ⟨g, 0, none⟩) n cap) rfl (hdrop 6 (by decide)) (Or.inl ⟨by rfl, ?_⟩) (hS _) ?_
          · rintro w' ⟨L, hL, hSw, hun⟩
            go_simp
          simp only [nA, nB, nC, Act.put, nD, nE, nF]
          refine WA.tk (i := 7) (v := .int .i64 ((a : Nat) : Int)) rfl (hdrop 7 (by decide)) (Or.inl ⟨by rfl, ?_⟩) (hS _) ?_
          · rintro w' ⟨L, hL, hSw, hun⟩
            go_simp
            all_goals omega
          simp only [nA, nB, nC, Act.put, nD, nE, nF]
          refine WA.tk (i := 8) (v := .int .i64 ((m : Nat) : Int)) rfl (hdrop 8 (by decide)) (Or.inl ⟨by rfl, ?_⟩) (hS _) ?_
          · rintro w' ⟨L, hL, hSw, hun⟩
            go_simp
            all_goals omega
          simp only [nA, nB, nC, Act.put, nD, nE, nF]
          refine WA.tk (i := 9) (v := .int .i64 ((a + m : Nat) : Int)) rfl (hdrop 9 (by decide)) (Or.inl ⟨by rfl, ?_⟩) (hS _) ?_
          · rintro w' ⟨L, hL, hSw, hun⟩
            go_simp
            all_goals (exact i64w (by omega) (by omega))
          simp only [nA, nB, nC, Act.put, nD, nE, nF]
          refine WA.tk (i := 10) (v := .pointer (some ⟨g, a + m, none⟩)) rfl (hdrop 10 (by decide)) (Or.inl ⟨by rfl, ?_⟩) (hS _) ?_
          · rintro w' ⟨L, hL, hSw, hun⟩
            go_simp
            all_goals first | (intro h5; omega) | (rw [if_pos (by omega)]; exact ptrOk (by omega))
          simp only [nA, nB, nC, Act.put, nD, nE, nF]
          refine WA.tk (i := 11) (v := .int .u32 d2[a + m]!) rfl (hdrop 11 (by decide)) (Or.inl ⟨by rfl, ?_⟩) (hS _) ?_
          · rintro w' ⟨L, hL, hSw, hun⟩
            obtain rfl := hSo hSw (hL.wait 17 11 (by kernel_rfl) hun)
            go_simp
          simp only [nA, nB, nC, Act.put, nD, nE, nF]
          refine WA.tk (i := 12) (v := .slice (some ⟨g, 0, none⟩) n cap) rfl (hdrop 12 (by decide)) (Or.inl ⟨by rfl, ?_⟩) (hS _) ?_
          · rintro w' ⟨L, hL, hSw, hun⟩
            go_simp
          simp only [nA, nB, nC, Act.put, nD, nE, nF]
          refine WA.tk (i := 13) (v := .int .i64 ((a : Nat) : Int)) rfl (hdrop 13 (by decide)) (Or.inl ⟨by rfl, ?_⟩) (hS _) ?_
          · rintro w' ⟨L, hL, hSw, hun⟩
            go_simp
            all_goals omega
          simp only [nA, nB, nC, Act.put, nD, nE, nF]
          refine WA.tk (i := 14) (v := .pointer (some ⟨g, a, none⟩)) rfl (hdrop 14 (by decide)) (Or.inl ⟨by rfl, ?_⟩) (hS _) ?_
          · rintro w' ⟨L, hL, hSw, hun⟩
            go_simp
            all_goals first | (intro h5; omega) | (rw [if_pos (by omega)]; exact ptrOk (by omega))
          simp only [nA, nB, nC, Act.put, nD, nE, nF]
          refine WA.tk (i := 15) (v := .int .u32 d2[a]!) rfl (hdrop 15 (by decide)) (Or.inl ⟨by rfl, ?_⟩) (hS _) ?_
          · rintro w' ⟨L, hL, hSw, hun⟩
            obtain rfl := hSo hSw (hL.wait 17 15 (by kernel_rfl) hun)
            go_simp
          simp only [nA, nB, nC, Act.put, nD, nE, nF]
          refine WA.tk (i := 16) (v := .pointer (some ⟨g, a, none⟩)) rfl (hdrop 16 (by decide)) (Or.inl ⟨by rfl, ?_⟩) (hS _) ?_
          · rintro w' ⟨L, hL, hSw, hun⟩
            go_simp
            all_goals first | (intro h5; omega) | (rw [if_pos (by omega)]; exact ptrOk (by omega))
          simp only [nA, nB, nC, Act.put, nD, nE, nF]
          obtain ⟨cx, fx⟩ := HA_X1.out.at (j := a) (by omega)
          obtain ⟨cy, fy⟩ := (HA_X1.out.set (j := a) (by omega) d2[a + m]!).at (j := a + m) (by omega)
          refine WA.one (i := 17) (by kernel_rfl) rfl (by rfl) (fun K hK => ?_)
          go_simp
          refine hK _ _ (hSd _ _ (by rfl)) ?_
          clear hK
          try simp only [nA, nB, nC, Act.put, nD, nE, nF]
          refine WA.tk (i := 18) (v := .pointer (some ⟨g, a + m, none⟩)) rfl (hdrop 18 (by decide)) (Or.inl ⟨by rfl, ?_⟩) (hSd _ _ (by rfl)) ?_
          · rintro w' ⟨L, hL, hSw, hun⟩
            go_simp
            all_goals first | (intro h5; omega) | (rw [if_pos (by omega)]; exact ptrOk (by omega))
          simp only [nA, nB, nC, Act.put, nD, nE, nF]
          refine WA.one (i := 19) (by kernel_rfl) rfl (by rfl) (fun K hK => ?_)
          go_simp
          refine hK _ _ (hSd _ _ (by rfl)) ?_
          clear hK
          try simp only [nA, nB, nC, Act.put, nD, nE, nF]
          refine WA.done (by kernel_rfl) ?_ _
          refine Nrm.normal ?_
          clear hSo hS hdrop c0 c1 hSd cx fx cy fy
          clear S10
          have HA5 := Lib.hid (HA_X1.out.swp (i := a) (j := a + m) (by omega) (by omega))
          have ht5 := HT2.out.drew
          rw [← HX1.out] at ht5
          have HT5 := Lib.hid ((ht5.set a (.int .u32 d2[a + m]!)).set (a + m) (.int .u32 d2[a]!))
          clear ht5
          generalize (X1.setCell ⟨g, a, none⟩ (.int .u32 d2[a + m]!)).setCell ⟨g, a + m, none⟩ (.int .u32 d2[a]!) = w5 at *
          go_wp2_with fail
          refine (siftDown_u HA5.out hn6 0 m a (Nat.zero_le _) (by omega)).mono ?_
          rintro e w6 ⟨rfl, hA6, hT6⟩
          have HA6 := Lib.hid hA6; have HT6 := Lib.hid (HT5.out.trans hT6)
          clear hA6 hT6
          go_wp2_with fail
          refine ⟨⟨m, _, by first | rfl | (congr 1; push_cast; omega), by omega, HA6.out, HT6.out, ?_⟩, by simp [intOf]⟩
          rw [← He.out, hp_succ]
    · obtain ⟨m, rfl⟩ : ∃ m, k = m + 1 := ⟨k - 1, by omega⟩
      go_wp2_with fail
      have hc := siftDown_u HA.out hn6 m (b - a) a (by omega) (by omega)
      rw [show ((b - a : Nat) : Int) = (b : Int) - (a : Int) by omega] at hc
      refine hc.mono ?_
      rintro e w6 ⟨rfl, hA6, hT6⟩
      have HA6 := Lib.hid hA6; have HT6 := Lib.hid (HT.out.trans hT6)
      clear hA6 hT6 hc
      go_wp2_with fail
      refine ⟨⟨m, _, by first | rfl | (congr 1; push_cast; omega), by omega, HA6.out, HT6.out, ?_⟩, by simp [intOf]⟩
      rw [← He.out, hb_succ]
end
end Go.Proofs.Ytghihhjcoilmgaa
