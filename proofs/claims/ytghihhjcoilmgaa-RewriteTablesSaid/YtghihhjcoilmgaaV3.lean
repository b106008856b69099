/- Turning a row round; the median of three, walked. -/
import Derived.Test.YtghihhjcoilmgaaV2
namespace Go.Proofs.Ytghihhjcoilmgaa
set_option maxRecDepth 100000
open Go.RowKit Go.Maps Go.Sort
set_option linter.unusedVariables false
set_option linter.unusedSimpArgs false

theorem rev_go {i j : Nat} {d : Array Int} (h : i < j) : reverseLoop i j d = reverseLoop (i + 1) (j - 1) (swp d i j) := by rw [reverseLoop, if_pos h]
theorem rev_stop {i j : Nat} {d : Array Int} (h : ¬ i < j) : reverseLoop i j d = d := by rw [reverseLoop, if_neg h]
section
variable {w : World} {g n cap : Nat} {d : Array Int}
set_option maxRecDepth 100000 in
set_option maxHeartbeats 4000000 in
theorem reverse_u (h : IsA w g n cap d) (hn6 : n ≤ 1000000) (a b : Nat) (hab : a < b) (hb : b ≤ n) : Calls Try.prog 58 #[.slice (some ⟨g, 0, none⟩) n cap, .int .i64 (a : Nat), .int .i64 (b : Nat)] w fun e w' => e = .returned (.tuple #[]) ∧ IsA w' g n cap (reverseRange d a b) ∧ TnA w w' g := by
  have H := Lib.hid h
  clear h
  go_enter Try.func58, Try.ntmps58
  go_wp2_with fail
  go_loopw [6, 7] (fun u6 u7 wx => ∃ (i j : Nat) (d1 : Array Int), u6 = .int .i64 i ∧ u7 = .int .i64 j ∧ i ≤ n ∧ j < n ∧ IsA wx g n cap d1 ∧ TnA w wx g ∧ reverseLoop i j d1 = reverseLoop a (b - 1) d) (fun u6 u7 _ => (intOf u7).toNat)
  case atStart => exact ⟨a, b - 1, d, rfl, by congr 1; omega, by omega, by omega, H.out, TnA.refl _ _, rfl⟩
  case round =>
    rename World => wx
    obtain ⟨i, j, d1, rfl, rfl, hi, hj, hA, hT, he⟩ := hrel
    have HA := Lib.hid hA; have HT := Lib.hid hT; have He := Lib.hid he
    clear hA hT he
    by_cases hij : i < j
    · have hd : decide ((i : Int) < (j : Int)) = true := by simp; omega
      obtain ⟨k, rfl⟩ : ∃ k, j = k + 1 := ⟨j - 1, by omega⟩
      go_wp2_with fail
      have HA_X1 := Lib.hid (show IsA wx.drew g n cap d1 from HA.out.stay rfl)
      have c0 : wx.drew.cell? ⟨g, k + 1, none⟩ = some (.int .u32 d1[k + 1]!) := (HA_X1.out.at (j := k + 1) (by omega)).1
      have c1 : wx.drew.cell? ⟨g, i, none⟩ = some (.int .u32 d1[i]!) := (HA_X1.out.at (j := i) (by omega)).1
      obtain ⟨S3, hSe⟩ : ∃ S : Array Bool → World → Prop, S = fun L w' => L.getD 13 true = false → w' = wx.drew := ⟨_, rfl⟩
      have hdrop : ∀ i, i ≠ 13 → ∀ L w', S3 (L.setIfInBounds i true) w' → S3 L w' := by
        intro i hi L w'
        rw [hSe]
        intro h hl
        exact h (by rw [getD_set_ne true hi]; exact hl)
      have hS : ∀ L, S3 L wx.drew := by intro L; rw [hSe]; exact fun _ => rfl
      have hSo : ∀ {L w'}, S3 L w' → L.getD 13 true = false → w' = wx.drew := by intro L w' h hl; rw [hSe] at h; exact h hl
      have hSd : ∀ (L : Array Bool) X, L.getD 13 true = true → S3 L X := by
        intro L X h; rw [hSe]; intro h1; rw [h] at h1; cases h1
      clear hSe
      refine wp_region_LN S3 16 #[false, false, false, false, false, false, false, false, false, false, false, false, false, false, false, false] (by kernel_rfl) (by kernel_rfl) rfl ?_
      obtain ⟨X1, hX1⟩ : ∃ X1, X1 = wx.drew := ⟨_, rfl⟩
      rw [← hX1] at c0 c1 HA_X1 hSo hS ⊢
      have HX1 := Lib.hid hX1
      clear hX1
      refine WA.tk (i := 0) (v := .slice (some ⟨g, 0, none⟩) n cap) rfl (hdrop 0 (by decide)) (Or.inl ⟨by rfl, ?_⟩) (hS _) ?_
      · rintro w' ⟨L, hL, hSw, hun⟩
        go_simp
      simp only [nA, nB, nC, Act.put, nD, nE, nF]
      refine WA.tk (i := 1) (v := .int .i64 ((i : Nat) : Int)) rfl (hdrop 1 (by decide)) (Or.inl ⟨by rfl, ?_⟩) (hS _) ?_
      · rintro w' ⟨L, hL, hSw, hun⟩
        go_simp
      simp only [nA, nB, nC, Act.put, nD, nE, nF]
      refine WA.tk (i := 2) (v := .slice (some ⟨g, 0, none⟩) n cap) rfl (hdrop 2 (by decide)) (Or.inl ⟨by rfl, ?_⟩) (hS _) ?_
      · rintro w' ⟨L, hL, hSw, hun⟩
        go_simp
      simp only [nA, nB, nC, Act.put, nD, nE, nF]
      refine WA.tk (i := 3) (v := .int .i64 ((k + 1 : Nat) : Int)) rfl (hdrop 3 (by decide)) (Or.inl ⟨by rfl, ?_⟩) (hS _) ?_
      · rintro w' ⟨L, hL, hSw, hun⟩
        go_simp
      simp only [nA, nB, nC, Act.put, nD, nE, nF]
      refine WA.tk (i := 4) (v := .slice (some ⟨g, 0, none⟩) n cap) rfl (hdrop 4 (by decide)) (Or.inl ⟨by rfl, ?_⟩) (hS _) ?_
      · rintro w' ⟨L, hL, hSw, hun⟩
        go_simp
      simp only [nA, nB, nC, Act.put, nD, nE, nF]
      refine WA.tk (i := 5) (v := .int .i64 ((k + 1 : Nat) : Int)) rfl (hdrop 5 (by decide)) (Or.inl ⟨by rfl, ?_⟩) (hS _) ?_
      · rintro w' ⟨L, hL, hSw, hun⟩
        go_simp
      simp only [nA, nB, nC, Act.put, nD, nE, nF]
      refine WA.tk (i := 6) (v := .pointer (some ⟨g, k + 1, none⟩)) rfl (hdrop 6 (by decide)) (Or.inl ⟨by rfl, ?_⟩) (hS _) ?_
      · rintro w' ⟨L, hL, hSw, hun⟩
        go_simp
        all_goals (intro h5; omega)
      simp only [nA, nB, nC, Act.put, nD, nE, nF]
      refine WA.tk (i := 7) (v := .int .u32 d1[k + 1]!) rfl (hdrop 7 (by decide)) (Or.inl ⟨by rfl, ?_⟩) (hS _) ?_
      · rintro w' ⟨L, hL, hSw, hun⟩
        obtain rfl := hSo hSw (hL.wait 13 7 (by kernel_rfl) hun)
        go_simp
      simp only [nA, nB, nC, Act.put, nD, nE, nF]
      refine WA.tk (i := 8) (v := .slice (some ⟨g, 0, none⟩) n cap) rfl (hdrop 8 (by decide)) (Or.inl ⟨by rfl, ?_⟩) (hS _) ?_
      · rintro w' ⟨L, hL, hSw, hun⟩
        go_simp
      simp only [nA, nB, nC, Act.put, nD, nE, nF]
      refine WA.tk (i := 9) (v := .int .i64 ((i : Nat) : Int)) rfl (hdrop 9 (by decide)) (Or.inl ⟨by rfl, ?_⟩) (hS _) ?_
      · rintro w' ⟨L, hL, hSw, hun⟩
        go_simp
      simp only [nA, nB, nC, Act.put, nD, nE, nF]
      refine WA.tk (i := 10) (v := .pointer (some ⟨g, i, none⟩)) rfl (hdrop 10 (by decide)) (Or.inl ⟨by rfl, ?_⟩) (hS _) ?_
      · rintro w' ⟨L, hL, hSw, hun⟩
        go_simp
        all_goals (intro h5; omega)
      simp only [nA, nB, nC, Act.put, nD, nE, nF]
      refine WA.tk (i := 11) (v := .int .u32 d1[i]!) rfl (hdrop 11 (by decide)) (Or.inl ⟨by rfl, ?_⟩) (hS _) ?_
      · rintro w' ⟨L, hL, hSw, hun⟩
        obtain rfl := hSo hSw (hL.wait 13 11 (by kernel_rfl) hun)
        go_simp
      simp only [nA, nB, nC, Act.put, nD, nE, nF]
      refine WA.tk (i := 12) (v := .pointer (some ⟨g, i, none⟩)) rfl (hdrop 12 (by decide)) (Or.inl ⟨by rfl, ?_⟩) (hS _) ?_
      · rintro w' ⟨L, hL, hSw, hun⟩
        go_simp
        all_goals (intro h5; omega)
      simp only [nA, nB, nC, Act.put, nD, nE, nF]
      obtain ⟨cx, fx⟩ := HA_X1.out.at (j := i) (by omega)
      obtain ⟨cy, fy⟩ := (HA_X1.out.set (j := i) (by omega) d1[k + 1]!).at (j := k + 1) (by omega)
      refine WA.one (i := 13) (by kernel_rfl) rfl (by rfl) (fun K hK => ?_)
      go_simp
      refine hK _ _ (hSd _ _ (by rfl)) ?_
      clear hK
      try simp only [nA, nB, nC, Act.put, nD, nE, nF]
      refine WA.tk (i := 14) (v := .pointer (some ⟨g, k + 1, none⟩)) rfl (hdrop 14 (by decide)) (Or.inl ⟨by rfl, ?_⟩) (hSd _ _ (by rfl)) ?_
      · rintro w' ⟨L, hL, hSw, hun⟩
        go_simp
        all_goals (intro h5; omega)
      simp only [nA, nB, nC, Act.put, nD, nE, nF]
      refine WA.one (i := 15) (by kernel_rfl) rfl (by rfl) (fun K hK => ?_)
      go_simp
      refine hK _ _ (hSd _ _ (by rfl)) ?_
      clear hK
      try simp only [nA, nB, nC, Act.put, nD, nE, nF]
      refine WA.done (by kernel_rfl) ?_ _
      refine Nrm.normal ?_
      clear hSo hS hdrop c0 c1 hSd cx fx cy fy
      clear S3
      go_wp2_with fail
      refine ⟨⟨i + 1, k, swp d1 i (k + 1), by push_cast; rfl, by first | rfl | (congr 1; push_cast; omega), by omega, by omega, HA_X1.out.swp (by omega) (by omega), ?_, ?_⟩, by simp [intOf]⟩
      · have ht := HT.out.drew
        rw [← HX1.out] at ht
        exact (ht.set _ _).set _ _
      · rw [← He.out, rev_go hij]; rfl
    · have hd : decide ((i : Int) < (j : Int)) = false := by simp; omega
      go_wp2_with fail
      (try simp only [Exit.inBlock, Exit.then]); refine bodyPost_end (results_none rfl _ _ _) rfl ?_
      refine ⟨rfl, ?_, HT.out⟩
      have he := He.out
      rw [rev_stop hij] at he
      unfold reverseRange
      rw [← he]
      exact HA.out
set_option maxRecDepth 100000 in
set_option maxHeartbeats 4000000 in
theorem order2_u (h : IsA w g n cap d) (hn6 : n ≤ 1000000) (a b sb s : Nat) (ha : a < n) (hb : b < n) (hs : w.heap[sb]? = some (.cells #[.int .i64 ((s : Nat) : Int)] 3 (0, 0))) (hs6 : s ≤ 1000) : Calls Try.prog 71 #[.slice (some ⟨g, 0, none⟩) n cap, .int .i64 (a : Nat), .int .i64 (b : Nat), .pointer (some ⟨sb, 0, none⟩)] w fun e w' =>
    e = .returned (.tuple #[.int .i64 ((order2 ltInt d a b s).1 : Nat), .int .i64 ((order2 ltInt d a b s).2.1 : Nat)]) ∧ w'.heap[sb]? = some (.cells #[.int .i64 (((order2 ltInt d a b s).2.2 : Nat) : Int)] 3 (0, 0)) ∧ TnA w w' sb := by
  have HA := Lib.hid h
  have hcs : w.cell? ⟨sb, 0, none⟩ = some (.int .i64 (s : Nat)) ∧ w.frozen? ⟨sb, 0, none⟩ = false := by unfold World.cell? World.frozen?; rw [hs]; exact ⟨rfl, by simp⟩
  obtain ⟨hcs, hfs⟩ := hcs
  have Hs := Lib.hid hs
  obtain ⟨d1, hd1⟩ : ∃ d1, d1 = d := ⟨_, rfl⟩
  rw [← hd1] at HA ⊢
  clear h hs hd1
  cases hl : ltInt d1[b]! d1[a]!
  · have ho : order2 ltInt d1 a b s = (a, b, s) := by unfold order2; rw [hl]; rfl
    rw [ho]
    go_enter Try.func71, Try.ntmps71
    go_wp2_with fail
    have HA_X1 := Lib.hid (show IsA w.drew g n cap d1 from HA.out.stay rfl)
    have c0 : w.drew.cell? ⟨g, b, none⟩ = some (.int .u32 d1[b]!) := (HA_X1.out.at (j := b) (by omega)).1
    have c1 : w.drew.cell? ⟨g, a, none⟩ = some (.int .u32 d1[a]!) := (HA_X1.out.at (j := a) (by omega)).1
    obtain ⟨S1, hSe⟩ : ∃ S : Array Bool → World → Prop, S = fun _ w' => w' = w.drew := ⟨_, rfl⟩
    have hdrop : ∀ i : Nat, i ≠ 1000 → ∀ L w', S1 (L.setIfInBounds i true) w' → S1 L w' := by
      intro i _ L w' h; rw [hSe] at h ⊢; exact h
    have hS : ∀ L, S1 L w.drew := by intro L; rw [hSe]
    have hSo : ∀ {L w'}, S1 L w' → w' = w.drew := by intro L w' h; rw [hSe] at h; exact h
    clear hSe
    refine wp_region_LN S1 9 #[false, false, false, false, false, false, false, false, false] (by kernel_rfl) (by kernel_rfl) rfl ?_
    obtain ⟨X1, hX1⟩ : ∃ X1, X1 = w.drew := ⟨_, rfl⟩
    rw [← hX1] at c0 c1 HA_X1 hSo hS ⊢
    have HX1 := Lib.hid hX1
    clear hX1
    refine WA.tk (i := 0) (v := .slice (some ⟨g, 0, none⟩) n cap) rfl (hdrop 0 (by decide)) (Or.inl ⟨by rfl, ?_⟩) (hS _) ?_
    · rintro w' ⟨L, hL, hSw, hun⟩
      go_simp
    simp only [nA, nB, nC, Act.put, nD, nE, nF]
    refine WA.tk (i := 1) (v := .int .i64 ((b : Nat) : Int)) rfl (hdrop 1 (by decide)) (Or.inl ⟨by rfl, ?_⟩) (hS _) ?_
    · rintro w' ⟨L, hL, hSw, hun⟩
      go_simp
    simp only [nA, nB, nC, Act.put, nD, nE, nF]
    refine WA.tk (i := 2) (v := .pointer (some ⟨g, b, none⟩)) rfl (hdrop 2 (by decide)) (Or.inl ⟨by rfl, ?_⟩) (hS _) ?_
    · rintro w' ⟨L, hL, hSw, hun⟩
      go_simp
      all_goals (intro h5; omega)
    simp only [nA, nB, nC, Act.put, nD, nE, nF]
    refine WA.tk (i := 3) (v := .int .u32 d1[b]!) rfl (hdrop 3 (by decide)) (Or.inl ⟨by rfl, ?_⟩) (hS _) ?_
    · rintro w' ⟨L, hL, hSw, hun⟩
      obtain rfl := hSo hSw 
      go_simp
    simp only [nA, nB, nC, Act.put, nD, nE, nF]
    refine WA.tk (i := 4) (v := .slice (some ⟨g, 0, none⟩) n cap) rfl (hdrop 4 (by decide)) (Or.inl ⟨by rfl, ?_⟩) (hS _) ?_
    · rintro w' ⟨L, hL, hSw, hun⟩
      go_simp
    simp only [nA, nB, nC, Act.put, nD, nE, nF]
    refine WA.tk (i := 5) (v := .int .i64 ((a : Nat) : Int)) rfl (hdrop 5 (by decide)) (Or.inl ⟨by rfl, ?_⟩) (hS _) ?_
    · rintro w' ⟨L, hL, hSw, hun⟩
      go_simp
    simp only [nA, nB, nC, Act.put, nD, nE, nF]
    refine WA.tk (i := 6) (v := .pointer (some ⟨g, a, none⟩)) rfl (hdrop 6 (by decide)) (Or.inl ⟨by rfl, ?_⟩) (hS _) ?_
    · rintro w' ⟨L, hL, hSw, hun⟩
      go_simp
      all_goals (intro h5; omega)
    simp only [nA, nB, nC, Act.put, nD, nE, nF]
    refine WA.tk (i := 7) (v := .int .u32 d1[a]!) rfl (hdrop 7 (by decide)) (Or.inl ⟨by rfl, ?_⟩) (hS _) ?_
    · rintro w' ⟨L, hL, hSw, hun⟩
      obtain rfl := hSo hSw 
      go_simp
    simp only [nA, nB, nC, Act.put, nD, nE, nF]
    refine WA.one (i := 8) (by kernel_rfl) rfl (by rfl) (fun K hK => ?_)
    go_simp
    refine (less_u _ _).mono ?_
    rintro e w_ ⟨rfl, hw_⟩
    subst hw_
    rw [hl]
    refine hK _ _ (hS _) ?_
    clear hK
    try simp only [nA, nB, nC, Act.put, nD, nE, nF]
    refine WA.done (by kernel_rfl) ?_ _
    refine Nrm.normal ?_
    clear hSo hS hdrop c0 c1
    clear S1
    go_wp2_with fail
    go_ret2
    exact ⟨rfl, by rw [HX1.out]; exact Hs.out, by rw [HX1.out]; exact (TnA.refl _ _).drew⟩
  · have ho : order2 ltInt d1 a b s = (b, a, s + 1) := by unfold order2; rw [hl]; rfl
    rw [ho]
    go_enter Try.func71, Try.ntmps71
    go_wp2_with fail
    have HA_X1 := Lib.hid (show IsA w.drew g n cap d1 from HA.out.stay rfl)
    have c0 : w.drew.cell? ⟨g, b, none⟩ = some (.int .u32 d1[b]!) := (HA_X1.out.at (j := b) (by omega)).1
    have c1 : w.drew.cell? ⟨g, a, none⟩ = some (.int .u32 d1[a]!) := (HA_X1.out.at (j := a) (by omega)).1
    obtain ⟨S1, hSe⟩ : ∃ S : Array Bool → World → Prop, S = fun _ w' => w' = w.drew := ⟨_, rfl⟩
    have hdrop : ∀ i : Nat, i ≠ 1000 → ∀ L w', S1 (L.setIfInBounds i true) w' → S1 L w' := by
      intro i _ L w' h; rw [hSe] at h ⊢; exact h
    have hS : ∀ L, S1 L w.drew := by intro L; rw [hSe]
    have hSo : ∀ {L w'}, S1 L w' → w' = w.drew := by intro L w' h; rw [hSe] at h; exact h
    clear hSe
    refine wp_region_LN S1 9 #[false, false, false, false, false, false, false, false, false] (by kernel_rfl) (by kernel_rfl) rfl ?_
    obtain ⟨X1, hX1⟩ : ∃ X1, X1 = w.drew := ⟨_, rfl⟩
    rw [← hX1] at c0 c1 HA_X1 hSo hS ⊢
    have HX1 := Lib.hid hX1
    clear hX1
    refine WA.tk (i := 0) (v := .slice (some ⟨g, 0, none⟩) n cap) rfl (hdrop 0 (by decide)) (Or.inl ⟨by rfl, ?_⟩) (hS _) ?_
    · rintro w' ⟨L, hL, hSw, hun⟩
      go_simp
    simp only [nA, nB, nC, Act.put, nD, nE, nF]
    refine WA.tk (i := 1) (v := .int .i64 ((b : Nat) : Int)) rfl (hdrop 1 (by decide)) (Or.inl ⟨by rfl, ?_⟩) (hS _) ?_
    · rintro w' ⟨L, hL, hSw, hun⟩
      go_simp
    simp only [nA, nB, nC, Act.put, nD, nE, nF]
    refine WA.tk (i := 2) (v := .pointer (some ⟨g, b, none⟩)) rfl (hdrop 2 (by decide)) (Or.inl ⟨by rfl, ?_⟩) (hS _) ?_
    · rintro w' ⟨L, hL, hSw, hun⟩
      go_simp
      all_goals (intro h5; omega)
    simp only [nA, nB, nC, Act.put, nD, nE, nF]
    refine WA.tk (i := 3) (v := .int .u32 d1[b]!) rfl (hdrop 3 (by decide)) (Or.inl ⟨by rfl, ?_⟩) (hS _) ?_
    · rintro w' ⟨L, hL, hSw, hun⟩
      obtain rfl := hSo hSw 
      go_simp
    simp only [nA, nB, nC, Act.put, nD, nE, nF]
    refine WA.tk (i := 4) (v := .slice (some ⟨g, 0, none⟩) n cap) rfl (hdrop 4 (by decide)) (Or.inl ⟨by rfl, ?_⟩) (hS _) ?_
    · rintro w' ⟨L, hL, hSw, hun⟩
      go_simp
    simp only [nA, nB, nC, Act.put, nD, nE, nF]
    refine WA.tk (i := 5) (v := .int .i64 ((a : Nat) : Int)) rfl (hdrop 5 (by decide)) (Or.inl ⟨by rfl, ?_⟩) (hS _) ?_
    · rintro w' ⟨L, hL, hSw, hun⟩
      go_simp
    simp only [nA, nB, nC, Act.put, nD, nE, nF]
    refine WA.tk (i := 6) (v := .pointer (some ⟨g, a, none⟩)) rfl (hdrop 6 (by decide)) (Or.inl ⟨by rfl, ?_⟩) (hS _) ?_
    · rintro w' ⟨L, hL, hSw, hun⟩
      go_simp
      all_goals (intro h5; omega)
    simp only [nA, nB, nC, Act.put, nD, nE, nF]
    refine WA.tk (i := 7) (v := .int .u32 d1[a]!) rfl (hdrop 7 (by decide)) (Or.inl ⟨by rfl, ?_⟩) (hS _) ?_
    · rintro w' ⟨L, hL, hSw, hun⟩
      obtain rfl := hSo hSw 
      go_simp
    simp only [nA, nB, nC, Act.put, nD, nE, nF]
    refine WA.one (i := 8) (by kernel_rfl) rfl (by rfl) (fun K hK => ?_)
    go_simp
    refine (less_u _ _).mono ?_
    rintro e w_ ⟨rfl, hw_⟩
    subst hw_
    rw [hl]
    refine hK _ _ (hS _) ?_
    clear hK
    try simp only [nA, nB, nC, Act.put, nD, nE, nF]
    refine WA.done (by kernel_rfl) ?_ _
    refine Nrm.normal ?_
    clear hSo hS hdrop c0 c1
    clear S1
    have hcs : X1.cell? ⟨sb, 0, none⟩ = some (.int .i64 (s : Nat)) := by rw [HX1.out]; exact hcs
    have hfs : X1.frozen? ⟨sb, 0, none⟩ = false := by rw [HX1.out]; exact hfs
    go_wp2_with fail
    go_ret2
    have hX : X1.heap[sb]? = some (.cells #[.int .i64 ((s : Nat) : Int)] 3 (0, 0)) := by rw [HX1.out]; exact Hs.out
    have ht : TnA w X1 sb := by rw [HX1.out]; exact (TnA.refl _ _).drew
    refine ⟨rfl, ?_, ht.set _ _⟩
    have h5 : ∀ v, (X1.setCell ⟨sb, 0, none⟩ v).heap[sb]? = some (.cells #[v] 3 (0, 0)) := by
      intro v
      unfold World.setCell
      simp only [Array.getElem?_modify, if_true, hX]
      rfl
    rw [h5]
    push_cast
    rfl
theorem order2_lt {d : Array Int} {a b s n : Nat} (ha : a < n) (hb : b < n) : (order2 ltInt d a b s).1 < n ∧ (order2 ltInt d a b s).2.1 < n ∧ (order2 ltInt d a b s).2.2 ≤ s + 1 := by
  unfold order2
  split
  · exact ⟨hb, ha, Nat.le_refl _⟩
  · exact ⟨ha, hb, Nat.le_succ _⟩
set_option maxRecDepth 100000 in
set_option maxHeartbeats 4000000 in
theorem median_u (h : IsA w g n cap d) (hn6 : n ≤ 1000000) (a b c sb s : Nat) (ha : a < n) (hb : b < n) (hc : c < n) (hs : w.heap[sb]? = some (.cells #[.int .i64 ((s : Nat) : Int)] 3 (0, 0))) (hs6 : s ≤ 900) : Calls Try.prog 69 #[.slice (some ⟨g, 0, none⟩) n cap, .int .i64 (a : Nat), .int .i64 (b : Nat), .int .i64 (c : Nat), .pointer (some ⟨sb, 0, none⟩)] w fun e w' =>
    e = .returned (.int .i64 ((median ltInt d a b c s).1 : Nat)) ∧ w'.heap[sb]? = some (.cells #[.int .i64 (((median ltInt d a b c s).2 : Nat) : Int)] 3 (0, 0)) ∧ TnA w w' sb := by
  have hne : g ≠ sb := by
    obtain ⟨cur, h1, _⟩ := h.cells
    rintro rfl
    rw [hs] at h1; injection h1 with h1; injection h1 with _ h2; exact absurd h2 (by decide)
  unfold median
  obtain ⟨⟨a1, b1, s1⟩, h1⟩ : ∃ x, order2 ltInt d a b s = x := ⟨_, rfl⟩
  obtain ⟨l1, l2, l3⟩ := order2_lt (d := d) (s := s) ha hb
  rw [h1] at l1 l2 l3
  simp only at l1 l2 l3
  obtain ⟨⟨b2, c2, s2⟩, h2⟩ : ∃ x, order2 ltInt d b1 c s1 = x := ⟨_, rfl⟩
  obtain ⟨m1, m2, m3⟩ := order2_lt (d := d) (s := s1) l2 hc
  rw [h2] at m1 m2 m3
  simp only at m1 m2 m3
  obtain ⟨⟨a3, b3, s3⟩, h3⟩ : ∃ x, order2 ltInt d a1 b2 s2 = x := ⟨_, rfl⟩
  simp only [h1, h2, h3]
  have HA0 := Lib.hid h; have Hs0 := Lib.hid hs; have HT0 := Lib.hid (TnA.refl w sb); have H1 := Lib.hid h1; have H2 := Lib.hid h2; have H3 := Lib.hid h3
  clear h hs h1 h2 h3
  go_enter Try.func69, Try.ntmps69
  go_wp2_with fail
  have hc1 := order2_u HA0.out hn6 a b sb s (by omega) (by omega) Hs0.out (by omega)
  rw [H1.out] at hc1
  refine hc1.mono ?_
  rintro e w1 ⟨rfl, hs1, ht1⟩
  have Hs1 := Lib.hid hs1; have HT1 := Lib.hid (HT0.out.trans ht1); have HA1 := Lib.hid (HA0.out.stay (ht1.same g HA0.out.lt hne))
  clear hs1 ht1 hc1
  go_wp2_with fail
  have hc2 := order2_u HA1.out hn6 b1 c sb s1 (by omega) (by omega) Hs1.out (by omega)
  rw [H2.out] at hc2
  refine hc2.mono ?_
  rintro e w2 ⟨rfl, hs2, ht2⟩
  have Hs2 := Lib.hid hs2; have HT2 := Lib.hid (HT1.out.trans ht2); have HA2 := Lib.hid (HA1.out.stay (ht2.same g HA1.out.lt hne))
  clear hs2 ht2 hc2
  go_wp2_with fail
  have hc3 := order2_u HA2.out hn6 a1 b2 sb s2 (by omega) (by omega) Hs2.out (by omega)
  rw [H3.out] at hc3
  refine hc3.mono ?_
  rintro e w3 ⟨rfl, hs3, ht3⟩
  have Hs3 := Lib.hid hs3; have HT3 := Lib.hid (HT2.out.trans ht3)
  clear hs3 ht3 hc3
  go_wp2_with fail
  go_ret
  exact ⟨rfl, Hs3.out, HT3.out⟩
theorem median_lt {d : Array Int} {a b c s n : Nat} (ha : a < n) (hb : b < n) (hc : c < n) : (median ltInt d a b c s).1 < n ∧ (median ltInt d a b c s).2 ≤ s + 3 := by
  unfold median
  obtain ⟨l1, l2, l3⟩ := order2_lt (d := d) (s := s) ha hb
  obtain ⟨m1, m2, m3⟩ := order2_lt (d := d) (s := (order2 ltInt d a b s).2.2) l2 hc
  obtain ⟨k1, k2, k3⟩ := order2_lt (d := d) (s := (order2 ltInt d (order2 ltInt d a b s).2.1 c (order2 ltInt d a b s).2.2).2.2) l1 m1
  refine ⟨k2, ?_⟩
  show (order2 ltInt d (order2 ltInt d a b s).1 (order2 ltInt d (order2 ltInt d a b s).2.1 c (order2 ltInt d a b s).2.2).1 (order2 ltInt d (order2 ltInt d a b s).2.1 c (order2 ltInt d a b s).2.2).2.2).2.2 ≤ s + 3
  have e := Nat.le_trans k3 (Nat.add_le_add_right (Nat.le_trans m3 (Nat.add_le_add_right l3 1)) 1)
  exact e
set_option maxRecDepth 100000 in
set_option maxHeartbeats 4000000 in
theorem medianAdj_u (h : IsA w g n cap d) (hn6 : n ≤ 1000000) (a sb s : Nat) (ha0 : 1 ≤ a) (ha : a + 1 < n) (hs : w.heap[sb]? = some (.cells #[.int .i64 ((s : Nat) : Int)] 3 (0, 0))) (hs6 : s ≤ 900) : Calls Try.prog 68 #[.slice (some ⟨g, 0, none⟩) n cap, .int .i64 (a : Nat), .pointer (some ⟨sb, 0, none⟩)] w fun e w' =>
    e = .returned (.int .i64 ((medianAdjacent ltInt d a s).1 : Nat)) ∧ w'.heap[sb]? = some (.cells #[.int .i64 (((medianAdjacent ltInt d a s).2 : Nat) : Int)] 3 (0, 0)) ∧ TnA w w' sb := by
  obtain ⟨a, rfl⟩ : ∃ a', a = a' + 1 := ⟨a - 1, by omega⟩
  have HA := Lib.hid h; have Hs := Lib.hid hs
  clear h hs
  go_enter Try.func68, Try.ntmps68
  go_wp2_with fail
  have hc := median_u HA.out hn6 a (a + 1) (a + 1 + 1) sb s (by omega) (by omega) (by omega) Hs.out hs6
  rw [show ((a + 1 : Nat) : Int) = (a : Int) + 1 by push_cast; rfl, show ((a + 1 + 1 : Nat) : Int) = (a : Int) + 1 + 1 by push_cast; rfl] at hc
  refine hc.mono ?_
  rintro e w1 ⟨rfl, hs1, ht1⟩
  have Hs1 := Lib.hid hs1; have HT1 := Lib.hid ht1
  clear hs1 ht1 hc
  go_wp2_with fail
  go_ret
  exact ⟨rfl, Hs1.out, HT1.out⟩
end
end Go.Proofs.Ytghihhjcoilmgaa
