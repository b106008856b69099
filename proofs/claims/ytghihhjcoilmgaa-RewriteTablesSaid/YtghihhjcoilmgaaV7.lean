/- Sifting down in a heap, walked. -/
import Derived.Test.YtghihhjcoilmgaaV2
namespace Go.Proofs.Ytghihhjcoilmgaa
set_option maxRecDepth 100000
open Go.RowKit Go.Maps Go.Sort
set_option linter.unusedVariables false
set_option linter.unusedSimpArgs false

theorem ptrOk {g k : Nat} {x : Int} {w' : World} (h : x = (k : Int)) : (Result.ok (Next.value (Value.pointer (some { block := g, off := x.toNat }))) w' : Result Next) = Result.ok (Next.value (Value.pointer (some { block := g, off := k }))) w' := by
  subst h
  rfl
theorem sift_end {hi F root : Nat} {d : Array Int} (h : hi ≤ 2 * root + 1) : siftDown ltInt hi F root d = d := by rw [siftDown, dif_pos h]
theorem sift_right {hi F root : Nat} {d : Array Int} (h1 : 2 * root + 2 < hi) (h2 : ltInt d[F + (2 * root + 1)]! d[F + (2 * root + 1) + 1]! = true) : siftDown ltInt hi F root d = if ltInt d[F + root]! d[F + (2 * root + 2)]! = true then siftDown ltInt hi F (2 * root + 2) (swp d (F + root) (F + (2 * root + 2))) else d := by
  rw [siftDown, dif_neg (by omega), if_pos (by simp only [h2, Bool.and_true, decide_eq_true_eq]; omega)]
  cases h3 : ltInt d[F + root]! d[F + (2 * root + 2)]!
  · simp
  · simp [h1]
theorem sift_left {hi F root : Nat} {d : Array Int} (h0 : 2 * root + 1 < hi) (h1 : 2 * root + 2 < hi → ltInt d[F + (2 * root + 1)]! d[F + (2 * root + 1) + 1]! = false) : siftDown ltInt hi F root d = if ltInt d[F + root]! d[F + (2 * root + 1)]! = true then siftDown ltInt hi F (2 * root + 1) (swp d (F + root) (F + (2 * root + 1))) else d := by
  rw [siftDown, dif_neg (by omega), if_neg (by
    intro h5
    simp only [Bool.and_eq_true, decide_eq_true_eq] at h5
    rw [h1 (by omega)] at h5
    exact absurd h5.2 (by simp))]
  cases h3 : ltInt d[F + root]! d[F + (2 * root + 1)]! <;> simp
section
variable {w : World} {g n cap : Nat} {d : Array Int}
set_option maxRecDepth 100000 in
set_option maxHeartbeats 8000000 in
theorem siftDown_u (h : IsA w g n cap d) (hn6 : n ≤ 1000000) (lo hi F : Nat) (hlo : lo ≤ hi) (hb : F + hi ≤ n) : Calls Try.prog 65 #[.slice (some ⟨g, 0, none⟩) n cap, .int .i64 (lo : Nat), .int .i64 (hi : Nat), .int .i64 (F : Nat)] w fun e w' => e = .returned (.tuple #[]) ∧ IsA w' g n cap (siftDown ltInt hi F lo d) ∧ TnA w w' g := by
  have H := Lib.hid h
  clear h
  go_enter Try.func65, Try.ntmps65
  go_wp2_with fail
  go_loopw [8] (fun u wr => ∃ (root : Nat) (d1 : Array Int), u = .int .i64 root ∧ IsA wr g n cap d1 ∧ TnA w wr g ∧ root ≤ hi ∧ siftDown ltInt hi F root d1 = siftDown ltInt hi F lo d) (fun u _ => hi - (intOf u).toNat)
  case atStart => exact ⟨lo, d, rfl, H.out, TnA.refl _ _, hlo, rfl⟩
  case round =>
    rename World => w1
    obtain ⟨root, d1, rfl, hA, hT, hrh, he⟩ := hrel
    have HA := Lib.hid hA; have HT := Lib.hid hT; have He := Lib.hid he
    clear hA hT he
    by_cases hc : hi ≤ 2 * root + 1
    · have hd : decide ((2 : Int) * (root : Int) + 1 ≥ (hi : Int)) = true := by simp; omega
      have hd' : decide ((hi : Int) ≤ (2 : Int) * (root : Int) + 1) = true := by simp; omega
      go_wp2_with fail
      (try simp only [Exit.inBlock, Exit.then]); refine bodyPost_end (results_none rfl _ _ _) rfl ?_
      refine ⟨rfl, ?_, HT.out⟩
      rw [← He.out, sift_end hc]
      exact HA.out
    · have hd : decide ((2 : Int) * (root : Int) + 1 ≥ (hi : Int)) = false := by simp; omega
      have hd' : decide ((hi : Int) ≤ (2 : Int) * (root : Int) + 1) = false := by simp; omega
      by_cases hr : 2 * root + 2 < hi
      · cases hl : ltInt d1[F + (2 * root + 1)]! d1[F + (2 * root + 1) + 1]!
        · have Hlm := Lib.hid (sift_left (F := F) (root := root) (hi := hi) (d := d1) (by omega) (fun _ => hl))
          go_wp2_with fail
          have HA_X3 := Lib.hid (show IsA w1.drew g n cap d1 from HA.out.stay rfl)
          have c0 : w1.drew.cell? ⟨g, F + (2 * root + 1), none⟩ = some (.int .u32 d1[F + (2 * root + 1)]!) := (HA_X3.out.at (j := F + (2 * root + 1)) (by omega)).1
          have c1 : w1.drew.cell? ⟨g, F + (2 * root + 1) + 1, none⟩ = some (.int .u32 d1[F + (2 * root + 1) + 1]!) := (HA_X3.out.at (j := F + (2 * root + 1) + 1) (by omega)).1
          obtain ⟨S3, hSe⟩ : ∃ S : Array Bool → World → Prop, S = fun _ w' => w' = w1.drew := ⟨_, rfl⟩
          have hdrop : ∀ i : Nat, i ≠ 1000 → ∀ L w', S3 (L.setIfInBounds i true) w' → S3 L w' := by
            intro i _ L w' h; rw [hSe] at h ⊢; exact h
          have hS : ∀ L, S3 L w1.drew := by intro L; rw [hSe]
          have hSo : ∀ {L w'}, S3 L w' → w' = w1.drew := by intro L w' h; rw [hSe] at h; exact h
          clear hSe
          refine wp_region_LN S3 20 #[false, false, false, false, false, false, false, false, false, false, false, false, false, false, false, false, false, false, false, false] (by kernel_rfl) (by kernel_rfl) rfl ?_
          obtain ⟨X3, hX3⟩ : ∃ X3, X3 = w1.drew := ⟨_, rfl⟩
          rw [← hX3] at c0 c1 HA_X3 hSo hS ⊢
          have HX3 := Lib.hid hX3
          clear hX3
          refine WA.tk (i := 0) (v := .int .i64 ((2 * root + 1 : Nat) : Int)) rfl (hdrop 0 (by decide)) (Or.inl ⟨by rfl, ?_⟩) (hS _) ?_
          · rintro w' ⟨L, hL, hSw, hun⟩
            go_simp
            all_goals omega
          simp only [nA, nB, nC, Act.put, nD, nE, nF]
          refine WA.tk (i := 1) (v := .int .i64 ((2 * root + 1 + 1 : Nat) : Int)) rfl (hdrop 1 (by decide)) (Or.inl ⟨by rfl, ?_⟩) (hS _) ?_
          · rintro w' ⟨L, hL, hSw, hun⟩
            go_simp
            all_goals (exact i64w (by omega) (by omega))
          simp only [nA, nB, nC, Act.put, nD, nE, nF]
          refine WA.tk (i := 2) (v := .int .i64 ((hi : Nat) : Int)) rfl (hdrop 2 (by decide)) (Or.inl ⟨by rfl, ?_⟩) (hS _) ?_
          · rintro w' ⟨L, hL, hSw, hun⟩
            go_simp
            all_goals omega
          simp only [nA, nB, nC, Act.put, nD, nE, nF]
          refine WA.tk (i := 3) (v := .bool true) rfl (hdrop 3 (by decide)) (Or.inl ⟨by rfl, ?_⟩) (hS _) ?_
          · rintro w' ⟨L, hL, hSw, hun⟩
            go_simp
            all_goals omega
          simp only [nA, nB, nC, Act.put, nD, nE, nF]
          refine WA.tk (i := 4) (v := .bool true) rfl (hdrop 4 (by decide)) (Or.inl ⟨by rfl, ?_⟩) (hS _) ?_
          · rintro w' ⟨L, hL, hSw, hun⟩
            go_simp
          simp only [nA, nB, nC, Act.put, nD, nE, nF]
          refine WA.tk (i := 5) (v := .slice (some ⟨g, 0, none⟩) n cap) rfl (hdrop 5 (by decide)) (Or.inl ⟨by rfl, ?_⟩) (hS _) ?_
          · rintro w' ⟨L, hL, hSw, hun⟩
            go_simp
          simp only [nA, nB, nC, Act.put, nD, nE, nF]
          refine WA.tk (i := 6) (v := .int .i64 ((F : Nat) : Int)) rfl (hdrop 6 (by decide)) (Or.inl ⟨by rfl, ?_⟩) (hS _) ?_
          · rintro w' ⟨L, hL, hSw, hun⟩
            go_simp
            all_goals omega
          simp only [nA, nB, nC, Act.put, nD, nE, nF]
          refine WA.tk (i := 7) (v := .int .i64 ((2 * root + 1 : Nat) : Int)) rfl (hdrop 7 (by decide)) (Or.inl ⟨by rfl, ?_⟩) (hS _) ?_
          · rintro w' ⟨L, hL, hSw, hun⟩
            go_simp
            all_goals omega
          simp only [nA, nB, nC, Act.put, nD, nE, nF]
          refine WA.tk (i := 8) (v := .int .i64 ((F + (2 * root + 1) : Nat) : Int)) rfl (hdrop 8 (by decide)) (Or.inl ⟨by rfl, ?_⟩) (hS _) ?_
          · rintro w' ⟨L, hL, hSw, hun⟩
            go_simp
            all_goals (exact i64w (by omega) (by omega))
          simp only [nA, nB, nC, Act.put, nD, nE, nF]
          refine WA.tk (i := 9) (v := .pointer (some ⟨g, F + (2 * root + 1), none⟩)) rfl (hdrop 9 (by decide)) (Or.inl ⟨by rfl, ?_⟩) (hS _) ?_
          · rintro w' ⟨L, hL, hSw, hun⟩
            go_simp
            all_goals first | (intro h5; omega) | (rw [if_pos (by omega)]; exact ptrOk (by omega))
          simp only [nA, nB, nC, Act.put, nD, nE, nF]
          refine WA.tk (i := 10) (v := .int .u32 d1[F + (2 * root + 1)]!) rfl (hdrop 10 (by decide)) (Or.inl ⟨by rfl, ?_⟩) (hS _) ?_
          · rintro w' ⟨L, hL, hSw, hun⟩
            obtain rfl := hSo hSw 
            go_simp
          simp only [nA, nB, nC, Act.put, nD, nE, nF]
          refine WA.tk (i := 11) (v := .slice (some ⟨g, 0, none⟩) n cap) rfl (hdrop 11 (by decide)) (Or.inl ⟨by rfl, ?_⟩) (hS _) ?_
          · rintro w' ⟨L, hL, hSw, hun⟩
            go_simp
          simp only [nA, nB, nC, Act.put, nD, nE, nF]
          refine WA.tk (i := 12) (v := .int .i64 ((F : Nat) : Int)) rfl (hdrop 12 (by decide)) (Or.inl ⟨by rfl, ?_⟩) (hS _) ?_
          · rintro w' ⟨L, hL, hSw, hun⟩
            go_simp
            all_goals omega
          simp only [nA, nB, nC, Act.put, nD, nE, nF]
          refine WA.tk (i := 13) (v := .int .i64 ((2 * root + 1 : Nat) : Int)) rfl (hdrop 13 (by decide)) (Or.inl ⟨by rfl, ?_⟩) (hS _) ?_
          · rintro w' ⟨L, hL, hSw, hun⟩
            go_simp
            all_goals omega
          simp only [nA, nB, nC, Act.put, nD, nE, nF]
          refine WA.tk (i := 14) (v := .int .i64 ((F + (2 * root + 1) : Nat) : Int)) rfl (hdrop 14 (by decide)) (Or.inl ⟨by rfl, ?_⟩) (hS _) ?_
          · rintro w' ⟨L, hL, hSw, hun⟩
            go_simp
            all_goals (exact i64w (by omega) (by omega))
          simp only [nA, nB, nC, Act.put, nD, nE, nF]
          refine WA.tk (i := 15) (v := .int .i64 ((F + (2 * root + 1) + 1 : Nat) : Int)) rfl (hdrop 15 (by decide)) (Or.inl ⟨by rfl, ?_⟩) (hS _) ?_
          · rintro w' ⟨L, hL, hSw, hun⟩
            go_simp
            all_goals (exact i64w (by omega) (by omega))
          simp only [nA, nB, nC, Act.put, nD, nE, nF]
          refine WA.tk (i := 16) (v := .pointer (some ⟨g, F + (2 * root + 1) + 1, none⟩)) rfl (hdrop 16 (by decide)) (Or.inl ⟨by rfl, ?_⟩) (hS _) ?_
          · rintro w' ⟨L, hL, hSw, hun⟩
            go_simp
            all_goals first | (intro h5; omega) | (rw [if_pos (by omega)]; exact ptrOk (by omega))
          simp only [nA, nB, nC, Act.put, nD, nE, nF]
          refine WA.tk (i := 17) (v := .int .u32 d1[F + (2 * root + 1) + 1]!) rfl (hdrop 17 (by decide)) (Or.inl ⟨by rfl, ?_⟩) (hS _) ?_
          · rintro w' ⟨L, hL, hSw, hun⟩
            obtain rfl := hSo hSw 
            go_simp
          simp only [nA, nB, nC, Act.put, nD, nE, nF]
          refine WA.one (i := 18) (by kernel_rfl) rfl (by rfl) (fun K hK => ?_)
          go_simp
          refine (less_u _ _).mono ?_
          rintro e w_ ⟨rfl, hw_⟩
          subst hw_
          rw [hl]
          refine hK _ _ (hS _) ?_
          clear hK
          try simp only [nA, nB, nC, Act.put, nD, nE, nF]
          refine WA.tk (i := 19) (v := .bool false) rfl (hdrop 19 (by decide)) (Or.inl ⟨by rfl, ?_⟩) (hS _) ?_
          · rintro w' ⟨L, hL, hSw, hun⟩
            go_simp
          simp only [nA, nB, nC, Act.put, nD, nE, nF]
          refine WA.done (by kernel_rfl) ?_ _
          refine Nrm.normal ?_
          clear hSo hS hdrop c0 c1
          clear S3
          have HT3 := Lib.hid (show TnA w X3 g by rw [HX3.out]; exact HT.out.drew)
          go_wp2_with fail
          cases hl : ltInt d1[F + root]! d1[F + (2 * root + 1)]!
          · skip
            have HA_X5 := Lib.hid (show IsA X3.drew g n cap d1 from HA_X3.out.stay rfl)
            have c0 : X3.drew.cell? ⟨g, F + root, none⟩ = some (.int .u32 d1[F + root]!) := (HA_X5.out.at (j := F + root) (by omega)).1
            have c1 : X3.drew.cell? ⟨g, F + (2 * root + 1), none⟩ = some (.int .u32 d1[F + (2 * root + 1)]!) := (HA_X5.out.at (j := F + (2 * root + 1)) (by omega)).1
            obtain ⟨S5, hSe⟩ : ∃ S : Array Bool → World → Prop, S = fun _ w' => w' = X3.drew := ⟨_, rfl⟩
            have hdrop : ∀ i : Nat, i ≠ 1000 → ∀ L w', S5 (L.setIfInBounds i true) w' → S5 L w' := by
              intro i _ L w' h; rw [hSe] at h ⊢; exact h
            have hS : ∀ L, S5 L X3.drew := by intro L; rw [hSe]
            have hSo : ∀ {L w'}, S5 L w' → w' = X3.drew := by intro L w' h; rw [hSe] at h; exact h
            clear hSe
            refine wp_region_LN S5 14 #[false, false, false, false, false, false, false, false, false, false, false, false, false, false] (by kernel_rfl) (by kernel_rfl) rfl ?_
            obtain ⟨X5, hX5⟩ : ∃ X5, X5 = X3.drew := ⟨_, rfl⟩
            rw [← hX5] at c0 c1 HA_X5 hSo hS ⊢
            have HX5 := Lib.hid hX5
            clear hX5
            refine WA.tk (i := 0) (v := .slice (some ⟨g, 0, none⟩) n cap) rfl (hdrop 0 (by decide)) (Or.inl ⟨by rfl, ?_⟩) (hS _) ?_
            · rintro w' ⟨L, hL, hSw, hun⟩
              go_simp
            simp only [nA, nB, nC, Act.put, nD, nE, nF]
            refine WA.tk (i := 1) (v := .int .i64 ((F : Nat) : Int)) rfl (hdrop 1 (by decide)) (Or.inl ⟨by rfl, ?_⟩) (hS _) ?_
            · rintro w' ⟨L, hL, hSw, hun⟩
              go_simp
              all_goals omega
            simp only [nA, nB, nC, Act.put, nD, nE, nF]
            refine WA.tk (i := 2) (v := .int .i64 ((root : Nat) : Int)) rfl (hdrop 2 (by decide)) (Or.inl ⟨by rfl, ?_⟩) (hS _) ?_
            · rintro w' ⟨L, hL, hSw, hun⟩
              go_simp
              all_goals omega
            simp only [nA, nB, nC, Act.put, nD, nE, nF]
            refine WA.tk (i := 3) (v := .int .i64 ((F + root : Nat) : Int)) rfl (hdrop 3 (by decide)) (Or.inl ⟨by rfl, ?_⟩) (hS _) ?_
            · rintro w' ⟨L, hL, hSw, hun⟩
              go_simp
              all_goals (exact i64w (by omega) (by omega))
            simp only [nA, nB, nC, Act.put, nD, nE, nF]
            refine WA.tk (i := 4) (v := .pointer (some ⟨g, F + root, none⟩)) rfl (hdrop 4 (by decide)) (Or.inl ⟨by rfl, ?_⟩) (hS _) ?_
            · rintro w' ⟨L, hL, hSw, hun⟩
              go_simp
              all_goals first | (intro h5; omega) | (rw [if_pos (by omega)]; exact ptrOk (by omega))
            simp only [nA, nB, nC, Act.put, nD, nE, nF]
            refine WA.tk (i := 5) (v := .int .u32 d1[F + root]!) rfl (hdrop 5 (by decide)) (Or.inl ⟨by rfl, ?_⟩) (hS _) ?_
            · rintro w' ⟨L, hL, hSw, hun⟩
              obtain rfl := hSo hSw 
              go_simp
            simp only [nA, nB, nC, Act.put, nD, nE, nF]
            refine WA.tk (i := 6) (v := .slice (some ⟨g, 0, none⟩) n cap) rfl (hdrop 6 (by decide)) (Or.inl ⟨by rfl, ?_⟩) (hS _) ?_
            · rintro w' ⟨L, hL, hSw, hun⟩
              go_simp
            simp only [nA, nB, nC, Act.put, nD, nE, nF]
            refine WA.tk (i := 7) (v := .int .i64 ((F : Nat) : Int)) rfl (hdrop 7 (by decide)) (Or.inl ⟨by rfl, ?_⟩) (hS _) ?_
            · rintro w' ⟨L, hL, hSw, hun⟩
              go_simp
              all_goals omega
            simp only [nA, nB, nC, Act.put, nD, nE, nF]
            refine WA.tk (i := 8) (v := .int .i64 ((2 * root + 1 : Nat) : Int)) rfl (hdrop 8 (by decide)) (Or.inl ⟨by rfl, ?_⟩) (hS _) ?_
            · rintro w' ⟨L, hL, hSw, hun⟩
              go_simp
              all_goals omega
            simp only [nA, nB, nC, Act.put, nD, nE, nF]
            refine WA.tk (i := 9) (v := .int .i64 ((F + (2 * root + 1) : Nat) : Int)) rfl (hdrop 9 (by decide)) (Or.inl ⟨by rfl, ?_⟩) (hS _) ?_
            · rintro w' ⟨L, hL, hSw, hun⟩
              go_simp
              all_goals (exact i64w (by omega) (by omega))
            simp only [nA, nB, nC, Act.put, nD, nE, nF]
            refine WA.tk (i := 10) (v := .pointer (some ⟨g, F + (2 * root + 1), none⟩)) rfl (hdrop 10 (by decide)) (Or.inl ⟨by rfl, ?_⟩) (hS _) ?_
            · rintro w' ⟨L, hL, hSw, hun⟩
              go_simp
              all_goals first | (intro h5; omega) | (rw [if_pos (by omega)]; exact ptrOk (by omega))
            simp only [nA, nB, nC, Act.put, nD, nE, nF]
            refine WA.tk (i := 11) (v := .int .u32 d1[F + (2 * root + 1)]!) rfl (hdrop 11 (by decide)) (Or.inl ⟨by rfl, ?_⟩) (hS _) ?_
            · rintro w' ⟨L, hL, hSw, hun⟩
              obtain rfl := hSo hSw 
              go_simp
            simp only [nA, nB, nC, Act.put, nD, nE, nF]
            refine WA.one (i := 12) (by kernel_rfl) rfl (by rfl) (fun K hK => ?_)
            go_simp
            refine (less_u _ _).mono ?_
            rintro e w_ ⟨rfl, hw_⟩
            subst hw_
            rw [hl]
            refine hK _ _ (hS _) ?_
            clear hK
            try simp only [nA, nB, nC, Act.put, nD, nE, nF]
            refine WA.tk (i := 13) (v := .bool true) rfl (hdrop 13 (by decide)) (Or.inl ⟨by rfl, ?_⟩) (hS _) ?_
            · rintro w' ⟨L, hL, hSw, hun⟩
              go_simp
            simp only [nA, nB, nC, Act.put, nD, nE, nF]
            refine WA.done (by kernel_rfl) ?_ _
            refine Nrm.normal ?_
            clear hSo hS hdrop c0 c1
            clear S5
            go_wp2_with fail
            (try simp only [Exit.inBlock, Exit.then]); refine bodyPost_ret (results_none rfl _ _ _) rfl ?_
            refine ⟨rfl, ?_, by rw [HX5.out]; exact HT3.out.drew⟩
            rw [← He.out, Hlm.out, hl, if_neg (by simp)]
            exact HA_X5.out
          · skip
            have HA_X5 := Lib.hid (show IsA X3.drew g n cap d1 from HA_X3.out.stay rfl)
            have c0 : X3.drew.cell? ⟨g, F + root, none⟩ = some (.int .u32 d1[F + root]!) := (HA_X5.out.at (j := F + root) (by omega)).1
            have c1 : X3.drew.cell? ⟨g, F + (2 * root + 1), none⟩ = some (.int .u32 d1[F + (2 * root + 1)]!) := (HA_X5.out.at (j := F + (2 * root + 1)) (by omega)).1
            obtain ⟨S5, hSe⟩ : ∃ S : Array Bool → World → Prop, S = fun _ w' => w' = X3.drew := ⟨_, rfl⟩
            have hdrop : ∀ i : Nat, i ≠ 1000 → ∀ L w', S5 (L.setIfInBounds i true) w' → S5 L w' := by
              intro i _ L w' h; rw [hSe] at h ⊢; exact h
            have hS : ∀ L, S5 L X3.drew := by intro L; rw [hSe]
            have hSo : ∀ {L w'}, S5 L w' → w' = X3.drew := by intro L w' h; rw [hSe] at h; exact h
            clear hSe
            refine wp_region_LN S5 14 #[false, false, false, false, false, false, false, false, false, false, false, false, false, false] (by kernel_rfl) (by kernel_rfl) rfl ?_
            obtain ⟨X5, hX5⟩ : ∃ X5, X5 = X3.drew := ⟨_, rfl⟩
            rw [← hX5] at c0 c1 HA_X5 hSo hS ⊢
            have HX5 := Lib.hid hX5
            clear hX5
            refine WA.tk (i := 0) (v := .slice (some ⟨g, 0, none⟩) n cap) rfl (hdrop 0 (by decide)) (Or.inl ⟨by rfl, ?_⟩) (hS _) ?_
            · rintro w' ⟨L, hL, hSw, hun⟩
              go_simp
            simp only [nA, nB, nC, Act.put, nD, nE, nF]
            refine WA.tk (i := 1) (v := .int .i64 ((F : Nat) : Int)) rfl (hdrop 1 (by decide)) (Or.inl ⟨by rfl, ?_⟩) (hS _) ?_
            · rintro w' ⟨L, hL, hSw, hun⟩
              go_simp
              all_goals omega
            simp only [nA, nB, nC, Act.put, nD, nE, nF]
            refine WA.tk (i := 2) (v := .int .i64 ((root : Nat) : Int)) rfl (hdrop 2 (by decide)) (Or.inl ⟨by rfl, ?_⟩) (hS _) ?_
            · rintro w' ⟨L, hL, hSw, hun⟩
              go_simp
              all_goals omega
            simp only [nA, nB, nC, Act.put, nD, nE, nF]
            refine WA.tk (i := 3) (v := .int .i64 ((F + root : Nat) : Int)) rfl (hdrop 3 (by decide)) (Or.inl ⟨by rfl, ?_⟩) (hS _) ?_
            · rintro w' ⟨L, hL, hSw, hun⟩
              go_simp
              all_goals (exact i64w (by omega) (by omega))
            simp only [nA, nB, nC, Act.put, nD, nE, nF]
            refine WA.tk (i := 4) (v := .pointer (some ⟨g, F + root, none⟩)) rfl (hdrop 4 (by decide)) (Or.inl ⟨by rfl, ?_⟩) (hS _) ?_
            · rintro w' ⟨L, hL, hSw, hun⟩
              go_simp
              all_goals first | (intro h5; omega) | (rw [if_pos (by omega)]; exact ptrOk (by omega))
            simp only [nA, nB, nC, Act.put, nD, nE, nF]
            refine WA.tk (i := 5) (v := .int .u32 d1[F + root]!) rfl (hdrop 5 (by decide)) (Or.inl ⟨by rfl, ?_⟩) (hS _) ?_
            · rintro w' ⟨L, hL, hSw, hun⟩
              obtain rfl := hSo hSw 
              go_simp
            simp only [nA, nB, nC, Act.put, nD, nE, nF]
            refine WA.tk (i := 6) (v := .slice (some ⟨g, 0, none⟩) n cap) rfl (hdrop 6 (by decide)) (Or.inl ⟨by rfl, ?_⟩) (hS _) ?_
            · rintro w' ⟨L, hL, hSw, hun⟩
              go_simp
            simp only [nA, nB, nC, Act.put, nD, nE, nF]
            refine WA.tk (i := 7) (v := .int .i64 ((F : Nat) : Int)) rfl (hdrop 7 (by decide)) (Or.inl ⟨by rfl, ?_⟩) (hS _) ?_
            · rintro w' ⟨L, hL, hSw, hun⟩
              go_simp
              all_goals omega
            simp only [nA, nB, nC, Act.put, nD, nE, nF]
            refine WA.tk (i := 8) (v := .int .i64 ((2 * root + 1 : Nat) : Int)) rfl (hdrop 8 (by decide)) (Or.inl ⟨by rfl, ?_⟩) (hS _) ?_
            · rintro w' ⟨L, hL, hSw, hun⟩
              go_simp
              all_goals omega
            simp only [nA, nB, nC, Act.put, nD, nE, nF]
            refine WA.tk (i := 9) (v := .int .i64 ((F + (2 * root + 1) : Nat) : Int)) rfl (hdrop 9 (by decide)) (Or.inl ⟨by rfl, ?_⟩) (hS _) ?_
            · rintro w' ⟨L, hL, hSw, hun⟩
              go_simp
              all_goals (exact i64w (by omega) (by omega))
            simp only [nA, nB, nC, Act.put, nD, nE, nF]
            refine WA.tk (i := 10) (v := .pointer (some ⟨g, F + (2 * root + 1), none⟩)) rfl (hdrop 10 (by decide)) (Or.inl ⟨by rfl, ?_⟩) (hS _) ?_
            · rintro w' ⟨L, hL, hSw, hun⟩
              go_simp
              all_goals first | (intro h5; omega) | (rw [if_pos (by omega)]; exact ptrOk (by omega))
            simp only [nA, nB, nC, Act.put, nD, nE, nF]
            refine WA.tk (i := 11) (v := .int .u32 d1[F + (2 * root + 1)]!) rfl (hdrop 11 (by decide)) (Or.inl ⟨by rfl, ?_⟩) (hS _) ?_
            · rintro w' ⟨L, hL, hSw, hun⟩
              obtain rfl := hSo hSw 
              go_simp
            simp only [nA, nB, nC, Act.put, nD, nE, nF]
            refine WA.one (i := 12) (by kernel_rfl) rfl (by rfl) (fun K hK => ?_)
            go_simp
            refine (less_u _ _).mono ?_
            rintro e w_ ⟨rfl, hw_⟩
            subst hw_
            rw [hl]
            refine hK _ _ (hS _) ?_
            clear hK
            try simp only [nA, nB, nC, Act.put, nD, nE, nF]
            refine WA.tk (i := 13) (v := .bool false) rfl (hdrop 13 (by decide)) (Or.inl ⟨by rfl, ?_⟩) (hS _) ?_
            · rintro w' ⟨L, hL, hSw, hun⟩
              go_simp
            simp only [nA, nB, nC, Act.put, nD, nE, nF]
            refine WA.done (by kernel_rfl) ?_ _
            refine Nrm.normal ?_
            clear hSo hS hdrop c0 c1
            clear S5
            go_wp2_with fail
            have HA_X6 := Lib.hid (show IsA X5.drew g n cap d1 from HA_X5.out.stay rfl)
            have c0 : X5.drew.cell? ⟨g, F + (2 * root + 1), none⟩ = some (.int .u32 d1[F + (2 * root + 1)]!) := (HA_X6.out.at (j := F + (2 * root + 1)) (by omega)).1
            have c1 : X5.drew.cell? ⟨g, F + root, none⟩ = some (.int .u32 d1[F + root]!) := (HA_X6.out.at (j := F + root) (by omega)).1
            obtain ⟨S6, hSe⟩ : ∃ S : Array Bool → World → Prop, S = fun L w' => L.getD 21 true = false → w' = X5.drew := ⟨_, rfl⟩
            have hdrop : ∀ i, i ≠ 21 → ∀ L w', S6 (L.setIfInBounds i true) w' → S6 L w' := by
              intro i hi L w'
              rw [hSe]
              intro h hl
              exact h (by rw [getD_set_ne true hi]; exact hl)
            have hS : ∀ L, S6 L X5.drew := by intro L; rw [hSe]; exact fun _ => rfl
            have hSo : ∀ {L w'}, S6 L w' → L.getD 21 true = false → w' = X5.drew := by intro L w' h hl; rw [hSe] at h; exact h hl
            have hSd : ∀ (L : Array Bool) X, L.getD 21 true = true → S6 L X := by
              intro L X h; rw [hSe]; intro h1; rw [h] at h1; cases h1
            clear hSe
            refine wp_region_LN S6 24 #[false, false, false, false, false, false, false, false, false, false, false, false, false, false, false, false, false, false, false, false, false, false, false, false] (by kernel_rfl) (by kernel_rfl) rfl ?_
            obtain ⟨X6, hX6⟩ : ∃ X6, X6 = X5.drew := ⟨_, rfl⟩
            rw [← hX6] at c0 c1 HA_X6 hSo hS ⊢
            have HX6 := Lib.hid hX6
            clear hX6
            refine WA.tk (i := 0) (v := .slice (some ⟨g, 0, none⟩) n cap) rfl (hdrop 0 (by decide)) (Or.inl ⟨by rfl, ?_⟩) (hS _) ?_
            · rintro w' ⟨L, hL, hSw, hun⟩
              go_simp
            simp only [nA, nB, nC, Act.put, nD, nE, nF]
            refine WA.tk (i := 1) (v := .int .i64 ((F : Nat) : Int)) rfl (hdrop 1 (by decide)) (Or.inl ⟨by rfl, ?_⟩) (hS _) ?_
            · rintro w' ⟨L, hL, hSw, hun⟩
              go_simp
              all_goals omega
            simp only [nA, nB, nC, Act.put, nD, nE, nF]
            refine WA.tk (i := 2) (v := .int .i64 ((root : Nat) : Int)) rfl (hdrop 2 (by decide)) (Or.inl ⟨by rfl, ?_⟩) (hS _) ?_
            · rintro w' ⟨L, hL, hSw, hun⟩
              go_simp
              all_goals omega
            simp only [nA, nB, nC, Act.put, nD, nE, nF]
            refine WA.tk (i := 3) (v := .int .i64 ((F + root : Nat) : Int)) rfl (hdrop 3 (by decide)) (Or.inl ⟨by rfl, ?_⟩) (hS _) ?_
            · rintro w' ⟨L, hL, hSw, hun⟩
              go_simp
              all_goals (exact i64w (by omega) (by omega))
            simp only [nA, nB, nC, Act.put, nD, nE, nF]
            refine WA.tk (i := 4) (v := .slice (some ⟨g, 0, none⟩) n cap) rfl (hdrop 4 (by decide)) (Or.inl ⟨by rfl, ?_⟩) (hS _) ?_
            · rintro w' ⟨L, hL, hSw, hun⟩
              go_simp
            simp only [nA, nB, nC, Act.put, nD, nE, nF]
            refine WA.tk (i := 5) (v := .int .i64 ((F : Nat) : Int)) rfl (hdrop 5 (by decide)) (Or.inl ⟨by rfl, ?_⟩) (hS _) ?_
            · rintro w' ⟨L, hL, hSw, hun⟩
              go_simp
              all_goals omega
            simp only [nA, nB, nC, Act.put, nD, nE, nF]
            refine WA.tk (i := 6) (v := .int .i64 ((2 * root + 1 : Nat) : Int)) rfl (hdrop 6 (by decide)) (Or.inl ⟨by rfl, ?_⟩) (hS _) ?_
            · rintro w' ⟨L, hL, hSw, hun⟩
              go_simp
              all_goals omega
            simp only [nA, nB, nC, Act.put, nD, nE, nF]
            refine WA.tk (i := 7) (v := .int .i64 ((F + (2 * root + 1) : Nat) : Int)) rfl (hdrop 7 (by decide)) (Or.inl ⟨by rfl, ?_⟩) (hS _) ?_
            · rintro w' ⟨L, hL, hSw, hun⟩
              go_simp
              all_goals (exact i64w (by omega) (by omega))
            simp only [nA, nB, nC, Act.put, nD, nE, nF]
            refine WA.tk (i := 8) (v := .slice (some ⟨g, 0, none⟩) n cap) rfl (hdrop 8 (by decide)) (Or.inl ⟨by rfl, ?_⟩) (hS _) ?_
            · rintro w' ⟨L, hL, hSw, hun⟩
              go_simp
            simp only [nA, nB, nC, Act.put, nD, nE, nF]
            refine WA.tk (i := 9) (v := .int .i64 ((F : Nat) : Int)) rfl (hdrop 9 (by decide)) (Or.inl ⟨by rfl, ?_⟩) (hS _) ?_
            · rintro w' ⟨L, hL, hSw, hun⟩
              go_simp
              all_goals omega
            simp only [nA, nB, nC, Act.put, nD, nE, nF]
            refine WA.tk (i := 10) (v := .int .i64 ((2 * root + 1 : Nat) : Int)) rfl (hdrop 10 (by decide)) (Or.inl ⟨by rfl, ?_⟩) (hS _) ?_
            · rintro w' ⟨L, hL, hSw, hun⟩
              go_simp
              all_goals omega
            simp only [nA, nB, nC, Act.put, nD, nE, nF]
            refine WA.tk (i := 11) (v := .int .i64 ((F + (2 * root + 1) : Nat) : Int)) rfl (hdrop 11 (by decide)) (Or.inl ⟨by rfl, ?_⟩) (hS _) ?_
            · rintro w' ⟨L, hL, hSw, hun⟩
              go_simp
              all_goals (exact i64w (by omega) (by omega))
            simp only [nA, nB, nC, Act.put, nD, nE, nF]
            refine WA.tk (i := 12) (v := .pointer (some ⟨g, F + (2 * root + 1), none⟩)) rfl (hdrop 12 (by decide)) (Or.inl ⟨by rfl, ?_⟩) (hS _) ?_
            · rintro w' ⟨L, hL, hSw, hun⟩
              go_simp
              all_goals first | (intro h5; omega) | (rw [if_pos (by omega)]; exact ptrOk (by omega))
            simp only [nA, nB, nC, Act.put, nD, nE, nF]
            refine WA.tk (i := 13) (v := .int .u32 d1[F + (2 * root + 1)]!) rfl (hdrop 13 (by decide)) (Or.inl ⟨by rfl, ?_⟩) (hS _) ?_
            · rintro w' ⟨L, hL, hSw, hun⟩
              obtain rfl := hSo hSw (hL.wait 21 13 (by kernel_rfl) hun)
              go_simp
            simp only [nA, nB, nC, Act.put, nD, nE, nF]
            refine WA.tk (i := 14) (v := .slice (some ⟨g, 0, none⟩) n cap) rfl (hdrop 14 (by decide)) (Or.inl ⟨by rfl, ?_⟩) (hS _) ?_
            · rintro w' ⟨L, hL, hSw, hun⟩
              go_simp
            simp only [nA, nB, nC, Act.put, nD, nE, nF]
            refine WA.tk (i := 15) (v := .int .i64 ((F : Nat) : Int)) rfl (hdrop 15 (by decide)) (Or.inl ⟨by rfl, ?_⟩) (hS _) ?_
            · rintro w' ⟨L, hL, hSw, hun⟩
              go_simp
              all_goals omega
            simp only [nA, nB, nC, Act.put, nD, nE, nF]
            refine WA.tk (i := 16) (v := .int .i64 ((root : Nat) : Int)) rfl (hdrop 16 (by decide)) (Or.inl ⟨by rfl, ?_⟩) (hS _) ?_
            · rintro w' ⟨L, hL, hSw, hun⟩
              go_simp
              all_goals omega
            simp only [nA, nB, nC, Act.put, nD, nE, nF]
            refine WA.tk (i := 17) (v := .int .i64 ((F + root : Nat) : Int)) rfl (hdrop 17 (by decide)) (Or.inl ⟨by rfl, ?_⟩) (hS _) ?_
            · rintro w' ⟨L, hL, hSw, hun⟩
              go_simp
              all_goals (exact i64w (by omega) (by omega))
            simp only [nA, nB, nC, Act.put, nD, nE, nF]
            refine WA.tk (i := 18) (v := .pointer (some ⟨g, F + root, none⟩)) rfl (hdrop 18 (by decide)) (Or.inl ⟨by rfl, ?_⟩) (hS _) ?_
            · rintro w' ⟨L, hL, hSw, hun⟩
              go_simp
              all_goals first | (intro h5; omega) | (rw [if_pos (by omega)]; exact ptrOk (by omega))
            simp only [nA, nB, nC, Act.put, nD, nE, nF]
            refine WA.tk (i := 19) (v := .int .u32 d1[F + root]!) rfl (hdrop 19 (by decide)) (Or.inl ⟨by rfl, ?_⟩) (hS _) ?_
            · rintro w' ⟨L, hL, hSw, hun⟩
              obtain rfl := hSo hSw (hL.wait 21 19 (by kernel_rfl) hun)
              go_simp
            simp only [nA, nB, nC, Act.put, nD, nE, nF]
            refine WA.tk (i := 20) (v := .pointer (some ⟨g, F + root, none⟩)) rfl (hdrop 20 (by decide)) (Or.inl ⟨by rfl, ?_⟩) (hS _) ?_
            · rintro w' ⟨L, hL, hSw, hun⟩
              go_simp
              all_goals first | (intro h5; omega) | (rw [if_pos (by omega)]; exact ptrOk (by omega))
            simp only [nA, nB, nC, Act.put, nD, nE, nF]
            obtain ⟨cx, fx⟩ := HA_X6.out.at (j := F + root) (by omega)
            obtain ⟨cy, fy⟩ := (HA_X6.out.set (j := F + root) (by omega) d1[F + (2 * root + 1)]!).at (j := F + (2 * root + 1)) (by omega)
            refine WA.one (i := 21) (by kernel_rfl) rfl (by rfl) (fun K hK => ?_)
            go_simp
            refine hK _ _ (hSd _ _ (by rfl)) ?_
            clear hK
            try simp only [nA, nB, nC, Act.put, nD, nE, nF]
            refine WA.tk (i := 22) (v := .pointer (some ⟨g, F + (2 * root + 1), none⟩)) rfl (hdrop 22 (by decide)) (Or.inl ⟨by rfl, ?_⟩) (hSd _ _ (by rfl)) ?_
            · rintro w' ⟨L, hL, hSw, hun⟩
              go_simp
              all_goals first | (intro h5; omega) | (rw [if_pos (by omega)]; exact ptrOk (by omega))
            simp only [nA, nB, nC, Act.put, nD, nE, nF]
            refine WA.one (i := 23) (by kernel_rfl) rfl (by rfl) (fun K hK => ?_)
            go_simp
            refine hK _ _ (hSd _ _ (by rfl)) ?_
            clear hK
            try simp only [nA, nB, nC, Act.put, nD, nE, nF]
            refine WA.done (by kernel_rfl) ?_ _
            refine Nrm.normal ?_
            clear hSo hS hdrop c0 c1 hSd cx fx cy fy
            clear S6
            go_wp2_with fail
            refine ⟨⟨2 * root + 1, swp d1 (F + root) (F + (2 * root + 1)), by first | rfl | (congr 1; push_cast; omega), HA_X6.out.swp (by omega) (by omega), ?_, by omega, ?_⟩, by simp [intOf]; omega⟩
            · have ht := HT3.out.drew
              rw [← HX5.out] at ht
              have ht := ht.drew
              rw [← HX6.out] at ht
              exact (ht.set _ _).set _ _
            · rw [← He.out, Hlm.out, hl, if_pos rfl]
        · have Hlm := Lib.hid (sift_right hr hl)
          go_wp2_with fail
          have HA_X3 := Lib.hid (show IsA w1.drew g n cap d1 from HA.out.stay rfl)
          have c0 : w1.drew.cell? ⟨g, F + (2 * root + 1), none⟩ = some (.int .u32 d1[F + (2 * root + 1)]!) := (HA_X3.out.at (j := F + (2 * root + 1)) (by omega)).1
          have c1 : w1.drew.cell? ⟨g, F + (2 * root + 1) + 1, none⟩ = some (.int .u32 d1[F + (2 * root + 1) + 1]!) := (HA_X3.out.at (j := F + (2 * root + 1) + 1) (by omega)).1
          obtain ⟨S3, hSe⟩ : ∃ S : Array Bool → World → Prop, S = fun _ w' => w' = w1.drew := ⟨_, rfl⟩
          have hdrop : ∀ i : Nat, i ≠ 1000 → ∀ L w', S3 (L.setIfInBounds i true) w' → S3 L w' := by
            intro i _ L w' h; rw [hSe] at h ⊢; exact h
          have hS : ∀ L, S3 L w1.drew := by intro L; rw [hSe]
          have hSo : ∀ {L w'}, S3 L w' → w' = w1.drew := by intro L w' h; rw [hSe] at h; exact h
          clear hSe
          refine wp_region_LN S3 20 #[false, false, false, false, false, false, false, false, false, false, false, false, false, false, false, false, false, false, false, false] (by kernel_rfl) (by kernel_rfl) rfl ?_
          obtain ⟨X3, hX3⟩ : ∃ X3, X3 = w1.drew := ⟨_, rfl⟩
          rw [← hX3] at c0 c1 HA_X3 hSo hS ⊢
          have HX3 := Lib.hid hX3
          clear hX3
          refine WA.tk (i := 0) (v := .int .i64 ((2 * root + 1 : Nat) : Int)) rfl (hdrop 0 (by decide)) (Or.inl ⟨by rfl, ?_⟩) (hS _) ?_
          · rintro w' ⟨L, hL, hSw, hun⟩
            go_simp
            all_goals omega
          simp only [nA, nB, nC, Act.put, nD, nE, nF]
          refine WA.tk (i := 1) (v := .int .i64 ((2 * root + 1 + 1 : Nat) : Int)) rfl (hdrop 1 (by decide)) (Or.inl ⟨by rfl, ?_⟩) (hS _) ?_
          · rintro w' ⟨L, hL, hSw, hun⟩
            go_simp
            all_goals (exact i64w (by omega) (by omega))
          simp only [nA, nB, nC, Act.put, nD, nE, nF]
          refine WA.tk (i := 2) (v := .int .i64 ((hi : Nat) : Int)) rfl (hdrop 2 (by decide)) (Or.inl ⟨by rfl, ?_⟩) (hS _) ?_
          · rintro w' ⟨L, hL, hSw, hun⟩
            go_simp
            all_goals omega
          simp only [nA, nB, nC, Act.put, nD, nE, nF]
          refine WA.tk (i := 3) (v := .bool true) rfl (hdrop 3 (by decide)) (Or.inl ⟨by rfl, ?_⟩) (hS _) ?_
          · rintro w' ⟨L, hL, hSw, hun⟩
            go_simp
            all_goals omega
          simp only [nA, nB, nC, Act.put, nD, nE, nF]
          refine WA.tk (i := 4) (v := .bool true) rfl (hdrop 4 (by decide)) (Or.inl ⟨by rfl, ?_⟩) (hS _) ?_
          · rintro w' ⟨L, hL, hSw, hun⟩
            go_simp
          simp only [nA, nB, nC, Act.put, nD, nE, nF]
          refine WA.tk (i := 5) (v := .slice (some ⟨g, 0, none⟩) n cap) rfl (hdrop 5 (by decide)) (Or.inl ⟨by rfl, ?_⟩) (hS _) ?_
          · rintro w' ⟨L, hL, hSw, hun⟩
            go_simp
          simp only [nA, nB, nC, Act.put, nD, nE, nF]
          refine WA.tk (i := 6) (v := .int .i64 ((F : Nat) : Int)) rfl (hdrop 6 (by decide)) (Or.inl ⟨by rfl, ?_⟩) (hS _) ?_
          · rintro w' ⟨L, hL, hSw, hun⟩
            go_simp
            all_goals omega
          simp only [nA, nB, nC, Act.put, nD, nE, nF]
          refine WA.tk (i := 7) (v := .int .i64 ((2 * root + 1 : Nat) : Int)) rfl (hdrop 7 (by decide)) (Or.inl ⟨by rfl, ?_⟩) (hS _) ?_
          · rintro w' ⟨L, hL, hSw, hun⟩
            go_simp
            all_goals omega
          simp only [nA, nB, nC, Act.put, nD, nE, nF]
          refine WA.tk (i := 8) (v := .int .i64 ((F + (2 * root + 1) : Nat) : Int)) rfl (hdrop 8 (by decide)) (Or.inl ⟨by rfl, ?_⟩) (hS _) ?_
          · rintro w' ⟨L, hL, hSw, hun⟩
            go_simp
            all_goals (exact i64w (by omega) (by omega))
          simp only [nA, nB, nC, Act.put, nD, nE, nF]
          refine WA.tk (i := 9) (v := .pointer (some ⟨g, F + (2 * root + 1), none⟩)) rfl (hdrop 9 (by decide)) (Or.inl ⟨by rfl, ?_⟩) (hS _) ?_
          · rintro w' ⟨L, hL, hSw, hun⟩
            go_simp
            all_goals first | (intro h5; omega) | (rw [if_pos (by omega)]; exact ptrOk (by omega))
          simp only [nA, nB, nC, Act.put, nD, nE, nF]
          refine WA.tk (i := 10) (v := .int .u32 d1[F + (2 * root + 1)]!) rfl (hdrop 10 (by decide)) (Or.inl ⟨by rfl, ?_⟩) (hS _) ?_
          · rintro w' ⟨L, hL, hSw, hun⟩
            obtain rfl := hSo hSw 
            go_simp
          simp only [nA, nB, nC, Act.put, nD, nE, nF]
          refine WA.tk (i := 11) (v := .slice (some ⟨g, 0, none⟩) n cap) rfl (hdrop 11 (by decide)) (Or.inl ⟨by rfl, ?_⟩) (hS _) ?_
          · rintro w' ⟨L, hL, hSw, hun⟩
            go_simp
          simp only [nA, nB, nC, Act.put, nD, nE, nF]
          refine WA.tk (i := 12) (v := .int .i64 ((F : Nat) : Int)) rfl (hdrop 12 (by decide)) (Or.inl ⟨by rfl, ?_⟩) (hS _) ?_
          · rintro w' ⟨L, hL, hSw, hun⟩
            go_simp
            all_goals omega
          simp only [nA, nB, nC, Act.put, nD, nE, nF]
          refine WA.tk (i := 13) (v := .int .i64 ((2 * root + 1 : Nat) : Int)) rfl (hdrop 13 (by decide)) (Or.inl ⟨by rfl, ?_⟩) (hS _) ?_
          · rintro w' ⟨L, hL, hSw, hun⟩
            go_simp
            all_goals omega
          simp only [nA, nB, nC, Act.put, nD, nE, nF]
          refine WA.tk (i := 14) (v := .int .i64 ((F + (2 * root + 1) : Nat) : Int)) rfl (hdrop 14 (by decide)) (Or.inl ⟨by rfl, ?_⟩) (hS _) ?_
          · rintro w' ⟨L, hL, hSw, hun⟩
            go_simp
            all_goals (exact i64w (by omega) (by omega))
          simp only [nA, nB, nC, Act.put, nD, nE, nF]
          refine WA.tk (i := 15) (v := .int .i64 ((F + (2 * root + 1) + 1 : Nat) : Int)) rfl (hdrop 15 (by decide)) (Or.inl ⟨by rfl, ?_⟩) (hS _) ?_
          · rintro w' ⟨L, hL, hSw, hun⟩
            go_simp
            all_goals (exact i64w (by omega) (by omega))
          simp only [nA, nB, nC, Act.put, nD, nE, nF]
          refine WA.tk (i := 16) (v := .pointer (some ⟨g, F + (2 * root + 1) + 1, none⟩)) rfl (hdrop 16 (by decide)) (Or.inl ⟨by rfl, ?_⟩) (hS _) ?_
          · rintro w' ⟨L, hL, hSw, hun⟩
            go_simp
            all_goals first | (intro h5; omega) | (rw [if_pos (by omega)]; exact ptrOk (by omega))
          simp only [nA, nB, nC, Act.put, nD, nE, nF]
          refine WA.tk (i := 17) (v := .int .u32 d1[F + (2 * root + 1) + 1]!) rfl (hdrop 17 (by decide)) (Or.inl ⟨by rfl, ?_⟩) (hS _) ?_
          · rintro w' ⟨L, hL, hSw, hun⟩
            obtain rfl := hSo hSw 
            go_simp
          simp only [nA, nB, nC, Act.put, nD, nE, nF]
          refine WA.one (i := 18) (by kernel_rfl) rfl (by rfl) (fun K hK => ?_)
          go_simp
          refine (less_u _ _).mono ?_
          rintro e w_ ⟨rfl, hw_⟩
          subst hw_
          rw [hl]
          refine hK _ _ (hS _) ?_
          clear hK
          try simp only [nA, nB, nC, Act.put, nD, nE, nF]
          refine WA.tk (i := 19) (v := .bool true) rfl (hdrop 19 (by decide)) (Or.inl ⟨by rfl, ?_⟩) (hS _) ?_
          · rintro w' ⟨L, hL, hSw, hun⟩
            go_simp
          simp only [nA, nB, nC, Act.put, nD, nE, nF]
          refine WA.done (by kernel_rfl) ?_ _
          refine Nrm.normal ?_
          clear hSo hS hdrop c0 c1
          clear S3
          have HT3 := Lib.hid (show TnA w X3 g by rw [HX3.out]; exact HT.out.drew)
          go_wp2_with fail
          cases hl : ltInt d1[F + root]! d1[F + (2 * root + 2)]!
          · skip
            have HA_X5 := Lib.hid (show IsA X3.drew g n cap d1 from HA_X3.out.stay rfl)
            have c0 : X3.drew.cell? ⟨g, F + root, none⟩ = some (.int .u32 d1[F + root]!) := (HA_X5.out.at (j := F + root) (by omega)).1
            have c1 : X3.drew.cell? ⟨g, F + (2 * root + 2), none⟩ = some (.int .u32 d1[F + (2 * root + 2)]!) := (HA_X5.out.at (j := F + (2 * root + 2)) (by omega)).1
            obtain ⟨S5, hSe⟩ : ∃ S : Array Bool → World → Prop, S = fun _ w' => w' = X3.drew := ⟨_, rfl⟩
            have hdrop : ∀ i : Nat, i ≠ 1000 → ∀ L w', S5 (L.setIfInBounds i true) w' → S5 L w' := by
              intro i _ L w' h; rw [hSe] at h ⊢; exact h
            have hS : ∀ L, S5 L X3.drew := by intro L; rw [hSe]
            have hSo : ∀ {L w'}, S5 L w' → w' = X3.drew := by intro L w' h; rw [hSe] at h; exact h
            clear hSe
            refine wp_region_LN S5 14 #[false, false, false, false, false, false, false, false, false, false, false, false, false, false] (by kernel_rfl) (by kernel_rfl) rfl ?_
            obtain ⟨X5, hX5⟩ : ∃ X5, X5 = X3.drew := ⟨_, rfl⟩
            rw [← hX5] at c0 c1 HA_X5 hSo hS ⊢
            have HX5 := Lib.hid hX5
            clear hX5
            refine WA.tk (i := 0) (v := .slice (some ⟨g, 0, none⟩) n cap) rfl (hdrop 0 (by decide)) (Or.inl ⟨by rfl, ?_⟩) (hS _) ?_
            · rintro w' ⟨L, hL, hSw, hun⟩
              go_simp
            simp only [nA, nB, nC, Act.put, nD, nE, nF]
            refine WA.tk (i := 1) (v := .int .i64 ((F : Nat) : Int)) rfl (hdrop 1 (by decide)) (Or.inl ⟨by rfl, ?_⟩) (hS _) ?_
            · rintro w' ⟨L, hL, hSw, hun⟩
              go_simp
              all_goals omega
            simp only [nA, nB, nC, Act.put, nD, nE, nF]
            refine WA.tk (i := 2) (v := .int .i64 ((root : Nat) : Int)) rfl (hdrop 2 (by decide)) (Or.inl ⟨by rfl, ?_⟩) (hS _) ?_
            · rintro w' ⟨L, hL, hSw, hun⟩
              go_simp
              all_goals omega
            simp only [nA, nB, nC, Act.put, nD, nE, nF]
            refine WA.tk (i := 3) (v := .int .i64 ((F + root : Nat) : Int)) rfl (hdrop 3 (by decide)) (Or.inl ⟨by rfl, ?_⟩) (hS _) ?_
            · rintro w' ⟨L, hL, hSw, hun⟩
              go_simp
              all_goals (exact i64w (by omega) (by omega))
            simp only [nA, nB, nC, Act.put, nD, nE, nF]
            refine WA.tk (i := 4) (v := .pointer (some ⟨g, F + root, none⟩)) rfl (hdrop 4 (by decide)) (Or.inl ⟨by rfl, ?_⟩) (hS _) ?_
            · rintro w' ⟨L, hL, hSw, hun⟩
              go_simp
              all_goals first | (intro h5; omega) | (rw [if_pos (by omega)]; exact ptrOk (by omega))
            simp only [nA, nB, nC, Act.put, nD, nE, nF]
            refine WA.tk (i := 5) (v := .int .u32 d1[F + root]!) rfl (hdrop 5 (by decide)) (Or.inl ⟨by rfl, ?_⟩) (hS _) ?_
            · rintro w' ⟨L, hL, hSw, hun⟩
              obtain rfl := hSo hSw 
              go_simp
            simp only [nA, nB, nC, Act.put, nD, nE, nF]
            refine WA.tk (i := 6) (v := .slice (some ⟨g, 0, none⟩) n cap) rfl (hdrop 6 (by decide)) (Or.inl ⟨by rfl, ?_⟩) (hS _) ?_
            · rintro w' ⟨L, hL, hSw, hun⟩
              go_simp
            simp only [nA, nB, nC, Act.put, nD, nE, nF]
            refine WA.tk (i := 7) (v := .int .i64 ((F : Nat) : Int)) rfl (hdrop 7 (by decide)) (Or.inl ⟨by rfl, ?_⟩) (hS _) ?_
            · rintro w' ⟨L, hL, hSw, hun⟩
              go_simp
              all_goals omega
            simp only [nA, nB, nC, Act.put, nD, nE, nF]
            refine WA.tk (i := 8) (v := .int .i64 ((2 * root + 2 : Nat) : Int)) rfl (hdrop 8 (by decide)) (Or.inl ⟨by rfl, ?_⟩) (hS _) ?_
            · rintro w' ⟨L, hL, hSw, hun⟩
              go_simp
              all_goals omega
            simp only [nA, nB, nC, Act.put, nD, nE, nF]
            refine WA.tk (i := 9) (v := .int .i64 ((F + (2 * root + 2) : Nat) : Int)) rfl (hdrop 9 (by decide)) (Or.inl ⟨by rfl, ?_⟩) (hS _) ?_
            · rintro w' ⟨L, hL, hSw, hun⟩
              go_simp
              all_goals (exact i64w (by omega) (by omega))
            simp only [nA, nB, nC, Act.put, nD, nE, nF]
            refine WA.tk (i := 10) (v := .pointer (some ⟨g, F + (2 * root + 2), none⟩)) rfl (hdrop 10 (by decide)) (Or.inl ⟨by rfl, ?_⟩) (hS _) ?_
            · rintro w' ⟨L, hL, hSw, hun⟩
              go_simp
              all_goals first | (intro h5; omega) | (rw [if_pos (by omega)]; exact ptrOk (by omega))
            simp only [nA, nB, nC, Act.put, nD, nE, nF]
            refine WA.tk (i := 11) (v := .int .u32 d1[F + (2 * root + 2)]!) rfl (hdrop 11 (by decide)) (Or.inl ⟨by rfl, ?_⟩) (hS _) ?_
            · rintro w' ⟨L, hL, hSw, hun⟩
              obtain rfl := hSo hSw 
              go_simp
            simp only [nA, nB, nC, Act.put, nD, nE, nF]
            refine WA.one (i := 12) (by kernel_rfl) rfl (by rfl) (fun K hK => ?_)
            go_simp
            refine (less_u _ _).mono ?_
            rintro e w_ ⟨rfl, hw_⟩
            subst hw_
            rw [hl]
            refine hK _ _ (hS _) ?_
            clear hK
            try simp only [nA, nB, nC, Act.put, nD, nE, nF]
            refine WA.tk (i := 13) (v := .bool true) rfl (hdrop 13 (by decide)) (Or.inl ⟨by rfl, ?_⟩) (hS _) ?_
            · rintro w' ⟨L, hL, hSw, hun⟩
              go_simp
            simp only [nA, nB, nC, Act.put, nD, nE, nF]
            refine WA.done (by kernel_rfl) ?_ _
            refine Nrm.normal ?_
            clear hSo hS hdrop c0 c1
            clear S5
            go_wp2_with fail
            (try simp only [Exit.inBlock, Exit.then]); refine bodyPost_ret (results_none rfl _ _ _) rfl ?_
            refine ⟨rfl, ?_, by rw [HX5.out]; exact HT3.out.drew⟩
            rw [← He.out, Hlm.out, hl, if_neg (by simp)]
            exact HA_X5.out
          · skip
            have HA_X5 := Lib.hid (show IsA X3.drew g n cap d1 from HA_X3.out.stay rfl)
            have c0 : X3.drew.cell? ⟨g, F + root, none⟩ = some (.int .u32 d1[F + root]!) := (HA_X5.out.at (j := F + root) (by omega)).1
            have c1 : X3.drew.cell? ⟨g, F + (2 * root + 2), none⟩ = some (.int .u32 d1[F + (2 * root + 2)]!) := (HA_X5.out.at (j := F + (2 * root + 2)) (by omega)).1
            obtain ⟨S5, hSe⟩ : ∃ S : Array Bool → World → Prop, S = fun _ w' => w' = X3.drew := ⟨_, rfl⟩
            have hdrop : ∀ i : Nat, i ≠ 1000 → ∀ L w', S5 (L.setIfInBounds i true) w' → S5 L w' := by
              intro i _ L w' h; rw [hSe] at h ⊢; exact h
            have hS : ∀ L, S5 L X3.drew := by intro L; rw [hSe]
            have hSo : ∀ {L w'}, S5 L w' → w' = X3.drew := by intro L w' h; rw [hSe] at h; exact h
            clear hSe
            refine wp_region_LN S5 14 #[false, false, false, false, false, false, false, false, false, false, false, false, false, false] (by kernel_rfl) (by kernel_rfl) rfl ?_
            obtain ⟨X5, hX5⟩ : ∃ X5, X5 = X3.drew := ⟨_, rfl⟩
            rw [← hX5] at c0 c1 HA_X5 hSo hS ⊢
            have HX5 := Lib.hid hX5
            clear hX5
            refine WA.tk (i := 0) (v := .slice (some ⟨g, 0, none⟩) n cap) rfl (hdrop 0 (by decide)) (Or.inl ⟨by rfl, ?_⟩) (hS _) ?_
            · rintro w' ⟨L, hL, hSw, hun⟩
              go_simp
            simp only [nA, nB, nC, Act.put, nD, nE, nF]
            refine WA.tk (i := 1) (v := .int .i64 ((F : Nat) : Int)) rfl (hdrop 1 (by decide)) (Or.inl ⟨by rfl, ?_⟩) (hS _) ?_
            · rintro w' ⟨L, hL, hSw, hun⟩
              go_simp
              all_goals omega
            simp only [nA, nB, nC, Act.put, nD, nE, nF]
            refine WA.tk (i := 2) (v := .int .i64 ((root : Nat) : Int)) rfl (hdrop 2 (by decide)) (Or.inl ⟨by rfl, ?_⟩) (hS _) ?_
            · rintro w' ⟨L, hL, hSw, hun⟩
              go_simp
              all_goals omega
            simp only [nA, nB, nC, Act.put, nD, nE, nF]
            refine WA.tk (i := 3) (v := .int .i64 ((F + root : Nat) : Int)) rfl (hdrop 3 (by decide)) (Or.inl ⟨by rfl, ?_⟩) (hS _) ?_
            · rintro w' ⟨L, hL, hSw, hun⟩
              go_simp
              all_goals (exact i64w (by omega) (by omega))
            simp only [nA, nB, nC, Act.put, nD, nE, nF]
            refine WA.tk (i := 4) (v := .pointer (some ⟨g, F + root, none⟩)) rfl (hdrop 4 (by decide)) (Or.inl ⟨by rfl, ?_⟩) (hS _) ?_
            · rintro w' ⟨L, hL, hSw, hun⟩
              go_simp
              all_goals first | (intro h5; omega) | (rw [if_pos (by omega)]; exact ptrOk (by omega))
            simp only [nA, nB, nC, Act.put, nD, nE, nF]
            refine WA.tk (i := 5) (v := .int .u32 d1[F + root]!) rfl (hdrop 5 (by decide)) (Or.inl ⟨by rfl, ?_⟩) (hS _) ?_
            · rintro w' ⟨L, hL, hSw, hun⟩
              obtain rfl := hSo hSw 
              go_simp
            simp only [nA, nB, nC, Act.put, nD, nE, nF]
            refine WA.tk (i := 6) (v := .slice (some ⟨g, 0, none⟩) n cap) rfl (hdrop 6 (by decide)) (Or.inl ⟨by rfl, ?_⟩) (hS _) ?_
            · rintro w' ⟨L, hL, hSw, hun⟩
              go_simp
            simp only [nA, nB, nC, Act.put, nD, nE, nF]
            refine WA.tk (i := 7) (v := .int .i64 ((F : Nat) : Int)) rfl (hdrop 7 (by decide)) (Or.inl ⟨by rfl, ?_⟩) (hS _) ?_
            · rintro w' ⟨L, hL, hSw, hun⟩
              go_simp
              all_goals omega
            simp only [nA, nB, nC, Act.put, nD, nE, nF]
            refine WA.tk (i := 8) (v := .int .i64 ((2 * root + 2 : Nat) : Int)) rfl (hdrop 8 (by decide)) (Or.inl ⟨by rfl, ?_⟩) (hS _) ?_
            · rintro w' ⟨L, hL, hSw, hun⟩
              go_simp
              all_goals omega
            simp only [nA, nB, nC, Act.put, nD, nE, nF]
            refine WA.tk (i := 9) (v := .int .i64 ((F + (2 * root + 2) : Nat) : Int)) rfl (hdrop 9 (by decide)) (Or.inl ⟨by rfl, ?_⟩) (hS _) ?_
            · rintro w' ⟨L, hL, hSw, hun⟩
              go_simp
              all_goals (exact i64w (by omega) (by omega))
            simp only [nA, nB, nC, Act.put, nD, nE, nF]
            refine WA.tk (i := 10) (v := .pointer (some ⟨g, F + (2 * root + 2), none⟩)) rfl (hdrop 10 (by decide)) (Or.inl ⟨by rfl, ?_⟩) (hS _) ?_
            · rintro w' ⟨L, hL, hSw, hun⟩
              go_simp
              all_goals first | (intro h5; omega) | (rw [if_pos (by omega)]; exact ptrOk (by omega))
            simp only [nA, nB, nC, Act.put, nD, nE, nF]
            refine WA.tk (i := 11) (v := .int .u32 d1[F + (2 * root + 2)]!) rfl (hdrop 11 (by decide)) (Or.inl ⟨by rfl, ?_⟩) (hS _) ?_
            · rintro w' ⟨L, hL, hSw, hun⟩
              obtain rfl := hSo hSw 
              go_simp
            simp only [nA, nB, nC, Act.put, nD, nE, nF]
            refine WA.one (i := 12) (by kernel_rfl) rfl (by rfl) (fun K hK => ?_)
            go_simp
            refine (less_u _ _).mono ?_
            rintro e w_ ⟨rfl, hw_⟩
            subst hw_
            rw [hl]
            refine hK _ _ (hS _) ?_
            clear hK
            try simp only [nA, nB, nC, Act.put, nD, nE, nF]
            refine WA.tk (i := 13) (v := .bool false) rfl (hdrop 13 (by decide)) (Or.inl ⟨by rfl, ?_⟩) (hS _) ?_
            · rintro w' ⟨L, hL, hSw, hun⟩
              go_simp
            simp only [nA, nB, nC, Act.put, nD, nE, nF]
            refine WA.done (by kernel_rfl) ?_ _
            refine Nrm.normal ?_
            clear hSo hS hdrop c0 c1
            clear S5
            go_wp2_with fail
            have HA_X6 := Lib.hid (show IsA X5.drew g n cap d1 from HA_X5.out.stay rfl)
            have c0 : X5.drew.cell? ⟨g, F + (2 * root + 2), none⟩ = some (.int .u32 d1[F + (2 * root + 2)]!) := (HA_X6.out.at (j := F + (2 * root + 2)) (by omega)).1
            have c1 : X5.drew.cell? ⟨g, F + root, none⟩ = some (.int .u32 d1[F + root]!) := (HA_X6.out.at (j := F + root) (by omega)).1
            obtain ⟨S6, hSe⟩ : ∃ S : Array Bool → World → Prop, S = fun L w' => L.getD 21 true = false → w' = X5.drew := ⟨_, rfl⟩
            have hdrop : ∀ i, i ≠ 21 → ∀ L w', S6 (L.setIfInBounds i true) w' → S6 L w' := by
              intro i hi L w'
              rw [hSe]
              intro h hl
              exact h (by rw [getD_set_ne true hi]; exact hl)
            have hS : ∀ L, S6 L X5.drew := by intro L; rw [hSe]; exact fun _ => rfl
            have hSo : ∀ {L w'}, S6 L w' → L.getD 21 true = false → w' = X5.drew := by intro L w' h hl; rw [hSe] at h; exact h hl
            have hSd : ∀ (L : Array Bool) X, L.getD 21 true = true → S6 L X := by
              intro L X h; rw [hSe]; intro h1; rw [h] at h1; cases h1
            clear hSe
            refine wp_region_LN S6 24 #[false, false, false, false, false, false, false, false, false, false, false, false, false, false, false, false, false, false, false, false, false, false, false, false] (by kernel_rfl) (by kernel_rfl) rfl ?_
            obtain ⟨X6, hX6⟩ : ∃ X6, X6 = X5.drew := ⟨_, rfl⟩
            rw [← hX6] at c0 c1 HA_X6 hSo hS ⊢
            have HX6 := Lib.hid hX6
            clear hX6
            refine WA.tk (i := 0) (v := .slice (some ⟨g, 0, none⟩) n cap) rfl (hdrop 0 (by decide)) (Or.inl ⟨by rfl, ?_⟩) (hS _) ?_
            · rintro w' ⟨L, hL, hSw, hun⟩
              go_simp
            simp only [nA, nB, nC, Act.put, nD, nE, nF]
            refine WA.tk (i := 1) (v := .int .i64 ((F : Nat) : Int)) rfl (hdrop 1 (by decide)) (Or.inl ⟨by rfl, ?_⟩) (hS _) ?_
            · rintro w' ⟨L, hL, hSw, hun⟩
              go_simp
              all_goals omega
            simp only [nA, nB, nC, Act.put, nD, nE, nF]
            refine WA.tk (i := 2) (v := .int .i64 ((root : Nat) : Int)) rfl (hdrop 2 (by decide)) (Or.inl ⟨by rfl, ?_⟩) (hS _) ?_
            · rintro w' ⟨L, hL, hSw, hun⟩
              go_simp
              all_goals omega
            simp only [nA, nB, nC, Act.put, nD, nE, nF]
            refine WA.tk (i := 3) (v := .int .i64 ((F + root : Nat) : Int)) rfl (hdrop 3 (by decide)) (Or.inl ⟨by rfl, ?_⟩) (hS _) ?_
            · rintro w' ⟨L, hL, hSw, hun⟩
              go_simp
              all_goals (exact i64w (by omega) (by omega))
            simp only [nA, nB, nC, Act.put, nD, nE, nF]
            refine WA.tk (i := 4) (v := .slice (some ⟨g, 0, none⟩) n cap) rfl (hdrop 4 (by decide)) (Or.inl ⟨by rfl, ?_⟩) (hS _) ?_
            · rintro w' ⟨L, hL, hSw, hun⟩
              go_simp
            simp only [nA, nB, nC, Act.put, nD, nE, nF]
            refine WA.tk (i := 5) (v := .int .i64 ((F : Nat) : Int)) rfl (hdrop 5 (by decide)) (Or.inl ⟨by rfl, ?_⟩) (hS _) ?_
            · rintro w' ⟨L, hL, hSw, hun⟩
              go_simp
              all_goals omega
            simp only [nA, nB, nC, Act.put, nD, nE, nF]
            refine WA.tk (i := 6) (v := .int .i64 ((2 * root + 2 : Nat) : Int)) rfl (hdrop 6 (by decide)) (Or.inl ⟨by rfl, ?_⟩) (hS _) ?_
            · rintro w' ⟨L, hL, hSw, hun⟩
              go_simp
              all_goals omega
            simp only [nA, nB, nC, Act.put, nD, nE, nF]
            refine WA.tk (i := 7) (v := .int .i64 ((F + (2 * root + 2) : Nat) : Int)) rfl (hdrop 7 (by decide)) (Or.inl ⟨by rfl, ?_⟩) (hS _) ?_
            · rintro w' ⟨L, hL, hSw, hun⟩
              go_simp
              all_goals (exact i64w (by omega) (by omega))
            simp only [nA, nB, nC, Act.put, nD, nE, nF]
            refine WA.tk (i := 8) (v := .slice (some ⟨g, 0, none⟩) n cap) rfl (hdrop 8 (by decide)) (Or.inl ⟨by rfl, ?_⟩) (hS _) ?_
            · rintro w' ⟨L, hL, hSw, hun⟩
              go_simp
            simp only [nA, nB, nC, Act.put, nD, nE, nF]
            refine WA.tk (i := 9) (v := .int .i64 ((F : Nat) : Int)) rfl (hdrop 9 (by decide)) (Or.inl ⟨by rfl, ?_⟩) (hS _) ?_
            · rintro w' ⟨L, hL, hSw, hun⟩
              go_simp
              all_goals omega
            simp only [nA, nB, nC, Act.put, nD, nE, nF]
            refine WA.tk (i := 10) (v := .int .i64 ((2 * root + 2 : Nat) : Int)) rfl (hdrop 10 (by decide)) (Or.inl ⟨by rfl, ?_⟩) (hS _) ?_
            · rintro w' ⟨L, hL, hSw, hun⟩
              go_simp
              all_goals omega
            simp only [nA, nB, nC, Act.put, nD, nE, nF]
            refine WA.tk (i := 11) (v := .int .i64 ((F + (2 * root + 2) : Nat) : Int)) rfl (hdrop 11 (by decide)) (Or.inl ⟨by rfl, ?_⟩) (hS _) ?_
            · rintro w' ⟨L, hL, hSw, hun⟩
              go_simp
              all_goals (exact i64w (by omega) (by omega))
            simp only [nA, nB, nC, Act.put, nD, nE, nF]
            refine WA.tk (i := 12) (v := .pointer (some ⟨g, F + (2 * root + 2), none⟩)) rfl (hdrop 12 (by decide)) (Or.inl ⟨by rfl, ?_⟩) (hS _) ?_
            · rintro w' ⟨L, hL, hSw, hun⟩
              go_simp
              all_goals first | (intro h5; omega) | (rw [if_pos (by omega)]; exact ptrOk (by omega))
            simp only [nA, nB, nC, Act.put, nD, nE, nF]
            refine WA.tk (i := 13) (v := .int .u32 d1[F + (2 * root + 2)]!) rfl (hdrop 13 (by decide)) (Or.inl ⟨by rfl, ?_⟩) (hS _) ?_
            · rintro w' ⟨L, hL, hSw, hun⟩
              obtain rfl := hSo hSw (hL.wait 21 13 (by kernel_rfl) hun)
              go_simp
            simp only [nA, nB, nC, Act.put, nD, nE, nF]
            refine WA.tk (i := 14) (v := .slice (some ⟨g, 0, none⟩) n cap) rfl (hdrop 14 (by decide)) (Or.inl ⟨by rfl, ?_⟩) (hS _) ?_
            · rintro w' ⟨L, hL, hSw, hun⟩
              go_simp
            simp only [nA, nB, nC, Act.put, nD, nE, nF]
            refine WA.tk (i := 15) (v := .int .i64 ((F : Nat) : Int)) rfl (hdrop 15 (by decide)) (Or.inl ⟨by rfl, ?_⟩) (hS _) ?_
            · rintro w' ⟨L, hL, hSw, hun⟩
              go_simp
              all_goals omega
            simp only [nA, nB, nC, Act.put, nD, nE, nF]
            refine WA.tk (i := 16) (v := .int .i64 ((root : Nat) : Int)) rfl (hdrop 16 (by decide)) (Or.inl ⟨by rfl, ?_⟩) (hS _) ?_
            · rintro w' ⟨L, hL, hSw, hun⟩
              go_simp
              all_goals omega
            simp only [nA, nB, nC, Act.put, nD, nE, nF]
            refine WA.tk (i := 17) (v := .int .i64 ((F + root : Nat) : Int)) rfl (hdrop 17 (by decide)) (Or.inl ⟨by rfl, ?_⟩) (hS _) ?_
            · rintro w' ⟨L, hL, hSw, hun⟩
              go_simp
              all_goals (exact i64w (by omega) (by omega))
            simp only [nA, nB, nC, Act.put, nD, nE, nF]
            refine WA.tk (i := 18) (v := .pointer (some ⟨g, F + root, none⟩)) rfl (hdrop 18 (by decide)) (Or.inl ⟨by rfl, ?_⟩) (hS _) ?_
            · rintro w' ⟨L, hL, hSw, hun⟩
              go_simp
              all_goals first | (intro h5; omega) | (rw [if_pos (by omega)]; exact ptrOk (by omega))
            simp only [nA, nB, nC, Act.put, nD, nE, nF]
            refine WA.tk (i := 19) (v := .int .u32 d1[F + root]!) rfl (hdrop 19 (by decide)) (Or.inl ⟨by rfl, ?_⟩) (hS _) ?_
            · rintro w' ⟨L, hL, hSw, hun⟩
              obtain rfl := hSo hSw (hL.wait 21 19 (by kernel_rfl) hun)
              go_simp
            simp only [nA, nB, nC, Act.put, nD, nE, nF]
            refine WA.tk (i := 20) (v := .pointer (some ⟨g, F + root, none⟩)) rfl (hdrop 20 (by decide)) (Or.inl ⟨by rfl, ?_⟩) (hS _) ?_
            · rintro w' ⟨L, hL, hSw, hun⟩
              go_simp
              all_goals first | (intro h5; omega) | (rw [if_pos (by omega)]; exact ptrOk (by omega))
            simp only [nA, nB, nC, Act.put, nD, nE, nF]
            obtain ⟨cx, fx⟩ := HA_X6.out.at (j := F + root) (by omega)
            obtain ⟨cy, fy⟩ := (HA_X6.out.set (j := F + root) (by omega) d1[F + (2 * root + 2)]!).at (j := F + (2 * root + 2)) (by omega)
            refine WA.one (i := 21) (by kernel_rfl) rfl (by rfl) (fun K hK => ?_)
            go_simp
            refine hK _ _ (hSd _ _ (by rfl)) ?_
            clear hK
            try simp only [nA, nB, nC, Act.put, nD, nE, nF]
            refine WA.tk (i := 22) (v := .pointer (some ⟨g, F + (2 * root + 2), none⟩)) rfl (hdrop 22 (by decide)) (Or.inl ⟨by rfl, ?_⟩) (hSd _ _ (by rfl)) ?_
            · rintro w' ⟨L, hL, hSw, hun⟩
              go_simp
              all_goals first | (intro h5; omega) | (rw [if_pos (by omega)]; exact ptrOk (by omega))
            simp only [nA, nB, nC, Act.put, nD, nE, nF]
            refine WA.one (i := 23) (by kernel_rfl) rfl (by rfl) (fun K hK => ?_)
            go_simp
            refine hK _ _ (hSd _ _ (by rfl)) ?_
            clear hK
            try simp only [nA, nB, nC, Act.put, nD, nE, nF]
            refine WA.done (by kernel_rfl) ?_ _
            refine Nrm.normal ?_
            clear hSo hS hdrop c0 c1 hSd cx fx cy fy
            clear S6
            go_wp2_with fail
            refine ⟨⟨2 * root + 2, swp d1 (F + root) (F + (2 * root + 2)), by first | rfl | (congr 1; push_cast; omega), HA_X6.out.swp (by omega) (by omega), ?_, by omega, ?_⟩, by simp [intOf]; omega⟩
            · have ht := HT3.out.drew
              rw [← HX5.out] at ht
              have ht := ht.drew
              rw [← HX6.out] at ht
              exact (ht.set _ _).set _ _
            · rw [← He.out, Hlm.out, hl, if_pos rfl]
      · have Hlm := Lib.hid (sift_left (F := F) (root := root) (hi := hi) (d := d1) (by omega) (fun h => absurd h hr))
        go_wp2_with fail
        have HA_X3 := Lib.hid (show IsA w1.drew g n cap d1 from HA.out.stay rfl)
        obtain ⟨S3, hSe⟩ : ∃ S : Array Bool → World → Prop, S = fun _ w' => w' = w1.drew := ⟨_, rfl⟩
        have hdrop : ∀ i : Nat, i ≠ 1000 → ∀ L w', S3 (L.setIfInBounds i true) w' → S3 L w' := by
          intro i _ L w' h; rw [hSe] at h ⊢; exact h
        have hS : ∀ L, S3 L w1.drew := by intro L; rw [hSe]
        have hSo : ∀ {L w'}, S3 L w' → w' = w1.drew := by intro L w' h; rw [hSe] at h; exact h
        clear hSe
        refine wp_region_LN S3 20 #[false, false, false, false, false, false, false, false, false, false, false, false, false, false, false, false, false, false, false, false] (by kernel_rfl) (by kernel_rfl) rfl ?_
        obtain ⟨X3, hX3⟩ : ∃ X3, X3 = w1.drew := ⟨_, rfl⟩
        rw [← hX3] at  HA_X3 hSo hS ⊢
        have HX3 := Lib.hid hX3
        clear hX3
        refine WA.tk (i := 0) (v := .int .i64 ((2 * root + 1 : Nat) : Int)) rfl (hdrop 0 (by decide)) (Or.inl ⟨by rfl, ?_⟩) (hS _) ?_
        · rintro w' ⟨L, hL, hSw, hun⟩
          go_simp
          all_goals omega
        simp only [nA, nB, nC, Act.put, nD, nE, nF]
        refine WA.tk (i := 1) (v := .int .i64 ((2 * root + 1 + 1 : Nat) : Int)) rfl (hdrop 1 (by decide)) (Or.inl ⟨by rfl, ?_⟩) (hS _) ?_
        · rintro w' ⟨L, hL, hSw, hun⟩
          go_simp
          all_goals (exact i64w (by omega) (by omega))
        simp only [nA, nB, nC, Act.put, nD, nE, nF]
        refine WA.tk (i := 2) (v := .int .i64 ((hi : Nat) : Int)) rfl (hdrop 2 (by decide)) (Or.inl ⟨by rfl, ?_⟩) (hS _) ?_
        · rintro w' ⟨L, hL, hSw, hun⟩
          go_simp
          all_goals omega
        simp only [nA, nB, nC, Act.put, nD, nE, nF]
        refine WA.tk (i := 3) (v := .bool false) rfl (hdrop 3 (by decide)) (Or.inl ⟨by rfl, ?_⟩) (hS _) ?_
        · rintro w' ⟨L, hL, hSw, hun⟩
          go_simp
          all_goals omega
        simp only [nA, nB, nC, Act.put, nD, nE, nF]
        refine WA.tk (i := 4) (v := .bool false) rfl (hdrop 4 (by decide)) (Or.inl ⟨by rfl, ?_⟩) (hS _) ?_
        · rintro w' ⟨L, hL, hSw, hun⟩
          go_simp
        simp only [nA, nB, nC, Act.put, nD, nE, nF]
        refine WA.tk (i := 5) (v := undef) rfl (hdrop 5 (by decide)) (Or.inr ⟨by rfl, rfl⟩) (hS _) ?_
        simp only [nA, nB, nC, Act.put, nD, nE, nF]
        refine WA.tk (i := 6) (v := undef) rfl (hdrop 6 (by decide)) (Or.inr ⟨by rfl, rfl⟩) (hS _) ?_
        simp only [nA, nB, nC, Act.put, nD, nE, nF]
        refine WA.tk (i := 7) (v := undef) rfl (hdrop 7 (by decide)) (Or.inr ⟨by rfl, rfl⟩) (hS _) ?_
        simp only [nA, nB, nC, Act.put, nD, nE, nF]
        refine WA.tk (i := 8) (v := undef) rfl (hdrop 8 (by decide)) (Or.inr ⟨by rfl, rfl⟩) (hS _) ?_
        simp only [nA, nB, nC, Act.put, nD, nE, nF]
        refine WA.tk (i := 9) (v := undef) rfl (hdrop 9 (by decide)) (Or.inr ⟨by rfl, rfl⟩) (hS _) ?_
        simp only [nA, nB, nC, Act.put, nD, nE, nF]
        refine WA.tk (i := 10) (v := undef) rfl (hdrop 10 (by decide)) (Or.inr ⟨by rfl, rfl⟩) (hS _) ?_
        simp only [nA, nB, nC, Act.put, nD, nE, nF]
        refine WA.tk (i := 11) (v := undef) rfl (hdrop 11 (by decide)) (Or.inr ⟨by rfl, rfl⟩) (hS _) ?_
        simp only [nA, nB, nC, Act.put, nD, nE, nF]
        refine WA.tk (i := 12) (v := undef) rfl (hdrop 12 (by decide)) (Or.inr ⟨by rfl, rfl⟩) (hS _) ?_
        simp only [nA, nB, nC, Act.put, nD, nE, nF]
        refine WA.tk (i := 13) (v := undef) rfl (hdrop 13 (by decide)) (Or.inr ⟨by rfl, rfl⟩) (hS _) ?_
        simp only [nA, nB, nC, Act.put, nD, nE, nF]
        refine WA.tk (i := 14) (v := undef) rfl (hdrop 14 (by decide)) (Or.inr ⟨by rfl, rfl⟩) (hS _) ?_
        simp only [nA, nB, nC, Act.put, nD, nE, nF]
        refine WA.tk (i := 15) (v := undef) rfl (hdrop 15 (by decide)) (Or.inr ⟨by rfl, rfl⟩) (hS _) ?_
        simp only [nA, nB, nC, Act.put, nD, nE, nF]
        refine WA.tk (i := 16) (v := undef) rfl (hdrop 16 (by decide)) (Or.inr ⟨by rfl, rfl⟩) (hS _) ?_
        simp only [nA, nB, nC, Act.put, nD, nE, nF]
        refine WA.tk (i := 17) (v := undef) rfl (hdrop 17 (by decide)) (Or.inr ⟨by rfl, rfl⟩) (hS _) ?_
        simp only [nA, nB, nC, Act.put, nD, nE, nF]
        refine WA.skip (i := 18) (by kernel_rfl) rfl (by rfl) (hS _) ?_
        simp only [nA, nB, nC, Act.put, nD, nE, nF]
        refine WA.tk (i := 19) (v := .bool false) rfl (hdrop 19 (by decide)) (Or.inl ⟨by rfl, ?_⟩) (hS _) ?_
        · rintro w' ⟨L, hL, hSw, hun⟩
          go_simp
        simp only [nA, nB, nC, Act.put, nD, nE, nF]
        refine WA.done (by kernel_rfl) ?_ _
        refine Nrm.normal ?_
        clear hSo hS hdrop 
        clear S3
        have HT3 := Lib.hid (show TnA w X3 g by rw [HX3.out]; exact HT.out.drew)
        go_wp2_with fail
        cases hl : ltInt d1[F + root]! d1[F + (2 * root + 1)]!
        · skip
          have HA_X5 := Lib.hid (show IsA X3.drew g n cap d1 from HA_X3.out.stay rfl)
          have c0 : X3.drew.cell? ⟨g, F + root, none⟩ = some (.int .u32 d1[F + root]!) := (HA_X5.out.at (j := F + root) (by omega)).1
          have c1 : X3.drew.cell? ⟨g, F + (2 * root + 1), none⟩ = some (.int .u32 d1[F + (2 * root + 1)]!) := (HA_X5.out.at (j := F + (2 * root + 1)) (by omega)).1
          obtain ⟨S5, hSe⟩ : ∃ S : Array Bool → World → Prop, S = fun _ w' => w' = X3.drew := ⟨_, rfl⟩
          have hdrop : ∀ i : Nat, i ≠ 1000 → ∀ L w', S5 (L.setIfInBounds i true) w' → S5 L w' := by
            intro i _ L w' h; rw [hSe] at h ⊢; exact h
          have hS : ∀ L, S5 L X3.drew := by intro L; rw [hSe]
          have hSo : ∀ {L w'}, S5 L w' → w' = X3.drew := by intro L w' h; rw [hSe] at h; exact h
          clear hSe
          refine wp_region_LN S5 14 #[false, false, false, false, false, false, false, false, false, false, false, false, false, false] (by kernel_rfl) (by kernel_rfl) rfl ?_
          obtain ⟨X5, hX5⟩ : ∃ X5, X5 = X3.drew := ⟨_, rfl⟩
          rw [← hX5] at c0 c1 HA_X5 hSo hS ⊢
          have HX5 := Lib.hid hX5
          clear hX5
          refine WA.tk (i := 0) (v := .slice (some ⟨g, 0, none⟩) n cap) rfl (hdrop 0 (by decide)) (Or.inl ⟨by rfl, ?_⟩) (hS _) ?_
          · rintro w' ⟨L, hL, hSw, hun⟩
            go_simp
          simp only [nA, nB, nC, Act.put, nD, nE, nF]
          refine WA.tk (i := 1) (v := .int .i64 ((F : Nat) : Int)) rfl (hdrop 1 (by decide)) (Or.inl ⟨by rfl, ?_⟩) (hS _) ?_
          · rintro w' ⟨L, hL, hSw, hun⟩
            go_simp
            all_goals omega
          simp only [nA, nB, nC, Act.put, nD, nE, nF]
          refine WA.tk (i := 2) (v := .int .i64 ((root : Nat) : Int)) rfl (hdrop 2 (by decide)) (Or.inl ⟨by rfl, ?_⟩) (hS _) ?_
          · rintro w' ⟨L, hL, hSw, hun⟩
            go_simp
            all_goals omega
          simp only [nA, nB, nC, Act.put, nD, nE, nF]
          refine WA.tk (i := 3) (v := .int .i64 ((F + root : Nat) : Int)) rfl (hdrop 3 (by decide)) (Or.inl ⟨by rfl, ?_⟩) (hS _) ?_
          · rintro w' ⟨L, hL, hSw, hun⟩
            go_simp
            all_goals (exact i64w (by omega) (by omega))
          simp only [nA, nB, nC, Act.put, nD, nE, nF]
          refine WA.tk (i := 4) (v := .pointer (some ⟨g, F + root, none⟩)) rfl (hdrop 4 (by decide)) (Or.inl ⟨by rfl, ?_⟩) (hS _) ?_
          · rintro w' ⟨L, hL, hSw, hun⟩
            go_simp
            all_goals first | (intro h5; omega) | (rw [if_pos (by omega)]; exact ptrOk (by omega))
          simp only [nA, nB, nC, Act.put, nD, nE, nF]
          refine WA.tk (i := 5) (v := .int .u32 d1[F + root]!) rfl (hdrop 5 (by decide)) (Or.inl ⟨by rfl, ?_⟩) (hS _) ?_
          · rintro w' ⟨L, hL, hSw, hun⟩
            obtain rfl := hSo hSw 
            go_simp
          simp only [nA, nB, nC, Act.put, nD, nE, nF]
          refine WA.tk (i := 6) (v := .slice (some ⟨g, 0, none⟩) n cap) rfl (hdrop 6 (by decide)) (Or.inl ⟨by rfl, ?_⟩) (hS _) ?_
          · rintro w' ⟨L, hL, hSw, hun⟩
            go_simp
          simp only [nA, nB, nC, Act.put, nD, nE, nF]
          refine WA.tk (i := 7) (v := .int .i64 ((F : Nat) : Int)) rfl (hdrop 7 (by decide)) (Or.inl ⟨by rfl, ?_⟩) (hS _) ?_
          · rintro w' ⟨L, hL, hSw, hun⟩
            go_simp
            all_goals omega
          simp only [nA, nB, nC, Act.put, nD, nE, nF]
          refine WA.tk (i := 8) (v := .int .i64 ((2 * root + 1 : Nat) : Int)) rfl (hdrop 8 (by decide)) (Or.inl ⟨by rfl, ?_⟩) (hS _) ?_
          · rintro w' ⟨L, hL, hSw, hun⟩
            go_simp
            all_goals omega
          simp only [nA, nB, nC, Act.put, nD, nE, nF]
          refine WA.tk (i := 9) (v := .int .i64 ((F + (2 * root + 1) : Nat) : Int)) rfl (hdrop 9 (by decide)) (Or.inl ⟨by rfl, ?_⟩) (hS _) ?_
          · rintro w' ⟨L, hL, hSw, hun⟩
            go_simp
            all_goals (exact i64w (by omega) (by omega))
          simp only [nA, nB, nC, Act.put, nD, nE, nF]
          refine WA.tk (i := 10) (v := .pointer (some ⟨g, F + (2 * root + 1), none⟩)) rfl (hdrop 10 (by decide)) (Or.inl ⟨by rfl, ?_⟩) (hS _) ?_
          · rintro w' ⟨L, hL, hSw, hun⟩
            go_simp
            all_goals first | (intro h5; omega) | (rw [if_pos (by omega)]; exact ptrOk (by omega))
          simp only [nA, nB, nC, Act.put, nD, nE, nF]
          refine WA.tk (i := 11) (v := .int .u32 d1[F + (2 * root + 1)]!) rfl (hdrop 11 (by decide)) (Or.inl ⟨by rfl, ?_⟩) (hS _) ?_
          · rintro w' ⟨L, hL, hSw, hun⟩
            obtain rfl := hSo hSw 
            go_simp
          simp only [nA, nB, nC, Act.put, nD, nE, nF]
          refine WA.one (i := 12) (by kernel_rfl) rfl (by rfl) (fun K hK => ?_)
          go_simp
          refine (less_u _ _).mono ?_
          rintro e w_ ⟨rfl, hw_⟩
          subst hw_
          rw [hl]
          refine hK _ _ (hS _) ?_
          clear hK
          try simp only [nA, nB, nC, Act.put, nD, nE, nF]
          refine WA.tk (i := 13) (v := .bool true) rfl (hdrop 13 (by decide)) (Or.inl ⟨by rfl, ?_⟩) (hS _) ?_
          · rintro w' ⟨L, hL, hSw, hun⟩
            go_simp
          simp only [nA, nB, nC, Act.put, nD, nE, nF]
          refine WA.done (by kernel_rfl) ?_ _
          refine Nrm.normal ?_
          clear hSo hS hdrop c0 c1
          clear S5
          go_wp2_with fail
          (try simp only [Exit.inBlock, Exit.then]); refine bodyPost_ret (results_none rfl _ _ _) rfl ?_
          refine ⟨rfl, ?_, by rw [HX5.out]; exact HT3.out.drew⟩
          rw [← He.out, Hlm.out, hl, if_neg (by simp)]
          exact HA_X5.out
        · skip
          have HA_X5 := Lib.hid (show IsA X3.drew g n cap d1 from HA_X3.out.stay rfl)
          have c0 : X3.drew.cell? ⟨g, F + root, none⟩ = some (.int .u32 d1[F + root]!) := (HA_X5.out.at (j := F + root) (by omega)).1
          have c1 : X3.drew.cell? ⟨g, F + (2 * root + 1), none⟩ = some (.int .u32 d1[F + (2 * root + 1)]!) := (HA_X5.out.at (j := F + (2 * root + 1)) (by omega)).1
          obtain ⟨S5, hSe⟩ : ∃ S : Array Bool → World → Prop, S = fun _ w' => w' = X3.drew := ⟨_, rfl⟩
          have hdrop : ∀ i : Nat, i ≠ 1000 → ∀ L w', S5 (L.setIfInBounds i true) w' → S5 L w' := by
            intro i _ L w' h; rw [hSe] at h ⊢; exact h
          have hS : ∀ L, S5 L X3.drew := by intro L; rw [hSe]
          have hSo : ∀ {L w'}, S5 L w' → w' = X3.drew := by intro L w' h; rw [hSe] at h; exact h
          clear hSe
          refine wp_region_LN S5 14 #[false, false, false, false, false, false, false, false, false, false, false, false, false, false] (by kernel_rfl) (by kernel_rfl) rfl ?_
          obtain ⟨X5, hX5⟩ : ∃ X5, X5 = X3.drew := ⟨_, rfl⟩
          rw [← hX5] at c0 c1 HA_X5 hSo hS ⊢
          have HX5 := Lib.hid hX5
          clear hX5
          refine WA.tk (i := 0) (v := .slice (some ⟨g, 0, none⟩) n cap) rfl (hdrop 0 (by decide)) (Or.inl ⟨by rfl, ?_⟩) (hS _) ?_
          · rintro w' ⟨L, hL, hSw, hun⟩
            go_simp
          simp only [nA, nB, nC, Act.put, nD, nE, nF]
          refine WA.tk (i := 1) (v := .int .i64 ((F : Nat) : Int)) rfl (hdrop 1 (by decide)) (Or.inl ⟨by rfl, ?_⟩) (hS _) ?_
          · rintro w' ⟨L, hL, hSw, hun⟩
            go_simp
            all_goals omega
          simp only [nA, nB, nC, Act.put, nD, nE, nF]
          refine WA.tk (i := 2) (v := .int .i64 ((root : Nat) : Int)) rfl (hdrop 2 (by decide)) (Or.inl ⟨by rfl, ?_⟩) (hS _) ?_
          · rintro w' ⟨L, hL, hSw, hun⟩
            go_simp
            all_goals omega
          simp only [nA, nB, nC, Act.put, nD, nE, nF]
          refine WA.tk (i := 3) (v := .int .i64 ((F + root : Nat) : Int)) rfl (hdrop 3 (by decide)) (Or.inl ⟨by rfl, ?_⟩) (hS _) ?_
          · rintro w' ⟨L, hL, hSw, hun⟩
            go_simp
            all_goals (exact i64w (by omega) (by omega))
          simp only [nA, nB, nC, Act.put, nD, nE, nF]
          refine WA.tk (i := 4) (v := .pointer (some ⟨g, F + root, none⟩)) rfl (hdrop 4 (by decide)) (Or.inl ⟨by rfl, ?_⟩) (hS _) ?_
          · rintro w' ⟨L, hL, hSw, hun⟩
            go_simp
            all_goals first | (intro h5; omega) | (rw [if_pos (by omega)]; exact ptrOk (by omega))
          simp only [nA, nB, nC, Act.put, nD, nE, nF]
          refine WA.tk (i := 5) (v := .int .u32 d1[F + root]!) rfl (hdrop 5 (by decide)) (Or.inl ⟨by rfl, ?_⟩) (hS _) ?_
          · rintro w' ⟨L, hL, hSw, hun⟩
            obtain rfl := hSo hSw 
            go_simp
          simp only [nA, nB, nC, Act.put, nD, nE, nF]
          refine WA.tk (i := 6) (v := .slice (some ⟨g, 0, none⟩) n cap) rfl (hdrop 6 (by decide)) (Or.inl ⟨by rfl, ?_⟩) (hS _) ?_
          · rintro w' ⟨L, hL, hSw, hun⟩
            go_simp
          simp only [nA, nB, nC, Act.put, nD, nE, nF]
          refine WA.tk (i := 7) (v := .int .i64 ((F : Nat) : Int)) rfl (hdrop 7 (by decide)) (Or.inl ⟨by rfl, ?_⟩) (hS _) ?_
          · rintro w' ⟨L, hL, hSw, hun⟩
            go_simp
            all_goals omega
          simp only [nA, nB, nC, Act.put, nD, nE, nF]
          refine WA.tk (i := 8) (v := .int .i64 ((2 * root + 1 : Nat) : Int)) rfl (hdrop 8 (by decide)) (Or.inl ⟨by rfl, ?_⟩) (hS _) ?_
          · rintro w' ⟨L, hL, hSw, hun⟩
            go_simp
            all_goals omega
          simp only [nA, nB, nC, Act.put, nD, nE, nF]
          refine WA.tk (i := 9) (v := .int .i64 ((F + (2 * root + 1) : Nat) : Int)) rfl (hdrop 9 (by decide)) (Or.inl ⟨by rfl, ?_⟩) (hS _) ?_
          · rintro w' ⟨L, hL, hSw, hun⟩
            go_simp
            all_goals (exact i64w (by omega) (by omega))
          simp only [nA, nB, nC, Act.put, nD, nE, nF]
          refine WA.tk (i := 10) (v := .pointer (some ⟨g, F + (2 * root + 1), none⟩)) rfl (hdrop 10 (by decide)) (Or.inl ⟨by rfl, ?_⟩) (hS _) ?_
          · rintro w' ⟨L, hL, hSw, hun⟩
            go_simp
            all_goals first | (intro h5; omega) | (rw [if_pos (by omega)]; exact ptrOk (by omega))
          simp only [nA, nB, nC, Act.put, nD, nE, nF]
          refine WA.tk (i := 11) (v := .int .u32 d1[F + (2 * root + 1)]!) rfl (hdrop 11 (by decide)) (Or.inl ⟨by rfl, ?_⟩) (hS _) ?_
          · rintro w' ⟨L, hL, hSw, hun⟩
            obtain rfl := hSo hSw 
            go_simp
          simp only [nA, nB, nC, Act.put, nD, nE, nF]
          refine WA.one (i := 12) (by kernel_rfl) rfl (by rfl) (fun K hK => ?_)
          go_simp
          refine (less_u _ _).mono ?_
          rintro e w_ ⟨rfl, hw_⟩
          subst hw_
          rw [hl]
          refine hK _ _ (hS _) ?_
          clear hK
          try simp only [nA, nB, nC, Act.put, nD, nE, nF]
          refine WA.tk (i := 13) (v := .bool false) rfl (hdrop 13 (by decide)) (Or.inl ⟨by rfl, ?_⟩) (hS _) ?_
          · rintro w' ⟨L, hL, hSw, hun⟩
            go_simp
          simp only [nA, nB, nC, Act.put, nD, nE, nF]
          refine WA.done (by kernel_rfl) ?_ _
          refine Nrm.normal ?_
          clear hSo hS hdrop c0 c1
          clear S5
          go_wp2_with fail
          have HA_X6 := Lib.hid (show IsA X5.drew g n cap d1 from HA_X5.out.stay rfl)
          have c0 : X5.drew.cell? ⟨g, F + (2 * root + 1), none⟩ = some (.int .u32 d1[F + (2 * root + 1)]!) := (HA_X6.out.at (j := F + (2 * root + 1)) (by omega)).1
          have c1 : X5.drew.cell? ⟨g, F + root, none⟩ = some (.int .u32 d1[F + root]!) := (HA_X6.out.at (j := F + root) (by omega)).1
          obtain ⟨S6, hSe⟩ : ∃ S : Array Bool → World → Prop, S = fun L w' => L.getD 21 true = false → w' = X5.drew := ⟨_, rfl⟩
          have hdrop : ∀ i, i ≠ 21 → ∀ L w', S6 (L.setIfInBounds i true) w' → S6 L w' := by
            intro i hi L w'
            rw [hSe]
            intro h hl
            exact h (by rw [getD_set_ne true hi]; exact hl)
          have hS : ∀ L, S6 L X5.drew := by intro L; rw [hSe]; exact fun _ => rfl
          have hSo : ∀ {L w'}, S6 L w' → L.getD 21 true = false → w' = X5.drew := by intro L w' h hl; rw [hSe] at h; exact h hl
          have hSd : ∀ (L : Array Bool) X, L.getD 21 true = true → S6 L X := by
            intro L X h; rw [hSe]; intro h1; rw [h] at h1; cases h1
          clear hSe
          refine wp_region_LN S6 24 #[false, false, false, false, false, false, false, false, false, false, false, false, false, false, false, false, false, false, false, false, false, false, false, false] (by kernel_rfl) (by kernel_rfl) rfl ?_
          obtain ⟨X6, hX6⟩ : ∃ X6, X6 = X5.drew := ⟨_, rfl⟩
          rw [← hX6] at c0 c1 HA_X6 hSo hS ⊢
          have HX6 := Lib.hid hX6
          clear hX6
          refine WA.tk (i := 0) (v := .slice (some ⟨g, 0, none⟩) n cap) rfl (hdrop 0 (by decide)) (Or.inl ⟨by rfl, ?_⟩) (hS _) ?_
          · rintro w' ⟨L, hL, hSw, hun⟩
            go_simp
          simp only [nA, nB, nC, Act.put, nD, nE, nF]
          refine WA.tk (i := 1) (v := .int .i64 ((F : Nat) : Int)) rfl (hdrop 1 (by decide)) (Or.inl ⟨by rfl, ?_⟩) (hS _) ?_
          · rintro w' ⟨L, hL, hSw, hun⟩
            go_simp
            all_goals omega
          simp only [nA, nB, nC, Act.put, nD, nE, nF]
          refine WA.tk (i := 2) (v := .int .i64 ((root : Nat) : Int)) rfl (hdrop 2 (by decide)) (Or.inl ⟨by rfl, ?_⟩) (hS _) ?_
          · rintro w' ⟨L, hL, hSw, hun⟩
            go_simp
            all_goals omega
          simp only [nA, nB, nC, Act.put, nD, nE, nF]
          refine WA.tk (i := 3) (v := .int .i64 ((F + root : Nat) : Int)) rfl (hdrop 3 (by decide)) (Or.inl ⟨by rfl, ?_⟩) (hS _) ?_
          · rintro w' ⟨L, hL, hSw, hun⟩
            go_simp
            all_goals (exact i64w (by omega) (by omega))
          simp only [nA, nB, nC, Act.put, nD, nE, nF]
          refine WA.tk (i := 4) (v := .slice (some ⟨g, 0, none⟩) n cap) rfl (hdrop 4 (by decide)) (Or.inl ⟨by rfl, ?_⟩) (hS _) ?_
          · rintro w' ⟨L, hL, hSw, hun⟩
            go_simp
          simp only [nA, nB, nC, Act.put, nD, nE, nF]
          refine WA.tk (i := 5) (v := .int .i64 ((F : Nat) : Int)) rfl (hdrop 5 (by decide)) (Or.inl ⟨by rfl, ?_⟩) (hS _) ?_
          · rintro w' ⟨L, hL, hSw, hun⟩
            go_simp
            all_goals omega
          simp only [nA, nB, nC, Act.put, nD, nE, nF]
          refine WA.tk (i := 6) (v := .int .i64 ((2 * root + 1 : Nat) : Int)) rfl (hdrop 6 (by decide)) (Or.inl ⟨by rfl, ?_⟩) (hS _) ?_
          · rintro w' ⟨L, hL, hSw, hun⟩
            go_simp
            all_goals omega
          simp only [nA, nB, nC, Act.put, nD, nE, nF]
          refine WA.tk (i := 7) (v := .int .i64 ((F + (2 * root + 1) : Nat) : Int)) rfl (hdrop 7 (by decide)) (Or.inl ⟨by rfl, ?_⟩) (hS _) ?_
          · rintro w' ⟨L, hL, hSw, hun⟩
            go_simp
            all_goals (exact i64w (by omega) (by omega))
          simp only [nA, nB, nC, Act.put, nD, nE, nF]
          refine WA.tk (i := 8) (v := .slice (some ⟨g, 0, none⟩) n cap) rfl (hdrop 8 (by decide)) (Or.inl ⟨by rfl, ?_⟩) (hS _) ?_
          · rintro w' ⟨L, hL, hSw, hun⟩
            go_simp
          simp only [nA, nB, nC, Act.put, nD, nE, nF]
          refine WA.tk (i := 9) (v := .int .i64 ((F : Nat) : Int)) rfl (hdrop 9 (by decide)) (Or.inl ⟨by rfl, ?_⟩) (hS _) ?_
          · rintro w' ⟨L, hL, hSw, hun⟩
            go_simp
            all_goals omega
          simp only [nA, nB, nC, Act.put, nD, nE, nF]
          refine WA.tk (i := 10) (v := .int .i64 ((2 * root + 1 : Nat) : Int)) rfl (hdrop 10 (by decide)) (Or.inl ⟨by rfl, ?_⟩) (hS _) ?_
          · rintro w' ⟨L, hL, hSw, hun⟩
            go_simp
            all_goals omega
          simp only [nA, nB, nC, Act.put, nD, nE, nF]
          refine WA.tk (i := 11) (v := .int .i64 ((F + (2 * root + 1) : Nat) : Int)) rfl (hdrop 11 (by decide)) (Or.inl ⟨by rfl, ?_⟩) (hS _) ?_
          · rintro w' ⟨L, hL, hSw, hun⟩
            go_simp
            all_goals (exact i64w (by omega) (by omega))
          simp only [nA, nB, nC, Act.put, nD, nE, nF]
          refine WA.tk (i := 12) (v := .pointer (some ⟨g, F + (2 * root + 1), none⟩)) rfl (hdrop 12 (by decide)) (Or.inl ⟨by rfl, ?_⟩) (hS _) ?_
          · rintro w' ⟨L, hL, hSw, hun⟩
            go_simp
            all_goals first | (intro h5; omega) | (rw [if_pos (by omega)]; exact ptrOk (by omega))
          simp only [nA, nB, nC, Act.put, nD, nE, nF]
          refine WA.tk (i := 13) (v := .int .u32 d1[F + (2 * root + 1)]!) rfl (hdrop 13 (by decide)) (Or.inl ⟨by rfl, ?_⟩) (hS _) ?_
          · rintro w' ⟨L, hL, hSw, hun⟩
            obtain rfl := hSo hSw (hL.wait 21 13 (by kernel_rfl) hun)
            go_simp
          simp only [nA, nB, nC, Act.put, nD, nE, nF]
          refine WA.tk (i := 14) (v := .slice (some ⟨g, 0, none⟩) n cap) rfl (hdrop 14 (by decide)) (Or.inl ⟨by rfl, ?_⟩) (hS _) ?_
          · rintro w' ⟨L, hL, hSw, hun⟩
            go_simp
          simp only [nA, nB, nC, Act.put, nD, nE, nF]
          refine WA.tk (i := 15) (v := .int .i64 ((F : Nat) : Int)) rfl (hdrop 15 (by decide)) (Or.inl ⟨by rfl, ?_⟩) (hS _) ?_
          · rintro w' ⟨L, hL, hSw, hun⟩
            go_simp
            all_goals omega
          simp only [nA, nB, nC, Act.put, nD, nE, nF]
          refine WA.tk (i := 16) (v := .int .i64 ((root : Nat) : Int)) rfl (hdrop 16 (by decide)) (Or.inl ⟨by rfl, ?_⟩) (hS _) ?_
          · rintro w' ⟨L, hL, hSw, hun⟩
            go_simp
            all_goals omega
          simp only [nA, nB, nC, Act.put, nD, nE, nF]
          refine WA.tk (i := 17) (v := .int .i64 ((F + root : Nat) : Int)) rfl (hdrop 17 (by decide)) (Or.inl ⟨by rfl, ?_⟩) (hS _) ?_
          · rintro w' ⟨L, hL, hSw, hun⟩
            go_simp
            all_goals (exact i64w (by omega) (by omega))
          simp only [nA, nB, nC, Act.put, nD, nE, nF]
          refine WA.tk (i := 18) (v := .pointer (some ⟨g, F + root, none⟩)) rfl (hdrop 18 (by decide)) (Or.inl ⟨by rfl, ?_⟩) (hS _) ?_
          · rintro w' ⟨L, hL, hSw, hun⟩
            go_simp
            all_goals first | (intro h5; omega) | (rw [if_pos (by omega)]; exact ptrOk (by omega))
          simp only [nA, nB, nC, Act.put, nD, nE, nF]
          refine WA.tk (i := 19) (v := .int .u32 d1[F + root]!) rfl (hdrop 19 (by decide)) (Or.inl ⟨by rfl, ?_⟩) (hS _) ?_
          · rintro w' ⟨L, hL, hSw, hun⟩
            obtain rfl := hSo hSw (hL.wait 21 19 (by kernel_rfl) hun)
            go_simp
          simp only [nA, nB, nC, Act.put, nD, nE, nF]
          refine WA.tk (i := 20) (v := .pointer (some ⟨g, F + root, none⟩)) rfl (hdrop 20 (by decide)) (Or.inl ⟨by rfl, ?_⟩) (hS _) ?_
          · rintro w' ⟨L, hL, hSw, hun⟩
            go_simp
            all_goals first | (intro h5; omega) | (rw [if_pos (by omega)]; exact ptrOk (by omega))
          simp only [nA, nB, nC, Act.put, nD, nE, nF]
          obtain ⟨cx, fx⟩ := HA_X6.out.at (j := F + root) (by omega)
          obtain ⟨cy, fy⟩ := (HA_X6.out.set (j := F + root) (by omega) d1[F + (2 * root + 1)]!).at (j := F + (2 * root + 1)) (by omega)
          refine WA.one (i := 21) (by kernel_rfl) rfl (by rfl) (fun K hK => ?_)
          go_simp
          refine hK _ _ (hSd _ _ (by rfl)) ?_
          clear hK
          try simp only [nA, nB, nC, Act.put, nD, nE, nF]
          refine WA.tk (i := 22) (v := .pointer (some ⟨g, F + (2 * root + 1), none⟩)) rfl (hdrop 22 (by decide)) (Or.inl ⟨by rfl, ?_⟩) (hSd _ _ (by rfl)) ?_
          · rintro w' ⟨L, hL, hSw, hun⟩
            go_simp
            all_goals first | (intro h5; omega) | (rw [if_pos (by omega)]; exact ptrOk (by omega))
          simp only [nA, nB, nC, Act.put, nD, nE, nF]
          refine WA.one (i := 23) (by kernel_rfl) rfl (by rfl) (fun K hK => ?_)
          go_simp
          refine hK _ _ (hSd _ _ (by rfl)) ?_
          clear hK
          try simp only [nA, nB, nC, Act.put, nD, nE, nF]
          refine WA.done (by kernel_rfl) ?_ _
          refine Nrm.normal ?_
          clear hSo hS hdrop c0 c1 hSd cx fx cy fy
          clear S6
          go_wp2_with fail
          refine ⟨⟨2 * root + 1, swp d1 (F + root) (F + (2 * root + 1)), by first | rfl | (congr 1; push_cast; omega), HA_X6.out.swp (by omega) (by omega), ?_, by omega, ?_⟩, by simp [intOf]; omega⟩
          · have ht := HT3.out.drew
            rw [← HX5.out] at ht
            have ht := ht.drew
            rw [← HX6.out] at ht
            exact (ht.set _ _).set _ _
          · rw [← He.out, Hlm.out, hl, if_pos rfl]
end
end Go.Proofs.Ytghihhjcoilmgaa
