/- The partial insertion sort at numbers of 32 bits, walked. -/
import Derived.Test.YtghihhjcoilmgaaV3
import Derived.Deep.CutRange
import Derived.Deep.CutBlock
namespace Go.Proofs.Ytghihhjcoilmgaa
set_option maxRecDepth 100000
open Go.RowKit Go.Maps Go.Sort
set_option linter.unusedVariables false
set_option linter.unusedSimpArgs false

theorem ss_go {d : Array Int} {b k : Nat} (h : k + 1 < b) (hl : ltInt d[k + 1]! d[k]! = false) : scanSorted ltInt d b (k + 1) = scanSorted ltInt d b (k + 2) := by
  rw [scanSorted, if_pos (by simp [h, hl])]
theorem ss_stop {d : Array Int} {b k : Nat} (hl : ltInt d[k + 1]! d[k]! = true) : scanSorted ltInt d b (k + 1) = k + 1 := by
  rw [scanSorted, if_neg (by simp [hl])]
theorem ss_end {d : Array Int} {b : Nat} : scanSorted ltInt d b b = b := by
  rw [scanSorted, if_neg (by simp)]
theorem sdn_go {m : Nat} {d : Array Int} (hl : ltInt d[m + 1]! d[m]! = true) : shiftDown ltInt (m + 1) d = shiftDown ltInt m (swp d (m + 1) m) := by rw [shiftDown]; simp [hl]
theorem sdn_stop {m : Nat} {d : Array Int} (hl : ltInt d[m + 1]! d[m]! = false) : shiftDown ltInt (m + 1) d = d := by rw [shiftDown]; simp [hl]
theorem sup_go {b m : Nat} {d : Array Int} (h : m + 1 < b) (hl : ltInt d[m + 1]! d[m]! = true) : shiftUp ltInt b (m + 1) d = shiftUp ltInt b (m + 2) (swp d (m + 1) m) := by rw [shiftUp, if_pos h]; simp [hl]
theorem sup_stop {b m : Nat} {d : Array Int} (hl : ltInt d[m + 1]! d[m]! = false) : shiftUp ltInt b (m + 1) d = d := by rw [shiftUp]; simp [hl]
theorem sup_end {b : Nat} {d : Array Int} : shiftUp ltInt b b d = d := by rw [shiftUp, if_neg (by simp)]
theorem pi_succ (a b s i : Nat) (d : Array Int) : partialIns ltInt a b (s + 1) i d = (if scanSorted ltInt d b i = b then (d, true) else if b - a < 50 then (d, false) else
    partialIns ltInt a b s (scanSorted ltInt d b i) (if b - scanSorted ltInt d b i ≥ 2 then shiftUp ltInt b (scanSorted ltInt d b i + 1) (if scanSorted ltInt d b i - a ≥ 2 then shiftDown ltInt (scanSorted ltInt d b i - 1) (swp d (scanSorted ltInt d b i) (scanSorted ltInt d b i - 1)) else swp d (scanSorted ltInt d b i) (scanSorted ltInt d b i - 1)) else (if scanSorted ltInt d b i - a ≥ 2 then shiftDown ltInt (scanSorted ltInt d b i - 1) (swp d (scanSorted ltInt d b i) (scanSorted ltInt d b i - 1)) else swp d (scanSorted ltInt d b i) (scanSorted ltInt d b i - 1)))) := rfl
section
variable {w : World} {g n cap : Nat} {d : Array Int}
set_option maxRecDepth 100000 in
set_option maxHeartbeats 8000000 in
theorem partialIns_u (h : IsA w g n cap d) (hn6 : n ≤ 1000000) (a b : Nat) (hab : a < b) (hb : b ≤ n) : Calls Try.prog 59 #[.slice (some ⟨g, 0, none⟩) n cap, .int .i64 (a : Nat), .int .i64 (b : Nat)] w fun e w' => e = .returned (.bool (partialInsertionSort ltInt d a b).2) ∧ IsA w' g n cap (partialInsertionSort ltInt d a b).1 ∧ TnA w w' g := by
  have H := Lib.hid h
  clear h
  go_enter Try.func59, Try.ntmps59
  go_wp2_with fail
  go_loopw [7, 8] (fun u7 u8 wr => ∃ (i s : Nat) (d0 : Array Int), u7 = .int .i64 i ∧ u8 = .int .i64 s ∧ s ≤ 5 ∧ a + 1 ≤ i ∧ i ≤ b ∧ IsA wr g n cap d0 ∧ TnA w wr g ∧ partialIns ltInt a b (5 - s) i d0 = partialIns ltInt a b 5 (a + 1) d) (fun _ u _ => 5 - (intOf u).toNat)
  case atStart => exact ⟨a + 1, 0, d, by push_cast; rfl, rfl, by omega, by omega, by omega, H.out, TnA.refl _ _, rfl⟩
  case round =>
    rename World => w1
    obtain ⟨i, s, d0, rfl, rfl, hs5, hai, hib, hA, hT, he⟩ := hrel
    have HA0 := Lib.hid hA; have HT0 := Lib.hid hT; have He := Lib.hid he
    clear hA hT he
    by_cases hs : s < 5
    · have hd5 : decide ((s : Int) < 5) = true := by simp; omega
      obtain ⟨q, hq⟩ : ∃ q, 5 - s = q + 1 := ⟨4 - s, by omega⟩
      go_wp2_with fail
      go_loopw [7] (fun u wx => ∃ i1 : Nat, u = .int .i64 i1 ∧ i ≤ i1 ∧ i1 ≤ b ∧ IsA wx g n cap d0 ∧ TnA w wx g ∧ scanSorted ltInt d0 b i1 = scanSorted ltInt d0 b i) (fun u _ => b - (intOf u).toNat)
      case atStart => exact ⟨i, rfl, Nat.le_refl _, hib, HA0.out, HT0.out, rfl⟩
      case round =>
        rename World => w2
        obtain ⟨i1, rfl, hii, hib1, hA, hT, hsc⟩ := hrel
        have HA := Lib.hid hA; have HT := Lib.hid hT; have Hsc := Lib.hid hsc
        clear hA hT hsc
        by_cases hlt : i1 < b
        · have hdl : decide ((i1 : Int) < (b : Int)) = true := by simp; omega
          obtain ⟨k, rfl⟩ : ∃ k, i1 = k + 1 := ⟨i1 - 1, by omega⟩
          cases hl : ltInt d0[k + 1]! d0[k]!
          · go_wp2_with fail
            have HA_X1 := Lib.hid (show IsA w2.drew g n cap d0 from HA.out.stay rfl)
            have c0 : w2.drew.cell? ⟨g, k + 1, none⟩ = some (.int .u32 d0[k + 1]!) := (HA_X1.out.at (j := k + 1) (by omega)).1
            have c1 : w2.drew.cell? ⟨g, k, none⟩ = some (.int .u32 d0[k]!) := (HA_X1.out.at (j := k) (by omega)).1
            obtain ⟨S5, hSe⟩ : ∃ S : Array Bool → World → Prop, S = fun _ w' => w' = w2.drew := ⟨_, rfl⟩
            have hdrop : ∀ i : Nat, i ≠ 1000 → ∀ L w', S5 (L.setIfInBounds i true) w' → S5 L w' := by
              intro i _ L w' h; rw [hSe] at h ⊢; exact h
            have hS : ∀ L, S5 L w2.drew := by intro L; rw [hSe]
            have hSo : ∀ {L w'}, S5 L w' → w' = w2.drew := by intro L w' h; rw [hSe] at h; exact h
            clear hSe
            refine wp_region_LN S5 16 #[false, false, false, false, false, false, false, false, false, false, false, false, false, false, false, false] (by kernel_rfl) (by kernel_rfl) rfl ?_
            obtain ⟨X1, hX1⟩ : ∃ X1, X1 = w2.drew := ⟨_, rfl⟩
            rw [← hX1] at c0 c1 HA_X1 hSo hS ⊢
            have HX1 := Lib.hid hX1
            clear hX1
            refine WA.tk (i := 0) (v := .int .i64 ((k + 1 : Nat) : Int)) rfl (hdrop 0 (by decide)) (Or.inl ⟨by rfl, ?_⟩) (hS _) ?_
            · rintro w' ⟨L, hL, hSw, hun⟩
              go_simp
            simp only [nA, nB, nC, Act.put, nD, nE, nF]
            refine WA.tk (i := 1) (v := .int .i64 ((b : Nat) : Int)) rfl (hdrop 1 (by decide)) (Or.inl ⟨by rfl, ?_⟩) (hS _) ?_
            · rintro w' ⟨L, hL, hSw, hun⟩
              go_simp
            simp only [nA, nB, nC, Act.put, nD, nE, nF]
            refine WA.tk (i := 2) (v := .bool true) rfl (hdrop 2 (by decide)) (Or.inl ⟨by rfl, ?_⟩) (hS _) ?_
            · rintro w' ⟨L, hL, hSw, hun⟩
              go_simp
              all_goals omega
            simp only [nA, nB, nC, Act.put, nD, nE, nF]
            refine WA.tk (i := 3) (v := .bool true) rfl (hdrop 3 (by decide)) (Or.inl ⟨by rfl, ?_⟩) (hS _) ?_
            · rintro w' ⟨L, hL, hSw, hun⟩
              go_simp
            simp only [nA, nB, nC, Act.put, nD, nE, nF]
            refine WA.tk (i := 4) (v := .slice (some ⟨g, 0, none⟩) n cap) rfl (hdrop 4 (by decide)) (Or.inl ⟨by rfl, ?_⟩) (hS _) ?_
            · rintro w' ⟨L, hL, hSw, hun⟩
              go_simp
            simp only [nA, nB, nC, Act.put, nD, nE, nF]
            refine WA.tk (i := 5) (v := .int .i64 ((k + 1 : Nat) : Int)) rfl (hdrop 5 (by decide)) (Or.inl ⟨by rfl, ?_⟩) (hS _) ?_
            · rintro w' ⟨L, hL, hSw, hun⟩
              go_simp
            simp only [nA, nB, nC, Act.put, nD, nE, nF]
            refine WA.tk (i := 6) (v := .pointer (some ⟨g, k + 1, none⟩)) rfl (hdrop 6 (by decide)) (Or.inl ⟨by rfl, ?_⟩) (hS _) ?_
            · rintro w' ⟨L, hL, hSw, hun⟩
              go_simp
              all_goals (intro h5; omega)
            simp only [nA, nB, nC, Act.put, nD, nE, nF]
            refine WA.tk (i := 7) (v := .int .u32 d0[k + 1]!) rfl (hdrop 7 (by decide)) (Or.inl ⟨by rfl, ?_⟩) (hS _) ?_
            · rintro w' ⟨L, hL, hSw, hun⟩
              obtain rfl := hSo hSw 
              go_simp
            simp only [nA, nB, nC, Act.put, nD, nE, nF]
            refine WA.tk (i := 8) (v := .slice (some ⟨g, 0, none⟩) n cap) rfl (hdrop 8 (by decide)) (Or.inl ⟨by rfl, ?_⟩) (hS _) ?_
            · rintro w' ⟨L, hL, hSw, hun⟩
              go_simp
            simp only [nA, nB, nC, Act.put, nD, nE, nF]
            refine WA.tk (i := 9) (v := .int .i64 ((k + 1 : Nat) : Int)) rfl (hdrop 9 (by decide)) (Or.inl ⟨by rfl, ?_⟩) (hS _) ?_
            · rintro w' ⟨L, hL, hSw, hun⟩
              go_simp
            simp only [nA, nB, nC, Act.put, nD, nE, nF]
            refine WA.tk (i := 10) (v := .int .i64 ((k : Nat) : Int)) rfl (hdrop 10 (by decide)) (Or.inl ⟨by rfl, ?_⟩) (hS _) ?_
            · rintro w' ⟨L, hL, hSw, hun⟩
              go_simp
              all_goals (exact i64w (by omega) (by omega))
            simp only [nA, nB, nC, Act.put, nD, nE, nF]
            refine WA.tk (i := 11) (v := .pointer (some ⟨g, k, none⟩)) rfl (hdrop 11 (by decide)) (Or.inl ⟨by rfl, ?_⟩) (hS _) ?_
            · rintro w' ⟨L, hL, hSw, hun⟩
              go_simp
              all_goals (intro h5; omega)
            simp only [nA, nB, nC, Act.put, nD, nE, nF]
            refine WA.tk (i := 12) (v := .int .u32 d0[k]!) rfl (hdrop 12 (by decide)) (Or.inl ⟨by rfl, ?_⟩) (hS _) ?_
            · rintro w' ⟨L, hL, hSw, hun⟩
              obtain rfl := hSo hSw 
              go_simp
            simp only [nA, nB, nC, Act.put, nD, nE, nF]
            refine WA.one (i := 13) (by kernel_rfl) rfl (by rfl) (fun K hK => ?_)
            go_simp
            refine (less_u _ _).mono ?_
            rintro e w_ ⟨rfl, hw_⟩
            subst hw_
            rw [hl]
            refine hK _ _ (hS _) ?_
            clear hK
            try simp only [nA, nB, nC, Act.put, nD, nE, nF]
            refine WA.tk (i := 14) (v := .bool true) rfl (hdrop 14 (by decide)) (Or.inl ⟨by rfl, ?_⟩) (hS _) ?_
            · rintro w' ⟨L, hL, hSw, hun⟩
              go_simp
            simp only [nA, nB, nC, Act.put, nD, nE, nF]
            refine WA.tk (i := 15) (v := .bool true) rfl (hdrop 15 (by decide)) (Or.inl ⟨by rfl, ?_⟩) (hS _) ?_
            · rintro w' ⟨L, hL, hSw, hun⟩
              go_simp
            simp only [nA, nB, nC, Act.put, nD, nE, nF]
            refine WA.done (by kernel_rfl) ?_ _
            refine Nrm.normal ?_
            clear hSo hS hdrop c0 c1
            clear S5
            go_wp2_with fail
            refine ⟨⟨k + 2, by push_cast; rfl, by omega, by omega, HA_X1.out, ?_, ?_⟩, by simp [intOf]; omega⟩
            · rw [HX1.out]; exact HT.out.drew
            · rw [← Hsc.out, ss_go hlt hl]
          · go_wp2_with fail
            have HA_X1 := Lib.hid (show IsA w2.drew g n cap d0 from HA.out.stay rfl)
            have c0 : w2.drew.cell? ⟨g, k + 1, none⟩ = some (.int .u32 d0[k + 1]!) := (HA_X1.out.at (j := k + 1) (by omega)).1
            have c1 : w2.drew.cell? ⟨g, k, none⟩ = some (.int .u32 d0[k]!) := (HA_X1.out.at (j := k) (by omega)).1
            obtain ⟨S5, hSe⟩ : ∃ S : Array Bool → World → Prop, S = fun _ w' => w' = w2.drew := ⟨_, rfl⟩
            have hdrop : ∀ i : Nat, i ≠ 1000 → ∀ L w', S5 (L.setIfInBounds i true) w' → S5 L w' := by
              intro i _ L w' h; rw [hSe] at h ⊢; exact h
            have hS : ∀ L, S5 L w2.drew := by intro L; rw [hSe]
            have hSo : ∀ {L w'}, S5 L w' → w' = w2.drew := by intro L w' h; rw [hSe] at h; exact h
            clear hSe
            refine wp_region_LN S5 16 #[false, false, false, false, false, false, false, false, false, false, false, false, false, false, false, false] (by kernel_rfl) (by kernel_rfl) rfl ?_
            obtain ⟨X1, hX1⟩ : ∃ X1, X1 = w2.drew := ⟨_, rfl⟩
            rw [← hX1] at c0 c1 HA_X1 hSo hS ⊢
            have HX1 := Lib.hid hX1
            clear hX1
            refine WA.tk (i := 0) (v := .int .i64 ((k + 1 : Nat) : Int)) rfl (hdrop 0 (by decide)) (Or.inl ⟨by rfl, ?_⟩) (hS _) ?_
            · rintro w' ⟨L, hL, hSw, hun⟩
              go_simp
            simp only [nA, nB, nC, Act.put, nD, nE, nF]
            refine WA.tk (i := 1) (v := .int .i64 ((b : Nat) : Int)) rfl (hdrop 1 (by decide)) (Or.inl ⟨by rfl, ?_⟩) (hS _) ?_
            · rintro w' ⟨L, hL, hSw, hun⟩
              go_simp
            simp only [nA, nB, nC, Act.put, nD, nE, nF]
            refine WA.tk (i := 2) (v := .bool true) rfl (hdrop 2 (by decide)) (Or.inl ⟨by rfl, ?_⟩) (hS _) ?_
            · rintro w' ⟨L, hL, hSw, hun⟩
              go_simp
              all_goals omega
            simp only [nA, nB, nC, Act.put, nD, nE, nF]
            refine WA.tk (i := 3) (v := .bool true) rfl (hdrop 3 (by decide)) (Or.inl ⟨by rfl, ?_⟩) (hS _) ?_
            · rintro w' ⟨L, hL, hSw, hun⟩
              go_simp
            simp only [nA, nB, nC, Act.put, nD, nE, nF]
            refine WA.tk (i := 4) (v := .slice (some ⟨g, 0, none⟩) n cap) rfl (hdrop 4 (by decide)) (Or.inl ⟨by rfl, ?_⟩) (hS _) ?_
            · rintro w' ⟨L, hL, hSw, hun⟩
              go_simp
            simp only [nA, nB, nC, Act.put, nD, nE, nF]
            refine WA.tk (i := 5) (v := .int .i64 ((k + 1 : Nat) : Int)) rfl (hdrop 5 (by decide)) (Or.inl ⟨by rfl, ?_⟩) (hS _) ?_
            · rintro w' ⟨L, hL, hSw, hun⟩
              go_simp
            simp only [nA, nB, nC, Act.put, nD, nE, nF]
            refine WA.tk (i := 6) (v := .pointer (some ⟨g, k + 1, none⟩)) rfl (hdrop 6 (by decide)) (Or.inl ⟨by rfl, ?_⟩) (hS _) ?_
            · rintro w' ⟨L, hL, hSw, hun⟩
              go_simp
              all_goals (intro h5; omega)
            simp only [nA, nB, nC, Act.put, nD, nE, nF]
            refine WA.tk (i := 7) (v := .int .u32 d0[k + 1]!) rfl (hdrop 7 (by decide)) (Or.inl ⟨by rfl, ?_⟩) (hS _) ?_
            · rintro w' ⟨L, hL, hSw, hun⟩
              obtain rfl := hSo hSw 
              go_simp
            simp only [nA, nB, nC, Act.put, nD, nE, nF]
            refine WA.tk (i := 8) (v := .slice (some ⟨g, 0, none⟩) n cap) rfl (hdrop 8 (by decide)) (Or.inl ⟨by rfl, ?_⟩) (hS _) ?_
            · rintro w' ⟨L, hL, hSw, hun⟩
              go_simp
            simp only [nA, nB, nC, Act.put, nD, nE, nF]
            refine WA.tk (i := 9) (v := .int .i64 ((k + 1 : Nat) : Int)) rfl (hdrop 9 (by decide)) (Or.inl ⟨by rfl, ?_⟩) (hS _) ?_
            · rintro w' ⟨L, hL, hSw, hun⟩
              go_simp
            simp only [nA, nB, nC, Act.put, nD, nE, nF]
            refine WA.tk (i := 10) (v := .int .i64 ((k : Nat) : Int)) rfl (hdrop 10 (by decide)) (Or.inl ⟨by rfl, ?_⟩) (hS _) ?_
            · rintro w' ⟨L, hL, hSw, hun⟩
              go_simp
              all_goals (exact i64w (by omega) (by omega))
            simp only [nA, nB, nC, Act.put, nD, nE, nF]
            refine WA.tk (i := 11) (v := .pointer (some ⟨g, k, none⟩)) rfl (hdrop 11 (by decide)) (Or.inl ⟨by rfl, ?_⟩) (hS _) ?_
            · rintro w' ⟨L, hL, hSw, hun⟩
              go_simp
              all_goals (intro h5; omega)
            simp only [nA, nB, nC, Act.put, nD, nE, nF]
            refine WA.tk (i := 12) (v := .int .u32 d0[k]!) rfl (hdrop 12 (by decide)) (Or.inl ⟨by rfl, ?_⟩) (hS _) ?_
            · rintro w' ⟨L, hL, hSw, hun⟩
              obtain rfl := hSo hSw 
              go_simp
            simp only [nA, nB, nC, Act.put, nD, nE, nF]
            refine WA.one (i := 13) (by kernel_rfl) rfl (by rfl) (fun K hK => ?_)
            go_simp
            refine (less_u _ _).mono ?_
            rintro e w_ ⟨rfl, hw_⟩
            subst hw_
            rw [hl]
            refine hK _ _ (hS _) ?_
            clear hK
            try simp only [nA, nB, nC, Act.put, nD, nE, nF]
            refine WA.tk (i := 14) (v := .bool false) rfl (hdrop 14 (by decide)) (Or.inl ⟨by rfl, ?_⟩) (hS _) ?_
            · rintro w' ⟨L, hL, hSw, hun⟩
              go_simp
            simp only [nA, nB, nC, Act.put, nD, nE, nF]
            refine WA.tk (i := 15) (v := .bool false) rfl (hdrop 15 (by decide)) (Or.inl ⟨by rfl, ?_⟩) (hS _) ?_
            · rintro w' ⟨L, hL, hSw, hun⟩
              go_simp
            simp only [nA, nB, nC, Act.put, nD, nE, nF]
            refine WA.done (by kernel_rfl) ?_ _
            refine Nrm.normal ?_
            clear hSo hS hdrop c0 c1
            clear S5
            have HT1 : TnA w X1 g := by rw [HX1.out]; exact HT.out.drew
            have HT1 := Lib.hid HT1
            have hsk : scanSorted ltInt d0 b i = k + 1 := by rw [← Hsc.out, ss_stop hl]
            have Hsk := Lib.hid hsk
            have hde : ((((k + 1 : Nat)) : Int) == (b : Int)) = false := by simp; omega
            have hde2 : ((k : Int) + 1 == (b : Int)) = false := by simp; omega
            clear hsk
            by_cases h50 : b - a < 50
            · have hd50 : decide ((b : Int) - (a : Int) < 50) = true := by simp; omega
              go_wp2_with fail
              go_ret
              have he := He.out
              rw [hq, pi_succ, Hsk.out, if_neg (by omega), if_pos h50] at he
              unfold partialInsertionSort
              rw [← he]
              exact ⟨rfl, HA_X1.out, HT1.out⟩
            · have hd50 : decide ((b : Int) - (a : Int) < 50) = false := by simp; omega
              go_wp2_with fail
              have HA_X2 := Lib.hid (show IsA X1.drew g n cap d0 from HA_X1.out.stay rfl)
              have c0 : X1.drew.cell? ⟨g, k, none⟩ = some (.int .u32 d0[k]!) := (HA_X2.out.at (j := k) (by omega)).1
              have c1 : X1.drew.cell? ⟨g, k + 1, none⟩ = some (.int .u32 d0[k + 1]!) := (HA_X2.out.at (j := k + 1) (by omega)).1
              obtain ⟨S11, hSe⟩ : ∃ S : Array Bool → World → Prop, S = fun L w' => L.getD 15 true = false → w' = X1.drew := ⟨_, rfl⟩
              have hdrop : ∀ i, i ≠ 15 → ∀ L w', S11 (L.setIfInBounds i true) w' → S11 L w' := by
                intro i hi L w'
                rw [hSe]
                intro h hl
                exact h (by rw [getD_set_ne true hi]; exact hl)
              have hS : ∀ L, S11 L X1.drew := by intro L; rw [hSe]; exact fun _ => rfl
              have hSo : ∀ {L w'}, S11 L w' → L.getD 15 true = false → w' = X1.drew := by intro L w' h hl; rw [hSe] at h; exact h hl
              have hSd : ∀ (L : Array Bool) X, L.getD 15 true = true → S11 L X := by
                intro L X h; rw [hSe]; intro h1; rw [h] at h1; cases h1
              clear hSe
              refine wp_region_LN S11 18 #[false, false, false, false, false, false, false, false, false, false, false, false, false, false, false, false, false, false] (by kernel_rfl) (by kernel_rfl) rfl ?_
              obtain ⟨X2, hX2⟩ : ∃ X2, X2 = X1.drew := ⟨_, rfl⟩
              rw [← hX2] at c0 c1 HA_X2 hSo hS ⊢
              have HX2 := Lib.hid hX2
              clear hX2
              refine WA.tk (i := 0) (v := .slice (some ⟨g, 0, none⟩) n cap) rfl (hdrop 0 (by decide)) (Or.inl ⟨by rfl, ?_⟩) (hS _) ?_
              · rintro w' ⟨L, hL, hSw, hun⟩
                go_simp
              simp only [nA, nB, nC, Act.put, nD, nE, nF]
              refine WA.tk (i := 1) (v := .int .i64 ((k + 1 : Nat) : Int)) rfl (hdrop 1 (by decide)) (Or.inl ⟨by rfl, ?_⟩) (hS _) ?_
              · rintro w' ⟨L, hL, hSw, hun⟩
                go_simp
              simp only [nA, nB, nC, Act.put, nD, nE, nF]
              refine WA.tk (i := 2) (v := .slice (some ⟨g, 0, none⟩) n cap) rfl (hdrop 2 (by decide)) (Or.inl ⟨by rfl, ?_⟩) (hS _) ?_
              · rintro w' ⟨L, hL, hSw, hun⟩
                go_simp
              simp only [nA, nB, nC, Act.put, nD, nE, nF]
              refine WA.tk (i := 3) (v := .int .i64 ((k + 1 : Nat) : Int)) rfl (hdrop 3 (by decide)) (Or.inl ⟨by rfl, ?_⟩) (hS _) ?_
              · rintro w' ⟨L, hL, hSw, hun⟩
                go_simp
              simp only [nA, nB, nC, Act.put, nD, nE, nF]
              refine WA.tk (i := 4) (v := .int .i64 ((k : Nat) : Int)) rfl (hdrop 4 (by decide)) (Or.inl ⟨by rfl, ?_⟩) (hS _) ?_
              · rintro w' ⟨L, hL, hSw, hun⟩
                go_simp
                all_goals (exact i64w (by omega) (by omega))
              simp only [nA, nB, nC, Act.put, nD, nE, nF]
              refine WA.tk (i := 5) (v := .slice (some ⟨g, 0, none⟩) n cap) rfl (hdrop 5 (by decide)) (Or.inl ⟨by rfl, ?_⟩) (hS _) ?_
              · rintro w' ⟨L, hL, hSw, hun⟩
                go_simp
              simp only [nA, nB, nC, Act.put, nD, nE, nF]
              refine WA.tk (i := 6) (v := .int .i64 ((k + 1 : Nat) : Int)) rfl (hdrop 6 (by decide)) (Or.inl ⟨by rfl, ?_⟩) (hS _) ?_
              · rintro w' ⟨L, hL, hSw, hun⟩
                go_simp
              simp only [nA, nB, nC, Act.put, nD, nE, nF]
              refine WA.tk (i := 7) (v := .int .i64 ((k : Nat) : Int)) rfl (hdrop 7 (by decide)) (Or.inl ⟨by rfl, ?_⟩) (hS _) ?_
              · rintro w' ⟨L, hL, hSw, hun⟩
                go_simp
                all_goals (exact i64w (by omega) (by omega))
              simp only [nA, nB, nC, Act.put, nD, nE, nF]
              refine WA.tk (i := 8) (v := .pointer (some ⟨g, k, none⟩)) rfl (hdrop 8 (by decide)) (Or.inl ⟨by rfl, ?_⟩) (hS _) ?_
              · rintro w' ⟨L, hL, hSw, hun⟩
                go_simp
                all_goals (intro h5; omega)
              simp only [nA, nB, nC, Act.put, nD, nE, nF]
              refine WA.tk (i := 9) (v := .int .u32 d0[k]!) rfl (hdrop 9 (by decide)) (Or.inl ⟨by rfl, ?_⟩) (hS _) ?_
              · rintro w' ⟨L, hL, hSw, hun⟩
                obtain rfl := hSo hSw (hL.wait 15 9 (by kernel_rfl) hun)
                go_simp
              simp only [nA, nB, nC, Act.put, nD, nE, nF]
              refine WA.tk (i := 10) (v := .slice (some ⟨g, 0, none⟩) n cap) rfl (hdrop 10 (by decide)) (Or.inl ⟨by rfl, ?_⟩) (hS _) ?_
              · rintro w' ⟨L, hL, hSw, hun⟩
                go_simp
              simp only [nA, nB, nC, Act.put, nD, nE, nF]
              refine WA.tk (i := 11) (v := .int .i64 ((k + 1 : Nat) : Int)) rfl (hdrop 11 (by decide)) (Or.inl ⟨by rfl, ?_⟩) (hS _) ?_
              · rintro w' ⟨L, hL, hSw, hun⟩
                go_simp
              simp only [nA, nB, nC, Act.put, nD, nE, nF]
              refine WA.tk (i := 12) (v := .pointer (some ⟨g, k + 1, none⟩)) rfl (hdrop 12 (by decide)) (Or.inl ⟨by rfl, ?_⟩) (hS _) ?_
              · rintro w' ⟨L, hL, hSw, hun⟩
                go_simp
                all_goals (intro h5; omega)
              simp only [nA, nB, nC, Act.put, nD, nE, nF]
              refine WA.tk (i := 13) (v := .int .u32 d0[k + 1]!) rfl (hdrop 13 (by decide)) (Or.inl ⟨by rfl, ?_⟩) (hS _) ?_
              · rintro w' ⟨L, hL, hSw, hun⟩
                obtain rfl := hSo hSw (hL.wait 15 13 (by kernel_rfl) hun)
                go_simp
              simp only [nA, nB, nC, Act.put, nD, nE, nF]
              refine WA.tk (i := 14) (v := .pointer (some ⟨g, k + 1, none⟩)) rfl (hdrop 14 (by decide)) (Or.inl ⟨by rfl, ?_⟩) (hS _) ?_
              · rintro w' ⟨L, hL, hSw, hun⟩
                go_simp
                all_goals (intro h5; omega)
              simp only [nA, nB, nC, Act.put, nD, nE, nF]
              obtain ⟨cx, fx⟩ := HA_X2.out.at (j := k + 1) (by omega)
              obtain ⟨cy, fy⟩ := (HA_X2.out.set (j := k + 1) (by omega) d0[k]!).at (j := k) (by omega)
              refine WA.one (i := 15) (by kernel_rfl) rfl (by rfl) (fun K hK => ?_)
              go_simp
              refine hK _ _ (hSd _ _ (by rfl)) ?_
              clear hK
              try simp only [nA, nB, nC, Act.put, nD, nE, nF]
              refine WA.tk (i := 16) (v := .pointer (some ⟨g, k, none⟩)) rfl (hdrop 16 (by decide)) (Or.inl ⟨by rfl, ?_⟩) (hSd _ _ (by rfl)) ?_
              · rintro w' ⟨L, hL, hSw, hun⟩
                go_simp
                all_goals (intro h5; omega)
              simp only [nA, nB, nC, Act.put, nD, nE, nF]
              refine WA.one (i := 17) (by kernel_rfl) rfl (by rfl) (fun K hK => ?_)
              go_simp
              refine hK _ _ (hSd _ _ (by rfl)) ?_
              clear hK
              try simp only [nA, nB, nC, Act.put, nD, nE, nF]
              refine WA.done (by kernel_rfl) ?_ _
              refine Nrm.normal ?_
              clear hSo hS hdrop c0 c1 hSd cx fx cy fy
              clear S11
              have HA5 := Lib.hid (HA_X2.out.swp (i := k + 1) (j := k) (by omega) (by omega))
              have ht5 := HT1.out.drew
              rw [← HX2.out] at ht5
              have HT5 := Lib.hid ((ht5.set (k + 1) (.int .u32 d0[k]!)).set k (.int .u32 d0[k + 1]!))
              clear ht5
              generalize (X2.setCell ⟨g, k + 1, none⟩ (.int .u32 d0[k]!)).setCell ⟨g, k, none⟩ (.int .u32 d0[k + 1]!) = w5 at *
              obtain ⟨e1, he1⟩ : ∃ e1, e1 = swp d0 (k + 1) k := ⟨_, rfl⟩
              rw [← he1] at HA5
              have He1 := Lib.hid he1
              clear he1
              go_upto_if 61 with fail
              go_cut [] from 60 to 94 (fun wx => IsA wx g n cap (if k + 1 - a ≥ 2 then shiftDown ltInt k e1 else e1) ∧ TnA w wx g)
              case first =>
                by_cases h2 : k + 1 - a ≥ 2
                · have hd2 : decide ((k : Int) + 1 - (a : Int) ≥ 2) = true := by simp; omega
                  have hd2' : decide ((2 : Int) ≤ (k : Int) + 1 - (a : Int)) = true := by simp; omega
                  go_wp2_with fail
                  rename_i hcnd
                  clear hcnd hd2 hd2'
                  have H2 := Lib.hid h2
                  clear h2
                  go_loopw [9] (fun u wx => ∃ (j : Nat) (d1 : Array Int), u = .int .i64 j ∧ j ≤ k ∧ IsA wx g n cap d1 ∧ TnA w wx g ∧ shiftDown ltInt j d1 = shiftDown ltInt k e1) (fun u _ => (intOf u).toNat)
                  case atStart => exact ⟨k, e1, by first | rfl | (congr 1; push_cast; omega), Nat.le_refl _, HA5.out, HT5.out, rfl⟩
                  case round =>
                    rename World => w6
                    obtain ⟨j, d1, rfl, hjk, hA, hT, hsd⟩ := hrel
                    have HA6 := Lib.hid hA; have HT6 := Lib.hid hT; have Hsd := Lib.hid hsd
                    clear hA hT hsd
                    by_cases hj1 : j = 0
                    · subst hj1
                      go_wp2_with fail
                      go_meet
                      refine ⟨?_, HT6.out⟩
                      rw [if_pos H2.out, ← Hsd.out]
                      exact HA6.out
                    · obtain ⟨m, rfl⟩ : ∃ m, j = m + 1 := ⟨j - 1, by omega⟩
                      have hdm : decide ((m : Int) + 1 ≥ 1) = true := by simp; omega
                      have hdm' : decide (1 ≤ (m : Int) + 1) = true := by simp; omega
                      cases hl : ltInt d1[m + 1]! d1[m]!
                      · go_wp2_with fail
                        have HA_X6 := Lib.hid (show IsA w6.drew g n cap d1 from HA6.out.stay rfl)
                        have c0 : w6.drew.cell? ⟨g, m + 1, none⟩ = some (.int .u32 d1[m + 1]!) := (HA_X6.out.at (j := m + 1) (by omega)).1
                        have c1 : w6.drew.cell? ⟨g, m, none⟩ = some (.int .u32 d1[m]!) := (HA_X6.out.at (j := m) (by omega)).1
                        obtain ⟨S16, hSe⟩ : ∃ S : Array Bool → World → Prop, S = fun _ w' => w' = w6.drew := ⟨_, rfl⟩
                        have hdrop : ∀ i : Nat, i ≠ 1000 → ∀ L w', S16 (L.setIfInBounds i true) w' → S16 L w' := by
                          intro i _ L w' h; rw [hSe] at h ⊢; exact h
                        have hS : ∀ L, S16 L w6.drew := by intro L; rw [hSe]
                        have hSo : ∀ {L w'}, S16 L w' → w' = w6.drew := by intro L w' h; rw [hSe] at h; exact h
                        clear hSe
                        refine wp_region_LN S16 11 #[false, false, false, false, false, false, false, false, false, false, false] (by kernel_rfl) (by kernel_rfl) rfl ?_
                        obtain ⟨X6, hX6⟩ : ∃ X6, X6 = w6.drew := ⟨_, rfl⟩
                        rw [← hX6] at c0 c1 HA_X6 hSo hS ⊢
                        have HX6 := Lib.hid hX6
                        clear hX6
                        refine WA.tk (i := 0) (v := .slice (some ⟨g, 0, none⟩) n cap) rfl (hdrop 0 (by decide)) (Or.inl ⟨by rfl, ?_⟩) (hS _) ?_
                        · rintro w' ⟨L, hL, hSw, hun⟩
                          go_simp
                        simp only [nA, nB, nC, Act.put, nD, nE, nF]
                        refine WA.tk (i := 1) (v := .int .i64 ((m + 1 : Nat) : Int)) rfl (hdrop 1 (by decide)) (Or.inl ⟨by rfl, ?_⟩) (hS _) ?_
                        · rintro w' ⟨L, hL, hSw, hun⟩
                          go_simp
                        simp only [nA, nB, nC, Act.put, nD, nE, nF]
                        refine WA.tk (i := 2) (v := .pointer (some ⟨g, m + 1, none⟩)) rfl (hdrop 2 (by decide)) (Or.inl ⟨by rfl, ?_⟩) (hS _) ?_
                        · rintro w' ⟨L, hL, hSw, hun⟩
                          go_simp
                          all_goals (intro h5; omega)
                        simp only [nA, nB, nC, Act.put, nD, nE, nF]
                        refine WA.tk (i := 3) (v := .int .u32 d1[m + 1]!) rfl (hdrop 3 (by decide)) (Or.inl ⟨by rfl, ?_⟩) (hS _) ?_
                        · rintro w' ⟨L, hL, hSw, hun⟩
                          obtain rfl := hSo hSw 
                          go_simp
                        simp only [nA, nB, nC, Act.put, nD, nE, nF]
                        refine WA.tk (i := 4) (v := .slice (some ⟨g, 0, none⟩) n cap) rfl (hdrop 4 (by decide)) (Or.inl ⟨by rfl, ?_⟩) (hS _) ?_
                        · rintro w' ⟨L, hL, hSw, hun⟩
                          go_simp
                        simp only [nA, nB, nC, Act.put, nD, nE, nF]
                        refine WA.tk (i := 5) (v := .int .i64 ((m + 1 : Nat) : Int)) rfl (hdrop 5 (by decide)) (Or.inl ⟨by rfl, ?_⟩) (hS _) ?_
                        · rintro w' ⟨L, hL, hSw, hun⟩
                          go_simp
                        simp only [nA, nB, nC, Act.put, nD, nE, nF]
                        refine WA.tk (i := 6) (v := .int .i64 ((m : Nat) : Int)) rfl (hdrop 6 (by decide)) (Or.inl ⟨by rfl, ?_⟩) (hS _) ?_
                        · rintro w' ⟨L, hL, hSw, hun⟩
                          go_simp
                          all_goals (exact i64w (by omega) (by omega))
                        simp only [nA, nB, nC, Act.put, nD, nE, nF]
                        refine WA.tk (i := 7) (v := .pointer (some ⟨g, m, none⟩)) rfl (hdrop 7 (by decide)) (Or.inl ⟨by rfl, ?_⟩) (hS _) ?_
                        · rintro w' ⟨L, hL, hSw, hun⟩
                          go_simp
                          all_goals (intro h5; omega)
                        simp only [nA, nB, nC, Act.put, nD, nE, nF]
                        refine WA.tk (i := 8) (v := .int .u32 d1[m]!) rfl (hdrop 8 (by decide)) (Or.inl ⟨by rfl, ?_⟩) (hS _) ?_
                        · rintro w' ⟨L, hL, hSw, hun⟩
                          obtain rfl := hSo hSw 
                          go_simp
                        simp only [nA, nB, nC, Act.put, nD, nE, nF]
                        refine WA.one (i := 9) (by kernel_rfl) rfl (by rfl) (fun K hK => ?_)
                        go_simp
                        refine (less_u _ _).mono ?_
                        rintro e w_ ⟨rfl, hw_⟩
                        subst hw_
                        rw [hl]
                        refine hK _ _ (hS _) ?_
                        clear hK
                        try simp only [nA, nB, nC, Act.put, nD, nE, nF]
                        refine WA.tk (i := 10) (v := .bool true) rfl (hdrop 10 (by decide)) (Or.inl ⟨by rfl, ?_⟩) (hS _) ?_
                        · rintro w' ⟨L, hL, hSw, hun⟩
                          go_simp
                        simp only [nA, nB, nC, Act.put, nD, nE, nF]
                        refine WA.done (by kernel_rfl) ?_ _
                        refine Nrm.normal ?_
                        clear hSo hS hdrop c0 c1
                        clear S16
                        go_wp2_with fail
                        go_meet
                        refine ⟨?_, by rw [HX6.out]; exact HT6.out.drew⟩
                        rw [if_pos H2.out, ← Hsd.out, sdn_stop hl]
                        exact HA_X6.out
                      · go_wp2_with fail
                        have HA_X6 := Lib.hid (show IsA w6.drew g n cap d1 from HA6.out.stay rfl)
                        have c0 : w6.drew.cell? ⟨g, m + 1, none⟩ = some (.int .u32 d1[m + 1]!) := (HA_X6.out.at (j := m + 1) (by omega)).1
                        have c1 : w6.drew.cell? ⟨g, m, none⟩ = some (.int .u32 d1[m]!) := (HA_X6.out.at (j := m) (by omega)).1
                        obtain ⟨S16, hSe⟩ : ∃ S : Array Bool → World → Prop, S = fun _ w' => w' = w6.drew := ⟨_, rfl⟩
                        have hdrop : ∀ i : Nat, i ≠ 1000 → ∀ L w', S16 (L.setIfInBounds i true) w' → S16 L w' := by
                          intro i _ L w' h; rw [hSe] at h ⊢; exact h
                        have hS : ∀ L, S16 L w6.drew := by intro L; rw [hSe]
                        have hSo : ∀ {L w'}, S16 L w' → w' = w6.drew := by intro L w' h; rw [hSe] at h; exact h
                        clear hSe
                        refine wp_region_LN S16 11 #[false, false, false, false, false, false, false, false, false, false, false] (by kernel_rfl) (by kernel_rfl) rfl ?_
                        obtain ⟨X6, hX6⟩ : ∃ X6, X6 = w6.drew := ⟨_, rfl⟩
                        rw [← hX6] at c0 c1 HA_X6 hSo hS ⊢
                        have HX6 := Lib.hid hX6
                        clear hX6
                        refine WA.tk (i := 0) (v := .slice (some ⟨g, 0, none⟩) n cap) rfl (hdrop 0 (by decide)) (Or.inl ⟨by rfl, ?_⟩) (hS _) ?_
                        · rintro w' ⟨L, hL, hSw, hun⟩
                          go_simp
                        simp only [nA, nB, nC, Act.put, nD, nE, nF]
                        refine WA.tk (i := 1) (v := .int .i64 ((m + 1 : Nat) : Int)) rfl (hdrop 1 (by decide)) (Or.inl ⟨by rfl, ?_⟩) (hS _) ?_
                        · rintro w' ⟨L, hL, hSw, hun⟩
                          go_simp
                        simp only [nA, nB, nC, Act.put, nD, nE, nF]
                        refine WA.tk (i := 2) (v := .pointer (some ⟨g, m + 1, none⟩)) rfl (hdrop 2 (by decide)) (Or.inl ⟨by rfl, ?_⟩) (hS _) ?_
                        · rintro w' ⟨L, hL, hSw, hun⟩
                          go_simp
                          all_goals (intro h5; omega)
                        simp only [nA, nB, nC, Act.put, nD, nE, nF]
                        refine WA.tk (i := 3) (v := .int .u32 d1[m + 1]!) rfl (hdrop 3 (by decide)) (Or.inl ⟨by rfl, ?_⟩) (hS _) ?_
                        · rintro w' ⟨L, hL, hSw, hun⟩
                          obtain rfl := hSo hSw 
                          go_simp
                        simp only [nA, nB, nC, Act.put, nD, nE, nF]
                        refine WA.tk (i := 4) (v := .slice (some ⟨g, 0, none⟩) n cap) rfl (hdrop 4 (by decide)) (Or.inl ⟨by rfl, ?_⟩) (hS _) ?_
                        · rintro w' ⟨L, hL, hSw, hun⟩
                          go_simp
                        simp only [nA, nB, nC, Act.put, nD, nE, nF]
                        refine WA.tk (i := 5) (v := .int .i64 ((m + 1 : Nat) : Int)) rfl (hdrop 5 (by decide)) (Or.inl ⟨by rfl, ?_⟩) (hS _) ?_
                        · rintro w' ⟨L, hL, hSw, hun⟩
                          go_simp
                        simp only [nA, nB, nC, Act.put, nD, nE, nF]
                        refine WA.tk (i := 6) (v := .int .i64 ((m : Nat) : Int)) rfl (hdrop 6 (by decide)) (Or.inl ⟨by rfl, ?_⟩) (hS _) ?_
                        · rintro w' ⟨L, hL, hSw, hun⟩
                          go_simp
                          all_goals (exact i64w (by omega) (by omega))
                        simp only [nA, nB, nC, Act.put, nD, nE, nF]
                        refine WA.tk (i := 7) (v := .pointer (some ⟨g, m, none⟩)) rfl (hdrop 7 (by decide)) (Or.inl ⟨by rfl, ?_⟩) (hS _) ?_
                        · rintro w' ⟨L, hL, hSw, hun⟩
                          go_simp
                          all_goals (intro h5; omega)
                        simp only [nA, nB, nC, Act.put, nD, nE, nF]
                        refine WA.tk (i := 8) (v := .int .u32 d1[m]!) rfl (hdrop 8 (by decide)) (Or.inl ⟨by rfl, ?_⟩) (hS _) ?_
                        · rintro w' ⟨L, hL, hSw, hun⟩
                          obtain rfl := hSo hSw 
                          go_simp
                        simp only [nA, nB, nC, Act.put, nD, nE, nF]
                        refine WA.one (i := 9) (by kernel_rfl) rfl (by rfl) (fun K hK => ?_)
                        go_simp
                        refine (less_u _ _).mono ?_
                        rintro e w_ ⟨rfl, hw_⟩
                        subst hw_
                        rw [hl]
                        refine hK _ _ (hS _) ?_
                        clear hK
                        try simp only [nA, nB, nC, Act.put, nD, nE, nF]
                        refine WA.tk (i := 10) (v := .bool false) rfl (hdrop 10 (by decide)) (Or.inl ⟨by rfl, ?_⟩) (hS _) ?_
                        · rintro w' ⟨L, hL, hSw, hun⟩
                          go_simp
                        simp only [nA, nB, nC, Act.put, nD, nE, nF]
                        refine WA.done (by kernel_rfl) ?_ _
                        refine Nrm.normal ?_
                        clear hSo hS hdrop c0 c1
                        clear S16
                        go_wp2_with fail
                        have HA_X7 := Lib.hid (show IsA X6.drew g n cap d1 from HA_X6.out.stay rfl)
                        have c0 : X6.drew.cell? ⟨g, m, none⟩ = some (.int .u32 d1[m]!) := (HA_X7.out.at (j := m) (by omega)).1
                        have c1 : X6.drew.cell? ⟨g, m + 1, none⟩ = some (.int .u32 d1[m + 1]!) := (HA_X7.out.at (j := m + 1) (by omega)).1
                        obtain ⟨S17, hSe⟩ : ∃ S : Array Bool → World → Prop, S = fun L w' => L.getD 15 true = false → w' = X6.drew := ⟨_, rfl⟩
                        have hdrop : ∀ i, i ≠ 15 → ∀ L w', S17 (L.setIfInBounds i true) w' → S17 L w' := by
                          intro i hi L w'
                          rw [hSe]
                          intro h hl
                          exact h (by rw [getD_set_ne true hi]; exact hl)
                        have hS : ∀ L, S17 L X6.drew := by intro L; rw [hSe]; exact fun _ => rfl
                        have hSo : ∀ {L w'}, S17 L w' → L.getD 15 true = false → w' = X6.drew := by intro L w' h hl; rw [hSe] at h; exact h hl
                        have hSd : ∀ (L : Array Bool) X, L.getD 15 true = true → S17 L X := by
                          intro L X h; rw [hSe]; intro h1; rw [h] at h1; cases h1
                        clear hSe
                        refine wp_region_LN S17 18 #[false, false, false, false, false, false, false, false, false, false, false, false, false, false, false, false, false, false] (by kernel_rfl) (by kernel_rfl) rfl ?_
                        obtain ⟨X7, hX7⟩ : ∃ X7, X7 = X6.drew := ⟨_, rfl⟩
                        rw [← hX7] at c0 c1 HA_X7 hSo hS ⊢
                        have HX7 := Lib.hid hX7
                        clear hX7
                        refine WA.tk (i := 0) (v := .slice (some ⟨g, 0, none⟩) n cap) rfl (hdrop 0 (by decide)) (Or.inl ⟨by rfl, ?_⟩) (hS _) ?_
                        · rintro w' ⟨L, hL, hSw, hun⟩
                          go_simp
                        simp only [nA, nB, nC, Act.put, nD, nE, nF]
                        refine WA.tk (i := 1) (v := .int .i64 ((m + 1 : Nat) : Int)) rfl (hdrop 1 (by decide)) (Or.inl ⟨by rfl, ?_⟩) (hS _) ?_
                        · rintro w' ⟨L, hL, hSw, hun⟩
                          go_simp
                        simp only [nA, nB, nC, Act.put, nD, nE, nF]
                        refine WA.tk (i := 2) (v := .slice (some ⟨g, 0, none⟩) n cap) rfl (hdrop 2 (by decide)) (Or.inl ⟨by rfl, ?_⟩) (hS _) ?_
                        · rintro w' ⟨L, hL, hSw, hun⟩
                          go_simp
                        simp only [nA, nB, nC, Act.put, nD, nE, nF]
                        refine WA.tk (i := 3) (v := .int .i64 ((m + 1 : Nat) : Int)) rfl (hdrop 3 (by decide)) (Or.inl ⟨by rfl, ?_⟩) (hS _) ?_
                        · rintro w' ⟨L, hL, hSw, hun⟩
                          go_simp
                        simp only [nA, nB, nC, Act.put, nD, nE, nF]
                        refine WA.tk (i := 4) (v := .int .i64 ((m : Nat) : Int)) rfl (hdrop 4 (by decide)) (Or.inl ⟨by rfl, ?_⟩) (hS _) ?_
                        · rintro w' ⟨L, hL, hSw, hun⟩
                          go_simp
                          all_goals (exact i64w (by omega) (by omega))
                        simp only [nA, nB, nC, Act.put, nD, nE, nF]
                        refine WA.tk (i := 5) (v := .slice (some ⟨g, 0, none⟩) n cap) rfl (hdrop 5 (by decide)) (Or.inl ⟨by rfl, ?_⟩) (hS _) ?_
                        · rintro w' ⟨L, hL, hSw, hun⟩
                          go_simp
                        simp only [nA, nB, nC, Act.put, nD, nE, nF]
                        refine WA.tk (i := 6) (v := .int .i64 ((m + 1 : Nat) : Int)) rfl (hdrop 6 (by decide)) (Or.inl ⟨by rfl, ?_⟩) (hS _) ?_
                        · rintro w' ⟨L, hL, hSw, hun⟩
                          go_simp
                        simp only [nA, nB, nC, Act.put, nD, nE, nF]
                        refine WA.tk (i := 7) (v := .int .i64 ((m : Nat) : Int)) rfl (hdrop 7 (by decide)) (Or.inl ⟨by rfl, ?_⟩) (hS _) ?_
                        · rintro w' ⟨L, hL, hSw, hun⟩
                          go_simp
                          all_goals (exact i64w (by omega) (by omega))
                        simp only [nA, nB, nC, Act.put, nD, nE, nF]
                        refine WA.tk (i := 8) (v := .pointer (some ⟨g, m, none⟩)) rfl (hdrop 8 (by decide)) (Or.inl ⟨by rfl, ?_⟩) (hS _) ?_
                        · rintro w' ⟨L, hL, hSw, hun⟩
                          go_simp
                          all_goals (intro h5; omega)
                        simp only [nA, nB, nC, Act.put, nD, nE, nF]
                        refine WA.tk (i := 9) (v := .int .u32 d1[m]!) rfl (hdrop 9 (by decide)) (Or.inl ⟨by rfl, ?_⟩) (hS _) ?_
                        · rintro w' ⟨L, hL, hSw, hun⟩
                          obtain rfl := hSo hSw (hL.wait 15 9 (by kernel_rfl) hun)
                          go_simp
                        simp only [nA, nB, nC, Act.put, nD, nE, nF]
                        refine WA.tk (i := 10) (v := .slice (some ⟨g, 0, none⟩) n cap) rfl (hdrop 10 (by decide)) (Or.inl ⟨by rfl, ?_⟩) (hS _) ?_
                        · rintro w' ⟨L, hL, hSw, hun⟩
                          go_simp
                        simp only [nA, nB, nC, Act.put, nD, nE, nF]
                        refine WA.tk (i := 11) (v := .int .i64 ((m + 1 : Nat) : Int)) rfl (hdrop 11 (by decide)) (Or.inl ⟨by rfl, ?_⟩) (hS _) ?_
                        · rintro w' ⟨L, hL, hSw, hun⟩
                          go_simp
                        simp only [nA, nB, nC, Act.put, nD, nE, nF]
                        refine WA.tk (i := 12) (v := .pointer (some ⟨g, m + 1, none⟩)) rfl (hdrop 12 (by decide)) (Or.inl ⟨by rfl, ?_⟩) (hS _) ?_
                        · rintro w' ⟨L, hL, hSw, hun⟩
                          go_simp
                          all_goals (intro h5; omega)
                        simp only [nA, nB, nC, Act.put, nD, nE, nF]
                        refine WA.tk (i := 13) (v := .int .u32 d1[m + 1]!) rfl (hdrop 13 (by decide)) (Or.inl ⟨by rfl, ?_⟩) (hS _) ?_
                        · rintro w' ⟨L, hL, hSw, hun⟩
                          obtain rfl := hSo hSw (hL.wait 15 13 (by kernel_rfl) hun)
                          go_simp
                        simp only [nA, nB, nC, Act.put, nD, nE, nF]
                        refine WA.tk (i := 14) (v := .pointer (some ⟨g, m + 1, none⟩)) rfl (hdrop 14 (by decide)) (Or.inl ⟨by rfl, ?_⟩) (hS _) ?_
                        · rintro w' ⟨L, hL, hSw, hun⟩
                          go_simp
                          all_goals (intro h5; omega)
                        simp only [nA, nB, nC, Act.put, nD, nE, nF]
                        obtain ⟨cx, fx⟩ := HA_X7.out.at (j := m + 1) (by omega)
                        obtain ⟨cy, fy⟩ := (HA_X7.out.set (j := m + 1) (by omega) d1[m]!).at (j := m) (by omega)
                        refine WA.one (i := 15) (by kernel_rfl) rfl (by rfl) (fun K hK => ?_)
                        go_simp
                        refine hK _ _ (hSd _ _ (by rfl)) ?_
                        clear hK
                        try simp only [nA, nB, nC, Act.put, nD, nE, nF]
                        refine WA.tk (i := 16) (v := .pointer (some ⟨g, m, none⟩)) rfl (hdrop 16 (by decide)) (Or.inl ⟨by rfl, ?_⟩) (hSd _ _ (by rfl)) ?_
                        · rintro w' ⟨L, hL, hSw, hun⟩
                          go_simp
                          all_goals (intro h5; omega)
                        simp only [nA, nB, nC, Act.put, nD, nE, nF]
                        refine WA.one (i := 17) (by kernel_rfl) rfl (by rfl) (fun K hK => ?_)
                        go_simp
                        refine hK _ _ (hSd _ _ (by rfl)) ?_
                        clear hK
                        try simp only [nA, nB, nC, Act.put, nD, nE, nF]
                        refine WA.done (by kernel_rfl) ?_ _
                        refine Nrm.normal ?_
                        clear hSo hS hdrop c0 c1 hSd cx fx cy fy
                        clear S17
                        go_wp2_with fail
                        refine ⟨⟨m, swp d1 (m + 1) m, by first | rfl | (congr 1; push_cast; omega), by omega, HA_X7.out.swp (by omega) (by omega), ?_, ?_⟩, by simp [intOf]⟩
                        · have ht := HT6.out.drew
                          rw [← HX6.out] at ht
                          have ht := ht.drew
                          rw [← HX7.out] at ht
                          exact (ht.set _ _).set _ _
                        · rw [← Hsd.out, sdn_go hl]
                · have hd2 : decide ((k : Int) + 1 - (a : Int) ≥ 2) = false := by simp; omega
                  have hd2' : decide ((2 : Int) ≤ (k : Int) + 1 - (a : Int)) = false := by simp; omega
                  go_wp2_with fail
                  go_meet
                  rw [if_neg h2]
                  exact ⟨HA5.out, HT5.out⟩
              case rest =>
                obtain ⟨hA7, hT7⟩ := hcut
                rename World => w7
                obtain ⟨e2, he2⟩ : ∃ e2, e2 = (if k + 1 - a ≥ 2 then shiftDown ltInt k e1 else e1) := ⟨_, rfl⟩
                rw [← he2] at hA7
                have HA7 := Lib.hid hA7; have HT7 := Lib.hid hT7; have He2 := Lib.hid he2
                clear hA7 hT7 he2
                have hend : ∀ D2, D2 = (if b - (k + 1) ≥ 2 then shiftUp ltInt b (k + 2) e2 else e2) → partialIns ltInt a b (5 - (s + 1)) (k + 1) D2 = partialIns ltInt a b 5 (a + 1) d := by
                  intro D2 hD
                  rw [← He.out, hq, pi_succ, Hsk.out, if_neg (by omega), if_neg h50, show 5 - (s + 1) = q by omega, hD, He2.out, He1.out]
                  rfl
                have Hend := Lib.hid hend
                clear hend
                by_cases h2 : b - (k + 1) ≥ 2
                · have hd2 : decide ((b : Int) - ((k : Int) + 1) ≥ 2) = true := by simp; omega
                  have hd2' : decide ((2 : Int) ≤ (b : Int) - ((k : Int) + 1)) = true := by simp; omega
                  go_wp2_with fail
                  go_loopw [10] (fun u wx => ∃ (j : Nat) (d1 : Array Int), u = .int .i64 j ∧ k + 2 ≤ j ∧ j ≤ b ∧ IsA wx g n cap d1 ∧ TnA w wx g ∧ shiftUp ltInt b j d1 = shiftUp ltInt b (k + 2) e2) (fun u _ => b - (intOf u).toNat)
                  case atStart => exact ⟨k + 2, e2, by first | rfl | (congr 1; push_cast; omega), Nat.le_refl _, by omega, HA7.out, HT7.out, rfl⟩
                  case round =>
                    rename World => w6
                    obtain ⟨j, d1, rfl, hkj, hjb, hA, hT, hsd⟩ := hrel
                    have HA6 := Lib.hid hA; have HT6 := Lib.hid hT; have Hsd := Lib.hid hsd
                    clear hA hT hsd
                    by_cases hjb2 : j = b
                    · subst hjb2
                      have hdm : decide ((j : Int) < (j : Int)) = false := by simp
                      go_wp2_with fail
                      exact ⟨⟨k + 1, s + 1, d1, by push_cast; rfl, by push_cast; rfl, by omega, by omega, by omega, HA6.out, HT6.out, Hend.out _ (by rw [if_pos h2, ← Hsd.out, sup_end])⟩, by simp [intOf]; omega⟩
                    · obtain ⟨m, rfl⟩ : ∃ m, j = m + 1 := ⟨j - 1, by omega⟩
                      have hdm : decide ((m : Int) + 1 < (b : Int)) = true := by simp; omega
                      cases hl : ltInt d1[m + 1]! d1[m]!
                      · go_wp2_with fail
                        have HA_X6 := Lib.hid (show IsA w6.drew g n cap d1 from HA6.out.stay rfl)
                        have c0 : w6.drew.cell? ⟨g, m + 1, none⟩ = some (.int .u32 d1[m + 1]!) := (HA_X6.out.at (j := m + 1) (by omega)).1
                        have c1 : w6.drew.cell? ⟨g, m, none⟩ = some (.int .u32 d1[m]!) := (HA_X6.out.at (j := m) (by omega)).1
                        obtain ⟨S22, hSe⟩ : ∃ S : Array Bool → World → Prop, S = fun _ w' => w' = w6.drew := ⟨_, rfl⟩
                        have hdrop : ∀ i : Nat, i ≠ 1000 → ∀ L w', S22 (L.setIfInBounds i true) w' → S22 L w' := by
                          intro i _ L w' h; rw [hSe] at h ⊢; exact h
                        have hS : ∀ L, S22 L w6.drew := by intro L; rw [hSe]
                        have hSo : ∀ {L w'}, S22 L w' → w' = w6.drew := by intro L w' h; rw [hSe] at h; exact h
                        clear hSe
                        refine wp_region_LN S22 11 #[false, false, false, false, false, false, false, false, false, false, false] (by kernel_rfl) (by kernel_rfl) rfl ?_
                        obtain ⟨X6, hX6⟩ : ∃ X6, X6 = w6.drew := ⟨_, rfl⟩
                        rw [← hX6] at c0 c1 HA_X6 hSo hS ⊢
                        have HX6 := Lib.hid hX6
                        clear hX6
                        refine WA.tk (i := 0) (v := .slice (some ⟨g, 0, none⟩) n cap) rfl (hdrop 0 (by decide)) (Or.inl ⟨by rfl, ?_⟩) (hS _) ?_
                        · rintro w' ⟨L, hL, hSw, hun⟩
                          go_simp
                        simp only [nA, nB, nC, Act.put, nD, nE, nF]
                        refine WA.tk (i := 1) (v := .int .i64 ((m + 1 : Nat) : Int)) rfl (hdrop 1 (by decide)) (Or.inl ⟨by rfl, ?_⟩) (hS _) ?_
                        · rintro w' ⟨L, hL, hSw, hun⟩
                          go_simp
                        simp only [nA, nB, nC, Act.put, nD, nE, nF]
                        refine WA.tk (i := 2) (v := .pointer (some ⟨g, m + 1, none⟩)) rfl (hdrop 2 (by decide)) (Or.inl ⟨by rfl, ?_⟩) (hS _) ?_
                        · rintro w' ⟨L, hL, hSw, hun⟩
                          go_simp
                          all_goals (intro h5; omega)
                        simp only [nA, nB, nC, Act.put, nD, nE, nF]
                        refine WA.tk (i := 3) (v := .int .u32 d1[m + 1]!) rfl (hdrop 3 (by decide)) (Or.inl ⟨by rfl, ?_⟩) (hS _) ?_
                        · rintro w' ⟨L, hL, hSw, hun⟩
                          obtain rfl := hSo hSw 
                          go_simp
                        simp only [nA, nB, nC, Act.put, nD, nE, nF]
                        refine WA.tk (i := 4) (v := .slice (some ⟨g, 0, none⟩) n cap) rfl (hdrop 4 (by decide)) (Or.inl ⟨by rfl, ?_⟩) (hS _) ?_
                        · rintro w' ⟨L, hL, hSw, hun⟩
                          go_simp
                        simp only [nA, nB, nC, Act.put, nD, nE, nF]
                        refine WA.tk (i := 5) (v := .int .i64 ((m + 1 : Nat) : Int)) rfl (hdrop 5 (by decide)) (Or.inl ⟨by rfl, ?_⟩) (hS _) ?_
                        · rintro w' ⟨L, hL, hSw, hun⟩
                          go_simp
                        simp only [nA, nB, nC, Act.put, nD, nE, nF]
                        refine WA.tk (i := 6) (v := .int .i64 ((m : Nat) : Int)) rfl (hdrop 6 (by decide)) (Or.inl ⟨by rfl, ?_⟩) (hS _) ?_
                        · rintro w' ⟨L, hL, hSw, hun⟩
                          go_simp
                          all_goals (exact i64w (by omega) (by omega))
                        simp only [nA, nB, nC, Act.put, nD, nE, nF]
                        refine WA.tk (i := 7) (v := .pointer (some ⟨g, m, none⟩)) rfl (hdrop 7 (by decide)) (Or.inl ⟨by rfl, ?_⟩) (hS _) ?_
                        · rintro w' ⟨L, hL, hSw, hun⟩
                          go_simp
                          all_goals (intro h5; omega)
                        simp only [nA, nB, nC, Act.put, nD, nE, nF]
                        refine WA.tk (i := 8) (v := .int .u32 d1[m]!) rfl (hdrop 8 (by decide)) (Or.inl ⟨by rfl, ?_⟩) (hS _) ?_
                        · rintro w' ⟨L, hL, hSw, hun⟩
                          obtain rfl := hSo hSw 
                          go_simp
                        simp only [nA, nB, nC, Act.put, nD, nE, nF]
                        refine WA.one (i := 9) (by kernel_rfl) rfl (by rfl) (fun K hK => ?_)
                        go_simp
                        refine (less_u _ _).mono ?_
                        rintro e w_ ⟨rfl, hw_⟩
                        subst hw_
                        rw [hl]
                        refine hK _ _ (hS _) ?_
                        clear hK
                        try simp only [nA, nB, nC, Act.put, nD, nE, nF]
                        refine WA.tk (i := 10) (v := .bool true) rfl (hdrop 10 (by decide)) (Or.inl ⟨by rfl, ?_⟩) (hS _) ?_
                        · rintro w' ⟨L, hL, hSw, hun⟩
                          go_simp
                        simp only [nA, nB, nC, Act.put, nD, nE, nF]
                        refine WA.done (by kernel_rfl) ?_ _
                        refine Nrm.normal ?_
                        clear hSo hS hdrop c0 c1
                        clear S22
                        go_wp2_with fail
                        exact ⟨⟨k + 1, s + 1, d1, by push_cast; rfl, by push_cast; rfl, by omega, by omega, by omega, HA_X6.out, by rw [HX6.out]; exact HT6.out.drew, Hend.out _ (by rw [if_pos h2, ← Hsd.out, sup_stop hl])⟩, by simp [intOf]; omega⟩
                      · go_wp2_with fail
                        have HA_X6 := Lib.hid (show IsA w6.drew g n cap d1 from HA6.out.stay rfl)
                        have c0 : w6.drew.cell? ⟨g, m + 1, none⟩ = some (.int .u32 d1[m + 1]!) := (HA_X6.out.at (j := m + 1) (by omega)).1
                        have c1 : w6.drew.cell? ⟨g, m, none⟩ = some (.int .u32 d1[m]!) := (HA_X6.out.at (j := m) (by omega)).1
                        obtain ⟨S22, hSe⟩ : ∃ S : Array Bool → World → Prop, S = fun _ w' => w' = w6.drew := ⟨_, rfl⟩
                        have hdrop : ∀ i : Nat, i ≠ 1000 → ∀ L w', S22 (L.setIfInBounds i true) w' → S22 L w' := by
                          intro i _ L w' h; rw [hSe] at h ⊢; exact h
                        have hS : ∀ L, S22 L w6.drew := by intro L; rw [hSe]
                        have hSo : ∀ {L w'}, S22 L w' → w' = w6.drew := by intro L w' h; rw [hSe] at h; exact h
                        clear hSe
                        refine wp_region_LN S22 11 #[false, false, false, false, false, false, false, false, false, false, false] (by kernel_rfl) (by kernel_rfl) rfl ?_
                        obtain ⟨X6, hX6⟩ : ∃ X6, X6 = w6.drew := ⟨_, rfl⟩
                        rw [← hX6] at c0 c1 HA_X6 hSo hS ⊢
                        have HX6 := Lib.hid hX6
                        clear hX6
                        refine WA.tk (i := 0) (v := .slice (some ⟨g, 0, none⟩) n cap) rfl (hdrop 0 (by decide)) (Or.inl ⟨by rfl, ?_⟩) (hS _) ?_
                        · rintro w' ⟨L, hL, hSw, hun⟩
                          go_simp
                        simp only [nA, nB, nC, Act.put, nD, nE, nF]
                        refine WA.tk (i := 1) (v := .int .i64 ((m + 1 : Nat) : Int)) rfl (hdrop 1 (by decide)) (Or.inl ⟨by rfl, ?_⟩) (hS _) ?_
                        · rintro w' ⟨L, hL, hSw, hun⟩
                          go_simp
                        simp only [nA, nB, nC, Act.put, nD, nE, nF]
                        refine WA.tk (i := 2) (v := .pointer (some ⟨g, m + 1, none⟩)) rfl (hdrop 2 (by decide)) (Or.inl ⟨by rfl, ?_⟩) (hS _) ?_
                        · rintro w' ⟨L, hL, hSw, hun⟩
                          go_simp
                          all_goals (intro h5; omega)
                        simp only [nA, nB, nC, Act.put, nD, nE, nF]
                        refine WA.tk (i := 3) (v := .int .u32 d1[m + 1]!) rfl (hdrop 3 (by decide)) (Or.inl ⟨by rfl, ?_⟩) (hS _) ?_
                        · rintro w' ⟨L, hL, hSw, hun⟩
                          obtain rfl := hSo hSw 
                          go_simp
                        simp only [nA, nB, nC, Act.put, nD, nE, nF]
                        refine WA.tk (i := 4) (v := .slice (some ⟨g, 0, none⟩) n cap) rfl (hdrop 4 (by decide)) (Or.inl ⟨by rfl, ?_⟩) (hS _) ?_
                        · rintro w' ⟨L, hL, hSw, hun⟩
                          go_simp
                        simp only [nA, nB, nC, Act.put, nD, nE, nF]
                        refine WA.tk (i := 5) (v := .int .i64 ((m + 1 : Nat) : Int)) rfl (hdrop 5 (by decide)) (Or.inl ⟨by rfl, ?_⟩) (hS _) ?_
                        · rintro w' ⟨L, hL, hSw, hun⟩
                          go_simp
                        simp only [nA, nB, nC, Act.put, nD, nE, nF]
                        refine WA.tk (i := 6) (v := .int .i64 ((m : Nat) : Int)) rfl (hdrop 6 (by decide)) (Or.inl ⟨by rfl, ?_⟩) (hS _) ?_
                        · rintro w' ⟨L, hL, hSw, hun⟩
                          go_simp
                          all_goals (exact i64w (by omega) (by omega))
                        simp only [nA, nB, nC, Act.put, nD, nE, nF]
                        refine WA.tk (i := 7) (v := .pointer (some ⟨g, m, none⟩)) rfl (hdrop 7 (by decide)) (Or.inl ⟨by rfl, ?_⟩) (hS _) ?_
                        · rintro w' ⟨L, hL, hSw, hun⟩
                          go_simp
                          all_goals (intro h5; omega)
                        simp only [nA, nB, nC, Act.put, nD, nE, nF]
                        refine WA.tk (i := 8) (v := .int .u32 d1[m]!) rfl (hdrop 8 (by decide)) (Or.inl ⟨by rfl, ?_⟩) (hS _) ?_
                        · rintro w' ⟨L, hL, hSw, hun⟩
                          obtain rfl := hSo hSw 
                          go_simp
                        simp only [nA, nB, nC, Act.put, nD, nE, nF]
                        refine WA.one (i := 9) (by kernel_rfl) rfl (by rfl) (fun K hK => ?_)
                        go_simp
                        refine (less_u _ _).mono ?_
                        rintro e w_ ⟨rfl, hw_⟩
                        subst hw_
                        rw [hl]
                        refine hK _ _ (hS _) ?_
                        clear hK
                        try simp only [nA, nB, nC, Act.put, nD, nE, nF]
                        refine WA.tk (i := 10) (v := .bool false) rfl (hdrop 10 (by decide)) (Or.inl ⟨by rfl, ?_⟩) (hS _) ?_
                        · rintro w' ⟨L, hL, hSw, hun⟩
                          go_simp
                        simp only [nA, nB, nC, Act.put, nD, nE, nF]
                        refine WA.done (by kernel_rfl) ?_ _
                        refine Nrm.normal ?_
                        clear hSo hS hdrop c0 c1
                        clear S22
                        go_wp2_with fail
                        have HA_X7 := Lib.hid (show IsA X6.drew g n cap d1 from HA_X6.out.stay rfl)
                        have c0 : X6.drew.cell? ⟨g, m, none⟩ = some (.int .u32 d1[m]!) := (HA_X7.out.at (j := m) (by omega)).1
                        have c1 : X6.drew.cell? ⟨g, m + 1, none⟩ = some (.int .u32 d1[m + 1]!) := (HA_X7.out.at (j := m + 1) (by omega)).1
                        obtain ⟨S23, hSe⟩ : ∃ S : Array Bool → World → Prop, S = fun L w' => L.getD 15 true = false → w' = X6.drew := ⟨_, rfl⟩
                        have hdrop : ∀ i, i ≠ 15 → ∀ L w', S23 (L.setIfInBounds i true) w' → S23 L w' := by
                          intro i hi L w'
                          rw [hSe]
                          intro h hl
                          exact h (by rw [getD_set_ne true hi]; exact hl)
                        have hS : ∀ L, S23 L X6.drew := by intro L; rw [hSe]; exact fun _ => rfl
                        have hSo : ∀ {L w'}, S23 L w' → L.getD 15 true = false → w' = X6.drew := by intro L w' h hl; rw [hSe] at h; exact h hl
                        have hSd : ∀ (L : Array Bool) X, L.getD 15 true = true → S23 L X := by
                          intro L X h; rw [hSe]; intro h1; rw [h] at h1; cases h1
                        clear hSe
                        refine wp_region_LN S23 18 #[false, false, false, false, false, false, false, false, false, false, false, false, false, false, false, false, false, false] (by kernel_rfl) (by kernel_rfl) rfl ?_
                        obtain ⟨X7, hX7⟩ : ∃ X7, X7 = X6.drew := ⟨_, rfl⟩
                        rw [← hX7] at c0 c1 HA_X7 hSo hS ⊢
                        have HX7 := Lib.hid hX7
                        clear hX7
                        refine WA.tk (i := 0) (v := .slice (some ⟨g, 0, none⟩) n cap) rfl (hdrop 0 (by decide)) (Or.inl ⟨by rfl, ?_⟩) (hS _) ?_
                        · rintro w' ⟨L, hL, hSw, hun⟩
                          go_simp
                        simp only [nA, nB, nC, Act.put, nD, nE, nF]
                        refine WA.tk (i := 1) (v := .int .i64 ((m + 1 : Nat) : Int)) rfl (hdrop 1 (by decide)) (Or.inl ⟨by rfl, ?_⟩) (hS _) ?_
                        · rintro w' ⟨L, hL, hSw, hun⟩
                          go_simp
                        simp only [nA, nB, nC, Act.put, nD, nE, nF]
                        refine WA.tk (i := 2) (v := .slice (some ⟨g, 0, none⟩) n cap) rfl (hdrop 2 (by decide)) (Or.inl ⟨by rfl, ?_⟩) (hS _) ?_
                        · rintro w' ⟨L, hL, hSw, hun⟩
                          go_simp
                        simp only [nA, nB, nC, Act.put, nD, nE, nF]
                        refine WA.tk (i := 3) (v := .int .i64 ((m + 1 : Nat) : Int)) rfl (hdrop 3 (by decide)) (Or.inl ⟨by rfl, ?_⟩) (hS _) ?_
                        · rintro w' ⟨L, hL, hSw, hun⟩
                          go_simp
                        simp only [nA, nB, nC, Act.put, nD, nE, nF]
                        refine WA.tk (i := 4) (v := .int .i64 ((m : Nat) : Int)) rfl (hdrop 4 (by decide)) (Or.inl ⟨by rfl, ?_⟩) (hS _) ?_
                        · rintro w' ⟨L, hL, hSw, hun⟩
                          go_simp
                          all_goals (exact i64w (by omega) (by omega))
                        simp only [nA, nB, nC, Act.put, nD, nE, nF]
                        refine WA.tk (i := 5) (v := .slice (some ⟨g, 0, none⟩) n cap) rfl (hdrop 5 (by decide)) (Or.inl ⟨by rfl, ?_⟩) (hS _) ?_
                        · rintro w' ⟨L, hL, hSw, hun⟩
                          go_simp
                        simp only [nA, nB, nC, Act.put, nD, nE, nF]
                        refine WA.tk (i := 6) (v := .int .i64 ((m + 1 : Nat) : Int)) rfl (hdrop 6 (by decide)) (Or.inl ⟨by rfl, ?_⟩) (hS _) ?_
                        · rintro w' ⟨L, hL, hSw, hun⟩
                          go_simp
                        simp only [nA, nB, nC, Act.put, nD, nE, nF]
                        refine WA.tk (i := 7) (v := .int .i64 ((m : Nat) : Int)) rfl (hdrop 7 (by decide)) (Or.inl ⟨by rfl, ?_⟩) (hS _) ?_
                        · rintro w' ⟨L, hL, hSw, hun⟩
                          go_simp
                          all_goals (exact i64w (by omega) (by omega))
                        simp only [nA, nB, nC, Act.put, nD, nE, nF]
                        refine WA.tk (i := 8) (v := .pointer (some ⟨g, m, none⟩)) rfl (hdrop 8 (by decide)) (Or.inl ⟨by rfl, ?_⟩) (hS _) ?_
                        · rintro w' ⟨L, hL, hSw, hun⟩
                          go_simp
                          all_goals (intro h5; omega)
                        simp only [nA, nB, nC, Act.put, nD, nE, nF]
                        refine WA.tk (i := 9) (v := .int .u32 d1[m]!) rfl (hdrop 9 (by decide)) (Or.inl ⟨by rfl, ?_⟩) (hS _) ?_
                        · rintro w' ⟨L, hL, hSw, hun⟩
                          obtain rfl := hSo hSw (hL.wait 15 9 (by kernel_rfl) hun)
                          go_simp
                        simp only [nA, nB, nC, Act.put, nD, nE, nF]
                        refine WA.tk (i := 10) (v := .slice (some ⟨g, 0, none⟩) n cap) rfl (hdrop 10 (by decide)) (Or.inl ⟨by rfl, ?_⟩) (hS _) ?_
                        · rintro w' ⟨L, hL, hSw, hun⟩
                          go_simp
                        simp only [nA, nB, nC, Act.put, nD, nE, nF]
                        refine WA.tk (i := 11) (v := .int .i64 ((m + 1 : Nat) : Int)) rfl (hdrop 11 (by decide)) (Or.inl ⟨by rfl, ?_⟩) (hS _) ?_
                        · rintro w' ⟨L, hL, hSw, hun⟩
                          go_simp
                        simp only [nA, nB, nC, Act.put, nD, nE, nF]
                        refine WA.tk (i := 12) (v := .pointer (some ⟨g, m + 1, none⟩)) rfl (hdrop 12 (by decide)) (Or.inl ⟨by rfl, ?_⟩) (hS _) ?_
                        · rintro w' ⟨L, hL, hSw, hun⟩
                          go_simp
                          all_goals (intro h5; omega)
                        simp only [nA, nB, nC, Act.put, nD, nE, nF]
                        refine WA.tk (i := 13) (v := .int .u32 d1[m + 1]!) rfl (hdrop 13 (by decide)) (Or.inl ⟨by rfl, ?_⟩) (hS _) ?_
                        · rintro w' ⟨L, hL, hSw, hun⟩
                          obtain rfl := hSo hSw (hL.wait 15 13 (by kernel_rfl) hun)
                          go_simp
                        simp only [nA, nB, nC, Act.put, nD, nE, nF]
                        refine WA.tk (i := 14) (v := .pointer (some ⟨g, m + 1, none⟩)) rfl (hdrop 14 (by decide)) (Or.inl ⟨by rfl, ?_⟩) (hS _) ?_
                        · rintro w' ⟨L, hL, hSw, hun⟩
                          go_simp
                          all_goals (intro h5; omega)
                        simp only [nA, nB, nC, Act.put, nD, nE, nF]
                        obtain ⟨cx, fx⟩ := HA_X7.out.at (j := m + 1) (by omega)
                        obtain ⟨cy, fy⟩ := (HA_X7.out.set (j := m + 1) (by omega) d1[m]!).at (j := m) (by omega)
                        refine WA.one (i := 15) (by kernel_rfl) rfl (by rfl) (fun K hK => ?_)
                        go_simp
                        refine hK _ _ (hSd _ _ (by rfl)) ?_
                        clear hK
                        try simp only [nA, nB, nC, Act.put, nD, nE, nF]
                        refine WA.tk (i := 16) (v := .pointer (some ⟨g, m, none⟩)) rfl (hdrop 16 (by decide)) (Or.inl ⟨by rfl, ?_⟩) (hSd _ _ (by rfl)) ?_
                        · rintro w' ⟨L, hL, hSw, hun⟩
                          go_simp
                          all_goals (intro h5; omega)
                        simp only [nA, nB, nC, Act.put, nD, nE, nF]
                        refine WA.one (i := 17) (by kernel_rfl) rfl (by rfl) (fun K hK => ?_)
                        go_simp
                        refine hK _ _ (hSd _ _ (by rfl)) ?_
                        clear hK
                        try simp only [nA, nB, nC, Act.put, nD, nE, nF]
                        refine WA.done (by kernel_rfl) ?_ _
                        refine Nrm.normal ?_
                        clear hSo hS hdrop c0 c1 hSd cx fx cy fy
                        clear S23
                        go_wp2_with fail
                        refine ⟨⟨m + 2, swp d1 (m + 1) m, by push_cast; rfl, by omega, by omega, HA_X7.out.swp (by omega) (by omega), ?_, ?_⟩, by simp [intOf]; omega⟩
                        · have ht := HT6.out.drew
                          rw [← HX6.out] at ht
                          have ht := ht.drew
                          rw [← HX7.out] at ht
                          exact (ht.set _ _).set _ _
                        · rw [← Hsd.out, sup_go (by omega) hl]
                · have hd2 : decide ((b : Int) - ((k : Int) + 1) ≥ 2) = false := by simp; omega
                  have hd2' : decide ((2 : Int) ≤ (b : Int) - ((k : Int) + 1)) = false := by simp; omega
                  go_wp2_with fail
                  exact ⟨⟨k + 1, s + 1, e2, by push_cast; rfl, by push_cast; rfl, by omega, by omega, by omega, HA7.out, HT7.out, Hend.out _ (by rw [if_neg h2])⟩, by simp [intOf]; omega⟩
        · have hib2 : i1 = b := by omega
          subst hib2
          have hdl : decide ((i1 : Int) < (i1 : Int)) = false := by simp
          go_wp2_with fail
          have HA_X1 := Lib.hid (show IsA w2.drew g n cap d0 from HA.out.stay rfl)
          obtain ⟨S5, hSe⟩ : ∃ S : Array Bool → World → Prop, S = fun _ w' => w' = w2.drew := ⟨_, rfl⟩
          have hdrop : ∀ i : Nat, i ≠ 1000 → ∀ L w', S5 (L.setIfInBounds i true) w' → S5 L w' := by
            intro i _ L w' h; rw [hSe] at h ⊢; exact h
          have hS : ∀ L, S5 L w2.drew := by intro L; rw [hSe]
          have hSo : ∀ {L w'}, S5 L w' → w' = w2.drew := by intro L w' h; rw [hSe] at h; exact h
          clear hSe
          refine wp_region_LN S5 16 #[false, false, false, false, false, false, false, false, false, false, false, false, false, false, false, false] (by kernel_rfl) (by kernel_rfl) rfl ?_
          obtain ⟨X1, hX1⟩ : ∃ X1, X1 = w2.drew := ⟨_, rfl⟩
          rw [← hX1] at  HA_X1 hSo hS ⊢
          have HX1 := Lib.hid hX1
          clear hX1
          refine WA.tk (i := 0) (v := .int .i64 ((i1 : Nat) : Int)) rfl (hdrop 0 (by decide)) (Or.inl ⟨by rfl, ?_⟩) (hS _) ?_
          · rintro w' ⟨L, hL, hSw, hun⟩
            go_simp
          simp only [nA, nB, nC, Act.put, nD, nE, nF]
          refine WA.tk (i := 1) (v := .int .i64 ((i1 : Nat) : Int)) rfl (hdrop 1 (by decide)) (Or.inl ⟨by rfl, ?_⟩) (hS _) ?_
          · rintro w' ⟨L, hL, hSw, hun⟩
            go_simp
          simp only [nA, nB, nC, Act.put, nD, nE, nF]
          refine WA.tk (i := 2) (v := .bool false) rfl (hdrop 2 (by decide)) (Or.inl ⟨by rfl, ?_⟩) (hS _) ?_
          · rintro w' ⟨L, hL, hSw, hun⟩
            go_simp
            all_goals omega
          simp only [nA, nB, nC, Act.put, nD, nE, nF]
          refine WA.tk (i := 3) (v := .bool false) rfl (hdrop 3 (by decide)) (Or.inl ⟨by rfl, ?_⟩) (hS _) ?_
          · rintro w' ⟨L, hL, hSw, hun⟩
            go_simp
          simp only [nA, nB, nC, Act.put, nD, nE, nF]
          refine WA.tk (i := 4) (v := undef) rfl (hdrop 4 (by decide)) (Or.inr ⟨by rfl, rfl⟩) (hS _) ?_
          simp only [nA, nB, nC, Act.put, nD, nE, nF]
          refine WA.tk (i := 5) (v := undef) rfl (hdrop 5 (by decide)) (Or.inr ⟨by rfl, rfl⟩) (hS _) ?_
          simp only [nA, nB, nC, Act.put, nD, nE, nF]
          refine WA.tk (i := 6) (v := undef) rfl (hdrop 6 (by decide)) (Or.inr ⟨by rfl, rfl⟩) (hS _) ?_
          simp only [nA, nB, nC, Act.put, nD, nE, nF]
          refine WA.tk (i := 7) (v := undef) rfl (hdrop 7 (by decide)) (Or.inr ⟨by rfl, rfl⟩) (hS _) ?_
          simp only [nA, nB, nC, Act.put, nD, nE, nF]
          refine WA.tk (i := 8) (v := undef) rfl (hdrop 8 (by decide)) (Or.inr ⟨by rfl, rfl⟩) (hS _) ?_
          simp only [nA, nB, nC, Act.put, nD, nE, nF]
          refine WA.tk (i := 9) (v := undef) rfl (hdrop 9 (by decide)) (Or.inr ⟨by rfl, rfl⟩) (hS _) ?_
          simp only [nA, nB, nC, Act.put, nD, nE, nF]
          refine WA.tk (i := 10) (v := undef) rfl (hdrop 10 (by decide)) (Or.inr ⟨by rfl, rfl⟩) (hS _) ?_
          simp only [nA, nB, nC, Act.put, nD, nE, nF]
          refine WA.tk (i := 11) (v := undef) rfl (hdrop 11 (by decide)) (Or.inr ⟨by rfl, rfl⟩) (hS _) ?_
          simp only [nA, nB, nC, Act.put, nD, nE, nF]
          refine WA.tk (i := 12) (v := undef) rfl (hdrop 12 (by decide)) (Or.inr ⟨by rfl, rfl⟩) (hS _) ?_
          simp only [nA, nB, nC, Act.put, nD, nE, nF]
          refine WA.skip (i := 13) (by kernel_rfl) rfl (by rfl) (hS _) ?_
          simp only [nA, nB, nC, Act.put, nD, nE, nF]
          refine WA.tk (i := 14) (v := undef) rfl (hdrop 14 (by decide)) (Or.inr ⟨by rfl, rfl⟩) (hS _) ?_
          simp only [nA, nB, nC, Act.put, nD, nE, nF]
          refine WA.tk (i := 15) (v := .bool false) rfl (hdrop 15 (by decide)) (Or.inl ⟨by rfl, ?_⟩) (hS _) ?_
          · rintro w' ⟨L, hL, hSw, hun⟩
            go_simp
          simp only [nA, nB, nC, Act.put, nD, nE, nF]
          refine WA.done (by kernel_rfl) ?_ _
          refine Nrm.normal ?_
          clear hSo hS hdrop 
          clear S5
          go_wp2_with fail
          go_ret
          have he := He.out
          rw [hq, pi_succ, ← Hsc.out, ss_end, if_pos rfl] at he
          unfold partialInsertionSort
          rw [← he]
          exact ⟨rfl, HA_X1.out, by rw [HX1.out]; exact HT.out.drew⟩
    · have hs' : s = 5 := by omega
      subst hs'
      go_wp2_with fail
      go_ret
      unfold partialInsertionSort
      rw [← He.out]
      exact ⟨rfl, HA0.out, HT0.out⟩
end
end Go.Proofs.Ytghihhjcoilmgaa
