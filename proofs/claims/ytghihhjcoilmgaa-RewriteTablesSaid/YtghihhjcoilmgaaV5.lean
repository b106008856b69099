/- Parting a row by those that are not beyond the pivot, walked. -/
import Derived.Test.YtghihhjcoilmgaaV4
namespace Go.Proofs.Ytghihhjcoilmgaa
set_option maxRecDepth 100000
open Go.RowKit Go.Maps Go.Sort
set_option linter.unusedVariables false
set_option linter.unusedSimpArgs false

theorem su_go {p : Int → Bool} {d : Array Int} {i j : Nat} (h : i ≤ j) (hp : p d[i]! = true) : scanUp p d j i = scanUp p d j (i + 1) := by rw [scanUp, if_pos (by simp [h, hp])]
theorem su_stop {p : Int → Bool} {d : Array Int} {i j : Nat} (hp : p d[i]! = false) : scanUp p d j i = i := by rw [scanUp, if_neg (by simp [hp])]
theorem su_end {p : Int → Bool} {d : Array Int} {i j : Nat} (h : ¬ i ≤ j) : scanUp p d j i = i := by rw [scanUp, if_neg (by simp [h])]
theorem sd_go {p : Int → Bool} {d : Array Int} {i j : Nat} (h : i ≤ j + 1) (hp : p d[j + 1]! = true) : scanDown p d i (j + 1) = scanDown p d i j := by rw [scanDown, if_pos (by simp [h, hp])]
theorem sd_stop {p : Int → Bool} {d : Array Int} {i j : Nat} (hp : p d[j + 1]! = false) : scanDown p d i (j + 1) = j + 1 := by rw [scanDown, if_neg (by simp [hp])]
theorem sd_end {p : Int → Bool} {d : Array Int} {i j : Nat} (h : ¬ i ≤ j) : scanDown p d i j = j := by
  cases j with
  | zero => rfl
  | succ j => rw [scanDown, if_neg (by simp; omega)]
theorem pe_break {a i j i2 j2 : Nat} {d : Array Int} (h1 : scanUp (fun x => !ltInt d[a]! x) d j i = i2) (h2 : scanDown (fun x => ltInt d[a]! x) d i2 j = j2) (h : i2 > j2) : partEqLoop ltInt a i j d = (i2, d) := by
  rw [partEqLoop]
  simp only [h1, h2, if_pos h]
theorem pe_go {a i j i2 j2 : Nat} {d : Array Int} (h1 : scanUp (fun x => !ltInt d[a]! x) d j i = i2) (h2 : scanDown (fun x => ltInt d[a]! x) d i2 j = j2) (h : i2 < j2) (h3 : i ≤ i2) (h4 : j2 ≤ j) : partEqLoop ltInt a i j d = partEqLoop ltInt a (i2 + 1) (j2 - 1) (swp d i2 j2) := by
  rw [partEqLoop]
  simp only [h1, h2, if_neg (show ¬ i2 > j2 by omega)]
  rw [dif_pos (by omega)]
section
variable {w : World} {g n cap : Nat} {d : Array Int}
set_option maxRecDepth 100000 in
set_option maxHeartbeats 8000000 in
theorem partitionEq_u (h : IsA w g n cap d) (hn6 : n ≤ 1000000) (a b p : Nat) (hap : a ≤ p) (hpb : p < b) (hb : b ≤ n) : Calls Try.prog 61 #[.slice (some ⟨g, 0, none⟩) n cap, .int .i64 (a : Nat), .int .i64 (b : Nat), .int .i64 (p : Nat)] w fun e w' => e = .returned (.int .i64 ((partitionEqual ltInt d a b p).1 : Nat)) ∧ IsA w' g n cap (partitionEqual ltInt d a b p).2 ∧ TnA w w' g := by
  have HA := Lib.hid h
  obtain ⟨d1, hd1⟩ : ∃ d1, d1 = d := ⟨_, rfl⟩
  rw [← hd1] at HA ⊢
  clear h hd1
  go_enter Try.func61, Try.ntmps61
  go_wp2_with fail
  have HA_X1 := Lib.hid (show IsA w.drew g n cap d1 from HA.out.stay rfl)
  have c0 : w.drew.cell? ⟨g, p, none⟩ = some (.int .u32 d1[p]!) := (HA_X1.out.at (j := p) (by omega)).1
  have c1 : w.drew.cell? ⟨g, a, none⟩ = some (.int .u32 d1[a]!) := (HA_X1.out.at (j := a) (by omega)).1
  obtain ⟨S1, hSe⟩ : ∃ S : Array Bool → World → Prop, S = fun L w' => L.getD 13 true = false → w' = w.drew := ⟨_, rfl⟩
  have hdrop : ∀ i, i ≠ 13 → ∀ L w', S1 (L.setIfInBounds i true) w' → S1 L w' := by
    intro i hi L w'
    rw [hSe]
    intro h hl
    exact h (by rw [getD_set_ne true hi]; exact hl)
  have hS : ∀ L, S1 L w.drew := by intro L; rw [hSe]; exact fun _ => rfl
  have hSo : ∀ {L w'}, S1 L w' → L.getD 13 true = false → w' = w.drew := by intro L w' h hl; rw [hSe] at h; exact h hl
  have hSd : ∀ (L : Array Bool) X, L.getD 13 true = true → S1 L X := by
    intro L X h; rw [hSe]; intro h1; rw [h] at h1; cases h1
  clear hSe
  refine wp_region_LN S1 16 #[false, false, false, false, false, false, false, false, false, false, false, false, false, false, false, false] (by kernel_rfl) (by kernel_rfl) rfl ?_
  obtain ⟨X1, hX1⟩ : ∃ X1, X1 = w.drew := ⟨_, rfl⟩
  rw [← hX1] at c0 c1 HA_X1 hSo hS ⊢
  have HX1 := Lib.hid hX1
  clear hX1
  refine WA.tk (i := 0) (v := .slice (some ⟨g, 0, none⟩) n cap) rfl (hdrop 0 (by decide)) (Or.inl ⟨by rfl, ?_⟩) (hS _) ?_
  · rintro w' ⟨L, hL, hSw, hun⟩
    go_simp
  simp only [nA, nB, nC, Act.put, nD, nE, nF]
  refine WA.tk (i := 1) (v := .int .i64 ((a : Nat) : Int)) rfl (hdrop 1 (by decide)) (Or.inl ⟨by rfl, ?_⟩) (hS _) ?_
  · rintro w' ⟨L, hL, hSw, hun⟩
    go_simp
  simp only [nA, nB, nC, Act.put, nD, nE, nF]
  refine WA.tk (i := 2) (v := .slice (some ⟨g, 0, none⟩) n cap) rfl (hdrop 2 (by decide)) (Or.inl ⟨by rfl, ?_⟩) (hS _) ?_
  · rintro w' ⟨L, hL, hSw, hun⟩
    go_simp
  simp only [nA, nB, nC, Act.put, nD, nE, nF]
  refine WA.tk (i := 3) (v := .int .i64 ((p : Nat) : Int)) rfl (hdrop 3 (by decide)) (Or.inl ⟨by rfl, ?_⟩) (hS _) ?_
  · rintro w' ⟨L, hL, hSw, hun⟩
    go_simp
  simp only [nA, nB, nC, Act.put, nD, nE, nF]
  refine WA.tk (i := 4) (v := .slice (some ⟨g, 0, none⟩) n cap) rfl (hdrop 4 (by decide)) (Or.inl ⟨by rfl, ?_⟩) (hS _) ?_
  · rintro w' ⟨L, hL, hSw, hun⟩
    go_simp
  simp only [nA, nB, nC, Act.put, nD, nE, nF]
  refine WA.tk (i := 5) (v := .int .i64 ((p : Nat) : Int)) rfl (hdrop 5 (by decide)) (Or.inl ⟨by rfl, ?_⟩) (hS _) ?_
  · rintro w' ⟨L, hL, hSw, hun⟩
    go_simp
  simp only [nA, nB, nC, Act.put, nD, nE, nF]
  refine WA.tk (i := 6) (v := .pointer (some ⟨g, p, none⟩)) rfl (hdrop 6 (by decide)) (Or.inl ⟨by rfl, ?_⟩) (hS _) ?_
  · rintro w' ⟨L, hL, hSw, hun⟩
    go_simp
    all_goals (intro h5; omega)
  simp only [nA, nB, nC, Act.put, nD, nE, nF]
  refine WA.tk (i := 7) (v := .int .u32 d1[p]!) rfl (hdrop 7 (by decide)) (Or.inl ⟨by rfl, ?_⟩) (hS _) ?_
  · rintro w' ⟨L, hL, hSw, hun⟩
    obtain rfl := hSo hSw (hL.wait 13 7 (by kernel_rfl) hun)
    go_simp
  simp only [nA, nB, nC, Act.put, nD, nE, nF]
  refine WA.tk (i := 8) (v := .slice (some ⟨g, 0, none⟩) n cap) rfl (hdrop 8 (by decide)) (Or.inl ⟨by rfl, ?_⟩) (hS _) ?_
  · rintro w' ⟨L, hL, hSw, hun⟩
    go_simp
  simp only [nA, nB, nC, Act.put, nD, nE, nF]
  refine WA.tk (i := 9) (v := .int .i64 ((a : Nat) : Int)) rfl (hdrop 9 (by decide)) (Or.inl ⟨by rfl, ?_⟩) (hS _) ?_
  · rintro w' ⟨L, hL, hSw, hun⟩
    go_simp
  simp only [nA, nB, nC, Act.put, nD, nE, nF]
  refine WA.tk (i := 10) (v := .pointer (some ⟨g, a, none⟩)) rfl (hdrop 10 (by decide)) (Or.inl ⟨by rfl, ?_⟩) (hS _) ?_
  · rintro w' ⟨L, hL, hSw, hun⟩
    go_simp
    all_goals (intro h5; omega)
  simp only [nA, nB, nC, Act.put, nD, nE, nF]
  refine WA.tk (i := 11) (v := .int .u32 d1[a]!) rfl (hdrop 11 (by decide)) (Or.inl ⟨by rfl, ?_⟩) (hS _) ?_
  · rintro w' ⟨L, hL, hSw, hun⟩
    obtain rfl := hSo hSw (hL.wait 13 11 (by kernel_rfl) hun)
    go_simp
  simp only [nA, nB, nC, Act.put, nD, nE, nF]
  refine WA.tk (i := 12) (v := .pointer (some ⟨g, a, none⟩)) rfl (hdrop 12 (by decide)) (Or.inl ⟨by rfl, ?_⟩) (hS _) ?_
  · rintro w' ⟨L, hL, hSw, hun⟩
    go_simp
    all_goals (intro h5; omega)
  simp only [nA, nB, nC, Act.put, nD, nE, nF]
  obtain ⟨cx, fx⟩ := HA_X1.out.at (j := a) (by omega)
  obtain ⟨cy, fy⟩ := (HA_X1.out.set (j := a) (by omega) d1[p]!).at (j := p) (by omega)
  refine WA.one (i := 13) (by kernel_rfl) rfl (by rfl) (fun K hK => ?_)
  go_simp
  refine hK _ _ (hSd _ _ (by rfl)) ?_
  clear hK
  try simp only [nA, nB, nC, Act.put, nD, nE, nF]
  refine WA.tk (i := 14) (v := .pointer (some ⟨g, p, none⟩)) rfl (hdrop 14 (by decide)) (Or.inl ⟨by rfl, ?_⟩) (hSd _ _ (by rfl)) ?_
  · rintro w' ⟨L, hL, hSw, hun⟩
    go_simp
    all_goals (intro h5; omega)
  simp only [nA, nB, nC, Act.put, nD, nE, nF]
  refine WA.one (i := 15) (by kernel_rfl) rfl (by rfl) (fun K hK => ?_)
  go_simp
  refine hK _ _ (hSd _ _ (by rfl)) ?_
  clear hK
  try simp only [nA, nB, nC, Act.put, nD, nE, nF]
  refine WA.done (by kernel_rfl) ?_ _
  refine Nrm.normal ?_
  clear hSo hS hdrop c0 c1 hSd cx fx cy fy
  clear S1
  have HA1 := Lib.hid (HA_X1.out.swp (i := a) (j := p) (by omega) (by omega))
  have HT1 := Lib.hid (((show TnA w X1 g by rw [HX1.out]; exact (TnA.refl _ _).drew).set a (.int .u32 d1[p]!)).set p (.int .u32 d1[a]!))
  generalize (X1.setCell ⟨g, a, none⟩ (.int .u32 d1[p]!)).setCell ⟨g, p, none⟩ (.int .u32 d1[a]!) = w1 at *
  obtain ⟨e0, he0⟩ : ∃ e0, e0 = swp d1 a p := ⟨_, rfl⟩
  rw [← he0] at HA1
  have He0 := Lib.hid he0
  clear he0 HA_X1 HX1 HA
  go_wp2_with fail
  go_loopw [9, 10] (fun u9 u10 wr => ∃ (i j : Nat) (d0 : Array Int), u9 = .int .i64 i ∧ u10 = .int .i64 j ∧ a < i ∧ i ≤ j + 1 ∧ j < b ∧ IsA wr g n cap d0 ∧ TnA w wr g ∧ partEqLoop ltInt a i j d0 = partEqLoop ltInt a (a + 1) (b - 1) e0) (fun u9 u10 _ => ((intOf u10) + 1 - (intOf u9)).toNat)
  case atStart => exact ⟨a + 1, b - 1, e0, by push_cast; rfl, by congr 1; omega, by omega, by omega, by omega, HA1.out, HT1.out, rfl⟩
  case round =>
    rename World => w2
    obtain ⟨i, j, d0, rfl, rfl, hai, hij, hjb, hA, hT, he⟩ := hrel
    have HA2 := Lib.hid hA; have HT2 := Lib.hid hT; have He := Lib.hid he
    clear hA hT he
    go_wp2_with fail
    go_loopw [9] (fun u wx => ∃ i2 : Nat, u = .int .i64 i2 ∧ i ≤ i2 ∧ i2 ≤ j + 1 ∧ IsA wx g n cap d0 ∧ TnA w wx g ∧ scanUp (fun x => !ltInt d0[a]! x) d0 j i2 = scanUp (fun x => !ltInt d0[a]! x) d0 j i) (fun u _ => j + 1 - (intOf u).toNat)
    case atStart => exact ⟨i, rfl, Nat.le_refl _, hij, HA2.out, HT2.out, rfl⟩
    case round =>
      rename World => w3
      obtain ⟨i2, rfl, hii, hi2, hA, hT, hsc⟩ := hrel
      have HA3 := Lib.hid hA; have HT3 := Lib.hid hT; have Hsc := Lib.hid hsc
      clear hA hT hsc
      have key : ∀ i3, (i3 ≤ j → ltInt d0[a]! d0[i3]! = true) → i2 = i3 → scanUp (fun x => !ltInt d0[a]! x) d0 j i = i3 := by
        rintro i3 h1 rfl
        rw [← Hsc.out]
        by_cases h2 : i2 ≤ j
        · exact su_stop (by simp [h1 h2])
        · exact su_end h2
      have Key := Lib.hid key
      clear key
      by_cases hle : i2 ≤ j
      · have hdl : decide ((i2 : Int) ≤ (j : Int)) = true := by simp; omega
        cases hl : ltInt d0[a]! d0[i2]!
        · go_wp2_with fail
          have HA_X3 := Lib.hid (show IsA w3.drew g n cap d0 from HA3.out.stay rfl)
          have c0 : w3.drew.cell? ⟨g, a, none⟩ = some (.int .u32 d0[a]!) := (HA_X3.out.at (j := a) (by omega)).1
          have c1 : w3.drew.cell? ⟨g, i2, none⟩ = some (.int .u32 d0[i2]!) := (HA_X3.out.at (j := i2) (by omega)).1
          obtain ⟨S3, hSe⟩ : ∃ S : Array Bool → World → Prop, S = fun _ w' => w' = w3.drew := ⟨_, rfl⟩
          have hdrop : ∀ i : Nat, i ≠ 1000 → ∀ L w', S3 (L.setIfInBounds i true) w' → S3 L w' := by
            intro i _ L w' h; rw [hSe] at h ⊢; exact h
          have hS : ∀ L, S3 L w3.drew := by intro L; rw [hSe]
          have hSo : ∀ {L w'}, S3 L w' → w' = w3.drew := by intro L w' h; rw [hSe] at h; exact h
          clear hSe
          refine wp_region_LN S3 15 #[false, false, false, false, false, false, false, false, false, false, false, false, false, false, false] (by kernel_rfl) (by kernel_rfl) rfl ?_
          obtain ⟨X3, hX3⟩ : ∃ X3, X3 = w3.drew := ⟨_, rfl⟩
          rw [← hX3] at c0 c1 HA_X3 hSo hS ⊢
          have HX3 := Lib.hid hX3
          clear hX3
          refine WA.tk (i := 0) (v := .int .i64 ((i2 : Nat) : Int)) rfl (hdrop 0 (by decide)) (Or.inl ⟨by rfl, ?_⟩) (hS _) ?_
          · rintro w' ⟨L, hL, hSw, hun⟩
            go_simp
          simp only [nA, nB, nC, Act.put, nD, nE, nF]
          refine WA.tk (i := 1) (v := .int .i64 ((j : Nat) : Int)) rfl (hdrop 1 (by decide)) (Or.inl ⟨by rfl, ?_⟩) (hS _) ?_
          · rintro w' ⟨L, hL, hSw, hun⟩
            go_simp
          simp only [nA, nB, nC, Act.put, nD, nE, nF]
          refine WA.tk (i := 2) (v := .bool true) rfl (hdrop 2 (by decide)) (Or.inl ⟨by rfl, ?_⟩) (hS _) ?_
          · rintro w' ⟨L, hL, hSw, hun⟩
            go_simp
            all_goals omega
          simp only [nA, nB, nC, Act.put, nD, nE, nF]
          refine WA.tk (i := 3) (v := .bool true) rfl (hdrop 3 (by decide)) (Or.inl ⟨by rfl, ?_⟩) (hS _) ?_
          · rintro w' ⟨L, hL, hSw, hun⟩
            go_simp
          simp only [nA, nB, nC, Act.put, nD, nE, nF]
          refine WA.tk (i := 4) (v := .slice (some ⟨g, 0, none⟩) n cap) rfl (hdrop 4 (by decide)) (Or.inl ⟨by rfl, ?_⟩) (hS _) ?_
          · rintro w' ⟨L, hL, hSw, hun⟩
            go_simp
          simp only [nA, nB, nC, Act.put, nD, nE, nF]
          refine WA.tk (i := 5) (v := .int .i64 ((a : Nat) : Int)) rfl (hdrop 5 (by decide)) (Or.inl ⟨by rfl, ?_⟩) (hS _) ?_
          · rintro w' ⟨L, hL, hSw, hun⟩
            go_simp
          simp only [nA, nB, nC, Act.put, nD, nE, nF]
          refine WA.tk (i := 6) (v := .pointer (some ⟨g, a, none⟩)) rfl (hdrop 6 (by decide)) (Or.inl ⟨by rfl, ?_⟩) (hS _) ?_
          · rintro w' ⟨L, hL, hSw, hun⟩
            go_simp
            all_goals (intro h5; omega)
          simp only [nA, nB, nC, Act.put, nD, nE, nF]
          refine WA.tk (i := 7) (v := .int .u32 d0[a]!) rfl (hdrop 7 (by decide)) (Or.inl ⟨by rfl, ?_⟩) (hS _) ?_
          · rintro w' ⟨L, hL, hSw, hun⟩
            obtain rfl := hSo hSw 
            go_simp
          simp only [nA, nB, nC, Act.put, nD, nE, nF]
          refine WA.tk (i := 8) (v := .slice (some ⟨g, 0, none⟩) n cap) rfl (hdrop 8 (by decide)) (Or.inl ⟨by rfl, ?_⟩) (hS _) ?_
          · rintro w' ⟨L, hL, hSw, hun⟩
            go_simp
          simp only [nA, nB, nC, Act.put, nD, nE, nF]
          refine WA.tk (i := 9) (v := .int .i64 ((i2 : Nat) : Int)) rfl (hdrop 9 (by decide)) (Or.inl ⟨by rfl, ?_⟩) (hS _) ?_
          · rintro w' ⟨L, hL, hSw, hun⟩
            go_simp
          simp only [nA, nB, nC, Act.put, nD, nE, nF]
          refine WA.tk (i := 10) (v := .pointer (some ⟨g, i2, none⟩)) rfl (hdrop 10 (by decide)) (Or.inl ⟨by rfl, ?_⟩) (hS _) ?_
          · rintro w' ⟨L, hL, hSw, hun⟩
            go_simp
            all_goals (intro h5; omega)
          simp only [nA, nB, nC, Act.put, nD, nE, nF]
          refine WA.tk (i := 11) (v := .int .u32 d0[i2]!) rfl (hdrop 11 (by decide)) (Or.inl ⟨by rfl, ?_⟩) (hS _) ?_
          · rintro w' ⟨L, hL, hSw, hun⟩
            obtain rfl := hSo hSw 
            go_simp
          simp only [nA, nB, nC, Act.put, nD, nE, nF]
          refine WA.one (i := 12) (by kernel_rfl) rfl (by rfl) (fun K hK => ?_)
          go_simp
          refine (less_u _ _).mono ?_
          rintro e w_ ⟨rfl, hw_⟩
          subst hw_
          rw [hl]
          refine hK _ _ (hS _) ?_
          clear hK
          try simp only [nA, nB, nC, Act.put, nD, nE, nF]
          refine WA.tk (i := 13) (v := .bool true) rfl (hdrop 13 (by decide)) (Or.inl ⟨by rfl, ?_⟩) (hS _) ?_
          · rintro w' ⟨L, hL, hSw, hun⟩
            go_simp
          simp only [nA, nB, nC, Act.put, nD, nE, nF]
          refine WA.tk (i := 14) (v := .bool true) rfl (hdrop 14 (by decide)) (Or.inl ⟨by rfl, ?_⟩) (hS _) ?_
          · rintro w' ⟨L, hL, hSw, hun⟩
            go_simp
          simp only [nA, nB, nC, Act.put, nD, nE, nF]
          refine WA.done (by kernel_rfl) ?_ _
          refine Nrm.normal ?_
          clear hSo hS hdrop c0 c1
          clear S3
          go_wp2_with fail
          refine ⟨⟨i2 + 1, by push_cast; rfl, by omega, by omega, HA_X3.out, by rw [HX3.out]; exact HT3.out.drew, ?_⟩, by simp [intOf]; omega⟩
          rw [← Hsc.out, su_go hle (by simp [hl])]
        · go_wp2_with fail
          have HA_X3 := Lib.hid (show IsA w3.drew g n cap d0 from HA3.out.stay rfl)
          have c0 : w3.drew.cell? ⟨g, a, none⟩ = some (.int .u32 d0[a]!) := (HA_X3.out.at (j := a) (by omega)).1
          have c1 : w3.drew.cell? ⟨g, i2, none⟩ = some (.int .u32 d0[i2]!) := (HA_X3.out.at (j := i2) (by omega)).1
          obtain ⟨S3, hSe⟩ : ∃ S : Array Bool → World → Prop, S = fun _ w' => w' = w3.drew := ⟨_, rfl⟩
          have hdrop : ∀ i : Nat, i ≠ 1000 → ∀ L w', S3 (L.setIfInBounds i true) w' → S3 L w' := by
            intro i _ L w' h; rw [hSe] at h ⊢; exact h
          have hS : ∀ L, S3 L w3.drew := by intro L; rw [hSe]
          have hSo : ∀ {L w'}, S3 L w' → w' = w3.drew := by intro L w' h; rw [hSe] at h; exact h
          clear hSe
          refine wp_region_LN S3 15 #[false, false, false, false, false, false, false, false, false, false, false, false, false, false, false] (by kernel_rfl) (by kernel_rfl) rfl ?_
          obtain ⟨X3, hX3⟩ : ∃ X3, X3 = w3.drew := ⟨_, rfl⟩
          rw [← hX3] at c0 c1 HA_X3 hSo hS ⊢
          have HX3 := Lib.hid hX3
          clear hX3
          refine WA.tk (i := 0) (v := .int .i64 ((i2 : Nat) : Int)) rfl (hdrop 0 (by decide)) (Or.inl ⟨by rfl, ?_⟩) (hS _) ?_
          · rintro w' ⟨L, hL, hSw, hun⟩
            go_simp
          simp only [nA, nB, nC, Act.put, nD, nE, nF]
          refine WA.tk (i := 1) (v := .int .i64 ((j : Nat) : Int)) rfl (hdrop 1 (by decide)) (Or.inl ⟨by rfl, ?_⟩) (hS _) ?_
          · rintro w' ⟨L, hL, hSw, hun⟩
            go_simp
          simp only [nA, nB, nC, Act.put, nD, nE, nF]
          refine WA.tk (i := 2) (v := .bool true) rfl (hdrop 2 (by decide)) (Or.inl ⟨by rfl, ?_⟩) (hS _) ?_
          · rintro w' ⟨L, hL, hSw, hun⟩
            go_simp
            all_goals omega
          simp only [nA, nB, nC, Act.put, nD, nE, nF]
          refine WA.tk (i := 3) (v := .bool true) rfl (hdrop 3 (by decide)) (Or.inl ⟨by rfl, ?_⟩) (hS _) ?_
          · rintro w' ⟨L, hL, hSw, hun⟩
            go_simp
          simp only [nA, nB, nC, Act.put, nD, nE, nF]
          refine WA.tk (i := 4) (v := .slice (some ⟨g, 0, none⟩) n cap) rfl (hdrop 4 (by decide)) (Or.inl ⟨by rfl, ?_⟩) (hS _) ?_
          · rintro w' ⟨L, hL, hSw, hun⟩
            go_simp
          simp only [nA, nB, nC, Act.put, nD, nE, nF]
          refine WA.tk (i := 5) (v := .int .i64 ((a : Nat) : Int)) rfl (hdrop 5 (by decide)) (Or.inl ⟨by rfl, ?_⟩) (hS _) ?_
          · rintro w' ⟨L, hL, hSw, hun⟩
            go_simp
          simp only [nA, nB, nC, Act.put, nD, nE, nF]
          refine WA.tk (i := 6) (v := .pointer (some ⟨g, a, none⟩)) rfl (hdrop 6 (by decide)) (Or.inl ⟨by rfl, ?_⟩) (hS _) ?_
          · rintro w' ⟨L, hL, hSw, hun⟩
            go_simp
            all_goals (intro h5; omega)
          simp only [nA, nB, nC, Act.put, nD, nE, nF]
          refine WA.tk (i := 7) (v := .int .u32 d0[a]!) rfl (hdrop 7 (by decide)) (Or.inl ⟨by rfl, ?_⟩) (hS _) ?_
          · rintro w' ⟨L, hL, hSw, hun⟩
            obtain rfl := hSo hSw 
            go_simp
          simp only [nA, nB, nC, Act.put, nD, nE, nF]
          refine WA.tk (i := 8) (v := .slice (some ⟨g, 0, none⟩) n cap) rfl (hdrop 8 (by decide)) (Or.inl ⟨by rfl, ?_⟩) (hS _) ?_
          · rintro w' ⟨L, hL, hSw, hun⟩
            go_simp
          simp only [nA, nB, nC, Act.put, nD, nE, nF]
          refine WA.tk (i := 9) (v := .int .i64 ((i2 : Nat) : Int)) rfl (hdrop 9 (by decide)) (Or.inl ⟨by rfl, ?_⟩) (hS _) ?_
          · rintro w' ⟨L, hL, hSw, hun⟩
            go_simp
          simp only [nA, nB, nC, Act.put, nD, nE, nF]
          refine WA.tk (i := 10) (v := .pointer (some ⟨g, i2, none⟩)) rfl (hdrop 10 (by decide)) (Or.inl ⟨by rfl, ?_⟩) (hS _) ?_
          · rintro w' ⟨L, hL, hSw, hun⟩
            go_simp
            all_goals (intro h5; omega)
          simp only [nA, nB, nC, Act.put, nD, nE, nF]
          refine WA.tk (i := 11) (v := .int .u32 d0[i2]!) rfl (hdrop 11 (by decide)) (Or.inl ⟨by rfl, ?_⟩) (hS _) ?_
          · rintro w' ⟨L, hL, hSw, hun⟩
            obtain rfl := hSo hSw 
            go_simp
          simp only [nA, nB, nC, Act.put, nD, nE, nF]
          refine WA.one (i := 12) (by kernel_rfl) rfl (by rfl) (fun K hK => ?_)
          go_simp
          refine (less_u _ _).mono ?_
          rintro e w_ ⟨rfl, hw_⟩
          subst hw_
          rw [hl]
          refine hK _ _ (hS _) ?_
          clear hK
          try simp only [nA, nB, nC, Act.put, nD, nE, nF]
          refine WA.tk (i := 13) (v := .bool false) rfl (hdrop 13 (by decide)) (Or.inl ⟨by rfl, ?_⟩) (hS _) ?_
          · rintro w' ⟨L, hL, hSw, hun⟩
            go_simp
          simp only [nA, nB, nC, Act.put, nD, nE, nF]
          refine WA.tk (i := 14) (v := .bool false) rfl (hdrop 14 (by decide)) (Or.inl ⟨by rfl, ?_⟩) (hS _) ?_
          · rintro w' ⟨L, hL, hSw, hun⟩
            go_simp
          simp only [nA, nB, nC, Act.put, nD, nE, nF]
          refine WA.done (by kernel_rfl) ?_ _
          refine Nrm.normal ?_
          clear hSo hS hdrop c0 c1
          clear S3
          have HT4 := Lib.hid (show TnA w X3 g by rw [HX3.out]; exact HT3.out.drew)
          have Hl1 := Lib.hid (show i2 ≤ j → ltInt d0[a]! d0[i2]! = true from fun _ => hl)
          have HA4 := HA_X3
          obtain ⟨w4, hw4⟩ : ∃ w4, w4 = X3 := ⟨_, rfl⟩
          rw [← hw4] at HT4 HA4 ⊢
          clear hw4 hl HA_X3 hdl
          go_wp2_with fail
          go_loopw [10] (fun u wx => ∃ j2 : Nat, u = .int .i64 j2 ∧ j2 ≤ j ∧ i2 ≤ j2 + 1 ∧ IsA wx g n cap d0 ∧ TnA w wx g ∧ scanDown (fun x => ltInt d0[a]! x) d0 i2 j2 = scanDown (fun x => ltInt d0[a]! x) d0 i2 j) (fun u _ => (intOf u).toNat)
          case atStart => exact ⟨j, rfl, Nat.le_refl _, hi2, HA4.out, HT4.out, rfl⟩
          case round =>
            rename World => w5
            obtain ⟨j2, rfl, hjj, hij2, hA, hT, hsd⟩ := hrel
            have HA5 := Lib.hid hA; have HT5 := Lib.hid hT; have Hsd := Lib.hid hsd
            clear hA hT hsd
            by_cases hle2 : i2 ≤ j2
            · have hdl2 : decide ((i2 : Int) ≤ (j2 : Int)) = true := by simp; omega
              obtain ⟨m, rfl⟩ : ∃ m, j2 = m + 1 := ⟨j2 - 1, by omega⟩
              cases hl : ltInt d0[a]! d0[m + 1]!
              · go_wp2_with fail
                have HA_X5 := Lib.hid (show IsA w5.drew g n cap d0 from HA5.out.stay rfl)
                have c0 : w5.drew.cell? ⟨g, a, none⟩ = some (.int .u32 d0[a]!) := (HA_X5.out.at (j := a) (by omega)).1
                have c1 : w5.drew.cell? ⟨g, m + 1, none⟩ = some (.int .u32 d0[m + 1]!) := (HA_X5.out.at (j := m + 1) (by omega)).1
                obtain ⟨S5, hSe⟩ : ∃ S : Array Bool → World → Prop, S = fun _ w' => w' = w5.drew := ⟨_, rfl⟩
                have hdrop : ∀ i : Nat, i ≠ 1000 → ∀ L w', S5 (L.setIfInBounds i true) w' → S5 L w' := by
                  intro i _ L w' h; rw [hSe] at h ⊢; exact h
                have hS : ∀ L, S5 L w5.drew := by intro L; rw [hSe]
                have hSo : ∀ {L w'}, S5 L w' → w' = w5.drew := by intro L w' h; rw [hSe] at h; exact h
                clear hSe
                refine wp_region_LN S5 14 #[false, false, false, false, false, false, false, false, false, false, false, false, false, false] (by kernel_rfl) (by kernel_rfl) rfl ?_
                obtain ⟨X5, hX5⟩ : ∃ X5, X5 = w5.drew := ⟨_, rfl⟩
                rw [← hX5] at c0 c1 HA_X5 hSo hS ⊢
                have HX5 := Lib.hid hX5
                clear hX5
                refine WA.tk (i := 0) (v := .int .i64 ((i2 : Nat) : Int)) rfl (hdrop 0 (by decide)) (Or.inl ⟨by rfl, ?_⟩) (hS _) ?_
                · rintro w' ⟨L, hL, hSw, hun⟩
                  go_simp
                simp only [nA, nB, nC, Act.put, nD, nE, nF]
                refine WA.tk (i := 1) (v := .int .i64 ((m + 1 : Nat) : Int)) rfl (hdrop 1 (by decide)) (Or.inl ⟨by rfl, ?_⟩) (hS _) ?_
                · rintro w' ⟨L, hL, hSw, hun⟩
                  go_simp
                simp only [nA, nB, nC, Act.put, nD, nE, nF]
                refine WA.tk (i := 2) (v := .bool true) rfl (hdrop 2 (by decide)) (Or.inl ⟨by rfl, ?_⟩) (hS _) ?_
                · rintro w' ⟨L, hL, hSw, hun⟩
                  go_simp
                  all_goals omega
                simp only [nA, nB, nC, Act.put, nD, nE, nF]
                refine WA.tk (i := 3) (v := .bool true) rfl (hdrop 3 (by decide)) (Or.inl ⟨by rfl, ?_⟩) (hS _) ?_
                · rintro w' ⟨L, hL, hSw, hun⟩
                  go_simp
                simp only [nA, nB, nC, Act.put, nD, nE, nF]
                refine WA.tk (i := 4) (v := .slice (some ⟨g, 0, none⟩) n cap) rfl (hdrop 4 (by decide)) (Or.inl ⟨by rfl, ?_⟩) (hS _) ?_
                · rintro w' ⟨L, hL, hSw, hun⟩
                  go_simp
                simp only [nA, nB, nC, Act.put, nD, nE, nF]
                refine WA.tk (i := 5) (v := .int .i64 ((a : Nat) : Int)) rfl (hdrop 5 (by decide)) (Or.inl ⟨by rfl, ?_⟩) (hS _) ?_
                · rintro w' ⟨L, hL, hSw, hun⟩
                  go_simp
                simp only [nA, nB, nC, Act.put, nD, nE, nF]
                refine WA.tk (i := 6) (v := .pointer (some ⟨g, a, none⟩)) rfl (hdrop 6 (by decide)) (Or.inl ⟨by rfl, ?_⟩) (hS _) ?_
                · rintro w' ⟨L, hL, hSw, hun⟩
                  go_simp
                  all_goals (intro h5; omega)
                simp only [nA, nB, nC, Act.put, nD, nE, nF]
                refine WA.tk (i := 7) (v := .int .u32 d0[a]!) rfl (hdrop 7 (by decide)) (Or.inl ⟨by rfl, ?_⟩) (hS _) ?_
                · rintro w' ⟨L, hL, hSw, hun⟩
                  obtain rfl := hSo hSw 
                  go_simp
                simp only [nA, nB, nC, Act.put, nD, nE, nF]
                refine WA.tk (i := 8) (v := .slice (some ⟨g, 0, none⟩) n cap) rfl (hdrop 8 (by decide)) (Or.inl ⟨by rfl, ?_⟩) (hS _) ?_
                · rintro w' ⟨L, hL, hSw, hun⟩
                  go_simp
                simp only [nA, nB, nC, Act.put, nD, nE, nF]
                refine WA.tk (i := 9) (v := .int .i64 ((m + 1 : Nat) : Int)) rfl (hdrop 9 (by decide)) (Or.inl ⟨by rfl, ?_⟩) (hS _) ?_
                · rintro w' ⟨L, hL, hSw, hun⟩
                  go_simp
                simp only [nA, nB, nC, Act.put, nD, nE, nF]
                refine WA.tk (i := 10) (v := .pointer (some ⟨g, m + 1, none⟩)) rfl (hdrop 10 (by decide)) (Or.inl ⟨by rfl, ?_⟩) (hS _) ?_
                · rintro w' ⟨L, hL, hSw, hun⟩
                  go_simp
                  all_goals (intro h5; omega)
                simp only [nA, nB, nC, Act.put, nD, nE, nF]
                refine WA.tk (i := 11) (v := .int .u32 d0[m + 1]!) rfl (hdrop 11 (by decide)) (Or.inl ⟨by rfl, ?_⟩) (hS _) ?_
                · rintro w' ⟨L, hL, hSw, hun⟩
                  obtain rfl := hSo hSw 
                  go_simp
                simp only [nA, nB, nC, Act.put, nD, nE, nF]
                refine WA.one (i := 12) (by kernel_rfl) rfl (by rfl) (fun K hK => ?_)
                go_simp
                refine (less_u _ _).mono ?_
                rintro e w_ ⟨rfl, hw_⟩
                subst hw_
                rw [hl]
                refine hK _ _ (hS _) ?_
                clear hK
                try simp only [nA, nB, nC, Act.put, nD, nE, nF]
                refine WA.tk (i := 13) (v := .bool false) rfl (hdrop 13 (by decide)) (Or.inl ⟨by rfl, ?_⟩) (hS _) ?_
                · rintro w' ⟨L, hL, hSw, hun⟩
                  go_simp
                simp only [nA, nB, nC, Act.put, nD, nE, nF]
                refine WA.done (by kernel_rfl) ?_ _
                refine Nrm.normal ?_
                clear hSo hS hdrop c0 c1
                clear S5
                have hne2 : i2 < m + 1 := by
                  rcases Nat.lt_or_eq_of_le hle2 with h5 | h5
                  · exact h5
                  · have := Hl1.out (by omega)
                    rw [h5, hl] at this
                    cases this
                have hdg : decide ((i2 : Int) > (m : Int) + 1) = false := by simp; omega
                have hdg' : decide ((m : Int) + 1 < (i2 : Int)) = false := by simp; omega
                go_wp2_with fail
                have HA_X6 := Lib.hid (show IsA X5.drew g n cap d0 from HA_X5.out.stay rfl)
                have c0 : X5.drew.cell? ⟨g, m + 1, none⟩ = some (.int .u32 d0[m + 1]!) := (HA_X6.out.at (j := m + 1) (by omega)).1
                have c1 : X5.drew.cell? ⟨g, i2, none⟩ = some (.int .u32 d0[i2]!) := (HA_X6.out.at (j := i2) (by omega)).1
                obtain ⟨S8, hSe⟩ : ∃ S : Array Bool → World → Prop, S = fun L w' => L.getD 13 true = false → w' = X5.drew := ⟨_, rfl⟩
                have hdrop : ∀ i, i ≠ 13 → ∀ L w', S8 (L.setIfInBounds i true) w' → S8 L w' := by
                  intro i hi L w'
                  rw [hSe]
                  intro h hl
                  exact h (by rw [getD_set_ne true hi]; exact hl)
                have hS : ∀ L, S8 L X5.drew := by intro L; rw [hSe]; exact fun _ => rfl
                have hSo : ∀ {L w'}, S8 L w' → L.getD 13 true = false → w' = X5.drew := by intro L w' h hl; rw [hSe] at h; exact h hl
                have hSd : ∀ (L : Array Bool) X, L.getD 13 true = true → S8 L X := by
                  intro L X h; rw [hSe]; intro h1; rw [h] at h1; cases h1
                clear hSe
                refine wp_region_LN S8 16 #[false, false, false, false, false, false, false, false, false, false, false, false, false, false, false, false] (by kernel_rfl) (by kernel_rfl) rfl ?_
                obtain ⟨X6, hX6⟩ : ∃ X6, X6 = X5.drew := ⟨_, rfl⟩
                rw [← hX6] at c0 c1 HA_X6 hSo hS ⊢
                have HX6 := Lib.hid hX6
                clear hX6
                refine WA.tk (i := 0) (v := .slice (some ⟨g, 0, none⟩) n cap) rfl (hdrop 0 (by decide)) (Or.inl ⟨by rfl, ?_⟩) (hS _) ?_
                · rintro w' ⟨L, hL, hSw, hun⟩
                  go_simp
                simp only [nA, nB, nC, Act.put, nD, nE, nF]
                refine WA.tk (i := 1) (v := .int .i64 ((i2 : Nat) : Int)) rfl (hdrop 1 (by decide)) (Or.inl ⟨by rfl, ?_⟩) (hS _) ?_
                · rintro w' ⟨L, hL, hSw, hun⟩
                  go_simp
                simp only [nA, nB, nC, Act.put, nD, nE, nF]
                refine WA.tk (i := 2) (v := .slice (some ⟨g, 0, none⟩) n cap) rfl (hdrop 2 (by decide)) (Or.inl ⟨by rfl, ?_⟩) (hS _) ?_
                · rintro w' ⟨L, hL, hSw, hun⟩
                  go_simp
                simp only [nA, nB, nC, Act.put, nD, nE, nF]
                refine WA.tk (i := 3) (v := .int .i64 ((m + 1 : Nat) : Int)) rfl (hdrop 3 (by decide)) (Or.inl ⟨by rfl, ?_⟩) (hS _) ?_
                · rintro w' ⟨L, hL, hSw, hun⟩
                  go_simp
                simp only [nA, nB, nC, Act.put, nD, nE, nF]
                refine WA.tk (i := 4) (v := .slice (some ⟨g, 0, none⟩) n cap) rfl (hdrop 4 (by decide)) (Or.inl ⟨by rfl, ?_⟩) (hS _) ?_
                · rintro w' ⟨L, hL, hSw, hun⟩
                  go_simp
                simp only [nA, nB, nC, Act.put, nD, nE, nF]
                refine WA.tk (i := 5) (v := .int .i64 ((m + 1 : Nat) : Int)) rfl (hdrop 5 (by decide)) (Or.inl ⟨by rfl, ?_⟩) (hS _) ?_
                · rintro w' ⟨L, hL, hSw, hun⟩
                  go_simp
                simp only [nA, nB, nC, Act.put, nD, nE, nF]
                refine WA.tk (i := 6) (v := .pointer (some ⟨g, m + 1, none⟩)) rfl (hdrop 6 (by decide)) (Or.inl ⟨by rfl, ?_⟩) (hS _) ?_
                · rintro w' ⟨L, hL, hSw, hun⟩
                  go_simp
                  all_goals (intro h5; omega)
                simp only [nA, nB, nC, Act.put, nD, nE, nF]
                refine WA.tk (i := 7) (v := .int .u32 d0[m + 1]!) rfl (hdrop 7 (by decide)) (Or.inl ⟨by rfl, ?_⟩) (hS _) ?_
                · rintro w' ⟨L, hL, hSw, hun⟩
                  obtain rfl := hSo hSw (hL.wait 13 7 (by kernel_rfl) hun)
                  go_simp
                simp only [nA, nB, nC, Act.put, nD, nE, nF]
                refine WA.tk (i := 8) (v := .slice (some ⟨g, 0, none⟩) n cap) rfl (hdrop 8 (by decide)) (Or.inl ⟨by rfl, ?_⟩) (hS _) ?_
                · rintro w' ⟨L, hL, hSw, hun⟩
                  go_simp
                simp only [nA, nB, nC, Act.put, nD, nE, nF]
                refine WA.tk (i := 9) (v := .int .i64 ((i2 : Nat) : Int)) rfl (hdrop 9 (by decide)) (Or.inl ⟨by rfl, ?_⟩) (hS _) ?_
                · rintro w' ⟨L, hL, hSw, hun⟩
                  go_simp
                simp only [nA, nB, nC, Act.put, nD, nE, nF]
                refine WA.tk (i := 10) (v := .pointer (some ⟨g, i2, none⟩)) rfl (hdrop 10 (by decide)) (Or.inl ⟨by rfl, ?_⟩) (hS _) ?_
                · rintro w' ⟨L, hL, hSw, hun⟩
                  go_simp
                  all_goals (intro h5; omega)
                simp only [nA, nB, nC, Act.put, nD, nE, nF]
                refine WA.tk (i := 11) (v := .int .u32 d0[i2]!) rfl (hdrop 11 (by decide)) (Or.inl ⟨by rfl, ?_⟩) (hS _) ?_
                · rintro w' ⟨L, hL, hSw, hun⟩
                  obtain rfl := hSo hSw (hL.wait 13 11 (by kernel_rfl) hun)
                  go_simp
                simp only [nA, nB, nC, Act.put, nD, nE, nF]
                refine WA.tk (i := 12) (v := .pointer (some ⟨g, i2, none⟩)) rfl (hdrop 12 (by decide)) (Or.inl ⟨by rfl, ?_⟩) (hS _) ?_
                · rintro w' ⟨L, hL, hSw, hun⟩
                  go_simp
                  all_goals (intro h5; omega)
                simp only [nA, nB, nC, Act.put, nD, nE, nF]
                obtain ⟨cx, fx⟩ := HA_X6.out.at (j := i2) (by omega)
                obtain ⟨cy, fy⟩ := (HA_X6.out.set (j := i2) (by omega) d0[m + 1]!).at (j := m + 1) (by omega)
                refine WA.one (i := 13) (by kernel_rfl) rfl (by rfl) (fun K hK => ?_)
                go_simp
                refine hK _ _ (hSd _ _ (by rfl)) ?_
                clear hK
                try simp only [nA, nB, nC, Act.put, nD, nE, nF]
                refine WA.tk (i := 14) (v := .pointer (some ⟨g, m + 1, none⟩)) rfl (hdrop 14 (by decide)) (Or.inl ⟨by rfl, ?_⟩) (hSd _ _ (by rfl)) ?_
                · rintro w' ⟨L, hL, hSw, hun⟩
                  go_simp
                  all_goals (intro h5; omega)
                simp only [nA, nB, nC, Act.put, nD, nE, nF]
                refine WA.one (i := 15) (by kernel_rfl) rfl (by rfl) (fun K hK => ?_)
                go_simp
                refine hK _ _ (hSd _ _ (by rfl)) ?_
                clear hK
                try simp only [nA, nB, nC, Act.put, nD, nE, nF]
                refine WA.done (by kernel_rfl) ?_ _
                refine Nrm.normal ?_
                clear hSo hS hdrop c0 c1 hSd cx fx cy fy
                clear S8
                go_wp2_with fail
                refine ⟨⟨i2 + 1, m, swp d0 i2 (m + 1), by push_cast; rfl, by first | rfl | (congr 1; push_cast; omega), by omega, by omega, by omega, HA_X6.out.swp (by omega) (by omega), ?_, ?_⟩, by simp [intOf]; omega⟩
                · have ht := HT5.out.drew
                  rw [← HX5.out] at ht
                  have ht := ht.drew
                  rw [← HX6.out] at ht
                  exact (ht.set _ _).set _ _
                · rw [← He.out, pe_go (Key.out i2 Hl1.out rfl) (Hsd.out.symm.trans (sd_stop hl)) hne2 hii hjj]
                  rfl
              · go_wp2_with fail
                have HA_X5 := Lib.hid (show IsA w5.drew g n cap d0 from HA5.out.stay rfl)
                have c0 : w5.drew.cell? ⟨g, a, none⟩ = some (.int .u32 d0[a]!) := (HA_X5.out.at (j := a) (by omega)).1
                have c1 : w5.drew.cell? ⟨g, m + 1, none⟩ = some (.int .u32 d0[m + 1]!) := (HA_X5.out.at (j := m + 1) (by omega)).1
                obtain ⟨S5, hSe⟩ : ∃ S : Array Bool → World → Prop, S = fun _ w' => w' = w5.drew := ⟨_, rfl⟩
                have hdrop : ∀ i : Nat, i ≠ 1000 → ∀ L w', S5 (L.setIfInBounds i true) w' → S5 L w' := by
                  intro i _ L w' h; rw [hSe] at h ⊢; exact h
                have hS : ∀ L, S5 L w5.drew := by intro L; rw [hSe]
                have hSo : ∀ {L w'}, S5 L w' → w' = w5.drew := by intro L w' h; rw [hSe] at h; exact h
                clear hSe
                refine wp_region_LN S5 14 #[false, false, false, false, false, false, false, false, false, false, false, false, false, false] (by kernel_rfl) (by kernel_rfl) rfl ?_
                obtain ⟨X5, hX5⟩ : ∃ X5, X5 = w5.drew := ⟨_, rfl⟩
                rw [← hX5] at c0 c1 HA_X5 hSo hS ⊢
                have HX5 := Lib.hid hX5
                clear hX5
                refine WA.tk (i := 0) (v := .int .i64 ((i2 : Nat) : Int)) rfl (hdrop 0 (by decide)) (Or.inl ⟨by rfl, ?_⟩) (hS _) ?_
                · rintro w' ⟨L, hL, hSw, hun⟩
                  go_simp
                simp only [nA, nB, nC, Act.put, nD, nE, nF]
                refine WA.tk (i := 1) (v := .int .i64 ((m + 1 : Nat) : Int)) rfl (hdrop 1 (by decide)) (Or.inl ⟨by rfl, ?_⟩) (hS _) ?_
                · rintro w' ⟨L, hL, hSw, hun⟩
                  go_simp
                simp only [nA, nB, nC, Act.put, nD, nE, nF]
                refine WA.tk (i := 2) (v := .bool true) rfl (hdrop 2 (by decide)) (Or.inl ⟨by rfl, ?_⟩) (hS _) ?_
                · rintro w' ⟨L, hL, hSw, hun⟩
                  go_simp
                  all_goals omega
                simp only [nA, nB, nC, Act.put, nD, nE, nF]
                refine WA.tk (i := 3) (v := .bool true) rfl (hdrop 3 (by decide)) (Or.inl ⟨by rfl, ?_⟩) (hS _) ?_
                · rintro w' ⟨L, hL, hSw, hun⟩
                  go_simp
                simp only [nA, nB, nC, Act.put, nD, nE, nF]
                refine WA.tk (i := 4) (v := .slice (some ⟨g, 0, none⟩) n cap) rfl (hdrop 4 (by decide)) (Or.inl ⟨by rfl, ?_⟩) (hS _) ?_
                · rintro w' ⟨L, hL, hSw, hun⟩
                  go_simp
                simp only [nA, nB, nC, Act.put, nD, nE, nF]
                refine WA.tk (i := 5) (v := .int .i64 ((a : Nat) : Int)) rfl (hdrop 5 (by decide)) (Or.inl ⟨by rfl, ?_⟩) (hS _) ?_
                · rintro w' ⟨L, hL, hSw, hun⟩
                  go_simp
                simp only [nA, nB, nC, Act.put, nD, nE, nF]
                refine WA.tk (i := 6) (v := .pointer (some ⟨g, a, none⟩)) rfl (hdrop 6 (by decide)) (Or.inl ⟨by rfl, ?_⟩) (hS _) ?_
                · rintro w' ⟨L, hL, hSw, hun⟩
                  go_simp
                  all_goals (intro h5; omega)
                simp only [nA, nB, nC, Act.put, nD, nE, nF]
                refine WA.tk (i := 7) (v := .int .u32 d0[a]!) rfl (hdrop 7 (by decide)) (Or.inl ⟨by rfl, ?_⟩) (hS _) ?_
                · rintro w' ⟨L, hL, hSw, hun⟩
                  obtain rfl := hSo hSw 
                  go_simp
                simp only [nA, nB, nC, Act.put, nD, nE, nF]
                refine WA.tk (i := 8) (v := .slice (some ⟨g, 0, none⟩) n cap) rfl (hdrop 8 (by decide)) (Or.inl ⟨by rfl, ?_⟩) (hS _) ?_
                · rintro w' ⟨L, hL, hSw, hun⟩
                  go_simp
                simp only [nA, nB, nC, Act.put, nD, nE, nF]
                refine WA.tk (i := 9) (v := .int .i64 ((m + 1 : Nat) : Int)) rfl (hdrop 9 (by decide)) (Or.inl ⟨by rfl, ?_⟩) (hS _) ?_
                · rintro w' ⟨L, hL, hSw, hun⟩
                  go_simp
                simp only [nA, nB, nC, Act.put, nD, nE, nF]
                refine WA.tk (i := 10) (v := .pointer (some ⟨g, m + 1, none⟩)) rfl (hdrop 10 (by decide)) (Or.inl ⟨by rfl, ?_⟩) (hS _) ?_
                · rintro w' ⟨L, hL, hSw, hun⟩
                  go_simp
                  all_goals (intro h5; omega)
                simp only [nA, nB, nC, Act.put, nD, nE, nF]
                refine WA.tk (i := 11) (v := .int .u32 d0[m + 1]!) rfl (hdrop 11 (by decide)) (Or.inl ⟨by rfl, ?_⟩) (hS _) ?_
                · rintro w' ⟨L, hL, hSw, hun⟩
                  obtain rfl := hSo hSw 
                  go_simp
                simp only [nA, nB, nC, Act.put, nD, nE, nF]
                refine WA.one (i := 12) (by kernel_rfl) rfl (by rfl) (fun K hK => ?_)
                go_simp
                refine (less_u _ _).mono ?_
                rintro e w_ ⟨rfl, hw_⟩
                subst hw_
                rw [hl]
                refine hK _ _ (hS _) ?_
                clear hK
                try simp only [nA, nB, nC, Act.put, nD, nE, nF]
                refine WA.tk (i := 13) (v := .bool true) rfl (hdrop 13 (by decide)) (Or.inl ⟨by rfl, ?_⟩) (hS _) ?_
                · rintro w' ⟨L, hL, hSw, hun⟩
                  go_simp
                simp only [nA, nB, nC, Act.put, nD, nE, nF]
                refine WA.done (by kernel_rfl) ?_ _
                refine Nrm.normal ?_
                clear hSo hS hdrop c0 c1
                clear S5
                go_wp2_with fail
                refine ⟨⟨m, by first | rfl | (congr 1; push_cast; omega), by omega, by omega, HA_X5.out, by rw [HX5.out]; exact HT5.out.drew, ?_⟩, by simp [intOf]⟩
                rw [← Hsd.out, sd_go hle2 hl]
            · have hdl2 : decide ((i2 : Int) ≤ (j2 : Int)) = false := by simp; omega
              go_wp2_with fail
              have HA_X5 := Lib.hid (show IsA w5.drew g n cap d0 from HA5.out.stay rfl)
              obtain ⟨S5, hSe⟩ : ∃ S : Array Bool → World → Prop, S = fun _ w' => w' = w5.drew := ⟨_, rfl⟩
              have hdrop : ∀ i : Nat, i ≠ 1000 → ∀ L w', S5 (L.setIfInBounds i true) w' → S5 L w' := by
                intro i _ L w' h; rw [hSe] at h ⊢; exact h
              have hS : ∀ L, S5 L w5.drew := by intro L; rw [hSe]
              have hSo : ∀ {L w'}, S5 L w' → w' = w5.drew := by intro L w' h; rw [hSe] at h; exact h
              clear hSe
              refine wp_region_LN S5 14 #[false, false, false, false, false, false, false, false, false, false, false, false, false, false] (by kernel_rfl) (by kernel_rfl) rfl ?_
              obtain ⟨X5, hX5⟩ : ∃ X5, X5 = w5.drew := ⟨_, rfl⟩
              rw [← hX5] at  HA_X5 hSo hS ⊢
              have HX5 := Lib.hid hX5
              clear hX5
              refine WA.tk (i := 0) (v := .int .i64 ((i2 : Nat) : Int)) rfl (hdrop 0 (by decide)) (Or.inl ⟨by rfl, ?_⟩) (hS _) ?_
              · rintro w' ⟨L, hL, hSw, hun⟩
                go_simp
              simp only [nA, nB, nC, Act.put, nD, nE, nF]
              refine WA.tk (i := 1) (v := .int .i64 ((j2 : Nat) : Int)) rfl (hdrop 1 (by decide)) (Or.inl ⟨by rfl, ?_⟩) (hS _) ?_
              · rintro w' ⟨L, hL, hSw, hun⟩
                go_simp
              simp only [nA, nB, nC, Act.put, nD, nE, nF]
              refine WA.tk (i := 2) (v := .bool false) rfl (hdrop 2 (by decide)) (Or.inl ⟨by rfl, ?_⟩) (hS _) ?_
              · rintro w' ⟨L, hL, hSw, hun⟩
                go_simp
                all_goals omega
              simp only [nA, nB, nC, Act.put, nD, nE, nF]
              refine WA.tk (i := 3) (v := .bool false) rfl (hdrop 3 (by decide)) (Or.inl ⟨by rfl, ?_⟩) (hS _) ?_
              · rintro w' ⟨L, hL, hSw, hun⟩
                go_simp
              simp only [nA, nB, nC, Act.put, nD, nE, nF]
              refine WA.tk (i := 4) (v := undef) rfl (hdrop 4 (by decide)) (Or.inr ⟨by rfl, rfl⟩) (hS _) ?_
              simp only [nA, nB, nC, Act.put, nD, nE, nF]
              refine WA.tk (i := 5) (v := undef) rfl (hdrop 5 (by decide)) (Or.inr ⟨by rfl, rfl⟩) (hS _) ?_
              simp only [nA, nB, nC, Act.put, nD, nE, nF]
              refine WA.tk (i := 6) (v := undef) rfl (hdrop 6 (by decide)) (Or.inr ⟨by rfl, rfl⟩) (hS _) ?_
              simp only [nA, nB, nC, Act.put, nD, nE, nF]
              refine WA.tk (i := 7) (v := undef) rfl (hdrop 7 (by decide)) (Or.inr ⟨by rfl, rfl⟩) (hS _) ?_
              simp only [nA, nB, nC, Act.put, nD, nE, nF]
              refine WA.tk (i := 8) (v := undef) rfl (hdrop 8 (by decide)) (Or.inr ⟨by rfl, rfl⟩) (hS _) ?_
              simp only [nA, nB, nC, Act.put, nD, nE, nF]
              refine WA.tk (i := 9) (v := undef) rfl (hdrop 9 (by decide)) (Or.inr ⟨by rfl, rfl⟩) (hS _) ?_
              simp only [nA, nB, nC, Act.put, nD, nE, nF]
              refine WA.tk (i := 10) (v := undef) rfl (hdrop 10 (by decide)) (Or.inr ⟨by rfl, rfl⟩) (hS _) ?_
              simp only [nA, nB, nC, Act.put, nD, nE, nF]
              refine WA.tk (i := 11) (v := undef) rfl (hdrop 11 (by decide)) (Or.inr ⟨by rfl, rfl⟩) (hS _) ?_
              simp only [nA, nB, nC, Act.put, nD, nE, nF]
              refine WA.skip (i := 12) (by kernel_rfl) rfl (by rfl) (hS _) ?_
              simp only [nA, nB, nC, Act.put, nD, nE, nF]
              refine WA.tk (i := 13) (v := .bool false) rfl (hdrop 13 (by decide)) (Or.inl ⟨by rfl, ?_⟩) (hS _) ?_
              · rintro w' ⟨L, hL, hSw, hun⟩
                go_simp
              simp only [nA, nB, nC, Act.put, nD, nE, nF]
              refine WA.done (by kernel_rfl) ?_ _
              refine Nrm.normal ?_
              clear hSo hS hdrop 
              clear S5
              have hdg : decide ((i2 : Int) > (j2 : Int)) = true := by simp; omega
              have hdg' : decide ((j2 : Int) < (i2 : Int)) = true := by simp; omega
              go_wp2_with fail
              go_ret
              have hpe := pe_break (Key.out i2 Hl1.out rfl) (Hsd.out.symm.trans (sd_end hle2)) (by omega)
              rw [He.out] at hpe
              have hpe2 : partitionEqual ltInt d1 a b p = (i2, d0) := by unfold partitionEqual; rw [← He0.out]; exact hpe
              rw [hpe2]
              exact ⟨rfl, HA_X5.out, by rw [HX5.out]; exact HT5.out.drew⟩
      · have hdl : decide ((i2 : Int) ≤ (j : Int)) = false := by simp; omega
        go_wp2_with fail
        have HA_X3 := Lib.hid (show IsA w3.drew g n cap d0 from HA3.out.stay rfl)
        obtain ⟨S3, hSe⟩ : ∃ S : Array Bool → World → Prop, S = fun _ w' => w' = w3.drew := ⟨_, rfl⟩
        have hdrop : ∀ i : Nat, i ≠ 1000 → ∀ L w', S3 (L.setIfInBounds i true) w' → S3 L w' := by
          intro i _ L w' h; rw [hSe] at h ⊢; exact h
        have hS : ∀ L, S3 L w3.drew := by intro L; rw [hSe]
        have hSo : ∀ {L w'}, S3 L w' → w' = w3.drew := by intro L w' h; rw [hSe] at h; exact h
        clear hSe
        refine wp_region_LN S3 15 #[false, false, false, false, false, false, false, false, false, false, false, false, false, false, false] (by kernel_rfl) (by kernel_rfl) rfl ?_
        obtain ⟨X3, hX3⟩ : ∃ X3, X3 = w3.drew := ⟨_, rfl⟩
        rw [← hX3] at  HA_X3 hSo hS ⊢
        have HX3 := Lib.hid hX3
        clear hX3
        refine WA.tk (i := 0) (v := .int .i64 ((i2 : Nat) : Int)) rfl (hdrop 0 (by decide)) (Or.inl ⟨by rfl, ?_⟩) (hS _) ?_
        · rintro w' ⟨L, hL, hSw, hun⟩
          go_simp
        simp only [nA, nB, nC, Act.put, nD, nE, nF]
        refine WA.tk (i := 1) (v := .int .i64 ((j : Nat) : Int)) rfl (hdrop 1 (by decide)) (Or.inl ⟨by rfl, ?_⟩) (hS _) ?_
        · rintro w' ⟨L, hL, hSw, hun⟩
          go_simp
        simp only [nA, nB, nC, Act.put, nD, nE, nF]
        refine WA.tk (i := 2) (v := .bool false) rfl (hdrop 2 (by decide)) (Or.inl ⟨by rfl, ?_⟩) (hS _) ?_
        · rintro w' ⟨L, hL, hSw, hun⟩
          go_simp
          all_goals omega
        simp only [nA, nB, nC, Act.put, nD, nE, nF]
        refine WA.tk (i := 3) (v := .bool false) rfl (hdrop 3 (by decide)) (Or.inl ⟨by rfl, ?_⟩) (hS _) ?_
        · rintro w' ⟨L, hL, hSw, hun⟩
          go_simp
        simp only [nA, nB, nC, Act.put, nD, nE, nF]
        refine WA.tk (i := 4) (v := undef) rfl (hdrop 4 (by decide)) (Or.inr ⟨by rfl, rfl⟩) (hS _) ?_
        simp only [nA, nB, nC, Act.put, nD, nE, nF]
        refine WA.tk (i := 5) (v := undef) rfl (hdrop 5 (by decide)) (Or.inr ⟨by rfl, rfl⟩) (hS _) ?_
        simp only [nA, nB, nC, Act.put, nD, nE, nF]
        refine WA.tk (i := 6) (v := undef) rfl (hdrop 6 (by decide)) (Or.inr ⟨by rfl, rfl⟩) (hS _) ?_
        simp only [nA, nB, nC, Act.put, nD, nE, nF]
        refine WA.tk (i := 7) (v := undef) rfl (hdrop 7 (by decide)) (Or.inr ⟨by rfl, rfl⟩) (hS _) ?_
        simp only [nA, nB, nC, Act.put, nD, nE, nF]
        refine WA.tk (i := 8) (v := undef) rfl (hdrop 8 (by decide)) (Or.inr ⟨by rfl, rfl⟩) (hS _) ?_
        simp only [nA, nB, nC, Act.put, nD, nE, nF]
        refine WA.tk (i := 9) (v := undef) rfl (hdrop 9 (by decide)) (Or.inr ⟨by rfl, rfl⟩) (hS _) ?_
        simp only [nA, nB, nC, Act.put, nD, nE, nF]
        refine WA.tk (i := 10) (v := undef) rfl (hdrop 10 (by decide)) (Or.inr ⟨by rfl, rfl⟩) (hS _) ?_
        simp only [nA, nB, nC, Act.put, nD, nE, nF]
        refine WA.tk (i := 11) (v := undef) rfl (hdrop 11 (by decide)) (Or.inr ⟨by rfl, rfl⟩) (hS _) ?_
        simp only [nA, nB, nC, Act.put, nD, nE, nF]
        refine WA.skip (i := 12) (by kernel_rfl) rfl (by rfl) (hS _) ?_
        simp only [nA, nB, nC, Act.put, nD, nE, nF]
        refine WA.tk (i := 13) (v := undef) rfl (hdrop 13 (by decide)) (Or.inr ⟨by rfl, rfl⟩) (hS _) ?_
        simp only [nA, nB, nC, Act.put, nD, nE, nF]
        refine WA.tk (i := 14) (v := .bool false) rfl (hdrop 14 (by decide)) (Or.inl ⟨by rfl, ?_⟩) (hS _) ?_
        · rintro w' ⟨L, hL, hSw, hun⟩
          go_simp
        simp only [nA, nB, nC, Act.put, nD, nE, nF]
        refine WA.done (by kernel_rfl) ?_ _
        refine Nrm.normal ?_
        clear hSo hS hdrop 
        clear S3
        have HT4 := Lib.hid (show TnA w X3 g by rw [HX3.out]; exact HT3.out.drew)
        have Hl1 := Lib.hid (show i2 ≤ j → ltInt d0[a]! d0[i2]! = true from fun h => absurd h hle)
        have HA4 := HA_X3
        obtain ⟨w4, hw4⟩ : ∃ w4, w4 = X3 := ⟨_, rfl⟩
        rw [← hw4] at HT4 HA4 ⊢
        clear hw4 HA_X3 hdl hle
        go_wp2_with fail
        go_loopw [10] (fun u wx => ∃ j2 : Nat, u = .int .i64 j2 ∧ j2 ≤ j ∧ i2 ≤ j2 + 1 ∧ IsA wx g n cap d0 ∧ TnA w wx g ∧ scanDown (fun x => ltInt d0[a]! x) d0 i2 j2 = scanDown (fun x => ltInt d0[a]! x) d0 i2 j) (fun u _ => (intOf u).toNat)
        case atStart => exact ⟨j, rfl, Nat.le_refl _, hi2, HA4.out, HT4.out, rfl⟩
        case round =>
          rename World => w5
          obtain ⟨j2, rfl, hjj, hij2, hA, hT, hsd⟩ := hrel
          have HA5 := Lib.hid hA; have HT5 := Lib.hid hT; have Hsd := Lib.hid hsd
          clear hA hT hsd
          by_cases hle2 : i2 ≤ j2
          · have hdl2 : decide ((i2 : Int) ≤ (j2 : Int)) = true := by simp; omega
            obtain ⟨m, rfl⟩ : ∃ m, j2 = m + 1 := ⟨j2 - 1, by omega⟩
            cases hl : ltInt d0[a]! d0[m + 1]!
            · go_wp2_with fail
              have HA_X5 := Lib.hid (show IsA w5.drew g n cap d0 from HA5.out.stay rfl)
              have c0 : w5.drew.cell? ⟨g, a, none⟩ = some (.int .u32 d0[a]!) := (HA_X5.out.at (j := a) (by omega)).1
              have c1 : w5.drew.cell? ⟨g, m + 1, none⟩ = some (.int .u32 d0[m + 1]!) := (HA_X5.out.at (j := m + 1) (by omega)).1
              obtain ⟨S5, hSe⟩ : ∃ S : Array Bool → World → Prop, S = fun _ w' => w' = w5.drew := ⟨_, rfl⟩
              have hdrop : ∀ i : Nat, i ≠ 1000 → ∀ L w', S5 (L.setIfInBounds i true) w' → S5 L w' := by
                intro i _ L w' h; rw [hSe] at h ⊢; exact h
              have hS : ∀ L, S5 L w5.drew := by intro L; rw [hSe]
              have hSo : ∀ {L w'}, S5 L w' → w' = w5.drew := by intro L w' h; rw [hSe] at h; exact h
              clear hSe
              refine wp_region_LN S5 14 #[false, false, false, false, false, false, false, false, false, false, false, false, false, false] (by kernel_rfl) (by kernel_rfl) rfl ?_
              obtain ⟨X5, hX5⟩ : ∃ X5, X5 = w5.drew := ⟨_, rfl⟩
              rw [← hX5] at c0 c1 HA_X5 hSo hS ⊢
              have HX5 := Lib.hid hX5
              clear hX5
              refine WA.tk (i := 0) (v := .int .i64 ((i2 : Nat) : Int)) rfl (hdrop 0 (by decide)) (Or.inl ⟨by rfl, ?_⟩) (hS _) ?_
              · rintro w' ⟨L, hL, hSw, hun⟩
                go_simp
              simp only [nA, nB, nC, Act.put, nD, nE, nF]
              refine WA.tk (i := 1) (v := .int .i64 ((m + 1 : Nat) : Int)) rfl (hdrop 1 (by decide)) (Or.inl ⟨by rfl, ?_⟩) (hS _) ?_
              · rintro w' ⟨L, hL, hSw, hun⟩
                go_simp
              simp only [nA, nB, nC, Act.put, nD, nE, nF]
              refine WA.tk (i := 2) (v := .bool true) rfl (hdrop 2 (by decide)) (Or.inl ⟨by rfl, ?_⟩) (hS _) ?_
              · rintro w' ⟨L, hL, hSw, hun⟩
                go_simp
                all_goals omega
              simp only [nA, nB, nC, Act.put, nD, nE, nF]
              refine WA.tk (i := 3) (v := .bool true) rfl (hdrop 3 (by decide)) (Or.inl ⟨by rfl, ?_⟩) (hS _) ?_
              · rintro w' ⟨L, hL, hSw, hun⟩
                go_simp
              simp only [nA, nB, nC, Act.put, nD, nE, nF]
              refine WA.tk (i := 4) (v := .slice (some ⟨g, 0, none⟩) n cap) rfl (hdrop 4 (by decide)) (Or.inl ⟨by rfl, ?_⟩) (hS _) ?_
              · rintro w' ⟨L, hL, hSw, hun⟩
                go_simp
              simp only [nA, nB, nC, Act.put, nD, nE, nF]
              refine WA.tk (i := 5) (v := .int .i64 ((a : Nat) : Int)) rfl (hdrop 5 (by decide)) (Or.inl ⟨by rfl, ?_⟩) (hS _) ?_
              · rintro w' ⟨L, hL, hSw, hun⟩
                go_simp
              simp only [nA, nB, nC, Act.put, nD, nE, nF]
              refine WA.tk (i := 6) (v := .pointer (some ⟨g, a, none⟩)) rfl (hdrop 6 (by decide)) (Or.inl ⟨by rfl, ?_⟩) (hS _) ?_
              · rintro w' ⟨L, hL, hSw, hun⟩
                go_simp
                all_goals (intro h5; omega)
              simp only [nA, nB, nC, Act.put, nD, nE, nF]
              refine WA.tk (i := 7) (v := .int .u32 d0[a]!) rfl (hdrop 7 (by decide)) (Or.inl ⟨by rfl, ?_⟩) (hS _) ?_
              · rintro w' ⟨L, hL, hSw, hun⟩
                obtain rfl := hSo hSw 
                go_simp
              simp only [nA, nB, nC, Act.put, nD, nE, nF]
              refine WA.tk (i := 8) (v := .slice (some ⟨g, 0, none⟩) n cap) rfl (hdrop 8 (by decide)) (Or.inl ⟨by rfl, ?_⟩) (hS _) ?_
              · rintro w' ⟨L, hL, hSw, hun⟩
                go_simp
              simp only [nA, nB, nC, Act.put, nD, nE, nF]
              refine WA.tk (i := 9) (v := .int .i64 ((m + 1 : Nat) : Int)) rfl (hdrop 9 (by decide)) (Or.inl ⟨by rfl, ?_⟩) (hS _) ?_
              · rintro w' ⟨L, hL, hSw, hun⟩
                go_simp
              simp only [nA, nB, nC, Act.put, nD, nE, nF]
              refine WA.tk (i := 10) (v := .pointer (some ⟨g, m + 1, none⟩)) rfl (hdrop 10 (by decide)) (Or.inl ⟨by rfl, ?_⟩) (hS _) ?_
              · rintro w' ⟨L, hL, hSw, hun⟩
                go_simp
                all_goals (intro h5; omega)
              simp only [nA, nB, nC, Act.put, nD, nE, nF]
              refine WA.tk (i := 11) (v := .int .u32 d0[m + 1]!) rfl (hdrop 11 (by decide)) (Or.inl ⟨by rfl, ?_⟩) (hS _) ?_
              · rintro w' ⟨L, hL, hSw, hun⟩
                obtain rfl := hSo hSw 
                go_simp
              simp only [nA, nB, nC, Act.put, nD, nE, nF]
              refine WA.one (i := 12) (by kernel_rfl) rfl (by rfl) (fun K hK => ?_)
              go_simp
              refine (less_u _ _).mono ?_
              rintro e w_ ⟨rfl, hw_⟩
              subst hw_
              rw [hl]
              refine hK _ _ (hS _) ?_
              clear hK
              try simp only [nA, nB, nC, Act.put, nD, nE, nF]
              refine WA.tk (i := 13) (v := .bool false) rfl (hdrop 13 (by decide)) (Or.inl ⟨by rfl, ?_⟩) (hS _) ?_
              · rintro w' ⟨L, hL, hSw, hun⟩
                go_simp
              simp only [nA, nB, nC, Act.put, nD, nE, nF]
              refine WA.done (by kernel_rfl) ?_ _
              refine Nrm.normal ?_
              clear hSo hS hdrop c0 c1
              clear S5
              have hne2 : i2 < m + 1 := by
                rcases Nat.lt_or_eq_of_le hle2 with h5 | h5
                · exact h5
                · have := Hl1.out (by omega)
                  rw [h5, hl] at this
                  cases this
              have hdg : decide ((i2 : Int) > (m : Int) + 1) = false := by simp; omega
              have hdg' : decide ((m : Int) + 1 < (i2 : Int)) = false := by simp; omega
              go_wp2_with fail
              have HA_X6 := Lib.hid (show IsA X5.drew g n cap d0 from HA_X5.out.stay rfl)
              have c0 : X5.drew.cell? ⟨g, m + 1, none⟩ = some (.int .u32 d0[m + 1]!) := (HA_X6.out.at (j := m + 1) (by omega)).1
              have c1 : X5.drew.cell? ⟨g, i2, none⟩ = some (.int .u32 d0[i2]!) := (HA_X6.out.at (j := i2) (by omega)).1
              obtain ⟨S8, hSe⟩ : ∃ S : Array Bool → World → Prop, S = fun L w' => L.getD 13 true = false → w' = X5.drew := ⟨_, rfl⟩
              have hdrop : ∀ i, i ≠ 13 → ∀ L w', S8 (L.setIfInBounds i true) w' → S8 L w' := by
                intro i hi L w'
                rw [hSe]
                intro h hl
                exact h (by rw [getD_set_ne true hi]; exact hl)
              have hS : ∀ L, S8 L X5.drew := by intro L; rw [hSe]; exact fun _ => rfl
              have hSo : ∀ {L w'}, S8 L w' → L.getD 13 true = false → w' = X5.drew := by intro L w' h hl; rw [hSe] at h; exact h hl
              have hSd : ∀ (L : Array Bool) X, L.getD 13 true = true → S8 L X := by
                intro L X h; rw [hSe]; intro h1; rw [h] at h1; cases h1
              clear hSe
              refine wp_region_LN S8 16 #[false, false, false, false, false, false, false, false, false, false, false, false, false, false, false, false] (by kernel_rfl) (by kernel_rfl) rfl ?_
              obtain ⟨X6, hX6⟩ : ∃ X6, X6 = X5.drew := ⟨_, rfl⟩
              rw [← hX6] at c0 c1 HA_X6 hSo hS ⊢
              have HX6 := Lib.hid hX6
              clear hX6
              refine WA.tk (i := 0) (v := .slice (some ⟨g, 0, none⟩) n cap) rfl (hdrop 0 (by decide)) (Or.inl ⟨by rfl, ?_⟩) (hS _) ?_
              · rintro w' ⟨L, hL, hSw, hun⟩
                go_simp
              simp only [nA, nB, nC, Act.put, nD, nE, nF]
              refine WA.tk (i := 1) (v := .int .i64 ((i2 : Nat) : Int)) rfl (hdrop 1 (by decide)) (Or.inl ⟨by rfl, ?_⟩) (hS _) ?_
              · rintro w' ⟨L, hL, hSw, hun⟩
                go_simp
              simp only [nA, nB, nC, Act.put, nD, nE, nF]
              refine WA.tk (i := 2) (v := .slice (some ⟨g, 0, none⟩) n cap) rfl (hdrop 2 (by decide)) (Or.inl ⟨by rfl, ?_⟩) (hS _) ?_
              · rintro w' ⟨L, hL, hSw, hun⟩
                go_simp
              simp only [nA, nB, nC, Act.put, nD, nE, nF]
              refine WA.tk (i := 3) (v := .int .i64 ((m + 1 : Nat) : Int)) rfl (hdrop 3 (by decide)) (Or.inl ⟨by rfl, ?_⟩) (hS _) ?_
              · rintro w' ⟨L, hL, hSw, hun⟩
                go_simp
              simp only [nA, nB, nC, Act.put, nD, nE, nF]
              refine WA.tk (i := 4) (v := .slice (some ⟨g, 0, none⟩) n cap) rfl (hdrop 4 (by decide)) (Or.inl ⟨by rfl, ?_⟩) (hS _) ?_
              · rintro w' ⟨L, hL, hSw, hun⟩
                go_simp
              simp only [nA, nB, nC, Act.put, nD, nE, nF]
              refine WA.tk (i := 5) (v := .int .i64 ((m + 1 : Nat) : Int)) rfl (hdrop 5 (by decide)) (Or.inl ⟨by rfl, ?_⟩) (hS _) ?_
              · rintro w' ⟨L, hL, hSw, hun⟩
                go_simp
              simp only [nA, nB, nC, Act.put, nD, nE, nF]
              refine WA.tk (i := 6) (v := .pointer (some ⟨g, m + 1, none⟩)) rfl (hdrop 6 (by decide)) (Or.inl ⟨by rfl, ?_⟩) (hS _) ?_
              · rintro w' ⟨L, hL, hSw, hun⟩
                go_simp
                all_goals (intro h5; omega)
              simp only [nA, nB, nC, Act.put, nD, nE, nF]
              refine WA.tk (i := 7) (v := .int .u32 d0[m + 1]!) rfl (hdrop 7 (by decide)) (Or.inl ⟨by rfl, ?_⟩) (hS _) ?_
              · rintro w' ⟨L, hL, hSw, hun⟩
                obtain rfl := hSo hSw (hL.wait 13 7 (by kernel_rfl) hun)
                go_simp
              simp only [nA, nB, nC, Act.put, nD, nE, nF]
              refine WA.tk (i := 8) (v := .slice (some ⟨g, 0, none⟩) n cap) rfl (hdrop 8 (by decide)) (Or.inl ⟨by rfl, ?_⟩) (hS _) ?_
              · rintro w' ⟨L, hL, hSw, hun⟩
                go_simp
              simp only [nA, nB, nC, Act.put, nD, nE, nF]
              refine WA.tk (i := 9) (v := .int .i64 ((i2 : Nat) : Int)) rfl (hdrop 9 (by decide)) (Or.inl ⟨by rfl, ?_⟩) (hS _) ?_
              · rintro w' ⟨L, hL, hSw, hun⟩
                go_simp
              simp only [nA, nB, nC, Act.put, nD, nE, nF]
              refine WA.tk (i := 10) (v := .pointer (some ⟨g, i2, none⟩)) rfl (hdrop 10 (by decide)) (Or.inl ⟨by rfl, ?_⟩) (hS _) ?_
              · rintro w' ⟨L, hL, hSw, hun⟩
                go_simp
                all_goals (intro h5; omega)
              simp only [nA, nB, nC, Act.put, nD, nE, nF]
              refine WA.tk (i := 11) (v := .int .u32 d0[i2]!) rfl (hdrop 11 (by decide)) (Or.inl ⟨by rfl, ?_⟩) (hS _) ?_
              · rintro w' ⟨L, hL, hSw, hun⟩
                obtain rfl := hSo hSw (hL.wait 13 11 (by kernel_rfl) hun)
                go_simp
              simp only [nA, nB, nC, Act.put, nD, nE, nF]
              refine WA.tk (i := 12) (v := .pointer (some ⟨g, i2, none⟩)) rfl (hdrop 12 (by decide)) (Or.inl ⟨by rfl, ?_⟩) (hS _) ?_
              · rintro w' ⟨L, hL, hSw, hun⟩
                go_simp
                all_goals (intro h5; omega)
              simp only [nA, nB, nC, Act.put, nD, nE, nF]
              obtain ⟨cx, fx⟩ := HA_X6.out.at (j := i2) (by omega)
              obtain ⟨cy, fy⟩ := (HA_X6.out.set (j := i2) (by omega) d0[m + 1]!).at (j := m + 1) (by omega)
              refine WA.one (i := 13) (by kernel_rfl) rfl (by rfl) (fun K hK => ?_)
              go_simp
              refine hK _ _ (hSd _ _ (by rfl)) ?_
              clear hK
              try simp only [nA, nB, nC, Act.put, nD, nE, nF]
              refine WA.tk (i := 14) (v := .pointer (some ⟨g, m + 1, none⟩)) rfl (hdrop 14 (by decide)) (Or.inl ⟨by rfl, ?_⟩) (hSd _ _ (by rfl)) ?_
              · rintro w' ⟨L, hL, hSw, hun⟩
                go_simp
                all_goals (intro h5; omega)
              simp only [nA, nB, nC, Act.put, nD, nE, nF]
              refine WA.one (i := 15) (by kernel_rfl) rfl (by rfl) (fun K hK => ?_)
              go_simp
              refine hK _ _ (hSd _ _ (by rfl)) ?_
              clear hK
              try simp only [nA, nB, nC, Act.put, nD, nE, nF]
              refine WA.done (by kernel_rfl) ?_ _
              refine Nrm.normal ?_
              clear hSo hS hdrop c0 c1 hSd cx fx cy fy
              clear S8
              go_wp2_with fail
              refine ⟨⟨i2 + 1, m, swp d0 i2 (m + 1), by push_cast; rfl, by first | rfl | (congr 1; push_cast; omega), by omega, by omega, by omega, HA_X6.out.swp (by omega) (by omega), ?_, ?_⟩, by simp [intOf]; omega⟩
              · have ht := HT5.out.drew
                rw [← HX5.out] at ht
                have ht := ht.drew
                rw [← HX6.out] at ht
                exact (ht.set _ _).set _ _
              · rw [← He.out, pe_go (Key.out i2 Hl1.out rfl) (Hsd.out.symm.trans (sd_stop hl)) hne2 hii hjj]
                rfl
            · go_wp2_with fail
              have HA_X5 := Lib.hid (show IsA w5.drew g n cap d0 from HA5.out.stay rfl)
              have c0 : w5.drew.cell? ⟨g, a, none⟩ = some (.int .u32 d0[a]!) := (HA_X5.out.at (j := a) (by omega)).1
              have c1 : w5.drew.cell? ⟨g, m + 1, none⟩ = some (.int .u32 d0[m + 1]!) := (HA_X5.out.at (j := m + 1) (by omega)).1
              obtain ⟨S5, hSe⟩ : ∃ S : Array Bool → World → Prop, S = fun _ w' => w' = w5.drew := ⟨_, rfl⟩
              have hdrop : ∀ i : Nat, i ≠ 1000 → ∀ L w', S5 (L.setIfInBounds i true) w' → S5 L w' := by
                intro i _ L w' h; rw [hSe] at h ⊢; exact h
              have hS : ∀ L, S5 L w5.drew := by intro L; rw [hSe]
              have hSo : ∀ {L w'}, S5 L w' → w' = w5.drew := by intro L w' h; rw [hSe] at h; exact h
              clear hSe
              refine wp_region_LN S5 14 #[false, false, false, false, false, false, false, false, false, false, false, false, false, false] (by kernel_rfl) (by kernel_rfl) rfl ?_
              obtain ⟨X5, hX5⟩ : ∃ X5, X5 = w5.drew := ⟨_, rfl⟩
              rw [← hX5] at c0 c1 HA_X5 hSo hS ⊢
              have HX5 := Lib.hid hX5
              clear hX5
              refine WA.tk (i := 0) (v := .int .i64 ((i2 : Nat) : Int)) rfl (hdrop 0 (by decide)) (Or.inl ⟨by rfl, ?_⟩) (hS _) ?_
              · rintro w' ⟨L, hL, hSw, hun⟩
                go_simp
              simp only [nA, nB, nC, Act.put, nD, nE, nF]
              refine WA.tk (i := 1) (v := .int .i64 ((m + 1 : Nat) : Int)) rfl (hdrop 1 (by decide)) (Or.inl ⟨by rfl, ?_⟩) (hS _) ?_
              · rintro w' ⟨L, hL, hSw, hun⟩
                go_simp
              simp only [nA, nB, nC, Act.put, nD, nE, nF]
              refine WA.tk (i := 2) (v := .bool true) rfl (hdrop 2 (by decide)) (Or.inl ⟨by rfl, ?_⟩) (hS _) ?_
              · rintro w' ⟨L, hL, hSw, hun⟩
                go_simp
                all_goals omega
              simp only [nA, nB, nC, Act.put, nD, nE, nF]
              refine WA.tk (i := 3) (v := .bool true) rfl (hdrop 3 (by decide)) (Or.inl ⟨by rfl, ?_⟩) (hS _) ?_
              · rintro w' ⟨L, hL, hSw, hun⟩
                go_simp
              simp only [nA, nB, nC, Act.put, nD, nE, nF]
              refine WA.tk (i := 4) (v := .slice (some ⟨g, 0, none⟩) n cap) rfl (hdrop 4 (by decide)) (Or.inl ⟨by rfl, ?_⟩) (hS _) ?_
              · rintro w' ⟨L, hL, hSw, hun⟩
                go_simp
              simp only [nA, nB, nC, Act.put, nD, nE, nF]
              refine WA.tk (i := 5) (v := .int .i64 ((a : Nat) : Int)) rfl (hdrop 5 (by decide)) (Or.inl ⟨by rfl, ?_⟩) (hS _) ?_
              · rintro w' ⟨L, hL, hSw, hun⟩
                go_simp
              simp only [nA, nB, nC, Act.put, nD, nE, nF]
              refine WA.tk (i := 6) (v := .pointer (some ⟨g, a, none⟩)) rfl (hdrop 6 (by decide)) (Or.inl ⟨by rfl, ?_⟩) (hS _) ?_
              · rintro w' ⟨L, hL, hSw, hun⟩
                go_simp
                all_goals (intro h5; omega)
              simp only [nA, nB, nC, Act.put, nD, nE, nF]
              refine WA.tk (i := 7) (v := .int .u32 d0[a]!) rfl (hdrop 7 (by decide)) (Or.inl ⟨by rfl, ?_⟩) (hS _) ?_
              · rintro w' ⟨L, hL, hSw, hun⟩
                obtain rfl := hSo hSw 
                go_simp
              simp only [nA, nB, nC, Act.put, nD, nE, nF]
              refine WA.tk (i := 8) (v := .slice (some ⟨g, 0, none⟩) n cap) rfl (hdrop 8 (by decide)) (Or.inl ⟨by rfl, ?_⟩) (hS _) ?_
              · rintro w' ⟨L, hL, hSw, hun⟩
                go_simp
              simp only [nA, nB, nC, Act.put, nD, nE, nF]
              refine WA.tk (i := 9) (v := .int .i64 ((m + 1 : Nat) : Int)) rfl (hdrop 9 (by decide)) (Or.inl ⟨by rfl, ?_⟩) (hS _) ?_
              · rintro w' ⟨L, hL, hSw, hun⟩
                go_simp
              simp only [nA, nB, nC, Act.put, nD, nE, nF]
              refine WA.tk (i := 10) (v := .pointer (some ⟨g, m + 1, none⟩)) rfl (hdrop 10 (by decide)) (Or.inl ⟨by rfl, ?_⟩) (hS _) ?_
              · rintro w' ⟨L, hL, hSw, hun⟩
                go_simp
                all_goals (intro h5; omega)
              simp only [nA, nB, nC, Act.put, nD, nE, nF]
              refine WA.tk (i := 11) (v := .int .u32 d0[m + 1]!) rfl (hdrop 11 (by decide)) (Or.inl ⟨by rfl, ?_⟩) (hS _) ?_
              · rintro w' ⟨L, hL, hSw, hun⟩
                obtain rfl := hSo hSw 
                go_simp
              simp only [nA, nB, nC, Act.put, nD, nE, nF]
              refine WA.one (i := 12) (by kernel_rfl) rfl (by rfl) (fun K hK => ?_)
              go_simp
              refine (less_u _ _).mono ?_
              rintro e w_ ⟨rfl, hw_⟩
              subst hw_
              rw [hl]
              refine hK _ _ (hS _) ?_
              clear hK
              try simp only [nA, nB, nC, Act.put, nD, nE, nF]
              refine WA.tk (i := 13) (v := .bool true) rfl (hdrop 13 (by decide)) (Or.inl ⟨by rfl, ?_⟩) (hS _) ?_
              · rintro w' ⟨L, hL, hSw, hun⟩
                go_simp
              simp only [nA, nB, nC, Act.put, nD, nE, nF]
              refine WA.done (by kernel_rfl) ?_ _
              refine Nrm.normal ?_
              clear hSo hS hdrop c0 c1
              clear S5
              go_wp2_with fail
              refine ⟨⟨m, by first | rfl | (congr 1; push_cast; omega), by omega, by omega, HA_X5.out, by rw [HX5.out]; exact HT5.out.drew, ?_⟩, by simp [intOf]⟩
              rw [← Hsd.out, sd_go hle2 hl]
          · have hdl2 : decide ((i2 : Int) ≤ (j2 : Int)) = false := by simp; omega
            go_wp2_with fail
            have HA_X5 := Lib.hid (show IsA w5.drew g n cap d0 from HA5.out.stay rfl)
            obtain ⟨S5, hSe⟩ : ∃ S : Array Bool → World → Prop, S = fun _ w' => w' = w5.drew := ⟨_, rfl⟩
            have hdrop : ∀ i : Nat, i ≠ 1000 → ∀ L w', S5 (L.setIfInBounds i true) w' → S5 L w' := by
              intro i _ L w' h; rw [hSe] at h ⊢; exact h
            have hS : ∀ L, S5 L w5.drew := by intro L; rw [hSe]
            have hSo : ∀ {L w'}, S5 L w' → w' = w5.drew := by intro L w' h; rw [hSe] at h; exact h
            clear hSe
            refine wp_region_LN S5 14 #[false, false, false, false, false, false, false, false, false, false, false, false, false, false] (by kernel_rfl) (by kernel_rfl) rfl ?_
            obtain ⟨X5, hX5⟩ : ∃ X5, X5 = w5.drew := ⟨_, rfl⟩
            rw [← hX5] at  HA_X5 hSo hS ⊢
            have HX5 := Lib.hid hX5
            clear hX5
            refine WA.tk (i := 0) (v := .int .i64 ((i2 : Nat) : Int)) rfl (hdrop 0 (by decide)) (Or.inl ⟨by rfl, ?_⟩) (hS _) ?_
            · rintro w' ⟨L, hL, hSw, hun⟩
              go_simp
            simp only [nA, nB, nC, Act.put, nD, nE, nF]
            refine WA.tk (i := 1) (v := .int .i64 ((j2 : Nat) : Int)) rfl (hdrop 1 (by decide)) (Or.inl ⟨by rfl, ?_⟩) (hS _) ?_
            · rintro w' ⟨L, hL, hSw, hun⟩
              go_simp
            simp only [nA, nB, nC, Act.put, nD, nE, nF]
            refine WA.tk (i := 2) (v := .bool false) rfl (hdrop 2 (by decide)) (Or.inl ⟨by rfl, ?_⟩) (hS _) ?_
            · rintro w' ⟨L, hL, hSw, hun⟩
              go_simp
              all_goals omega
            simp only [nA, nB, nC, Act.put, nD, nE, nF]
            refine WA.tk (i := 3) (v := .bool false) rfl (hdrop 3 (by decide)) (Or.inl ⟨by rfl, ?_⟩) (hS _) ?_
            · rintro w' ⟨L, hL, hSw, hun⟩
              go_simp
            simp only [nA, nB, nC, Act.put, nD, nE, nF]
            refine WA.tk (i := 4) (v := undef) rfl (hdrop 4 (by decide)) (Or.inr ⟨by rfl, rfl⟩) (hS _) ?_
            simp only [nA, nB, nC, Act.put, nD, nE, nF]
            refine WA.tk (i := 5) (v := undef) rfl (hdrop 5 (by decide)) (Or.inr ⟨by rfl, rfl⟩) (hS _) ?_
            simp only [nA, nB, nC, Act.put, nD, nE, nF]
            refine WA.tk (i := 6) (v := undef) rfl (hdrop 6 (by decide)) (Or.inr ⟨by rfl, rfl⟩) (hS _) ?_
            simp only [nA, nB, nC, Act.put, nD, nE, nF]
            refine WA.tk (i := 7) (v := undef) rfl (hdrop 7 (by decide)) (Or.inr ⟨by rfl, rfl⟩) (hS _) ?_
            simp only [nA, nB, nC, Act.put, nD, nE, nF]
            refine WA.tk (i := 8) (v := undef) rfl (hdrop 8 (by decide)) (Or.inr ⟨by rfl, rfl⟩) (hS _) ?_
            simp only [nA, nB, nC, Act.put, nD, nE, nF]
            refine WA.tk (i := 9) (v := undef) rfl (hdrop 9 (by decide)) (Or.inr ⟨by rfl, rfl⟩) (hS _) ?_
            simp only [nA, nB, nC, Act.put, nD, nE, nF]
            refine WA.tk (i := 10) (v := undef) rfl (hdrop 10 (by decide)) (Or.inr ⟨by rfl, rfl⟩) (hS _) ?_
            simp only [nA, nB, nC, Act.put, nD, nE, nF]
            refine WA.tk (i := 11) (v := undef) rfl (hdrop 11 (by decide)) (Or.inr ⟨by rfl, rfl⟩) (hS _) ?_
            simp only [nA, nB, nC, Act.put, nD, nE, nF]
            refine WA.skip (i := 12) (by kernel_rfl) rfl (by rfl) (hS _) ?_
            simp only [nA, nB, nC, Act.put, nD, nE, nF]
            refine WA.tk (i := 13) (v := .bool false) rfl (hdrop 13 (by decide)) (Or.inl ⟨by rfl, ?_⟩) (hS _) ?_
            · rintro w' ⟨L, hL, hSw, hun⟩
              go_simp
            simp only [nA, nB, nC, Act.put, nD, nE, nF]
            refine WA.done (by kernel_rfl) ?_ _
            refine Nrm.normal ?_
            clear hSo hS hdrop 
            clear S5
            have hdg : decide ((i2 : Int) > (j2 : Int)) = true := by simp; omega
            have hdg' : decide ((j2 : Int) < (i2 : Int)) = true := by simp; omega
            go_wp2_with fail
            go_ret
            have hpe := pe_break (Key.out i2 Hl1.out rfl) (Hsd.out.symm.trans (sd_end hle2)) (by omega)
            rw [He.out] at hpe
            have hpe2 : partitionEqual ltInt d1 a b p = (i2, d0) := by unfold partitionEqual; rw [← He0.out]; exact hpe
            rw [hpe2]
            exact ⟨rfl, HA_X5.out, by rw [HX5.out]; exact HT5.out.drew⟩
end
end Go.Proofs.Ytghihhjcoilmgaa
