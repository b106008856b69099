/- Parting a row round a pivot, walked. -/
import Derived.Test.YtghihhjcoilmgaaV5
import Derived.Deep.CutBlock
import Derived.Deep.CutRange
namespace Go.Proofs.Ytghihhjcoilmgaa
set_option maxRecDepth 100000
open Go.RowKit Go.Maps Go.Sort
set_option linter.unusedVariables false
set_option linter.unusedSimpArgs false

theorem pl_break {a i j i2 j2 : Nat} {d : Array Int} (h1 : scanUp (fun x => ltInt x d[a]!) d j i = i2) (h2 : scanDown (fun x => !ltInt x d[a]!) d i2 j = j2) (h : i2 > j2) : partLoop ltInt a i j d = (j2, d) := by
  rw [partLoop]
  simp only [h1, h2, if_pos h]
theorem pl_go {a i j i2 j2 : Nat} {d : Array Int} (h1 : scanUp (fun x => ltInt x d[a]!) d j i = i2) (h2 : scanDown (fun x => !ltInt x d[a]!) d i2 j = j2) (h : i2 < j2) (h3 : i ≤ i2) (h4 : j2 ≤ j) : partLoop ltInt a i j d = partLoop ltInt a (i2 + 1) (j2 - 1) (swp d i2 j2) := by
  rw [partLoop]
  simp only [h1, h2, if_neg (show ¬ i2 > j2 by omega)]
  rw [dif_pos (by omega)]
theorem pt_break {a b p i j : Nat} {d e : Array Int} (he : e = swp d a p) (h1 : scanUp (fun x => ltInt x e[a]!) e (b - 1) (a + 1) = i) (h2 : scanDown (fun x => !ltInt x e[a]!) e i (b - 1) = j) (h : i > j) : partition ltInt d a b p = (j, true, swp e j a) := by
  subst he
  unfold partition
  simp only [h1, h2, if_pos h]
theorem pt_go {a b p i j : Nat} {d e : Array Int} (he : e = swp d a p) (h1 : scanUp (fun x => ltInt x e[a]!) e (b - 1) (a + 1) = i) (h2 : scanDown (fun x => !ltInt x e[a]!) e i (b - 1) = j) (h : ¬ i > j) : partition ltInt d a b p = ((partLoop ltInt a (i + 1) (j - 1) (swp e i j)).1, false, swp (partLoop ltInt a (i + 1) (j - 1) (swp e i j)).2 (partLoop ltInt a (i + 1) (j - 1) (swp e i j)).1 a) := by
  subst he
  unfold partition
  simp only [h1, h2, if_neg h]
section
variable {w : World} {g n cap : Nat} {d : Array Int}
set_option maxRecDepth 100000 in
set_option maxHeartbeats 16000000 in
theorem partition_u (h : IsA w g n cap d) (hn6 : n ≤ 1000000) (a b p : Nat) (hap : a ≤ p) (hpb : p < b) (hb : b ≤ n) : Calls Try.prog 62 #[.slice (some ⟨g, 0, none⟩) n cap, .int .i64 (a : Nat), .int .i64 (b : Nat), .int .i64 (p : Nat)] w fun e w' => e = .returned (.tuple #[.int .i64 ((partition ltInt d a b p).1 : Nat), .bool (partition ltInt d a b p).2.1]) ∧ IsA w' g n cap (partition ltInt d a b p).2.2 ∧ TnA w w' g := by
  have HA := Lib.hid h
  obtain ⟨d0, hd0⟩ : ∃ d0, d0 = d := ⟨_, rfl⟩
  rw [← hd0] at HA ⊢
  obtain ⟨bm, rfl⟩ : ∃ bm, b = bm + 1 := ⟨b - 1, by omega⟩
  rw [show ((bm + 1 : Nat) : Int) = (bm : Int) + 1 by push_cast; rfl]
  clear h hd0
  go_enter Try.func62, Try.ntmps62
  go_wp2_with fail
  have HA_X1 := Lib.hid (show IsA w.drew g n cap d0 from HA.out.stay rfl)
  have c0 : w.drew.cell? ⟨g, p, none⟩ = some (.int .u32 d0[p]!) := (HA_X1.out.at (j := p) (by omega)).1
  have c1 : w.drew.cell? ⟨g, a, none⟩ = some (.int .u32 d0[a]!) := (HA_X1.out.at (j := a) (by omega)).1
  obtain ⟨S1, hSe⟩ : ∃ S : Array Bool → World → Prop, S = fun L w' => L.getD 13 true = false → w' = w.drew := ⟨_, rfl⟩
  have hdrop : ∀ i, i ≠ 13 → ∀ L w', S1 (L.setIfInBounds i true) w' → S1 L w' := by
    intro i hi L w'
    rw [hSe]
    intro h hl
    exact h (by rw [getD_set_ne true hi]; exact hl)
  have hS : ∀ L, S1 L w.drew := by intro L; rw [hSe]; exact fun _ => rfl
  have hSo : ∀ {L w'}, S1 L w' → L.getD 13 true = false → w' = w.drew := by intro L w' h hl; rw [hSe] at h; exact h hl
  have hSd : ∀ (L : Array Bool) X, L.getD 13 true = true → S1 L X := by
    intro L X h; rw [hSe]; intro h1; rw [h] at h1; cases h1
  clear hSe
  refine wp_region_LN S1 16 #[false, false, false, false, false, false, false, false, false, false, false, false, false, false, false, false] (by kernel_rfl) (by kernel_rfl) rfl ?_
  obtain ⟨X1, hX1⟩ : ∃ X1, X1 = w.drew := ⟨_, rfl⟩
  rw [← hX1] at c0 c1 HA_X1 hSo hS ⊢
  have HX1 := Lib.hid hX1
  clear hX1
  refine WA.tk (i := 0) (v := .slice (some ⟨g, 0, none⟩) n cap) rfl (hdrop 0 (by decide)) (Or.inl ⟨by rfl, ?_⟩) (hS _) ?_
  · rintro w' ⟨L, hL, hSw, hun⟩
    go_simp
  simp only [nA, nB, nC, Act.put, nD, nE, nF]
  refine WA.tk (i := 1) (v := .int .i64 ((a : Nat) : Int)) rfl (hdrop 1 (by decide)) (Or.inl ⟨by rfl, ?_⟩) (hS _) ?_
  · rintro w' ⟨L, hL, hSw, hun⟩
    go_simp
  simp only [nA, nB, nC, Act.put, nD, nE, nF]
  refine WA.tk (i := 2) (v := .slice (some ⟨g, 0, none⟩) n cap) rfl (hdrop 2 (by decide)) (Or.inl ⟨by rfl, ?_⟩) (hS _) ?_
  · rintro w' ⟨L, hL, hSw, hun⟩
    go_simp
  simp only [nA, nB, nC, Act.put, nD, nE, nF]
  refine WA.tk (i := 3) (v := .int .i64 ((p : Nat) : Int)) rfl (hdrop 3 (by decide)) (Or.inl ⟨by rfl, ?_⟩) (hS _) ?_
  · rintro w' ⟨L, hL, hSw, hun⟩
    go_simp
  simp only [nA, nB, nC, Act.put, nD, nE, nF]
  refine WA.tk (i := 4) (v := .slice (some ⟨g, 0, none⟩) n cap) rfl (hdrop 4 (by decide)) (Or.inl ⟨by rfl, ?_⟩) (hS _) ?_
  · rintro w' ⟨L, hL, hSw, hun⟩
    go_simp
  simp only [nA, nB, nC, Act.put, nD, nE, nF]
  refine WA.tk (i := 5) (v := .int .i64 ((p : Nat) : Int)) rfl (hdrop 5 (by decide)) (Or.inl ⟨by rfl, ?_⟩) (hS _) ?_
  · rintro w' ⟨L, hL, hSw, hun⟩
    go_simp
  simp only [nA, nB, nC, Act.put, nD, nE, nF]
  refine WA.tk (i := 6) (v := .pointer (some ⟨g, p, none⟩)) rfl (hdrop 6 (by decide)) (Or.inl ⟨by rfl, ?_⟩) (hS _) ?_
  · rintro w' ⟨L, hL, hSw, hun⟩
    go_simp
    all_goals (intro h5; omega)
  simp only [nA, nB, nC, Act.put, nD, nE, nF]
  refine WA.tk (i := 7) (v := .int .u32 d0[p]!) rfl (hdrop 7 (by decide)) (Or.inl ⟨by rfl, ?_⟩) (hS _) ?_
  · rintro w' ⟨L, hL, hSw, hun⟩
    obtain rfl := hSo hSw (hL.wait 13 7 (by kernel_rfl) hun)
    go_simp
  simp only [nA, nB, nC, Act.put, nD, nE, nF]
  refine WA.tk (i := 8) (v := .slice (some ⟨g, 0, none⟩) n cap) rfl (hdrop 8 (by decide)) (Or.inl ⟨by rfl, ?_⟩) (hS _) ?_
  · rintro w' ⟨L, hL, hSw, hun⟩
    go_simp
  simp only [nA, nB, nC, Act.put, nD, nE, nF]
  refine WA.tk (i := 9) (v := .int .i64 ((a : Nat) : Int)) rfl (hdrop 9 (by decide)) (Or.inl ⟨by rfl, ?_⟩) (hS _) ?_
  · rintro w' ⟨L, hL, hSw, hun⟩
    go_simp
  simp only [nA, nB, nC, Act.put, nD, nE, nF]
  refine WA.tk (i := 10) (v := .pointer (some ⟨g, a, none⟩)) rfl (hdrop 10 (by decide)) (Or.inl ⟨by rfl, ?_⟩) (hS _) ?_
  · rintro w' ⟨L, hL, hSw, hun⟩
    go_simp
    all_goals (intro h5; omega)
  simp only [nA, nB, nC, Act.put, nD, nE, nF]
  refine WA.tk (i := 11) (v := .int .u32 d0[a]!) rfl (hdrop 11 (by decide)) (Or.inl ⟨by rfl, ?_⟩) (hS _) ?_
  · rintro w' ⟨L, hL, hSw, hun⟩
    obtain rfl := hSo hSw (hL.wait 13 11 (by kernel_rfl) hun)
    go_simp
  simp only [nA, nB, nC, Act.put, nD, nE, nF]
  refine WA.tk (i := 12) (v := .pointer (some ⟨g, a, none⟩)) rfl (hdrop 12 (by decide)) (Or.inl ⟨by rfl, ?_⟩) (hS _) ?_
  · rintro w' ⟨L, hL, hSw, hun⟩
    go_simp
    all_goals (intro h5; omega)
  simp only [nA, nB, nC, Act.put, nD, nE, nF]
  obtain ⟨cx, fx⟩ := HA_X1.out.at (j := a) (by omega)
  obtain ⟨cy, fy⟩ := (HA_X1.out.set (j := a) (by omega) d0[p]!).at (j := p) (by omega)
  refine WA.one (i := 13) (by kernel_rfl) rfl (by rfl) (fun K hK => ?_)
  go_simp
  refine hK _ _ (hSd _ _ (by rfl)) ?_
  clear hK
  try simp only [nA, nB, nC, Act.put, nD, nE, nF]
  refine WA.tk (i := 14) (v := .pointer (some ⟨g, p, none⟩)) rfl (hdrop 14 (by decide)) (Or.inl ⟨by rfl, ?_⟩) (hSd _ _ (by rfl)) ?_
  · rintro w' ⟨L, hL, hSw, hun⟩
    go_simp
    all_goals (intro h5; omega)
  simp only [nA, nB, nC, Act.put, nD, nE, nF]
  refine WA.one (i := 15) (by kernel_rfl) rfl (by rfl) (fun K hK => ?_)
  go_simp
  refine hK _ _ (hSd _ _ (by rfl)) ?_
  clear hK
  try simp only [nA, nB, nC, Act.put, nD, nE, nF]
  refine WA.done (by kernel_rfl) ?_ _
  refine Nrm.normal ?_
  clear hSo hS hdrop c0 c1 hSd cx fx cy fy
  clear S1
  have HT0 := Lib.hid (TnA.refl w g)
  have HA1 := Lib.hid (HA_X1.out.swp (i := a) (j := p) (by omega) (by omega))
  have hts := HT0.out.drew
  rw [← HX1.out] at hts
  have HT1 := Lib.hid ((hts.set (a) (.int .u32 d0[p]!)).set (p) (.int .u32 d0[a]!))
  clear hts
  generalize (X1.setCell ⟨g, a, none⟩ (.int .u32 d0[p]!)).setCell ⟨g, p, none⟩ (.int .u32 d0[a]!) = w1 at *
  obtain ⟨d1, he0⟩ : ∃ e0, e0 = swp d0 a p := ⟨_, rfl⟩
  rw [← he0] at HA1
  have He0 := Lib.hid he0
  clear he0 HA_X1 HX1 HA
  go_upto_block 0 with fail
  go_cut [10] from 30 to 45 (fun u wx => ∃ i2 : Nat, u = .int .i64 i2 ∧ a + 1 ≤ i2 ∧ i2 ≤ bm + 1 ∧ IsA wx g n cap d1 ∧ TnA w wx g ∧ scanUp (fun x => ltInt x d1[a]!) d1 bm (a + 1) = i2 ∧ (i2 ≤ bm → ltInt d1[i2]! d1[a]! = false))
  case first =>
    go_wp2_with fail
    go_loopw [10] (fun u wx => ∃ i2 : Nat, u = .int .i64 i2 ∧ a + 1 ≤ i2 ∧ i2 ≤ bm + 1 ∧ IsA wx g n cap d1 ∧ TnA w wx g ∧ scanUp (fun x => ltInt x d1[a]!) d1 bm i2 = scanUp (fun x => ltInt x d1[a]!) d1 bm (a + 1)) (fun u _ => bm + 1 - (intOf u).toNat)
    case atStart => exact ⟨a + 1, by first | rfl | (push_cast; rfl), Nat.le_refl _, by omega, HA1.out, HT1.out, rfl⟩
    case round =>
      rename World => w3
      obtain ⟨i2, rfl, hii, hi, hA, hT, hsc⟩ := hrel
      have HA3 := Lib.hid hA; have HT3 := Lib.hid hT; have Hsc := Lib.hid hsc
      clear hA hT hsc
      by_cases hle : i2 ≤ bm
      · have hdl : decide ((i2 : Int) ≤ (bm : Int)) = true := by simp; omega
        cases hl : ltInt d1[i2]! d1[a]!
        · go_wp2_with fail
          have HA_X3 := Lib.hid (show IsA w3.drew g n cap d1 from HA3.out.stay rfl)
          have c0 : w3.drew.cell? ⟨g, i2, none⟩ = some (.int .u32 d1[i2]!) := (HA_X3.out.at (j := i2) (by omega)).1
          have c1 : w3.drew.cell? ⟨g, a, none⟩ = some (.int .u32 d1[a]!) := (HA_X3.out.at (j := a) (by omega)).1
          obtain ⟨S3, hSe⟩ : ∃ S : Array Bool → World → Prop, S = fun _ w' => w' = w3.drew := ⟨_, rfl⟩
          have hdrop : ∀ i : Nat, i ≠ 1000 → ∀ L w', S3 (L.setIfInBounds i true) w' → S3 L w' := by
            intro i _ L w' h; rw [hSe] at h ⊢; exact h
          have hS : ∀ L, S3 L w3.drew := by intro L; rw [hSe]
          have hSo : ∀ {L w'}, S3 L w' → w' = w3.drew := by intro L w' h; rw [hSe] at h; exact h
          clear hSe
          refine wp_region_LN S3 14 #[false, false, false, false, false, false, false, false, false, false, false, false, false, false] (by kernel_rfl) (by kernel_rfl) rfl ?_
          obtain ⟨X3, hX3⟩ : ∃ X3, X3 = w3.drew := ⟨_, rfl⟩
          rw [← hX3] at c0 c1 HA_X3 hSo hS ⊢
          have HX3 := Lib.hid hX3
          clear hX3
          refine WA.tk (i := 0) (v := .int .i64 ((i2 : Nat) : Int)) rfl (hdrop 0 (by decide)) (Or.inl ⟨by rfl, ?_⟩) (hS _) ?_
          · rintro w' ⟨L, hL, hSw, hun⟩
            go_simp
          simp only [nA, nB, nC, Act.put, nD, nE, nF]
          refine WA.tk (i := 1) (v := .int .i64 ((bm : Nat) : Int)) rfl (hdrop 1 (by decide)) (Or.inl ⟨by rfl, ?_⟩) (hS _) ?_
          · rintro w' ⟨L, hL, hSw, hun⟩
            go_simp
          simp only [nA, nB, nC, Act.put, nD, nE, nF]
          refine WA.tk (i := 2) (v := .bool true) rfl (hdrop 2 (by decide)) (Or.inl ⟨by rfl, ?_⟩) (hS _) ?_
          · rintro w' ⟨L, hL, hSw, hun⟩
            go_simp
            all_goals omega
          simp only [nA, nB, nC, Act.put, nD, nE, nF]
          refine WA.tk (i := 3) (v := .bool true) rfl (hdrop 3 (by decide)) (Or.inl ⟨by rfl, ?_⟩) (hS _) ?_
          · rintro w' ⟨L, hL, hSw, hun⟩
            go_simp
          simp only [nA, nB, nC, Act.put, nD, nE, nF]
          refine WA.tk (i := 4) (v := .slice (some ⟨g, 0, none⟩) n cap) rfl (hdrop 4 (by decide)) (Or.inl ⟨by rfl, ?_⟩) (hS _) ?_
          · rintro w' ⟨L, hL, hSw, hun⟩
            go_simp
          simp only [nA, nB, nC, Act.put, nD, nE, nF]
          refine WA.tk (i := 5) (v := .int .i64 ((i2 : Nat) : Int)) rfl (hdrop 5 (by decide)) (Or.inl ⟨by rfl, ?_⟩) (hS _) ?_
          · rintro w' ⟨L, hL, hSw, hun⟩
            go_simp
          simp only [nA, nB, nC, Act.put, nD, nE, nF]
          refine WA.tk (i := 6) (v := .pointer (some ⟨g, i2, none⟩)) rfl (hdrop 6 (by decide)) (Or.inl ⟨by rfl, ?_⟩) (hS _) ?_
          · rintro w' ⟨L, hL, hSw, hun⟩
            go_simp
            all_goals (intro h5; omega)
          simp only [nA, nB, nC, Act.put, nD, nE, nF]
          refine WA.tk (i := 7) (v := .int .u32 d1[i2]!) rfl (hdrop 7 (by decide)) (Or.inl ⟨by rfl, ?_⟩) (hS _) ?_
          · rintro w' ⟨L, hL, hSw, hun⟩
            obtain rfl := hSo hSw 
            go_simp
          simp only [nA, nB, nC, Act.put, nD, nE, nF]
          refine WA.tk (i := 8) (v := .slice (some ⟨g, 0, none⟩) n cap) rfl (hdrop 8 (by decide)) (Or.inl ⟨by rfl, ?_⟩) (hS _) ?_
          · rintro w' ⟨L, hL, hSw, hun⟩
            go_simp
          simp only [nA, nB, nC, Act.put, nD, nE, nF]
          refine WA.tk (i := 9) (v := .int .i64 ((a : Nat) : Int)) rfl (hdrop 9 (by decide)) (Or.inl ⟨by rfl, ?_⟩) (hS _) ?_
          · rintro w' ⟨L, hL, hSw, hun⟩
            go_simp
          simp only [nA, nB, nC, Act.put, nD, nE, nF]
          refine WA.tk (i := 10) (v := .pointer (some ⟨g, a, none⟩)) rfl (hdrop 10 (by decide)) (Or.inl ⟨by rfl, ?_⟩) (hS _) ?_
          · rintro w' ⟨L, hL, hSw, hun⟩
            go_simp
            all_goals (intro h5; omega)
          simp only [nA, nB, nC, Act.put, nD, nE, nF]
          refine WA.tk (i := 11) (v := .int .u32 d1[a]!) rfl (hdrop 11 (by decide)) (Or.inl ⟨by rfl, ?_⟩) (hS _) ?_
          · rintro w' ⟨L, hL, hSw, hun⟩
            obtain rfl := hSo hSw 
            go_simp
          simp only [nA, nB, nC, Act.put, nD, nE, nF]
          refine WA.one (i := 12) (by kernel_rfl) rfl (by rfl) (fun K hK => ?_)
          go_simp
          refine (less_u _ _).mono ?_
          rintro e w_ ⟨rfl, hw_⟩
          subst hw_
          rw [hl]
          refine hK _ _ (hS _) ?_
          clear hK
          try simp only [nA, nB, nC, Act.put, nD, nE, nF]
          refine WA.tk (i := 13) (v := .bool false) rfl (hdrop 13 (by decide)) (Or.inl ⟨by rfl, ?_⟩) (hS _) ?_
          · rintro w' ⟨L, hL, hSw, hun⟩
            go_simp
          simp only [nA, nB, nC, Act.put, nD, nE, nF]
          refine WA.done (by kernel_rfl) ?_ _
          refine Nrm.normal ?_
          clear hSo hS hdrop c0 c1
          clear S3
          go_wp2_with fail
          go_meet
          exact ⟨i2, rfl, hii, hi, HA_X3.out, by rw [HX3.out]; exact HT3.out.drew, by rw [← Hsc.out]; exact su_stop hl, fun _ => hl⟩
        · go_wp2_with fail
          have HA_X3 := Lib.hid (show IsA w3.drew g n cap d1 from HA3.out.stay rfl)
          have c0 : w3.drew.cell? ⟨g, i2, none⟩ = some (.int .u32 d1[i2]!) := (HA_X3.out.at (j := i2) (by omega)).1
          have c1 : w3.drew.cell? ⟨g, a, none⟩ = some (.int .u32 d1[a]!) := (HA_X3.out.at (j := a) (by omega)).1
          obtain ⟨S3, hSe⟩ : ∃ S : Array Bool → World → Prop, S = fun _ w' => w' = w3.drew := ⟨_, rfl⟩
          have hdrop : ∀ i : Nat, i ≠ 1000 → ∀ L w', S3 (L.setIfInBounds i true) w' → S3 L w' := by
            intro i _ L w' h; rw [hSe] at h ⊢; exact h
          have hS : ∀ L, S3 L w3.drew := by intro L; rw [hSe]
          have hSo : ∀ {L w'}, S3 L w' → w' = w3.drew := by intro L w' h; rw [hSe] at h; exact h
          clear hSe
          refine wp_region_LN S3 14 #[false, false, false, false, false, false, false, false, false, false, false, false, false, false] (by kernel_rfl) (by kernel_rfl) rfl ?_
          obtain ⟨X3, hX3⟩ : ∃ X3, X3 = w3.drew := ⟨_, rfl⟩
          rw [← hX3] at c0 c1 HA_X3 hSo hS ⊢
          have HX3 := Lib.hid hX3
          clear hX3
          refine WA.tk (i := 0) (v := .int .i64 ((i2 : Nat) : Int)) rfl (hdrop 0 (by decide)) (Or.inl ⟨by rfl, ?_⟩) (hS _) ?_
          · rintro w' ⟨L, hL, hSw, hun⟩
            go_simp
          simp only [nA, nB, nC, Act.put, nD, nE, nF]
          refine WA.tk (i := 1) (v := .int .i64 ((bm : Nat) : Int)) rfl (hdrop 1 (by decide)) (Or.inl ⟨by rfl, ?_⟩) (hS _) ?_
          · rintro w' ⟨L, hL, hSw, hun⟩
            go_simp
          simp only [nA, nB, nC, Act.put, nD, nE, nF]
          refine WA.tk (i := 2) (v := .bool true) rfl (hdrop 2 (by decide)) (Or.inl ⟨by rfl, ?_⟩) (hS _) ?_
          · rintro w' ⟨L, hL, hSw, hun⟩
            go_simp
            all_goals omega
          simp only [nA, nB, nC, Act.put, nD, nE, nF]
          refine WA.tk (i := 3) (v := .bool true) rfl (hdrop 3 (by decide)) (Or.inl ⟨by rfl, ?_⟩) (hS _) ?_
          · rintro w' ⟨L, hL, hSw, hun⟩
            go_simp
          simp only [nA, nB, nC, Act.put, nD, nE, nF]
          refine WA.tk (i := 4) (v := .slice (some ⟨g, 0, none⟩) n cap) rfl (hdrop 4 (by decide)) (Or.inl ⟨by rfl, ?_⟩) (hS _) ?_
          · rintro w' ⟨L, hL, hSw, hun⟩
            go_simp
          simp only [nA, nB, nC, Act.put, nD, nE, nF]
          refine WA.tk (i := 5) (v := .int .i64 ((i2 : Nat) : Int)) rfl (hdrop 5 (by decide)) (Or.inl ⟨by rfl, ?_⟩) (hS _) ?_
          · rintro w' ⟨L, hL, hSw, hun⟩
            go_simp
          simp only [nA, nB, nC, Act.put, nD, nE, nF]
          refine WA.tk (i := 6) (v := .pointer (some ⟨g, i2, none⟩)) rfl (hdrop 6 (by decide)) (Or.inl ⟨by rfl, ?_⟩) (hS _) ?_
          · rintro w' ⟨L, hL, hSw, hun⟩
            go_simp
            all_goals (intro h5; omega)
          simp only [nA, nB, nC, Act.put, nD, nE, nF]
          refine WA.tk (i := 7) (v := .int .u32 d1[i2]!) rfl (hdrop 7 (by decide)) (Or.inl ⟨by rfl, ?_⟩) (hS _) ?_
          · rintro w' ⟨L, hL, hSw, hun⟩
            obtain rfl := hSo hSw 
            go_simp
          simp only [nA, nB, nC, Act.put, nD, nE, nF]
          refine WA.tk (i := 8) (v := .slice (some ⟨g, 0, none⟩) n cap) rfl (hdrop 8 (by decide)) (Or.inl ⟨by rfl, ?_⟩) (hS _) ?_
          · rintro w' ⟨L, hL, hSw, hun⟩
            go_simp
          simp only [nA, nB, nC, Act.put, nD, nE, nF]
          refine WA.tk (i := 9) (v := .int .i64 ((a : Nat) : Int)) rfl (hdrop 9 (by decide)) (Or.inl ⟨by rfl, ?_⟩) (hS _) ?_
          · rintro w' ⟨L, hL, hSw, hun⟩
            go_simp
          simp only [nA, nB, nC, Act.put, nD, nE, nF]
          refine WA.tk (i := 10) (v := .pointer (some ⟨g, a, none⟩)) rfl (hdrop 10 (by decide)) (Or.inl ⟨by rfl, ?_⟩) (hS _) ?_
          · rintro w' ⟨L, hL, hSw, hun⟩
            go_simp
            all_goals (intro h5; omega)
          simp only [nA, nB, nC, Act.put, nD, nE, nF]
          refine WA.tk (i := 11) (v := .int .u32 d1[a]!) rfl (hdrop 11 (by decide)) (Or.inl ⟨by rfl, ?_⟩) (hS _) ?_
          · rintro w' ⟨L, hL, hSw, hun⟩
            obtain rfl := hSo hSw 
            go_simp
          simp only [nA, nB, nC, Act.put, nD, nE, nF]
          refine WA.one (i := 12) (by kernel_rfl) rfl (by rfl) (fun K hK => ?_)
          go_simp
          refine (less_u _ _).mono ?_
          rintro e w_ ⟨rfl, hw_⟩
          subst hw_
          rw [hl]
          refine hK _ _ (hS _) ?_
          clear hK
          try simp only [nA, nB, nC, Act.put, nD, nE, nF]
          refine WA.tk (i := 13) (v := .bool true) rfl (hdrop 13 (by decide)) (Or.inl ⟨by rfl, ?_⟩) (hS _) ?_
          · rintro w' ⟨L, hL, hSw, hun⟩
            go_simp
          simp only [nA, nB, nC, Act.put, nD, nE, nF]
          refine WA.done (by kernel_rfl) ?_ _
          refine Nrm.normal ?_
          clear hSo hS hdrop c0 c1
          clear S3
          go_wp2_with fail
          refine ⟨⟨i2 + 1, by push_cast; rfl, by omega, by omega, HA_X3.out, by rw [HX3.out]; exact HT3.out.drew, ?_⟩, by simp [intOf]; omega⟩
          rw [← Hsc.out, su_go hle hl]
      · have hdl : decide ((i2 : Int) ≤ (bm : Int)) = false := by simp; omega
        go_wp2_with fail
        have HA_X3 := Lib.hid (show IsA w3.drew g n cap d1 from HA3.out.stay rfl)
        obtain ⟨S3, hSe⟩ : ∃ S : Array Bool → World → Prop, S = fun _ w' => w' = w3.drew := ⟨_, rfl⟩
        have hdrop : ∀ i : Nat, i ≠ 1000 → ∀ L w', S3 (L.setIfInBounds i true) w' → S3 L w' := by
          intro i _ L w' h; rw [hSe] at h ⊢; exact h
        have hS : ∀ L, S3 L w3.drew := by intro L; rw [hSe]
        have hSo : ∀ {L w'}, S3 L w' → w' = w3.drew := by intro L w' h; rw [hSe] at h; exact h
        clear hSe
        refine wp_region_LN S3 14 #[false, false, false, false, false, false, false, false, false, false, false, false, false, false] (by kernel_rfl) (by kernel_rfl) rfl ?_
        obtain ⟨X3, hX3⟩ : ∃ X3, X3 = w3.drew := ⟨_, rfl⟩
        rw [← hX3] at  HA_X3 hSo hS ⊢
        have HX3 := Lib.hid hX3
        clear hX3
        refine WA.tk (i := 0) (v := .int .i64 ((i2 : Nat) : Int)) rfl (hdrop 0 (by decide)) (Or.inl ⟨by rfl, ?_⟩) (hS _) ?_
        · rintro w' ⟨L, hL, hSw, hun⟩
          go_simp
        simp only [nA, nB, nC, Act.put, nD, nE, nF]
        refine WA.tk (i := 1) (v := .int .i64 ((bm : Nat) : Int)) rfl (hdrop 1 (by decide)) (Or.inl ⟨by rfl, ?_⟩) (hS _) ?_
        · rintro w' ⟨L, hL, hSw, hun⟩
          go_simp
        simp only [nA, nB, nC, Act.put, nD, nE, nF]
        refine WA.tk (i := 2) (v := .bool false) rfl (hdrop 2 (by decide)) (Or.inl ⟨by rfl, ?_⟩) (hS _) ?_
        · rintro w' ⟨L, hL, hSw, hun⟩
          go_simp
          all_goals omega
        simp only [nA, nB, nC, Act.put, nD, nE, nF]
        refine WA.tk (i := 3) (v := .bool false) rfl (hdrop 3 (by decide)) (Or.inl ⟨by rfl, ?_⟩) (hS _) ?_
        · rintro w' ⟨L, hL, hSw, hun⟩
          go_simp
        simp only [nA, nB, nC, Act.put, nD, nE, nF]
        refine WA.tk (i := 4) (v := undef) rfl (hdrop 4 (by decide)) (Or.inr ⟨by rfl, rfl⟩) (hS _) ?_
        simp only [nA, nB, nC, Act.put, nD, nE, nF]
        refine WA.tk (i := 5) (v := undef) rfl (hdrop 5 (by decide)) (Or.inr ⟨by rfl, rfl⟩) (hS _) ?_
        simp only [nA, nB, nC, Act.put, nD, nE, nF]
        refine WA.tk (i := 6) (v := undef) rfl (hdrop 6 (by decide)) (Or.inr ⟨by rfl, rfl⟩) (hS _) ?_
        simp only [nA, nB, nC, Act.put, nD, nE, nF]
        refine WA.tk (i := 7) (v := undef) rfl (hdrop 7 (by decide)) (Or.inr ⟨by rfl, rfl⟩) (hS _) ?_
        simp only [nA, nB, nC, Act.put, nD, nE, nF]
        refine WA.tk (i := 8) (v := undef) rfl (hdrop 8 (by decide)) (Or.inr ⟨by rfl, rfl⟩) (hS _) ?_
        simp only [nA, nB, nC, Act.put, nD, nE, nF]
        refine WA.tk (i := 9) (v := undef) rfl (hdrop 9 (by decide)) (Or.inr ⟨by rfl, rfl⟩) (hS _) ?_
        simp only [nA, nB, nC, Act.put, nD, nE, nF]
        refine WA.tk (i := 10) (v := undef) rfl (hdrop 10 (by decide)) (Or.inr ⟨by rfl, rfl⟩) (hS _) ?_
        simp only [nA, nB, nC, Act.put, nD, nE, nF]
        refine WA.tk (i := 11) (v := undef) rfl (hdrop 11 (by decide)) (Or.inr ⟨by rfl, rfl⟩) (hS _) ?_
        simp only [nA, nB, nC, Act.put, nD, nE, nF]
        refine WA.skip (i := 12) (by kernel_rfl) rfl (by rfl) (hS _) ?_
        simp only [nA, nB, nC, Act.put, nD, nE, nF]
        refine WA.tk (i := 13) (v := .bool false) rfl (hdrop 13 (by decide)) (Or.inl ⟨by rfl, ?_⟩) (hS _) ?_
        · rintro w' ⟨L, hL, hSw, hun⟩
          go_simp
        simp only [nA, nB, nC, Act.put, nD, nE, nF]
        refine WA.done (by kernel_rfl) ?_ _
        refine Nrm.normal ?_
        clear hSo hS hdrop 
        clear S3
        go_wp2_with fail
        go_meet
        exact ⟨i2, rfl, hii, hi, HA_X3.out, by rw [HX3.out]; exact HT3.out.drew, by rw [← Hsc.out]; exact su_end hle, fun h => absurd h hle⟩
  case rest =>
    obtain ⟨i1, rfl, hii1, hi1, hA, hT, hsc, hl⟩ := hcut
    rename World => w4
    have HA4 := Lib.hid hA; have HT4 := Lib.hid hT; have Hsu1 := Lib.hid hsc; have Hl1 := Lib.hid hl
    clear hA hT hsc hl
    go_wp2_with fail
    go_loopw [11] (fun u wx => ∃ j2 : Nat, u = .int .i64 j2 ∧ j2 ≤ bm ∧ i1 ≤ j2 + 1 ∧ IsA wx g n cap d1 ∧ TnA w wx g ∧ scanDown (fun x => !ltInt x d1[a]!) d1 i1 j2 = scanDown (fun x => !ltInt x d1[a]!) d1 i1 bm) (fun u _ => (intOf u).toNat)
    case atStart => exact ⟨bm, rfl, Nat.le_refl _, hi1, HA4.out, HT4.out, rfl⟩
    case round =>
      rename World => w5
      obtain ⟨j1, rfl, hjj1, hij1, hA, hT, hsd⟩ := hrel
      have HA5 := Lib.hid hA; have HT5 := Lib.hid hT; have Hsd1 := Lib.hid hsd
      clear hA hT hsd
      by_cases hle2 : i1 ≤ j1
      · have hdl2 : decide ((i1 : Int) ≤ (j1 : Int)) = true := by simp; omega
        obtain ⟨m1, rfl⟩ : ∃ m, j1 = m + 1 := ⟨j1 - 1, by omega⟩
        cases hl : ltInt d1[m1 + 1]! d1[a]!
        · go_wp2_with fail
          have HA_X5 := Lib.hid (show IsA w5.drew g n cap d1 from HA5.out.stay rfl)
          have c0 : w5.drew.cell? ⟨g, m1 + 1, none⟩ = some (.int .u32 d1[m1 + 1]!) := (HA_X5.out.at (j := m1 + 1) (by omega)).1
          have c1 : w5.drew.cell? ⟨g, a, none⟩ = some (.int .u32 d1[a]!) := (HA_X5.out.at (j := a) (by omega)).1
          obtain ⟨S5, hSe⟩ : ∃ S : Array Bool → World → Prop, S = fun _ w' => w' = w5.drew := ⟨_, rfl⟩
          have hdrop : ∀ i : Nat, i ≠ 1000 → ∀ L w', S5 (L.setIfInBounds i true) w' → S5 L w' := by
            intro i _ L w' h; rw [hSe] at h ⊢; exact h
          have hS : ∀ L, S5 L w5.drew := by intro L; rw [hSe]
          have hSo : ∀ {L w'}, S5 L w' → w' = w5.drew := by intro L w' h; rw [hSe] at h; exact h
          clear hSe
          refine wp_region_LN S5 15 #[false, false, false, false, false, false, false, false, false, false, false, false, false, false, false] (by kernel_rfl) (by kernel_rfl) rfl ?_
          obtain ⟨X5, hX5⟩ : ∃ X5, X5 = w5.drew := ⟨_, rfl⟩
          rw [← hX5] at c0 c1 HA_X5 hSo hS ⊢
          have HX5 := Lib.hid hX5
          clear hX5
          refine WA.tk (i := 0) (v := .int .i64 ((i1 : Nat) : Int)) rfl (hdrop 0 (by decide)) (Or.inl ⟨by rfl, ?_⟩) (hS _) ?_
          · rintro w' ⟨L, hL, hSw, hun⟩
            go_simp
          simp only [nA, nB, nC, Act.put, nD, nE, nF]
          refine WA.tk (i := 1) (v := .int .i64 ((m1 + 1 : Nat) : Int)) rfl (hdrop 1 (by decide)) (Or.inl ⟨by rfl, ?_⟩) (hS _) ?_
          · rintro w' ⟨L, hL, hSw, hun⟩
            go_simp
          simp only [nA, nB, nC, Act.put, nD, nE, nF]
          refine WA.tk (i := 2) (v := .bool true) rfl (hdrop 2 (by decide)) (Or.inl ⟨by rfl, ?_⟩) (hS _) ?_
          · rintro w' ⟨L, hL, hSw, hun⟩
            go_simp
            all_goals omega
          simp only [nA, nB, nC, Act.put, nD, nE, nF]
          refine WA.tk (i := 3) (v := .bool true) rfl (hdrop 3 (by decide)) (Or.inl ⟨by rfl, ?_⟩) (hS _) ?_
          · rintro w' ⟨L, hL, hSw, hun⟩
            go_simp
          simp only [nA, nB, nC, Act.put, nD, nE, nF]
          refine WA.tk (i := 4) (v := .slice (some ⟨g, 0, none⟩) n cap) rfl (hdrop 4 (by decide)) (Or.inl ⟨by rfl, ?_⟩) (hS _) ?_
          · rintro w' ⟨L, hL, hSw, hun⟩
            go_simp
          simp only [nA, nB, nC, Act.put, nD, nE, nF]
          refine WA.tk (i := 5) (v := .int .i64 ((m1 + 1 : Nat) : Int)) rfl (hdrop 5 (by decide)) (Or.inl ⟨by rfl, ?_⟩) (hS _) ?_
          · rintro w' ⟨L, hL, hSw, hun⟩
            go_simp
          simp only [nA, nB, nC, Act.put, nD, nE, nF]
          refine WA.tk (i := 6) (v := .pointer (some ⟨g, m1 + 1, none⟩)) rfl (hdrop 6 (by decide)) (Or.inl ⟨by rfl, ?_⟩) (hS _) ?_
          · rintro w' ⟨L, hL, hSw, hun⟩
            go_simp
            all_goals (intro h5; omega)
          simp only [nA, nB, nC, Act.put, nD, nE, nF]
          refine WA.tk (i := 7) (v := .int .u32 d1[m1 + 1]!) rfl (hdrop 7 (by decide)) (Or.inl ⟨by rfl, ?_⟩) (hS _) ?_
          · rintro w' ⟨L, hL, hSw, hun⟩
            obtain rfl := hSo hSw 
            go_simp
          simp only [nA, nB, nC, Act.put, nD, nE, nF]
          refine WA.tk (i := 8) (v := .slice (some ⟨g, 0, none⟩) n cap) rfl (hdrop 8 (by decide)) (Or.inl ⟨by rfl, ?_⟩) (hS _) ?_
          · rintro w' ⟨L, hL, hSw, hun⟩
            go_simp
          simp only [nA, nB, nC, Act.put, nD, nE, nF]
          refine WA.tk (i := 9) (v := .int .i64 ((a : Nat) : Int)) rfl (hdrop 9 (by decide)) (Or.inl ⟨by rfl, ?_⟩) (hS _) ?_
          · rintro w' ⟨L, hL, hSw, hun⟩
            go_simp
          simp only [nA, nB, nC, Act.put, nD, nE, nF]
          refine WA.tk (i := 10) (v := .pointer (some ⟨g, a, none⟩)) rfl (hdrop 10 (by decide)) (Or.inl ⟨by rfl, ?_⟩) (hS _) ?_
          · rintro w' ⟨L, hL, hSw, hun⟩
            go_simp
            all_goals (intro h5; omega)
          simp only [nA, nB, nC, Act.put, nD, nE, nF]
          refine WA.tk (i := 11) (v := .int .u32 d1[a]!) rfl (hdrop 11 (by decide)) (Or.inl ⟨by rfl, ?_⟩) (hS _) ?_
          · rintro w' ⟨L, hL, hSw, hun⟩
            obtain rfl := hSo hSw 
            go_simp
          simp only [nA, nB, nC, Act.put, nD, nE, nF]
          refine WA.one (i := 12) (by kernel_rfl) rfl (by rfl) (fun K hK => ?_)
          go_simp
          refine (less_u _ _).mono ?_
          rintro e w_ ⟨rfl, hw_⟩
          subst hw_
          rw [hl]
          refine hK _ _ (hS _) ?_
          clear hK
          try simp only [nA, nB, nC, Act.put, nD, nE, nF]
          refine WA.tk (i := 13) (v := .bool true) rfl (hdrop 13 (by decide)) (Or.inl ⟨by rfl, ?_⟩) (hS _) ?_
          · rintro w' ⟨L, hL, hSw, hun⟩
            go_simp
          simp only [nA, nB, nC, Act.put, nD, nE, nF]
          refine WA.tk (i := 14) (v := .bool true) rfl (hdrop 14 (by decide)) (Or.inl ⟨by rfl, ?_⟩) (hS _) ?_
          · rintro w' ⟨L, hL, hSw, hun⟩
            go_simp
          simp only [nA, nB, nC, Act.put, nD, nE, nF]
          refine WA.done (by kernel_rfl) ?_ _
          refine Nrm.normal ?_
          clear hSo hS hdrop c0 c1
          clear S5
          go_wp2_with fail
          refine ⟨⟨m1, by first | rfl | (congr 1; push_cast; omega), by omega, by omega, HA_X5.out, by rw [HX5.out]; exact HT5.out.drew, ?_⟩, by simp [intOf]⟩
          rw [← Hsd1.out, sd_go hle2 (by simp [hl])]
        · go_wp2_with fail
          have HA_X5 := Lib.hid (show IsA w5.drew g n cap d1 from HA5.out.stay rfl)
          have c0 : w5.drew.cell? ⟨g, m1 + 1, none⟩ = some (.int .u32 d1[m1 + 1]!) := (HA_X5.out.at (j := m1 + 1) (by omega)).1
          have c1 : w5.drew.cell? ⟨g, a, none⟩ = some (.int .u32 d1[a]!) := (HA_X5.out.at (j := a) (by omega)).1
          obtain ⟨S5, hSe⟩ : ∃ S : Array Bool → World → Prop, S = fun _ w' => w' = w5.drew := ⟨_, rfl⟩
          have hdrop : ∀ i : Nat, i ≠ 1000 → ∀ L w', S5 (L.setIfInBounds i true) w' → S5 L w' := by
            intro i _ L w' h; rw [hSe] at h ⊢; exact h
          have hS : ∀ L, S5 L w5.drew := by intro L; rw [hSe]
          have hSo : ∀ {L w'}, S5 L w' → w' = w5.drew := by intro L w' h; rw [hSe] at h; exact h
          clear hSe
          refine wp_region_LN S5 15 #[false, false, false, false, false, false, false, false, false, false, false, false, false, false, false] (by kernel_rfl) (by kernel_rfl) rfl ?_
          obtain ⟨X5, hX5⟩ : ∃ X5, X5 = w5.drew := ⟨_, rfl⟩
          rw [← hX5] at c0 c1 HA_X5 hSo hS ⊢
          have HX5 := Lib.hid hX5
          clear hX5
          refine WA.tk (i := 0) (v := .int .i64 ((i1 : Nat) : Int)) rfl (hdrop 0 (by decide)) (Or.inl ⟨by rfl, ?_⟩) (hS _) ?_
          · rintro w' ⟨L, hL, hSw, hun⟩
            go_simp
          simp only [nA, nB, nC, Act.put, nD, nE, nF]
          refine WA.tk (i := 1) (v := .int .i64 ((m1 + 1 : Nat) : Int)) rfl (hdrop 1 (by decide)) (Or.inl ⟨by rfl, ?_⟩) (hS _) ?_
          · rintro w' ⟨L, hL, hSw, hun⟩
            go_simp
          simp only [nA, nB, nC, Act.put, nD, nE, nF]
          refine WA.tk (i := 2) (v := .bool true) rfl (hdrop 2 (by decide)) (Or.inl ⟨by rfl, ?_⟩) (hS _) ?_
          · rintro w' ⟨L, hL, hSw, hun⟩
            go_simp
            all_goals omega
          simp only [nA, nB, nC, Act.put, nD, nE, nF]
          refine WA.tk (i := 3) (v := .bool true) rfl (hdrop 3 (by decide)) (Or.inl ⟨by rfl, ?_⟩) (hS _) ?_
          · rintro w' ⟨L, hL, hSw, hun⟩
            go_simp
          simp only [nA, nB, nC, Act.put, nD, nE, nF]
          refine WA.tk (i := 4) (v := .slice (some ⟨g, 0, none⟩) n cap) rfl (hdrop 4 (by decide)) (Or.inl ⟨by rfl, ?_⟩) (hS _) ?_
          · rintro w' ⟨L, hL, hSw, hun⟩
            go_simp
          simp only [nA, nB, nC, Act.put, nD, nE, nF]
          refine WA.tk (i := 5) (v := .int .i64 ((m1 + 1 : Nat) : Int)) rfl (hdrop 5 (by decide)) (Or.inl ⟨by rfl, ?_⟩) (hS _) ?_
          · rintro w' ⟨L, hL, hSw, hun⟩
            go_simp
          simp only [nA, nB, nC, Act.put, nD, nE, nF]
          refine WA.tk (i := 6) (v := .pointer (some ⟨g, m1 + 1, none⟩)) rfl (hdrop 6 (by decide)) (Or.inl ⟨by rfl, ?_⟩) (hS _) ?_
          · rintro w' ⟨L, hL, hSw, hun⟩
            go_simp
            all_goals (intro h5; omega)
          simp only [nA, nB, nC, Act.put, nD, nE, nF]
          refine WA.tk (i := 7) (v := .int .u32 d1[m1 + 1]!) rfl (hdrop 7 (by decide)) (Or.inl ⟨by rfl, ?_⟩) (hS _) ?_
          · rintro w' ⟨L, hL, hSw, hun⟩
            obtain rfl := hSo hSw 
            go_simp
          simp only [nA, nB, nC, Act.put, nD, nE, nF]
          refine WA.tk (i := 8) (v := .slice (some ⟨g, 0, none⟩) n cap) rfl (hdrop 8 (by decide)) (Or.inl ⟨by rfl, ?_⟩) (hS _) ?_
          · rintro w' ⟨L, hL, hSw, hun⟩
            go_simp
          simp only [nA, nB, nC, Act.put, nD, nE, nF]
          refine WA.tk (i := 9) (v := .int .i64 ((a : Nat) : Int)) rfl (hdrop 9 (by decide)) (Or.inl ⟨by rfl, ?_⟩) (hS _) ?_
          · rintro w' ⟨L, hL, hSw, hun⟩
            go_simp
          simp only [nA, nB, nC, Act.put, nD, nE, nF]
          refine WA.tk (i := 10) (v := .pointer (some ⟨g, a, none⟩)) rfl (hdrop 10 (by decide)) (Or.inl ⟨by rfl, ?_⟩) (hS _) ?_
          · rintro w' ⟨L, hL, hSw, hun⟩
            go_simp
            all_goals (intro h5; omega)
          simp only [nA, nB, nC, Act.put, nD, nE, nF]
          refine WA.tk (i := 11) (v := .int .u32 d1[a]!) rfl (hdrop 11 (by decide)) (Or.inl ⟨by rfl, ?_⟩) (hS _) ?_
          · rintro w' ⟨L, hL, hSw, hun⟩
            obtain rfl := hSo hSw 
            go_simp
          simp only [nA, nB, nC, Act.put, nD, nE, nF]
          refine WA.one (i := 12) (by kernel_rfl) rfl (by rfl) (fun K hK => ?_)
          go_simp
          refine (less_u _ _).mono ?_
          rintro e w_ ⟨rfl, hw_⟩
          subst hw_
          rw [hl]
          refine hK _ _ (hS _) ?_
          clear hK
          try simp only [nA, nB, nC, Act.put, nD, nE, nF]
          refine WA.tk (i := 13) (v := .bool false) rfl (hdrop 13 (by decide)) (Or.inl ⟨by rfl, ?_⟩) (hS _) ?_
          · rintro w' ⟨L, hL, hSw, hun⟩
            go_simp
          simp only [nA, nB, nC, Act.put, nD, nE, nF]
          refine WA.tk (i := 14) (v := .bool false) rfl (hdrop 14 (by decide)) (Or.inl ⟨by rfl, ?_⟩) (hS _) ?_
          · rintro w' ⟨L, hL, hSw, hun⟩
            go_simp
          simp only [nA, nB, nC, Act.put, nD, nE, nF]
          refine WA.done (by kernel_rfl) ?_ _
          refine Nrm.normal ?_
          clear hSo hS hdrop c0 c1
          clear S5
          have hne1 : i1 < m1 + 1 := by
            rcases Nat.lt_or_eq_of_le hle2 with h5 | h5
            · exact h5
            · have := Hl1.out (by omega)
              rw [h5, hl] at this
              cases this
          have hdg : decide ((i1 : Int) > (m1 : Int) + 1) = false := by simp; omega
          have hdg' : decide ((m1 : Int) + 1 < (i1 : Int)) = false := by simp; omega
          have Hsj1 := Lib.hid (Hsd1.out.symm.trans (sd_stop (by simp [hl])))
          clear hl
          go_wp2_with fail
          have HTb := Lib.hid (show TnA w X5 g by rw [HX5.out]; exact HT5.out.drew)
          have HA_X6 := Lib.hid (show IsA X5.drew g n cap d1 from HA_X5.out.stay rfl)
          have c0 : X5.drew.cell? ⟨g, m1 + 1, none⟩ = some (.int .u32 d1[m1 + 1]!) := (HA_X6.out.at (j := m1 + 1) (by omega)).1
          have c1 : X5.drew.cell? ⟨g, i1, none⟩ = some (.int .u32 d1[i1]!) := (HA_X6.out.at (j := i1) (by omega)).1
          obtain ⟨S10, hSe⟩ : ∃ S : Array Bool → World → Prop, S = fun L w' => L.getD 13 true = false → w' = X5.drew := ⟨_, rfl⟩
          have hdrop : ∀ i, i ≠ 13 → ∀ L w', S10 (L.setIfInBounds i true) w' → S10 L w' := by
            intro i hi L w'
            rw [hSe]
            intro h hl
            exact h (by rw [getD_set_ne true hi]; exact hl)
          have hS : ∀ L, S10 L X5.drew := by intro L; rw [hSe]; exact fun _ => rfl
          have hSo : ∀ {L w'}, S10 L w' → L.getD 13 true = false → w' = X5.drew := by intro L w' h hl; rw [hSe] at h; exact h hl
          have hSd : ∀ (L : Array Bool) X, L.getD 13 true = true → S10 L X := by
            intro L X h; rw [hSe]; intro h1; rw [h] at h1; cases h1
          clear hSe
          refine wp_region_LN S10 16 #[false, false, false, false, false, false, false, false, false, false, false, false, false, false, false, false] (by kernel_rfl) (by kernel_rfl) rfl ?_
          obtain ⟨X6, hX6⟩ : ∃ X6, X6 = X5.drew := ⟨_, rfl⟩
          rw [← hX6] at c0 c1 HA_X6 hSo hS ⊢
          have HX6 := Lib.hid hX6
          clear hX6
          refine WA.tk (i := 0) (v := .slice (some ⟨g, 0, none⟩) n cap) rfl (hdrop 0 (by decide)) (Or.inl ⟨by rfl, ?_⟩) (hS _) ?_
          · rintro w' ⟨L, hL, hSw, hun⟩
            go_simp
          simp only [nA, nB, nC, Act.put, nD, nE, nF]
          refine WA.tk (i := 1) (v := .int .i64 ((i1 : Nat) : Int)) rfl (hdrop 1 (by decide)) (Or.inl ⟨by rfl, ?_⟩) (hS _) ?_
          · rintro w' ⟨L, hL, hSw, hun⟩
            go_simp
          simp only [nA, nB, nC, Act.put, nD, nE, nF]
          refine WA.tk (i := 2) (v := .slice (some ⟨g, 0, none⟩) n cap) rfl (hdrop 2 (by decide)) (Or.inl ⟨by rfl, ?_⟩) (hS _) ?_
          · rintro w' ⟨L, hL, hSw, hun⟩
            go_simp
          simp only [nA, nB, nC, Act.put, nD, nE, nF]
          refine WA.tk (i := 3) (v := .int .i64 ((m1 + 1 : Nat) : Int)) rfl (hdrop 3 (by decide)) (Or.inl ⟨by rfl, ?_⟩) (hS _) ?_
          · rintro w' ⟨L, hL, hSw, hun⟩
            go_simp
          simp only [nA, nB, nC, Act.put, nD, nE, nF]
          refine WA.tk (i := 4) (v := .slice (some ⟨g, 0, none⟩) n cap) rfl (hdrop 4 (by decide)) (Or.inl ⟨by rfl, ?_⟩) (hS _) ?_
          · rintro w' ⟨L, hL, hSw, hun⟩
            go_simp
          simp only [nA, nB, nC, Act.put, nD, nE, nF]
          refine WA.tk (i := 5) (v := .int .i64 ((m1 + 1 : Nat) : Int)) rfl (hdrop 5 (by decide)) (Or.inl ⟨by rfl, ?_⟩) (hS _) ?_
          · rintro w' ⟨L, hL, hSw, hun⟩
            go_simp
          simp only [nA, nB, nC, Act.put, nD, nE, nF]
          refine WA.tk (i := 6) (v := .pointer (some ⟨g, m1 + 1, none⟩)) rfl (hdrop 6 (by decide)) (Or.inl ⟨by rfl, ?_⟩) (hS _) ?_
          · rintro w' ⟨L, hL, hSw, hun⟩
            go_simp
            all_goals (intro h5; omega)
          simp only [nA, nB, nC, Act.put, nD, nE, nF]
          refine WA.tk (i := 7) (v := .int .u32 d1[m1 + 1]!) rfl (hdrop 7 (by decide)) (Or.inl ⟨by rfl, ?_⟩) (hS _) ?_
          · rintro w' ⟨L, hL, hSw, hun⟩
            obtain rfl := hSo hSw (hL.wait 13 7 (by kernel_rfl) hun)
            go_simp
          simp only [nA, nB, nC, Act.put, nD, nE, nF]
          refine WA.tk (i := 8) (v := .slice (some ⟨g, 0, none⟩) n cap) rfl (hdrop 8 (by decide)) (Or.inl ⟨by rfl, ?_⟩) (hS _) ?_
          · rintro w' ⟨L, hL, hSw, hun⟩
            go_simp
          simp only [nA, nB, nC, Act.put, nD, nE, nF]
          refine WA.tk (i := 9) (v := .int .i64 ((i1 : Nat) : Int)) rfl (hdrop 9 (by decide)) (Or.inl ⟨by rfl, ?_⟩) (hS _) ?_
          · rintro w' ⟨L, hL, hSw, hun⟩
            go_simp
          simp only [nA, nB, nC, Act.put, nD, nE, nF]
          refine WA.tk (i := 10) (v := .pointer (some ⟨g, i1, none⟩)) rfl (hdrop 10 (by decide)) (Or.inl ⟨by rfl, ?_⟩) (hS _) ?_
          · rintro w' ⟨L, hL, hSw, hun⟩
            go_simp
            all_goals (intro h5; omega)
          simp only [nA, nB, nC, Act.put, nD, nE, nF]
          refine WA.tk (i := 11) (v := .int .u32 d1[i1]!) rfl (hdrop 11 (by decide)) (Or.inl ⟨by rfl, ?_⟩) (hS _) ?_
          · rintro w' ⟨L, hL, hSw, hun⟩
            obtain rfl := hSo hSw (hL.wait 13 11 (by kernel_rfl) hun)
            go_simp
          simp only [nA, nB, nC, Act.put, nD, nE, nF]
          refine WA.tk (i := 12) (v := .pointer (some ⟨g, i1, none⟩)) rfl (hdrop 12 (by decide)) (Or.inl ⟨by rfl, ?_⟩) (hS _) ?_
          · rintro w' ⟨L, hL, hSw, hun⟩
            go_simp
            all_goals (intro h5; omega)
          simp only [nA, nB, nC, Act.put, nD, nE, nF]
          obtain ⟨cx, fx⟩ := HA_X6.out.at (j := i1) (by omega)
          obtain ⟨cy, fy⟩ := (HA_X6.out.set (j := i1) (by omega) d1[m1 + 1]!).at (j := m1 + 1) (by omega)
          refine WA.one (i := 13) (by kernel_rfl) rfl (by rfl) (fun K hK => ?_)
          go_simp
          refine hK _ _ (hSd _ _ (by rfl)) ?_
          clear hK
          try simp only [nA, nB, nC, Act.put, nD, nE, nF]
          refine WA.tk (i := 14) (v := .pointer (some ⟨g, m1 + 1, none⟩)) rfl (hdrop 14 (by decide)) (Or.inl ⟨by rfl, ?_⟩) (hSd _ _ (by rfl)) ?_
          · rintro w' ⟨L, hL, hSw, hun⟩
            go_simp
            all_goals (intro h5; omega)
          simp only [nA, nB, nC, Act.put, nD, nE, nF]
          refine WA.one (i := 15) (by kernel_rfl) rfl (by rfl) (fun K hK => ?_)
          go_simp
          refine hK _ _ (hSd _ _ (by rfl)) ?_
          clear hK
          try simp only [nA, nB, nC, Act.put, nD, nE, nF]
          refine WA.done (by kernel_rfl) ?_ _
          refine Nrm.normal ?_
          clear hSo hS hdrop c0 c1 hSd cx fx cy fy
          clear S10
          have HA6 := Lib.hid (HA_X6.out.swp (i := i1) (j := m1 + 1) (by omega) (by omega))
          have hts := HTb.out.drew
          rw [← HX6.out] at hts
          have HT6 := Lib.hid ((hts.set (i1) (.int .u32 d1[m1 + 1]!)).set (m1 + 1) (.int .u32 d1[i1]!))
          clear hts
          generalize (X6.setCell ⟨g, i1, none⟩ (.int .u32 d1[m1 + 1]!)).setCell ⟨g, m1 + 1, none⟩ (.int .u32 d1[i1]!) = w6 at *
          obtain ⟨e1, he1⟩ : ∃ e1, e1 = swp d1 i1 (m1 + 1) := ⟨_, rfl⟩
          rw [← he1] at HA6
          have hpt := pt_go (b := bm + 1) He0.out Hsu1.out Hsj1.out (show ¬ i1 > m1 + 1 by omega)
          rw [← he1, Nat.add_sub_cancel] at hpt
          have Hpt := Lib.hid hpt
          clear he1 hpt hdg hdg' hdl2 hle2 HA_X5 HX5 HA5 HT5 HA4 HT4
          go_wp2_with fail
          go_loopw [10, 11] (fun u9 u10 wr => ∃ (i j : Nat) (d2 : Array Int), u9 = .int .i64 i ∧ u10 = .int .i64 j ∧ a < i ∧ i ≤ j + 1 ∧ j < bm + 1 ∧ IsA wr g n cap d2 ∧ TnA w wr g ∧ partLoop ltInt a i j d2 = partLoop ltInt a (i1 + 1) m1 e1) (fun u9 u10 _ => ((intOf u10) + 1 - (intOf u9)).toNat)
          case atStart => exact ⟨i1 + 1, m1, e1, by push_cast; rfl, by first | rfl | (congr 1; push_cast; omega), by omega, by omega, by omega, HA6.out, HT6.out, rfl⟩
          case round =>
            rename World => w2
            obtain ⟨i, j, d2, rfl, rfl, hai, hij, hjb, hA, hT, he⟩ := hrel
            have HA2 := Lib.hid hA; have HT2 := Lib.hid hT; have He := Lib.hid he
            clear hA hT he
            go_upto_block 6 with fail
            go_cut [10] from 99 to 114 (fun u wx => ∃ i2 : Nat, u = .int .i64 i2 ∧ i ≤ i2 ∧ i2 ≤ j + 1 ∧ IsA wx g n cap d2 ∧ TnA w wx g ∧ scanUp (fun x => ltInt x d2[a]!) d2 j (i) = i2 ∧ (i2 ≤ j → ltInt d2[i2]! d2[a]! = false))
            case first =>
              go_wp2_with fail
              go_loopw [10] (fun u wx => ∃ i2 : Nat, u = .int .i64 i2 ∧ i ≤ i2 ∧ i2 ≤ j + 1 ∧ IsA wx g n cap d2 ∧ TnA w wx g ∧ scanUp (fun x => ltInt x d2[a]!) d2 j i2 = scanUp (fun x => ltInt x d2[a]!) d2 j (i)) (fun u _ => j + 1 - (intOf u).toNat)
              case atStart => exact ⟨i, by first | rfl | (push_cast; rfl), Nat.le_refl _, by omega, HA2.out, HT2.out, rfl⟩
              case round =>
                rename World => w3
                obtain ⟨i2, rfl, hii, hi, hA, hT, hsc⟩ := hrel
                have HA3 := Lib.hid hA; have HT3 := Lib.hid hT; have Hsc := Lib.hid hsc
                clear hA hT hsc
                by_cases hle : i2 ≤ j
                · have hdl : decide ((i2 : Int) ≤ (j : Int)) = true := by simp; omega
                  cases hl : ltInt d2[i2]! d2[a]!
                  · go_wp2_with fail
                    have HA_X3 := Lib.hid (show IsA w3.drew g n cap d2 from HA3.out.stay rfl)
                    have c0 : w3.drew.cell? ⟨g, i2, none⟩ = some (.int .u32 d2[i2]!) := (HA_X3.out.at (j := i2) (by omega)).1
                    have c1 : w3.drew.cell? ⟨g, a, none⟩ = some (.int .u32 d2[a]!) := (HA_X3.out.at (j := a) (by omega)).1
                    obtain ⟨S3, hSe⟩ : ∃ S : Array Bool → World → Prop, S = fun _ w' => w' = w3.drew := ⟨_, rfl⟩
                    have hdrop : ∀ i : Nat, i ≠ 1000 → ∀ L w', S3 (L.setIfInBounds i true) w' → S3 L w' := by
                      intro i _ L w' h; rw [hSe] at h ⊢; exact h
                    have hS : ∀ L, S3 L w3.drew := by intro L; rw [hSe]
                    have hSo : ∀ {L w'}, S3 L w' → w' = w3.drew := by intro L w' h; rw [hSe] at h; exact h
                    clear hSe
                    refine wp_region_LN S3 14 #[false, false, false, false, false, false, false, false, false, false, false, false, false, false] (by kernel_rfl) (by kernel_rfl) rfl ?_
                    obtain ⟨X3, hX3⟩ : ∃ X3, X3 = w3.drew := ⟨_, rfl⟩
                    rw [← hX3] at c0 c1 HA_X3 hSo hS ⊢
                    have HX3 := Lib.hid hX3
                    clear hX3
                    refine WA.tk (i := 0) (v := .int .i64 ((i2 : Nat) : Int)) rfl (hdrop 0 (by decide)) (Or.inl ⟨by rfl, ?_⟩) (hS _) ?_
                    · rintro w' ⟨L, hL, hSw, hun⟩
                      go_simp
                    simp only [nA, nB, nC, Act.put, nD, nE, nF]
                    refine WA.tk (i := 1) (v := .int .i64 ((j : Nat) : Int)) rfl (hdrop 1 (by decide)) (Or.inl ⟨by rfl, ?_⟩) (hS _) ?_
                    · rintro w' ⟨L, hL, hSw, hun⟩
                      go_simp
                    simp only [nA, nB, nC, Act.put, nD, nE, nF]
                    refine WA.tk (i := 2) (v := .bool true) rfl (hdrop 2 (by decide)) (Or.inl ⟨by rfl, ?_⟩) (hS _) ?_
                    · rintro w' ⟨L, hL, hSw, hun⟩
                      go_simp
                      all_goals omega
                    simp only [nA, nB, nC, Act.put, nD, nE, nF]
                    refine WA.tk (i := 3) (v := .bool true) rfl (hdrop 3 (by decide)) (Or.inl ⟨by rfl, ?_⟩) (hS _) ?_
                    · rintro w' ⟨L, hL, hSw, hun⟩
                      go_simp
                    simp only [nA, nB, nC, Act.put, nD, nE, nF]
                    refine WA.tk (i := 4) (v := .slice (some ⟨g, 0, none⟩) n cap) rfl (hdrop 4 (by decide)) (Or.inl ⟨by rfl, ?_⟩) (hS _) ?_
                    · rintro w' ⟨L, hL, hSw, hun⟩
                      go_simp
                    simp only [nA, nB, nC, Act.put, nD, nE, nF]
                    refine WA.tk (i := 5) (v := .int .i64 ((i2 : Nat) : Int)) rfl (hdrop 5 (by decide)) (Or.inl ⟨by rfl, ?_⟩) (hS _) ?_
                    · rintro w' ⟨L, hL, hSw, hun⟩
                      go_simp
                    simp only [nA, nB, nC, Act.put, nD, nE, nF]
                    refine WA.tk (i := 6) (v := .pointer (some ⟨g, i2, none⟩)) rfl (hdrop 6 (by decide)) (Or.inl ⟨by rfl, ?_⟩) (hS _) ?_
                    · rintro w' ⟨L, hL, hSw, hun⟩
                      go_simp
                      all_goals (intro h5; omega)
                    simp only [nA, nB, nC, Act.put, nD, nE, nF]
                    refine WA.tk (i := 7) (v := .int .u32 d2[i2]!) rfl (hdrop 7 (by decide)) (Or.inl ⟨by rfl, ?_⟩) (hS _) ?_
                    · rintro w' ⟨L, hL, hSw, hun⟩
                      obtain rfl := hSo hSw 
                      go_simp
                    simp only [nA, nB, nC, Act.put, nD, nE, nF]
                    refine WA.tk (i := 8) (v := .slice (some ⟨g, 0, none⟩) n cap) rfl (hdrop 8 (by decide)) (Or.inl ⟨by rfl, ?_⟩) (hS _) ?_
                    · rintro w' ⟨L, hL, hSw, hun⟩
                      go_simp
                    simp only [nA, nB, nC, Act.put, nD, nE, nF]
                    refine WA.tk (i := 9) (v := .int .i64 ((a : Nat) : Int)) rfl (hdrop 9 (by decide)) (Or.inl ⟨by rfl, ?_⟩) (hS _) ?_
                    · rintro w' ⟨L, hL, hSw, hun⟩
                      go_simp
                    simp only [nA, nB, nC, Act.put, nD, nE, nF]
                    refine WA.tk (i := 10) (v := .pointer (some ⟨g, a, none⟩)) rfl (hdrop 10 (by decide)) (Or.inl ⟨by rfl, ?_⟩) (hS _) ?_
                    · rintro w' ⟨L, hL, hSw, hun⟩
                      go_simp
                      all_goals (intro h5; omega)
                    simp only [nA, nB, nC, Act.put, nD, nE, nF]
                    refine WA.tk (i := 11) (v := .int .u32 d2[a]!) rfl (hdrop 11 (by decide)) (Or.inl ⟨by rfl, ?_⟩) (hS _) ?_
                    · rintro w' ⟨L, hL, hSw, hun⟩
                      obtain rfl := hSo hSw 
                      go_simp
                    simp only [nA, nB, nC, Act.put, nD, nE, nF]
                    refine WA.one (i := 12) (by kernel_rfl) rfl (by rfl) (fun K hK => ?_)
                    go_simp
                    refine (less_u _ _).mono ?_
                    rintro e w_ ⟨rfl, hw_⟩
                    subst hw_
                    rw [hl]
                    refine hK _ _ (hS _) ?_
                    clear hK
                    try simp only [nA, nB, nC, Act.put, nD, nE, nF]
                    refine WA.tk (i := 13) (v := .bool false) rfl (hdrop 13 (by decide)) (Or.inl ⟨by rfl, ?_⟩) (hS _) ?_
                    · rintro w' ⟨L, hL, hSw, hun⟩
                      go_simp
                    simp only [nA, nB, nC, Act.put, nD, nE, nF]
                    refine WA.done (by kernel_rfl) ?_ _
                    refine Nrm.normal ?_
                    clear hSo hS hdrop c0 c1
                    clear S3
                    go_wp2_with fail
                    go_meet
                    exact ⟨i2, rfl, hii, hi, HA_X3.out, by rw [HX3.out]; exact HT3.out.drew, by rw [← Hsc.out]; exact su_stop hl, fun _ => hl⟩
                  · go_wp2_with fail
                    have HA_X3 := Lib.hid (show IsA w3.drew g n cap d2 from HA3.out.stay rfl)
                    have c0 : w3.drew.cell? ⟨g, i2, none⟩ = some (.int .u32 d2[i2]!) := (HA_X3.out.at (j := i2) (by omega)).1
                    have c1 : w3.drew.cell? ⟨g, a, none⟩ = some (.int .u32 d2[a]!) := (HA_X3.out.at (j := a) (by omega)).1
                    obtain ⟨S3, hSe⟩ : ∃ S : Array Bool → World → Prop, S = fun _ w' => w' = w3.drew := ⟨_, rfl⟩
                    have hdrop : ∀ i : Nat, i ≠ 1000 → ∀ L w', S3 (L.setIfInBounds i true) w' → S3 L w' := by
                      intro i _ L w' h; rw [hSe] at h ⊢; exact h
                    have hS : ∀ L, S3 L w3.drew := by intro L; rw [hSe]
                    have hSo : ∀ {L w'}, S3 L w' → w' = w3.drew := by intro L w' h; rw [hSe] at h; exact h
                    clear hSe
                    refine wp_region_LN S3 14 #[false, false, false, false, false, false, false, false, false, false, false, false, false, false] (by kernel_rfl) (by kernel_rfl) rfl ?_
                    obtain ⟨X3, hX3⟩ : ∃ X3, X3 = w3.drew := ⟨_, rfl⟩
                    rw [← hX3] at c0 c1 HA_X3 hSo hS ⊢
                    have HX3 := Lib.hid hX3
                    clear hX3
                    refine WA.tk (i := 0) (v := .int .i64 ((i2 : Nat) : Int)) rfl (hdrop 0 (by decide)) (Or.inl ⟨by rfl, ?_⟩) (hS _) ?_
                    · rintro w' ⟨L, hL, hSw, hun⟩
                      go_simp
                    simp only [nA, nB, nC, Act.put, nD, nE, nF]
                    refine WA.tk (i := 1) (v := .int .i64 ((j : Nat) : Int)) rfl (hdrop 1 (by decide)) (Or.inl ⟨by rfl, ?_⟩) (hS _) ?_
                    · rintro w' ⟨L, hL, hSw, hun⟩
                      go_simp
                    simp only [nA, nB, nC, Act.put, nD, nE, nF]
                    refine WA.tk (i := 2) (v := .bool true) rfl (hdrop 2 (by decide)) (Or.inl ⟨by rfl, ?_⟩) (hS _) ?_
                    · rintro w' ⟨L, hL, hSw, hun⟩
                      go_simp
                      all_goals omega
                    simp only [nA, nB, nC, Act.put, nD, nE, nF]
                    refine WA.tk (i := 3) (v := .bool true) rfl (hdrop 3 (by decide)) (Or.inl ⟨by rfl, ?_⟩) (hS _) ?_
                    · rintro w' ⟨L, hL, hSw, hun⟩
                      go_simp
                    simp only [nA, nB, nC, Act.put, nD, nE, nF]
                    refine WA.tk (i := 4) (v := .slice (some ⟨g, 0, none⟩) n cap) rfl (hdrop 4 (by decide)) (Or.inl ⟨by rfl, ?_⟩) (hS _) ?_
                    · rintro w' ⟨L, hL, hSw, hun⟩
                      go_simp
                    simp only [nA, nB, nC, Act.put, nD, nE, nF]
                    refine WA.tk (i := 5) (v := .int .i64 ((i2 : Nat) : Int)) rfl (hdrop 5 (by decide)) (Or.inl ⟨by rfl, ?_⟩) (hS _) ?_
                    · rintro w' ⟨L, hL, hSw, hun⟩
                      go_simp
                    simp only [nA, nB, nC, Act.put, nD, nE, nF]
                    refine WA.tk (i := 6) (v := .pointer (some ⟨g, i2, none⟩)) rfl (hdrop 6 (by decide)) (Or.inl ⟨by rfl, ?_⟩) (hS _) ?_
                    · rintro w' ⟨L, hL, hSw, hun⟩
                      go_simp
                      all_goals (intro h5; omega)
                    simp only [nA, nB, nC, Act.put, nD, nE, nF]
                    refine WA.tk (i := 7) (v := .int .u32 d2[i2]!) rfl (hdrop 7 (by decide)) (Or.inl ⟨by rfl, ?_⟩) (hS _) ?_
                    · rintro w' ⟨L, hL, hSw, hun⟩
                      obtain rfl := hSo hSw 
                      go_simp
                    simp only [nA, nB, nC, Act.put, nD, nE, nF]
                    refine WA.tk (i := 8) (v := .slice (some ⟨g, 0, none⟩) n cap) rfl (hdrop 8 (by decide)) (Or.inl ⟨by rfl, ?_⟩) (hS _) ?_
                    · rintro w' ⟨L, hL, hSw, hun⟩
                      go_simp
                    simp only [nA, nB, nC, Act.put, nD, nE, nF]
                    refine WA.tk (i := 9) (v := .int .i64 ((a : Nat) : Int)) rfl (hdrop 9 (by decide)) (Or.inl ⟨by rfl, ?_⟩) (hS _) ?_
                    · rintro w' ⟨L, hL, hSw, hun⟩
                      go_simp
                    simp only [nA, nB, nC, Act.put, nD, nE, nF]
                    refine WA.tk (i := 10) (v := .pointer (some ⟨g, a, none⟩)) rfl (hdrop 10 (by decide)) (Or.inl ⟨by rfl, ?_⟩) (hS _) ?_
                    · rintro w' ⟨L, hL, hSw, hun⟩
                      go_simp
                      all_goals (intro h5; omega)
                    simp only [nA, nB, nC, Act.put, nD, nE, nF]
                    refine WA.tk (i := 11) (v := .int .u32 d2[a]!) rfl (hdrop 11 (by decide)) (Or.inl ⟨by rfl, ?_⟩) (hS _) ?_
                    · rintro w' ⟨L, hL, hSw, hun⟩
                      obtain rfl := hSo hSw 
                      go_simp
                    simp only [nA, nB, nC, Act.put, nD, nE, nF]
                    refine WA.one (i := 12) (by kernel_rfl) rfl (by rfl) (fun K hK => ?_)
                    go_simp
                    refine (less_u _ _).mono ?_
                    rintro e w_ ⟨rfl, hw_⟩
                    subst hw_
                    rw [hl]
                    refine hK _ _ (hS _) ?_
                    clear hK
                    try simp only [nA, nB, nC, Act.put, nD, nE, nF]
                    refine WA.tk (i := 13) (v := .bool true) rfl (hdrop 13 (by decide)) (Or.inl ⟨by rfl, ?_⟩) (hS _) ?_
                    · rintro w' ⟨L, hL, hSw, hun⟩
                      go_simp
                    simp only [nA, nB, nC, Act.put, nD, nE, nF]
                    refine WA.done (by kernel_rfl) ?_ _
                    refine Nrm.normal ?_
                    clear hSo hS hdrop c0 c1
                    clear S3
                    go_wp2_with fail
                    refine ⟨⟨i2 + 1, by push_cast; rfl, by omega, by omega, HA_X3.out, by rw [HX3.out]; exact HT3.out.drew, ?_⟩, by simp [intOf]; omega⟩
                    rw [← Hsc.out, su_go hle hl]
                · have hdl : decide ((i2 : Int) ≤ (j : Int)) = false := by simp; omega
                  go_wp2_with fail
                  have HA_X3 := Lib.hid (show IsA w3.drew g n cap d2 from HA3.out.stay rfl)
                  obtain ⟨S3, hSe⟩ : ∃ S : Array Bool → World → Prop, S = fun _ w' => w' = w3.drew := ⟨_, rfl⟩
                  have hdrop : ∀ i : Nat, i ≠ 1000 → ∀ L w', S3 (L.setIfInBounds i true) w' → S3 L w' := by
                    intro i _ L w' h; rw [hSe] at h ⊢; exact h
                  have hS : ∀ L, S3 L w3.drew := by intro L; rw [hSe]
                  have hSo : ∀ {L w'}, S3 L w' → w' = w3.drew := by intro L w' h; rw [hSe] at h; exact h
                  clear hSe
                  refine wp_region_LN S3 14 #[false, false, false, false, false, false, false, false, false, false, false, false, false, false] (by kernel_rfl) (by kernel_rfl) rfl ?_
                  obtain ⟨X3, hX3⟩ : ∃ X3, X3 = w3.drew := ⟨_, rfl⟩
                  rw [← hX3] at  HA_X3 hSo hS ⊢
                  have HX3 := Lib.hid hX3
                  clear hX3
                  refine WA.tk (i := 0) (v := .int .i64 ((i2 : Nat) : Int)) rfl (hdrop 0 (by decide)) (Or.inl ⟨by rfl, ?_⟩) (hS _) ?_
                  · rintro w' ⟨L, hL, hSw, hun⟩
                    go_simp
                  simp only [nA, nB, nC, Act.put, nD, nE, nF]
                  refine WA.tk (i := 1) (v := .int .i64 ((j : Nat) : Int)) rfl (hdrop 1 (by decide)) (Or.inl ⟨by rfl, ?_⟩) (hS _) ?_
                  · rintro w' ⟨L, hL, hSw, hun⟩
                    go_simp
                  simp only [nA, nB, nC, Act.put, nD, nE, nF]
                  refine WA.tk (i := 2) (v := .bool false) rfl (hdrop 2 (by decide)) (Or.inl ⟨by rfl, ?_⟩) (hS _) ?_
                  · rintro w' ⟨L, hL, hSw, hun⟩
                    go_simp
                    all_goals omega
                  simp only [nA, nB, nC, Act.put, nD, nE, nF]
                  refine WA.tk (i := 3) (v := .bool false) rfl (hdrop 3 (by decide)) (Or.inl ⟨by rfl, ?_⟩) (hS _) ?_
                  · rintro w' ⟨L, hL, hSw, hun⟩
                    go_simp
                  simp only [nA, nB, nC, Act.put, nD, nE, nF]
                  refine WA.tk (i := 4) (v := undef) rfl (hdrop 4 (by decide)) (Or.inr ⟨by rfl, rfl⟩) (hS _) ?_
                  simp only [nA, nB, nC, Act.put, nD, nE, nF]
                  refine WA.tk (i := 5) (v := undef) rfl (hdrop 5 (by decide)) (Or.inr ⟨by rfl, rfl⟩) (hS _) ?_
                  simp only [nA, nB, nC, Act.put, nD, nE, nF]
                  refine WA.tk (i := 6) (v := undef) rfl (hdrop 6 (by decide)) (Or.inr ⟨by rfl, rfl⟩) (hS _) ?_
                  simp only [nA, nB, nC, Act.put, nD, nE, nF]
                  refine WA.tk (i := 7) (v := undef) rfl (hdrop 7 (by decide)) (Or.inr ⟨by rfl, rfl⟩) (hS _) ?_
                  simp only [nA, nB, nC, Act.put, nD, nE, nF]
                  refine WA.tk (i := 8) (v := undef) rfl (hdrop 8 (by decide)) (Or.inr ⟨by rfl, rfl⟩) (hS _) ?_
                  simp only [nA, nB, nC, Act.put, nD, nE, nF]
                  refine WA.tk (i := 9) (v := undef) rfl (hdrop 9 (by decide)) (Or.inr ⟨by rfl, rfl⟩) (hS _) ?_
                  simp only [nA, nB, nC, Act.put, nD, nE, nF]
                  refine WA.tk (i := 10) (v := undef) rfl (hdrop 10 (by decide)) (Or.inr ⟨by rfl, rfl⟩) (hS _) ?_
                  simp only [nA, nB, nC, Act.put, nD, nE, nF]
                  refine WA.tk (i := 11) (v := undef) rfl (hdrop 11 (by decide)) (Or.inr ⟨by rfl, rfl⟩) (hS _) ?_
                  simp only [nA, nB, nC, Act.put, nD, nE, nF]
                  refine WA.skip (i := 12) (by kernel_rfl) rfl (by rfl) (hS _) ?_
                  simp only [nA, nB, nC, Act.put, nD, nE, nF]
                  refine WA.tk (i := 13) (v := .bool false) rfl (hdrop 13 (by decide)) (Or.inl ⟨by rfl, ?_⟩) (hS _) ?_
                  · rintro w' ⟨L, hL, hSw, hun⟩
                    go_simp
                  simp only [nA, nB, nC, Act.put, nD, nE, nF]
                  refine WA.done (by kernel_rfl) ?_ _
                  refine Nrm.normal ?_
                  clear hSo hS hdrop 
                  clear S3
                  go_wp2_with fail
                  go_meet
                  exact ⟨i2, rfl, hii, hi, HA_X3.out, by rw [HX3.out]; exact HT3.out.drew, by rw [← Hsc.out]; exact su_end hle, fun h => absurd h hle⟩
            case rest =>
              obtain ⟨i2, rfl, hii2, hi2, hA, hT, hsc, hl⟩ := hcut
              rename World => w4
              have HA4 := Lib.hid hA; have HT4 := Lib.hid hT; have Hsu2 := Lib.hid hsc; have Hl2 := Lib.hid hl
              clear hA hT hsc hl
              go_wp2_with fail
              go_loopw [11] (fun u wx => ∃ j2 : Nat, u = .int .i64 j2 ∧ j2 ≤ j ∧ i2 ≤ j2 + 1 ∧ IsA wx g n cap d2 ∧ TnA w wx g ∧ scanDown (fun x => !ltInt x d2[a]!) d2 i2 j2 = scanDown (fun x => !ltInt x d2[a]!) d2 i2 j) (fun u _ => (intOf u).toNat)
              case atStart => exact ⟨j, rfl, Nat.le_refl _, hi2, HA4.out, HT4.out, rfl⟩
              case round =>
                rename World => w5
                obtain ⟨j2, rfl, hjj2, hij2, hA, hT, hsd⟩ := hrel
                have HA5 := Lib.hid hA; have HT5 := Lib.hid hT; have Hsd2 := Lib.hid hsd
                clear hA hT hsd
                by_cases hle2 : i2 ≤ j2
                · have hdl2 : decide ((i2 : Int) ≤ (j2 : Int)) = true := by simp; omega
                  obtain ⟨m2, rfl⟩ : ∃ m, j2 = m + 1 := ⟨j2 - 1, by omega⟩
                  cases hl : ltInt d2[m2 + 1]! d2[a]!
                  · go_wp2_with fail
                    have HA_X5 := Lib.hid (show IsA w5.drew g n cap d2 from HA5.out.stay rfl)
                    have c0 : w5.drew.cell? ⟨g, m2 + 1, none⟩ = some (.int .u32 d2[m2 + 1]!) := (HA_X5.out.at (j := m2 + 1) (by omega)).1
                    have c1 : w5.drew.cell? ⟨g, a, none⟩ = some (.int .u32 d2[a]!) := (HA_X5.out.at (j := a) (by omega)).1
                    obtain ⟨S5, hSe⟩ : ∃ S : Array Bool → World → Prop, S = fun _ w' => w' = w5.drew := ⟨_, rfl⟩
                    have hdrop : ∀ i : Nat, i ≠ 1000 → ∀ L w', S5 (L.setIfInBounds i true) w' → S5 L w' := by
                      intro i _ L w' h; rw [hSe] at h ⊢; exact h
                    have hS : ∀ L, S5 L w5.drew := by intro L; rw [hSe]
                    have hSo : ∀ {L w'}, S5 L w' → w' = w5.drew := by intro L w' h; rw [hSe] at h; exact h
                    clear hSe
                    refine wp_region_LN S5 15 #[false, false, false, false, false, false, false, false, false, false, false, false, false, false, false] (by kernel_rfl) (by kernel_rfl) rfl ?_
                    obtain ⟨X5, hX5⟩ : ∃ X5, X5 = w5.drew := ⟨_, rfl⟩
                    rw [← hX5] at c0 c1 HA_X5 hSo hS ⊢
                    have HX5 := Lib.hid hX5
                    clear hX5
                    refine WA.tk (i := 0) (v := .int .i64 ((i2 : Nat) : Int)) rfl (hdrop 0 (by decide)) (Or.inl ⟨by rfl, ?_⟩) (hS _) ?_
                    · rintro w' ⟨L, hL, hSw, hun⟩
                      go_simp
                    simp only [nA, nB, nC, Act.put, nD, nE, nF]
                    refine WA.tk (i := 1) (v := .int .i64 ((m2 + 1 : Nat) : Int)) rfl (hdrop 1 (by decide)) (Or.inl ⟨by rfl, ?_⟩) (hS _) ?_
                    · rintro w' ⟨L, hL, hSw, hun⟩
                      go_simp
                    simp only [nA, nB, nC, Act.put, nD, nE, nF]
                    refine WA.tk (i := 2) (v := .bool true) rfl (hdrop 2 (by decide)) (Or.inl ⟨by rfl, ?_⟩) (hS _) ?_
                    · rintro w' ⟨L, hL, hSw, hun⟩
                      go_simp
                      all_goals omega
                    simp only [nA, nB, nC, Act.put, nD, nE, nF]
                    refine WA.tk (i := 3) (v := .bool true) rfl (hdrop 3 (by decide)) (Or.inl ⟨by rfl, ?_⟩) (hS _) ?_
                    · rintro w' ⟨L, hL, hSw, hun⟩
                      go_simp
                    simp only [nA, nB, nC, Act.put, nD, nE, nF]
                    refine WA.tk (i := 4) (v := .slice (some ⟨g, 0, none⟩) n cap) rfl (hdrop 4 (by decide)) (Or.inl ⟨by rfl, ?_⟩) (hS _) ?_
                    · rintro w' ⟨L, hL, hSw, hun⟩
                      go_simp
                    simp only [nA, nB, nC, Act.put, nD, nE, nF]
                    refine WA.tk (i := 5) (v := .int .i64 ((m2 + 1 : Nat) : Int)) rfl (hdrop 5 (by decide)) (Or.inl ⟨by rfl, ?_⟩) (hS _) ?_
                    · rintro w' ⟨L, hL, hSw, hun⟩
                      go_simp
                    simp only [nA, nB, nC, Act.put, nD, nE, nF]
                    refine WA.tk (i := 6) (v := .pointer (some ⟨g, m2 + 1, none⟩)) rfl (hdrop 6 (by decide)) (Or.inl ⟨by rfl, ?_⟩) (hS _) ?_
                    · rintro w' ⟨L, hL, hSw, hun⟩
                      go_simp
                      all_goals (intro h5; omega)
                    simp only [nA, nB, nC, Act.put, nD, nE, nF]
                    refine WA.tk (i := 7) (v := .int .u32 d2[m2 + 1]!) rfl (hdrop 7 (by decide)) (Or.inl ⟨by rfl, ?_⟩) (hS _) ?_
                    · rintro w' ⟨L, hL, hSw, hun⟩
                      obtain rfl := hSo hSw 
                      go_simp
                    simp only [nA, nB, nC, Act.put, nD, nE, nF]
                    refine WA.tk (i := 8) (v := .slice (some ⟨g, 0, none⟩) n cap) rfl (hdrop 8 (by decide)) (Or.inl ⟨by rfl, ?_⟩) (hS _) ?_
                    · rintro w' ⟨L, hL, hSw, hun⟩
                      go_simp
                    simp only [nA, nB, nC, Act.put, nD, nE, nF]
                    refine WA.tk (i := 9) (v := .int .i64 ((a : Nat) : Int)) rfl (hdrop 9 (by decide)) (Or.inl ⟨by rfl, ?_⟩) (hS _) ?_
                    · rintro w' ⟨L, hL, hSw, hun⟩
                      go_simp
                    simp only [nA, nB, nC, Act.put, nD, nE, nF]
                    refine WA.tk (i := 10) (v := .pointer (some ⟨g, a, none⟩)) rfl (hdrop 10 (by decide)) (Or.inl ⟨by rfl, ?_⟩) (hS _) ?_
                    · rintro w' ⟨L, hL, hSw, hun⟩
                      go_simp
                      all_goals (intro h5; omega)
                    simp only [nA, nB, nC, Act.put, nD, nE, nF]
                    refine WA.tk (i := 11) (v := .int .u32 d2[a]!) rfl (hdrop 11 (by decide)) (Or.inl ⟨by rfl, ?_⟩) (hS _) ?_
                    · rintro w' ⟨L, hL, hSw, hun⟩
                      obtain rfl := hSo hSw 
                      go_simp
                    simp only [nA, nB, nC, Act.put, nD, nE, nF]
                    refine WA.one (i := 12) (by kernel_rfl) rfl (by rfl) (fun K hK => ?_)
                    go_simp
                    refine (less_u _ _).mono ?_
                    rintro e w_ ⟨rfl, hw_⟩
                    subst hw_
                    rw [hl]
                    refine hK _ _ (hS _) ?_
                    clear hK
                    try simp only [nA, nB, nC, Act.put, nD, nE, nF]
                    refine WA.tk (i := 13) (v := .bool true) rfl (hdrop 13 (by decide)) (Or.inl ⟨by rfl, ?_⟩) (hS _) ?_
                    · rintro w' ⟨L, hL, hSw, hun⟩
                      go_simp
                    simp only [nA, nB, nC, Act.put, nD, nE, nF]
                    refine WA.tk (i := 14) (v := .bool true) rfl (hdrop 14 (by decide)) (Or.inl ⟨by rfl, ?_⟩) (hS _) ?_
                    · rintro w' ⟨L, hL, hSw, hun⟩
                      go_simp
                    simp only [nA, nB, nC, Act.put, nD, nE, nF]
                    refine WA.done (by kernel_rfl) ?_ _
                    refine Nrm.normal ?_
                    clear hSo hS hdrop c0 c1
                    clear S5
                    go_wp2_with fail
                    refine ⟨⟨m2, by first | rfl | (congr 1; push_cast; omega), by omega, by omega, HA_X5.out, by rw [HX5.out]; exact HT5.out.drew, ?_⟩, by simp [intOf]⟩
                    rw [← Hsd2.out, sd_go hle2 (by simp [hl])]
                  · go_wp2_with fail
                    have HA_X5 := Lib.hid (show IsA w5.drew g n cap d2 from HA5.out.stay rfl)
                    have c0 : w5.drew.cell? ⟨g, m2 + 1, none⟩ = some (.int .u32 d2[m2 + 1]!) := (HA_X5.out.at (j := m2 + 1) (by omega)).1
                    have c1 : w5.drew.cell? ⟨g, a, none⟩ = some (.int .u32 d2[a]!) := (HA_X5.out.at (j := a) (by omega)).1
                    obtain ⟨S5, hSe⟩ : ∃ S : Array Bool → World → Prop, S = fun _ w' => w' = w5.drew := ⟨_, rfl⟩
                    have hdrop : ∀ i : Nat, i ≠ 1000 → ∀ L w', S5 (L.setIfInBounds i true) w' → S5 L w' := by
                      intro i _ L w' h; rw [hSe] at h ⊢; exact h
                    have hS : ∀ L, S5 L w5.drew := by intro L; rw [hSe]
                    have hSo : ∀ {L w'}, S5 L w' → w' = w5.drew := by intro L w' h; rw [hSe] at h; exact h
                    clear hSe
                    refine wp_region_LN S5 15 #[false, false, false, false, false, false, false, false, false, false, false, false, false, false, false] (by kernel_rfl) (by kernel_rfl) rfl ?_
                    obtain ⟨X5, hX5⟩ : ∃ X5, X5 = w5.drew := ⟨_, rfl⟩
                    rw [← hX5] at c0 c1 HA_X5 hSo hS ⊢
                    have HX5 := Lib.hid hX5
                    clear hX5
                    refine WA.tk (i := 0) (v := .int .i64 ((i2 : Nat) : Int)) rfl (hdrop 0 (by decide)) (Or.inl ⟨by rfl, ?_⟩) (hS _) ?_
                    · rintro w' ⟨L, hL, hSw, hun⟩
                      go_simp
                    simp only [nA, nB, nC, Act.put, nD, nE, nF]
                    refine WA.tk (i := 1) (v := .int .i64 ((m2 + 1 : Nat) : Int)) rfl (hdrop 1 (by decide)) (Or.inl ⟨by rfl, ?_⟩) (hS _) ?_
                    · rintro w' ⟨L, hL, hSw, hun⟩
                      go_simp
                    simp only [nA, nB, nC, Act.put, nD, nE, nF]
                    refine WA.tk (i := 2) (v := .bool true) rfl (hdrop 2 (by decide)) (Or.inl ⟨by rfl, ?_⟩) (hS _) ?_
                    · rintro w' ⟨L, hL, hSw, hun⟩
                      go_simp
                      all_goals omega
                    simp only [nA, nB, nC, Act.put, nD, nE, nF]
                    refine WA.tk (i := 3) (v := .bool true) rfl (hdrop 3 (by decide)) (Or.inl ⟨by rfl, ?_⟩) (hS _) ?_
                    · rintro w' ⟨L, hL, hSw, hun⟩
                      go_simp
                    simp only [nA, nB, nC, Act.put, nD, nE, nF]
                    refine WA.tk (i := 4) (v := .slice (some ⟨g, 0, none⟩) n cap) rfl (hdrop 4 (by decide)) (Or.inl ⟨by rfl, ?_⟩) (hS _) ?_
                    · rintro w' ⟨L, hL, hSw, hun⟩
                      go_simp
                    simp only [nA, nB, nC, Act.put, nD, nE, nF]
                    refine WA.tk (i := 5) (v := .int .i64 ((m2 + 1 : Nat) : Int)) rfl (hdrop 5 (by decide)) (Or.inl ⟨by rfl, ?_⟩) (hS _) ?_
                    · rintro w' ⟨L, hL, hSw, hun⟩
                      go_simp
                    simp only [nA, nB, nC, Act.put, nD, nE, nF]
                    refine WA.tk (i := 6) (v := .pointer (some ⟨g, m2 + 1, none⟩)) rfl (hdrop 6 (by decide)) (Or.inl ⟨by rfl, ?_⟩) (hS _) ?_
                    · rintro w' ⟨L, hL, hSw, hun⟩
                      go_simp
                      all_goals (intro h5; omega)
                    simp only [nA, nB, nC, Act.put, nD, nE, nF]
                    refine WA.tk (i := 7) (v := .int .u32 d2[m2 + 1]!) rfl (hdrop 7 (by decide)) (Or.inl ⟨by rfl, ?_⟩) (hS _) ?_
                    · rintro w' ⟨L, hL, hSw, hun⟩
                      obtain rfl := hSo hSw 
                      go_simp
                    simp only [nA, nB, nC, Act.put, nD, nE, nF]
                    refine WA.tk (i := 8) (v := .slice (some ⟨g, 0, none⟩) n cap) rfl (hdrop 8 (by decide)) (Or.inl ⟨by rfl, ?_⟩) (hS _) ?_
                    · rintro w' ⟨L, hL, hSw, hun⟩
                      go_simp
                    simp only [nA, nB, nC, Act.put, nD, nE, nF]
                    refine WA.tk (i := 9) (v := .int .i64 ((a : Nat) : Int)) rfl (hdrop 9 (by decide)) (Or.inl ⟨by rfl, ?_⟩) (hS _) ?_
                    · rintro w' ⟨L, hL, hSw, hun⟩
                      go_simp
                    simp only [nA, nB, nC, Act.put, nD, nE, nF]
                    refine WA.tk (i := 10) (v := .pointer (some ⟨g, a, none⟩)) rfl (hdrop 10 (by decide)) (Or.inl ⟨by rfl, ?_⟩) (hS _) ?_
                    · rintro w' ⟨L, hL, hSw, hun⟩
                      go_simp
                      all_goals (intro h5; omega)
                    simp only [nA, nB, nC, Act.put, nD, nE, nF]
                    refine WA.tk (i := 11) (v := .int .u32 d2[a]!) rfl (hdrop 11 (by decide)) (Or.inl ⟨by rfl, ?_⟩) (hS _) ?_
                    · rintro w' ⟨L, hL, hSw, hun⟩
                      obtain rfl := hSo hSw 
                      go_simp
                    simp only [nA, nB, nC, Act.put, nD, nE, nF]
                    refine WA.one (i := 12) (by kernel_rfl) rfl (by rfl) (fun K hK => ?_)
                    go_simp
                    refine (less_u _ _).mono ?_
                    rintro e w_ ⟨rfl, hw_⟩
                    subst hw_
                    rw [hl]
                    refine hK _ _ (hS _) ?_
                    clear hK
                    try simp only [nA, nB, nC, Act.put, nD, nE, nF]
                    refine WA.tk (i := 13) (v := .bool false) rfl (hdrop 13 (by decide)) (Or.inl ⟨by rfl, ?_⟩) (hS _) ?_
                    · rintro w' ⟨L, hL, hSw, hun⟩
                      go_simp
                    simp only [nA, nB, nC, Act.put, nD, nE, nF]
                    refine WA.tk (i := 14) (v := .bool false) rfl (hdrop 14 (by decide)) (Or.inl ⟨by rfl, ?_⟩) (hS _) ?_
                    · rintro w' ⟨L, hL, hSw, hun⟩
                      go_simp
                    simp only [nA, nB, nC, Act.put, nD, nE, nF]
                    refine WA.done (by kernel_rfl) ?_ _
                    refine Nrm.normal ?_
                    clear hSo hS hdrop c0 c1
                    clear S5
                    have hne2 : i2 < m2 + 1 := by
                      rcases Nat.lt_or_eq_of_le hle2 with h5 | h5
                      · exact h5
                      · have := Hl2.out (by omega)
                        rw [h5, hl] at this
                        cases this
                    have hdg : decide ((i2 : Int) > (m2 : Int) + 1) = false := by simp; omega
                    have hdg' : decide ((m2 : Int) + 1 < (i2 : Int)) = false := by simp; omega
                    have Hsj2 := Lib.hid (Hsd2.out.symm.trans (sd_stop (by simp [hl])))
                    clear hl
                    go_wp2_with fail
                    have HTb := Lib.hid (show TnA w X5 g by rw [HX5.out]; exact HT5.out.drew)
                    have HA_X8 := Lib.hid (show IsA X5.drew g n cap d2 from HA_X5.out.stay rfl)
                    have c0 : X5.drew.cell? ⟨g, m2 + 1, none⟩ = some (.int .u32 d2[m2 + 1]!) := (HA_X8.out.at (j := m2 + 1) (by omega)).1
                    have c1 : X5.drew.cell? ⟨g, i2, none⟩ = some (.int .u32 d2[i2]!) := (HA_X8.out.at (j := i2) (by omega)).1
                    obtain ⟨S18, hSe⟩ : ∃ S : Array Bool → World → Prop, S = fun L w' => L.getD 13 true = false → w' = X5.drew := ⟨_, rfl⟩
                    have hdrop : ∀ i, i ≠ 13 → ∀ L w', S18 (L.setIfInBounds i true) w' → S18 L w' := by
                      intro i hi L w'
                      rw [hSe]
                      intro h hl
                      exact h (by rw [getD_set_ne true hi]; exact hl)
                    have hS : ∀ L, S18 L X5.drew := by intro L; rw [hSe]; exact fun _ => rfl
                    have hSo : ∀ {L w'}, S18 L w' → L.getD 13 true = false → w' = X5.drew := by intro L w' h hl; rw [hSe] at h; exact h hl
                    have hSd : ∀ (L : Array Bool) X, L.getD 13 true = true → S18 L X := by
                      intro L X h; rw [hSe]; intro h1; rw [h] at h1; cases h1
                    clear hSe
                    refine wp_region_LN S18 16 #[false, false, false, false, false, false, false, false, false, false, false, false, false, false, false, false] (by kernel_rfl) (by kernel_rfl) rfl ?_
                    obtain ⟨X8, hX8⟩ : ∃ X8, X8 = X5.drew := ⟨_, rfl⟩
                    rw [← hX8] at c0 c1 HA_X8 hSo hS ⊢
                    have HX8 := Lib.hid hX8
                    clear hX8
                    refine WA.tk (i := 0) (v := .slice (some ⟨g, 0, none⟩) n cap) rfl (hdrop 0 (by decide)) (Or.inl ⟨by rfl, ?_⟩) (hS _) ?_
                    · rintro w' ⟨L, hL, hSw, hun⟩
                      go_simp
                    simp only [nA, nB, nC, Act.put, nD, nE, nF]
                    refine WA.tk (i := 1) (v := .int .i64 ((i2 : Nat) : Int)) rfl (hdrop 1 (by decide)) (Or.inl ⟨by rfl, ?_⟩) (hS _) ?_
                    · rintro w' ⟨L, hL, hSw, hun⟩
                      go_simp
                    simp only [nA, nB, nC, Act.put, nD, nE, nF]
                    refine WA.tk (i := 2) (v := .slice (some ⟨g, 0, none⟩) n cap) rfl (hdrop 2 (by decide)) (Or.inl ⟨by rfl, ?_⟩) (hS _) ?_
                    · rintro w' ⟨L, hL, hSw, hun⟩
                      go_simp
                    simp only [nA, nB, nC, Act.put, nD, nE, nF]
                    refine WA.tk (i := 3) (v := .int .i64 ((m2 + 1 : Nat) : Int)) rfl (hdrop 3 (by decide)) (Or.inl ⟨by rfl, ?_⟩) (hS _) ?_
                    · rintro w' ⟨L, hL, hSw, hun⟩
                      go_simp
                    simp only [nA, nB, nC, Act.put, nD, nE, nF]
                    refine WA.tk (i := 4) (v := .slice (some ⟨g, 0, none⟩) n cap) rfl (hdrop 4 (by decide)) (Or.inl ⟨by rfl, ?_⟩) (hS _) ?_
                    · rintro w' ⟨L, hL, hSw, hun⟩
                      go_simp
                    simp only [nA, nB, nC, Act.put, nD, nE, nF]
                    refine WA.tk (i := 5) (v := .int .i64 ((m2 + 1 : Nat) : Int)) rfl (hdrop 5 (by decide)) (Or.inl ⟨by rfl, ?_⟩) (hS _) ?_
                    · rintro w' ⟨L, hL, hSw, hun⟩
                      go_simp
                    simp only [nA, nB, nC, Act.put, nD, nE, nF]
                    refine WA.tk (i := 6) (v := .pointer (some ⟨g, m2 + 1, none⟩)) rfl (hdrop 6 (by decide)) (Or.inl ⟨by rfl, ?_⟩) (hS _) ?_
                    · rintro w' ⟨L, hL, hSw, hun⟩
                      go_simp
                      all_goals (intro h5; omega)
                    simp only [nA, nB, nC, Act.put, nD, nE, nF]
                    refine WA.tk (i := 7) (v := .int .u32 d2[m2 + 1]!) rfl (hdrop 7 (by decide)) (Or.inl ⟨by rfl, ?_⟩) (hS _) ?_
                    · rintro w' ⟨L, hL, hSw, hun⟩
                      obtain rfl := hSo hSw (hL.wait 13 7 (by kernel_rfl) hun)
                      go_simp
                    simp only [nA, nB, nC, Act.put, nD, nE, nF]
                    refine WA.tk (i := 8) (v := .slice (some ⟨g, 0, none⟩) n cap) rfl (hdrop 8 (by decide)) (Or.inl ⟨by rfl, ?_⟩) (hS _) ?_
                    · rintro w' ⟨L, hL, hSw, hun⟩
                      go_simp
                    simp only [nA, nB, nC, Act.put, nD, nE, nF]
                    refine WA.tk (i := 9) (v := .int .i64 ((i2 : Nat) : Int)) rfl (hdrop 9 (by decide)) (Or.inl ⟨by rfl, ?_⟩) (hS _) ?_
                    · rintro w' ⟨L, hL, hSw, hun⟩
                      go_simp
                    simp only [nA, nB, nC, Act.put, nD, nE, nF]
                    refine WA.tk (i := 10) (v := .pointer (some ⟨g, i2, none⟩)) rfl (hdrop 10 (by decide)) (Or.inl ⟨by rfl, ?_⟩) (hS _) ?_
                    · rintro w' ⟨L, hL, hSw, hun⟩
                      go_simp
                      all_goals (intro h5; omega)
                    simp only [nA, nB, nC, Act.put, nD, nE, nF]
                    refine WA.tk (i := 11) (v := .int .u32 d2[i2]!) rfl (hdrop 11 (by decide)) (Or.inl ⟨by rfl, ?_⟩) (hS _) ?_
                    · rintro w' ⟨L, hL, hSw, hun⟩
                      obtain rfl := hSo hSw (hL.wait 13 11 (by kernel_rfl) hun)
                      go_simp
                    simp only [nA, nB, nC, Act.put, nD, nE, nF]
                    refine WA.tk (i := 12) (v := .pointer (some ⟨g, i2, none⟩)) rfl (hdrop 12 (by decide)) (Or.inl ⟨by rfl, ?_⟩) (hS _) ?_
                    · rintro w' ⟨L, hL, hSw, hun⟩
                      go_simp
                      all_goals (intro h5; omega)
                    simp only [nA, nB, nC, Act.put, nD, nE, nF]
                    obtain ⟨cx, fx⟩ := HA_X8.out.at (j := i2) (by omega)
                    obtain ⟨cy, fy⟩ := (HA_X8.out.set (j := i2) (by omega) d2[m2 + 1]!).at (j := m2 + 1) (by omega)
                    refine WA.one (i := 13) (by kernel_rfl) rfl (by rfl) (fun K hK => ?_)
                    go_simp
                    refine hK _ _ (hSd _ _ (by rfl)) ?_
                    clear hK
                    try simp only [nA, nB, nC, Act.put, nD, nE, nF]
                    refine WA.tk (i := 14) (v := .pointer (some ⟨g, m2 + 1, none⟩)) rfl (hdrop 14 (by decide)) (Or.inl ⟨by rfl, ?_⟩) (hSd _ _ (by rfl)) ?_
                    · rintro w' ⟨L, hL, hSw, hun⟩
                      go_simp
                      all_goals (intro h5; omega)
                    simp only [nA, nB, nC, Act.put, nD, nE, nF]
                    refine WA.one (i := 15) (by kernel_rfl) rfl (by rfl) (fun K hK => ?_)
                    go_simp
                    refine hK _ _ (hSd _ _ (by rfl)) ?_
                    clear hK
                    try simp only [nA, nB, nC, Act.put, nD, nE, nF]
                    refine WA.done (by kernel_rfl) ?_ _
                    refine Nrm.normal ?_
                    clear hSo hS hdrop c0 c1 hSd cx fx cy fy
                    clear S18
                    have HA9 := Lib.hid (HA_X8.out.swp (i := i2) (j := m2 + 1) (by omega) (by omega))
                    have hts := HTb.out.drew
                    rw [← HX8.out] at hts
                    have HT9 := Lib.hid ((hts.set (i2) (.int .u32 d2[m2 + 1]!)).set (m2 + 1) (.int .u32 d2[i2]!))
                    clear hts
                    generalize (X8.setCell ⟨g, i2, none⟩ (.int .u32 d2[m2 + 1]!)).setCell ⟨g, m2 + 1, none⟩ (.int .u32 d2[i2]!) = w9 at *
                    go_wp2_with fail
                    refine ⟨⟨i2 + 1, m2, swp d2 i2 (m2 + 1), by push_cast; rfl, by first | rfl | (congr 1; push_cast; omega), by omega, by omega, by omega, HA9.out, HT9.out, ?_⟩, by simp [intOf]; omega⟩
                    rw [← He.out, pl_go Hsu2.out Hsj2.out hne2 hii2 hjj2]
                    rfl
                · have hdl2 : decide ((i2 : Int) ≤ (j2 : Int)) = false := by simp; omega
                  go_wp2_with fail
                  have HA_X5 := Lib.hid (show IsA w5.drew g n cap d2 from HA5.out.stay rfl)
                  obtain ⟨S5, hSe⟩ : ∃ S : Array Bool → World → Prop, S = fun _ w' => w' = w5.drew := ⟨_, rfl⟩
                  have hdrop : ∀ i : Nat, i ≠ 1000 → ∀ L w', S5 (L.setIfInBounds i true) w' → S5 L w' := by
                    intro i _ L w' h; rw [hSe] at h ⊢; exact h
                  have hS : ∀ L, S5 L w5.drew := by intro L; rw [hSe]
                  have hSo : ∀ {L w'}, S5 L w' → w' = w5.drew := by intro L w' h; rw [hSe] at h; exact h
                  clear hSe
                  refine wp_region_LN S5 15 #[false, false, false, false, false, false, false, false, false, false, false, false, false, false, false] (by kernel_rfl) (by kernel_rfl) rfl ?_
                  obtain ⟨X5, hX5⟩ : ∃ X5, X5 = w5.drew := ⟨_, rfl⟩
                  rw [← hX5] at  HA_X5 hSo hS ⊢
                  have HX5 := Lib.hid hX5
                  clear hX5
                  refine WA.tk (i := 0) (v := .int .i64 ((i2 : Nat) : Int)) rfl (hdrop 0 (by decide)) (Or.inl ⟨by rfl, ?_⟩) (hS _) ?_
                  · rintro w' ⟨L, hL, hSw, hun⟩
                    go_simp
                  simp only [nA, nB, nC, Act.put, nD, nE, nF]
                  refine WA.tk (i := 1) (v := .int .i64 ((j2 : Nat) : Int)) rfl (hdrop 1 (by decide)) (Or.inl ⟨by rfl, ?_⟩) (hS _) ?_
                  · rintro w' ⟨L, hL, hSw, hun⟩
                    go_simp
                  simp only [nA, nB, nC, Act.put, nD, nE, nF]
                  refine WA.tk (i := 2) (v := .bool false) rfl (hdrop 2 (by decide)) (Or.inl ⟨by rfl, ?_⟩) (hS _) ?_
                  · rintro w' ⟨L, hL, hSw, hun⟩
                    go_simp
                    all_goals omega
                  simp only [nA, nB, nC, Act.put, nD, nE, nF]
                  refine WA.tk (i := 3) (v := .bool false) rfl (hdrop 3 (by decide)) (Or.inl ⟨by rfl, ?_⟩) (hS _) ?_
                  · rintro w' ⟨L, hL, hSw, hun⟩
                    go_simp
                  simp only [nA, nB, nC, Act.put, nD, nE, nF]
                  refine WA.tk (i := 4) (v := undef) rfl (hdrop 4 (by decide)) (Or.inr ⟨by rfl, rfl⟩) (hS _) ?_
                  simp only [nA, nB, nC, Act.put, nD, nE, nF]
                  refine WA.tk (i := 5) (v := undef) rfl (hdrop 5 (by decide)) (Or.inr ⟨by rfl, rfl⟩) (hS _) ?_
                  simp only [nA, nB, nC, Act.put, nD, nE, nF]
                  refine WA.tk (i := 6) (v := undef) rfl (hdrop 6 (by decide)) (Or.inr ⟨by rfl, rfl⟩) (hS _) ?_
                  simp only [nA, nB, nC, Act.put, nD, nE, nF]
                  refine WA.tk (i := 7) (v := undef) rfl (hdrop 7 (by decide)) (Or.inr ⟨by rfl, rfl⟩) (hS _) ?_
                  simp only [nA, nB, nC, Act.put, nD, nE, nF]
                  refine WA.tk (i := 8) (v := undef) rfl (hdrop 8 (by decide)) (Or.inr ⟨by rfl, rfl⟩) (hS _) ?_
                  simp only [nA, nB, nC, Act.put, nD, nE, nF]
                  refine WA.tk (i := 9) (v := undef) rfl (hdrop 9 (by decide)) (Or.inr ⟨by rfl, rfl⟩) (hS _) ?_
                  simp only [nA, nB, nC, Act.put, nD, nE, nF]
                  refine WA.tk (i := 10) (v := undef) rfl (hdrop 10 (by decide)) (Or.inr ⟨by rfl, rfl⟩) (hS _) ?_
                  simp only [nA, nB, nC, Act.put, nD, nE, nF]
                  refine WA.tk (i := 11) (v := undef) rfl (hdrop 11 (by decide)) (Or.inr ⟨by rfl, rfl⟩) (hS _) ?_
                  simp only [nA, nB, nC, Act.put, nD, nE, nF]
                  refine WA.skip (i := 12) (by kernel_rfl) rfl (by rfl) (hS _) ?_
                  simp only [nA, nB, nC, Act.put, nD, nE, nF]
                  refine WA.tk (i := 13) (v := undef) rfl (hdrop 13 (by decide)) (Or.inr ⟨by rfl, rfl⟩) (hS _) ?_
                  simp only [nA, nB, nC, Act.put, nD, nE, nF]
                  refine WA.tk (i := 14) (v := .bool false) rfl (hdrop 14 (by decide)) (Or.inl ⟨by rfl, ?_⟩) (hS _) ?_
                  · rintro w' ⟨L, hL, hSw, hun⟩
                    go_simp
                  simp only [nA, nB, nC, Act.put, nD, nE, nF]
                  refine WA.done (by kernel_rfl) ?_ _
                  refine Nrm.normal ?_
                  clear hSo hS hdrop 
                  clear S5
                  have hdg : decide ((i2 : Int) > (j2 : Int)) = true := by simp; omega
                  have hdg' : decide ((j2 : Int) < (i2 : Int)) = true := by simp; omega
                  have Hsj2 := Lib.hid (Hsd2.out.symm.trans (sd_end hle2))
                  go_wp2_with fail
                  have HTb := Lib.hid (show TnA w X5 g by rw [HX5.out]; exact HT5.out.drew)
                  have HA_X8 := Lib.hid (show IsA X5.drew g n cap d2 from HA_X5.out.stay rfl)
                  have c0 : X5.drew.cell? ⟨g, a, none⟩ = some (.int .u32 d2[a]!) := (HA_X8.out.at (j := a) (by omega)).1
                  have c1 : X5.drew.cell? ⟨g, j2, none⟩ = some (.int .u32 d2[j2]!) := (HA_X8.out.at (j := j2) (by omega)).1
                  obtain ⟨S21, hSe⟩ : ∃ S : Array Bool → World → Prop, S = fun L w' => L.getD 13 true = false → w' = X5.drew := ⟨_, rfl⟩
                  have hdrop : ∀ i, i ≠ 13 → ∀ L w', S21 (L.setIfInBounds i true) w' → S21 L w' := by
                    intro i hi L w'
                    rw [hSe]
                    intro h hl
                    exact h (by rw [getD_set_ne true hi]; exact hl)
                  have hS : ∀ L, S21 L X5.drew := by intro L; rw [hSe]; exact fun _ => rfl
                  have hSo : ∀ {L w'}, S21 L w' → L.getD 13 true = false → w' = X5.drew := by intro L w' h hl; rw [hSe] at h; exact h hl
                  have hSd : ∀ (L : Array Bool) X, L.getD 13 true = true → S21 L X := by
                    intro L X h; rw [hSe]; intro h1; rw [h] at h1; cases h1
                  clear hSe
                  refine wp_region_LN S21 16 #[false, false, false, false, false, false, false, false, false, false, false, false, false, false, false, false] (by kernel_rfl) (by kernel_rfl) rfl ?_
                  obtain ⟨X8, hX8⟩ : ∃ X8, X8 = X5.drew := ⟨_, rfl⟩
                  rw [← hX8] at c0 c1 HA_X8 hSo hS ⊢
                  have HX8 := Lib.hid hX8
                  clear hX8
                  refine WA.tk (i := 0) (v := .slice (some ⟨g, 0, none⟩) n cap) rfl (hdrop 0 (by decide)) (Or.inl ⟨by rfl, ?_⟩) (hS _) ?_
                  · rintro w' ⟨L, hL, hSw, hun⟩
                    go_simp
                  simp only [nA, nB, nC, Act.put, nD, nE, nF]
                  refine WA.tk (i := 1) (v := .int .i64 ((j2 : Nat) : Int)) rfl (hdrop 1 (by decide)) (Or.inl ⟨by rfl, ?_⟩) (hS _) ?_
                  · rintro w' ⟨L, hL, hSw, hun⟩
                    go_simp
                  simp only [nA, nB, nC, Act.put, nD, nE, nF]
                  refine WA.tk (i := 2) (v := .slice (some ⟨g, 0, none⟩) n cap) rfl (hdrop 2 (by decide)) (Or.inl ⟨by rfl, ?_⟩) (hS _) ?_
                  · rintro w' ⟨L, hL, hSw, hun⟩
                    go_simp
                  simp only [nA, nB, nC, Act.put, nD, nE, nF]
                  refine WA.tk (i := 3) (v := .int .i64 ((a : Nat) : Int)) rfl (hdrop 3 (by decide)) (Or.inl ⟨by rfl, ?_⟩) (hS _) ?_
                  · rintro w' ⟨L, hL, hSw, hun⟩
                    go_simp
                  simp only [nA, nB, nC, Act.put, nD, nE, nF]
                  refine WA.tk (i := 4) (v := .slice (some ⟨g, 0, none⟩) n cap) rfl (hdrop 4 (by decide)) (Or.inl ⟨by rfl, ?_⟩) (hS _) ?_
                  · rintro w' ⟨L, hL, hSw, hun⟩
                    go_simp
                  simp only [nA, nB, nC, Act.put, nD, nE, nF]
                  refine WA.tk (i := 5) (v := .int .i64 ((a : Nat) : Int)) rfl (hdrop 5 (by decide)) (Or.inl ⟨by rfl, ?_⟩) (hS _) ?_
                  · rintro w' ⟨L, hL, hSw, hun⟩
                    go_simp
                  simp only [nA, nB, nC, Act.put, nD, nE, nF]
                  refine WA.tk (i := 6) (v := .pointer (some ⟨g, a, none⟩)) rfl (hdrop 6 (by decide)) (Or.inl ⟨by rfl, ?_⟩) (hS _) ?_
                  · rintro w' ⟨L, hL, hSw, hun⟩
                    go_simp
                    all_goals (intro h5; omega)
                  simp only [nA, nB, nC, Act.put, nD, nE, nF]
                  refine WA.tk (i := 7) (v := .int .u32 d2[a]!) rfl (hdrop 7 (by decide)) (Or.inl ⟨by rfl, ?_⟩) (hS _) ?_
                  · rintro w' ⟨L, hL, hSw, hun⟩
                    obtain rfl := hSo hSw (hL.wait 13 7 (by kernel_rfl) hun)
                    go_simp
                  simp only [nA, nB, nC, Act.put, nD, nE, nF]
                  refine WA.tk (i := 8) (v := .slice (some ⟨g, 0, none⟩) n cap) rfl (hdrop 8 (by decide)) (Or.inl ⟨by rfl, ?_⟩) (hS _) ?_
                  · rintro w' ⟨L, hL, hSw, hun⟩
                    go_simp
                  simp only [nA, nB, nC, Act.put, nD, nE, nF]
                  refine WA.tk (i := 9) (v := .int .i64 ((j2 : Nat) : Int)) rfl (hdrop 9 (by decide)) (Or.inl ⟨by rfl, ?_⟩) (hS _) ?_
                  · rintro w' ⟨L, hL, hSw, hun⟩
                    go_simp
                  simp only [nA, nB, nC, Act.put, nD, nE, nF]
                  refine WA.tk (i := 10) (v := .pointer (some ⟨g, j2, none⟩)) rfl (hdrop 10 (by decide)) (Or.inl ⟨by rfl, ?_⟩) (hS _) ?_
                  · rintro w' ⟨L, hL, hSw, hun⟩
                    go_simp
                    all_goals (intro h5; omega)
                  simp only [nA, nB, nC, Act.put, nD, nE, nF]
                  refine WA.tk (i := 11) (v := .int .u32 d2[j2]!) rfl (hdrop 11 (by decide)) (Or.inl ⟨by rfl, ?_⟩) (hS _) ?_
                  · rintro w' ⟨L, hL, hSw, hun⟩
                    obtain rfl := hSo hSw (hL.wait 13 11 (by kernel_rfl) hun)
                    go_simp
                  simp only [nA, nB, nC, Act.put, nD, nE, nF]
                  refine WA.tk (i := 12) (v := .pointer (some ⟨g, j2, none⟩)) rfl (hdrop 12 (by decide)) (Or.inl ⟨by rfl, ?_⟩) (hS _) ?_
                  · rintro w' ⟨L, hL, hSw, hun⟩
                    go_simp
                    all_goals (intro h5; omega)
                  simp only [nA, nB, nC, Act.put, nD, nE, nF]
                  obtain ⟨cx, fx⟩ := HA_X8.out.at (j := j2) (by omega)
                  obtain ⟨cy, fy⟩ := (HA_X8.out.set (j := j2) (by omega) d2[a]!).at (j := a) (by omega)
                  refine WA.one (i := 13) (by kernel_rfl) rfl (by rfl) (fun K hK => ?_)
                  go_simp
                  refine hK _ _ (hSd _ _ (by rfl)) ?_
                  clear hK
                  try simp only [nA, nB, nC, Act.put, nD, nE, nF]
                  refine WA.tk (i := 14) (v := .pointer (some ⟨g, a, none⟩)) rfl (hdrop 14 (by decide)) (Or.inl ⟨by rfl, ?_⟩) (hSd _ _ (by rfl)) ?_
                  · rintro w' ⟨L, hL, hSw, hun⟩
                    go_simp
                    all_goals (intro h5; omega)
                  simp only [nA, nB, nC, Act.put, nD, nE, nF]
                  refine WA.one (i := 15) (by kernel_rfl) rfl (by rfl) (fun K hK => ?_)
                  go_simp
                  refine hK _ _ (hSd _ _ (by rfl)) ?_
                  clear hK
                  try simp only [nA, nB, nC, Act.put, nD, nE, nF]
                  refine WA.done (by kernel_rfl) ?_ _
                  refine Nrm.normal ?_
                  clear hSo hS hdrop c0 c1 hSd cx fx cy fy
                  clear S21
                  have HA9 := Lib.hid (HA_X8.out.swp (i := j2) (j := a) (by omega) (by omega))
                  have hts := HTb.out.drew
                  rw [← HX8.out] at hts
                  have HT9 := Lib.hid ((hts.set (j2) (.int .u32 d2[a]!)).set (a) (.int .u32 d2[j2]!))
                  clear hts
                  generalize (X8.setCell ⟨g, j2, none⟩ (.int .u32 d2[a]!)).setCell ⟨g, a, none⟩ (.int .u32 d2[j2]!) = w9 at *
                  go_wp2_with fail
                  go_ret2
                  have hpl := pl_break Hsu2.out Hsj2.out (show i2 > j2 by omega)
                  rw [He.out] at hpl
                  rw [Hpt.out, hpl]
                  exact ⟨rfl, HA9.out, HT9.out⟩
      · have hdl2 : decide ((i1 : Int) ≤ (j1 : Int)) = false := by simp; omega
        go_wp2_with fail
        have HA_X5 := Lib.hid (show IsA w5.drew g n cap d1 from HA5.out.stay rfl)
        obtain ⟨S5, hSe⟩ : ∃ S : Array Bool → World → Prop, S = fun _ w' => w' = w5.drew := ⟨_, rfl⟩
        have hdrop : ∀ i : Nat, i ≠ 1000 → ∀ L w', S5 (L.setIfInBounds i true) w' → S5 L w' := by
          intro i _ L w' h; rw [hSe] at h ⊢; exact h
        have hS : ∀ L, S5 L w5.drew := by intro L; rw [hSe]
        have hSo : ∀ {L w'}, S5 L w' → w' = w5.drew := by intro L w' h; rw [hSe] at h; exact h
        clear hSe
        refine wp_region_LN S5 15 #[false, false, false, false, false, false, false, false, false, false, false, false, false, false, false] (by kernel_rfl) (by kernel_rfl) rfl ?_
        obtain ⟨X5, hX5⟩ : ∃ X5, X5 = w5.drew := ⟨_, rfl⟩
        rw [← hX5] at  HA_X5 hSo hS ⊢
        have HX5 := Lib.hid hX5
        clear hX5
        refine WA.tk (i := 0) (v := .int .i64 ((i1 : Nat) : Int)) rfl (hdrop 0 (by decide)) (Or.inl ⟨by rfl, ?_⟩) (hS _) ?_
        · rintro w' ⟨L, hL, hSw, hun⟩
          go_simp
        simp only [nA, nB, nC, Act.put, nD, nE, nF]
        refine WA.tk (i := 1) (v := .int .i64 ((j1 : Nat) : Int)) rfl (hdrop 1 (by decide)) (Or.inl ⟨by rfl, ?_⟩) (hS _) ?_
        · rintro w' ⟨L, hL, hSw, hun⟩
          go_simp
        simp only [nA, nB, nC, Act.put, nD, nE, nF]
        refine WA.tk (i := 2) (v := .bool false) rfl (hdrop 2 (by decide)) (Or.inl ⟨by rfl, ?_⟩) (hS _) ?_
        · rintro w' ⟨L, hL, hSw, hun⟩
          go_simp
          all_goals omega
        simp only [nA, nB, nC, Act.put, nD, nE, nF]
        refine WA.tk (i := 3) (v := .bool false) rfl (hdrop 3 (by decide)) (Or.inl ⟨by rfl, ?_⟩) (hS _) ?_
        · rintro w' ⟨L, hL, hSw, hun⟩
          go_simp
        simp only [nA, nB, nC, Act.put, nD, nE, nF]
        refine WA.tk (i := 4) (v := undef) rfl (hdrop 4 (by decide)) (Or.inr ⟨by rfl, rfl⟩) (hS _) ?_
        simp only [nA, nB, nC, Act.put, nD, nE, nF]
        refine WA.tk (i := 5) (v := undef) rfl (hdrop 5 (by decide)) (Or.inr ⟨by rfl, rfl⟩) (hS _) ?_
        simp only [nA, nB, nC, Act.put, nD, nE, nF]
        refine WA.tk (i := 6) (v := undef) rfl (hdrop 6 (by decide)) (Or.inr ⟨by rfl, rfl⟩) (hS _) ?_
        simp only [nA, nB, nC, Act.put, nD, nE, nF]
        refine WA.tk (i := 7) (v := undef) rfl (hdrop 7 (by decide)) (Or.inr ⟨by rfl, rfl⟩) (hS _) ?_
        simp only [nA, nB, nC, Act.put, nD, nE, nF]
        refine WA.tk (i := 8) (v := undef) rfl (hdrop 8 (by decide)) (Or.inr ⟨by rfl, rfl⟩) (hS _) ?_
        simp only [nA, nB, nC, Act.put, nD, nE, nF]
        refine WA.tk (i := 9) (v := undef) rfl (hdrop 9 (by decide)) (Or.inr ⟨by rfl, rfl⟩) (hS _) ?_
        simp only [nA, nB, nC, Act.put, nD, nE, nF]
        refine WA.tk (i := 10) (v := undef) rfl (hdrop 10 (by decide)) (Or.inr ⟨by rfl, rfl⟩) (hS _) ?_
        simp only [nA, nB, nC, Act.put, nD, nE, nF]
        refine WA.tk (i := 11) (v := undef) rfl (hdrop 11 (by decide)) (Or.inr ⟨by rfl, rfl⟩) (hS _) ?_
        simp only [nA, nB, nC, Act.put, nD, nE, nF]
        refine WA.skip (i := 12) (by kernel_rfl) rfl (by rfl) (hS _) ?_
        simp only [nA, nB, nC, Act.put, nD, nE, nF]
        refine WA.tk (i := 13) (v := undef) rfl (hdrop 13 (by decide)) (Or.inr ⟨by rfl, rfl⟩) (hS _) ?_
        simp only [nA, nB, nC, Act.put, nD, nE, nF]
        refine WA.tk (i := 14) (v := .bool false) rfl (hdrop 14 (by decide)) (Or.inl ⟨by rfl, ?_⟩) (hS _) ?_
        · rintro w' ⟨L, hL, hSw, hun⟩
          go_simp
        simp only [nA, nB, nC, Act.put, nD, nE, nF]
        refine WA.done (by kernel_rfl) ?_ _
        refine Nrm.normal ?_
        clear hSo hS hdrop 
        clear S5
        have hdg : decide ((i1 : Int) > (j1 : Int)) = true := by simp; omega
        have hdg' : decide ((j1 : Int) < (i1 : Int)) = true := by simp; omega
        have Hsj1 := Lib.hid (Hsd1.out.symm.trans (sd_end hle2))
        go_wp2_with fail
        have HTb := Lib.hid (show TnA w X5 g by rw [HX5.out]; exact HT5.out.drew)
        have HA_X8 := Lib.hid (show IsA X5.drew g n cap d1 from HA_X5.out.stay rfl)
        have c0 : X5.drew.cell? ⟨g, a, none⟩ = some (.int .u32 d1[a]!) := (HA_X8.out.at (j := a) (by omega)).1
        have c1 : X5.drew.cell? ⟨g, j1, none⟩ = some (.int .u32 d1[j1]!) := (HA_X8.out.at (j := j1) (by omega)).1
        obtain ⟨S8, hSe⟩ : ∃ S : Array Bool → World → Prop, S = fun L w' => L.getD 13 true = false → w' = X5.drew := ⟨_, rfl⟩
        have hdrop : ∀ i, i ≠ 13 → ∀ L w', S8 (L.setIfInBounds i true) w' → S8 L w' := by
          intro i hi L w'
          rw [hSe]
          intro h hl
          exact h (by rw [getD_set_ne true hi]; exact hl)
        have hS : ∀ L, S8 L X5.drew := by intro L; rw [hSe]; exact fun _ => rfl
        have hSo : ∀ {L w'}, S8 L w' → L.getD 13 true = false → w' = X5.drew := by intro L w' h hl; rw [hSe] at h; exact h hl
        have hSd : ∀ (L : Array Bool) X, L.getD 13 true = true → S8 L X := by
          intro L X h; rw [hSe]; intro h1; rw [h] at h1; cases h1
        clear hSe
        refine wp_region_LN S8 16 #[false, false, false, false, false, false, false, false, false, false, false, false, false, false, false, false] (by kernel_rfl) (by kernel_rfl) rfl ?_
        obtain ⟨X8, hX8⟩ : ∃ X8, X8 = X5.drew := ⟨_, rfl⟩
        rw [← hX8] at c0 c1 HA_X8 hSo hS ⊢
        have HX8 := Lib.hid hX8
        clear hX8
        refine WA.tk (i := 0) (v := .slice (some ⟨g, 0, none⟩) n cap) rfl (hdrop 0 (by decide)) (Or.inl ⟨by rfl, ?_⟩) (hS _) ?_
        · rintro w' ⟨L, hL, hSw, hun⟩
          go_simp
        simp only [nA, nB, nC, Act.put, nD, nE, nF]
        refine WA.tk (i := 1) (v := .int .i64 ((j1 : Nat) : Int)) rfl (hdrop 1 (by decide)) (Or.inl ⟨by rfl, ?_⟩) (hS _) ?_
        · rintro w' ⟨L, hL, hSw, hun⟩
          go_simp
        simp only [nA, nB, nC, Act.put, nD, nE, nF]
        refine WA.tk (i := 2) (v := .slice (some ⟨g, 0, none⟩) n cap) rfl (hdrop 2 (by decide)) (Or.inl ⟨by rfl, ?_⟩) (hS _) ?_
        · rintro w' ⟨L, hL, hSw, hun⟩
          go_simp
        simp only [nA, nB, nC, Act.put, nD, nE, nF]
        refine WA.tk (i := 3) (v := .int .i64 ((a : Nat) : Int)) rfl (hdrop 3 (by decide)) (Or.inl ⟨by rfl, ?_⟩) (hS _) ?_
        · rintro w' ⟨L, hL, hSw, hun⟩
          go_simp
        simp only [nA, nB, nC, Act.put, nD, nE, nF]
        refine WA.tk (i := 4) (v := .slice (some ⟨g, 0, none⟩) n cap) rfl (hdrop 4 (by decide)) (Or.inl ⟨by rfl, ?_⟩) (hS _) ?_
        · rintro w' ⟨L, hL, hSw, hun⟩
          go_simp
        simp only [nA, nB, nC, Act.put, nD, nE, nF]
        refine WA.tk (i := 5) (v := .int .i64 ((a : Nat) : Int)) rfl (hdrop 5 (by decide)) (Or.inl ⟨by rfl, ?_⟩) (hS _) ?_
        · rintro w' ⟨L, hL, hSw, hun⟩
          go_simp
        simp only [nA, nB, nC, Act.put, nD, nE, nF]
        refine WA.tk (i := 6) (v := .pointer (some ⟨g, a, none⟩)) rfl (hdrop 6 (by decide)) (Or.inl ⟨by rfl, ?_⟩) (hS _) ?_
        · rintro w' ⟨L, hL, hSw, hun⟩
          go_simp
          all_goals (intro h5; omega)
        simp only [nA, nB, nC, Act.put, nD, nE, nF]
        refine WA.tk (i := 7) (v := .int .u32 d1[a]!) rfl (hdrop 7 (by decide)) (Or.inl ⟨by rfl, ?_⟩) (hS _) ?_
        · rintro w' ⟨L, hL, hSw, hun⟩
          obtain rfl := hSo hSw (hL.wait 13 7 (by kernel_rfl) hun)
          go_simp
        simp only [nA, nB, nC, Act.put, nD, nE, nF]
        refine WA.tk (i := 8) (v := .slice (some ⟨g, 0, none⟩) n cap) rfl (hdrop 8 (by decide)) (Or.inl ⟨by rfl, ?_⟩) (hS _) ?_
        · rintro w' ⟨L, hL, hSw, hun⟩
          go_simp
        simp only [nA, nB, nC, Act.put, nD, nE, nF]
        refine WA.tk (i := 9) (v := .int .i64 ((j1 : Nat) : Int)) rfl (hdrop 9 (by decide)) (Or.inl ⟨by rfl, ?_⟩) (hS _) ?_
        · rintro w' ⟨L, hL, hSw, hun⟩
          go_simp
        simp only [nA, nB, nC, Act.put, nD, nE, nF]
        refine WA.tk (i := 10) (v := .pointer (some ⟨g, j1, none⟩)) rfl (hdrop 10 (by decide)) (Or.inl ⟨by rfl, ?_⟩) (hS _) ?_
        · rintro w' ⟨L, hL, hSw, hun⟩
          go_simp
          all_goals (intro h5; omega)
        simp only [nA, nB, nC, Act.put, nD, nE, nF]
        refine WA.tk (i := 11) (v := .int .u32 d1[j1]!) rfl (hdrop 11 (by decide)) (Or.inl ⟨by rfl, ?_⟩) (hS _) ?_
        · rintro w' ⟨L, hL, hSw, hun⟩
          obtain rfl := hSo hSw (hL.wait 13 11 (by kernel_rfl) hun)
          go_simp
        simp only [nA, nB, nC, Act.put, nD, nE, nF]
        refine WA.tk (i := 12) (v := .pointer (some ⟨g, j1, none⟩)) rfl (hdrop 12 (by decide)) (Or.inl ⟨by rfl, ?_⟩) (hS _) ?_
        · rintro w' ⟨L, hL, hSw, hun⟩
          go_simp
          all_goals (intro h5; omega)
        simp only [nA, nB, nC, Act.put, nD, nE, nF]
        obtain ⟨cx, fx⟩ := HA_X8.out.at (j := j1) (by omega)
        obtain ⟨cy, fy⟩ := (HA_X8.out.set (j := j1) (by omega) d1[a]!).at (j := a) (by omega)
        refine WA.one (i := 13) (by kernel_rfl) rfl (by rfl) (fun K hK => ?_)
        go_simp
        refine hK _ _ (hSd _ _ (by rfl)) ?_
        clear hK
        try simp only [nA, nB, nC, Act.put, nD, nE, nF]
        refine WA.tk (i := 14) (v := .pointer (some ⟨g, a, none⟩)) rfl (hdrop 14 (by decide)) (Or.inl ⟨by rfl, ?_⟩) (hSd _ _ (by rfl)) ?_
        · rintro w' ⟨L, hL, hSw, hun⟩
          go_simp
          all_goals (intro h5; omega)
        simp only [nA, nB, nC, Act.put, nD, nE, nF]
        refine WA.one (i := 15) (by kernel_rfl) rfl (by rfl) (fun K hK => ?_)
        go_simp
        refine hK _ _ (hSd _ _ (by rfl)) ?_
        clear hK
        try simp only [nA, nB, nC, Act.put, nD, nE, nF]
        refine WA.done (by kernel_rfl) ?_ _
        refine Nrm.normal ?_
        clear hSo hS hdrop c0 c1 hSd cx fx cy fy
        clear S8
        have HA9 := Lib.hid (HA_X8.out.swp (i := j1) (j := a) (by omega) (by omega))
        have hts := HTb.out.drew
        rw [← HX8.out] at hts
        have HT9 := Lib.hid ((hts.set (j1) (.int .u32 d1[a]!)).set (a) (.int .u32 d1[j1]!))
        clear hts
        generalize (X8.setCell ⟨g, j1, none⟩ (.int .u32 d1[a]!)).setCell ⟨g, a, none⟩ (.int .u32 d1[j1]!) = w9 at *
        go_wp2_with fail
        go_ret2
        rw [pt_break (b := bm + 1) He0.out Hsu1.out Hsj1.out (show i1 > j1 by omega)]
        exact ⟨rfl, HA9.out, HT9.out⟩
end
end Go.Proofs.Ytghihhjcoilmgaa
