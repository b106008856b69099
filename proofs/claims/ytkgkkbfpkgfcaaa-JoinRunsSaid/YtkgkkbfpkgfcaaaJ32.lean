/- Layer 14: Go at a plan's end, walked. -/
import Derived.Test.YtkgkkbfpkgfcaaaJ31
namespace Go.Proofs.Ytkgkkbfpkgfcaaa
set_option maxRecDepth 100000
open Go.RowKit Go.Maps
set_option linter.unusedVariables false
set_option linter.unusedSimpArgs false

set_option maxRecDepth 100000 in
set_option maxHeartbeats 8000000 in
theorem go_end {E : GoE} (hE : GoOK E) : GoC E E.steps.length := by
  intro m b bv w ov acc k hg hb hbl hm ho hk
  rw [stepE_end] at ho hk ⊢
  obtain ⟨n, hn⟩ : ∃ n, E.steps.length = n := ⟨_, rfl⟩
  obtain ⟨ob, q, hov⟩ := own_anyJ hg.oo.1
  obtain ⟨ba, bq, hbv⟩ := own_anyJ hb
  obtain ⟨al, hal⟩ : ∃ al, acc.length = al := ⟨_, rfl⟩
  obtain ⟨bl, hbl2⟩ : ∃ bl, b.length = bl := ⟨_, rfl⟩
  obtain ⟨c0, c7, c9, c10, c11, c12, c13, cf⟩ := hg.c
  have cf10 := cf 10
  have hn6 := hE.n
  have hv6 := hE.vars
  obtain ⟨iu, hiu, hz0, hz1, hz2⟩ := info_parts Try.infoU
  have Hi := Lib.hid hiu; have Hj0 := Lib.hid hz0; have Hj1 := Lib.hid hz1; have Hj2 := Lib.hid hz2
  rw [hn] at c7 hn6 ⊢
  rw [hal] at hov ho
  rw [hbl2] at hbv hbl
  subst hov hbv
  have HG := Lib.hid hg; have HB := Lib.hid hb; have Hal := Lib.hid hal; have Hbl := Lib.hid hbl2; have Hn := Lib.hid hn
  have hbl6 : bl ≤ 1000 := by omega
  have hal6 : al + 1 ≤ 1000000 := by simpa [outsE] using ho
  clear hg hb hal hbl2 hn hbl cf ho hk hiu hz0 hz1 hz2
  go_enter Try.func13, Try.ntmps13
  go_wp2_with fail
  have c10 : w.drew.cell? ⟨E.gb, 10, none⟩ = _ := c10
  have HGd := Lib.hid (HG.out.below (Below.refl _ w).drew)
  have HBd := Lib.hid (own_below HB.out (Below.refl _ w).drew)
  have HBl := Lib.hid (Below.refl w.heap.size w).drew
  obtain ⟨S2, hSe⟩ : ∃ S : Array Bool → World → Prop, S = fun L w' => L.getD 8 true = false → Below w.drew.heap.size w.drew w' := ⟨_, rfl⟩
  have hdrop : ∀ i, i ≠ 8 → ∀ L w', S2 (L.setIfInBounds i true) w' → S2 L w' := by
    intro i hi L w'
    rw [hSe]
    intro h hl
    exact h (by rw [getD_set_ne true hi]; exact hl)
  have hS : ∀ L, S2 L w.drew := by intro L; rw [hSe]; exact fun _ => Below.refl _ _
  have hSo : ∀ {L w'}, S2 L w' → L.getD 8 true = false → Below w.drew.heap.size w.drew w' := by intro L w' h hl; rw [hSe] at h; exact h hl
  have hSi : ∀ {w'}, Below w.drew.heap.size w.drew w' → ∀ L, S2 L w' := by intro w' h L; rw [hSe]; exact fun _ => h
  have hSd : ∀ (L : Array Bool) X, L.getD 8 true = true → S2 L X := by
    intro L X h; rw [hSe]; intro h1; rw [h] at h1; cases h1
  clear hSe
  refine wp_region_LN S2 12 #[false, false, false, false, false, false, false, false, false, false, false, false] (by kernel_rfl) (by kernel_rfl) rfl ?_
  obtain ⟨X_, hX⟩ : ∃ X_, X_ = w.drew := ⟨_, rfl⟩
  rw [← hX] at c10 HGd HBd HBl hSo hSi hS ⊢
  clear hX
  refine WA.take (i := 0) (v := .pointer (some ⟨E.gb, 0, none⟩)) rfl (by kernel_rfl) (by kernel_rfl) (by kernel_rfl) (fun _ _ _ h => h) (hdrop 0 (by decide)) (Or.inl ⟨by rfl, ?_⟩) (hS _) ?_
  · rintro w' ⟨L, hL, hSw, hun⟩
    go_simp
  simp only [List.getElem_toArray, List.getElem_cons_zero, List.getElem_cons_succ, Act.put, List.setIfInBounds_toArray, List.set_cons_zero, List.set_cons_succ]
  refine WA.take (i := 1) (v := .pointer (some ⟨E.gb, 0, none⟩)) rfl (by kernel_rfl) (by kernel_rfl) (by kernel_rfl) (fun _ _ _ h => h) (hdrop 1 (by decide)) (Or.inl ⟨by rfl, ?_⟩) (hS _) ?_
  · rintro w' ⟨L, hL, hSw, hun⟩
    go_simp
  simp only [List.getElem_toArray, List.getElem_cons_zero, List.getElem_cons_succ, Act.put, List.setIfInBounds_toArray, List.set_cons_zero, List.set_cons_succ]
  refine WA.take (i := 2) (v := .pointer (some ⟨E.gb, 0, none⟩)) rfl (by kernel_rfl) (by kernel_rfl) (by kernel_rfl) (fun _ _ _ h => h) (hdrop 2 (by decide)) (Or.inl ⟨by rfl, ?_⟩) (hS _) ?_
  · rintro w' ⟨L, hL, hSw, hun⟩
    go_simp
  simp only [List.getElem_toArray, List.getElem_cons_zero, List.getElem_cons_succ, Act.put, List.setIfInBounds_toArray, List.set_cons_zero, List.set_cons_succ]
  refine WA.take (i := 3) (v := .pointer (some ⟨E.gb, 10, none⟩)) rfl (by kernel_rfl) (by kernel_rfl) (by kernel_rfl) (fun _ _ _ h => h) (hdrop 3 (by decide)) (Or.inl ⟨by rfl, ?_⟩) (hS _) ?_
  · rintro w' ⟨L, hL, hSw, hun⟩
    go_simp
  simp only [List.getElem_toArray, List.getElem_cons_zero, List.getElem_cons_succ, Act.put, List.setIfInBounds_toArray, List.set_cons_zero, List.set_cons_succ]
  refine WA.take (i := 4) (v := .slice ob al q) rfl (by kernel_rfl) (by kernel_rfl) (by kernel_rfl) (fun _ _ _ h => h) (hdrop 4 (by decide)) (Or.inl ⟨by rfl, ?_⟩) (hS _) ?_
  · rintro w' ⟨L, hL, hSw, hun⟩
    have hbw := hSo hSw (hL.wait 8 4 (by kernel_rfl) hun)
    have c10 := cell_later hbw c10
    clear hbw
    go_simp
  simp only [List.getElem_toArray, List.getElem_cons_zero, List.getElem_cons_succ, Act.put, List.setIfInBounds_toArray, List.set_cons_zero, List.set_cons_succ]
  refine WA.take (i := 5) (v := .slice ba bl bq) rfl (by kernel_rfl) (by kernel_rfl) (by kernel_rfl) (fun _ _ _ h => h) (hdrop 5 (by decide)) (Or.inl ⟨by rfl, ?_⟩) (hS _) ?_
  · rintro w' ⟨L, hL, hSw, hun⟩
    go_simp
  simp only [List.getElem_toArray, List.getElem_cons_zero, List.getElem_cons_succ, Act.put, List.setIfInBounds_toArray, List.set_cons_zero, List.set_cons_succ]
  refine WA.one (i := 6) (by kernel_rfl) rfl (by rfl) (fun K hK => ?_)
  refine jwp_clone (.const (.slice none 0 0)) (.tmp 33) (by rfl) HBd.out (by rw [Hbl.out]; omega) (by rfl) (by rfl) ?_
  intro v1 w1 hi1 hb1
  obtain ⟨na, nq, hv1⟩ := own_anyJ hi1
  rw [Hbl.out] at hv1
  subst hv1
  have Hi1 := Lib.hid hi1; have Hb1 := Lib.hid hb1
  refine hK _ _ (hSi hb1 _) ?_
  clear hK hi1 hb1
  try simp only [List.getElem_toArray, List.getElem_cons_zero, List.getElem_cons_succ, Act.put, List.setIfInBounds_toArray, List.set_cons_zero, List.set_cons_succ]
  refine WA.one (i := 7) (by kernel_rfl) rfl (by rfl) (fun K hK => ?_)
  go_simp
  have hA := (Below.refl w1.heap.size w1).alloc (Nat.le_refl _) (.cells #[.slice na bl nq] 51)
  have HA := Lib.hid (Hb1.out.trans (hA.mono Hb1.out.size))
  have HA1 := Lib.hid hA
  refine hK _ _ (hSi HA.out _) ?_
  clear hK
  try simp only [List.getElem_toArray, List.getElem_cons_zero, List.getElem_cons_succ, Act.put, List.setIfInBounds_toArray, List.set_cons_zero, List.set_cons_succ]
  clear hA
  refine WA.one (i := 8) (by kernel_rfl) rfl (by rfl) (fun K hK => ?_)
  have HrA := Lib.hid (own_below HGd.out.oo.1 HA.out)
  rw [Hal.out] at HrA
  refine jwp_append_own (.tmp 32) (.tmp 35) 43 (by rfl) E.wt.heap.size 51 iu (.slice none 0 0) 1 24 Try.underlying43 Hi.out Hj0.out Hj1.out Hj2.out rfl (by decide) (.slice ob al q) al (acc.map (·.1)) (by rfl) HrA.out ⟨w1.heap.size, 0, none⟩ 1 1 [.slice na bl nq] (by rfl) rfl (cells_blk (World.alloc_heap_new _ _)) (by simp [Value.oneCell']) (by unfold maxLen; omega) (by omega) (by have := HGd.out.lows; have := HA.out.size; omega) ?_
  intro v' w4 hown' hgrow _ hwh
  obtain ⟨g', cap', hv'⟩ := jown_slice hown' (Nat.succ_pos _)
  subst hv'
  have Hown' := Lib.hid hown'; have Hgrow := Lib.hid hgrow; have Hwh := Lib.hid hwh
  refine hK _ _ (hSd _ _ (by rfl)) ?_
  clear hK hown' hgrow hwh
  try simp only [List.getElem_toArray, List.getElem_cons_zero, List.getElem_cons_succ, Act.put, List.setIfInBounds_toArray, List.set_cons_zero, List.set_cons_succ]
  refine WA.take (i := 9) (v := .pointer (some ⟨E.gb, 0, none⟩)) rfl (by kernel_rfl) (by kernel_rfl) (by kernel_rfl) (fun _ _ _ h => h) (hdrop 9 (by decide)) (Or.inl ⟨by rfl, ?_⟩) (hSd _ _ (by rfl)) ?_
  · rintro w' ⟨L, hL, hSw, hun⟩
    go_simp
  simp only [List.getElem_toArray, List.getElem_cons_zero, List.getElem_cons_succ, Act.put, List.setIfInBounds_toArray, List.set_cons_zero, List.set_cons_succ]
  refine WA.take (i := 10) (v := .pointer (some ⟨E.gb, 10, none⟩)) rfl (by kernel_rfl) (by kernel_rfl) (by kernel_rfl) (fun _ _ _ h => h) (hdrop 10 (by decide)) (Or.inl ⟨by rfl, ?_⟩) (hSd _ _ (by rfl)) ?_
  · rintro w' ⟨L, hL, hSw, hun⟩
    go_simp
  simp only [List.getElem_toArray, List.getElem_cons_zero, List.getElem_cons_succ, Act.put, List.setIfInBounds_toArray, List.set_cons_zero, List.set_cons_succ]
  have hgb4 := (Hgrow.out.block E.gb (Nat.lt_of_lt_of_le (Array.getElem?_eq_some_iff.1 HGd.out.gc).1 HA.out.size) (fun e => own_ne HGd.out.oo.1 HGd.out.gc (by decide) e.symm)).trans ((HA.out.block E.gb (Array.getElem?_eq_some_iff.1 HGd.out.gc).1).trans HGd.out.gc)
  obtain ⟨c4, f4⟩ : w4.cell? ⟨E.gb, 10, none⟩ = some (.slice ob al q) ∧ w4.frozen? ⟨E.gb, 10, none⟩ = false := by unfold World.cell? World.frozen?; rw [hgb4]; exact ⟨rfl, by simp⟩
  clear hgb4
  refine WA.one (i := 11) (by kernel_rfl) rfl (by rfl) (fun K hK => ?_)
  go_simp
  refine hK _ _ (hSd _ _ (by rfl)) ?_
  clear hK
  try simp only [List.getElem_toArray, List.getElem_cons_zero, List.getElem_cons_succ, Act.put, List.setIfInBounds_toArray, List.set_cons_zero, List.set_cons_succ]
  refine WA.done (by kernel_rfl) ?_ _
  refine Nrm.normal ?_
  clear hSo hSi hS hSd hdrop c10 c4 f4
  clear S2
  go_wp2_with fail
  (try simp only [Exit.inBlock, Exit.then]); refine bodyPost_ret (results_none rfl _ _ _) rfl ?_
  have hown := Hown'.out
  rw [← Hal.out] at hown
  have hwh := Hwh.out
  obtain ⟨vn, hvn⟩ : ∃ vn : Value, vn = .slice (some ⟨g', 0, none⟩) (al + 1) cap' := ⟨_, rfl⟩
  rw [Hal.out, ← hvn] at hown
  rw [← hvn] at hwh ⊢
  rw [← Hal.out] at hown
  obtain ⟨hgw, hgt⟩ := HGd.out.push Hb1.out Hi1.out Hgrow.out hown hwh
  refine ⟨rfl, vn, [(.slice na bl nq, b)], rfl, hgw, (GTurn.below HBl.out).trans hgt⟩
end Go.Proofs.Ytkgkkbfpkgfcaaa
