/- A partition of joins, and the document's: both begun. -/
import Derived.Test.YtghihhjcoilmgaaW0
namespace Go.Proofs.Ytghihhjcoilmgaa
set_option maxRecDepth 100000
open Go.RowKit Go.Maps
set_option linter.unusedVariables false
set_option linter.unusedSimpArgs false
attribute [local go_sem] Oper.semAt_some

section
variable {w : World}
set_option maxRecDepth 100000 in
set_option maxHeartbeats 8000000 in
theorem begin_any {la : Option Addr} {L0 : Jn} (h : IsJ w la L0) (hJ : ∀ p ∈ L0, is32 p.1 ∧ is32 p.2) (hlen : L0.length ≤ 60) (lcap : Nat) :
    Calls Try.prog 8 #[.slice la L0.length lcap] w fun e w' => ∃ pb mf mc f c v J, e = .returned (.tuple #[.pointer (some ⟨pb, 0, none⟩), v]) ∧ IsP w' pb mf mc f c ∧ PInv J f c ∧ Eff J ∧ (∀ p ∈ J, is32 p.1 ∧ is32 p.2) ∧ J.length ≤ 60 ∧ OwnJ 0 w' v J ∧ Below w.heap.size w w' := by
  obtain ⟨n, hn⟩ : ∃ n, L0.length = n := ⟨_, rfl⟩
  have H := Lib.hid h; have HJ := Lib.hid hJ; have Hn := Lib.hid hn
  rw [hn] at hlen ⊢
  clear h hJ hn
  go_enter Try.func8, Try.ntmps8
  go_wp2_with fail
  refine (newP_u w).mono ?_
  rintro e w1 ⟨pb, mf, mc, rfl, hP1, m1, m2, m3, hB1⟩
  have HP1 := Lib.hid hP1; have HB1 := Lib.hid hB1
  clear hP1 hB1
  go_wp2_with fail
  go_loopw [5, 6] (fun u6 u wr => ∃ (i : Nat) (f : Int → Option Int) (c : Int → Option (List Int)) (J : Jn), i ≤ n ∧ u = .int .i64 i ∧ IsP wr pb mf mc f c ∧ PInv J f c ∧ Eff J ∧ (∀ p ∈ J, is32 p.1 ∧ is32 p.2) ∧ J.length ≤ i ∧ OwnJ 0 wr u6 J ∧ Below w.heap.size w wr) (fun _ u _ => n - (intOf u).toNat)
  case atStart => exact ⟨0, _, _, [], by omega, rfl, HP1.out, PInv.nil, fun p hp => by simp at hp, fun p hp => by simp at hp, by simp, OwnJ.nil _ _, HB1.out⟩
  case round =>
    obtain ⟨i, f, c, J, hi, rfl, hP, hI, hE, h32, hJl, hO, hB⟩ := hrel
    have HP := Lib.hid hP; have HI := Lib.hid hI; have HE := Lib.hid hE; have H32 := Lib.hid h32; have HO := Lib.hid hO; have HB := Lib.hid hB
    obtain ⟨ja, jcap, rfl, hIJ⟩ := hO.j
    have HIJ := Lib.hid hIJ
    obtain ⟨jn, hjn⟩ : ∃ jn, J.length = jn := ⟨_, rfl⟩
    rw [hjn] at HO hJl ⊢
    have Hjn := Lib.hid hjn
    clear hP hI hE h32 hO hB HP1 HB1 hjn hIJ
    by_cases hin : i < n
    · have hdi : decide ((i : Int) < (n : Int)) = true := by simp; omega
      have hiJ : i < L0.length := by have := Hn.out; omega
      obtain ⟨x, hx⟩ : ∃ x, L0[i].1 = x := ⟨_, rfl⟩
      obtain ⟨y, hy⟩ : ∃ y, L0[i].2 = y := ⟨_, rfl⟩
      obtain ⟨b, off, rfl, hbl, cx, cy⟩ := H.out.below HB.out i hiJ
      rw [hx] at cx
      rw [hy] at cy
      have x32 : is32 x ∧ is32 y := by rw [← hx, ← hy]; exact HJ.out _ (List.getElem_mem hiJ)
      have hcs : ∀ W, Below w.heap.size w W → W.cell? ⟨b, off + i * 2, none⟩ = some (.int .u32 x) ∧ W.cell? ⟨b, off + i * 2 + 1, none⟩ = some (.int .u32 y) := fun W hW => by
        obtain ⟨b', off', e, _, k1, k2⟩ := H.out.below hW i hiJ
        simp at e
        obtain ⟨rfl, rfl⟩ := e
        rw [hx] at k1
        rw [hy] at k2
        exact ⟨k1, k2⟩
      have X32 := Lib.hid x32; have Hcs := Lib.hid hcs
      clear x32 hx hy hbl hcs
      go_wp2_with fail
      have cx : wr.drew.cell? ⟨b, off + i * 2, none⟩ = some (.int .u32 x) := cx
      have cy : wr.drew.cell? ⟨b, off + i * 2 + 1, none⟩ = some (.int .u32 y) := cy
      obtain ⟨S6, hSe⟩ : ∃ S : Array Bool → World → Prop, S = fun L w' => L.getD 11 true = false → w' = wr.drew := ⟨_, rfl⟩
      have hdrop : ∀ i, i ≠ 11 → ∀ L w', S6 (L.setIfInBounds i true) w' → S6 L w' := by
        intro i hi L w'
        rw [hSe]
        intro h hl
        exact h (by rw [getD_set_ne true hi]; exact hl)
      have hS : ∀ L, S6 L wr.drew := by intro L; rw [hSe]; exact fun _ => rfl
      have hSo : ∀ {L w'}, S6 L w' → L.getD 11 true = false → w' = wr.drew := by intro L w' h hl; rw [hSe] at h; exact h hl
      have hSd : ∀ (L : Array Bool) X, L.getD 11 true = true → S6 L X := by
        intro L X h; rw [hSe]; intro h1; rw [h] at h1; cases h1
      clear hSe
      refine wp_region_LN S6 12 #[false, false, false, false, false, false, false, false, false, false, false, false] (by kernel_rfl) (by kernel_rfl) rfl ?_
      obtain ⟨X1, hX1⟩ : ∃ X1, X1 = wr.drew := ⟨_, rfl⟩
      rw [← hX1] at cx cy hSo hS ⊢
      have HX1 := Lib.hid hX1
      clear hX1
      refine WA.take (i := 0) (v := .pointer (some ⟨pb, 0, none⟩)) rfl (by kernel_rfl) (by kernel_rfl) (by kernel_rfl) (fun _ _ _ h => h) (hdrop 0 (by decide)) (Or.inl ⟨by rfl, ?_⟩) (hS _) ?_
      · rintro w' ⟨L, hL, hSw, hun⟩
        go_simp
      simp only [List.getElem_toArray, List.getElem_cons_zero, List.getElem_cons_succ, Act.put, List.setIfInBounds_toArray, List.set_cons_zero, List.set_cons_succ]
      refine WA.take (i := 1) (v := .slice (some ⟨b, off, none⟩) n lcap) rfl (by kernel_rfl) (by kernel_rfl) (by kernel_rfl) (fun _ _ _ h => h) (hdrop 1 (by decide)) (Or.inl ⟨by rfl, ?_⟩) (hS _) ?_
      · rintro w' ⟨L, hL, hSw, hun⟩
        go_simp
      simp only [List.getElem_toArray, List.getElem_cons_zero, List.getElem_cons_succ, Act.put, List.setIfInBounds_toArray, List.set_cons_zero, List.set_cons_succ]
      refine WA.take (i := 2) (v := .int .i64 ((i : Nat) : Int)) rfl (by kernel_rfl) (by kernel_rfl) (by kernel_rfl) (fun _ _ _ h => h) (hdrop 2 (by decide)) (Or.inl ⟨by rfl, ?_⟩) (hS _) ?_
      · rintro w' ⟨L, hL, hSw, hun⟩
        go_simp
      simp only [List.getElem_toArray, List.getElem_cons_zero, List.getElem_cons_succ, Act.put, List.setIfInBounds_toArray, List.set_cons_zero, List.set_cons_succ]
      refine WA.take (i := 3) (v := .pointer (some ⟨b, off + i * 2, none⟩)) rfl (by kernel_rfl) (by kernel_rfl) (by kernel_rfl) (fun _ _ _ h => h) (hdrop 3 (by decide)) (Or.inl ⟨by rfl, ?_⟩) (hS _) ?_
      · rintro w' ⟨L, hL, hSw, hun⟩
        go_simp
      simp only [List.getElem_toArray, List.getElem_cons_zero, List.getElem_cons_succ, Act.put, List.setIfInBounds_toArray, List.set_cons_zero, List.set_cons_succ]
      refine WA.take (i := 4) (v := .pointer (some ⟨b, off + i * 2, none⟩)) rfl (by kernel_rfl) (by kernel_rfl) (by kernel_rfl) (fun _ _ _ h => h) (hdrop 4 (by decide)) (Or.inl ⟨by rfl, ?_⟩) (hS _) ?_
      · rintro w' ⟨L, hL, hSw, hun⟩
        go_simp
      simp only [List.getElem_toArray, List.getElem_cons_zero, List.getElem_cons_succ, Act.put, List.setIfInBounds_toArray, List.set_cons_zero, List.set_cons_succ]
      refine WA.take (i := 5) (v := .int .u32 x) rfl (by kernel_rfl) (by kernel_rfl) (by kernel_rfl) (fun _ _ _ h => h) (hdrop 5 (by decide)) (Or.inl ⟨by rfl, ?_⟩) (hS _) ?_
      · rintro w' ⟨L, hL, hSw, hun⟩
        obtain rfl := hSo hSw (hL.wait 11 5 (by kernel_rfl) hun)
        go_simp
      simp only [List.getElem_toArray, List.getElem_cons_zero, List.getElem_cons_succ, Act.put, List.setIfInBounds_toArray, List.set_cons_zero, List.set_cons_succ]
      refine WA.take (i := 6) (v := .slice (some ⟨b, off, none⟩) n lcap) rfl (by kernel_rfl) (by kernel_rfl) (by kernel_rfl) (fun _ _ _ h => h) (hdrop 6 (by decide)) (Or.inl ⟨by rfl, ?_⟩) (hS _) ?_
      · rintro w' ⟨L, hL, hSw, hun⟩
        go_simp
      simp only [List.getElem_toArray, List.getElem_cons_zero, List.getElem_cons_succ, Act.put, List.setIfInBounds_toArray, List.set_cons_zero, List.set_cons_succ]
      refine WA.take (i := 7) (v := .int .i64 ((i : Nat) : Int)) rfl (by kernel_rfl) (by kernel_rfl) (by kernel_rfl) (fun _ _ _ h => h) (hdrop 7 (by decide)) (Or.inl ⟨by rfl, ?_⟩) (hS _) ?_
      · rintro w' ⟨L, hL, hSw, hun⟩
        go_simp
      simp only [List.getElem_toArray, List.getElem_cons_zero, List.getElem_cons_succ, Act.put, List.setIfInBounds_toArray, List.set_cons_zero, List.set_cons_succ]
      refine WA.take (i := 8) (v := .pointer (some ⟨b, off + i * 2, none⟩)) rfl (by kernel_rfl) (by kernel_rfl) (by kernel_rfl) (fun _ _ _ h => h) (hdrop 8 (by decide)) (Or.inl ⟨by rfl, ?_⟩) (hS _) ?_
      · rintro w' ⟨L, hL, hSw, hun⟩
        go_simp
      simp only [List.getElem_toArray, List.getElem_cons_zero, List.getElem_cons_succ, Act.put, List.setIfInBounds_toArray, List.set_cons_zero, List.set_cons_succ]
      refine WA.take (i := 9) (v := .pointer (some ⟨b, off + i * 2 + 1, none⟩)) rfl (by kernel_rfl) (by kernel_rfl) (by kernel_rfl) (fun _ _ _ h => h) (hdrop 9 (by decide)) (Or.inl ⟨by rfl, ?_⟩) (hS _) ?_
      · rintro w' ⟨L, hL, hSw, hun⟩
        go_simp
      simp only [List.getElem_toArray, List.getElem_cons_zero, List.getElem_cons_succ, Act.put, List.setIfInBounds_toArray, List.set_cons_zero, List.set_cons_succ]
      refine WA.take (i := 10) (v := .int .u32 y) rfl (by kernel_rfl) (by kernel_rfl) (by kernel_rfl) (fun _ _ _ h => h) (hdrop 10 (by decide)) (Or.inl ⟨by rfl, ?_⟩) (hS _) ?_
      · rintro w' ⟨L, hL, hSw, hun⟩
        obtain rfl := hSo hSw (hL.wait 11 10 (by kernel_rfl) hun)
        go_simp
      simp only [List.getElem_toArray, List.getElem_cons_zero, List.getElem_cons_succ, Act.put, List.setIfInBounds_toArray, List.set_cons_zero, List.set_cons_succ]
      refine WA.one (i := 11) (by kernel_rfl) rfl (by rfl) (fun K hK => ?_)
      go_simp
      refine (joinP_u (w := X1) (by rw [HX1.out]; exact HP.out.below (Below.refl _ _).drew) HI.out H32.out (by have := Hjn.out; omega) X32.out.1 X32.out.2).mono ?_
      rintro e w4 ⟨r1, two1, f1, c1, rfl, hP_, hI_, hT_, hr_⟩
      have HP4 := Lib.hid hP_; have HI4 := Lib.hid hI_; have HT4 := Lib.hid hT_
      clear hP_ hI_ hT_ hr_
      refine hK _ _ (hSd _ _ (by rfl)) ?_
      clear hK
      try simp only [List.getElem_toArray, List.getElem_cons_zero, List.getElem_cons_succ, Act.put, List.setIfInBounds_toArray, List.set_cons_zero, List.set_cons_succ]
      refine WA.done (by kernel_rfl) ?_ _
      refine Nrm.normal ?_
      clear hSo hS hSd hdrop cx cy
      clear S6
      have hT4 : TnM wr w4 mf mc := (TnM.below (by rw [HX1.out]; exact (Below.refl _ _).drew)).trans HT4.out
      have HB4 := Lib.hid (HB.out.trans (hT4.lower m1 m2 HB.out.size))
      have HO4 := Lib.hid (OwnJ.turn HO.out HP.out.objs.1 HP.out.objs.2 hT4)
      obtain ⟨cx, cy⟩ := Hcs.out w4 HB4.out
      clear hT4 HT4
      go_wp2_with fail
      have cx : w4.drew.cell? ⟨b, off + i * 2, none⟩ = some (.int .u32 x) := cx
      have cy : w4.drew.cell? ⟨b, off + i * 2 + 1, none⟩ = some (.int .u32 y) := cy
      obtain ⟨S7, hSe⟩ : ∃ S : Array Bool → World → Prop, S = fun _ w' => Below w4.drew.heap.size w4.drew w' := ⟨_, rfl⟩
      have hdrop : ∀ i : Nat, ∀ L w', S7 (L.setIfInBounds i true) w' → S7 L w' := by
        intro i L w' h; rw [hSe] at h ⊢; exact h
      have hS : ∀ L, S7 L w4.drew := by intro L; rw [hSe]; exact Below.refl _ _
      have hSo : ∀ {L w'}, S7 L w' → Below w4.drew.heap.size w4.drew w' := by intro L w' h; rw [hSe] at h; exact h
      have hSi : ∀ {w'}, Below w4.drew.heap.size w4.drew w' → ∀ L, S7 L w' := by intro w' h L; rw [hSe]; exact h
      clear hSe
      refine wp_region_LN S7 16 #[false, false, false, false, false, false, false, false, false, false, false, false, false, false, false, false] (by kernel_rfl) (by kernel_rfl) rfl ?_
      obtain ⟨X2, hX2⟩ : ∃ X2, X2 = w4.drew := ⟨_, rfl⟩
      rw [← hX2] at cx cy hSo hS hSi ⊢
      have HX2 := Lib.hid hX2
      clear hX2
      refine WA.take (i := 0) (v := .slice ja jn jcap) rfl (by kernel_rfl) (by kernel_rfl) (by kernel_rfl) (fun _ _ _ h => h) (hdrop 0) (Or.inl ⟨by rfl, ?_⟩) (hS _) ?_
      · rintro w' ⟨L, hL, hSw, hun⟩
        go_simp
      simp only [List.getElem_toArray, List.getElem_cons_zero, List.getElem_cons_succ, Act.put, List.setIfInBounds_toArray, List.set_cons_zero, List.set_cons_succ]
      refine WA.take (i := 1) (v := .slice (some ⟨b, off, none⟩) n lcap) rfl (by kernel_rfl) (by kernel_rfl) (by kernel_rfl) (fun _ _ _ h => h) (hdrop 1) (Or.inl ⟨by rfl, ?_⟩) (hS _) ?_
      · rintro w' ⟨L, hL, hSw, hun⟩
        go_simp
      simp only [List.getElem_toArray, List.getElem_cons_zero, List.getElem_cons_succ, Act.put, List.setIfInBounds_toArray, List.set_cons_zero, List.set_cons_succ]
      refine WA.take (i := 2) (v := .int .i64 ((i : Nat) : Int)) rfl (by kernel_rfl) (by kernel_rfl) (by kernel_rfl) (fun _ _ _ h => h) (hdrop 2) (Or.inl ⟨by rfl, ?_⟩) (hS _) ?_
      · rintro w' ⟨L, hL, hSw, hun⟩
        go_simp
      simp only [List.getElem_toArray, List.getElem_cons_zero, List.getElem_cons_succ, Act.put, List.setIfInBounds_toArray, List.set_cons_zero, List.set_cons_succ]
      refine WA.take (i := 3) (v := .pointer (some ⟨b, off + i * 2, none⟩)) rfl (by kernel_rfl) (by kernel_rfl) (by kernel_rfl) (fun _ _ _ h => h) (hdrop 3) (Or.inl ⟨by rfl, ?_⟩) (hS _) ?_
      · rintro w' ⟨L, hL, hSw, hun⟩
        go_simp
      simp only [List.getElem_toArray, List.getElem_cons_zero, List.getElem_cons_succ, Act.put, List.setIfInBounds_toArray, List.set_cons_zero, List.set_cons_succ]
      refine WA.take (i := 4) (v := .pointer (some ⟨b, off + i * 2, none⟩)) rfl (by kernel_rfl) (by kernel_rfl) (by kernel_rfl) (fun _ _ _ h => h) (hdrop 4) (Or.inl ⟨by rfl, ?_⟩) (hS _) ?_
      · rintro w' ⟨L, hL, hSw, hun⟩
        go_simp
      simp only [List.getElem_toArray, List.getElem_cons_zero, List.getElem_cons_succ, Act.put, List.setIfInBounds_toArray, List.set_cons_zero, List.set_cons_succ]
      refine WA.take (i := 5) (v := .int .u32 x) rfl (by kernel_rfl) (by kernel_rfl) (by kernel_rfl) (fun _ _ _ h => h) (hdrop 5) (Or.inl ⟨by rfl, ?_⟩) (hS _) ?_
      · rintro w' ⟨L, hL, hSw, hun⟩
        have hbw := hSo hSw
        have cx := cell_later hbw cx
        clear hbw
        go_simp
      simp only [List.getElem_toArray, List.getElem_cons_zero, List.getElem_cons_succ, Act.put, List.setIfInBounds_toArray, List.set_cons_zero, List.set_cons_succ]
      refine WA.take (i := 6) (v := .slice (some ⟨b, off, none⟩) n lcap) rfl (by kernel_rfl) (by kernel_rfl) (by kernel_rfl) (fun _ _ _ h => h) (hdrop 6) (Or.inl ⟨by rfl, ?_⟩) (hS _) ?_
      · rintro w' ⟨L, hL, hSw, hun⟩
        go_simp
      simp only [List.getElem_toArray, List.getElem_cons_zero, List.getElem_cons_succ, Act.put, List.setIfInBounds_toArray, List.set_cons_zero, List.set_cons_succ]
      refine WA.take (i := 7) (v := .int .i64 ((i : Nat) : Int)) rfl (by kernel_rfl) (by kernel_rfl) (by kernel_rfl) (fun _ _ _ h => h) (hdrop 7) (Or.inl ⟨by rfl, ?_⟩) (hS _) ?_
      · rintro w' ⟨L, hL, hSw, hun⟩
        go_simp
      simp only [List.getElem_toArray, List.getElem_cons_zero, List.getElem_cons_succ, Act.put, List.setIfInBounds_toArray, List.set_cons_zero, List.set_cons_succ]
      refine WA.take (i := 8) (v := .pointer (some ⟨b, off + i * 2, none⟩)) rfl (by kernel_rfl) (by kernel_rfl) (by kernel_rfl) (fun _ _ _ h => h) (hdrop 8) (Or.inl ⟨by rfl, ?_⟩) (hS _) ?_
      · rintro w' ⟨L, hL, hSw, hun⟩
        go_simp
      simp only [List.getElem_toArray, List.getElem_cons_zero, List.getElem_cons_succ, Act.put, List.setIfInBounds_toArray, List.set_cons_zero, List.set_cons_succ]
      refine WA.take (i := 9) (v := .pointer (some ⟨b, off + i * 2 + 1, none⟩)) rfl (by kernel_rfl) (by kernel_rfl) (by kernel_rfl) (fun _ _ _ h => h) (hdrop 9) (Or.inl ⟨by rfl, ?_⟩) (hS _) ?_
      · rintro w' ⟨L, hL, hSw, hun⟩
        go_simp
      simp only [List.getElem_toArray, List.getElem_cons_zero, List.getElem_cons_succ, Act.put, List.setIfInBounds_toArray, List.set_cons_zero, List.set_cons_succ]
      refine WA.take (i := 10) (v := .int .u32 y) rfl (by kernel_rfl) (by kernel_rfl) (by kernel_rfl) (fun _ _ _ h => h) (hdrop 10) (Or.inl ⟨by rfl, ?_⟩) (hS _) ?_
      · rintro w' ⟨L, hL, hSw, hun⟩
        have hbw := hSo hSw
        have cy := cell_later hbw cy
        clear hbw
        go_simp
      simp only [List.getElem_toArray, List.getElem_cons_zero, List.getElem_cons_succ, Act.put, List.setIfInBounds_toArray, List.set_cons_zero, List.set_cons_succ]
      refine WA.one (i := 11) (by kernel_rfl) rfl (by rfl) (fun K hK => ?_)
      go_simp
      refine (joinR_u (w := X2) (J := J) (by rw [HX2.out]; exact HO4.out) (by have := Hjn.out; omega) HE.out.nz x y).mono ?_
      rintro e w5 ⟨v5, was, J2, rfl, hO_, hB_, hw_⟩
      obtain ⟨ja2, jcap2, rfl, hj_⟩ := hO_.j
      have HO5 := Lib.hid hO_; have HB5 := Lib.hid hB_; have Hw5 := Lib.hid hw_; have HJ5 := Lib.hid hj_
      clear hO_ hB_ hw_ hj_
      refine hK _ _ (hSi HB5.out _) ?_
      clear hK
      try simp only [List.getElem_toArray, List.getElem_cons_zero, List.getElem_cons_succ, Act.put, List.setIfInBounds_toArray, List.set_cons_zero, List.set_cons_succ]
      refine WA.take (i := 12) (v := .tuple #[.slice ja2 J2.length jcap2, .bool was]) rfl (by kernel_rfl) (by kernel_rfl) (by kernel_rfl) (fun _ _ _ h => h) (hdrop 12) (Or.inl ⟨by rfl, ?_⟩) (hSi HB5.out _) ?_
      · rintro w' ⟨L, hL, hSw, hun⟩
        go_simp
      simp only [List.getElem_toArray, List.getElem_cons_zero, List.getElem_cons_succ, Act.put, List.setIfInBounds_toArray, List.set_cons_zero, List.set_cons_succ]
      refine WA.take (i := 13) (v := .slice ja2 J2.length jcap2) rfl (by kernel_rfl) (by kernel_rfl) (by kernel_rfl) (fun _ _ _ h => h) (hdrop 13) (Or.inl ⟨by rfl, ?_⟩) (hSi HB5.out _) ?_
      · rintro w' ⟨L, hL, hSw, hun⟩
        go_simp
      simp only [List.getElem_toArray, List.getElem_cons_zero, List.getElem_cons_succ, Act.put, List.setIfInBounds_toArray, List.set_cons_zero, List.set_cons_succ]
      refine WA.take (i := 14) (v := .bool was) rfl (by kernel_rfl) (by kernel_rfl) (by kernel_rfl) (fun _ _ _ h => h) (hdrop 14) (Or.inl ⟨by rfl, ?_⟩) (hSi HB5.out _) ?_
      · rintro w' ⟨L, hL, hSw, hun⟩
        go_simp
      simp only [List.getElem_toArray, List.getElem_cons_zero, List.getElem_cons_succ, Act.put, List.setIfInBounds_toArray, List.set_cons_zero, List.set_cons_succ]
      refine WA.take (i := 15) (v := .slice ja2 J2.length jcap2) rfl (by kernel_rfl) (by kernel_rfl) (by kernel_rfl) (fun _ _ _ h => h) (hdrop 15) (Or.inl ⟨by rfl, ?_⟩) (hSi HB5.out _) ?_
      · rintro w' ⟨L, hL, hSw, hun⟩
        go_simp
      simp only [List.getElem_toArray, List.getElem_cons_zero, List.getElem_cons_succ, Act.put, List.setIfInBounds_toArray, List.set_cons_zero, List.set_cons_succ]
      refine WA.done (by kernel_rfl) ?_ _
      refine Nrm.normal ?_
      clear hSo hS hSi hdrop cx cy
      clear S7
      obtain ⟨hI5, hE5, h325, hJl5⟩ := pair_step HI4.out HE.out H32.out X32.out.1 X32.out.2 Hw5.out
      rw [Hjn.out] at hJl5
      have hb5 : Below w4.heap.size w4 w5 := by
        have h1 : Below w4.heap.size w4 X2 := by rw [HX2.out]; exact (Below.refl _ _).drew
        exact h1.trans (HB5.out.mono h1.size)
      have HP5 := Lib.hid (HP4.out.below hb5); have HB6 := Lib.hid (HB4.out.trans (hb5.mono HB4.out.size))
      have HI5 := Lib.hid hI5; have HE5 := Lib.hid hE5; have H325 := Lib.hid h325
      obtain ⟨jn2, hjn2⟩ : ∃ jn2, J2.length = jn2 := ⟨_, rfl⟩
      rw [hjn2] at HO5 hJl5 ⊢
      have Hjn2 := Lib.hid hjn2
      clear hI5 hE5 h325 hb5 hjn2
      go_wp2_with fail
      go_roundw
      case rel => exact ⟨i + 1, f1, c1, J2, by omega, by push_cast; rfl, HP5.out, HI5.out, HE5.out, H325.out, by have := Hjn2.out; omega, by have := HO5.out; rw [← Hjn2.out] at this ⊢; exact this, HB6.out⟩
      case measure => simp [intOf]; omega
    · have hdi : decide ((i : Int) < (n : Int)) = false := by simp; omega
      go_wp2_with fail
      go_ret2
      exact ⟨pb, mf, mc, f, c, _, J, rfl, HP.out, HI.out, HE.out, H32.out, by have := Hjn.out; omega, by have := HO.out; rw [← Hjn.out] at this ⊢; exact this, HB.out⟩
end
end Go.Proofs.Ytghihhjcoilmgaa
