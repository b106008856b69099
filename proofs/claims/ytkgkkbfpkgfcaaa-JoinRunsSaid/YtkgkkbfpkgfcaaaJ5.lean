/- Layer 14: bind, walked. -/
import Derived.Test.YtkgkkbfpkgfcaaaJ4
namespace Go.Proofs.Ytkgkkbfpkgfcaaa
set_option maxRecDepth 100000
open Go.RowKit Go.Maps
set_option linter.unusedVariables false
set_option linter.unusedSimpArgs false

section
variable {w : World}
set_option maxRecDepth 100000 in
set_option maxHeartbeats 8000000 in
theorem bind_any {wb vb lb lo : Nat} {L : List Int} (h : WkB w wb vb L) (hlen : L.length ≤ 1000000) (s : StepT) (i n cap : Nat) (sa : Option Addr) (hst : w.cell? ⟨wb, 7, none⟩ = some (.slice sa n cap)) (hi : i < n) (hn : n ≤ 1000000) (hrow : IsStepRow w sa i s)
    (hl0 : w.cell? ⟨lb, lo, none⟩ = some (.int .i64 (i : Nat))) (own : List Nat) (oa : Option Addr) (ocap : Nat) (hl2 : w.cell? ⟨lb, lo + 2, none⟩ = some (.slice oa own.length ocap)) (hown : IsI w oa own) (hol : own.length ≤ 1000000) (hob : ∀ v ∈ own, v < L.length)
    (hov : ∀ b off, oa = some ⟨b, off, none⟩ → b ≠ vb) (hsv : ∀ b off, sa = some ⟨b, off, none⟩ → b ≠ vb) (hlv : lb ≠ vb) (r : R3) (hv : s.r0.1 < L.length ∧ s.r1.1 < L.length ∧ s.r2.1 < L.length) :
    Calls Try.prog 34 #[.pointer (some ⟨wb, 0, none⟩), .pointer (some ⟨lb, lo, none⟩), rv r] w fun e w' => e = .returned (.bool (bindP (prs s r) (zeroOwn own L)).1) ∧ WkB w' wb vb (bindP (prs s r) (zeroOwn own L)).2 ∧ w.grownBy w' (some vb) := by
  obtain ⟨kk, ⟨a0, i0⟩, ⟨a1, i1⟩, ⟨a2, i2⟩, sa', sb'⟩ := s
  obtain ⟨y0, y1, y2⟩ := r
  obtain ⟨sb, so, rfl, hsb, hr0, hr1, hr2, hr3, hr4, hr5⟩ := hrow
  have hsv := hsv sb so rfl
  have H := Lib.hid h
  have Hv0 := Lib.hid hv.1; have Hv1 := Lib.hid hv.2.1; have Hv2 := Lib.hid hv.2.2
  obtain ⟨ln, hln⟩ : ∃ ln, L.length = ln := ⟨_, rfl⟩
  obtain ⟨on, hon⟩ : ∃ on, own.length = on := ⟨_, rfl⟩
  rw [hon] at hl2 hol
  rw [hln] at hlen
  have Hln := Lib.hid hln; have Hon := Lib.hid hon; have Hown := Lib.hid hown; have Hob := Lib.hid hob; have Hov := Lib.hid hov
  have Hst := Lib.hid hst; have Hl0 := Lib.hid hl0; have Hl2 := Lib.hid hl2; have Hr := Lib.hid (And.intro hr0 (And.intro hr1 (And.intro hr2 (And.intro hr3 (And.intro hr4 hr5)))))
  simp only [rv]
  have hbA : Below w.heap.size w (w.alloc (.cells #[.int .u32 y0, .int .u32 y1, .int .u32 y2] 58)) := (Below.refl _ w).alloc (Nat.le_refl _) _
  have HbA := Lib.hid hbA; have Hbx := Lib.hid (World.alloc_heap_new w (.cells #[.int .u32 y0, .int .u32 y1, .int .u32 y2] 58))
  have Hvb := Lib.hid h.lt
  have c2 := cell_later hbA hl2
  clear h hv hln hon hown hob hov hst hl0 hl2 hr0 hr1 hr2 hr3 hr4 hr5 hbA hsb
  go_enter Try.func34, Try.ntmps34
  go_wp2_with fail
  generalize hW : w.alloc (.cells #[.int .u32 y0, .int .u32 y1, .int .u32 y2] 58) = W at *
  clear hW
  go_loopw [16] (fun u wr => ∃ k : Nat, k ≤ on ∧ u = .int .i64 k ∧ w.grownBy wr (some vb) ∧ WkB wr wb vb (zeroOwn (own.take k) L) ∧ wr.heap[w.heap.size]? = some (.cells #[.int .u32 y0, .int .u32 y1, .int .u32 y2] 58 (0, 0))) (fun u _ => on - (intOf u).toNat)
  case atStart => exact ⟨0, by omega, rfl, gr_below vb HbA.out, H.out.below HbA.out, Hbx.out⟩
  case round =>
    obtain ⟨k, hk, rfl, hg, hW, hbx⟩ := hrel
    have Hg := Lib.hid hg; have HW := Lib.hid hW; have HBX := Lib.hid hbx
    clear hg hW hbx
    by_cases hkl : k < on
    · have hd : decide ((k : Int) < (on : Int)) = true := by simp; omega
      obtain ⟨b, off, rfl, _, ck⟩ := Hown.out k (by have := Hon.out; omega)
      have ck := gr_cell Hg.out (Hov.out b off rfl) ck
      obtain ⟨v, hv⟩ : ∃ v, own[k]'(by have := Hon.out; omega) = v := ⟨_, rfl⟩
      have hvl : v < ln := by have := Hob.out v (by rw [← hv]; exact List.getElem_mem _); have := Hln.out; omega
      rw [hv] at ck
      have hzl := zeroOwn_len (own.take k) L
      rw [Hln.out] at hzl
      have c10 := HW.out.c
      rw [hzl] at c10
      obtain ⟨old, cv⟩ : ∃ old, wr.cell? ⟨vb, v, none⟩ = some (.int .u32 old) := ⟨_, (HW.out.v v (by omega)).1⟩
      have fv := (HW.out.v v (by omega)).2
      have hst := HW.out.set v 0
      rw [← zeroOwn_snoc, ← hv, show own.take k ++ [own[k]'(by have := Hon.out; omega)] = own.take (k + 1) from (List.take_succ_eq_append_getElem (by have := Hon.out; omega)).symm, hv] at hst
      have hgs := gr_trans Hg.out (gr_set wr vb v (.int .u32 0))
      have hbs : (wr.setCell ⟨vb, v, none⟩ (.int .u32 0)).heap[w.heap.size]? = some (.cells #[.int .u32 y0, .int .u32 y1, .int .u32 y2] 58 (0, 0)) := (Below.heap_setCell _ _ _ _ (by have := Hvb.out; simp; omega)).trans HBX.out
      have Hst2 := Lib.hid hst; have Hgs := Lib.hid hgs; have Hbs := Lib.hid hbs
      clear hst hgs hbs hzl hv
      go_wp2_with fail
      exact ⟨⟨k + 1, by omega, by push_cast; rfl, Hgs.out, Hst2.out, Hbs.out⟩, by simp [intOf]; omega⟩
    · have hk' : k = on := by omega
      subst hk'
      have hd : decide ((k : Int) < (k : Int)) = false := by simp
      rw [show own.take k = own from List.take_of_length_le (by have := Hon.out; omega)] at HW
      have c7 := gr_cell Hg.out H.out.ne Hst.out
      have cl := gr_cell Hg.out hlv Hl0.out
      obtain ⟨g0, g1, g2, g3, g4, g5⟩ := Hr.out
      have g0 := gr_cell Hg.out hsv g0
      have g1 := gr_cell Hg.out hsv g1
      have g2 := gr_cell Hg.out hsv g2
      have g3 := gr_cell Hg.out hsv g3
      have g4 := gr_cell Hg.out hsv g4
      have g5 := gr_cell Hg.out hsv g5
      go_wp2_with fail
      have c7 : wr.drew.cell? ⟨wb, 7, none⟩ = _ := c7
      have cl : wr.drew.cell? ⟨lb, lo, none⟩ = _ := cl
      have g0 : wr.drew.cell? ⟨sb, so + i * 11 + 1, none⟩ = _ := g0
      have g1 : wr.drew.cell? ⟨sb, so + i * 11 + 2, none⟩ = _ := g1
      have g2 : wr.drew.cell? ⟨sb, so + i * 11 + 3, none⟩ = _ := g2
      have g3 : wr.drew.cell? ⟨sb, so + i * 11 + 4, none⟩ = _ := g3
      have g4 : wr.drew.cell? ⟨sb, so + i * 11 + 5, none⟩ = _ := g4
      have g5 : wr.drew.cell? ⟨sb, so + i * 11 + 6, none⟩ = _ := g5
      have Hgd := Lib.hid (gr_trans Hg.out (gr_below vb (Below.refl wr.heap.size wr).drew))
      have HWd := Lib.hid (HW.out.below (Below.refl wr.heap.size wr).drew)
      have HBXd := Lib.hid (show wr.drew.heap[w.heap.size]? = some (.cells #[.int .u32 y0, .int .u32 y1, .int .u32 y2] 58 (0, 0)) from HBX.out)
      obtain ⟨S6, hSe⟩ : ∃ S : Array Bool → World → Prop, S = fun _ w' => w' = wr.drew := ⟨_, rfl⟩
      have hdrop : ∀ i : Nat, i ≠ 1000 → ∀ L w', S6 (L.setIfInBounds i true) w' → S6 L w' := by
        intro i _ L w' h; rw [hSe] at h ⊢; exact h
      have hS : ∀ L, S6 L wr.drew := by intro L; rw [hSe]
      have hSo : ∀ {L w'}, S6 L w' → w' = wr.drew := by intro L w' h; rw [hSe] at h; exact h
      clear hSe
      refine wp_region_LN S6 13 #[false, false, false, false, false, false, false, false, false, false, false, false, false] (by kernel_rfl) (by kernel_rfl) rfl ?_
      generalize wr.drew = wd at *
      refine WA.take (i := 0) (v := .pointer (some ⟨wb, 0, none⟩)) rfl (by kernel_rfl) (by kernel_rfl) (by kernel_rfl) (fun _ _ _ h => h) (hdrop 0 (by decide)) (Or.inl ⟨by rfl, ?_⟩) (hS _) ?_
      · rintro w' ⟨L, hL, hSw, hun⟩
        go_simp
      simp only [List.getElem_toArray, List.getElem_cons_zero, List.getElem_cons_succ, Act.put, List.setIfInBounds_toArray, List.set_cons_zero, List.set_cons_succ]
      refine WA.take (i := 1) (v := .pointer (some ⟨wb, 0, none⟩)) rfl (by kernel_rfl) (by kernel_rfl) (by kernel_rfl) (fun _ _ _ h => h) (hdrop 1 (by decide)) (Or.inl ⟨by rfl, ?_⟩) (hS _) ?_
      · rintro w' ⟨L, hL, hSw, hun⟩
        go_simp
      simp only [List.getElem_toArray, List.getElem_cons_zero, List.getElem_cons_succ, Act.put, List.setIfInBounds_toArray, List.set_cons_zero, List.set_cons_succ]
      refine WA.take (i := 2) (v := .pointer (some ⟨wb, 1, none⟩)) rfl (by kernel_rfl) (by kernel_rfl) (by kernel_rfl) (fun _ _ _ h => h) (hdrop 2 (by decide)) (Or.inl ⟨by rfl, ?_⟩) (hS _) ?_
      · rintro w' ⟨L, hL, hSw, hun⟩
        go_simp
      simp only [List.getElem_toArray, List.getElem_cons_zero, List.getElem_cons_succ, Act.put, List.setIfInBounds_toArray, List.set_cons_zero, List.set_cons_succ]
      refine WA.take (i := 3) (v := .pointer (some ⟨wb, 7, none⟩)) rfl (by kernel_rfl) (by kernel_rfl) (by kernel_rfl) (fun _ _ _ h => h) (hdrop 3 (by decide)) (Or.inl ⟨by rfl, ?_⟩) (hS _) ?_
      · rintro w' ⟨L, hL, hSw, hun⟩
        go_simp
      simp only [List.getElem_toArray, List.getElem_cons_zero, List.getElem_cons_succ, Act.put, List.setIfInBounds_toArray, List.set_cons_zero, List.set_cons_succ]
      refine WA.take (i := 4) (v := .slice (some ⟨sb, so, none⟩) n cap) rfl (by kernel_rfl) (by kernel_rfl) (by kernel_rfl) (fun _ _ _ h => h) (hdrop 4 (by decide)) (Or.inl ⟨by rfl, ?_⟩) (hS _) ?_
      · rintro w' ⟨L, hL, hSw, hun⟩
        obtain rfl := hSo hSw 
        go_simp
      simp only [List.getElem_toArray, List.getElem_cons_zero, List.getElem_cons_succ, Act.put, List.setIfInBounds_toArray, List.set_cons_zero, List.set_cons_succ]
      refine WA.take (i := 5) (v := .pointer (some ⟨lb, lo, none⟩)) rfl (by kernel_rfl) (by kernel_rfl) (by kernel_rfl) (fun _ _ _ h => h) (hdrop 5 (by decide)) (Or.inl ⟨by rfl, ?_⟩) (hS _) ?_
      · rintro w' ⟨L, hL, hSw, hun⟩
        go_simp
      simp only [List.getElem_toArray, List.getElem_cons_zero, List.getElem_cons_succ, Act.put, List.setIfInBounds_toArray, List.set_cons_zero, List.set_cons_succ]
      refine WA.take (i := 6) (v := .pointer (some ⟨lb, lo, none⟩)) rfl (by kernel_rfl) (by kernel_rfl) (by kernel_rfl) (fun _ _ _ h => h) (hdrop 6 (by decide)) (Or.inl ⟨by rfl, ?_⟩) (hS _) ?_
      · rintro w' ⟨L, hL, hSw, hun⟩
        go_simp
      simp only [List.getElem_toArray, List.getElem_cons_zero, List.getElem_cons_succ, Act.put, List.setIfInBounds_toArray, List.set_cons_zero, List.set_cons_succ]
      refine WA.take (i := 7) (v := .pointer (some ⟨lb, lo, none⟩)) rfl (by kernel_rfl) (by kernel_rfl) (by kernel_rfl) (fun _ _ _ h => h) (hdrop 7 (by decide)) (Or.inl ⟨by rfl, ?_⟩) (hS _) ?_
      · rintro w' ⟨L, hL, hSw, hun⟩
        go_simp
      simp only [List.getElem_toArray, List.getElem_cons_zero, List.getElem_cons_succ, Act.put, List.setIfInBounds_toArray, List.set_cons_zero, List.set_cons_succ]
      refine WA.take (i := 8) (v := .int .i64 (i : Nat)) rfl (by kernel_rfl) (by kernel_rfl) (by kernel_rfl) (fun _ _ _ h => h) (hdrop 8 (by decide)) (Or.inl ⟨by rfl, ?_⟩) (hS _) ?_
      · rintro w' ⟨L, hL, hSw, hun⟩
        obtain rfl := hSo hSw 
        go_simp
      simp only [List.getElem_toArray, List.getElem_cons_zero, List.getElem_cons_succ, Act.put, List.setIfInBounds_toArray, List.set_cons_zero, List.set_cons_succ]
      refine WA.take (i := 9) (v := .pointer (some ⟨sb, so + i * 11, none⟩)) rfl (by kernel_rfl) (by kernel_rfl) (by kernel_rfl) (fun _ _ _ h => h) (hdrop 9 (by decide)) (Or.inl ⟨by rfl, ?_⟩) (hS _) ?_
      · rintro w' ⟨L, hL, hSw, hun⟩
        go_simp
      simp only [List.getElem_toArray, List.getElem_cons_zero, List.getElem_cons_succ, Act.put, List.setIfInBounds_toArray, List.set_cons_zero, List.set_cons_succ]
      refine WA.take (i := 10) (v := .pointer (some ⟨sb, so + i * 11 + 1, none⟩)) rfl (by kernel_rfl) (by kernel_rfl) (by kernel_rfl) (fun _ _ _ h => h) (hdrop 10 (by decide)) (Or.inl ⟨by rfl, ?_⟩) (hS _) ?_
      · rintro w' ⟨L, hL, hSw, hun⟩
        go_simp
      simp only [List.getElem_toArray, List.getElem_cons_zero, List.getElem_cons_succ, Act.put, List.setIfInBounds_toArray, List.set_cons_zero, List.set_cons_succ]
      refine WA.take (i := 11) (v := .agg #[.int .i64 a0, .int .u32 i0, .int .i64 a1, .int .u32 i1, .int .i64 a2, .int .u32 i2]) rfl (by kernel_rfl) (by kernel_rfl) (by kernel_rfl) (fun _ _ _ h => h) (hdrop 11 (by decide)) (Or.inl ⟨by rfl, ?_⟩) (hS _) ?_
      · rintro w' ⟨L, hL, hSw, hun⟩
        obtain rfl := hSo hSw 
        go_simp
      simp only [List.getElem_toArray, List.getElem_cons_zero, List.getElem_cons_succ, Act.put, List.setIfInBounds_toArray, List.set_cons_zero, List.set_cons_succ]
      refine WA.take (i := 12) (v := .int .i64 0) rfl (by kernel_rfl) (by kernel_rfl) (by kernel_rfl) (fun _ _ _ h => h) (hdrop 12 (by decide)) (Or.inl ⟨by rfl, ?_⟩) (hS _) ?_
      · rintro w' ⟨L, hL, hSw, hun⟩
        go_simp
      simp only [List.getElem_toArray, List.getElem_cons_zero, List.getElem_cons_succ, Act.put, List.setIfInBounds_toArray, List.set_cons_zero, List.set_cons_succ]
      refine WA.done (by kernel_rfl) ?_ _
      refine Nrm.normal ?_
      clear hSo hS hdrop c7 cl g0 g1 g2 g3 g4 g5 c2
      clear S6
      go_wp2_with fail
      obtain ⟨L0, hL0⟩ : ∃ L0, L0 = zeroOwn own L := ⟨_, rfl⟩
      have hl0 : L0.length = ln := by rw [hL0, zeroOwn_len]; exact Hln.out
      rw [← hL0] at HWd
      have HL0 := Lib.hid hL0; have Hl00 := Lib.hid hl0
      clear hL0 hl0
      go_loopw [39] (fun u wr => ∃ (k : Nat) (L1 : List Int), k ≤ 3 ∧ u = .int .i64 k ∧ L1.length = ln ∧ bindP ((prs ⟨kk, (a0, i0), (a1, i1), (a2, i2), sa', sb'⟩ (y0, y1, y2)).drop k) L1 = bindP (prs ⟨kk, (a0, i0), (a1, i1), (a2, i2), sa', sb'⟩ (y0, y1, y2)) L0 ∧ w.grownBy wr (some vb) ∧ WkB wr wb vb L1 ∧ wr.heap[w.heap.size]? = some (.cells #[.int .u32 y0, .int .u32 y1, .int .u32 y2] 58 (0, 0))) (fun u _ => 3 - (intOf u).toNat)
      case atStart => exact ⟨0, L0, by omega, by rfl, Hl00.out, rfl, Hgd.out, HWd.out, HBXd.out⟩
      case round =>
        obtain ⟨k, L1, hk, rfl, hl1, heq, hg, hW, hbx⟩ := hrel
        have Hl1 := Lib.hid hl1; have Heq := Lib.hid heq; have Hg1 := Lib.hid hg; have HW1 := Lib.hid hW; have HB1 := Lib.hid hbx
        clear hl1 heq hg hW hbx
        have hkk : k = 0 ∨ k = 1 ∨ k = 2 ∨ k = 3 := by omega
        rcases hkk with rfl | rfl | rfl | rfl
        · have hix := (idx_pl a0 i0 a1 i1 a2 i2 wr).1
          have hbX : Below wr.heap.size wr (wr.alloc (.cells #[.int .i64 a0, .int .u32 i0] 25)) := (Below.refl _ _).alloc (Nat.le_refl _) _
          have hbb := World.alloc_heap_new wr (.cells #[.int .i64 a0, .int .u32 i0] 25)
          have HgX := Lib.hid (gr_trans Hg1.out (gr_below vb hbX)); have HWX := Lib.hid (HW1.out.below hbX)
          have HXb := Lib.hid ((hbX.block _ (Array.getElem?_eq_some_iff.1 HB1.out).1).trans HB1.out)
          have Hbb := Lib.hid hbb
          clear hbX hbb
          by_cases hneg : a0 < 0
          · have hd : decide (a0 < 0) = true := by simpa using hneg
            go_wp2_with fail
            exact ⟨⟨1, L1, by omega, rfl, Hl1.out, (bindP_neg (x := (a0, i0)) hneg).symm.trans Heq.out, HgX.out, HWX.out, HXb.out⟩, by simp [intOf]⟩
          · have hd : decide (a0 < 0) = false := by simpa using hneg
            obtain ⟨v, hav⟩ : ∃ v : Nat, a0 = v := ⟨a0.toNat, by omega⟩
            have hvl : v < ln := by have := Hv0.out; have := Hln.out; omega
            have hvL : v < L1.length := by have := Hl1.out; omega
            have c10 := HWX.out.c
            rw [Hl1.out] at c10
            obtain ⟨cv, fv⟩ := HWX.out.v v hvL
            obtain ⟨u, hu⟩ : ∃ u, L1[v]'hvL = u := ⟨_, rfl⟩
            rw [hu] at cv
            have cb : (wr.alloc (.cells #[.int .i64 a0, .int .u32 i0] 25)).cell? ⟨wr.heap.size, 0, none⟩ = some (.int .i64 (v : Nat)) := by unfold World.cell?; rw [Hbb.out, ← hav]; rfl
            have cy : (wr.alloc (.cells #[.int .i64 a0, .int .u32 i0] 25)).cell? ⟨w.heap.size, 0, none⟩ = some (.int .u32 y0) := by unfold World.cell?; rw [HXb.out]; rfl
            have Hu := Lib.hid hu; have Hav := Lib.hid hav
            have hwx : w.heap.size < wr.heap.size := (Array.getElem?_eq_some_iff.1 HB1.out).1
            have hvbw : vb < w.heap.size := Hvb.out
            clear hu hav
            go_wp2_with fail
            obtain ⟨X, hX⟩ : ∃ X, X = wr.alloc (.cells #[.int .i64 a0, .int .u32 i0] 25) := ⟨_, rfl⟩
            rw [← hX] at c10 cv fv cb cy HgX HWX HXb ⊢
            obtain ⟨bx, hbx⟩ : ∃ bx, wr.heap.size = bx := ⟨_, rfl⟩
            rw [hbx] at cb hwx ⊢
            have hbv : vb ≠ bx ∧ vb ≠ w.heap.size := by omega
            obtain ⟨hbv1, hbv2⟩ := hbv
            clear hX hbx
            have c10 : X.drew.cell? ⟨wb, 10, none⟩ = _ := c10
            have cv : X.drew.cell? ⟨vb, v, none⟩ = _ := cv
            have cb : X.drew.cell? ⟨bx, 0, none⟩ = _ := cb
            obtain ⟨S10, hSe⟩ : ∃ S : Array Bool → World → Prop, S = fun _ w' => w' = X.drew := ⟨_, rfl⟩
            have hdrop : ∀ i : Nat, i ≠ 1000 → ∀ L w', S10 (L.setIfInBounds i true) w' → S10 L w' := by
              intro i _ L w' h; rw [hSe] at h ⊢; exact h
            have hS : ∀ L, S10 L X.drew := by intro L; rw [hSe]
            have hSo : ∀ {L w'}, S10 L w' → w' = X.drew := by intro L w' h; rw [hSe] at h; exact h
            clear hSe
            refine wp_region_LN S10 9 #[false, false, false, false, false, false, false, false, false] (by kernel_rfl) (by kernel_rfl) rfl ?_
            obtain ⟨X1, hwd⟩ : ∃ V_, V_ = X.drew := ⟨_, rfl⟩
            rw [← hwd] at c10 cv cb hS hSo ⊢
            have Hwd := Lib.hid hwd
            clear hwd
            refine WA.take (i := 0) (v := .pointer (some ⟨wb, 0, none⟩)) rfl (by kernel_rfl) (by kernel_rfl) (by kernel_rfl) (fun _ _ _ h => h) (hdrop 0 (by decide)) (Or.inl ⟨by rfl, ?_⟩) (hS _) ?_
            · rintro w' ⟨L, hL, hSw, hun⟩
              go_simp
            simp only [List.getElem_toArray, List.getElem_cons_zero, List.getElem_cons_succ, Act.put, List.setIfInBounds_toArray, List.set_cons_zero, List.set_cons_succ]
            refine WA.take (i := 1) (v := .pointer (some ⟨wb, 0, none⟩)) rfl (by kernel_rfl) (by kernel_rfl) (by kernel_rfl) (fun _ _ _ h => h) (hdrop 1 (by decide)) (Or.inl ⟨by rfl, ?_⟩) (hS _) ?_
            · rintro w' ⟨L, hL, hSw, hun⟩
              go_simp
            simp only [List.getElem_toArray, List.getElem_cons_zero, List.getElem_cons_succ, Act.put, List.setIfInBounds_toArray, List.set_cons_zero, List.set_cons_succ]
            refine WA.take (i := 2) (v := .pointer (some ⟨wb, 10, none⟩)) rfl (by kernel_rfl) (by kernel_rfl) (by kernel_rfl) (fun _ _ _ h => h) (hdrop 2 (by decide)) (Or.inl ⟨by rfl, ?_⟩) (hS _) ?_
            · rintro w' ⟨L, hL, hSw, hun⟩
              go_simp
            simp only [List.getElem_toArray, List.getElem_cons_zero, List.getElem_cons_succ, Act.put, List.setIfInBounds_toArray, List.set_cons_zero, List.set_cons_succ]
            refine WA.take (i := 3) (v := .slice (some ⟨vb, 0, none⟩) ln ln) rfl (by kernel_rfl) (by kernel_rfl) (by kernel_rfl) (fun _ _ _ h => h) (hdrop 3 (by decide)) (Or.inl ⟨by rfl, ?_⟩) (hS _) ?_
            · rintro w' ⟨L, hL, hSw, hun⟩
              obtain rfl := hSo hSw 
              go_simp
            simp only [List.getElem_toArray, List.getElem_cons_zero, List.getElem_cons_succ, Act.put, List.setIfInBounds_toArray, List.set_cons_zero, List.set_cons_succ]
            refine WA.take (i := 4) (v := .pointer (some ⟨bx, 0, none⟩)) rfl (by kernel_rfl) (by kernel_rfl) (by kernel_rfl) (fun _ _ _ h => h) (hdrop 4 (by decide)) (Or.inl ⟨by rfl, ?_⟩) (hS _) ?_
            · rintro w' ⟨L, hL, hSw, hun⟩
              go_simp
            simp only [List.getElem_toArray, List.getElem_cons_zero, List.getElem_cons_succ, Act.put, List.setIfInBounds_toArray, List.set_cons_zero, List.set_cons_succ]
            refine WA.take (i := 5) (v := .int .i64 (v : Nat)) rfl (by kernel_rfl) (by kernel_rfl) (by kernel_rfl) (fun _ _ _ h => h) (hdrop 5 (by decide)) (Or.inl ⟨by rfl, ?_⟩) (hS _) ?_
            · rintro w' ⟨L, hL, hSw, hun⟩
              obtain rfl := hSo hSw 
              go_simp
            simp only [List.getElem_toArray, List.getElem_cons_zero, List.getElem_cons_succ, Act.put, List.setIfInBounds_toArray, List.set_cons_zero, List.set_cons_succ]
            refine WA.take (i := 6) (v := .pointer (some ⟨vb, v, none⟩)) rfl (by kernel_rfl) (by kernel_rfl) (by kernel_rfl) (fun _ _ _ h => h) (hdrop 6 (by decide)) (Or.inl ⟨by rfl, ?_⟩) (hS _) ?_
            · rintro w' ⟨L, hL, hSw, hun⟩
              go_simp
            simp only [List.getElem_toArray, List.getElem_cons_zero, List.getElem_cons_succ, Act.put, List.setIfInBounds_toArray, List.set_cons_zero, List.set_cons_succ]
            refine WA.take (i := 7) (v := .int .u32 u) rfl (by kernel_rfl) (by kernel_rfl) (by kernel_rfl) (fun _ _ _ h => h) (hdrop 7 (by decide)) (Or.inl ⟨by rfl, ?_⟩) (hS _) ?_
            · rintro w' ⟨L, hL, hSw, hun⟩
              obtain rfl := hSo hSw 
              go_simp
            simp only [List.getElem_toArray, List.getElem_cons_zero, List.getElem_cons_succ, Act.put, List.setIfInBounds_toArray, List.set_cons_zero, List.set_cons_succ]
            refine WA.take (i := 8) (v := .bool (u == 0)) rfl (by kernel_rfl) (by kernel_rfl) (by kernel_rfl) (fun _ _ _ h => h) (hdrop 8 (by decide)) (Or.inl ⟨by rfl, ?_⟩) (hS _) ?_
            · rintro w' ⟨L, hL, hSw, hun⟩
              go_simp
            simp only [List.getElem_toArray, List.getElem_cons_zero, List.getElem_cons_succ, Act.put, List.setIfInBounds_toArray, List.set_cons_zero, List.set_cons_succ]
            refine WA.done (by kernel_rfl) ?_ _
            refine Nrm.normal ?_
            clear hSo hS hdrop
            clear S10
            have fv : X1.frozen? ⟨vb, v, none⟩ = false := by rw [Hwd.out]; exact fv
            have cy : X1.cell? ⟨w.heap.size, 0, none⟩ = some (.int .u32 y0) := by rw [Hwd.out]; exact cy
            have HgX1 := Lib.hid (show w.grownBy X1 (some vb) by rw [Hwd.out]; exact gr_trans HgX.out (gr_below vb (Below.refl X.heap.size X).drew))
            have HWX1 := Lib.hid (show WkB X1 wb vb L1 by rw [Hwd.out]; exact HWX.out.below (Below.refl X.heap.size X).drew)
            have HXb1 := Lib.hid (show X1.heap[w.heap.size]? = some (.cells #[.int .u32 y0, .int .u32 y1, .int .u32 y2] 58 (0, 0)) by rw [Hwd.out]; exact HXb.out)
            by_cases hz : u = 0
            · have hdz : (u == 0) = true := by simpa using hz
              go_wp2_with fail
              have c10 : X1.drew.cell? ⟨wb, 10, none⟩ = _ := c10
              have cb : X1.drew.cell? ⟨bx, 0, none⟩ = _ := cb
              have cy : X1.drew.cell? ⟨w.heap.size, 0, none⟩ = _ := cy
              have cv : X1.drew.cell? ⟨vb, v, none⟩ = _ := cv
              have fv : X1.drew.frozen? ⟨vb, v, none⟩ = _ := fv
              obtain ⟨S11, hSe⟩ : ∃ S : Array Bool → World → Prop, S = fun L w' => L.getD 10 true = false → w' = X1.drew := ⟨_, rfl⟩
              have hdrop : ∀ i, i ≠ 10 → ∀ L w', S11 (L.setIfInBounds i true) w' → S11 L w' := by
                intro i hi L w'
                rw [hSe]
                intro h hl
                exact h (by rw [getD_set_ne true hi]; exact hl)
              have hS : ∀ L, S11 L X1.drew := by intro L; rw [hSe]; exact fun _ => rfl
              have hSo : ∀ {L w'}, S11 L w' → L.getD 10 true = false → w' = X1.drew := by intro L w' h hl; rw [hSe] at h; exact h hl
              have hSd : ∀ (L : Array Bool) X, L.getD 10 true = true → S11 L X := by
                intro L X h; rw [hSe]; intro h1; rw [h] at h1; cases h1
              clear hSe
              refine wp_region_LN S11 11 #[false, false, false, false, false, false, false, false, false, false, false] (by kernel_rfl) (by kernel_rfl) rfl ?_
              obtain ⟨X2, hwd⟩ : ∃ V_, V_ = X1.drew := ⟨_, rfl⟩
              rw [← hwd] at c10 cb cy cv fv hS hSo ⊢
              have Hwd2 := Lib.hid hwd
              clear hwd
              refine WA.take (i := 0) (v := .pointer (some ⟨wb, 0, none⟩)) rfl (by kernel_rfl) (by kernel_rfl) (by kernel_rfl) (fun _ _ _ h => h) (hdrop 0 (by decide)) (Or.inl ⟨by rfl, ?_⟩) (hS _) ?_
              · rintro w' ⟨L, hL, hSw, hun⟩
                go_simp
              simp only [List.getElem_toArray, List.getElem_cons_zero, List.getElem_cons_succ, Act.put, List.setIfInBounds_toArray, List.set_cons_zero, List.set_cons_succ]
              refine WA.take (i := 1) (v := .pointer (some ⟨wb, 0, none⟩)) rfl (by kernel_rfl) (by kernel_rfl) (by kernel_rfl) (fun _ _ _ h => h) (hdrop 1 (by decide)) (Or.inl ⟨by rfl, ?_⟩) (hS _) ?_
              · rintro w' ⟨L, hL, hSw, hun⟩
                go_simp
              simp only [List.getElem_toArray, List.getElem_cons_zero, List.getElem_cons_succ, Act.put, List.setIfInBounds_toArray, List.set_cons_zero, List.set_cons_succ]
              refine WA.take (i := 2) (v := .pointer (some ⟨wb, 10, none⟩)) rfl (by kernel_rfl) (by kernel_rfl) (by kernel_rfl) (fun _ _ _ h => h) (hdrop 2 (by decide)) (Or.inl ⟨by rfl, ?_⟩) (hS _) ?_
              · rintro w' ⟨L, hL, hSw, hun⟩
                go_simp
              simp only [List.getElem_toArray, List.getElem_cons_zero, List.getElem_cons_succ, Act.put, List.setIfInBounds_toArray, List.set_cons_zero, List.set_cons_succ]
              refine WA.take (i := 3) (v := .slice (some ⟨vb, 0, none⟩) ln ln) rfl (by kernel_rfl) (by kernel_rfl) (by kernel_rfl) (fun _ _ _ h => h) (hdrop 3 (by decide)) (Or.inl ⟨by rfl, ?_⟩) (hS _) ?_
              · rintro w' ⟨L, hL, hSw, hun⟩
                obtain rfl := hSo hSw (hL.wait 10 9 (by kernel_rfl) (hL.wait 9 3 (by kernel_rfl) hun))
                go_simp
              simp only [List.getElem_toArray, List.getElem_cons_zero, List.getElem_cons_succ, Act.put, List.setIfInBounds_toArray, List.set_cons_zero, List.set_cons_succ]
              refine WA.take (i := 4) (v := .pointer (some ⟨bx, 0, none⟩)) rfl (by kernel_rfl) (by kernel_rfl) (by kernel_rfl) (fun _ _ _ h => h) (hdrop 4 (by decide)) (Or.inl ⟨by rfl, ?_⟩) (hS _) ?_
              · rintro w' ⟨L, hL, hSw, hun⟩
                go_simp
              simp only [List.getElem_toArray, List.getElem_cons_zero, List.getElem_cons_succ, Act.put, List.setIfInBounds_toArray, List.set_cons_zero, List.set_cons_succ]
              refine WA.take (i := 5) (v := .int .i64 (v : Nat)) rfl (by kernel_rfl) (by kernel_rfl) (by kernel_rfl) (fun _ _ _ h => h) (hdrop 5 (by decide)) (Or.inl ⟨by rfl, ?_⟩) (hS _) ?_
              · rintro w' ⟨L, hL, hSw, hun⟩
                obtain rfl := hSo hSw (hL.wait 10 9 (by kernel_rfl) (hL.wait 9 5 (by kernel_rfl) hun))
                go_simp
              simp only [List.getElem_toArray, List.getElem_cons_zero, List.getElem_cons_succ, Act.put, List.setIfInBounds_toArray, List.set_cons_zero, List.set_cons_succ]
              refine WA.take (i := 6) (v := .int .i64 0) rfl (by kernel_rfl) (by kernel_rfl) (by kernel_rfl) (fun _ _ _ h => h) (hdrop 6 (by decide)) (Or.inl ⟨by rfl, ?_⟩) (hS _) ?_
              · rintro w' ⟨L, hL, hSw, hun⟩
                go_simp
              simp only [List.getElem_toArray, List.getElem_cons_zero, List.getElem_cons_succ, Act.put, List.setIfInBounds_toArray, List.set_cons_zero, List.set_cons_succ]
              refine WA.take (i := 7) (v := .pointer (some ⟨w.heap.size, 0, none⟩)) rfl (by kernel_rfl) (by kernel_rfl) (by kernel_rfl) (fun _ _ _ h => h) (hdrop 7 (by decide)) (Or.inl ⟨by rfl, ?_⟩) (hS _) ?_
              · rintro w' ⟨L, hL, hSw, hun⟩
                go_simp
              simp only [List.getElem_toArray, List.getElem_cons_zero, List.getElem_cons_succ, Act.put, List.setIfInBounds_toArray, List.set_cons_zero, List.set_cons_succ]
              refine WA.take (i := 8) (v := .int .u32 y0) rfl (by kernel_rfl) (by kernel_rfl) (by kernel_rfl) (fun _ _ _ h => h) (hdrop 8 (by decide)) (Or.inl ⟨by rfl, ?_⟩) (hS _) ?_
              · rintro w' ⟨L, hL, hSw, hun⟩
                obtain rfl := hSo hSw (hL.wait 10 8 (by kernel_rfl) hun)
                go_simp
              simp only [List.getElem_toArray, List.getElem_cons_zero, List.getElem_cons_succ, Act.put, List.setIfInBounds_toArray, List.set_cons_zero, List.set_cons_succ]
              refine WA.take (i := 9) (v := .pointer (some ⟨vb, v, none⟩)) rfl (by kernel_rfl) (by kernel_rfl) (by kernel_rfl) (fun _ _ _ h => h) (hdrop 9 (by decide)) (Or.inl ⟨by rfl, ?_⟩) (hS _) ?_
              · rintro w' ⟨L, hL, hSw, hun⟩
                go_simp
              simp only [List.getElem_toArray, List.getElem_cons_zero, List.getElem_cons_succ, Act.put, List.setIfInBounds_toArray, List.set_cons_zero, List.set_cons_succ]
              refine WA.one (i := 10) (by kernel_rfl) rfl (by rfl) (fun K hK => ?_)
              go_simp
              refine hK _ _ (hSd _ _ (by rfl)) ?_
              clear hK
              try simp only [List.getElem_toArray, List.getElem_cons_zero, List.getElem_cons_succ, Act.put, List.setIfInBounds_toArray, List.set_cons_zero, List.set_cons_succ]
              refine WA.done (by kernel_rfl) ?_ _
              refine Nrm.normal ?_
              clear hSo hS hdrop hSd
              clear S11
              go_wp2_with fail
              have HgX2 := Lib.hid (show w.grownBy (X2.setCell ⟨vb, v, none⟩ (.int .u32 y0)) (some vb) from gr_trans (by rw [Hwd2.out]; exact gr_trans HgX1.out (gr_below vb (Below.refl X1.heap.size X1).drew)) (gr_set _ _ _ _))
              have HWX2 := Lib.hid (show WkB (X2.setCell ⟨vb, v, none⟩ (.int .u32 y0)) wb vb (L1.set v y0) from WkB.set (by rw [Hwd2.out]; exact HWX1.out.below (Below.refl X1.heap.size X1).drew) v y0)
              have HXb2 := Lib.hid (show (X2.setCell ⟨vb, v, none⟩ (.int .u32 y0)).heap[w.heap.size]? = some (.cells #[.int .u32 y0, .int .u32 y1, .int .u32 y2] 58 (0, 0)) from (Below.heap_setCell _ _ _ _ (fun e => hbv2 (by simpa using e.symm))).trans (by rw [Hwd2.out]; exact HXb1.out))
              have c10 : (X2.setCell ⟨vb, v, none⟩ (.int .u32 y0)).cell? ⟨wb, 10, none⟩ = some (.slice (some ⟨vb, 0, none⟩) ln ln) := by have := HWX2.out.c; rw [List.length_set, Hl1.out] at this; exact this
              have cv : (X2.setCell ⟨vb, v, none⟩ (.int .u32 y0)).cell? ⟨vb, v, none⟩ = some (.int .u32 y0) := by
                have := (HWX2.out.v v (by rw [List.length_set]; exact hvL)).1
                rw [List.getElem_set_self] at this
                exact this
              have cb : (X2.setCell ⟨vb, v, none⟩ (.int .u32 y0)).cell? ⟨bx, 0, none⟩ = some (.int .i64 (v : Nat)) := (World.cell?_setCell_other _ _ _ _ (fun e => by first | exact hbv1 (congrArg Addr.block e) | exact hbv1 (congrArg Addr.block e).symm)).trans cb
              have cy : (X2.setCell ⟨vb, v, none⟩ (.int .u32 y0)).cell? ⟨w.heap.size, 0, none⟩ = some (.int .u32 y0) := (World.cell?_setCell_other _ _ _ _ (fun e => by first | exact hbv2 (congrArg Addr.block e) | exact hbv2 (congrArg Addr.block e).symm)).trans cy
              obtain ⟨Y, hY⟩ : ∃ Y, Y = X2.setCell ⟨vb, v, none⟩ (.int .u32 y0) := ⟨_, rfl⟩
              rw [← hY] at HgX2 HWX2 HXb2 c10 cv cb cy ⊢
              clear hY
              have c10 : Y.drew.cell? ⟨wb, 10, none⟩ = _ := c10
              have cb : Y.drew.cell? ⟨bx, 0, none⟩ = _ := cb
              have cy : Y.drew.cell? ⟨w.heap.size, 0, none⟩ = _ := cy
              have cv : Y.drew.cell? ⟨vb, v, none⟩ = _ := cv
              obtain ⟨S12, hSe⟩ : ∃ S : Array Bool → World → Prop, S = fun _ w' => w' = Y.drew := ⟨_, rfl⟩
              have hdrop : ∀ i : Nat, i ≠ 1000 → ∀ L w', S12 (L.setIfInBounds i true) w' → S12 L w' := by
                intro i _ L w' h; rw [hSe] at h ⊢; exact h
              have hS : ∀ L, S12 L Y.drew := by intro L; rw [hSe]
              have hSo : ∀ {L w'}, S12 L w' → w' = Y.drew := by intro L w' h; rw [hSe] at h; exact h
              clear hSe
              refine wp_region_LN S12 12 #[false, false, false, false, false, false, false, false, false, false, false, false] (by kernel_rfl) (by kernel_rfl) rfl ?_
              obtain ⟨Y1, hwd⟩ : ∃ V_, V_ = Y.drew := ⟨_, rfl⟩
              rw [← hwd] at c10 cb cy cv hS hSo ⊢
              have Hwd3 := Lib.hid hwd
              clear hwd
              refine WA.take (i := 0) (v := .pointer (some ⟨wb, 0, none⟩)) rfl (by kernel_rfl) (by kernel_rfl) (by kernel_rfl) (fun _ _ _ h => h) (hdrop 0 (by decide)) (Or.inl ⟨by rfl, ?_⟩) (hS _) ?_
              · rintro w' ⟨L, hL, hSw, hun⟩
                go_simp
              simp only [List.getElem_toArray, List.getElem_cons_zero, List.getElem_cons_succ, Act.put, List.setIfInBounds_toArray, List.set_cons_zero, List.set_cons_succ]
              refine WA.take (i := 1) (v := .pointer (some ⟨wb, 0, none⟩)) rfl (by kernel_rfl) (by kernel_rfl) (by kernel_rfl) (fun _ _ _ h => h) (hdrop 1 (by decide)) (Or.inl ⟨by rfl, ?_⟩) (hS _) ?_
              · rintro w' ⟨L, hL, hSw, hun⟩
                go_simp
              simp only [List.getElem_toArray, List.getElem_cons_zero, List.getElem_cons_succ, Act.put, List.setIfInBounds_toArray, List.set_cons_zero, List.set_cons_succ]
              refine WA.take (i := 2) (v := .pointer (some ⟨wb, 10, none⟩)) rfl (by kernel_rfl) (by kernel_rfl) (by kernel_rfl) (fun _ _ _ h => h) (hdrop 2 (by decide)) (Or.inl ⟨by rfl, ?_⟩) (hS _) ?_
              · rintro w' ⟨L, hL, hSw, hun⟩
                go_simp
              simp only [List.getElem_toArray, List.getElem_cons_zero, List.getElem_cons_succ, Act.put, List.setIfInBounds_toArray, List.set_cons_zero, List.set_cons_succ]
              refine WA.take (i := 3) (v := .slice (some ⟨vb, 0, none⟩) ln ln) rfl (by kernel_rfl) (by kernel_rfl) (by kernel_rfl) (fun _ _ _ h => h) (hdrop 3 (by decide)) (Or.inl ⟨by rfl, ?_⟩) (hS _) ?_
              · rintro w' ⟨L, hL, hSw, hun⟩
                obtain rfl := hSo hSw 
                go_simp
              simp only [List.getElem_toArray, List.getElem_cons_zero, List.getElem_cons_succ, Act.put, List.setIfInBounds_toArray, List.set_cons_zero, List.set_cons_succ]
              refine WA.take (i := 4) (v := .pointer (some ⟨bx, 0, none⟩)) rfl (by kernel_rfl) (by kernel_rfl) (by kernel_rfl) (fun _ _ _ h => h) (hdrop 4 (by decide)) (Or.inl ⟨by rfl, ?_⟩) (hS _) ?_
              · rintro w' ⟨L, hL, hSw, hun⟩
                go_simp
              simp only [List.getElem_toArray, List.getElem_cons_zero, List.getElem_cons_succ, Act.put, List.setIfInBounds_toArray, List.set_cons_zero, List.set_cons_succ]
              refine WA.take (i := 5) (v := .int .i64 (v : Nat)) rfl (by kernel_rfl) (by kernel_rfl) (by kernel_rfl) (fun _ _ _ h => h) (hdrop 5 (by decide)) (Or.inl ⟨by rfl, ?_⟩) (hS _) ?_
              · rintro w' ⟨L, hL, hSw, hun⟩
                obtain rfl := hSo hSw 
                go_simp
              simp only [List.getElem_toArray, List.getElem_cons_zero, List.getElem_cons_succ, Act.put, List.setIfInBounds_toArray, List.set_cons_zero, List.set_cons_succ]
              refine WA.take (i := 6) (v := .pointer (some ⟨vb, v, none⟩)) rfl (by kernel_rfl) (by kernel_rfl) (by kernel_rfl) (fun _ _ _ h => h) (hdrop 6 (by decide)) (Or.inl ⟨by rfl, ?_⟩) (hS _) ?_
              · rintro w' ⟨L, hL, hSw, hun⟩
                go_simp
              simp only [List.getElem_toArray, List.getElem_cons_zero, List.getElem_cons_succ, Act.put, List.setIfInBounds_toArray, List.set_cons_zero, List.set_cons_succ]
              refine WA.take (i := 7) (v := .int .u32 y0) rfl (by kernel_rfl) (by kernel_rfl) (by kernel_rfl) (fun _ _ _ h => h) (hdrop 7 (by decide)) (Or.inl ⟨by rfl, ?_⟩) (hS _) ?_
              · rintro w' ⟨L, hL, hSw, hun⟩
                obtain rfl := hSo hSw 
                go_simp
              simp only [List.getElem_toArray, List.getElem_cons_zero, List.getElem_cons_succ, Act.put, List.setIfInBounds_toArray, List.set_cons_zero, List.set_cons_succ]
              refine WA.take (i := 8) (v := .int .i64 0) rfl (by kernel_rfl) (by kernel_rfl) (by kernel_rfl) (fun _ _ _ h => h) (hdrop 8 (by decide)) (Or.inl ⟨by rfl, ?_⟩) (hS _) ?_
              · rintro w' ⟨L, hL, hSw, hun⟩
                go_simp
              simp only [List.getElem_toArray, List.getElem_cons_zero, List.getElem_cons_succ, Act.put, List.setIfInBounds_toArray, List.set_cons_zero, List.set_cons_succ]
              refine WA.take (i := 9) (v := .pointer (some ⟨w.heap.size, 0, none⟩)) rfl (by kernel_rfl) (by kernel_rfl) (by kernel_rfl) (fun _ _ _ h => h) (hdrop 9 (by decide)) (Or.inl ⟨by rfl, ?_⟩) (hS _) ?_
              · rintro w' ⟨L, hL, hSw, hun⟩
                go_simp
              simp only [List.getElem_toArray, List.getElem_cons_zero, List.getElem_cons_succ, Act.put, List.setIfInBounds_toArray, List.set_cons_zero, List.set_cons_succ]
              refine WA.take (i := 10) (v := .int .u32 y0) rfl (by kernel_rfl) (by kernel_rfl) (by kernel_rfl) (fun _ _ _ h => h) (hdrop 10 (by decide)) (Or.inl ⟨by rfl, ?_⟩) (hS _) ?_
              · rintro w' ⟨L, hL, hSw, hun⟩
                obtain rfl := hSo hSw 
                go_simp
              simp only [List.getElem_toArray, List.getElem_cons_zero, List.getElem_cons_succ, Act.put, List.setIfInBounds_toArray, List.set_cons_zero, List.set_cons_succ]
              refine WA.take (i := 11) (v := .bool (y0 != y0)) rfl (by kernel_rfl) (by kernel_rfl) (by kernel_rfl) (fun _ _ _ h => h) (hdrop 11 (by decide)) (Or.inl ⟨by rfl, ?_⟩) (hS _) ?_
              · rintro w' ⟨L, hL, hSw, hun⟩
                go_simp
              simp only [List.getElem_toArray, List.getElem_cons_zero, List.getElem_cons_succ, Act.put, List.setIfInBounds_toArray, List.set_cons_zero, List.set_cons_succ]
              refine WA.done (by kernel_rfl) ?_ _
              refine Nrm.normal ?_
              clear hSo hS hdrop
              clear S12
              have hdy : (y0 != y0) = false := by simp
              go_wp2_with fail
              refine ⟨⟨1, L1.set v y0, by omega, rfl, by rw [List.length_set]; exact Hl1.out, ?_, by rw [Hwd3.out]; exact gr_trans HgX2.out (gr_below vb (Below.refl Y.heap.size Y).drew), by rw [Hwd3.out]; exact HWX2.out.below (Below.refl Y.heap.size Y).drew, by rw [Hwd3.out]; exact HXb2.out⟩, by simp [intOf]⟩
              refine Eq.trans ?_ Heq.out
              have hb := bindP_new (i := i0) (y := y0) (t := (prs ⟨kk, (a0, i0), (a1, i1), (a2, i2), sa', sb'⟩ (y0, y1, y2)).drop 1) hvL (Hu.out.trans hz)
              rw [← Hav.out] at hb
              exact hb.symm
            · have hdz : (u == 0) = false := by simpa using hz
              go_wp2_with fail
              have c10 : X1.drew.cell? ⟨wb, 10, none⟩ = _ := c10
              have cb : X1.drew.cell? ⟨bx, 0, none⟩ = _ := cb
              have cy : X1.drew.cell? ⟨w.heap.size, 0, none⟩ = _ := cy
              have cv : X1.drew.cell? ⟨vb, v, none⟩ = _ := cv
              obtain ⟨S12, hSe⟩ : ∃ S : Array Bool → World → Prop, S = fun _ w' => w' = X1.drew := ⟨_, rfl⟩
              have hdrop : ∀ i : Nat, i ≠ 1000 → ∀ L w', S12 (L.setIfInBounds i true) w' → S12 L w' := by
                intro i _ L w' h; rw [hSe] at h ⊢; exact h
              have hS : ∀ L, S12 L X1.drew := by intro L; rw [hSe]
              have hSo : ∀ {L w'}, S12 L w' → w' = X1.drew := by intro L w' h; rw [hSe] at h; exact h
              clear hSe
              refine wp_region_LN S12 12 #[false, false, false, false, false, false, false, false, false, false, false, false] (by kernel_rfl) (by kernel_rfl) rfl ?_
              obtain ⟨Y1, hwd⟩ : ∃ V_, V_ = X1.drew := ⟨_, rfl⟩
              rw [← hwd] at c10 cb cy cv hS hSo ⊢
              have Hwd3 := Lib.hid hwd
              clear hwd
              refine WA.take (i := 0) (v := .pointer (some ⟨wb, 0, none⟩)) rfl (by kernel_rfl) (by kernel_rfl) (by kernel_rfl) (fun _ _ _ h => h) (hdrop 0 (by decide)) (Or.inl ⟨by rfl, ?_⟩) (hS _) ?_
              · rintro w' ⟨L, hL, hSw, hun⟩
                go_simp
              simp only [List.getElem_toArray, List.getElem_cons_zero, List.getElem_cons_succ, Act.put, List.setIfInBounds_toArray, List.set_cons_zero, List.set_cons_succ]
              refine WA.take (i := 1) (v := .pointer (some ⟨wb, 0, none⟩)) rfl (by kernel_rfl) (by kernel_rfl) (by kernel_rfl) (fun _ _ _ h => h) (hdrop 1 (by decide)) (Or.inl ⟨by rfl, ?_⟩) (hS _) ?_
              · rintro w' ⟨L, hL, hSw, hun⟩
                go_simp
              simp only [List.getElem_toArray, List.getElem_cons_zero, List.getElem_cons_succ, Act.put, List.setIfInBounds_toArray, List.set_cons_zero, List.set_cons_succ]
              refine WA.take (i := 2) (v := .pointer (some ⟨wb, 10, none⟩)) rfl (by kernel_rfl) (by kernel_rfl) (by kernel_rfl) (fun _ _ _ h => h) (hdrop 2 (by decide)) (Or.inl ⟨by rfl, ?_⟩) (hS _) ?_
              · rintro w' ⟨L, hL, hSw, hun⟩
                go_simp
              simp only [List.getElem_toArray, List.getElem_cons_zero, List.getElem_cons_succ, Act.put, List.setIfInBounds_toArray, List.set_cons_zero, List.set_cons_succ]
              refine WA.take (i := 3) (v := .slice (some ⟨vb, 0, none⟩) ln ln) rfl (by kernel_rfl) (by kernel_rfl) (by kernel_rfl) (fun _ _ _ h => h) (hdrop 3 (by decide)) (Or.inl ⟨by rfl, ?_⟩) (hS _) ?_
              · rintro w' ⟨L, hL, hSw, hun⟩
                obtain rfl := hSo hSw 
                go_simp
              simp only [List.getElem_toArray, List.getElem_cons_zero, List.getElem_cons_succ, Act.put, List.setIfInBounds_toArray, List.set_cons_zero, List.set_cons_succ]
              refine WA.take (i := 4) (v := .pointer (some ⟨bx, 0, none⟩)) rfl (by kernel_rfl) (by kernel_rfl) (by kernel_rfl) (fun _ _ _ h => h) (hdrop 4 (by decide)) (Or.inl ⟨by rfl, ?_⟩) (hS _) ?_
              · rintro w' ⟨L, hL, hSw, hun⟩
                go_simp
              simp only [List.getElem_toArray, List.getElem_cons_zero, List.getElem_cons_succ, Act.put, List.setIfInBounds_toArray, List.set_cons_zero, List.set_cons_succ]
              refine WA.take (i := 5) (v := .int .i64 (v : Nat)) rfl (by kernel_rfl) (by kernel_rfl) (by kernel_rfl) (fun _ _ _ h => h) (hdrop 5 (by decide)) (Or.inl ⟨by rfl, ?_⟩) (hS _) ?_
              · rintro w' ⟨L, hL, hSw, hun⟩
                obtain rfl := hSo hSw 
                go_simp
              simp only [List.getElem_toArray, List.getElem_cons_zero, List.getElem_cons_succ, Act.put, List.setIfInBounds_toArray, List.set_cons_zero, List.set_cons_succ]
              refine WA.take (i := 6) (v := .pointer (some ⟨vb, v, none⟩)) rfl (by kernel_rfl) (by kernel_rfl) (by kernel_rfl) (fun _ _ _ h => h) (hdrop 6 (by decide)) (Or.inl ⟨by rfl, ?_⟩) (hS _) ?_
              · rintro w' ⟨L, hL, hSw, hun⟩
                go_simp
              simp only [List.getElem_toArray, List.getElem_cons_zero, List.getElem_cons_succ, Act.put, List.setIfInBounds_toArray, List.set_cons_zero, List.set_cons_succ]
              refine WA.take (i := 7) (v := .int .u32 u) rfl (by kernel_rfl) (by kernel_rfl) (by kernel_rfl) (fun _ _ _ h => h) (hdrop 7 (by decide)) (Or.inl ⟨by rfl, ?_⟩) (hS _) ?_
              · rintro w' ⟨L, hL, hSw, hun⟩
                obtain rfl := hSo hSw 
                go_simp
              simp only [List.getElem_toArray, List.getElem_cons_zero, List.getElem_cons_succ, Act.put, List.setIfInBounds_toArray, List.set_cons_zero, List.set_cons_succ]
              refine WA.take (i := 8) (v := .int .i64 0) rfl (by kernel_rfl) (by kernel_rfl) (by kernel_rfl) (fun _ _ _ h => h) (hdrop 8 (by decide)) (Or.inl ⟨by rfl, ?_⟩) (hS _) ?_
              · rintro w' ⟨L, hL, hSw, hun⟩
                go_simp
              simp only [List.getElem_toArray, List.getElem_cons_zero, List.getElem_cons_succ, Act.put, List.setIfInBounds_toArray, List.set_cons_zero, List.set_cons_succ]
              refine WA.take (i := 9) (v := .pointer (some ⟨w.heap.size, 0, none⟩)) rfl (by kernel_rfl) (by kernel_rfl) (by kernel_rfl) (fun _ _ _ h => h) (hdrop 9 (by decide)) (Or.inl ⟨by rfl, ?_⟩) (hS _) ?_
              · rintro w' ⟨L, hL, hSw, hun⟩
                go_simp
              simp only [List.getElem_toArray, List.getElem_cons_zero, List.getElem_cons_succ, Act.put, List.setIfInBounds_toArray, List.set_cons_zero, List.set_cons_succ]
              refine WA.take (i := 10) (v := .int .u32 y0) rfl (by kernel_rfl) (by kernel_rfl) (by kernel_rfl) (fun _ _ _ h => h) (hdrop 10 (by decide)) (Or.inl ⟨by rfl, ?_⟩) (hS _) ?_
              · rintro w' ⟨L, hL, hSw, hun⟩
                obtain rfl := hSo hSw 
                go_simp
              simp only [List.getElem_toArray, List.getElem_cons_zero, List.getElem_cons_succ, Act.put, List.setIfInBounds_toArray, List.set_cons_zero, List.set_cons_succ]
              refine WA.take (i := 11) (v := .bool (u != y0)) rfl (by kernel_rfl) (by kernel_rfl) (by kernel_rfl) (fun _ _ _ h => h) (hdrop 11 (by decide)) (Or.inl ⟨by rfl, ?_⟩) (hS _) ?_
              · rintro w' ⟨L, hL, hSw, hun⟩
                go_simp
              simp only [List.getElem_toArray, List.getElem_cons_zero, List.getElem_cons_succ, Act.put, List.setIfInBounds_toArray, List.set_cons_zero, List.set_cons_succ]
              refine WA.done (by kernel_rfl) ?_ _
              refine Nrm.normal ?_
              clear hSo hS hdrop
              clear S12
              have HgY := Lib.hid (show w.grownBy Y1 (some vb) by rw [Hwd3.out]; exact gr_trans HgX1.out (gr_below vb (Below.refl X1.heap.size X1).drew))
              have HWY := Lib.hid (show WkB Y1 wb vb L1 by rw [Hwd3.out]; exact HWX1.out.below (Below.refl X1.heap.size X1).drew)
              have HXbY := Lib.hid (show Y1.heap[w.heap.size]? = some (.cells #[.int .u32 y0, .int .u32 y1, .int .u32 y2] 58 (0, 0)) by rw [Hwd3.out]; exact HXb1.out)
              by_cases hy : u = y0
              · have hdy : (u != y0) = false := by simpa using hy
                go_wp2_with fail
                refine ⟨⟨1, L1, by omega, rfl, Hl1.out, ?_, HgY.out, HWY.out, HXbY.out⟩, by simp [intOf]⟩
                refine Eq.trans ?_ Heq.out
                have hb := bindP_same (i := i0) (y := y0) (t := (prs ⟨kk, (a0, i0), (a1, i1), (a2, i2), sa', sb'⟩ (y0, y1, y2)).drop 1) hvL (fun e => hz (Hu.out.symm.trans e)) (Hu.out.trans hy)
                rw [← Hav.out] at hb
                exact hb.symm
              · have hdy : (u != y0) = true := by simpa using hy
                go_wp2_with fail
                go_ret
                have hb := bindP_not (i := i0) (y := y0) (t := (prs ⟨kk, (a0, i0), (a1, i1), (a2, i2), sa', sb'⟩ (y0, y1, y2)).drop 1) hvL (fun e => hz (Hu.out.symm.trans e)) (fun e => hy (Hu.out.symm.trans e))
                rw [← Hav.out] at hb
                have hb := Heq.out.symm.trans hb
                rw [HL0.out] at hb
                rw [hb]
                exact ⟨rfl, HWY.out, HgY.out⟩
        · have hix := (idx_pl a0 i0 a1 i1 a2 i2 wr).2.1
          have hbX : Below wr.heap.size wr (wr.alloc (.cells #[.int .i64 a1, .int .u32 i1] 25)) := (Below.refl _ _).alloc (Nat.le_refl _) _
          have hbb := World.alloc_heap_new wr (.cells #[.int .i64 a1, .int .u32 i1] 25)
          have HgX := Lib.hid (gr_trans Hg1.out (gr_below vb hbX)); have HWX := Lib.hid (HW1.out.below hbX)
          have HXb := Lib.hid ((hbX.block _ (Array.getElem?_eq_some_iff.1 HB1.out).1).trans HB1.out)
          have Hbb := Lib.hid hbb
          clear hbX hbb
          by_cases hneg : a1 < 0
          · have hd : decide (a1 < 0) = true := by simpa using hneg
            go_wp2_with fail
            exact ⟨⟨2, L1, by omega, rfl, Hl1.out, (bindP_neg (x := (a1, i1)) hneg).symm.trans Heq.out, HgX.out, HWX.out, HXb.out⟩, by simp [intOf]⟩
          · have hd : decide (a1 < 0) = false := by simpa using hneg
            obtain ⟨v, hav⟩ : ∃ v : Nat, a1 = v := ⟨a1.toNat, by omega⟩
            have hvl : v < ln := by have := Hv1.out; have := Hln.out; omega
            have hvL : v < L1.length := by have := Hl1.out; omega
            have c10 := HWX.out.c
            rw [Hl1.out] at c10
            obtain ⟨cv, fv⟩ := HWX.out.v v hvL
            obtain ⟨u, hu⟩ : ∃ u, L1[v]'hvL = u := ⟨_, rfl⟩
            rw [hu] at cv
            have cb : (wr.alloc (.cells #[.int .i64 a1, .int .u32 i1] 25)).cell? ⟨wr.heap.size, 0, none⟩ = some (.int .i64 (v : Nat)) := by unfold World.cell?; rw [Hbb.out, ← hav]; rfl
            have cy : (wr.alloc (.cells #[.int .i64 a1, .int .u32 i1] 25)).cell? ⟨w.heap.size, 1, none⟩ = some (.int .u32 y1) := by unfold World.cell?; rw [HXb.out]; rfl
            have Hu := Lib.hid hu; have Hav := Lib.hid hav
            have hwx : w.heap.size < wr.heap.size := (Array.getElem?_eq_some_iff.1 HB1.out).1
            have hvbw : vb < w.heap.size := Hvb.out
            clear hu hav
            go_wp2_with fail
            obtain ⟨X, hX⟩ : ∃ X, X = wr.alloc (.cells #[.int .i64 a1, .int .u32 i1] 25) := ⟨_, rfl⟩
            rw [← hX] at c10 cv fv cb cy HgX HWX HXb ⊢
            obtain ⟨bx, hbx⟩ : ∃ bx, wr.heap.size = bx := ⟨_, rfl⟩
            rw [hbx] at cb hwx ⊢
            have hbv : vb ≠ bx ∧ vb ≠ w.heap.size := by omega
            obtain ⟨hbv1, hbv2⟩ := hbv
            clear hX hbx
            have c10 : X.drew.cell? ⟨wb, 10, none⟩ = _ := c10
            have cv : X.drew.cell? ⟨vb, v, none⟩ = _ := cv
            have cb : X.drew.cell? ⟨bx, 0, none⟩ = _ := cb
            obtain ⟨S10, hSe⟩ : ∃ S : Array Bool → World → Prop, S = fun _ w' => w' = X.drew := ⟨_, rfl⟩
            have hdrop : ∀ i : Nat, i ≠ 1000 → ∀ L w', S10 (L.setIfInBounds i true) w' → S10 L w' := by
              intro i _ L w' h; rw [hSe] at h ⊢; exact h
            have hS : ∀ L, S10 L X.drew := by intro L; rw [hSe]
            have hSo : ∀ {L w'}, S10 L w' → w' = X.drew := by intro L w' h; rw [hSe] at h; exact h
            clear hSe
            refine wp_region_LN S10 9 #[false, false, false, false, false, false, false, false, false] (by kernel_rfl) (by kernel_rfl) rfl ?_
            obtain ⟨X1, hwd⟩ : ∃ V_, V_ = X.drew := ⟨_, rfl⟩
            rw [← hwd] at c10 cv cb hS hSo ⊢
            have Hwd := Lib.hid hwd
            clear hwd
            refine WA.take (i := 0) (v := .pointer (some ⟨wb, 0, none⟩)) rfl (by kernel_rfl) (by kernel_rfl) (by kernel_rfl) (fun _ _ _ h => h) (hdrop 0 (by decide)) (Or.inl ⟨by rfl, ?_⟩) (hS _) ?_
            · rintro w' ⟨L, hL, hSw, hun⟩
              go_simp
            simp only [List.getElem_toArray, List.getElem_cons_zero, List.getElem_cons_succ, Act.put, List.setIfInBounds_toArray, List.set_cons_zero, List.set_cons_succ]
            refine WA.take (i := 1) (v := .pointer (some ⟨wb, 0, none⟩)) rfl (by kernel_rfl) (by kernel_rfl) (by kernel_rfl) (fun _ _ _ h => h) (hdrop 1 (by decide)) (Or.inl ⟨by rfl, ?_⟩) (hS _) ?_
            · rintro w' ⟨L, hL, hSw, hun⟩
              go_simp
            simp only [List.getElem_toArray, List.getElem_cons_zero, List.getElem_cons_succ, Act.put, List.setIfInBounds_toArray, List.set_cons_zero, List.set_cons_succ]
            refine WA.take (i := 2) (v := .pointer (some ⟨wb, 10, none⟩)) rfl (by kernel_rfl) (by kernel_rfl) (by kernel_rfl) (fun _ _ _ h => h) (hdrop 2 (by decide)) (Or.inl ⟨by rfl, ?_⟩) (hS _) ?_
            · rintro w' ⟨L, hL, hSw, hun⟩
              go_simp
            simp only [List.getElem_toArray, List.getElem_cons_zero, List.getElem_cons_succ, Act.put, List.setIfInBounds_toArray, List.set_cons_zero, List.set_cons_succ]
            refine WA.take (i := 3) (v := .slice (some ⟨vb, 0, none⟩) ln ln) rfl (by kernel_rfl) (by kernel_rfl) (by kernel_rfl) (fun _ _ _ h => h) (hdrop 3 (by decide)) (Or.inl ⟨by rfl, ?_⟩) (hS _) ?_
            · rintro w' ⟨L, hL, hSw, hun⟩
              obtain rfl := hSo hSw 
              go_simp
            simp only [List.getElem_toArray, List.getElem_cons_zero, List.getElem_cons_succ, Act.put, List.setIfInBounds_toArray, List.set_cons_zero, List.set_cons_succ]
            refine WA.take (i := 4) (v := .pointer (some ⟨bx, 0, none⟩)) rfl (by kernel_rfl) (by kernel_rfl) (by kernel_rfl) (fun _ _ _ h => h) (hdrop 4 (by decide)) (Or.inl ⟨by rfl, ?_⟩) (hS _) ?_
            · rintro w' ⟨L, hL, hSw, hun⟩
              go_simp
            simp only [List.getElem_toArray, List.getElem_cons_zero, List.getElem_cons_succ, Act.put, List.setIfInBounds_toArray, List.set_cons_zero, List.set_cons_succ]
            refine WA.take (i := 5) (v := .int .i64 (v : Nat)) rfl (by kernel_rfl) (by kernel_rfl) (by kernel_rfl) (fun _ _ _ h => h) (hdrop 5 (by decide)) (Or.inl ⟨by rfl, ?_⟩) (hS _) ?_
            · rintro w' ⟨L, hL, hSw, hun⟩
              obtain rfl := hSo hSw 
              go_simp
            simp only [List.getElem_toArray, List.getElem_cons_zero, List.getElem_cons_succ, Act.put, List.setIfInBounds_toArray, List.set_cons_zero, List.set_cons_succ]
            refine WA.take (i := 6) (v := .pointer (some ⟨vb, v, none⟩)) rfl (by kernel_rfl) (by kernel_rfl) (by kernel_rfl) (fun _ _ _ h => h) (hdrop 6 (by decide)) (Or.inl ⟨by rfl, ?_⟩) (hS _) ?_
            · rintro w' ⟨L, hL, hSw, hun⟩
              go_simp
            simp only [List.getElem_toArray, List.getElem_cons_zero, List.getElem_cons_succ, Act.put, List.setIfInBounds_toArray, List.set_cons_zero, List.set_cons_succ]
            refine WA.take (i := 7) (v := .int .u32 u) rfl (by kernel_rfl) (by kernel_rfl) (by kernel_rfl) (fun _ _ _ h => h) (hdrop 7 (by decide)) (Or.inl ⟨by rfl, ?_⟩) (hS _) ?_
            · rintro w' ⟨L, hL, hSw, hun⟩
              obtain rfl := hSo hSw 
              go_simp
            simp only [List.getElem_toArray, List.getElem_cons_zero, List.getElem_cons_succ, Act.put, List.setIfInBounds_toArray, List.set_cons_zero, List.set_cons_succ]
            refine WA.take (i := 8) (v := .bool (u == 0)) rfl (by kernel_rfl) (by kernel_rfl) (by kernel_rfl) (fun _ _ _ h => h) (hdrop 8 (by decide)) (Or.inl ⟨by rfl, ?_⟩) (hS _) ?_
            · rintro w' ⟨L, hL, hSw, hun⟩
              go_simp
            simp only [List.getElem_toArray, List.getElem_cons_zero, List.getElem_cons_succ, Act.put, List.setIfInBounds_toArray, List.set_cons_zero, List.set_cons_succ]
            refine WA.done (by kernel_rfl) ?_ _
            refine Nrm.normal ?_
            clear hSo hS hdrop
            clear S10
            have fv : X1.frozen? ⟨vb, v, none⟩ = false := by rw [Hwd.out]; exact fv
            have cy : X1.cell? ⟨w.heap.size, 1, none⟩ = some (.int .u32 y1) := by rw [Hwd.out]; exact cy
            have HgX1 := Lib.hid (show w.grownBy X1 (some vb) by rw [Hwd.out]; exact gr_trans HgX.out (gr_below vb (Below.refl X.heap.size X).drew))
            have HWX1 := Lib.hid (show WkB X1 wb vb L1 by rw [Hwd.out]; exact HWX.out.below (Below.refl X.heap.size X).drew)
            have HXb1 := Lib.hid (show X1.heap[w.heap.size]? = some (.cells #[.int .u32 y0, .int .u32 y1, .int .u32 y2] 58 (0, 0)) by rw [Hwd.out]; exact HXb.out)
            by_cases hz : u = 0
            · have hdz : (u == 0) = true := by simpa using hz
              go_wp2_with fail
              have c10 : X1.drew.cell? ⟨wb, 10, none⟩ = _ := c10
              have cb : X1.drew.cell? ⟨bx, 0, none⟩ = _ := cb
              have cy : X1.drew.cell? ⟨w.heap.size, 1, none⟩ = _ := cy
              have cv : X1.drew.cell? ⟨vb, v, none⟩ = _ := cv
              have fv : X1.drew.frozen? ⟨vb, v, none⟩ = _ := fv
              obtain ⟨S11, hSe⟩ : ∃ S : Array Bool → World → Prop, S = fun L w' => L.getD 10 true = false → w' = X1.drew := ⟨_, rfl⟩
              have hdrop : ∀ i, i ≠ 10 → ∀ L w', S11 (L.setIfInBounds i true) w' → S11 L w' := by
                intro i hi L w'
                rw [hSe]
                intro h hl
                exact h (by rw [getD_set_ne true hi]; exact hl)
              have hS : ∀ L, S11 L X1.drew := by intro L; rw [hSe]; exact fun _ => rfl
              have hSo : ∀ {L w'}, S11 L w' → L.getD 10 true = false → w' = X1.drew := by intro L w' h hl; rw [hSe] at h; exact h hl
              have hSd : ∀ (L : Array Bool) X, L.getD 10 true = true → S11 L X := by
                intro L X h; rw [hSe]; intro h1; rw [h] at h1; cases h1
              clear hSe
              refine wp_region_LN S11 11 #[false, false, false, false, false, false, false, false, false, false, false] (by kernel_rfl) (by kernel_rfl) rfl ?_
              obtain ⟨X2, hwd⟩ : ∃ V_, V_ = X1.drew := ⟨_, rfl⟩
              rw [← hwd] at c10 cb cy cv fv hS hSo ⊢
              have Hwd2 := Lib.hid hwd
              clear hwd
              refine WA.take (i := 0) (v := .pointer (some ⟨wb, 0, none⟩)) rfl (by kernel_rfl) (by kernel_rfl) (by kernel_rfl) (fun _ _ _ h => h) (hdrop 0 (by decide)) (Or.inl ⟨by rfl, ?_⟩) (hS _) ?_
              · rintro w' ⟨L, hL, hSw, hun⟩
                go_simp
              simp only [List.getElem_toArray, List.getElem_cons_zero, List.getElem_cons_succ, Act.put, List.setIfInBounds_toArray, List.set_cons_zero, List.set_cons_succ]
              refine WA.take (i := 1) (v := .pointer (some ⟨wb, 0, none⟩)) rfl (by kernel_rfl) (by kernel_rfl) (by kernel_rfl) (fun _ _ _ h => h) (hdrop 1 (by decide)) (Or.inl ⟨by rfl, ?_⟩) (hS _) ?_
              · rintro w' ⟨L, hL, hSw, hun⟩
                go_simp
              simp only [List.getElem_toArray, List.getElem_cons_zero, List.getElem_cons_succ, Act.put, List.setIfInBounds_toArray, List.set_cons_zero, List.set_cons_succ]
              refine WA.take (i := 2) (v := .pointer (some ⟨wb, 10, none⟩)) rfl (by kernel_rfl) (by kernel_rfl) (by kernel_rfl) (fun _ _ _ h => h) (hdrop 2 (by decide)) (Or.inl ⟨by rfl, ?_⟩) (hS _) ?_
              · rintro w' ⟨L, hL, hSw, hun⟩
                go_simp
              simp only [List.getElem_toArray, List.getElem_cons_zero, List.getElem_cons_succ, Act.put, List.setIfInBounds_toArray, List.set_cons_zero, List.set_cons_succ]
              refine WA.take (i := 3) (v := .slice (some ⟨vb, 0, none⟩) ln ln) rfl (by kernel_rfl) (by kernel_rfl) (by kernel_rfl) (fun _ _ _ h => h) (hdrop 3 (by decide)) (Or.inl ⟨by rfl, ?_⟩) (hS _) ?_
              · rintro w' ⟨L, hL, hSw, hun⟩
                obtain rfl := hSo hSw (hL.wait 10 9 (by kernel_rfl) (hL.wait 9 3 (by kernel_rfl) hun))
                go_simp
              simp only [List.getElem_toArray, List.getElem_cons_zero, List.getElem_cons_succ, Act.put, List.setIfInBounds_toArray, List.set_cons_zero, List.set_cons_succ]
              refine WA.take (i := 4) (v := .pointer (some ⟨bx, 0, none⟩)) rfl (by kernel_rfl) (by kernel_rfl) (by kernel_rfl) (fun _ _ _ h => h) (hdrop 4 (by decide)) (Or.inl ⟨by rfl, ?_⟩) (hS _) ?_
              · rintro w' ⟨L, hL, hSw, hun⟩
                go_simp
              simp only [List.getElem_toArray, List.getElem_cons_zero, List.getElem_cons_succ, Act.put, List.setIfInBounds_toArray, List.set_cons_zero, List.set_cons_succ]
              refine WA.take (i := 5) (v := .int .i64 (v : Nat)) rfl (by kernel_rfl) (by kernel_rfl) (by kernel_rfl) (fun _ _ _ h => h) (hdrop 5 (by decide)) (Or.inl ⟨by rfl, ?_⟩) (hS _) ?_
              · rintro w' ⟨L, hL, hSw, hun⟩
                obtain rfl := hSo hSw (hL.wait 10 9 (by kernel_rfl) (hL.wait 9 5 (by kernel_rfl) hun))
                go_simp
              simp only [List.getElem_toArray, List.getElem_cons_zero, List.getElem_cons_succ, Act.put, List.setIfInBounds_toArray, List.set_cons_zero, List.set_cons_succ]
              refine WA.take (i := 6) (v := .int .i64 1) rfl (by kernel_rfl) (by kernel_rfl) (by kernel_rfl) (fun _ _ _ h => h) (hdrop 6 (by decide)) (Or.inl ⟨by rfl, ?_⟩) (hS _) ?_
              · rintro w' ⟨L, hL, hSw, hun⟩
                go_simp
              simp only [List.getElem_toArray, List.getElem_cons_zero, List.getElem_cons_succ, Act.put, List.setIfInBounds_toArray, List.set_cons_zero, List.set_cons_succ]
              refine WA.take (i := 7) (v := .pointer (some ⟨w.heap.size, 1, none⟩)) rfl (by kernel_rfl) (by kernel_rfl) (by kernel_rfl) (fun _ _ _ h => h) (hdrop 7 (by decide)) (Or.inl ⟨by rfl, ?_⟩) (hS _) ?_
              · rintro w' ⟨L, hL, hSw, hun⟩
                go_simp
              simp only [List.getElem_toArray, List.getElem_cons_zero, List.getElem_cons_succ, Act.put, List.setIfInBounds_toArray, List.set_cons_zero, List.set_cons_succ]
              refine WA.take (i := 8) (v := .int .u32 y1) rfl (by kernel_rfl) (by kernel_rfl) (by kernel_rfl) (fun _ _ _ h => h) (hdrop 8 (by decide)) (Or.inl ⟨by rfl, ?_⟩) (hS _) ?_
              · rintro w' ⟨L, hL, hSw, hun⟩
                obtain rfl := hSo hSw (hL.wait 10 8 (by kernel_rfl) hun)
                go_simp
              simp only [List.getElem_toArray, List.getElem_cons_zero, List.getElem_cons_succ, Act.put, List.setIfInBounds_toArray, List.set_cons_zero, List.set_cons_succ]
              refine WA.take (i := 9) (v := .pointer (some ⟨vb, v, none⟩)) rfl (by kernel_rfl) (by kernel_rfl) (by kernel_rfl) (fun _ _ _ h => h) (hdrop 9 (by decide)) (Or.inl ⟨by rfl, ?_⟩) (hS _) ?_
              · rintro w' ⟨L, hL, hSw, hun⟩
                go_simp
              simp only [List.getElem_toArray, List.getElem_cons_zero, List.getElem_cons_succ, Act.put, List.setIfInBounds_toArray, List.set_cons_zero, List.set_cons_succ]
              refine WA.one (i := 10) (by kernel_rfl) rfl (by rfl) (fun K hK => ?_)
              go_simp
              refine hK _ _ (hSd _ _ (by rfl)) ?_
              clear hK
              try simp only [List.getElem_toArray, List.getElem_cons_zero, List.getElem_cons_succ, Act.put, List.setIfInBounds_toArray, List.set_cons_zero, List.set_cons_succ]
              refine WA.done (by kernel_rfl) ?_ _
              refine Nrm.normal ?_
              clear hSo hS hdrop hSd
              clear S11
              go_wp2_with fail
              have HgX2 := Lib.hid (show w.grownBy (X2.setCell ⟨vb, v, none⟩ (.int .u32 y1)) (some vb) from gr_trans (by rw [Hwd2.out]; exact gr_trans HgX1.out (gr_below vb (Below.refl X1.heap.size X1).drew)) (gr_set _ _ _ _))
              have HWX2 := Lib.hid (show WkB (X2.setCell ⟨vb, v, none⟩ (.int .u32 y1)) wb vb (L1.set v y1) from WkB.set (by rw [Hwd2.out]; exact HWX1.out.below (Below.refl X1.heap.size X1).drew) v y1)
              have HXb2 := Lib.hid (show (X2.setCell ⟨vb, v, none⟩ (.int .u32 y1)).heap[w.heap.size]? = some (.cells #[.int .u32 y0, .int .u32 y1, .int .u32 y2] 58 (0, 0)) from (Below.heap_setCell _ _ _ _ (fun e => hbv2 (by simpa using e.symm))).trans (by rw [Hwd2.out]; exact HXb1.out))
              have c10 : (X2.setCell ⟨vb, v, none⟩ (.int .u32 y1)).cell? ⟨wb, 10, none⟩ = some (.slice (some ⟨vb, 0, none⟩) ln ln) := by have := HWX2.out.c; rw [List.length_set, Hl1.out] at this; exact this
              have cv : (X2.setCell ⟨vb, v, none⟩ (.int .u32 y1)).cell? ⟨vb, v, none⟩ = some (.int .u32 y1) := by
                have := (HWX2.out.v v (by rw [List.length_set]; exact hvL)).1
                rw [List.getElem_set_self] at this
                exact this
              have cb : (X2.setCell ⟨vb, v, none⟩ (.int .u32 y1)).cell? ⟨bx, 0, none⟩ = some (.int .i64 (v : Nat)) := (World.cell?_setCell_other _ _ _ _ (fun e => by first | exact hbv1 (congrArg Addr.block e) | exact hbv1 (congrArg Addr.block e).symm)).trans cb
              have cy : (X2.setCell ⟨vb, v, none⟩ (.int .u32 y1)).cell? ⟨w.heap.size, 1, none⟩ = some (.int .u32 y1) := (World.cell?_setCell_other _ _ _ _ (fun e => by first | exact hbv2 (congrArg Addr.block e) | exact hbv2 (congrArg Addr.block e).symm)).trans cy
              obtain ⟨Y, hY⟩ : ∃ Y, Y = X2.setCell ⟨vb, v, none⟩ (.int .u32 y1) := ⟨_, rfl⟩
              rw [← hY] at HgX2 HWX2 HXb2 c10 cv cb cy ⊢
              clear hY
              have c10 : Y.drew.cell? ⟨wb, 10, none⟩ = _ := c10
              have cb : Y.drew.cell? ⟨bx, 0, none⟩ = _ := cb
              have cy : Y.drew.cell? ⟨w.heap.size, 1, none⟩ = _ := cy
              have cv : Y.drew.cell? ⟨vb, v, none⟩ = _ := cv
              obtain ⟨S12, hSe⟩ : ∃ S : Array Bool → World → Prop, S = fun _ w' => w' = Y.drew := ⟨_, rfl⟩
              have hdrop : ∀ i : Nat, i ≠ 1000 → ∀ L w', S12 (L.setIfInBounds i true) w' → S12 L w' := by
                intro i _ L w' h; rw [hSe] at h ⊢; exact h
              have hS : ∀ L, S12 L Y.drew := by intro L; rw [hSe]
              have hSo : ∀ {L w'}, S12 L w' → w' = Y.drew := by intro L w' h; rw [hSe] at h; exact h
              clear hSe
              refine wp_region_LN S12 12 #[false, false, false, false, false, false, false, false, false, false, false, false] (by kernel_rfl) (by kernel_rfl) rfl ?_
              obtain ⟨Y1, hwd⟩ : ∃ V_, V_ = Y.drew := ⟨_, rfl⟩
              rw [← hwd] at c10 cb cy cv hS hSo ⊢
              have Hwd3 := Lib.hid hwd
              clear hwd
              refine WA.take (i := 0) (v := .pointer (some ⟨wb, 0, none⟩)) rfl (by kernel_rfl) (by kernel_rfl) (by kernel_rfl) (fun _ _ _ h => h) (hdrop 0 (by decide)) (Or.inl ⟨by rfl, ?_⟩) (hS _) ?_
              · rintro w' ⟨L, hL, hSw, hun⟩
                go_simp
              simp only [List.getElem_toArray, List.getElem_cons_zero, List.getElem_cons_succ, Act.put, List.setIfInBounds_toArray, List.set_cons_zero, List.set_cons_succ]
              refine WA.take (i := 1) (v := .pointer (some ⟨wb, 0, none⟩)) rfl (by kernel_rfl) (by kernel_rfl) (by kernel_rfl) (fun _ _ _ h => h) (hdrop 1 (by decide)) (Or.inl ⟨by rfl, ?_⟩) (hS _) ?_
              · rintro w' ⟨L, hL, hSw, hun⟩
                go_simp
              simp only [List.getElem_toArray, List.getElem_cons_zero, List.getElem_cons_succ, Act.put, List.setIfInBounds_toArray, List.set_cons_zero, List.set_cons_succ]
              refine WA.take (i := 2) (v := .pointer (some ⟨wb, 10, none⟩)) rfl (by kernel_rfl) (by kernel_rfl) (by kernel_rfl) (fun _ _ _ h => h) (hdrop 2 (by decide)) (Or.inl ⟨by rfl, ?_⟩) (hS _) ?_
              · rintro w' ⟨L, hL, hSw, hun⟩
                go_simp
              simp only [List.getElem_toArray, List.getElem_cons_zero, List.getElem_cons_succ, Act.put, List.setIfInBounds_toArray, List.set_cons_zero, List.set_cons_succ]
              refine WA.take (i := 3) (v := .slice (some ⟨vb, 0, none⟩) ln ln) rfl (by kernel_rfl) (by kernel_rfl) (by kernel_rfl) (fun _ _ _ h => h) (hdrop 3 (by decide)) (Or.inl ⟨by rfl, ?_⟩) (hS _) ?_
              · rintro w' ⟨L, hL, hSw, hun⟩
                obtain rfl := hSo hSw 
                go_simp
              simp only [List.getElem_toArray, List.getElem_cons_zero, List.getElem_cons_succ, Act.put, List.setIfInBounds_toArray, List.set_cons_zero, List.set_cons_succ]
              refine WA.take (i := 4) (v := .pointer (some ⟨bx, 0, none⟩)) rfl (by kernel_rfl) (by kernel_rfl) (by kernel_rfl) (fun _ _ _ h => h) (hdrop 4 (by decide)) (Or.inl ⟨by rfl, ?_⟩) (hS _) ?_
              · rintro w' ⟨L, hL, hSw, hun⟩
                go_simp
              simp only [List.getElem_toArray, List.getElem_cons_zero, List.getElem_cons_succ, Act.put, List.setIfInBounds_toArray, List.set_cons_zero, List.set_cons_succ]
              refine WA.take (i := 5) (v := .int .i64 (v : Nat)) rfl (by kernel_rfl) (by kernel_rfl) (by kernel_rfl) (fun _ _ _ h => h) (hdrop 5 (by decide)) (Or.inl ⟨by rfl, ?_⟩) (hS _) ?_
              · rintro w' ⟨L, hL, hSw, hun⟩
                obtain rfl := hSo hSw 
                go_simp
              simp only [List.getElem_toArray, List.getElem_cons_zero, List.getElem_cons_succ, Act.put, List.setIfInBounds_toArray, List.set_cons_zero, List.set_cons_succ]
              refine WA.take (i := 6) (v := .pointer (some ⟨vb, v, none⟩)) rfl (by kernel_rfl) (by kernel_rfl) (by kernel_rfl) (fun _ _ _ h => h) (hdrop 6 (by decide)) (Or.inl ⟨by rfl, ?_⟩) (hS _) ?_
              · rintro w' ⟨L, hL, hSw, hun⟩
                go_simp
              simp only [List.getElem_toArray, List.getElem_cons_zero, List.getElem_cons_succ, Act.put, List.setIfInBounds_toArray, List.set_cons_zero, List.set_cons_succ]
              refine WA.take (i := 7) (v := .int .u32 y1) rfl (by kernel_rfl) (by kernel_rfl) (by kernel_rfl) (fun _ _ _ h => h) (hdrop 7 (by decide)) (Or.inl ⟨by rfl, ?_⟩) (hS _) ?_
              · rintro w' ⟨L, hL, hSw, hun⟩
                obtain rfl := hSo hSw 
                go_simp
              simp only [List.getElem_toArray, List.getElem_cons_zero, List.getElem_cons_succ, Act.put, List.setIfInBounds_toArray, List.set_cons_zero, List.set_cons_succ]
              refine WA.take (i := 8) (v := .int .i64 1) rfl (by kernel_rfl) (by kernel_rfl) (by kernel_rfl) (fun _ _ _ h => h) (hdrop 8 (by decide)) (Or.inl ⟨by rfl, ?_⟩) (hS _) ?_
              · rintro w' ⟨L, hL, hSw, hun⟩
                go_simp
              simp only [List.getElem_toArray, List.getElem_cons_zero, List.getElem_cons_succ, Act.put, List.setIfInBounds_toArray, List.set_cons_zero, List.set_cons_succ]
              refine WA.take (i := 9) (v := .pointer (some ⟨w.heap.size, 1, none⟩)) rfl (by kernel_rfl) (by kernel_rfl) (by kernel_rfl) (fun _ _ _ h => h) (hdrop 9 (by decide)) (Or.inl ⟨by rfl, ?_⟩) (hS _) ?_
              · rintro w' ⟨L, hL, hSw, hun⟩
                go_simp
              simp only [List.getElem_toArray, List.getElem_cons_zero, List.getElem_cons_succ, Act.put, List.setIfInBounds_toArray, List.set_cons_zero, List.set_cons_succ]
              refine WA.take (i := 10) (v := .int .u32 y1) rfl (by kernel_rfl) (by kernel_rfl) (by kernel_rfl) (fun _ _ _ h => h) (hdrop 10 (by decide)) (Or.inl ⟨by rfl, ?_⟩) (hS _) ?_
              · rintro w' ⟨L, hL, hSw, hun⟩
                obtain rfl := hSo hSw 
                go_simp
              simp only [List.getElem_toArray, List.getElem_cons_zero, List.getElem_cons_succ, Act.put, List.setIfInBounds_toArray, List.set_cons_zero, List.set_cons_succ]
              refine WA.take (i := 11) (v := .bool (y1 != y1)) rfl (by kernel_rfl) (by kernel_rfl) (by kernel_rfl) (fun _ _ _ h => h) (hdrop 11 (by decide)) (Or.inl ⟨by rfl, ?_⟩) (hS _) ?_
              · rintro w' ⟨L, hL, hSw, hun⟩
                go_simp
              simp only [List.getElem_toArray, List.getElem_cons_zero, List.getElem_cons_succ, Act.put, List.setIfInBounds_toArray, List.set_cons_zero, List.set_cons_succ]
              refine WA.done (by kernel_rfl) ?_ _
              refine Nrm.normal ?_
              clear hSo hS hdrop
              clear S12
              have hdy : (y1 != y1) = false := by simp
              go_wp2_with fail
              refine ⟨⟨2, L1.set v y1, by omega, rfl, by rw [List.length_set]; exact Hl1.out, ?_, by rw [Hwd3.out]; exact gr_trans HgX2.out (gr_below vb (Below.refl Y.heap.size Y).drew), by rw [Hwd3.out]; exact HWX2.out.below (Below.refl Y.heap.size Y).drew, by rw [Hwd3.out]; exact HXb2.out⟩, by simp [intOf]⟩
              refine Eq.trans ?_ Heq.out
              have hb := bindP_new (i := i1) (y := y1) (t := (prs ⟨kk, (a0, i0), (a1, i1), (a2, i2), sa', sb'⟩ (y0, y1, y2)).drop 2) hvL (Hu.out.trans hz)
              rw [← Hav.out] at hb
              exact hb.symm
            · have hdz : (u == 0) = false := by simpa using hz
              go_wp2_with fail
              have c10 : X1.drew.cell? ⟨wb, 10, none⟩ = _ := c10
              have cb : X1.drew.cell? ⟨bx, 0, none⟩ = _ := cb
              have cy : X1.drew.cell? ⟨w.heap.size, 1, none⟩ = _ := cy
              have cv : X1.drew.cell? ⟨vb, v, none⟩ = _ := cv
              obtain ⟨S12, hSe⟩ : ∃ S : Array Bool → World → Prop, S = fun _ w' => w' = X1.drew := ⟨_, rfl⟩
              have hdrop : ∀ i : Nat, i ≠ 1000 → ∀ L w', S12 (L.setIfInBounds i true) w' → S12 L w' := by
                intro i _ L w' h; rw [hSe] at h ⊢; exact h
              have hS : ∀ L, S12 L X1.drew := by intro L; rw [hSe]
              have hSo : ∀ {L w'}, S12 L w' → w' = X1.drew := by intro L w' h; rw [hSe] at h; exact h
              clear hSe
              refine wp_region_LN S12 12 #[false, false, false, false, false, false, false, false, false, false, false, false] (by kernel_rfl) (by kernel_rfl) rfl ?_
              obtain ⟨Y1, hwd⟩ : ∃ V_, V_ = X1.drew := ⟨_, rfl⟩
              rw [← hwd] at c10 cb cy cv hS hSo ⊢
              have Hwd3 := Lib.hid hwd
              clear hwd
              refine WA.take (i := 0) (v := .pointer (some ⟨wb, 0, none⟩)) rfl (by kernel_rfl) (by kernel_rfl) (by kernel_rfl) (fun _ _ _ h => h) (hdrop 0 (by decide)) (Or.inl ⟨by rfl, ?_⟩) (hS _) ?_
              · rintro w' ⟨L, hL, hSw, hun⟩
                go_simp
              simp only [List.getElem_toArray, List.getElem_cons_zero, List.getElem_cons_succ, Act.put, List.setIfInBounds_toArray, List.set_cons_zero, List.set_cons_succ]
              refine WA.take (i := 1) (v := .pointer (some ⟨wb, 0, none⟩)) rfl (by kernel_rfl) (by kernel_rfl) (by kernel_rfl) (fun _ _ _ h => h) (hdrop 1 (by decide)) (Or.inl ⟨by rfl, ?_⟩) (hS _) ?_
              · rintro w' ⟨L, hL, hSw, hun⟩
                go_simp
              simp only [List.getElem_toArray, List.getElem_cons_zero, List.getElem_cons_succ, Act.put, List.setIfInBounds_toArray, List.set_cons_zero, List.set_cons_succ]
              refine WA.take (i := 2) (v := .pointer (some ⟨wb, 10, none⟩)) rfl (by kernel_rfl) (by kernel_rfl) (by kernel_rfl) (fun _ _ _ h => h) (hdrop 2 (by decide)) (Or.inl ⟨by rfl, ?_⟩) (hS _) ?_
              · rintro w' ⟨L, hL, hSw, hun⟩
                go_simp
              simp only [List.getElem_toArray, List.getElem_cons_zero, List.getElem_cons_succ, Act.put, List.setIfInBounds_toArray, List.set_cons_zero, List.set_cons_succ]
              refine WA.take (i := 3) (v := .slice (some ⟨vb, 0, none⟩) ln ln) rfl (by kernel_rfl) (by kernel_rfl) (by kernel_rfl) (fun _ _ _ h => h) (hdrop 3 (by decide)) (Or.inl ⟨by rfl, ?_⟩) (hS _) ?_
              · rintro w' ⟨L, hL, hSw, hun⟩
                obtain rfl := hSo hSw 
                go_simp
              simp only [List.getElem_toArray, List.getElem_cons_zero, List.getElem_cons_succ, Act.put, List.setIfInBounds_toArray, List.set_cons_zero, List.set_cons_succ]
              refine WA.take (i := 4) (v := .pointer (some ⟨bx, 0, none⟩)) rfl (by kernel_rfl) (by kernel_rfl) (by kernel_rfl) (fun _ _ _ h => h) (hdrop 4 (by decide)) (Or.inl ⟨by rfl, ?_⟩) (hS _) ?_
              · rintro w' ⟨L, hL, hSw, hun⟩
                go_simp
              simp only [List.getElem_toArray, List.getElem_cons_zero, List.getElem_cons_succ, Act.put, List.setIfInBounds_toArray, List.set_cons_zero, List.set_cons_succ]
              refine WA.take (i := 5) (v := .int .i64 (v : Nat)) rfl (by kernel_rfl) (by kernel_rfl) (by kernel_rfl) (fun _ _ _ h => h) (hdrop 5 (by decide)) (Or.inl ⟨by rfl, ?_⟩) (hS _) ?_
              · rintro w' ⟨L, hL, hSw, hun⟩
                obtain rfl := hSo hSw 
                go_simp
              simp only [List.getElem_toArray, List.getElem_cons_zero, List.getElem_cons_succ, Act.put, List.setIfInBounds_toArray, List.set_cons_zero, List.set_cons_succ]
              refine WA.take (i := 6) (v := .pointer (some ⟨vb, v, none⟩)) rfl (by kernel_rfl) (by kernel_rfl) (by kernel_rfl) (fun _ _ _ h => h) (hdrop 6 (by decide)) (Or.inl ⟨by rfl, ?_⟩) (hS _) ?_
              · rintro w' ⟨L, hL, hSw, hun⟩
                go_simp
              simp only [List.getElem_toArray, List.getElem_cons_zero, List.getElem_cons_succ, Act.put, List.setIfInBounds_toArray, List.set_cons_zero, List.set_cons_succ]
              refine WA.take (i := 7) (v := .int .u32 u) rfl (by kernel_rfl) (by kernel_rfl) (by kernel_rfl) (fun _ _ _ h => h) (hdrop 7 (by decide)) (Or.inl ⟨by rfl, ?_⟩) (hS _) ?_
              · rintro w' ⟨L, hL, hSw, hun⟩
                obtain rfl := hSo hSw 
                go_simp
              simp only [List.getElem_toArray, List.getElem_cons_zero, List.getElem_cons_succ, Act.put, List.setIfInBounds_toArray, List.set_cons_zero, List.set_cons_succ]
              refine WA.take (i := 8) (v := .int .i64 1) rfl (by kernel_rfl) (by kernel_rfl) (by kernel_rfl) (fun _ _ _ h => h) (hdrop 8 (by decide)) (Or.inl ⟨by rfl, ?_⟩) (hS _) ?_
              · rintro w' ⟨L, hL, hSw, hun⟩
                go_simp
              simp only [List.getElem_toArray, List.getElem_cons_zero, List.getElem_cons_succ, Act.put, List.setIfInBounds_toArray, List.set_cons_zero, List.set_cons_succ]
              refine WA.take (i := 9) (v := .pointer (some ⟨w.heap.size, 1, none⟩)) rfl (by kernel_rfl) (by kernel_rfl) (by kernel_rfl) (fun _ _ _ h => h) (hdrop 9 (by decide)) (Or.inl ⟨by rfl, ?_⟩) (hS _) ?_
              · rintro w' ⟨L, hL, hSw, hun⟩
                go_simp
              simp only [List.getElem_toArray, List.getElem_cons_zero, List.getElem_cons_succ, Act.put, List.setIfInBounds_toArray, List.set_cons_zero, List.set_cons_succ]
              refine WA.take (i := 10) (v := .int .u32 y1) rfl (by kernel_rfl) (by kernel_rfl) (by kernel_rfl) (fun _ _ _ h => h) (hdrop 10 (by decide)) (Or.inl ⟨by rfl, ?_⟩) (hS _) ?_
              · rintro w' ⟨L, hL, hSw, hun⟩
                obtain rfl := hSo hSw 
                go_simp
              simp only [List.getElem_toArray, List.getElem_cons_zero, List.getElem_cons_succ, Act.put, List.setIfInBounds_toArray, List.set_cons_zero, List.set_cons_succ]
              refine WA.take (i := 11) (v := .bool (u != y1)) rfl (by kernel_rfl) (by kernel_rfl) (by kernel_rfl) (fun _ _ _ h => h) (hdrop 11 (by decide)) (Or.inl ⟨by rfl, ?_⟩) (hS _) ?_
              · rintro w' ⟨L, hL, hSw, hun⟩
                go_simp
              simp only [List.getElem_toArray, List.getElem_cons_zero, List.getElem_cons_succ, Act.put, List.setIfInBounds_toArray, List.set_cons_zero, List.set_cons_succ]
              refine WA.done (by kernel_rfl) ?_ _
              refine Nrm.normal ?_
              clear hSo hS hdrop
              clear S12
              have HgY := Lib.hid (show w.grownBy Y1 (some vb) by rw [Hwd3.out]; exact gr_trans HgX1.out (gr_below vb (Below.refl X1.heap.size X1).drew))
              have HWY := Lib.hid (show WkB Y1 wb vb L1 by rw [Hwd3.out]; exact HWX1.out.below (Below.refl X1.heap.size X1).drew)
              have HXbY := Lib.hid (show Y1.heap[w.heap.size]? = some (.cells #[.int .u32 y0, .int .u32 y1, .int .u32 y2] 58 (0, 0)) by rw [Hwd3.out]; exact HXb1.out)
              by_cases hy : u = y1
              · have hdy : (u != y1) = false := by simpa using hy
                go_wp2_with fail
                refine ⟨⟨2, L1, by omega, rfl, Hl1.out, ?_, HgY.out, HWY.out, HXbY.out⟩, by simp [intOf]⟩
                refine Eq.trans ?_ Heq.out
                have hb := bindP_same (i := i1) (y := y1) (t := (prs ⟨kk, (a0, i0), (a1, i1), (a2, i2), sa', sb'⟩ (y0, y1, y2)).drop 2) hvL (fun e => hz (Hu.out.symm.trans e)) (Hu.out.trans hy)
                rw [← Hav.out] at hb
                exact hb.symm
              · have hdy : (u != y1) = true := by simpa using hy
                go_wp2_with fail
                go_ret
                have hb := bindP_not (i := i1) (y := y1) (t := (prs ⟨kk, (a0, i0), (a1, i1), (a2, i2), sa', sb'⟩ (y0, y1, y2)).drop 2) hvL (fun e => hz (Hu.out.symm.trans e)) (fun e => hy (Hu.out.symm.trans e))
                rw [← Hav.out] at hb
                have hb := Heq.out.symm.trans hb
                rw [HL0.out] at hb
                rw [hb]
                exact ⟨rfl, HWY.out, HgY.out⟩
        · have hix := (idx_pl a0 i0 a1 i1 a2 i2 wr).2.2
          have hbX : Below wr.heap.size wr (wr.alloc (.cells #[.int .i64 a2, .int .u32 i2] 25)) := (Below.refl _ _).alloc (Nat.le_refl _) _
          have hbb := World.alloc_heap_new wr (.cells #[.int .i64 a2, .int .u32 i2] 25)
          have HgX := Lib.hid (gr_trans Hg1.out (gr_below vb hbX)); have HWX := Lib.hid (HW1.out.below hbX)
          have HXb := Lib.hid ((hbX.block _ (Array.getElem?_eq_some_iff.1 HB1.out).1).trans HB1.out)
          have Hbb := Lib.hid hbb
          clear hbX hbb
          by_cases hneg : a2 < 0
          · have hd : decide (a2 < 0) = true := by simpa using hneg
            go_wp2_with fail
            exact ⟨⟨3, L1, by omega, rfl, Hl1.out, (bindP_neg (x := (a2, i2)) hneg).symm.trans Heq.out, HgX.out, HWX.out, HXb.out⟩, by simp [intOf]⟩
          · have hd : decide (a2 < 0) = false := by simpa using hneg
            obtain ⟨v, hav⟩ : ∃ v : Nat, a2 = v := ⟨a2.toNat, by omega⟩
            have hvl : v < ln := by have := Hv2.out; have := Hln.out; omega
            have hvL : v < L1.length := by have := Hl1.out; omega
            have c10 := HWX.out.c
            rw [Hl1.out] at c10
            obtain ⟨cv, fv⟩ := HWX.out.v v hvL
            obtain ⟨u, hu⟩ : ∃ u, L1[v]'hvL = u := ⟨_, rfl⟩
            rw [hu] at cv
            have cb : (wr.alloc (.cells #[.int .i64 a2, .int .u32 i2] 25)).cell? ⟨wr.heap.size, 0, none⟩ = some (.int .i64 (v : Nat)) := by unfold World.cell?; rw [Hbb.out, ← hav]; rfl
            have cy : (wr.alloc (.cells #[.int .i64 a2, .int .u32 i2] 25)).cell? ⟨w.heap.size, 2, none⟩ = some (.int .u32 y2) := by unfold World.cell?; rw [HXb.out]; rfl
            have Hu := Lib.hid hu; have Hav := Lib.hid hav
            have hwx : w.heap.size < wr.heap.size := (Array.getElem?_eq_some_iff.1 HB1.out).1
            have hvbw : vb < w.heap.size := Hvb.out
            clear hu hav
            go_wp2_with fail
            obtain ⟨X, hX⟩ : ∃ X, X = wr.alloc (.cells #[.int .i64 a2, .int .u32 i2] 25) := ⟨_, rfl⟩
            rw [← hX] at c10 cv fv cb cy HgX HWX HXb ⊢
            obtain ⟨bx, hbx⟩ : ∃ bx, wr.heap.size = bx := ⟨_, rfl⟩
            rw [hbx] at cb hwx ⊢
            have hbv : vb ≠ bx ∧ vb ≠ w.heap.size := by omega
            obtain ⟨hbv1, hbv2⟩ := hbv
            clear hX hbx
            have c10 : X.drew.cell? ⟨wb, 10, none⟩ = _ := c10
            have cv : X.drew.cell? ⟨vb, v, none⟩ = _ := cv
            have cb : X.drew.cell? ⟨bx, 0, none⟩ = _ := cb
            obtain ⟨S10, hSe⟩ : ∃ S : Array Bool → World → Prop, S = fun _ w' => w' = X.drew := ⟨_, rfl⟩
            have hdrop : ∀ i : Nat, i ≠ 1000 → ∀ L w', S10 (L.setIfInBounds i true) w' → S10 L w' := by
              intro i _ L w' h; rw [hSe] at h ⊢; exact h
            have hS : ∀ L, S10 L X.drew := by intro L; rw [hSe]
            have hSo : ∀ {L w'}, S10 L w' → w' = X.drew := by intro L w' h; rw [hSe] at h; exact h
            clear hSe
            refine wp_region_LN S10 9 #[false, false, false, false, false, false, false, false, false] (by kernel_rfl) (by kernel_rfl) rfl ?_
            obtain ⟨X1, hwd⟩ : ∃ V_, V_ = X.drew := ⟨_, rfl⟩
            rw [← hwd] at c10 cv cb hS hSo ⊢
            have Hwd := Lib.hid hwd
            clear hwd
            refine WA.take (i := 0) (v := .pointer (some ⟨wb, 0, none⟩)) rfl (by kernel_rfl) (by kernel_rfl) (by kernel_rfl) (fun _ _ _ h => h) (hdrop 0 (by decide)) (Or.inl ⟨by rfl, ?_⟩) (hS _) ?_
            · rintro w' ⟨L, hL, hSw, hun⟩
              go_simp
            simp only [List.getElem_toArray, List.getElem_cons_zero, List.getElem_cons_succ, Act.put, List.setIfInBounds_toArray, List.set_cons_zero, List.set_cons_succ]
            refine WA.take (i := 1) (v := .pointer (some ⟨wb, 0, none⟩)) rfl (by kernel_rfl) (by kernel_rfl) (by kernel_rfl) (fun _ _ _ h => h) (hdrop 1 (by decide)) (Or.inl ⟨by rfl, ?_⟩) (hS _) ?_
            · rintro w' ⟨L, hL, hSw, hun⟩
              go_simp
            simp only [List.getElem_toArray, List.getElem_cons_zero, List.getElem_cons_succ, Act.put, List.setIfInBounds_toArray, List.set_cons_zero, List.set_cons_succ]
            refine WA.take (i := 2) (v := .pointer (some ⟨wb, 10, none⟩)) rfl (by kernel_rfl) (by kernel_rfl) (by kernel_rfl) (fun _ _ _ h => h) (hdrop 2 (by decide)) (Or.inl ⟨by rfl, ?_⟩) (hS _) ?_
            · rintro w' ⟨L, hL, hSw, hun⟩
              go_simp
            simp only [List.getElem_toArray, List.getElem_cons_zero, List.getElem_cons_succ, Act.put, List.setIfInBounds_toArray, List.set_cons_zero, List.set_cons_succ]
            refine WA.take (i := 3) (v := .slice (some ⟨vb, 0, none⟩) ln ln) rfl (by kernel_rfl) (by kernel_rfl) (by kernel_rfl) (fun _ _ _ h => h) (hdrop 3 (by decide)) (Or.inl ⟨by rfl, ?_⟩) (hS _) ?_
            · rintro w' ⟨L, hL, hSw, hun⟩
              obtain rfl := hSo hSw 
              go_simp
            simp only [List.getElem_toArray, List.getElem_cons_zero, List.getElem_cons_succ, Act.put, List.setIfInBounds_toArray, List.set_cons_zero, List.set_cons_succ]
            refine WA.take (i := 4) (v := .pointer (some ⟨bx, 0, none⟩)) rfl (by kernel_rfl) (by kernel_rfl) (by kernel_rfl) (fun _ _ _ h => h) (hdrop 4 (by decide)) (Or.inl ⟨by rfl, ?_⟩) (hS _) ?_
            · rintro w' ⟨L, hL, hSw, hun⟩
              go_simp
            simp only [List.getElem_toArray, List.getElem_cons_zero, List.getElem_cons_succ, Act.put, List.setIfInBounds_toArray, List.set_cons_zero, List.set_cons_succ]
            refine WA.take (i := 5) (v := .int .i64 (v : Nat)) rfl (by kernel_rfl) (by kernel_rfl) (by kernel_rfl) (fun _ _ _ h => h) (hdrop 5 (by decide)) (Or.inl ⟨by rfl, ?_⟩) (hS _) ?_
            · rintro w' ⟨L, hL, hSw, hun⟩
              obtain rfl := hSo hSw 
              go_simp
            simp only [List.getElem_toArray, List.getElem_cons_zero, List.getElem_cons_succ, Act.put, List.setIfInBounds_toArray, List.set_cons_zero, List.set_cons_succ]
            refine WA.take (i := 6) (v := .pointer (some ⟨vb, v, none⟩)) rfl (by kernel_rfl) (by kernel_rfl) (by kernel_rfl) (fun _ _ _ h => h) (hdrop 6 (by decide)) (Or.inl ⟨by rfl, ?_⟩) (hS _) ?_
            · rintro w' ⟨L, hL, hSw, hun⟩
              go_simp
            simp only [List.getElem_toArray, List.getElem_cons_zero, List.getElem_cons_succ, Act.put, List.setIfInBounds_toArray, List.set_cons_zero, List.set_cons_succ]
            refine WA.take (i := 7) (v := .int .u32 u) rfl (by kernel_rfl) (by kernel_rfl) (by kernel_rfl) (fun _ _ _ h => h) (hdrop 7 (by decide)) (Or.inl ⟨by rfl, ?_⟩) (hS _) ?_
            · rintro w' ⟨L, hL, hSw, hun⟩
              obtain rfl := hSo hSw 
              go_simp
            simp only [List.getElem_toArray, List.getElem_cons_zero, List.getElem_cons_succ, Act.put, List.setIfInBounds_toArray, List.set_cons_zero, List.set_cons_succ]
            refine WA.take (i := 8) (v := .bool (u == 0)) rfl (by kernel_rfl) (by kernel_rfl) (by kernel_rfl) (fun _ _ _ h => h) (hdrop 8 (by decide)) (Or.inl ⟨by rfl, ?_⟩) (hS _) ?_
            · rintro w' ⟨L, hL, hSw, hun⟩
              go_simp
            simp only [List.getElem_toArray, List.getElem_cons_zero, List.getElem_cons_succ, Act.put, List.setIfInBounds_toArray, List.set_cons_zero, List.set_cons_succ]
            refine WA.done (by kernel_rfl) ?_ _
            refine Nrm.normal ?_
            clear hSo hS hdrop
            clear S10
            have fv : X1.frozen? ⟨vb, v, none⟩ = false := by rw [Hwd.out]; exact fv
            have cy : X1.cell? ⟨w.heap.size, 2, none⟩ = some (.int .u32 y2) := by rw [Hwd.out]; exact cy
            have HgX1 := Lib.hid (show w.grownBy X1 (some vb) by rw [Hwd.out]; exact gr_trans HgX.out (gr_below vb (Below.refl X.heap.size X).drew))
            have HWX1 := Lib.hid (show WkB X1 wb vb L1 by rw [Hwd.out]; exact HWX.out.below (Below.refl X.heap.size X).drew)
            have HXb1 := Lib.hid (show X1.heap[w.heap.size]? = some (.cells #[.int .u32 y0, .int .u32 y1, .int .u32 y2] 58 (0, 0)) by rw [Hwd.out]; exact HXb.out)
            by_cases hz : u = 0
            · have hdz : (u == 0) = true := by simpa using hz
              go_wp2_with fail
              have c10 : X1.drew.cell? ⟨wb, 10, none⟩ = _ := c10
              have cb : X1.drew.cell? ⟨bx, 0, none⟩ = _ := cb
              have cy : X1.drew.cell? ⟨w.heap.size, 2, none⟩ = _ := cy
              have cv : X1.drew.cell? ⟨vb, v, none⟩ = _ := cv
              have fv : X1.drew.frozen? ⟨vb, v, none⟩ = _ := fv
              obtain ⟨S11, hSe⟩ : ∃ S : Array Bool → World → Prop, S = fun L w' => L.getD 10 true = false → w' = X1.drew := ⟨_, rfl⟩
              have hdrop : ∀ i, i ≠ 10 → ∀ L w', S11 (L.setIfInBounds i true) w' → S11 L w' := by
                intro i hi L w'
                rw [hSe]
                intro h hl
                exact h (by rw [getD_set_ne true hi]; exact hl)
              have hS : ∀ L, S11 L X1.drew := by intro L; rw [hSe]; exact fun _ => rfl
              have hSo : ∀ {L w'}, S11 L w' → L.getD 10 true = false → w' = X1.drew := by intro L w' h hl; rw [hSe] at h; exact h hl
              have hSd : ∀ (L : Array Bool) X, L.getD 10 true = true → S11 L X := by
                intro L X h; rw [hSe]; intro h1; rw [h] at h1; cases h1
              clear hSe
              refine wp_region_LN S11 11 #[false, false, false, false, false, false, false, false, false, false, false] (by kernel_rfl) (by kernel_rfl) rfl ?_
              obtain ⟨X2, hwd⟩ : ∃ V_, V_ = X1.drew := ⟨_, rfl⟩
              rw [← hwd] at c10 cb cy cv fv hS hSo ⊢
              have Hwd2 := Lib.hid hwd
              clear hwd
              refine WA.take (i := 0) (v := .pointer (some ⟨wb, 0, none⟩)) rfl (by kernel_rfl) (by kernel_rfl) (by kernel_rfl) (fun _ _ _ h => h) (hdrop 0 (by decide)) (Or.inl ⟨by rfl, ?_⟩) (hS _) ?_
              · rintro w' ⟨L, hL, hSw, hun⟩
                go_simp
              simp only [List.getElem_toArray, List.getElem_cons_zero, List.getElem_cons_succ, Act.put, List.setIfInBounds_toArray, List.set_cons_zero, List.set_cons_succ]
              refine WA.take (i := 1) (v := .pointer (some ⟨wb, 0, none⟩)) rfl (by kernel_rfl) (by kernel_rfl) (by kernel_rfl) (fun _ _ _ h => h) (hdrop 1 (by decide)) (Or.inl ⟨by rfl, ?_⟩) (hS _) ?_
              · rintro w' ⟨L, hL, hSw, hun⟩
                go_simp
              simp only [List.getElem_toArray, List.getElem_cons_zero, List.getElem_cons_succ, Act.put, List.setIfInBounds_toArray, List.set_cons_zero, List.set_cons_succ]
              refine WA.take (i := 2) (v := .pointer (some ⟨wb, 10, none⟩)) rfl (by kernel_rfl) (by kernel_rfl) (by kernel_rfl) (fun _ _ _ h => h) (hdrop 2 (by decide)) (Or.inl ⟨by rfl, ?_⟩) (hS _) ?_
              · rintro w' ⟨L, hL, hSw, hun⟩
                go_simp
              simp only [List.getElem_toArray, List.getElem_cons_zero, List.getElem_cons_succ, Act.put, List.setIfInBounds_toArray, List.set_cons_zero, List.set_cons_succ]
              refine WA.take (i := 3) (v := .slice (some ⟨vb, 0, none⟩) ln ln) rfl (by kernel_rfl) (by kernel_rfl) (by kernel_rfl) (fun _ _ _ h => h) (hdrop 3 (by decide)) (Or.inl ⟨by rfl, ?_⟩) (hS _) ?_
              · rintro w' ⟨L, hL, hSw, hun⟩
                obtain rfl := hSo hSw (hL.wait 10 9 (by kernel_rfl) (hL.wait 9 3 (by kernel_rfl) hun))
                go_simp
              simp only [List.getElem_toArray, List.getElem_cons_zero, List.getElem_cons_succ, Act.put, List.setIfInBounds_toArray, List.set_cons_zero, List.set_cons_succ]
              refine WA.take (i := 4) (v := .pointer (some ⟨bx, 0, none⟩)) rfl (by kernel_rfl) (by kernel_rfl) (by kernel_rfl) (fun _ _ _ h => h) (hdrop 4 (by decide)) (Or.inl ⟨by rfl, ?_⟩) (hS _) ?_
              · rintro w' ⟨L, hL, hSw, hun⟩
                go_simp
              simp only [List.getElem_toArray, List.getElem_cons_zero, List.getElem_cons_succ, Act.put, List.setIfInBounds_toArray, List.set_cons_zero, List.set_cons_succ]
              refine WA.take (i := 5) (v := .int .i64 (v : Nat)) rfl (by kernel_rfl) (by kernel_rfl) (by kernel_rfl) (fun _ _ _ h => h) (hdrop 5 (by decide)) (Or.inl ⟨by rfl, ?_⟩) (hS _) ?_
              · rintro w' ⟨L, hL, hSw, hun⟩
                obtain rfl := hSo hSw (hL.wait 10 9 (by kernel_rfl) (hL.wait 9 5 (by kernel_rfl) hun))
                go_simp
              simp only [List.getElem_toArray, List.getElem_cons_zero, List.getElem_cons_succ, Act.put, List.setIfInBounds_toArray, List.set_cons_zero, List.set_cons_succ]
              refine WA.take (i := 6) (v := .int .i64 2) rfl (by kernel_rfl) (by kernel_rfl) (by kernel_rfl) (fun _ _ _ h => h) (hdrop 6 (by decide)) (Or.inl ⟨by rfl, ?_⟩) (hS _) ?_
              · rintro w' ⟨L, hL, hSw, hun⟩
                go_simp
              simp only [List.getElem_toArray, List.getElem_cons_zero, List.getElem_cons_succ, Act.put, List.setIfInBounds_toArray, List.set_cons_zero, List.set_cons_succ]
              refine WA.take (i := 7) (v := .pointer (some ⟨w.heap.size, 2, none⟩)) rfl (by kernel_rfl) (by kernel_rfl) (by kernel_rfl) (fun _ _ _ h => h) (hdrop 7 (by decide)) (Or.inl ⟨by rfl, ?_⟩) (hS _) ?_
              · rintro w' ⟨L, hL, hSw, hun⟩
                go_simp
              simp only [List.getElem_toArray, List.getElem_cons_zero, List.getElem_cons_succ, Act.put, List.setIfInBounds_toArray, List.set_cons_zero, List.set_cons_succ]
              refine WA.take (i := 8) (v := .int .u32 y2) rfl (by kernel_rfl) (by kernel_rfl) (by kernel_rfl) (fun _ _ _ h => h) (hdrop 8 (by decide)) (Or.inl ⟨by rfl, ?_⟩) (hS _) ?_
              · rintro w' ⟨L, hL, hSw, hun⟩
                obtain rfl := hSo hSw (hL.wait 10 8 (by kernel_rfl) hun)
                go_simp
              simp only [List.getElem_toArray, List.getElem_cons_zero, List.getElem_cons_succ, Act.put, List.setIfInBounds_toArray, List.set_cons_zero, List.set_cons_succ]
              refine WA.take (i := 9) (v := .pointer (some ⟨vb, v, none⟩)) rfl (by kernel_rfl) (by kernel_rfl) (by kernel_rfl) (fun _ _ _ h => h) (hdrop 9 (by decide)) (Or.inl ⟨by rfl, ?_⟩) (hS _) ?_
              · rintro w' ⟨L, hL, hSw, hun⟩
                go_simp
              simp only [List.getElem_toArray, List.getElem_cons_zero, List.getElem_cons_succ, Act.put, List.setIfInBounds_toArray, List.set_cons_zero, List.set_cons_succ]
              refine WA.one (i := 10) (by kernel_rfl) rfl (by rfl) (fun K hK => ?_)
              go_simp
              refine hK _ _ (hSd _ _ (by rfl)) ?_
              clear hK
              try simp only [List.getElem_toArray, List.getElem_cons_zero, List.getElem_cons_succ, Act.put, List.setIfInBounds_toArray, List.set_cons_zero, List.set_cons_succ]
              refine WA.done (by kernel_rfl) ?_ _
              refine Nrm.normal ?_
              clear hSo hS hdrop hSd
              clear S11
              go_wp2_with fail
              have HgX2 := Lib.hid (show w.grownBy (X2.setCell ⟨vb, v, none⟩ (.int .u32 y2)) (some vb) from gr_trans (by rw [Hwd2.out]; exact gr_trans HgX1.out (gr_below vb (Below.refl X1.heap.size X1).drew)) (gr_set _ _ _ _))
              have HWX2 := Lib.hid (show WkB (X2.setCell ⟨vb, v, none⟩ (.int .u32 y2)) wb vb (L1.set v y2) from WkB.set (by rw [Hwd2.out]; exact HWX1.out.below (Below.refl X1.heap.size X1).drew) v y2)
              have HXb2 := Lib.hid (show (X2.setCell ⟨vb, v, none⟩ (.int .u32 y2)).heap[w.heap.size]? = some (.cells #[.int .u32 y0, .int .u32 y1, .int .u32 y2] 58 (0, 0)) from (Below.heap_setCell _ _ _ _ (fun e => hbv2 (by simpa using e.symm))).trans (by rw [Hwd2.out]; exact HXb1.out))
              have c10 : (X2.setCell ⟨vb, v, none⟩ (.int .u32 y2)).cell? ⟨wb, 10, none⟩ = some (.slice (some ⟨vb, 0, none⟩) ln ln) := by have := HWX2.out.c; rw [List.length_set, Hl1.out] at this; exact this
              have cv : (X2.setCell ⟨vb, v, none⟩ (.int .u32 y2)).cell? ⟨vb, v, none⟩ = some (.int .u32 y2) := by
                have := (HWX2.out.v v (by rw [List.length_set]; exact hvL)).1
                rw [List.getElem_set_self] at this
                exact this
              have cb : (X2.setCell ⟨vb, v, none⟩ (.int .u32 y2)).cell? ⟨bx, 0, none⟩ = some (.int .i64 (v : Nat)) := (World.cell?_setCell_other _ _ _ _ (fun e => by first | exact hbv1 (congrArg Addr.block e) | exact hbv1 (congrArg Addr.block e).symm)).trans cb
              have cy : (X2.setCell ⟨vb, v, none⟩ (.int .u32 y2)).cell? ⟨w.heap.size, 2, none⟩ = some (.int .u32 y2) := (World.cell?_setCell_other _ _ _ _ (fun e => by first | exact hbv2 (congrArg Addr.block e) | exact hbv2 (congrArg Addr.block e).symm)).trans cy
              obtain ⟨Y, hY⟩ : ∃ Y, Y = X2.setCell ⟨vb, v, none⟩ (.int .u32 y2) := ⟨_, rfl⟩
              rw [← hY] at HgX2 HWX2 HXb2 c10 cv cb cy ⊢
              clear hY
              have c10 : Y.drew.cell? ⟨wb, 10, none⟩ = _ := c10
              have cb : Y.drew.cell? ⟨bx, 0, none⟩ = _ := cb
              have cy : Y.drew.cell? ⟨w.heap.size, 2, none⟩ = _ := cy
              have cv : Y.drew.cell? ⟨vb, v, none⟩ = _ := cv
              obtain ⟨S12, hSe⟩ : ∃ S : Array Bool → World → Prop, S = fun _ w' => w' = Y.drew := ⟨_, rfl⟩
              have hdrop : ∀ i : Nat, i ≠ 1000 → ∀ L w', S12 (L.setIfInBounds i true) w' → S12 L w' := by
                intro i _ L w' h; rw [hSe] at h ⊢; exact h
              have hS : ∀ L, S12 L Y.drew := by intro L; rw [hSe]
              have hSo : ∀ {L w'}, S12 L w' → w' = Y.drew := by intro L w' h; rw [hSe] at h; exact h
              clear hSe
              refine wp_region_LN S12 12 #[false, false, false, false, false, false, false, false, false, false, false, false] (by kernel_rfl) (by kernel_rfl) rfl ?_
              obtain ⟨Y1, hwd⟩ : ∃ V_, V_ = Y.drew := ⟨_, rfl⟩
              rw [← hwd] at c10 cb cy cv hS hSo ⊢
              have Hwd3 := Lib.hid hwd
              clear hwd
              refine WA.take (i := 0) (v := .pointer (some ⟨wb, 0, none⟩)) rfl (by kernel_rfl) (by kernel_rfl) (by kernel_rfl) (fun _ _ _ h => h) (hdrop 0 (by decide)) (Or.inl ⟨by rfl, ?_⟩) (hS _) ?_
              · rintro w' ⟨L, hL, hSw, hun⟩
                go_simp
              simp only [List.getElem_toArray, List.getElem_cons_zero, List.getElem_cons_succ, Act.put, List.setIfInBounds_toArray, List.set_cons_zero, List.set_cons_succ]
              refine WA.take (i := 1) (v := .pointer (some ⟨wb, 0, none⟩)) rfl (by kernel_rfl) (by kernel_rfl) (by kernel_rfl) (fun _ _ _ h => h) (hdrop 1 (by decide)) (Or.inl ⟨by rfl, ?_⟩) (hS _) ?_
              · rintro w' ⟨L, hL, hSw, hun⟩
                go_simp
              simp only [List.getElem_toArray, List.getElem_cons_zero, List.getElem_cons_succ, Act.put, List.setIfInBounds_toArray, List.set_cons_zero, List.set_cons_succ]
              refine WA.take (i := 2) (v := .pointer (some ⟨wb, 10, none⟩)) rfl (by kernel_rfl) (by kernel_rfl) (by kernel_rfl) (fun _ _ _ h => h) (hdrop 2 (by decide)) (Or.inl ⟨by rfl, ?_⟩) (hS _) ?_
              · rintro w' ⟨L, hL, hSw, hun⟩
                go_simp
              simp only [List.getElem_toArray, List.getElem_cons_zero, List.getElem_cons_succ, Act.put, List.setIfInBounds_toArray, List.set_cons_zero, List.set_cons_succ]
              refine WA.take (i := 3) (v := .slice (some ⟨vb, 0, none⟩) ln ln) rfl (by kernel_rfl) (by kernel_rfl) (by kernel_rfl) (fun _ _ _ h => h) (hdrop 3 (by decide)) (Or.inl ⟨by rfl, ?_⟩) (hS _) ?_
              · rintro w' ⟨L, hL, hSw, hun⟩
                obtain rfl := hSo hSw 
                go_simp
              simp only [List.getElem_toArray, List.getElem_cons_zero, List.getElem_cons_succ, Act.put, List.setIfInBounds_toArray, List.set_cons_zero, List.set_cons_succ]
              refine WA.take (i := 4) (v := .pointer (some ⟨bx, 0, none⟩)) rfl (by kernel_rfl) (by kernel_rfl) (by kernel_rfl) (fun _ _ _ h => h) (hdrop 4 (by decide)) (Or.inl ⟨by rfl, ?_⟩) (hS _) ?_
              · rintro w' ⟨L, hL, hSw, hun⟩
                go_simp
              simp only [List.getElem_toArray, List.getElem_cons_zero, List.getElem_cons_succ, Act.put, List.setIfInBounds_toArray, List.set_cons_zero, List.set_cons_succ]
              refine WA.take (i := 5) (v := .int .i64 (v : Nat)) rfl (by kernel_rfl) (by kernel_rfl) (by kernel_rfl) (fun _ _ _ h => h) (hdrop 5 (by decide)) (Or.inl ⟨by rfl, ?_⟩) (hS _) ?_
              · rintro w' ⟨L, hL, hSw, hun⟩
                obtain rfl := hSo hSw 
                go_simp
              simp only [List.getElem_toArray, List.getElem_cons_zero, List.getElem_cons_succ, Act.put, List.setIfInBounds_toArray, List.set_cons_zero, List.set_cons_succ]
              refine WA.take (i := 6) (v := .pointer (some ⟨vb, v, none⟩)) rfl (by kernel_rfl) (by kernel_rfl) (by kernel_rfl) (fun _ _ _ h => h) (hdrop 6 (by decide)) (Or.inl ⟨by rfl, ?_⟩) (hS _) ?_
              · rintro w' ⟨L, hL, hSw, hun⟩
                go_simp
              simp only [List.getElem_toArray, List.getElem_cons_zero, List.getElem_cons_succ, Act.put, List.setIfInBounds_toArray, List.set_cons_zero, List.set_cons_succ]
              refine WA.take (i := 7) (v := .int .u32 y2) rfl (by kernel_rfl) (by kernel_rfl) (by kernel_rfl) (fun _ _ _ h => h) (hdrop 7 (by decide)) (Or.inl ⟨by rfl, ?_⟩) (hS _) ?_
              · rintro w' ⟨L, hL, hSw, hun⟩
                obtain rfl := hSo hSw 
                go_simp
              simp only [List.getElem_toArray, List.getElem_cons_zero, List.getElem_cons_succ, Act.put, List.setIfInBounds_toArray, List.set_cons_zero, List.set_cons_succ]
              refine WA.take (i := 8) (v := .int .i64 2) rfl (by kernel_rfl) (by kernel_rfl) (by kernel_rfl) (fun _ _ _ h => h) (hdrop 8 (by decide)) (Or.inl ⟨by rfl, ?_⟩) (hS _) ?_
              · rintro w' ⟨L, hL, hSw, hun⟩
                go_simp
              simp only [List.getElem_toArray, List.getElem_cons_zero, List.getElem_cons_succ, Act.put, List.setIfInBounds_toArray, List.set_cons_zero, List.set_cons_succ]
              refine WA.take (i := 9) (v := .pointer (some ⟨w.heap.size, 2, none⟩)) rfl (by kernel_rfl) (by kernel_rfl) (by kernel_rfl) (fun _ _ _ h => h) (hdrop 9 (by decide)) (Or.inl ⟨by rfl, ?_⟩) (hS _) ?_
              · rintro w' ⟨L, hL, hSw, hun⟩
                go_simp
              simp only [List.getElem_toArray, List.getElem_cons_zero, List.getElem_cons_succ, Act.put, List.setIfInBounds_toArray, List.set_cons_zero, List.set_cons_succ]
              refine WA.take (i := 10) (v := .int .u32 y2) rfl (by kernel_rfl) (by kernel_rfl) (by kernel_rfl) (fun _ _ _ h => h) (hdrop 10 (by decide)) (Or.inl ⟨by rfl, ?_⟩) (hS _) ?_
              · rintro w' ⟨L, hL, hSw, hun⟩
                obtain rfl := hSo hSw 
                go_simp
              simp only [List.getElem_toArray, List.getElem_cons_zero, List.getElem_cons_succ, Act.put, List.setIfInBounds_toArray, List.set_cons_zero, List.set_cons_succ]
              refine WA.take (i := 11) (v := .bool (y2 != y2)) rfl (by kernel_rfl) (by kernel_rfl) (by kernel_rfl) (fun _ _ _ h => h) (hdrop 11 (by decide)) (Or.inl ⟨by rfl, ?_⟩) (hS _) ?_
              · rintro w' ⟨L, hL, hSw, hun⟩
                go_simp
              simp only [List.getElem_toArray, List.getElem_cons_zero, List.getElem_cons_succ, Act.put, List.setIfInBounds_toArray, List.set_cons_zero, List.set_cons_succ]
              refine WA.done (by kernel_rfl) ?_ _
              refine Nrm.normal ?_
              clear hSo hS hdrop
              clear S12
              have hdy : (y2 != y2) = false := by simp
              go_wp2_with fail
              refine ⟨⟨3, L1.set v y2, by omega, rfl, by rw [List.length_set]; exact Hl1.out, ?_, by rw [Hwd3.out]; exact gr_trans HgX2.out (gr_below vb (Below.refl Y.heap.size Y).drew), by rw [Hwd3.out]; exact HWX2.out.below (Below.refl Y.heap.size Y).drew, by rw [Hwd3.out]; exact HXb2.out⟩, by simp [intOf]⟩
              refine Eq.trans ?_ Heq.out
              have hb := bindP_new (i := i2) (y := y2) (t := (prs ⟨kk, (a0, i0), (a1, i1), (a2, i2), sa', sb'⟩ (y0, y1, y2)).drop 3) hvL (Hu.out.trans hz)
              rw [← Hav.out] at hb
              exact hb.symm
            · have hdz : (u == 0) = false := by simpa using hz
              go_wp2_with fail
              have c10 : X1.drew.cell? ⟨wb, 10, none⟩ = _ := c10
              have cb : X1.drew.cell? ⟨bx, 0, none⟩ = _ := cb
              have cy : X1.drew.cell? ⟨w.heap.size, 2, none⟩ = _ := cy
              have cv : X1.drew.cell? ⟨vb, v, none⟩ = _ := cv
              obtain ⟨S12, hSe⟩ : ∃ S : Array Bool → World → Prop, S = fun _ w' => w' = X1.drew := ⟨_, rfl⟩
              have hdrop : ∀ i : Nat, i ≠ 1000 → ∀ L w', S12 (L.setIfInBounds i true) w' → S12 L w' := by
                intro i _ L w' h; rw [hSe] at h ⊢; exact h
              have hS : ∀ L, S12 L X1.drew := by intro L; rw [hSe]
              have hSo : ∀ {L w'}, S12 L w' → w' = X1.drew := by intro L w' h; rw [hSe] at h; exact h
              clear hSe
              refine wp_region_LN S12 12 #[false, false, false, false, false, false, false, false, false, false, false, false] (by kernel_rfl) (by kernel_rfl) rfl ?_
              obtain ⟨Y1, hwd⟩ : ∃ V_, V_ = X1.drew := ⟨_, rfl⟩
              rw [← hwd] at c10 cb cy cv hS hSo ⊢
              have Hwd3 := Lib.hid hwd
              clear hwd
              refine WA.take (i := 0) (v := .pointer (some ⟨wb, 0, none⟩)) rfl (by kernel_rfl) (by kernel_rfl) (by kernel_rfl) (fun _ _ _ h => h) (hdrop 0 (by decide)) (Or.inl ⟨by rfl, ?_⟩) (hS _) ?_
              · rintro w' ⟨L, hL, hSw, hun⟩
                go_simp
              simp only [List.getElem_toArray, List.getElem_cons_zero, List.getElem_cons_succ, Act.put, List.setIfInBounds_toArray, List.set_cons_zero, List.set_cons_succ]
              refine WA.take (i := 1) (v := .pointer (some ⟨wb, 0, none⟩)) rfl (by kernel_rfl) (by kernel_rfl) (by kernel_rfl) (fun _ _ _ h => h) (hdrop 1 (by decide)) (Or.inl ⟨by rfl, ?_⟩) (hS _) ?_
              · rintro w' ⟨L, hL, hSw, hun⟩
                go_simp
              simp only [List.getElem_toArray, List.getElem_cons_zero, List.getElem_cons_succ, Act.put, List.setIfInBounds_toArray, List.set_cons_zero, List.set_cons_succ]
              refine WA.take (i := 2) (v := .pointer (some ⟨wb, 10, none⟩)) rfl (by kernel_rfl) (by kernel_rfl) (by kernel_rfl) (fun _ _ _ h => h) (hdrop 2 (by decide)) (Or.inl ⟨by rfl, ?_⟩) (hS _) ?_
              · rintro w' ⟨L, hL, hSw, hun⟩
                go_simp
              simp only [List.getElem_toArray, List.getElem_cons_zero, List.getElem_cons_succ, Act.put, List.setIfInBounds_toArray, List.set_cons_zero, List.set_cons_succ]
              refine WA.take (i := 3) (v := .slice (some ⟨vb, 0, none⟩) ln ln) rfl (by kernel_rfl) (by kernel_rfl) (by kernel_rfl) (fun _ _ _ h => h) (hdrop 3 (by decide)) (Or.inl ⟨by rfl, ?_⟩) (hS _) ?_
              · rintro w' ⟨L, hL, hSw, hun⟩
                obtain rfl := hSo hSw 
                go_simp
              simp only [List.getElem_toArray, List.getElem_cons_zero, List.getElem_cons_succ, Act.put, List.setIfInBounds_toArray, List.set_cons_zero, List.set_cons_succ]
              refine WA.take (i := 4) (v := .pointer (some ⟨bx, 0, none⟩)) rfl (by kernel_rfl) (by kernel_rfl) (by kernel_rfl) (fun _ _ _ h => h) (hdrop 4 (by decide)) (Or.inl ⟨by rfl, ?_⟩) (hS _) ?_
              · rintro w' ⟨L, hL, hSw, hun⟩
                go_simp
              simp only [List.getElem_toArray, List.getElem_cons_zero, List.getElem_cons_succ, Act.put, List.setIfInBounds_toArray, List.set_cons_zero, List.set_cons_succ]
              refine WA.take (i := 5) (v := .int .i64 (v : Nat)) rfl (by kernel_rfl) (by kernel_rfl) (by kernel_rfl) (fun _ _ _ h => h) (hdrop 5 (by decide)) (Or.inl ⟨by rfl, ?_⟩) (hS _) ?_
              · rintro w' ⟨L, hL, hSw, hun⟩
                obtain rfl := hSo hSw 
                go_simp
              simp only [List.getElem_toArray, List.getElem_cons_zero, List.getElem_cons_succ, Act.put, List.setIfInBounds_toArray, List.set_cons_zero, List.set_cons_succ]
              refine WA.take (i := 6) (v := .pointer (some ⟨vb, v, none⟩)) rfl (by kernel_rfl) (by kernel_rfl) (by kernel_rfl) (fun _ _ _ h => h) (hdrop 6 (by decide)) (Or.inl ⟨by rfl, ?_⟩) (hS _) ?_
              · rintro w' ⟨L, hL, hSw, hun⟩
                go_simp
              simp only [List.getElem_toArray, List.getElem_cons_zero, List.getElem_cons_succ, Act.put, List.setIfInBounds_toArray, List.set_cons_zero, List.set_cons_succ]
              refine WA.take (i := 7) (v := .int .u32 u) rfl (by kernel_rfl) (by kernel_rfl) (by kernel_rfl) (fun _ _ _ h => h) (hdrop 7 (by decide)) (Or.inl ⟨by rfl, ?_⟩) (hS _) ?_
              · rintro w' ⟨L, hL, hSw, hun⟩
                obtain rfl := hSo hSw 
                go_simp
              simp only [List.getElem_toArray, List.getElem_cons_zero, List.getElem_cons_succ, Act.put, List.setIfInBounds_toArray, List.set_cons_zero, List.set_cons_succ]
              refine WA.take (i := 8) (v := .int .i64 2) rfl (by kernel_rfl) (by kernel_rfl) (by kernel_rfl) (fun _ _ _ h => h) (hdrop 8 (by decide)) (Or.inl ⟨by rfl, ?_⟩) (hS _) ?_
              · rintro w' ⟨L, hL, hSw, hun⟩
                go_simp
              simp only [List.getElem_toArray, List.getElem_cons_zero, List.getElem_cons_succ, Act.put, List.setIfInBounds_toArray, List.set_cons_zero, List.set_cons_succ]
              refine WA.take (i := 9) (v := .pointer (some ⟨w.heap.size, 2, none⟩)) rfl (by kernel_rfl) (by kernel_rfl) (by kernel_rfl) (fun _ _ _ h => h) (hdrop 9 (by decide)) (Or.inl ⟨by rfl, ?_⟩) (hS _) ?_
              · rintro w' ⟨L, hL, hSw, hun⟩
                go_simp
              simp only [List.getElem_toArray, List.getElem_cons_zero, List.getElem_cons_succ, Act.put, List.setIfInBounds_toArray, List.set_cons_zero, List.set_cons_succ]
              refine WA.take (i := 10) (v := .int .u32 y2) rfl (by kernel_rfl) (by kernel_rfl) (by kernel_rfl) (fun _ _ _ h => h) (hdrop 10 (by decide)) (Or.inl ⟨by rfl, ?_⟩) (hS _) ?_
              · rintro w' ⟨L, hL, hSw, hun⟩
                obtain rfl := hSo hSw 
                go_simp
              simp only [List.getElem_toArray, List.getElem_cons_zero, List.getElem_cons_succ, Act.put, List.setIfInBounds_toArray, List.set_cons_zero, List.set_cons_succ]
              refine WA.take (i := 11) (v := .bool (u != y2)) rfl (by kernel_rfl) (by kernel_rfl) (by kernel_rfl) (fun _ _ _ h => h) (hdrop 11 (by decide)) (Or.inl ⟨by rfl, ?_⟩) (hS _) ?_
              · rintro w' ⟨L, hL, hSw, hun⟩
                go_simp
              simp only [List.getElem_toArray, List.getElem_cons_zero, List.getElem_cons_succ, Act.put, List.setIfInBounds_toArray, List.set_cons_zero, List.set_cons_succ]
              refine WA.done (by kernel_rfl) ?_ _
              refine Nrm.normal ?_
              clear hSo hS hdrop
              clear S12
              have HgY := Lib.hid (show w.grownBy Y1 (some vb) by rw [Hwd3.out]; exact gr_trans HgX1.out (gr_below vb (Below.refl X1.heap.size X1).drew))
              have HWY := Lib.hid (show WkB Y1 wb vb L1 by rw [Hwd3.out]; exact HWX1.out.below (Below.refl X1.heap.size X1).drew)
              have HXbY := Lib.hid (show Y1.heap[w.heap.size]? = some (.cells #[.int .u32 y0, .int .u32 y1, .int .u32 y2] 58 (0, 0)) by rw [Hwd3.out]; exact HXb1.out)
              by_cases hy : u = y2
              · have hdy : (u != y2) = false := by simpa using hy
                go_wp2_with fail
                refine ⟨⟨3, L1, by omega, rfl, Hl1.out, ?_, HgY.out, HWY.out, HXbY.out⟩, by simp [intOf]⟩
                refine Eq.trans ?_ Heq.out
                have hb := bindP_same (i := i2) (y := y2) (t := (prs ⟨kk, (a0, i0), (a1, i1), (a2, i2), sa', sb'⟩ (y0, y1, y2)).drop 3) hvL (fun e => hz (Hu.out.symm.trans e)) (Hu.out.trans hy)
                rw [← Hav.out] at hb
                exact hb.symm
              · have hdy : (u != y2) = true := by simpa using hy
                go_wp2_with fail
                go_ret
                have hb := bindP_not (i := i2) (y := y2) (t := (prs ⟨kk, (a0, i0), (a1, i1), (a2, i2), sa', sb'⟩ (y0, y1, y2)).drop 3) hvL (fun e => hz (Hu.out.symm.trans e)) (fun e => hy (Hu.out.symm.trans e))
                rw [← Hav.out] at hb
                have hb := Heq.out.symm.trans hb
                rw [HL0.out] at hb
                rw [hb]
                exact ⟨rfl, HWY.out, HgY.out⟩
        · go_wp2_with fail
          go_ret
          have hb : bindP (prs ⟨kk, (a0, i0), (a1, i1), (a2, i2), sa', sb'⟩ (y0, y1, y2)) L0 = (true, L1) := Heq.out.symm
          rw [HL0.out] at hb
          rw [hb]
          exact ⟨rfl, HW1.out, Hg1.out⟩
end
end Go.Proofs.Ytkgkkbfpkgfcaaa
