/- Layer 14: Go at a match, walked. -/
import Derived.Test.YtkgkkbfpkgfcaaaJ35
namespace Go.Proofs.Ytkgkkbfpkgfcaaa
set_option maxRecDepth 100000
open Go.RowKit Go.Maps
open List (getElem_toArray getElem_cons_zero getElem_cons_succ setIfInBounds_toArray set_cons_zero set_cons_succ)
set_option linter.unusedVariables false
set_option linter.unusedSimpArgs false

set_option maxRecDepth 100000 in
set_option maxHeartbeats 8000000 in
theorem go_match {E : GoE} (hE : GoOK E) {step : Nat} (hs : step < E.steps.length) (hk3 : E.steps[step].kind = 1) (hnext : GoC E (step + 1)) : GoC E step := by
  intro m b bv w ov acc k hg hb hbl hm ho hk
  obtain ⟨ba, bq, hbv, hu⟩ := hb.u
  rw [hbl] at hbv
  subst hbv
  obtain ⟨sb, so, hsa, hst⟩ := hE.st.low hg.lows hg.low step hs
  have hok := (hE.ok _ (List.getElem_mem hs)).2.2
  have hsN := hE.n
  have hvv := hE.vars
  obtain ⟨c0, c7, c9, c10, c11, c12, c13, cf⟩ := hg.c
  obtain ⟨⟨kk, ⟨a0, i0⟩, ⟨a1, i1⟩, ⟨a2, i2⟩, ⟨a3, i3⟩, ⟨a4, i4⟩⟩, hsi⟩ : ∃ s : StepT, E.steps[step] = s := ⟨_, rfl⟩
  rw [hsi] at hst hok hk3
  simp only at hk3
  subst hk3
  obtain ⟨hsl, e0, e1, e2, e3, e4, e5, e6, e7, e8, e9, e10⟩ := hst
  simp only at e0 e1 e2 e3 e4 e5 e6 e7 e8 e9 e10
  have hpl : a0 < (b.length : Int) ∧ a1 < (b.length : Int) ∧ a2 < (b.length : Int) := by rw [hbl]; exact ⟨hok (a0, i0) (by simp [plsOf]), hok (a1, i1) (by simp [plsOf]), hok (a2, i2) (by simp [plsOf])⟩
  obtain ⟨⟨fr, tu, vbt⟩, hvw⟩ : ∃ v, viewAt E.d E.views m = v := ⟨_, rfl⟩
  obtain ⟨all, hall⟩ : ∃ all, stepE E step m b = all := ⟨_, rfl⟩
  have hall2 := hall.symm.trans (restE_zero hs m b hsi rfl hvw)
  rw [hall] at ho hk ⊢
  obtain ⟨n, hn⟩ : ∃ n, E.steps.length = n := ⟨_, rfl⟩
  obtain ⟨tl, htl⟩ : ∃ tl, E.T.length = tl := ⟨_, rfl⟩
  obtain ⟨nv, hnv⟩ : ∃ nv, E.views.length = nv := ⟨_, rfl⟩
  have htl6 := hE.tl
  have hnv6 := hE.nv
  rw [hsa, hn] at c7
  rw [hn] at hs hsN
  rw [htl] at c0 htl6
  rw [hnv] at c9 hnv6
  have hm6 : m ≤ 1000 := by omega
  have hd1 : ((step : Int) == (n : Int)) = false := by simp; omega
  have hvws := hE.vw.low hg.lows hg.low
  have hgbl : E.gb < w.heap.size := (Array.getElem?_eq_some_iff.1 hg.gc).1
  have HE := Lib.hid hE; have Hvws := Lib.hid hvws; have Hvw := Lib.hid hvw; have Hall := Lib.hid hall2; have Hnv := Lib.hid hnv
  have HG := Lib.hid hg; have HB := Lib.hid hb; have Hn := Lib.hid hn; have Hpl := Lib.hid hpl; have Hbl := Lib.hid hbl; have Ho := Lib.hid ho; have Hk := Lib.hid hk; have Hm := Lib.hid hm; have Hnx := Lib.hid hnext; have Htl := Lib.hid htl
  clear hg hb hn hu hpl hbl ho hk hm hnext hok hsa hE hsi htl hnv hvw hall hall2 hvws
  go_enter Try.func13, Try.ntmps13
  go_upto_if 135 with fail
  go_cut [] from 136 to 142 (fun wx => wx.heap[w.heap.size]? = some (.cells #[.int .i64 1, .int .i64 a0, .int .u32 i0, .int .i64 a1, .int .u32 i1, .int .i64 a2, .int .u32 i2, .int .i64 a3, .int .u32 i3, .int .i64 a4, .int .u32 i4] 35 (0, 0)) ∧ wx.heap[w.heap.size + 1]? = some (.cells #[.int .i64 fr, .int .i64 tu, .int .u8 vbt] 42 (0, 0)) ∧ Below w.heap.size w wx)
  case first =>
    by_cases hmv : m < nv
    · have hdk : decide ((m : Int) < (nv : Int)) = true := by simp; omega
      obtain ⟨vb, vo, hva, hv⟩ := Hvws.out m (by rw [Hnv.out]; exact hmv)
      have hvi := (viewAt_in (d := E.d) (by rw [Hnv.out]; exact hmv)).symm.trans Hvw.out
      rw [hvi] at hv
      obtain ⟨hvl, f0, f1, f2⟩ := hv
      simp only at f0 f1 f2
      rw [hva] at c9
      clear hva hvi
      go_wp2_with fail
      go_meet
      obtain ⟨g1, g2, g3, g4⟩ := two_blocks w (.cells #[.int .i64 1, .int .i64 a0, .int .u32 i0, .int .i64 a1, .int .u32 i1, .int .i64 a2, .int .u32 i2, .int .i64 a3, .int .u32 i3, .int .i64 a4, .int .u32 i4] 35) (.cells #[.int .i64 fr, .int .i64 tu, .int .u8 vbt] 42 (0, 0)) _ rfl
      exact ⟨g3, g4, g1⟩
    · have hdk : decide ((m : Int) < (nv : Int)) = false := by simp; omega
      go_wp2_with fail
      go_meet
      have hvi := (viewAt_out (d := E.d) (by rw [Hnv.out]; omega)).symm.trans Hvw.out
      rw [show E.d = (0, (tl : Int), 3) by unfold GoE.d; rw [Htl.out]] at hvi
      injection hvi with h1 h2
      injection h2 with h2 h3
      subst h1 h2 h3
      obtain ⟨g1, g2, g3, g4⟩ := two_blocks w (.cells #[.int .i64 1, .int .i64 a0, .int .u32 i0, .int .i64 a1, .int .u32 i1, .int .i64 a2, .int .u32 i2, .int .i64 a3, .int .u32 i3, .int .i64 a4, .int .u32 i4] 35) (.cells #[.int .i64 0, .int .i64 tl, .int .u8 3] 42) _ rfl
      exact ⟨g3, g4, g1⟩
  case rest =>
    obtain ⟨hsb0, hvb0, hB0⟩ := hcut
    have Hsb0 := Lib.hid hsb0; have Hvb0 := Lib.hid hvb0; have HB0 := Lib.hid hB0
    clear hsb0 hvb0 hB0 c9 hgbl
    go_wp2_with fail
    go_loopw [11] (fun u wr => ∃ (i kk : Nat) (ovr : Value) (new : List OutT), i ≤ tl ∧ u = .int .i64 i ∧ MatS E w ov acc k all (restE E step m b ⟨1, (a0, i0), (a1, i1), (a2, i2), (a3, i3), (a4, i4)⟩ fr tu vbt i) wr ovr new kk ∧ wr.heap[w.heap.size]? = some (.cells #[.int .i64 1, .int .i64 a0, .int .u32 i0, .int .i64 a1, .int .u32 i1, .int .i64 a2, .int .u32 i2, .int .i64 a3, .int .u32 i3, .int .i64 a4, .int .u32 i4] 35 (0, 0)) ∧ wr.heap[w.heap.size + 1]? = some (.cells #[.int .i64 fr, .int .i64 tu, .int .u8 vbt] 42 (0, 0))) (fun u _ => tl - (intOf u).toNat)
    case atStart => exact ⟨0, 0, ov, [], by omega, rfl, ⟨by rw [List.append_nil, Nat.add_zero]; exact HG.out.below HB0.out, by rw [Hall.out]; rfl, by rw [Hall.out, Nat.zero_add], GTurn.below HB0.out⟩, Hsb0.out, Hvb0.out⟩
    case round =>
      obtain ⟨i, kk, ovr, new, hi, rfl, hM, hsb, hvb⟩ := hrel
      have HM := Lib.hid hM; have Hsb := Lib.hid hsb; have Hvb := Lib.hid hvb
      obtain ⟨cw0, cw7, cw9, cw10, cw11, cw12, cw13, cwf⟩ := hM.gw.c
      rw [Htl.out] at cw0
      have hbw := hM.turn.keep HG.out HB.out
      have HBW := Lib.hid hbw
      obtain ⟨ba', bq', hbv', hu⟩ := hbw.u
      rw [Hbl.out] at hbv'
      injection hbv' with hba1 _ hbq1
      subst hba1 hbq1
      have Hu := Lib.hid hu
      clear hM hsb hvb hbw hu cw7 cw9 cw10
      by_cases hin : i < tl
      · have hd : decide ((i : Int) < (tl : Int)) = true := by simp; omega
        obtain ⟨rb, ro, hra, hrow⟩ := GW.rows HE.out HM.out.gw i (by rw [Htl.out]; exact hin)
        obtain ⟨⟨⟨y0, y1, y2⟩, yb⟩, hTi⟩ : ∃ y, E.T[i]'(by rw [Htl.out]; exact hin) = y := ⟨_, rfl⟩
        have hgood := goodAt_eq (by rw [Htl.out]; exact hin) hTi b ⟨1, (a0, i0), (a1, i1), (a2, i2), (a3, i3), (a4, i4)⟩ fr tu vbt
        have hrT := (rowBits (by rw [Htl.out]; exact hin) hTi).1
        rw [hTi] at hrow
        obtain ⟨hrl, yw0, yw1, yw2, yw3, _, _⟩ := hrow
        simp only at yw0 yw1 yw2 yw3
        rw [hra] at cw0
        have Hgood := Lib.hid hgood; have HrT := Lib.hid hrT; have Hrl := Lib.hid hrl; have Hra := Lib.hid hra; have HTi := Lib.hid hTi
        clear hgood hra hTi hrT hrl
        go_upto_region 23 with fail
        go_cut [196] from 159 to 196 (fun u wx => u = .bool (!goodAt E.T b ⟨1, (a0, i0), (a1, i1), (a2, i2), (a3, i3), (a4, i4)⟩ fr tu vbt i) ∧ Below wr.heap.size wr wx)
        case first =>
          as_aux_lemma =>
           cases h1 : decide ((i : Int) < fr)
           · cases h2 : decide ((i : Int) ≥ tu)
             · cases h3 : (bits .and .u8 yb vbt == 0)
               · skip
                 have c0 : wr.drew.cell? ⟨E.gb, 0, none⟩ = some (.slice (some ⟨rb, ro, none⟩) tl E.rcap) := cw0
                 obtain ⟨y0c, y1c, y2c, y3c⟩ : wr.drew.cell? ⟨rb, ro + i * 4, none⟩ = some (.int .u32 y0) ∧ wr.drew.cell? ⟨rb, ro + i * 4 + 1, none⟩ = some (.int .u32 y1) ∧ wr.drew.cell? ⟨rb, ro + i * 4 + 2, none⟩ = some (.int .u32 y2) ∧ wr.drew.cell? ⟨rb, ro + i * 4 + 3, none⟩ = some (.int .u8 yb) := ⟨yw0, yw1, yw2, yw3⟩
                 obtain ⟨v0, v1, v2⟩ : wr.drew.cell? ⟨w.heap.size + 1, 0, none⟩ = some (.int .i64 fr) ∧ wr.drew.cell? ⟨w.heap.size + 1, 1, none⟩ = some (.int .i64 tu) ∧ wr.drew.cell? ⟨w.heap.size + 1, 2, none⟩ = some (.int .u8 vbt) := by
                   show wr.cell? _ = _ ∧ wr.cell? _ = _ ∧ wr.cell? _ = _
                   unfold World.cell?; rw [Hvb.out]; exact ⟨rfl, rfl, rfl⟩
                 obtain ⟨s0, s1, s2, s3, s4, s5, s6, s7, s8, s9, s10⟩ : wr.drew.cell? ⟨w.heap.size, 0, none⟩ = some (.int .i64 1) ∧ wr.drew.cell? ⟨w.heap.size, 1, none⟩ = some (.int .i64 a0) ∧ wr.drew.cell? ⟨w.heap.size, 2, none⟩ = some (.int .u32 i0) ∧ wr.drew.cell? ⟨w.heap.size, 3, none⟩ = some (.int .i64 a1) ∧ wr.drew.cell? ⟨w.heap.size, 4, none⟩ = some (.int .u32 i1) ∧ wr.drew.cell? ⟨w.heap.size, 5, none⟩ = some (.int .i64 a2) ∧ wr.drew.cell? ⟨w.heap.size, 6, none⟩ = some (.int .u32 i2) ∧ wr.drew.cell? ⟨w.heap.size, 7, none⟩ = some (.int .i64 a3) ∧ wr.drew.cell? ⟨w.heap.size, 8, none⟩ = some (.int .u32 i3) ∧ wr.drew.cell? ⟨w.heap.size, 9, none⟩ = some (.int .i64 a4) ∧ wr.drew.cell? ⟨w.heap.size, 10, none⟩ = some (.int .u32 i4) := by
                   show wr.cell? _ = _ ∧ wr.cell? _ = _ ∧ wr.cell? _ = _ ∧ wr.cell? _ = _ ∧ wr.cell? _ = _ ∧ wr.cell? _ = _ ∧ wr.cell? _ = _ ∧ wr.cell? _ = _ ∧ wr.cell? _ = _ ∧ wr.cell? _ = _ ∧ wr.cell? _ = _
                   unfold World.cell?; rw [Hsb.out]; exact ⟨rfl, rfl, rfl, rfl, rfl, rfl, rfl, rfl, rfl, rfl, rfl⟩
                 have HBe := Lib.hid (show Below wr.heap.size wr wr.drew from (Below.refl _ wr).drew)
                 have HU := Lib.hid (Hu.out.below HBe.out)
                 obtain ⟨S23, hSe⟩ : ∃ S : Array Bool → World → Prop, S = fun _ w' => Below wr.drew.heap.size wr.drew w' := ⟨_, rfl⟩
                 have hdrop : ∀ i : Nat, ∀ L w', S23 (L.setIfInBounds i true) w' → S23 L w' := by
                   intro i L w' h; rw [hSe] at h ⊢; exact h
                 have hS : ∀ L, S23 L wr.drew := by intro L; rw [hSe]; exact Below.refl _ _
                 have hSo : ∀ {L w'}, S23 L w' → Below wr.drew.heap.size wr.drew w' := by intro L w' h; rw [hSe] at h; exact h
                 have hSi : ∀ {w'}, Below wr.drew.heap.size wr.drew w' → ∀ L, S23 L w' := by intro w' h L; rw [hSe]; exact h
                 clear hSe
                 refine wp_region_LN S23 38 #[false, false, false, false, false, false, false, false, false, false, false, false, false, false, false, false, false, false, false, false, false, false, false, false, false, false, false, false, false, false, false, false, false, false, false, false, false, false] (by kernel_rfl) (by kernel_rfl) rfl ?_
                 obtain ⟨X, hX⟩ : ∃ X, X = wr.drew := ⟨_, rfl⟩
                 rw [← hX] at c0 y0c y1c y2c y3c v0 v1 v2 s0 s1 s2 s3 s4 s5 s6 s7 s8 s9 s10 hSo hSi hS HBe HU ⊢
                 clear hX
                 refine WA.take (i := 0) (v := .int .i64 (i : Nat)) rfl (by kernel_rfl) (by kernel_rfl) (by kernel_rfl) (fun _ _ _ h => h) (hdrop 0) (Or.inl ⟨by rfl, ?_⟩) (hS _) ?_
                 · rintro w' ⟨L, hL, hSw, hun⟩
                   go_simp
                 simp only [getElem_toArray, getElem_cons_zero, getElem_cons_succ, Act.put, setIfInBounds_toArray, set_cons_zero, set_cons_succ]
                 refine WA.take (i := 1) (v := .pointer (some ⟨w.heap.size + 1, 0, none⟩)) rfl (by kernel_rfl) (by kernel_rfl) (by kernel_rfl) (fun _ _ _ h => h) (hdrop 1) (Or.inl ⟨by rfl, ?_⟩) (hS _) ?_
                 · rintro w' ⟨L, hL, hSw, hun⟩
                   go_simp
                 simp only [getElem_toArray, getElem_cons_zero, getElem_cons_succ, Act.put, setIfInBounds_toArray, set_cons_zero, set_cons_succ]
                 refine WA.take (i := 2) (v := .int .i64 fr) rfl (by kernel_rfl) (by kernel_rfl) (by kernel_rfl) (fun _ _ _ h => h) (hdrop 2) (Or.inl ⟨by rfl, ?_⟩) (hS _) ?_
                 · rintro w' ⟨L, hL, hSw, hun⟩
                   have hbw := hSo hSw
                   have v0 := cell_later hbw v0
                   clear hbw
                   go_simp
                 simp only [getElem_toArray, getElem_cons_zero, getElem_cons_succ, Act.put, setIfInBounds_toArray, set_cons_zero, set_cons_succ]
                 refine WA.take (i := 3) (v := .bool false) rfl (by kernel_rfl) (by kernel_rfl) (by kernel_rfl) (fun _ _ _ h => h) (hdrop 3) (Or.inl ⟨by rfl, ?_⟩) (hS _) ?_
                 · rintro w' ⟨L, hL, hSw, hun⟩
                   go_simp
                 simp only [getElem_toArray, getElem_cons_zero, getElem_cons_succ, Act.put, setIfInBounds_toArray, set_cons_zero, set_cons_succ]
                 refine WA.take (i := 4) (v := .bool false) rfl (by kernel_rfl) (by kernel_rfl) (by kernel_rfl) (fun _ _ _ h => h) (hdrop 4) (Or.inl ⟨by rfl, ?_⟩) (hS _) ?_
                 · rintro w' ⟨L, hL, hSw, hun⟩
                   go_simp
                 simp only [getElem_toArray, getElem_cons_zero, getElem_cons_succ, Act.put, setIfInBounds_toArray, set_cons_zero, set_cons_succ]
                 refine WA.take (i := 5) (v := .int .i64 (i : Nat)) rfl (by kernel_rfl) (by kernel_rfl) (by kernel_rfl) (fun _ _ _ h => h) (hdrop 5) (Or.inl ⟨by rfl, ?_⟩) (hS _) ?_
                 · rintro w' ⟨L, hL, hSw, hun⟩
                   go_simp
                 simp only [getElem_toArray, getElem_cons_zero, getElem_cons_succ, Act.put, setIfInBounds_toArray, set_cons_zero, set_cons_succ]
                 refine WA.take (i := 6) (v := .pointer (some ⟨w.heap.size + 1, 1, none⟩)) rfl (by kernel_rfl) (by kernel_rfl) (by kernel_rfl) (fun _ _ _ h => h) (hdrop 6) (Or.inl ⟨by rfl, ?_⟩) (hS _) ?_
                 · rintro w' ⟨L, hL, hSw, hun⟩
                   go_simp
                 simp only [getElem_toArray, getElem_cons_zero, getElem_cons_succ, Act.put, setIfInBounds_toArray, set_cons_zero, set_cons_succ]
                 refine WA.take (i := 7) (v := .int .i64 tu) rfl (by kernel_rfl) (by kernel_rfl) (by kernel_rfl) (fun _ _ _ h => h) (hdrop 7) (Or.inl ⟨by rfl, ?_⟩) (hS _) ?_
                 · rintro w' ⟨L, hL, hSw, hun⟩
                   have hbw := hSo hSw
                   have v1 := cell_later hbw v1
                   clear hbw
                   go_simp
                 simp only [getElem_toArray, getElem_cons_zero, getElem_cons_succ, Act.put, setIfInBounds_toArray, set_cons_zero, set_cons_succ]
                 refine WA.take (i := 8) (v := .bool false) rfl (by kernel_rfl) (by kernel_rfl) (by kernel_rfl) (fun _ _ _ h => h) (hdrop 8) (Or.inl ⟨by rfl, ?_⟩) (hS _) ?_
                 · rintro w' ⟨L, hL, hSw, hun⟩
                   go_simp
                 simp only [getElem_toArray, getElem_cons_zero, getElem_cons_succ, Act.put, setIfInBounds_toArray, set_cons_zero, set_cons_succ]
                 refine WA.take (i := 9) (v := .bool false) rfl (by kernel_rfl) (by kernel_rfl) (by kernel_rfl) (fun _ _ _ h => h) (hdrop 9) (Or.inl ⟨by rfl, ?_⟩) (hS _) ?_
                 · rintro w' ⟨L, hL, hSw, hun⟩
                   go_simp
                 simp only [getElem_toArray, getElem_cons_zero, getElem_cons_succ, Act.put, setIfInBounds_toArray, set_cons_zero, set_cons_succ]
                 refine WA.take (i := 10) (v := .bool false) rfl (by kernel_rfl) (by kernel_rfl) (by kernel_rfl) (fun _ _ _ h => h) (hdrop 10) (Or.inl ⟨by rfl, ?_⟩) (hS _) ?_
                 · rintro w' ⟨L, hL, hSw, hun⟩
                   go_simp
                 simp only [getElem_toArray, getElem_cons_zero, getElem_cons_succ, Act.put, setIfInBounds_toArray, set_cons_zero, set_cons_succ]
                 refine WA.take (i := 11) (v := .pointer (some ⟨E.gb, 0, none⟩)) rfl (by kernel_rfl) (by kernel_rfl) (by kernel_rfl) (fun _ _ _ h => h) (hdrop 11) (Or.inl ⟨by rfl, ?_⟩) (hS _) ?_
                 · rintro w' ⟨L, hL, hSw, hun⟩
                   go_simp
                 simp only [getElem_toArray, getElem_cons_zero, getElem_cons_succ, Act.put, setIfInBounds_toArray, set_cons_zero, set_cons_succ]
                 refine WA.take (i := 12) (v := .pointer (some ⟨E.gb, 0, none⟩)) rfl (by kernel_rfl) (by kernel_rfl) (by kernel_rfl) (fun _ _ _ h => h) (hdrop 12) (Or.inl ⟨by rfl, ?_⟩) (hS _) ?_
                 · rintro w' ⟨L, hL, hSw, hun⟩
                   go_simp
                 simp only [getElem_toArray, getElem_cons_zero, getElem_cons_succ, Act.put, setIfInBounds_toArray, set_cons_zero, set_cons_succ]
                 refine WA.take (i := 13) (v := .pointer (some ⟨E.gb, 0, none⟩)) rfl (by kernel_rfl) (by kernel_rfl) (by kernel_rfl) (fun _ _ _ h => h) (hdrop 13) (Or.inl ⟨by rfl, ?_⟩) (hS _) ?_
                 · rintro w' ⟨L, hL, hSw, hun⟩
                   go_simp
                 simp only [getElem_toArray, getElem_cons_zero, getElem_cons_succ, Act.put, setIfInBounds_toArray, set_cons_zero, set_cons_succ]
                 refine WA.take (i := 14) (v := .slice (some ⟨rb, ro, none⟩) tl E.rcap) rfl (by kernel_rfl) (by kernel_rfl) (by kernel_rfl) (fun _ _ _ h => h) (hdrop 14) (Or.inl ⟨by rfl, ?_⟩) (hS _) ?_
                 · rintro w' ⟨L, hL, hSw, hun⟩
                   have hbw := hSo hSw
                   have c0 := cell_later hbw c0
                   clear hbw
                   go_simp
                 simp only [getElem_toArray, getElem_cons_zero, getElem_cons_succ, Act.put, setIfInBounds_toArray, set_cons_zero, set_cons_succ]
                 refine WA.take (i := 15) (v := .int .i64 (i : Nat)) rfl (by kernel_rfl) (by kernel_rfl) (by kernel_rfl) (fun _ _ _ h => h) (hdrop 15) (Or.inl ⟨by rfl, ?_⟩) (hS _) ?_
                 · rintro w' ⟨L, hL, hSw, hun⟩
                   go_simp
                 simp only [getElem_toArray, getElem_cons_zero, getElem_cons_succ, Act.put, setIfInBounds_toArray, set_cons_zero, set_cons_succ]
                 refine WA.take (i := 16) (v := .pointer (some ⟨rb, ro + i * 4, none⟩)) rfl (by kernel_rfl) (by kernel_rfl) (by kernel_rfl) (fun _ _ _ h => h) (hdrop 16) (Or.inl ⟨by rfl, ?_⟩) (hS _) ?_
                 · rintro w' ⟨L, hL, hSw, hun⟩
                   go_simp
                 simp only [getElem_toArray, getElem_cons_zero, getElem_cons_succ, Act.put, setIfInBounds_toArray, set_cons_zero, set_cons_succ]
                 refine WA.take (i := 17) (v := .pointer (some ⟨rb, ro + i * 4 + 3, none⟩)) rfl (by kernel_rfl) (by kernel_rfl) (by kernel_rfl) (fun _ _ _ h => h) (hdrop 17) (Or.inl ⟨by rfl, ?_⟩) (hS _) ?_
                 · rintro w' ⟨L, hL, hSw, hun⟩
                   go_simp
                 simp only [getElem_toArray, getElem_cons_zero, getElem_cons_succ, Act.put, setIfInBounds_toArray, set_cons_zero, set_cons_succ]
                 refine WA.take (i := 18) (v := .int .u8 yb) rfl (by kernel_rfl) (by kernel_rfl) (by kernel_rfl) (fun _ _ _ h => h) (hdrop 18) (Or.inl ⟨by rfl, ?_⟩) (hS _) ?_
                 · rintro w' ⟨L, hL, hSw, hun⟩
                   have hbw := hSo hSw
                   have y3c := cell_later hbw y3c
                   clear hbw
                   go_simp
                 simp only [getElem_toArray, getElem_cons_zero, getElem_cons_succ, Act.put, setIfInBounds_toArray, set_cons_zero, set_cons_succ]
                 refine WA.take (i := 19) (v := .pointer (some ⟨w.heap.size + 1, 2, none⟩)) rfl (by kernel_rfl) (by kernel_rfl) (by kernel_rfl) (fun _ _ _ h => h) (hdrop 19) (Or.inl ⟨by rfl, ?_⟩) (hS _) ?_
                 · rintro w' ⟨L, hL, hSw, hun⟩
                   go_simp
                 simp only [getElem_toArray, getElem_cons_zero, getElem_cons_succ, Act.put, setIfInBounds_toArray, set_cons_zero, set_cons_succ]
                 refine WA.take (i := 20) (v := .int .u8 vbt) rfl (by kernel_rfl) (by kernel_rfl) (by kernel_rfl) (fun _ _ _ h => h) (hdrop 20) (Or.inl ⟨by rfl, ?_⟩) (hS _) ?_
                 · rintro w' ⟨L, hL, hSw, hun⟩
                   have hbw := hSo hSw
                   have v2 := cell_later hbw v2
                   clear hbw
                   go_simp
                 simp only [getElem_toArray, getElem_cons_zero, getElem_cons_succ, Act.put, setIfInBounds_toArray, set_cons_zero, set_cons_succ]
                 refine WA.take (i := 21) (v := .int .u8 (bits .and .u8 yb vbt)) rfl (by kernel_rfl) (by kernel_rfl) (by kernel_rfl) (fun _ _ _ h => h) (hdrop 21) (Or.inl ⟨by rfl, ?_⟩) (hS _) ?_
                 · rintro w' ⟨L, hL, hSw, hun⟩
                   go_simp
                 simp only [getElem_toArray, getElem_cons_zero, getElem_cons_succ, Act.put, setIfInBounds_toArray, set_cons_zero, set_cons_succ]
                 refine WA.take (i := 22) (v := .bool false) rfl (by kernel_rfl) (by kernel_rfl) (by kernel_rfl) (fun _ _ _ h => h) (hdrop 22) (Or.inl ⟨by rfl, ?_⟩) (hS _) ?_
                 · rintro w' ⟨L, hL, hSw, hun⟩
                   go_simp
                 simp only [getElem_toArray, getElem_cons_zero, getElem_cons_succ, Act.put, setIfInBounds_toArray, set_cons_zero, set_cons_succ]
                 refine WA.take (i := 23) (v := .bool false) rfl (by kernel_rfl) (by kernel_rfl) (by kernel_rfl) (fun _ _ _ h => h) (hdrop 23) (Or.inl ⟨by rfl, ?_⟩) (hS _) ?_
                 · rintro w' ⟨L, hL, hSw, hun⟩
                   go_simp
                 simp only [getElem_toArray, getElem_cons_zero, getElem_cons_succ, Act.put, setIfInBounds_toArray, set_cons_zero, set_cons_succ]
                 refine WA.take (i := 24) (v := .bool false) rfl (by kernel_rfl) (by kernel_rfl) (by kernel_rfl) (fun _ _ _ h => h) (hdrop 24) (Or.inl ⟨by rfl, ?_⟩) (hS _) ?_
                 · rintro w' ⟨L, hL, hSw, hun⟩
                   go_simp
                 simp only [getElem_toArray, getElem_cons_zero, getElem_cons_succ, Act.put, setIfInBounds_toArray, set_cons_zero, set_cons_succ]
                 refine WA.take (i := 25) (v := .slice ba E.vars bq) rfl (by kernel_rfl) (by kernel_rfl) (by kernel_rfl) (fun _ _ _ h => h) (hdrop 25) (Or.inl ⟨by rfl, ?_⟩) (hS _) ?_
                 · rintro w' ⟨L, hL, hSw, hun⟩
                   go_simp
                 simp only [getElem_toArray, getElem_cons_zero, getElem_cons_succ, Act.put, setIfInBounds_toArray, set_cons_zero, set_cons_succ]
                 refine WA.take (i := 26) (v := .agg #[.int .i64 1, .int .i64 a0, .int .u32 i0, .int .i64 a1, .int .u32 i1, .int .i64 a2, .int .u32 i2, .int .i64 a3, .int .u32 i3, .int .i64 a4, .int .u32 i4]) rfl (by kernel_rfl) (by kernel_rfl) (by kernel_rfl) (fun _ _ _ h => h) (hdrop 26) (Or.inl ⟨by rfl, ?_⟩) (hS _) ?_
                 · rintro w' ⟨L, hL, hSw, hun⟩
                   have hbw := hSo hSw
                   have s0 := cell_later hbw s0
                   have s1 := cell_later hbw s1
                   have s2 := cell_later hbw s2
                   have s3 := cell_later hbw s3
                   have s4 := cell_later hbw s4
                   have s5 := cell_later hbw s5
                   have s6 := cell_later hbw s6
                   have s7 := cell_later hbw s7
                   have s8 := cell_later hbw s8
                   have s9 := cell_later hbw s9
                   have s10 := cell_later hbw s10
                   clear hbw
                   go_simp
                 simp only [getElem_toArray, getElem_cons_zero, getElem_cons_succ, Act.put, setIfInBounds_toArray, set_cons_zero, set_cons_succ]
                 refine WA.take (i := 27) (v := .pointer (some ⟨E.gb, 0, none⟩)) rfl (by kernel_rfl) (by kernel_rfl) (by kernel_rfl) (fun _ _ _ h => h) (hdrop 27) (Or.inl ⟨by rfl, ?_⟩) (hS _) ?_
                 · rintro w' ⟨L, hL, hSw, hun⟩
                   go_simp
                 simp only [getElem_toArray, getElem_cons_zero, getElem_cons_succ, Act.put, setIfInBounds_toArray, set_cons_zero, set_cons_succ]
                 refine WA.take (i := 28) (v := .pointer (some ⟨E.gb, 0, none⟩)) rfl (by kernel_rfl) (by kernel_rfl) (by kernel_rfl) (fun _ _ _ h => h) (hdrop 28) (Or.inl ⟨by rfl, ?_⟩) (hS _) ?_
                 · rintro w' ⟨L, hL, hSw, hun⟩
                   go_simp
                 simp only [getElem_toArray, getElem_cons_zero, getElem_cons_succ, Act.put, setIfInBounds_toArray, set_cons_zero, set_cons_succ]
                 refine WA.take (i := 29) (v := .pointer (some ⟨E.gb, 0, none⟩)) rfl (by kernel_rfl) (by kernel_rfl) (by kernel_rfl) (fun _ _ _ h => h) (hdrop 29) (Or.inl ⟨by rfl, ?_⟩) (hS _) ?_
                 · rintro w' ⟨L, hL, hSw, hun⟩
                   go_simp
                 simp only [getElem_toArray, getElem_cons_zero, getElem_cons_succ, Act.put, setIfInBounds_toArray, set_cons_zero, set_cons_succ]
                 refine WA.take (i := 30) (v := .slice (some ⟨rb, ro, none⟩) tl E.rcap) rfl (by kernel_rfl) (by kernel_rfl) (by kernel_rfl) (fun _ _ _ h => h) (hdrop 30) (Or.inl ⟨by rfl, ?_⟩) (hS _) ?_
                 · rintro w' ⟨L, hL, hSw, hun⟩
                   have hbw := hSo hSw
                   have c0 := cell_later hbw c0
                   clear hbw
                   go_simp
                 simp only [getElem_toArray, getElem_cons_zero, getElem_cons_succ, Act.put, setIfInBounds_toArray, set_cons_zero, set_cons_succ]
                 refine WA.take (i := 31) (v := .int .i64 (i : Nat)) rfl (by kernel_rfl) (by kernel_rfl) (by kernel_rfl) (fun _ _ _ h => h) (hdrop 31) (Or.inl ⟨by rfl, ?_⟩) (hS _) ?_
                 · rintro w' ⟨L, hL, hSw, hun⟩
                   go_simp
                 simp only [getElem_toArray, getElem_cons_zero, getElem_cons_succ, Act.put, setIfInBounds_toArray, set_cons_zero, set_cons_succ]
                 refine WA.take (i := 32) (v := .pointer (some ⟨rb, ro + i * 4, none⟩)) rfl (by kernel_rfl) (by kernel_rfl) (by kernel_rfl) (fun _ _ _ h => h) (hdrop 32) (Or.inl ⟨by rfl, ?_⟩) (hS _) ?_
                 · rintro w' ⟨L, hL, hSw, hun⟩
                   go_simp
                 simp only [getElem_toArray, getElem_cons_zero, getElem_cons_succ, Act.put, setIfInBounds_toArray, set_cons_zero, set_cons_succ]
                 refine WA.take (i := 33) (v := .pointer (some ⟨rb, ro + i * 4, none⟩)) rfl (by kernel_rfl) (by kernel_rfl) (by kernel_rfl) (fun _ _ _ h => h) (hdrop 33) (Or.inl ⟨by rfl, ?_⟩) (hS _) ?_
                 · rintro w' ⟨L, hL, hSw, hun⟩
                   go_simp
                 simp only [getElem_toArray, getElem_cons_zero, getElem_cons_succ, Act.put, setIfInBounds_toArray, set_cons_zero, set_cons_succ]
                 refine WA.take (i := 34) (v := .agg #[.int .u32 y0, .int .u32 y1, .int .u32 y2]) rfl (by kernel_rfl) (by kernel_rfl) (by kernel_rfl) (fun _ _ _ h => h) (hdrop 34) (Or.inl ⟨by rfl, ?_⟩) (hS _) ?_
                 · rintro w' ⟨L, hL, hSw, hun⟩
                   have hbw := hSo hSw
                   have y0c := cell_later hbw y0c
                   have y1c := cell_later hbw y1c
                   have y2c := cell_later hbw y2c
                   clear hbw
                   go_simp
                 simp only [getElem_toArray, getElem_cons_zero, getElem_cons_succ, Act.put, setIfInBounds_toArray, set_cons_zero, set_cons_succ]
                 refine WA.one (i := 35) (by kernel_rfl) rfl (by rfl) (fun K hK => ?_)
                 go_simp
                 have hc := rfits_any ba bq b ⟨1, (a0, i0), (a1, i1), (a2, i2), (a3, i3), (a4, i4)⟩ (y0, y1, y2) HU.out Hpl.out
                 simp only [stepv, rv] at hc
                 rw [Hbl.out] at hc
                 refine hc.mono ?_
                 rintro e w2 ⟨rfl, hB2⟩
                 obtain ⟨ft, hft⟩ : ∃ ft, fits (lookP b ⟨1, (a0, i0), (a1, i1), (a2, i2), (a3, i3), (a4, i4)⟩) (y0, y1, y2) = ft := ⟨_, rfl⟩
                 rw [hft]
                 have Hft := Lib.hid hft; have HB2 := Lib.hid hB2
                 clear hft hB2 hc
                 refine hK _ _ (hSi HB2.out _) ?_
                 clear hK
                 try simp only [getElem_toArray, getElem_cons_zero, getElem_cons_succ, Act.put, setIfInBounds_toArray, set_cons_zero, set_cons_succ]
                 refine WA.take (i := 36) (v := .bool (!ft)) rfl (by kernel_rfl) (by kernel_rfl) (by kernel_rfl) (fun _ _ _ h => h) (hdrop 36) (Or.inl ⟨by rfl, ?_⟩) (hSi HB2.out _) ?_
                 · rintro w' ⟨L, hL, hSw, hun⟩
                   go_simp
                 simp only [getElem_toArray, getElem_cons_zero, getElem_cons_succ, Act.put, setIfInBounds_toArray, set_cons_zero, set_cons_succ]
                 refine WA.take (i := 37) (v := .bool (!ft)) rfl (by kernel_rfl) (by kernel_rfl) (by kernel_rfl) (fun _ _ _ h => h) (hdrop 37) (Or.inl ⟨by rfl, ?_⟩) (hSi HB2.out _) ?_
                 · rintro w' ⟨L, hL, hSw, hun⟩
                   go_simp
                 simp only [getElem_toArray, getElem_cons_zero, getElem_cons_succ, Act.put, setIfInBounds_toArray, set_cons_zero, set_cons_succ]
                 refine WA.done (by kernel_rfl) ?_ _
                 refine Nrm.normal ?_
                 clear hSo hSi hS hdrop c0 y0c y1c y2c y3c v0 v1 v2 s0 s1 s2 s3 s4 s5 s6 s7 s8 s9 s10
                 clear S23
                 go_wp2_with fail
                 go_meet
                 exact ⟨by rw [Hgood.out, h1, h2, h3, Hft.out]; simp, HBe.out.trans (HB2.out.mono HBe.out.size)⟩
               · skip
                 have c0 : wr.drew.cell? ⟨E.gb, 0, none⟩ = some (.slice (some ⟨rb, ro, none⟩) tl E.rcap) := cw0
                 obtain ⟨y0c, y1c, y2c, y3c⟩ : wr.drew.cell? ⟨rb, ro + i * 4, none⟩ = some (.int .u32 y0) ∧ wr.drew.cell? ⟨rb, ro + i * 4 + 1, none⟩ = some (.int .u32 y1) ∧ wr.drew.cell? ⟨rb, ro + i * 4 + 2, none⟩ = some (.int .u32 y2) ∧ wr.drew.cell? ⟨rb, ro + i * 4 + 3, none⟩ = some (.int .u8 yb) := ⟨yw0, yw1, yw2, yw3⟩
                 obtain ⟨v0, v1, v2⟩ : wr.drew.cell? ⟨w.heap.size + 1, 0, none⟩ = some (.int .i64 fr) ∧ wr.drew.cell? ⟨w.heap.size + 1, 1, none⟩ = some (.int .i64 tu) ∧ wr.drew.cell? ⟨w.heap.size + 1, 2, none⟩ = some (.int .u8 vbt) := by
                   show wr.cell? _ = _ ∧ wr.cell? _ = _ ∧ wr.cell? _ = _
                   unfold World.cell?; rw [Hvb.out]; exact ⟨rfl, rfl, rfl⟩
                 obtain ⟨s0, s1, s2, s3, s4, s5, s6, s7, s8, s9, s10⟩ : wr.drew.cell? ⟨w.heap.size, 0, none⟩ = some (.int .i64 1) ∧ wr.drew.cell? ⟨w.heap.size, 1, none⟩ = some (.int .i64 a0) ∧ wr.drew.cell? ⟨w.heap.size, 2, none⟩ = some (.int .u32 i0) ∧ wr.drew.cell? ⟨w.heap.size, 3, none⟩ = some (.int .i64 a1) ∧ wr.drew.cell? ⟨w.heap.size, 4, none⟩ = some (.int .u32 i1) ∧ wr.drew.cell? ⟨w.heap.size, 5, none⟩ = some (.int .i64 a2) ∧ wr.drew.cell? ⟨w.heap.size, 6, none⟩ = some (.int .u32 i2) ∧ wr.drew.cell? ⟨w.heap.size, 7, none⟩ = some (.int .i64 a3) ∧ wr.drew.cell? ⟨w.heap.size, 8, none⟩ = some (.int .u32 i3) ∧ wr.drew.cell? ⟨w.heap.size, 9, none⟩ = some (.int .i64 a4) ∧ wr.drew.cell? ⟨w.heap.size, 10, none⟩ = some (.int .u32 i4) := by
                   show wr.cell? _ = _ ∧ wr.cell? _ = _ ∧ wr.cell? _ = _ ∧ wr.cell? _ = _ ∧ wr.cell? _ = _ ∧ wr.cell? _ = _ ∧ wr.cell? _ = _ ∧ wr.cell? _ = _ ∧ wr.cell? _ = _ ∧ wr.cell? _ = _ ∧ wr.cell? _ = _
                   unfold World.cell?; rw [Hsb.out]; exact ⟨rfl, rfl, rfl, rfl, rfl, rfl, rfl, rfl, rfl, rfl, rfl⟩
                 have HBe := Lib.hid (show Below wr.heap.size wr wr.drew from (Below.refl _ wr).drew)
                 have HU := Lib.hid (Hu.out.below HBe.out)
                 obtain ⟨S23, hSe⟩ : ∃ S : Array Bool → World → Prop, S = fun _ w' => Below wr.drew.heap.size wr.drew w' := ⟨_, rfl⟩
                 have hdrop : ∀ i : Nat, ∀ L w', S23 (L.setIfInBounds i true) w' → S23 L w' := by
                   intro i L w' h; rw [hSe] at h ⊢; exact h
                 have hS : ∀ L, S23 L wr.drew := by intro L; rw [hSe]; exact Below.refl _ _
                 have hSo : ∀ {L w'}, S23 L w' → Below wr.drew.heap.size wr.drew w' := by intro L w' h; rw [hSe] at h; exact h
                 have hSi : ∀ {w'}, Below wr.drew.heap.size wr.drew w' → ∀ L, S23 L w' := by intro w' h L; rw [hSe]; exact h
                 clear hSe
                 refine wp_region_LN S23 38 #[false, false, false, false, false, false, false, false, false, false, false, false, false, false, false, false, false, false, false, false, false, false, false, false, false, false, false, false, false, false, false, false, false, false, false, false, false, false] (by kernel_rfl) (by kernel_rfl) rfl ?_
                 obtain ⟨X, hX⟩ : ∃ X, X = wr.drew := ⟨_, rfl⟩
                 rw [← hX] at c0 y0c y1c y2c y3c v0 v1 v2 s0 s1 s2 s3 s4 s5 s6 s7 s8 s9 s10 hSo hSi hS HBe HU ⊢
                 clear hX
                 refine WA.take (i := 0) (v := .int .i64 (i : Nat)) rfl (by kernel_rfl) (by kernel_rfl) (by kernel_rfl) (fun _ _ _ h => h) (hdrop 0) (Or.inl ⟨by rfl, ?_⟩) (hS _) ?_
                 · rintro w' ⟨L, hL, hSw, hun⟩
                   go_simp
                 simp only [getElem_toArray, getElem_cons_zero, getElem_cons_succ, Act.put, setIfInBounds_toArray, set_cons_zero, set_cons_succ]
                 refine WA.take (i := 1) (v := .pointer (some ⟨w.heap.size + 1, 0, none⟩)) rfl (by kernel_rfl) (by kernel_rfl) (by kernel_rfl) (fun _ _ _ h => h) (hdrop 1) (Or.inl ⟨by rfl, ?_⟩) (hS _) ?_
                 · rintro w' ⟨L, hL, hSw, hun⟩
                   go_simp
                 simp only [getElem_toArray, getElem_cons_zero, getElem_cons_succ, Act.put, setIfInBounds_toArray, set_cons_zero, set_cons_succ]
                 refine WA.take (i := 2) (v := .int .i64 fr) rfl (by kernel_rfl) (by kernel_rfl) (by kernel_rfl) (fun _ _ _ h => h) (hdrop 2) (Or.inl ⟨by rfl, ?_⟩) (hS _) ?_
                 · rintro w' ⟨L, hL, hSw, hun⟩
                   have hbw := hSo hSw
                   have v0 := cell_later hbw v0
                   clear hbw
                   go_simp
                 simp only [getElem_toArray, getElem_cons_zero, getElem_cons_succ, Act.put, setIfInBounds_toArray, set_cons_zero, set_cons_succ]
                 refine WA.take (i := 3) (v := .bool false) rfl (by kernel_rfl) (by kernel_rfl) (by kernel_rfl) (fun _ _ _ h => h) (hdrop 3) (Or.inl ⟨by rfl, ?_⟩) (hS _) ?_
                 · rintro w' ⟨L, hL, hSw, hun⟩
                   go_simp
                 simp only [getElem_toArray, getElem_cons_zero, getElem_cons_succ, Act.put, setIfInBounds_toArray, set_cons_zero, set_cons_succ]
                 refine WA.take (i := 4) (v := .bool false) rfl (by kernel_rfl) (by kernel_rfl) (by kernel_rfl) (fun _ _ _ h => h) (hdrop 4) (Or.inl ⟨by rfl, ?_⟩) (hS _) ?_
                 · rintro w' ⟨L, hL, hSw, hun⟩
                   go_simp
                 simp only [getElem_toArray, getElem_cons_zero, getElem_cons_succ, Act.put, setIfInBounds_toArray, set_cons_zero, set_cons_succ]
                 refine WA.take (i := 5) (v := .int .i64 (i : Nat)) rfl (by kernel_rfl) (by kernel_rfl) (by kernel_rfl) (fun _ _ _ h => h) (hdrop 5) (Or.inl ⟨by rfl, ?_⟩) (hS _) ?_
                 · rintro w' ⟨L, hL, hSw, hun⟩
                   go_simp
                 simp only [getElem_toArray, getElem_cons_zero, getElem_cons_succ, Act.put, setIfInBounds_toArray, set_cons_zero, set_cons_succ]
                 refine WA.take (i := 6) (v := .pointer (some ⟨w.heap.size + 1, 1, none⟩)) rfl (by kernel_rfl) (by kernel_rfl) (by kernel_rfl) (fun _ _ _ h => h) (hdrop 6) (Or.inl ⟨by rfl, ?_⟩) (hS _) ?_
                 · rintro w' ⟨L, hL, hSw, hun⟩
                   go_simp
                 simp only [getElem_toArray, getElem_cons_zero, getElem_cons_succ, Act.put, setIfInBounds_toArray, set_cons_zero, set_cons_succ]
                 refine WA.take (i := 7) (v := .int .i64 tu) rfl (by kernel_rfl) (by kernel_rfl) (by kernel_rfl) (fun _ _ _ h => h) (hdrop 7) (Or.inl ⟨by rfl, ?_⟩) (hS _) ?_
                 · rintro w' ⟨L, hL, hSw, hun⟩
                   have hbw := hSo hSw
                   have v1 := cell_later hbw v1
                   clear hbw
                   go_simp
                 simp only [getElem_toArray, getElem_cons_zero, getElem_cons_succ, Act.put, setIfInBounds_toArray, set_cons_zero, set_cons_succ]
                 refine WA.take (i := 8) (v := .bool false) rfl (by kernel_rfl) (by kernel_rfl) (by kernel_rfl) (fun _ _ _ h => h) (hdrop 8) (Or.inl ⟨by rfl, ?_⟩) (hS _) ?_
                 · rintro w' ⟨L, hL, hSw, hun⟩
                   go_simp
                 simp only [getElem_toArray, getElem_cons_zero, getElem_cons_succ, Act.put, setIfInBounds_toArray, set_cons_zero, set_cons_succ]
                 refine WA.take (i := 9) (v := .bool false) rfl (by kernel_rfl) (by kernel_rfl) (by kernel_rfl) (fun _ _ _ h => h) (hdrop 9) (Or.inl ⟨by rfl, ?_⟩) (hS _) ?_
                 · rintro w' ⟨L, hL, hSw, hun⟩
                   go_simp
                 simp only [getElem_toArray, getElem_cons_zero, getElem_cons_succ, Act.put, setIfInBounds_toArray, set_cons_zero, set_cons_succ]
                 refine WA.take (i := 10) (v := .bool false) rfl (by kernel_rfl) (by kernel_rfl) (by kernel_rfl) (fun _ _ _ h => h) (hdrop 10) (Or.inl ⟨by rfl, ?_⟩) (hS _) ?_
                 · rintro w' ⟨L, hL, hSw, hun⟩
                   go_simp
                 simp only [getElem_toArray, getElem_cons_zero, getElem_cons_succ, Act.put, setIfInBounds_toArray, set_cons_zero, set_cons_succ]
                 refine WA.take (i := 11) (v := .pointer (some ⟨E.gb, 0, none⟩)) rfl (by kernel_rfl) (by kernel_rfl) (by kernel_rfl) (fun _ _ _ h => h) (hdrop 11) (Or.inl ⟨by rfl, ?_⟩) (hS _) ?_
                 · rintro w' ⟨L, hL, hSw, hun⟩
                   go_simp
                 simp only [getElem_toArray, getElem_cons_zero, getElem_cons_succ, Act.put, setIfInBounds_toArray, set_cons_zero, set_cons_succ]
                 refine WA.take (i := 12) (v := .pointer (some ⟨E.gb, 0, none⟩)) rfl (by kernel_rfl) (by kernel_rfl) (by kernel_rfl) (fun _ _ _ h => h) (hdrop 12) (Or.inl ⟨by rfl, ?_⟩) (hS _) ?_
                 · rintro w' ⟨L, hL, hSw, hun⟩
                   go_simp
                 simp only [getElem_toArray, getElem_cons_zero, getElem_cons_succ, Act.put, setIfInBounds_toArray, set_cons_zero, set_cons_succ]
                 refine WA.take (i := 13) (v := .pointer (some ⟨E.gb, 0, none⟩)) rfl (by kernel_rfl) (by kernel_rfl) (by kernel_rfl) (fun _ _ _ h => h) (hdrop 13) (Or.inl ⟨by rfl, ?_⟩) (hS _) ?_
                 · rintro w' ⟨L, hL, hSw, hun⟩
                   go_simp
                 simp only [getElem_toArray, getElem_cons_zero, getElem_cons_succ, Act.put, setIfInBounds_toArray, set_cons_zero, set_cons_succ]
                 refine WA.take (i := 14) (v := .slice (some ⟨rb, ro, none⟩) tl E.rcap) rfl (by kernel_rfl) (by kernel_rfl) (by kernel_rfl) (fun _ _ _ h => h) (hdrop 14) (Or.inl ⟨by rfl, ?_⟩) (hS _) ?_
                 · rintro w' ⟨L, hL, hSw, hun⟩
                   have hbw := hSo hSw
                   have c0 := cell_later hbw c0
                   clear hbw
                   go_simp
                 simp only [getElem_toArray, getElem_cons_zero, getElem_cons_succ, Act.put, setIfInBounds_toArray, set_cons_zero, set_cons_succ]
                 refine WA.take (i := 15) (v := .int .i64 (i : Nat)) rfl (by kernel_rfl) (by kernel_rfl) (by kernel_rfl) (fun _ _ _ h => h) (hdrop 15) (Or.inl ⟨by rfl, ?_⟩) (hS _) ?_
                 · rintro w' ⟨L, hL, hSw, hun⟩
                   go_simp
                 simp only [getElem_toArray, getElem_cons_zero, getElem_cons_succ, Act.put, setIfInBounds_toArray, set_cons_zero, set_cons_succ]
                 refine WA.take (i := 16) (v := .pointer (some ⟨rb, ro + i * 4, none⟩)) rfl (by kernel_rfl) (by kernel_rfl) (by kernel_rfl) (fun _ _ _ h => h) (hdrop 16) (Or.inl ⟨by rfl, ?_⟩) (hS _) ?_
                 · rintro w' ⟨L, hL, hSw, hun⟩
                   go_simp
                 simp only [getElem_toArray, getElem_cons_zero, getElem_cons_succ, Act.put, setIfInBounds_toArray, set_cons_zero, set_cons_succ]
                 refine WA.take (i := 17) (v := .pointer (some ⟨rb, ro + i * 4 + 3, none⟩)) rfl (by kernel_rfl) (by kernel_rfl) (by kernel_rfl) (fun _ _ _ h => h) (hdrop 17) (Or.inl ⟨by rfl, ?_⟩) (hS _) ?_
                 · rintro w' ⟨L, hL, hSw, hun⟩
                   go_simp
                 simp only [getElem_toArray, getElem_cons_zero, getElem_cons_succ, Act.put, setIfInBounds_toArray, set_cons_zero, set_cons_succ]
                 refine WA.take (i := 18) (v := .int .u8 yb) rfl (by kernel_rfl) (by kernel_rfl) (by kernel_rfl) (fun _ _ _ h => h) (hdrop 18) (Or.inl ⟨by rfl, ?_⟩) (hS _) ?_
                 · rintro w' ⟨L, hL, hSw, hun⟩
                   have hbw := hSo hSw
                   have y3c := cell_later hbw y3c
                   clear hbw
                   go_simp
                 simp only [getElem_toArray, getElem_cons_zero, getElem_cons_succ, Act.put, setIfInBounds_toArray, set_cons_zero, set_cons_succ]
                 refine WA.take (i := 19) (v := .pointer (some ⟨w.heap.size + 1, 2, none⟩)) rfl (by kernel_rfl) (by kernel_rfl) (by kernel_rfl) (fun _ _ _ h => h) (hdrop 19) (Or.inl ⟨by rfl, ?_⟩) (hS _) ?_
                 · rintro w' ⟨L, hL, hSw, hun⟩
                   go_simp
                 simp only [getElem_toArray, getElem_cons_zero, getElem_cons_succ, Act.put, setIfInBounds_toArray, set_cons_zero, set_cons_succ]
                 refine WA.take (i := 20) (v := .int .u8 vbt) rfl (by kernel_rfl) (by kernel_rfl) (by kernel_rfl) (fun _ _ _ h => h) (hdrop 20) (Or.inl ⟨by rfl, ?_⟩) (hS _) ?_
                 · rintro w' ⟨L, hL, hSw, hun⟩
                   have hbw := hSo hSw
                   have v2 := cell_later hbw v2
                   clear hbw
                   go_simp
                 simp only [getElem_toArray, getElem_cons_zero, getElem_cons_succ, Act.put, setIfInBounds_toArray, set_cons_zero, set_cons_succ]
                 refine WA.take (i := 21) (v := .int .u8 (bits .and .u8 yb vbt)) rfl (by kernel_rfl) (by kernel_rfl) (by kernel_rfl) (fun _ _ _ h => h) (hdrop 21) (Or.inl ⟨by rfl, ?_⟩) (hS _) ?_
                 · rintro w' ⟨L, hL, hSw, hun⟩
                   go_simp
                 simp only [getElem_toArray, getElem_cons_zero, getElem_cons_succ, Act.put, setIfInBounds_toArray, set_cons_zero, set_cons_succ]
                 refine WA.take (i := 22) (v := .bool true) rfl (by kernel_rfl) (by kernel_rfl) (by kernel_rfl) (fun _ _ _ h => h) (hdrop 22) (Or.inl ⟨by rfl, ?_⟩) (hS _) ?_
                 · rintro w' ⟨L, hL, hSw, hun⟩
                   go_simp
                 simp only [getElem_toArray, getElem_cons_zero, getElem_cons_succ, Act.put, setIfInBounds_toArray, set_cons_zero, set_cons_succ]
                 refine WA.take (i := 23) (v := .bool true) rfl (by kernel_rfl) (by kernel_rfl) (by kernel_rfl) (fun _ _ _ h => h) (hdrop 23) (Or.inl ⟨by rfl, ?_⟩) (hS _) ?_
                 · rintro w' ⟨L, hL, hSw, hun⟩
                   go_simp
                 simp only [getElem_toArray, getElem_cons_zero, getElem_cons_succ, Act.put, setIfInBounds_toArray, set_cons_zero, set_cons_succ]
                 refine WA.take (i := 24) (v := .bool true) rfl (by kernel_rfl) (by kernel_rfl) (by kernel_rfl) (fun _ _ _ h => h) (hdrop 24) (Or.inl ⟨by rfl, ?_⟩) (hS _) ?_
                 · rintro w' ⟨L, hL, hSw, hun⟩
                   go_simp
                 simp only [getElem_toArray, getElem_cons_zero, getElem_cons_succ, Act.put, setIfInBounds_toArray, set_cons_zero, set_cons_succ]
                 refine WA.take (i := 25) (v := undef) rfl (by kernel_rfl) (by kernel_rfl) (by kernel_rfl) (fun _ _ _ h => h) (hdrop 25) (Or.inr ⟨by rfl, rfl⟩) (hS _) ?_
                 simp only [getElem_toArray, getElem_cons_zero, getElem_cons_succ, Act.put, setIfInBounds_toArray, set_cons_zero, set_cons_succ]
                 refine WA.take (i := 26) (v := undef) rfl (by kernel_rfl) (by kernel_rfl) (by kernel_rfl) (fun _ _ _ h => h) (hdrop 26) (Or.inr ⟨by rfl, rfl⟩) (hS _) ?_
                 simp only [getElem_toArray, getElem_cons_zero, getElem_cons_succ, Act.put, setIfInBounds_toArray, set_cons_zero, set_cons_succ]
                 refine WA.take (i := 27) (v := undef) rfl (by kernel_rfl) (by kernel_rfl) (by kernel_rfl) (fun _ _ _ h => h) (hdrop 27) (Or.inr ⟨by rfl, rfl⟩) (hS _) ?_
                 simp only [getElem_toArray, getElem_cons_zero, getElem_cons_succ, Act.put, setIfInBounds_toArray, set_cons_zero, set_cons_succ]
                 refine WA.take (i := 28) (v := undef) rfl (by kernel_rfl) (by kernel_rfl) (by kernel_rfl) (fun _ _ _ h => h) (hdrop 28) (Or.inr ⟨by rfl, rfl⟩) (hS _) ?_
                 simp only [getElem_toArray, getElem_cons_zero, getElem_cons_succ, Act.put, setIfInBounds_toArray, set_cons_zero, set_cons_succ]
                 refine WA.take (i := 29) (v := undef) rfl (by kernel_rfl) (by kernel_rfl) (by kernel_rfl) (fun _ _ _ h => h) (hdrop 29) (Or.inr ⟨by rfl, rfl⟩) (hS _) ?_
                 simp only [getElem_toArray, getElem_cons_zero, getElem_cons_succ, Act.put, setIfInBounds_toArray, set_cons_zero, set_cons_succ]
                 refine WA.take (i := 30) (v := undef) rfl (by kernel_rfl) (by kernel_rfl) (by kernel_rfl) (fun _ _ _ h => h) (hdrop 30) (Or.inr ⟨by rfl, rfl⟩) (hS _) ?_
                 simp only [getElem_toArray, getElem_cons_zero, getElem_cons_succ, Act.put, setIfInBounds_toArray, set_cons_zero, set_cons_succ]
                 refine WA.take (i := 31) (v := undef) rfl (by kernel_rfl) (by kernel_rfl) (by kernel_rfl) (fun _ _ _ h => h) (hdrop 31) (Or.inr ⟨by rfl, rfl⟩) (hS _) ?_
                 simp only [getElem_toArray, getElem_cons_zero, getElem_cons_succ, Act.put, setIfInBounds_toArray, set_cons_zero, set_cons_succ]
                 refine WA.take (i := 32) (v := undef) rfl (by kernel_rfl) (by kernel_rfl) (by kernel_rfl) (fun _ _ _ h => h) (hdrop 32) (Or.inr ⟨by rfl, rfl⟩) (hS _) ?_
                 simp only [getElem_toArray, getElem_cons_zero, getElem_cons_succ, Act.put, setIfInBounds_toArray, set_cons_zero, set_cons_succ]
                 refine WA.take (i := 33) (v := undef) rfl (by kernel_rfl) (by kernel_rfl) (by kernel_rfl) (fun _ _ _ h => h) (hdrop 33) (Or.inr ⟨by rfl, rfl⟩) (hS _) ?_
                 simp only [getElem_toArray, getElem_cons_zero, getElem_cons_succ, Act.put, setIfInBounds_toArray, set_cons_zero, set_cons_succ]
                 refine WA.take (i := 34) (v := undef) rfl (by kernel_rfl) (by kernel_rfl) (by kernel_rfl) (fun _ _ _ h => h) (hdrop 34) (Or.inr ⟨by rfl, rfl⟩) (hS _) ?_
                 simp only [getElem_toArray, getElem_cons_zero, getElem_cons_succ, Act.put, setIfInBounds_toArray, set_cons_zero, set_cons_succ]
                 refine WA.skip (i := 35) (by kernel_rfl) rfl (by rfl) (hS _) ?_
                 simp only [getElem_toArray, getElem_cons_zero, getElem_cons_succ, Act.put, setIfInBounds_toArray, set_cons_zero, set_cons_succ]
                 refine WA.take (i := 36) (v := undef) rfl (by kernel_rfl) (by kernel_rfl) (by kernel_rfl) (fun _ _ _ h => h) (hdrop 36) (Or.inr ⟨by rfl, rfl⟩) (hS _) ?_
                 simp only [getElem_toArray, getElem_cons_zero, getElem_cons_succ, Act.put, setIfInBounds_toArray, set_cons_zero, set_cons_succ]
                 refine WA.take (i := 37) (v := .bool true) rfl (by kernel_rfl) (by kernel_rfl) (by kernel_rfl) (fun _ _ _ h => h) (hdrop 37) (Or.inl ⟨by rfl, ?_⟩) (hS _) ?_
                 · rintro w' ⟨L, hL, hSw, hun⟩
                   go_simp
                 simp only [getElem_toArray, getElem_cons_zero, getElem_cons_succ, Act.put, setIfInBounds_toArray, set_cons_zero, set_cons_succ]
                 refine WA.done (by kernel_rfl) ?_ _
                 refine Nrm.normal ?_
                 clear hSo hSi hS hdrop c0 y0c y1c y2c y3c v0 v1 v2 s0 s1 s2 s3 s4 s5 s6 s7 s8 s9 s10
                 clear S23
                 go_wp2_with fail
                 go_meet
                 exact ⟨by rw [Hgood.out, h1, h2, h3]; simp, HBe.out⟩
             · skip
               have c0 : wr.drew.cell? ⟨E.gb, 0, none⟩ = some (.slice (some ⟨rb, ro, none⟩) tl E.rcap) := cw0
               obtain ⟨y0c, y1c, y2c, y3c⟩ : wr.drew.cell? ⟨rb, ro + i * 4, none⟩ = some (.int .u32 y0) ∧ wr.drew.cell? ⟨rb, ro + i * 4 + 1, none⟩ = some (.int .u32 y1) ∧ wr.drew.cell? ⟨rb, ro + i * 4 + 2, none⟩ = some (.int .u32 y2) ∧ wr.drew.cell? ⟨rb, ro + i * 4 + 3, none⟩ = some (.int .u8 yb) := ⟨yw0, yw1, yw2, yw3⟩
               obtain ⟨v0, v1, v2⟩ : wr.drew.cell? ⟨w.heap.size + 1, 0, none⟩ = some (.int .i64 fr) ∧ wr.drew.cell? ⟨w.heap.size + 1, 1, none⟩ = some (.int .i64 tu) ∧ wr.drew.cell? ⟨w.heap.size + 1, 2, none⟩ = some (.int .u8 vbt) := by
                 show wr.cell? _ = _ ∧ wr.cell? _ = _ ∧ wr.cell? _ = _
                 unfold World.cell?; rw [Hvb.out]; exact ⟨rfl, rfl, rfl⟩
               obtain ⟨s0, s1, s2, s3, s4, s5, s6, s7, s8, s9, s10⟩ : wr.drew.cell? ⟨w.heap.size, 0, none⟩ = some (.int .i64 1) ∧ wr.drew.cell? ⟨w.heap.size, 1, none⟩ = some (.int .i64 a0) ∧ wr.drew.cell? ⟨w.heap.size, 2, none⟩ = some (.int .u32 i0) ∧ wr.drew.cell? ⟨w.heap.size, 3, none⟩ = some (.int .i64 a1) ∧ wr.drew.cell? ⟨w.heap.size, 4, none⟩ = some (.int .u32 i1) ∧ wr.drew.cell? ⟨w.heap.size, 5, none⟩ = some (.int .i64 a2) ∧ wr.drew.cell? ⟨w.heap.size, 6, none⟩ = some (.int .u32 i2) ∧ wr.drew.cell? ⟨w.heap.size, 7, none⟩ = some (.int .i64 a3) ∧ wr.drew.cell? ⟨w.heap.size, 8, none⟩ = some (.int .u32 i3) ∧ wr.drew.cell? ⟨w.heap.size, 9, none⟩ = some (.int .i64 a4) ∧ wr.drew.cell? ⟨w.heap.size, 10, none⟩ = some (.int .u32 i4) := by
                 show wr.cell? _ = _ ∧ wr.cell? _ = _ ∧ wr.cell? _ = _ ∧ wr.cell? _ = _ ∧ wr.cell? _ = _ ∧ wr.cell? _ = _ ∧ wr.cell? _ = _ ∧ wr.cell? _ = _ ∧ wr.cell? _ = _ ∧ wr.cell? _ = _ ∧ wr.cell? _ = _
                 unfold World.cell?; rw [Hsb.out]; exact ⟨rfl, rfl, rfl, rfl, rfl, rfl, rfl, rfl, rfl, rfl, rfl⟩
               have HBe := Lib.hid (show Below wr.heap.size wr wr.drew from (Below.refl _ wr).drew)
               have HU := Lib.hid (Hu.out.below HBe.out)
               obtain ⟨S23, hSe⟩ : ∃ S : Array Bool → World → Prop, S = fun _ w' => Below wr.drew.heap.size wr.drew w' := ⟨_, rfl⟩
               have hdrop : ∀ i : Nat, ∀ L w', S23 (L.setIfInBounds i true) w' → S23 L w' := by
                 intro i L w' h; rw [hSe] at h ⊢; exact h
               have hS : ∀ L, S23 L wr.drew := by intro L; rw [hSe]; exact Below.refl _ _
               have hSo : ∀ {L w'}, S23 L w' → Below wr.drew.heap.size wr.drew w' := by intro L w' h; rw [hSe] at h; exact h
               have hSi : ∀ {w'}, Below wr.drew.heap.size wr.drew w' → ∀ L, S23 L w' := by intro w' h L; rw [hSe]; exact h
               clear hSe
               refine wp_region_LN S23 38 #[false, false, false, false, false, false, false, false, false, false, false, false, false, false, false, false, false, false, false, false, false, false, false, false, false, false, false, false, false, false, false, false, false, false, false, false, false, false] (by kernel_rfl) (by kernel_rfl) rfl ?_
               obtain ⟨X, hX⟩ : ∃ X, X = wr.drew := ⟨_, rfl⟩
               rw [← hX] at c0 y0c y1c y2c y3c v0 v1 v2 s0 s1 s2 s3 s4 s5 s6 s7 s8 s9 s10 hSo hSi hS HBe HU ⊢
               clear hX
               refine WA.take (i := 0) (v := .int .i64 (i : Nat)) rfl (by kernel_rfl) (by kernel_rfl) (by kernel_rfl) (fun _ _ _ h => h) (hdrop 0) (Or.inl ⟨by rfl, ?_⟩) (hS _) ?_
               · rintro w' ⟨L, hL, hSw, hun⟩
                 go_simp
               simp only [getElem_toArray, getElem_cons_zero, getElem_cons_succ, Act.put, setIfInBounds_toArray, set_cons_zero, set_cons_succ]
               refine WA.take (i := 1) (v := .pointer (some ⟨w.heap.size + 1, 0, none⟩)) rfl (by kernel_rfl) (by kernel_rfl) (by kernel_rfl) (fun _ _ _ h => h) (hdrop 1) (Or.inl ⟨by rfl, ?_⟩) (hS _) ?_
               · rintro w' ⟨L, hL, hSw, hun⟩
                 go_simp
               simp only [getElem_toArray, getElem_cons_zero, getElem_cons_succ, Act.put, setIfInBounds_toArray, set_cons_zero, set_cons_succ]
               refine WA.take (i := 2) (v := .int .i64 fr) rfl (by kernel_rfl) (by kernel_rfl) (by kernel_rfl) (fun _ _ _ h => h) (hdrop 2) (Or.inl ⟨by rfl, ?_⟩) (hS _) ?_
               · rintro w' ⟨L, hL, hSw, hun⟩
                 have hbw := hSo hSw
                 have v0 := cell_later hbw v0
                 clear hbw
                 go_simp
               simp only [getElem_toArray, getElem_cons_zero, getElem_cons_succ, Act.put, setIfInBounds_toArray, set_cons_zero, set_cons_succ]
               refine WA.take (i := 3) (v := .bool false) rfl (by kernel_rfl) (by kernel_rfl) (by kernel_rfl) (fun _ _ _ h => h) (hdrop 3) (Or.inl ⟨by rfl, ?_⟩) (hS _) ?_
               · rintro w' ⟨L, hL, hSw, hun⟩
                 go_simp
               simp only [getElem_toArray, getElem_cons_zero, getElem_cons_succ, Act.put, setIfInBounds_toArray, set_cons_zero, set_cons_succ]
               refine WA.take (i := 4) (v := .bool false) rfl (by kernel_rfl) (by kernel_rfl) (by kernel_rfl) (fun _ _ _ h => h) (hdrop 4) (Or.inl ⟨by rfl, ?_⟩) (hS _) ?_
               · rintro w' ⟨L, hL, hSw, hun⟩
                 go_simp
               simp only [getElem_toArray, getElem_cons_zero, getElem_cons_succ, Act.put, setIfInBounds_toArray, set_cons_zero, set_cons_succ]
               refine WA.take (i := 5) (v := .int .i64 (i : Nat)) rfl (by kernel_rfl) (by kernel_rfl) (by kernel_rfl) (fun _ _ _ h => h) (hdrop 5) (Or.inl ⟨by rfl, ?_⟩) (hS _) ?_
               · rintro w' ⟨L, hL, hSw, hun⟩
                 go_simp
               simp only [getElem_toArray, getElem_cons_zero, getElem_cons_succ, Act.put, setIfInBounds_toArray, set_cons_zero, set_cons_succ]
               refine WA.take (i := 6) (v := .pointer (some ⟨w.heap.size + 1, 1, none⟩)) rfl (by kernel_rfl) (by kernel_rfl) (by kernel_rfl) (fun _ _ _ h => h) (hdrop 6) (Or.inl ⟨by rfl, ?_⟩) (hS _) ?_
               · rintro w' ⟨L, hL, hSw, hun⟩
                 go_simp
               simp only [getElem_toArray, getElem_cons_zero, getElem_cons_succ, Act.put, setIfInBounds_toArray, set_cons_zero, set_cons_succ]
               refine WA.take (i := 7) (v := .int .i64 tu) rfl (by kernel_rfl) (by kernel_rfl) (by kernel_rfl) (fun _ _ _ h => h) (hdrop 7) (Or.inl ⟨by rfl, ?_⟩) (hS _) ?_
               · rintro w' ⟨L, hL, hSw, hun⟩
                 have hbw := hSo hSw
                 have v1 := cell_later hbw v1
                 clear hbw
                 go_simp
               simp only [getElem_toArray, getElem_cons_zero, getElem_cons_succ, Act.put, setIfInBounds_toArray, set_cons_zero, set_cons_succ]
               refine WA.take (i := 8) (v := .bool true) rfl (by kernel_rfl) (by kernel_rfl) (by kernel_rfl) (fun _ _ _ h => h) (hdrop 8) (Or.inl ⟨by rfl, ?_⟩) (hS _) ?_
               · rintro w' ⟨L, hL, hSw, hun⟩
                 go_simp
               simp only [getElem_toArray, getElem_cons_zero, getElem_cons_succ, Act.put, setIfInBounds_toArray, set_cons_zero, set_cons_succ]
               refine WA.take (i := 9) (v := .bool true) rfl (by kernel_rfl) (by kernel_rfl) (by kernel_rfl) (fun _ _ _ h => h) (hdrop 9) (Or.inl ⟨by rfl, ?_⟩) (hS _) ?_
               · rintro w' ⟨L, hL, hSw, hun⟩
                 go_simp
               simp only [getElem_toArray, getElem_cons_zero, getElem_cons_succ, Act.put, setIfInBounds_toArray, set_cons_zero, set_cons_succ]
               refine WA.take (i := 10) (v := .bool true) rfl (by kernel_rfl) (by kernel_rfl) (by kernel_rfl) (fun _ _ _ h => h) (hdrop 10) (Or.inl ⟨by rfl, ?_⟩) (hS _) ?_
               · rintro w' ⟨L, hL, hSw, hun⟩
                 go_simp
               simp only [getElem_toArray, getElem_cons_zero, getElem_cons_succ, Act.put, setIfInBounds_toArray, set_cons_zero, set_cons_succ]
               refine WA.take (i := 11) (v := undef) rfl (by kernel_rfl) (by kernel_rfl) (by kernel_rfl) (fun _ _ _ h => h) (hdrop 11) (Or.inr ⟨by rfl, rfl⟩) (hS _) ?_
               simp only [getElem_toArray, getElem_cons_zero, getElem_cons_succ, Act.put, setIfInBounds_toArray, set_cons_zero, set_cons_succ]
               refine WA.take (i := 12) (v := undef) rfl (by kernel_rfl) (by kernel_rfl) (by kernel_rfl) (fun _ _ _ h => h) (hdrop 12) (Or.inr ⟨by rfl, rfl⟩) (hS _) ?_
               simp only [getElem_toArray, getElem_cons_zero, getElem_cons_succ, Act.put, setIfInBounds_toArray, set_cons_zero, set_cons_succ]
               refine WA.take (i := 13) (v := undef) rfl (by kernel_rfl) (by kernel_rfl) (by kernel_rfl) (fun _ _ _ h => h) (hdrop 13) (Or.inr ⟨by rfl, rfl⟩) (hS _) ?_
               simp only [getElem_toArray, getElem_cons_zero, getElem_cons_succ, Act.put, setIfInBounds_toArray, set_cons_zero, set_cons_succ]
               refine WA.take (i := 14) (v := undef) rfl (by kernel_rfl) (by kernel_rfl) (by kernel_rfl) (fun _ _ _ h => h) (hdrop 14) (Or.inr ⟨by rfl, rfl⟩) (hS _) ?_
               simp only [getElem_toArray, getElem_cons_zero, getElem_cons_succ, Act.put, setIfInBounds_toArray, set_cons_zero, set_cons_succ]
               refine WA.take (i := 15) (v := undef) rfl (by kernel_rfl) (by kernel_rfl) (by kernel_rfl) (fun _ _ _ h => h) (hdrop 15) (Or.inr ⟨by rfl, rfl⟩) (hS _) ?_
               simp only [getElem_toArray, getElem_cons_zero, getElem_cons_succ, Act.put, setIfInBounds_toArray, set_cons_zero, set_cons_succ]
               refine WA.take (i := 16) (v := undef) rfl (by kernel_rfl) (by kernel_rfl) (by kernel_rfl) (fun _ _ _ h => h) (hdrop 16) (Or.inr ⟨by rfl, rfl⟩) (hS _) ?_
               simp only [getElem_toArray, getElem_cons_zero, getElem_cons_succ, Act.put, setIfInBounds_toArray, set_cons_zero, set_cons_succ]
               refine WA.take (i := 17) (v := undef) rfl (by kernel_rfl) (by kernel_rfl) (by kernel_rfl) (fun _ _ _ h => h) (hdrop 17) (Or.inr ⟨by rfl, rfl⟩) (hS _) ?_
               simp only [getElem_toArray, getElem_cons_zero, getElem_cons_succ, Act.put, setIfInBounds_toArray, set_cons_zero, set_cons_succ]
               refine WA.take (i := 18) (v := undef) rfl (by kernel_rfl) (by kernel_rfl) (by kernel_rfl) (fun _ _ _ h => h) (hdrop 18) (Or.inr ⟨by rfl, rfl⟩) (hS _) ?_
               simp only [getElem_toArray, getElem_cons_zero, getElem_cons_succ, Act.put, setIfInBounds_toArray, set_cons_zero, set_cons_succ]
               refine WA.take (i := 19) (v := undef) rfl (by kernel_rfl) (by kernel_rfl) (by kernel_rfl) (fun _ _ _ h => h) (hdrop 19) (Or.inr ⟨by rfl, rfl⟩) (hS _) ?_
               simp only [getElem_toArray, getElem_cons_zero, getElem_cons_succ, Act.put, setIfInBounds_toArray, set_cons_zero, set_cons_succ]
               refine WA.take (i := 20) (v := undef) rfl (by kernel_rfl) (by kernel_rfl) (by kernel_rfl) (fun _ _ _ h => h) (hdrop 20) (Or.inr ⟨by rfl, rfl⟩) (hS _) ?_
               simp only [getElem_toArray, getElem_cons_zero, getElem_cons_succ, Act.put, setIfInBounds_toArray, set_cons_zero, set_cons_succ]
               refine WA.take (i := 21) (v := undef) rfl (by kernel_rfl) (by kernel_rfl) (by kernel_rfl) (fun _ _ _ h => h) (hdrop 21) (Or.inr ⟨by rfl, rfl⟩) (hS _) ?_
               simp only [getElem_toArray, getElem_cons_zero, getElem_cons_succ, Act.put, setIfInBounds_toArray, set_cons_zero, set_cons_succ]
               refine WA.take (i := 22) (v := undef) rfl (by kernel_rfl) (by kernel_rfl) (by kernel_rfl) (fun _ _ _ h => h) (hdrop 22) (Or.inr ⟨by rfl, rfl⟩) (hS _) ?_
               simp only [getElem_toArray, getElem_cons_zero, getElem_cons_succ, Act.put, setIfInBounds_toArray, set_cons_zero, set_cons_succ]
               refine WA.take (i := 23) (v := .bool true) rfl (by kernel_rfl) (by kernel_rfl) (by kernel_rfl) (fun _ _ _ h => h) (hdrop 23) (Or.inl ⟨by rfl, ?_⟩) (hS _) ?_
               · rintro w' ⟨L, hL, hSw, hun⟩
                 go_simp
               simp only [getElem_toArray, getElem_cons_zero, getElem_cons_succ, Act.put, setIfInBounds_toArray, set_cons_zero, set_cons_succ]
               refine WA.take (i := 24) (v := .bool true) rfl (by kernel_rfl) (by kernel_rfl) (by kernel_rfl) (fun _ _ _ h => h) (hdrop 24) (Or.inl ⟨by rfl, ?_⟩) (hS _) ?_
               · rintro w' ⟨L, hL, hSw, hun⟩
                 go_simp
               simp only [getElem_toArray, getElem_cons_zero, getElem_cons_succ, Act.put, setIfInBounds_toArray, set_cons_zero, set_cons_succ]
               refine WA.take (i := 25) (v := undef) rfl (by kernel_rfl) (by kernel_rfl) (by kernel_rfl) (fun _ _ _ h => h) (hdrop 25) (Or.inr ⟨by rfl, rfl⟩) (hS _) ?_
               simp only [getElem_toArray, getElem_cons_zero, getElem_cons_succ, Act.put, setIfInBounds_toArray, set_cons_zero, set_cons_succ]
               refine WA.take (i := 26) (v := undef) rfl (by kernel_rfl) (by kernel_rfl) (by kernel_rfl) (fun _ _ _ h => h) (hdrop 26) (Or.inr ⟨by rfl, rfl⟩) (hS _) ?_
               simp only [getElem_toArray, getElem_cons_zero, getElem_cons_succ, Act.put, setIfInBounds_toArray, set_cons_zero, set_cons_succ]
               refine WA.take (i := 27) (v := undef) rfl (by kernel_rfl) (by kernel_rfl) (by kernel_rfl) (fun _ _ _ h => h) (hdrop 27) (Or.inr ⟨by rfl, rfl⟩) (hS _) ?_
               simp only [getElem_toArray, getElem_cons_zero, getElem_cons_succ, Act.put, setIfInBounds_toArray, set_cons_zero, set_cons_succ]
               refine WA.take (i := 28) (v := undef) rfl (by kernel_rfl) (by kernel_rfl) (by kernel_rfl) (fun _ _ _ h => h) (hdrop 28) (Or.inr ⟨by rfl, rfl⟩) (hS _) ?_
               simp only [getElem_toArray, getElem_cons_zero, getElem_cons_succ, Act.put, setIfInBounds_toArray, set_cons_zero, set_cons_succ]
               refine WA.take (i := 29) (v := undef) rfl (by kernel_rfl) (by kernel_rfl) (by kernel_rfl) (fun _ _ _ h => h) (hdrop 29) (Or.inr ⟨by rfl, rfl⟩) (hS _) ?_
               simp only [getElem_toArray, getElem_cons_zero, getElem_cons_succ, Act.put, setIfInBounds_toArray, set_cons_zero, set_cons_succ]
               refine WA.take (i := 30) (v := undef) rfl (by kernel_rfl) (by kernel_rfl) (by kernel_rfl) (fun _ _ _ h => h) (hdrop 30) (Or.inr ⟨by rfl, rfl⟩) (hS _) ?_
               simp only [getElem_toArray, getElem_cons_zero, getElem_cons_succ, Act.put, setIfInBounds_toArray, set_cons_zero, set_cons_succ]
               refine WA.take (i := 31) (v := undef) rfl (by kernel_rfl) (by kernel_rfl) (by kernel_rfl) (fun _ _ _ h => h) (hdrop 31) (Or.inr ⟨by rfl, rfl⟩) (hS _) ?_
               simp only [getElem_toArray, getElem_cons_zero, getElem_cons_succ, Act.put, setIfInBounds_toArray, set_cons_zero, set_cons_succ]
               refine WA.take (i := 32) (v := undef) rfl (by kernel_rfl) (by kernel_rfl) (by kernel_rfl) (fun _ _ _ h => h) (hdrop 32) (Or.inr ⟨by rfl, rfl⟩) (hS _) ?_
               simp only [getElem_toArray, getElem_cons_zero, getElem_cons_succ, Act.put, setIfInBounds_toArray, set_cons_zero, set_cons_succ]
               refine WA.take (i := 33) (v := undef) rfl (by kernel_rfl) (by kernel_rfl) (by kernel_rfl) (fun _ _ _ h => h) (hdrop 33) (Or.inr ⟨by rfl, rfl⟩) (hS _) ?_
               simp only [getElem_toArray, getElem_cons_zero, getElem_cons_succ, Act.put, setIfInBounds_toArray, set_cons_zero, set_cons_succ]
               refine WA.take (i := 34) (v := undef) rfl (by kernel_rfl) (by kernel_rfl) (by kernel_rfl) (fun _ _ _ h => h) (hdrop 34) (Or.inr ⟨by rfl, rfl⟩) (hS _) ?_
               simp only [getElem_toArray, getElem_cons_zero, getElem_cons_succ, Act.put, setIfInBounds_toArray, set_cons_zero, set_cons_succ]
               refine WA.skip (i := 35) (by kernel_rfl) rfl (by rfl) (hS _) ?_
               simp only [getElem_toArray, getElem_cons_zero, getElem_cons_succ, Act.put, setIfInBounds_toArray, set_cons_zero, set_cons_succ]
               refine WA.take (i := 36) (v := undef) rfl (by kernel_rfl) (by kernel_rfl) (by kernel_rfl) (fun _ _ _ h => h) (hdrop 36) (Or.inr ⟨by rfl, rfl⟩) (hS _) ?_
               simp only [getElem_toArray, getElem_cons_zero, getElem_cons_succ, Act.put, setIfInBounds_toArray, set_cons_zero, set_cons_succ]
               refine WA.take (i := 37) (v := .bool true) rfl (by kernel_rfl) (by kernel_rfl) (by kernel_rfl) (fun _ _ _ h => h) (hdrop 37) (Or.inl ⟨by rfl, ?_⟩) (hS _) ?_
               · rintro w' ⟨L, hL, hSw, hun⟩
                 go_simp
               simp only [getElem_toArray, getElem_cons_zero, getElem_cons_succ, Act.put, setIfInBounds_toArray, set_cons_zero, set_cons_succ]
               refine WA.done (by kernel_rfl) ?_ _
               refine Nrm.normal ?_
               clear hSo hSi hS hdrop c0 y0c y1c y2c y3c v0 v1 v2 s0 s1 s2 s3 s4 s5 s6 s7 s8 s9 s10
               clear S23
               go_wp2_with fail
               go_meet
               exact ⟨by rw [Hgood.out, h1, h2]; simp, HBe.out⟩
           · skip
             have c0 : wr.drew.cell? ⟨E.gb, 0, none⟩ = some (.slice (some ⟨rb, ro, none⟩) tl E.rcap) := cw0
             obtain ⟨y0c, y1c, y2c, y3c⟩ : wr.drew.cell? ⟨rb, ro + i * 4, none⟩ = some (.int .u32 y0) ∧ wr.drew.cell? ⟨rb, ro + i * 4 + 1, none⟩ = some (.int .u32 y1) ∧ wr.drew.cell? ⟨rb, ro + i * 4 + 2, none⟩ = some (.int .u32 y2) ∧ wr.drew.cell? ⟨rb, ro + i * 4 + 3, none⟩ = some (.int .u8 yb) := ⟨yw0, yw1, yw2, yw3⟩
             obtain ⟨v0, v1, v2⟩ : wr.drew.cell? ⟨w.heap.size + 1, 0, none⟩ = some (.int .i64 fr) ∧ wr.drew.cell? ⟨w.heap.size + 1, 1, none⟩ = some (.int .i64 tu) ∧ wr.drew.cell? ⟨w.heap.size + 1, 2, none⟩ = some (.int .u8 vbt) := by
               show wr.cell? _ = _ ∧ wr.cell? _ = _ ∧ wr.cell? _ = _
               unfold World.cell?; rw [Hvb.out]; exact ⟨rfl, rfl, rfl⟩
             obtain ⟨s0, s1, s2, s3, s4, s5, s6, s7, s8, s9, s10⟩ : wr.drew.cell? ⟨w.heap.size, 0, none⟩ = some (.int .i64 1) ∧ wr.drew.cell? ⟨w.heap.size, 1, none⟩ = some (.int .i64 a0) ∧ wr.drew.cell? ⟨w.heap.size, 2, none⟩ = some (.int .u32 i0) ∧ wr.drew.cell? ⟨w.heap.size, 3, none⟩ = some (.int .i64 a1) ∧ wr.drew.cell? ⟨w.heap.size, 4, none⟩ = some (.int .u32 i1) ∧ wr.drew.cell? ⟨w.heap.size, 5, none⟩ = some (.int .i64 a2) ∧ wr.drew.cell? ⟨w.heap.size, 6, none⟩ = some (.int .u32 i2) ∧ wr.drew.cell? ⟨w.heap.size, 7, none⟩ = some (.int .i64 a3) ∧ wr.drew.cell? ⟨w.heap.size, 8, none⟩ = some (.int .u32 i3) ∧ wr.drew.cell? ⟨w.heap.size, 9, none⟩ = some (.int .i64 a4) ∧ wr.drew.cell? ⟨w.heap.size, 10, none⟩ = some (.int .u32 i4) := by
               show wr.cell? _ = _ ∧ wr.cell? _ = _ ∧ wr.cell? _ = _ ∧ wr.cell? _ = _ ∧ wr.cell? _ = _ ∧ wr.cell? _ = _ ∧ wr.cell? _ = _ ∧ wr.cell? _ = _ ∧ wr.cell? _ = _ ∧ wr.cell? _ = _ ∧ wr.cell? _ = _
               unfold World.cell?; rw [Hsb.out]; exact ⟨rfl, rfl, rfl, rfl, rfl, rfl, rfl, rfl, rfl, rfl, rfl⟩
             have HBe := Lib.hid (show Below wr.heap.size wr wr.drew from (Below.refl _ wr).drew)
             have HU := Lib.hid (Hu.out.below HBe.out)
             obtain ⟨S23, hSe⟩ : ∃ S : Array Bool → World → Prop, S = fun _ w' => Below wr.drew.heap.size wr.drew w' := ⟨_, rfl⟩
             have hdrop : ∀ i : Nat, ∀ L w', S23 (L.setIfInBounds i true) w' → S23 L w' := by
               intro i L w' h; rw [hSe] at h ⊢; exact h
             have hS : ∀ L, S23 L wr.drew := by intro L; rw [hSe]; exact Below.refl _ _
             have hSo : ∀ {L w'}, S23 L w' → Below wr.drew.heap.size wr.drew w' := by intro L w' h; rw [hSe] at h; exact h
             have hSi : ∀ {w'}, Below wr.drew.heap.size wr.drew w' → ∀ L, S23 L w' := by intro w' h L; rw [hSe]; exact h
             clear hSe
             refine wp_region_LN S23 38 #[false, false, false, false, false, false, false, false, false, false, false, false, false, false, false, false, false, false, false, false, false, false, false, false, false, false, false, false, false, false, false, false, false, false, false, false, false, false] (by kernel_rfl) (by kernel_rfl) rfl ?_
             obtain ⟨X, hX⟩ : ∃ X, X = wr.drew := ⟨_, rfl⟩
             rw [← hX] at c0 y0c y1c y2c y3c v0 v1 v2 s0 s1 s2 s3 s4 s5 s6 s7 s8 s9 s10 hSo hSi hS HBe HU ⊢
             clear hX
             refine WA.take (i := 0) (v := .int .i64 (i : Nat)) rfl (by kernel_rfl) (by kernel_rfl) (by kernel_rfl) (fun _ _ _ h => h) (hdrop 0) (Or.inl ⟨by rfl, ?_⟩) (hS _) ?_
             · rintro w' ⟨L, hL, hSw, hun⟩
               go_simp
             simp only [getElem_toArray, getElem_cons_zero, getElem_cons_succ, Act.put, setIfInBounds_toArray, set_cons_zero, set_cons_succ]
             refine WA.take (i := 1) (v := .pointer (some ⟨w.heap.size + 1, 0, none⟩)) rfl (by kernel_rfl) (by kernel_rfl) (by kernel_rfl) (fun _ _ _ h => h) (hdrop 1) (Or.inl ⟨by rfl, ?_⟩) (hS _) ?_
             · rintro w' ⟨L, hL, hSw, hun⟩
               go_simp
             simp only [getElem_toArray, getElem_cons_zero, getElem_cons_succ, Act.put, setIfInBounds_toArray, set_cons_zero, set_cons_succ]
             refine WA.take (i := 2) (v := .int .i64 fr) rfl (by kernel_rfl) (by kernel_rfl) (by kernel_rfl) (fun _ _ _ h => h) (hdrop 2) (Or.inl ⟨by rfl, ?_⟩) (hS _) ?_
             · rintro w' ⟨L, hL, hSw, hun⟩
               have hbw := hSo hSw
               have v0 := cell_later hbw v0
               clear hbw
               go_simp
             simp only [getElem_toArray, getElem_cons_zero, getElem_cons_succ, Act.put, setIfInBounds_toArray, set_cons_zero, set_cons_succ]
             refine WA.take (i := 3) (v := .bool true) rfl (by kernel_rfl) (by kernel_rfl) (by kernel_rfl) (fun _ _ _ h => h) (hdrop 3) (Or.inl ⟨by rfl, ?_⟩) (hS _) ?_
             · rintro w' ⟨L, hL, hSw, hun⟩
               go_simp
             simp only [getElem_toArray, getElem_cons_zero, getElem_cons_succ, Act.put, setIfInBounds_toArray, set_cons_zero, set_cons_succ]
             refine WA.take (i := 4) (v := .bool true) rfl (by kernel_rfl) (by kernel_rfl) (by kernel_rfl) (fun _ _ _ h => h) (hdrop 4) (Or.inl ⟨by rfl, ?_⟩) (hS _) ?_
             · rintro w' ⟨L, hL, hSw, hun⟩
               go_simp
             simp only [getElem_toArray, getElem_cons_zero, getElem_cons_succ, Act.put, setIfInBounds_toArray, set_cons_zero, set_cons_succ]
             refine WA.take (i := 5) (v := undef) rfl (by kernel_rfl) (by kernel_rfl) (by kernel_rfl) (fun _ _ _ h => h) (hdrop 5) (Or.inr ⟨by rfl, rfl⟩) (hS _) ?_
             simp only [getElem_toArray, getElem_cons_zero, getElem_cons_succ, Act.put, setIfInBounds_toArray, set_cons_zero, set_cons_succ]
             refine WA.take (i := 6) (v := undef) rfl (by kernel_rfl) (by kernel_rfl) (by kernel_rfl) (fun _ _ _ h => h) (hdrop 6) (Or.inr ⟨by rfl, rfl⟩) (hS _) ?_
             simp only [getElem_toArray, getElem_cons_zero, getElem_cons_succ, Act.put, setIfInBounds_toArray, set_cons_zero, set_cons_succ]
             refine WA.take (i := 7) (v := undef) rfl (by kernel_rfl) (by kernel_rfl) (by kernel_rfl) (fun _ _ _ h => h) (hdrop 7) (Or.inr ⟨by rfl, rfl⟩) (hS _) ?_
             simp only [getElem_toArray, getElem_cons_zero, getElem_cons_succ, Act.put, setIfInBounds_toArray, set_cons_zero, set_cons_succ]
             refine WA.take (i := 8) (v := undef) rfl (by kernel_rfl) (by kernel_rfl) (by kernel_rfl) (fun _ _ _ h => h) (hdrop 8) (Or.inr ⟨by rfl, rfl⟩) (hS _) ?_
             simp only [getElem_toArray, getElem_cons_zero, getElem_cons_succ, Act.put, setIfInBounds_toArray, set_cons_zero, set_cons_succ]
             refine WA.take (i := 9) (v := .bool true) rfl (by kernel_rfl) (by kernel_rfl) (by kernel_rfl) (fun _ _ _ h => h) (hdrop 9) (Or.inl ⟨by rfl, ?_⟩) (hS _) ?_
             · rintro w' ⟨L, hL, hSw, hun⟩
               go_simp
             simp only [getElem_toArray, getElem_cons_zero, getElem_cons_succ, Act.put, setIfInBounds_toArray, set_cons_zero, set_cons_succ]
             refine WA.take (i := 10) (v := .bool true) rfl (by kernel_rfl) (by kernel_rfl) (by kernel_rfl) (fun _ _ _ h => h) (hdrop 10) (Or.inl ⟨by rfl, ?_⟩) (hS _) ?_
             · rintro w' ⟨L, hL, hSw, hun⟩
               go_simp
             simp only [getElem_toArray, getElem_cons_zero, getElem_cons_succ, Act.put, setIfInBounds_toArray, set_cons_zero, set_cons_succ]
             refine WA.take (i := 11) (v := undef) rfl (by kernel_rfl) (by kernel_rfl) (by kernel_rfl) (fun _ _ _ h => h) (hdrop 11) (Or.inr ⟨by rfl, rfl⟩) (hS _) ?_
             simp only [getElem_toArray, getElem_cons_zero, getElem_cons_succ, Act.put, setIfInBounds_toArray, set_cons_zero, set_cons_succ]
             refine WA.take (i := 12) (v := undef) rfl (by kernel_rfl) (by kernel_rfl) (by kernel_rfl) (fun _ _ _ h => h) (hdrop 12) (Or.inr ⟨by rfl, rfl⟩) (hS _) ?_
             simp only [getElem_toArray, getElem_cons_zero, getElem_cons_succ, Act.put, setIfInBounds_toArray, set_cons_zero, set_cons_succ]
             refine WA.take (i := 13) (v := undef) rfl (by kernel_rfl) (by kernel_rfl) (by kernel_rfl) (fun _ _ _ h => h) (hdrop 13) (Or.inr ⟨by rfl, rfl⟩) (hS _) ?_
             simp only [getElem_toArray, getElem_cons_zero, getElem_cons_succ, Act.put, setIfInBounds_toArray, set_cons_zero, set_cons_succ]
             refine WA.take (i := 14) (v := undef) rfl (by kernel_rfl) (by kernel_rfl) (by kernel_rfl) (fun _ _ _ h => h) (hdrop 14) (Or.inr ⟨by rfl, rfl⟩) (hS _) ?_
             simp only [getElem_toArray, getElem_cons_zero, getElem_cons_succ, Act.put, setIfInBounds_toArray, set_cons_zero, set_cons_succ]
             refine WA.take (i := 15) (v := undef) rfl (by kernel_rfl) (by kernel_rfl) (by kernel_rfl) (fun _ _ _ h => h) (hdrop 15) (Or.inr ⟨by rfl, rfl⟩) (hS _) ?_
             simp only [getElem_toArray, getElem_cons_zero, getElem_cons_succ, Act.put, setIfInBounds_toArray, set_cons_zero, set_cons_succ]
             refine WA.take (i := 16) (v := undef) rfl (by kernel_rfl) (by kernel_rfl) (by kernel_rfl) (fun _ _ _ h => h) (hdrop 16) (Or.inr ⟨by rfl, rfl⟩) (hS _) ?_
             simp only [getElem_toArray, getElem_cons_zero, getElem_cons_succ, Act.put, setIfInBounds_toArray, set_cons_zero, set_cons_succ]
             refine WA.take (i := 17) (v := undef) rfl (by kernel_rfl) (by kernel_rfl) (by kernel_rfl) (fun _ _ _ h => h) (hdrop 17) (Or.inr ⟨by rfl, rfl⟩) (hS _) ?_
             simp only [getElem_toArray, getElem_cons_zero, getElem_cons_succ, Act.put, setIfInBounds_toArray, set_cons_zero, set_cons_succ]
             refine WA.take (i := 18) (v := undef) rfl (by kernel_rfl) (by kernel_rfl) (by kernel_rfl) (fun _ _ _ h => h) (hdrop 18) (Or.inr ⟨by rfl, rfl⟩) (hS _) ?_
             simp only [getElem_toArray, getElem_cons_zero, getElem_cons_succ, Act.put, setIfInBounds_toArray, set_cons_zero, set_cons_succ]
             refine WA.take (i := 19) (v := undef) rfl (by kernel_rfl) (by kernel_rfl) (by kernel_rfl) (fun _ _ _ h => h) (hdrop 19) (Or.inr ⟨by rfl, rfl⟩) (hS _) ?_
             simp only [getElem_toArray, getElem_cons_zero, getElem_cons_succ, Act.put, setIfInBounds_toArray, set_cons_zero, set_cons_succ]
             refine WA.take (i := 20) (v := undef) rfl (by kernel_rfl) (by kernel_rfl) (by kernel_rfl) (fun _ _ _ h => h) (hdrop 20) (Or.inr ⟨by rfl, rfl⟩) (hS _) ?_
             simp only [getElem_toArray, getElem_cons_zero, getElem_cons_succ, Act.put, setIfInBounds_toArray, set_cons_zero, set_cons_succ]
             refine WA.take (i := 21) (v := undef) rfl (by kernel_rfl) (by kernel_rfl) (by kernel_rfl) (fun _ _ _ h => h) (hdrop 21) (Or.inr ⟨by rfl, rfl⟩) (hS _) ?_
             simp only [getElem_toArray, getElem_cons_zero, getElem_cons_succ, Act.put, setIfInBounds_toArray, set_cons_zero, set_cons_succ]
             refine WA.take (i := 22) (v := undef) rfl (by kernel_rfl) (by kernel_rfl) (by kernel_rfl) (fun _ _ _ h => h) (hdrop 22) (Or.inr ⟨by rfl, rfl⟩) (hS _) ?_
             simp only [getElem_toArray, getElem_cons_zero, getElem_cons_succ, Act.put, setIfInBounds_toArray, set_cons_zero, set_cons_succ]
             refine WA.take (i := 23) (v := .bool true) rfl (by kernel_rfl) (by kernel_rfl) (by kernel_rfl) (fun _ _ _ h => h) (hdrop 23) (Or.inl ⟨by rfl, ?_⟩) (hS _) ?_
             · rintro w' ⟨L, hL, hSw, hun⟩
               go_simp
             simp only [getElem_toArray, getElem_cons_zero, getElem_cons_succ, Act.put, setIfInBounds_toArray, set_cons_zero, set_cons_succ]
             refine WA.take (i := 24) (v := .bool true) rfl (by kernel_rfl) (by kernel_rfl) (by kernel_rfl) (fun _ _ _ h => h) (hdrop 24) (Or.inl ⟨by rfl, ?_⟩) (hS _) ?_
             · rintro w' ⟨L, hL, hSw, hun⟩
               go_simp
             simp only [getElem_toArray, getElem_cons_zero, getElem_cons_succ, Act.put, setIfInBounds_toArray, set_cons_zero, set_cons_succ]
             refine WA.take (i := 25) (v := undef) rfl (by kernel_rfl) (by kernel_rfl) (by kernel_rfl) (fun _ _ _ h => h) (hdrop 25) (Or.inr ⟨by rfl, rfl⟩) (hS _) ?_
             simp only [getElem_toArray, getElem_cons_zero, getElem_cons_succ, Act.put, setIfInBounds_toArray, set_cons_zero, set_cons_succ]
             refine WA.take (i := 26) (v := undef) rfl (by kernel_rfl) (by kernel_rfl) (by kernel_rfl) (fun _ _ _ h => h) (hdrop 26) (Or.inr ⟨by rfl, rfl⟩) (hS _) ?_
             simp only [getElem_toArray, getElem_cons_zero, getElem_cons_succ, Act.put, setIfInBounds_toArray, set_cons_zero, set_cons_succ]
             refine WA.take (i := 27) (v := undef) rfl (by kernel_rfl) (by kernel_rfl) (by kernel_rfl) (fun _ _ _ h => h) (hdrop 27) (Or.inr ⟨by rfl, rfl⟩) (hS _) ?_
             simp only [getElem_toArray, getElem_cons_zero, getElem_cons_succ, Act.put, setIfInBounds_toArray, set_cons_zero, set_cons_succ]
             refine WA.take (i := 28) (v := undef) rfl (by kernel_rfl) (by kernel_rfl) (by kernel_rfl) (fun _ _ _ h => h) (hdrop 28) (Or.inr ⟨by rfl, rfl⟩) (hS _) ?_
             simp only [getElem_toArray, getElem_cons_zero, getElem_cons_succ, Act.put, setIfInBounds_toArray, set_cons_zero, set_cons_succ]
             refine WA.take (i := 29) (v := undef) rfl (by kernel_rfl) (by kernel_rfl) (by kernel_rfl) (fun _ _ _ h => h) (hdrop 29) (Or.inr ⟨by rfl, rfl⟩) (hS _) ?_
             simp only [getElem_toArray, getElem_cons_zero, getElem_cons_succ, Act.put, setIfInBounds_toArray, set_cons_zero, set_cons_succ]
             refine WA.take (i := 30) (v := undef) rfl (by kernel_rfl) (by kernel_rfl) (by kernel_rfl) (fun _ _ _ h => h) (hdrop 30) (Or.inr ⟨by rfl, rfl⟩) (hS _) ?_
             simp only [getElem_toArray, getElem_cons_zero, getElem_cons_succ, Act.put, setIfInBounds_toArray, set_cons_zero, set_cons_succ]
             refine WA.take (i := 31) (v := undef) rfl (by kernel_rfl) (by kernel_rfl) (by kernel_rfl) (fun _ _ _ h => h) (hdrop 31) (Or.inr ⟨by rfl, rfl⟩) (hS _) ?_
             simp only [getElem_toArray, getElem_cons_zero, getElem_cons_succ, Act.put, setIfInBounds_toArray, set_cons_zero, set_cons_succ]
             refine WA.take (i := 32) (v := undef) rfl (by kernel_rfl) (by kernel_rfl) (by kernel_rfl) (fun _ _ _ h => h) (hdrop 32) (Or.inr ⟨by rfl, rfl⟩) (hS _) ?_
             simp only [getElem_toArray, getElem_cons_zero, getElem_cons_succ, Act.put, setIfInBounds_toArray, set_cons_zero, set_cons_succ]
             refine WA.take (i := 33) (v := undef) rfl (by kernel_rfl) (by kernel_rfl) (by kernel_rfl) (fun _ _ _ h => h) (hdrop 33) (Or.inr ⟨by rfl, rfl⟩) (hS _) ?_
             simp only [getElem_toArray, getElem_cons_zero, getElem_cons_succ, Act.put, setIfInBounds_toArray, set_cons_zero, set_cons_succ]
             refine WA.take (i := 34) (v := undef) rfl (by kernel_rfl) (by kernel_rfl) (by kernel_rfl) (fun _ _ _ h => h) (hdrop 34) (Or.inr ⟨by rfl, rfl⟩) (hS _) ?_
             simp only [getElem_toArray, getElem_cons_zero, getElem_cons_succ, Act.put, setIfInBounds_toArray, set_cons_zero, set_cons_succ]
             refine WA.skip (i := 35) (by kernel_rfl) rfl (by rfl) (hS _) ?_
             simp only [getElem_toArray, getElem_cons_zero, getElem_cons_succ, Act.put, setIfInBounds_toArray, set_cons_zero, set_cons_succ]
             refine WA.take (i := 36) (v := undef) rfl (by kernel_rfl) (by kernel_rfl) (by kernel_rfl) (fun _ _ _ h => h) (hdrop 36) (Or.inr ⟨by rfl, rfl⟩) (hS _) ?_
             simp only [getElem_toArray, getElem_cons_zero, getElem_cons_succ, Act.put, setIfInBounds_toArray, set_cons_zero, set_cons_succ]
             refine WA.take (i := 37) (v := .bool true) rfl (by kernel_rfl) (by kernel_rfl) (by kernel_rfl) (fun _ _ _ h => h) (hdrop 37) (Or.inl ⟨by rfl, ?_⟩) (hS _) ?_
             · rintro w' ⟨L, hL, hSw, hun⟩
               go_simp
             simp only [getElem_toArray, getElem_cons_zero, getElem_cons_succ, Act.put, setIfInBounds_toArray, set_cons_zero, set_cons_succ]
             refine WA.done (by kernel_rfl) ?_ _
             refine Nrm.normal ?_
             clear hSo hSi hS hdrop c0 y0c y1c y2c y3c v0 v1 v2 s0 s1 s2 s3 s4 s5 s6 s7 s8 s9 s10
             clear S23
             go_wp2_with fail
             go_meet
             exact ⟨by rw [Hgood.out, h1]; simp, HBe.out⟩
        case rest =>
          obtain ⟨rfl, hBx⟩ := hcut
          have HBx := Lib.hid hBx
          have hsbc := (hBx.block _ (Array.getElem?_eq_some_iff.1 Hsb.out).1).trans Hsb.out
          have hvbc := (hBx.block _ (Array.getElem?_eq_some_iff.1 Hvb.out).1).trans Hvb.out
          have Hsbc := Lib.hid hsbc; have Hvbc := Lib.hid hvbc
          clear hBx hsbc hvbc
          cases hgd : goodAt E.T b ⟨1, (a0, i0), (a1, i1), (a2, i2), (a3, i3), (a4, i4)⟩ fr tu vbt i
          · have Hgd := Lib.hid hgd
            clear hgd
            go_wp2_with fail
            refine ⟨⟨i + 1, kk, ovr, new, by omega, by push_cast; rfl, ?_, Hsbc.out, Hvbc.out⟩, by simp [intOf]; omega⟩
            rw [← restE_out (by rw [Htl.out]; exact hin) Hgd.out]
            exact HM.out.below HBx.out
          · have Hgd := Lib.hid hgd
            clear hgd
            obtain ⟨ks, hks⟩ : ∃ ks, k + kk = ks := ⟨_, rfl⟩
            have hM1 := HM.out.below HBx.out
            rw [restE_in (by rw [Htl.out]; exact hin) Hgd.out HrT.out] at hM1
            have hks6 : ks + 1 ≤ 1000000 := by
              have h1 := hM1.lk
              have h2 := Hk.out
              rw [looksE_none] at h1
              omega
            obtain ⟨cc0, cc7, cc9, cc10, cc11, cc12, cc13, ccf⟩ := hM1.gw.c
            rw [hks] at cc11
            have HM1 := Lib.hid hM1; have Hks := Lib.hid hks
            have hdl : ((ks : Int) == -1) = false := by simp
            clear hM1 hks cc0 cc7 cc9 cc10 cc13 ccf
            go_wp2_with fail
            have cl : wc.drew.cell? ⟨E.gb, 11, none⟩ = some (.int .i64 (ks : Nat)) := cc11
            have cm : wc.drew.cell? ⟨E.gb, 12, none⟩ = some (.int .i64 (-1)) := cc12
            have HBd := Lib.hid (show Below wr.heap.size wr wc.drew from HBx.out.drew)
            obtain ⟨S24, hSe⟩ : ∃ S : Array Bool → World → Prop, S = fun _ w' => Below wc.drew.heap.size wc.drew w' := ⟨_, rfl⟩
            have hdrop : ∀ i : Nat, ∀ L w', S24 (L.setIfInBounds i true) w' → S24 L w' := by
              intro i L w' h; rw [hSe] at h ⊢; exact h
            have hS : ∀ L, S24 L wc.drew := by intro L; rw [hSe]; exact Below.refl _ _
            have hSo : ∀ {L w'}, S24 L w' → Below wc.drew.heap.size wc.drew w' := by intro L w' h; rw [hSe] at h; exact h
            have hSi : ∀ {w'}, Below wc.drew.heap.size wc.drew w' → ∀ L, S24 L w' := by intro w' h L; rw [hSe]; exact h
            clear hSe
            refine wp_region_LN S24 9 #[false, false, false, false, false, false, false, false, false] (by kernel_rfl) (by kernel_rfl) rfl ?_
            obtain ⟨X, hX⟩ : ∃ X, X = wc.drew := ⟨_, rfl⟩
            rw [← hX] at cl cm hSo hSi hS HBd ⊢
            clear hX
            refine WA.take (i := 0) (v := .pointer (some ⟨E.gb, 0, none⟩)) rfl (by kernel_rfl) (by kernel_rfl) (by kernel_rfl) (fun _ _ _ h => h) (hdrop 0) (Or.inl ⟨by rfl, ?_⟩) (hS _) ?_
            · rintro w' ⟨L, hL, hSw, hun⟩
              go_simp
            simp only [getElem_toArray, getElem_cons_zero, getElem_cons_succ, Act.put, setIfInBounds_toArray, set_cons_zero, set_cons_succ]
            refine WA.take (i := 1) (v := .pointer (some ⟨E.gb, 0, none⟩)) rfl (by kernel_rfl) (by kernel_rfl) (by kernel_rfl) (fun _ _ _ h => h) (hdrop 1) (Or.inl ⟨by rfl, ?_⟩) (hS _) ?_
            · rintro w' ⟨L, hL, hSw, hun⟩
              go_simp
            simp only [getElem_toArray, getElem_cons_zero, getElem_cons_succ, Act.put, setIfInBounds_toArray, set_cons_zero, set_cons_succ]
            refine WA.take (i := 2) (v := .pointer (some ⟨E.gb, 11, none⟩)) rfl (by kernel_rfl) (by kernel_rfl) (by kernel_rfl) (fun _ _ _ h => h) (hdrop 2) (Or.inl ⟨by rfl, ?_⟩) (hS _) ?_
            · rintro w' ⟨L, hL, hSw, hun⟩
              go_simp
            simp only [getElem_toArray, getElem_cons_zero, getElem_cons_succ, Act.put, setIfInBounds_toArray, set_cons_zero, set_cons_succ]
            refine WA.take (i := 3) (v := .int .i64 (ks : Nat)) rfl (by kernel_rfl) (by kernel_rfl) (by kernel_rfl) (fun _ _ _ h => h) (hdrop 3) (Or.inl ⟨by rfl, ?_⟩) (hS _) ?_
            · rintro w' ⟨L, hL, hSw, hun⟩
              have hbw := hSo hSw
              have cl := cell_later hbw cl
              clear hbw
              go_simp
            simp only [getElem_toArray, getElem_cons_zero, getElem_cons_succ, Act.put, setIfInBounds_toArray, set_cons_zero, set_cons_succ]
            refine WA.take (i := 4) (v := .pointer (some ⟨E.gb, 0, none⟩)) rfl (by kernel_rfl) (by kernel_rfl) (by kernel_rfl) (fun _ _ _ h => h) (hdrop 4) (Or.inl ⟨by rfl, ?_⟩) (hS _) ?_
            · rintro w' ⟨L, hL, hSw, hun⟩
              go_simp
            simp only [getElem_toArray, getElem_cons_zero, getElem_cons_succ, Act.put, setIfInBounds_toArray, set_cons_zero, set_cons_succ]
            refine WA.take (i := 5) (v := .pointer (some ⟨E.gb, 0, none⟩)) rfl (by kernel_rfl) (by kernel_rfl) (by kernel_rfl) (fun _ _ _ h => h) (hdrop 5) (Or.inl ⟨by rfl, ?_⟩) (hS _) ?_
            · rintro w' ⟨L, hL, hSw, hun⟩
              go_simp
            simp only [getElem_toArray, getElem_cons_zero, getElem_cons_succ, Act.put, setIfInBounds_toArray, set_cons_zero, set_cons_succ]
            refine WA.take (i := 6) (v := .pointer (some ⟨E.gb, 12, none⟩)) rfl (by kernel_rfl) (by kernel_rfl) (by kernel_rfl) (fun _ _ _ h => h) (hdrop 6) (Or.inl ⟨by rfl, ?_⟩) (hS _) ?_
            · rintro w' ⟨L, hL, hSw, hun⟩
              go_simp
            simp only [getElem_toArray, getElem_cons_zero, getElem_cons_succ, Act.put, setIfInBounds_toArray, set_cons_zero, set_cons_succ]
            refine WA.take (i := 7) (v := .int .i64 (-1)) rfl (by kernel_rfl) (by kernel_rfl) (by kernel_rfl) (fun _ _ _ h => h) (hdrop 7) (Or.inl ⟨by rfl, ?_⟩) (hS _) ?_
            · rintro w' ⟨L, hL, hSw, hun⟩
              have hbw := hSo hSw
              have cm := cell_later hbw cm
              clear hbw
              go_simp
            simp only [getElem_toArray, getElem_cons_zero, getElem_cons_succ, Act.put, setIfInBounds_toArray, set_cons_zero, set_cons_succ]
            refine WA.take (i := 8) (v := .bool false) rfl (by kernel_rfl) (by kernel_rfl) (by kernel_rfl) (fun _ _ _ h => h) (hdrop 8) (Or.inl ⟨by rfl, ?_⟩) (hS _) ?_
            · rintro w' ⟨L, hL, hSw, hun⟩
              go_simp
            simp only [getElem_toArray, getElem_cons_zero, getElem_cons_succ, Act.put, setIfInBounds_toArray, set_cons_zero, set_cons_succ]
            refine WA.done (by kernel_rfl) ?_ _
            refine Nrm.normal ?_
            clear hSo hSi hS hdrop cl cm cc11 cc12
            clear S24
            have HM2 := Lib.hid (HM.out.below HBd.out)
            have hM2 := HM2.out
            rw [restE_in (by rw [Htl.out]; exact hin) Hgd.out HrT.out] at hM2
            obtain ⟨cc0, cc7, cc9, cc10, cc11, cc12, cc13, ccf⟩ := hM2.gw.c
            rw [Hks.out] at cc11
            have ccf11 := ccf 11
            have HM3 := Lib.hid hM2.look
            clear hM2 cc0 cc7 cc9 cc10 cc12 cc13 ccf
            go_upto_region 27 with fail
            have hl2 := (HM2.out.gw.look).2
            have hsbX := (HBd.out.block _ (Array.getElem?_eq_some_iff.1 Hsb.out).1).trans Hsb.out
            have hvbX := (HBd.out.block _ (Array.getElem?_eq_some_iff.1 Hvb.out).1).trans Hvb.out
            have hsbY := hl2.cells HM2.out.gw hsbX (by decide) (by decide)
            have hvbY := hl2.cells HM2.out.gw hvbX (by decide) (by decide)
            have hM3 := HM3.out
            have hcst : ((ks + 1 : Nat) : Int) = (ks : Int) + 1 := by push_cast; rfl
            rw [Hks.out, hcst] at hM3 hsbY hvbY
            obtain ⟨Y, hY⟩ : ∃ Y, Y = X.setCell ⟨E.gb, 11, none⟩ (.int .i64 ((ks : Int) + 1)) := ⟨_, rfl⟩
            rw [← hY] at hM3 hsbY hvbY ⊢
            have hbY := hM3.turn.keep HG.out HB.out
            have HMY := Lib.hid hM3; have HsbY := Lib.hid hsbY; have HvbY := Lib.hid hvbY; have HBY := Lib.hid hbY
            clear hY hl2 hsbX hvbX hM3 hsbY hvbY hbY hcst cc11 ccf11 yw0 yw1 yw2 yw3 cw0 cw13 cwf cw11 cw12
            clear HM3 HM2 HM1
            go_wp2_with (at_builtin; refine wpList_clone rfl _ _ rfl HBY.out (by rw [Hbl.out]; omega) rfl rfl ?_; intro cv w1 hi1 hb1; obtain ⟨ca, cc, hcv⟩ := own_anyJ hi1; rw [Hbl.out] at hcv; subst hcv; have Hi1 := Lib.hid hi1; have Hb1 := Lib.hid hb1; clear hi1 hb1)
            go_loopw [13, 14] (fun u13 u14 w2 => ∃ (kq : Nat) (g : Bool) (L : List Int), kq ≤ 3 ∧ u13 = .bool g ∧ u14 = .int .i64 kq ∧ L.length = E.vars ∧ rbindP ((prs ⟨1, (a0, i0), (a1, i1), (a2, i2), (a3, i3), (a4, i4)⟩ (y0, y1, y2)).drop kq) (g, L) = rbindP (prs ⟨1, (a0, i0), (a1, i1), (a2, i2), (a3, i3), (a4, i4)⟩ (y0, y1, y2)) (true, b) ∧ Below Y.heap.size Y w2 ∧ IsOut Y.heap.size w2 (.slice ca E.vars cc) L) (fun _ u _ => 3 - (intOf u).toNat)
            case atStart => exact ⟨0, true, b, by omega, rfl, rfl, Hbl.out, rfl, Hb1.out, Hi1.out⟩
            case round =>
              rename World => w2
              obtain ⟨kq, g, L, hkq, rfl, rfl, hll, hrb, hB2, hio⟩ := hrel
              have Hll := Lib.hid hll; have Hrb := Lib.hid hrb; have HB2 := Lib.hid hB2; have Hio := Lib.hid hio
              clear hll hrb hB2 hio
              by_cases hk3 : kq < 3
              · have hdk : decide ((kq : Int) < 3) = true := by simp; omega
                obtain ⟨⟨v, id⟩, hpk⟩ : ∃ x, plAt ⟨1, (a0, i0), (a1, i1), (a2, i2), (a3, i3), (a4, i4)⟩ kq = x := ⟨_, rfl⟩
                obtain ⟨y, hyk⟩ : ∃ y, R3.at (y0, y1, y2) kq = y := ⟨_, rfl⟩
                have hrb := Hrb.out
                rw [prs_drop _ _ hk3, hpk, hyk] at hrb
                have hsb2 := (HB2.out.block _ (Array.getElem?_eq_some_iff.1 HsbY.out).1).trans HsbY.out
                have hM2 := HMY.out.gw.below HB2.out
                have cz0 := hM2.c0r Hra.out Htl.out
                obtain ⟨yz0, yz1, yz2, _⟩ := hM2.rowc HE.out (by rw [Htl.out]; exact hin) Hra.out HTi.out
                dsimp only at yz0 yz1 yz2
                obtain ⟨pc0, pc1, pcy, pcv⟩ : w2.cell? ⟨w.heap.size, 1 + kq * 2, none⟩ = some (.int .i64 v) ∧ w2.cell? ⟨w.heap.size, 1 + kq * 2 + 1, none⟩ = some (.int .u32 id) ∧ w2.cell? ⟨rb, ro + i * 4 + kq, none⟩ = some (.int .u32 y) ∧ v < (E.vars : Int) := by
                  have hpl := Hpl.out
                  rw [Hbl.out] at hpl
                  have hq : kq = 0 ∨ kq = 1 ∨ kq = 2 := by omega
                  rcases hq with rfl | rfl | rfl
                  · injection hpk with h1 h2
                    subst h1 h2 hyk
                    exact ⟨by unfold World.cell?; rw [hsb2]; rfl, by unfold World.cell?; rw [hsb2]; rfl, yz0, hpl.1⟩
                  · injection hpk with h1 h2
                    subst h1 h2 hyk
                    exact ⟨by unfold World.cell?; rw [hsb2]; rfl, by unfold World.cell?; rw [hsb2]; rfl, yz1, hpl.2.1⟩
                  · injection hpk with h1 h2
                    subst h1 h2 hyk
                    exact ⟨by unfold World.cell?; rw [hsb2]; rfl, by unfold World.cell?; rw [hsb2]; rfl, yz2, hpl.2.2⟩
                have Hrb2 := Lib.hid hrb; have Hyk := Lib.hid hyk
                clear hpk hyk hrb hsb2 hM2
                by_cases hv : v < 0
                · have hdv : decide (v < 0) = true := by simpa using hv
                  go_wp2_with fail
                  refine ⟨⟨kq + 1, g, L, by omega, rfl, by push_cast; rfl, Hll.out, (rbindP_neg hv).symm.trans Hrb2.out, HB2.out.alloc HB2.out.size _, own_below Hio.out ((Below.refl _ w2).alloc (Nat.le_refl _) _)⟩, by simp [intOf]; omega⟩
                · obtain ⟨q, rfl⟩ : ∃ q : Nat, v = q := ⟨v.toNat, by omega⟩
                  have hdv : decide ((q : Int) < 0) = false := by simp
                  have hqv : q < E.vars := by omega
                  have hqL : q < L.length := by rw [Hll.out]; exact hqv
                  obtain ⟨cg, hca, hcg, hcq⟩ : ∃ cg, ca = some ⟨cg, 0, none⟩ ∧ (Y.heap.size ≤ cg ∧ cg < w2.heap.size) ∧ w2.cell? ⟨cg, q, none⟩ = some (.int .u32 L[q]) ∧ w2.frozen? ⟨cg, q, none⟩ = false := by
                    rcases own_cellsJ Hio.out with ⟨h1, h0⟩ | ⟨cg, ccap, h1, hcg, h3, h4, ⟨cur, h5, h6⟩, h7⟩
                    · have := Hll.out; omega
                    · injection h1 with h1 _ _
                      exact ⟨cg, h1, ⟨hcg, (Array.getElem?_eq_some_iff.1 h5).1⟩, h7 q _ (by simp [uvs, hqL])⟩
                  subst hca
                  obtain ⟨u, hu⟩ : ∃ u, L[q] = u := ⟨_, rfl⟩
                  rw [hu] at hcq
                  obtain ⟨hcq, hfq⟩ := hcq
                  obtain ⟨hB7, hp7⟩ : Below w2.heap.size w2 (w2.alloc (.cells #[.int .i64 (q : Nat), .int .u32 id] 25)) ∧ (w2.alloc (.cells #[.int .i64 (q : Nat), .int .u32 id] 25)).heap[w2.heap.size]? = some (.cells #[.int .i64 (q : Nat), .int .u32 id] 25 (0, 0)) := ⟨(Below.refl _ w2).alloc (Nat.le_refl _) _, World.alloc_heap_new _ _⟩
                  have cx0 := cell_later hB7 cz0
                  have cxy := cell_later hB7 pcy
                  have cxq := cell_later hB7 hcq
                  have fxq : (w2.alloc (.cells #[.int .i64 (q : Nat), .int .u32 id] 25)).frozen? ⟨cg, q, none⟩ = false := (World.frozen?_of_block (a := ⟨cg, q, none⟩) (hB7.block cg hcg.2)).trans hfq
                  have cxv : (w2.alloc (.cells #[.int .i64 (q : Nat), .int .u32 id] 25)).cell? ⟨w2.heap.size, 0, none⟩ = some (.int .i64 (q : Nat)) := by unfold World.cell?; rw [hp7]; rfl
                  have HB7 := Lib.hid hB7; have Hu2 := Lib.hid hu; have HqL := Lib.hid hqL; have Hcg := Lib.hid hcg
                  have Hio7 := Lib.hid (own_below Hio.out hB7)
                  have HBY7 := Lib.hid (HB2.out.trans (hB7.mono HB2.out.size))
                  clear hB7 hp7 hcg hfq
                  try clear hu
                  by_cases hz : u = 0
                  · subst hz
                    go_wp2_with fail
                    generalize hW7 : w2.alloc (.cells #[.int .i64 (q : Nat), .int .u32 id] 25) = w7 at *
                    clear hW7 hcq cz0 pcy pc0 pc1
                    have c0 : w7.drew.cell? ⟨E.gb, 0, none⟩ = some (.slice (some ⟨rb, ro, none⟩) tl E.rcap) := cx0
                    have yk : w7.drew.cell? ⟨rb, ro + i * 4 + kq, none⟩ = some (.int .u32 y) := cxy
                    have pv : w7.drew.cell? ⟨w2.heap.size, 0, none⟩ = some (.int .i64 (q : Nat)) := cxv
                    have HBe7 := Lib.hid (show Below w7.heap.size w7 w7.drew from (Below.refl _ w7).drew)
                    obtain ⟨cq, fq⟩ : w7.drew.cell? ⟨cg, q, none⟩ = some (.int .u32 0) ∧ w7.drew.frozen? ⟨cg, q, none⟩ = false := ⟨cxq, fxq⟩
                    obtain ⟨S35, hSe⟩ : ∃ S : Array Bool → World → Prop, S = fun L w' => L.getD 14 true = false → Below w7.drew.heap.size w7.drew w' := ⟨_, rfl⟩
                    have hdrop : ∀ i, i ≠ 14 → ∀ L w', S35 (L.setIfInBounds i true) w' → S35 L w' := by
                      intro i hi L w'
                      rw [hSe]
                      intro h hl
                      exact h (by rw [getD_set_ne true hi]; exact hl)
                    have hS : ∀ L, S35 L w7.drew := by intro L; rw [hSe]; exact fun _ => Below.refl _ _
                    have hSo : ∀ {L w'}, S35 L w' → L.getD 14 true = false → Below w7.drew.heap.size w7.drew w' := by intro L w' h hl; rw [hSe] at h; exact h hl
                    have hSi : ∀ {w'}, Below w7.drew.heap.size w7.drew w' → ∀ L, S35 L w' := by intro w' h L; rw [hSe]; exact fun _ => h
                    have hSd : ∀ (L : Array Bool) X, L.getD 14 true = true → S35 L X := by
                      intro L X h; rw [hSe]; intro h1; rw [h] at h1; cases h1
                    clear hSe
                    refine wp_region_LN S35 15 #[false, false, false, false, false, false, false, false, false, false, false, false, false, false, false] (by kernel_rfl) (by kernel_rfl) rfl ?_
                    obtain ⟨X, hX⟩ : ∃ X, X = w7.drew := ⟨_, rfl⟩
                    rw [← hX] at c0 yk pv cq fq hSo hSi hS HBe7 ⊢
                    clear hX
                    refine WA.take (i := 0) (v := .slice (some ⟨cg, 0, none⟩) E.vars cc) rfl (by kernel_rfl) (by kernel_rfl) (by kernel_rfl) (fun _ _ _ h => h) (hdrop 0 (by decide)) (Or.inl ⟨by rfl, ?_⟩) (hS _) ?_
                    · rintro w' ⟨L, hL, hSw, hun⟩
                      go_simp
                    simp only [getElem_toArray, getElem_cons_zero, getElem_cons_succ, Act.put, setIfInBounds_toArray, set_cons_zero, set_cons_succ]
                    refine WA.take (i := 1) (v := .pointer (some ⟨w2.heap.size, 0, none⟩)) rfl (by kernel_rfl) (by kernel_rfl) (by kernel_rfl) (fun _ _ _ h => h) (hdrop 1 (by decide)) (Or.inl ⟨by rfl, ?_⟩) (hS _) ?_
                    · rintro w' ⟨L, hL, hSw, hun⟩
                      go_simp
                    simp only [getElem_toArray, getElem_cons_zero, getElem_cons_succ, Act.put, setIfInBounds_toArray, set_cons_zero, set_cons_succ]
                    refine WA.take (i := 2) (v := .int .i64 (q : Nat)) rfl (by kernel_rfl) (by kernel_rfl) (by kernel_rfl) (fun _ _ _ h => h) (hdrop 2 (by decide)) (Or.inl ⟨by rfl, ?_⟩) (hS _) ?_
                    · rintro w' ⟨L, hL, hSw, hun⟩
                      have hbw := hSo hSw (hL.wait 14 13 (by kernel_rfl) (hL.wait 13 2 (by kernel_rfl) hun))
                      have pv := cell_later hbw pv
                      clear hbw
                      go_simp
                    simp only [getElem_toArray, getElem_cons_zero, getElem_cons_succ, Act.put, setIfInBounds_toArray, set_cons_zero, set_cons_succ]
                    refine WA.take (i := 3) (v := .pointer (some ⟨E.gb, 0, none⟩)) rfl (by kernel_rfl) (by kernel_rfl) (by kernel_rfl) (fun _ _ _ h => h) (hdrop 3 (by decide)) (Or.inl ⟨by rfl, ?_⟩) (hS _) ?_
                    · rintro w' ⟨L, hL, hSw, hun⟩
                      go_simp
                    simp only [getElem_toArray, getElem_cons_zero, getElem_cons_succ, Act.put, setIfInBounds_toArray, set_cons_zero, set_cons_succ]
                    refine WA.take (i := 4) (v := .pointer (some ⟨E.gb, 0, none⟩)) rfl (by kernel_rfl) (by kernel_rfl) (by kernel_rfl) (fun _ _ _ h => h) (hdrop 4 (by decide)) (Or.inl ⟨by rfl, ?_⟩) (hS _) ?_
                    · rintro w' ⟨L, hL, hSw, hun⟩
                      go_simp
                    simp only [getElem_toArray, getElem_cons_zero, getElem_cons_succ, Act.put, setIfInBounds_toArray, set_cons_zero, set_cons_succ]
                    refine WA.take (i := 5) (v := .pointer (some ⟨E.gb, 0, none⟩)) rfl (by kernel_rfl) (by kernel_rfl) (by kernel_rfl) (fun _ _ _ h => h) (hdrop 5 (by decide)) (Or.inl ⟨by rfl, ?_⟩) (hS _) ?_
                    · rintro w' ⟨L, hL, hSw, hun⟩
                      go_simp
                    simp only [getElem_toArray, getElem_cons_zero, getElem_cons_succ, Act.put, setIfInBounds_toArray, set_cons_zero, set_cons_succ]
                    refine WA.take (i := 6) (v := .slice (some ⟨rb, ro, none⟩) tl E.rcap) rfl (by kernel_rfl) (by kernel_rfl) (by kernel_rfl) (fun _ _ _ h => h) (hdrop 6 (by decide)) (Or.inl ⟨by rfl, ?_⟩) (hS _) ?_
                    · rintro w' ⟨L, hL, hSw, hun⟩
                      have hbw := hSo hSw (hL.wait 14 13 (by kernel_rfl) (hL.wait 13 6 (by kernel_rfl) hun))
                      have c0 := cell_later hbw c0
                      clear hbw
                      go_simp
                    simp only [getElem_toArray, getElem_cons_zero, getElem_cons_succ, Act.put, setIfInBounds_toArray, set_cons_zero, set_cons_succ]
                    refine WA.take (i := 7) (v := .int .i64 (i : Nat)) rfl (by kernel_rfl) (by kernel_rfl) (by kernel_rfl) (fun _ _ _ h => h) (hdrop 7 (by decide)) (Or.inl ⟨by rfl, ?_⟩) (hS _) ?_
                    · rintro w' ⟨L, hL, hSw, hun⟩
                      go_simp
                    simp only [getElem_toArray, getElem_cons_zero, getElem_cons_succ, Act.put, setIfInBounds_toArray, set_cons_zero, set_cons_succ]
                    refine WA.take (i := 8) (v := .int .i64 (kq : Nat)) rfl (by kernel_rfl) (by kernel_rfl) (by kernel_rfl) (fun _ _ _ h => h) (hdrop 8 (by decide)) (Or.inl ⟨by rfl, ?_⟩) (hS _) ?_
                    · rintro w' ⟨L, hL, hSw, hun⟩
                      go_simp
                    simp only [getElem_toArray, getElem_cons_zero, getElem_cons_succ, Act.put, setIfInBounds_toArray, set_cons_zero, set_cons_succ]
                    refine WA.take (i := 9) (v := .pointer (some ⟨rb, ro + i * 4, none⟩)) rfl (by kernel_rfl) (by kernel_rfl) (by kernel_rfl) (fun _ _ _ h => h) (hdrop 9 (by decide)) (Or.inl ⟨by rfl, ?_⟩) (hS _) ?_
                    · rintro w' ⟨L, hL, hSw, hun⟩
                      go_simp
                    simp only [getElem_toArray, getElem_cons_zero, getElem_cons_succ, Act.put, setIfInBounds_toArray, set_cons_zero, set_cons_succ]
                    refine WA.take (i := 10) (v := .pointer (some ⟨rb, ro + i * 4, none⟩)) rfl (by kernel_rfl) (by kernel_rfl) (by kernel_rfl) (fun _ _ _ h => h) (hdrop 10 (by decide)) (Or.inl ⟨by rfl, ?_⟩) (hS _) ?_
                    · rintro w' ⟨L, hL, hSw, hun⟩
                      go_simp
                    simp only [getElem_toArray, getElem_cons_zero, getElem_cons_succ, Act.put, setIfInBounds_toArray, set_cons_zero, set_cons_succ]
                    refine WA.take (i := 11) (v := .pointer (some ⟨rb, ro + i * 4 + kq, none⟩)) rfl (by kernel_rfl) (by kernel_rfl) (by kernel_rfl) (fun _ _ _ h => h) (hdrop 11 (by decide)) (Or.inl ⟨by rfl, ?_⟩) (hS _) ?_
                    · rintro w' ⟨L, hL, hSw, hun⟩
                      go_simp
                      intro h5; omega
                    simp only [getElem_toArray, getElem_cons_zero, getElem_cons_succ, Act.put, setIfInBounds_toArray, set_cons_zero, set_cons_succ]
                    refine WA.take (i := 12) (v := .int .u32 y) rfl (by kernel_rfl) (by kernel_rfl) (by kernel_rfl) (fun _ _ _ h => h) (hdrop 12 (by decide)) (Or.inl ⟨by rfl, ?_⟩) (hS _) ?_
                    · rintro w' ⟨L, hL, hSw, hun⟩
                      have hbw := hSo hSw (hL.wait 14 13 (by kernel_rfl) (hL.wait 13 12 (by kernel_rfl) hun))
                      have yk := cell_later hbw yk
                      clear hbw
                      go_simp
                    simp only [getElem_toArray, getElem_cons_zero, getElem_cons_succ, Act.put, setIfInBounds_toArray, set_cons_zero, set_cons_succ]
                    refine WA.take (i := 13) (v := .pointer (some ⟨cg, q, none⟩)) rfl (by kernel_rfl) (by kernel_rfl) (by kernel_rfl) (fun _ _ _ h => h) (hdrop 13 (by decide)) (Or.inl ⟨by rfl, ?_⟩) (hS _) ?_
                    · rintro w' ⟨L, hL, hSw, hun⟩
                      go_simp
                    simp only [getElem_toArray, getElem_cons_zero, getElem_cons_succ, Act.put, setIfInBounds_toArray, set_cons_zero, set_cons_succ]
                    refine WA.one (i := 14) (by kernel_rfl) rfl (by rfl) (fun K hK => ?_)
                    go_simp
                    refine hK _ _ (hSd _ _ (by rfl)) ?_
                    clear hK
                    try simp only [getElem_toArray, getElem_cons_zero, getElem_cons_succ, Act.put, setIfInBounds_toArray, set_cons_zero, set_cons_succ]
                    refine WA.done (by kernel_rfl) ?_ _
                    refine Nrm.normal ?_
                    have cvX := pv
                    clear hSo hSi hS hSd hdrop c0 yk pv cq fq
                    clear S35
                    obtain ⟨hio8, hc8⟩ := (show IsOut Y.heap.size X (.slice (some ⟨cg, 0, none⟩) E.vars cc) L from own_below Hio7.out HBe7.out).set Hll.out hqv y
                    have hB8 : Below Y.heap.size Y (X.setCell ⟨cg, q, none⟩ (.int .u32 y)) := (HBY7.out.trans (HBe7.out.mono HBY7.out.size)).setCell (p := ⟨cg, q, none⟩) Hcg.out.1 _
                    have cxv8 : (X.setCell ⟨cg, q, none⟩ (.int .u32 y)).cell? ⟨w2.heap.size, 0, none⟩ = some (.int .i64 (q : Nat)) := (World.cell?_of_block (w := X) (a := ⟨w2.heap.size, 0, none⟩) (Below.heap_setCell X ⟨cg, q, none⟩ _ _ (by have := Hcg.out.2; simp; omega))).trans cvX
                    clear cvX cx0 cxy cxv cxq fxq
                    generalize X.setCell ⟨cg, q, none⟩ (.int .u32 y) = w8 at *
                    have hM8 := HMY.out.gw.below hB8
                    have cx0 := hM8.c0r Hra.out Htl.out
                    have cxy : w8.cell? ⟨rb, ro + i * 4 + kq, none⟩ = some (.int .u32 y) := by
                      obtain ⟨yz0, yz1, yz2, _⟩ := hM8.rowc HE.out (by rw [Htl.out]; exact hin) Hra.out HTi.out
                      have hyk := Hyk.out
                      have hq : kq = 0 ∨ kq = 1 ∨ kq = 2 := by omega
                      rcases hq with rfl | rfl | rfl
                      · subst hyk; exact yz0
                      · subst hyk; exact yz1
                      · subst hyk; exact yz2
                    have cxq := hc8
                    have cxv := cxv8
                    have HB8 := Lib.hid hB8; have Hio8 := Lib.hid hio8
                    clear hM8 hc8 cxv8 hB8 hio8
                    cases g
                    · go_wp2_with fail
                      have c0 : w8.drew.cell? ⟨E.gb, 0, none⟩ = some (.slice (some ⟨rb, ro, none⟩) tl E.rcap) := cx0
                      have yk : w8.drew.cell? ⟨rb, ro + i * 4 + kq, none⟩ = some (.int .u32 y) := cxy
                      have pv : w8.drew.cell? ⟨w2.heap.size, 0, none⟩ = some (.int .i64 (q : Nat)) := cxv
                      have cq : w8.drew.cell? ⟨cg, q, none⟩ = some (.int .u32 y) := cxq
                      obtain ⟨S36, hSe⟩ : ∃ S : Array Bool → World → Prop, S = fun _ w' => Below w8.drew.heap.size w8.drew w' := ⟨_, rfl⟩
                      have hdrop : ∀ i : Nat, ∀ L w', S36 (L.setIfInBounds i true) w' → S36 L w' := by
                        intro i L w' h; rw [hSe] at h ⊢; exact h
                      have hS : ∀ L, S36 L w8.drew := by intro L; rw [hSe]; exact Below.refl _ _
                      have hSo : ∀ {L w'}, S36 L w' → Below w8.drew.heap.size w8.drew w' := by intro L w' h; rw [hSe] at h; exact h
                      have hSi : ∀ {w'}, Below w8.drew.heap.size w8.drew w' → ∀ L, S36 L w' := by intro w' h L; rw [hSe]; exact h
                      clear hSe
                      refine wp_region_LN S36 20 #[false, false, false, false, false, false, false, false, false, false, false, false, false, false, false, false, false, false, false, false] (by kernel_rfl) (by kernel_rfl) rfl ?_
                      obtain ⟨Y_, hY⟩ : ∃ Y_, Y_ = w8.drew := ⟨_, rfl⟩
                      rw [← hY] at c0 yk pv cq hSo hSi hS ⊢
                      have HY := Lib.hid hY
                      clear hY
                      refine WA.take (i := 0) (v := .bool false) rfl (by kernel_rfl) (by kernel_rfl) (by kernel_rfl) (fun _ _ _ h => h) (hdrop 0) (Or.inl ⟨by rfl, ?_⟩) (hS _) ?_
                      · rintro w' ⟨L, hL, hSw, hun⟩
                        go_simp
                      simp only [getElem_toArray, getElem_cons_zero, getElem_cons_succ, Act.put, setIfInBounds_toArray, set_cons_zero, set_cons_succ]
                      refine WA.take (i := 1) (v := .bool false) rfl (by kernel_rfl) (by kernel_rfl) (by kernel_rfl) (fun _ _ _ h => h) (hdrop 1) (Or.inl ⟨by rfl, ?_⟩) (hS _) ?_
                      · rintro w' ⟨L, hL, hSw, hun⟩
                        go_simp
                      simp only [getElem_toArray, getElem_cons_zero, getElem_cons_succ, Act.put, setIfInBounds_toArray, set_cons_zero, set_cons_succ]
                      refine WA.take (i := 2) (v := undef) rfl (by kernel_rfl) (by kernel_rfl) (by kernel_rfl) (fun _ _ _ h => h) (hdrop 2) (Or.inr ⟨by rfl, rfl⟩) (hS _) ?_
                      simp only [getElem_toArray, getElem_cons_zero, getElem_cons_succ, Act.put, setIfInBounds_toArray, set_cons_zero, set_cons_succ]
                      refine WA.take (i := 3) (v := undef) rfl (by kernel_rfl) (by kernel_rfl) (by kernel_rfl) (fun _ _ _ h => h) (hdrop 3) (Or.inr ⟨by rfl, rfl⟩) (hS _) ?_
                      simp only [getElem_toArray, getElem_cons_zero, getElem_cons_succ, Act.put, setIfInBounds_toArray, set_cons_zero, set_cons_succ]
                      refine WA.take (i := 4) (v := undef) rfl (by kernel_rfl) (by kernel_rfl) (by kernel_rfl) (fun _ _ _ h => h) (hdrop 4) (Or.inr ⟨by rfl, rfl⟩) (hS _) ?_
                      simp only [getElem_toArray, getElem_cons_zero, getElem_cons_succ, Act.put, setIfInBounds_toArray, set_cons_zero, set_cons_succ]
                      refine WA.take (i := 5) (v := undef) rfl (by kernel_rfl) (by kernel_rfl) (by kernel_rfl) (fun _ _ _ h => h) (hdrop 5) (Or.inr ⟨by rfl, rfl⟩) (hS _) ?_
                      simp only [getElem_toArray, getElem_cons_zero, getElem_cons_succ, Act.put, setIfInBounds_toArray, set_cons_zero, set_cons_succ]
                      refine WA.take (i := 6) (v := undef) rfl (by kernel_rfl) (by kernel_rfl) (by kernel_rfl) (fun _ _ _ h => h) (hdrop 6) (Or.inr ⟨by rfl, rfl⟩) (hS _) ?_
                      simp only [getElem_toArray, getElem_cons_zero, getElem_cons_succ, Act.put, setIfInBounds_toArray, set_cons_zero, set_cons_succ]
                      refine WA.take (i := 7) (v := undef) rfl (by kernel_rfl) (by kernel_rfl) (by kernel_rfl) (fun _ _ _ h => h) (hdrop 7) (Or.inr ⟨by rfl, rfl⟩) (hS _) ?_
                      simp only [getElem_toArray, getElem_cons_zero, getElem_cons_succ, Act.put, setIfInBounds_toArray, set_cons_zero, set_cons_succ]
                      refine WA.take (i := 8) (v := undef) rfl (by kernel_rfl) (by kernel_rfl) (by kernel_rfl) (fun _ _ _ h => h) (hdrop 8) (Or.inr ⟨by rfl, rfl⟩) (hS _) ?_
                      simp only [getElem_toArray, getElem_cons_zero, getElem_cons_succ, Act.put, setIfInBounds_toArray, set_cons_zero, set_cons_succ]
                      refine WA.take (i := 9) (v := undef) rfl (by kernel_rfl) (by kernel_rfl) (by kernel_rfl) (fun _ _ _ h => h) (hdrop 9) (Or.inr ⟨by rfl, rfl⟩) (hS _) ?_
                      simp only [getElem_toArray, getElem_cons_zero, getElem_cons_succ, Act.put, setIfInBounds_toArray, set_cons_zero, set_cons_succ]
                      refine WA.take (i := 10) (v := undef) rfl (by kernel_rfl) (by kernel_rfl) (by kernel_rfl) (fun _ _ _ h => h) (hdrop 10) (Or.inr ⟨by rfl, rfl⟩) (hS _) ?_
                      simp only [getElem_toArray, getElem_cons_zero, getElem_cons_succ, Act.put, setIfInBounds_toArray, set_cons_zero, set_cons_succ]
                      refine WA.take (i := 11) (v := undef) rfl (by kernel_rfl) (by kernel_rfl) (by kernel_rfl) (fun _ _ _ h => h) (hdrop 11) (Or.inr ⟨by rfl, rfl⟩) (hS _) ?_
                      simp only [getElem_toArray, getElem_cons_zero, getElem_cons_succ, Act.put, setIfInBounds_toArray, set_cons_zero, set_cons_succ]
                      refine WA.take (i := 12) (v := undef) rfl (by kernel_rfl) (by kernel_rfl) (by kernel_rfl) (fun _ _ _ h => h) (hdrop 12) (Or.inr ⟨by rfl, rfl⟩) (hS _) ?_
                      simp only [getElem_toArray, getElem_cons_zero, getElem_cons_succ, Act.put, setIfInBounds_toArray, set_cons_zero, set_cons_succ]
                      refine WA.take (i := 13) (v := undef) rfl (by kernel_rfl) (by kernel_rfl) (by kernel_rfl) (fun _ _ _ h => h) (hdrop 13) (Or.inr ⟨by rfl, rfl⟩) (hS _) ?_
                      simp only [getElem_toArray, getElem_cons_zero, getElem_cons_succ, Act.put, setIfInBounds_toArray, set_cons_zero, set_cons_succ]
                      refine WA.take (i := 14) (v := undef) rfl (by kernel_rfl) (by kernel_rfl) (by kernel_rfl) (fun _ _ _ h => h) (hdrop 14) (Or.inr ⟨by rfl, rfl⟩) (hS _) ?_
                      simp only [getElem_toArray, getElem_cons_zero, getElem_cons_succ, Act.put, setIfInBounds_toArray, set_cons_zero, set_cons_succ]
                      refine WA.take (i := 15) (v := undef) rfl (by kernel_rfl) (by kernel_rfl) (by kernel_rfl) (fun _ _ _ h => h) (hdrop 15) (Or.inr ⟨by rfl, rfl⟩) (hS _) ?_
                      simp only [getElem_toArray, getElem_cons_zero, getElem_cons_succ, Act.put, setIfInBounds_toArray, set_cons_zero, set_cons_succ]
                      refine WA.take (i := 16) (v := undef) rfl (by kernel_rfl) (by kernel_rfl) (by kernel_rfl) (fun _ _ _ h => h) (hdrop 16) (Or.inr ⟨by rfl, rfl⟩) (hS _) ?_
                      simp only [getElem_toArray, getElem_cons_zero, getElem_cons_succ, Act.put, setIfInBounds_toArray, set_cons_zero, set_cons_succ]
                      refine WA.take (i := 17) (v := undef) rfl (by kernel_rfl) (by kernel_rfl) (by kernel_rfl) (fun _ _ _ h => h) (hdrop 17) (Or.inr ⟨by rfl, rfl⟩) (hS _) ?_
                      simp only [getElem_toArray, getElem_cons_zero, getElem_cons_succ, Act.put, setIfInBounds_toArray, set_cons_zero, set_cons_succ]
                      refine WA.take (i := 18) (v := .bool false) rfl (by kernel_rfl) (by kernel_rfl) (by kernel_rfl) (fun _ _ _ h => h) (hdrop 18) (Or.inl ⟨by rfl, ?_⟩) (hS _) ?_
                      · rintro w' ⟨L, hL, hSw, hun⟩
                        go_simp
                      simp only [getElem_toArray, getElem_cons_zero, getElem_cons_succ, Act.put, setIfInBounds_toArray, set_cons_zero, set_cons_succ]
                      refine WA.take (i := 19) (v := .bool false) rfl (by kernel_rfl) (by kernel_rfl) (by kernel_rfl) (fun _ _ _ h => h) (hdrop 19) (Or.inl ⟨by rfl, ?_⟩) (hS _) ?_
                      · rintro w' ⟨L, hL, hSw, hun⟩
                        go_simp
                      simp only [getElem_toArray, getElem_cons_zero, getElem_cons_succ, Act.put, setIfInBounds_toArray, set_cons_zero, set_cons_succ]
                      refine WA.done (by kernel_rfl) ?_ _
                      refine Nrm.normal ?_
                      clear hSo hSi hS hdrop c0 yk pv cq
                      clear S36
                      go_wp2_with fail
                      refine ⟨⟨kq + 1, false, L.set q y, by omega, rfl, by push_cast; rfl, by rw [List.length_set]; exact Hll.out, (rbindP_new HqL.out Hu2.out).symm.trans Hrb2.out, ?_, ?_⟩, by simp [intOf]; omega⟩
                      · rw [HY.out]; exact HB8.out.drew
                      · rw [HY.out]; exact own_below Hio8.out (Below.refl _ w8).drew
                    · go_wp2_with fail
                      have c0 : w8.drew.cell? ⟨E.gb, 0, none⟩ = some (.slice (some ⟨rb, ro, none⟩) tl E.rcap) := cx0
                      have yk : w8.drew.cell? ⟨rb, ro + i * 4 + kq, none⟩ = some (.int .u32 y) := cxy
                      have pv : w8.drew.cell? ⟨w2.heap.size, 0, none⟩ = some (.int .i64 (q : Nat)) := cxv
                      have cq : w8.drew.cell? ⟨cg, q, none⟩ = some (.int .u32 y) := cxq
                      obtain ⟨S36, hSe⟩ : ∃ S : Array Bool → World → Prop, S = fun _ w' => Below w8.drew.heap.size w8.drew w' := ⟨_, rfl⟩
                      have hdrop : ∀ i : Nat, ∀ L w', S36 (L.setIfInBounds i true) w' → S36 L w' := by
                        intro i L w' h; rw [hSe] at h ⊢; exact h
                      have hS : ∀ L, S36 L w8.drew := by intro L; rw [hSe]; exact Below.refl _ _
                      have hSo : ∀ {L w'}, S36 L w' → Below w8.drew.heap.size w8.drew w' := by intro L w' h; rw [hSe] at h; exact h
                      have hSi : ∀ {w'}, Below w8.drew.heap.size w8.drew w' → ∀ L, S36 L w' := by intro w' h L; rw [hSe]; exact h
                      clear hSe
                      refine wp_region_LN S36 20 #[false, false, false, false, false, false, false, false, false, false, false, false, false, false, false, false, false, false, false, false] (by kernel_rfl) (by kernel_rfl) rfl ?_
                      obtain ⟨Y_, hY⟩ : ∃ Y_, Y_ = w8.drew := ⟨_, rfl⟩
                      rw [← hY] at c0 yk pv cq hSo hSi hS ⊢
                      have HY := Lib.hid hY
                      clear hY
                      refine WA.take (i := 0) (v := .bool true) rfl (by kernel_rfl) (by kernel_rfl) (by kernel_rfl) (fun _ _ _ h => h) (hdrop 0) (Or.inl ⟨by rfl, ?_⟩) (hS _) ?_
                      · rintro w' ⟨L, hL, hSw, hun⟩
                        go_simp
                      simp only [getElem_toArray, getElem_cons_zero, getElem_cons_succ, Act.put, setIfInBounds_toArray, set_cons_zero, set_cons_succ]
                      refine WA.take (i := 1) (v := .bool true) rfl (by kernel_rfl) (by kernel_rfl) (by kernel_rfl) (fun _ _ _ h => h) (hdrop 1) (Or.inl ⟨by rfl, ?_⟩) (hS _) ?_
                      · rintro w' ⟨L, hL, hSw, hun⟩
                        go_simp
                      simp only [getElem_toArray, getElem_cons_zero, getElem_cons_succ, Act.put, setIfInBounds_toArray, set_cons_zero, set_cons_succ]
                      refine WA.take (i := 2) (v := .slice (some ⟨cg, 0, none⟩) E.vars cc) rfl (by kernel_rfl) (by kernel_rfl) (by kernel_rfl) (fun _ _ _ h => h) (hdrop 2) (Or.inl ⟨by rfl, ?_⟩) (hS _) ?_
                      · rintro w' ⟨L, hL, hSw, hun⟩
                        go_simp
                      simp only [getElem_toArray, getElem_cons_zero, getElem_cons_succ, Act.put, setIfInBounds_toArray, set_cons_zero, set_cons_succ]
                      refine WA.take (i := 3) (v := .pointer (some ⟨w2.heap.size, 0, none⟩)) rfl (by kernel_rfl) (by kernel_rfl) (by kernel_rfl) (fun _ _ _ h => h) (hdrop 3) (Or.inl ⟨by rfl, ?_⟩) (hS _) ?_
                      · rintro w' ⟨L, hL, hSw, hun⟩
                        go_simp
                      simp only [getElem_toArray, getElem_cons_zero, getElem_cons_succ, Act.put, setIfInBounds_toArray, set_cons_zero, set_cons_succ]
                      refine WA.take (i := 4) (v := .int .i64 (q : Nat)) rfl (by kernel_rfl) (by kernel_rfl) (by kernel_rfl) (fun _ _ _ h => h) (hdrop 4) (Or.inl ⟨by rfl, ?_⟩) (hS _) ?_
                      · rintro w' ⟨L, hL, hSw, hun⟩
                        have hbw := hSo hSw
                        have pv := cell_later hbw pv
                        clear hbw
                        go_simp
                      simp only [getElem_toArray, getElem_cons_zero, getElem_cons_succ, Act.put, setIfInBounds_toArray, set_cons_zero, set_cons_succ]
                      refine WA.take (i := 5) (v := .pointer (some ⟨cg, q, none⟩)) rfl (by kernel_rfl) (by kernel_rfl) (by kernel_rfl) (fun _ _ _ h => h) (hdrop 5) (Or.inl ⟨by rfl, ?_⟩) (hS _) ?_
                      · rintro w' ⟨L, hL, hSw, hun⟩
                        go_simp
                      simp only [getElem_toArray, getElem_cons_zero, getElem_cons_succ, Act.put, setIfInBounds_toArray, set_cons_zero, set_cons_succ]
                      refine WA.take (i := 6) (v := .int .u32 y) rfl (by kernel_rfl) (by kernel_rfl) (by kernel_rfl) (fun _ _ _ h => h) (hdrop 6) (Or.inl ⟨by rfl, ?_⟩) (hS _) ?_
                      · rintro w' ⟨L, hL, hSw, hun⟩
                        have hbw := hSo hSw
                        have cq := cell_later hbw cq
                        clear hbw
                        go_simp
                      simp only [getElem_toArray, getElem_cons_zero, getElem_cons_succ, Act.put, setIfInBounds_toArray, set_cons_zero, set_cons_succ]
                      refine WA.take (i := 7) (v := .pointer (some ⟨E.gb, 0, none⟩)) rfl (by kernel_rfl) (by kernel_rfl) (by kernel_rfl) (fun _ _ _ h => h) (hdrop 7) (Or.inl ⟨by rfl, ?_⟩) (hS _) ?_
                      · rintro w' ⟨L, hL, hSw, hun⟩
                        go_simp
                      simp only [getElem_toArray, getElem_cons_zero, getElem_cons_succ, Act.put, setIfInBounds_toArray, set_cons_zero, set_cons_succ]
                      refine WA.take (i := 8) (v := .pointer (some ⟨E.gb, 0, none⟩)) rfl (by kernel_rfl) (by kernel_rfl) (by kernel_rfl) (fun _ _ _ h => h) (hdrop 8) (Or.inl ⟨by rfl, ?_⟩) (hS _) ?_
                      · rintro w' ⟨L, hL, hSw, hun⟩
                        go_simp
                      simp only [getElem_toArray, getElem_cons_zero, getElem_cons_succ, Act.put, setIfInBounds_toArray, set_cons_zero, set_cons_succ]
                      refine WA.take (i := 9) (v := .pointer (some ⟨E.gb, 0, none⟩)) rfl (by kernel_rfl) (by kernel_rfl) (by kernel_rfl) (fun _ _ _ h => h) (hdrop 9) (Or.inl ⟨by rfl, ?_⟩) (hS _) ?_
                      · rintro w' ⟨L, hL, hSw, hun⟩
                        go_simp
                      simp only [getElem_toArray, getElem_cons_zero, getElem_cons_succ, Act.put, setIfInBounds_toArray, set_cons_zero, set_cons_succ]
                      refine WA.take (i := 10) (v := .slice (some ⟨rb, ro, none⟩) tl E.rcap) rfl (by kernel_rfl) (by kernel_rfl) (by kernel_rfl) (fun _ _ _ h => h) (hdrop 10) (Or.inl ⟨by rfl, ?_⟩) (hS _) ?_
                      · rintro w' ⟨L, hL, hSw, hun⟩
                        have hbw := hSo hSw
                        have c0 := cell_later hbw c0
                        clear hbw
                        go_simp
                      simp only [getElem_toArray, getElem_cons_zero, getElem_cons_succ, Act.put, setIfInBounds_toArray, set_cons_zero, set_cons_succ]
                      refine WA.take (i := 11) (v := .int .i64 (i : Nat)) rfl (by kernel_rfl) (by kernel_rfl) (by kernel_rfl) (fun _ _ _ h => h) (hdrop 11) (Or.inl ⟨by rfl, ?_⟩) (hS _) ?_
                      · rintro w' ⟨L, hL, hSw, hun⟩
                        go_simp
                      simp only [getElem_toArray, getElem_cons_zero, getElem_cons_succ, Act.put, setIfInBounds_toArray, set_cons_zero, set_cons_succ]
                      refine WA.take (i := 12) (v := .int .i64 (kq : Nat)) rfl (by kernel_rfl) (by kernel_rfl) (by kernel_rfl) (fun _ _ _ h => h) (hdrop 12) (Or.inl ⟨by rfl, ?_⟩) (hS _) ?_
                      · rintro w' ⟨L, hL, hSw, hun⟩
                        go_simp
                      simp only [getElem_toArray, getElem_cons_zero, getElem_cons_succ, Act.put, setIfInBounds_toArray, set_cons_zero, set_cons_succ]
                      refine WA.take (i := 13) (v := .pointer (some ⟨rb, ro + i * 4, none⟩)) rfl (by kernel_rfl) (by kernel_rfl) (by kernel_rfl) (fun _ _ _ h => h) (hdrop 13) (Or.inl ⟨by rfl, ?_⟩) (hS _) ?_
                      · rintro w' ⟨L, hL, hSw, hun⟩
                        go_simp
                      simp only [getElem_toArray, getElem_cons_zero, getElem_cons_succ, Act.put, setIfInBounds_toArray, set_cons_zero, set_cons_succ]
                      refine WA.take (i := 14) (v := .pointer (some ⟨rb, ro + i * 4, none⟩)) rfl (by kernel_rfl) (by kernel_rfl) (by kernel_rfl) (fun _ _ _ h => h) (hdrop 14) (Or.inl ⟨by rfl, ?_⟩) (hS _) ?_
                      · rintro w' ⟨L, hL, hSw, hun⟩
                        go_simp
                      simp only [getElem_toArray, getElem_cons_zero, getElem_cons_succ, Act.put, setIfInBounds_toArray, set_cons_zero, set_cons_succ]
                      refine WA.take (i := 15) (v := .pointer (some ⟨rb, ro + i * 4 + kq, none⟩)) rfl (by kernel_rfl) (by kernel_rfl) (by kernel_rfl) (fun _ _ _ h => h) (hdrop 15) (Or.inl ⟨by rfl, ?_⟩) (hS _) ?_
                      · rintro w' ⟨L, hL, hSw, hun⟩
                        go_simp
                        intro h5; omega
                      simp only [getElem_toArray, getElem_cons_zero, getElem_cons_succ, Act.put, setIfInBounds_toArray, set_cons_zero, set_cons_succ]
                      refine WA.take (i := 16) (v := .int .u32 y) rfl (by kernel_rfl) (by kernel_rfl) (by kernel_rfl) (fun _ _ _ h => h) (hdrop 16) (Or.inl ⟨by rfl, ?_⟩) (hS _) ?_
                      · rintro w' ⟨L, hL, hSw, hun⟩
                        have hbw := hSo hSw
                        have yk := cell_later hbw yk
                        clear hbw
                        go_simp
                      simp only [getElem_toArray, getElem_cons_zero, getElem_cons_succ, Act.put, setIfInBounds_toArray, set_cons_zero, set_cons_succ]
                      refine WA.take (i := 17) (v := .bool (y == y)) rfl (by kernel_rfl) (by kernel_rfl) (by kernel_rfl) (fun _ _ _ h => h) (hdrop 17) (Or.inl ⟨by rfl, ?_⟩) (hS _) ?_
                      · rintro w' ⟨L, hL, hSw, hun⟩
                        go_simp
                      simp only [getElem_toArray, getElem_cons_zero, getElem_cons_succ, Act.put, setIfInBounds_toArray, set_cons_zero, set_cons_succ]
                      refine WA.take (i := 18) (v := .bool (y == y)) rfl (by kernel_rfl) (by kernel_rfl) (by kernel_rfl) (fun _ _ _ h => h) (hdrop 18) (Or.inl ⟨by rfl, ?_⟩) (hS _) ?_
                      · rintro w' ⟨L, hL, hSw, hun⟩
                        go_simp
                      simp only [getElem_toArray, getElem_cons_zero, getElem_cons_succ, Act.put, setIfInBounds_toArray, set_cons_zero, set_cons_succ]
                      refine WA.take (i := 19) (v := .bool (y == y)) rfl (by kernel_rfl) (by kernel_rfl) (by kernel_rfl) (fun _ _ _ h => h) (hdrop 19) (Or.inl ⟨by rfl, ?_⟩) (hS _) ?_
                      · rintro w' ⟨L, hL, hSw, hun⟩
                        go_simp
                      simp only [getElem_toArray, getElem_cons_zero, getElem_cons_succ, Act.put, setIfInBounds_toArray, set_cons_zero, set_cons_succ]
                      refine WA.done (by kernel_rfl) ?_ _
                      refine Nrm.normal ?_
                      clear hSo hSi hS hdrop c0 yk pv cq
                      clear S36
                      go_wp2_with fail
                      refine ⟨⟨kq + 1, true, L.set q y, by omega, by simp, by push_cast; rfl, by rw [List.length_set]; exact Hll.out, (rbindP_new HqL.out Hu2.out).symm.trans Hrb2.out, ?_, ?_⟩, by simp [intOf]; omega⟩
                      · rw [HY.out]; exact HB8.out.drew
                      · rw [HY.out]; exact own_below Hio8.out (Below.refl _ w8).drew
                  · have hdz : (u == 0) = false := by simpa using hz
                    cases g
                    · go_wp2_with fail
                      generalize hW7 : w2.alloc (.cells #[.int .i64 (q : Nat), .int .u32 id] 25) = w7 at *
                      clear hW7 hcq cz0 pcy pc0 pc1
                      have c0 : w7.drew.cell? ⟨E.gb, 0, none⟩ = some (.slice (some ⟨rb, ro, none⟩) tl E.rcap) := cx0
                      have yk : w7.drew.cell? ⟨rb, ro + i * 4 + kq, none⟩ = some (.int .u32 y) := cxy
                      have pv : w7.drew.cell? ⟨w2.heap.size, 0, none⟩ = some (.int .i64 (q : Nat)) := cxv
                      have cq : w7.drew.cell? ⟨cg, q, none⟩ = some (.int .u32 u) := cxq
                      obtain ⟨S36, hSe⟩ : ∃ S : Array Bool → World → Prop, S = fun _ w' => Below w7.drew.heap.size w7.drew w' := ⟨_, rfl⟩
                      have hdrop : ∀ i : Nat, ∀ L w', S36 (L.setIfInBounds i true) w' → S36 L w' := by
                        intro i L w' h; rw [hSe] at h ⊢; exact h
                      have hS : ∀ L, S36 L w7.drew := by intro L; rw [hSe]; exact Below.refl _ _
                      have hSo : ∀ {L w'}, S36 L w' → Below w7.drew.heap.size w7.drew w' := by intro L w' h; rw [hSe] at h; exact h
                      have hSi : ∀ {w'}, Below w7.drew.heap.size w7.drew w' → ∀ L, S36 L w' := by intro w' h L; rw [hSe]; exact h
                      clear hSe
                      refine wp_region_LN S36 20 #[false, false, false, false, false, false, false, false, false, false, false, false, false, false, false, false, false, false, false, false] (by kernel_rfl) (by kernel_rfl) rfl ?_
                      obtain ⟨Y_, hY⟩ : ∃ Y_, Y_ = w7.drew := ⟨_, rfl⟩
                      rw [← hY] at c0 yk pv cq hSo hSi hS ⊢
                      have HY := Lib.hid hY
                      clear hY
                      refine WA.take (i := 0) (v := .bool false) rfl (by kernel_rfl) (by kernel_rfl) (by kernel_rfl) (fun _ _ _ h => h) (hdrop 0) (Or.inl ⟨by rfl, ?_⟩) (hS _) ?_
                      · rintro w' ⟨L, hL, hSw, hun⟩
                        go_simp
                      simp only [getElem_toArray, getElem_cons_zero, getElem_cons_succ, Act.put, setIfInBounds_toArray, set_cons_zero, set_cons_succ]
                      refine WA.take (i := 1) (v := .bool false) rfl (by kernel_rfl) (by kernel_rfl) (by kernel_rfl) (fun _ _ _ h => h) (hdrop 1) (Or.inl ⟨by rfl, ?_⟩) (hS _) ?_
                      · rintro w' ⟨L, hL, hSw, hun⟩
                        go_simp
                      simp only [getElem_toArray, getElem_cons_zero, getElem_cons_succ, Act.put, setIfInBounds_toArray, set_cons_zero, set_cons_succ]
                      refine WA.take (i := 2) (v := undef) rfl (by kernel_rfl) (by kernel_rfl) (by kernel_rfl) (fun _ _ _ h => h) (hdrop 2) (Or.inr ⟨by rfl, rfl⟩) (hS _) ?_
                      simp only [getElem_toArray, getElem_cons_zero, getElem_cons_succ, Act.put, setIfInBounds_toArray, set_cons_zero, set_cons_succ]
                      refine WA.take (i := 3) (v := undef) rfl (by kernel_rfl) (by kernel_rfl) (by kernel_rfl) (fun _ _ _ h => h) (hdrop 3) (Or.inr ⟨by rfl, rfl⟩) (hS _) ?_
                      simp only [getElem_toArray, getElem_cons_zero, getElem_cons_succ, Act.put, setIfInBounds_toArray, set_cons_zero, set_cons_succ]
                      refine WA.take (i := 4) (v := undef) rfl (by kernel_rfl) (by kernel_rfl) (by kernel_rfl) (fun _ _ _ h => h) (hdrop 4) (Or.inr ⟨by rfl, rfl⟩) (hS _) ?_
                      simp only [getElem_toArray, getElem_cons_zero, getElem_cons_succ, Act.put, setIfInBounds_toArray, set_cons_zero, set_cons_succ]
                      refine WA.take (i := 5) (v := undef) rfl (by kernel_rfl) (by kernel_rfl) (by kernel_rfl) (fun _ _ _ h => h) (hdrop 5) (Or.inr ⟨by rfl, rfl⟩) (hS _) ?_
                      simp only [getElem_toArray, getElem_cons_zero, getElem_cons_succ, Act.put, setIfInBounds_toArray, set_cons_zero, set_cons_succ]
                      refine WA.take (i := 6) (v := undef) rfl (by kernel_rfl) (by kernel_rfl) (by kernel_rfl) (fun _ _ _ h => h) (hdrop 6) (Or.inr ⟨by rfl, rfl⟩) (hS _) ?_
                      simp only [getElem_toArray, getElem_cons_zero, getElem_cons_succ, Act.put, setIfInBounds_toArray, set_cons_zero, set_cons_succ]
                      refine WA.take (i := 7) (v := undef) rfl (by kernel_rfl) (by kernel_rfl) (by kernel_rfl) (fun _ _ _ h => h) (hdrop 7) (Or.inr ⟨by rfl, rfl⟩) (hS _) ?_
                      simp only [getElem_toArray, getElem_cons_zero, getElem_cons_succ, Act.put, setIfInBounds_toArray, set_cons_zero, set_cons_succ]
                      refine WA.take (i := 8) (v := undef) rfl (by kernel_rfl) (by kernel_rfl) (by kernel_rfl) (fun _ _ _ h => h) (hdrop 8) (Or.inr ⟨by rfl, rfl⟩) (hS _) ?_
                      simp only [getElem_toArray, getElem_cons_zero, getElem_cons_succ, Act.put, setIfInBounds_toArray, set_cons_zero, set_cons_succ]
                      refine WA.take (i := 9) (v := undef) rfl (by kernel_rfl) (by kernel_rfl) (by kernel_rfl) (fun _ _ _ h => h) (hdrop 9) (Or.inr ⟨by rfl, rfl⟩) (hS _) ?_
                      simp only [getElem_toArray, getElem_cons_zero, getElem_cons_succ, Act.put, setIfInBounds_toArray, set_cons_zero, set_cons_succ]
                      refine WA.take (i := 10) (v := undef) rfl (by kernel_rfl) (by kernel_rfl) (by kernel_rfl) (fun _ _ _ h => h) (hdrop 10) (Or.inr ⟨by rfl, rfl⟩) (hS _) ?_
                      simp only [getElem_toArray, getElem_cons_zero, getElem_cons_succ, Act.put, setIfInBounds_toArray, set_cons_zero, set_cons_succ]
                      refine WA.take (i := 11) (v := undef) rfl (by kernel_rfl) (by kernel_rfl) (by kernel_rfl) (fun _ _ _ h => h) (hdrop 11) (Or.inr ⟨by rfl, rfl⟩) (hS _) ?_
                      simp only [getElem_toArray, getElem_cons_zero, getElem_cons_succ, Act.put, setIfInBounds_toArray, set_cons_zero, set_cons_succ]
                      refine WA.take (i := 12) (v := undef) rfl (by kernel_rfl) (by kernel_rfl) (by kernel_rfl) (fun _ _ _ h => h) (hdrop 12) (Or.inr ⟨by rfl, rfl⟩) (hS _) ?_
                      simp only [getElem_toArray, getElem_cons_zero, getElem_cons_succ, Act.put, setIfInBounds_toArray, set_cons_zero, set_cons_succ]
                      refine WA.take (i := 13) (v := undef) rfl (by kernel_rfl) (by kernel_rfl) (by kernel_rfl) (fun _ _ _ h => h) (hdrop 13) (Or.inr ⟨by rfl, rfl⟩) (hS _) ?_
                      simp only [getElem_toArray, getElem_cons_zero, getElem_cons_succ, Act.put, setIfInBounds_toArray, set_cons_zero, set_cons_succ]
                      refine WA.take (i := 14) (v := undef) rfl (by kernel_rfl) (by kernel_rfl) (by kernel_rfl) (fun _ _ _ h => h) (hdrop 14) (Or.inr ⟨by rfl, rfl⟩) (hS _) ?_
                      simp only [getElem_toArray, getElem_cons_zero, getElem_cons_succ, Act.put, setIfInBounds_toArray, set_cons_zero, set_cons_succ]
                      refine WA.take (i := 15) (v := undef) rfl (by kernel_rfl) (by kernel_rfl) (by kernel_rfl) (fun _ _ _ h => h) (hdrop 15) (Or.inr ⟨by rfl, rfl⟩) (hS _) ?_
                      simp only [getElem_toArray, getElem_cons_zero, getElem_cons_succ, Act.put, setIfInBounds_toArray, set_cons_zero, set_cons_succ]
                      refine WA.take (i := 16) (v := undef) rfl (by kernel_rfl) (by kernel_rfl) (by kernel_rfl) (fun _ _ _ h => h) (hdrop 16) (Or.inr ⟨by rfl, rfl⟩) (hS _) ?_
                      simp only [getElem_toArray, getElem_cons_zero, getElem_cons_succ, Act.put, setIfInBounds_toArray, set_cons_zero, set_cons_succ]
                      refine WA.take (i := 17) (v := undef) rfl (by kernel_rfl) (by kernel_rfl) (by kernel_rfl) (fun _ _ _ h => h) (hdrop 17) (Or.inr ⟨by rfl, rfl⟩) (hS _) ?_
                      simp only [getElem_toArray, getElem_cons_zero, getElem_cons_succ, Act.put, setIfInBounds_toArray, set_cons_zero, set_cons_succ]
                      refine WA.take (i := 18) (v := .bool false) rfl (by kernel_rfl) (by kernel_rfl) (by kernel_rfl) (fun _ _ _ h => h) (hdrop 18) (Or.inl ⟨by rfl, ?_⟩) (hS _) ?_
                      · rintro w' ⟨L, hL, hSw, hun⟩
                        go_simp
                      simp only [getElem_toArray, getElem_cons_zero, getElem_cons_succ, Act.put, setIfInBounds_toArray, set_cons_zero, set_cons_succ]
                      refine WA.take (i := 19) (v := .bool false) rfl (by kernel_rfl) (by kernel_rfl) (by kernel_rfl) (fun _ _ _ h => h) (hdrop 19) (Or.inl ⟨by rfl, ?_⟩) (hS _) ?_
                      · rintro w' ⟨L, hL, hSw, hun⟩
                        go_simp
                      simp only [getElem_toArray, getElem_cons_zero, getElem_cons_succ, Act.put, setIfInBounds_toArray, set_cons_zero, set_cons_succ]
                      refine WA.done (by kernel_rfl) ?_ _
                      refine Nrm.normal ?_
                      clear hSo hSi hS hdrop c0 yk pv cq
                      clear S36
                      go_wp2_with fail
                      refine ⟨⟨kq + 1, false, L, by omega, rfl, by push_cast; rfl, Hll.out, ?_, ?_, ?_⟩, by simp [intOf]; omega⟩
                      · have h5 := Hrb2.out
                        rw [rbindP_old HqL.out (by rw [Hu2.out]; exact hz), Bool.false_and] at h5
                        exact h5
                      · rw [HY.out]; exact HBY7.out.drew
                      · rw [HY.out]; exact own_below Hio7.out (Below.refl _ w7).drew
                    · go_wp2_with fail
                      generalize hW7 : w2.alloc (.cells #[.int .i64 (q : Nat), .int .u32 id] 25) = w7 at *
                      clear hW7 hcq cz0 pcy pc0 pc1
                      have c0 : w7.drew.cell? ⟨E.gb, 0, none⟩ = some (.slice (some ⟨rb, ro, none⟩) tl E.rcap) := cx0
                      have yk : w7.drew.cell? ⟨rb, ro + i * 4 + kq, none⟩ = some (.int .u32 y) := cxy
                      have pv : w7.drew.cell? ⟨w2.heap.size, 0, none⟩ = some (.int .i64 (q : Nat)) := cxv
                      have cq : w7.drew.cell? ⟨cg, q, none⟩ = some (.int .u32 u) := cxq
                      obtain ⟨S36, hSe⟩ : ∃ S : Array Bool → World → Prop, S = fun _ w' => Below w7.drew.heap.size w7.drew w' := ⟨_, rfl⟩
                      have hdrop : ∀ i : Nat, ∀ L w', S36 (L.setIfInBounds i true) w' → S36 L w' := by
                        intro i L w' h; rw [hSe] at h ⊢; exact h
                      have hS : ∀ L, S36 L w7.drew := by intro L; rw [hSe]; exact Below.refl _ _
                      have hSo : ∀ {L w'}, S36 L w' → Below w7.drew.heap.size w7.drew w' := by intro L w' h; rw [hSe] at h; exact h
                      have hSi : ∀ {w'}, Below w7.drew.heap.size w7.drew w' → ∀ L, S36 L w' := by intro w' h L; rw [hSe]; exact h
                      clear hSe
                      refine wp_region_LN S36 20 #[false, false, false, false, false, false, false, false, false, false, false, false, false, false, false, false, false, false, false, false] (by kernel_rfl) (by kernel_rfl) rfl ?_
                      obtain ⟨Y_, hY⟩ : ∃ Y_, Y_ = w7.drew := ⟨_, rfl⟩
                      rw [← hY] at c0 yk pv cq hSo hSi hS ⊢
                      have HY := Lib.hid hY
                      clear hY
                      refine WA.take (i := 0) (v := .bool true) rfl (by kernel_rfl) (by kernel_rfl) (by kernel_rfl) (fun _ _ _ h => h) (hdrop 0) (Or.inl ⟨by rfl, ?_⟩) (hS _) ?_
                      · rintro w' ⟨L, hL, hSw, hun⟩
                        go_simp
                      simp only [getElem_toArray, getElem_cons_zero, getElem_cons_succ, Act.put, setIfInBounds_toArray, set_cons_zero, set_cons_succ]
                      refine WA.take (i := 1) (v := .bool true) rfl (by kernel_rfl) (by kernel_rfl) (by kernel_rfl) (fun _ _ _ h => h) (hdrop 1) (Or.inl ⟨by rfl, ?_⟩) (hS _) ?_
                      · rintro w' ⟨L, hL, hSw, hun⟩
                        go_simp
                      simp only [getElem_toArray, getElem_cons_zero, getElem_cons_succ, Act.put, setIfInBounds_toArray, set_cons_zero, set_cons_succ]
                      refine WA.take (i := 2) (v := .slice (some ⟨cg, 0, none⟩) E.vars cc) rfl (by kernel_rfl) (by kernel_rfl) (by kernel_rfl) (fun _ _ _ h => h) (hdrop 2) (Or.inl ⟨by rfl, ?_⟩) (hS _) ?_
                      · rintro w' ⟨L, hL, hSw, hun⟩
                        go_simp
                      simp only [getElem_toArray, getElem_cons_zero, getElem_cons_succ, Act.put, setIfInBounds_toArray, set_cons_zero, set_cons_succ]
                      refine WA.take (i := 3) (v := .pointer (some ⟨w2.heap.size, 0, none⟩)) rfl (by kernel_rfl) (by kernel_rfl) (by kernel_rfl) (fun _ _ _ h => h) (hdrop 3) (Or.inl ⟨by rfl, ?_⟩) (hS _) ?_
                      · rintro w' ⟨L, hL, hSw, hun⟩
                        go_simp
                      simp only [getElem_toArray, getElem_cons_zero, getElem_cons_succ, Act.put, setIfInBounds_toArray, set_cons_zero, set_cons_succ]
                      refine WA.take (i := 4) (v := .int .i64 (q : Nat)) rfl (by kernel_rfl) (by kernel_rfl) (by kernel_rfl) (fun _ _ _ h => h) (hdrop 4) (Or.inl ⟨by rfl, ?_⟩) (hS _) ?_
                      · rintro w' ⟨L, hL, hSw, hun⟩
                        have hbw := hSo hSw
                        have pv := cell_later hbw pv
                        clear hbw
                        go_simp
                      simp only [getElem_toArray, getElem_cons_zero, getElem_cons_succ, Act.put, setIfInBounds_toArray, set_cons_zero, set_cons_succ]
                      refine WA.take (i := 5) (v := .pointer (some ⟨cg, q, none⟩)) rfl (by kernel_rfl) (by kernel_rfl) (by kernel_rfl) (fun _ _ _ h => h) (hdrop 5) (Or.inl ⟨by rfl, ?_⟩) (hS _) ?_
                      · rintro w' ⟨L, hL, hSw, hun⟩
                        go_simp
                      simp only [getElem_toArray, getElem_cons_zero, getElem_cons_succ, Act.put, setIfInBounds_toArray, set_cons_zero, set_cons_succ]
                      refine WA.take (i := 6) (v := .int .u32 u) rfl (by kernel_rfl) (by kernel_rfl) (by kernel_rfl) (fun _ _ _ h => h) (hdrop 6) (Or.inl ⟨by rfl, ?_⟩) (hS _) ?_
                      · rintro w' ⟨L, hL, hSw, hun⟩
                        have hbw := hSo hSw
                        have cq := cell_later hbw cq
                        clear hbw
                        go_simp
                      simp only [getElem_toArray, getElem_cons_zero, getElem_cons_succ, Act.put, setIfInBounds_toArray, set_cons_zero, set_cons_succ]
                      refine WA.take (i := 7) (v := .pointer (some ⟨E.gb, 0, none⟩)) rfl (by kernel_rfl) (by kernel_rfl) (by kernel_rfl) (fun _ _ _ h => h) (hdrop 7) (Or.inl ⟨by rfl, ?_⟩) (hS _) ?_
                      · rintro w' ⟨L, hL, hSw, hun⟩
                        go_simp
                      simp only [getElem_toArray, getElem_cons_zero, getElem_cons_succ, Act.put, setIfInBounds_toArray, set_cons_zero, set_cons_succ]
                      refine WA.take (i := 8) (v := .pointer (some ⟨E.gb, 0, none⟩)) rfl (by kernel_rfl) (by kernel_rfl) (by kernel_rfl) (fun _ _ _ h => h) (hdrop 8) (Or.inl ⟨by rfl, ?_⟩) (hS _) ?_
                      · rintro w' ⟨L, hL, hSw, hun⟩
                        go_simp
                      simp only [getElem_toArray, getElem_cons_zero, getElem_cons_succ, Act.put, setIfInBounds_toArray, set_cons_zero, set_cons_succ]
                      refine WA.take (i := 9) (v := .pointer (some ⟨E.gb, 0, none⟩)) rfl (by kernel_rfl) (by kernel_rfl) (by kernel_rfl) (fun _ _ _ h => h) (hdrop 9) (Or.inl ⟨by rfl, ?_⟩) (hS _) ?_
                      · rintro w' ⟨L, hL, hSw, hun⟩
                        go_simp
                      simp only [getElem_toArray, getElem_cons_zero, getElem_cons_succ, Act.put, setIfInBounds_toArray, set_cons_zero, set_cons_succ]
                      refine WA.take (i := 10) (v := .slice (some ⟨rb, ro, none⟩) tl E.rcap) rfl (by kernel_rfl) (by kernel_rfl) (by kernel_rfl) (fun _ _ _ h => h) (hdrop 10) (Or.inl ⟨by rfl, ?_⟩) (hS _) ?_
                      · rintro w' ⟨L, hL, hSw, hun⟩
                        have hbw := hSo hSw
                        have c0 := cell_later hbw c0
                        clear hbw
                        go_simp
                      simp only [getElem_toArray, getElem_cons_zero, getElem_cons_succ, Act.put, setIfInBounds_toArray, set_cons_zero, set_cons_succ]
                      refine WA.take (i := 11) (v := .int .i64 (i : Nat)) rfl (by kernel_rfl) (by kernel_rfl) (by kernel_rfl) (fun _ _ _ h => h) (hdrop 11) (Or.inl ⟨by rfl, ?_⟩) (hS _) ?_
                      · rintro w' ⟨L, hL, hSw, hun⟩
                        go_simp
                      simp only [getElem_toArray, getElem_cons_zero, getElem_cons_succ, Act.put, setIfInBounds_toArray, set_cons_zero, set_cons_succ]
                      refine WA.take (i := 12) (v := .int .i64 (kq : Nat)) rfl (by kernel_rfl) (by kernel_rfl) (by kernel_rfl) (fun _ _ _ h => h) (hdrop 12) (Or.inl ⟨by rfl, ?_⟩) (hS _) ?_
                      · rintro w' ⟨L, hL, hSw, hun⟩
                        go_simp
                      simp only [getElem_toArray, getElem_cons_zero, getElem_cons_succ, Act.put, setIfInBounds_toArray, set_cons_zero, set_cons_succ]
                      refine WA.take (i := 13) (v := .pointer (some ⟨rb, ro + i * 4, none⟩)) rfl (by kernel_rfl) (by kernel_rfl) (by kernel_rfl) (fun _ _ _ h => h) (hdrop 13) (Or.inl ⟨by rfl, ?_⟩) (hS _) ?_
                      · rintro w' ⟨L, hL, hSw, hun⟩
                        go_simp
                      simp only [getElem_toArray, getElem_cons_zero, getElem_cons_succ, Act.put, setIfInBounds_toArray, set_cons_zero, set_cons_succ]
                      refine WA.take (i := 14) (v := .pointer (some ⟨rb, ro + i * 4, none⟩)) rfl (by kernel_rfl) (by kernel_rfl) (by kernel_rfl) (fun _ _ _ h => h) (hdrop 14) (Or.inl ⟨by rfl, ?_⟩) (hS _) ?_
                      · rintro w' ⟨L, hL, hSw, hun⟩
                        go_simp
                      simp only [getElem_toArray, getElem_cons_zero, getElem_cons_succ, Act.put, setIfInBounds_toArray, set_cons_zero, set_cons_succ]
                      refine WA.take (i := 15) (v := .pointer (some ⟨rb, ro + i * 4 + kq, none⟩)) rfl (by kernel_rfl) (by kernel_rfl) (by kernel_rfl) (fun _ _ _ h => h) (hdrop 15) (Or.inl ⟨by rfl, ?_⟩) (hS _) ?_
                      · rintro w' ⟨L, hL, hSw, hun⟩
                        go_simp
                        intro h5; omega
                      simp only [getElem_toArray, getElem_cons_zero, getElem_cons_succ, Act.put, setIfInBounds_toArray, set_cons_zero, set_cons_succ]
                      refine WA.take (i := 16) (v := .int .u32 y) rfl (by kernel_rfl) (by kernel_rfl) (by kernel_rfl) (fun _ _ _ h => h) (hdrop 16) (Or.inl ⟨by rfl, ?_⟩) (hS _) ?_
                      · rintro w' ⟨L, hL, hSw, hun⟩
                        have hbw := hSo hSw
                        have yk := cell_later hbw yk
                        clear hbw
                        go_simp
                      simp only [getElem_toArray, getElem_cons_zero, getElem_cons_succ, Act.put, setIfInBounds_toArray, set_cons_zero, set_cons_succ]
                      refine WA.take (i := 17) (v := .bool (u == y)) rfl (by kernel_rfl) (by kernel_rfl) (by kernel_rfl) (fun _ _ _ h => h) (hdrop 17) (Or.inl ⟨by rfl, ?_⟩) (hS _) ?_
                      · rintro w' ⟨L, hL, hSw, hun⟩
                        go_simp
                      simp only [getElem_toArray, getElem_cons_zero, getElem_cons_succ, Act.put, setIfInBounds_toArray, set_cons_zero, set_cons_succ]
                      refine WA.take (i := 18) (v := .bool (u == y)) rfl (by kernel_rfl) (by kernel_rfl) (by kernel_rfl) (fun _ _ _ h => h) (hdrop 18) (Or.inl ⟨by rfl, ?_⟩) (hS _) ?_
                      · rintro w' ⟨L, hL, hSw, hun⟩
                        go_simp
                      simp only [getElem_toArray, getElem_cons_zero, getElem_cons_succ, Act.put, setIfInBounds_toArray, set_cons_zero, set_cons_succ]
                      refine WA.take (i := 19) (v := .bool (u == y)) rfl (by kernel_rfl) (by kernel_rfl) (by kernel_rfl) (fun _ _ _ h => h) (hdrop 19) (Or.inl ⟨by rfl, ?_⟩) (hS _) ?_
                      · rintro w' ⟨L, hL, hSw, hun⟩
                        go_simp
                      simp only [getElem_toArray, getElem_cons_zero, getElem_cons_succ, Act.put, setIfInBounds_toArray, set_cons_zero, set_cons_succ]
                      refine WA.done (by kernel_rfl) ?_ _
                      refine Nrm.normal ?_
                      clear hSo hSi hS hdrop c0 yk pv cq
                      clear S36
                      go_wp2_with fail
                      refine ⟨⟨kq + 1, u == y, L, by omega, rfl, by push_cast; rfl, Hll.out, ?_, ?_, ?_⟩, by simp [intOf]; omega⟩
                      · have h5 := Hrb2.out
                        rw [rbindP_old HqL.out (by rw [Hu2.out]; exact hz), Bool.true_and, Hu2.out] at h5
                        exact h5
                      · rw [HY.out]; exact HBY7.out.drew
                      · rw [HY.out]; exact own_below Hio7.out (Below.refl _ w7).drew
              · have hk3' : kq = 3 := by omega
                subst hk3'
                have hfin : (g, L) = rbindP (prs ⟨1, (a0, i0), (a1, i1), (a2, i2), (a3, i3), (a4, i4)⟩ (y0, y1, y2)) (true, b) := Hrb.out
                obtain ⟨hf1, hf2⟩ := rbindP_bind (prs ⟨1, (a0, i0), (a1, i1), (a2, i2), (a3, i3), (a4, i4)⟩ (y0, y1, y2)) b
                rw [← hfin] at hf1 hf2
                have Hf1 := Lib.hid hf1; have Hf2 := Lib.hid hf2
                clear hfin hf1 hf2
                have HMz := Lib.hid (HMY.out.below HB2.out)
                have Hsbz := Lib.hid ((HB2.out.block _ (Array.getElem?_eq_some_iff.1 HsbY.out).1).trans HsbY.out)
                have Hvbz := Lib.hid ((HB2.out.block _ (Array.getElem?_eq_some_iff.1 HvbY.out).1).trans HvbY.out)
                cases g
                · go_wp2_with fail
                  have hM := HMz.out
                  rw [← Hf1.out, if_neg (by simp), List.nil_append] at hM
                  exact ⟨⟨i + 1, kk + 1, ovr, new, by omega, by push_cast; rfl, hM, Hsbz.out, Hvbz.out⟩, by simp [intOf]; omega⟩
                · have hL : L = (bindP (prs ⟨1, (a0, i0), (a1, i1), (a2, i2), (a3, i3), (a4, i4)⟩ (y0, y1, y2)) b).2 := Hf2.out Hf1.out.symm
                  have HL := Lib.hid hL
                  clear hL
                  go_wp2_with fail
                  have hM := HMz.out
                  rw [← Hf1.out, if_pos rfl, ← HL.out] at hM
                  have hln := hM.len
                  rw [outsE_app, List.length_append] at hln
                  have hlk := hM.lk
                  rw [looksE_app] at hlk
                  have ho := Ho.out
                  have hk := Hk.out
                  have hc := Hnx.out (m + 1) L (.slice ca E.vars cc) w2 ovr (acc ++ new) (k + (kk + 1)) hM.gw (own_mono Hio.out HMY.out.gw.lows) Hll.out (by have := Hm.out; omega) (by rw [List.length_append]; omega) (by omega)
                  rw [show ((step + 1 : Nat) : Int) = (step : Int) + 1 by push_cast; rfl, show ((m + 1 : Nat) : Int) = (m : Int) + 1 by push_cast; rfl] at hc
                  refine hc.mono ?_
                  rintro e w4 ⟨rfl, ov', new', h1, h2, h3⟩
                  have HMe := Lib.hid (hM.call (Below.refl _ w2) h1 h2 h3)
                  have Hsbe := Lib.hid (h3.cells hM.gw Hsbz.out (by decide) (by decide))
                  have Hvbe := Lib.hid (h3.cells hM.gw Hvbz.out (by decide) (by decide))
                  clear hM hln hlk ho hk hc h1 h2 h3
                  go_wp2_with fail
                  exact ⟨⟨i + 1, _, ov', _, by omega, by push_cast; rfl, HMe.out, Hsbe.out, Hvbe.out⟩, by simp [intOf]; omega⟩
      · have hin' : i = tl := by omega
        subst hin'
        have hd : decide ((i : Int) < (i : Int)) = false := by simp
        go_wp2_with fail
        (try simp only [Exit.inBlock, Exit.then]); refine bodyPost_end (results_none rfl _ _ _) rfl ?_
        have hM := HM.out
        rw [restE_end (Nat.le_of_eq Htl.out)] at hM
        refine ⟨rfl, ovr, new, ?_, ?_, hM.turn⟩
        · have := hM.out
          rw [show outsE [] = [] from rfl, List.append_nil] at this
          exact this
        · have h5 := hM.lk
          rw [show looksE [] = 0 from rfl, Nat.add_zero] at h5
          rw [← h5]
          exact hM.gw
end Go.Proofs.Ytkgkkbfpkgfcaaa
