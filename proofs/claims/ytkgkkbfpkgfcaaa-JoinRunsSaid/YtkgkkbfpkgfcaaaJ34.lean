/- Layer 14: Go at a step that asks that no row fits. -/
import Derived.Test.YtkgkkbfpkgfcaaaJ33
namespace Go.Proofs.Ytkgkkbfpkgfcaaa
set_option maxRecDepth 100000
open Go.RowKit Go.Maps
set_option linter.unusedVariables false
set_option linter.unusedSimpArgs false

theorem IsRows4.low {A B : World} {a : Option Addr} {l : TS} (h : IsRows4 A a l) (hs : A.heap.size ≤ B.heap.size) (hl : ∀ i, i < A.heap.size → B.heap[i]? = A.heap[i]?) : IsRows4 B a l := fun i hi => by
  obtain ⟨b, o, h1, h2⟩ := h i hi
  have hb := hl b h2.lt
  exact ⟨b, o, h1, ⟨Nat.lt_of_lt_of_le h2.lt hs, (World.cell?_of_block (w := A) (a := ⟨b, _, none⟩) hb).trans h2.c0, (World.cell?_of_block (w := A) (a := ⟨b, _, none⟩) hb).trans h2.c1, (World.cell?_of_block (w := A) (a := ⟨b, _, none⟩) hb).trans h2.c2, (World.cell?_of_block (w := A) (a := ⟨b, _, none⟩) hb).trans h2.c3, h2.r, h2.b8⟩⟩
theorem rowBits {T : TS} {i : Nat} (h : i < T.length) {y : R3 × Int} (hy : T[i] = y) : rowOf T i = y.1 ∧ bitsOf T i = y.2 := by
  unfold rowOf bitsOf
  rw [List.getElem?_eq_getElem h, hy]
  exact ⟨rfl, rfl⟩
theorem GW.rows {E : GoE} {w : World} {ov : Value} {acc : List OutT} {k : Nat} (hE : GoOK E) (h : GW E w ov acc k) : IsRows4 w E.ra E.T := hE.rows.low h.lows h.low
set_option maxRecDepth 100000 in
set_option maxHeartbeats 8000000 in
theorem go_absent {E : GoE} (hE : GoOK E) {step : Nat} (hs : step < E.steps.length) (hk3 : E.steps[step].kind = 2) (hnext : GoC E (step + 1)) : GoC E step := by
  intro m b bv w ov acc k hg hb hbl hm ho hk
  obtain ⟨ba, bq, hbv, hu⟩ := hb.u
  rw [hbl] at hbv
  subst hbv
  obtain ⟨sb, so, hsa, hst⟩ := hE.st.low hg.lows hg.low step hs
  have hok := (hE.ok _ (List.getElem_mem hs)).2.2
  have hsN := hE.n
  have hvv := hE.vars
  obtain ⟨c0, c7, c9, c10, c11, c12, c13, cf⟩ := hg.c
  obtain ⟨⟨kk, ⟨a0, i0⟩, ⟨a1, i1⟩, ⟨a2, i2⟩, ⟨a3, i3⟩, ⟨a4, i4⟩⟩, hsi⟩ : ∃ s : StepT, E.steps[step] = s := ⟨_, rfl⟩
  rw [hsi] at hst hok hk3
  simp only at hk3
  subst hk3
  obtain ⟨hsl, e0, e1, e2, e3, e4, e5, e6, e7, e8, e9, e10⟩ := hst
  simp only at e0 e1 e2 e3 e4 e5 e6 e7 e8 e9 e10
  have hne : E.steps[step].kind ≠ 1 := by rw [hsi]; simp
  have hh : holdsP E.T b E.steps[step] = decide (mlist E.T (lookP b ⟨2, (a0, i0), (a1, i1), (a2, i2), (a3, i3), (a4, i4)⟩) 0 E.T.length 3 = []) := by rw [hsi]; simp [holdsP]
  have hpl : a0 < (b.length : Int) ∧ a1 < (b.length : Int) ∧ a2 < (b.length : Int) := by rw [hbl]; exact ⟨hok (a0, i0) (by simp [plsOf]), hok (a1, i1) (by simp [plsOf]), hok (a2, i2) (by simp [plsOf])⟩
  have hyes := fun h : noneTo E.T b ⟨2, (a0, i0), (a1, i1), (a2, i2), (a3, i3), (a4, i4)⟩ 0 E.T.length 3 E.T.length => stepE_hold hs m b hne (hh.trans (by rw [mlist_none h]; rfl))
  have hnot := fun (i : Nat) (hi : i < E.T.length) (h : goodAt E.T b ⟨2, (a0, i0), (a1, i1), (a2, i2), (a3, i3), (a4, i4)⟩ 0 E.T.length 3 i = true) => stepE_not hs m b hne (hh.trans (decide_eq_false (mlist_some hi h)))
  obtain ⟨n, hn⟩ : ∃ n, E.steps.length = n := ⟨_, rfl⟩
  obtain ⟨tl, htl⟩ : ∃ tl, E.T.length = tl := ⟨_, rfl⟩
  have htl6 := hE.tl
  rw [hsa, hn] at c7
  rw [hn] at hs hsN
  rw [htl] at c0 hyes htl6
  have hd1 : ((step : Int) == (n : Int)) = false := by simp; omega
  have HE := Lib.hid hE
  have HG := Lib.hid hg; have HB := Lib.hid hb; have Hn := Lib.hid hn; have Hu := Lib.hid hu; have Hpl := Lib.hid hpl; have Hyes := Lib.hid hyes; have Hnot := Lib.hid hnot; have Hbl := Lib.hid hbl; have Ho := Lib.hid ho; have Hk := Lib.hid hk; have Hm := Lib.hid hm; have Hnx := Lib.hid hnext; have Htl := Lib.hid htl
  obtain ⟨hB0, hb0⟩ : Below w.heap.size w (w.alloc (.cells #[.int .i64 2, .int .i64 a0, .int .u32 i0, .int .i64 a1, .int .u32 i1, .int .i64 a2, .int .u32 i2, .int .i64 a3, .int .u32 i3, .int .i64 a4, .int .u32 i4] 35)) ∧ (w.alloc (.cells #[.int .i64 2, .int .i64 a0, .int .u32 i0, .int .i64 a1, .int .u32 i1, .int .i64 a2, .int .u32 i2, .int .i64 a3, .int .u32 i3, .int .i64 a4, .int .u32 i4] 35)).heap[w.heap.size]? = some (.cells #[.int .i64 2, .int .i64 a0, .int .u32 i0, .int .i64 a1, .int .u32 i1, .int .i64 a2, .int .u32 i2, .int .i64 a3, .int .u32 i3, .int .i64 a4, .int .u32 i4] 35 (0, 0)) := ⟨(Below.refl _ w).alloc (Nat.le_refl _) _, World.alloc_heap_new _ _⟩
  have HB0 := Lib.hid hB0; have Hb0 := Lib.hid hb0
  clear hg hb hn hu hpl hyes hnot hbl ho hk hm hnext hok hh hne hB0 hb0 hsa hE hsi htl
  go_enter Try.func13, Try.ntmps13
  go_wp2_with fail
  generalize hW : w.alloc (.cells #[.int .i64 2, .int .i64 a0, .int .u32 i0, .int .i64 a1, .int .u32 i1, .int .i64 a2, .int .u32 i2, .int .i64 a3, .int .u32 i3, .int .i64 a4, .int .u32 i4] 35) = W at *
  clear hW e0 e1 e2 e3 e4 e5 e6 e7 e8 e9 e10
  go_loopw [9] (fun u wr => ∃ i : Nat, i ≤ tl ∧ u = .int .i64 i ∧ Below w.heap.size w wr ∧ wr.heap[w.heap.size]? = some (.cells #[.int .i64 2, .int .i64 a0, .int .u32 i0, .int .i64 a1, .int .u32 i1, .int .i64 a2, .int .u32 i2, .int .i64 a3, .int .u32 i3, .int .i64 a4, .int .u32 i4] 35 (0, 0)) ∧ noneTo E.T b ⟨2, (a0, i0), (a1, i1), (a2, i2), (a3, i3), (a4, i4)⟩ 0 tl 3 i) (fun u _ => tl - (intOf u).toNat)
  case atStart => exact ⟨0, by omega, rfl, HB0.out, Hb0.out, fun j hj => by omega⟩
  case round =>
    obtain ⟨i, hi, rfl, hB, hsb, hno⟩ := hrel
    have HBr := Lib.hid hB; have Hsb := Lib.hid hsb; have Hno := Lib.hid hno
    clear hB hsb hno
    have hgr := HG.out.below HBr.out
    have cw0 := hgr.c.1
    rw [Htl.out] at cw0
    by_cases hin : i < tl
    · have hd : decide ((i : Int) < (tl : Int)) = true := by simp; omega
      obtain ⟨rb, ro, hra, hrow⟩ := GW.rows HE.out hgr i (by rw [Htl.out]; exact hin)
      obtain ⟨⟨⟨y0, y1, y2⟩, bt⟩, hTi⟩ : ∃ y, E.T[i]'(by rw [Htl.out]; exact hin) = y := ⟨_, rfl⟩
      obtain ⟨hrT, hbT⟩ := rowBits (by rw [Htl.out]; exact hin) hTi
      rw [hTi] at hrow
      obtain ⟨hrl, yw0, yw1, yw2, yw3, _, _⟩ := hrow
      simp only at yw0 yw1 yw2 yw3
      rw [hra] at cw0
      have hgood : goodAt E.T b ⟨2, (a0, i0), (a1, i1), (a2, i2), (a3, i3), (a4, i4)⟩ 0 tl 3 i = (fits (lookP b ⟨2, (a0, i0), (a1, i1), (a2, i2), (a3, i3), (a4, i4)⟩) (y0, y1, y2) && (bits .and .u8 bt 3 != 0)) := by
        unfold goodAt liveB
        rw [hrT, hbT]
        simp [hin]
      have Hgood := Lib.hid hgood; have Hgr := Lib.hid hgr
      clear hgood hgr hra hTi hrT hbT
      cases hlive : bits .and .u8 bt 3 != 0
      · go_wp2_with fail
        have c0 : wr.drew.cell? ⟨E.gb, 0, none⟩ = some (.slice (some ⟨rb, ro, none⟩) tl E.rcap) := cw0
        obtain ⟨y0c, y1c, y2c, y3c⟩ : wr.drew.cell? ⟨rb, ro + i * 4, none⟩ = some (.int .u32 y0) ∧ wr.drew.cell? ⟨rb, ro + i * 4 + 1, none⟩ = some (.int .u32 y1) ∧ wr.drew.cell? ⟨rb, ro + i * 4 + 2, none⟩ = some (.int .u32 y2) ∧ wr.drew.cell? ⟨rb, ro + i * 4 + 3, none⟩ = some (.int .u8 bt) := ⟨yw0, yw1, yw2, yw3⟩
        obtain ⟨s0, s1, s2, s3, s4, s5, s6, s7, s8, s9, s10⟩ : wr.drew.cell? ⟨w.heap.size, 0, none⟩ = some (.int .i64 2) ∧ wr.drew.cell? ⟨w.heap.size, 1, none⟩ = some (.int .i64 a0) ∧ wr.drew.cell? ⟨w.heap.size, 2, none⟩ = some (.int .u32 i0) ∧ wr.drew.cell? ⟨w.heap.size, 3, none⟩ = some (.int .i64 a1) ∧ wr.drew.cell? ⟨w.heap.size, 4, none⟩ = some (.int .u32 i1) ∧ wr.drew.cell? ⟨w.heap.size, 5, none⟩ = some (.int .i64 a2) ∧ wr.drew.cell? ⟨w.heap.size, 6, none⟩ = some (.int .u32 i2) ∧ wr.drew.cell? ⟨w.heap.size, 7, none⟩ = some (.int .i64 a3) ∧ wr.drew.cell? ⟨w.heap.size, 8, none⟩ = some (.int .u32 i3) ∧ wr.drew.cell? ⟨w.heap.size, 9, none⟩ = some (.int .i64 a4) ∧ wr.drew.cell? ⟨w.heap.size, 10, none⟩ = some (.int .u32 i4) := by
          show wr.cell? _ = _ ∧ wr.cell? _ = _ ∧ wr.cell? _ = _ ∧ wr.cell? _ = _ ∧ wr.cell? _ = _ ∧ wr.cell? _ = _ ∧ wr.cell? _ = _ ∧ wr.cell? _ = _ ∧ wr.cell? _ = _ ∧ wr.cell? _ = _ ∧ wr.cell? _ = _
          unfold World.cell?; rw [Hsb.out]; exact ⟨rfl, rfl, rfl, rfl, rfl, rfl, rfl, rfl, rfl, rfl, rfl⟩
        have HBd := Lib.hid (show Below w.heap.size w wr.drew from HBr.out.drew)
        have HBe := Lib.hid (show Below wr.heap.size wr wr.drew from (Below.refl _ wr).drew)
        have HU := Lib.hid (Hu.out.below HBd.out)
        obtain ⟨S15, hSe⟩ : ∃ S : Array Bool → World → Prop, S = fun _ w' => Below wr.drew.heap.size wr.drew w' := ⟨_, rfl⟩
        have hdrop : ∀ i : Nat, ∀ L w', S15 (L.setIfInBounds i true) w' → S15 L w' := by
          intro i L w' h; rw [hSe] at h ⊢; exact h
        have hS : ∀ L, S15 L wr.drew := by intro L; rw [hSe]; exact Below.refl _ _
        have hSo : ∀ {L w'}, S15 L w' → Below wr.drew.heap.size wr.drew w' := by intro L w' h; rw [hSe] at h; exact h
        have hSi : ∀ {w'}, Below wr.drew.heap.size wr.drew w' → ∀ L, S15 L w' := by intro w' h L; rw [hSe]; exact h
        clear hSe
        refine wp_region_LN S15 23 #[false, false, false, false, false, false, false, false, false, false, false, false, false, false, false, false, false, false, false, false, false, false, false] (by kernel_rfl) (by kernel_rfl) rfl ?_
        obtain ⟨X, hX⟩ : ∃ X, X = wr.drew := ⟨_, rfl⟩
        rw [← hX] at c0 y0c y1c y2c y3c s0 s1 s2 s3 s4 s5 s6 s7 s8 s9 s10 hSo hSi hS HBd HBe HU ⊢
        clear hX
        refine WA.take (i := 0) (v := .pointer (some ⟨E.gb, 0, none⟩)) rfl (by kernel_rfl) (by kernel_rfl) (by kernel_rfl) (fun _ _ _ h => h) (hdrop 0) (Or.inl ⟨by rfl, ?_⟩) (hS _) ?_
        · rintro w' ⟨L, hL, hSw, hun⟩
          go_simp
        simp only [List.getElem_toArray, List.getElem_cons_zero, List.getElem_cons_succ, Act.put, List.setIfInBounds_toArray, List.set_cons_zero, List.set_cons_succ]
        refine WA.take (i := 1) (v := .pointer (some ⟨E.gb, 0, none⟩)) rfl (by kernel_rfl) (by kernel_rfl) (by kernel_rfl) (fun _ _ _ h => h) (hdrop 1) (Or.inl ⟨by rfl, ?_⟩) (hS _) ?_
        · rintro w' ⟨L, hL, hSw, hun⟩
          go_simp
        simp only [List.getElem_toArray, List.getElem_cons_zero, List.getElem_cons_succ, Act.put, List.setIfInBounds_toArray, List.set_cons_zero, List.set_cons_succ]
        refine WA.take (i := 2) (v := .pointer (some ⟨E.gb, 0, none⟩)) rfl (by kernel_rfl) (by kernel_rfl) (by kernel_rfl) (fun _ _ _ h => h) (hdrop 2) (Or.inl ⟨by rfl, ?_⟩) (hS _) ?_
        · rintro w' ⟨L, hL, hSw, hun⟩
          go_simp
        simp only [List.getElem_toArray, List.getElem_cons_zero, List.getElem_cons_succ, Act.put, List.setIfInBounds_toArray, List.set_cons_zero, List.set_cons_succ]
        refine WA.take (i := 3) (v := .slice (some ⟨rb, ro, none⟩) tl E.rcap) rfl (by kernel_rfl) (by kernel_rfl) (by kernel_rfl) (fun _ _ _ h => h) (hdrop 3) (Or.inl ⟨by rfl, ?_⟩) (hS _) ?_
        · rintro w' ⟨L, hL, hSw, hun⟩
          have hbw := hSo hSw
          have c0 := cell_later hbw c0
          clear hbw
          go_simp
        simp only [List.getElem_toArray, List.getElem_cons_zero, List.getElem_cons_succ, Act.put, List.setIfInBounds_toArray, List.set_cons_zero, List.set_cons_succ]
        refine WA.take (i := 4) (v := .int .i64 (i : Nat)) rfl (by kernel_rfl) (by kernel_rfl) (by kernel_rfl) (fun _ _ _ h => h) (hdrop 4) (Or.inl ⟨by rfl, ?_⟩) (hS _) ?_
        · rintro w' ⟨L, hL, hSw, hun⟩
          go_simp
        simp only [List.getElem_toArray, List.getElem_cons_zero, List.getElem_cons_succ, Act.put, List.setIfInBounds_toArray, List.set_cons_zero, List.set_cons_succ]
        refine WA.take (i := 5) (v := .pointer (some ⟨rb, ro + i * 4, none⟩)) rfl (by kernel_rfl) (by kernel_rfl) (by kernel_rfl) (fun _ _ _ h => h) (hdrop 5) (Or.inl ⟨by rfl, ?_⟩) (hS _) ?_
        · rintro w' ⟨L, hL, hSw, hun⟩
          go_simp
        simp only [List.getElem_toArray, List.getElem_cons_zero, List.getElem_cons_succ, Act.put, List.setIfInBounds_toArray, List.set_cons_zero, List.set_cons_succ]
        refine WA.take (i := 6) (v := .pointer (some ⟨rb, ro + i * 4 + 3, none⟩)) rfl (by kernel_rfl) (by kernel_rfl) (by kernel_rfl) (fun _ _ _ h => h) (hdrop 6) (Or.inl ⟨by rfl, ?_⟩) (hS _) ?_
        · rintro w' ⟨L, hL, hSw, hun⟩
          go_simp
        simp only [List.getElem_toArray, List.getElem_cons_zero, List.getElem_cons_succ, Act.put, List.setIfInBounds_toArray, List.set_cons_zero, List.set_cons_succ]
        refine WA.take (i := 7) (v := .int .u8 bt) rfl (by kernel_rfl) (by kernel_rfl) (by kernel_rfl) (fun _ _ _ h => h) (hdrop 7) (Or.inl ⟨by rfl, ?_⟩) (hS _) ?_
        · rintro w' ⟨L, hL, hSw, hun⟩
          have hbw := hSo hSw
          have y3c := cell_later hbw y3c
          clear hbw
          go_simp
        simp only [List.getElem_toArray, List.getElem_cons_zero, List.getElem_cons_succ, Act.put, List.setIfInBounds_toArray, List.set_cons_zero, List.set_cons_succ]
        refine WA.take (i := 8) (v := .int .u8 (bits .and .u8 bt 3)) rfl (by kernel_rfl) (by kernel_rfl) (by kernel_rfl) (fun _ _ _ h => h) (hdrop 8) (Or.inl ⟨by rfl, ?_⟩) (hS _) ?_
        · rintro w' ⟨L, hL, hSw, hun⟩
          go_simp
        simp only [List.getElem_toArray, List.getElem_cons_zero, List.getElem_cons_succ, Act.put, List.setIfInBounds_toArray, List.set_cons_zero, List.set_cons_succ]
        refine WA.take (i := 9) (v := .bool false) rfl (by kernel_rfl) (by kernel_rfl) (by kernel_rfl) (fun _ _ _ h => h) (hdrop 9) (Or.inl ⟨by rfl, ?_⟩) (hS _) ?_
        · rintro w' ⟨L, hL, hSw, hun⟩
          go_simp
        simp only [List.getElem_toArray, List.getElem_cons_zero, List.getElem_cons_succ, Act.put, List.setIfInBounds_toArray, List.set_cons_zero, List.set_cons_succ]
        refine WA.take (i := 10) (v := .bool false) rfl (by kernel_rfl) (by kernel_rfl) (by kernel_rfl) (fun _ _ _ h => h) (hdrop 10) (Or.inl ⟨by rfl, ?_⟩) (hS _) ?_
        · rintro w' ⟨L, hL, hSw, hun⟩
          go_simp
        simp only [List.getElem_toArray, List.getElem_cons_zero, List.getElem_cons_succ, Act.put, List.setIfInBounds_toArray, List.set_cons_zero, List.set_cons_succ]
        refine WA.take (i := 11) (v := undef) rfl (by kernel_rfl) (by kernel_rfl) (by kernel_rfl) (fun _ _ _ h => h) (hdrop 11) (Or.inr ⟨by rfl, rfl⟩) (hS _) ?_
        simp only [List.getElem_toArray, List.getElem_cons_zero, List.getElem_cons_succ, Act.put, List.setIfInBounds_toArray, List.set_cons_zero, List.set_cons_succ]
        refine WA.take (i := 12) (v := undef) rfl (by kernel_rfl) (by kernel_rfl) (by kernel_rfl) (fun _ _ _ h => h) (hdrop 12) (Or.inr ⟨by rfl, rfl⟩) (hS _) ?_
        simp only [List.getElem_toArray, List.getElem_cons_zero, List.getElem_cons_succ, Act.put, List.setIfInBounds_toArray, List.set_cons_zero, List.set_cons_succ]
        refine WA.take (i := 13) (v := undef) rfl (by kernel_rfl) (by kernel_rfl) (by kernel_rfl) (fun _ _ _ h => h) (hdrop 13) (Or.inr ⟨by rfl, rfl⟩) (hS _) ?_
        simp only [List.getElem_toArray, List.getElem_cons_zero, List.getElem_cons_succ, Act.put, List.setIfInBounds_toArray, List.set_cons_zero, List.set_cons_succ]
        refine WA.take (i := 14) (v := undef) rfl (by kernel_rfl) (by kernel_rfl) (by kernel_rfl) (fun _ _ _ h => h) (hdrop 14) (Or.inr ⟨by rfl, rfl⟩) (hS _) ?_
        simp only [List.getElem_toArray, List.getElem_cons_zero, List.getElem_cons_succ, Act.put, List.setIfInBounds_toArray, List.set_cons_zero, List.set_cons_succ]
        refine WA.take (i := 15) (v := undef) rfl (by kernel_rfl) (by kernel_rfl) (by kernel_rfl) (fun _ _ _ h => h) (hdrop 15) (Or.inr ⟨by rfl, rfl⟩) (hS _) ?_
        simp only [List.getElem_toArray, List.getElem_cons_zero, List.getElem_cons_succ, Act.put, List.setIfInBounds_toArray, List.set_cons_zero, List.set_cons_succ]
        refine WA.take (i := 16) (v := undef) rfl (by kernel_rfl) (by kernel_rfl) (by kernel_rfl) (fun _ _ _ h => h) (hdrop 16) (Or.inr ⟨by rfl, rfl⟩) (hS _) ?_
        simp only [List.getElem_toArray, List.getElem_cons_zero, List.getElem_cons_succ, Act.put, List.setIfInBounds_toArray, List.set_cons_zero, List.set_cons_succ]
        refine WA.take (i := 17) (v := undef) rfl (by kernel_rfl) (by kernel_rfl) (by kernel_rfl) (fun _ _ _ h => h) (hdrop 17) (Or.inr ⟨by rfl, rfl⟩) (hS _) ?_
        simp only [List.getElem_toArray, List.getElem_cons_zero, List.getElem_cons_succ, Act.put, List.setIfInBounds_toArray, List.set_cons_zero, List.set_cons_succ]
        refine WA.take (i := 18) (v := undef) rfl (by kernel_rfl) (by kernel_rfl) (by kernel_rfl) (fun _ _ _ h => h) (hdrop 18) (Or.inr ⟨by rfl, rfl⟩) (hS _) ?_
        simp only [List.getElem_toArray, List.getElem_cons_zero, List.getElem_cons_succ, Act.put, List.setIfInBounds_toArray, List.set_cons_zero, List.set_cons_succ]
        refine WA.take (i := 19) (v := undef) rfl (by kernel_rfl) (by kernel_rfl) (by kernel_rfl) (fun _ _ _ h => h) (hdrop 19) (Or.inr ⟨by rfl, rfl⟩) (hS _) ?_
        simp only [List.getElem_toArray, List.getElem_cons_zero, List.getElem_cons_succ, Act.put, List.setIfInBounds_toArray, List.set_cons_zero, List.set_cons_succ]
        refine WA.take (i := 20) (v := undef) rfl (by kernel_rfl) (by kernel_rfl) (by kernel_rfl) (fun _ _ _ h => h) (hdrop 20) (Or.inr ⟨by rfl, rfl⟩) (hS _) ?_
        simp only [List.getElem_toArray, List.getElem_cons_zero, List.getElem_cons_succ, Act.put, List.setIfInBounds_toArray, List.set_cons_zero, List.set_cons_succ]
        refine WA.skip (i := 21) (by kernel_rfl) rfl (by rfl) (hS _) ?_
        simp only [List.getElem_toArray, List.getElem_cons_zero, List.getElem_cons_succ, Act.put, List.setIfInBounds_toArray, List.set_cons_zero, List.set_cons_succ]
        refine WA.take (i := 22) (v := .bool false) rfl (by kernel_rfl) (by kernel_rfl) (by kernel_rfl) (fun _ _ _ h => h) (hdrop 22) (Or.inl ⟨by rfl, ?_⟩) (hS _) ?_
        · rintro w' ⟨L, hL, hSw, hun⟩
          go_simp
        simp only [List.getElem_toArray, List.getElem_cons_zero, List.getElem_cons_succ, Act.put, List.setIfInBounds_toArray, List.set_cons_zero, List.set_cons_succ]
        refine WA.done (by kernel_rfl) ?_ _
        refine Nrm.normal ?_
        clear hSo hSi hS hdrop c0 y0c y1c y2c y3c s0 s1 s2 s3 s4 s5 s6 s7 s8 s9 s10
        clear S15
        go_wp2_with fail
        refine ⟨⟨i + 1, by omega, by push_cast; rfl, HBd.out, ?_, fun j hj => ?_⟩, by simp [intOf]; omega⟩
        · exact (HBe.out.block _ (Array.getElem?_eq_some_iff.1 Hsb.out).1).trans Hsb.out
        · rcases Nat.lt_or_eq_of_le (Nat.le_of_lt_succ hj) with h | rfl
          · exact Hno.out j h
          · rw [Hgood.out, hlive, Bool.and_false]
      · go_wp2_with fail
        have c0 : wr.drew.cell? ⟨E.gb, 0, none⟩ = some (.slice (some ⟨rb, ro, none⟩) tl E.rcap) := cw0
        obtain ⟨y0c, y1c, y2c, y3c⟩ : wr.drew.cell? ⟨rb, ro + i * 4, none⟩ = some (.int .u32 y0) ∧ wr.drew.cell? ⟨rb, ro + i * 4 + 1, none⟩ = some (.int .u32 y1) ∧ wr.drew.cell? ⟨rb, ro + i * 4 + 2, none⟩ = some (.int .u32 y2) ∧ wr.drew.cell? ⟨rb, ro + i * 4 + 3, none⟩ = some (.int .u8 bt) := ⟨yw0, yw1, yw2, yw3⟩
        obtain ⟨s0, s1, s2, s3, s4, s5, s6, s7, s8, s9, s10⟩ : wr.drew.cell? ⟨w.heap.size, 0, none⟩ = some (.int .i64 2) ∧ wr.drew.cell? ⟨w.heap.size, 1, none⟩ = some (.int .i64 a0) ∧ wr.drew.cell? ⟨w.heap.size, 2, none⟩ = some (.int .u32 i0) ∧ wr.drew.cell? ⟨w.heap.size, 3, none⟩ = some (.int .i64 a1) ∧ wr.drew.cell? ⟨w.heap.size, 4, none⟩ = some (.int .u32 i1) ∧ wr.drew.cell? ⟨w.heap.size, 5, none⟩ = some (.int .i64 a2) ∧ wr.drew.cell? ⟨w.heap.size, 6, none⟩ = some (.int .u32 i2) ∧ wr.drew.cell? ⟨w.heap.size, 7, none⟩ = some (.int .i64 a3) ∧ wr.drew.cell? ⟨w.heap.size, 8, none⟩ = some (.int .u32 i3) ∧ wr.drew.cell? ⟨w.heap.size, 9, none⟩ = some (.int .i64 a4) ∧ wr.drew.cell? ⟨w.heap.size, 10, none⟩ = some (.int .u32 i4) := by
          show wr.cell? _ = _ ∧ wr.cell? _ = _ ∧ wr.cell? _ = _ ∧ wr.cell? _ = _ ∧ wr.cell? _ = _ ∧ wr.cell? _ = _ ∧ wr.cell? _ = _ ∧ wr.cell? _ = _ ∧ wr.cell? _ = _ ∧ wr.cell? _ = _ ∧ wr.cell? _ = _
          unfold World.cell?; rw [Hsb.out]; exact ⟨rfl, rfl, rfl, rfl, rfl, rfl, rfl, rfl, rfl, rfl, rfl⟩
        have HBd := Lib.hid (show Below w.heap.size w wr.drew from HBr.out.drew)
        have HBe := Lib.hid (show Below wr.heap.size wr wr.drew from (Below.refl _ wr).drew)
        have HU := Lib.hid (Hu.out.below HBd.out)
        obtain ⟨S15, hSe⟩ : ∃ S : Array Bool → World → Prop, S = fun _ w' => Below wr.drew.heap.size wr.drew w' := ⟨_, rfl⟩
        have hdrop : ∀ i : Nat, ∀ L w', S15 (L.setIfInBounds i true) w' → S15 L w' := by
          intro i L w' h; rw [hSe] at h ⊢; exact h
        have hS : ∀ L, S15 L wr.drew := by intro L; rw [hSe]; exact Below.refl _ _
        have hSo : ∀ {L w'}, S15 L w' → Below wr.drew.heap.size wr.drew w' := by intro L w' h; rw [hSe] at h; exact h
        have hSi : ∀ {w'}, Below wr.drew.heap.size wr.drew w' → ∀ L, S15 L w' := by intro w' h L; rw [hSe]; exact h
        clear hSe
        refine wp_region_LN S15 23 #[false, false, false, false, false, false, false, false, false, false, false, false, false, false, false, false, false, false, false, false, false, false, false] (by kernel_rfl) (by kernel_rfl) rfl ?_
        obtain ⟨X, hX⟩ : ∃ X, X = wr.drew := ⟨_, rfl⟩
        rw [← hX] at c0 y0c y1c y2c y3c s0 s1 s2 s3 s4 s5 s6 s7 s8 s9 s10 hSo hSi hS HBd HBe HU ⊢
        clear hX
        refine WA.take (i := 0) (v := .pointer (some ⟨E.gb, 0, none⟩)) rfl (by kernel_rfl) (by kernel_rfl) (by kernel_rfl) (fun _ _ _ h => h) (hdrop 0) (Or.inl ⟨by rfl, ?_⟩) (hS _) ?_
        · rintro w' ⟨L, hL, hSw, hun⟩
          go_simp
        simp only [List.getElem_toArray, List.getElem_cons_zero, List.getElem_cons_succ, Act.put, List.setIfInBounds_toArray, List.set_cons_zero, List.set_cons_succ]
        refine WA.take (i := 1) (v := .pointer (some ⟨E.gb, 0, none⟩)) rfl (by kernel_rfl) (by kernel_rfl) (by kernel_rfl) (fun _ _ _ h => h) (hdrop 1) (Or.inl ⟨by rfl, ?_⟩) (hS _) ?_
        · rintro w' ⟨L, hL, hSw, hun⟩
          go_simp
        simp only [List.getElem_toArray, List.getElem_cons_zero, List.getElem_cons_succ, Act.put, List.setIfInBounds_toArray, List.set_cons_zero, List.set_cons_succ]
        refine WA.take (i := 2) (v := .pointer (some ⟨E.gb, 0, none⟩)) rfl (by kernel_rfl) (by kernel_rfl) (by kernel_rfl) (fun _ _ _ h => h) (hdrop 2) (Or.inl ⟨by rfl, ?_⟩) (hS _) ?_
        · rintro w' ⟨L, hL, hSw, hun⟩
          go_simp
        simp only [List.getElem_toArray, List.getElem_cons_zero, List.getElem_cons_succ, Act.put, List.setIfInBounds_toArray, List.set_cons_zero, List.set_cons_succ]
        refine WA.take (i := 3) (v := .slice (some ⟨rb, ro, none⟩) tl E.rcap) rfl (by kernel_rfl) (by kernel_rfl) (by kernel_rfl) (fun _ _ _ h => h) (hdrop 3) (Or.inl ⟨by rfl, ?_⟩) (hS _) ?_
        · rintro w' ⟨L, hL, hSw, hun⟩
          have hbw := hSo hSw
          have c0 := cell_later hbw c0
          clear hbw
          go_simp
        simp only [List.getElem_toArray, List.getElem_cons_zero, List.getElem_cons_succ, Act.put, List.setIfInBounds_toArray, List.set_cons_zero, List.set_cons_succ]
        refine WA.take (i := 4) (v := .int .i64 (i : Nat)) rfl (by kernel_rfl) (by kernel_rfl) (by kernel_rfl) (fun _ _ _ h => h) (hdrop 4) (Or.inl ⟨by rfl, ?_⟩) (hS _) ?_
        · rintro w' ⟨L, hL, hSw, hun⟩
          go_simp
        simp only [List.getElem_toArray, List.getElem_cons_zero, List.getElem_cons_succ, Act.put, List.setIfInBounds_toArray, List.set_cons_zero, List.set_cons_succ]
        refine WA.take (i := 5) (v := .pointer (some ⟨rb, ro + i * 4, none⟩)) rfl (by kernel_rfl) (by kernel_rfl) (by kernel_rfl) (fun _ _ _ h => h) (hdrop 5) (Or.inl ⟨by rfl, ?_⟩) (hS _) ?_
        · rintro w' ⟨L, hL, hSw, hun⟩
          go_simp
        simp only [List.getElem_toArray, List.getElem_cons_zero, List.getElem_cons_succ, Act.put, List.setIfInBounds_toArray, List.set_cons_zero, List.set_cons_succ]
        refine WA.take (i := 6) (v := .pointer (some ⟨rb, ro + i * 4 + 3, none⟩)) rfl (by kernel_rfl) (by kernel_rfl) (by kernel_rfl) (fun _ _ _ h => h) (hdrop 6) (Or.inl ⟨by rfl, ?_⟩) (hS _) ?_
        · rintro w' ⟨L, hL, hSw, hun⟩
          go_simp
        simp only [List.getElem_toArray, List.getElem_cons_zero, List.getElem_cons_succ, Act.put, List.setIfInBounds_toArray, List.set_cons_zero, List.set_cons_succ]
        refine WA.take (i := 7) (v := .int .u8 bt) rfl (by kernel_rfl) (by kernel_rfl) (by kernel_rfl) (fun _ _ _ h => h) (hdrop 7) (Or.inl ⟨by rfl, ?_⟩) (hS _) ?_
        · rintro w' ⟨L, hL, hSw, hun⟩
          have hbw := hSo hSw
          have y3c := cell_later hbw y3c
          clear hbw
          go_simp
        simp only [List.getElem_toArray, List.getElem_cons_zero, List.getElem_cons_succ, Act.put, List.setIfInBounds_toArray, List.set_cons_zero, List.set_cons_succ]
        refine WA.take (i := 8) (v := .int .u8 (bits .and .u8 bt 3)) rfl (by kernel_rfl) (by kernel_rfl) (by kernel_rfl) (fun _ _ _ h => h) (hdrop 8) (Or.inl ⟨by rfl, ?_⟩) (hS _) ?_
        · rintro w' ⟨L, hL, hSw, hun⟩
          go_simp
        simp only [List.getElem_toArray, List.getElem_cons_zero, List.getElem_cons_succ, Act.put, List.setIfInBounds_toArray, List.set_cons_zero, List.set_cons_succ]
        refine WA.take (i := 9) (v := .bool true) rfl (by kernel_rfl) (by kernel_rfl) (by kernel_rfl) (fun _ _ _ h => h) (hdrop 9) (Or.inl ⟨by rfl, ?_⟩) (hS _) ?_
        · rintro w' ⟨L, hL, hSw, hun⟩
          go_simp
        simp only [List.getElem_toArray, List.getElem_cons_zero, List.getElem_cons_succ, Act.put, List.setIfInBounds_toArray, List.set_cons_zero, List.set_cons_succ]
        refine WA.take (i := 10) (v := .bool true) rfl (by kernel_rfl) (by kernel_rfl) (by kernel_rfl) (fun _ _ _ h => h) (hdrop 10) (Or.inl ⟨by rfl, ?_⟩) (hS _) ?_
        · rintro w' ⟨L, hL, hSw, hun⟩
          go_simp
        simp only [List.getElem_toArray, List.getElem_cons_zero, List.getElem_cons_succ, Act.put, List.setIfInBounds_toArray, List.set_cons_zero, List.set_cons_succ]
        refine WA.take (i := 11) (v := .slice ba E.vars bq) rfl (by kernel_rfl) (by kernel_rfl) (by kernel_rfl) (fun _ _ _ h => h) (hdrop 11) (Or.inl ⟨by rfl, ?_⟩) (hS _) ?_
        · rintro w' ⟨L, hL, hSw, hun⟩
          go_simp
        simp only [List.getElem_toArray, List.getElem_cons_zero, List.getElem_cons_succ, Act.put, List.setIfInBounds_toArray, List.set_cons_zero, List.set_cons_succ]
        refine WA.take (i := 12) (v := .agg #[.int .i64 2, .int .i64 a0, .int .u32 i0, .int .i64 a1, .int .u32 i1, .int .i64 a2, .int .u32 i2, .int .i64 a3, .int .u32 i3, .int .i64 a4, .int .u32 i4]) rfl (by kernel_rfl) (by kernel_rfl) (by kernel_rfl) (fun _ _ _ h => h) (hdrop 12) (Or.inl ⟨by rfl, ?_⟩) (hS _) ?_
        · rintro w' ⟨L, hL, hSw, hun⟩
          have hbw := hSo hSw
          have s0 := cell_later hbw s0
          have s1 := cell_later hbw s1
          have s2 := cell_later hbw s2
          have s3 := cell_later hbw s3
          have s4 := cell_later hbw s4
          have s5 := cell_later hbw s5
          have s6 := cell_later hbw s6
          have s7 := cell_later hbw s7
          have s8 := cell_later hbw s8
          have s9 := cell_later hbw s9
          have s10 := cell_later hbw s10
          clear hbw
          go_simp
        simp only [List.getElem_toArray, List.getElem_cons_zero, List.getElem_cons_succ, Act.put, List.setIfInBounds_toArray, List.set_cons_zero, List.set_cons_succ]
        refine WA.take (i := 13) (v := .pointer (some ⟨E.gb, 0, none⟩)) rfl (by kernel_rfl) (by kernel_rfl) (by kernel_rfl) (fun _ _ _ h => h) (hdrop 13) (Or.inl ⟨by rfl, ?_⟩) (hS _) ?_
        · rintro w' ⟨L, hL, hSw, hun⟩
          go_simp
        simp only [List.getElem_toArray, List.getElem_cons_zero, List.getElem_cons_succ, Act.put, List.setIfInBounds_toArray, List.set_cons_zero, List.set_cons_succ]
        refine WA.take (i := 14) (v := .pointer (some ⟨E.gb, 0, none⟩)) rfl (by kernel_rfl) (by kernel_rfl) (by kernel_rfl) (fun _ _ _ h => h) (hdrop 14) (Or.inl ⟨by rfl, ?_⟩) (hS _) ?_
        · rintro w' ⟨L, hL, hSw, hun⟩
          go_simp
        simp only [List.getElem_toArray, List.getElem_cons_zero, List.getElem_cons_succ, Act.put, List.setIfInBounds_toArray, List.set_cons_zero, List.set_cons_succ]
        refine WA.take (i := 15) (v := .pointer (some ⟨E.gb, 0, none⟩)) rfl (by kernel_rfl) (by kernel_rfl) (by kernel_rfl) (fun _ _ _ h => h) (hdrop 15) (Or.inl ⟨by rfl, ?_⟩) (hS _) ?_
        · rintro w' ⟨L, hL, hSw, hun⟩
          go_simp
        simp only [List.getElem_toArray, List.getElem_cons_zero, List.getElem_cons_succ, Act.put, List.setIfInBounds_toArray, List.set_cons_zero, List.set_cons_succ]
        refine WA.take (i := 16) (v := .slice (some ⟨rb, ro, none⟩) tl E.rcap) rfl (by kernel_rfl) (by kernel_rfl) (by kernel_rfl) (fun _ _ _ h => h) (hdrop 16) (Or.inl ⟨by rfl, ?_⟩) (hS _) ?_
        · rintro w' ⟨L, hL, hSw, hun⟩
          have hbw := hSo hSw
          have c0 := cell_later hbw c0
          clear hbw
          go_simp
        simp only [List.getElem_toArray, List.getElem_cons_zero, List.getElem_cons_succ, Act.put, List.setIfInBounds_toArray, List.set_cons_zero, List.set_cons_succ]
        refine WA.take (i := 17) (v := .int .i64 (i : Nat)) rfl (by kernel_rfl) (by kernel_rfl) (by kernel_rfl) (fun _ _ _ h => h) (hdrop 17) (Or.inl ⟨by rfl, ?_⟩) (hS _) ?_
        · rintro w' ⟨L, hL, hSw, hun⟩
          go_simp
        simp only [List.getElem_toArray, List.getElem_cons_zero, List.getElem_cons_succ, Act.put, List.setIfInBounds_toArray, List.set_cons_zero, List.set_cons_succ]
        refine WA.take (i := 18) (v := .pointer (some ⟨rb, ro + i * 4, none⟩)) rfl (by kernel_rfl) (by kernel_rfl) (by kernel_rfl) (fun _ _ _ h => h) (hdrop 18) (Or.inl ⟨by rfl, ?_⟩) (hS _) ?_
        · rintro w' ⟨L, hL, hSw, hun⟩
          go_simp
        simp only [List.getElem_toArray, List.getElem_cons_zero, List.getElem_cons_succ, Act.put, List.setIfInBounds_toArray, List.set_cons_zero, List.set_cons_succ]
        refine WA.take (i := 19) (v := .pointer (some ⟨rb, ro + i * 4, none⟩)) rfl (by kernel_rfl) (by kernel_rfl) (by kernel_rfl) (fun _ _ _ h => h) (hdrop 19) (Or.inl ⟨by rfl, ?_⟩) (hS _) ?_
        · rintro w' ⟨L, hL, hSw, hun⟩
          go_simp
        simp only [List.getElem_toArray, List.getElem_cons_zero, List.getElem_cons_succ, Act.put, List.setIfInBounds_toArray, List.set_cons_zero, List.set_cons_succ]
        refine WA.take (i := 20) (v := .agg #[.int .u32 y0, .int .u32 y1, .int .u32 y2]) rfl (by kernel_rfl) (by kernel_rfl) (by kernel_rfl) (fun _ _ _ h => h) (hdrop 20) (Or.inl ⟨by rfl, ?_⟩) (hS _) ?_
        · rintro w' ⟨L, hL, hSw, hun⟩
          have hbw := hSo hSw
          have y0c := cell_later hbw y0c
          have y1c := cell_later hbw y1c
          have y2c := cell_later hbw y2c
          clear hbw
          go_simp
        simp only [List.getElem_toArray, List.getElem_cons_zero, List.getElem_cons_succ, Act.put, List.setIfInBounds_toArray, List.set_cons_zero, List.set_cons_succ]
        refine WA.one (i := 21) (by kernel_rfl) rfl (by rfl) (fun K hK => ?_)
        go_simp
        have hc := rfits_any ba bq b ⟨2, (a0, i0), (a1, i1), (a2, i2), (a3, i3), (a4, i4)⟩ (y0, y1, y2) HU.out Hpl.out
        simp only [stepv, rv] at hc
        rw [Hbl.out] at hc
        refine hc.mono ?_
        rintro e w2 ⟨rfl, hB2⟩
        obtain ⟨ft, hft⟩ : ∃ ft, fits (lookP b ⟨2, (a0, i0), (a1, i1), (a2, i2), (a3, i3), (a4, i4)⟩) (y0, y1, y2) = ft := ⟨_, rfl⟩
        rw [hft]
        have Hft := Lib.hid hft; have HB2 := Lib.hid hB2
        clear hft hB2 hc
        refine hK _ _ (hSi HB2.out _) ?_
        clear hK
        try simp only [List.getElem_toArray, List.getElem_cons_zero, List.getElem_cons_succ, Act.put, List.setIfInBounds_toArray, List.set_cons_zero, List.set_cons_succ]
        refine WA.take (i := 22) (v := .bool ft) rfl (by kernel_rfl) (by kernel_rfl) (by kernel_rfl) (fun _ _ _ h => h) (hdrop 22) (Or.inl ⟨by rfl, ?_⟩) (hSi HB2.out _) ?_
        · rintro w' ⟨L, hL, hSw, hun⟩
          go_simp
        simp only [List.getElem_toArray, List.getElem_cons_zero, List.getElem_cons_succ, Act.put, List.setIfInBounds_toArray, List.set_cons_zero, List.set_cons_succ]
        refine WA.done (by kernel_rfl) ?_ _
        refine Nrm.normal ?_
        clear hSo hSi hS hdrop c0 y0c y1c y2c y3c s0 s1 s2 s3 s4 s5 s6 s7 s8 s9 s10
        clear S15
        cases ft
        · go_wp2_with fail
          refine ⟨⟨i + 1, by omega, by push_cast; rfl, HBd.out.trans (HB2.out.mono HBd.out.size), ?_, fun j hj => ?_⟩, by simp [intOf]; omega⟩
          · have h5 := HBe.out.trans (HB2.out.mono HBe.out.size)
            exact (h5.block _ (Array.getElem?_eq_some_iff.1 Hsb.out).1).trans Hsb.out
          · rcases Nat.lt_or_eq_of_le (Nat.le_of_lt_succ hj) with h | rfl
            · exact Hno.out j h
            · rw [Hgood.out, Hft.out, Bool.false_and]
        · go_wp2_with fail
          (try simp only [Exit.inBlock, Exit.then]); refine bodyPost_ret (results_none rfl _ _ _) rfl ?_
          have hBa : Below w.heap.size w w2 := HBd.out.trans (HB2.out.mono HBd.out.size)
          rw [Hnot.out i (by rw [Htl.out]; exact hin) (by rw [Htl.out, Hgood.out, Hft.out, hlive]; rfl)]
          exact ⟨rfl, ov, [], rfl, by rw [List.append_nil]; exact HG.out.below hBa, GTurn.below hBa⟩
    · have hin' : i = tl := by omega
      subst hin'
      have hd : decide ((i : Int) < (i : Int)) = false := by simp
      have hyes := Hyes.out Hno.out
      have Hy2 := Lib.hid hyes
      clear hyes hgr
      go_wp2_with fail
      have ho := Ho.out
      have hk := Hk.out
      rw [Hy2.out] at ho hk
      have hc := Hnx.out m b (.slice ba E.vars bq) wr ov acc k (HG.out.below HBr.out) (own_below HB.out HBr.out) Hbl.out (by have := Hm.out; omega) ho hk
      rw [show ((step + 1 : Nat) : Int) = (step : Int) + 1 by push_cast; rfl] at hc
      refine hc.mono ?_
      rintro e w4 ⟨rfl, ov', new, h1, h2, h3⟩
      go_wp2_with fail
      (try simp only [Exit.inBlock, Exit.then]); refine bodyPost_ret (results_none rfl _ _ _) rfl ?_
      rw [Hy2.out]
      exact ⟨rfl, ov', new, h1, h2, (GTurn.below HBr.out).trans h3⟩
end Go.Proofs.Ytkgkkbfpkgfcaaa
