/- Layer 14: Go at a step that asks whether two places are the same. -/
import Derived.Test.YtkgkkbfpkgfcaaaJ32
namespace Go.Proofs.Ytkgkkbfpkgfcaaa
set_option maxRecDepth 100000
open Go.RowKit Go.Maps
set_option linter.unusedVariables false
set_option linter.unusedSimpArgs false

set_option maxRecDepth 100000 in
set_option maxHeartbeats 8000000 in
theorem go_same {E : GoE} (hE : GoOK E) {step : Nat} (hs : step < E.steps.length) (hk3 : E.steps[step].kind = 3) (hnext : GoC E (step + 1)) : GoC E step := by
  intro m b bv w ov acc k hg hb hbl hm ho hk
  obtain ⟨ba, bq, hbv, hu⟩ := hb.u
  rw [hbl] at hbv
  subst hbv
  obtain ⟨sb, so, hsa, hst⟩ := hE.st.low hg.lows hg.low step hs
  have hok := (hE.ok _ (List.getElem_mem hs)).2.2
  have hsN := hE.n
  have hvv := hE.vars
  obtain ⟨c0, c7, c9, c10, c11, c12, c13, cf⟩ := hg.c
  obtain ⟨⟨kk, ⟨a0, i0⟩, ⟨a1, i1⟩, ⟨a2, i2⟩, ⟨a3, i3⟩, ⟨a4, i4⟩⟩, hsi⟩ : ∃ s : StepT, E.steps[step] = s := ⟨_, rfl⟩
  rw [hsi] at hst hok hk3
  simp only at hk3
  subst hk3
  obtain ⟨hsl, e0, e1, e2, e3, e4, e5, e6, e7, e8, e9, e10⟩ := hst
  simp only at e0 e1 e2 e3 e4 e5 e6 e7 e8 e9 e10
  have hne : E.steps[step].kind ≠ 1 := by rw [hsi]; simp
  have hh : holdsP E.T b E.steps[step] = (plVal b (a3, i3) == plVal b (a4, i4)) := by rw [hsi]; simp [holdsP]
  have hA : (a3, i3).1 < (b.length : Int) := by rw [hbl]; exact hok (a3, i3) (by simp [plsOf])
  have hB : (a4, i4).1 < (b.length : Int) := by rw [hbl]; exact hok (a4, i4) (by simp [plsOf])
  have hyes := fun h => stepE_hold hs m b hne (hh.trans h)
  have hnot := fun h => stepE_not hs m b hne (hh.trans h)
  obtain ⟨n, hn⟩ : ∃ n, E.steps.length = n := ⟨_, rfl⟩
  rw [hsa, hn] at c7
  rw [hn] at hs hsN
  have hd1 : ((step : Int) == (n : Int)) = false := by simp; omega
  have HG := Lib.hid hg; have HB := Lib.hid hb; have Hn := Lib.hid hn; have Hu := Lib.hid hu; have HA := Lib.hid hA; have HC := Lib.hid hB; have Hyes := Lib.hid hyes; have Hnot := Lib.hid hnot; have Hbl := Lib.hid hbl; have Ho := Lib.hid ho; have Hk := Lib.hid hk; have Hm := Lib.hid hm; have Hnx := Lib.hid hnext
  obtain ⟨hB0, hb0⟩ : Below w.heap.size w (w.alloc (.cells #[.int .i64 3, .int .i64 a0, .int .u32 i0, .int .i64 a1, .int .u32 i1, .int .i64 a2, .int .u32 i2, .int .i64 a3, .int .u32 i3, .int .i64 a4, .int .u32 i4] 35)) ∧ (w.alloc (.cells #[.int .i64 3, .int .i64 a0, .int .u32 i0, .int .i64 a1, .int .u32 i1, .int .i64 a2, .int .u32 i2, .int .i64 a3, .int .u32 i3, .int .i64 a4, .int .u32 i4] 35)).heap[w.heap.size]? = some (.cells #[.int .i64 3, .int .i64 a0, .int .u32 i0, .int .i64 a1, .int .u32 i1, .int .i64 a2, .int .u32 i2, .int .i64 a3, .int .u32 i3, .int .i64 a4, .int .u32 i4] 35 (0, 0)) := ⟨(Below.refl _ w).alloc (Nat.le_refl _) _, World.alloc_heap_new _ _⟩
  have HB0 := Lib.hid hB0; have Hb0 := Lib.hid hb0
  have hz : (w.alloc (.cells #[.int .i64 3, .int .i64 a0, .int .u32 i0, .int .i64 a1, .int .u32 i1, .int .i64 a2, .int .u32 i2, .int .i64 a3, .int .u32 i3, .int .i64 a4, .int .u32 i4] 35)).heap.size = w.heap.size + 1 := World.size_alloc _ _
  have Hz := Lib.hid hz
  clear hg hb hn hu hA hB hyes hnot hbl ho hk hm hnext hok hh hne hB0 hb0 hsa hz hE hsi
  go_enter Try.func13, Try.ntmps13
  go_wp2_with fail
  generalize hW : w.alloc (.cells #[.int .i64 3, .int .i64 a0, .int .u32 i0, .int .i64 a1, .int .u32 i1, .int .i64 a2, .int .u32 i2, .int .i64 a3, .int .u32 i3, .int .i64 a4, .int .u32 i4] 35) = W at *
  clear hW
  obtain ⟨ca0, ca1, cb0, cb1⟩ : W.drew.cell? ⟨w.heap.size, 7, none⟩ = some (.int .i64 a3) ∧ W.drew.cell? ⟨w.heap.size, 8, none⟩ = some (.int .u32 i3) ∧ W.drew.cell? ⟨w.heap.size, 9, none⟩ = some (.int .i64 a4) ∧ W.drew.cell? ⟨w.heap.size, 10, none⟩ = some (.int .u32 i4) := by
    show W.cell? _ = _ ∧ W.cell? _ = _ ∧ W.cell? _ = _ ∧ W.cell? _ = _
    unfold World.cell?; rw [Hb0.out]; exact ⟨rfl, rfl, rfl, rfl⟩
  have HBd := Lib.hid (show Below w.heap.size w W.drew from HB0.out.drew)
  have HU := Lib.hid (Hu.out.below HBd.out)
  obtain ⟨S6, hSe⟩ : ∃ S : Array Bool → World → Prop, S = fun _ w' => Below W.drew.heap.size W.drew w' := ⟨_, rfl⟩
  have hdrop : ∀ i : Nat, ∀ L w', S6 (L.setIfInBounds i true) w' → S6 L w' := by
    intro i L w' h; rw [hSe] at h ⊢; exact h
  have hS : ∀ L, S6 L W.drew := by intro L; rw [hSe]; exact Below.refl _ _
  have hSo : ∀ {L w'}, S6 L w' → Below W.drew.heap.size W.drew w' := by intro L w' h; rw [hSe] at h; exact h
  have hSi : ∀ {w'}, Below W.drew.heap.size W.drew w' → ∀ L, S6 L w' := by intro w' h L; rw [hSe]; exact h
  clear hSe
  refine wp_region_LN S6 9 #[false, false, false, false, false, false, false, false, false] (by kernel_rfl) (by kernel_rfl) rfl ?_
  obtain ⟨X, hX⟩ : ∃ X, X = W.drew := ⟨_, rfl⟩
  rw [← hX] at ca0 ca1 cb0 cb1 hSo hSi hS HBd HU ⊢
  clear hX
  refine WA.take (i := 0) (v := .slice ba E.vars bq) rfl (by kernel_rfl) (by kernel_rfl) (by kernel_rfl) (fun _ _ _ h => h) (hdrop 0) (Or.inl ⟨by rfl, ?_⟩) (hS _) ?_
  · rintro w' ⟨L, hL, hSw, hun⟩
    go_simp
  simp only [List.getElem_toArray, List.getElem_cons_zero, List.getElem_cons_succ, Act.put, List.setIfInBounds_toArray, List.set_cons_zero, List.set_cons_succ]
  refine WA.take (i := 1) (v := .pointer (some ⟨w.heap.size, 7, none⟩)) rfl (by kernel_rfl) (by kernel_rfl) (by kernel_rfl) (fun _ _ _ h => h) (hdrop 1) (Or.inl ⟨by rfl, ?_⟩) (hS _) ?_
  · rintro w' ⟨L, hL, hSw, hun⟩
    go_simp
  simp only [List.getElem_toArray, List.getElem_cons_zero, List.getElem_cons_succ, Act.put, List.setIfInBounds_toArray, List.set_cons_zero, List.set_cons_succ]
  refine WA.take (i := 2) (v := .agg #[.int .i64 a3, .int .u32 i3]) rfl (by kernel_rfl) (by kernel_rfl) (by kernel_rfl) (fun _ _ _ h => h) (hdrop 2) (Or.inl ⟨by rfl, ?_⟩) (hS _) ?_
  · rintro w' ⟨L, hL, hSw, hun⟩
    have hbw := hSo hSw
    have ca0 := cell_later hbw ca0
    have ca1 := cell_later hbw ca1
    clear hbw
    go_simp
  simp only [List.getElem_toArray, List.getElem_cons_zero, List.getElem_cons_succ, Act.put, List.setIfInBounds_toArray, List.set_cons_zero, List.set_cons_succ]
  refine WA.take (i := 4) (v := .slice ba E.vars bq) rfl (by kernel_rfl) (by kernel_rfl) (by kernel_rfl) (fun _ _ _ h => h) (hdrop 4) (Or.inl ⟨by rfl, ?_⟩) (hS _) ?_
  · rintro w' ⟨L, hL, hSw, hun⟩
    go_simp
  simp only [List.getElem_toArray, List.getElem_cons_zero, List.getElem_cons_succ, Act.put, List.setIfInBounds_toArray, List.set_cons_zero, List.set_cons_succ]
  refine WA.take (i := 5) (v := .pointer (some ⟨w.heap.size, 9, none⟩)) rfl (by kernel_rfl) (by kernel_rfl) (by kernel_rfl) (fun _ _ _ h => h) (hdrop 5) (Or.inl ⟨by rfl, ?_⟩) (hS _) ?_
  · rintro w' ⟨L, hL, hSw, hun⟩
    go_simp
  simp only [List.getElem_toArray, List.getElem_cons_zero, List.getElem_cons_succ, Act.put, List.setIfInBounds_toArray, List.set_cons_zero, List.set_cons_succ]
  refine WA.take (i := 6) (v := .agg #[.int .i64 a4, .int .u32 i4]) rfl (by kernel_rfl) (by kernel_rfl) (by kernel_rfl) (fun _ _ _ h => h) (hdrop 6) (Or.inl ⟨by rfl, ?_⟩) (hS _) ?_
  · rintro w' ⟨L, hL, hSw, hun⟩
    have hbw := hSo hSw
    have cb0 := cell_later hbw cb0
    have cb1 := cell_later hbw cb1
    clear hbw
    go_simp
  simp only [List.getElem_toArray, List.getElem_cons_zero, List.getElem_cons_succ, Act.put, List.setIfInBounds_toArray, List.set_cons_zero, List.set_cons_succ]
  refine WA.one (i := 3) (by kernel_rfl) rfl (by rfl) (fun K hK => ?_)
  go_simp
  have hc := rvalue_any ba bq b (a3, i3) HU.out HA.out
  rw [Hbl.out] at hc
  refine hc.mono ?_
  rintro e w2 ⟨rfl, hB2⟩
  obtain ⟨u, hu⟩ : ∃ u, plVal b (a3, i3) = u := ⟨_, rfl⟩
  rw [hu]
  have Hv1 := Lib.hid hu; have HB1 := Lib.hid hB2
  clear hu hB2 hc
  refine hK _ _ (hSi HB1.out _) ?_
  clear hK
  try simp only [List.getElem_toArray, List.getElem_cons_zero, List.getElem_cons_succ, Act.put, List.setIfInBounds_toArray, List.set_cons_zero, List.set_cons_succ]
  refine WA.one (i := 7) (by kernel_rfl) rfl (by rfl) (fun K hK => ?_)
  go_simp
  have hc := rvalue_any ba bq b (a4, i4) (HU.out.below HB1.out) HC.out
  rw [Hbl.out] at hc
  refine hc.mono ?_
  rintro e w3 ⟨rfl, hB2⟩
  obtain ⟨v, hv⟩ : ∃ v, plVal b (a4, i4) = v := ⟨_, rfl⟩
  rw [hv]
  have Hv2 := Lib.hid hv; have HB2 := Lib.hid (HB1.out.trans (hB2.mono HB1.out.size))
  clear hv hB2 hc
  refine hK _ _ (hSi HB2.out _) ?_
  clear hK
  try simp only [List.getElem_toArray, List.getElem_cons_zero, List.getElem_cons_succ, Act.put, List.setIfInBounds_toArray, List.set_cons_zero, List.set_cons_succ]
  refine WA.take (i := 8) (v := .bool (u == v)) rfl (by kernel_rfl) (by kernel_rfl) (by kernel_rfl) (fun _ _ _ h => h) (hdrop 8) (Or.inl ⟨by rfl, ?_⟩) (hSi HB2.out _) ?_
  · rintro w' ⟨L, hL, hSw, hun⟩
    go_simp
  simp only [List.getElem_toArray, List.getElem_cons_zero, List.getElem_cons_succ, Act.put, List.setIfInBounds_toArray, List.set_cons_zero, List.set_cons_succ]
  refine WA.done (by kernel_rfl) ?_ _
  refine Nrm.normal ?_
  clear hSo hSi hS hdrop ca0 ca1 cb0 cb1
  clear S6
  by_cases huv : (u == v) = true
  · go_wp2_with fail
    have hBa : Below w.heap.size w w3 := HBd.out.trans (HB2.out.mono HBd.out.size)
    have hyes := Hyes.out (by rw [Hv1.out, Hv2.out]; exact huv)
    have ho := Ho.out
    have hk := Hk.out
    rw [hyes] at ho hk
    have hc := Hnx.out m b (.slice ba E.vars bq) w3 ov acc k (HG.out.below hBa) (own_below HB.out hBa) Hbl.out (by have := Hm.out; omega) ho hk
    rw [show ((step + 1 : Nat) : Int) = (step : Int) + 1 by push_cast; rfl] at hc
    refine hc.mono ?_
    rintro e w4 ⟨rfl, ov', new, h1, h2, h3⟩
    go_wp2_with fail
    (try simp only [Exit.inBlock, Exit.then]); refine bodyPost_ret (results_none rfl _ _ _) rfl ?_
    rw [hyes]
    exact ⟨rfl, ov', new, h1, h2, (GTurn.below hBa).trans h3⟩
  · have huf : (u == v) = false := by simpa using huv
    go_wp2_with fail
    (try simp only [Exit.inBlock, Exit.then]); refine bodyPost_ret (results_none rfl _ _ _) rfl ?_
    have hBa : Below w.heap.size w w3 := HBd.out.trans (HB2.out.mono HBd.out.size)
    rw [Hnot.out (by rw [Hv1.out, Hv2.out]; exact huf)]
    exact ⟨rfl, ov, [], rfl, by rw [List.append_nil]; exact HG.out.below hBa, GTurn.below hBa⟩
set_option maxRecDepth 100000 in
set_option maxHeartbeats 8000000 in
theorem go_unlike {E : GoE} (hE : GoOK E) {step : Nat} (hs : step < E.steps.length) (hk3 : E.steps[step].kind = 4) (hnext : GoC E (step + 1)) : GoC E step := by
  intro m b bv w ov acc k hg hb hbl hm ho hk
  obtain ⟨ba, bq, hbv, hu⟩ := hb.u
  rw [hbl] at hbv
  subst hbv
  obtain ⟨sb, so, hsa, hst⟩ := hE.st.low hg.lows hg.low step hs
  have hok := (hE.ok _ (List.getElem_mem hs)).2.2
  have hsN := hE.n
  have hvv := hE.vars
  obtain ⟨c0, c7, c9, c10, c11, c12, c13, cf⟩ := hg.c
  obtain ⟨⟨kk, ⟨a0, i0⟩, ⟨a1, i1⟩, ⟨a2, i2⟩, ⟨a3, i3⟩, ⟨a4, i4⟩⟩, hsi⟩ : ∃ s : StepT, E.steps[step] = s := ⟨_, rfl⟩
  rw [hsi] at hst hok hk3
  simp only at hk3
  subst hk3
  obtain ⟨hsl, e0, e1, e2, e3, e4, e5, e6, e7, e8, e9, e10⟩ := hst
  simp only at e0 e1 e2 e3 e4 e5 e6 e7 e8 e9 e10
  have hne : E.steps[step].kind ≠ 1 := by rw [hsi]; simp
  have hh : holdsP E.T b E.steps[step] = (plVal b (a3, i3) != plVal b (a4, i4)) := by rw [hsi]; simp [holdsP]
  have hA : (a3, i3).1 < (b.length : Int) := by rw [hbl]; exact hok (a3, i3) (by simp [plsOf])
  have hB : (a4, i4).1 < (b.length : Int) := by rw [hbl]; exact hok (a4, i4) (by simp [plsOf])
  have hyes := fun h => stepE_hold hs m b hne (hh.trans h)
  have hnot := fun h => stepE_not hs m b hne (hh.trans h)
  obtain ⟨n, hn⟩ : ∃ n, E.steps.length = n := ⟨_, rfl⟩
  rw [hsa, hn] at c7
  rw [hn] at hs hsN
  have hd1 : ((step : Int) == (n : Int)) = false := by simp; omega
  have HG := Lib.hid hg; have HB := Lib.hid hb; have Hn := Lib.hid hn; have Hu := Lib.hid hu; have HA := Lib.hid hA; have HC := Lib.hid hB; have Hyes := Lib.hid hyes; have Hnot := Lib.hid hnot; have Hbl := Lib.hid hbl; have Ho := Lib.hid ho; have Hk := Lib.hid hk; have Hm := Lib.hid hm; have Hnx := Lib.hid hnext
  obtain ⟨hB0, hb0⟩ : Below w.heap.size w (w.alloc (.cells #[.int .i64 4, .int .i64 a0, .int .u32 i0, .int .i64 a1, .int .u32 i1, .int .i64 a2, .int .u32 i2, .int .i64 a3, .int .u32 i3, .int .i64 a4, .int .u32 i4] 35)) ∧ (w.alloc (.cells #[.int .i64 4, .int .i64 a0, .int .u32 i0, .int .i64 a1, .int .u32 i1, .int .i64 a2, .int .u32 i2, .int .i64 a3, .int .u32 i3, .int .i64 a4, .int .u32 i4] 35)).heap[w.heap.size]? = some (.cells #[.int .i64 4, .int .i64 a0, .int .u32 i0, .int .i64 a1, .int .u32 i1, .int .i64 a2, .int .u32 i2, .int .i64 a3, .int .u32 i3, .int .i64 a4, .int .u32 i4] 35 (0, 0)) := ⟨(Below.refl _ w).alloc (Nat.le_refl _) _, World.alloc_heap_new _ _⟩
  have HB0 := Lib.hid hB0; have Hb0 := Lib.hid hb0
  have hz : (w.alloc (.cells #[.int .i64 4, .int .i64 a0, .int .u32 i0, .int .i64 a1, .int .u32 i1, .int .i64 a2, .int .u32 i2, .int .i64 a3, .int .u32 i3, .int .i64 a4, .int .u32 i4] 35)).heap.size = w.heap.size + 1 := World.size_alloc _ _
  have Hz := Lib.hid hz
  clear hg hb hn hu hA hB hyes hnot hbl ho hk hm hnext hok hh hne hB0 hb0 hsa hz hE hsi
  go_enter Try.func13, Try.ntmps13
  go_wp2_with fail
  generalize hW : w.alloc (.cells #[.int .i64 4, .int .i64 a0, .int .u32 i0, .int .i64 a1, .int .u32 i1, .int .i64 a2, .int .u32 i2, .int .i64 a3, .int .u32 i3, .int .i64 a4, .int .u32 i4] 35) = W at *
  clear hW
  obtain ⟨ca0, ca1, cb0, cb1⟩ : W.drew.cell? ⟨w.heap.size, 7, none⟩ = some (.int .i64 a3) ∧ W.drew.cell? ⟨w.heap.size, 8, none⟩ = some (.int .u32 i3) ∧ W.drew.cell? ⟨w.heap.size, 9, none⟩ = some (.int .i64 a4) ∧ W.drew.cell? ⟨w.heap.size, 10, none⟩ = some (.int .u32 i4) := by
    show W.cell? _ = _ ∧ W.cell? _ = _ ∧ W.cell? _ = _ ∧ W.cell? _ = _
    unfold World.cell?; rw [Hb0.out]; exact ⟨rfl, rfl, rfl, rfl⟩
  have HBd := Lib.hid (show Below w.heap.size w W.drew from HB0.out.drew)
  have HU := Lib.hid (Hu.out.below HBd.out)
  obtain ⟨S6, hSe⟩ : ∃ S : Array Bool → World → Prop, S = fun _ w' => Below W.drew.heap.size W.drew w' := ⟨_, rfl⟩
  have hdrop : ∀ i : Nat, ∀ L w', S6 (L.setIfInBounds i true) w' → S6 L w' := by
    intro i L w' h; rw [hSe] at h ⊢; exact h
  have hS : ∀ L, S6 L W.drew := by intro L; rw [hSe]; exact Below.refl _ _
  have hSo : ∀ {L w'}, S6 L w' → Below W.drew.heap.size W.drew w' := by intro L w' h; rw [hSe] at h; exact h
  have hSi : ∀ {w'}, Below W.drew.heap.size W.drew w' → ∀ L, S6 L w' := by intro w' h L; rw [hSe]; exact h
  clear hSe
  refine wp_region_LN S6 9 #[false, false, false, false, false, false, false, false, false] (by kernel_rfl) (by kernel_rfl) rfl ?_
  obtain ⟨X, hX⟩ : ∃ X, X = W.drew := ⟨_, rfl⟩
  rw [← hX] at ca0 ca1 cb0 cb1 hSo hSi hS HBd HU ⊢
  clear hX
  refine WA.take (i := 0) (v := .slice ba E.vars bq) rfl (by kernel_rfl) (by kernel_rfl) (by kernel_rfl) (fun _ _ _ h => h) (hdrop 0) (Or.inl ⟨by rfl, ?_⟩) (hS _) ?_
  · rintro w' ⟨L, hL, hSw, hun⟩
    go_simp
  simp only [List.getElem_toArray, List.getElem_cons_zero, List.getElem_cons_succ, Act.put, List.setIfInBounds_toArray, List.set_cons_zero, List.set_cons_succ]
  refine WA.take (i := 1) (v := .pointer (some ⟨w.heap.size, 7, none⟩)) rfl (by kernel_rfl) (by kernel_rfl) (by kernel_rfl) (fun _ _ _ h => h) (hdrop 1) (Or.inl ⟨by rfl, ?_⟩) (hS _) ?_
  · rintro w' ⟨L, hL, hSw, hun⟩
    go_simp
  simp only [List.getElem_toArray, List.getElem_cons_zero, List.getElem_cons_succ, Act.put, List.setIfInBounds_toArray, List.set_cons_zero, List.set_cons_succ]
  refine WA.take (i := 2) (v := .agg #[.int .i64 a3, .int .u32 i3]) rfl (by kernel_rfl) (by kernel_rfl) (by kernel_rfl) (fun _ _ _ h => h) (hdrop 2) (Or.inl ⟨by rfl, ?_⟩) (hS _) ?_
  · rintro w' ⟨L, hL, hSw, hun⟩
    have hbw := hSo hSw
    have ca0 := cell_later hbw ca0
    have ca1 := cell_later hbw ca1
    clear hbw
    go_simp
  simp only [List.getElem_toArray, List.getElem_cons_zero, List.getElem_cons_succ, Act.put, List.setIfInBounds_toArray, List.set_cons_zero, List.set_cons_succ]
  refine WA.take (i := 4) (v := .slice ba E.vars bq) rfl (by kernel_rfl) (by kernel_rfl) (by kernel_rfl) (fun _ _ _ h => h) (hdrop 4) (Or.inl ⟨by rfl, ?_⟩) (hS _) ?_
  · rintro w' ⟨L, hL, hSw, hun⟩
    go_simp
  simp only [List.getElem_toArray, List.getElem_cons_zero, List.getElem_cons_succ, Act.put, List.setIfInBounds_toArray, List.set_cons_zero, List.set_cons_succ]
  refine WA.take (i := 5) (v := .pointer (some ⟨w.heap.size, 9, none⟩)) rfl (by kernel_rfl) (by kernel_rfl) (by kernel_rfl) (fun _ _ _ h => h) (hdrop 5) (Or.inl ⟨by rfl, ?_⟩) (hS _) ?_
  · rintro w' ⟨L, hL, hSw, hun⟩
    go_simp
  simp only [List.getElem_toArray, List.getElem_cons_zero, List.getElem_cons_succ, Act.put, List.setIfInBounds_toArray, List.set_cons_zero, List.set_cons_succ]
  refine WA.take (i := 6) (v := .agg #[.int .i64 a4, .int .u32 i4]) rfl (by kernel_rfl) (by kernel_rfl) (by kernel_rfl) (fun _ _ _ h => h) (hdrop 6) (Or.inl ⟨by rfl, ?_⟩) (hS _) ?_
  · rintro w' ⟨L, hL, hSw, hun⟩
    have hbw := hSo hSw
    have cb0 := cell_later hbw cb0
    have cb1 := cell_later hbw cb1
    clear hbw
    go_simp
  simp only [List.getElem_toArray, List.getElem_cons_zero, List.getElem_cons_succ, Act.put, List.setIfInBounds_toArray, List.set_cons_zero, List.set_cons_succ]
  refine WA.one (i := 3) (by kernel_rfl) rfl (by rfl) (fun K hK => ?_)
  go_simp
  have hc := rvalue_any ba bq b (a3, i3) HU.out HA.out
  rw [Hbl.out] at hc
  refine hc.mono ?_
  rintro e w2 ⟨rfl, hB2⟩
  obtain ⟨u, hu⟩ : ∃ u, plVal b (a3, i3) = u := ⟨_, rfl⟩
  rw [hu]
  have Hv1 := Lib.hid hu; have HB1 := Lib.hid hB2
  clear hu hB2 hc
  refine hK _ _ (hSi HB1.out _) ?_
  clear hK
  try simp only [List.getElem_toArray, List.getElem_cons_zero, List.getElem_cons_succ, Act.put, List.setIfInBounds_toArray, List.set_cons_zero, List.set_cons_succ]
  refine WA.one (i := 7) (by kernel_rfl) rfl (by rfl) (fun K hK => ?_)
  go_simp
  have hc := rvalue_any ba bq b (a4, i4) (HU.out.below HB1.out) HC.out
  rw [Hbl.out] at hc
  refine hc.mono ?_
  rintro e w3 ⟨rfl, hB2⟩
  obtain ⟨v, hv⟩ : ∃ v, plVal b (a4, i4) = v := ⟨_, rfl⟩
  rw [hv]
  have Hv2 := Lib.hid hv; have HB2 := Lib.hid (HB1.out.trans (hB2.mono HB1.out.size))
  clear hv hB2 hc
  refine hK _ _ (hSi HB2.out _) ?_
  clear hK
  try simp only [List.getElem_toArray, List.getElem_cons_zero, List.getElem_cons_succ, Act.put, List.setIfInBounds_toArray, List.set_cons_zero, List.set_cons_succ]
  refine WA.take (i := 8) (v := .bool (u != v)) rfl (by kernel_rfl) (by kernel_rfl) (by kernel_rfl) (fun _ _ _ h => h) (hdrop 8) (Or.inl ⟨by rfl, ?_⟩) (hSi HB2.out _) ?_
  · rintro w' ⟨L, hL, hSw, hun⟩
    go_simp
  simp only [List.getElem_toArray, List.getElem_cons_zero, List.getElem_cons_succ, Act.put, List.setIfInBounds_toArray, List.set_cons_zero, List.set_cons_succ]
  refine WA.done (by kernel_rfl) ?_ _
  refine Nrm.normal ?_
  clear hSo hSi hS hdrop ca0 ca1 cb0 cb1
  clear S6
  by_cases huv : (u != v) = true
  · go_wp2_with fail
    have hBa : Below w.heap.size w w3 := HBd.out.trans (HB2.out.mono HBd.out.size)
    have hyes := Hyes.out (by rw [Hv1.out, Hv2.out]; exact huv)
    have ho := Ho.out
    have hk := Hk.out
    rw [hyes] at ho hk
    have hc := Hnx.out m b (.slice ba E.vars bq) w3 ov acc k (HG.out.below hBa) (own_below HB.out hBa) Hbl.out (by have := Hm.out; omega) ho hk
    rw [show ((step + 1 : Nat) : Int) = (step : Int) + 1 by push_cast; rfl] at hc
    refine hc.mono ?_
    rintro e w4 ⟨rfl, ov', new, h1, h2, h3⟩
    go_wp2_with fail
    (try simp only [Exit.inBlock, Exit.then]); refine bodyPost_ret (results_none rfl _ _ _) rfl ?_
    rw [hyes]
    exact ⟨rfl, ov', new, h1, h2, (GTurn.below hBa).trans h3⟩
  · have huf : (u != v) = false := by simpa using huv
    go_wp2_with fail
    (try simp only [Exit.inBlock, Exit.then]); refine bodyPost_ret (results_none rfl _ _ _) rfl ?_
    have hBa : Below w.heap.size w w3 := HBd.out.trans (HB2.out.mono HBd.out.size)
    rw [Hnot.out (by rw [Hv1.out, Hv2.out]; exact huf)]
    exact ⟨rfl, ov, [], rfl, by rw [List.append_nil]; exact HG.out.below hBa, GTurn.below hBa⟩
end Go.Proofs.Ytkgkkbfpkgfcaaa
