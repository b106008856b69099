/- Layer 14: JoinRuns, walked. -/
import Derived.Test.YtkgkkbfpkgfcaaaJ38
import Derived.Maps.OwnIn
import Derived.Deep.LoopGhost
import Derived.LoopIn
import Derived.Sort.CutIn
namespace Go.Proofs.Ytkgkkbfpkgfcaaa
set_option maxRecDepth 100000
open Go.RowKit Go.Maps
set_option linter.unusedVariables false
set_option linter.unusedSimpArgs false
attribute [local go_sem] Oper.semAt_some

/-- a frame of which five slots are known -/
theorem frame_fix (T : Array Value) (ds : List Deferred) (f4 f6 f9 f10 f11 : Value) (h : T = #[T.toList[0]?.getD undef, T.toList[1]?.getD undef, T.toList[2]?.getD undef, T.toList[3]?.getD undef, f4, T.toList[5]?.getD undef, f6, T.toList[7]?.getD undef, T.toList[8]?.getD undef, f9, f10, f11, T.toList[12]?.getD undef, T.toList[13]?.getD undef, T.toList[14]?.getD undef, T.toList[15]?.getD undef, T.toList[16]?.getD undef, T.toList[17]?.getD undef, T.toList[18]?.getD undef, T.toList[19]?.getD undef, T.toList[20]?.getD undef, T.toList[21]?.getD undef, T.toList[22]?.getD undef, T.toList[23]?.getD undef, T.toList[24]?.getD undef, T.toList[25]?.getD undef, T.toList[26]?.getD undef, T.toList[27]?.getD undef, T.toList[28]?.getD undef, T.toList[29]?.getD undef, T.toList[30]?.getD undef, T.toList[31]?.getD undef, T.toList[32]?.getD undef, T.toList[33]?.getD undef, T.toList[34]?.getD undef, T.toList[35]?.getD undef, T.toList[36]?.getD undef, T.toList[37]?.getD undef, T.toList[38]?.getD undef, T.toList[39]?.getD undef, T.toList[40]?.getD undef, T.toList[41]?.getD undef, T.toList[42]?.getD undef, T.toList[43]?.getD undef, T.toList[44]?.getD undef, T.toList[45]?.getD undef, T.toList[46]?.getD undef, T.toList[47]?.getD undef, T.toList[48]?.getD undef, T.toList[49]?.getD undef, T.toList[50]?.getD undef, T.toList[51]?.getD undef, T.toList[52]?.getD undef, T.toList[53]?.getD undef, T.toList[54]?.getD undef, T.toList[55]?.getD undef, T.toList[56]?.getD undef, T.toList[57]?.getD undef, T.toList[58]?.getD undef, T.toList[59]?.getD undef, T.toList[60]?.getD undef, T.toList[61]?.getD undef, T.toList[62]?.getD undef, T.toList[63]?.getD undef, T.toList[64]?.getD undef, T.toList[65]?.getD undef, T.toList[66]?.getD undef, T.toList[67]?.getD undef, T.toList[68]?.getD undef, T.toList[69]?.getD undef, T.toList[70]?.getD undef, T.toList[71]?.getD undef, T.toList[72]?.getD undef, T.toList[73]?.getD undef, T.toList[74]?.getD undef, T.toList[75]?.getD undef, T.toList[76]?.getD undef, T.toList[77]?.getD undef, T.toList[78]?.getD undef, T.toList[79]?.getD undef, T.toList[80]?.getD undef, T.toList[81]?.getD undef, T.toList[82]?.getD undef, T.toList[83]?.getD undef, T.toList[84]?.getD undef, T.toList[85]?.getD undef, T.toList[86]?.getD undef, T.toList[87]?.getD undef, T.toList[88]?.getD undef, T.toList[89]?.getD undef, T.toList[90]?.getD undef, T.toList[91]?.getD undef, T.toList[92]?.getD undef, T.toList[93]?.getD undef, T.toList[94]?.getD undef, T.toList[95]?.getD undef, T.toList[96]?.getD undef, T.toList[97]?.getD undef, T.toList[98]?.getD undef, T.toList[99]?.getD undef, T.toList[100]?.getD undef, T.toList[101]?.getD undef, T.toList[102]?.getD undef, T.toList[103]?.getD undef, T.toList[104]?.getD undef, T.toList[105]?.getD undef, T.toList[106]?.getD undef, T.toList[107]?.getD undef, T.toList[108]?.getD undef, T.toList[109]?.getD undef, T.toList[110]?.getD undef, T.toList[111]?.getD undef, T.toList[112]?.getD undef, T.toList[113]?.getD undef, T.toList[114]?.getD undef, T.toList[115]?.getD undef, T.toList[116]?.getD undef, T.toList[117]?.getD undef, T.toList[118]?.getD undef, T.toList[119]?.getD undef, T.toList[120]?.getD undef, T.toList[121]?.getD undef, T.toList[122]?.getD undef, T.toList[123]?.getD undef, T.toList[124]?.getD undef, T.toList[125]?.getD undef, T.toList[126]?.getD undef, T.toList[127]?.getD undef, T.toList[128]?.getD undef, T.toList[129]?.getD undef, T.toList[130]?.getD undef, T.toList[131]?.getD undef, T.toList[132]?.getD undef, T.toList[133]?.getD undef, T.toList[134]?.getD undef, T.toList[135]?.getD undef, T.toList[136]?.getD undef, T.toList[137]?.getD undef, T.toList[138]?.getD undef, T.toList[139]?.getD undef, T.toList[140]?.getD undef, T.toList[141]?.getD undef, T.toList[142]?.getD undef, T.toList[143]?.getD undef, T.toList[144]?.getD undef, T.toList[145]?.getD undef, T.toList[146]?.getD undef, T.toList[147]?.getD undef, T.toList[148]?.getD undef, T.toList[149]?.getD undef, T.toList[150]?.getD undef, T.toList[151]?.getD undef, T.toList[152]?.getD undef, T.toList[153]?.getD undef]) : ∃ s : Nat → Value, ({ tmps := T, defers := ds } : Act) = { tmps := #[s 0, s 1, s 2, s 3, f4, s 5, f6, s 7, s 8, f9, f10, f11, s 12, s 13, s 14, s 15, s 16, s 17, s 18, s 19, s 20, s 21, s 22, s 23, s 24, s 25, s 26, s 27, s 28, s 29, s 30, s 31, s 32, s 33, s 34, s 35, s 36, s 37, s 38, s 39, s 40, s 41, s 42, s 43, s 44, s 45, s 46, s 47, s 48, s 49, s 50, s 51, s 52, s 53, s 54, s 55, s 56, s 57, s 58, s 59, s 60, s 61, s 62, s 63, s 64, s 65, s 66, s 67, s 68, s 69, s 70, s 71, s 72, s 73, s 74, s 75, s 76, s 77, s 78, s 79, s 80, s 81, s 82, s 83, s 84, s 85, s 86, s 87, s 88, s 89, s 90, s 91, s 92, s 93, s 94, s 95, s 96, s 97, s 98, s 99, s 100, s 101, s 102, s 103, s 104, s 105, s 106, s 107, s 108, s 109, s 110, s 111, s 112, s 113, s 114, s 115, s 116, s 117, s 118, s 119, s 120, s 121, s 122, s 123, s 124, s 125, s 126, s 127, s 128, s 129, s 130, s 131, s 132, s 133, s 134, s 135, s 136, s 137, s 138, s 139, s 140, s 141, s 142, s 143, s 144, s 145, s 146, s 147, s 148, s 149, s 150, s 151, s 152, s 153], defers := ds } :=
  ⟨fun i => T.toList[i]?.getD undef, congrArg (fun t => Act.mk t ds) h⟩
set_option maxRecDepth 100000 in
set_option maxHeartbeats 40000000 in
theorem runs_any (w : World) (la : Option Addr) (lcap : Nat) (l : TS) (hl : IsRows4 w la l) (h0 h1 h2 h3 h4 h5 : Int) (sa : Option Addr) (cap : Nat) (vars : Int) (steps : List StepT) (hst : IsSteps w sa steps) (hin : PlanIn steps) (hns : steps.length ≤ maxLen) (va : Option Addr) (vcap : Nat) (views : List Vw) (hvw : IsViews w va views) :
    Calls Try.prog 5 #[.slice la l.length lcap, .agg (planC h0 h1 h2 h3 h4 h5 sa steps.length cap vars), .slice va views.length vcap] w fun e w' => e = .returned (.bool true) ∧ Below w.heap.size w w' := by
  obtain ⟨nl, hnl⟩ : ∃ nl, l.length = nl := ⟨_, rfl⟩
  obtain ⟨n, hn⟩ : ∃ n, steps.length = n := ⟨_, rfl⟩
  obtain ⟨nv, hnv⟩ : ∃ nv, views.length = nv := ⟨_, rfl⟩
  rw [hnl, hn, hnv]
  have Hl := Lib.hid hl; have Hst := Lib.hid hst; have Hin := Lib.hid hin; have Hns := Lib.hid hns; have Hnl := Lib.hid hnl; have Hn := Lib.hid hn; have Hnv := Lib.hid hnv; have Hvw := Lib.hid hvw
  obtain ⟨hA1, hA2, hA3, hA4⟩ := two_blocks w (.cells (planC h0 h1 h2 h3 h4 h5 sa n cap vars) 29) (.cells #[.bool false] 4) _ rfl
  unfold planC at hA1 hA2 hA3 hA4 ⊢
  have HA1 := Lib.hid hA1; have HA2 := Lib.hid hA2; have HA3 := Lib.hid hA3; have HA4 := Lib.hid hA4
  have hpl : ∀ A : World, A.heap[w.heap.size]? = some (.cells #[.int .i64 h0, .int .u32 h1, .int .i64 h2, .int .u32 h3, .int .i64 h4, .int .u32 h5, .slice sa n cap, .int .i64 vars] 29 (0, 0)) → A.cell? ⟨w.heap.size, 0, none⟩ = some (.int .i64 h0) ∧ A.cell? ⟨w.heap.size, 1, none⟩ = some (.int .u32 h1) ∧ A.cell? ⟨w.heap.size, 2, none⟩ = some (.int .i64 h2) ∧ A.cell? ⟨w.heap.size, 3, none⟩ = some (.int .u32 h3) ∧ A.cell? ⟨w.heap.size, 4, none⟩ = some (.int .i64 h4) ∧ A.cell? ⟨w.heap.size, 5, none⟩ = some (.int .u32 h5) ∧ A.cell? ⟨w.heap.size, 6, none⟩ = some (.slice sa n cap) ∧ A.cell? ⟨w.heap.size, 7, none⟩ = some (.int .i64 vars) := by
    intro A h
    unfold World.cell?
    rw [h]
    exact ⟨rfl, rfl, rfl, rfl, rfl, rfl, rfl, rfl⟩
  have Hpl := Lib.hid hpl
  clear hl hst hin hns hnl hn hnv hvw hA1 hA2 hA3 hA4 hpl
  refine (callsIn_wide (n := 9)).1 ?_
  refine callsIn_of_wp_marks Try.func5 rfl trivial ?_ rfl
  refine wpIn_wide.2 ?_
  simp only [Try.ntmps5, List.size_toArray, List.length_cons, List.length_nil, Nat.reduceAdd, Nat.reduceSub, Array.replicate_succ, Array.replicate_zero, List.push_toArray, List.append_toArray, List.nil_append, List.cons_append]
  go_wp2_with fail
  generalize (w.alloc (.cells #[.int .i64 h0, .int .u32 h1, .int .i64 h2, .int .u32 h3, .int .i64 h4, .int .u32 h5, .slice sa n cap, .int .i64 vars] 29)).alloc (.cells #[.bool false] 4) = W at *
  rw [← Hn.out, ← Hnv.out]
  refine (small_any h0 h1 h2 h3 h4 h5 sa la va cap lcap vcap nl views.length vars steps (Hst.out.below HA1.out) Hns.out).mono ?_
  rintro e w1 ⟨rfl, hB1⟩
  rw [Hn.out, Hnv.out]
  obtain ⟨q, hq⟩ : ∃ q, smallP steps nl nv vars = q := ⟨_, rfl⟩
  rw [hq]
  have Hq := Lib.hid hq
  have hz := HA2.out
  have hp1 := (hB1.block w.heap.size (by omega)).trans HA3.out
  have hr1 := (hB1.block (w.heap.size + 1) (by omega)).trans HA4.out
  obtain ⟨c6, f6⟩ := jbox_cell hr1
  have HB1 := Lib.hid (HA1.out.trans (hB1.mono HA1.out.size))
  have Hp1 := Lib.hid hp1; have Hr1 := Lib.hid hr1
  clear hq hB1 hz hp1 hr1
  have endE : ∀ (a : Act) (Ds : List Nat) (W : World), a.defers = Ds.map markOf → a.tmps[6]?.getD undef = .pointer (some ⟨w.heap.size + 1, 0, none⟩) → Ds.Nodup → (∀ D ∈ Ds, w.heap.size + 2 ≤ D ∧ W.heap[D]? = some (.deferred (some []))) →
      W.heap[w.heap.size + 1]? = some (.cells #[.bool true] 4 (0, 0)) → Below w.heap.size w W → bodyPostM Fence.wide 9 Try.prog Try.f5 (fun e w' => e = .returned (.bool true) ∧ Below w.heap.size w w') .ret a W := by
    intro a Ds W hd ht hnd hds hr hb
    show LeavesInM Fence.wide 9 Try.prog Try.f5 a.tmps _ a.defers .returning W
    rw [hd]
    refine leaves_marks (w.heap.size + 1) (w.heap.size + 2) (by omega) (fun w' hx1 hx2 => ?_) (by omega) Ds W hnd hds hr hb
    refine ⟨.bool true, ?_, rfl, hx2⟩
    have hres : Try.f5.results = #[.cell 6 4] := rfl
    obtain ⟨cx, _⟩ := jbox_cell hx1
    simp only [results, hres]
    simp [go_sem, ht, cx]
  have EndE := Lib.hid endE
  clear endE
  -- the law's last two operations
  have endK : ∀ (a : Act) (Ds : List Nat) (V V' : World), Below V.heap.size V V' → V.heap[w.heap.size + 1]? = some (.cells #[.bool false] 4 (0, 0)) → Below w.heap.size w V → Ds.Nodup → (∀ D ∈ Ds, w.heap.size + 2 ≤ D ∧ V.heap[D]? = some (.deferred (some []))) → a.defers = Ds.map markOf → a.tmps[6]?.getD undef = .pointer (some ⟨w.heap.size + 1, 0, none⟩) →
      bodyPostM Fence.wide 9 Try.prog Try.f5 (fun e w' => e = .returned (.bool true) ∧ Below w.heap.size w w') .ret a (V'.setCell ⟨w.heap.size + 1, 0, none⟩ (.bool true)) := by
    intro a Ds V V' hV hr hb hnd hds hd ht
    have hr' := (hV.block _ (Array.getElem?_eq_some_iff.1 hr).1).trans hr
    refine EndE.out a Ds _ hd ht hnd (fun D hD => ⟨(hds D hD).1, ?_⟩) (jbox_set hr' _) ((hb.trans (hV.mono hb.size)).setCell (p := ⟨w.heap.size + 1, 0, none⟩) (by simp) _)
    obtain ⟨h5, h6⟩ := hds D hD
    exact (Below.heap_setCell V' ⟨w.heap.size + 1, 0, none⟩ _ D (by simp; omega)).trans ((hV.block D (Array.getElem?_eq_some_iff.1 h6).1).trans h6)
  have EndK := Lib.hid endK
  clear endK
  cases q with
  | false =>
    go_wp2_with fail
    refine (known14_any w1).mono ?_
    rintro e w2 ⟨rfl, hB2⟩
    obtain ⟨c62, f62⟩ := jbox_cell ((hB2.block _ (Array.getElem?_eq_some_iff.1 Hr1.out).1).trans Hr1.out)
    have HB2 := Lib.hid hB2
    clear hB2 c6 f6
    go_wp2_with fail
    exact EndK.out _ [] w1 w2 HB2.out Hr1.out HB1.out List.nodup_nil (fun D hD => by simp at hD) rfl rfl
  | true =>
    have hsm : nl ≤ 30 ∧ nv ≤ 10 ∧ n ≤ 8 ∧ vars ≤ 20 := by
      have := Hq.out
      simp only [smallP, Bool.and_eq_true, decide_eq_true_eq] at this
      have := Hn.out
      omega
    obtain ⟨hnl30, hnv10, hn8, hv20⟩ := hsm
    have hTl : (tabOf l).length ≤ 30 := Nat.le_trans (tabOf_len l) (by have := Hnl.out; omega)
    have hok : PlanOK (tabOf l) vars steps views := Hin.out.ok Hq.out (by have := Hnv.out; omega) hTl
    have hol := run_bound (views := views) Hq.out hTl
    obtain ⟨T, hT⟩ : ∃ T, tabOf l = T := ⟨_, rfl⟩
    have hto := tabOf_ok l Hl.out.ok
    rw [hT] at hTl hok hol hto
    have HTl := Lib.hid hTl; have Hok := Lib.hid hok; have Hol := Lib.hid hol; have HTe := Lib.hid hT; have Hto := Lib.hid hto
    clear hTl hok hol hT hto
    go_wp2_with fail
    rw [← Hnl.out]
    refine (begin14_any w1 la lcap l (Hl.out.below HB1.out) (by have := Hnl.out; omega)).mono ?_
    rw [HTe.out]
    rintro e w2 ⟨tb, v, Z, D, rfl, hT, hrows, hB2⟩
    obtain ⟨ra, rcap, hv, hr4⟩ := IsRows4.of hrows Hto.out
    obtain ⟨tl, htl⟩ : ∃ tl, T.length = tl := ⟨_, rfl⟩
    rw [htl] at hv
    subst hv
    have hp2 := (hB2.block w.heap.size (Array.getElem?_eq_some_iff.1 Hp1.out).1).trans Hp1.out
    have hr2 := (hB2.block (w.heap.size + 1) (Array.getElem?_eq_some_iff.1 Hr1.out).1).trans Hr1.out
    obtain ⟨d0, d1, d2, d3, d4, d5, d6, d7⟩ := Hpl.out w2 hp2
    have hplt : w.heap.size < w2.heap.size := (Array.getElem?_eq_some_iff.1 hp2).1
    have HB2 := Lib.hid (HB1.out.trans (hB2.mono HB1.out.size)); have HT2 := Lib.hid hT; have Hp2 := Lib.hid hp2; have Hr2 := Lib.hid hr2; have HR4 := Lib.hid hr4; have Htl := Lib.hid htl
    clear hT hB2 hp2 hr2 hrows hr4 htl c6 f6
    obtain ⟨g1, g2, g3, g4⟩ := two_blocks w2 (.cells #[.slice ra tl rcap, .int .i64 h0, .int .u32 h1, .int .i64 h2, .int .u32 h3, .int .i64 h4, .int .u32 h5, .slice sa n cap, .int .i64 vars, .slice va nv vcap, .slice none 0 0, .int .i64 0, .int .i64 (-1), .bool false] 55) (.cells #[.pointer (some ⟨w2.heap.size, 0, none⟩)] 53) _ rfl
    have HG1 := Lib.hid g1; have HG2 := Lib.hid g2; have HG3 := Lib.hid g3; have HG4 := Lib.hid g4
    clear g1 g2 g3 g4
    go_wp2_with fail
    generalize (w2.alloc (.cells #[.slice ra tl rcap, .int .i64 h0, .int .u32 h1, .int .i64 h2, .int .u32 h3, .int .i64 h4, .int .u32 h5, .slice sa n cap, .int .i64 vars, .slice va nv vcap, .slice none 0 0, .int .i64 0, .int .i64 (-1), .bool false] 55)).alloc (.cells #[.pointer (some ⟨w2.heap.size, 0, none⟩)] 53) = W3 at *
    rw [← Hn.out]
    refine (rmay_any h0 h1 h2 h3 h4 h5 sa cap vars steps (Hst.out.below (HB2.out.trans (HG1.out.mono HB2.out.size))) (by have := Hn.out; omega) (by omega)).mono ?_
    rintro e w4 ⟨rfl, hB4⟩
    rw [Hn.out]
    obtain ⟨qm, hqm⟩ : ∃ qm, mayP vars steps = qm := ⟨_, rfl⟩
    rw [hqm]
    obtain ⟨outs, hout⟩ : ∃ outs, runOuts T vars steps views = outs := ⟨_, rfl⟩
    have Hqm := Lib.hid hqm; have Hout := Lib.hid hout
    have h24 := HG1.out.trans (hB4.mono HG1.out.size)
    have HG34 := Lib.hid ((hB4.block _ (Array.getElem?_eq_some_iff.1 HG3.out).1).trans HG3.out)
    have HG44 := Lib.hid ((hB4.block _ (Array.getElem?_eq_some_iff.1 HG4.out).1).trans HG4.out)
    have Hp4 := Lib.hid ((h24.block _ (Array.getElem?_eq_some_iff.1 Hp2.out).1).trans Hp2.out)
    have H24 := Lib.hid h24
    clear hqm hout hB4 h24 d0 d1 d2 d3 d4 d5 d6 d7 hplt
    obtain ⟨d0, d1, d2, d3, d4, d5, d6, d7⟩ := Hpl.out w4 Hp4.out
    obtain ⟨cp4, fp4⟩ := jbox_cell HG44.out
    go_upto_if 37 with fail
    go_cut [] from 38 to 42 (fun wx => ∃ (ov : Value) (new : List OutT), new.map (·.2) = outs ∧ IsOuts w2.heap.size wx ov new ∧ wx.cell? ⟨w2.heap.size, 10, none⟩ = some ov ∧ wx.heap[w2.heap.size + 1]? = some (.cells #[.pointer (some ⟨w2.heap.size, 0, none⟩)] 53 (0, 0)) ∧ Below w2.heap.size w2 wx)
    case first =>
      cases qm with
      | false =>
        go_wp2_with fail
        go_meet
        refine ⟨.slice none 0 0, [], ?_, ⟨World.ownsRow_nil _ _ _ _, fun y hy => by simp at hy⟩, ?_, HG44.out, H24.out⟩
        · rw [← Hout.out]; unfold runOuts; rw [Hqm.out]; rfl
        · unfold World.cell?; rw [HG34.out]; rfl
      | true =>
        obtain ⟨vn, rfl⟩ : ∃ vn : Nat, vars = vn := ⟨vars.toNat, by have h5 := Hqm.out; simp only [mayP, Bool.and_eq_true, decide_eq_true_eq] at h5; omega⟩
        go_wp2_with fail
        have hmk := fun W => run_mkU W vn (by omega)
        have cp : w4.drew.cell? ⟨w2.heap.size + 1, 0, none⟩ = some (.pointer (some ⟨w2.heap.size, 0, none⟩)) := cp4
        have cv : w4.drew.cell? ⟨w.heap.size, 7, none⟩ = some (.int .i64 (vn : Nat)) := d7
        have HBd := Lib.hid (show Below w2.heap.size w2 w4.drew from H24.out.drew)
        have HGd := Lib.hid (show w4.drew.heap[w2.heap.size]? = _ from HG34.out)
        have HGe := Lib.hid (show w4.drew.heap[w2.heap.size + 1]? = _ from HG44.out)
        obtain ⟨S6, hSe⟩ : ∃ S : Array Bool → World → Prop, S = fun L w' => L.getD 4 true = false → Below w4.drew.heap.size w4.drew w' := ⟨_, rfl⟩
        have hdrop : ∀ i, i ≠ 4 → ∀ L w', S6 (L.setIfInBounds i true) w' → S6 L w' := by
          intro i hi L w'
          rw [hSe]
          intro h hl
          exact h (by rw [getD_set_ne true hi]; exact hl)
        have hS : ∀ L, S6 L w4.drew := by intro L; rw [hSe]; exact fun _ => Below.refl _ _
        have hSo : ∀ {L w'}, S6 L w' → L.getD 4 true = false → Below w4.drew.heap.size w4.drew w' := by intro L w' h hl; rw [hSe] at h; exact h hl
        have hSi : ∀ {w'}, Below w4.drew.heap.size w4.drew w' → ∀ L, S6 L w' := by intro w' h L; rw [hSe]; exact fun _ => h
        have hSd : ∀ (L : Array Bool) X, L.getD 4 true = true → S6 L X := by
          intro L X h; rw [hSe]; intro h1; rw [h] at h1; cases h1
        clear hSe
        refine wp_region_LN S6 5 #[false, false, false, false, false] (by kernel_rfl) (by kernel_rfl) rfl ?_
        obtain ⟨X, hX⟩ : ∃ X, X = w4.drew := ⟨_, rfl⟩
        rw [← hX] at cp cv HBd HGd HGe hSo hSi hS ⊢
        clear hX
        refine WA.take (i := 0) (v := .pointer (some ⟨w2.heap.size, 0, none⟩)) rfl (by kernel_rfl) (by kernel_rfl) (by kernel_rfl) (fun _ _ _ h => h) (hdrop 0 (by decide)) (Or.inl ⟨by rfl, ?_⟩) (hS _) ?_
        · rintro w' ⟨L, hL, hSw, hun⟩
          have hbw := hSo hSw (hL.wait 4 0 (by kernel_rfl) hun)
          have cp := cell_later hbw cp
          clear hbw
          go_simp
        simp only [List.getElem_toArray, List.getElem_cons_zero, List.getElem_cons_succ, Act.put, List.setIfInBounds_toArray, List.set_cons_zero, List.set_cons_succ]
        refine WA.take (i := 1) (v := .pointer (some ⟨w.heap.size, 7, none⟩)) rfl (by kernel_rfl) (by kernel_rfl) (by kernel_rfl) (fun _ _ _ h => h) (hdrop 1 (by decide)) (Or.inl ⟨by rfl, ?_⟩) (hS _) ?_
        · rintro w' ⟨L, hL, hSw, hun⟩
          go_simp
        simp only [List.getElem_toArray, List.getElem_cons_zero, List.getElem_cons_succ, Act.put, List.setIfInBounds_toArray, List.set_cons_zero, List.set_cons_succ]
        refine WA.take (i := 2) (v := .int .i64 (vn : Nat)) rfl (by kernel_rfl) (by kernel_rfl) (by kernel_rfl) (fun _ _ _ h => h) (hdrop 2 (by decide)) (Or.inl ⟨by rfl, ?_⟩) (hS _) ?_
        · rintro w' ⟨L, hL, hSw, hun⟩
          have hbw := hSo hSw (hL.wait 4 3 (by kernel_rfl) (hL.wait 3 2 (by kernel_rfl) hun))
          have cv := cell_later hbw cv
          clear hbw
          go_simp
        simp only [List.getElem_toArray, List.getElem_cons_zero, List.getElem_cons_succ, Act.put, List.setIfInBounds_toArray, List.set_cons_zero, List.set_cons_succ]
        refine WA.one (i := 3) (by kernel_rfl) rfl (by rfl) (fun K hK => ?_)
        go_simp
        have hB1 : Below X.heap.size X (X.alloc (.cells (uvs (List.replicate vn 0)) 23)) := (Below.refl _ X).alloc (Nat.le_refl _) _
        refine hK _ _ (hSi hB1 _) ?_
        clear hK
        try simp only [List.getElem_toArray, List.getElem_cons_zero, List.getElem_cons_succ, Act.put, List.setIfInBounds_toArray, List.set_cons_zero, List.set_cons_succ]
        refine WA.one (i := 4) (by kernel_rfl) rfl (by rfl) (fun K hK => ?_)
        go_simp
        obtain ⟨E, hE⟩ : ∃ E : GoE, E = { wt := w2, gb := w2.heap.size, ra := ra, rcap := rcap, T := T, h0 := h0, h1 := h1, h2 := h2, h3 := h3, h4 := h4, h5 := h5, sa := sa, cap := cap, vars := vn, steps := steps, va := va, vcap := vcap, views := views } := ⟨_, rfl⟩
        have hmay := Hqm.out
        simp only [mayP, Bool.and_eq_true, decide_eq_true_eq] at hmay
        have hlt := HTl.out
        have hEok : GoOK E := by
          subst hE
          exact { rows := HR4.out, st := Hst.out.below HB2.out, vw := Hvw.out.below HB2.out, n := by show steps.length ≤ 1000; have := Hn.out; omega, tl := by show T.length ≤ 1000; omega, nv := by show views.length ≤ 1000; have := Hnv.out; omega, vars := by show vn ≤ 1000; omega, ok := mayG_ok hmay.2 }
        have hgw : GW E (X.alloc (.cells (uvs (List.replicate vn 0)) 23)) (.slice none 0 0) [] 0 := by
          subst hE
          refine ⟨fun i hi => (hB1.block i (Nat.lt_of_lt_of_le hi HBd.out.size)).trans (HBd.out.block i hi), Nat.le_trans HBd.out.size hB1.size, Nat.le_refl _, ?_, ⟨World.ownsRow_nil _ _ _ _, fun y hy => by simp at hy⟩⟩
          refine (hB1.block _ (Array.getElem?_eq_some_iff.1 HGd.out).1).trans (HGd.out.trans ?_)
          simp only [GoE.cells, Hn.out, Hnv.out, Htl.out]
          rfl
        have hbo : IsOut E.wt.heap.size (X.alloc (.cells (uvs (List.replicate vn 0)) 23)) (.slice (some ⟨X.heap.size, 0, none⟩) vn vn) (List.replicate E.vars 0) := by
          subst hE
          have h5 := World.ownsRow_lit (base := w2.heap.size) (e := 23) (size := 1) X (uvs (List.replicate vn 0)) vn HBd.out.size (by unfold maxLen; omega) (by simp [uvs])
          unfold IsOut
          rw [List.length_replicate]
          exact h5
        have hst0 : stepE E 0 0 (List.replicate E.vars 0) = runEvs T vn steps views := by
          subst hE
          rfl
        have hoe : outsE (runEvs T vn steps views) = outs := by rw [← Hout.out]; unfold runOuts; rw [Hqm.out]; rfl
        have hgb : E.gb = w2.heap.size := by subst hE; rfl
        have hwt : E.wt = w2 := by subst hE; rfl
        have hc := go0_any hEok hgw hbo (by rw [hst0, hoe, ← Hout.out]; have := Hol.out.2; omega) (by rw [hst0]; have := Hol.out.1; omega)
        rw [hst0, hoe, hgb] at hc
        refine hc.mono ?_
        rintro e w5 ⟨rfl, ov, new, k, k1, k2, k3⟩
        have hG5 := Lib.hid (k2.c.2.2.2.1)
        have hO5 := Lib.hid k2.oo
        have hP5 : w5.heap[w2.heap.size + 1]? = some (.cells #[.pointer (some ⟨w2.heap.size, 0, none⟩)] 53 (0, 0)) := k3.cells hgw ((hB1.block _ (Array.getElem?_eq_some_iff.1 HGe.out).1).trans HGe.out) (by decide) (by decide)
        have hB5 : Below w2.heap.size w2 w5 := ⟨k3.os.trans (hB1.os.trans HBd.out.os), k3.tape.trans (hB1.tape.trans HBd.out.tape), k3.output.trans (hB1.output.trans HBd.out.output), by rw [← hwt]; exact k2.lows, fun i hi => by have h5 := k2.low i (by rw [hwt]; exact hi); rw [hwt] at h5; exact h5⟩
        rw [hgb] at hG5
        rw [hwt] at hO5
        have K1 := Lib.hid k1; have HP5 := Lib.hid hP5; have HB5 := Lib.hid hB5
        refine hK _ _ (hSd _ _ (by rfl)) ?_
        clear hK hE hmay hlt hEok hgw hbo hst0 hoe hgb hwt hc k1 k2 k3 hP5 hB5
        try simp only [List.getElem_toArray, List.getElem_cons_zero, List.getElem_cons_succ, Act.put, List.setIfInBounds_toArray, List.set_cons_zero, List.set_cons_succ]
        refine WA.done (by kernel_rfl) ?_ _
        refine Nrm.normal ?_
        clear hSo hSi hS hSd hdrop hmk cp cv
        clear S6
        go_wp2_with fail
        go_meet
        exact ⟨ov, new, K1.out, hO5.out, hG5.out, HP5.out, HB5.out⟩
    case rest =>
      obtain ⟨ov, new, hnw, hoo, hov, hpt, hBx⟩ := hcut
      have hpx := (hBx.block w.heap.size (Array.getElem?_eq_some_iff.1 Hp2.out).1).trans Hp2.out
      have hrx := (hBx.block (w.heap.size + 1) (Array.getElem?_eq_some_iff.1 Hr2.out).1).trans Hr2.out
      have Hnw := Lib.hid hnw; have Hoo := Lib.hid hoo; have Hov := Lib.hid hov; have Hpt := Lib.hid hpt; have HBx := Lib.hid hBx; have Hpx := Lib.hid hpx; have Hrx := Lib.hid hrx
      clear hnw hoo hov hpt hBx hpx hrx d0 d1 d2 d3 d4 d5 d6 d7 cp4 fp4
      obtain ⟨d0, d1, d2, d3, d4, d5, d6, d7⟩ := Hpl.out wc Hpx.out
      go_wp2_with fail
      refine (Run_any wc tb h0 h1 h2 h3 h4 h5 sa va n cap nv vcap vars).mono ?_
      rintro e w6 ⟨rfl, hB6, hz6, b0, b1, b2⟩
      rw [← Hn.out] at b1
      rw [← Hnv.out] at b2
      have H26 := Lib.hid (HBx.out.trans (hB6.mono HBx.out.size))
      have HB6 := Lib.hid (HB2.out.trans (H26.out.mono HB2.out.size))
      have hseq := run1_any (HT2.out.below H26.out) h0 h1 h2 h3 h4 h5 sa va cap vcap vars steps views (Hst.out.below HB6.out) (Hvw.out.below HB6.out) Hok.out b0 b1 b2
      have Hseq := Lib.hid hseq
      have Hp6 := Lib.hid ((hB6.block _ (Array.getElem?_eq_some_iff.1 Hpx.out).1).trans Hpx.out)
      have Hr6 := Lib.hid ((hB6.block _ (Array.getElem?_eq_some_iff.1 Hrx.out).1).trans Hrx.out)
      have Hpt6 := Lib.hid ((hB6.block _ (Array.getElem?_eq_some_iff.1 Hpt.out).1).trans Hpt.out)
      have Hoo6 := Lib.hid (show IsOuts w2.heap.size w6 ov new from ⟨own_below Hoo.out.1 hB6, fun y hy => own_below (Hoo.out.2 y hy) hB6⟩)
      have Hov6 := Lib.hid (cell_later hB6 Hov.out)
      have hnilf : ∀ (lb : Array Value) (w : World), (binOp .eql 49 (.func (.func 22) #[] lb) .nilFunc).run Try.prog w = .ok (.bool false) w := fun _ _ => rfl
      obtain ⟨B, hB⟩ : ∃ B, wc.heap.size = B := ⟨_, rfl⟩
      rw [hB] at Hseq ⊢
      have HoutsB := Lib.hid (runOuts_b Hok.out)
      have Hnl6 := Lib.hid (show outs.length ≤ 27000 by rw [← Hout.out]; exact Hol.out.2)
      rw [Hout.out] at Hseq HoutsB
      have Hgt := Lib.hid (show w.heap.size + 1 < w6.heap.size ∧ w2.heap.size + 1 < w6.heap.size from ⟨(Array.getElem?_eq_some_iff.1 Hr6.out).1, (Array.getElem?_eq_some_iff.1 Hpt6.out).1⟩)
      clear hB6 hz6 b0 b1 b2 hseq d0 d1 d2 d3 d4 d5 d6 d7 hB
      clear Hoo Hov Hpt Hpx Hrx HG34 HG44 Hp4 H24 HG1 HG2 HG3 HG4
      go_wp2_with fail
      clear hnilf
      refine wp_loop_ghost_k (fun (nn : Nat) (a : Act) (W : World) => ∃ (turn : Nat) (Ds : List Nat), turn ≤ 2 ∧ nn = 2 - turn ∧ TurnI w6 Ds W ∧ ∃ s : Nat → Value, a = { tmps := #[s 0, s 1, s 2, s 3, .pointer (some ⟨w.heap.size, 0, none⟩), s 5, .pointer (some ⟨w.heap.size + 1, 0, none⟩), s 7, s 8, .pointer (some ⟨w2.heap.size + 1, 0, none⟩), .func (.func 22) #[] #[.pointer (some ⟨B + 1, 0, none⟩), .pointer (some ⟨B, 0, none⟩), .pointer (some ⟨B + 2, 0, none⟩)], .int .i64 (turn : Nat), s 12, s 13, s 14, s 15, s 16, s 17, s 18, s 19, s 20, s 21, s 22, s 23, s 24, s 25, s 26, s 27, s 28, s 29, s 30, s 31, s 32, s 33, s 34, s 35, s 36, s 37, s 38, s 39, s 40, s 41, s 42, s 43, s 44, s 45, s 46, s 47, s 48, s 49, s 50, s 51, s 52, s 53, s 54, s 55, s 56, s 57, s 58, s 59, s 60, s 61, s 62, s 63, s 64, s 65, s 66, s 67, s 68, s 69, s 70, s 71, s 72, s 73, s 74, s 75, s 76, s 77, s 78, s 79, s 80, s 81, s 82, s 83, s 84, s 85, s 86, s 87, s 88, s 89, s 90, s 91, s 92, s 93, s 94, s 95, s 96, s 97, s 98, s 99, s 100, s 101, s 102, s 103, s 104, s 105, s 106, s 107, s 108, s 109, s 110, s 111, s 112, s 113, s 114, s 115, s 116, s 117, s 118, s 119, s 120, s 121, s 122, s 123, s 124, s 125, s 126, s 127, s 128, s 129, s 130, s 131, s 132, s 133, s 134, s 135, s 136, s 137, s 138, s 139, s 140, s 141, s 142, s 143, s 144, s 145, s 146, s 147, s 148, s 149, s 150, s 151, s 152, s 153], defers := Ds.map markOf }) 2 ⟨0, [], by omega, rfl, ⟨Below.refl _ _, List.nodup_nil, fun D hD => by simp at hD⟩, frame_fix _ _ _ _ _ _ _ (by kernel_rfl)⟩ ?_
      rintro nn a W ⟨turn, Ds, hturn, hnn, hTI, s, rfl⟩ J K hJ hK
      have HTI := Lib.hid hTI; have Hnn := Lib.hid hnn; have HJ := Lib.hid hJ
      clear hTI hnn hJ
      by_cases ht2 : turn < 2
      · have hd11 : decide ((turn : Int) < 2) = true := by simp; omega
        obtain ⟨hBa, hba⟩ : Below W.heap.size W (W.alloc (.cells #[.int .i64 0] 3)) ∧ (W.alloc (.cells #[.int .i64 0] 3)).heap[W.heap.size]? = some (.cells #[.int .i64 0] 3 (0, 0)) := ⟨(Below.refl _ W).alloc (Nat.le_refl _) _, World.alloc_heap_new _ _⟩
        have hza : (W.alloc (.cells #[.int .i64 0] 3)).heap.size = W.heap.size + 1 := World.size_alloc _ _
        have HBa := Lib.hid hBa; have Hba := Lib.hid hba; have Hza := Lib.hid hza
        clear hBa hba hza
        go_upto_block 2 with fail
        obtain ⟨ib, hib⟩ : ∃ ib, W.heap.size = ib := ⟨_, rfl⟩
        obtain ⟨W0, hW0⟩ : ∃ W0, W0 = W.alloc (.cells #[.int .i64 0] 3) := ⟨_, rfl⟩
        rw [← hW0] at HBa Hba Hza ⊢
        rw [hib] at Hba Hza ⊢
        have Hib := Lib.hid hib
        clear hW0 hib
        refine (wpIn_wide (n := 9)).1 ?_
        have hfn : ∀ k, Fence.wide.fn k := fun _ => trivial
        have Hib6 := Lib.hid (show w6.heap.size ≤ ib by rw [← Hib.out]; exact HTI.out.b.size)
        have Hlow := Lib.hid (show ∀ i, i < ib → W0.heap[i]? = W.heap[i]? by intro i hi; exact HBa.out.block i (by rw [Hib.out]; exact hi))
        refine wp_rangeFunc_XB 2 (fun t sv => (t.setIfInBounds 54 sv).setIfInBounds 13 sv) rfl (enters_of Try.func22 (by kernel_rfl) rfl) Hseq.out (by have := Hza.out; have := Hib6.out; omega) (fun i hi => (Hlow.out i (by have := Hib6.out; omega)).trans (HTI.out.b.block i hi))
          (fun pre X V => RunI W0 ib pre.length X V) (fun pre V => False)
          (fun pre X X' A B h hg hX => h.grow hg hX) (fun pre X V l o o' h hw hl hc => h.put hw o') (fun pre V l o o' h _ _ _ => h)
          ⟨fun i h => h.elim, Nat.le_refl _, rfl, rfl, rfl, fun i _ _ => rfl, by have := Hza.out; omega, Hba.out⟩ ?assign ?body ?fin
        case assign =>
          rintro lnn sv V K ⟨x1, x2, x3, rfl⟩ hK
          have HK := Lib.hid hK
          clear hK
          gi_wp2
          exact HK.out
        case body =>
          rintro lnn pre X sv b V hR hX hV2 hio hnx hpx hlw hlr
          have hbat := prefix_at hpx
          obtain ⟨pl, hpl⟩ : ∃ pl, pre.length = pl := ⟨_, rfl⟩
          rw [hpl] at hbat
          obtain ⟨hpn, hnb⟩ := map_at Hnw.out hbat
          have hTV : Below w6.heap.size w6 V := by
            have h1 := HTI.out.b
            have h2 := Hib6.out
            have h3 := Hza.out
            have h4 := HBa.out
            exact ⟨hR.os.trans (h4.os.trans h1.os), hR.tape.trans (h4.tape.trans h1.tape), hR.output.trans (h4.output.trans h1.output), by have := hR.size; omega, fun i hi => (hR.low i (by omega) (by omega)).trans ((Hlow.out i (by omega)).trans (h1.block i hi))⟩
          obtain ⟨sa1, sc1, hsv, hu1⟩ := IsOut.u hio
          subst hsv
          have hb6 : b.length ≤ 1000000 := HoutsB.out b (List.mem_of_getElem? hbat)
          obtain ⟨og, oc, hov, hoe⟩ := Hoo6.out.at pl hpn
          obtain ⟨a2, q2, hn1, hu2⟩ := (Hoo6.out.2 (new[pl]'hpn) (List.getElem_mem hpn)).u
          rw [hnb] at hn1 hu2
          rw [hn1] at hoe
          obtain ⟨bl, hbl⟩ : ∃ bl, b.length = bl := ⟨_, rfl⟩
          obtain ⟨ol, hol⟩ : ∃ ol, new.length = ol := ⟨_, rfl⟩
          rw [hol] at hov hpn
          have hV6 : ∀ i, i < w6.heap.size → V.heap[i]? = w6.heap[i]? := fun i hi => hTV.block i hi
          have cI := (jbox_cell hR.box).1
          rw [hpl] at cI
          have cP := (jbox_cell ((hV6 _ Hgt.out.2).trans Hpt6.out)).1
          have cO : V.cell? ⟨w2.heap.size, 10, none⟩ = some (.slice (some ⟨og, 0, none⟩) ol oc) := by
            rw [← hov]
            exact (World.cell?_of_block (w := w6) (a := ⟨w2.heap.size, 10, none⟩) (hV6 _ (by show w2.heap.size < _; have := Hgt.out.2; omega))).trans Hov6.out
          have hogl : og < w6.heap.size := own_lt Hoo6.out.1 (by rw [hov]; rfl)
          have cE : V.cell? ⟨og, pl, none⟩ = some (.slice a2 b.length q2) := (World.cell?_of_block (w := w6) (a := ⟨og, pl, none⟩) (hV6 og hogl)).trans hoe
          rw [hbl] at cE hb6 hio hnx ⊢
          have hu2' : IsU V a2 b := by
            intro j hj
            obtain ⟨gg, oo, k1, k2, k3⟩ := hu2 j hj
            exact ⟨gg, oo, k1, Nat.lt_of_lt_of_le k2 hTV.size, (World.cell?_of_block (w := w6) (a := ⟨gg, _, none⟩) (hV6 gg k2)).trans k3⟩
          have hpV := (hV6 _ (by have := Hgt.out.1; omega)).trans Hp6.out
          have Hu1 := Lib.hid hu1; have Hu2 := Lib.hid hu2'; have HR := Lib.hid hR; have HX := Lib.hid hX; have Hio := Lib.hid hio; have Hnx := Lib.hid hnx; have Hpl2 := Lib.hid hpl; have Hbl := Lib.hid hbl; have HTV := Lib.hid hTV; have HpV := Lib.hid hpV
          have hdp : decide ((pl : Int) ≥ (ol : Int)) = false := by simp; omega
          have Hpn := Lib.hid (show pl < outs.length by rw [← Hnw.out, List.length_map, hol]; exact hpn)
          clear hbat hpl hTV hu1 hu2 hu2' hnb hn1 hoe hbl hol hV6 hov hogl hR hX hV2 hio hnx hpx hlr hpV
          gi_wp2_with fail
          have cI : V.drew.cell? ⟨ib, 0, none⟩ = _ := cI
          have cP : V.drew.cell? ⟨w2.heap.size + 1, 0, none⟩ = _ := cP
          have cO : V.drew.cell? ⟨w2.heap.size, 10, none⟩ = _ := cO
          have cE : V.drew.cell? ⟨og, pl, none⟩ = _ := cE
          have HBd := Lib.hid (show Below V.heap.size V V.drew from (Below.refl _ V).drew)
          obtain ⟨S16, hSe⟩ : ∃ S : Array Bool → World → Prop, S = fun _ w' => Below V.drew.heap.size V.drew w' := ⟨_, rfl⟩
          have hdrop : ∀ i : Nat, ∀ L w', S16 (L.setIfInBounds i true) w' → S16 L w' := by
            intro i L w' h; rw [hSe] at h ⊢; exact h
          have hS : ∀ L, S16 L V.drew := by intro L; rw [hSe]; exact Below.refl _ _
          have hSo : ∀ {L w'}, S16 L w' → Below V.drew.heap.size V.drew w' := by intro L w' h; rw [hSe] at h; exact h
          have hSi : ∀ {w'}, Below V.drew.heap.size V.drew w' → ∀ L, S16 L w' := by intro w' h L; rw [hSe]; exact h
          clear hSe
          refine wpIn_region_LW S16 19 #[false, false, false, false, false, false, false, false, false, false, false, false, false, false, false, false, false, false, false] (by kernel_rfl) (by kernel_rfl) rfl (by kernel_rfl) ?_
          obtain ⟨X16, hX⟩ : ∃ X16, X16 = V.drew := ⟨_, rfl⟩
          rw [← hX] at cI cP cO cE HBd hSo hSi hS ⊢
          clear hX
          refine WA.take (i := 0) (v := .int .i64 (pl : Nat)) rfl (by kernel_rfl) (by kernel_rfl) (by kernel_rfl) (fun _ _ _ h => h) (hdrop 0) (Or.inl ⟨by rfl, ?_⟩) (hS _) ?_
          · rintro w' ⟨L, hL, hSw, hun⟩
            have hbw := hSo hSw
            have cI := cell_later hbw cI
            clear hbw
            go_simp
          simp only [List.getElem_toArray, List.getElem_cons_zero, List.getElem_cons_succ, Act.put, List.setIfInBounds_toArray, List.set_cons_zero, List.set_cons_succ]
          refine WA.take (i := 1) (v := .pointer (some ⟨w2.heap.size, 0, none⟩)) rfl (by kernel_rfl) (by kernel_rfl) (by kernel_rfl) (fun _ _ _ h => h) (hdrop 1) (Or.inl ⟨by rfl, ?_⟩) (hS _) ?_
          · rintro w' ⟨L, hL, hSw, hun⟩
            have hbw := hSo hSw
            have cP := cell_later hbw cP
            clear hbw
            go_simp
          simp only [List.getElem_toArray, List.getElem_cons_zero, List.getElem_cons_succ, Act.put, List.setIfInBounds_toArray, List.set_cons_zero, List.set_cons_succ]
          refine WA.take (i := 2) (v := .pointer (some ⟨w2.heap.size, 0, none⟩)) rfl (by kernel_rfl) (by kernel_rfl) (by kernel_rfl) (fun _ _ _ h => h) (hdrop 2) (Or.inl ⟨by rfl, ?_⟩) (hS _) ?_
          · rintro w' ⟨L, hL, hSw, hun⟩
            go_simp
          simp only [List.getElem_toArray, List.getElem_cons_zero, List.getElem_cons_succ, Act.put, List.setIfInBounds_toArray, List.set_cons_zero, List.set_cons_succ]
          refine WA.take (i := 3) (v := .pointer (some ⟨w2.heap.size, 10, none⟩)) rfl (by kernel_rfl) (by kernel_rfl) (by kernel_rfl) (fun _ _ _ h => h) (hdrop 3) (Or.inl ⟨by rfl, ?_⟩) (hS _) ?_
          · rintro w' ⟨L, hL, hSw, hun⟩
            go_simp
          simp only [List.getElem_toArray, List.getElem_cons_zero, List.getElem_cons_succ, Act.put, List.setIfInBounds_toArray, List.set_cons_zero, List.set_cons_succ]
          refine WA.take (i := 4) (v := .slice (some ⟨og, 0, none⟩) ol oc) rfl (by kernel_rfl) (by kernel_rfl) (by kernel_rfl) (fun _ _ _ h => h) (hdrop 4) (Or.inl ⟨by rfl, ?_⟩) (hS _) ?_
          · rintro w' ⟨L, hL, hSw, hun⟩
            have hbw := hSo hSw
            have cO := cell_later hbw cO
            clear hbw
            go_simp
          simp only [List.getElem_toArray, List.getElem_cons_zero, List.getElem_cons_succ, Act.put, List.setIfInBounds_toArray, List.set_cons_zero, List.set_cons_succ]
          refine WA.take (i := 5) (v := .int .i64 (ol : Nat)) rfl (by kernel_rfl) (by kernel_rfl) (by kernel_rfl) (fun _ _ _ h => h) (hdrop 5) (Or.inl ⟨by rfl, ?_⟩) (hS _) ?_
          · rintro w' ⟨L, hL, hSw, hun⟩
            go_simp
          simp only [List.getElem_toArray, List.getElem_cons_zero, List.getElem_cons_succ, Act.put, List.setIfInBounds_toArray, List.set_cons_zero, List.set_cons_succ]
          refine WA.take (i := 6) (v := .bool false) rfl (by kernel_rfl) (by kernel_rfl) (by kernel_rfl) (fun _ _ _ h => h) (hdrop 6) (Or.inl ⟨by rfl, ?_⟩) (hS _) ?_
          · rintro w' ⟨L, hL, hSw, hun⟩
            go_simp
          simp only [List.getElem_toArray, List.getElem_cons_zero, List.getElem_cons_succ, Act.put, List.setIfInBounds_toArray, List.set_cons_zero, List.set_cons_succ]
          refine WA.take (i := 7) (v := .bool false) rfl (by kernel_rfl) (by kernel_rfl) (by kernel_rfl) (fun _ _ _ h => h) (hdrop 7) (Or.inl ⟨by rfl, ?_⟩) (hS _) ?_
          · rintro w' ⟨L, hL, hSw, hun⟩
            go_simp
          simp only [List.getElem_toArray, List.getElem_cons_zero, List.getElem_cons_succ, Act.put, List.setIfInBounds_toArray, List.set_cons_zero, List.set_cons_succ]
          refine WA.take (i := 8) (v := .slice sa1 bl sc1) rfl (by kernel_rfl) (by kernel_rfl) (by kernel_rfl) (fun _ _ _ h => h) (hdrop 8) (Or.inl ⟨by rfl, ?_⟩) (hS _) ?_
          · rintro w' ⟨L, hL, hSw, hun⟩
            go_simp
          simp only [List.getElem_toArray, List.getElem_cons_zero, List.getElem_cons_succ, Act.put, List.setIfInBounds_toArray, List.set_cons_zero, List.set_cons_succ]
          refine WA.take (i := 9) (v := .pointer (some ⟨w2.heap.size, 0, none⟩)) rfl (by kernel_rfl) (by kernel_rfl) (by kernel_rfl) (fun _ _ _ h => h) (hdrop 9) (Or.inl ⟨by rfl, ?_⟩) (hS _) ?_
          · rintro w' ⟨L, hL, hSw, hun⟩
            have hbw := hSo hSw
            have cP := cell_later hbw cP
            clear hbw
            go_simp
          simp only [List.getElem_toArray, List.getElem_cons_zero, List.getElem_cons_succ, Act.put, List.setIfInBounds_toArray, List.set_cons_zero, List.set_cons_succ]
          refine WA.take (i := 10) (v := .pointer (some ⟨w2.heap.size, 0, none⟩)) rfl (by kernel_rfl) (by kernel_rfl) (by kernel_rfl) (fun _ _ _ h => h) (hdrop 10) (Or.inl ⟨by rfl, ?_⟩) (hS _) ?_
          · rintro w' ⟨L, hL, hSw, hun⟩
            go_simp
          simp only [List.getElem_toArray, List.getElem_cons_zero, List.getElem_cons_succ, Act.put, List.setIfInBounds_toArray, List.set_cons_zero, List.set_cons_succ]
          refine WA.take (i := 11) (v := .pointer (some ⟨w2.heap.size, 10, none⟩)) rfl (by kernel_rfl) (by kernel_rfl) (by kernel_rfl) (fun _ _ _ h => h) (hdrop 11) (Or.inl ⟨by rfl, ?_⟩) (hS _) ?_
          · rintro w' ⟨L, hL, hSw, hun⟩
            go_simp
          simp only [List.getElem_toArray, List.getElem_cons_zero, List.getElem_cons_succ, Act.put, List.setIfInBounds_toArray, List.set_cons_zero, List.set_cons_succ]
          refine WA.take (i := 12) (v := .slice (some ⟨og, 0, none⟩) ol oc) rfl (by kernel_rfl) (by kernel_rfl) (by kernel_rfl) (fun _ _ _ h => h) (hdrop 12) (Or.inl ⟨by rfl, ?_⟩) (hS _) ?_
          · rintro w' ⟨L, hL, hSw, hun⟩
            have hbw := hSo hSw
            have cO := cell_later hbw cO
            clear hbw
            go_simp
          simp only [List.getElem_toArray, List.getElem_cons_zero, List.getElem_cons_succ, Act.put, List.setIfInBounds_toArray, List.set_cons_zero, List.set_cons_succ]
          refine WA.take (i := 13) (v := .int .i64 (pl : Nat)) rfl (by kernel_rfl) (by kernel_rfl) (by kernel_rfl) (fun _ _ _ h => h) (hdrop 13) (Or.inl ⟨by rfl, ?_⟩) (hS _) ?_
          · rintro w' ⟨L, hL, hSw, hun⟩
            have hbw := hSo hSw
            have cI := cell_later hbw cI
            clear hbw
            go_simp
          simp only [List.getElem_toArray, List.getElem_cons_zero, List.getElem_cons_succ, Act.put, List.setIfInBounds_toArray, List.set_cons_zero, List.set_cons_succ]
          refine WA.take (i := 14) (v := .pointer (some ⟨og, pl, none⟩)) rfl (by kernel_rfl) (by kernel_rfl) (by kernel_rfl) (fun _ _ _ h => h) (hdrop 14) (Or.inl ⟨by rfl, ?_⟩) (hS _) ?_
          · rintro w' ⟨L, hL, hSw, hun⟩
            go_simp
          simp only [List.getElem_toArray, List.getElem_cons_zero, List.getElem_cons_succ, Act.put, List.setIfInBounds_toArray, List.set_cons_zero, List.set_cons_succ]
          refine WA.take (i := 15) (v := .slice a2 bl q2) rfl (by kernel_rfl) (by kernel_rfl) (by kernel_rfl) (fun _ _ _ h => h) (hdrop 15) (Or.inl ⟨by rfl, ?_⟩) (hS _) ?_
          · rintro w' ⟨L, hL, hSw, hun⟩
            have hbw := hSo hSw
            have cE := cell_later hbw cE
            clear hbw
            go_simp
          simp only [List.getElem_toArray, List.getElem_cons_zero, List.getElem_cons_succ, Act.put, List.setIfInBounds_toArray, List.set_cons_zero, List.set_cons_succ]
          refine WA.one (i := 16) (by kernel_rfl) rfl (by rfl) (fun K hK => ?_)
          go_simp
          have hc := equal_yes sa1 a2 sc1 q2 b (Hu1.out.below HBd.out) (Hu2.out.below HBd.out) (by rw [Hbl.out]; exact hb6)
          rw [Hbl.out] at hc
          refine hc.mono ?_
          rintro e w7 ⟨rfl, hB7⟩
          have HB7 := Lib.hid hB7
          clear hc hB7
          refine hK _ _ (hSi HB7.out _) ?_
          clear hK
          try simp only [List.getElem_toArray, List.getElem_cons_zero, List.getElem_cons_succ, Act.put, List.setIfInBounds_toArray, List.set_cons_zero, List.set_cons_succ]
          refine WA.take (i := 17) (v := .bool false) rfl (by kernel_rfl) (by kernel_rfl) (by kernel_rfl) (fun _ _ _ h => h) (hdrop 17) (Or.inl ⟨by rfl, ?_⟩) (hSi HB7.out _) ?_
          · rintro w' ⟨L, hL, hSw, hun⟩
            go_simp
          simp only [List.getElem_toArray, List.getElem_cons_zero, List.getElem_cons_succ, Act.put, List.setIfInBounds_toArray, List.set_cons_zero, List.set_cons_succ]
          refine WA.take (i := 18) (v := .bool false) rfl (by kernel_rfl) (by kernel_rfl) (by kernel_rfl) (fun _ _ _ h => h) (hdrop 18) (Or.inl ⟨by rfl, ?_⟩) (hSi HB7.out _) ?_
          · rintro w' ⟨L, hL, hSw, hun⟩
            go_simp
          simp only [List.getElem_toArray, List.getElem_cons_zero, List.getElem_cons_succ, Act.put, List.setIfInBounds_toArray, List.set_cons_zero, List.set_cons_succ]
          refine WA.done (by kernel_rfl) ?_ _
          refine Nrm.normal ?_
          clear hSo hSi hS hdrop cI cP cO cE
          clear S16
          have hp7 := ((HBd.out.trans (HB7.out.mono HBd.out.size)).block _ (Array.getElem?_eq_some_iff.1 HpV.out).1).trans HpV.out
          obtain ⟨d0, d1, d2, d3, d4, d5, d6, d7⟩ := Hpl.out w7 hp7
          clear hp7
          gi_wp2_with fail
          have hc := head_any h0 h1 h2 h3 h4 h5 sa sa1 n cap sc1 vars b (Hu1.out.below (HBd.out.trans (HB7.out.mono HBd.out.size))) (by rw [Hbl.out]; exact hb6)
          rw [Hbl.out] at hc
          refine (CallsIn.inRound lnn (callsIn_wide.2 hc)).mono ?_
          rintro e w8 ⟨rfl, hB8⟩
          obtain ⟨r0, hr0⟩ : ∃ x, headV b (h0, h1) = x := ⟨_, rfl⟩
          obtain ⟨r1, hr1⟩ : ∃ x, headV b (h2, h3) = x := ⟨_, rfl⟩
          obtain ⟨r2, hr2⟩ : ∃ x, headV b (h4, h5) = x := ⟨_, rfl⟩
          rw [hr0, hr1, hr2]
          obtain ⟨isv, hisv⟩ : ∃ x, (!has0 (r0, r1, r2)) = x := ⟨_, rfl⟩
          rw [hisv]
          simp only [rv]
          have Hr0 := Lib.hid hr0; have Hr1 := Lib.hid hr1; have Hr2 := Lib.hid hr2; have Hisv := Lib.hid hisv
          have h78 : Below V.heap.size V w8 := (HBd.out.trans (HB7.out.mono HBd.out.size)).trans (hB8.mono (HBd.out.trans (HB7.out.mono HBd.out.size)).size)
          have Hrw := Lib.hid (World.alloc_heap_new w8 (.cells #[.int .u32 r0, .int .u32 r1, .int .u32 r2] 58))
          have H88 := Lib.hid (h78.alloc h78.size (.cells #[.int .u32 r0, .int .u32 r1, .int .u32 r2] 58))
          clear hr0 hr1 hr2 hisv hB8 h78 hc d0 d1 d2 d3 d4 d5 d6 d7
          gi_wp2_with fail
          gi_loopw [16] (fun u wx => ∃ kq : Nat, kq ≤ 3 ∧ u = .int .i64 kq ∧ Below V.heap.size V wx ∧ wx.heap[w8.heap.size]? = some (.cells #[.int .u32 r0, .int .u32 r1, .int .u32 r2] 58 (0, 0))) (fun u _ => 3 - (intOf u).toNat)
          case atStart => exact ⟨0, by omega, rfl, H88.out, Hrw.out⟩
          case round =>
            obtain ⟨kq, hkq, rfl, hB9, hrw⟩ := hrel
            rename World => w9
            have HB9 := Lib.hid hB9; have Hrw9 := Lib.hid hrw
            clear hB9 hrw
            have hp9 := (HB9.out.block _ (Array.getElem?_eq_some_iff.1 HpV.out).1).trans HpV.out
            by_cases hk3 : kq < 3
            · have hdk : decide ((kq : Int) < 3) = true := by simp; omega
              obtain ⟨xv, xi, rk, hrk, pc0, pc1, rc, hhv⟩ : ∃ (xv xi rk : Int), R3.at (r0, r1, r2) kq = rk ∧ w9.cell? ⟨w.heap.size, kq * 2, none⟩ = some (.int .i64 xv) ∧ w9.cell? ⟨w.heap.size, kq * 2 + 1, none⟩ = some (.int .u32 xi) ∧ w9.cell? ⟨w8.heap.size, kq, none⟩ = some (.int .u32 rk) ∧ headV b (xv, xi) = rk := by
                have hq : kq = 0 ∨ kq = 1 ∨ kq = 2 := by omega
                have hr9 := Hrw9.out
                rcases hq with rfl | rfl | rfl
                · exact ⟨h0, h1, r0, rfl, by unfold World.cell?; rw [hp9]; rfl, by unfold World.cell?; rw [hp9]; rfl, by unfold World.cell?; rw [hr9]; rfl, Hr0.out⟩
                · exact ⟨h2, h3, r1, rfl, by unfold World.cell?; rw [hp9]; rfl, by unfold World.cell?; rw [hp9]; rfl, by unfold World.cell?; rw [hr9]; rfl, Hr1.out⟩
                · exact ⟨h4, h5, r2, rfl, by unfold World.cell?; rw [hp9]; rfl, by unfold World.cell?; rw [hp9]; rfl, by unfold World.cell?; rw [hr9]; rfl, Hr2.out⟩
              have hlt9 : w.heap.size < w9.heap.size ∧ w8.heap.size < w9.heap.size := ⟨(Array.getElem?_eq_some_iff.1 hp9).1, (Array.getElem?_eq_some_iff.1 Hrw9.out).1⟩
              obtain ⟨hlt9a, hlt9b⟩ := hlt9
              have hisv : rk = 0 → isv = false := fun h => by rw [← Hisv.out, has0_at hk3 (hrk.trans h)]; rfl
              have hBp : ∀ o, Below V.heap.size V (w9.alloc o) := fun o => HB9.out.alloc HB9.out.size o
              have hrp : ∀ o, (w9.alloc o).heap[w8.heap.size]? = some (.cells #[.int .u32 r0, .int .u32 r1, .int .u32 r2] 58 (0, 0)) := fun o => (((Below.refl _ w9).alloc (Nat.le_refl _) o).block w8.heap.size hlt9b).trans Hrw9.out
              have Hisv2 := Lib.hid hisv; have HBp := Lib.hid hBp; have Hrp := Lib.hid hrp
              have hz : rk = 0 ∨ rk ≠ 0 := by omega
              have Hhv := Lib.hid hhv
              clear hisv hBp hrp hrk hhv hp9
              by_cases hxv : xv < 0
              · have hdx : decide (xv ≥ 0) = false := by simp; omega
                have hxi : rk = xi := by rw [← Hhv.out]; exact headV_neg hxv
                subst hxi
                by_cases hz0 : rk = 0
                · have hiv := Hisv2.out hz0
                  subst hiv hz0
                  gi_wp2_with fail
                  exact ⟨⟨kq + 1, by omega, by push_cast; rfl, HBp.out _, Hrp.out _⟩, by simp [intOf]; omega⟩
                · have hzz : (rk == 0) = false := by simpa using hz0
                  gi_wp2_with fail
                  exact ⟨⟨kq + 1, by omega, by push_cast; rfl, HBp.out _, Hrp.out _⟩, by simp [intOf]; omega⟩
              · obtain ⟨qq, rfl⟩ : ∃ qq : Nat, xv = qq := ⟨xv.toNat, by omega⟩
                have hdx : decide ((qq : Int) ≥ 0) = true := by simp
                by_cases hqb : qq < bl
                · have hdq : decide ((qq : Int) < (bl : Int)) = true := by simp; omega
                  obtain ⟨sg, soff, hsg, hsl, hsc⟩ := (Hu1.out.below HB9.out) qq (by rw [Hbl.out]; exact hqb)
                  have hbk : b[qq]'(by rw [Hbl.out]; exact hqb) = rk := by rw [← Hhv.out]; exact (headV_in _).symm
                  rw [hbk] at hsc
                  subst hsg
                  clear hbk
                  by_cases hz0 : rk = 0
                  · have hiv := Hisv2.out hz0
                    subst hiv hz0
                    gi_wp2_with fail
                    exact ⟨⟨kq + 1, by omega, by push_cast; rfl, HBp.out _, Hrp.out _⟩, by simp [intOf]; omega⟩
                  · have hzz : (rk == 0) = false := by simpa using hz0
                    gi_wp2_with fail
                    exact ⟨⟨kq + 1, by omega, by push_cast; rfl, HBp.out _, Hrp.out _⟩, by simp [intOf]; omega⟩
                · have hdq : decide ((qq : Int) < (bl : Int)) = false := by simp; omega
                  have hrk0 : rk = 0 := by rw [← Hhv.out]; exact headV_out (by rw [Hbl.out]; omega)
                  subst hrk0
                  have hiv := Hisv2.out rfl
                  subst hiv
                  gi_wp2_with fail
                  exact ⟨⟨kq + 1, by omega, by push_cast; rfl, HBp.out _, Hrp.out _⟩, by simp [intOf]; omega⟩
            · have hk3' : kq = 3 := by omega
              subst hk3'
              have hdk : decide ((3 : Int) < 3) = false := by decide
              obtain ⟨ra0, ra1, ra2⟩ : w9.cell? ⟨w8.heap.size, 0, none⟩ = some (.int .u32 r0) ∧ w9.cell? ⟨w8.heap.size, 1, none⟩ = some (.int .u32 r1) ∧ w9.cell? ⟨w8.heap.size, 2, none⟩ = some (.int .u32 r2) := by
                have hr9 := Hrw9.out
                unfold World.cell?
                rw [hr9]
                exact ⟨rfl, rfl, rfl⟩
              have hisv := Hisv.out
              clear hp9
              gi_upto_region 30 with fail
              gi_cut [134] from 120 (fun u wx => u = .bool false ∧ wx = w9)
              case first =>
                by_cases z0 : r0 = 0
                · subst z0
                  obtain rfl : isv = false := by rw [← hisv]; simp [has0, has3]
                  clear hisv
                  gi_wp2_with fail
                  gi_meet
                  exact ⟨rfl, rfl⟩
                · have hz0 : (r0 != 0) = true := by simpa using z0
                  by_cases z1 : r1 = 0
                  · subst z1
                    obtain rfl : isv = false := by rw [← hisv]; simp [has0, has3]
                    clear hisv
                    gi_wp2_with fail
                    gi_meet
                    exact ⟨rfl, rfl⟩
                  · have hz1 : (r1 != 0) = true := by simpa using z1
                    by_cases z2 : r2 = 0
                    · subst z2
                      obtain rfl : isv = false := by rw [← hisv]; simp [has0, has3]
                      clear hisv
                      gi_wp2_with fail
                      gi_meet
                      exact ⟨rfl, rfl⟩
                    · have hz2 : (r2 != 0) = true := by simpa using z2
                      obtain rfl : isv = true := by rw [← hisv]; simp [has0, has3]; exact ⟨⟨fun h => z0 h.symm, fun h => z1 h.symm⟩, fun h => z2 h.symm⟩
                      clear hisv
                      gi_wp2_with fail
                      gi_meet
                      exact ⟨rfl, rfl⟩
              case rest =>
                obtain ⟨rfl, rfl⟩ := hcut
                clear hisv ra0 ra1 ra2
                gi_wp2_with fail
                gi_loopw [19] (fun u wx => ∃ (j : Nat) (L : List Int), j ≤ bl ∧ u = .int .i64 j ∧ L.length = bl ∧ BodT V wx ib (.slice sa1 bl sc1) ∧ IsOut (W0.heap.size + 2) wx (.slice sa1 bl sc1) L ∧ wx.heap[ib]? = some (.cells #[.int .i64 (pl : Nat)] 3 (0, 0))) (fun u _ => bl - (intOf u).toNat)
                case atStart =>
                  have hio := own_below Hio.out HB9.out
                  have hbx := (HB9.out.block _ (Array.getElem?_eq_some_iff.1 HR.out.box).1).trans HR.out.box
                  rw [Hpl2.out] at hbx
                  exact ⟨0, b, Nat.zero_le _, rfl, Hbl.out, BodT.below HB9.out, hio, hbx⟩
                case round =>
                  obtain ⟨j, L, hj, rfl, hll, hbt, hio, hbx⟩ := hrel
                  rename World => wj
                  have Hll := Lib.hid hll; have Hbt := Lib.hid hbt; have Hio2 := Lib.hid hio; have Hbx := Lib.hid hbx
                  clear hll hbt hio hbx
                  by_cases hjl : j < bl
                  · have hdj : decide ((j : Int) < (bl : Int)) = true := by simp; omega
                    obtain ⟨sg, hsg, hsgn, hsc⟩ : ∃ sg, sa1 = some ⟨sg, 0, none⟩ ∧ W0.heap.size + 2 ≤ sg ∧ (∃ x, wj.cell? ⟨sg, j, none⟩ = some (.int .u32 x)) ∧ wj.frozen? ⟨sg, j, none⟩ = false := by
                      rcases own_cellsJ Hio2.out with ⟨h1, h0⟩ | ⟨sg, ccap, h1, hcg, h3, h4, ⟨cur, h5, h6⟩, h7⟩
                      · have := Hll.out; omega
                      · injection h1 with h1 _ _
                        obtain ⟨k1, k2⟩ := h7 j (.int .u32 (L[j]'(by rw [Hll.out]; exact hjl))) (by simp [uvs, Hll.out, hjl])
                        exact ⟨sg, h1, hcg, ⟨_, k1⟩, k2⟩
                    obtain ⟨⟨x, hsc⟩, hsf⟩ := hsc
                    subst hsg
                    have hib0 := HR.out.ibn
                    have hset := Hio2.out.set Hll.out hjl 77
                    have Hset := Lib.hid hset.1
                    have Hbx2 := Lib.hid ((Below.heap_setCell wj ⟨sg, j, none⟩ (.int .u32 77) ib (by simp; omega)).trans Hbx.out)
                    have Hbt2 := Lib.hid (Hbt.out.set (g := sg) (j := j) (.inr rfl) (.int .u32 77))
                    clear hset hib0 hsgn
                    gi_wp2_with fail
                    exact ⟨⟨j + 1, L.set j 77, by omega, by push_cast; rfl, by rw [List.length_set]; exact Hll.out, Hbt2.out, Hset.out, Hbx2.out⟩, by simp [intOf]; omega⟩
                  · have hjl' : j = bl := by omega
                    subst hjl'
                    have hdj : decide ((j : Int) < (j : Int)) = false := by simp
                    obtain ⟨ci, fi⟩ := jbox_cell Hbx.out
                    have hst := HR.out.step (b := b) Hib6.out HX.out Hio.out Hnx.out (Hbt.out.set (g := ib) (j := 0) (.inl rfl) (.int .i64 ((pl : Int) + 1))) (by rw [jbox_set Hbx.out, Hpl2.out]; push_cast; rfl)
                    have Hstp := Lib.hid hst
                    clear hst
                    have hpl6 : pl ≤ 27000 := by have := Hnl6.out; have h2 := Hpn.out; omega
                    gi_wp2_with fail
                    obtain ⟨k1, k2, k3⟩ := Hstp.out
                    refine ⟨k1, k2, ?_⟩
                    show RunI W0 ib (pre ++ [(Value.slice sa1 j sc1, b)]).length X _
                    rw [List.length_append, List.length_singleton]
                    exact k3
        case fin =>
          rintro D1 pre V hD hor hdef
          obtain ⟨X, hp, hR⟩ : ∃ X, pre.map (·.2) = outs ∧ RunI W0 ib pre.length X V := by
            rcases hor with ⟨X, hp, h⟩ | ⟨_, h⟩
            · exact ⟨X, hp, h⟩
            · exact h.elim
          have hR' := hR
          rw [← Hib.out] at hR'
          have hT2 := HTI.out.step HBa.out hR' hD hdef
          obtain ⟨pl, hpl⟩ : ∃ pl, pre.length = pl := ⟨_, rfl⟩
          have hnl : new.length = pl := by rw [← hpl, ← List.length_map (f := fun y : OutT => y.2), Hnw.out, ← hp, List.length_map]
          obtain ⟨oa, oc, hov⟩ := own_anyJ Hoo6.out.1
          rw [hnl] at hov
          have cI := (jbox_cell hR.box).1
          rw [hpl] at cI
          have cP := (jbox_cell ((hT2.b.block _ Hgt.out.2).trans Hpt6.out)).1
          have cO : V.cell? ⟨w2.heap.size, 10, none⟩ = some (.slice oa pl oc) := by
            rw [← hov]
            exact (World.cell?_of_block (w := w6) (a := ⟨w2.heap.size, 10, none⟩) (hT2.b.block _ (by show w2.heap.size < _; have := Hgt.out.2; omega))).trans Hov6.out
          have hdn : ((pl : Int) != (pl : Int)) = false := by simp
          have HT3 := Lib.hid hT2
          clear hD hor hdef hp hR hR' hT2 hpl hnl hov
          go_wp2_with fail
          have cI : V.drew.cell? ⟨ib, 0, none⟩ = _ := cI
          have cP : V.drew.cell? ⟨w2.heap.size + 1, 0, none⟩ = _ := cP
          have cO : V.drew.cell? ⟨w2.heap.size, 10, none⟩ = _ := cO
          obtain ⟨S37, hSe⟩ : ∃ S : Array Bool → World → Prop, S = fun _ w' => Below V.drew.heap.size V.drew w' := ⟨_, rfl⟩
          have hdrop : ∀ i : Nat, ∀ L w', S37 (L.setIfInBounds i true) w' → S37 L w' := by
            intro i L w' h; rw [hSe] at h ⊢; exact h
          have hS : ∀ L, S37 L V.drew := by intro L; rw [hSe]; exact Below.refl _ _
          have hSo : ∀ {L w'}, S37 L w' → Below V.drew.heap.size V.drew w' := by intro L w' h; rw [hSe] at h; exact h
          have hSi : ∀ {w'}, Below V.drew.heap.size V.drew w' → ∀ L, S37 L w' := by intro w' h L; rw [hSe]; exact h
          clear hSe
          refine wp_region_LN S37 7 #[false, false, false, false, false, false, false] (by kernel_rfl) (by kernel_rfl) rfl ?_
          obtain ⟨X37, hX⟩ : ∃ X37, X37 = V.drew := ⟨_, rfl⟩
          rw [← hX] at cI cP cO hSo hSi hS ⊢
          have HX37 := Lib.hid hX
          clear hX
          refine WA.take (i := 0) (v := .int .i64 (pl : Nat)) rfl (by kernel_rfl) (by kernel_rfl) (by kernel_rfl) (fun _ _ _ h => h) (hdrop 0) (Or.inl ⟨by rfl, ?_⟩) (hS _) ?_
          · rintro w' ⟨L, hL, hSw, hun⟩
            have hbw := hSo hSw
            have cI := cell_later hbw cI
            clear hbw
            go_simp
          simp only [List.getElem_toArray, List.getElem_cons_zero, List.getElem_cons_succ, Act.put, List.setIfInBounds_toArray, List.set_cons_zero, List.set_cons_succ]
          refine WA.take (i := 1) (v := .pointer (some ⟨w2.heap.size, 0, none⟩)) rfl (by kernel_rfl) (by kernel_rfl) (by kernel_rfl) (fun _ _ _ h => h) (hdrop 1) (Or.inl ⟨by rfl, ?_⟩) (hS _) ?_
          · rintro w' ⟨L, hL, hSw, hun⟩
            have hbw := hSo hSw
            have cP := cell_later hbw cP
            clear hbw
            go_simp
          simp only [List.getElem_toArray, List.getElem_cons_zero, List.getElem_cons_succ, Act.put, List.setIfInBounds_toArray, List.set_cons_zero, List.set_cons_succ]
          refine WA.take (i := 2) (v := .pointer (some ⟨w2.heap.size, 0, none⟩)) rfl (by kernel_rfl) (by kernel_rfl) (by kernel_rfl) (fun _ _ _ h => h) (hdrop 2) (Or.inl ⟨by rfl, ?_⟩) (hS _) ?_
          · rintro w' ⟨L, hL, hSw, hun⟩
            go_simp
          simp only [List.getElem_toArray, List.getElem_cons_zero, List.getElem_cons_succ, Act.put, List.setIfInBounds_toArray, List.set_cons_zero, List.set_cons_succ]
          refine WA.take (i := 3) (v := .pointer (some ⟨w2.heap.size, 10, none⟩)) rfl (by kernel_rfl) (by kernel_rfl) (by kernel_rfl) (fun _ _ _ h => h) (hdrop 3) (Or.inl ⟨by rfl, ?_⟩) (hS _) ?_
          · rintro w' ⟨L, hL, hSw, hun⟩
            go_simp
          simp only [List.getElem_toArray, List.getElem_cons_zero, List.getElem_cons_succ, Act.put, List.setIfInBounds_toArray, List.set_cons_zero, List.set_cons_succ]
          refine WA.take (i := 4) (v := .slice oa pl oc) rfl (by kernel_rfl) (by kernel_rfl) (by kernel_rfl) (fun _ _ _ h => h) (hdrop 4) (Or.inl ⟨by rfl, ?_⟩) (hS _) ?_
          · rintro w' ⟨L, hL, hSw, hun⟩
            have hbw := hSo hSw
            have cO := cell_later hbw cO
            clear hbw
            go_simp
          simp only [List.getElem_toArray, List.getElem_cons_zero, List.getElem_cons_succ, Act.put, List.setIfInBounds_toArray, List.set_cons_zero, List.set_cons_succ]
          refine WA.take (i := 5) (v := .int .i64 (pl : Nat)) rfl (by kernel_rfl) (by kernel_rfl) (by kernel_rfl) (fun _ _ _ h => h) (hdrop 5) (Or.inl ⟨by rfl, ?_⟩) (hS _) ?_
          · rintro w' ⟨L, hL, hSw, hun⟩
            go_simp
          simp only [List.getElem_toArray, List.getElem_cons_zero, List.getElem_cons_succ, Act.put, List.setIfInBounds_toArray, List.set_cons_zero, List.set_cons_succ]
          refine WA.take (i := 6) (v := .bool false) rfl (by kernel_rfl) (by kernel_rfl) (by kernel_rfl) (fun _ _ _ h => h) (hdrop 6) (Or.inl ⟨by rfl, ?_⟩) (hS _) ?_
          · rintro w' ⟨L, hL, hSw, hun⟩
            go_simp
          simp only [List.getElem_toArray, List.getElem_cons_zero, List.getElem_cons_succ, Act.put, List.setIfInBounds_toArray, List.set_cons_zero, List.set_cons_succ]
          refine WA.done (by kernel_rfl) ?_ _
          refine Nrm.normal ?_
          clear hSo hSi hS hdrop cI cP cO
          clear S37
          go_wp2_with fail
          refine Handed.intro (2 - (turn + 1)) (by have := Hnn.out; omega) (HJ.out _ _ _ ⟨turn + 1, D1 :: Ds, by omega, rfl, ?_, frame_fix _ _ _ _ _ _ _ (by kernel_rfl)⟩)
          rw [HX37.out]
          exact HT3.out.below (Below.refl _ V).drew
      · have ht2' : turn = 2 := by omega
        subst ht2'
        have hd11 : decide ((2 : Int) < 2) = false := by decide
        go_wp2_with fail
        refine (known14_any W).mono ?_
        rintro e w7 ⟨rfl, hB7⟩
        have hrW := (HTI.out.b.block _ Hgt.out.1).trans Hr6.out
        obtain ⟨c67, f67⟩ := jbox_cell ((hB7.block _ (Array.getElem?_eq_some_iff.1 hrW).1).trans hrW)
        have HB7 := Lib.hid hB7; have HrW := Lib.hid hrW
        clear hB7 hrW
        go_wp2_with fail
        exact EndK.out _ Ds W w7 HB7.out HrW.out (HB6.out.trans (HTI.out.b.mono HB6.out.size)) HTI.out.nd (fun D hD => ⟨by have := (HTI.out.ds D hD).1; have := Hgt.out.1; omega, (HTI.out.ds D hD).2⟩) rfl rfl
end Go.Proofs.Ytkgkkbfpkgfcaaa
