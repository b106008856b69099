/- Layer 14: JoinViews, walked. -/
import Derived.Test.YtkgkkbfpkgfcaaaJ26
namespace Go.Proofs.Ytkgkkbfpkgfcaaa
set_option maxRecDepth 100000
open Go.RowKit Go.Maps
set_option linter.unusedVariables false
set_option linter.unusedSimpArgs false

theorem Steps_n {Z : Zone} {w : World} {tb : Nat} {T : TS} {D : TabD} (ht : IsT Z w tb T D) (h0 h1 h2 h3 h4 h5 : Int) (sa va : Option Addr) (cap vcap : Nat) (vars : Int) (steps : List StepT) (vs : List Vw) (hst : IsSteps w sa steps) (hvw : IsViews w va vs) (hin : PlanIn steps) {nl : Nat} (hsm : smallP steps nl 0 vars = true) (hT : T.length ≤ 30) (hv : vs.length ≤ 1000000) :
    Calls Try.prog 10 #[.pointer (some ⟨tb, 0, none⟩), .agg (planC h0 h1 h2 h3 h4 h5 sa steps.length cap vars), .int .i64 1000000, .slice va vs.length vcap] w fun e w' =>
      ∃ (aa : Option Addr) (ca lk : Nat), e = .returned (.tuple #[.slice aa (cntR T vars steps vs) ca, .int .i64 (lk : Nat), .int .i64 0]) ∧ cntR T vars steps vs ≤ 27000 ∧ Below w.heap.size w w' := by
  obtain ⟨b1, b2⟩ := run_bound (views := vs) hsm hT
  refine (Steps_any ht h0 h1 h2 h3 h4 h5 sa va cap vcap vars 1000000 steps vs hst hvw (hin.ok hsm hv hT) (by omega) (by decide) (by omega)).mono ?_
  rintro e w' ⟨sv, l, k, rfl, hl, _, hio, hb⟩
  obtain ⟨aa, ca, hsv⟩ := own_anyJ hio.1
  have hc : l.length = cntR T vars steps vs := by
    unfold cntR
    rw [← hl, List.length_map]
  rw [hc] at hsv
  exact ⟨aa, ca, k, by rw [hsv], b2, hb⟩
set_option maxRecDepth 100000 in
set_option maxHeartbeats 20000000 in
theorem views_any (w : World) (la : Option Addr) (lcap : Nat) (l : TS) (hl : IsRows4 w la l) (h0 h1 h2 h3 h4 h5 : Int) (sa : Option Addr) (cap : Nat) (vars : Int) (steps : List StepT) (hst : IsSteps w sa steps) (hin : PlanIn steps) (hns : steps.length ≤ maxLen) (from_ : Int) (hf64 : is64 from_) :
    Calls Try.prog 3 #[.slice la l.length lcap, .agg (planC h0 h1 h2 h3 h4 h5 sa steps.length cap vars), .int .i64 from_] w fun e w' => e = .returned (.bool true) ∧ Below w.heap.size w w' := by
  obtain ⟨nl, hnl⟩ : ∃ nl, l.length = nl := ⟨_, rfl⟩
  obtain ⟨n, hn⟩ : ∃ n, steps.length = n := ⟨_, rfl⟩
  rw [hnl, hn]
  have hbA : Below w.heap.size w (w.alloc (.cells (planC h0 h1 h2 h3 h4 h5 sa n cap vars) 29)) := (Below.refl _ w).alloc (Nat.le_refl _) _
  have hzA : (w.alloc (.cells (planC h0 h1 h2 h3 h4 h5 sa n cap vars) 29)).heap.size = w.heap.size + 1 := World.size_alloc _ _
  have hxA := World.alloc_heap_new w (.cells (planC h0 h1 h2 h3 h4 h5 sa n cap vars) 29)
  have hpl : ∀ A : World, A.heap[w.heap.size]? = some (.cells (planC h0 h1 h2 h3 h4 h5 sa n cap vars) 29 (0, 0)) → A.cell? ⟨w.heap.size, 0, none⟩ = some (.int .i64 h0) ∧ A.cell? ⟨w.heap.size, 1, none⟩ = some (.int .u32 h1) ∧ A.cell? ⟨w.heap.size, 2, none⟩ = some (.int .i64 h2) ∧ A.cell? ⟨w.heap.size, 3, none⟩ = some (.int .u32 h3) ∧ A.cell? ⟨w.heap.size, 4, none⟩ = some (.int .i64 h4) ∧ A.cell? ⟨w.heap.size, 5, none⟩ = some (.int .u32 h5) ∧ A.cell? ⟨w.heap.size, 6, none⟩ = some (.slice sa n cap) ∧ A.cell? ⟨w.heap.size, 7, none⟩ = some (.int .i64 vars) := by
    intro A h
    unfold World.cell?
    rw [h]
    exact ⟨rfl, rfl, rfl, rfl, rfl, rfl, rfl, rfl⟩
  have Hl := Lib.hid hl; have Hst := Lib.hid hst; have Hin := Lib.hid hin; have Hns := Lib.hid hns; have Hnl := Lib.hid hnl; have Hn := Lib.hid hn; have Hpl := Lib.hid hpl; have Hf := Lib.hid hf64
  unfold planC at hbA hzA hxA ⊢
  have HA1 := Lib.hid hbA; have HA2 := Lib.hid hzA; have HA3 := Lib.hid hxA
  clear hl hst hin hns hnl hn hpl hbA hzA hxA hf64
  go_enter Try.func3, Try.ntmps3
  go_wp2_with fail
  generalize w.alloc (.cells #[.int .i64 h0, .int .u32 h1, .int .i64 h2, .int .u32 h3, .int .i64 h4, .int .u32 h5, .slice sa n cap, .int .i64 vars] 29) = W at *
  rw [← Hn.out]
  refine (small_any h0 h1 h2 h3 h4 h5 sa la none cap lcap 0 nl 0 vars steps (Hst.out.below HA1.out) Hns.out).mono ?_
  rintro e w1 ⟨rfl, hB1⟩
  obtain ⟨q, hq⟩ : ∃ q, smallP steps nl 0 vars = q := ⟨_, rfl⟩
  rw [hq, Hn.out]
  have Hq := Lib.hid hq
  have hp1 := (hB1.block w.heap.size (by have := HA2.out; omega)).trans HA3.out
  obtain ⟨d0, d1, d2, d3, d4, d5, d6, d7⟩ := Hpl.out w1 hp1
  have HB1 := Lib.hid (HA1.out.trans (hB1.mono HA1.out.size))
  have Hp1 := Lib.hid hp1
  clear hq hB1 hp1
  cases q with
  | false =>
    go_wp2_with fail
    refine (known14_any w1).mono ?_
    rintro e w2 ⟨rfl, hB2⟩
    have HB2 := Lib.hid (HB1.out.trans (hB2.mono HB1.out.size))
    clear hB2
    go_wp2_with fail
    go_ret
    exact ⟨rfl, HB2.out⟩
  | true =>
    have hsm : n ≤ 8 ∧ nl ≤ 30 ∧ vars ≤ 20 := by
      have := Hq.out
      simp only [smallP, Bool.and_eq_true, decide_eq_true_eq] at this
      have := Hn.out
      omega
    obtain ⟨hn8, hnl30, hv20⟩ := hsm
    go_wp2_with fail
    rw [← Hn.out]
    refine (rmay_any h0 h1 h2 h3 h4 h5 sa cap vars steps (Hst.out.below HB1.out) (by have := Hn.out; omega) (by omega)).mono ?_
    rintro e w2 ⟨rfl, hB2⟩
    obtain ⟨qm, hqm⟩ : ∃ qm, mayP vars steps = qm := ⟨_, rfl⟩
    rw [hqm, Hn.out]
    have Hqm := Lib.hid hqm
    have hp2 := (hB2.block w.heap.size (Array.getElem?_eq_some_iff.1 Hp1.out).1).trans Hp1.out
    have HB2 := Lib.hid (HB1.out.trans (hB2.mono HB1.out.size))
    have Hp2 := Lib.hid hp2
    obtain ⟨_, _, _, _, _, _, d6, _⟩ := Hpl.out w2 hp2
    clear hqm hB2 hp2 d0 d1 d2 d3 d4 d5 d7
    cases qm with
    | false =>
      go_wp2_with fail
      refine (known14_any w2).mono ?_
      rintro e w3 ⟨rfl, hB3⟩
      have HB3 := Lib.hid (HB2.out.trans (hB3.mono HB2.out.size))
      clear hB3
      go_wp2_with fail
      go_ret
      exact ⟨rfl, HB3.out⟩
    | true =>
      go_wp2_with fail
      go_loopw [7] (fun u wr => ∃ i : Nat, i ≤ n ∧ u = .int .i64 i ∧ wr = w2 ∧ ∀ j (h : j < steps.length), j < i → steps[j].kind = 1) (fun u _ => n - (intOf u).toNat)
      case atStart => exact ⟨0, Nat.zero_le _, rfl, rfl, fun j h h' => by omega⟩
      case round =>
        obtain ⟨i, hi, rfl, hw, hall⟩ := hrel
        subst hw
        have Hall := Lib.hid hall
        clear hall
        by_cases hin' : i < n
        · have hd : decide ((i : Int) < (n : Int)) = true := by simp; omega
          obtain ⟨sb, so, hsa, hs⟩ := Hst.out.below HB2.out i (by have := Hn.out; omega)
          obtain ⟨s, hsi⟩ : ∃ s : StepT, steps[i]'(by have := Hn.out; omega) = s := ⟨_, rfl⟩
          rw [hsi] at hs
          have e0 := hs.c0
          have Hsi := Lib.hid hsi
          subst hsa
          clear hs hsi
          by_cases hk1 : s.kind = 1
          · have hd1 : (s.kind != 1) = false := by simpa using hk1
            have Hk1 := Lib.hid hk1
            clear hk1
            go_wp2_with fail
            refine ⟨⟨i + 1, by omega, by push_cast; rfl, by first | rfl | trivial, fun j h hj => ?_⟩, by simp [intOf]; omega⟩
            by_cases hji : j = i
            · subst hji; rw [Hsi.out]; exact Hk1.out
            · exact Hall.out j h (by omega)
          · have hd1 : (s.kind != 1) = true := by simpa using hk1
            clear hk1
            go_wp2_with fail
            refine (known14_any wr).mono ?_
            rintro e w3 ⟨rfl, hB3⟩
            have HB3 := Lib.hid (HB2.out.trans (hB3.mono HB2.out.size))
            clear hB3
            go_wp2_with fail
            go_ret
            exact ⟨rfl, HB3.out⟩
        · have hd : decide ((i : Int) < (n : Int)) = false := by simp; omega
          have hk : ∀ s ∈ steps, s.kind = 1 := by
            intro s hs
            obtain ⟨j, hj, rfl⟩ := List.getElem_of_mem hs
            exact Hall.out j hj (by have := Hn.out; omega)
          have Hk := Lib.hid hk
          have hTl : (tabOf l).length ≤ 30 := Nat.le_trans (tabOf_len l) (by have := Hnl.out; omega)
          obtain ⟨T, hT⟩ : ∃ T, tabOf l = T := ⟨_, rfl⟩
          rw [hT] at hTl
          obtain ⟨tl, htl⟩ : ∃ tl, T.length = tl := ⟨_, rfl⟩
          rw [htl] at hTl
          have HTe := Lib.hid hT; have Htl := Lib.hid htl
          clear hk hT htl
          go_wp2_with fail
          rw [← Hnl.out]
          refine (begin14_any wr la lcap l (Hl.out.below HB2.out) (by have := Hnl.out; omega)).mono ?_
          rw [HTe.out]
          rintro e w3 ⟨tb, v, Z, D, rfl, hT, hv, hB3⟩
          obtain ⟨av, qv, rfl⟩ := own_anyJ hv
          have hp3 := (hB3.block w.heap.size (Array.getElem?_eq_some_iff.1 Hp2.out).1).trans Hp2.out
          have HB3 := Lib.hid (HB2.out.trans (hB3.mono HB2.out.size)); have HT3 := Lib.hid hT; have Hp3 := Lib.hid hp3
          obtain ⟨d0, d1, d2, d3, d4, d5, d6', d7⟩ := Hpl.out w3 hp3
          rw [Htl.out]
          clear hT hv hB3 hp3 d0 d1 d2 d3 d4 d5 d6 d7
          have d6 := d6'
          clear d6'
          by_cases hf0 : from_ < 0
          · have hd0 : decide (from_ < 0) = true := by simpa using hf0
            go_wp2_with fail
            refine (known14_any w3).mono ?_
            rintro e w4 ⟨rfl, hB4⟩
            have HB4 := Lib.hid (HB3.out.trans (hB4.mono HB3.out.size))
            clear hB4
            go_wp2_with fail
            go_ret
            exact ⟨rfl, HB4.out⟩
          · have hd0 : decide (from_ < 0) = false := by simpa using hf0
            by_cases hf1 : from_ > (tl : Int)
            · have hd1 : decide (from_ > (tl : Int)) = true := by simpa using hf1
              go_wp2_with fail
              refine (known14_any w3).mono ?_
              rintro e w4 ⟨rfl, hB4⟩
              have HB4 := Lib.hid (HB3.out.trans (hB4.mono HB3.out.size))
              clear hB4
              go_wp2_with fail
              go_ret
              exact ⟨rfl, HB4.out⟩
            · have hd1 : decide (from_ > (tl : Int)) = false := by simpa using hf1
              go_wp2_with fail
              clear d6
              go_loopw [11, 12] (fun u11 u12 wx => ∃ k : Nat, k ≤ n ∧ u12 = .int .i64 k ∧ u11 = .int .i64 (newR T vars steps from_ k : Nat) ∧ Below w3.heap.size w3 wx) (fun _ u _ => n - (intOf u).toNat)
              case atStart => exact ⟨0, Nat.zero_le _, rfl, rfl, Below.refl _ _⟩
              case round =>
                obtain ⟨k, hkn, rfl, rfl, hBk⟩ := hrel
                have hnr := newR_le Hq.out (T := T) (by have := Htl.out; omega) from_ k
                obtain ⟨nr, hnre⟩ : ∃ nr, newR T vars steps from_ k = nr := ⟨_, rfl⟩
                rw [hnre] at hnr ⊢
                have Hnr := Lib.hid hnre; have HBk := Lib.hid hBk
                clear hnre hBk
                have hnr2 : nr ≤ 1000000 := by have : k * 27000 ≤ 8 * 27000 := Nat.mul_le_mul_right _ (by omega); omega
                clear hnr
                by_cases hkl : k < n
                · have hdk : decide ((k : Int) < (n : Int)) = true := by simp; omega
                  go_wp2_with fail
                  obtain ⟨V0, hV0⟩ : ∃ V0, V0 = wr := ⟨_, rfl⟩
                  rw [← hV0] at HBk ⊢
                  clear hV0
                  go_loopw [13, 14] (fun u13 u14 wx => ∃ i : Nat, i ≤ n ∧ u14 = .int .i64 i ∧ Below V0.heap.size V0 wx ∧ wx.ownsRow V0.heap.size 42 3 u13 i (vcs ((vsAt T from_ k n).take i))) (fun _ u _ => n - (intOf u).toNat)
                  case atStart => exact ⟨0, Nat.zero_le _, rfl, Below.refl _ _, World.ownsRow_nil _ _ _ _⟩
                  case round =>
                    obtain ⟨i, hi, rfl, hBi, hvo⟩ := hrel
                    obtain ⟨a13, q13, rfl⟩ := own_anyJ hvo
                    have HBi := Lib.hid hBi; have Hvo := Lib.hid hvo
                    clear hBi hvo
                    by_cases hin : i < n
                    · have hdi : decide ((i : Int) < (n : Int)) = true := by simp; omega
                      obtain ⟨iv, hiv, hz0, hz1, hz2⟩ := info_parts Try.infoView
                      have Hi := Lib.hid hiv; have Hj0 := Lib.hid hz0; have Hj1 := Lib.hid hz1; have Hj2 := Lib.hid hz2
                      clear hiv hz0 hz1 hz2
                      have hvt : ∀ fr tu : Int, vAt T from_ k i = (fr, tu, 3) → vcs ((vsAt T from_ k n).take (i + 1)) = vcs ((vsAt T from_ k n).take i) ++ [.int .i64 fr, .int .i64 tu, .int .u8 3] := by
                        intro fr tu h
                        rw [vsAt_take T from_ k n i hin, vcs_snoc, h]
                      have Hvt := Lib.hid hvt
                      clear hvt
                      rcases Nat.lt_trichotomy i k with hik | hik | hik
                      · have q1 : decide (i < k) = true := by simpa using hik
                        have q2 : ((i : Int) == (k : Int)) = false := by simp; omega
                        obtain ⟨hb2, hz2, g1, g2⟩ := two_blocks wr (.cells #[.int .i64 0, .int .i64 from_, .int .u8 3] 42) (.cells #[.int .i64 0, .int .i64 from_, .int .u8 3] 42) _ rfl
                        have HB2' := Lib.hid hb2; have HZ2 := Lib.hid hz2; have HG2 := Lib.hid g2; have HvA := Lib.hid (own_below Hvo.out hb2)
                        clear hb2 hz2 g1 g2
                        go_wp2_with (at_builtin; go_loud (refine wpList_append_own_at _ rfl _ _ 39 rfl V0.heap.size 42 iv (.agg #[.int .i64 0, .int .i64 0, .int .u8 0]) 3 24 Try.underlying39 Hi.out Hj0.out Hj1.out Hj2.out rfl (by decide) _ _ _ rfl HvA.out ⟨wr.heap.size + 1, 0, none⟩ 1 1 [.int .i64 0, .int .i64 from_, .int .u8 3] rfl rfl (cells_blk HG2.out) (by simp [Value.oneCell']) (by unfold maxLen; omega) (by omega) (by rw [HZ2.out]; have := HBi.out.size; omega) ?_); intro v' w4 hown' hgrow _ hwh; obtain ⟨g', cap', rfl⟩ := jown_slice hown' (Nat.succ_pos _); have Hown' := Lib.hid hown'; have Hgrow := Lib.hid hgrow; clear hown' hgrow hwh)
                        refine ⟨⟨i + 1, by omega, by push_cast; rfl, (HBi.out.trans (HB2'.out.mono HBi.out.size)).grown Hgrow.out (by rw [HZ2.out]; have := HBi.out.size; omega) (fun g hg => (own_ltJ HvA.out g hg).1), ?_⟩, by simp [intOf]; omega⟩
                        rw [Hvt.out _ _ (by unfold vAt; rw [if_neg (by omega), if_pos hik])]
                        exact Hown'.out
                      · have q1 : decide (i < k) = false := by simp; omega
                        have q2 : ((i : Int) == (k : Int)) = true := by simp; omega
                        have Hik := Lib.hid hik
                        clear hik
                        obtain ⟨hb2, hz2, g1, g2⟩ := two_blocks wr (.cells #[.int .i64 from_, .int .i64 (tl : Nat), .int .u8 3] 42) (.cells #[.int .i64 from_, .int .i64 (tl : Nat), .int .u8 3] 42) _ rfl
                        have HB2' := Lib.hid hb2; have HZ2 := Lib.hid hz2; have HG2 := Lib.hid g2; have HvA := Lib.hid (own_below Hvo.out hb2)
                        clear hb2 hz2 g1 g2
                        go_wp2_with (at_builtin; go_loud (refine wpList_append_own_at _ rfl _ _ 39 rfl V0.heap.size 42 iv (.agg #[.int .i64 0, .int .i64 0, .int .u8 0]) 3 24 Try.underlying39 Hi.out Hj0.out Hj1.out Hj2.out rfl (by decide) _ _ _ rfl HvA.out ⟨wr.heap.size + 1, 0, none⟩ 1 1 [.int .i64 from_, .int .i64 (tl : Nat), .int .u8 3] rfl rfl (cells_blk HG2.out) (by simp [Value.oneCell']) (by unfold maxLen; omega) (by omega) (by rw [HZ2.out]; have := HBi.out.size; omega) ?_); intro v' w4 hown' hgrow _ hwh; obtain ⟨g', cap', rfl⟩ := jown_slice hown' (Nat.succ_pos _); have Hown' := Lib.hid hown'; have Hgrow := Lib.hid hgrow; clear hown' hgrow hwh)
                        refine ⟨⟨i + 1, by omega, by push_cast; rfl, (HBi.out.trans (HB2'.out.mono HBi.out.size)).grown Hgrow.out (by rw [HZ2.out]; have := HBi.out.size; omega) (fun g hg => (own_ltJ HvA.out g hg).1), ?_⟩, by simp [intOf]; omega⟩
                        rw [Hvt.out _ _ (by unfold vAt; rw [if_pos Hik.out, if_neg (by have := Hik.out; omega), Htl.out])]
                        exact Hown'.out
                      · have q1 : decide (i < k) = false := by simp; omega
                        have q2 : ((i : Int) == (k : Int)) = false := by simp; omega
                        obtain ⟨hb2, hz2, g1, g2⟩ := two_blocks wr (.cells #[.int .i64 0, .int .i64 (tl : Nat), .int .u8 3] 42) (.cells #[.int .i64 0, .int .i64 (tl : Nat), .int .u8 3] 42) _ rfl
                        have HB2' := Lib.hid hb2; have HZ2 := Lib.hid hz2; have HG2 := Lib.hid g2; have HvA := Lib.hid (own_below Hvo.out hb2)
                        clear hb2 hz2 g1 g2
                        go_wp2_with (at_builtin; go_loud (refine wpList_append_own_at _ rfl _ _ 39 rfl V0.heap.size 42 iv (.agg #[.int .i64 0, .int .i64 0, .int .u8 0]) 3 24 Try.underlying39 Hi.out Hj0.out Hj1.out Hj2.out rfl (by decide) _ _ _ rfl HvA.out ⟨wr.heap.size + 1, 0, none⟩ 1 1 [.int .i64 0, .int .i64 (tl : Nat), .int .u8 3] rfl rfl (cells_blk HG2.out) (by simp [Value.oneCell']) (by unfold maxLen; omega) (by omega) (by rw [HZ2.out]; have := HBi.out.size; omega) ?_); intro v' w4 hown' hgrow _ hwh; obtain ⟨g', cap', rfl⟩ := jown_slice hown' (Nat.succ_pos _); have Hown' := Lib.hid hown'; have Hgrow := Lib.hid hgrow; clear hown' hgrow hwh)
                        refine ⟨⟨i + 1, by omega, by push_cast; rfl, (HBi.out.trans (HB2'.out.mono HBi.out.size)).grown Hgrow.out (by rw [HZ2.out]; have := HBi.out.size; omega) (fun g hg => (own_ltJ HvA.out g hg).1), ?_⟩, by simp [intOf]; omega⟩
                        rw [Hvt.out _ _ (by unfold vAt; rw [if_neg (by omega), if_neg (by omega), Htl.out])]
                        exact Hown'.out
                    · have hin' : i = n := by omega
                      have hdi : decide ((i : Int) < (n : Int)) = false := by simp; omega
                      have Hin' := Lib.hid hin'
                      clear hin'
                      have hBw := HBk.out.trans (HBi.out.mono HBk.out.size)
                      have hp := (hBw.block w.heap.size (Array.getElem?_eq_some_iff.1 Hp3.out).1).trans Hp3.out
                      obtain ⟨d0, d1, d2, d3, d4, d5, d6, d7⟩ := Hpl.out wr hp
                      have HBw := Lib.hid hBw
                      have hvl : (vsAt T from_ k n).length = n := by simp [vsAt]
                      have hvv := Hvo.out
                      rw [Hin'.out, List.take_of_length_le (by omega)] at hvv
                      obtain ⟨av2, cv2, hav2, hiv2⟩ := IsViews.of (l := vsAt T from_ k n) (by rw [hvl]; exact hvv)
                      injection hav2 with hav2 hxx hcv2
                      subst hav2 hcv2
                      clear hxx
                      have hT4 := HT3.out.below (HBk.out.trans (HBi.out.mono HBk.out.size))
                      have hstep := Steps_n hT4 h0 h1 h2 h3 h4 h5 sa a13 cap q13 vars steps (vsAt T from_ k n) (Hst.out.below (HB3.out.trans (HBw.out.mono HB3.out.size))) hiv2 Hin.out Hq.out (by have := Htl.out; omega) (by omega)
                      rw [hvl, Hn.out] at hstep
                      have Hstep := Lib.hid hstep
                      clear hBw hp hvl hvv hiv2 hT4 hstep
                      go_wp2_with fail
                      rw [Hin'.out]
                      refine Hstep.out.mono ?_
                      rintro e w5 ⟨aa, ca, lk, rfl, hc27, hB5⟩
                      obtain ⟨c, hc⟩ : ∃ c, cntR T vars steps (vsAt T from_ k n) = c := ⟨_, rfl⟩
                      rw [hc] at hc27 ⊢
                      have Hc := Lib.hid hc; have HB5 := Lib.hid (HBw.out.trans (hB5.mono HBw.out.size))
                      clear hc hB5 d0 d1 d2 d3 d4 d5 d6 d7
                      go_wp2_with fail
                      refine ⟨⟨k + 1, by omega, by push_cast; rfl, ?_, HB5.out⟩, by simp [intOf]; omega⟩
                      have hns2 := newR_succ T vars steps from_ k
                      rw [Hn.out, Hc.out, Hnr.out] at hns2
                      rw [hns2]; push_cast; rfl
                · have hkl' : k = n := by omega
                  have hdk : decide ((k : Int) < (n : Int)) = false := by simp; omega
                  have Hkl := Lib.hid hkl'
                  clear hkl'
                  go_wp2_with fail
                  obtain ⟨V0, hV0⟩ : ∃ V0, V0 = wr := ⟨_, rfl⟩
                  rw [← hV0] at HBk ⊢
                  clear hV0
                  go_loopw [19, 20] (fun u19 u20 wx => ∃ i : Nat, i ≤ n ∧ u20 = .int .i64 i ∧ Below V0.heap.size V0 wx ∧ wx.ownsRow V0.heap.size 42 3 u19 i (vcs (List.replicate i (0, from_, 3)))) (fun _ u _ => n - (intOf u).toNat)
                  case atStart => exact ⟨0, Nat.zero_le _, rfl, Below.refl _ _, World.ownsRow_nil _ _ _ _⟩
                  case round =>
                    obtain ⟨i, hi, rfl, hBi, hvo⟩ := hrel
                    obtain ⟨a13, q13, rfl⟩ := own_anyJ hvo
                    have HBi := Lib.hid hBi; have Hvo := Lib.hid hvo
                    clear hBi hvo
                    by_cases hin : i < n
                    · have hdi : decide ((i : Int) < (n : Int)) = true := by simp; omega
                      obtain ⟨iv, hiv, hz0, hz1, hz2⟩ := info_parts Try.infoView
                      have Hi := Lib.hid hiv; have Hj0 := Lib.hid hz0; have Hj1 := Lib.hid hz1; have Hj2 := Lib.hid hz2
                      have hb2 : Below wr.heap.size wr (wr.alloc (.cells #[.int .i64 0, .int .i64 from_, .int .u8 3] 42)) := (Below.refl _ wr).alloc (Nat.le_refl _) _
                      have HZ2 := Lib.hid (World.size_alloc wr (.cells #[.int .i64 0, .int .i64 from_, .int .u8 3] 42))
                      have HB2' := Lib.hid hb2; have HvA := Lib.hid (own_below Hvo.out hb2)
                      clear hiv hz0 hz1 hz2 hb2
                      go_wp2_with (at_builtin; go_loud (refine wpList_append_own_at _ rfl _ _ 39 rfl V0.heap.size 42 iv (.agg #[.int .i64 0, .int .i64 0, .int .u8 0]) 3 24 Try.underlying39 Hi.out Hj0.out Hj1.out Hj2.out rfl (by decide) _ _ _ rfl HvA.out ⟨wr.heap.size, 0, none⟩ 1 1 [.int .i64 0, .int .i64 from_, .int .u8 3] rfl rfl (cells_blk (World.alloc_heap_new _ _)) (by simp [Value.oneCell']) (by unfold maxLen; omega) (by omega) (by rw [HZ2.out]; have := HBi.out.size; omega) ?_); intro v' w4 hown' hgrow _ hwh; obtain ⟨g', cap', rfl⟩ := jown_slice hown' (Nat.succ_pos _); have Hown' := Lib.hid hown'; have Hgrow := Lib.hid hgrow; clear hown' hgrow hwh)
                      refine ⟨⟨i + 1, by omega, by push_cast; rfl, (HBi.out.trans (HB2'.out.mono HBi.out.size)).grown Hgrow.out (by rw [HZ2.out]; have := HBi.out.size; omega) (fun g hg => (own_ltJ HvA.out g hg).1), ?_⟩, by simp [intOf]; omega⟩
                      rw [List.replicate_succ', vcs_snoc]
                      exact Hown'.out
                    · have hin' : i = n := by omega
                      have hdi : decide ((i : Int) < (n : Int)) = false := by simp; omega
                      have Hin' := Lib.hid hin'
                      clear hin'
                      have hBw := HBk.out.trans (HBi.out.mono HBk.out.size)
                      have hp := (hBw.block w.heap.size (Array.getElem?_eq_some_iff.1 Hp3.out).1).trans Hp3.out
                      obtain ⟨d0, d1, d2, d3, d4, d5, d6, d7⟩ := Hpl.out wr hp
                      have HBw := Lib.hid hBw; have Hpw := Lib.hid hp
                      have hstA := Hst.out.below (HB3.out.trans (HBw.out.mono HB3.out.size))
                      have hstep := Steps_n (HT3.out.below hBw) h0 h1 h2 h3 h4 h5 sa none cap 0 vars steps [] hstA (fun i hi => by simp at hi) Hin.out Hq.out (by have := Htl.out; omega) (by simp)
                      rw [Hn.out] at hstep
                      have Hstep := Lib.hid hstep
                      clear hBw hp hstep hstA
                      go_wp2_with fail
                      refine Hstep.out.mono ?_
                      rintro e w5 ⟨aa, ca, lk, rfl, hc27, hB5⟩
                      obtain ⟨A_, hA_⟩ : ∃ A_, cntR T vars steps [] = A_ := ⟨_, rfl⟩
                      rw [hA_] at hc27 ⊢
                      have hp5 := (hB5.block w.heap.size (Array.getElem?_eq_some_iff.1 Hpw.out).1).trans Hpw.out
                      have hvo5 := own_below Hvo.out hB5
                      rw [Hin'.out] at hvo5
                      obtain ⟨av2, cv2, hav2, hiv2⟩ := IsViews.of (l := List.replicate n (0, from_, 3)) (by rw [List.length_replicate]; exact hvo5)
                      injection hav2 with hav2 hxx hcv2
                      subst hav2 hcv2
                      clear hxx hvo5 d0 d1 d2 d3 d4 d5 d6 d7
                      obtain ⟨d0, d1, d2, d3, d4, d5, d6, d7⟩ := Hpl.out w5 hp5
                      have HA_ := Lib.hid hA_; have HB5 := Lib.hid (HBw.out.trans (hB5.mono HBw.out.size))
                      have hstA := Hst.out.below (HB3.out.trans (HB5.out.mono HB3.out.size))
                      have hstep := Steps_n (HT3.out.below HB5.out) h0 h1 h2 h3 h4 h5 sa a13 cap q13 vars steps (List.replicate n (0, from_, 3)) hstA hiv2 Hin.out Hq.out (by have := Htl.out; omega) (by rw [List.length_replicate]; omega)
                      rw [List.length_replicate, Hn.out] at hstep
                      have Hstep2 := Lib.hid hstep
                      clear hA_ hB5 hp5 hiv2 hstA hstep
                      go_wp2_with fail
                      rw [Hin'.out]
                      refine Hstep2.out.mono ?_
                      rintro e w6 ⟨ab, cb, lk2, rfl, hc28, hB6⟩
                      obtain ⟨E_, hE_⟩ : ∃ E_, cntR T vars steps (List.replicate n (0, from_, 3)) = E_ := ⟨_, rfl⟩
                      rw [hE_] at hc28 ⊢
                      have HE_ := Lib.hid hE_; have HB6 := Lib.hid (HB5.out.trans (hB6.mono HB5.out.size))
                      clear hE_ hB6 d0 d1 d2 d3 d4 d5 d6 d7
                      by_cases hn0 : n = 0
                      · have hA1 : A_ = 1 := by
                          have hs0 : steps = [] := List.eq_nil_of_length_eq_zero (by rw [Hn.out]; exact hn0)
                          rw [← HA_.out, hs0]
                          have hm := Hqm.out
                          rw [hs0] at hm
                          exact views_law0 hm
                        have dn : ((n : Int) == 0) = true := by simpa using hn0
                        have dA : ((A_ : Int) == 1) = true := by simp [hA1]
                        clear hn0 hA1
                        go_wp2_with fail
                        refine (known14_any w6).mono ?_
                        rintro e w7 ⟨rfl, hB7⟩
                        have HB7 := Lib.hid (HB6.out.trans (hB7.mono HB6.out.size))
                        clear hB7
                        go_wp2_with fail
                        go_ret
                        exact ⟨rfl, HB3.out.trans (HB7.out.mono HB3.out.size)⟩
                      · have hlaw := views_law (T := T) (fr := from_) Hqm.out Hk.out (by omega) (by rw [Htl.out]; omega) (by rintro rfl; exact hn0 (by rw [← Hn.out]; rfl))
                        rw [Hn.out, HA_.out, HE_.out, ← Hkl.out, Hnr.out] at hlaw
                        have dn : ((n : Int) == 0) = false := by simpa using hn0
                        have dA : ((A_ : Int) == (E_ : Int) + (nr : Int)) = true := by simp; omega
                        clear hn0 hlaw
                        go_wp2_with fail
                        refine (known14_any w6).mono ?_
                        rintro e w7 ⟨rfl, hB7⟩
                        have HB7 := Lib.hid (HB6.out.trans (hB7.mono HB6.out.size))
                        clear hB7
                        go_wp2_with fail
                        go_ret
                        exact ⟨rfl, HB3.out.trans (HB7.out.mono HB3.out.size)⟩
end Go.Proofs.Ytkgkkbfpkgfcaaa
