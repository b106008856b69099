/- Layer 14: JoinLeaves, walked. -/
import Derived.Test.YtkgkkbfpkgfcaaaJ24
import Derived.Deep.CutBlock
import Derived.Maps.OwnIn
namespace Go.Proofs.Ytkgkkbfpkgfcaaa
set_option maxRecDepth 100000
open Go.RowKit Go.Maps
set_option linter.unusedVariables false
set_option linter.unusedSimpArgs false
attribute [local go_sem] Oper.semAt_some

theorem evs_len (T : TS) : ∀ (ss : List (StepT × Vw)) (L : List Int), ∀ b ∈ outsE (evs T ss L), b.length = L.length
  | [], L, b, hb => by
    simp only [evs, outsE, List.filterMap_cons, id_eq, List.filterMap_nil, List.mem_singleton] at hb
    rw [hb]
  | (s, v) :: t, L, b, hb => by
    unfold evs at hb
    split at hb
    · simp only [outsE, List.filterMap_flatMap, List.mem_flatMap] at hb
      obtain ⟨r, _, hb⟩ := hb
      simp only [List.filterMap_cons, id_eq] at hb
      split at hb
      · have := evs_len T t _ b hb
        rw [this, (bindP_keep _ _).1]
      · simp at hb
    · split at hb
      · exact evs_len T t L b hb
      · simp [outsE] at hb
theorem runOuts_b {T : TS} {vars : Int} {steps : List StepT} {views : List Vw} (h : PlanOK T vars steps views) : ∀ b ∈ runOuts T vars steps views, b.length ≤ 1000000 := by
  intro b hb
  unfold runOuts at hb
  split at hb
  · have h1 := evs_len T _ _ b hb
    have h2 := h.vle
    rw [h1, List.length_replicate]
    omega
  · simp at hb
theorem equal_yes {w : World} (a a' : Option Addr) (cap cap' : Nat) (L : List Int) (h : IsU w a L) (h' : IsU w a' L) (hl : L.length ≤ 1000000) :
    Calls Try.prog 12 #[.slice a L.length cap, .slice a' L.length cap'] w fun e w' => e = .returned (.bool true) ∧ Below w.heap.size w w' :=
  (equal_any a a' cap cap' L L h h' hl).mono fun e w' ⟨he, hb⟩ => ⟨by rw [he]; simp, hb⟩
theorem IsOut.u {B : Nat} {W : World} {sv : Value} {b : List Int} (h : IsOut B W sv b) : ∃ a cap, sv = .slice a b.length cap ∧ IsU W a b := by
  rcases own_cellsJ h with ⟨h1, h0⟩ | ⟨g, cap, h1, _, _, _, ⟨cur, h4, _⟩, h6⟩
  · exact ⟨none, 0, by rw [h1, h0], fun j hj => by omega⟩
  · exact ⟨_, cap, h1, fun j hj => ⟨g, 0, rfl, (Array.getElem?_eq_some_iff.1 h4).1, by rw [Nat.zero_add]; exact (h6 j _ (by simp [uvs, hj])).1⟩⟩
theorem IsOuts.at {B : Nat} {W : World} {sv : Value} {l : List OutT} (h : IsOuts B W sv l) (j : Nat) (hj : j < l.length) : ∃ g cap, sv = .slice (some ⟨g, 0, none⟩) l.length cap ∧ W.cell? ⟨g, j, none⟩ = some l[j].1 := by
  rcases own_cellsJ h.1 with ⟨h1, h0⟩ | ⟨g, cap, h1, _, _, _, _, h6⟩
  · omega
  · exact ⟨g, cap, h1, (h6 j _ (by simp [hj])).1⟩
set_option maxRecDepth 100000 in
set_option maxHeartbeats 40000000 in
theorem leaves_any (w : World) (la : Option Addr) (lcap : Nat) (l : TS) (hl : IsRows4 w la l) (h0 h1 h2 h3 h4 h5 : Int) (sa : Option Addr) (cap : Nat) (vars : Int) (steps : List StepT) (hst : IsSteps w sa steps) (hin : PlanIn steps) (hns : steps.length ≤ maxLen) (at_ : Int) :
    Calls Try.prog 4 #[.slice la l.length lcap, .agg (planC h0 h1 h2 h3 h4 h5 sa steps.length cap vars), .int .i64 at_] w fun e w' => e = .returned (.bool true) ∧ Below w.heap.size w w' := by
  obtain ⟨nl, hnl⟩ : ∃ nl, l.length = nl := ⟨_, rfl⟩
  obtain ⟨n, hn⟩ : ∃ n, steps.length = n := ⟨_, rfl⟩
  rw [hnl, hn]
  have Hl := Lib.hid hl; have Hst := Lib.hid hst; have Hin := Lib.hid hin; have Hns := Lib.hid hns; have Hnl := Lib.hid hnl; have Hn := Lib.hid hn
  obtain ⟨hA1, hA2, hA3, hA4⟩ := two_blocks w (.cells (planC h0 h1 h2 h3 h4 h5 sa n cap vars) 29) (.cells #[.int .i64 at_] 3) _ rfl
  unfold planC at hA1 hA2 hA3 hA4 ⊢
  have HA1 := Lib.hid hA1; have HA2 := Lib.hid hA2; have HA3 := Lib.hid hA3; have HA4 := Lib.hid hA4
  have hpl : ∀ A : World, A.heap[w.heap.size]? = some (.cells #[.int .i64 h0, .int .u32 h1, .int .i64 h2, .int .u32 h3, .int .i64 h4, .int .u32 h5, .slice sa n cap, .int .i64 vars] 29 (0, 0)) → A.cell? ⟨w.heap.size, 0, none⟩ = some (.int .i64 h0) ∧ A.cell? ⟨w.heap.size, 1, none⟩ = some (.int .u32 h1) ∧ A.cell? ⟨w.heap.size, 2, none⟩ = some (.int .i64 h2) ∧ A.cell? ⟨w.heap.size, 3, none⟩ = some (.int .u32 h3) ∧ A.cell? ⟨w.heap.size, 4, none⟩ = some (.int .i64 h4) ∧ A.cell? ⟨w.heap.size, 5, none⟩ = some (.int .u32 h5) ∧ A.cell? ⟨w.heap.size, 6, none⟩ = some (.slice sa n cap) ∧ A.cell? ⟨w.heap.size, 7, none⟩ = some (.int .i64 vars) := by
    intro A h
    unfold World.cell?
    rw [h]
    exact ⟨rfl, rfl, rfl, rfl, rfl, rfl, rfl, rfl⟩
  have Hpl := Lib.hid hpl
  clear hl hst hin hns hnl hn hA1 hA2 hA3 hA4 hpl
  refine (callsIn_wide (n := 9)).1 ?_
  refine callsIn_of_wp_marks Try.func4 rfl trivial ?_ rfl
  refine wpIn_wide.2 ?_
  simp only [Try.ntmps4, List.size_toArray, List.length_cons, List.length_nil, Nat.reduceAdd, Nat.reduceSub, Array.replicate_succ, Array.replicate_zero, List.push_toArray, List.append_toArray, List.nil_append, List.cons_append]
  go_wp2_with fail
  generalize (w.alloc (.cells #[.int .i64 h0, .int .u32 h1, .int .i64 h2, .int .u32 h3, .int .i64 h4, .int .u32 h5, .slice sa n cap, .int .i64 vars] 29)).alloc (.cells #[.int .i64 at_] 3) = W at *
  rw [← Hn.out]
  refine (small_any h0 h1 h2 h3 h4 h5 sa la none cap lcap 0 nl 0 vars steps (Hst.out.below HA1.out) Hns.out).mono ?_
  rintro e w1 ⟨rfl, hB1⟩
  obtain ⟨q, hq⟩ : ∃ q, smallP steps nl 0 vars = q := ⟨_, rfl⟩
  rw [hq, Hn.out]
  have Hq := Lib.hid hq
  have hz := HA2.out
  have hp1 := (hB1.block w.heap.size (by omega)).trans HA3.out
  have ha1 := (hB1.block (w.heap.size + 1) (by omega)).trans HA4.out
  have c5 := (jbox_cell ha1).1
  have HB1 := Lib.hid (HA1.out.trans (hB1.mono HA1.out.size))
  have Hp1 := Lib.hid hp1; have Ha1 := Lib.hid ha1
  clear hq hB1 hz hp1 ha1
  have endE : ∀ (a : Act) (w2 : World), a.defers = [] → a.tmps[6]?.getD undef = .bool true → Below w.heap.size w w2 → bodyPostM Fence.wide 9 Try.prog Try.f4 (fun e w' => e = .returned (.bool true) ∧ Below w.heap.size w w') .ret a w2 := by
    intro a w2 hd ht hb
    show LeavesInM Fence.wide 9 Try.prog Try.f4 a.tmps _ a.defers .returning w2
    rw [hd]
    refine ⟨.bool true, ?_, rfl, hb⟩
    have hres : Try.f4.results = #[.tmp 6] := rfl
    simp only [results, hres]
    simp [go_sem, ht]
  have EndE := Lib.hid endE
  clear endE
  cases q with
  | false =>
    go_wp2_with fail
    refine (known14_any w1).mono ?_
    rintro e w2 ⟨rfl, hB2⟩
    have HB2 := Lib.hid (HB1.out.trans (hB2.mono HB1.out.size))
    clear hB2
    go_wp2_with fail
    exact EndE.out _ _ rfl rfl HB2.out
  | true =>
    by_cases hat : at_ < 0
    · have hd : decide (at_ < 0) = true := by simpa using hat
      go_wp2_with fail
      refine (known14_any w1).mono ?_
      rintro e w2 ⟨rfl, hB2⟩
      have HB2 := Lib.hid (HB1.out.trans (hB2.mono HB1.out.size))
      clear hB2
      go_wp2_with fail
      exact EndE.out _ _ rfl rfl HB2.out
    · have hd : decide (at_ < 0) = false := by simpa using hat
      have hnl30 : nl ≤ 30 := by
        have := Hq.out
        simp only [smallP, Bool.and_eq_true, decide_eq_true_eq] at this
        omega
      have hTl : (tabOf l).length ≤ 30 := Nat.le_trans (tabOf_len l) (by have := Hnl.out; omega)
      have hok : PlanOK (tabOf l) vars steps [] := Hin.out.ok Hq.out (by simp) hTl
      have hol : (runOuts (tabOf l) vars steps []).length ≤ 27000 := (run_bound Hq.out hTl).2
      obtain ⟨T, hT⟩ : ∃ T, tabOf l = T := ⟨_, rfl⟩
      rw [hT] at hTl hok hol
      have hok' := hok
      have HTl := Lib.hid hTl; have Hok := Lib.hid hok; have Hol := Lib.hid hol; have HTe := Lib.hid hT
      clear hTl hok hol hT
      go_wp2_with fail
      rw [← Hnl.out]
      refine (begin14_any w1 la lcap l (Hl.out.below HB1.out) (by have := Hnl.out; omega)).mono ?_
      rw [HTe.out]
      rintro e w2 ⟨tb, v, Z, D, rfl, hT, -, hB2⟩
      have hp2 := (hB2.block w.heap.size (by have := (Array.getElem?_eq_some_iff.1 Hp1.out).1; omega)).trans Hp1.out
      have ha2 := (hB2.block (w.heap.size + 1) (by have := (Array.getElem?_eq_some_iff.1 Ha1.out).1; omega)).trans Ha1.out
      obtain ⟨d0, d1, d2, d3, d4, d5, d6, d7⟩ := Hpl.out w2 hp2
      have HB2 := Lib.hid (HB1.out.trans (hB2.mono HB1.out.size)); have HT2 := Lib.hid hT; have Hp2 := Lib.hid hp2; have Ha2 := Lib.hid ha2
      clear hT hB2 hp2 ha2 c5
      go_wp2_with fail
      refine (Run_any w2 tb h0 h1 h2 h3 h4 h5 sa none n cap 0 0 vars).mono ?_
      rintro e w3 ⟨rfl, hB3, hz3, b0, b1, b2⟩
      rw [← Hn.out] at b1
      have HB3 := Lib.hid (HB2.out.trans (hB3.mono HB2.out.size))
      have hseq := run1_any (HT2.out.below hB3) h0 h1 h2 h3 h4 h5 sa none cap 0 vars steps [] (Hst.out.below HB3.out) (fun i hi => by simp at hi) Hok.out b0 b1 b2
      have Hseq := Lib.hid hseq
      have Ha3 := Lib.hid ((hB3.block _ (Array.getElem?_eq_some_iff.1 Ha2.out).1).trans Ha2.out)
      have hnilf : ∀ (lb : Array Value) (w : World), (binOp .eql 49 (.func (.func 22) #[] lb) .nilFunc).run Try.prog w = .ok (.bool false) w := fun _ _ => rfl
      obtain ⟨b4, z4, f4, g4⟩ := two_blocks w3 (.cells #[.slice none 0 0] 43) (.cells #[.slice none 0 0] 43) _ rfl
      have HB4 := Lib.hid b4; have HZ4 := Lib.hid z4; have HF4 := Lib.hid f4; have HG4 := Lib.hid g4
      obtain ⟨B, hB⟩ : ∃ B, w2.heap.size = B := ⟨_, rfl⟩
      rw [hB] at Hseq ⊢
      clear hB3 hz3 b0 b1 b2 hseq d0 d1 d2 d3 d4 d5 d6 d7 b4 z4 f4 g4 hB
      go_upto_block 0 with fail
      clear hnilf
      generalize (w3.alloc (.cells #[.slice none 0 0] 43)).alloc (.cells #[.slice none 0 0] 43) = W4 at *
      have hl0 : LvJ w3 (fun _ => False) W4 w3.heap.size (w3.heap.size + 1) (.slice none 0 0) (.slice none 0 0) [] [] :=
        { b := HB4.out, x := fun _ h => h.elim, pn := Nat.le_refl _, on := by omega, ne := by omega, pb := HF4.out, ob := HG4.out, po := ⟨World.ownsRow_nil _ _ _ _, fun y hy => by simp at hy⟩, oo := ⟨World.ownsRow_nil _ _ _ _, fun y hy => by simp at hy⟩
          px := fun _ _ h => h, ox := fun _ _ h => h, py := fun _ _ _ _ h => h, oy := fun _ _ _ _ h => h, sep := fun g hg => by simp [Value.ownBlock] at hg }
      have HL0 := Lib.hid hl0
      clear hl0
      obtain ⟨outs, hout⟩ : ∃ outs, runOuts T vars steps [] = outs := ⟨_, rfl⟩
      have HoutsB := Lib.hid (runOuts_b hok')
      rw [hout] at Hseq Hol HoutsB
      clear hok'
      refine (wpIn_wide (n := 9)).1 ?_
      have hfn : ∀ k, Fence.wide.fn k := fun _ => trivial
      refine wp_rangeFunc_XB 0 (fun t sv => (t.setIfInBounds 35 sv).setIfInBounds 12 sv) rfl (enters_of Try.func22 (by kernel_rfl) rfl) Hseq.out (by have := HB4.out.size; omega) (fun i hi => HB4.out.block i hi)
        (fun pre X W => (∃ pv, LvJ w3 X W w3.heap.size (w3.heap.size + 1) pv (.slice none 0 0) pre []) ∧ (pre.length : Int) ≤ at_)
        (fun pre W => ∃ pv P y, pre = P ++ [y] ∧ LvJ w3 (fun _ => False) W w3.heap.size (w3.heap.size + 1) pv (.slice none 0 0) P [] ∧ (P.length : Int) = at_)
        (fun pre X X' A B ⟨⟨pv, h⟩, hle⟩ hg hX => ⟨⟨pv, h.grow hg hX⟩, hle⟩)
        (fun pre X W l o o' ⟨⟨pv, h⟩, hle⟩ hw hl hc => ⟨⟨pv, h.put hl hc (by have := HB4.out.size; omega) o'⟩, hle⟩)
        (fun pre W l o o' ⟨pv, P, y, e, h, hle⟩ hw hl hc => ⟨pv, P, y, e, h.put hl hc (by have := HB4.out.size; omega) o', hle⟩)
        ⟨⟨_, HL0.out⟩, by simp; omega⟩ ?assign ?body ?fin
      case assign =>
        rintro lnn sv W K ⟨x1, x2, x3, rfl⟩ hK
        have HK := Lib.hid hK
        clear hK
        gi_wp2
        exact HK.out
      case body =>
        rintro lnn pre X sv b W ⟨⟨pv, hL⟩, hle⟩ hX hW2 hio hnx hpx hlw hlr
        have HL := Lib.hid hL; have HX := Lib.hid hX; have Hnx := Lib.hid hnx
        have hio2 := own_mono hio (show w3.heap.size ≤ W4.heap.size + 2 by have := HB4.out.size; omega)
        have Hio := Lib.hid (show IsOut w3.heap.size W sv b from hio2)
        obtain ⟨sa1, sc1, hsv⟩ := own_anyJ hio
        subst hsv
        obtain ⟨bl, hbl⟩ : ∃ bl, b.length = bl := ⟨_, rfl⟩
        have Hbl := Lib.hid hbl
        obtain ⟨ap, cp, hpv⟩ := own_anyJ hL.po.1
        subst hpv
        obtain ⟨pl, hpl⟩ : ∃ pl, pre.length = pl := ⟨_, rfl⟩
        have hpl27 : pl ≤ 27000 := by
          have h1 := hpx.length_le
          have h2 := Hol.out
          rw [List.length_append, List.length_map, List.length_singleton, hpl] at h1
          omega
        obtain ⟨cb, fb⟩ := jbox_cell hL.pb
        obtain ⟨iu, hiu, hz0, hz1, hz2⟩ := info_parts Try.infoU
        have Hi := Lib.hid hiu; have Hz0 := Lib.hid hz0; have Hz1 := Lib.hid hz1; have Hz2 := Lib.hid hz2
        have hBA : Below W.heap.size W (W.alloc (.cells #[.slice sa1 bl sc1] 51)) := (Below.refl _ W).alloc (Nat.le_refl _) _
        have HzA := Lib.hid (World.size_alloc W (.cells #[.slice sa1 bl sc1] 51))
        have HpoA := Lib.hid (own_below hL.po.1 hBA)
        have hkeep : ∀ w4 : World, (W.alloc (.cells #[.slice sa1 bl sc1] 51)).grownBy w4 (Value.slice ap pl cp).ownBlock → w4.heap[w3.heap.size]? = some (.cells #[.slice ap pl cp] 43 (0, 0)) := by
          intro w4 hg
          have hob := (Array.getElem?_eq_some_iff.1 hL.pb).1
          have h1 := (hg.block w3.heap.size (Nat.lt_of_lt_of_le hob hBA.size) (fun e => own_ne hL.po.1 hL.pb (by decide) (by rw [hpl]; exact e.symm))).trans ((hBA.block w3.heap.size hob).trans hL.pb)
          rw [hpl] at h1
          exact h1
        have Hkeep := Lib.hid hkeep
        have Hle := Lib.hid (show w3.heap.size ≤ W.heap.size from hL.b.size)
        have c5 : W.cell? ⟨w.heap.size + 1, 0, none⟩ = some (.int .i64 at_) := (jbox_cell ((hL.b.block _ (Array.getElem?_eq_some_iff.1 Ha3.out).1).trans Ha3.out)).1
        rw [hpl] at hle
        rw [hpl] at cb HpoA
        rw [hbl]
        have Hpl2 := Lib.hid hpl
        clear hL hX hio hnx hpx hio2 hbl hpl hiu hz0 hz1 hz2 hBA hkeep
        by_cases hat2 : (pl : Int) = at_
        · have hd2 : ((pl : Int) == at_) = true := by simpa using hat2
          have Hat2 := Lib.hid hat2
          clear hat2
          gi_wp2_with fail
          exact ⟨KeepsFrom.refl _ _, rfl, _, pre, _, rfl, HL.out.less (fun _ h => h.elim), by rw [Hpl2.out]; exact Hat2.out⟩
        · have hd2 : ((pl : Int) == at_) = false := by simpa using hat2
          gi_wp2_with (gi_at_builtin; go_loud (refine wpListIn_append_own_at _ rfl _ _ 43 rfl w3.heap.size 51 iu (.slice none 0 0) 1 24 Try.underlying43 Hi.out Hz0.out Hz1.out Hz2.out rfl (by decide) _ _ _ rfl HpoA.out ⟨W.heap.size, 0, none⟩ 1 1 [.slice sa1 bl sc1] rfl rfl (cells_blk (World.alloc_heap_new _ _)) (by simp [Value.oneCell']) (by unfold maxLen; omega) (by omega) (by rw [HzA.out]; have := Hle.out; omega) ?_); intro v' w4 hown' hgrow _ hwh; obtain ⟨g', cap', rfl⟩ := jown_slice hown' (Nat.succ_pos _); obtain ⟨c4, f4⟩ := jbox_cell (Hkeep.out w4 hgrow); have Hown' := Lib.hid hown'; have Hgrow := Lib.hid hgrow; have Hwh := Lib.hid hwh; clear hown' hgrow hwh)
          have hL := HL.out
          rw [Hpl2.out] at hL
          have hio := Hio.out
          rw [Hbl.out] at hio
          obtain ⟨h1, h2, h3⟩ := hL.push (fun i hi => (HX.out i hi).2) hio (by rw [← Hbl.out]; exact Hnx.out) Hgrow.out (by rw [Hpl2.out]; exact Hown'.out) Hwh.out
          exact ⟨h3 _, h2, ⟨_, h1⟩, by rw [List.length_append, List.length_singleton, Hpl2.out]; push_cast; omega⟩
      case fin =>
        rintro D1 pre W hD hor hdef
        obtain ⟨pv, P, hL, hpP, hkey⟩ : ∃ pv P, LvJ w3 (fun _ => False) W w3.heap.size (w3.heap.size + 1) pv (.slice none 0 0) P [] ∧ P.map (·.2) <+: outs ∧ ((P.length : Int) = at_ ∨ (P.map (·.2) = outs ∧ (P.length : Int) ≤ at_)) := by
          rcases hor with ⟨X, hp, ⟨pv, h⟩, hle⟩ | ⟨hp, pv, P, y, rfl, h, hle⟩
          · exact ⟨pv, pre, h.less (fun _ h => h.elim), by rw [hp]; exact List.prefix_refl _, .inr ⟨hp, hle⟩⟩
          · refine ⟨pv, P, h, ?_, .inl hle⟩
            rw [List.map_append] at hp
            exact (List.prefix_append _ _).trans hp
        have HL1 := Lib.hid hL; have HP := Lib.hid hpP; have Hkey := Lib.hid hkey; have HD1 := Lib.hid hdef; have HDw := Lib.hid hD
        have HB5 := Lib.hid hL.b
        obtain ⟨W5, hW5⟩ : ∃ W5, W = W5 := ⟨_, rfl⟩
        rw [hW5] at HL1 HD1 HB5 ⊢
        clear hL hpP hkey hdef hD hor hW5
        go_upto_block 2 with fail
        refine (wpIn_wide (n := 9)).1 ?_
        have HD5 := Lib.hid (show D1 < W5.heap.size from (Array.getElem?_eq_some_iff.1 HD1.out).1)
        refine wp_rangeFunc_XB 2 (fun t sv => (t.setIfInBounds 45 sv).setIfInBounds 13 sv) rfl (enters_of Try.func22 (by kernel_rfl) rfl) Hseq.out HB5.out.size (fun i hi => HB5.out.block i hi)
          (fun pre X W => (∃ av, LvJ w3 X W (w3.heap.size + 1) w3.heap.size av pv pre P) ∧ (∀ i, X i → W5.heap.size ≤ i) ∧ W.heap[D1]? = some (.deferred (some [])) ∧ W5.heap.size ≤ W.heap.size)
          (fun pre W => False)
          (fun pre X X' A B ⟨⟨pv, h⟩, hx, hd, hs⟩ hg hX => ⟨⟨pv, h.grow hg hX⟩, fun i hi => (hX i hi).elim (hx i) (fun h5 => by omega), (hg.block D1 (Array.getElem?_eq_some_iff.1 hd).1 (fun h5 => by have := hx D1 h5; have := HD5.out; omega)).trans hd, Nat.le_trans hs hg.size⟩)
          (fun pre X W l o o' ⟨⟨pv, h⟩, hx, hd, hs⟩ hw hl hc => ⟨⟨pv, h.put hl hc (by have := HB5.out.size; omega) o'⟩, hx, (World.putObj_heap_other (by have := HD5.out; omega)).trans hd, by rw [show (W.putObj l o').heap.size = W.heap.size by simp [World.putObj]]; exact hs⟩)
          (fun pre W l o o' h _ _ _ => h)
          ⟨⟨_, HL1.out.swap⟩, fun _ h => h.elim, HD1.out, Nat.le_refl _⟩ ?assign2 ?body2 ?fin2
        case assign2 =>
          rintro lnn sv W K ⟨x1, x2, x3, rfl⟩ hK
          have HK := Lib.hid hK
          clear hK
          gi_wp2
          exact HK.out
        case body2 =>
          rintro lnn pre X sv b W ⟨⟨pv2, hL⟩, hXN, hd1, hs5⟩ hX hW2 hio hnx hpx hlw hlr
          have Hd1 := Lib.hid hd1; have HXN := Lib.hid hXN
          clear hd1 hXN
          have HL := Lib.hid hL; have HX := Lib.hid hX; have Hnx := Lib.hid hnx
          have hio2 := own_mono hio (show w3.heap.size ≤ W5.heap.size + 2 by have := HB5.out.size; omega)
          have Hio := Lib.hid (show IsOut w3.heap.size W sv b from hio2)
          obtain ⟨sa1, sc1, hsv⟩ := own_anyJ hio
          subst hsv
          obtain ⟨bl, hbl⟩ : ∃ bl, b.length = bl := ⟨_, rfl⟩
          have Hbl := Lib.hid hbl
          obtain ⟨ap, cp, hpv⟩ := own_anyJ hL.po.1
          subst hpv
          obtain ⟨pl, hpl⟩ : ∃ pl, pre.length = pl := ⟨_, rfl⟩
          have hpl27 : pl ≤ 27000 := by
            have h1 := hpx.length_le
            have h2 := Hol.out
            rw [List.length_append, List.length_map, List.length_singleton, hpl] at h1
            omega
          obtain ⟨cb, fb⟩ := jbox_cell hL.pb
          obtain ⟨iu, hiu, hz0, hz1, hz2⟩ := info_parts Try.infoU
          have Hi := Lib.hid hiu; have Hz0 := Lib.hid hz0; have Hz1 := Lib.hid hz1; have Hz2 := Lib.hid hz2
          have hBA : Below W.heap.size W (W.alloc (.cells #[.slice sa1 bl sc1] 51)) := (Below.refl _ W).alloc (Nat.le_refl _) _
          have HzA := Lib.hid (World.size_alloc W (.cells #[.slice sa1 bl sc1] 51))
          have HpoA := Lib.hid (own_below hL.po.1 hBA)
          have hkeep : ∀ w4 : World, (W.alloc (.cells #[.slice sa1 bl sc1] 51)).grownBy w4 (Value.slice ap pl cp).ownBlock → w4.heap[w3.heap.size + 1]? = some (.cells #[.slice ap pl cp] 43 (0, 0)) := by
            intro w4 hg
            have hob := (Array.getElem?_eq_some_iff.1 hL.pb).1
            have h1 := (hg.block (w3.heap.size + 1) (Nat.lt_of_lt_of_le hob hBA.size) (fun e => own_ne hL.po.1 hL.pb (by decide) (by rw [hpl]; exact e.symm))).trans ((hBA.block (w3.heap.size + 1) hob).trans hL.pb)
            rw [hpl] at h1
            exact h1
          have Hkeep := Lib.hid hkeep
          have Hle := Lib.hid (show w3.heap.size ≤ W.heap.size from hL.b.size)
          rw [hpl] at cb HpoA
          rw [hbl]
          have Hpl2 := Lib.hid hpl
          clear hL hX hio hnx hpx hio2 hbl hpl hiu hz0 hz1 hz2 hBA hkeep
          gi_wp2_with (gi_at_builtin; go_loud (refine wpListIn_append_own_at _ rfl _ _ 43 rfl w3.heap.size 51 iu (.slice none 0 0) 1 24 Try.underlying43 Hi.out Hz0.out Hz1.out Hz2.out rfl (by decide) _ _ _ rfl HpoA.out ⟨W.heap.size, 0, none⟩ 1 1 [.slice sa1 bl sc1] rfl rfl (cells_blk (World.alloc_heap_new _ _)) (by simp [Value.oneCell']) (by unfold maxLen; omega) (by omega) (by rw [HzA.out]; have := Hle.out; omega) ?_); intro v' w4 hown' hgrow _ hwh; obtain ⟨g', cap', rfl⟩ := jown_slice hown' (Nat.succ_pos _); obtain ⟨c4, f4⟩ := jbox_cell (Hkeep.out w4 hgrow); have Hown' := Lib.hid hown'; have Hgrow := Lib.hid hgrow; have Hwh := Lib.hid hwh; clear hown' hgrow hwh)
          have hL := HL.out
          rw [Hpl2.out] at hL
          have hio := Hio.out
          rw [Hbl.out] at hio
          obtain ⟨h1, h2, h3⟩ := hL.push (fun i hi => (HX.out i hi).2) hio (by rw [← Hbl.out]; exact Hnx.out) Hgrow.out (by rw [Hpl2.out]; exact Hown'.out) Hwh.out
          exact ⟨h3 _, h2, ⟨_, h1⟩, HXN.out, (h3 D1).same D1 _ (Nat.le_refl _) Hd1.out rfl, Nat.le_trans hs5 h2.size⟩
        case fin2 =>
          rintro D2 pre W hD hor hdef
          obtain ⟨X, av, hpo, hL, hd1⟩ : ∃ X av, pre.map (·.2) = outs ∧ LvJ w3 X W (w3.heap.size + 1) w3.heap.size av pv pre P ∧ W.heap[D1]? = some (.deferred (some [])) := by
            rcases hor with ⟨X, hp, ⟨av, h⟩, _, hd, _⟩ | ⟨_, h⟩
            · exact ⟨X, av, hp, h, hd⟩
            · exact h.elim
          have hD12 := HD5.out
          obtain ⟨m, hm⟩ : ∃ m, pre.length = m := ⟨_, rfl⟩
          obtain ⟨k, hk⟩ : ∃ k, P.length = k := ⟨_, rfl⟩
          have hkm : k ≤ m := by
            have := HP.out.length_le
            rw [← hpo, List.length_map, List.length_map] at this
            omega
          have hm27 : m ≤ 27000 := by
            have := Hol.out
            rw [← hpo, List.length_map] at this
            omega
          have hsame : ∀ j (h1 : j < P.length) (h2 : j < pre.length), P[j].2 = pre[j].2 := by
            intro j h1 h2
            have hp := HP.out
            rw [← hpo] at hp
            have := hp.getElem (show j < (P.map (·.2)).length by simpa using h1)
            simpa using this
          obtain ⟨ca, _⟩ := jbox_cell hL.pb
          obtain ⟨cf, _⟩ := jbox_cell hL.ob
          obtain ⟨aa, qa, hav⟩ := own_anyJ hL.po.1
          obtain ⟨af, qf, hpv⟩ := own_anyJ hL.oo.1
          subst hav hpv
          rw [hm] at ca
          rw [hk] at cf
          have c5 : W.cell? ⟨w.heap.size + 1, 0, none⟩ = some (.int .i64 at_) := (jbox_cell ((hL.b.block _ (Array.getElem?_eq_some_iff.1 Ha3.out).1).trans Ha3.out)).1
          have hd10 : decide (m < k) = false := by simp; omega
          have hkey := Hkey.out
          rw [hk] at hkey
          have hkey2 : decide (at_ < (m : Int)) = true → ((k : Int) != at_) = false := by
            intro h
            simp only [decide_eq_true_eq] at h
            rcases hkey with h2 | ⟨h2, h3⟩
            · simp [h2]
            · have h4 : k = m := by rw [← hk, ← hm, ← List.length_map (f := fun y : OutT => y.2), h2, ← hpo, List.length_map]
              omega
          have HLo := Lib.hid hL; have Hm := Lib.hid hm; have Hk := Lib.hid hk; have Hsame := Lib.hid hsame; have Hd1 := Lib.hid hd1; have Hd2 := Lib.hid hdef; have HD12 := Lib.hid (show D1 < D2 ∧ w.heap.size ≤ D1 by have := HDw.out; have := HB4.out.size; have := HB3.out.size; omega)
          have Hkey2 := Lib.hid hkey2
          have Hk12 := Lib.hid hkm
          clear hD hor hdef hpo hL hd1 hD12 hm hk hsame hkey hkey2
          obtain ⟨pp, hpp⟩ : ∃ pp, decide (at_ < (m : Int)) = pp := ⟨_, rfl⟩
          have hk2 := Hkey2.out
          rw [hpp] at hk2
          have endK : ∀ (a : Act) (Wx Wy : World), a.defers = [{ target := .collected D2, args := #[] }, { target := .collected D1, args := #[] }] → a.tmps[6]?.getD undef = .bool true → Below W.heap.size W Wx → Below Wx.heap.size Wx Wy → bodyPostM Fence.wide 9 Try.prog Try.f4 (fun e w' => e = .returned (.bool true) ∧ Below w.heap.size w w') .ret a Wy := by
            intro a Wx Wy hda ht hb1 hb2
            show LeavesInM Fence.wide 9 Try.prog Try.f4 a.tmps _ a.defers .returning Wy
            rw [hda]
            have hb := hb1.trans (hb2.mono hb1.size)
            have k1 := (hb.block D1 (Array.getElem?_eq_some_iff.1 Hd1.out).1).trans Hd1.out
            have k2 := (hb.block D2 (Array.getElem?_eq_some_iff.1 Hd2.out).1).trans Hd2.out
            have hlt := HD12.out
            have hBw : Below w.heap.size w Wy := (HB3.out.trans (HLo.out.b.mono HB3.out.size)).trans (hb.mono (by have := HB3.out.size; have := HLo.out.b.size; omega))
            have k1' : (Wy.putObj D2 (.deferred none)).heap[D1]? = some (.deferred (some [])) := (World.putObj_heap_other (by omega)).trans k1
            refine ⟨by simp, .inl ⟨_, _, rfl, run_takeDeferred k2, ⟨by simp, .inl ⟨_, _, rfl, run_takeDeferred k1', ?_⟩⟩⟩⟩
            refine ⟨.bool true, ?_, rfl, ?_⟩
            · have hres : Try.f4.results = #[.tmp 6] := rfl
              simp only [results, hres]
              simp [go_sem, ht]
            · have e1 := hBw.trans (belowK_b (w := w) (Nat.le_refl _) Wy D2 _ (.deferred none) (by omega) k2 rfl rfl)
              exact e1.trans (belowK_b (w := w) (Nat.le_refl _) _ D1 _ (.deferred none) (by omega) k1' rfl rfl)
          have EndK := Lib.hid endK
          clear endK
          have hk3 : pp = true → ((k : Int) != at_) = false := hk2
          clear hk2
          cases pp
          all_goals
            (try have hk4 := hk3 rfl)
            clear hk3
            have Hpp := Lib.hid hpp
            go_upto_region 17 with fail
            clear ca cf c5
            go_wp2_with fail
            go_loopw [14] (fun u wx => ∃ j : Nat, j ≤ k ∧ u = .int .i64 j ∧ Below W.heap.size W wx) (fun u _ => k - (intOf u).toNat)
            case atStart => exact ⟨0, Nat.zero_le _, rfl, Below.refl _ _⟩
            case round =>
              obtain ⟨j, hj, rfl, hBj⟩ := hrel
              obtain ⟨ca, _⟩ := jbox_cell HLo.out.pb
              obtain ⟨cf, _⟩ := jbox_cell HLo.out.ob
              rw [Hm.out] at ca
              rw [Hk.out] at cf
              have ca := cell_later hBj ca
              have cf := cell_later hBj cf
              have HBj := Lib.hid hBj
              by_cases hjk : j < k
              · have hd14 : decide ((j : Int) < (k : Int)) = true := by simp; omega
                have hjm : j < m := by have := Hk12.out; omega
                obtain ⟨g1, q1, e1, y1⟩ := HLo.out.oo.at j (by rw [Hk.out]; exact hjk)
                obtain ⟨g2, q2, e2, y2⟩ := HLo.out.po.at j (by rw [Hm.out]; exact hjm)
                injection e1 with e1 _ e1'
                injection e2 with e2 _ e2'
                subst e1 e1' e2 e2'
                obtain ⟨a1, r1, v1, u1⟩ := (HLo.out.oo.2 (P[j]'(by rw [Hk.out]; exact hjk)) (List.getElem_mem _)).u
                obtain ⟨a2, r2, v2, u2⟩ := (HLo.out.po.2 (pre[j]'(by rw [Hm.out]; exact hjm)) (List.getElem_mem _)).u
                rw [v1] at y1
                rw [v2] at y2
                have hsm := Hsame.out j (by rw [Hk.out]; exact hjk) (by rw [Hm.out]; exact hjm)
                rw [← hsm] at y2 u2
                obtain ⟨b, hb⟩ : ∃ b, (P[j]'(by rw [Hk.out]; exact hjk)).2 = b := ⟨_, rfl⟩
                rw [hb] at y1 y2 u1 u2
                have hb6 : b.length ≤ 1000000 := by
                  have h5 : b ∈ outs := by
                    refine HP.out.subset ?_
                    rw [← hb]
                    exact List.mem_map_of_mem (List.getElem_mem _)
                  exact HoutsB.out b h5
                have y1 := cell_later hBj y1
                have y2 := cell_later hBj y2
                have U1 := Lib.hid (u1.below hBj); have U2 := Lib.hid (u2.below hBj); have Hb6 := Lib.hid hb6
                clear v1 v2 u1 u2 hsm hb hb6 hBj
                go_wp2_with fail
                have ca : wr.drew.cell? ⟨w3.heap.size + 1, 0, none⟩ = _ := ca
                have cf : wr.drew.cell? ⟨w3.heap.size, 0, none⟩ = _ := cf
                have y1 : wr.drew.cell? ⟨g1, j, none⟩ = _ := y1
                have y2 : wr.drew.cell? ⟨g2, j, none⟩ = _ := y2
                have HBd := Lib.hid (show Below W.heap.size W wr.drew from HBj.out.drew)
                have UD1 := Lib.hid (U1.out.below (Below.refl _ wr).drew)
                have UD2 := Lib.hid (U2.out.below (Below.refl _ wr).drew)
                obtain ⟨S20, hSe⟩ : ∃ S : Array Bool → World → Prop, S = fun _ w' => Below wr.drew.heap.size wr.drew w' := ⟨_, rfl⟩
                have hdrop : ∀ i : Nat, ∀ L w', S20 (L.setIfInBounds i true) w' → S20 L w' := by
                  intro i L w' h; rw [hSe] at h ⊢; exact h
                have hS : ∀ L, S20 L wr.drew := by intro L; rw [hSe]; exact Below.refl _ _
                have hSo : ∀ {L w'}, S20 L w' → Below wr.drew.heap.size wr.drew w' := by intro L w' h; rw [hSe] at h; exact h
                have hSi : ∀ {w'}, Below wr.drew.heap.size wr.drew w' → ∀ L, S20 L w' := by intro w' h L; rw [hSe]; exact h
                clear hSe
                refine wp_region_LN S20 10 #[false, false, false, false, false, false, false, false, false, false] (by kernel_rfl) (by kernel_rfl) rfl ?_
                obtain ⟨X_, hX⟩ : ∃ X_, X_ = wr.drew := ⟨_, rfl⟩
                rw [← hX] at ca cf y1 y2 HBd UD1 UD2 hSo hSi hS ⊢
                clear hX
                refine WA.take (i := 0) (v := .slice (some ⟨g1, 0, none⟩) k qf) rfl (by kernel_rfl) (by kernel_rfl) (by kernel_rfl) (fun _ _ _ h => h) (hdrop 0) (Or.inl ⟨by rfl, ?_⟩) (hS _) ?_
                · rintro w' ⟨L, hL, hSw, hun⟩
                  have hbw := hSo hSw
                  have cf := cell_later hbw cf
                  clear hbw
                  go_simp
                simp only [List.getElem_toArray, List.getElem_cons_zero, List.getElem_cons_succ, Act.put, List.setIfInBounds_toArray, List.set_cons_zero, List.set_cons_succ]
                refine WA.take (i := 1) (v := .int .i64 (j : Nat)) rfl (by kernel_rfl) (by kernel_rfl) (by kernel_rfl) (fun _ _ _ h => h) (hdrop 1) (Or.inl ⟨by rfl, ?_⟩) (hS _) ?_
                · rintro w' ⟨L, hL, hSw, hun⟩
                  go_simp
                simp only [List.getElem_toArray, List.getElem_cons_zero, List.getElem_cons_succ, Act.put, List.setIfInBounds_toArray, List.set_cons_zero, List.set_cons_succ]
                refine WA.take (i := 2) (v := .pointer (some ⟨g1, j, none⟩)) rfl (by kernel_rfl) (by kernel_rfl) (by kernel_rfl) (fun _ _ _ h => h) (hdrop 2) (Or.inl ⟨by rfl, ?_⟩) (hS _) ?_
                · rintro w' ⟨L, hL, hSw, hun⟩
                  go_simp
                simp only [List.getElem_toArray, List.getElem_cons_zero, List.getElem_cons_succ, Act.put, List.setIfInBounds_toArray, List.set_cons_zero, List.set_cons_succ]
                refine WA.take (i := 3) (v := .slice a1 b.length r1) rfl (by kernel_rfl) (by kernel_rfl) (by kernel_rfl) (fun _ _ _ h => h) (hdrop 3) (Or.inl ⟨by rfl, ?_⟩) (hS _) ?_
                · rintro w' ⟨L, hL, hSw, hun⟩
                  have hbw := hSo hSw
                  have y1 := cell_later hbw y1
                  clear hbw
                  go_simp
                simp only [List.getElem_toArray, List.getElem_cons_zero, List.getElem_cons_succ, Act.put, List.setIfInBounds_toArray, List.set_cons_zero, List.set_cons_succ]
                refine WA.take (i := 4) (v := .slice (some ⟨g2, 0, none⟩) m qa) rfl (by kernel_rfl) (by kernel_rfl) (by kernel_rfl) (fun _ _ _ h => h) (hdrop 4) (Or.inl ⟨by rfl, ?_⟩) (hS _) ?_
                · rintro w' ⟨L, hL, hSw, hun⟩
                  have hbw := hSo hSw
                  have ca := cell_later hbw ca
                  clear hbw
                  go_simp
                simp only [List.getElem_toArray, List.getElem_cons_zero, List.getElem_cons_succ, Act.put, List.setIfInBounds_toArray, List.set_cons_zero, List.set_cons_succ]
                refine WA.take (i := 5) (v := .int .i64 (j : Nat)) rfl (by kernel_rfl) (by kernel_rfl) (by kernel_rfl) (fun _ _ _ h => h) (hdrop 5) (Or.inl ⟨by rfl, ?_⟩) (hS _) ?_
                · rintro w' ⟨L, hL, hSw, hun⟩
                  go_simp
                simp only [List.getElem_toArray, List.getElem_cons_zero, List.getElem_cons_succ, Act.put, List.setIfInBounds_toArray, List.set_cons_zero, List.set_cons_succ]
                refine WA.take (i := 6) (v := .pointer (some ⟨g2, j, none⟩)) rfl (by kernel_rfl) (by kernel_rfl) (by kernel_rfl) (fun _ _ _ h => h) (hdrop 6) (Or.inl ⟨by rfl, ?_⟩) (hS _) ?_
                · rintro w' ⟨L, hL, hSw, hun⟩
                  go_simp
                simp only [List.getElem_toArray, List.getElem_cons_zero, List.getElem_cons_succ, Act.put, List.setIfInBounds_toArray, List.set_cons_zero, List.set_cons_succ]
                refine WA.take (i := 7) (v := .slice a2 b.length r2) rfl (by kernel_rfl) (by kernel_rfl) (by kernel_rfl) (fun _ _ _ h => h) (hdrop 7) (Or.inl ⟨by rfl, ?_⟩) (hS _) ?_
                · rintro w' ⟨L, hL, hSw, hun⟩
                  have hbw := hSo hSw
                  have y2 := cell_later hbw y2
                  clear hbw
                  go_simp
                simp only [List.getElem_toArray, List.getElem_cons_zero, List.getElem_cons_succ, Act.put, List.setIfInBounds_toArray, List.set_cons_zero, List.set_cons_succ]
                refine WA.one (i := 8) (by kernel_rfl) rfl (by rfl) (fun K hK => ?_)
                go_simp
                refine (equal_yes a1 a2 r1 r2 b UD1.out UD2.out Hb6.out).mono ?_
                rintro e w5 ⟨rfl, hB5⟩
                have HE5 := Lib.hid hB5
                refine hK _ _ (hSi hB5 _) ?_
                clear hK
                try simp only [List.getElem_toArray, List.getElem_cons_zero, List.getElem_cons_succ, Act.put, List.setIfInBounds_toArray, List.set_cons_zero, List.set_cons_succ]
                clear hB5
                refine WA.take (i := 9) (v := .bool false) rfl (by kernel_rfl) (by kernel_rfl) (by kernel_rfl) (fun _ _ _ h => h) (hdrop 9) (Or.inl ⟨by rfl, ?_⟩) (hSi HE5.out _) ?_
                · rintro w' ⟨L, hL, hSw, hun⟩
                  go_simp
                simp only [List.getElem_toArray, List.getElem_cons_zero, List.getElem_cons_succ, Act.put, List.setIfInBounds_toArray, List.set_cons_zero, List.set_cons_succ]
                refine WA.done (by kernel_rfl) ?_ _
                refine Nrm.normal ?_
                clear hSo hSi hS hdrop ca cf y1 y2
                clear S20
                go_wp2_with fail
                exact ⟨⟨j + 1, by omega, by push_cast; rfl, HBd.out.trans (HE5.out.mono HBd.out.size)⟩, by simp [intOf]; omega⟩
              · have hjk' : j = k := by omega
                have hd14 : decide ((j : Int) < (k : Int)) = false := by simp; omega
                clear hjk' hBj
                go_wp2_with fail
                refine (known14_any wr).mono ?_
                rintro e w9 ⟨rfl, hB9⟩
                have HB9 := Lib.hid hB9
                clear hB9
                go_wp2_with fail
                exact EndK.out _ wr _ rfl rfl HBj.out HB9.out
end Go.Proofs.Ytkgkkbfpkgfcaaa
