/- RewriteRows, walked. -/
import Derived.Test.YtghihhjcoilmgaaW9
import Derived.Test.YtghihhjcoilmgaaW13
import Derived.Test.YtghihhjcoilmgaaW14
import Derived.Test.YtghihhjcoilmgaaOrdW
namespace Go.Proofs.Ytghihhjcoilmgaa
set_option maxRecDepth 100000
open Go.RowKit Go.Maps
set_option linter.unusedVariables false
set_option linter.unusedSimpArgs false
attribute [local go_sem] Oper.semAt_some

/-- all but boxes of ints stays -/
def KeepN (V V' : World) : Prop := ∀ (i : Nat) (o : Obj), V.heap[i]? = some o → (∀ cur fz, o ≠ Obj.cells cur 3 fz) → V'.heap[i]? = some o
theorem KeepN.below {V V' : World} (h : Below V.heap.size V V') : KeepN V V' := fun i o ho _ => (h.block i (lt_of_heap ho)).trans ho
theorem RunB.keepN {W V : World} {ib : Nat} {n : Int} {v : Value} (h : RunB W ib n V) (hb : W.heap[ib]? = some (.cells #[v] 3 (0, 0))) : KeepN W V := fun i o ho hn => by
  refine (h.low i (lt_of_heap ho) ?_).trans ho
  rintro rfl
  rw [ho] at hb
  injection hb with hb
  exact hn _ _ hb
theorem IsQ.keep {V V' : World} {pv : Value} {J : Jn} (h : IsQ V pv J) (k : KeepN V V') : IsQ V' pv J := by
  obtain ⟨h1, h2, h3⟩ := h
  refine ⟨h1, h2, ?_⟩
  rcases h3 with h3 | ⟨pb, mf, mc, f, c, e, hP, hI⟩
  · exact .inl h3
  · refine .inr ⟨pb, mf, mc, f, c, e, hP.obj fun i o ho hi => k i o ho fun cur fz e => ?_, hI⟩
    subst e
    obtain ⟨⟨_, _, of⟩, ⟨_, _, oc⟩⟩ := hP.objs
    rcases hi with rfl | rfl | rfl | ⟨cur, e⟩
    · have := hP.head; rw [ho] at this; injection this with this; injection this with _ e _; exact absurd e (by decide)
    · rw [ho] at of; cases of
    · rw [ho] at oc; cases oc
    · injection e with _ e _; exact absurd e (by decide)
theorem OwnRw.keep {base : Nat} {V V' : World} {v : Value} {L : List Rw3} (h : OwnRw base V v L) (k : KeepN V V') : OwnRw base V' v L := by
  refine ⟨h.1, ?_⟩
  rcases h.2 with h1 | ⟨g, cap, cur, h1, h2, h3, h4⟩
  · exact .inl h1
  · refine .inr ⟨g, cap, cur, h1, h2, k g _ h3 fun cur fz e => ?_, h4⟩
    injection e with _ e _
    exact absurd e (by decide)
/-- what the law has in memory -/
structure RwM (p : Option Addr) (J : Jn) (a b c x y z : Int) (all : List Rw3) (a8 : Option Addr) (nall cap8 rb ob ab vb1 rb1 vb2 rb2 : Nat) (V : World) : Prop where
  q : IsQ V (.pointer p) J
  rr : V.heap[rb]? = some (.cells #[.int .u32 a, .int .u32 b, .int .u32 c] 37 (0, 0))
  ro : V.heap[ob]? = some (.cells #[.int .u32 x, .int .u32 y, .int .u32 z] 37 (0, 0))
  ra : V.heap[ab]? = some (.cells #[.slice a8 nall cap8] 39 (0, 0))
  all : OwnRw 0 V (.slice a8 nall cap8) all
  f1p : V.heap[vb1]? = some (.cells #[.pointer p] 27 (0, 0))
  f1r : V.heap[rb1]? = some (.cells #[.int .u32 a, .int .u32 b, .int .u32 c] 37 (0, 0))
  f2p : V.heap[vb2]? = some (.cells #[.pointer p] 27 (0, 0))
  f2r : V.heap[rb2]? = some (.cells #[.int .u32 x, .int .u32 y, .int .u32 z] 37 (0, 0))
theorem RwM.keep {p : Option Addr} {J : Jn} {a b c x y z : Int} {all : List Rw3} {a8 : Option Addr} {nall cap8 rb ob ab vb1 rb1 vb2 rb2 : Nat} {V V' : World} (h : RwM p J a b c x y z all a8 nall cap8 rb ob ab vb1 rb1 vb2 rb2 V) (k : KeepN V V') : RwM p J a b c x y z all a8 nall cap8 rb ob ab vb1 rb1 vb2 rb2 V' := by
  have no : ∀ {cs : Array Value} {t : TypeId}, t ≠ 3 → ∀ cur fz, Obj.cells cs t (0, 0) ≠ Obj.cells cur 3 fz := fun ht cur fz e => by injection e with _ e _; exact ht e
  exact ⟨h.q.keep k, k _ _ h.rr (no (by decide)), k _ _ h.ro (no (by decide)), k _ _ h.ra (no (by decide)), h.all.keep k, k _ _ h.f1p (no (by decide)), k _ _ h.f1r (no (by decide)), k _ _ h.f2p (no (by decide)), k _ _ h.f2r (no (by decide))⟩
theorem pfx_at {α : Type} {pre L : List α} {x : α} (h : pre ++ [x] <+: L) : L[pre.length]? = some x := by
  obtain ⟨t, rfl⟩ := h
  simp
theorem ClL.move {J : Jn} {a x : Int} {L : List Int} (h : ClL J a L) (ha : a ≠ 0) (k : IsFst J a x) : ClL J x L := by
  refine ⟨fun e => absurd e (k.ne ha), fun _ => ?_⟩
  obtain ⟨h1, h2⟩ := h.2 ha
  exact ⟨h1, fun b => (h2 b).trans ⟨fun h => k.1.symm.trans h, fun h => k.1.trans h⟩⟩
theorem cl_some {J : Jn} {f : Int → Option Int} {c : Int → Option (List Int)} (hI : PInv J f c) (a : Int) : ∃ L, ClL J a L := by
  by_cases h0 : a = 0
  · exact ⟨[], fun _ => rfl, fun h => absurd h0 h⟩
  · obtain ⟨nd, hm⟩ := hI.list a
    exact ⟨_, fun h => absurd h h0, fun _ => srt_cl nd hm⟩
set_option maxRecDepth 100000 in
set_option maxHeartbeats 40000000 in
theorem rows_any (w : World) {la : Option Addr} {L0 : Jn} (hl : IsJ w la L0) (h32 : ∀ p ∈ L0, is32 p.1 ∧ is32 p.2) (hLl : L0.length ≤ maxLen) (lcap : Nat) {a b c : Int} (ha : is32 a) (hb : is32 b) (hc : is32 c) :
    Calls Try.prog 4 #[.slice la L0.length lcap, .agg #[.int .u32 a, .int .u32 b, .int .u32 c]] w fun e w' => e = .returned (.bool true) ∧ Below w.heap.size w w' := by
  obtain ⟨q1, q2, q3, q4⟩ := two_blocks w (.cells #[.int .u32 a, .int .u32 b, .int .u32 c] 37) (.cells #[.bool false] 4) _ rfl
  have Hl := Lib.hid hl; have H32 := Lib.hid h32; have Ha := Lib.hid ha; have Hb := Lib.hid hb; have Hc := Lib.hid hc
  obtain ⟨n, hn⟩ : ∃ n, L0.length = n := ⟨_, rfl⟩
  rw [hn] at hLl ⊢
  have Hn := Lib.hid hn
  obtain ⟨rb, hrb⟩ : ∃ rb, w.heap.size = rb := ⟨_, rfl⟩
  obtain ⟨rs, hrs⟩ : ∃ rs, w.heap.size + 1 = rs := ⟨_, rfl⟩
  rw [hrb] at q3
  rw [hrs] at q4
  have Q1 := Lib.hid q1; have Q2 := Lib.hid q2; have Q3 := Lib.hid q3; have Q4 := Lib.hid q4; have Hrb := Lib.hid hrb; have Hrs := Lib.hid hrs
  clear hl h32 ha hb hc q1 q2 q3 q4 hrb hrs hn
  simp only [maxLen] at hLl
  refine (callsIn_wide (n := 9)).1 ?_
  refine callsIn_of_wp_marks Try.func4 rfl trivial ?_ rfl
  refine wpIn_wide.2 ?_
  simp only [Try.ntmps4, List.size_toArray, List.length_cons, List.length_nil, Nat.reduceAdd, Nat.reduceSub, Array.replicate_succ, Array.replicate_zero, List.push_toArray, List.append_toArray, List.nil_append, List.cons_append]
  go_upto_region 1 with fail
  rw [Hrb.out, show rb + 1 = rs by rw [← Hrb.out, Hrs.out]]
  generalize (w.alloc (.cells #[.int .u32 a, .int .u32 b, .int .u32 c] 37)).alloc (.cells #[.bool false] 4) = W2 at *
  have endE : ∀ (a : Act) (Ds : List Nat) (W : World), a.defers = Ds.map markOf → a.tmps[4]?.getD undef = .pointer (some ⟨rs, 0, none⟩) → Ds.Nodup → (∀ D ∈ Ds, w.heap.size + 2 ≤ D ∧ W.heap[D]? = some (.deferred (some []))) →
      W.heap[rs]? = some (.cells #[.bool true] 4 (0, 0)) → Below w.heap.size w W → bodyPostM Fence.wide 9 Try.prog Try.f4 (fun e w' => e = .returned (.bool true) ∧ Below w.heap.size w w') .ret a W := by
    intro a Ds W hd ht hnd hds hr hb
    show LeavesInM Fence.wide 9 Try.prog Try.f4 a.tmps _ a.defers .returning W
    rw [hd]
    refine leaves_marks rs (w.heap.size + 2) (by have := Hrs.out; omega) (fun w' hx1 hx2 => ?_) (by omega) Ds W hnd hds hr hb
    refine ⟨.bool true, ?_, rfl, hx2⟩
    have hres : Try.f4.results = #[.cell 4 4] := rfl
    have cx := (box_at hx1 rfl).1
    simp only [results, hres]
    simp [go_sem, ht, cx]
  have EndE := Lib.hid endE
  clear endE
  have early : ∀ V : World, Below W2.heap.size W2 V → (V.cell? ⟨rs, 0, none⟩ = some (.bool false) ∧ V.frozen? ⟨rs, 0, none⟩ = false) ∧ (V.setCell ⟨rs, 0, none⟩ (.bool true)).heap[rs]? = some (.cells #[.bool true] 4 (0, 0)) ∧ Below w.heap.size w (V.setCell ⟨rs, 0, none⟩ (.bool true)) := fun V hV => by
    have h1 := (hV.block _ (lt_of_heap Q4.out)).trans Q4.out
    exact ⟨box_at h1 rfl, arr_set h1 0 _, (Q1.out.trans (hV.mono Q1.out.size)).setCell (by have := Hrs.out; simp; omega) _⟩
  have Early := Lib.hid early
  clear early
  obtain ⟨k0, k1, k2⟩ := row_cells Q3.out
  by_cases h12 : n > 12
  · have hd : decide ((n : Int) > 12) = true := by simp; omega
    have hd' : decide (12 < (n : Int)) = true := by simp; omega
    have hd2 : decide (12 < n) = true := by simp; omega
    go_wp2_with fail
    refine (known_any W2).mono ?_
    rintro e w5 ⟨rfl, hB5⟩
    have HB5 := Lib.hid hB5
    obtain ⟨cR, fR⟩ := (Early.out w5 hB5).1
    clear hB5
    go_wp2_with fail
    exact EndE.out _ [] _ rfl rfl (by simp) (by simp) (Early.out w5 HB5.out).2.1 (Early.out w5 HB5.out).2.2
  have hd : decide ((n : Int) > 12) = false := by simp; omega
  have hd' : decide (12 < (n : Int)) = false := by simp; omega
  have hd2 : decide (12 < n) = false := by simp; omega
  by_cases ha0 : a = 0
  · have hq : (a == 0) = true := by simp [ha0]
    clear ha0
    go_wp2_with fail
    refine (known_any W2).mono ?_
    rintro e w5 ⟨rfl, hB5⟩
    have HB5 := Lib.hid hB5
    obtain ⟨cR, fR⟩ := (Early.out w5 hB5).1
    clear hB5
    go_wp2_with fail
    exact EndE.out _ [] _ rfl rfl (by simp) (by simp) (Early.out w5 HB5.out).2.1 (Early.out w5 HB5.out).2.2
  have hqa : (a == 0) = false := by simp [ha0]
  by_cases hb0 : b = 0
  · have hq : (b == 0) = true := by simp [hb0]
    clear ha0 hb0
    go_wp2_with fail
    refine (known_any W2).mono ?_
    rintro e w5 ⟨rfl, hB5⟩
    have HB5 := Lib.hid hB5
    obtain ⟨cR, fR⟩ := (Early.out w5 hB5).1
    clear hB5
    go_wp2_with fail
    exact EndE.out _ [] _ rfl rfl (by simp) (by simp) (Early.out w5 HB5.out).2.1 (Early.out w5 HB5.out).2.2
  have hqb : (b == 0) = false := by simp [hb0]
  by_cases hc0 : c = 0
  · have hq : (c == 0) = true := by simp [hc0]
    clear ha0 hb0 hc0
    go_wp2_with fail
    refine (known_any W2).mono ?_
    rintro e w5 ⟨rfl, hB5⟩
    have HB5 := Lib.hid hB5
    obtain ⟨cR, fR⟩ := (Early.out w5 hB5).1
    clear hB5
    go_wp2_with fail
    exact EndE.out _ [] _ rfl rfl (by simp) (by simp) (Early.out w5 HB5.out).2.1 (Early.out w5 HB5.out).2.2
  have hqc : (c == 0) = false := by simp [hc0]
  have Ha0 := Lib.hid ha0; have Hb0 := Lib.hid hb0; have Hc0 := Lib.hid hc0
  clear ha0 hb0 hc0
  have hbg := begin_any (Hl.out.below Q1.out) H32.out (by have := Hn.out; omega) lcap
  rw [Hn.out] at hbg
  have Hbg := Lib.hid hbg
  clear hbg
  go_wp2_with fail
  refine Hbg.out.mono ?_
  rintro e w1 ⟨pb, mf, mc, f, c', v, J, rfl, hP, hI, hE, hJ32, hJl, hO, hB⟩
  obtain ⟨ja, jcap, rfl, hIJ⟩ := hO.j
  obtain ⟨LA, hA⟩ := cl_some hI a
  obtain ⟨LB, hBc⟩ := cl_some hI b
  obtain ⟨LC, hC⟩ := cl_some hI c
  have HQ1 := Lib.hid (isQ_of hP hI hJ32 (by omega)); have HIJ := Lib.hid hIJ; have HB1 := Lib.hid hB; have Hz := Lib.hid hE.nz; have HJ32 := Lib.hid hJ32
  have HA := Lib.hid hA; have HBc := Lib.hid hBc; have HC := Lib.hid hC
  obtain ⟨jn, hjn⟩ : ∃ jn, J.length = jn := ⟨_, rfl⟩
  rw [hjn] at hJl ⊢
  have Hjn := Lib.hid hjn
  have hrW : ∀ V : World, Below W2.heap.size W2 V → V.heap[rb]? = some (.cells #[.int .u32 a, .int .u32 b, .int .u32 c] 37 (0, 0)) := fun V hV => (hV.block rb (lt_of_heap Q3.out)).trans Q3.out
  have HrW := Lib.hid hrW
  clear hP hI hE hJ32 hO hIJ hB hA hBc hC hjn hrW k0 k1 k2 Hbg
  obtain ⟨k0, k1, k2⟩ := row_cells (HrW.out w1 HB1.out)
  have hown := own_any HQ1.out Ha.out Hb.out Hc.out
  have Hown := Lib.hid hown
  clear hown
  go_wp2_with fail
  refine Hown.out.mono ?_
  rintro e w4 ⟨x, y, z, rfl, ⟨hx, hy, hz⟩, hB4⟩
  have Hx := Lib.hid hx; have Hy := Lib.hid hy; have Hzz := Lib.hid hz
  have Hx32 := Lib.hid (hx.is32 HJ32.out Ha.out); have Hy32 := Lib.hid (hy.is32 HJ32.out Hb.out); have Hz32 := Lib.hid (hz.is32 HJ32.out Hc.out)
  have HA2 := Lib.hid (HA.out.move Ha0.out hx); have HB2_ := Lib.hid (HBc.out.move Hb0.out hy); have HC2 := Lib.hid (HC.out.move Hc0.out hz)
  have HB4 := Lib.hid hB4
  clear hx hy hz hB4 k0 k1 k2 Hown
  go_upto_region 5 with fail
  have hBa := (Below.refl w4.heap.size w4).alloc (Nat.le_refl _) (.cells #[.int .u32 x, .int .u32 y, .int .u32 z] 37)
  have hno := World.alloc_heap_new w4 (.cells #[.int .u32 x, .int .u32 y, .int .u32 z] 37)
  obtain ⟨ob, hob⟩ : ∃ ob, w4.heap.size = ob := ⟨_, rfl⟩
  generalize w4.alloc (.cells #[.int .u32 x, .int .u32 y, .int .u32 z] 37) = w5 at *
  rw [hob] at hno ⊢
  have hB15 : Below w1.heap.size w1 w5 := HB4.out.trans (hBa.mono HB4.out.size)
  have HB15 := Lib.hid hB15; have HB5 := Lib.hid (HB1.out.trans (hB15.mono HB1.out.size)); have Hno := Lib.hid hno
  clear hBa hno hob hB15 HB4
  obtain ⟨k0, k1, k2⟩ := row_cells (HrW.out w5 HB5.out)
  have hex := expandR_any (HIJ.out.below HB15.out) jcap (by rw [Hjn.out]; omega) Hz.out HA.out HBc.out HC.out
  rw [Hjn.out] at hex
  have Hex := Lib.hid hex
  clear hex
  go_wp2_with fail
  refine Hex.out.mono ?_
  rintro e w6 ⟨v8, rfl, hO8, hB6⟩
  obtain ⟨a8, cap8, rfl, hl8⟩ := hO8.form
  obtain ⟨nall, hnall⟩ : ∃ nall, (prod3 LA LB LC).length = nall := ⟨_, rfl⟩
  rw [hnall] at hO8 hl8 ⊢
  simp only [maxLen] at hl8
  have HO8 := Lib.hid hO8; have HB6 := Lib.hid hB6; have Hnall := Lib.hid hnall
  clear hO8 hB6 hnall k0 k1 k2 Hex
  go_upto_region 6 with fail
  have hBa := (Below.refl w6.heap.size w6).alloc (Nat.le_refl _) (.cells #[.slice a8 nall cap8] 39)
  have hna := World.alloc_heap_new w6 (.cells #[.slice a8 nall cap8] 39)
  obtain ⟨ab, hab⟩ : ∃ ab, w6.heap.size = ab := ⟨_, rfl⟩
  generalize w6.alloc (.cells #[.slice a8 nall cap8] 39) = w7 at *
  rw [hab] at hna ⊢
  have hB57 : Below w5.heap.size w5 w7 := HB6.out.trans (hBa.mono HB6.out.size)
  have HB57 := Lib.hid hB57; have HB7 := Lib.hid (HB5.out.trans (hB57.mono HB5.out.size)); have Hna := Lib.hid hna; have HO7 := Lib.hid (HO8.out.below hBa)
  have HB17 := Lib.hid (HB15.out.trans (hB57.mono HB15.out.size))
  have Hno7 := Lib.hid ((hB57.block ob (lt_of_heap Hno.out)).trans Hno.out)
  clear hBa hna hab hB57 HO8 HB6
  obtain ⟨r0, r1, r2⟩ := row_cells (HrW.out w7 HB7.out)
  obtain ⟨o0, o1, o2⟩ := row_cells Hno7.out
  have sa := (box_at Hna.out rfl).1
  have heo := eqRw_same x y z
  have hJ7 : IsJ w7.drew ja J := HIJ.out.below HB17.out.drew
  have hQ7 : IsQ w7.drew (.pointer (some ⟨pb, 0, none⟩)) J := HQ1.out.below HB17.out.drew
  have HJ7 := Lib.hid hJ7; have HQ7 := Lib.hid hQ7
  clear hJ7 hQ7
  have o0 : w7.drew.cell? ⟨ob, 0, none⟩ = some (.int .u32 x) := o0
  have o1 : w7.drew.cell? ⟨ob, 1, none⟩ = some (.int .u32 y) := o1
  have o2 : w7.drew.cell? ⟨ob, 2, none⟩ = some (.int .u32 z) := o2
  have r0 : w7.drew.cell? ⟨rb, 0, none⟩ = some (.int .u32 a) := r0
  have r1 : w7.drew.cell? ⟨rb, 1, none⟩ = some (.int .u32 b) := r1
  have r2 : w7.drew.cell? ⟨rb, 2, none⟩ = some (.int .u32 c) := r2
  have sa : w7.drew.cell? ⟨ab, 0, none⟩ = some (.slice a8 nall cap8) := sa
  obtain ⟨S6, hSe⟩ : ∃ S : Array Bool → World → Prop, S = fun _ w' => Below w7.drew.heap.size w7.drew w' := ⟨_, rfl⟩
  have hdrop : ∀ i : Nat, ∀ L w', S6 (L.setIfInBounds i true) w' → S6 L w' := by
    intro i L w' h; rw [hSe] at h ⊢; exact h
  have hS : ∀ L, S6 L w7.drew := by intro L; rw [hSe]; exact Below.refl _ _
  have hSo : ∀ {L w'}, S6 L w' → Below w7.drew.heap.size w7.drew w' := by intro L w' h; rw [hSe] at h; exact h
  have hSi : ∀ {w'}, Below w7.drew.heap.size w7.drew w' → ∀ L, S6 L w' := by intro w' h L; rw [hSe]; exact h
  clear hSe
  refine wp_region_LN S6 20 #[false, false, false, false, false, false, false, false, false, false, false, false, false, false, false, false, false, false, false, false] (by kernel_rfl) (by kernel_rfl) rfl ?_
  obtain ⟨X6, hX6⟩ : ∃ X6, X6 = w7.drew := ⟨_, rfl⟩
  rw [← hX6] at o0 o1 o2 r0 r1 r2 sa hSo hS hSi ⊢
  have HX6 := Lib.hid hX6
  clear hX6
  refine WA.take (i := 0) (v := .agg #[.int .u32 x, .int .u32 y, .int .u32 z]) rfl (by kernel_rfl) (by kernel_rfl) (by kernel_rfl) (fun _ _ _ h => h) (hdrop 0) (Or.inl ⟨by rfl, ?_⟩) (hS _) ?_
  · rintro w' ⟨L, hL, hSw, hun⟩
    have hbw := hSo hSw
    have o0 := cell_later hbw o0
    have o1 := cell_later hbw o1
    have o2 := cell_later hbw o2
    clear hbw
    go_simp
  simp only [List.getElem_toArray, List.getElem_cons_zero, List.getElem_cons_succ, Act.put, List.setIfInBounds_toArray, List.set_cons_zero, List.set_cons_succ]
  refine WA.take (i := 1) (v := .slice ja jn jcap) rfl (by kernel_rfl) (by kernel_rfl) (by kernel_rfl) (fun _ _ _ h => h) (hdrop 1) (Or.inl ⟨by rfl, ?_⟩) (hS _) ?_
  · rintro w' ⟨L, hL, hSw, hun⟩
    go_simp
  simp only [List.getElem_toArray, List.getElem_cons_zero, List.getElem_cons_succ, Act.put, List.setIfInBounds_toArray, List.set_cons_zero, List.set_cons_succ]
  refine WA.take (i := 2) (v := .agg #[.int .u32 a, .int .u32 b, .int .u32 c]) rfl (by kernel_rfl) (by kernel_rfl) (by kernel_rfl) (fun _ _ _ h => h) (hdrop 2) (Or.inl ⟨by rfl, ?_⟩) (hS _) ?_
  · rintro w' ⟨L, hL, hSw, hun⟩
    have hbw := hSo hSw
    have r0 := cell_later hbw r0
    have r1 := cell_later hbw r1
    have r2 := cell_later hbw r2
    clear hbw
    go_simp
  simp only [List.getElem_toArray, List.getElem_cons_zero, List.getElem_cons_succ, Act.put, List.setIfInBounds_toArray, List.set_cons_zero, List.set_cons_succ]
  refine WA.one (i := 3) (by kernel_rfl) rfl (by rfl) (fun K hK => ?_)
  go_simp
  have hc3 := ownR_any (w := X6) (by rw [HX6.out]; exact HJ7.out) jcap (by rw [Hjn.out]; omega) Hz.out a b c
  rw [Hjn.out] at hc3
  refine hc3.mono ?_
  rintro e w3 ⟨x', y', z', rfl, ⟨hx, hy, hz⟩, hB_⟩
  have HB3_ := Lib.hid hB_
  have HB3a := Lib.hid (HB3_.out)
  clear hB_ hc3
  obtain rfl := (hx.unique Hx.out).symm
  obtain rfl := (hy.unique Hy.out).symm
  obtain rfl := (hz.unique Hzz.out).symm
  clear hx hy hz
  refine hK _ _ (hSi HB3a.out _) ?_
  clear hK
  try simp only [List.getElem_toArray, List.getElem_cons_zero, List.getElem_cons_succ, Act.put, List.setIfInBounds_toArray, List.set_cons_zero, List.set_cons_succ]
  refine WA.take (i := 4) (v := .bool false) rfl (by kernel_rfl) (by kernel_rfl) (by kernel_rfl) (fun _ _ _ h => h) (hdrop 4) (Or.inl ⟨by rfl, ?_⟩) (hSi HB3a.out _) ?_
  · rintro w' ⟨L, hL, hSw, hun⟩
    go_simp
  simp only [List.getElem_toArray, List.getElem_cons_zero, List.getElem_cons_succ, Act.put, List.setIfInBounds_toArray, List.set_cons_zero, List.set_cons_succ]
  refine WA.take (i := 5) (v := .bool false) rfl (by kernel_rfl) (by kernel_rfl) (by kernel_rfl) (fun _ _ _ h => h) (hdrop 5) (Or.inl ⟨by rfl, ?_⟩) (hSi HB3a.out _) ?_
  · rintro w' ⟨L, hL, hSw, hun⟩
    go_simp
  simp only [List.getElem_toArray, List.getElem_cons_zero, List.getElem_cons_succ, Act.put, List.setIfInBounds_toArray, List.set_cons_zero, List.set_cons_succ]
  refine WA.take (i := 6) (v := .pointer (some ⟨pb, 0, none⟩)) rfl (by kernel_rfl) (by kernel_rfl) (by kernel_rfl) (fun _ _ _ h => h) (hdrop 6) (Or.inl ⟨by rfl, ?_⟩) (hSi HB3a.out _) ?_
  · rintro w' ⟨L, hL, hSw, hun⟩
    go_simp
  simp only [List.getElem_toArray, List.getElem_cons_zero, List.getElem_cons_succ, Act.put, List.setIfInBounds_toArray, List.set_cons_zero, List.set_cons_succ]
  refine WA.take (i := 7) (v := .agg #[.int .u32 x, .int .u32 y, .int .u32 z]) rfl (by kernel_rfl) (by kernel_rfl) (by kernel_rfl) (fun _ _ _ h => h) (hdrop 7) (Or.inl ⟨by rfl, ?_⟩) (hSi HB3a.out _) ?_
  · rintro w' ⟨L, hL, hSw, hun⟩
    have hbw := hSo hSw
    have o0 := cell_later hbw o0
    have o1 := cell_later hbw o1
    have o2 := cell_later hbw o2
    clear hbw
    go_simp
  simp only [List.getElem_toArray, List.getElem_cons_zero, List.getElem_cons_succ, Act.put, List.setIfInBounds_toArray, List.set_cons_zero, List.set_cons_succ]
  refine WA.take (i := 9) (v := .agg #[.int .u32 x, .int .u32 y, .int .u32 z]) rfl (by kernel_rfl) (by kernel_rfl) (by kernel_rfl) (fun _ _ _ h => h) (hdrop 9) (Or.inl ⟨by rfl, ?_⟩) (hSi HB3a.out _) ?_
  · rintro w' ⟨L, hL, hSw, hun⟩
    have hbw := hSo hSw
    have o0 := cell_later hbw o0
    have o1 := cell_later hbw o1
    have o2 := cell_later hbw o2
    clear hbw
    go_simp
  simp only [List.getElem_toArray, List.getElem_cons_zero, List.getElem_cons_succ, Act.put, List.setIfInBounds_toArray, List.set_cons_zero, List.set_cons_succ]
  refine WA.one (i := 8) (by kernel_rfl) rfl (by rfl) (fun K hK => ?_)
  go_simp
  have hc8 := own_any (w := w3) (IsQ.below (by rw [HX6.out]; exact HQ7.out) HB3a.out) Hx32.out Hy32.out Hz32.out
  refine hc8.mono ?_
  rintro e w8 ⟨x', y', z', rfl, ⟨hx, hy, hz⟩, hB_⟩
  have HB8_ := Lib.hid hB_
  have HB8a := Lib.hid (HB3a.out.trans (HB8_.out.mono HB3a.out.size))
  clear hB_ hc8
  obtain rfl := (hx.unique Hx.out.again).symm
  obtain rfl := (hy.unique Hy.out.again).symm
  obtain rfl := (hz.unique Hzz.out.again).symm
  clear hx hy hz
  refine hK _ _ (hSi HB8a.out _) ?_
  clear hK
  try simp only [List.getElem_toArray, List.getElem_cons_zero, List.getElem_cons_succ, Act.put, List.setIfInBounds_toArray, List.set_cons_zero, List.set_cons_succ]
  refine WA.take (i := 10) (v := .bool false) rfl (by kernel_rfl) (by kernel_rfl) (by kernel_rfl) (fun _ _ _ h => h) (hdrop 10) (Or.inl ⟨by rfl, ?_⟩) (hSi HB8a.out _) ?_
  · rintro w' ⟨L, hL, hSw, hun⟩
    go_simp
  simp only [List.getElem_toArray, List.getElem_cons_zero, List.getElem_cons_succ, Act.put, List.setIfInBounds_toArray, List.set_cons_zero, List.set_cons_succ]
  refine WA.take (i := 11) (v := .bool false) rfl (by kernel_rfl) (by kernel_rfl) (by kernel_rfl) (fun _ _ _ h => h) (hdrop 11) (Or.inl ⟨by rfl, ?_⟩) (hSi HB8a.out _) ?_
  · rintro w' ⟨L, hL, hSw, hun⟩
    go_simp
  simp only [List.getElem_toArray, List.getElem_cons_zero, List.getElem_cons_succ, Act.put, List.setIfInBounds_toArray, List.set_cons_zero, List.set_cons_succ]
  refine WA.take (i := 12) (v := .bool false) rfl (by kernel_rfl) (by kernel_rfl) (by kernel_rfl) (fun _ _ _ h => h) (hdrop 12) (Or.inl ⟨by rfl, ?_⟩) (hSi HB8a.out _) ?_
  · rintro w' ⟨L, hL, hSw, hun⟩
    go_simp
  simp only [List.getElem_toArray, List.getElem_cons_zero, List.getElem_cons_succ, Act.put, List.setIfInBounds_toArray, List.set_cons_zero, List.set_cons_succ]
  refine WA.take (i := 13) (v := .pointer (some ⟨pb, 0, none⟩)) rfl (by kernel_rfl) (by kernel_rfl) (by kernel_rfl) (fun _ _ _ h => h) (hdrop 13) (Or.inl ⟨by rfl, ?_⟩) (hSi HB8a.out _) ?_
  · rintro w' ⟨L, hL, hSw, hun⟩
    go_simp
  simp only [List.getElem_toArray, List.getElem_cons_zero, List.getElem_cons_succ, Act.put, List.setIfInBounds_toArray, List.set_cons_zero, List.set_cons_succ]
  refine WA.take (i := 14) (v := .agg #[.int .u32 a, .int .u32 b, .int .u32 c]) rfl (by kernel_rfl) (by kernel_rfl) (by kernel_rfl) (fun _ _ _ h => h) (hdrop 14) (Or.inl ⟨by rfl, ?_⟩) (hSi HB8a.out _) ?_
  · rintro w' ⟨L, hL, hSw, hun⟩
    have hbw := hSo hSw
    have r0 := cell_later hbw r0
    have r1 := cell_later hbw r1
    have r2 := cell_later hbw r2
    clear hbw
    go_simp
  simp only [List.getElem_toArray, List.getElem_cons_zero, List.getElem_cons_succ, Act.put, List.setIfInBounds_toArray, List.set_cons_zero, List.set_cons_succ]
  refine WA.take (i := 16) (v := .slice a8 nall cap8) rfl (by kernel_rfl) (by kernel_rfl) (by kernel_rfl) (fun _ _ _ h => h) (hdrop 16) (Or.inl ⟨by rfl, ?_⟩) (hSi HB8a.out _) ?_
  · rintro w' ⟨L, hL, hSw, hun⟩
    have hbw := hSo hSw
    have sa := cell_later hbw sa
    clear hbw
    go_simp
  simp only [List.getElem_toArray, List.getElem_cons_zero, List.getElem_cons_succ, Act.put, List.setIfInBounds_toArray, List.set_cons_zero, List.set_cons_succ]
  refine WA.take (i := 17) (v := .int .i64 ((nall : Nat) : Int)) rfl (by kernel_rfl) (by kernel_rfl) (by kernel_rfl) (fun _ _ _ h => h) (hdrop 17) (Or.inl ⟨by rfl, ?_⟩) (hSi HB8a.out _) ?_
  · rintro w' ⟨L, hL, hSw, hun⟩
    go_simp
  simp only [List.getElem_toArray, List.getElem_cons_zero, List.getElem_cons_succ, Act.put, List.setIfInBounds_toArray, List.set_cons_zero, List.set_cons_succ]
  refine WA.one (i := 15) (by kernel_rfl) rfl (by rfl) (fun K hK => ?_)
  go_simp
  have hc15 := many_any (w := w8) (IsQ.below (by rw [HX6.out]; exact HQ7.out) HB8a.out) Ha.out Hb.out Hc.out HA.out HBc.out HC.out
  rw [← prod3_len, Hnall.out] at hc15
  refine hc15.mono ?_
  rintro e w15 ⟨rfl, hB_⟩
  have HB15_ := Lib.hid hB_
  have HB15a := Lib.hid (HB8a.out.trans (HB15_.out.mono HB8a.out.size))
  clear hB_ hc15
  refine hK _ _ (hSi HB15a.out _) ?_
  clear hK
  try simp only [List.getElem_toArray, List.getElem_cons_zero, List.getElem_cons_succ, Act.put, List.setIfInBounds_toArray, List.set_cons_zero, List.set_cons_succ]
  refine WA.take (i := 18) (v := .bool false) rfl (by kernel_rfl) (by kernel_rfl) (by kernel_rfl) (fun _ _ _ h => h) (hdrop 18) (Or.inl ⟨by rfl, ?_⟩) (hSi HB15a.out _) ?_
  · rintro w' ⟨L, hL, hSw, hun⟩
    go_simp
  simp only [List.getElem_toArray, List.getElem_cons_zero, List.getElem_cons_succ, Act.put, List.setIfInBounds_toArray, List.set_cons_zero, List.set_cons_succ]
  refine WA.take (i := 19) (v := .bool false) rfl (by kernel_rfl) (by kernel_rfl) (by kernel_rfl) (fun _ _ _ h => h) (hdrop 19) (Or.inl ⟨by rfl, ?_⟩) (hSi HB15a.out _) ?_
  · rintro w' ⟨L, hL, hSw, hun⟩
    go_simp
  simp only [List.getElem_toArray, List.getElem_cons_zero, List.getElem_cons_succ, Act.put, List.setIfInBounds_toArray, List.set_cons_zero, List.set_cons_succ]
  refine WA.done (by kernel_rfl) ?_ _
  refine Nrm.normal ?_
  clear hSo hS hSi hdrop o0 o1 o2 r0 r1 r2 sa
  clear S6
  have HBX := Lib.hid (show Below w7.heap.size w7 w15 from by
    have h1 : Below w7.heap.size w7 X6 := by rw [HX6.out]; exact (Below.refl _ _).drew
    exact h1.trans (HB15a.out.mono h1.size))
  go_wp2_with fail
  obtain ⟨r0, r1, r2⟩ := row_cells (HrW.out w15 (HB7.out.trans (HBX.out.mono HB7.out.size)))
  obtain ⟨o0, o1, o2⟩ := row_cells ((HBX.out.block ob (lt_of_heap Hno7.out)).trans Hno7.out)
  have o0 : w15.drew.cell? ⟨ob, 0, none⟩ = some (.int .u32 x) := o0
  have o1 : w15.drew.cell? ⟨ob, 1, none⟩ = some (.int .u32 y) := o1
  have o2 : w15.drew.cell? ⟨ob, 2, none⟩ = some (.int .u32 z) := o2
  have r0 : w15.drew.cell? ⟨rb, 0, none⟩ = some (.int .u32 a) := r0
  have r1 : w15.drew.cell? ⟨rb, 1, none⟩ = some (.int .u32 b) := r1
  have r2 : w15.drew.cell? ⟨rb, 2, none⟩ = some (.int .u32 c) := r2
  obtain ⟨S8, hSe⟩ : ∃ S : Array Bool → World → Prop, S = fun _ w' => Below w15.drew.heap.size w15.drew w' := ⟨_, rfl⟩
  have hdrop : ∀ i : Nat, ∀ L w', S8 (L.setIfInBounds i true) w' → S8 L w' := by
    intro i L w' h; rw [hSe] at h ⊢; exact h
  have hS : ∀ L, S8 L w15.drew := by intro L; rw [hSe]; exact Below.refl _ _
  have hSo : ∀ {L w'}, S8 L w' → Below w15.drew.heap.size w15.drew w' := by intro L w' h; rw [hSe] at h; exact h
  have hSi : ∀ {w'}, Below w15.drew.heap.size w15.drew w' → ∀ L, S8 L w' := by intro w' h L; rw [hSe]; exact h
  clear hSe
  refine wp_region_LN S8 8 #[false, false, false, false, false, false, false, false] (by kernel_rfl) (by kernel_rfl) rfl ?_
  obtain ⟨X8, hX8⟩ : ∃ X8, X8 = w15.drew := ⟨_, rfl⟩
  rw [← hX8] at o0 o1 o2 r0 r1 r2 hSo hS hSi ⊢
  have HX8 := Lib.hid hX8
  clear hX8
  refine WA.take (i := 0) (v := .pointer (some ⟨pb, 0, none⟩)) rfl (by kernel_rfl) (by kernel_rfl) (by kernel_rfl) (fun _ _ _ h => h) (hdrop 0) (Or.inl ⟨by rfl, ?_⟩) (hS _) ?_
  · rintro w' ⟨L, hL, hSw, hun⟩
    go_simp
  simp only [List.getElem_toArray, List.getElem_cons_zero, List.getElem_cons_succ, Act.put, List.setIfInBounds_toArray, List.set_cons_zero, List.set_cons_succ]
  refine WA.take (i := 1) (v := .agg #[.int .u32 a, .int .u32 b, .int .u32 c]) rfl (by kernel_rfl) (by kernel_rfl) (by kernel_rfl) (fun _ _ _ h => h) (hdrop 1) (Or.inl ⟨by rfl, ?_⟩) (hS _) ?_
  · rintro w' ⟨L, hL, hSw, hun⟩
    have hbw := hSo hSw
    have r0 := cell_later hbw r0
    have r1 := cell_later hbw r1
    have r2 := cell_later hbw r2
    clear hbw
    go_simp
  simp only [List.getElem_toArray, List.getElem_cons_zero, List.getElem_cons_succ, Act.put, List.setIfInBounds_toArray, List.set_cons_zero, List.set_cons_succ]
  refine WA.take (i := 3) (v := .pointer (some ⟨pb, 0, none⟩)) rfl (by kernel_rfl) (by kernel_rfl) (by kernel_rfl) (fun _ _ _ h => h) (hdrop 3) (Or.inl ⟨by rfl, ?_⟩) (hS _) ?_
  · rintro w' ⟨L, hL, hSw, hun⟩
    go_simp
  simp only [List.getElem_toArray, List.getElem_cons_zero, List.getElem_cons_succ, Act.put, List.setIfInBounds_toArray, List.set_cons_zero, List.set_cons_succ]
  refine WA.take (i := 4) (v := .agg #[.int .u32 x, .int .u32 y, .int .u32 z]) rfl (by kernel_rfl) (by kernel_rfl) (by kernel_rfl) (fun _ _ _ h => h) (hdrop 4) (Or.inl ⟨by rfl, ?_⟩) (hS _) ?_
  · rintro w' ⟨L, hL, hSw, hun⟩
    have hbw := hSo hSw
    have o0 := cell_later hbw o0
    have o1 := cell_later hbw o1
    have o2 := cell_later hbw o2
    clear hbw
    go_simp
  simp only [List.getElem_toArray, List.getElem_cons_zero, List.getElem_cons_succ, Act.put, List.setIfInBounds_toArray, List.set_cons_zero, List.set_cons_succ]
  refine WA.one (i := 2) (by kernel_rfl) rfl (by rfl) (fun K hK => ?_)
  go_simp
  refine (expand_any X8 (some ⟨pb, 0, none⟩) a b c).mono ?_
  rintro e wf1 ⟨rfl, hp_, hr_, hz_, hB_⟩
  have Hf1p := Lib.hid hp_; have Hf1r := Lib.hid hr_; have HBf1 := Lib.hid hB_
  clear hp_ hr_ hB_ hz_
  refine hK _ _ (hSi HBf1.out _) ?_
  clear hK
  try simp only [List.getElem_toArray, List.getElem_cons_zero, List.getElem_cons_succ, Act.put, List.setIfInBounds_toArray, List.set_cons_zero, List.set_cons_succ]
  refine WA.one (i := 5) (by kernel_rfl) rfl (by rfl) (fun K hK => ?_)
  go_simp
  refine (expand_any wf1 (some ⟨pb, 0, none⟩) x y z).mono ?_
  rintro e wf2 ⟨rfl, hp_, hr_, hz_, hB_⟩
  have Hf2p := Lib.hid hp_; have Hf2r := Lib.hid hr_; have HBf12 := Lib.hid hB_; have HBf2 := Lib.hid (HBf1.out.trans (hB_.mono HBf1.out.size))
  clear hp_ hr_ hB_ hz_
  refine hK _ _ (hSi HBf2.out _) ?_
  clear hK
  try simp only [List.getElem_toArray, List.getElem_cons_zero, List.getElem_cons_succ, Act.put, List.setIfInBounds_toArray, List.set_cons_zero, List.set_cons_succ]
  refine WA.take (i := 6) (v := .func (.func 33) #[] #[.pointer (some ⟨X8.heap.size, 0, none⟩), .pointer (some ⟨X8.heap.size + 1, 0, none⟩)]) rfl (by kernel_rfl) (by kernel_rfl) (by kernel_rfl) (fun _ _ _ h => h) (hdrop 6) (Or.inl ⟨by rfl, ?_⟩) (hSi HBf2.out _) ?_
  · rintro w' ⟨L, hL, hSw, hun⟩
    go_simp
  simp only [List.getElem_toArray, List.getElem_cons_zero, List.getElem_cons_succ, Act.put, List.setIfInBounds_toArray, List.set_cons_zero, List.set_cons_succ]
  refine WA.take (i := 7) (v := .func (.func 33) #[] #[.pointer (some ⟨wf1.heap.size, 0, none⟩), .pointer (some ⟨wf1.heap.size + 1, 0, none⟩)]) rfl (by kernel_rfl) (by kernel_rfl) (by kernel_rfl) (fun _ _ _ h => h) (hdrop 7) (Or.inl ⟨by rfl, ?_⟩) (hSi HBf2.out _) ?_
  · rintro w' ⟨L, hL, hSw, hun⟩
    go_simp
  simp only [List.getElem_toArray, List.getElem_cons_zero, List.getElem_cons_succ, Act.put, List.setIfInBounds_toArray, List.set_cons_zero, List.set_cons_succ]
  refine WA.done (by kernel_rfl) ?_ _
  refine Nrm.normal ?_
  clear hSo hS hSi hdrop o0 o1 o2 r0 r1 r2
  clear S8
  have hBY : Below w7.heap.size w7 wf2 := by
    have h1 : Below w7.heap.size w7 X8 := by rw [HX8.out]; exact HBX.out.drew
    exact h1.trans (HBf2.out.mono h1.size)
  obtain ⟨vb1, hvb1⟩ : ∃ vb1, X8.heap.size = vb1 := ⟨_, rfl⟩
  obtain ⟨vb2, hvb2⟩ : ∃ vb2, wf1.heap.size = vb2 := ⟨_, rfl⟩
  have hf1p := Hf1p.out; have hf1r := Hf1r.out; have hf2p := Hf2p.out; have hf2r := Hf2r.out
  rw [hvb1] at hf1p hf1r
  rw [hvb2] at hf2p hf2r
  rw [hvb1, hvb2]
  have hM8 : RwM (some ⟨pb, 0, none⟩) J a b c x y z (prod3 LA LB LC) a8 nall cap8 rb ob ab vb1 (vb1 + 1) vb2 (vb2 + 1) wf2 :=
    ⟨HQ1.out.below (HB17.out.trans (hBY.mono HB17.out.size)), HrW.out _ (HB7.out.trans (hBY.mono HB7.out.size)), (hBY.block ob (lt_of_heap Hno7.out)).trans Hno7.out, (hBY.block ab (lt_of_heap Hna.out)).trans Hna.out, (HO7.out.below hBY).mono (Nat.zero_le _),
      (HBf12.out.block _ (lt_of_heap hf1p)).trans hf1p, (HBf12.out.block _ (lt_of_heap hf1r)).trans hf1r, hf2p, hf2r⟩
  have HM8 := Lib.hid hM8; have HB8 := Lib.hid (HB7.out.trans (hBY.mono HB7.out.size))
  have hfe1 : ∀ W, (binOp .eql 44 (.func (.func 33) #[] #[.pointer (some ⟨vb1, 0, none⟩), .pointer (some ⟨vb1 + 1, 0, none⟩)]) .nilFunc).run Try.prog W = .ok (.bool false) W := fun W => by rfl
  have hfe2 : ∀ W, (binOp .eql 44 (.func (.func 33) #[] #[.pointer (some ⟨vb2, 0, none⟩), .pointer (some ⟨vb2 + 1, 0, none⟩)]) .nilFunc).run Try.prog W = .ok (.bool false) W := fun W => by rfl
  have hne : ([] : List Rw3) ≠ prod3 LA LB LC := fun e => by
    have h1 := (HA.out.2 Ha0.out).self
    have h2 := (HBc.out.2 Hb0.out).self
    have h3 := (HC.out.2 Hc0.out).self
    have h4 : (prod3 LA LB LC).length = 0 := by rw [← e]; rfl
    rw [prod3_len] at h4
    have := Nat.mul_pos (Nat.mul_pos (List.length_pos_of_mem h1) (List.length_pos_of_mem h2)) (List.length_pos_of_mem h3)
    omega
  have Hne := Lib.hid hne
  clear hM8 hBY hvb1 hvb2 hf1p hf1r hf2p hf2r hne HO7 Hno7 Hna HBX Hf1p Hf1r Hf2p Hf2r HBf1 HBf2 HBf12 heo
  go_upto_region 12 with fail
  have hBi := (Below.refl wf2.heap.size wf2).alloc (Nat.le_refl _) (.cells #[.int .i64 0] 3)
  have hnew := World.alloc_heap_new wf2 (.cells #[.int .i64 0] 3)
  have hszn : (wf2.alloc (.cells #[.int .i64 0] 3)).heap.size = wf2.heap.size + 1 := by simp
  obtain ⟨ib1, hib⟩ : ∃ ib, wf2.heap.size = ib := ⟨_, rfl⟩
  generalize wf2.alloc (.cells #[.int .i64 0] 3) = wo1 at *
  rw [hib] at hnew hszn ⊢
  have HM1 := Lib.hid (HM8.out.keep (KeepN.below hBi)); have HB1_ := Lib.hid (HB8.out.trans (hBi.mono HB8.out.size)); have HI1 := Lib.hid hnew
  have Hlt1 := Lib.hid (show ib1 < wo1.heap.size by omega); have Hge1 := Lib.hid (show W2.heap.size ≤ ib1 by have := HB8.out.size; omega)
  have hseq := expand1_seq (B := ib1) (ib := ib1) (wt := wo1) HM1.out.f1p HM1.out.f1r HM1.out.q Ha.out Hb.out Hc.out HA.out HBc.out HC.out
  have Hseq1 := Lib.hid hseq
  clear hseq hBi hnew hszn hib hfe1 hfe2
  go_upto_block 0 with fail
  refine (wpIn_wide (n := 9)).1 ?_
  refine wpIn_block (wpIn_rangeFunc_Z2 (w := wo1) (wt := wo1) rfl (enters_of Try.func33 (by kernel_rfl) rfl) Hseq1.out (by have := Hlt1.out; omega) (Below.refl _ _) (fun _ => rfl) KpI.t
    (fun V l o o' hl ho hc => KpI.b (by have := Hlt1.out; omega) V l o o' hl ho hc) (fun A B h => KpI.below h)
    (fun pre V => RunB wo1 ib1 (pre.length : Nat) V) (fun _ _ _ => False) (fun pre A B h hg => h.grow hg) (fun pre V l o o' h hw hl hc => h.put hw o') (fun _ _ _ _ _ _ h _ _ _ => h.elim)
    ⟨Nat.le_refl _, rfl, rfl, rfl, fun i _ _ => rfl, Hlt1.out, HI1.out⟩
    (RowA 79 12) (fun t x fr V l o o' h hw hl hc => h.put o' hl hc) ?assign1 ?body1 ?fin1 ?stop1)
  case stop1 => rintro D id pre V _ _ h _; exact h.elim
  case assign1 =>
    rintro lnn ⟨x0, x1, x2⟩ V K hV2 hK
    have HK := Lib.hid hK
    clear hK
    simp only [rw3]
    gi_wp2
    exact HK.out _ _ ((Below.refl _ V).alloc (Nat.le_refl _) _) ⟨V.heap.size, rfl, World.alloc_heap_new _ _⟩
  case body1 =>
    rintro lnn pre ⟨x0, x1, x2⟩ fr V hR hpx ⟨nb, rfl, hnb⟩ hV2
    simp only [rw3]
    obtain ⟨n0, n1, n2⟩ := row_cells hnb
    have hM := HM1.out.keep (hR.keepN HI1.out)
    obtain ⟨pl, hpl⟩ : ∃ pl, pre.length = pl := ⟨_, rfl⟩
    have hat : pl < nall ∧ (prod3 LA LB LC)[pl]? = some (x0, x1, x2) := by
      have h1 := pfx_at hpx
      rw [hpl] at h1
      exact ⟨by rw [← Hnall.out]; exact (List.getElem?_eq_some_iff.1 h1).1, h1⟩
    obtain ⟨hpln, hax⟩ := hat
    obtain ⟨hpl2, hax2⟩ := List.getElem?_eq_some_iff.1 hax
    obtain ⟨ga, e8, m0, m1, m2⟩ := hM.all.at (j := pl) hpl2
    subst e8
    rw [hax2] at m0 m1 m2
    simp only at m0 m1 m2
    have ca := (box_at hM.ra rfl).1
    have he := eqRw_same x0 x1 x2
    have hbx := hR.box
    obtain ⟨cI, fI⟩ := box_at hbx rfl
    rw [hpl] at cI
    have hge : decide ((pl : Int) ≥ (nall : Int)) = false := by simp; omega
    have hge' : decide ((nall : Int) ≤ (pl : Int)) = false := by simp; omega
    have hge2 : decide (nall ≤ pl) = false := by simp; omega
    have HR := Lib.hid hR; have Hpl := Lib.hid hpl; have Hnb := Lib.hid (lt_of_heap hnb)
    clear hR hpx hnb hbx hM hax hax2 hpl2 hpl
    gi_wp2_with fail
    have cI : V.drew.cell? ⟨ib1, 0, none⟩ = some (.int .i64 ((pl : Nat) : Int)) := cI
    have ca : V.drew.cell? ⟨ab, 0, none⟩ = some (.slice (some ⟨ga, 0, none⟩) nall cap8) := ca
    have n0 : V.drew.cell? ⟨nb, 0, none⟩ = some (.int .u32 x0) := n0
    have n1 : V.drew.cell? ⟨nb, 1, none⟩ = some (.int .u32 x1) := n1
    have n2 : V.drew.cell? ⟨nb, 2, none⟩ = some (.int .u32 x2) := n2
    have m0 : V.drew.cell? ⟨ga, pl * 3, none⟩ = some (.int .u32 x0) := m0
    have m1 : V.drew.cell? ⟨ga, pl * 3 + 1, none⟩ = some (.int .u32 x1) := m1
    have m2 : V.drew.cell? ⟨ga, pl * 3 + 2, none⟩ = some (.int .u32 x2) := m2
    obtain ⟨S14, hSe⟩ : ∃ S : Array Bool → World → Prop, S = fun _ w' => Below V.drew.heap.size V.drew w' := ⟨_, rfl⟩
    have hdrop : ∀ i : Nat, ∀ L w', S14 (L.setIfInBounds i true) w' → S14 L w' := by
      intro i L w' h; rw [hSe] at h ⊢; exact h
    have hS : ∀ L, S14 L V.drew := by intro L; rw [hSe]; exact Below.refl _ _
    have hSo : ∀ {L w'}, S14 L w' → Below V.drew.heap.size V.drew w' := by intro L w' h; rw [hSe] at h; exact h
    have hSi : ∀ {w'}, Below V.drew.heap.size V.drew w' → ∀ L, S14 L w' := by intro w' h L; rw [hSe]; exact h
    clear hSe
    refine wpIn_region_LW S14 12 #[false, false, false, false, false, false, false, false, false, false, false, false] (by kernel_rfl) (by kernel_rfl) rfl (by kernel_rfl) ?_
    obtain ⟨X14, hX14⟩ : ∃ X14, X14 = V.drew := ⟨_, rfl⟩
    rw [← hX14] at cI ca n0 n1 n2 m0 m1 m2 hSo hS hSi ⊢
    have HX14 := Lib.hid hX14
    clear hX14
    refine WA.take (i := 0) (v := .int .i64 ((pl : Nat) : Int)) rfl (by kernel_rfl) (by kernel_rfl) (by kernel_rfl) (fun _ _ _ h => h) (hdrop 0) (Or.inl ⟨by rfl, ?_⟩) (hS _) ?_
    · rintro w' ⟨L, hL, hSw, hun⟩
      have hbw := hSo hSw
      have cI := cell_later hbw cI
      clear hbw
      go_simp
    simp only [List.getElem_toArray, List.getElem_cons_zero, List.getElem_cons_succ, Act.put, List.setIfInBounds_toArray, List.set_cons_zero, List.set_cons_succ]
    refine WA.take (i := 1) (v := .slice (some ⟨ga, 0, none⟩) nall cap8) rfl (by kernel_rfl) (by kernel_rfl) (by kernel_rfl) (fun _ _ _ h => h) (hdrop 1) (Or.inl ⟨by rfl, ?_⟩) (hS _) ?_
    · rintro w' ⟨L, hL, hSw, hun⟩
      have hbw := hSo hSw
      have ca := cell_later hbw ca
      clear hbw
      go_simp
    simp only [List.getElem_toArray, List.getElem_cons_zero, List.getElem_cons_succ, Act.put, List.setIfInBounds_toArray, List.set_cons_zero, List.set_cons_succ]
    refine WA.take (i := 2) (v := .int .i64 ((nall : Nat) : Int)) rfl (by kernel_rfl) (by kernel_rfl) (by kernel_rfl) (fun _ _ _ h => h) (hdrop 2) (Or.inl ⟨by rfl, ?_⟩) (hS _) ?_
    · rintro w' ⟨L, hL, hSw, hun⟩
      go_simp
    simp only [List.getElem_toArray, List.getElem_cons_zero, List.getElem_cons_succ, Act.put, List.setIfInBounds_toArray, List.set_cons_zero, List.set_cons_succ]
    refine WA.take (i := 3) (v := .bool false) rfl (by kernel_rfl) (by kernel_rfl) (by kernel_rfl) (fun _ _ _ h => h) (hdrop 3) (Or.inl ⟨by rfl, ?_⟩) (hS _) ?_
    · rintro w' ⟨L, hL, hSw, hun⟩
      go_simp
    simp only [List.getElem_toArray, List.getElem_cons_zero, List.getElem_cons_succ, Act.put, List.setIfInBounds_toArray, List.set_cons_zero, List.set_cons_succ]
    refine WA.take (i := 4) (v := .bool false) rfl (by kernel_rfl) (by kernel_rfl) (by kernel_rfl) (fun _ _ _ h => h) (hdrop 4) (Or.inl ⟨by rfl, ?_⟩) (hS _) ?_
    · rintro w' ⟨L, hL, hSw, hun⟩
      go_simp
    simp only [List.getElem_toArray, List.getElem_cons_zero, List.getElem_cons_succ, Act.put, List.setIfInBounds_toArray, List.set_cons_zero, List.set_cons_succ]
    refine WA.take (i := 5) (v := .agg #[.int .u32 x0, .int .u32 x1, .int .u32 x2]) rfl (by kernel_rfl) (by kernel_rfl) (by kernel_rfl) (fun _ _ _ h => h) (hdrop 5) (Or.inl ⟨by rfl, ?_⟩) (hS _) ?_
    · rintro w' ⟨L, hL, hSw, hun⟩
      have hbw := hSo hSw
      have n0 := cell_later hbw n0
      have n1 := cell_later hbw n1
      have n2 := cell_later hbw n2
      clear hbw
      go_simp
    simp only [List.getElem_toArray, List.getElem_cons_zero, List.getElem_cons_succ, Act.put, List.setIfInBounds_toArray, List.set_cons_zero, List.set_cons_succ]
    refine WA.take (i := 6) (v := .slice (some ⟨ga, 0, none⟩) nall cap8) rfl (by kernel_rfl) (by kernel_rfl) (by kernel_rfl) (fun _ _ _ h => h) (hdrop 6) (Or.inl ⟨by rfl, ?_⟩) (hS _) ?_
    · rintro w' ⟨L, hL, hSw, hun⟩
      have hbw := hSo hSw
      have ca := cell_later hbw ca
      clear hbw
      go_simp
    simp only [List.getElem_toArray, List.getElem_cons_zero, List.getElem_cons_succ, Act.put, List.setIfInBounds_toArray, List.set_cons_zero, List.set_cons_succ]
    refine WA.take (i := 7) (v := .int .i64 ((pl : Nat) : Int)) rfl (by kernel_rfl) (by kernel_rfl) (by kernel_rfl) (fun _ _ _ h => h) (hdrop 7) (Or.inl ⟨by rfl, ?_⟩) (hS _) ?_
    · rintro w' ⟨L, hL, hSw, hun⟩
      have hbw := hSo hSw
      have cI := cell_later hbw cI
      clear hbw
      go_simp
    simp only [List.getElem_toArray, List.getElem_cons_zero, List.getElem_cons_succ, Act.put, List.setIfInBounds_toArray, List.set_cons_zero, List.set_cons_succ]
    refine WA.take (i := 8) (v := .pointer (some ⟨ga, pl * 3, none⟩)) rfl (by kernel_rfl) (by kernel_rfl) (by kernel_rfl) (fun _ _ _ h => h) (hdrop 8) (Or.inl ⟨by rfl, ?_⟩) (hS _) ?_
    · rintro w' ⟨L, hL, hSw, hun⟩
      go_simp
    simp only [List.getElem_toArray, List.getElem_cons_zero, List.getElem_cons_succ, Act.put, List.setIfInBounds_toArray, List.set_cons_zero, List.set_cons_succ]
    refine WA.take (i := 9) (v := .agg #[.int .u32 x0, .int .u32 x1, .int .u32 x2]) rfl (by kernel_rfl) (by kernel_rfl) (by kernel_rfl) (fun _ _ _ h => h) (hdrop 9) (Or.inl ⟨by rfl, ?_⟩) (hS _) ?_
    · rintro w' ⟨L, hL, hSw, hun⟩
      have hbw := hSo hSw
      have m0 := cell_later hbw m0
      have m1 := cell_later hbw m1
      have m2 := cell_later hbw m2
      clear hbw
      go_simp
    simp only [List.getElem_toArray, List.getElem_cons_zero, List.getElem_cons_succ, Act.put, List.setIfInBounds_toArray, List.set_cons_zero, List.set_cons_succ]
    refine WA.take (i := 10) (v := .bool false) rfl (by kernel_rfl) (by kernel_rfl) (by kernel_rfl) (fun _ _ _ h => h) (hdrop 10) (Or.inl ⟨by rfl, ?_⟩) (hS _) ?_
    · rintro w' ⟨L, hL, hSw, hun⟩
      go_simp
    simp only [List.getElem_toArray, List.getElem_cons_zero, List.getElem_cons_succ, Act.put, List.setIfInBounds_toArray, List.set_cons_zero, List.set_cons_succ]
    refine WA.take (i := 11) (v := .bool false) rfl (by kernel_rfl) (by kernel_rfl) (by kernel_rfl) (fun _ _ _ h => h) (hdrop 11) (Or.inl ⟨by rfl, ?_⟩) (hS _) ?_
    · rintro w' ⟨L, hL, hSw, hun⟩
      go_simp
    simp only [List.getElem_toArray, List.getElem_cons_zero, List.getElem_cons_succ, Act.put, List.setIfInBounds_toArray, List.set_cons_zero, List.set_cons_succ]
    refine WA.done (by kernel_rfl) ?_ _
    refine Nrm.normal ?_
    clear hSo hS hSi hdrop cI ca n0 n1 n2 m0 m1 m2
    clear S14
    have hR14 := HR.out.grow (show Below V.heap.size V X14 by rw [HX14.out]; exact (Below.refl _ _).drew)
    have HR14 := Lib.hid hR14
    obtain ⟨cI, fI⟩ := box_at hR14.box rfl
    rw [Hpl.out] at cI
    clear hR14
    gi_wp2_with fail
    have hst := HR.out.step ((BodB.below (show Below V.heap.size V X14 by rw [HX14.out]; exact (Below.refl _ _).drew)).set (j := 0) (.int .i64 ((pl : Int) + 1))) (m := (pl : Int) + 1) (Boxed.set _ HR14.out.box) ib1
    refine ⟨hst.1, hst.2.1, ?_⟩
    show RunB wo1 ib1 (((pre ++ [(x0, x1, x2)]).length : Nat) : Int) _
    rw [List.length_append, Hpl.out, List.length_singleton]
    push_cast
    exact hst.2.2
  case fin1 =>
    rintro D1 V1 hD hR hdef
    have hn1 : (((prod3 LA LB LC).length : Nat) : Int) = (nall : Int) := by rw [Hnall.out]
    have hbx := hR.box
    rw [hn1] at hbx
    have HIv1 := Lib.hid (show V1.heap[ib1]? = some (.cells #[.int .i64 (nall : Int)] 3 (0, 0)) from hbx)
    have HMv1 := Lib.hid (HM1.out.keep (hR.keepN HI1.out))
    have HBv1 := Lib.hid (show Below W2.heap.size W2 V1 from ⟨hR.os.trans HB1_.out.os, hR.tape.trans HB1_.out.tape, hR.output.trans HB1_.out.output, Nat.le_trans HB1_.out.size hR.size, fun i hi => (hR.low i (by have := HB1_.out.size; omega) (by have := Hge1.out; omega)).trans (HB1_.out.block i hi)⟩)
    have HR1 := Lib.hid hR; have HD1 := Lib.hid hD; have Hdef1 := Lib.hid hdef
    clear hD hR hdef hbx hn1
    have Hdefv1 := Lib.hid (show D1 < V1.heap.size from lt_of_heap Hdef1.out)
    go_upto_region 18 with fail
    have hBi := (Below.refl V1.heap.size V1).alloc (Nat.le_refl _) (.cells #[.int .i64 0] 3)
    have hnew := World.alloc_heap_new V1 (.cells #[.int .i64 0] 3)
    have hszn : (V1.alloc (.cells #[.int .i64 0] 3)).heap.size = V1.heap.size + 1 := by simp
    obtain ⟨ib2, hib⟩ : ∃ ib, V1.heap.size = ib := ⟨_, rfl⟩
    generalize V1.alloc (.cells #[.int .i64 0] 3) = wo2 at *
    rw [hib] at hnew hszn ⊢
    have HM2 := Lib.hid (HMv1.out.keep (KeepN.below hBi)); have HB2 := Lib.hid (HBv1.out.trans (hBi.mono HBv1.out.size)); have HI2 := Lib.hid hnew
    have Hlt2 := Lib.hid (show ib2 < wo2.heap.size by omega); have Hge2 := Lib.hid (show W2.heap.size ≤ ib2 by have := HBv1.out.size; omega)
    have HI12 := Lib.hid ((hBi.block ib1 (lt_of_heap HIv1.out)).trans HIv1.out); have Hdef12 := Lib.hid ((hBi.block D1 (lt_of_heap Hdef1.out)).trans Hdef1.out)
    have Hord := Lib.hid (show ib1 < ib2 by have := lt_of_heap HIv1.out; omega); have Hd1lt := Lib.hid (show D1 < ib2 by have := Hdefv1.out; omega)
    have hseq := expand1_seq (B := ib2) (ib := ib2) (wt := wo2) HM2.out.f2p HM2.out.f2r HM2.out.q Hx32.out Hy32.out Hz32.out HA2.out HB2_.out HC2.out
    have Hseq2 := Lib.hid hseq
    clear hseq hBi hnew hszn hib Hdefv1
    go_upto_block 2 with fail
    refine (wpIn_wide (n := 9)).1 ?_
    refine wpIn_block (wpIn_rangeFunc_Z2 (w := wo2) (wt := wo2) rfl (enters_of Try.func33 (by kernel_rfl) rfl) Hseq2.out (by have := Hlt2.out; omega) (Below.refl _ _) (fun _ => rfl) KpI.t
      (fun V l o o' hl ho hc => KpI.b (by have := Hlt2.out; omega) V l o o' hl ho hc) (fun A B h => KpI.below h)
      (fun pre V => RunB wo2 ib2 (pre.length : Nat) V) (fun _ _ _ => False) (fun pre A B h hg => h.grow hg) (fun pre V l o o' h hw hl hc => h.put hw o') (fun _ _ _ _ _ _ h _ _ _ => h.elim)
      ⟨Nat.le_refl _, rfl, rfl, rfl, fun i _ _ => rfl, Hlt2.out, HI2.out⟩
      (RowA 95 14) (fun t x fr V l o o' h hw hl hc => h.put o' hl hc) ?assign2 ?body2 ?fin2 ?stop2)
    case stop2 => rintro D id pre V _ _ h _; exact h.elim
    case assign2 =>
      rintro lnn ⟨x0, x1, x2⟩ V K hV2 hK
      have HK := Lib.hid hK
      clear hK
      simp only [rw3]
      gi_wp2
      exact HK.out _ _ ((Below.refl _ V).alloc (Nat.le_refl _) _) ⟨V.heap.size, rfl, World.alloc_heap_new _ _⟩
    case body2 =>
      rintro lnn pre ⟨x0, x1, x2⟩ fr V hR hpx ⟨nb, rfl, hnb⟩ hV2
      simp only [rw3]
      obtain ⟨n0, n1, n2⟩ := row_cells hnb
      have hM := HM2.out.keep (hR.keepN HI2.out)
      obtain ⟨pl, hpl⟩ : ∃ pl, pre.length = pl := ⟨_, rfl⟩
      have hat : pl < nall ∧ (prod3 LA LB LC)[pl]? = some (x0, x1, x2) := by
        have h1 := pfx_at hpx
        rw [hpl] at h1
        exact ⟨by rw [← Hnall.out]; exact (List.getElem?_eq_some_iff.1 h1).1, h1⟩
      obtain ⟨hpln, hax⟩ := hat
      obtain ⟨hpl2, hax2⟩ := List.getElem?_eq_some_iff.1 hax
      obtain ⟨ga, e8, m0, m1, m2⟩ := hM.all.at (j := pl) hpl2
      subst e8
      rw [hax2] at m0 m1 m2
      simp only at m0 m1 m2
      have ca := (box_at hM.ra rfl).1
      have he := eqRw_same x0 x1 x2
      have hbx := hR.box
      obtain ⟨cI, fI⟩ := box_at hbx rfl
      rw [hpl] at cI
      have hge : decide ((pl : Int) ≥ (nall : Int)) = false := by simp; omega
      have hge' : decide ((nall : Int) ≤ (pl : Int)) = false := by simp; omega
      have hge2 : decide (nall ≤ pl) = false := by simp; omega
      have HR := Lib.hid hR; have Hpl := Lib.hid hpl; have Hnb := Lib.hid (lt_of_heap hnb)
      clear hR hpx hnb hbx hM hax hax2 hpl2 hpl
      gi_wp2_with fail
      have cI : V.drew.cell? ⟨ib2, 0, none⟩ = some (.int .i64 ((pl : Nat) : Int)) := cI
      have ca : V.drew.cell? ⟨ab, 0, none⟩ = some (.slice (some ⟨ga, 0, none⟩) nall cap8) := ca
      have n0 : V.drew.cell? ⟨nb, 0, none⟩ = some (.int .u32 x0) := n0
      have n1 : V.drew.cell? ⟨nb, 1, none⟩ = some (.int .u32 x1) := n1
      have n2 : V.drew.cell? ⟨nb, 2, none⟩ = some (.int .u32 x2) := n2
      have m0 : V.drew.cell? ⟨ga, pl * 3, none⟩ = some (.int .u32 x0) := m0
      have m1 : V.drew.cell? ⟨ga, pl * 3 + 1, none⟩ = some (.int .u32 x1) := m1
      have m2 : V.drew.cell? ⟨ga, pl * 3 + 2, none⟩ = some (.int .u32 x2) := m2
      obtain ⟨S14, hSe⟩ : ∃ S : Array Bool → World → Prop, S = fun _ w' => Below V.drew.heap.size V.drew w' := ⟨_, rfl⟩
      have hdrop : ∀ i : Nat, ∀ L w', S14 (L.setIfInBounds i true) w' → S14 L w' := by
        intro i L w' h; rw [hSe] at h ⊢; exact h
      have hS : ∀ L, S14 L V.drew := by intro L; rw [hSe]; exact Below.refl _ _
      have hSo : ∀ {L w'}, S14 L w' → Below V.drew.heap.size V.drew w' := by intro L w' h; rw [hSe] at h; exact h
      have hSi : ∀ {w'}, Below V.drew.heap.size V.drew w' → ∀ L, S14 L w' := by intro w' h L; rw [hSe]; exact h
      clear hSe
      refine wpIn_region_LW S14 12 #[false, false, false, false, false, false, false, false, false, false, false, false] (by kernel_rfl) (by kernel_rfl) rfl (by kernel_rfl) ?_
      obtain ⟨X14, hX14⟩ : ∃ X14, X14 = V.drew := ⟨_, rfl⟩
      rw [← hX14] at cI ca n0 n1 n2 m0 m1 m2 hSo hS hSi ⊢
      have HX14 := Lib.hid hX14
      clear hX14
      refine WA.take (i := 0) (v := .int .i64 ((pl : Nat) : Int)) rfl (by kernel_rfl) (by kernel_rfl) (by kernel_rfl) (fun _ _ _ h => h) (hdrop 0) (Or.inl ⟨by rfl, ?_⟩) (hS _) ?_
      · rintro w' ⟨L, hL, hSw, hun⟩
        have hbw := hSo hSw
        have cI := cell_later hbw cI
        clear hbw
        go_simp
      simp only [List.getElem_toArray, List.getElem_cons_zero, List.getElem_cons_succ, Act.put, List.setIfInBounds_toArray, List.set_cons_zero, List.set_cons_succ]
      refine WA.take (i := 1) (v := .slice (some ⟨ga, 0, none⟩) nall cap8) rfl (by kernel_rfl) (by kernel_rfl) (by kernel_rfl) (fun _ _ _ h => h) (hdrop 1) (Or.inl ⟨by rfl, ?_⟩) (hS _) ?_
      · rintro w' ⟨L, hL, hSw, hun⟩
        have hbw := hSo hSw
        have ca := cell_later hbw ca
        clear hbw
        go_simp
      simp only [List.getElem_toArray, List.getElem_cons_zero, List.getElem_cons_succ, Act.put, List.setIfInBounds_toArray, List.set_cons_zero, List.set_cons_succ]
      refine WA.take (i := 2) (v := .int .i64 ((nall : Nat) : Int)) rfl (by kernel_rfl) (by kernel_rfl) (by kernel_rfl) (fun _ _ _ h => h) (hdrop 2) (Or.inl ⟨by rfl, ?_⟩) (hS _) ?_
      · rintro w' ⟨L, hL, hSw, hun⟩
        go_simp
      simp only [List.getElem_toArray, List.getElem_cons_zero, List.getElem_cons_succ, Act.put, List.setIfInBounds_toArray, List.set_cons_zero, List.set_cons_succ]
      refine WA.take (i := 3) (v := .bool false) rfl (by kernel_rfl) (by kernel_rfl) (by kernel_rfl) (fun _ _ _ h => h) (hdrop 3) (Or.inl ⟨by rfl, ?_⟩) (hS _) ?_
      · rintro w' ⟨L, hL, hSw, hun⟩
        go_simp
      simp only [List.getElem_toArray, List.getElem_cons_zero, List.getElem_cons_succ, Act.put, List.setIfInBounds_toArray, List.set_cons_zero, List.set_cons_succ]
      refine WA.take (i := 4) (v := .bool false) rfl (by kernel_rfl) (by kernel_rfl) (by kernel_rfl) (fun _ _ _ h => h) (hdrop 4) (Or.inl ⟨by rfl, ?_⟩) (hS _) ?_
      · rintro w' ⟨L, hL, hSw, hun⟩
        go_simp
      simp only [List.getElem_toArray, List.getElem_cons_zero, List.getElem_cons_succ, Act.put, List.setIfInBounds_toArray, List.set_cons_zero, List.set_cons_succ]
      refine WA.take (i := 5) (v := .agg #[.int .u32 x0, .int .u32 x1, .int .u32 x2]) rfl (by kernel_rfl) (by kernel_rfl) (by kernel_rfl) (fun _ _ _ h => h) (hdrop 5) (Or.inl ⟨by rfl, ?_⟩) (hS _) ?_
      · rintro w' ⟨L, hL, hSw, hun⟩
        have hbw := hSo hSw
        have n0 := cell_later hbw n0
        have n1 := cell_later hbw n1
        have n2 := cell_later hbw n2
        clear hbw
        go_simp
      simp only [List.getElem_toArray, List.getElem_cons_zero, List.getElem_cons_succ, Act.put, List.setIfInBounds_toArray, List.set_cons_zero, List.set_cons_succ]
      refine WA.take (i := 6) (v := .slice (some ⟨ga, 0, none⟩) nall cap8) rfl (by kernel_rfl) (by kernel_rfl) (by kernel_rfl) (fun _ _ _ h => h) (hdrop 6) (Or.inl ⟨by rfl, ?_⟩) (hS _) ?_
      · rintro w' ⟨L, hL, hSw, hun⟩
        have hbw := hSo hSw
        have ca := cell_later hbw ca
        clear hbw
        go_simp
      simp only [List.getElem_toArray, List.getElem_cons_zero, List.getElem_cons_succ, Act.put, List.setIfInBounds_toArray, List.set_cons_zero, List.set_cons_succ]
      refine WA.take (i := 7) (v := .int .i64 ((pl : Nat) : Int)) rfl (by kernel_rfl) (by kernel_rfl) (by kernel_rfl) (fun _ _ _ h => h) (hdrop 7) (Or.inl ⟨by rfl, ?_⟩) (hS _) ?_
      · rintro w' ⟨L, hL, hSw, hun⟩
        have hbw := hSo hSw
        have cI := cell_later hbw cI
        clear hbw
        go_simp
      simp only [List.getElem_toArray, List.getElem_cons_zero, List.getElem_cons_succ, Act.put, List.setIfInBounds_toArray, List.set_cons_zero, List.set_cons_succ]
      refine WA.take (i := 8) (v := .pointer (some ⟨ga, pl * 3, none⟩)) rfl (by kernel_rfl) (by kernel_rfl) (by kernel_rfl) (fun _ _ _ h => h) (hdrop 8) (Or.inl ⟨by rfl, ?_⟩) (hS _) ?_
      · rintro w' ⟨L, hL, hSw, hun⟩
        go_simp
      simp only [List.getElem_toArray, List.getElem_cons_zero, List.getElem_cons_succ, Act.put, List.setIfInBounds_toArray, List.set_cons_zero, List.set_cons_succ]
      refine WA.take (i := 9) (v := .agg #[.int .u32 x0, .int .u32 x1, .int .u32 x2]) rfl (by kernel_rfl) (by kernel_rfl) (by kernel_rfl) (fun _ _ _ h => h) (hdrop 9) (Or.inl ⟨by rfl, ?_⟩) (hS _) ?_
      · rintro w' ⟨L, hL, hSw, hun⟩
        have hbw := hSo hSw
        have m0 := cell_later hbw m0
        have m1 := cell_later hbw m1
        have m2 := cell_later hbw m2
        clear hbw
        go_simp
      simp only [List.getElem_toArray, List.getElem_cons_zero, List.getElem_cons_succ, Act.put, List.setIfInBounds_toArray, List.set_cons_zero, List.set_cons_succ]
      refine WA.take (i := 10) (v := .bool false) rfl (by kernel_rfl) (by kernel_rfl) (by kernel_rfl) (fun _ _ _ h => h) (hdrop 10) (Or.inl ⟨by rfl, ?_⟩) (hS _) ?_
      · rintro w' ⟨L, hL, hSw, hun⟩
        go_simp
      simp only [List.getElem_toArray, List.getElem_cons_zero, List.getElem_cons_succ, Act.put, List.setIfInBounds_toArray, List.set_cons_zero, List.set_cons_succ]
      refine WA.take (i := 11) (v := .bool false) rfl (by kernel_rfl) (by kernel_rfl) (by kernel_rfl) (fun _ _ _ h => h) (hdrop 11) (Or.inl ⟨by rfl, ?_⟩) (hS _) ?_
      · rintro w' ⟨L, hL, hSw, hun⟩
        go_simp
      simp only [List.getElem_toArray, List.getElem_cons_zero, List.getElem_cons_succ, Act.put, List.setIfInBounds_toArray, List.set_cons_zero, List.set_cons_succ]
      refine WA.done (by kernel_rfl) ?_ _
      refine Nrm.normal ?_
      clear hSo hS hSi hdrop cI ca n0 n1 n2 m0 m1 m2
      clear S14
      have hR14 := HR.out.grow (show Below V.heap.size V X14 by rw [HX14.out]; exact (Below.refl _ _).drew)
      have HR14 := Lib.hid hR14
      obtain ⟨cI, fI⟩ := box_at hR14.box rfl
      rw [Hpl.out] at cI
      clear hR14
      gi_wp2_with fail
      have hst := HR.out.step ((BodB.below (show Below V.heap.size V X14 by rw [HX14.out]; exact (Below.refl _ _).drew)).set (j := 0) (.int .i64 ((pl : Int) + 1))) (m := (pl : Int) + 1) (Boxed.set _ HR14.out.box) ib2
      refine ⟨hst.1, hst.2.1, ?_⟩
      show RunB wo2 ib2 (((pre ++ [(x0, x1, x2)]).length : Nat) : Int) _
      rw [List.length_append, Hpl.out, List.length_singleton]
      push_cast
      exact hst.2.2
    case fin2 =>
      rintro D2 V2 hD hR hdef
      have hn2 : (((prod3 LA LB LC).length : Nat) : Int) = (nall : Int) := by rw [Hnall.out]
      have hbx := hR.box
      rw [hn2] at hbx
      have HIv2 := Lib.hid (show V2.heap[ib2]? = some (.cells #[.int .i64 (nall : Int)] 3 (0, 0)) from hbx)
      have HMv2 := Lib.hid (HM2.out.keep (hR.keepN HI2.out))
      have HBv2 := Lib.hid (show Below W2.heap.size W2 V2 from ⟨hR.os.trans HB2.out.os, hR.tape.trans HB2.out.tape, hR.output.trans HB2.out.output, Nat.le_trans HB2.out.size hR.size, fun i hi => (hR.low i (by have := HB2.out.size; omega) (by have := Hge2.out; omega)).trans (HB2.out.block i hi)⟩)
      have HR2 := Lib.hid hR; have HD2 := Lib.hid hD; have Hdef2 := Lib.hid hdef
      clear hD hR hdef hbx hn2
      have Hlt3 := Lib.hid (show ib2 < V2.heap.size from lt_of_heap HIv2.out)
      have hseq := expand1_seq (B := ib2) (ib := ib2) (wt := V2) HMv2.out.f1p HMv2.out.f1r HMv2.out.q Ha.out Hb.out Hc.out HA.out HBc.out HC.out
      have Hseq3 := Lib.hid hseq
      clear hseq
      go_upto_block 4 with fail
      refine (wpIn_wide (n := 9)).1 ?_
      refine wpIn_block (wpIn_rangeFunc_Z2 (w := V2) (wt := V2) rfl (enters_of Try.func33 (by kernel_rfl) rfl) Hseq3.out (by have := Hlt3.out; omega) (Below.refl _ _) (fun _ => rfl) KpI.t
        (fun V l o o' hl ho hc => KpI.b (by have := Hlt3.out; omega) V l o o' hl ho hc) (fun A B h => KpI.below h)
        (fun pre V => pre = [] ∧ RunB V2 ib2 (nall : Nat) V) (fun id _ V => id = 4 ∧ RunB V2 ib2 (nall : Nat) V) (fun pre A B h hg => ⟨h.1, h.2.grow hg⟩) (fun pre V l o o' h hw hl hc => ⟨h.1, h.2.put hw o'⟩) (fun _ _ _ _ _ _ h hw _ _ => ⟨h.1, h.2.put hw _⟩)
        ⟨rfl, Nat.le_refl _, rfl, rfl, rfl, fun i _ _ => rfl, Hlt3.out, HIv2.out⟩
        (RowA 111 15) (fun t x fr V l o o' h hw hl hc => h.put o' hl hc) ?assign3 ?body3 ?fin3 ?stop3)
      case fin3 =>
        rintro D V _ h _
        exact absurd h.1.symm Hne.out
      case assign3 =>
        rintro lnn ⟨x0, x1, x2⟩ V K hV2 hK
        have HK := Lib.hid hK
        clear hK
        simp only [rw3]
        gi_wp2
        exact HK.out _ _ ((Below.refl _ V).alloc (Nat.le_refl _) _) ⟨V.heap.size, rfl, World.alloc_heap_new _ _⟩
      case body3 =>
        rintro lnn pre ⟨x0, x1, x2⟩ fr V ⟨hpre, hR⟩ hpx ⟨nb, rfl, hnb⟩ hV2
        subst hpre
        simp only [rw3]
        obtain ⟨n0, n1, n2⟩ := row_cells hnb
        have hM := HMv2.out.keep (hR.keepN HIv2.out)
        have hax : (prod3 LA LB LC)[0]? = some (x0, x1, x2) := by have h1 := pfx_at hpx; simpa using h1
        obtain ⟨hpl2, hax2⟩ := List.getElem?_eq_some_iff.1 hax
        have hnz : 0 < nall := by rw [← Hnall.out]; exact hpl2
        obtain ⟨ga, e8, m0, m1, m2⟩ := hM.all.at (j := 0) hpl2
        subst e8
        rw [hax2] at m0 m1 m2
        simp only [Nat.zero_mul, Nat.zero_add] at m0 m1 m2
        have ca := (box_at hM.ra rfl).1
        have he := eqRw_same x0 x1 x2
        have HR := Lib.hid hR
        clear hR hpx hnb hM hax hax2 hpl2
        gi_wp2_with fail
        have ca : V.drew.cell? ⟨ab, 0, none⟩ = some (.slice (some ⟨ga, 0, none⟩) nall cap8) := ca
        have n0 : V.drew.cell? ⟨nb, 0, none⟩ = some (.int .u32 x0) := n0
        have n1 : V.drew.cell? ⟨nb, 1, none⟩ = some (.int .u32 x1) := n1
        have n2 : V.drew.cell? ⟨nb, 2, none⟩ = some (.int .u32 x2) := n2
        have m0 : V.drew.cell? ⟨ga, 0, none⟩ = some (.int .u32 x0) := m0
        have m1 : V.drew.cell? ⟨ga, 1, none⟩ = some (.int .u32 x1) := m1
        have m2 : V.drew.cell? ⟨ga, 2, none⟩ = some (.int .u32 x2) := m2
        obtain ⟨S14, hSe⟩ : ∃ S : Array Bool → World → Prop, S = fun _ w' => Below V.drew.heap.size V.drew w' := ⟨_, rfl⟩
        have hdrop : ∀ i : Nat, ∀ L w', S14 (L.setIfInBounds i true) w' → S14 L w' := by
          intro i L w' h; rw [hSe] at h ⊢; exact h
        have hS : ∀ L, S14 L V.drew := by intro L; rw [hSe]; exact Below.refl _ _
        have hSo : ∀ {L w'}, S14 L w' → Below V.drew.heap.size V.drew w' := by intro L w' h; rw [hSe] at h; exact h
        have hSi : ∀ {w'}, Below V.drew.heap.size V.drew w' → ∀ L, S14 L w' := by intro w' h L; rw [hSe]; exact h
        clear hSe
        refine wpIn_region_LW S14 5 #[false, false, false, false, false] (by kernel_rfl) (by kernel_rfl) rfl (by kernel_rfl) ?_
        obtain ⟨X14, hX14⟩ : ∃ X14, X14 = V.drew := ⟨_, rfl⟩
        rw [← hX14] at ca n0 n1 n2 m0 m1 m2 hSo hS hSi ⊢
        have HX14 := Lib.hid hX14
        clear hX14
        refine WA.take (i := 0) (v := .agg #[.int .u32 x0, .int .u32 x1, .int .u32 x2]) rfl (by kernel_rfl) (by kernel_rfl) (by kernel_rfl) (fun _ _ _ h => h) (hdrop 0) (Or.inl ⟨by rfl, ?_⟩) (hS _) ?_
        · rintro w' ⟨L, hL, hSw, hun⟩
          have hbw := hSo hSw
          have n0 := cell_later hbw n0
          have n1 := cell_later hbw n1
          have n2 := cell_later hbw n2
          clear hbw
          go_simp
        simp only [List.getElem_toArray, List.getElem_cons_zero, List.getElem_cons_succ, Act.put, List.setIfInBounds_toArray, List.set_cons_zero, List.set_cons_succ]
        refine WA.take (i := 1) (v := .slice (some ⟨ga, 0, none⟩) nall cap8) rfl (by kernel_rfl) (by kernel_rfl) (by kernel_rfl) (fun _ _ _ h => h) (hdrop 1) (Or.inl ⟨by rfl, ?_⟩) (hS _) ?_
        · rintro w' ⟨L, hL, hSw, hun⟩
          have hbw := hSo hSw
          have ca := cell_later hbw ca
          clear hbw
          go_simp
        simp only [List.getElem_toArray, List.getElem_cons_zero, List.getElem_cons_succ, Act.put, List.setIfInBounds_toArray, List.set_cons_zero, List.set_cons_succ]
        refine WA.take (i := 2) (v := .pointer (some ⟨ga, 0, none⟩)) rfl (by kernel_rfl) (by kernel_rfl) (by kernel_rfl) (fun _ _ _ h => h) (hdrop 2) (Or.inl ⟨by rfl, ?_⟩) (hS _) ?_
        · rintro w' ⟨L, hL, hSw, hun⟩
          go_simp
        simp only [List.getElem_toArray, List.getElem_cons_zero, List.getElem_cons_succ, Act.put, List.setIfInBounds_toArray, List.set_cons_zero, List.set_cons_succ]
        refine WA.take (i := 3) (v := .agg #[.int .u32 x0, .int .u32 x1, .int .u32 x2]) rfl (by kernel_rfl) (by kernel_rfl) (by kernel_rfl) (fun _ _ _ h => h) (hdrop 3) (Or.inl ⟨by rfl, ?_⟩) (hS _) ?_
        · rintro w' ⟨L, hL, hSw, hun⟩
          have hbw := hSo hSw
          have m0 := cell_later hbw m0
          have m1 := cell_later hbw m1
          have m2 := cell_later hbw m2
          clear hbw
          go_simp
        simp only [List.getElem_toArray, List.getElem_cons_zero, List.getElem_cons_succ, Act.put, List.setIfInBounds_toArray, List.set_cons_zero, List.set_cons_succ]
        refine WA.take (i := 4) (v := .bool false) rfl (by kernel_rfl) (by kernel_rfl) (by kernel_rfl) (fun _ _ _ h => h) (hdrop 4) (Or.inl ⟨by rfl, ?_⟩) (hS _) ?_
        · rintro w' ⟨L, hL, hSw, hun⟩
          go_simp
        simp only [List.getElem_toArray, List.getElem_cons_zero, List.getElem_cons_succ, Act.put, List.setIfInBounds_toArray, List.set_cons_zero, List.set_cons_succ]
        refine WA.done (by kernel_rfl) ?_ _
        refine Nrm.normal ?_
        clear hSo hS hSi hdrop ca n0 n1 n2 m0 m1 m2
        clear S14
        have hst := HR.out.step (BodB.below (show Below V.heap.size V X14 by rw [HX14.out]; exact (Below.refl _ _).drew)) (m := (nall : Nat)) (HR.out.grow (show Below V.heap.size V X14 by rw [HX14.out]; exact (Below.refl _ _).drew)).box ib2
        gi_wp2_with fail
        exact ⟨hst.1, rfl, hst.2.2⟩
      case stop3 =>
        rintro D3 id pre V3 hD _ ⟨hid, hR⟩ hdef
        subst hid
        have hM := HMv2.out.keep (hR.keepN HIv2.out)
        have hB3 : Below W2.heap.size W2 V3 := ⟨hR.os.trans HBv2.out.os, hR.tape.trans HBv2.out.tape, hR.output.trans HBv2.out.output, Nat.le_trans HBv2.out.size hR.size, fun i hi => (hR.low i (by have := HBv2.out.size; omega) (by have := Hge2.out; omega)).trans (HBv2.out.block i hi)⟩
        have cj := (box_at hR.box rfl).1
        have ci := (box_at ((hR.low ib1 (by have := Hlt3.out; have := Hord.out; omega) (by have := Hord.out; omega)).trans ((HR2.out.low ib1 (by have := Hlt2.out; have := Hord.out; omega) (by have := Hord.out; omega)).trans HI12.out)) rfl).1
        have ca := (box_at hM.ra rfl).1
        have hd1 := (hR.low D1 (by have := Hlt3.out; have := Hd1lt.out; omega) (by have := Hd1lt.out; omega)).trans ((HR2.out.low D1 (by have := Hd1lt.out; have := Hlt2.out; omega) (by have := Hd1lt.out; omega)).trans Hdef12.out)
        have hd2 := (hR.low D2 (lt_of_heap Hdef2.out) (by have := HD2.out; have := Hlt2.out; omega)).trans Hdef2.out
        have Hd1 := Lib.hid hd1; have Hd2 := Lib.hid hd2; have HB3 := Lib.hid hB3; have HD3 := Lib.hid hD; have Hdef3 := Lib.hid hdef
        have hd23 : D2 < D3 := by have := lt_of_heap Hdef2.out; omega
        have Hd23 := Lib.hid hd23
        clear hd1 hd2 hB3 hD hdef hM hR hd23
        have hnn : ((nall : Int) == (nall : Int)) = true := by simp
        gi_wp2_with fail
        go_wp2_with fail
        refine (known_any V3).mono ?_
        rintro e w9 ⟨rfl, hB9⟩
        have HB9 := Lib.hid hB9
        have hBe : Below W2.heap.size W2 w9 := HB3.out.trans (hB9.mono HB3.out.size)
        have HBe := Lib.hid hBe
        obtain ⟨cR, fR⟩ := (Early.out w9 hBe).1
        have hge : ∀ D, w.heap.size + 2 ≤ D → V3.heap[D]? = some (.deferred (some [])) → w.heap.size + 2 ≤ D ∧ (w9.setCell ⟨rs, 0, none⟩ (.bool true)).heap[D]? = some (.deferred (some [])) := fun D h1 h2 =>
          ⟨h1, (Below.heap_setCell w9 ⟨rs, 0, none⟩ _ D (by simp; have := Hrs.out; omega)).trans ((HB9.out.block D (lt_of_heap h2)).trans h2)⟩
        have Hge := Lib.hid hge
        have hz : w.heap.size + 2 ≤ D1 ∧ D1 < D2 ∧ D2 < D3 := by
          have h1 := HD1.out; have h2 := HD2.out; have h3 := Hlt2.out; have h4 := Hd1lt.out; have h5 := Hd23.out; have h6 := Q2.out; have h7 := HB1_.out.size
          exact ⟨by omega, by omega, by omega⟩
        have HZ := Lib.hid hz
        clear hB9 hBe hge hz ci cj ca
        go_wp2_with fail
        refine EndE.out _ [D3, D2, D1] _ rfl rfl (by have := HZ.out; simp; omega) (fun D hD => ?_) (Early.out w9 HBe.out).2.1 (Early.out w9 HBe.out).2.2
        obtain ⟨z1, z2, z3⟩ := HZ.out
        simp only [List.mem_cons, List.not_mem_nil, or_false] at hD
        rcases hD with rfl | rfl | rfl
        · exact Hge.out _ (by omega) Hdef3.out
        · exact Hge.out _ (by omega) Hd2.out
        · exact Hge.out _ (by omega) Hd1.out


end Go.Proofs.Ytghihhjcoilmgaa
