/- RewriteNil, walked. -/
import Derived.Test.YtghihhjcoilmgaaW8
import Derived.Test.YtghihhjcoilmgaaW10
import Derived.Test.YtghihhjcoilmgaaW12
namespace Go.Proofs.Ytghihhjcoilmgaa
set_option maxRecDepth 100000
open Go.RowKit Go.Maps
set_option linter.unusedVariables false
set_option linter.unusedSimpArgs false
attribute [local go_sem] Oper.semAt_some

/-- the frame at the range is named: what a round begins with may speak of it -/
theorem wpIn_rangeFunc_Z2 {α : Type} {P : Program} {w wt : World} {g : Operand} {ps : Array Tmp} {assign body : Code} {Q : Exit → Act → World → Prop} {a : Act}
    {gf : Nat} {lb : Array Value} (hg : a.eval g = .func (.func gf) #[] lb) (eg : ∀ args w, (callFunc gf args).run P w = .ok (.enter gf args) w)
    {encs : α → Array Value} {Kp : World → World → Prop} {all : List α} {N0 : Nat} (hseq : SeqZ P gf lb encs Kp all wt N0) (hN0 : N0 ≤ w.heap.size) (hwt : Below wt.heap.size wt w)
    (hps : ∀ x, (encs x).size = ps.size)
    (hKt : ∀ {A B C : World}, Kp A B → Kp B C → Kp A C) (hKb : ∀ (W : World) (l : Nat) (o o' : Obj), w.heap.size ≤ l → W.heap[l]? = some o → o.isCells = false → Kp W (W.putObj l o'))
    (hKg : ∀ A B : World, Below A.heap.size A B → Kp A B)
    (I : List α → World → Prop) (Ix : Nat → List α → World → Prop) (hgrow : ∀ pre A B, I pre A → Below A.heap.size A B → I pre B)
    (hput : ∀ pre (W : World) (l : Nat) (o o' : Obj), I pre W → w.heap.size ≤ l → W.heap[l]? = some o → o.isCells = false → I pre (W.putObj l o'))
    (hputx : ∀ id pre (W : World) (l : Nat) (o o' : Obj), Ix id pre W → w.heap.size ≤ l → W.heap[l]? = some o → o.isCells = false → Ix id pre (W.putObj l o'))
    (h0 : I [] w) (A : Array Value → α → Array Value → World → Prop)
    (hAput : ∀ t x fr (W : World) (l : Nat) (o o' : Obj), A t x fr W → w.heap.size ≤ l → W.heap[l]? = some o → o.isCells = false → A t x fr (W.putObj l o'))
    (hassign : ∀ (l : Nat) (x : α) (W : World) (K : Act → World → Prop), w.heap.size + 2 ≤ W.heap.size → (∀ fr W', Below W.heap.size W W' → A a.tmps x fr W' → K { tmps := fr, defers := [] } W') →
      assign.wpIn (Fence.wide.inRound l) 7 P (Exit.then K (fun _ _ _ => False)) { tmps := (ps.zip (encs x)).foldl (fun t (p, v) => t.setIfInBounds p v) a.tmps, defers := [] } W)
    (hbody : ∀ (l : Nat) (pre : List α) (x : α) (fr : Array Value) (W : World), I pre W → pre ++ [x] <+: all → A a.tmps x fr W → w.heap.size + 2 ≤ W.heap.size → body.wpIn (Fence.wide.inRound l) 7 P (postZ w.heap.size Kp I Ix (pre ++ [x]) W) { tmps := fr, defers := [] } W)
    (hdone : ∀ (D : Nat) (W : World), w.heap.size ≤ D → I all W → W.heap[D]? = some (.deferred (some [])) → Q .normal { a with defers := { target := .collected D, args := #[] } :: a.defers } W)
    (hstop : ∀ (D id : Nat) (pre : List α) (W : World), w.heap.size ≤ D → pre <+: all → Ix id pre W → W.heap[D]? = some (.deferred (some [])) → (Code.exit id).wpIn Fence.wide 9 P Q { a with defers := { target := .collected D, args := #[] } :: a.defers } W) :
    (Code.rangeFunc g ps assign body).wpIn Fence.wide 9 P Q a w :=
  wpIn_rangeFunc_Z hg eg hseq hN0 hwt hps hKt hKb hKg I Ix hgrow hput hputx h0 (A a.tmps) (hAput a.tmps) hassign hbody hdone hstop
/-- a round's own row, boxed -/
def RowA (p q : Nat) (t : Array Value) (x : Rw3) (fr : Array Value) (W : World) : Prop := ∃ nb, fr = (t.setIfInBounds p (rw3 x)).setIfInBounds q (.pointer (some ⟨nb, 0, none⟩)) ∧ W.heap[nb]? = some (.cells #[.int .u32 x.1, .int .u32 x.2.1, .int .u32 x.2.2] 37 (0, 0))
theorem RowA.put {p q : Nat} {t : Array Value} {x : Rw3} {fr : Array Value} {W : World} {l : Nat} {o : Obj} (h : RowA p q t x fr W) (o' : Obj) (hl : W.heap[l]? = some o) (hc : o.isCells = false) : RowA p q t x fr (W.putObj l o') := by
  obtain ⟨nb, h1, h2⟩ := h
  refine ⟨nb, h1, (World.putObj_heap_other ?_).trans h2⟩
  rintro rfl
  rw [h2] at hl
  injection hl with hl
  subst hl
  cases hc
theorem many_nil (w : World) {a b c : Int} (ha : is32 a) (hb : is32 b) (hc : is32 c) (ha0 : a ≠ 0) (hb0 : b ≠ 0) (hc0 : c ≠ 0) :
    Calls Try.prog 15 #[.pointer none, .agg #[.int .u32 a, .int .u32 b, .int .u32 c]] w fun e w' => e = .returned (.int .i64 1) ∧ Below w.heap.size w w' := by
  have hA1 := cl_nil a; have hB1 := cl_nil b; have hC1 := cl_nil c
  rw [if_neg ha0] at hA1
  rw [if_neg hb0] at hB1
  rw [if_neg hc0] at hC1
  exact many_any (IsQ.nil w) ha hb hc hA1 hB1 hC1
theorem pick_nil (w : World) : Calls Try.prog 10 #[.pointer none, .slice none 0 0, .slice none 0 0, .slice none 0 0] w fun e w' => e = .returned (.bool true) ∧ Below w.heap.size w w' := by
  refine (pick_any (w := w) (p := none) (va := none) (fa := none) (ca := none) (V := []) (F := []) (C := []) (J := []) (vcap := 0) (fcap := 0) (ccap := 0) (IsQ.nil w) (fun j hj => by simp at hj) (fun j hj => by simp at hj) (fun j hj => by simp at hj) (by simp) (by simp) (by simp) (by simp [maxLen])).mono ?_
  rintro e w' ⟨b, rfl, hb, hB⟩
  refine ⟨?_, hB⟩
  rw [hb.2 ⟨by simp, [], rfl, rfl, fun i _ hi => by simp at hi, by simp⟩]
set_option maxRecDepth 100000 in
set_option maxHeartbeats 16000000 in
theorem nil_any (w : World) {a b c : Int} (ha : is32 a) (hb : is32 b) (hc : is32 c) :
    Calls Try.prog 5 #[.agg #[.int .u32 a, .int .u32 b, .int .u32 c]] w fun e w' => e = .returned (.bool true) ∧ Below w.heap.size w w' := by
  obtain ⟨q1, q2, q3, q4⟩ := two_blocks w (.cells #[.int .u32 a, .int .u32 b, .int .u32 c] 37) (.cells #[.bool false] 4) _ rfl
  have Ha := Lib.hid ha; have Hb := Lib.hid hb; have Hc := Lib.hid hc
  obtain ⟨rb, hrb⟩ : ∃ rb, w.heap.size = rb := ⟨_, rfl⟩
  obtain ⟨rs, hrs⟩ : ∃ rs, w.heap.size + 1 = rs := ⟨_, rfl⟩
  rw [hrb] at q3
  rw [hrs] at q4
  have Q1 := Lib.hid q1; have Q2 := Lib.hid q2; have Q3 := Lib.hid q3; have Q4 := Lib.hid q4; have Hrb := Lib.hid hrb; have Hrs := Lib.hid hrs
  clear ha hb hc q1 q2 q3 q4 hrb hrs
  refine (callsIn_wide (n := 9)).1 ?_
  refine callsIn_of_wp_marks Try.func5 rfl trivial ?_ rfl
  refine wpIn_wide.2 ?_
  simp only [Try.ntmps5, List.size_toArray, List.length_cons, List.length_nil, Nat.reduceAdd, Nat.reduceSub, Array.replicate_succ, Array.replicate_zero, List.push_toArray, List.append_toArray, List.nil_append, List.cons_append]
  go_upto_region 1 with fail
  rw [Hrb.out, show rb + 1 = rs by rw [← Hrb.out, Hrs.out]]
  generalize (w.alloc (.cells #[.int .u32 a, .int .u32 b, .int .u32 c] 37)).alloc (.cells #[.bool false] 4) = W2 at *
  have endE : ∀ (a : Act) (Ds : List Nat) (W : World), a.defers = Ds.map markOf → a.tmps[2]?.getD undef = .pointer (some ⟨rs, 0, none⟩) → Ds.Nodup → (∀ D ∈ Ds, w.heap.size + 2 ≤ D ∧ W.heap[D]? = some (.deferred (some []))) →
      W.heap[rs]? = some (.cells #[.bool true] 4 (0, 0)) → Below w.heap.size w W → bodyPostM Fence.wide 9 Try.prog Try.f5 (fun e w' => e = .returned (.bool true) ∧ Below w.heap.size w w') .ret a W := by
    intro a Ds W hd ht hnd hds hr hb
    show LeavesInM Fence.wide 9 Try.prog Try.f5 a.tmps _ a.defers .returning W
    rw [hd]
    refine leaves_marks rs (w.heap.size + 2) (by have := Hrs.out; omega) (fun w' hx1 hx2 => ?_) (by omega) Ds W hnd hds hr hb
    refine ⟨.bool true, ?_, rfl, hx2⟩
    have hres : Try.f5.results = #[.cell 2 4] := rfl
    have cx := (box_at hx1 rfl).1
    simp only [results, hres]
    simp [go_sem, ht, cx]
  have EndE := Lib.hid endE
  clear endE
  have early : ∀ V : World, Below W2.heap.size W2 V → (V.cell? ⟨rs, 0, none⟩ = some (.bool false) ∧ V.frozen? ⟨rs, 0, none⟩ = false) ∧ (V.setCell ⟨rs, 0, none⟩ (.bool true)).heap[rs]? = some (.cells #[.bool true] 4 (0, 0)) ∧ Below w.heap.size w (V.setCell ⟨rs, 0, none⟩ (.bool true)) := fun V hV => by
    have h1 := (hV.block _ (lt_of_heap Q4.out)).trans Q4.out
    exact ⟨box_at h1 rfl, arr_set h1 0 _, (Q1.out.trans (hV.mono Q1.out.size)).setCell (by have := Hrs.out; simp; omega) _⟩
  have Early := Lib.hid early
  clear early
  obtain ⟨k0, k1, k2⟩ := row_cells Q3.out
  by_cases ha0 : a = 0
  · have hq : (a == 0) = true := by simp [ha0]
    clear ha0
    go_wp2_with fail
    refine (known_any W2).mono ?_
    rintro e w5 ⟨rfl, hB5⟩
    have HB5 := Lib.hid hB5
    obtain ⟨cR, fR⟩ := (Early.out w5 hB5).1
    clear hB5
    go_wp2_with fail
    exact EndE.out _ [] _ rfl rfl (by simp) (by simp) (Early.out w5 HB5.out).2.1 (Early.out w5 HB5.out).2.2
  have hqa : (a == 0) = false := by simp [ha0]
  by_cases hb0 : b = 0
  · have hq : (b == 0) = true := by simp [hb0]
    clear ha0 hb0
    go_wp2_with fail
    refine (known_any W2).mono ?_
    rintro e w5 ⟨rfl, hB5⟩
    have HB5 := Lib.hid hB5
    obtain ⟨cR, fR⟩ := (Early.out w5 hB5).1
    clear hB5
    go_wp2_with fail
    exact EndE.out _ [] _ rfl rfl (by simp) (by simp) (Early.out w5 HB5.out).2.1 (Early.out w5 HB5.out).2.2
  have hqb : (b == 0) = false := by simp [hb0]
  by_cases hc0 : c = 0
  · have hq : (c == 0) = true := by simp [hc0]
    clear ha0 hb0 hc0
    go_wp2_with fail
    refine (known_any W2).mono ?_
    rintro e w5 ⟨rfl, hB5⟩
    have HB5 := Lib.hid hB5
    obtain ⟨cR, fR⟩ := (Early.out w5 hB5).1
    clear hB5
    go_wp2_with fail
    exact EndE.out _ [] _ rfl rfl (by simp) (by simp) (Early.out w5 HB5.out).2.1 (Early.out w5 HB5.out).2.2
  have hqc : (c == 0) = false := by simp [hc0]
  have Ha0 := Lib.hid ha0; have Hb0 := Lib.hid hb0; have Hc0 := Lib.hid hc0
  clear ha0 hb0 hc0
  go_wp2_with fail
  refine (expand_any W2 none a b c).mono ?_
  rintro e w3 ⟨rfl, hp3, hr3, hz3, hB3⟩
  have hfe : ∀ W, (binOp .eql 44 (.func (.func 33) #[] #[.pointer (some ⟨W2.heap.size, 0, none⟩), .pointer (some ⟨W2.heap.size + 1, 0, none⟩)]) .nilFunc).run Try.prog W = .ok (.bool false) W := fun W => by rfl
  have HP3 := Lib.hid hp3; have HR3 := Lib.hid hr3; have HZ3 := Lib.hid hz3; have HB3 := Lib.hid hB3
  clear hp3 hr3 hz3 hB3 k0 k1 k2
  go_upto_block 0 with fail
  have hBi : Below w3.heap.size w3 (w3.alloc (.cells #[.int .i64 0] 3)) := (Below.refl _ w3).alloc (Nat.le_refl _) _
  have hnew := World.alloc_heap_new w3 (.cells #[.int .i64 0] 3)
  obtain ⟨ib, hib⟩ : ∃ ib, w3.heap.size = ib := ⟨_, rfl⟩
  obtain ⟨vb, hvb⟩ : ∃ vb, W2.heap.size = vb := ⟨_, rfl⟩
  generalize w3.alloc (.cells #[.int .i64 0] 3) = wo at *
  rw [hib] at hnew ⊢
  rw [hvb] at ⊢
  have hp := (hBi.block _ (lt_of_heap HP3.out)).trans HP3.out
  have hr := (hBi.block _ (lt_of_heap HR3.out)).trans HR3.out
  rw [hvb] at hp hr
  have hBo : Below W2.heap.size W2 wo := HB3.out.trans (hBi.mono HB3.out.size)
  have hibl : vb + 2 ≤ ib := by have := HZ3.out; omega
  have hrsl : rs < vb ∧ rb < vb := ⟨by rw [← hvb]; exact lt_of_heap Q4.out, by rw [← hvb]; exact lt_of_heap Q3.out⟩
  have hibo : ib < wo.heap.size := lt_of_heap hnew
  have hro : wo.heap[rb]? = some (.cells #[.int .u32 a, .int .u32 b, .int .u32 c] 37 (0, 0)) := (hBo.block _ (lt_of_heap Q3.out)).trans Q3.out
  have hA1 := cl_nil a; have hB1 := cl_nil b; have hC1 := cl_nil c
  rw [if_neg Ha0.out] at hA1
  rw [if_neg Hb0.out] at hB1
  rw [if_neg Hc0.out] at hC1
  have hseq := expand1_seq (B := ib) (ib := ib) (wt := wo) hp hr (IsQ.nil wo) Ha.out Hb.out Hc.out hA1 hB1 hC1
  have Hseq := Lib.hid hseq; have HBo := Lib.hid hBo; have Hnew := Lib.hid hnew; have Hro := Lib.hid hro; have Hvb := Lib.hid hvb
  clear hseq hA1 hB1 hC1 hp hr hBi hBo hnew hro hib hvb HP3 HR3 HB3 HZ3 hfe
  have hone : ∀ pre (x : Rw3), pre ++ [x] <+: prod3 [a] [b] [c] → pre = [] ∧ x = (a, b, c) := fun pre x h => by
    have e : prod3 [a] [b] [c] = [(a, b, c)] := by simp [prod3]
    rw [e] at h
    have h1 := h.length_le
    simp at h1
    subst h1
    exact ⟨rfl, by simpa using h⟩
  have Hone := Lib.hid hone
  clear hone
  refine (wpIn_wide (n := 9)).1 ?_
  have hfn : ∀ k, Fence.wide.fn k := fun _ => trivial
  refine wpIn_block (wpIn_rangeFunc_Z2 (w := wo) (wt := wo) rfl (enters_of Try.func33 (by kernel_rfl) rfl) Hseq.out (by omega) (Below.refl _ _) (fun _ => rfl) KpI.t
    (fun V l o o' hl ho hc => KpI.b (by omega) V l o o' hl ho hc) (fun A B h => KpI.below h)
    (fun pre V => RunB wo ib (pre.length : Nat) V) (fun _ _ _ => False) (fun pre A B h hg => h.grow hg) (fun pre V l o o' h hw hl hc => h.put hw o') (fun _ _ _ _ _ _ h _ _ _ => h.elim)
    ⟨Nat.le_refl _, rfl, rfl, rfl, fun i _ _ => rfl, hibo, Hnew.out⟩
    (RowA 25 5) (fun t x fr V l o o' h hw hl hc => h.put o' hl hc) ?assign ?body ?fin ?stop)
  case stop => rintro D id pre V _ _ h _; exact h.elim
  case assign =>
    rintro lnn ⟨x0, x1, x2⟩ V K hV2 hK
    have HK := Lib.hid hK
    clear hK
    simp only [rw3]
    gi_wp2
    exact HK.out _ _ ((Below.refl _ V).alloc (Nat.le_refl _) _) ⟨V.heap.size, rfl, World.alloc_heap_new _ _⟩
  case body =>
    rintro lnn pre ⟨x0, x1, x2⟩ fr V hR hpx ⟨nb, rfl, hnb⟩ hV2
    obtain ⟨rfl, hx⟩ := Hone.out _ _ hpx
    obtain ⟨rfl, rfl, rfl⟩ : x0 = a ∧ x1 = b ∧ x2 = c := by simpa using hx
    simp only [rw3]
    obtain ⟨n0, n1, n2⟩ := row_cells hnb
    have hrV := (hR.low rb (by omega) (by omega)).trans Hro.out
    obtain ⟨r0, r1, r2⟩ := row_cells hrV
    have he := eqRw_same x0 x1 x2
    have hbx := hR.box
    obtain ⟨cI, fI⟩ := box_at hbx rfl
    simp only [List.length_nil] at cI
    have HR := Lib.hid hR
    clear hR hpx hx hnb hrV hbx
    gi_wp2_with fail
    have hst := HR.out.step ((BodB.refl V ib).set (j := 0) (.int .i64 1)) (m := 1) (Boxed.set _ HR.out.box) ib
    exact ⟨hst.1, hst.2.1, hst.2.2⟩
  case fin =>
    rintro D V hD hR hdef
    have hbx := hR.box
    have e1 : (((prod3 [a] [b] [c]).length : Nat) : Int) = 1 := by simp [prod3]
    rw [e1] at hbx
    obtain ⟨c4, _⟩ := box_at hbx rfl
    have hrV := (hR.low rb (by omega) (by omega)).trans Hro.out
    obtain ⟨r0, r1, r2⟩ := row_cells hrV
    have hVB : Below W2.heap.size W2 V := ⟨hR.os.trans HBo.out.os, hR.tape.trans HBo.out.tape, hR.output.trans HBo.out.output, Nat.le_trans HBo.out.size hR.size, fun i hi => (hR.low i (by have := HBo.out.size; omega) (by have := Hvb.out; omega)).trans (HBo.out.block i hi)⟩
    have HD := Lib.hid hD; have Hdef := Lib.hid hdef; have HVB := Lib.hid hVB
    have he := eqRw_same a b c
    clear hD hR hdef hbx e1 hrV hVB
    go_wp2_with fail
    have c4 : V.drew.cell? ⟨ib, 0, none⟩ = some (.int .i64 1) := c4
    have r0 : V.drew.cell? ⟨rb, 0, none⟩ = some (.int .u32 a) := r0
    have r1 : V.drew.cell? ⟨rb, 1, none⟩ = some (.int .u32 b) := r1
    have r2 : V.drew.cell? ⟨rb, 2, none⟩ = some (.int .u32 c) := r2
    obtain ⟨S12, hSe⟩ : ∃ S : Array Bool → World → Prop, S = fun L w' => L.getD 19 true = false → Below V.drew.heap.size V.drew w' := ⟨_, rfl⟩
    have hdrop : ∀ i, i ≠ 19 → ∀ L w', S12 (L.setIfInBounds i true) w' → S12 L w' := by
      intro i hi L w'
      rw [hSe]
      intro h hl
      exact h (by rw [getD_set_ne true hi]; exact hl)
    have hS : ∀ L, S12 L V.drew := by intro L; rw [hSe]; exact fun _ => Below.refl _ _
    have hSo : ∀ {L w'}, S12 L w' → L.getD 19 true = false → Below V.drew.heap.size V.drew w' := by intro L w' h hl; rw [hSe] at h; exact h hl
    have hSi : ∀ {w'}, Below V.drew.heap.size V.drew w' → ∀ L, S12 L w' := by intro w' h L; rw [hSe]; exact fun _ => h
    have hSd : ∀ (L : Array Bool) X, L.getD 19 true = true → S12 L X := by
      intro L X h; rw [hSe]; intro h1; rw [h] at h1; cases h1
    clear hSe
    refine wp_region_LN S12 20 #[false, false, false, false, false, false, false, false, false, false, false, false, false, false, false, false, false, false, false, false] (by kernel_rfl) (by kernel_rfl) rfl ?_
    obtain ⟨X12, hX12⟩ : ∃ X12, X12 = V.drew := ⟨_, rfl⟩
    rw [← hX12] at c4 r0 r1 r2 hSo hS hSi ⊢
    have HX12 := Lib.hid hX12
    clear hX12
    refine WA.take (i := 0) (v := .int .i64 1) rfl (by kernel_rfl) (by kernel_rfl) (by kernel_rfl) (fun _ _ _ h => h) (hdrop 0 (by decide)) (Or.inl ⟨by rfl, ?_⟩) (hS _) ?_
    · rintro w' ⟨L, hL, hSw, hun⟩
      have hbw := hSo hSw (hL.wait 19 0 (by kernel_rfl) hun)
      have c4 := cell_later hbw c4
      clear hbw
      go_simp
    simp only [List.getElem_toArray, List.getElem_cons_zero, List.getElem_cons_succ, Act.put, List.setIfInBounds_toArray, List.set_cons_zero, List.set_cons_succ]
    refine WA.take (i := 1) (v := .bool true) rfl (by kernel_rfl) (by kernel_rfl) (by kernel_rfl) (fun _ _ _ h => h) (hdrop 1 (by decide)) (Or.inl ⟨by rfl, ?_⟩) (hS _) ?_
    · rintro w' ⟨L, hL, hSw, hun⟩
      go_simp
    simp only [List.getElem_toArray, List.getElem_cons_zero, List.getElem_cons_succ, Act.put, List.setIfInBounds_toArray, List.set_cons_zero, List.set_cons_succ]
    refine WA.take (i := 2) (v := .bool true) rfl (by kernel_rfl) (by kernel_rfl) (by kernel_rfl) (fun _ _ _ h => h) (hdrop 2 (by decide)) (Or.inl ⟨by rfl, ?_⟩) (hS _) ?_
    · rintro w' ⟨L, hL, hSw, hun⟩
      go_simp
    simp only [List.getElem_toArray, List.getElem_cons_zero, List.getElem_cons_succ, Act.put, List.setIfInBounds_toArray, List.set_cons_zero, List.set_cons_succ]
    refine WA.take (i := 3) (v := .agg #[.int .u32 a, .int .u32 b, .int .u32 c]) rfl (by kernel_rfl) (by kernel_rfl) (by kernel_rfl) (fun _ _ _ h => h) (hdrop 3 (by decide)) (Or.inl ⟨by rfl, ?_⟩) (hS _) ?_
    · rintro w' ⟨L, hL, hSw, hun⟩
      have hbw := hSo hSw (hL.wait 19 3 (by kernel_rfl) hun)
      have r0 := cell_later hbw r0
      have r1 := cell_later hbw r1
      have r2 := cell_later hbw r2
      clear hbw
      go_simp
    simp only [List.getElem_toArray, List.getElem_cons_zero, List.getElem_cons_succ, Act.put, List.setIfInBounds_toArray, List.set_cons_zero, List.set_cons_succ]
    refine WA.take (i := 5) (v := .agg #[.int .u32 a, .int .u32 b, .int .u32 c]) rfl (by kernel_rfl) (by kernel_rfl) (by kernel_rfl) (fun _ _ _ h => h) (hdrop 5 (by decide)) (Or.inl ⟨by rfl, ?_⟩) (hS _) ?_
    · rintro w' ⟨L, hL, hSw, hun⟩
      have hbw := hSo hSw (hL.wait 19 5 (by kernel_rfl) hun)
      have r0 := cell_later hbw r0
      have r1 := cell_later hbw r1
      have r2 := cell_later hbw r2
      clear hbw
      go_simp
    simp only [List.getElem_toArray, List.getElem_cons_zero, List.getElem_cons_succ, Act.put, List.setIfInBounds_toArray, List.set_cons_zero, List.set_cons_succ]
    refine WA.one (i := 4) (by kernel_rfl) rfl (by rfl) (fun K hK => ?_)
    go_simp
    have HVX := Lib.hid (show Below W2.heap.size W2 X12 by rw [HX12.out]; exact HVB.out.drew)
    refine (own_any (w := X12) (IsQ.nil X12) Ha.out Hb.out Hc.out).mono ?_
    rintro e w4 ⟨x, y, z, rfl, ⟨hx, hy, hz⟩, hB_⟩
    have HB4_ := Lib.hid hB_
    have HB4 := Lib.hid (HB4_.out)
    clear hB_
    obtain rfl : a = x := (conn_nil.1 hx.1).symm
    obtain rfl : b = y := (conn_nil.1 hy.1).symm
    obtain rfl : c = z := (conn_nil.1 hz.1).symm
    clear hx hy hz
    refine hK _ _ (hSi HB4.out _) ?_
    clear hK
    try simp only [List.getElem_toArray, List.getElem_cons_zero, List.getElem_cons_succ, Act.put, List.setIfInBounds_toArray, List.set_cons_zero, List.set_cons_succ]
    refine WA.take (i := 6) (v := .bool true) rfl (by kernel_rfl) (by kernel_rfl) (by kernel_rfl) (fun _ _ _ h => h) (hdrop 6 (by decide)) (Or.inl ⟨by rfl, ?_⟩) (hSi HB4.out _) ?_
    · rintro w' ⟨L, hL, hSw, hun⟩
      go_simp
    simp only [List.getElem_toArray, List.getElem_cons_zero, List.getElem_cons_succ, Act.put, List.setIfInBounds_toArray, List.set_cons_zero, List.set_cons_succ]
    refine WA.take (i := 7) (v := .bool true) rfl (by kernel_rfl) (by kernel_rfl) (by kernel_rfl) (fun _ _ _ h => h) (hdrop 7 (by decide)) (Or.inl ⟨by rfl, ?_⟩) (hSi HB4.out _) ?_
    · rintro w' ⟨L, hL, hSw, hun⟩
      go_simp
    simp only [List.getElem_toArray, List.getElem_cons_zero, List.getElem_cons_succ, Act.put, List.setIfInBounds_toArray, List.set_cons_zero, List.set_cons_succ]
    refine WA.take (i := 8) (v := .bool true) rfl (by kernel_rfl) (by kernel_rfl) (by kernel_rfl) (fun _ _ _ h => h) (hdrop 8 (by decide)) (Or.inl ⟨by rfl, ?_⟩) (hSi HB4.out _) ?_
    · rintro w' ⟨L, hL, hSw, hun⟩
      go_simp
    simp only [List.getElem_toArray, List.getElem_cons_zero, List.getElem_cons_succ, Act.put, List.setIfInBounds_toArray, List.set_cons_zero, List.set_cons_succ]
    refine WA.take (i := 9) (v := .agg #[.int .u32 a, .int .u32 b, .int .u32 c]) rfl (by kernel_rfl) (by kernel_rfl) (by kernel_rfl) (fun _ _ _ h => h) (hdrop 9 (by decide)) (Or.inl ⟨by rfl, ?_⟩) (hSi HB4.out _) ?_
    · rintro w' ⟨L, hL, hSw, hun⟩
      have hbw := hSo hSw (hL.wait 19 9 (by kernel_rfl) hun)
      have r0 := cell_later hbw r0
      have r1 := cell_later hbw r1
      have r2 := cell_later hbw r2
      clear hbw
      go_simp
    simp only [List.getElem_toArray, List.getElem_cons_zero, List.getElem_cons_succ, Act.put, List.setIfInBounds_toArray, List.set_cons_zero, List.set_cons_succ]
    refine WA.one (i := 10) (by kernel_rfl) rfl (by rfl) (fun K hK => ?_)
    go_simp
    refine (many_nil w4 Ha.out Hb.out Hc.out Ha0.out Hb0.out Hc0.out).mono ?_
    rintro e w10 ⟨rfl, hB_⟩
    have HB10_ := Lib.hid hB_
    have HB10 := Lib.hid (HB4.out.trans (HB10_.out.mono HB4.out.size))
    clear hB_
    refine hK _ _ (hSi HB10.out _) ?_
    clear hK
    try simp only [List.getElem_toArray, List.getElem_cons_zero, List.getElem_cons_succ, Act.put, List.setIfInBounds_toArray, List.set_cons_zero, List.set_cons_succ]
    refine WA.take (i := 11) (v := .bool true) rfl (by kernel_rfl) (by kernel_rfl) (by kernel_rfl) (fun _ _ _ h => h) (hdrop 11 (by decide)) (Or.inl ⟨by rfl, ?_⟩) (hSi HB10.out _) ?_
    · rintro w' ⟨L, hL, hSw, hun⟩
      go_simp
    simp only [List.getElem_toArray, List.getElem_cons_zero, List.getElem_cons_succ, Act.put, List.setIfInBounds_toArray, List.set_cons_zero, List.set_cons_succ]
    refine WA.take (i := 12) (v := .bool true) rfl (by kernel_rfl) (by kernel_rfl) (by kernel_rfl) (fun _ _ _ h => h) (hdrop 12 (by decide)) (Or.inl ⟨by rfl, ?_⟩) (hSi HB10.out _) ?_
    · rintro w' ⟨L, hL, hSw, hun⟩
      go_simp
    simp only [List.getElem_toArray, List.getElem_cons_zero, List.getElem_cons_succ, Act.put, List.setIfInBounds_toArray, List.set_cons_zero, List.set_cons_succ]
    refine WA.take (i := 13) (v := .bool true) rfl (by kernel_rfl) (by kernel_rfl) (by kernel_rfl) (fun _ _ _ h => h) (hdrop 13 (by decide)) (Or.inl ⟨by rfl, ?_⟩) (hSi HB10.out _) ?_
    · rintro w' ⟨L, hL, hSw, hun⟩
      go_simp
    simp only [List.getElem_toArray, List.getElem_cons_zero, List.getElem_cons_succ, Act.put, List.setIfInBounds_toArray, List.set_cons_zero, List.set_cons_succ]
    refine WA.one (i := 14) (by kernel_rfl) rfl (by rfl) (fun K hK => ?_)
    go_simp
    refine (pick_nil w10).mono ?_
    rintro e w14 ⟨rfl, hB_⟩
    have HB14_ := Lib.hid hB_
    have HB14 := Lib.hid (HB10.out.trans (HB14_.out.mono HB10.out.size))
    clear hB_
    refine hK _ _ (hSi HB14.out _) ?_
    clear hK
    try simp only [List.getElem_toArray, List.getElem_cons_zero, List.getElem_cons_succ, Act.put, List.setIfInBounds_toArray, List.set_cons_zero, List.set_cons_succ]
    refine WA.take (i := 15) (v := .bool true) rfl (by kernel_rfl) (by kernel_rfl) (by kernel_rfl) (fun _ _ _ h => h) (hdrop 15 (by decide)) (Or.inl ⟨by rfl, ?_⟩) (hSi HB14.out _) ?_
    · rintro w' ⟨L, hL, hSw, hun⟩
      go_simp
    simp only [List.getElem_toArray, List.getElem_cons_zero, List.getElem_cons_succ, Act.put, List.setIfInBounds_toArray, List.set_cons_zero, List.set_cons_succ]
    refine WA.take (i := 16) (v := .bool true) rfl (by kernel_rfl) (by kernel_rfl) (by kernel_rfl) (fun _ _ _ h => h) (hdrop 16 (by decide)) (Or.inl ⟨by rfl, ?_⟩) (hSi HB14.out _) ?_
    · rintro w' ⟨L, hL, hSw, hun⟩
      go_simp
    simp only [List.getElem_toArray, List.getElem_cons_zero, List.getElem_cons_succ, Act.put, List.setIfInBounds_toArray, List.set_cons_zero, List.set_cons_succ]
    refine WA.one (i := 17) (by kernel_rfl) rfl (by rfl) (fun K hK => ?_)
    go_simp
    refine (known_any w14).mono ?_
    rintro e w17 ⟨rfl, hB_⟩
    have HB17_ := Lib.hid hB_
    have HB17 := Lib.hid (HB14.out.trans (HB17_.out.mono HB14.out.size))
    clear hB_
    obtain ⟨cR, fR⟩ := (Early.out w17 (HVX.out.trans (HB17.out.mono HVX.out.size))).1
    refine hK _ _ (hSi HB17.out _) ?_
    clear hK
    try simp only [List.getElem_toArray, List.getElem_cons_zero, List.getElem_cons_succ, Act.put, List.setIfInBounds_toArray, List.set_cons_zero, List.set_cons_succ]
    refine WA.take (i := 18) (v := .bool true) rfl (by kernel_rfl) (by kernel_rfl) (by kernel_rfl) (fun _ _ _ h => h) (hdrop 18 (by decide)) (Or.inl ⟨by rfl, ?_⟩) (hSi HB17.out _) ?_
    · rintro w' ⟨L, hL, hSw, hun⟩
      go_simp
    simp only [List.getElem_toArray, List.getElem_cons_zero, List.getElem_cons_succ, Act.put, List.setIfInBounds_toArray, List.set_cons_zero, List.set_cons_succ]
    refine WA.one (i := 19) (by kernel_rfl) rfl (by rfl) (fun K hK => ?_)
    go_simp
    skip
    refine hK _ _ (hSd _ _ (by rfl)) ?_
    clear hK
    try simp only [List.getElem_toArray, List.getElem_cons_zero, List.getElem_cons_succ, Act.put, List.setIfInBounds_toArray, List.set_cons_zero, List.set_cons_succ]
    refine WA.done (by kernel_rfl) ?_ _
    refine Nrm.normal ?_
    clear hSo hS hSi hSd hdrop c4 r0 r1 r2
    clear S12
    have HBe := Lib.hid (show Below W2.heap.size W2 w17 from HVX.out.trans (HB17.out.mono HVX.out.size))
    go_wp2_with fail
    refine EndE.out _ [D] _ rfl rfl (by simp) (fun D' hD' => ?_) (Early.out w17 HBe.out).2.1 (Early.out w17 HBe.out).2.2
    rw [List.mem_singleton] at hD'
    subst hD'
    have h1 := HD.out
    refine ⟨by have := Q2.out; have := Hvb.out; omega, ?_⟩
    refine (Below.heap_setCell w17 ⟨rs, 0, none⟩ _ D' (by simp; omega)).trans ((HB17.out.block D' ?_).trans ?_)
    · rw [HX12.out]; exact lt_of_heap Hdef.out
    · rw [HX12.out]; exact Hdef.out
end Go.Proofs.Ytghihhjcoilmgaa
