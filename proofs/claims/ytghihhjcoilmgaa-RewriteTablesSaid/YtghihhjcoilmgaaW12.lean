/- The reference's Own; Many. -/
import Derived.Test.YtghihhjcoilmgaaW7
namespace Go.Proofs.Ytghihhjcoilmgaa
set_option maxRecDepth 100000
open Go.RowKit Go.Maps
set_option linter.unusedVariables false
set_option linter.unusedSimpArgs false
attribute [local go_sem] Oper.semAt_some

theorem IsFst.null (J : Jn) : IsFst J 0 0 := ⟨.refl _, fun b hb => by
  by_cases e : (0 : Int) = b
  · omega
  · exact absurd rfl (hb.ne_zero e).1⟩
section
variable {w : World} {pv : Value} {ja : Option Addr} {J : Jn} {a b c : Int}
set_option maxRecDepth 100000 in
set_option maxHeartbeats 4000000 in
theorem ownR_any (h : IsJ w ja J) (jcap : Nat) (hJl : J.length ≤ 100) (hz : ∀ p ∈ J, p.1 ≠ 0 ∧ p.2 ≠ 0) (a b c : Int) :
    Calls Try.prog 14 #[.slice ja J.length jcap, .agg #[.int .u32 a, .int .u32 b, .int .u32 c]] w fun e w' => ∃ x y z, e = .returned (.agg #[.int .u32 x, .int .u32 y, .int .u32 z]) ∧ (IsFst J a x ∧ IsFst J b y ∧ IsFst J c z) ∧ Below w.heap.size w w' := by
  obtain ⟨q1, q2, q3, q4⟩ := two_blocks w (.cells #[.int .u32 a, .int .u32 b, .int .u32 c] 37) (.cells #[.int .u32 0, .int .u32 0, .int .u32 0] 37) _ rfl
  obtain ⟨jn, hjn⟩ : ∃ jn, J.length = jn := ⟨_, rfl⟩
  have HJ := Lib.hid h; have Hz := Lib.hid hz; have Hjn := Lib.hid hjn
  have Q1 := Lib.hid q1; have Q2 := Lib.hid q2; have Q3 := Lib.hid q3; have Q4 := Lib.hid q4
  rw [hjn] at hJl ⊢
  clear h hz hjn q1 q2 q3 q4
  go_enter Try.func14, Try.ntmps14
  go_upto_region 1 with fail
  generalize (w.alloc (.cells #[.int .u32 a, .int .u32 b, .int .u32 c] 37)).alloc (.cells #[.int .u32 0, .int .u32 0, .int .u32 0] 37) = W2 at *
  obtain ⟨b0, hb0⟩ : ∃ b0, w.heap.size = b0 := ⟨_, rfl⟩
  have hq3 := Q3.out; have hq4 := Q4.out
  rw [hb0] at hq3 hq4
  have HQ3 := Lib.hid hq3; have HQ4 := Lib.hid hq4; have Hb0 := Lib.hid hb0
  rw [hb0] at ⊢
  clear hq3 hq4 hb0 Q3 Q4
  go_upto_region 2 with fail
  go_loopw [5] (fun u wr => ∃ (i : Nat) (x y z : Int), i ≤ 3 ∧ u = .int .i64 i ∧ wr.heap[b0]? = some (.cells #[.int .u32 x, .int .u32 y, .int .u32 z] 37 (0, 0)) ∧ (if 0 < i then IsFst J a x else x = a) ∧ (if 1 < i then IsFst J b y else y = b) ∧ (if 2 < i then IsFst J c z else z = c) ∧ BodB W2 wr b0) (fun u _ => 3 - (intOf u).toNat)
  case atStart => exact ⟨0, a, b, c, by omega, rfl, HQ3.out, by simp, by simp, by simp, BodB.refl _ _⟩
  case round =>
    obtain ⟨i, x, y, z, hi, rfl, hx, h0, h1, h2, hT⟩ := hrel
    have hBw : Below w.heap.size w wr := Q1.out.trans (hT.lower Q1.out.size (by have := Hb0.out; omega))
    have HX := Lib.hid hx; have H0 := Lib.hid h0; have H1 := Lib.hid h1; have H2 := Lib.hid h2; have HT := Lib.hid hT; have HBw := Lib.hid hBw
    have k0 : wr.cell? ⟨b0, 0, none⟩ = some (.int .u32 x) := by unfold World.cell?; rw [hx]; rfl
    have k1 : wr.cell? ⟨b0, 1, none⟩ = some (.int .u32 y) := by unfold World.cell?; rw [hx]; rfl
    have k2 : wr.cell? ⟨b0, 2, none⟩ = some (.int .u32 z) := by unfold World.cell?; rw [hx]; rfl
    have K0 := Lib.hid k0; have K1 := Lib.hid k1; have K2 := Lib.hid k2
    clear hx h0 h1 h2 hT hBw k0 k1 k2
    have hcase : i = 0 ∨ i = 1 ∨ i = 2 ∨ i = 3 := by omega
    rcases hcase with rfl | rfl | rfl | rfl
    · have k0 := K0.out
      obtain rfl : x = a := by have := H0.out; simpa using this
      by_cases hx0 : x = 0
      · have hq : (x != 0) = false := by simp [hx0]
        have Hx0 := Lib.hid hx0
        clear hx0
        go_wp2_with fail
        go_roundw
        case rel => exact ⟨1, x, y, z, by omega, rfl, HX.out, by rw [if_pos (by omega)]; exact (by rw [Hx0.out]; exact IsFst.null J), by have := H1.out; simpa using this, by have := H2.out; simpa using this, HT.out⟩
        case measure => simp [intOf]
      · have hq : (x != 0) = true := by simp [hx0]
        have Hx0 := Lib.hid hx0
        clear hx0
        have hcl := cliqueR_any (HJ.out.below HBw.out) jcap (by rw [Hjn.out]; omega) Hz.out x
        rw [Hjn.out] at hcl
        have Hcl := Lib.hid hcl
        clear hcl
        go_wp2_with fail
        refine Hcl.out.mono ?_
        rintro e w5 ⟨v5, L, rfl, hO, hL, hB⟩
        obtain ⟨r, L', hLe, g1, g2⟩ := cl_first (hL.2 Hx0.out)
        have hr : IsFst J x r := ⟨g1, g2⟩
        obtain ⟨s5, cap5, rfl, _, _, hU⟩ := hO.u
        have hL1 : 0 < L.length := by rw [hLe]; simp
        obtain ⟨g5, rfl, _, c5⟩ := hU 0 hL1
        have hLr : L[0] = r := by simp [hLe]
        rw [hLr] at c5
        obtain ⟨ln, hln⟩ : ∃ ln, L.length = ln := ⟨_, rfl⟩
        rw [hln] at hL1 ⊢
        have hx5 := (hB.block b0 (lt_of_heap HX.out)).trans HX.out
        have f5 := arr_frozen hx5 0
        have kk := cell_keep hB K0.out
        have Hr := Lib.hid hr; have HB := Lib.hid hB; have HX5 := Lib.hid hx5
        clear hO hL hLe g1 g2 hr hU hLr hB hln hx5 k0
        go_wp2_with fail
        go_roundw
        case rel => exact ⟨1, r, y, z, by omega, rfl, arr_set HX5.out 0 _, by rw [if_pos (by omega)]; exact Hr.out, by have := H1.out; simpa using this, by have := H2.out; simpa using this, (HT.out.trans (BodB.below HB.out)).set _⟩
        case measure => simp [intOf]
    · have k1 := K1.out
      obtain rfl : y = b := by have := H1.out; simpa using this
      by_cases hx0 : y = 0
      · have hq : (y != 0) = false := by simp [hx0]
        have Hx0 := Lib.hid hx0
        clear hx0
        go_wp2_with fail
        go_roundw
        case rel => exact ⟨2, x, y, z, by omega, rfl, HX.out, by have := H0.out; simpa using this, by rw [if_pos (by omega)]; exact (by rw [Hx0.out]; exact IsFst.null J), by have := H2.out; simpa using this, HT.out⟩
        case measure => simp [intOf]
      · have hq : (y != 0) = true := by simp [hx0]
        have Hx0 := Lib.hid hx0
        clear hx0
        have hcl := cliqueR_any (HJ.out.below HBw.out) jcap (by rw [Hjn.out]; omega) Hz.out y
        rw [Hjn.out] at hcl
        have Hcl := Lib.hid hcl
        clear hcl
        go_wp2_with fail
        refine Hcl.out.mono ?_
        rintro e w5 ⟨v5, L, rfl, hO, hL, hB⟩
        obtain ⟨r, L', hLe, g1, g2⟩ := cl_first (hL.2 Hx0.out)
        have hr : IsFst J y r := ⟨g1, g2⟩
        obtain ⟨s5, cap5, rfl, _, _, hU⟩ := hO.u
        have hL1 : 0 < L.length := by rw [hLe]; simp
        obtain ⟨g5, rfl, _, c5⟩ := hU 0 hL1
        have hLr : L[0] = r := by simp [hLe]
        rw [hLr] at c5
        obtain ⟨ln, hln⟩ : ∃ ln, L.length = ln := ⟨_, rfl⟩
        rw [hln] at hL1 ⊢
        have hx5 := (hB.block b0 (lt_of_heap HX.out)).trans HX.out
        have f5 := arr_frozen hx5 1
        have kk := cell_keep hB K1.out
        have Hr := Lib.hid hr; have HB := Lib.hid hB; have HX5 := Lib.hid hx5
        clear hO hL hLe g1 g2 hr hU hLr hB hln hx5 k1
        go_wp2_with fail
        go_roundw
        case rel => exact ⟨2, x, r, z, by omega, rfl, arr_set HX5.out 1 _, by have := H0.out; simpa using this, by rw [if_pos (by omega)]; exact Hr.out, by have := H2.out; simpa using this, (HT.out.trans (BodB.below HB.out)).set _⟩
        case measure => simp [intOf]
    · have k2 := K2.out
      obtain rfl : z = c := by have := H2.out; simpa using this
      by_cases hx0 : z = 0
      · have hq : (z != 0) = false := by simp [hx0]
        have Hx0 := Lib.hid hx0
        clear hx0
        go_wp2_with fail
        go_roundw
        case rel => exact ⟨3, x, y, z, by omega, rfl, HX.out, by have := H0.out; simpa using this, by have := H1.out; simpa using this, by rw [if_pos (by omega)]; exact (by rw [Hx0.out]; exact IsFst.null J), HT.out⟩
        case measure => simp [intOf]
      · have hq : (z != 0) = true := by simp [hx0]
        have Hx0 := Lib.hid hx0
        clear hx0
        have hcl := cliqueR_any (HJ.out.below HBw.out) jcap (by rw [Hjn.out]; omega) Hz.out z
        rw [Hjn.out] at hcl
        have Hcl := Lib.hid hcl
        clear hcl
        go_wp2_with fail
        refine Hcl.out.mono ?_
        rintro e w5 ⟨v5, L, rfl, hO, hL, hB⟩
        obtain ⟨r, L', hLe, g1, g2⟩ := cl_first (hL.2 Hx0.out)
        have hr : IsFst J z r := ⟨g1, g2⟩
        obtain ⟨s5, cap5, rfl, _, _, hU⟩ := hO.u
        have hL1 : 0 < L.length := by rw [hLe]; simp
        obtain ⟨g5, rfl, _, c5⟩ := hU 0 hL1
        have hLr : L[0] = r := by simp [hLe]
        rw [hLr] at c5
        obtain ⟨ln, hln⟩ : ∃ ln, L.length = ln := ⟨_, rfl⟩
        rw [hln] at hL1 ⊢
        have hx5 := (hB.block b0 (lt_of_heap HX.out)).trans HX.out
        have f5 := arr_frozen hx5 2
        have kk := cell_keep hB K2.out
        have Hr := Lib.hid hr; have HB := Lib.hid hB; have HX5 := Lib.hid hx5
        clear hO hL hLe g1 g2 hr hU hLr hB hln hx5 k2
        go_wp2_with fail
        go_roundw
        case rel => exact ⟨3, x, y, r, by omega, rfl, arr_set HX5.out 2 _, by have := H0.out; simpa using this, by have := H1.out; simpa using this, by rw [if_pos (by omega)]; exact Hr.out, (HT.out.trans (BodB.below HB.out)).set _⟩
        case measure => simp [intOf]
    · have kx := K0.out; have ky := K1.out; have kz := K2.out
      have hz4 := (HT.out.same _ (by have := Q2.out; have := Hb0.out; omega) (by omega)).trans HQ4.out
      obtain ⟨⟨p0, p1⟩, ⟨p2, p3⟩, ⟨p4, p5⟩, p6⟩ := row_put (a := .int .u32 x) (b := .int .u32 y) (c := .int .u32 z) hz4
      have P6 := Lib.hid p6
      clear p6 hz4
      go_wp2_with fail
      obtain ⟨g0, g1, g2⟩ := row_cells P6.out
      have hres : Try.f14.results = #[.cell 4 37] := rfl
      refine bodyPost_ret (v := .agg #[.int .u32 x, .int .u32 y, .int .u32 z]) (by simp only [results, hres]; simp [go_sem, g0, g1, g2]) rfl ?_
      refine ⟨x, y, z, rfl, ⟨by have := H0.out; simpa using this, by have := H1.out; simpa using this, by have := H2.out; simpa using this⟩, ?_⟩
      have hlow : Below w.heap.size w wr := HBw.out
      exact ((hlow.setCell (by simp; have := Hb0.out; omega) _).setCell (by simp; have := Hb0.out; omega) _).setCell (by simp; have := Hb0.out; omega) _
set_option maxRecDepth 100000 in
set_option maxHeartbeats 4000000 in
theorem many_any (h : IsQ w pv J) (ha : is32 a) (hb : is32 b) (hc : is32 c) {LA LB LC : List Int} (hA : ClL J a LA) (hB : ClL J b LB) (hC : ClL J c LC) :
    Calls Try.prog 15 #[pv, .agg #[.int .u32 a, .int .u32 b, .int .u32 c]] w fun e w' => e = .returned (.int .i64 (LA.length * LB.length * LC.length : Nat)) ∧ Below w.heap.size w w' := by
  have hAl := hA.len; have hBl := hB.len; have hCl := hC.len
  have hJl := h.2.1
  have q1 : Below w.heap.size w (w.alloc (.cells #[.int .u32 a, .int .u32 b, .int .u32 c] 37)) := (Below.refl _ w).alloc (Nat.le_refl _) _
  have q3 := World.alloc_heap_new w (.cells #[.int .u32 a, .int .u32 b, .int .u32 c] 37)
  have HQ := Lib.hid h; have Ha := Lib.hid ha; have Hb := Lib.hid hb; have Hc := Lib.hid hc; have HA := Lib.hid hA; have HB := Lib.hid hB; have HC := Lib.hid hC
  have Q1 := Lib.hid q1; have Q3 := Lib.hid q3
  obtain ⟨na, hna⟩ : ∃ na, LA.length = na := ⟨_, rfl⟩
  obtain ⟨nb, hnb⟩ : ∃ nb, LB.length = nb := ⟨_, rfl⟩
  obtain ⟨nc, hnc⟩ : ∃ nc, LC.length = nc := ⟨_, rfl⟩
  rw [hna] at hAl ⊢
  rw [hnb] at hBl ⊢
  rw [hnc] at hCl ⊢
  have Hna := Lib.hid hna; have Hnb := Lib.hid hnb; have Hnc := Lib.hid hnc
  clear h ha hb hc hA hB hC hna hnb hnc q1 q3
  obtain ⟨m2, hm2⟩ : ∃ m2, na * nb = m2 := ⟨_, rfl⟩
  obtain ⟨m3, hm3⟩ : ∃ m3, m2 * nc = m3 := ⟨_, rfl⟩
  have b2 : m2 ≤ 201 * 201 := by rw [← hm2]; exact Nat.mul_le_mul (by omega) (by omega)
  have b3 : m3 ≤ 201 * 201 * 201 := by rw [← hm3]; exact Nat.mul_le_mul b2 (by omega)
  rw [hm2, hm3]
  have e1 : IntKind.i64.wrap (1 * (na : Int)) = (na : Int) := by rw [Int.one_mul]; exact IntWalk.i64_in _ (by omega)
  have e2 : IntKind.i64.wrap ((na : Int) * (nb : Int)) = (m2 : Int) := by rw [← Int.natCast_mul, hm2]; exact IntWalk.i64_in _ (by omega)
  have e3 : IntKind.i64.wrap ((m2 : Int) * (nc : Int)) = (m3 : Int) := by rw [← Int.natCast_mul, hm3]; exact IntWalk.i64_in _ (by omega)
  have E1 := Lib.hid e1; have E2 := Lib.hid e2; have E3 := Lib.hid e3
  clear e1 e2 e3 hm2 hm3
  go_enter Try.func15, Try.ntmps15
  go_upto_region 2 with fail
  generalize w.alloc (.cells #[.int .u32 a, .int .u32 b, .int .u32 c] 37) = W2 at *
  obtain ⟨b0, hb0⟩ : ∃ b0, w.heap.size = b0 := ⟨_, rfl⟩
  have hq3 := Q3.out
  rw [hb0] at hq3 ⊢
  have k0 : W2.cell? ⟨b0, 0, none⟩ = some (.int .u32 a) := by unfold World.cell?; rw [hq3]; rfl
  have k1 : W2.cell? ⟨b0, 1, none⟩ = some (.int .u32 b) := by unfold World.cell?; rw [hq3]; rfl
  have k2 : W2.cell? ⟨b0, 2, none⟩ = some (.int .u32 c) := by unfold World.cell?; rw [hq3]; rfl
  clear hq3 hb0
  go_upto_region 3 with fail
  clear k0 k1 k2
  go_loopw [5, 9] (fun u5 u wr => ∃ (i n : Nat), i ≤ 3 ∧ u = .int .i64 i ∧ u5 = .int .i64 n ∧ (i = 0 → n = 1) ∧ (i = 1 → n = na) ∧ (i = 2 → n = m2) ∧ (i = 3 → n = m3) ∧ Below w.heap.size w wr) (fun _ u _ => 3 - (intOf u).toNat)
  case atStart => exact ⟨0, 1, by omega, rfl, rfl, fun _ => rfl, by simp, by simp, by simp, Q1.out⟩
  case round =>
    obtain ⟨i, n, hi, rfl, rfl, h0, h1, h2, h3, hT⟩ := hrel
    have HT := Lib.hid hT
    clear hT
    have hcase : i = 0 ∨ i = 1 ∨ i = 2 ∨ i = 3 := by omega
    rcases hcase with rfl | rfl | rfl | rfl
    · obtain rfl := h0 rfl
      clear h0 h1 h2 h3
      have hc := Lib.hid (cliqueQ (HQ.out.below HT.out) Ha.out)
      have hix := idx0 a b c
      go_wp2_with fail
      refine hc.out.mono ?_
      rintro e w5 ⟨v5, L, rfl, hO, hL, hB5⟩
      obtain rfl := (hL.unique HA.out (fun _ _ => Iff.rfl)).symm
      obtain ⟨s5, cap5, rfl, _⟩ := hO.u
      rw [Hna.out]
      have HB5 := Lib.hid hB5
      clear hc hO hL hB5
      have ee := E1.out
      go_wp2_with fail
      go_roundw
      case rel => exact ⟨1, na, by omega, rfl, rfl, by simp, fun _ => rfl, by simp, by simp, HT.out.trans (HB5.out.mono HT.out.size)⟩
      case measure => simp [intOf]
    · obtain rfl := h1 rfl
      clear h0 h1 h2 h3
      have hc := Lib.hid (cliqueQ (HQ.out.below HT.out) Hb.out)
      have hix := idx1 a b c
      go_wp2_with fail
      refine hc.out.mono ?_
      rintro e w5 ⟨v5, L, rfl, hO, hL, hB5⟩
      obtain rfl := (hL.unique HB.out (fun _ _ => Iff.rfl)).symm
      obtain ⟨s5, cap5, rfl, _⟩ := hO.u
      rw [Hnb.out]
      have HB5 := Lib.hid hB5
      clear hc hO hL hB5
      have ee := E2.out
      go_wp2_with fail
      go_roundw
      case rel => exact ⟨2, m2, by omega, rfl, rfl, by simp, by simp, fun _ => rfl, by simp, HT.out.trans (HB5.out.mono HT.out.size)⟩
      case measure => simp [intOf]
    · obtain rfl := h2 rfl
      clear h0 h1 h2 h3
      have hc := Lib.hid (cliqueQ (HQ.out.below HT.out) Hc.out)
      have hix := idx2 a b c
      go_wp2_with fail
      refine hc.out.mono ?_
      rintro e w5 ⟨v5, L, rfl, hO, hL, hB5⟩
      obtain rfl := (hL.unique HC.out (fun _ _ => Iff.rfl)).symm
      obtain ⟨s5, cap5, rfl, _⟩ := hO.u
      rw [Hnc.out]
      have HB5 := Lib.hid hB5
      clear hc hO hL hB5
      have ee := E3.out
      go_wp2_with fail
      go_roundw
      case rel => exact ⟨3, m3, by omega, rfl, rfl, by simp, by simp, by simp, fun _ => rfl, HT.out.trans (HB5.out.mono HT.out.size)⟩
      case measure => simp [intOf]
    · obtain rfl := h3 rfl
      clear h0 h1 h2 h3
      go_wp2_with fail
      go_ret
      exact ⟨rfl, HT.out⟩
end
end Go.Proofs.Ytghihhjcoilmgaa
