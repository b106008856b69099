/- rewrite's Own: those that stand for a row's numbers. -/
import Derived.Test.YtghihhjcoilmgaaW3
namespace Go.Proofs.Ytghihhjcoilmgaa
set_option maxRecDepth 100000
open Go.RowKit Go.Maps
set_option linter.unusedVariables false
set_option linter.unusedSimpArgs false
attribute [local go_sem] Oper.semAt_some

theorem eqU (a b : Int) (w : World) (d : Nat) : (Op.equalIn (d + 1) 31 (.int .u32 a) (.int .u32 b)).run Try.prog w = .ok (a == b) w := by
  simp [Op.equalIn, run_underlying Try.underlying31, Result.andThen]
theorem partU (a0 a1 a2 : Int) (w : World) :
    (Go.part 31 #[.int .u32 a0, .int .u32 a1, .int .u32 a2] 0).run Try.prog w = .ok (.int .u32 a0) w ∧
    (Go.part 31 #[.int .u32 a0, .int .u32 a1, .int .u32 a2] 1).run Try.prog w = .ok (.int .u32 a1) w ∧
    (Go.part 31 #[.int .u32 a0, .int .u32 a1, .int .u32 a2] 2).run Try.prog w = .ok (.int .u32 a2) w := ⟨by rfl, by rfl, by rfl⟩
theorem Try.cellsU : Try.prog.cellsOf 31 = 1 := by kernel_rfl
theorem eqRw (a0 a1 a2 b0 b1 b2 : Int) (w : World) :
    (Op.equalIn 10000 37 (.agg #[.int .u32 a0, .int .u32 a1, .int .u32 a2]) (.agg #[.int .u32 b0, .int .u32 b1, .int .u32 b2])).run Try.prog w = .ok (a0 == b0 && (a1 == b1 && a2 == b2)) w := by
  obtain ⟨i, hi, _⟩ := info_parts Try.info32
  rw [run_equalIn_array w 9999 _ _ Try.underlying37 hi, Try.cellsU]
  obtain ⟨p0, p1, p2⟩ := partU a0 a1 a2 w
  obtain ⟨q0, q1, q2⟩ := partU b0 b1 b2 w
  simp only [show List.range 3 = [0, 1, 2] from rfl, Op.eqItems, Sem.run_bind, Nat.mul_one, p0, p1, p2, q0, q1, q2, Result.andThen_ok, eqU _ _ _ 9998]
  cases h0 : (a0 == b0) <;> cases h1 : (a1 == b1) <;> cases h2 : (a2 == b2) <;> simp [Sem.run_bind, Result.andThen, q1, q2, p1, p2, eqU _ _ _ 9998, h0, h1, h2]
theorem eqRw_same (a b c : Int) : ∀ w, (Op.equalIn 10000 37 (.agg #[.int .u32 a, .int .u32 b, .int .u32 c]) (.agg #[.int .u32 a, .int .u32 b, .int .u32 c])).run Try.prog w = .ok true w := fun w => by
  rw [eqRw]; simp
theorem idx0 (a b c : Int) (w : World) : (Instr.index 37 (.agg #[.int .u32 a, .int .u32 b, .int .u32 c]) (.int .i64 0)).run Try.prog w = .ok (.int .u32 a) w := by rfl
theorem idx1 (a b c : Int) (w : World) : (Instr.index 37 (.agg #[.int .u32 a, .int .u32 b, .int .u32 c]) (.int .i64 1)).run Try.prog w = .ok (.int .u32 b) w := by rfl
theorem idx2 (a b c : Int) (w : World) : (Instr.index 37 (.agg #[.int .u32 a, .int .u32 b, .int .u32 c]) (.int .i64 2)).run Try.prog w = .ok (.int .u32 c) w := by rfl
/-- a row that is written whole -/
theorem row_put {w : World} {g : Nat} {x y z a b c : Value} {t : TypeId} (h : w.heap[g]? = some (.cells #[x, y, z] t (0, 0))) :
    (w.cell? ⟨g, 0, none⟩ = some x ∧ w.frozen? ⟨g, 0, none⟩ = false) ∧ ((w.setCell ⟨g, 0, none⟩ a).cell? ⟨g, 1, none⟩ = some y ∧ (w.setCell ⟨g, 0, none⟩ a).frozen? ⟨g, 1, none⟩ = false) ∧
    (((w.setCell ⟨g, 0, none⟩ a).setCell ⟨g, 1, none⟩ b).cell? ⟨g, 2, none⟩ = some z ∧ ((w.setCell ⟨g, 0, none⟩ a).setCell ⟨g, 1, none⟩ b).frozen? ⟨g, 2, none⟩ = false) ∧
    (((w.setCell ⟨g, 0, none⟩ a).setCell ⟨g, 1, none⟩ b).setCell ⟨g, 2, none⟩ c).heap[g]? = some (.cells #[a, b, c] t (0, 0)) := by
  have h1 := arr_set h 0 a
  have h2 := arr_set h1 1 b
  have h3 := arr_set h2 2 c
  simp only [List.setIfInBounds_toArray, List.set_cons_zero, List.set_cons_succ] at h1 h2 h3
  refine ⟨⟨?_, arr_frozen h 0⟩, ⟨?_, arr_frozen h1 1⟩, ⟨?_, arr_frozen h2 2⟩, h3⟩
  · unfold World.cell?; rw [h]; rfl
  · unfold World.cell?; rw [h1]; rfl
  · unfold World.cell?; rw [h2]; rfl
theorem row_cells {W : World} {nb : Nat} {a b c : Value} {t : TypeId} {fz : Nat × Nat} (h : W.heap[nb]? = some (.cells #[a, b, c] t fz)) : W.cell? ⟨nb, 0, none⟩ = some a ∧ W.cell? ⟨nb, 1, none⟩ = some b ∧ W.cell? ⟨nb, 2, none⟩ = some c := by
  unfold World.cell?
  rw [h]
  exact ⟨rfl, rfl, rfl⟩
section
variable {w : World} {pv : Value} {J : Jn} {a b c : Int}
set_option maxRecDepth 100000 in
set_option maxHeartbeats 4000000 in
theorem own_any (h : IsQ w pv J) (ha : is32 a) (hb : is32 b) (hc : is32 c) :
    Calls Try.prog 12 #[pv, .agg #[.int .u32 a, .int .u32 b, .int .u32 c]] w fun e w' => ∃ x y z, e = .returned (.agg #[.int .u32 x, .int .u32 y, .int .u32 z]) ∧ (IsFst J a x ∧ IsFst J b y ∧ IsFst J c z) ∧ Below w.heap.size w w' := by
  obtain ⟨q1, q2, q3, q4⟩ := two_blocks w (.cells #[.int .u32 a, .int .u32 b, .int .u32 c] 37) (.cells #[.int .u32 0, .int .u32 0, .int .u32 0] 37) _ rfl
  have HQ := Lib.hid h; have Ha := Lib.hid ha; have Hb := Lib.hid hb; have Hc := Lib.hid hc
  have Q1 := Lib.hid q1; have Q2 := Lib.hid q2; have Q3 := Lib.hid q3; have Q4 := Lib.hid q4
  clear h ha hb hc q1 q2 q3 q4
  go_enter Try.func12, Try.ntmps12
  go_upto_region 1 with fail
  generalize (w.alloc (.cells #[.int .u32 a, .int .u32 b, .int .u32 c] 37)).alloc (.cells #[.int .u32 0, .int .u32 0, .int .u32 0] 37) = W2 at *
  obtain ⟨b0, hb0⟩ : ∃ b0, w.heap.size = b0 := ⟨_, rfl⟩
  have hq3 := Q3.out; have hq4 := Q4.out
  rw [hb0] at hq3 hq4
  have k0 : W2.cell? ⟨b0, 0, none⟩ = some (.int .u32 a) := by unfold World.cell?; rw [hq3]; rfl
  have k1 : W2.cell? ⟨b0, 1, none⟩ = some (.int .u32 b) := by unfold World.cell?; rw [hq3]; rfl
  have k2 : W2.cell? ⟨b0, 2, none⟩ = some (.int .u32 c) := by unfold World.cell?; rw [hq3]; rfl
  have HQ3 := Lib.hid hq3; have HQ4 := Lib.hid hq4; have Hb0 := Lib.hid hb0
  rw [hb0] at ⊢
  clear hq3 hq4 hb0 Q3 Q4
  go_upto_region 2 with fail
  clear k0 k1 k2
  go_loopw [8] (fun u wr => ∃ (i : Nat) (x y z : Int), i ≤ 3 ∧ u = .int .i64 i ∧ wr.heap[b0]? = some (.cells #[.int .u32 x, .int .u32 y, .int .u32 z] 37 (0, 0)) ∧ (if 0 < i then IsFst J a x else x = a) ∧ (if 1 < i then IsFst J b y else y = b) ∧ (if 2 < i then IsFst J c z else z = c) ∧ BodB W2 wr b0) (fun u _ => 3 - (intOf u).toNat)
  case atStart => exact ⟨0, a, b, c, by omega, rfl, HQ3.out, by simp, by simp, by simp, BodB.refl _ _⟩
  case round =>
    obtain ⟨i, x, y, z, hi, rfl, hx, h0, h1, h2, hT⟩ := hrel
    have hBw : Below w.heap.size w wr := Q1.out.trans (hT.lower Q1.out.size (by have := Hb0.out; omega))
    have HX := Lib.hid hx; have H0 := Lib.hid h0; have H1 := Lib.hid h1; have H2 := Lib.hid h2; have HT := Lib.hid hT; have HBw := Lib.hid hBw
    have k0 : wr.cell? ⟨b0, 0, none⟩ = some (.int .u32 x) := by unfold World.cell?; rw [hx]; rfl
    have k1 : wr.cell? ⟨b0, 1, none⟩ = some (.int .u32 y) := by unfold World.cell?; rw [hx]; rfl
    have k2 : wr.cell? ⟨b0, 2, none⟩ = some (.int .u32 z) := by unfold World.cell?; rw [hx]; rfl
    have f0 := arr_frozen hx
    have K0 := Lib.hid k0; have K1 := Lib.hid k1; have K2 := Lib.hid k2; have F0 := Lib.hid f0
    clear hx h0 h1 h2 hT hBw k0 k1 k2 f0
    have hcase : i = 0 ∨ i = 1 ∨ i = 2 ∨ i = 3 := by omega
    rcases hcase with rfl | rfl | rfl | rfl
    · have hf := findQ (HQ.out.below HBw.out) Ha.out
      have hf := Lib.hid hf
      have hix := idx0 a b c
      go_wp2_with fail
      refine hf.out.mono ?_
      rintro e w1 ⟨⟨r, rfl, hr32, hr⟩, rfl⟩
      have Hr := Lib.hid hr
      have kk := K0.out
      have ff := F0.out 0
      clear hf hr hr32
      go_wp2_with fail
      go_roundw
      case rel => exact ⟨1, r, y, z, by omega, rfl, arr_set HX.out 0 _, by rw [if_pos (by omega)]; exact Hr.out, by have := H1.out; simpa using this, by have := H2.out; simpa using this, HT.out.set _⟩
      case measure => simp [intOf]
    · have hf := findQ (HQ.out.below HBw.out) Hb.out
      have hf := Lib.hid hf
      have hix := idx1 a b c
      go_wp2_with fail
      refine hf.out.mono ?_
      rintro e w1 ⟨⟨r, rfl, hr32, hr⟩, rfl⟩
      have Hr := Lib.hid hr
      have kk := K1.out
      have ff := F0.out 1
      clear hf hr hr32
      go_wp2_with fail
      go_roundw
      case rel => exact ⟨2, x, r, z, by omega, rfl, arr_set HX.out 1 _, by have := H0.out; simpa using this, by rw [if_pos (by omega)]; exact Hr.out, by have := H2.out; simpa using this, HT.out.set _⟩
      case measure => simp [intOf]
    · have hf := findQ (HQ.out.below HBw.out) Hc.out
      have hf := Lib.hid hf
      have hix := idx2 a b c
      go_wp2_with fail
      refine hf.out.mono ?_
      rintro e w1 ⟨⟨r, rfl, hr32, hr⟩, rfl⟩
      have Hr := Lib.hid hr
      have kk := K2.out
      have ff := F0.out 2
      clear hf hr hr32
      go_wp2_with fail
      go_roundw
      case rel => exact ⟨3, x, y, r, by omega, rfl, arr_set HX.out 2 _, by have := H0.out; simpa using this, by have := H1.out; simpa using this, by rw [if_pos (by omega)]; exact Hr.out, HT.out.set _⟩
      case measure => simp [intOf]
    · have kx := K0.out; have ky := K1.out; have kz := K2.out
      have hz4 := (HT.out.same _ (by have := Q2.out; have := Hb0.out; omega) (by omega)).trans HQ4.out
      obtain ⟨⟨p0, p1⟩, ⟨p2, p3⟩, ⟨p4, p5⟩, p6⟩ := row_put (a := .int .u32 x) (b := .int .u32 y) (c := .int .u32 z) hz4
      have P6 := Lib.hid p6
      clear p6 hz4
      go_wp2_with fail
      obtain ⟨g0, g1, g2⟩ := row_cells P6.out
      have hres : Try.f12.results = #[.cell 4 37] := rfl
      refine bodyPost_ret (v := .agg #[.int .u32 x, .int .u32 y, .int .u32 z]) (by simp only [results, hres]; simp [go_sem, g0, g1, g2]) rfl ?_
      refine ⟨x, y, z, rfl, ⟨by have := H0.out; simpa using this, by have := H1.out; simpa using this, by have := H2.out; simpa using this⟩, ?_⟩
      have hlow : Below w.heap.size w wr := HBw.out
      exact ((hlow.setCell (by simp; have := Hb0.out; omega) _).setCell (by simp; have := Hb0.out; omega) _).setCell (by simp; have := Hb0.out; omega) _
end
end Go.Proofs.Ytghihhjcoilmgaa
