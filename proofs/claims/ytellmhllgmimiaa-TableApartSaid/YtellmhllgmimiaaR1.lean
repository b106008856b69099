/- The reference's table: a list of rows and their bits. -/
import Derived.Test.YtellmhllgmimiaaT19
namespace Go.Proofs.Ytellmhllgmimiaa
open Go.RowKit Go.Maps
set_option linter.unusedVariables false
set_option linter.unusedSimpArgs false

structure IsR (Z : Zone) (w : World) (rb : Nat) (T : TS) (vr vb : Value) : Prop where
  obj : w.heap[rb]? = some (.cells #[vr, vb] 44 (0, 0))
  own : ∀ j, Z.W rb j
  rows : Sl Z w 25 3 vr T.length (rcs T)
  rowsW : Whole Z vr
  bits : Sl Z w 32 1 vb T.length (bcs T)
  bitsW : Whole Z vb
  oks : ∀ y ∈ T, yok y
  long : T.length ≤ 1000000
  nil0 : T = [] → vr = .slice none 0 0 ∧ vb = .slice none 0 0

section
variable {Z V : Zone} {w w' : World} {rb : Nat} {T : TS} {vr vb : Value}
theorem IsR.lt (h : IsR Z w rb T vr vb) : rb < w.heap.size := (Array.getElem?_eq_some_iff.1 h.obj).1
theorem IsR.blocks (h : IsR Z w rb T vr vb) (hb : ∀ i, i < w.heap.size → w'.heap[i]? = w.heap[i]?) : IsR Z w' rb T vr vb :=
  { h with
    obj := (hb _ h.lt).trans h.obj
    rows := h.rows.stayB (fun g hg => hb g (h.rows.lt g hg).1)
    bits := h.bits.stayB (fun g hg => hb g (h.bits.lt g hg).1) }
theorem IsR.below (h : IsR Z w rb T vr vb) (hb : Below w.heap.size w w') : IsR Z w' rb T vr vb := h.blocks (fun i hi => hb.block i hi)
theorem IsR.stay (h : IsR Z w rb T vr vb) (hf : Fr V w w') (hd : ∀ i j, i < w.heap.size → Z.W i j → ¬ V.W i j) : IsR Z w' rb T vr vb :=
  { h with
    obj := (block_of hf h.obj (fun j => hd _ _ h.lt (h.own j))).trans h.obj
    rows := h.rows.stay hf (fun g j hg _ => hd g j (h.rows.lt g hg).1 (h.rowsW g hg j))
    bits := h.bits.stay hf (fun g j hg _ => hd g j (h.bits.lt g hg).1 (h.bitsW g hg j)) }
theorem IsR.cells (h : IsR Z w rb T vr vb) : w.cell? ⟨rb, 0, none⟩ = some vr ∧ w.cell? ⟨rb, 1, none⟩ = some vb ∧ ∀ j, w.frozen? ⟨rb, j, none⟩ = false := by
  unfold World.cell? World.frozen?
  simp only [h.obj]
  exact ⟨rfl, rfl, fun j => by simp⟩
theorem IsR.row (h : IsR Z w rb T vr vb) (n : Nat) (hn : n < T.length) : ∃ g cap, vr = .slice (some ⟨g, 0, none⟩) T.length cap ∧ g < w.heap.size ∧
    w.cell? ⟨g, n * 3, none⟩ = some (.int .u32 T[n].1.1) ∧ w.cell? ⟨g, n * 3 + 1, none⟩ = some (.int .u32 T[n].1.2.1) ∧ w.cell? ⟨g, n * 3 + 2, none⟩ = some (.int .u32 T[n].1.2.2) := by
  rcases h.rows.form with ⟨_, h0⟩ | ⟨g, cap, hv, _, _, hg⟩
  · omega
  · obtain ⟨h1, h2, h3⟩ := rcs_get T n hn
    exact ⟨g, cap, hv, hg, h.rows.cells (by rw [hv]; rfl) _ _ h1, h.rows.cells (by rw [hv]; rfl) _ _ h2, h.rows.cells (by rw [hv]; rfl) _ _ h3⟩
theorem IsR.bit (h : IsR Z w rb T vr vb) (n : Nat) (hn : n < T.length) : ∃ g cap, vb = .slice (some ⟨g, 0, none⟩) T.length cap ∧ g < w.heap.size ∧
    w.cell? ⟨g, n, none⟩ = some (.int .u8 T[n].2) ∧ w.frozen? ⟨g, n, none⟩ = false ∧ Z.W g n := by
  rcases h.bits.form with ⟨_, h0⟩ | ⟨g, cap, hv, _, _, hg⟩
  · omega
  · exact ⟨g, cap, hv, hg, h.bits.cells (by rw [hv]; rfl) _ _ (bcs_get T n hn), h.bits.frozen (by rw [hv]; rfl) _, h.bitsW g (by rw [hv]; rfl) n⟩

set_option maxRecDepth 100000 in
set_option maxHeartbeats 2000000 in
theorem rin_any (h : IsR Z w rb T vr vb) (n : Int) : Calls Try.prog 30 #[.pointer (some ⟨rb, 0, none⟩), .int .i64 n] w fun e w' =>
    e = .returned (.bool (decide (0 ≤ n ∧ n < T.length))) ∧ w = w' := by
  obtain ⟨c0, c1, _⟩ := h.cells
  have hl := h.rows.len (P := Try.prog) Try.underlying22 3
  clear h
  by_cases h1 : 0 ≤ n
  · have hd1 : decide (n ≥ 0) = true := by simpa using h1
    by_cases h2 : n < T.length
    · have hd2 : decide (n < (T.length : Int)) = true := by simpa using h2
      go_enter Try.func30, Try.ntmps30
      go_wp2
      go_ret
      exact ⟨congrArg (fun b => Ending.returned (.bool b)) (decide_eq_true (p := 0 ≤ n ∧ n < T.length) ⟨h1, h2⟩).symm, rfl⟩
    · have hd2 : decide (n < (T.length : Int)) = false := by simpa using h2
      go_enter Try.func30, Try.ntmps30
      go_wp2
      go_ret
      exact ⟨by first | rfl | exact congrArg (fun b => Ending.returned (.bool b)) (decide_eq_false (p := 0 ≤ n ∧ n < T.length) (fun h => by omega)).symm, rfl⟩
  · have hd1 : decide (n ≥ 0) = false := by simpa using h1
    go_enter Try.func30, Try.ntmps30
    go_wp2
    go_ret
    exact ⟨by first | rfl | exact congrArg (fun b => Ending.returned (.bool b)) (decide_eq_false (p := 0 ≤ n ∧ n < T.length) (fun h => by omega)).symm, rfl⟩

set_option maxRecDepth 100000 in
set_option maxHeartbeats 2000000 in
theorem fits_any (x s : R3) (w : World) : Calls Try.prog 10 #[rv x, rv s] w fun e w' => e = .returned (.bool (fits x s)) ∧ Below w.heap.size w w' := by
  obtain ⟨x0, x1, x2⟩ := x
  obtain ⟨s0, s1, s2⟩ := s
  simp only [rv]
  go_enter Try.func10, Try.ntmps10
  go_wp2_with fail
  obtain ⟨a0, a1, a2⟩ := bx1 w x0 x1 x2
  have hBa : Below w.heap.size w (w.alloc (.cells #[.int .u32 x0, .int .u32 x1, .int .u32 x2] 25)) := (Below.refl _ w).alloc (Nat.le_refl _) _
  have hza : (w.alloc (.cells #[.int .u32 x0, .int .u32 x1, .int .u32 x2] 25)).heap.size = w.heap.size + 1 := World.size_alloc _ _
  generalize w.alloc (.cells #[.int .u32 x0, .int .u32 x1, .int .u32 x2] 25) = Wa at *
  obtain ⟨b0, b1, b2⟩ := bx1 Wa s0 s1 s2
  have hBb : Below Wa.heap.size Wa (Wa.alloc (.cells #[.int .u32 s0, .int .u32 s1, .int .u32 s2] 25)) := (Below.refl _ Wa).alloc (Nat.le_refl _) _
  generalize Wa.alloc (.cells #[.int .u32 s0, .int .u32 s1, .int .u32 s2] 25) = Wb at *
  rw [hza] at b0 b1 b2
  have a0 := cell_later hBb a0
  have a1 := cell_later hBb a1
  have a2 := cell_later hBb a2
  have hB := hBa.trans (hBb.mono (by omega))
  clear hBa hBb hza
  go_loopw [5] (fun u wr => ∃ k : Nat, k ≤ 3 ∧ u = .int .i64 k ∧ Below w.heap.size w wr ∧ Below Wb.heap.size Wb wr ∧ (0 < k → (x0 = 0 ∨ x0 = s0)) ∧ (1 < k → (x1 = 0 ∨ x1 = s1)) ∧ (2 < k → (x2 = 0 ∨ x2 = s2))) (fun u _ => 3 - (intOf u).toNat)
  case atStart => exact ⟨0, by omega, rfl, hB, Below.refl _ _, by omega, by omega, by omega⟩
  case round =>
    obtain ⟨k, hk, rfl, hBr, hBw, h0, h1, h2⟩ := hrel
    have a0 := cell_later hBw a0
    have a1 := cell_later hBw a1
    have a2 := cell_later hBw a2
    have b0 := cell_later hBw b0
    have b1 := cell_later hBw b1
    have b2 := cell_later hBw b2
    have HBr := Lib.hid hBr; have HBw := Lib.hid hBw
    clear hBr hBw
    have hk' : k = 0 ∨ k = 1 ∨ k = 2 ∨ k = 3 := by omega
    rcases hk' with rfl | rfl | rfl | rfl
    · by_cases e : x0 = 0
      · have e1 : (x0 != 0) = false := by simpa using e
        go_wp2_with fail
        go_region
        go_wp2_with fail
        go_roundw
        case rel => exact ⟨1, by omega, rfl, HBr.out.drew, HBw.out.drew, fun _ => Or.inl e, by omega, by omega⟩
        case measure => simp [intOf]
      · have e1 : (x0 != 0) = true := by simpa using e
        by_cases e2 : x0 = s0
        · have e3 : (x0 != s0) = false := by simpa using e2
          have E2 := Lib.hid e2; clear e2
          go_wp2_with fail
          go_region
          go_wp2_with fail
          go_roundw
          case rel => exact ⟨1, by omega, rfl, HBr.out.drew, HBw.out.drew, fun _ => Or.inr E2.out, by omega, by omega⟩
          case measure => simp [intOf]
        · have e3 : (x0 != s0) = true := by simpa using e2
          have E2 := Lib.hid e2; clear e2
          go_wp2_with fail
          go_region
          go_wp2_with fail
          go_ret
          refine ⟨congrArg (fun b => Ending.returned (.bool b)) ?_, HBr.out.drew⟩
          have e2 := E2.out
          simp [fits, e, e2]
    · by_cases e : x1 = 0
      · have e1 : (x1 != 0) = false := by simpa using e
        go_wp2_with fail
        go_region
        go_wp2_with fail
        go_roundw
        case rel => exact ⟨2, by omega, rfl, HBr.out.drew, HBw.out.drew, fun _ => h0 (by omega), fun _ => Or.inl e, by omega⟩
        case measure => simp [intOf]
      · have e1 : (x1 != 0) = true := by simpa using e
        by_cases e2 : x1 = s1
        · have e3 : (x1 != s1) = false := by simpa using e2
          have E2 := Lib.hid e2; clear e2
          go_wp2_with fail
          go_region
          go_wp2_with fail
          go_roundw
          case rel => exact ⟨2, by omega, rfl, HBr.out.drew, HBw.out.drew, fun _ => h0 (by omega), fun _ => Or.inr E2.out, by omega⟩
          case measure => simp [intOf]
        · have e3 : (x1 != s1) = true := by simpa using e2
          have E2 := Lib.hid e2; clear e2
          go_wp2_with fail
          go_region
          go_wp2_with fail
          go_ret
          refine ⟨congrArg (fun b => Ending.returned (.bool b)) ?_, HBr.out.drew⟩
          have e2 := E2.out
          simp [fits, e, e2]
    · by_cases e : x2 = 0
      · have e1 : (x2 != 0) = false := by simpa using e
        go_wp2_with fail
        go_region
        go_wp2_with fail
        go_roundw
        case rel => exact ⟨3, by omega, rfl, HBr.out.drew, HBw.out.drew, fun _ => h0 (by omega), fun _ => h1 (by omega), fun _ => Or.inl e⟩
        case measure => simp [intOf]
      · have e1 : (x2 != 0) = true := by simpa using e
        by_cases e2 : x2 = s2
        · have e3 : (x2 != s2) = false := by simpa using e2
          have E2 := Lib.hid e2; clear e2
          go_wp2_with fail
          go_region
          go_wp2_with fail
          go_roundw
          case rel => exact ⟨3, by omega, rfl, HBr.out.drew, HBw.out.drew, fun _ => h0 (by omega), fun _ => h1 (by omega), fun _ => Or.inr E2.out⟩
          case measure => simp [intOf]
        · have e3 : (x2 != s2) = true := by simpa using e2
          have E2 := Lib.hid e2; clear e2
          go_wp2_with fail
          go_region
          go_wp2_with fail
          go_ret
          refine ⟨congrArg (fun b => Ending.returned (.bool b)) ?_, HBr.out.drew⟩
          have e2 := E2.out
          simp [fits, e, e2]
    · go_wp2_with fail
      go_ret
      refine ⟨congrArg (fun b => Ending.returned (.bool b)) ?_, HBr.out⟩
      have h0 := h0 (by omega); have h1 := h1 (by omega); have h2 := h2 (by omega)
      simp [fits, h0, h1, h2]
end
end Go.Proofs.Ytellmhllgmimiaa
