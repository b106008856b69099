/- list: the rows that a look fits, and whether it is one of the lists. -/
import Derived.Test.YtellmhllgmimiaaT14e
namespace Go.Proofs.Ytellmhllgmimiaa
open Go.RowKit Go.Maps
set_option linter.unusedVariables false
set_option linter.unusedSimpArgs false

section
variable {Z : Zone} {w : World} {tb : Nat} {T : TS} {D : TabD}

theorem bx1 (w : World) (x0 x1 x2 : Int) : (w.alloc (.cells #[.int .u32 x0, .int .u32 x1, .int .u32 x2] 25)).cell? ⟨w.heap.size, 0, none⟩ = some (.int .u32 x0) ∧
    (w.alloc (.cells #[.int .u32 x0, .int .u32 x1, .int .u32 x2] 25)).cell? ⟨w.heap.size, 1, none⟩ = some (.int .u32 x1) ∧
    (w.alloc (.cells #[.int .u32 x0, .int .u32 x1, .int .u32 x2] 25)).cell? ⟨w.heap.size, 2, none⟩ = some (.int .u32 x2) := by
  unfold World.cell?
  rw [show (w.alloc (.cells #[.int .u32 x0, .int .u32 x1, .int .u32 x2] 25)).heap[w.heap.size]? = _ from World.alloc_heap_new w _]
  exact ⟨rfl, rfl, rfl⟩

set_option maxRecDepth 100000 in
set_option maxHeartbeats 1000000 in
theorem list_all (w : World) (tb : Nat) :
    Calls Try.prog 25 #[.pointer (some ⟨tb, 0, none⟩), rv (0, 0, 0)] w fun e w' => e = .returned (.tuple #[nilS, .bool false]) ∧ Below w.heap.size w w' := by
  simp only [rv]
  have hB : Below w.heap.size w (w.alloc (.cells #[.int .u32 0, .int .u32 0, .int .u32 0] 25)) := (Below.refl _ w).alloc (Nat.le_refl _) _
  have he := eqRow 0 0 0 0 0 0
  rw [show ((0 : Int) == 0 && ((0 : Int) == 0 && (0 : Int) == 0)) = true from rfl] at he
  obtain ⟨r0, r1, r2⟩ := bx1 w 0 0 0
  go_enter Try.func25, Try.ntmps25
  go_wp2_with fail
  go_ret2
  exact ⟨rfl, hB⟩

set_option maxRecDepth 100000 in
set_option maxHeartbeats 1000000 in
theorem list_some (h : IsT Z w tb T D) (x0 x1 x2 : Int) (hro : rok (x0, x1, x2)) (hl : look2 (x0, x1, x2) = true) :
    Calls Try.prog 25 #[.pointer (some ⟨tb, 0, none⟩), rv (x0, x1, x2)] w fun e w' => e = .returned (.tuple #[(D.mb (x0, x1, x2)).getD nilS, .bool true]) ∧ Below w.heap.size w w' := by
  simp only [rv]
  have hB : Below w.heap.size w (w.alloc (.cells #[.int .u32 x0, .int .u32 x1, .int .u32 x2] 25)) := (Below.refl _ w).alloc (Nat.le_refl _) _
  have he := eqRow x0 x1 x2 0 0 0
  rw [show (x0 == 0 && (x1 == 0 && x2 == 0)) = false by
    simp only [look2, Bool.and_eq_true, Bool.or_eq_true, bne_iff_ne, beq_iff_eq] at hl
    cases e0 : (x0 == 0) <;> cases e1 : (x1 == 0) <;> cases e2 : (x2 == 0) <;> simp_all] at he
  obtain ⟨r0, r1, r2⟩ := bx1 w x0 x1 x2
  have h3 : has3 x0 x1 x2 0 = true := by
    simp only [look2, Bool.and_eq_true, Bool.or_eq_true, beq_iff_eq] at hl
    simp only [has3, Bool.or_eq_true, beq_iff_eq]
    rcases hl.1 with (h | h) | h <;> simp [h]
  have hI := h.below hB
  have c3 := hI.c3
  have hq : ∀ w', Below w.heap.size w w' → (Instr.lookup 57 (.map (some D.bb)) (.agg #[.int .u32 x0, .int .u32 x1, .int .u32 x2]) false).run Try.prog w' = .ok ((D.mb (x0, x1, x2)).getD nilS) w' := by
    intro w' hb
    have := (h.below hb).by_.look kysR Try.underlying57 (Try.zeroInts _) false hro
    cases hm : D.mb (x0, x1, x2) with
    | none => rw [hm] at this; exact this
    | some v => rw [hm] at this; exact this
  have hq1 := hq _ hB
  have hq2 := hq _ hB.drew
  clear hq
  generalize hW : w.alloc (.cells #[.int .u32 x0, .int .u32 x1, .int .u32 x2] 25) = W at *
  have cc := Lib.hid (contains3 _ _ x0 x1 x2 0 r0 r1 r2)
  rw [h3] at cc
  clear hI h
  go_enter Try.func25, Try.ntmps25
  go_wp2_with (go_at_call 21; refine cc.out.mono ?_; rintro e w' ⟨rfl, rfl⟩)
  go_region
  go_wp2_with fail
  go_ret2
  exact ⟨rfl, hB.drew⟩

set_option maxRecDepth 100000 in
set_option maxHeartbeats 1000000 in
theorem list_one (h : IsT Z w tb T D) (x0 x1 x2 : Int) (hro : rok (x0, x1, x2)) (h3 : has3 x0 x1 x2 0 = false) :
    Calls Try.prog 25 #[.pointer (some ⟨tb, 0, none⟩), rv (x0, x1, x2)] w fun e w' => Below w.heap.size w w' ∧
      ((idx T (x0, x1, x2) = none ∧ e = .returned (.tuple #[nilS, .bool true])) ∨
       ∃ n g, idx T (x0, x1, x2) = some n ∧ e = .returned (.tuple #[.slice (some ⟨g, 0, none⟩) 1 1, .bool true]) ∧ w'.cell? ⟨g, 0, none⟩ = some (.int .i64 (n : Nat))) := by
  simp only [rv]
  have hB : Below w.heap.size w (w.alloc (.cells #[.int .u32 x0, .int .u32 x1, .int .u32 x2] 25)) := (Below.refl _ w).alloc (Nat.le_refl _) _
  have he := eqRow x0 x1 x2 0 0 0
  rw [show (x0 == 0 && (x1 == 0 && x2 == 0)) = false by
    simp only [has3, Bool.or_eq_false_iff, beq_eq_false_iff_ne] at h3
    have : (x0 == 0) = false := by simpa using Ne.symm h3.1.1
    rw [this]; rfl] at he
  obtain ⟨r0, r1, r2⟩ := bx1 w x0 x1 x2
  have hI := h.below hB
  have c3 := hI.c2
  cases hi : idx T (x0, x1, x2) with
  | none =>
    have hq : ∀ w', Below w.heap.size w w' → (Instr.lookup 56 (.map (some D.bf)) (.agg #[.int .u32 x0, .int .u32 x1, .int .u32 x2]) true).run Try.prog w' = .ok (.tuple #[.int .i64 0, .bool false]) w' := by
      intro w' hb
      have := (h.below hb).find.look kysR Try.underlying56 (Try.zeroInt _) true hro
      simp only [idxF, hi] at this
      exact this
    have hq1 := hq _ hB
    have hq2 := hq _ hB.drew
    clear hq
    generalize hW : w.alloc (.cells #[.int .u32 x0, .int .u32 x1, .int .u32 x2] 25) = W at *
    have cc := Lib.hid (contains3 _ _ x0 x1 x2 0 r0 r1 r2)
    rw [h3] at cc
    clear hI h
    go_enter Try.func25, Try.ntmps25
    go_wp2_with (go_at_call 21; refine cc.out.mono ?_; rintro e w' ⟨rfl, rfl⟩)
    go_region
    go_wp2_with fail
    go_ret2
    exact ⟨hB.drew, .inl ⟨trivial, rfl⟩⟩
  | some n =>
    have hq : ∀ w', Below w.heap.size w w' → (Instr.lookup 56 (.map (some D.bf)) (.agg #[.int .u32 x0, .int .u32 x1, .int .u32 x2]) true).run Try.prog w' = .ok (.tuple #[.int .i64 n, .bool true]) w' := by
      intro w' hb
      have := (h.below hb).find.look kysR Try.underlying56 (Try.zeroInt _) true hro
      simp only [idxF, hi] at this
      exact this
    have hq1 := hq _ hB
    have hq2 := hq _ hB.drew
    clear hq
    generalize hW : w.alloc (.cells #[.int .u32 x0, .int .u32 x1, .int .u32 x2] 25) = W at *
    have cc := Lib.hid (contains3 _ _ x0 x1 x2 0 r0 r1 r2)
    rw [h3] at cc
    clear hI h
    go_enter Try.func25, Try.ntmps25
    go_wp2_with (go_at_call 21; refine cc.out.mono ?_; rintro e w' ⟨rfl, rfl⟩)
    go_region
    go_wp2_with fail
    go_ret2
    refine ⟨(hB.alloc (by have := hB.size; omega) _).drew, .inr ⟨n, W.heap.size, rfl, rfl, ?_⟩⟩
    exact (cell_new1 W (.int .i64 n) 3).1
end
end Go.Proofs.Ytellmhllgmimiaa
