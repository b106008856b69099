/- The table's rows: in, Get, Find, Distinct. -/
import Derived.Test.YtellmhllgmimiaaT1
namespace Go.Proofs.Ytellmhllgmimiaa
open Go.RowKit Go.Maps
set_option linter.unusedVariables false

section
variable {Z : Zone} {w : World} {tb : Nat} {T : TS} {D : TabD}

set_option maxHeartbeats 400000 in
theorem in_yes (h : IsT Z w tb T D) (n : Nat) (hn : n < T.length) : Calls Try.prog 27 #[.pointer (some ⟨tb, 0, none⟩), .int .i64 n] w fun e w' => e = .returned (.bool true) ∧ w = w' := by
  have c0 := h.c0
  have hl := h.long
  have hth := Lib.hid (there_any h)
  obtain ⟨l, hll⟩ : ∃ l, T.length = l := ⟨_, rfl⟩
  have hs := h.rows.form
  rw [hll] at hs hn hl
  clear h hll
  rcases hs with ⟨hv, hn0⟩ | ⟨g, cap, hv, _, _, _⟩
  · omega
  · rw [hv] at c0
    clear hv
    go_enter Try.func27, Try.ntmps27
    go_wp2_with (go_at_call 20; refine hth.out.mono ?_; rintro e w' ⟨rfl, rfl⟩)
    go_ret
    exact ⟨rfl, rfl⟩

set_option maxHeartbeats 400000 in
theorem in_no (h : IsT Z w tb T D) (n : Int) (hn : n < 0 ∨ T.length ≤ n) : Calls Try.prog 27 #[.pointer (some ⟨tb, 0, none⟩), .int .i64 n] w fun e w' => e = .returned (.bool false) ∧ w = w' := by
  have c0 := h.c0
  have hl := h.long
  have hth := Lib.hid (there_any h)
  obtain ⟨l, hll⟩ : ∃ l, T.length = l := ⟨_, rfl⟩
  have hs := h.rows.form
  rw [hll] at hs hn hl
  clear h hll
  rcases hs with ⟨hv, hn0⟩ | ⟨g, cap, hv, _, _, _⟩ <;> rcases hn with hn | hn
  all_goals
    rw [hv] at c0
    clear hv
    go_enter Try.func27, Try.ntmps27
    go_wp2_with (go_at_call 20; refine hth.out.mono ?_; rintro e w' ⟨rfl, rfl⟩)
    all_goals (go_ret; first | exact ⟨rfl, rfl⟩ | exact ⟨congrArg (fun b => Ending.returned (.bool b)) (decide_eq_false (p := n < (0 : Int)) (by omega)), rfl⟩ | exact ⟨congrArg (fun b => Ending.returned (.bool b)) (decide_eq_false (p := n < (l : Int)) (by omega)), rfl⟩)

theorem IsG.row {ff : R3 → Option Value} {ls : R3 → List Nat} {L : Int} {fa : Nat → Int → Option Value} (h : IsG Z w tb T ff ls L fa D) (n : Nat) (hn : n < T.length) : ∃ g cap, D.vr = .slice (some ⟨g, 0, none⟩) T.length cap ∧ g < w.heap.size ∧
    w.cell? ⟨g, n * 3, none⟩ = some (.int .u32 T[n].1.1) ∧ w.cell? ⟨g, n * 3 + 1, none⟩ = some (.int .u32 T[n].1.2.1) ∧ w.cell? ⟨g, n * 3 + 2, none⟩ = some (.int .u32 T[n].1.2.2) := by
  rcases h.rows.form with ⟨_, h0⟩ | ⟨g, cap, hv, _, _, hg⟩
  · omega
  · obtain ⟨h1, h2, h3⟩ := rcs_get T n hn
    exact ⟨g, cap, hv, hg, h.rows.cells (by rw [hv]; rfl) _ _ h1, h.rows.cells (by rw [hv]; rfl) _ _ h2, h.rows.cells (by rw [hv]; rfl) _ _ h3⟩
theorem IsG.bit {ff : R3 → Option Value} {ls : R3 → List Nat} {L : Int} {fa : Nat → Int → Option Value} (h : IsG Z w tb T ff ls L fa D) (n : Nat) (hn : n < T.length) : ∃ g cap, D.vb = .slice (some ⟨g, 0, none⟩) T.length cap ∧ g < w.heap.size ∧
    w.cell? ⟨g, n, none⟩ = some (.int .u8 T[n].2) ∧ w.frozen? ⟨g, n, none⟩ = false ∧ Z.W g n := by
  rcases h.bits.form with ⟨_, h0⟩ | ⟨g, cap, hv, _, _, hg⟩
  · omega
  · exact ⟨g, cap, hv, hg, h.bits.cells (by rw [hv]; rfl) _ _ (bcs_get T n hn), h.bits.frozen (by rw [hv]; rfl) _, h.bitsW g (by rw [hv]; rfl) n⟩

theorem Try.sizeRow : (Try.prog.info? 25).map (·.size) = some 3 := by kernel_rfl
theorem load_row (w : World) (g : Nat) (a b c : Int) (fr : Nat × Nat) (t : TypeId) (hg : w.heap[g]? = some (.cells #[.int .u32 a, .int .u32 b, .int .u32 c] t fr)) :
    (loadVar 25 ⟨g, 0, none⟩).run Try.prog w = .ok (rv (a, b, c)) w :=
  run_loadVar_row _ _ _ _ _ _ _ hg Try.underlying25 rfl Try.sizeRow

set_option maxHeartbeats 1000000 in
theorem get_yes (h : IsT Z w tb T D) (n : Nat) (hn : n < T.length) : Calls Try.prog 33 #[.pointer (some ⟨tb, 0, none⟩), .int .i64 n] w fun e w' =>
    e = .returned (.tuple #[rv T[n].1, .int .u8 T[n].2]) ∧ Below w.heap.size w w' := by
  have c0 := h.c0
  have c1 := h.c1
  have hl := h.long
  obtain ⟨gr, capr, hr, hgr, r0, r1, r2⟩ := h.row n hn
  obtain ⟨gb, capb, hb, hgb, b0, _, _⟩ := h.bit n hn
  rw [hr] at c0
  rw [hb] at c1
  have hlt := h.lt
  have hin := fun w' hb => Lib.hid (in_yes (h.below (w' := w') hb) n hn)
  obtain ⟨y, hy⟩ : ∃ y, T[n] = y := ⟨_, rfl⟩
  obtain ⟨⟨y1, y2, y3⟩, y4⟩ := y
  simp only [hy] at r0 r1 r2 b0 ⊢
  obtain ⟨l, hll⟩ : ∃ l, T.length = l := ⟨_, rfl⟩
  rw [hll] at c0 c1 hn hl
  clear h hll hr hb hy
  go_enter Try.func33, Try.ntmps33
  have hb0 : Below w.heap.size w (w.alloc (.cells #[.int .u32 0, .int .u32 0, .int .u32 0] 25)) := (Below.refl _ w).alloc (Nat.le_refl _) _
  go_wp2_with (go_at_call 27; refine (hin _ hb0).out.mono ?_; rintro e w' ⟨rfl, rfl⟩)
  have n1 := World.new_ne w _ c0
  have n2 := World.new_ne w _ r0
  have n3 := World.new_ne w _ b0
  clear hin
  go_region_held3 (fun w' => w'.cell? ⟨tb, 0, none⟩ = some (.slice (some ⟨gr, 0, none⟩) l capr) ∧ w'.cell? ⟨tb, 1, none⟩ = some (.slice (some ⟨gb, 0, none⟩) l capb) ∧ w'.cell? ⟨gr, n * 3, none⟩ = some (.int .u32 y1) ∧ w'.cell? ⟨gr, n * 3 + 1, none⟩ = some (.int .u32 y2) ∧ w'.cell? ⟨gr, n * 3 + 2, none⟩ = some (.int .u32 y3) ∧ w'.cell? ⟨gb, n, none⟩ = some (.int .u8 y4)) (go_keep) (fail)
  all_goals go_wp2
  all_goals
    refine bodyPost_ret (v := .tuple #[rv (y1, y2, y3), .int .u8 y4]) ?_ rfl ⟨rfl, ((Below.refl _ w).alloc (Nat.le_refl _) _).drew⟩
    rw [results_cell_tmp rfl]
    show ((asAddr (.pointer (some ⟨w.heap.size, 0, none⟩))).run _ _).andThen _ = _
    simp only [asAddr, Sem.run_pure, Result.andThen_ok]
    rw [load_row (World.drew (w.alloc (.cells #[.int .u32 y1, .int .u32 y2, .int .u32 y3] 25))) w.heap.size y1 y2 y3 (0, 0) 25 (heap_alloc_new w _)]
    rfl

set_option maxHeartbeats 1000000 in
theorem get_no (h : IsT Z w tb T D) (n : Int) (hn : n < 0 ∨ T.length ≤ n) : Calls Try.prog 33 #[.pointer (some ⟨tb, 0, none⟩), .int .i64 n] w fun e w' =>
    e = .returned (.tuple #[rv (0, 0, 0), .int .u8 0]) ∧ Below w.heap.size w w' := by
  have hin := fun w' hb => Lib.hid (in_no (h.below (w' := w') hb) n hn)
  clear h hn
  go_enter Try.func33, Try.ntmps33
  have hb0 : Below w.heap.size w (w.alloc (.cells #[.int .u32 0, .int .u32 0, .int .u32 0] 25)) := (Below.refl _ w).alloc (Nat.le_refl _) _
  go_wp2_with (go_at_call 27; refine (hin _ hb0).out.mono ?_; rintro e w' ⟨rfl, rfl⟩)
  refine bodyPost_ret (v := .tuple #[rv (0, 0, 0), .int .u8 0]) ?_ rfl ⟨rfl, ((Below.refl _ w).alloc (Nat.le_refl _) _)⟩
  rw [results_cell_tmp rfl]
  show ((asAddr (.pointer (some ⟨w.heap.size, 0, none⟩))).run _ _).andThen _ = _
  simp only [asAddr, Sem.run_pure, Result.andThen_ok]
  rw [load_row (w.alloc (.cells #[.int .u32 0, .int .u32 0, .int .u32 0] 25)) w.heap.size 0 0 0 (0, 0) 25 (heap_alloc_new w _)]
  rfl

theorem Try.zeroInt (w : World) : (zeroValue 3).run Try.prog w = .ok (.int .i64 0) w := by kernel_rfl

set_option maxHeartbeats 1000000 in
theorem find_yes (h : IsT Z w tb T D) (r : R3) (hr : rok r) (n : Nat) (hn : idx T r = some n) : Calls Try.prog 31 #[.pointer (some ⟨tb, 0, none⟩), rv r] w fun e w' =>
    e = .returned (.tuple #[.int .i64 n, .bool true]) ∧ Below w.heap.size w w' := by
  have c2 := h.c2
  have hlt := h.lt
  have hth := fun w' hb => Lib.hid (there_any (h.below (w' := w') hb))
  have hfi := fun w' hb => Lib.hid (h.below (w' := w') hb).find
  obtain ⟨a, b, c⟩ := r
  clear h
  simp only [rv]
  go_enter Try.func31, Try.ntmps31
  have hb0 : Below w.heap.size w (w.alloc (.cells #[.int .u32 a, .int .u32 b, .int .u32 c] 25)) := (Below.refl _ w).alloc (Nat.le_refl _) _
  have hq : ∀ w', Below w.heap.size w w' → (Instr.lookup 56 (.map (some D.bf)) (.agg #[.int .u32 a, .int .u32 b, .int .u32 c]) true).run Try.prog w' = .ok (.tuple #[.int .i64 n, .bool true]) w' := by
    intro w' hb
    have := (hfi w' hb).out.look kysR Try.underlying56 (Try.zeroInt _) true hr
    simp only [idxF, hn] at this
    exact this
  have hq1 := hq _ hb0.drew
  have hq2 := hq _ hb0
  clear hq
  go_wp2_with (go_at_call 20; refine (hth _ hb0).out.mono ?_; rintro e w' ⟨rfl, rfl⟩)
  clear hth hfi hn hr
  go_region
  all_goals (go_wp2; go_ret2; exact ⟨rfl, hb0.drew⟩)

set_option maxHeartbeats 1000000 in
theorem find_no (h : IsT Z w tb T D) (r : R3) (hr : rok r) (hn : idx T r = none) : Calls Try.prog 31 #[.pointer (some ⟨tb, 0, none⟩), rv r] w fun e w' =>
    e = .returned (.tuple #[.int .i64 (-1), .bool false]) ∧ Below w.heap.size w w' := by
  have c2 := h.c2
  have hlt := h.lt
  have hth := fun w' hb => Lib.hid (there_any (h.below (w' := w') hb))
  have hfi := fun w' hb => Lib.hid (h.below (w' := w') hb).find
  obtain ⟨a, b, c⟩ := r
  clear h
  simp only [rv]
  go_enter Try.func31, Try.ntmps31
  have hb0 : Below w.heap.size w (w.alloc (.cells #[.int .u32 a, .int .u32 b, .int .u32 c] 25)) := (Below.refl _ w).alloc (Nat.le_refl _) _
  have hq : ∀ w', Below w.heap.size w w' → (Instr.lookup 56 (.map (some D.bf)) (.agg #[.int .u32 a, .int .u32 b, .int .u32 c]) true).run Try.prog w' = .ok (.tuple #[.int .i64 0, .bool false]) w' := by
    intro w' hb
    have := (hfi w' hb).out.look kysR Try.underlying56 (Try.zeroInt _) true hr
    simp only [idxF, hn] at this
    exact this
  have hq1 := hq _ hb0.drew
  have hq2 := hq _ hb0
  clear hq
  go_wp2_with (go_at_call 20; refine (hth _ hb0).out.mono ?_; rintro e w' ⟨rfl, rfl⟩)
  clear hth hfi hn hr
  go_region
  all_goals (go_wp2; go_ret2; exact ⟨rfl, hb0.drew⟩)

set_option maxHeartbeats 400000 in
theorem distinct_no (h : IsT Z w tb T D) (p : Int) (hp : p < 0 ∨ 2 < p) : Calls Try.prog 34 #[.pointer (some ⟨tb, 0, none⟩), .int .i64 p] w fun e w' => e = .returned (.int .i64 0) ∧ w = w' := by
  have hth := Lib.hid (there_any h)
  clear h
  go_enter Try.func34, Try.ntmps34
  rcases hp with hp | hp
  all_goals
    go_wp2_with (go_at_call 20; refine hth.out.mono ?_; rintro e w' ⟨rfl, rfl⟩)
    all_goals (go_ret; exact ⟨rfl, rfl⟩)

set_option maxHeartbeats 400000 in
theorem distinct_yes (h : IsT Z w tb T D) (p : Nat) (hp : p < 3) : Calls Try.prog 34 #[.pointer (some ⟨tb, 0, none⟩), .int .i64 p] w fun e w' =>
    (∃ ks : List Int, ks.Nodup ∧ (∀ x ∈ ks, is32 x) ∧ (∀ x, is32 x → (x ∈ ks ↔ cnt T p x ≠ 0)) ∧ e = .returned (.int .i64 ks.length)) ∧ w = w' := by
  have hth := Lib.hid (there_any h)
  have c4 := h.ca p hp
  obtain ⟨ks, h1, h2, h3, h4⟩ := (h.at_ p hp).len kysU Try.underlying58 3
  clear h
  have h3' : ∀ x, is32 x → (x ∈ ks ↔ cnt T p x ≠ 0) := fun x hx => by
    rw [h3 x hx, cntF]
    by_cases hc : cnt T p x = 0 <;> simp [hc]
  have H1 := Lib.hid h1; have H2 := Lib.hid h2; have H3 := Lib.hid h3'
  clear h1 h2 h3 h3'
  go_enter Try.func34, Try.ntmps34
  go_wp2_with (go_at_call 20; refine hth.out.mono ?_; rintro e w' ⟨rfl, rfl⟩)
  all_goals (go_ret; exact ⟨⟨ks, H1.out, H2.out, H3.out, rfl⟩, rfl⟩)
end
end Go.Proofs.Ytellmhllgmimiaa
