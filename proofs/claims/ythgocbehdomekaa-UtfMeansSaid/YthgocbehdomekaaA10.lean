/- Utf.Len; once returns true where it is given the runes of its text. -/
import Derived.Test.YthgocbehdomekaaA9
namespace Go.Proofs.Ythgocbehdomekaa
open Go.RowKit Go.Shelf Plain
set_option linter.unusedVariables false
attribute [local go_sem] Oper.semAt_some

set_option maxRecDepth 100000 in
set_option maxHeartbeats 2000000 in
theorem len_in (s : ByteArray) (hs : s.size ≤ 100000000) (w : World) :
    CallsIn Fence.wide 9 Try.prog 17 #[.string s] w fun e W' => e = .returned (.int .i64 (rl (bl s) 0).length) ∧ Below w.heap.size w W' := by
  have hfn : ∀ k, Fence.wide.fn k := fun _ => trivial
  refine callsIn_of_wp_marks Try.func17 rfl trivial ?_ rfl
  simp only [Try.ntmps17, List.size_toArray, List.length_cons, List.length_nil, Nat.reduceAdd, Nat.reduceSub, Array.replicate_succ, Array.replicate_zero, List.push_toArray, List.append_toArray, List.nil_append, List.cons_append]
  gi_wp2_with (gi_at_call 24; refine (callsIn_wide.2 (runes_any _ _)).mono ?_; rintro e w' ⟨rfl, rfl⟩)
  have hc := cell_new_l w (.int .i64 0) 3
  have hb := cell_new_l (w.alloc (.cells #[.int .i64 0] 3)) (.string s) 9
  rw [World.size_alloc] at hb
  have hB0 : Below w.heap.size w ((w.alloc (.cells #[.int .i64 0] 3)).alloc (.cells #[.string s] 9)) := ((Below.refl _ w).alloc (Nat.le_refl _) _).alloc (by simp) _
  refine wpIn_rangeFunc_ownF rfl (by decide) (gf := 25) (lb := #[.pointer (some ⟨w.heap.size + 1, 0, none⟩)]) rfl trivial (enters_of Try.func25 (by kernel_rfl) rfl)
    (runes_stops (9 - 1) (w.heap.size + 1) s.size s hs (by have := rl_length (bl_isB s) 0; rw [bl_length] at this; omega) _ (by simp) hb.1) KeepB.t KeepB.b (Below.refl _ _) (fun _ => rfl)
    (fun pre W => (W.cell? ⟨w.heap.size, 0, none⟩ = some (.int .i64 pre.length) ∧ W.frozen? ⟨w.heap.size, 0, none⟩ = false) ∧ Below w.heap.size w W)
    (fun _ _ _ => False)
    (OwnFrom.and (Own.from (fun s A B row hs hg hr => ⟨cell_kept hs.1 hg hr, (frozen_kept hs.1 hg hr).trans hs.2⟩) _) (ownFrom_below (Nat.le_refl _) (by simp; omega)))
    (fun _ _ _ _ _ hs _ _ => hs)
    ⟨⟨cell_alloc_l _ hc.1, frozen_alloc_l _ hc.1 hc.2⟩, hB0⟩
    (fun x => { tmps := #[.string s, undef, .int .i64 0, .pointer (some ⟨w.heap.size, 0, none⟩), .string s, .func (.func 25) #[] #[.pointer (some ⟨w.heap.size + 1, 0, none⟩)], .int .i64 x.1, .int .i64 x.2, undef, undef, undef], defers := [] }) ?assign ?body ?done ?stop
  case assign =>
    intro l x W K hK
    gi_wp2
    simpa using hK
  case body =>
    rintro l pre x W ⟨⟨hc, hf⟩, hB⟩ hlen
    have HB := Lib.hid hB; clear hB
    gi_wp2
    exact ⟨KeepsOthers.setCell _ _ _, KeepB.set _ _ _ (by simp), ⟨by rw [List.length_append]; exact World.cell?_setCell_same' _ _ _ (by rw [hc]; rfl), by rw [World.frozen?_setCell]; exact hf⟩, HB.out.setCell (p := ⟨w.heap.size, 0, none⟩) (Nat.le_refl _) _⟩
  case done =>
    rintro D ys W hD rfl ⟨⟨hc, _⟩, hB⟩ hK
    have HB := Lib.hid hB; clear hB
    gi_wp2
    refine ⟨by simp, .inl ⟨_, _, rfl, run_takeDeferred hK, ?_⟩⟩
    exact ⟨_, results_tmp rfl _ _ _, rfl, HB.out.trans (belowK_b (w := w) (Nat.le_refl _) W D _ _ (by simp at hD; omega) hK rfl rfl)⟩
  case stop =>
    rintro D c pre W _ _ h _
    exact h.elim

theorem cell_set_other {W : World} {a : Addr} {v : Value} {b o : Nat} (h : b ≠ a.block) : (W.setCell a v).cell? ⟨b, o, none⟩ = W.cell? ⟨b, o, none⟩ :=
  World.cell?_of_block (w := W) (a := ⟨b, o, none⟩) (Below.heap_setCell W a v b h)
theorem pre_snoc {α : Type} {pre L : List α} {x : α} (h : pre <+: L) : pre ++ [x] <+: L ↔ L[pre.length]? = some x := by
  obtain ⟨t, rfl⟩ := h
  rw [List.prefix_append_right_inj]
  cases t with
  | nil => simp
  | cons a t => simp [List.cons_prefix_cons]; constructor <;> (intro h; exact h.symm)
theorem eql_func_nil (w : World) (fn : Fn) (a b : Array Value) : (binOp .eql 55 (.func fn a b) .nilFunc).run Try.prog w = .ok (.bool false) w := by rfl
/-- a slice that begins at a holds the runes L, as the world w has them -/
def RAt (w : World) (a : Option Addr) (L : List (Nat × Int)) : Prop :=
  ∀ j (h : j < L.length), ∃ g, a = some ⟨g, 0, none⟩ ∧ g < w.heap.size ∧ w.cell? ⟨g, j * 2, none⟩ = some (.int .i64 (L[j]).1) ∧ w.cell? ⟨g, j * 2 + 1, none⟩ = some (.int .i64 (L[j]).2)
theorem rcells_get (L : List (Nat × Int)) (j : Nat) (h : j < L.length) : (rcells L)[j * 2]? = some (.int .i64 (L[j]).1) ∧ (rcells L)[j * 2 + 1]? = some (.int .i64 (L[j]).2) := by
  induction L generalizing j with
  | nil => simp at h
  | cons x L ih =>
    cases j with
    | zero => simp [rcells]
    | succ j =>
      have := ih j (by simpa using h)
      simp only [rcells, List.flatMap_cons, List.cons_append, List.nil_append, Nat.add_mul, Nat.one_mul, List.getElem_cons_succ] at this ⊢
      simpa using this
theorem own_rat {base : Nat} {w : World} {v : Value} {L : List (Nat × Int)} (h : OwnR base w v L) : ∃ a cap, v = .slice a L.length cap ∧ RAt w a L := by
  rcases h.2 with ⟨rfl, hn⟩ | ⟨g, cap, cur, rfl, hb, hg, _⟩
  · exact ⟨none, 0, by rw [hn], fun j hj => by omega⟩
  · refine ⟨some ⟨g, 0, none⟩, cap, rfl, fun j hj => ⟨g, rfl, (Array.getElem?_eq_some_iff.1 hg).1, ?_, ?_⟩⟩
    · have := World.ownsRow.cells h (g := g) rfl (j * 2) _ (rcells_get L j hj).1
      rw [← this]; unfold Addr.add; split <;> simp_all
    · have := World.ownsRow.cells h (g := g) rfl (j * 2 + 1) _ (rcells_get L j hj).2
      rw [← this]; unfold Addr.add; split <;> simp_all
theorem RAt.below {w w' : World} {a : Option Addr} {L : List (Nat × Int)} (h : RAt w a L) (hb : Below w.heap.size w w') : RAt w' a L := fun j hj => by
  obtain ⟨g, rfl, hg, h1, h2⟩ := h j hj
  exact ⟨g, rfl, Nat.lt_of_lt_of_le hg hb.size, (hb.cell (p := ⟨g, j * 2, none⟩) hg).trans h1, (hb.cell (p := ⟨g, j * 2 + 1, none⟩) hg).trans h2⟩

set_option maxRecDepth 100000 in
set_option maxHeartbeats 2000000 in
theorem once_in (s : ByteArray) (hs : s.size ≤ 100000000) (most : Int) (a : Option Addr) (cap : Nat) (w : World)
    (hcs : RAt w a (rl (bl s) 0)) :
    CallsIn Fence.wide 9 Try.prog 18 #[.string s, .slice a (rl (bl s) 0).length cap, .int .i64 most] w fun e W' => e = .returned (.bool true) ∧ Below w.heap.size w W' := by
  have hL : (rl (bl s) 0).length ≤ s.size := by have := rl_length (bl_isB s) 0; rw [bl_length] at this; omega
  obtain ⟨L, hLe⟩ : ∃ L, rl (bl s) 0 = L := ⟨_, rfl⟩
  rw [hLe] at hcs hL ⊢
  have Hcs := Lib.hid hcs; have HL := Lib.hid hLe; clear hcs hLe
  have hfn : ∀ k, Fence.wide.fn k := fun _ => trivial
  refine callsIn_of_wp_marks Try.func18 rfl trivial ?_ rfl
  simp only [Try.ntmps18, List.size_toArray, List.length_cons, List.length_nil, Nat.reduceAdd, Nat.reduceSub, Array.replicate_succ, Array.replicate_zero, List.push_toArray, List.append_toArray, List.nil_append, List.cons_append]
  have hnf := eql_func_nil
  gi_wp2_with (gi_at_call 24; refine (callsIn_wide.2 (runes_any _ _)).mono ?_; rintro e w' ⟨rfl, rfl⟩)
  clear hnf
  have c0 := cell_new_l w (.slice a L.length cap) 35
  generalize hw0 : w.alloc (.cells #[.slice a L.length cap] 35) = w0 at *
  have c1 := cell_new_l w0 (.int .i64 most) 3
  generalize hw1 : w0.alloc (.cells #[.int .i64 most] 3) = w1 at *
  have c2 := cell_new_l w1 (.bool false) 4
  generalize hw2 : w1.alloc (.cells #[.bool false] 4) = w2 at *
  have c3 := cell_new_l w2 (.int .i64 0) 3
  generalize hw3 : w2.alloc (.cells #[.int .i64 0] 3) = w3 at *
  have c4 := cell_new_l w3 (.string s) 9
  have z0 : w0.heap.size = w.heap.size + 1 := by rw [← hw0]; simp
  have z1 : w1.heap.size = w.heap.size + 1 + 1 := by rw [← hw1]; simp [z0]
  have z2 : w2.heap.size = w.heap.size + 1 + 1 + 1 := by rw [← hw2]; simp [z1]
  have z3 : w3.heap.size = w.heap.size + 1 + 1 + 1 + 1 := by rw [← hw3]; simp [z2]
  have b0 : Below w.heap.size w w0 := by rw [← hw0]; exact (Below.refl _ w).alloc (Nat.le_refl _) _
  have b1 : Below w.heap.size w w1 := by rw [← hw1]; exact b0.alloc (by omega) _
  have b2 : Below w.heap.size w w2 := by rw [← hw2]; exact b1.alloc (by omega) _
  have b3 : Below w.heap.size w w3 := by rw [← hw3]; exact b2.alloc (by omega) _
  have hB0 : Below w.heap.size w (w3.alloc (.cells #[.string s] 9)) := b3.alloc (by omega) _
  rw [z0] at c1; rw [z1] at c2; rw [z2] at c3; rw [z3] at c4
  refine wpIn_rangeFunc_ownF rfl (by decide) (gf := 25) (lb := #[.pointer (some ⟨w.heap.size + 1 + 1 + 1 + 1, 0, none⟩)]) rfl trivial (enters_of Try.func25 (by kernel_rfl) rfl)
    (runes_stops (9 - 1) (w.heap.size + 1 + 1 + 1 + 1) s.size s hs (by rw [HL.out]; exact hL) _ (by simp [z3]) c4.1) KeepB.t KeepB.b (Below.refl _ _) (fun _ => rfl)
    (fun pre W => (pre <+: L ∧ W.cell? ⟨w.heap.size, 0, none⟩ = some (.slice a L.length cap) ∧ W.cell? ⟨w.heap.size + 1, 0, none⟩ = some (.int .i64 most) ∧
        W.cell? ⟨w.heap.size + 1 + 1, 0, none⟩ = some (.bool false) ∧ W.frozen? ⟨w.heap.size + 1 + 1, 0, none⟩ = false ∧
        W.cell? ⟨w.heap.size + 1 + 1 + 1, 0, none⟩ = some (.int .i64 pre.length) ∧ W.frozen? ⟨w.heap.size + 1 + 1 + 1, 0, none⟩ = false) ∧ Below w.heap.size w W)
    (fun c pre W => (c = .ret ∧ ∃ b, W.cell? ⟨w.heap.size + 1 + 1, 0, none⟩ = some (.bool b) ∧ (pre <+: L → b = true)) ∧ Below w.heap.size w W)
    (OwnFrom.and (Own.from (fun s A B row hs hg hr => ⟨hs.1, cell_kept hs.2.1 hg hr, cell_kept hs.2.2.1 hg hr, cell_kept hs.2.2.2.1 hg hr, (frozen_kept hs.2.2.2.1 hg hr).trans hs.2.2.2.2.1, cell_kept hs.2.2.2.2.2.1 hg hr, (frozen_kept hs.2.2.2.2.2.1 hg hr).trans hs.2.2.2.2.2.2⟩) _) (ownFrom_below (Nat.le_refl _) (by simp [z3]; omega)))
    (fun c => OwnFrom.and (Own.from (fun s A B row hs hg hr => ⟨hs.1, let ⟨b, h1, h2⟩ := hs.2; ⟨b, cell_kept h1 hg hr, h2⟩⟩) _) (ownFrom_below (Nat.le_refl _) (by simp [z3]; omega)))
    ⟨⟨List.nil_prefix, ?i0, ?i1, ?i2, ?i3, ?i4, ?i5⟩, hB0⟩
    (fun x => { tmps := #[.string s, .slice a L.length cap, .int .i64 most, undef, .pointer (some ⟨w.heap.size, 0, none⟩), .pointer (some ⟨w.heap.size + 1, 0, none⟩), .pointer (some ⟨w.heap.size + 1 + 1, 0, none⟩), .pointer (some ⟨w.heap.size + 1 + 1 + 1, 0, none⟩), .func (.func 25) #[] #[.pointer (some ⟨w.heap.size + 1 + 1 + 1 + 1, 0, none⟩)], .int .i64 x.1, .int .i64 x.2, .string s, .func (.func 25) #[] #[.pointer (some ⟨w.heap.size + 1 + 1 + 1 + 1, 0, none⟩)], .func (.func 25) #[] #[.pointer (some ⟨w.heap.size + 1 + 1 + 1 + 1, 0, none⟩)], .bool false, .func (.func 25) #[] #[.pointer (some ⟨w.heap.size + 1 + 1 + 1 + 1, 0, none⟩)], .int .i64 x.1, .int .i64 x.2, undef, undef, undef, undef, undef, undef, undef, undef, undef, undef, undef, undef, undef, undef, undef, undef, undef, undef, undef, undef, undef, undef, undef, undef, undef, undef, undef, undef, undef, undef, undef], defers := [] }) ?assign ?body ?done ?stop
  case i0 => rw [← hw3, ← hw2, ← hw1]; exact cell_alloc_l _ (cell_alloc_l _ (cell_alloc_l _ (cell_alloc_l _ c0.1)))
  case i1 => rw [← hw3, ← hw2]; exact cell_alloc_l _ (cell_alloc_l _ (cell_alloc_l _ c1.1))
  case i2 => rw [← hw3]; exact cell_alloc_l _ (cell_alloc_l _ c2.1)
  case i3 => rw [← hw3]; exact frozen_alloc_l _ (cell_alloc_l _ c2.1) (frozen_alloc_l _ c2.1 c2.2)
  case i4 => exact cell_alloc_l _ c3.1
  case i5 => exact frozen_alloc_l _ c3.1 c3.2
  case assign =>
    intro l x W K hK
    gi_wp2
    exact hK
  case body =>
    rintro l pre x W ⟨⟨hp, hw, hm, hr, hrf, hi, hif⟩, hB⟩ hlen
    have HB := Lib.hid hB; clear hB
    clear c0 c1 c2 c3 c4 z0 z1 z2 z3 b0 b1 b2 b3 hB0 hw0 hw1 hw2 hw3
    by_cases hA : L.length ≤ pre.length
    · have hA' : decide (L.length ≤ pre.length) = true := decide_eq_true hA
      gi_wp2
      exact ⟨KeepsOthers.setCell _ _ _, ⟨rfl, false, World.cell?_setCell_same' _ _ _ (by rw [hr]; rfl), fun h => by have := h.length_le; simp at this; omega⟩, HB.out.setCell (p := ⟨w.heap.size + 1 + 1, 0, none⟩) (by simp; omega) _⟩
    · have hA' : decide (L.length ≤ pre.length) = false := decide_eq_false hA
      have hj : pre.length < L.length := by omega
      obtain ⟨g, rfl, hg, cA, cB⟩ := Hcs.out pre.length hj
      have dA := (HB.out.cell (p := ⟨g, pre.length * 2, none⟩) hg).trans cA
      have dB := (HB.out.cell (p := ⟨g, pre.length * 2 + 1, none⟩) hg).trans cB
      clear cA cB
      obtain ⟨y, hy⟩ : ∃ y, L[pre.length] = y := ⟨_, rfl⟩
      rw [hy] at dA dB
      have hps : pre ++ [x] <+: L ↔ y = x := by rw [pre_snoc hp, List.getElem?_eq_getElem hj, hy]; simp
      have Hps := Lib.hid hps; clear hy hps
      gi_wp2
      · have h1 : (x.1 : Int) = (y.1 : Int) := by assumption
        have h2 : (x.2 != y.2) = true := by assumption
        exact ⟨KeepsOthers.setCell _ _ _, ⟨rfl, false, World.cell?_setCell_same' _ _ _ (by rw [hr]; rfl), fun h => by have := Hps.out.1 h; subst this; simp at h2⟩, HB.out.setCell (p := ⟨w.heap.size + 1 + 1, 0, none⟩) (by simp; omega) _⟩
      · refine ⟨(KeepsOthers.setCell _ _ _).trans (KeepsOthers.setCell _ _ _), ⟨rfl, true, World.cell?_setCell_same' _ _ _ ?_, fun _ => rfl⟩, (HB.out.setCell (p := ⟨w.heap.size + 1 + 1 + 1, 0, none⟩) (by simp; omega) _).setCell (p := ⟨w.heap.size + 1 + 1, 0, none⟩) (by simp; omega) _⟩
        rw [cell_set_other (by simp), hr]; rfl
      · have h1 : (x.1 : Int) = (y.1 : Int) := by assumption
        have h2 : (x.2 != y.2) = false := by assumption
        have hxy : y = x := by
          have h2' : x.2 = y.2 := by simpa using h2
          ext
          · omega
          · exact h2'.symm
        refine ⟨KeepsOthers.setCell _ _ _, KeepB.set _ _ _ (by simp), ⟨Hps.out.2 hxy, ?_, ?_, ?_, ?_, ?_, ?_⟩, HB.out.setCell (p := ⟨w.heap.size + 1 + 1 + 1, 0, none⟩) (by simp; omega) _⟩
        · rw [cell_set_other (by simp; omega)]; exact hw
        · rw [cell_set_other (by simp)]; exact hm
        · rw [cell_set_other (by simp)]; exact hr
        · rw [World.frozen?_setCell]; exact hrf
        · rw [List.length_append]; exact World.cell?_setCell_same' _ _ _ (by rw [hi]; rfl)
        · rw [World.frozen?_setCell]; exact hif
      · have h1 : ¬ (x.1 : Int) = (y.1 : Int) := by assumption
        exact ⟨KeepsOthers.setCell _ _ _, ⟨rfl, false, World.cell?_setCell_same' _ _ _ (by rw [hr]; rfl), fun h => by have := Hps.out.1 h; subst this; simp at h1⟩, HB.out.setCell (p := ⟨w.heap.size + 1 + 1, 0, none⟩) (by simp; omega) _⟩
  case done =>
    rintro D ys W hD rfl ⟨⟨hp, hw, hm, hr, hrf, hi, hif⟩, hB⟩ hK
    have HB := Lib.hid hB; clear hB
    rw [HL.out] at hi hp
    gi_wp2
    have hK' := (KeepsOthers.setCell W ⟨w.heap.size + 1 + 1, 0, none⟩ (.bool true)).same D _ hK rfl
    refine ⟨by simp, .inl ⟨_, _, rfl, run_takeDeferred hK', ?_⟩⟩
    have hc5 := cell_kept (World.cell?_setCell_same' W ⟨w.heap.size + 1 + 1, 0, none⟩ (.bool true) (by rw [hr]; rfl)) (grownBy_putObj' _ D (.deferred none)) (fun r e => by cases e; exact ⟨_, hK', rfl⟩)
    refine ⟨.bool true, ?_, rfl, (HB.out.setCell (p := ⟨w.heap.size + 1 + 1, 0, none⟩) (by simp; omega) _).trans (belowK_b (w := w) (Nat.le_refl _) _ D _ _ (by simp [z3] at hD; omega) hK' rfl rfl)⟩
    simp [results, Try.f18, go_sem, hc5]
  case stop =>
    rintro D c pre W hD hpre ⟨⟨rfl, b, hr, hb⟩, hB⟩ hK
    rw [HL.out] at hpre
    obtain rfl := hb hpre
    have HB := Lib.hid hB; clear hB
    gi_wp2
    refine ⟨by simp, .inl ⟨_, _, rfl, run_takeDeferred hK, ?_⟩⟩
    have hc5 := cell_kept hr (grownBy_putObj' _ D (.deferred none)) (fun r e => by cases e; exact ⟨_, hK, rfl⟩)
    refine ⟨.bool true, ?_, rfl, HB.out.trans (belowK_b (w := w) (Nat.le_refl _) W D _ _ (by simp [z3] at hD; omega) hK rfl rfl)⟩
    simp [results, Try.f18, go_sem, hc5]
end Go.Proofs.Ythgocbehdomekaa
