/- Is a text well made? -/
import Derived.Test.YtmgaibeibfholaaDoorU3
import Derived.RangeFuncFrom
namespace Go.Proofs.YtmgaibeibfholaaDoor
set_option maxRecDepth 100000
open Go.RowKit Go.Shelf Plain
set_option linter.unusedVariables false
attribute [local go_sem] Oper.semAt_some

theorem cell_new_l (W : World) (v : Value) (t : TypeId) : (W.alloc (.cells #[v] t)).cell? ⟨W.heap.size, 0, none⟩ = some v ∧ (W.alloc (.cells #[v] t)).frozen? ⟨W.heap.size, 0, none⟩ = false := by
  constructor
  · exact cells_new W [v] t 0 v rfl
  · have hh := heap_alloc_new W (.cells #[v] t)
    unfold World.frozen?
    rw [hh]; rfl
theorem cell_alloc_l {W : World} {a : Addr} {v : Value} (o : Obj) (h : W.cell? a = some v) : (W.alloc o).cell? a = some v := cell_kept h (World.grownBy_alloc W o none) (fun r e => by cases e)
theorem frozen_alloc_l {W : World} {a : Addr} {v : Value} (o : Obj) (h : W.cell? a = some v) (hf : W.frozen? a = false) : (W.alloc o).frozen? a = false := (frozen_kept h (World.grownBy_alloc W o none) (fun r e => by cases e)).trans hf

/-- where the last rune ends -/
def le (d : Int) (l : List (Nat × Int)) : Int := l.foldl (fun _ x => wrap64 ((x.1 : Int) + sizeN x.2)) d
theorem le_snoc (d : Int) (l : List (Nat × Int)) (x : Nat × Int) : le d (l ++ [x]) = wrap64 ((x.1 : Int) + sizeN x.2) := by simp [le]

theorem rl_ind (l : List Int) (P : Nat → Prop) (hs : ∀ p, ¬ (p < l.length ∧ 0 < (getL (l.drop p)).2.toNat) → P p)
    (hg : ∀ p, p < l.length → 0 < (getL (l.drop p)).2.toNat → P (p + (getL (l.drop p)).2.toNat) → P p) (p : Nat) : P p := by
  obtain ⟨n, hn⟩ : ∃ n, n = l.length - p := ⟨_, rfl⟩
  induction n using Nat.strongRecOn generalizing p with
  | _ n ih =>
    by_cases h : p < l.length ∧ 0 < (getL (l.drop p)).2.toNat
    · exact hg p h.1 h.2 (ih (l.length - (p + (getL (l.drop p)).2.toNat)) (by omega) _ rfl)
    · exact hs p h
theorem getL_size {l : List Int} (hl : ∀ c ∈ l, isB c) (p : Nat) (h : 0 < (getL (l.drop p)).2.toNat) : sizeN (getL (l.drop p)).1 = (getL (l.drop p)).2 ∧ p + (getL (l.drop p)).2.toNat ≤ l.length := by
  have hb := getL_bd (drop_isB hl p)
  obtain ⟨h1, h2, t, h3⟩ := getL_some (drop_isB hl p) (r := (getL (l.drop p)).1) (n := (getL (l.drop p)).2) rfl (by omega)
  rw [putL_length] at h2
  have : 1 ≤ sizeN (getL (l.drop p)).1 := by unfold sizeN; (repeat' split) <;> omega
  rw [List.length_drop] at hb
  omega
theorem endP_le {l : List Int} (hl : ∀ c ∈ l, isB c) (p : Nat) (hp : p ≤ l.length) : endP l p ≤ l.length := by
  refine rl_ind l (fun p => p ≤ l.length → endP l p ≤ l.length) (fun p h hp => by rw [(rl_stop h).2]; exact hp) (fun p h1 h2 ih hp => ?_) p hp
  rw [(rl_go h1 h2).2]; exact ih (getL_size hl p h2).2
theorem le_rl {l : List Int} (hl : ∀ c ∈ l, isB c) (hs : l.length ≤ 100000000) (p : Nat) : le p (rl l p) = endP l p := by
  refine rl_ind l (fun p => le p (rl l p) = endP l p) (fun p h => by rw [(rl_stop h).1, (rl_stop h).2]; rfl) (fun p h1 h2 ih => ?_) p
  have hz := getL_size hl p h2
  rw [(rl_go h1 h2).1, (rl_go h1 h2).2, ← ih]
  unfold le
  rw [List.foldl_cons]
  simp only
  rw [hz.1, show wrap64 ((p : Int) + (getL (l.drop p)).2) = ((p + (getL (l.drop p)).2.toNat : Nat) : Int) by unfold wrap64; omega]
theorem rl_length {l : List Int} (hl : ∀ c ∈ l, isB c) (p : Nat) : (rl l p).length ≤ l.length - p := by
  refine rl_ind l (fun p => (rl l p).length ≤ l.length - p) (fun p h => by rw [(rl_stop h).1]; simp) (fun p h1 h2 ih => ?_) p
  rw [(rl_go h1 h2).1, List.length_cons]; omega

set_option maxRecDepth 100000 in
set_option maxHeartbeats 2000000 in
theorem valid_in (s : ByteArray) (hs : s.size ≤ 100000000) (w : World) :
    CallsIn Fence.wide 9 Tryd.prog 58 #[.string s] w fun e W' => e = .returned (.bool (decide (endP (bl s) 0 = s.size))) ∧ Below w.heap.size w W' := by
  refine callsIn_of_wp_marks Tryd.func58 rfl trivial ?_ rfl
  simp only [Tryd.ntmps58, List.size_toArray, List.length_cons, List.length_nil, Nat.reduceAdd, Nat.reduceSub, Array.replicate_succ, Array.replicate_zero, List.push_toArray, List.append_toArray, List.nil_append, List.cons_append]
  have hfn : ∀ k, Fence.wide.fn k := fun _ => trivial
  gi_wp2_with (gi_at_call 59; refine (callsIn_wide.2 (runes_any _ _)).mono ?_; rintro e w' ⟨rfl, rfl⟩)
  have hc := cell_new_l w (.int .i64 0) 3
  have hb := cell_new_l (w.alloc (.cells #[.int .i64 0] 3)) (.string s) 9
  rw [World.size_alloc] at hb
  have hB0 : Below w.heap.size w ((w.alloc (.cells #[.int .i64 0] 3)).alloc (.cells #[.string s] 9)) := ((Below.refl _ w).alloc (Nat.le_refl _) _).alloc (by simp) _
  refine wpIn_rangeFunc_ownF rfl (by decide) (gf := 66) (lb := #[.pointer (some ⟨w.heap.size + 1, 0, none⟩)]) rfl trivial (enters_of Tryd.func66 (by kernel_rfl) rfl)
    (runes_stops (9 - 1) (w.heap.size + 1) s.size s hs (by have := rl_length (bl_isB s) 0; rw [bl_length] at this; omega) _ (by simp) hb.1) KeepB.t KeepB.b (Below.refl _ _) (fun _ => rfl)
    (fun pre W => (W.cell? ⟨w.heap.size, 0, none⟩ = some (.int .i64 (le 0 pre)) ∧ W.frozen? ⟨w.heap.size, 0, none⟩ = false) ∧ Below w.heap.size w W)
    (fun _ _ _ => False)
    (OwnFrom.and (Own.from (fun s A B row hs hg hr => ⟨cell_kept hs.1 hg hr, (frozen_kept hs.1 hg hr).trans hs.2⟩) _) (ownFrom_below (Nat.le_refl _) (by simp; omega)))
    (fun _ _ _ _ _ hs _ _ => hs)
    ⟨⟨cell_alloc_l _ hc.1, frozen_alloc_l _ hc.1 hc.2⟩, hB0⟩
    (fun x => { tmps := #[.string s, undef, .bool false, .pointer (some ⟨w.heap.size, 0, none⟩), .int .i64 x.1, .int .i64 x.2, .string s, .func (.func 66) #[] #[.pointer (some ⟨w.heap.size + 1, 0, none⟩)], .int .i64 x.1, .int .i64 x.2, undef, undef, undef, undef, undef, undef, undef, undef], defers := [] }) ?assign ?body ?done ?stop
  case assign =>
    intro l x W K hK
    gi_wp2
    exact hK
  case body =>
    rintro l pre x W ⟨⟨hc, hf⟩, hB⟩ _
    have HB := Lib.hid hB; clear hB
    gi_wp2_with (gi_at_call 65; refine (CallsIn.inRound l (callsIn_wide.2 (size_any _ _))).mono ?_; rintro e w' ⟨rfl, rfl⟩)
    exact ⟨KeepsOthers.setCell _ _ _, KeepB.set _ _ _ (by simp), ⟨by rw [le_snoc]; exact World.cell?_setCell_same' _ _ _ (by rw [hc]; rfl), by rw [World.frozen?_setCell]; exact hf⟩, HB.out.setCell (p := ⟨w.heap.size, 0, none⟩) (Nat.le_refl _) _⟩
  case done =>
    rintro D ys W hD rfl ⟨⟨hc, _⟩, hB⟩ hK
    have HB := Lib.hid hB; clear hB
    gi_wp2
    refine ⟨by simp, .inl ⟨_, _, rfl, run_takeDeferred hK, ?_⟩⟩
    have hl := le_rl (bl_isB s) (by rw [bl_length]; exact hs) 0
    refine ⟨_, results_tmp rfl _ _ _, ?_, HB.out.trans (belowK_b (w := w) (Nat.le_refl _) W D _ _ (by simp at hD; omega) hK rfl rfl)⟩
    refine retB ?_
    rw [show (0 : Int) = ((0 : Nat) : Int) from rfl, hl, Bool.eq_iff_iff]
    simp; omega
  case stop =>
    rintro D c pre W _ _ h _
    exact h.elim
end Go.Proofs.YtmgaibeibfholaaDoor

