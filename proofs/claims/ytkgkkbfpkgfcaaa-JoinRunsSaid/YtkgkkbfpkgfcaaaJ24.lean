/- Layer 14: a block of a range that may be left; two boxes of bindings. -/
import Derived.Test.YtkgkkbfpkgfcaaaJ22
namespace Go.Proofs.Ytkgkkbfpkgfcaaa
set_option maxRecDepth 100000
open Go.RowKit Go.Maps
set_option linter.unusedVariables false
set_option linter.unusedSimpArgs false

/-- a range in its block: whether it is gone through or left, what follows is one -/
theorem wp_rangeFunc_XB {P : Program} {w wt : World} {g : Operand} {q : Nat} {assign body : Code} {Q : Exit → Act → World → Prop} {a : Act} (id : Nat) (f : Array Value → Value → Array Value)
    {gf : Nat} {lb : Array Value} (hg : a.eval g = .func (.func gf) #[] lb) (eg : ∀ args w, (callFunc gf args).run P w = .ok (.enter gf args) w)
    {outs : List (List Int)} (hseq : SeqX P gf lb wt outs) (hwt : wt.heap.size ≤ w.heap.size) (hwk : ∀ i, i < wt.heap.size → w.heap[i]? = wt.heap[i]?)
    (I : List OutT → (Nat → Prop) → World → Prop) (Ix : List OutT → World → Prop)
    (hgrow : ∀ pre X X' A B, I pre X A → GrX X A B → (∀ i, X' i → X i ∨ A.heap.size ≤ i) → I pre X' B)
    (hput : ∀ pre X W l o o', I pre X W → w.heap.size ≤ l → W.heap[l]? = some o → o.isCells = false → I pre X (W.putObj l o'))
    (hputx : ∀ pre W l o o', Ix pre W → w.heap.size ≤ l → W.heap[l]? = some o → o.isCells = false → Ix pre (W.putObj l o'))
    (h0 : I [] (fun _ => False) w)
    (hassign : ∀ (l : Nat) (sv : Value) (W : World) (K : Act → World → Prop), (∃ a n c, sv = .slice a n c) → K { tmps := f a.tmps sv, defers := [] } W →
      assign.wpIn (Fence.wide.inRound l) 8 P (Exit.then K (fun _ _ _ => False)) { tmps := a.tmps.setIfInBounds q sv, defers := [] } W)
    (hbody : ∀ (l : Nat) (pre : List OutT) (X : Nat → Prop) (sv : Value) (b : List Int) (W : World), I pre X W → (∀ i, X i → w.heap.size + 2 ≤ i ∧ i < W.heap.size) → w.heap.size + 2 ≤ W.heap.size → IsOut (w.heap.size + 2) W sv b → (∀ g, sv.ownBlock = some g → ¬ X g) →
      pre.map (·.2) ++ [b] <+: outs → w.heap.size ≤ l → (∃ r, W.heap[l]? = some (.loop r)) → body.wpIn (Fence.wide.inRound l) 8 P (postX w.heap.size wt.heap.size X I (fun c xs W => c = .exit id ∧ Ix xs W) (pre ++ [(sv, b)]) W) { tmps := f a.tmps sv, defers := [] } W)
    (hend : ∀ (D : Nat) (pre : List OutT) (W : World), w.heap.size ≤ D → ((∃ X, pre.map (·.2) = outs ∧ I pre X W) ∨ (pre.map (·.2) <+: outs ∧ Ix pre W)) → W.heap[D]? = some (.deferred (some [])) → Q .normal { a with defers := { target := .collected D, args := #[] } :: a.defers } W) :
    (Code.block id (Code.rangeFunc g #[q] assign body)).wpIn Fence.wide 9 P Q a w := by
  refine wpIn_block (wp_rangeFunc_X f hg eg hseq hwt hwk I (fun c xs W => c = .exit id ∧ Ix xs W) hgrow hput (fun c pre W l o o' h hl ho hc => ⟨h.1, hputx _ _ _ _ _ h.2 hl ho hc⟩) h0 hassign hbody ?_ ?_)
  · intro D pre X W hD hp hi hd
    exact hend D pre W hD (.inl ⟨X, hp, hi⟩) hd
  · rintro D c pre W hD hp ⟨rfl, hx⟩ hd
    refine wpIn_exit ?_
    simp only [Exit.inBlock, if_true]
    exact hend D pre W hD (.inr ⟨hp, hx⟩) hd

/-- what a box that takes in a binding turns -/
theorem push_box {W w4 : World} {N ob n : Nat} {ov sv v' : Value} {xs : List Value} (hbx : W.heap[ob]? = some (.cells #[ov] 43 (0, 0))) (hov : W.ownsRow N 51 1 ov n xs)
    (hg : (W.alloc (.cells #[sv] 51)).grownBy w4 ov.ownBlock) (hown : w4.ownsRow N 51 1 v' (n + 1) (xs ++ [sv])) :
    W.heap.size ≤ (w4.setCell ⟨ob, 0, none⟩ v').heap.size ∧ ((w4.setCell ⟨ob, 0, none⟩ v').os = W.os ∧ (w4.setCell ⟨ob, 0, none⟩ v').tape = W.tape ∧ (w4.setCell ⟨ob, 0, none⟩ v').output = W.output) ∧
      (∀ i, i < W.heap.size → i ≠ ob → ov.ownBlock ≠ some i → (w4.setCell ⟨ob, 0, none⟩ v').heap[i]? = W.heap[i]?) ∧ (w4.setCell ⟨ob, 0, none⟩ v').heap[ob]? = some (.cells #[v'] 43 (0, 0)) ∧
      (w4.setCell ⟨ob, 0, none⟩ v').ownsRow N 51 1 v' (n + 1) (xs ++ [sv]) := by
  have hB : Below W.heap.size W (W.alloc (.cells #[sv] 51)) := (Below.refl _ W).alloc (Nat.le_refl _) _
  have hob := (Array.getElem?_eq_some_iff.1 hbx).1
  have hbox : w4.heap[ob]? = some (.cells #[ov] 43 (0, 0)) := (hg.block ob (Nat.lt_of_lt_of_le hob hB.size) (fun e => own_ne hov hbx (by decide) e.symm)).trans ((hB.block ob hob).trans hbx)
  have hset : ∀ i, i ≠ ob → (w4.setCell ⟨ob, 0, none⟩ v').heap[i]? = w4.heap[i]? := fun i hi => Below.heap_setCell w4 _ _ i hi
  exact ⟨by rw [World.size_setCell]; exact Nat.le_trans hB.size hg.size, ⟨hg.os.trans hB.os, hg.tape.trans hB.tape, hg.output.trans hB.output⟩,
    fun i hi h1 h2 => (hset i h1).trans ((hg.block i (Nat.lt_of_lt_of_le hi hB.size) (fun e => h2 e.symm)).trans (hB.block i hi)), jbox_set hbox v', jown_blk hown (fun g hgv => hset g (fun e => own_ne hown hbox (by decide) (by rw [hgv, e])))⟩
theorem own_lt {w : World} {B e size n : Nat} {v : Value} {xs : List Value} (h : w.ownsRow B e size v n xs) {g : Nat} (hg : v.ownBlock = some g) : g < w.heap.size := by
  obtain ⟨_, cur, fz, hc⟩ := own_ltJ h g hg
  exact (Array.getElem?_eq_some_iff.1 hc).1
end Go.Proofs.Ytkgkkbfpkgfcaaa

namespace Go.Proofs.Ytkgkkbfpkgfcaaa
set_option maxRecDepth 100000
open Go.RowKit Go.Maps
set_option linter.unusedVariables false
set_option linter.unusedSimpArgs false

def gB : Nat → Nat
  | 0 => 0
  | m + 1 => 30 * (1 + gB m)
theorem stepRows_len (T : TS) (L : List Int) (s : StepT) (fr tu b : Int) : (stepRows T L s fr tu b).length ≤ T.length := by
  unfold stepRows mlist candP
  rw [List.length_map]
  exact Nat.le_trans (List.length_filter_le _ _) (Nat.le_trans (List.length_filter_le _ _) (by simp))
theorem looksE_cons (x : Option (List Int)) (a : List (Option (List Int))) : looksE (x :: a) = (if x.isNone then 1 else 0) + looksE a := by
  cases x <;> simp [looksE, Nat.add_comm]
theorem flat_bound {α : Type} (f : α → List (Option (List Int))) (k c : Nat) : ∀ (l : List α), (∀ r ∈ l, looksE (f r) ≤ k ∧ (outsE (f r)).length ≤ c) → looksE (l.flatMap f) ≤ l.length * k ∧ (outsE (l.flatMap f)).length ≤ l.length * c
  | [], _ => ⟨by simp [looksE], by simp [outsE]⟩
  | r :: t, h => by
    obtain ⟨h1, h2⟩ := h r (by simp)
    obtain ⟨h3, h4⟩ := flat_bound f k c t (fun x hx => h x (List.mem_cons_of_mem _ hx))
    rw [List.flatMap_cons, looksE_app, outsE_app, List.length_append, List.length_cons, Nat.add_mul, Nat.add_mul]
    omega
theorem evs_bound (T : TS) (hT : T.length ≤ 30) : ∀ (ss : List (StepT × Vw)) (L : List Int) (m : Nat), ss.countP (fun y => y.1.kind == 1) ≤ m → looksE (evs T ss L) ≤ gB m ∧ (outsE (evs T ss L)).length ≤ 30 ^ m
  | [], L, m, _ => by
    refine ⟨by simp [evs, looksE], ?_⟩
    simp only [evs, outsE, List.filterMap_cons, id_eq, List.filterMap_nil, List.length_cons, List.length_nil]
    exact Nat.one_le_pow _ _ (by decide)
  | (s, v) :: t, L, m, hm => by
    unfold evs
    by_cases hk : s.kind = 1
    · rw [if_pos hk]
      rw [List.countP_cons_of_pos (by simp [hk])] at hm
      obtain ⟨m, rfl⟩ : ∃ k, m = k + 1 := ⟨m - 1, by omega⟩
      obtain ⟨h1, h2⟩ := flat_bound (fun r => none :: (if (bindP (prs s r) L).1 then evs T t (bindP (prs s r) L).2 else [])) (1 + gB m) (30 ^ m) (stepRows T L s v.1 v.2.1 v.2.2) (fun r _ => by

        rw [looksE_none, outsE_none]
        split
        · obtain ⟨h3, h4⟩ := evs_bound T hT t (bindP (prs s r) L).2 m (by omega)
          exact ⟨by omega, h4⟩
        · exact ⟨by simp [looksE], by simp [outsE]⟩)
      have hl := Nat.le_trans (stepRows_len T L s v.1 v.2.1 v.2.2) hT
      refine ⟨Nat.le_trans h1 (Nat.mul_le_mul_right _ hl), Nat.le_trans h2 ?_⟩
      rw [Nat.pow_succ, Nat.mul_comm (30 ^ m)]
      exact Nat.mul_le_mul_right _ hl
    · rw [if_neg hk]
      rw [List.countP_cons_of_neg (by simp [hk])] at hm
      split
      · exact evs_bound T hT t L m hm
      · exact ⟨by simp [looksE], by simp [outsE]⟩
theorem zip_count (p : StepT → Bool) : ∀ (l : List StepT) (v : List Vw), (l.zip v).countP (fun y => p y.1) ≤ l.countP p
  | [], _ => by simp
  | _ :: _, [] => by simp
  | s :: t, y :: v => by
    have := zip_count p t v
    rw [List.zip_cons_cons, List.countP_cons, List.countP_cons]
    dsimp only
    split <;> omega
theorem run_bound {T : TS} {vars : Int} {steps : List StepT} {views : List Vw} {nl nv : Nat} (hs : smallP steps nl nv vars = true) (hT : T.length ≤ 30) : looksE (runEvs T vars steps views) ≤ 27930 ∧ (runOuts T vars steps views).length ≤ 27000 := by
  simp only [smallP, Bool.and_eq_true, decide_eq_true_eq] at hs
  have hm : (steps.zip (extV (0, (T.length : Int), 3) steps views)).countP (fun y => y.1.kind == 1) ≤ 3 := Nat.le_trans (zip_count (fun s => s.kind == 1) _ _) hs.1.1.1.2
  obtain ⟨h1, h2⟩ := evs_bound T hT _ (List.replicate vars.toNat 0) 3 hm
  refine ⟨h1, ?_⟩
  unfold runOuts
  split
  · exact h2
  · simp
/-- what is asked of a plan that comes in -/
structure PlanIn (steps : List StepT) : Prop where
  s64 : ∀ s ∈ steps, is64S s
  i32 : ∀ s ∈ steps, is32 s.r0.2 ∧ is32 s.r1.2 ∧ is32 s.r2.2
theorem PlanIn.ok {T : TS} {vars : Int} {steps : List StepT} {views : List Vw} {nl nv : Nat} (h : PlanIn steps) (hs : smallP steps nl nv vars = true) (hv : views.length ≤ 1000000) (hT : T.length ≤ 30) : PlanOK T vars steps views := by
  have hb := (run_bound (views := views) hs hT).1
  simp only [smallP, Bool.and_eq_true, decide_eq_true_eq] at hs
  exact { n := by omega, nv := hv, vle := by omega, s64 := h.s64, i32 := h.i32, looks := by omega }
end Go.Proofs.Ytkgkkbfpkgfcaaa
