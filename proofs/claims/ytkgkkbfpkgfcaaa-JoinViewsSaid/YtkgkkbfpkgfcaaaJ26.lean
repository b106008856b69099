/- Layer 14: what is new, taken place by place, in plain words. -/
import Derived.Test.YtkgkkbfpkgfcaaaJ24
namespace Go.Proofs.Ytkgkkbfpkgfcaaa
set_option maxRecDepth 100000
open Go.RowKit Go.Maps
set_option linter.unusedVariables false
set_option linter.unusedSimpArgs false

def cntV (T : TS) (ss : List (StepT × Vw)) (L : List Int) : Nat := (outsE (evs T ss L)).length
def nextV (T : TS) (t : List (StepT × Vw)) (s : StepT) (L : List Int) (r : R3) : Nat := if (bindP (prs s r) L).1 then cntV T t (bindP (prs s r) L).2 else 0
theorem outs_flat {α : Type} (f : α → List (Option (List Int))) : ∀ (l : List α), (outsE (l.flatMap f)).length = (l.map (fun r => (outsE (f r)).length)).sum
  | [] => rfl
  | r :: t => by rw [List.flatMap_cons, outsE_app, List.length_append, outs_flat f t, List.map_cons, List.sum_cons]
theorem cntV_cons (T : TS) (s : StepT) (v : Vw) (t : List (StepT × Vw)) (L : List Int) (hk : s.kind = 1) : cntV T ((s, v) :: t) L = ((stepRows T L s v.1 v.2.1 v.2.2).map (nextV T t s L)).sum := by
  unfold cntV evs
  rw [if_pos hk, outs_flat]
  congr 1
  refine List.map_congr_left (fun r _ => ?_)
  rw [outsE_none]
  unfold nextV cntV
  split <;> simp [outsE]
theorem sum_split {α : Type} (p q : α → Bool) (f : α → Nat) : ∀ (l : List α), ((l.filter p).map f).sum = ((l.filter (fun x => p x && q x)).map f).sum + ((l.filter (fun x => p x && !q x)).map f).sum
  | [] => rfl
  | x :: t => by
    have := sum_split p q f t
    cases hp : p x <;> cases hq : q x <;> simp [List.filter_cons, hp, hq, this] <;> omega
theorem stepRows_split (T : TS) (L : List Int) (s : StepT) (fr : Int) (h0 : 0 ≤ fr) (h1 : fr ≤ T.length) (f : R3 → Nat) :
    ((stepRows T L s 0 T.length 3).map f).sum = ((stepRows T L s 0 fr 3).map f).sum + ((stepRows T L s fr T.length 3).map f).sum := by
  unfold stepRows mlist candP
  simp only [List.map_map, List.filter_filter]
  rw [sum_split _ (fun c : Nat => decide ((c : Int) < fr))]
  congr 3
  · refine List.filter_congr (fun c hc => ?_)
    have hc := List.mem_range.1 hc
    rw [Bool.eq_iff_iff]
    simp only [Bool.and_eq_true, decide_eq_true_eq]
    constructor
    · rintro ⟨⟨h2, ⟨h3, h4⟩, h5⟩, h6⟩; exact ⟨h2, ⟨h3, h6⟩, h5⟩
    · rintro ⟨h2, ⟨h3, h4⟩, h5⟩; exact ⟨⟨h2, ⟨h3, by omega⟩, h5⟩, h4⟩
  · refine List.filter_congr (fun c hc => ?_)
    have hc := List.mem_range.1 hc
    rw [Bool.eq_iff_iff]
    simp only [Bool.and_eq_true, decide_eq_true_eq, Bool.not_eq_true', decide_eq_false_iff_not]
    constructor
    · rintro ⟨⟨h2, ⟨h3, h4⟩, h5⟩, h6⟩; exact ⟨h2, ⟨by omega, h4⟩, h5⟩
    · rintro ⟨h2, ⟨h3, h4⟩, h5⟩; exact ⟨⟨h2, ⟨by omega, h4⟩, h5⟩, by omega⟩
/-- place k's views: the elder ahead, the new there, all behind -/
def vAt (T : TS) (fr : Int) (k i : Nat) : Vw := (if i = k then fr else 0, if i < k then fr else (T.length : Int), 3)
def vsAt (T : TS) (fr : Int) (k m : Nat) : List Vw := (List.range m).map (vAt T fr k)
theorem vsAt_succ (T : TS) (fr : Int) (k m : Nat) : vsAt T fr (k + 1) (m + 1) = (0, fr, 3) :: vsAt T fr k m := by
  unfold vsAt
  rw [List.range_succ_eq_map, List.map_cons, List.map_map]
  refine List.cons_eq_cons.2 ⟨by simp [vAt], List.map_congr_left (fun i _ => ?_)⟩
  simp [vAt]
theorem vsAt_zero (T : TS) (fr : Int) (m : Nat) : vsAt T fr 0 (m + 1) = (fr, (T.length : Int), 3) :: List.replicate m (0, (T.length : Int), 3) := by
  unfold vsAt
  rw [List.range_succ_eq_map, List.map_cons, List.map_map]
  refine List.cons_eq_cons.2 ⟨by simp [vAt], List.ext_getElem (by simp) (fun i h1 h2 => by simp [vAt])⟩
theorem sum_add {α : Type} (f g : α → Nat) : ∀ l : List α, (l.map (fun x => f x + g x)).sum = (l.map f).sum + (l.map g).sum
  | [] => rfl
  | x :: t => by simp only [List.map_cons, List.sum_cons, sum_add f g t]; omega
theorem sum_swap {α β : Type} (f : α → β → Nat) (ks : List β) : ∀ l : List α, (l.map (fun x => (ks.map (f x)).sum)).sum = (ks.map (fun k => (l.map (fun x => f x k)).sum)).sum
  | [] => by
    induction ks with
    | nil => rfl
    | cons k t ih => simpa using ih
  | x :: t => by
    simp only [List.map_cons, List.sum_cons, sum_swap f ks t]
    rw [← sum_add]
theorem views_count (T : TS) (fr : Int) (h0 : 0 ≤ fr) (h1 : fr ≤ T.length) : ∀ (steps : List StepT) (L : List Int), (∀ s ∈ steps, s.kind = 1) → steps ≠ [] →
    cntV T (steps.zip (List.replicate steps.length (0, (T.length : Int), 3))) L = cntV T (steps.zip (List.replicate steps.length (0, fr, 3))) L + ((List.range steps.length).map (fun k => cntV T (steps.zip (vsAt T fr k steps.length)) L)).sum
  | [], _, _, h => absurd rfl h
  | [s], L, hk, _ => by
    have hs := hk s (by simp)
    simp only [List.length_singleton, List.replicate_one, List.zip_cons_cons, List.zip_nil_right, List.range_one, List.map_cons, List.map_nil, List.sum_cons, List.sum_nil, vsAt_zero T fr 0, List.replicate_zero]
    rw [cntV_cons T s _ _ L hs, cntV_cons T s _ _ L hs, cntV_cons T s _ _ L hs]
    exact stepRows_split T L s fr h0 h1 _
  | s :: s2 :: t, L, hk, _ => by
    have hs := hk s (by simp)
    have ih := fun L => views_count T fr h0 h1 (s2 :: t) L (fun x hx => hk x (List.mem_cons_of_mem _ hx)) (by simp)
    obtain ⟨u, hu⟩ : ∃ u, s2 :: t = u := ⟨_, rfl⟩
    rw [hu] at ih ⊢
    obtain ⟨m, hm⟩ : ∃ m, u.length = m := ⟨_, rfl⟩
    rw [hm] at ih
    rw [List.length_cons, hm, List.replicate_succ, List.replicate_succ, List.zip_cons_cons, List.zip_cons_cons, List.range_succ_eq_map, List.map_cons, List.map_map, List.sum_cons, vsAt_zero, List.zip_cons_cons]
    rw [cntV_cons T s _ _ L hs, cntV_cons T s _ _ L hs, cntV_cons T s _ _ L hs]
    dsimp only
    rw [stepRows_split T L s fr h0 h1]
    have e1 : ∀ r, nextV T (u.zip (List.replicate m (0, (T.length : Int), 3))) s L r = nextV T (u.zip (List.replicate m (0, fr, 3))) s L r + ((List.range m).map (fun k => nextV T (u.zip (vsAt T fr k m)) s L r)).sum := by
      intro r
      unfold nextV
      by_cases hb : (bindP (prs s r) L).1 = true
      · simp only [hb, if_true]
        exact ih _
      · simp only [if_neg hb]
        have hz : ∀ ks : List Nat, (ks.map (fun _ => 0)).sum = 0 := by
          intro ks
          induction ks with
          | nil => rfl
          | cons k ks ih => simpa using ih
        rw [hz]
    have e2 : ((stepRows T L s 0 fr 3).map (nextV T (u.zip (List.replicate m (0, (T.length : Int), 3))) s L)).sum = ((stepRows T L s 0 fr 3).map (nextV T (u.zip (List.replicate m (0, fr, 3))) s L)).sum + ((List.range m).map (fun k => ((stepRows T L s 0 fr 3).map (nextV T (u.zip (vsAt T fr k m)) s L)).sum)).sum := by
      rw [← sum_swap, ← sum_add]
      congr 1
      exact List.map_congr_left (fun r _ => e1 r)
    rw [e2]
    have e3 : (List.range m).map ((fun k => cntV T ((s :: u).zip (vsAt T fr k (m + 1))) L) ∘ Nat.succ) = (List.range m).map (fun k => ((stepRows T L s 0 fr 3).map (nextV T (u.zip (vsAt T fr k m)) s L)).sum) := by
      refine List.map_congr_left (fun k _ => ?_)
      show cntV T ((s :: u).zip (vsAt T fr (k + 1) (m + 1))) L = _
      rw [vsAt_succ, List.zip_cons_cons, cntV_cons T s _ _ L hs]
    rw [e3]
    omega
theorem extV_match (d : Vw) : ∀ (steps : List StepT) (vs : List Vw), (∀ s ∈ steps, s.kind = 1) → vs.length = steps.length → extV d steps vs = vs
  | [], [], _, _ => rfl
  | [], _ :: _, _, h => by simp at h
  | _ :: _, [], _, h => by simp at h
  | s :: t, v :: vs, hk, h => by
    rw [extV, if_pos (hk s (by simp))]
    show v :: extV d t vs = v :: vs
    rw [extV_match d t vs (fun x hx => hk x (List.mem_cons_of_mem _ hx)) (by simpa using h)]
theorem extV_none (d : Vw) : ∀ (steps : List StepT), extV d steps [] = List.replicate steps.length d
  | [] => rfl
  | s :: t => by
    unfold extV
    simp only [List.headD_nil, List.tail_nil, extV_none d t, List.length_cons, List.replicate_succ]
    split <;> rfl
def cntR (T : TS) (vars : Int) (steps : List StepT) (views : List Vw) : Nat := (runOuts T vars steps views).length
theorem cntR_match {T : TS} {vars : Int} {steps : List StepT} {views : List Vw} (hm : mayP vars steps = true) (hk : ∀ s ∈ steps, s.kind = 1) (hl : views.length = steps.length) : cntR T vars steps views = cntV T (steps.zip views) (List.replicate vars.toNat 0) := by
  unfold cntR runOuts runEvs cntV
  rw [if_pos hm, extV_match _ steps views hk hl]
theorem cntR_none {T : TS} {vars : Int} {steps : List StepT} (hm : mayP vars steps = true) : cntR T vars steps [] = cntV T (steps.zip (List.replicate steps.length (0, (T.length : Int), 3))) (List.replicate vars.toNat 0) := by
  unfold cntR runOuts runEvs cntV
  rw [if_pos hm, extV_none]
/-- how many are new at the first k places -/
def newR (T : TS) (vars : Int) (steps : List StepT) (fr : Int) (k : Nat) : Nat := ((List.range k).map (fun j => cntR T vars steps (vsAt T fr j steps.length))).sum
theorem newR_succ (T : TS) (vars : Int) (steps : List StepT) (fr : Int) (k : Nat) : newR T vars steps fr (k + 1) = newR T vars steps fr k + cntR T vars steps (vsAt T fr k steps.length) := by
  unfold newR
  rw [List.range_succ, List.map_append, List.sum_append]
  simp
theorem newR_le {T : TS} {vars : Int} {steps : List StepT} {nl : Nat} (hs : smallP steps nl 0 vars = true) (hT : T.length ≤ 30) (fr : Int) : ∀ k, newR T vars steps fr k ≤ k * 27000
  | 0 => by simp [newR]
  | k + 1 => by
    rw [newR_succ]
    have := newR_le hs hT fr k
    have : cntR T vars steps (vsAt T fr k steps.length) ≤ 27000 := (run_bound hs hT).2
    omega
theorem vsAt_take (T : TS) (fr : Int) (k m i : Nat) (h : i < m) : (vsAt T fr k m).take (i + 1) = (vsAt T fr k m).take i ++ [vAt T fr k i] := by
  rw [List.take_add_one, List.getElem?_eq_getElem (by simp [vsAt]; exact h)]
  simp [vsAt]
theorem views_law {T : TS} {vars : Int} {steps : List StepT} {fr : Int} (hm : mayP vars steps = true) (hk : ∀ s ∈ steps, s.kind = 1) (h0 : 0 ≤ fr) (h1 : fr ≤ T.length) (hne : steps ≠ []) :
    cntR T vars steps [] = cntR T vars steps (List.replicate steps.length (0, fr, 3)) + newR T vars steps fr steps.length := by
  rw [cntR_none hm, cntR_match hm hk (by simp), views_count T fr h0 h1 steps _ hk hne]
  congr 2
  refine List.map_congr_left (fun k _ => ?_)
  rw [cntR_match hm hk (by simp [vsAt])]
theorem views_law0 {T : TS} {vars : Int} (hm : mayP vars [] = true) : cntR T vars [] [] = 1 := by
  unfold cntR runOuts runEvs
  rw [if_pos hm]
  rfl
theorem IsViews.of {B : Nat} {w : World} {v : Value} {l : List Vw} (h : w.ownsRow B 42 3 v l.length (vcs l)) : ∃ a c, v = .slice a l.length c ∧ IsViews w a l := by
  rcases own_cellsJ h with ⟨h1, h0⟩ | ⟨g, cap, hv, _, _, _, ⟨cur, h4, _⟩, h6⟩
  · exact ⟨none, 0, by rw [h1, h0], fun j hj => by omega⟩
  · refine ⟨_, cap, hv, fun i hi => ?_⟩
    obtain ⟨k1, k2, k3⟩ := vcs_get l i hi
    refine ⟨g, 0, rfl, (Array.getElem?_eq_some_iff.1 h4).1, ?_, ?_, ?_⟩
    · rw [Nat.zero_add]; exact (h6 _ _ k1).1
    · rw [Nat.zero_add]; exact (h6 _ _ k2).1
    · rw [Nat.zero_add]; exact (h6 _ _ k3).1
end Go.Proofs.Ytkgkkbfpkgfcaaa
