/- Layer 14: the reference's Go, whole. -/
import Derived.Test.YtkgkkbfpkgfcaaaJ36
namespace Go.Proofs.Ytkgkkbfpkgfcaaa
set_option maxRecDepth 100000
open Go.RowKit Go.Maps
set_option linter.unusedVariables false
set_option linter.unusedSimpArgs false

theorem go_any {E : GoE} (hE : GoOK E) : ∀ (d step : Nat), step + d = E.steps.length → GoC E step
  | 0, step, h => by
    have h1 : step = E.steps.length := by omega
    subst h1
    exact go_end hE
  | d + 1, step, h => by
    have hs : step < E.steps.length := by omega
    have hn := go_any hE d (step + 1) (by omega)
    obtain ⟨h1, h4, _⟩ := hE.ok _ (List.getElem_mem hs)
    have hk : E.steps[step].kind = 1 ∨ E.steps[step].kind = 2 ∨ E.steps[step].kind = 3 ∨ E.steps[step].kind = 4 := by omega
    rcases hk with hk | hk | hk | hk
    · exact go_match hE hs hk hn
    · exact go_absent hE hs hk hn
    · exact go_same hE hs hk hn
    · exact go_unlike hE hs hk hn
/-- rows of a table that comes of rows -/
theorem addT_ok {T : TS} (h : ∀ y ∈ T, rok y.1 ∧ is8 y.2) {r : R3} (hr : rok r) (b : Int) : ∀ y ∈ addT T r b, rok y.1 ∧ is8 y.2 := by
  have hset : ∀ (T : TS) (n : Nat) (b : Int), is8 b → (∀ y ∈ T, rok y.1 ∧ is8 y.2) → ∀ y ∈ setB T n b, rok y.1 ∧ is8 y.2 := by
    intro T n b hb hT y hy
    unfold setB at hy
    obtain ⟨i, hi, he⟩ := List.mem_iff_getElem.1 hy
    rw [List.getElem_modify] at he
    split at he
    · subst he
      exact ⟨(hT _ (List.getElem_mem _)).1, hb⟩
    · subst he
      exact hT _ (List.getElem_mem _)
  unfold addT
  split
  · exact h
  · split
    · exact hset _ _ _ (is8_or _ _) h
    · refine hset _ _ _ (is8_or _ _) (fun y hy => ?_)
      rw [List.mem_append, List.mem_singleton] at hy
      rcases hy with hy | rfl
      · exact h y hy
      · exact ⟨hr, by unfold is8; omega⟩
theorem tabOf_ok (l : TS) (h : ∀ y ∈ l, rok y.1) : ∀ y ∈ tabOf l, rok y.1 ∧ is8 y.2 := by
  have key : ∀ (l : TS) (T : TS), (∀ y ∈ l, rok y.1) → (∀ y ∈ T, rok y.1 ∧ is8 y.2) → ∀ y ∈ l.foldl (fun T y => addT T y.1 y.2) T, rok y.1 ∧ is8 y.2 := by
    intro l
    induction l with
    | nil => intro T _ hT; exact hT
    | cons x l ih => intro T hl hT; exact ih _ (fun y hy => hl y (List.mem_cons_of_mem _ hy)) (addT_ok hT (hl x (List.mem_cons_self ..)) _)
  exact key l [] h (fun y hy => by simp at hy)
theorem IsRows4.ok {w : World} {a : Option Addr} {l : TS} (h : IsRows4 w a l) : ∀ y ∈ l, rok y.1 := by
  intro y hy
  obtain ⟨i, hi, he⟩ := List.mem_iff_getElem.1 hy
  obtain ⟨b, o, h1, h2⟩ := h i hi
  rw [he] at h2
  exact h2.r
theorem r4s_get (l : TS) (j : Nat) (h : j < l.length) : (r4s l)[j * 4]? = some (.int .u32 l[j].1.1) ∧ (r4s l)[j * 4 + 1]? = some (.int .u32 l[j].1.2.1) ∧ (r4s l)[j * 4 + 2]? = some (.int .u32 l[j].1.2.2) ∧ (r4s l)[j * 4 + 3]? = some (.int .u8 l[j].2) := by
  induction l generalizing j with
  | nil => simp at h
  | cons y l ih =>
    cases j with
    | zero => simp [r4s]
    | succ j =>
      obtain ⟨h1, h2, h3, h4⟩ := ih j (by simpa using h)
      have e : ∀ k, (r4s (y :: l))[k + 4]? = (r4s l)[k]? := fun k => by simp [r4s]
      have e0 : (j + 1) * 4 = j * 4 + 4 := by omega
      refine ⟨by rw [e0, e, h1]; rfl, ?_, ?_, ?_⟩
      · rw [show (j + 1) * 4 + 1 = (j * 4 + 1) + 4 by omega, e, h2]; rfl
      · rw [show (j + 1) * 4 + 2 = (j * 4 + 2) + 4 by omega, e, h3]; rfl
      · rw [show (j + 1) * 4 + 3 = (j * 4 + 3) + 4 by omega, e, h4]; rfl
theorem IsRows4.of {B : Nat} {w : World} {v : Value} {l : TS} (h : w.ownsRow B 73 4 v l.length (r4s l)) (hok : ∀ y ∈ l, rok y.1 ∧ is8 y.2) : ∃ a c, v = .slice a l.length c ∧ IsRows4 w a l := by
  rcases own_cellsJ h with ⟨h1, h0⟩ | ⟨g, cap, hv, _, _, _, ⟨cur, h4, _⟩, h6⟩
  · exact ⟨none, 0, by rw [h1, h0], fun j hj => by omega⟩
  · refine ⟨_, cap, hv, fun i hi => ?_⟩
    obtain ⟨k1, k2, k3, k4⟩ := r4s_get l i hi
    obtain ⟨o1, o2⟩ := hok _ (List.getElem_mem hi)
    refine ⟨g, 0, rfl, (Array.getElem?_eq_some_iff.1 h4).1, ?_, ?_, ?_, ?_, o1, o2⟩
    · rw [Nat.zero_add]; exact (h6 _ _ k1).1
    · rw [Nat.zero_add]; exact (h6 _ _ k2).1
    · rw [Nat.zero_add]; exact (h6 _ _ k3).1
    · rw [Nat.zero_add]; exact (h6 _ _ k4).1
/-- a walk from the start -/
theorem go0_any {E : GoE} (hE : GoOK E) {w : World} {bv : Value} (hg : GW E w (.slice none 0 0) [] 0) (hb : IsOut E.wt.heap.size w bv (List.replicate E.vars 0)) (ho : (outsE (stepE E 0 0 (List.replicate E.vars 0))).length ≤ 1000000) (hk : looksE (stepE E 0 0 (List.replicate E.vars 0)) ≤ 1000000) :
    Calls Try.prog 13 #[.pointer (some ⟨E.gb, 0, none⟩), .int .i64 0, .int .i64 0, bv] w fun e w' => e = .returned (.tuple #[]) ∧
      ∃ ov' new k, new.map (·.2) = outsE (stepE E 0 0 (List.replicate E.vars 0)) ∧ GW E w' ov' new k ∧ GTurn E w w' (.slice none 0 0) ov' := by
  refine (go_any hE E.steps.length 0 (by omega) 0 (List.replicate E.vars 0) bv w _ [] 0 hg hb (by simp) (Nat.le_refl _) (by simpa using ho) (by simpa using hk)).mono ?_
  rintro e w' ⟨rfl, ov', new, h1, h2, h3⟩
  exact ⟨rfl, ov', new, _, h1, by simpa using h2, h3⟩
end Go.Proofs.Ytkgkkbfpkgfcaaa
