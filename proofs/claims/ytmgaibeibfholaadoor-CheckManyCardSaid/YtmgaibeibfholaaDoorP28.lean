/- The reference's Rule: walked. -/
import Derived.Test.YtmgaibeibfholaaDoorP27
namespace Go.Proofs.YtmgaibeibfholaaDoor
set_option maxRecDepth 100000
open Go.RowKit Go.Shelf Go.Maps Plain
set_option linter.unusedVariables false
set_option linter.unusedSimpArgs false

def gv1 (l : Pa) : List ByteArray := if l.kind = 1 then l.pat.ss.map (·.var) else []
def givL (L : List Pa) : List ByteArray := L.flatMap gv1
theorem mem_varsL {l : List So} {v : ByteArray} : v ∈ varsL l ↔ ∃ s ∈ l, s.var.size ≠ 0 ∧ s.var = v := by
  have key : ∀ (l : List So) (acc : List ByteArray), v ∈ l.foldl vAdd acc ↔ v ∈ acc ∨ ∃ s ∈ l, s.var.size ≠ 0 ∧ s.var = v := by
    intro l
    induction l with
    | nil => intro acc; simp
    | cons a l ih =>
      intro acc
      rw [List.foldl_cons, ih]
      have hva : v ∈ vAdd acc a ↔ v ∈ acc ∨ (a.var.size ≠ 0 ∧ a.var = v) := by
        unfold vAdd
        split
        · rename_i h0
          constructor
          · intro h; exact .inl h
          · rintro (h | ⟨h, _⟩)
            · exact h
            · exact absurd h0 h
        · rename_i h0
          split
          · rename_i hm
            rw [memB_iff] at hm
            constructor
            · intro h; exact .inl h
            · rintro (h | ⟨_, rfl⟩)
              · exact h
              · exact hm
          · rw [List.mem_append, List.mem_singleton]
            constructor
            · rintro (h | h)
              · exact .inl h
              · exact .inr ⟨h0, h.symm⟩
            · rintro (h | ⟨_, h⟩)
              · exact .inl h
              · exact .inr h.symm
      rw [hva]
      simp only [List.mem_cons]
      constructor
      · rintro ((h | ⟨h1, h2⟩) | ⟨s, hs, h⟩)
        · exact .inl h
        · exact .inr ⟨a, .inl rfl, h1, h2⟩
        · exact .inr ⟨s, .inr hs, h⟩
      · rintro (h | ⟨s, rfl | hs, h⟩)
        · exact .inl (.inl h)
        · exact .inl (.inr h)
        · exact .inr ⟨s, hs, h⟩
  unfold varsL
  rw [key]; simp
theorem mem_givL {r : Ru} {v : ByteArray} : v ∈ givL r.body ↔ givB r v = true := by
  unfold givL givB gv1
  simp only [List.mem_flatMap, List.any_eq_true, Bool.and_eq_true, decide_eq_true_iff]
  constructor
  · rintro ⟨l, hl, hv⟩
    split at hv
    · rename_i h
      obtain ⟨s, hs, rfl⟩ := List.mem_map.1 hv
      exact ⟨l, hl, h, s, hs, rfl⟩
    · simp at hv
  · rintro ⟨l, hl, h, s, hs, rfl⟩
    exact ⟨l, hl, by rw [if_pos h]; exact List.mem_map.2 ⟨s, hs, rfl⟩⟩
theorem kinds_of {r : Ru} (h : mayRu r = true) : ∀ l ∈ r.body, slS l = slR l := by
  intro l hl
  unfold mayRu at h
  simp only [Bool.and_eq_true, List.all_eq_true] at h
  have hm := h.2.2 l hl
  unfold mayPa at hm
  unfold slS slR
  split at hm
  · rename_i h1
    rw [if_pos h1, if_neg (by omega)]
  · rename_i h1
    split at hm
    · rename_i h2
      rw [if_pos h2, if_neg h1]
    · cases hm
theorem plS_snd {r : Ru} (h : mayRu r = true) : (plS r).map Prod.snd = allR r := by
  have key : ∀ (L : List Pa) (n : Nat), (L.zipIdx n).flatMap (fun x => ((slS x.1).map fun s => ((x.2 : Int), s)).map Prod.snd) = L.flatMap slS := by
    intro L
    induction L with
    | nil => intro n; rfl
    | cons a L ih => intro n; rw [List.zipIdx_cons, List.flatMap_cons, List.flatMap_cons, ih, List.map_map]; congr 1; exact List.map_id _
  unfold plS allR bodS
  rw [List.map_append, List.map_map, List.map_flatMap, key]
  congr 1
  · have hk := kinds_of h
    revert hk
    generalize r.body = L
    intro hk
    induction L with
    | nil => rfl
    | cons a L ih => rw [List.flatMap_cons, List.flatMap_cons, hk a (by simp), ih (fun l hl => hk l (by simp [hl]))]
theorem safe_iff {r : Ru} (h : mayRu r = true) : safe r = true ↔ ∀ v ∈ varsL (allR r), v ∈ givL r.body := by
  rw [← plS_snd h]
  unfold safe
  rw [List.all_eq_true]
  constructor
  · intro hh v hv
    obtain ⟨s, hs, h0, rfl⟩ := mem_varsL.1 hv
    obtain ⟨x, hx, rfl⟩ := List.mem_map.1 hs
    have := hh x hx
    rw [decide_eq_false h0, Bool.false_or] at this
    exact mem_givL.2 this
  · intro hh x hx
    by_cases h0 : x.2.var.size = 0
    · rw [decide_eq_true h0]; rfl
    · rw [mem_givL.1 (hh _ (mem_varsL.2 ⟨x.2, List.mem_map.2 ⟨x, hx, rfl⟩, h0, rfl⟩))]; simp
theorem ruleE_yes {r : Ru} (h : mayRu r = true) (ha : ∀ j (hj : j < (varsL (allR r)).length), memB (givL r.body) (varsL (allR r))[j] = true) : 0 = ruleE r := by
  unfold ruleE
  rw [if_pos h, if_pos]
  exact (safe_iff h).2 (fun v hv => by
    obtain ⟨j, hj, rfl⟩ := List.mem_iff_getElem.1 hv
    exact memB_iff.1 (ha j hj))
theorem ruleE_no {r : Ru} (h : mayRu r = true) {j : Nat} (hj : j < (varsL (allR r)).length) (hn : memB (givL r.body) (varsL (allR r))[j] = false) : 5 = ruleE r := by
  unfold ruleE
  rw [if_pos h, if_neg]
  intro hs
  have := memB_iff.2 ((safe_iff h).1 hs _ (List.getElem_mem hj))
  rw [hn] at this; cases this
theorem givL_take {L : List Pa} {k : Nat} (h : k < L.length) : givL (L.take (k + 1)) = givL (L.take k) ++ gv1 L[k] := by
  unfold givL
  rw [List.take_succ_eq_append_getElem h, List.flatMap_append]; simp
theorem gv1_length (l : Pa) : (gv1 l).length ≤ 3 := by unfold gv1 Pn.ss; split <;> simp
theorem givL_length (L : List Pa) : (givL L).length ≤ 3 * L.length := by
  unfold givL
  induction L with
  | nil => simp
  | cons a L ih => rw [List.flatMap_cons, List.length_append]; have := gv1_length a; rw [List.length_cons]; omega
theorem pat_var {w : World} {g p : Nat} {x : Pa} (h : CellsAt w g p (paC x)) {k : Nat} (hk : k < x.pat.ss.length) : w.cell? ⟨g, p + 1 + k * 4, none⟩ = some (.string x.pat.ss[k].var) := by
  have := h (1 + k * 4) (.string x.pat.ss[k].var) (by
    have hj3 : k < 3 := hk
    rcases Nat.lt_succ_iff_lt_or_eq.1 hj3 with h' | h'
    · rcases Nat.lt_succ_iff_lt_or_eq.1 h' with h' | h'
      · obtain rfl : k = 0 := by omega
        rfl
      · subst h'; rfl
    · subst h'; rfl)
  rw [← Nat.add_assoc] at this
  exact this
end Go.Proofs.YtmgaibeibfholaaDoor
