/- A rule's places: the iterator's making; which rules are safe, plainly; a set of names in memory. -/
import Derived.Test.YtmgaibeibfholaaDoorP23
namespace Go.Proofs.YtmgaibeibfholaaDoor
set_option maxRecDepth 100000
open Go.RowKit Go.Shelf Go.Maps Plain
set_option linter.unusedVariables false
set_option linter.unusedSimpArgs false

theorem load_ru {w : World} {g p : Nat} {r : Ru} (h : CellsAt w g p (ruC r)) : (loadVar 46 ⟨g, p, none⟩).run Tryd.prog w = .ok (ruV r) w := by
  have hl : (loadCells ⟨g, p, none⟩ 13).run Tryd.prog w = .ok (ruC r).toArray w := h.load
  have a1 := Tryd.isAgg46
  have z1 := Tryd.sizeOf46
  simp [loadVar, Sem.run_bind, a1, z1, hl, ruV]
set_option maxHeartbeats 1000000 in
theorem places_any (r : Ru) (w : World) :
    Calls Tryd.prog 20 #[ruV r] w fun e w' => e = .returned (.func (.func 30) #[] #[.pointer (some ⟨w.heap.size, 0, none⟩)]) ∧ w' = w.alloc (.cells (ruC r).toArray 46) := by
  have hsz : (ruC r).length = 13 := rfl
  show Calls _ _ #[.agg (ruC r).toArray] _ _
  go_enter Tryd.func20, Tryd.ntmps20
  go_wp2_with fail
  go_ret
  exact ⟨rfl, rfl⟩

/-! ### names as keys -/
def sv (s : ByteArray) : Value := .string s
def sok (s : ByteArray) : Prop := s.size ≤ maxLen
theorem kysS : Kys Tryd.prog 9 sv sok := ⟨string_keyed Tryd.underlying9, fun x hx => ⟨.string x.data.toList, by
  unfold sok at hx
  simp [keyOf, Tryd.underlying9, mapKey, sv, hx]⟩, fun x y _ _ h => by simpa [sv] using h⟩

/-! ### which rules are safe -/
/-- stands a name in a pattern that holds? -/
def givB (r : Ru) (v : ByteArray) : Bool := r.body.any fun l => decide (l.kind = 1) && l.pat.ss.any fun s => decide (s.var = v)
def safe (r : Ru) : Bool := (plS r).all fun x => decide (x.2.var.size = 0) || givB r x.2.var
def ruleE (r : Ru) : Int := if mayRu r = true then (if safe r = true then 0 else 5) else 2
/-- what the first loop has given -/
def gPre (r : Ru) (pre : List (Int × So)) (v : ByteArray) : Prop := v.size ≠ 0 ∧ ∃ x ∈ pre, 0 ≤ x.1 ∧ (∃ h : x.1.toNat < r.body.length, (r.body[x.1.toNat]).kind = 1) ∧ x.2.var = v
noncomputable def gF (r : Ru) (pre : List (Int × So)) : ByteArray → Option Value := fun v => by
  classical exact if gPre r pre v then some (.agg #[.bool true]) else none
theorem gF_nil (r : Ru) : gF r [] = fun _ => none := by
  funext v; unfold gF gPre; simp
theorem gF_yes {r : Ru} {pre : List (Int × So)} {v : ByteArray} (h : gPre r pre v) : gF r pre v = some (.agg #[.bool true]) := by unfold gF; rw [if_pos h]
theorem gF_no {r : Ru} {pre : List (Int × So)} {v : ByteArray} (h : ¬ gPre r pre v) : gF r pre v = none := by unfold gF; rw [if_neg h]
theorem gPre_snoc {r : Ru} {pre : List (Int × So)} {x : Int × So} {v : ByteArray} : gPre r (pre ++ [x]) v ↔ gPre r pre v ∨ (v.size ≠ 0 ∧ 0 ≤ x.1 ∧ (∃ h : x.1.toNat < r.body.length, (r.body[x.1.toNat]).kind = 1) ∧ x.2.var = v) := by
  unfold gPre
  constructor
  · rintro ⟨hv, y, hy, h⟩
    rcases List.mem_append.1 hy with h' | h'
    · exact .inl ⟨hv, y, h', h⟩
    · simp at h'; subst h'; exact .inr ⟨hv, h⟩
  · rintro (⟨hv, y, hy, h⟩ | ⟨hv, h⟩)
    · exact ⟨hv, y, List.mem_append_left _ hy, h⟩
    · exact ⟨hv, x, by simp, h⟩
theorem gF_same {r : Ru} {pre : List (Int × So)} {x : Int × So} (h : ¬ (0 ≤ x.1 ∧ (∃ h : x.1.toNat < r.body.length, (r.body[x.1.toNat]).kind = 1) ∧ x.2.var.size ≠ 0)) : gF r (pre ++ [x]) = gF r pre := by
  funext v
  by_cases hg : gPre r pre v
  · rw [gF_yes hg, gF_yes (gPre_snoc.2 (.inl hg))]
  · rw [gF_no hg, gF_no]
    intro hh
    rcases gPre_snoc.1 hh with h' | ⟨hv, h1, h2, h3⟩
    · exact hg h'
    · exact h ⟨h1, h2, by rw [h3]; exact hv⟩
theorem gF_upd {r : Ru} {pre : List (Int × So)} {x : Int × So} (h1 : 0 ≤ x.1) (h2 : ∃ h : x.1.toNat < r.body.length, (r.body[x.1.toNat]).kind = 1) (h3 : x.2.var.size ≠ 0) : gF r (pre ++ [x]) = upd (gF r pre) x.2.var (some (.agg #[.bool true])) := by
  funext v
  by_cases hv : v = x.2.var
  · subst hv; rw [upd_same, gF_yes]; exact gPre_snoc.2 (.inr ⟨h3, h1, h2, rfl⟩)
  · rw [upd_ne _ _ hv]
    by_cases hg : gPre r pre v
    · rw [gF_yes hg, gF_yes (gPre_snoc.2 (.inl hg))]
    · rw [gF_no hg, gF_no]
      intro hh
      rcases gPre_snoc.1 hh with h' | ⟨_, _, _, h'⟩
      · exact hg h'
      · exact hv h'.symm
theorem mem_bodS {L : List Pa} {i : Int} {s : So} : (i, s) ∈ bodS L ↔ ∃ k, ∃ h : k < L.length, i = k ∧ s ∈ slS L[k] := by
  unfold bodS
  simp only [List.mem_flatMap, List.mem_map, Prod.mk.injEq]
  constructor
  · rintro ⟨⟨l, k⟩, hm, s', hs, rfl, rfl⟩
    obtain ⟨hk, hl⟩ := List.mem_zipIdx' hm
    exact ⟨k, hk, rfl, by rw [← hl]; exact hs⟩
  · rintro ⟨k, hk, rfl, hs⟩
    refine ⟨(L[k], k), ?_, s, hs, rfl, rfl⟩
    rw [List.mem_iff_getElem?]
    exact ⟨k, by simp [List.getElem?_zipIdx, List.getElem?_eq_getElem hk]⟩
theorem mem_plS {r : Ru} {i : Int} {s : So} (h : (i, s) ∈ plS r) : i = -1 ∨ ∃ k : Nat, k < r.body.length ∧ i = k := by
  unfold plS at h
  rcases List.mem_append.1 h with h' | h'
  · obtain ⟨s', _, e⟩ := List.mem_map.1 h'
    injection e with e1 _
    exact .inl e1.symm
  · obtain ⟨k, hk, rfl, _⟩ := mem_bodS.1 h'
    exact .inr ⟨k, hk, rfl⟩
/-- the loop's end: what is given is what stands in a pattern that holds -/
theorem gPre_all {r : Ru} {v : ByteArray} (hv : v.size ≠ 0) : gPre r (plS r) v ↔ givB r v = true := by
  unfold gPre givB
  simp only [List.any_eq_true, Bool.and_eq_true, decide_eq_true_iff]
  constructor
  · rintro ⟨_, ⟨i, s⟩, hx, h1, ⟨h2, h3⟩, h4⟩
    simp only at h1 h2 h3 h4
    unfold plS at hx
    rcases List.mem_append.1 hx with h' | h'
    · obtain ⟨s', _, e⟩ := List.mem_map.1 h'
      injection e with e1 e2
      omega
    · obtain ⟨k, hk, rfl, hs⟩ := mem_bodS.1 h'
      simp only [Int.toNat_natCast] at h2 h3
      refine ⟨r.body[k], List.getElem_mem _, h3, s, ?_, h4⟩
      unfold slS at hs
      rw [if_neg (by rw [h3]; decide)] at hs
      exact hs
  · rintro ⟨l, hl, h1, s, hs, h2⟩
    obtain ⟨k, hk, rfl⟩ := List.mem_iff_getElem.1 hl
    refine ⟨hv, ((k : Int), s), ?_, by simp, ⟨by simpa using hk, by simpa using h1⟩, h2⟩
    unfold plS
    refine List.mem_append_right _ (mem_bodS.2 ⟨k, hk, rfl, ?_⟩)
    unfold slS
    rw [if_neg (by rw [h1]; decide)]; exact hs
theorem plS_fit {r : Ru} (h : fitRu r) {i : Int} {s : So} (hm : (i, s) ∈ plS r) : fitS s := by
  obtain ⟨⟨h1, h2, h3⟩, h4, _⟩ := h
  unfold plS at hm
  rcases List.mem_append.1 hm with h' | h'
  · obtain ⟨s', hs, e⟩ := List.mem_map.1 h'
    injection e with _ e2
    subst e2
    simp only [Pn.ss, List.mem_cons, List.mem_nil_iff, or_false] at hs
    rcases hs with rfl | rfl | rfl <;> assumption
  · obtain ⟨k, hk, _, hs⟩ := mem_bodS.1 h'
    obtain ⟨⟨q1, q2, q3⟩, q4, q5⟩ := h4 _ (List.getElem_mem hk)
    unfold slS at hs
    split at hs
    · simp only [List.mem_cons, List.mem_nil_iff, or_false] at hs
      rcases hs with rfl | rfl <;> assumption
    · simp only [Pn.ss, List.mem_cons, List.mem_nil_iff, or_false] at hs
      rcases hs with rfl | rfl | rfl <;> assumption
theorem safe_yes {r : Ru} (h : ∀ x ∈ plS r, x.2.var.size = 0 ∨ gPre r (plS r) x.2.var) : safe r = true := by
  unfold safe
  rw [List.all_eq_true]
  intro x hx
  rcases h x hx with h' | h'
  · rw [decide_eq_true h']; rfl
  · rw [(gPre_all h'.1).1 h']; simp
theorem safe_no {r : Ru} {x : Int × So} (hx : x ∈ plS r) (h0 : x.2.var.size ≠ 0) (hn : ¬ gPre r (plS r) x.2.var) : safe r = false := by
  rw [← Bool.not_eq_true]
  intro hh
  unfold safe at hh
  rw [List.all_eq_true] at hh
  have := hh x hx
  rw [decide_eq_false h0, Bool.false_or] at this
  exact hn ((gPre_all h0).2 this)
end Go.Proofs.YtmgaibeibfholaaDoor
