/- All: its iterator goes over the cliques of the copy. -/
import Derived.Test.YtghihhjcoilmgaaQ13
import Derived.Test.YtghihhjcoilmgaaQ11
namespace Go.Proofs.Ytghihhjcoilmgaa
set_option maxRecDepth 100000
open Go.RowKit Go.Maps Go.Shelf
set_option linter.unusedVariables false
set_option linter.unusedSimpArgs false
attribute [local go_sem] Oper.semAt_some

/-- who has a clique of its own name -/
def IsKey (J : Jn) (r : Int) : Prop := (∀ b, Conn J r b → r ≤ b) ∧ ∃ b, b ≠ r ∧ Conn J r b
theorem IsKey.nums {J : Jn} {r : Int} (h : IsKey J r) : r ∈ nums J := by
  obtain ⟨_, b, hb, hc⟩ := h
  rcases List.mem_cons.1 hc.symm.nums with e | e
  · exact absurd e.symm hb
  · exact e
theorem nums_32 {J : Jn} (hJ : ∀ p ∈ J, is32 p.1 ∧ is32 p.2) {x : Int} (h : x ∈ nums J) : is32 x := by
  rcases List.mem_append.1 h with h | h
  · obtain ⟨p, hp, rfl⟩ := List.mem_map.1 h; exact (hJ p hp).1
  · obtain ⟨p, hp, rfl⟩ := List.mem_map.1 h; exact (hJ p hp).2
theorem srt_srt {L : List Int} (hn : L.Nodup) : Srt (srt L) := by
  have hs : (srt L).Pairwise (fun x y => decide (x ≤ y) = true) := List.pairwise_mergeSort (fun a b c h1 h2 => by simp at *; omega) (fun a b => by simp; omega) L
  have hd : (srt L).Pairwise (fun x y => x ≠ y) := (srt_perm L).nodup_iff.2 hn
  exact (hs.and hd).imp fun ⟨h1, h2⟩ => by simp at h1; omega
theorem IsP.low {w w' : World} {pb mf mc : Nat} {f : Int → Option Int} {c : Int → Option (List Int)} (h : IsP w pb mf mc f c) (hb : ∀ i, i < w.heap.size → w'.heap[i]? = w.heap[i]?) : IsP w' pb mf mc f c := by
  obtain ⟨cv, h1, h2, h3⟩ := h.cl
  refine ⟨(hb pb (lt_of_heap h.head)).trans h.head, h.ne, h.of.stay (hb mf h.of.lt), cv, h1.stay (hb mc h1.lt), h2, fun r L hr hc => ?_⟩
  obtain ⟨v, e1, e2⟩ := h3 r L hr hc
  exact ⟨v, e1, e2.stay fun i cur hi => hb i (lt_of_heap hi)⟩
/-- what a body keeps that turns one box of its own: what lay below B, and whatever cells there are -/
def KpI (B ib : Nat) (W W' : World) : Prop := W.heap.size ≤ W'.heap.size ∧ ∀ (i : Nat) (o : Obj), W.heap[i]? = some o → i ≠ ib → (i < B ∨ o.isCells = true) → W'.heap[i]? = some o
theorem KpI.refl (B ib : Nat) (W : World) : KpI B ib W W := ⟨Nat.le_refl _, fun _ _ h _ _ => h⟩
theorem KpI.t {B ib : Nat} : ∀ {X Y Z : World}, KpI B ib X Y → KpI B ib Y Z → KpI B ib X Z := fun h k => ⟨Nat.le_trans h.1 k.1, fun i o ho hi hc => k.2 i o (h.2 i o ho hi hc) hi hc⟩
theorem KpI.b {B ib n : Nat} (hB : B ≤ n) (W : World) (l : Nat) (o o' : Obj) (hn : n ≤ l) (hl : W.heap[l]? = some o) (hc : o.isCells = false) : KpI B ib W (W.putObj l o') := by
  refine ⟨by simp [World.putObj], fun i o2 ho hi h => ?_⟩
  rw [World.putObj_heap_other (fun e => ?_)]
  · exact ho
  · subst e
    rw [ho] at hl
    injection hl with hl
    subst hl
    rcases h with h | h
    · omega
    · rw [hc] at h; cases h
theorem KpI.below {B ib : Nat} {W W' : World} (h : Below W.heap.size W W') : KpI B ib W W' := ⟨h.size, fun i o ho _ _ => (h.block i (lt_of_heap ho)).trans ho⟩
theorem KpI.low {B ib : Nat} {W W' : World} (h : KpI B ib W W') (hib : B ≤ ib) (hB : B ≤ W.heap.size) : ∀ i, i < B → W'.heap[i]? = W.heap[i]? := fun i hi => by
  have hlt : i < W.heap.size := by omega
  rw [h.2 i _ (Array.getElem?_eq_getElem hlt) (by omega) (.inl hi)]
  exact (Array.getElem?_eq_getElem hlt).symm
theorem OwnU.kpi {base B ib : Nat} {W W' : World} {v : Value} {L : List Int} (h : OwnU base W v L) (k : KpI B ib W W') (hib : ib < base) : OwnU base W' v L := by
  refine ⟨h.1, ?_⟩
  rcases h.2 with h1 | ⟨g, cap, cur, h1, h2, h3, h4⟩
  · exact .inl h1
  · exact .inr ⟨g, cap, cur, h1, h2, k.2 g _ h3 (by omega) (.inr rfl), h4⟩
end Go.Proofs.Ytghihhjcoilmgaa
