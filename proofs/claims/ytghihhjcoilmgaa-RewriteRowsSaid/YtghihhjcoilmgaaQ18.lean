/- UnionApart's parts: what stays where boxes and others' maps turn; All's iterator where a number's box came between. -/
import Derived.Test.YtghihhjcoilmgaaQ17
namespace Go.Proofs.Ytghihhjcoilmgaa
set_option maxRecDepth 100000
open Go.RowKit Go.Maps Go.Shelf
set_option linter.unusedVariables false
set_option linter.unusedSimpArgs false
attribute [local go_sem] Oper.semAt_some

section
variable {w w' : World} {pb mf mc : Nat} {f : Int → Option Int} {c : Int → Option (List Int)}
/-- a partition where its head, its maps and all rows of numbers stay -/
theorem IsP.obj (h : IsP w pb mf mc f c) (hs : ∀ (i : Nat) (o : Obj), w.heap[i]? = some o → (i = pb ∨ i = mf ∨ i = mc ∨ ∃ cur, o = Obj.cells cur 31 (0, 0)) → w'.heap[i]? = some o) : IsP w' pb mf mc f c := by
  obtain ⟨cv, m1, m2, m3⟩ := h.cl
  obtain ⟨⟨_, _, of⟩, ⟨_, _, oc⟩⟩ := h.objs
  refine ⟨hs pb _ h.head (.inl rfl), h.ne, h.of.stay ((hs mf _ of (.inr (.inl rfl))).trans of.symm), cv, m1.stay ((hs mc _ oc (.inr (.inr (.inl rfl)))).trans oc.symm), m2, fun r L hr hL => ?_⟩
  obtain ⟨v, k1, k2⟩ := m3 r L hr hL
  exact ⟨v, k1, k2.stay fun i cur hi => (hs i _ hi (.inr (.inr (.inr ⟨cur, rfl⟩)))).trans hi.symm⟩
/-- where one box alone turns -/
theorem IsP.but (h : IsP w pb mf mc f c) {b t : Nat} {v : Value} (hb : Boxed w b t v) (h1 : t ≠ 90) (h2 : t ≠ 31) (hs : ∀ i, i < w.heap.size → i ≠ b → w'.heap[i]? = w.heap[i]?) : IsP w' pb mf mc f c := by
  obtain ⟨⟨_, _, of⟩, ⟨_, _, oc⟩⟩ := h.objs
  have hb' : w.heap[b]? = some (.cells #[v] t (0, 0)) := hb
  refine h.obj fun i o ho hi => (hs i (lt_of_heap ho) ?_).trans ho
  rintro rfl
  rw [hb'] at ho
  injection ho with ho
  subst ho
  rcases hi with rfl | rfl | rfl | ⟨cur, e⟩
  · have := h.head; rw [hb'] at this; injection this with this; injection this with _ e _; exact h1 e
  · rw [hb'] at of; cases of
  · rw [hb'] at oc; cases oc
  · injection e with _ e _; exact h2 e
/-- where what lies below B stays, and all cells but one box of an int -/
theorem IsP.kpi (h : IsP w pb mf mc f c) {B ib : Nat} {v : Value} (k : KpI B ib w w') (h1 : pb < B) (h2 : mf < B) (h3 : mc < B) (hib : B ≤ ib) (hb : Boxed w ib 3 v) : IsP w' pb mf mc f c := by
  have hb' : w.heap[ib]? = some (.cells #[v] 3 (0, 0)) := hb
  refine h.obj fun i o ho hi => ?_
  rcases hi with rfl | rfl | rfl | ⟨cur, rfl⟩
  · exact k.2 _ _ ho (by omega) (.inl h1)
  · exact k.2 _ _ ho (by omega) (.inl h2)
  · exact k.2 _ _ ho (by omega) (.inl h3)
  · refine k.2 _ _ ho ?_ (.inr rfl)
    rintro rfl
    rw [hb'] at ho
    injection ho with ho
    injection ho with _ e _
    exact absurd e (by decide)
theorem OwnJ.obj {base : Nat} {v : Value} {J : Jn} (h : OwnJ base w v J) (hs : ∀ (i : Nat) cur, w.heap[i]? = some (Obj.cells cur 68 (0, 0)) → w'.heap[i]? = w.heap[i]?) : OwnJ base w' v J := by
  refine ⟨h.1, ?_⟩
  rcases h.2 with h1 | ⟨g, cap, cur, h1, h2, h3, h4⟩
  · exact .inl h1
  · exact .inr ⟨g, cap, cur, h1, h2, (hs g cur h3).trans h3, h4⟩
theorem OwnJ.but {base : Nat} {v : Value} {J : Jn} (h : OwnJ base w v J) {b t : Nat} {u : Value} (hb : Boxed w b t u) (h1 : t ≠ 68) (hs : ∀ i, i < w.heap.size → i ≠ b → w'.heap[i]? = w.heap[i]?) : OwnJ base w' v J := by
  have hb' : w.heap[b]? = some (.cells #[u] t (0, 0)) := hb
  refine h.obj fun i cur hi => hs i (lt_of_heap hi) ?_
  rintro rfl
  rw [hb'] at hi
  injection hi with hi
  injection hi with _ e _
  exact h1 e
/-- cells stay where a partition's maps turn -/
theorem TnM.cells (ht : TnM w w' mf mc) (h : IsP w pb mf mc f c) {i : Nat} {cur : Array Value} {t : TypeId} {fz : Nat × Nat} (hi : w.heap[i]? = some (.cells cur t fz)) : w'.heap[i]? = some (.cells cur t fz) := by
  obtain ⟨⟨_, _, of⟩, ⟨_, _, oc⟩⟩ := h.objs
  refine (ht.same i (lt_of_heap hi) ?_ ?_).trans hi
  · rintro rfl; rw [of] at hi; cases hi
  · rintro rfl; rw [oc] at hi; cases hi
theorem box_set {b : Nat} {v : Value} : ∀ i, i < w.heap.size → i ≠ b → (w.setCell ⟨b, 0, none⟩ v).heap[i]? = w.heap[i]? := fun i _ h => Below.heap_setCell w ⟨b, 0, none⟩ v i h
/-- the keys of a partition, rising -/
theorem PInv.keysL {J : Jn} (hI : PInv J f c) (hJ : ∀ p ∈ J, is32 p.1 ∧ is32 p.2) {ks : List Int} (h1 : ks.Nodup) (h2 : ∀ x ∈ ks, is32 x) (h3 : ∀ x, is32 x → (x ∈ ks ↔ c x ≠ none)) : Srt (srt ks) ∧ (srt ks).length = ks.length ∧ ∀ x, x ∈ srt ks ↔ IsKey J x := by
  refine ⟨srt_srt h1, srt_len ks, fun x => ?_⟩
  rw [(srt_perm ks).mem_iff]
  constructor
  · intro hx; exact (hI.key x).1 ((h3 x (h2 x hx)).1 hx)
  · intro hx; exact (h3 x (nums_32 hJ hx.nums)).2 ((hI.key x).2 hx)
end
end Go.Proofs.Ytghihhjcoilmgaa
