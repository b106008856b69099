/- Maps keyed by numbers of 32 bits: a look-up, a store, a delete, a range, a copy, the keys. -/
import Derived.Test.YtghihhjcoilmgaaQ0
import Derived.Test.YtghihhjcoilmgaaQ2
import Derived.Maps.Range
import Derived.Shelf.SlMaps.Clone
import Derived.Sort.MapsRangeIn
namespace Go.Proofs.Ytghihhjcoilmgaa
set_option maxRecDepth 100000
open Go.RowKit Go.Maps Go.Shelf
open Go.ChangeMaps Go.MapKept
set_option linter.unusedVariables false
set_option linter.unusedSimpArgs false
attribute [local go_sem] Oper.semAt_some

def is32 (x : Int) : Prop := 0 ≤ x ∧ x ≤ 4294967295
def uv (x : Int) : Value := .int .u32 x
theorem uv_inj {x y : Int} (h : uv x = uv y) : x = y := by simpa [uv] using h
theorem wf_u32 {x : Int} (h : is32 x) : (Lit.int .u32 x).wf = true := by
  obtain ⟨h1, h2⟩ := h
  have e1 : IntKind.u32.min = 0 := by decide
  have e2 : IntKind.u32.max = 4294967295 := by decide
  simp only [Lit.wf, e1, e2, Bool.and_eq_true, decide_eq_true_eq]
  exact ⟨h1, h2⟩
theorem kysU : Kys Try.prog 31 uv is32 := ⟨int_keyed Try.underlying31, fun x hx => ⟨_, keyOf_int_mk Try.underlying31 (wf_u32 hx)⟩, fun x y _ _ h => by simpa [uv] using h⟩

section
variable {κ : Type} [DecidableEq κ] {enc : κ → Value} {ok : κ → Prop} {P : Program} (w : World) {ops : Array Oper} {rest : List Oper} {o : Oper} {a : Act} {Q : Exit → Act → World → Prop}
theorem wpList_mapUpdate_raw (hg : o.guard = none) (m x v : Operand) (t : TypeId) (hop : o.op = Op.mapUpdate t m x v)
    (k e : TypeId) (K : Kys P k enc ok) (ht : P.underlying t = some (.map k e)) (b : Nat) (f : κ → Option Value)
    (hm : a.eval m = .map (some b)) (hmap : MapAt enc ok w b f) (y : κ) (hy : ok y) (val : Value) (hx : a.eval x = enc y) (hv : a.eval v = val)
    (hK : ∀ w', MapAt enc ok w' b (upd f y (some val)) → w.mapTurned w' b → wpList P ops Q rest (a.put o.dst undef) w') :
    wpList P ops Q (o :: rest) a w := by
  refine wpList_plain hg fun K' hK' => ?_
  obtain ⟨w', hrun, r1, r2⟩ := hmap.put K ht hy val
  unfold Oper.wp
  simp [execOp, hop, hm, hx, hv, hrun, Result.andThen]
  exact hK' _ _ (hK w' r1 r2)

theorem wpList_delete_raw (hg : o.guard = none) (m x : Operand) (t k : TypeId) (hop : o.op = Op.call { callee := Callee.builtin Builtin.delete, args := #[m, x], argTypes := #[t, k] })
    (e : TypeId) (K : Kys P k enc ok) (ht : P.underlying t = some (.map k e)) (b : Nat) (f : κ → Option Value)
    (hm : a.eval m = .map (some b)) (hmap : MapAt enc ok w b f) (y : κ) (hy : ok y) (hx : a.eval x = enc y)
    (hK : ∀ w', MapAt enc ok w' b (upd f y none) → w.mapTurned w' b → wpList P ops Q rest (a.put o.dst (.tuple #[])) w') :
    wpList P ops Q (o :: rest) a w := by
  refine wpList_plain hg fun K' hK' => ?_
  obtain ⟨w', hrun, r1, r2⟩ := hmap.del K ht hy o.type
  unfold Oper.wp
  simp [execOp, hop, resolve, invoke, builtin, hm, hx, hrun, Result.andThen]
  exact hK' _ _ (hK w' r1 r2)
end
theorem turned_heap {w w' : World} {b : Nat} (h : w.mapTurned w' b) : (∃ es c, w.heap[b]? = some (.map es c)) ∧ ∀ i, i ≠ b → w'.heap[i]? = w.heap[i]? := by
  obtain ⟨es, clock, es', clock', hb, rfl⟩ := h
  exact ⟨⟨es, clock, hb⟩, fun i hi => ChangeMaps.heap_setBlock_other hb _ hi⟩

/-- a range over a map of numbers, under way -/
def IterAt (w : World) (b r : Nat) (f : Int → Option Value) (done : Int → Prop) (cnt : Nat) : Prop :=
  ∃ es clock since seen c0, w.heap[b]? = some (.map es clock) ∧ MapOk uv is32 es clock f ∧ w.heap[r]? = some (.mapIter (some b) since seen c0) ∧ (∀ x ∈ es.toList, x.born < since) ∧ since ≤ c0 ∧ since ≤ clock ∧
    (leftOf es seen).size = cnt ∧ ∀ x, is32 x → f x ≠ none → (done x ↔ ∃ e ∈ es.toList, e.key = uv x ∧ seen.contains e.born = true)
section
variable {P : Program} {w w' : World} {b r cnt : Nat} {f : Int → Option Value} {done : Int → Prop}
theorem IterAt.left_eq (h : IterAt w b r f done cnt) : w.rangeLeft b r = cnt := by
  obtain ⟨es, clock, since, seen, c0, hb, _, hr, _, _, _, hc, _⟩ := h
  simp only [World.rangeLeft, hb, hr]
  exact hc
theorem IterAt.lt (h : IterAt w b r f done cnt) : b < w.heap.size ∧ r < w.heap.size := by
  obtain ⟨es, clock, since, seen, c0, hb, _, hr, _⟩ := h
  exact ⟨(Array.getElem?_eq_some_iff.1 hb).1, (Array.getElem?_eq_some_iff.1 hr).1⟩
theorem IterAt.keep (h : IterAt w b r f done cnt) (h1 : w'.heap[b]? = w.heap[b]?) (h2 : w'.heap[r]? = w.heap[r]?) : IterAt w' b r f done cnt := by
  obtain ⟨es, clock, since, seen, c0, hb, hok, hr, rest⟩ := h
  exact ⟨es, clock, since, seen, c0, h1.trans hb, hok, h2.trans hr, rest⟩
theorem MapAt.iter (h : MapAt uv is32 w b f) {t k e : TypeId} (ht : P.underlying t = some (.map k e)) :
    ∃ w' cnt, (Instr.range t (.map (some b))).run P w = .ok (.pointer (some ⟨w.heap.size, 0, none⟩)) w' ∧ IterAt w' b w.heap.size f (fun _ => False) cnt ∧ Below w.heap.size w w' ∧ w'.heap.size = w.heap.size + 1 := by
  have hlt := h.lt
  obtain ⟨es, clock, hb, hok⟩ := h
  refine ⟨_, _, run_range_map w t k e b es clock ht hb, ⟨es, clock, clock, #[], clock, (Below.heap_alloc _ _ b hlt).trans hb, hok, World.alloc_heap_new _ _, hok.st.1, Nat.le_refl _, Nat.le_refl _, rfl, fun x _ _ => ⟨fun h => h.elim, fun ⟨e, _, _, h⟩ => by simp at h⟩⟩, (Below.refl _ w).alloc (Nat.le_refl _) _, World.size_alloc _ _⟩
theorem IterAt.next (h : IterAt w b r f done cnt) (hne : b ≠ r) (ty : TypeId) :
    (cnt = 0 ∧ (∀ x, is32 x → f x ≠ none → done x) ∧ (Instr.next (.pointer (some ⟨r, 0, none⟩)) false ty).run P w = .ok (.tuple #[.bool false]) w) ∨
    ∃ x v w' cnt', is32 x ∧ f x = some v ∧ ¬ done x ∧ (Instr.next (.pointer (some ⟨r, 0, none⟩)) false ty).run P w = .ok (.tuple #[.bool true, uv x, v]) w' ∧
      IterAt w' b r f (fun y => done y ∨ y = x) cnt' ∧ cnt' < cnt ∧ w.grownBy w' (some r) ∧ w'.heap.size = w.heap.size ∧ (Instr.entry (.pointer (some ⟨r, 0, none⟩))).run P w' = .ok (.tuple #[uv x, v]) w' := by
  obtain ⟨es, clock, since, seen, c0, hb, hok, hr, hold, hsc, hsk, rfl, hd⟩ := h
  have hst := (stamped_iff es clock).1 hok.st
  rcases run_next_at (P := P) w ty r b since c0 seen es clock hr hb hold hsc with ⟨h0, hrun⟩ | ⟨e, he, w1, hal, hrun⟩
  · refine .inl ⟨h0, fun x hx hf => ?_, hrun⟩
    obtain ⟨v, hv⟩ := Option.ne_none_iff_exists'.1 hf
    obtain ⟨e, he, hk, _⟩ := (hok.get x hx v).1 hv
    exact (hd x hx hf).2 ⟨e, he, hk, all_seen es seen h0 e he⟩
  · obtain ⟨hem, hes⟩ := mem_left he
    obtain ⟨x, hx, hkx⟩ := hok.keys e hem
    have hfx : f x = some e.val := (hok.get x hx e.val).2 ⟨e, hem, hkx, rfl⟩
    have hr1 : w1.heap[r]? = some (.mapIter (some b) since seen c0) := by rcases hal with rfl | rfl <;> exact hr
    have hb1 : w1.heap[b]? = some (.map es clock) := by rcases hal with rfl | rfl <;> exact hb
    have hset := heap_set (o' := .mapIter (some b) since (seen.push e.born) clock) hr1
    have hb' : (setBlock w1 r (.mapIter (some b) since (seen.push e.born) clock)).heap[b]? = some (.map es clock) := (hset.2 b hne).trans hb1
    have hen := run_entry_at (P := P) _ r b since seen es clock e hset.1 hb' hem hst.2.1
    rw [hkx] at hrun hen
    refine .inr ⟨x, e.val, _, _, hx, hfx, fun hdx => ?_, hrun, ⟨es, clock, since, seen.push e.born, clock, hb', hok, hset.1, hold, hsk, hsk, rfl, fun y hy hfy => ?_⟩, left_shrinks es seen e he, ?_, ?_, hen⟩
    · obtain ⟨e', he', hk', hs'⟩ := (hd x hx (by rw [hfx]; simp)).1 hdx
      have : e' = e := entry_eq_of_key hst.2.2 he' hem (hk'.trans hkx.symm)
      rw [this, hes] at hs'
      cases hs'
    · show (done y ∨ y = x) ↔ _
      rw [hd y hy hfy]
      constructor
      · rintro (⟨e', he', hk', hs'⟩ | rfl)
        · exact ⟨e', he', hk', by rw [contains_push, hs']; rfl⟩
        · exact ⟨e, hem, hkx, by rw [contains_push]; simp⟩
      · rintro ⟨e', he', hk', hs'⟩
        rw [contains_push, Bool.or_eq_true] at hs'
        rcases hs' with hs' | hs'
        · exact .inl ⟨e', he', hk', hs'⟩
        · right
          have : e' = e := born_inj hst.2.1 he' hem (by simpa using hs')
          rw [this, hkx] at hk'
          exact (uv_inj hk').symm
    · rcases hal with rfl | rfl <;> exact ⟨rfl, rfl, rfl, by simp [setBlock], fun i _ hi => hset.2 i (fun e1 => hi (by rw [e1]))⟩
    · rcases hal with rfl | rfl <;> simp [setBlock]

variable {ops : Array Oper} {rest : List Oper} {o : Oper} {a : Act} {Q : Exit → Act → World → Prop}
theorem wpList_next_it (hg : o.guard = none) (it : Operand) (hop : o.op = Op.next it false) (hit : a.eval it = .pointer (some ⟨r, 0, none⟩)) (h : IterAt w b r f done cnt) (hne : b ≠ r)
    (hDone : cnt = 0 → (∀ x, is32 x → f x ≠ none → done x) → wpList P ops Q rest (a.put o.dst (.tuple #[.bool false])) w)
    (hMore : ∀ (x : Int) (v : Value) (w' : World) (cnt' : Nat), is32 x → f x = some v → ¬ done x → IterAt w' b r f (fun y => done y ∨ y = x) cnt' → cnt' < cnt → w.grownBy w' (some r) → w'.heap.size = w.heap.size →
      (Instr.entry (.pointer (some ⟨r, 0, none⟩))).run P w' = .ok (.tuple #[uv x, v]) w' → wpList P ops Q rest (a.put o.dst (.tuple #[.bool true, uv x, v])) w') :
    wpList P ops Q (o :: rest) a w := by
  refine wpList_plain hg fun K' hK' => ?_
  unfold Oper.wp
  rcases h.next (P := P) hne o.type with ⟨h0, hl, hrun⟩ | ⟨x, v, w', cnt', hx, hf, hd, hrun, hi, hlt, hgr, hsz, hen⟩
  · simp [execOp, hop, hit, hrun, Result.andThen]
    exact hK' _ _ (hDone h0 hl)
  · simp [execOp, hop, hit, hrun, Result.andThen]
    exact hK' _ _ (hMore x v w' cnt' hx hf hd hi hlt hgr hsz hen)
theorem wpList_range_it (hg : o.guard = none) (m : Operand) (t : TypeId) (hop : o.op = Op.range t m) {k e : TypeId} (ht : P.underlying t = some (.map k e)) (hm : a.eval m = .map (some b)) (h : MapAt uv is32 w b f)
    (hK : ∀ w' cnt, IterAt w' b w.heap.size f (fun _ => False) cnt → Below w.heap.size w w' → w'.heap.size = w.heap.size + 1 → wpList P ops Q rest (a.put o.dst (.pointer (some ⟨w.heap.size, 0, none⟩))) w') :
    wpList P ops Q (o :: rest) a w := by
  refine wpList_plain hg fun K' hK' => ?_
  obtain ⟨w', cnt, hrun, r1, r2, r3⟩ := h.iter (P := P) ht
  unfold Oper.wp
  simp [execOp, hop, hm, hrun, Result.andThen]
  exact hK' _ _ (hK w' cnt r1 r2 r3)
variable {F : Fence} {n : Nat}
theorem wpListIn_next_it (hg : o.guard = none) (it : Operand) (hop : o.op = Op.next it false) (hit : a.eval it = .pointer (some ⟨r, 0, none⟩)) (h : IterAt w b r f done cnt) (hne : b ≠ r)
    (hDone : cnt = 0 → (∀ x, is32 x → f x ≠ none → done x) → wpListIn F n P ops Q rest (a.put o.dst (.tuple #[.bool false])) w)
    (hMore : ∀ (x : Int) (v : Value) (w' : World) (cnt' : Nat), is32 x → f x = some v → ¬ done x → IterAt w' b r f (fun y => done y ∨ y = x) cnt' → cnt' < cnt → w.grownBy w' (some r) → w'.heap.size = w.heap.size →
      (Instr.entry (.pointer (some ⟨r, 0, none⟩))).run P w' = .ok (.tuple #[uv x, v]) w' → wpListIn F n P ops Q rest (a.put o.dst (.tuple #[.bool true, uv x, v])) w') :
    wpListIn F n P ops Q (o :: rest) a w := by
  refine wpListIn_plain hg fun K' hK' => ?_
  unfold Oper.wpIn
  refine ⟨by simp [Oper.about, hop], ?_⟩
  rw [Oper.semAt_plain F _ _ (by rw [hop]; intro c hc'; cases hc')]
  rcases h.next (P := P) hne o.type with ⟨h0, hl, hrun⟩ | ⟨x, v, w', cnt', hx, hf, hd, hrun, hi, hlt, hgr, hsz, hen⟩
  · simp [execOp, hop, hit, hrun, Result.andThen]
    exact hK' _ _ (hDone h0 hl)
  · simp [execOp, hop, hit, hrun, Result.andThen]
    exact hK' _ _ (hMore x v w' cnt' hx hf hd hi hlt hgr hsz hen)
theorem wpListIn_range_it (hg : o.guard = none) (m : Operand) (t : TypeId) (hop : o.op = Op.range t m) {k e : TypeId} (ht : P.underlying t = some (.map k e)) (hm : a.eval m = .map (some b)) (h : MapAt uv is32 w b f)
    (hK : ∀ w' cnt, IterAt w' b w.heap.size f (fun _ => False) cnt → w.grownBy w' none → w'.heap.size = w.heap.size + 1 → wpListIn F n P ops Q rest (a.put o.dst (.pointer (some ⟨w.heap.size, 0, none⟩))) w') :
    wpListIn F n P ops Q (o :: rest) a w := by
  refine wpListIn_plain hg fun K' hK' => ?_
  obtain ⟨w', cnt, hrun, r1, r2, r3⟩ := h.iter (P := P) ht
  unfold Oper.wpIn
  refine ⟨by simp [Oper.about, hop], ?_⟩
  rw [Oper.semAt_plain F _ _ (by rw [hop]; intro c hc'; cases hc')]
  simp [execOp, hop, hm, hrun, Result.andThen]
  exact hK' _ _ (hK w' cnt r1 ⟨r2.os, r2.tape, r2.output, r2.size, fun k hk _ => r2.block k hk⟩ r3)
theorem IterAt.walk (h : IterAt w b r f done cnt) : ∃ o : Obj, w.heap[r]? = some o ∧ o.isWalk = true := by
  obtain ⟨es, clock, since, seen, c0, hb, _, hr, _⟩ := h
  exact ⟨_, hr, rfl⟩
end

end Go.Proofs.Ytghihhjcoilmgaa
