/- Maps keyed by numbers of 32 bits: a look-up, a store, a delete, a range, a copy, the keys. -/
import Derived.Test.YtpiciickgomggaaQ0
import Derived.Test.YtpiciickgomggaaQ2
import Derived.Maps.Range
import Derived.Shelf.SlMaps.Clone
import Derived.Sort.MapsRangeIn
namespace Go.Proofs.Ytpiciickgomggaa
set_option maxRecDepth 100000
open Go.RowKit Go.Maps Go.Shelf
open Go.ChangeMaps Go.MapKept
set_option linter.unusedVariables false
set_option linter.unusedSimpArgs false
attribute [local go_sem] Oper.semAt_some

def is32 (x : Int) : Prop := 0 ≤ x ∧ x ≤ 4294967295
def uv (x : Int) : Value := .int .u32 x
theorem uv_inj {x y : Int} (h : uv x = uv y) : x = y := by simpa [uv] using h
theorem wf_u32 {x : Int} (h : is32 x) : (Lit.int .u32 x).wf = true := by
  obtain ⟨h1, h2⟩ := h
  have e1 : IntKind.u32.min = 0 := by decide
  have e2 : IntKind.u32.max = 4294967295 := by decide
  simp only [Lit.wf, e1, e2, Bool.and_eq_true, decide_eq_true_eq]
  exact ⟨h1, h2⟩
theorem kysU : Kys Try.prog 26 uv is32 := ⟨int_keyed Try.underlying26, fun x hx => ⟨_, keyOf_int_mk Try.underlying26 (wf_u32 hx)⟩, fun x y _ _ h => by simpa [uv] using h⟩

section
variable {κ : Type} [DecidableEq κ] {enc : κ → Value} {ok : κ → Prop} {P : Program} (w : World) {ops : Array Oper} {rest : List Oper} {o : Oper} {a : Act} {Q : Exit → Act → World → Prop}
theorem wpList_mapUpdate_raw (hg : o.guard = none) (m x v : Operand) (t : TypeId) (hop : o.op = Op.mapUpdate t m x v)
    (k e : TypeId) (K : Kys P k enc ok) (ht : P.underlying t = some (.map k e)) (b : Nat) (f : κ → Option Value)
    (hm : a.eval m = .map (some b)) (hmap : MapAt enc ok w b f) (y : κ) (hy : ok y) (val : Value) (hx : a.eval x = enc y) (hv : a.eval v = val)
    (hK : ∀ w', MapAt enc ok w' b (upd f y (some val)) → w.mapTurned w' b → wpList P ops Q rest (a.put o.dst undef) w') :
    wpList P ops Q (o :: rest) a w := by
  refine wpList_plain hg fun K' hK' => ?_
  obtain ⟨w', hrun, r1, r2⟩ := hmap.put K ht hy val
  unfold Oper.wp
  simp [execOp, hop, hm, hx, hv, hrun, Result.andThen]
  exact hK' _ _ (hK w' r1 r2)

theorem wpList_delete_raw (hg : o.guard = none) (m x : Operand) (t k : TypeId) (hop : o.op = Op.call { callee := Callee.builtin Builtin.delete, args := #[m, x], argTypes := #[t, k] })
    (e : TypeId) (K : Kys P k enc ok) (ht : P.underlying t = some (.map k e)) (b : Nat) (f : κ → Option Value)
    (hm : a.eval m = .map (some b)) (hmap : MapAt enc ok w b f) (y : κ) (hy : ok y) (hx : a.eval x = enc y)
    (hK : ∀ w', MapAt enc ok w' b (upd f y none) → w.mapTurned w' b → wpList P ops Q rest (a.put o.dst (.tuple #[])) w') :
    wpList P ops Q (o :: rest) a w := by
  refine wpList_plain hg fun K' hK' => ?_
  obtain ⟨w', hrun, r1, r2⟩ := hmap.del K ht hy o.type
  unfold Oper.wp
  simp [execOp, hop, resolve, invoke, builtin, hm, hx, hrun, Result.andThen]
  exact hK' _ _ (hK w' r1 r2)
end
theorem turned_heap {w w' : World} {b : Nat} (h : w.mapTurned w' b) : (∃ es c, w.heap[b]? = some (.map es c)) ∧ ∀ i, i ≠ b → w'.heap[i]? = w.heap[i]? := by
  obtain ⟨es, clock, es', clock', hb, rfl⟩ := h
  exact ⟨⟨es, clock, hb⟩, fun i hi => ChangeMaps.heap_setBlock_other hb _ hi⟩

/-- a range over a map of numbers, under way -/
def IterAt (w : World) (b r : Nat) (f : Int → Option Value) (done : Int → Prop) (cnt : Nat) : Prop :=
  ∃ es clock since seen c0, w.heap[b]? = some (.map es clock) ∧ MapOk uv is32 es clock f ∧ w.heap[r]? = some (.mapIter (some b) since seen c0) ∧ (∀ x ∈ es.toList, x.born < since) ∧ since ≤ c0 ∧ since ≤ clock ∧
    (leftOf es seen).size = cnt ∧ ∀ x, is32 x → f x ≠ none → (done x ↔ ∃ e ∈ es.toList, e.key = uv x ∧ seen.contains e.born = true)
section
variable {P : Program} {w w' : World} {b r cnt : Nat} {f : Int → Option Value} {done : Int → Prop}
theorem IterAt.left_eq (h : IterAt w b r f done cnt) : w.rangeLeft b r = cnt := by
  obtain ⟨es, clock, since, seen, c0, hb, _, hr, _, _, _, hc, _⟩ := h
  simp only [World.rangeLeft, hb, hr]
  exact hc
theorem IterAt.lt (h : IterAt w b r f done cnt) : b < w.heap.size ∧ r < w.heap.size := by
  obtain ⟨es, clock, since, seen, c0, hb, _, hr, _⟩ := h
  exact ⟨(Array.getElem?_eq_some_iff.1 hb).1, (Array.getElem?_eq_some_iff.1 hr).1⟩
theorem IterAt.keep (h : IterAt w b r f done cnt) (h1 : w'.heap[b]? = w.heap[b]?) (h2 : w'.heap[r]? = w.heap[r]?) : IterAt w' b r f done cnt := by
  obtain ⟨es, clock, since, seen, c0, hb, hok, hr, rest⟩ := h
  exact ⟨es, clock, since, seen, c0, h1.trans hb, hok, h2.trans hr, rest⟩
theorem MapAt.iter (h : MapAt uv is32 w b f) {t k e : TypeId} (ht : P.underlying t = some (.map k e)) :
    ∃ w' cnt, (Instr.range t (.map (some b))).run P w = .ok (.pointer (some ⟨w.heap.size, 0, none⟩)) w' ∧ IterAt w' b w.heap.size f (fun _ => False) cnt ∧ Below w.heap.size w w' ∧ w'.heap.size = w.heap.size + 1 := by
  have hlt := h.lt
  obtain ⟨es, clock, hb, hok⟩ := h
  refine ⟨_, _, run_range_map w t k e b es clock ht hb, ⟨es, clock, clock, #[], clock, (Below.heap_alloc _ _ b hlt).trans hb, hok, World.alloc_heap_new _ _, hok.st.1, Nat.le_refl _, Nat.le_refl _, rfl, fun x _ _ => ⟨fun h => h.elim, fun ⟨e, _, _, h⟩ => by simp at h⟩⟩, (Below.refl _ w).alloc (Nat.le_refl _) _, World.size_alloc _ _⟩
theorem IterAt.next (h : IterAt w b r f done cnt) (hne : b ≠ r) (ty : TypeId) :
    (cnt = 0 ∧ (∀ x, is32 x → f x ≠ none → done x) ∧ (Instr.next (.pointer (some ⟨r, 0, none⟩)) false ty).run P w = .ok (.tuple #[.bool false]) w) ∨
    ∃ x v w' cnt', is32 x ∧ f x = some v ∧ ¬ done x ∧ (Instr.next (.pointer (some ⟨r, 0, none⟩)) false ty).run P w = .ok (.tuple #[.bool true, uv x, v]) w' ∧
      IterAt w' b r f (fun y => done y ∨ y = x) cnt' ∧ cnt' < cnt ∧ w.grownBy w' (some r) ∧ w'.heap.size = w.heap.size ∧ (Instr.entry (.pointer (some ⟨r, 0, none⟩))).run P w' = .ok (.tuple #[uv x, v]) w' := by
  obtain ⟨es, clock, since, seen, c0, hb, hok, hr, hold, hsc, hsk, rfl, hd⟩ := h
  have hst := (stamped_iff es clock).1 hok.st
  rcases run_next_at (P := P) w ty r b since c0 seen es clock hr hb hold hsc with ⟨h0, hrun⟩ | ⟨e, he, w1, hal, hrun⟩
  · refine .inl ⟨h0, fun x hx hf => ?_, hrun⟩
    obtain ⟨v, hv⟩ := Option.ne_none_iff_exists'.1 hf
    obtain ⟨e, he, hk, _⟩ := (hok.get x hx v).1 hv
    exact (hd x hx hf).2 ⟨e, he, hk, all_seen es seen h0 e he⟩
  · obtain ⟨hem, hes⟩ := mem_left he
    obtain ⟨x, hx, hkx⟩ := hok.keys e hem
    have hfx : f x = some e.val := (hok.get x hx e.val).2 ⟨e, hem, hkx, rfl⟩
    have hr1 : w1.heap[r]? = some (.mapIter (some b) since seen c0) := by rcases hal with rfl | rfl <;> exact hr
    have hb1 : w1.heap[b]? = some (.map es clock) := by rcases hal with rfl | rfl <;> exact hb
    have hset := heap_set (o' := .mapIter (some b) since (seen.push e.born) clock) hr1
    have hb' : (setBlock w1 r (.mapIter (some b) since (seen.push e.born) clock)).heap[b]? = some (.map es clock) := (hset.2 b hne).trans hb1
    have hen := run_entry_at (P := P) _ r b since seen es clock e hset.1 hb' hem hst.2.1
    rw [hkx] at hrun hen
    refine .inr ⟨x, e.val, _, _, hx, hfx, fun hdx => ?_, hrun, ⟨es, clock, since, seen.push e.born, clock, hb', hok, hset.1, hold, hsk, hsk, rfl, fun y hy hfy => ?_⟩, left_shrinks es seen e he, ?_, ?_, hen⟩
    · obtain ⟨e', he', hk', hs'⟩ := (hd x hx (by rw [hfx]; simp)).1 hdx
      have : e' = e := entry_eq_of_key hst.2.2 he' hem (hk'.trans hkx.symm)
      rw [this, hes] at hs'
      cases hs'
    · show (done y ∨ y = x) ↔ _
      rw [hd y hy hfy]
      constructor
      · rintro (⟨e', he', hk', hs'⟩ | rfl)
        · exact ⟨e', he', hk', by rw [contains_push, hs']; rfl⟩
        · exact ⟨e, hem, hkx, by rw [contains_push]; simp⟩
      · rintro ⟨e', he', hk', hs'⟩
        rw [contains_push, Bool.or_eq_true] at hs'
        rcases hs' with hs' | hs'
        · exact .inl ⟨e', he', hk', hs'⟩
        · right
          have : e' = e := born_inj hst.2.1 he' hem (by simpa using hs')
          rw [this, hkx] at hk'
          exact (uv_inj hk').symm
    · rcases hal with rfl | rfl <;> exact ⟨rfl, rfl, rfl, by simp [setBlock], fun i _ hi => hset.2 i (fun e1 => hi (by rw [e1]))⟩
    · rcases hal with rfl | rfl <;> simp [setBlock]

variable {ops : Array Oper} {rest : List Oper} {o : Oper} {a : Act} {Q : Exit → Act → World → Prop}
theorem wpList_next_it (hg : o.guard = none) (it : Operand) (hop : o.op = Op.next it false) (hit : a.eval it = .pointer (some ⟨r, 0, none⟩)) (h : IterAt w b r f done cnt) (hne : b ≠ r)
    (hDone : cnt = 0 → (∀ x, is32 x → f x ≠ none → done x) → wpList P ops Q rest (a.put o.dst (.tuple #[.bool false])) w)
    (hMore : ∀ (x : Int) (v : Value) (w' : World) (cnt' : Nat), is32 x → f x = some v → ¬ done x → IterAt w' b r f (fun y => done y ∨ y = x) cnt' → cnt' < cnt → w.grownBy w' (some r) → w'.heap.size = w.heap.size →
      (Instr.entry (.pointer (some ⟨r, 0, none⟩))).run P w' = .ok (.tuple #[uv x, v]) w' → wpList P ops Q rest (a.put o.dst (.tuple #[.bool true, uv x, v])) w') :
    wpList P ops Q (o :: rest) a w := by
  refine wpList_plain hg fun K' hK' => ?_
  unfold Oper.wp
  rcases h.next (P := P) hne o.type with ⟨h0, hl, hrun⟩ | ⟨x, v, w', cnt', hx, hf, hd, hrun, hi, hlt, hgr, hsz, hen⟩
  · simp [execOp, hop, hit, hrun, Result.andThen]
    exact hK' _ _ (hDone h0 hl)
  · simp [execOp, hop, hit, hrun, Result.andThen]
    exact hK' _ _ (hMore x v w' cnt' hx hf hd hi hlt hgr hsz hen)
theorem wpList_range_it (hg : o.guard = none) (m : Operand) (t : TypeId) (hop : o.op = Op.range t m) {k e : TypeId} (ht : P.underlying t = some (.map k e)) (hm : a.eval m = .map (some b)) (h : MapAt uv is32 w b f)
    (hK : ∀ w' cnt, IterAt w' b w.heap.size f (fun _ => False) cnt → Below w.heap.size w w' → w'.heap.size = w.heap.size + 1 → wpList P ops Q rest (a.put o.dst (.pointer (some ⟨w.heap.size, 0, none⟩))) w') :
    wpList P ops Q (o :: rest) a w := by
  refine wpList_plain hg fun K' hK' => ?_
  obtain ⟨w', cnt, hrun, r1, r2, r3⟩ := h.iter (P := P) ht
  unfold Oper.wp
  simp [execOp, hop, hm, hrun, Result.andThen]
  exact hK' _ _ (hK w' cnt r1 r2 r3)
variable {F : Fence} {n : Nat}
theorem wpListIn_next_it (hg : o.guard = none) (it : Operand) (hop : o.op = Op.next it false) (hit : a.eval it = .pointer (some ⟨r, 0, none⟩)) (h : IterAt w b r f done cnt) (hne : b ≠ r)
    (hDone : cnt = 0 → (∀ x, is32 x → f x ≠ none → done x) → wpListIn F n P ops Q rest (a.put o.dst (.tuple #[.bool false])) w)
    (hMore : ∀ (x : Int) (v : Value) (w' : World) (cnt' : Nat), is32 x → f x = some v → ¬ done x → IterAt w' b r f (fun y => done y ∨ y = x) cnt' → cnt' < cnt → w.grownBy w' (some r) → w'.heap.size = w.heap.size →
      (Instr.entry (.pointer (some ⟨r, 0, none⟩))).run P w' = .ok (.tuple #[uv x, v]) w' → wpListIn F n P ops Q rest (a.put o.dst (.tuple #[.bool true, uv x, v])) w') :
    wpListIn F n P ops Q (o :: rest) a w := by
  refine wpListIn_plain hg fun K' hK' => ?_
  unfold Oper.wpIn
  refine ⟨by simp [Oper.about, hop], ?_⟩
  rw [Oper.semAt_plain F _ _ (by rw [hop]; intro c hc'; cases hc')]
  rcases h.next (P := P) hne o.type with ⟨h0, hl, hrun⟩ | ⟨x, v, w', cnt', hx, hf, hd, hrun, hi, hlt, hgr, hsz, hen⟩
  · simp [execOp, hop, hit, hrun, Result.andThen]
    exact hK' _ _ (hDone h0 hl)
  · simp [execOp, hop, hit, hrun, Result.andThen]
    exact hK' _ _ (hMore x v w' cnt' hx hf hd hi hlt hgr hsz hen)
theorem wpListIn_range_it (hg : o.guard = none) (m : Operand) (t : TypeId) (hop : o.op = Op.range t m) {k e : TypeId} (ht : P.underlying t = some (.map k e)) (hm : a.eval m = .map (some b)) (h : MapAt uv is32 w b f)
    (hK : ∀ w' cnt, IterAt w' b w.heap.size f (fun _ => False) cnt → w.grownBy w' none → w'.heap.size = w.heap.size + 1 → wpListIn F n P ops Q rest (a.put o.dst (.pointer (some ⟨w.heap.size, 0, none⟩))) w') :
    wpListIn F n P ops Q (o :: rest) a w := by
  refine wpListIn_plain hg fun K' hK' => ?_
  obtain ⟨w', cnt, hrun, r1, r2, r3⟩ := h.iter (P := P) ht
  unfold Oper.wpIn
  refine ⟨by simp [Oper.about, hop], ?_⟩
  rw [Oper.semAt_plain F _ _ (by rw [hop]; intro c hc'; cases hc')]
  simp [execOp, hop, hm, hrun, Result.andThen]
  exact hK' _ _ (hK w' cnt r1 ⟨r2.os, r2.tape, r2.output, r2.size, fun k hk _ => r2.block k hk⟩ r3)
theorem IterAt.walk (h : IterAt w b r f done cnt) : ∃ o : Obj, w.heap[r]? = some o ∧ o.isWalk = true := by
  obtain ⟨es, clock, since, seen, c0, hb, _, hr, _⟩ := h
  exact ⟨_, hr, rfl⟩
end

set_option maxRecDepth 100000 in
theorem clone_of {w : World} {κ : Type} {enc : κ → Value} {ok : κ → Prop} {b : Nat} {f : κ → Option Value} (h : MapAt enc ok w b f) :
    Calls Try.prog 24 #[.map (some b)] w fun e w' => e = .returned (.map (some w.heap.size)) ∧ MapAt enc ok w' w.heap.size f ∧ Below w.heap.size w w' ∧ w'.heap.size = w.heap.size + 1 := by
  obtain ⟨es, clock, hb, hok⟩ := h
  have Hok := Lib.hid hok; have Hb := Lib.hid hb
  clear hok hb
  have hq := run_eql_map_nil_sl (P := Try.prog) w 45 _ _ (some b) Try.underlying45
  go_enter Try.func24, Try.ntmps24
  go_wp2_with fail
  rw [run_callFunc_extern Try.func31 (by kernel_rfl) (by kernel_rfl) (by kernel_rfl) (e := Extern.MapsClone.clone) (by kernel_rfl), run_maps_clone_sl w 45 Hb.out]
  simp only [Result.andThen]
  rw [Oper.upon_value]
  go_wp2_with fail
  rw [run_typeAssert_map_sl _ 45 _ _ _ _ Try.underlying45]
  simp only [Result.andThen]
  rw [Oper.upon_value]
  go_wp2_with fail
  go_ret
  exact ⟨rfl, ⟨es, clock, World.alloc_heap_new _ _, Hok.out⟩, (Below.refl _ w).alloc (Nat.le_refl _) _, World.size_alloc _ _⟩

set_option maxRecDepth 100000 in
theorem clone_cl {w : World} {κ : Type} {enc : κ → Value} {ok : κ → Prop} {b : Nat} {f : κ → Option Value} (h : MapAt enc ok w b f) :
    Calls Try.prog 25 #[.map (some b)] w fun e w' => e = .returned (.map (some w.heap.size)) ∧ MapAt enc ok w' w.heap.size f ∧ Below w.heap.size w w' ∧ w'.heap.size = w.heap.size + 1 := by
  obtain ⟨es, clock, hb, hok⟩ := h
  have Hok := Lib.hid hok; have Hb := Lib.hid hb
  clear hok hb
  have hq := run_eql_map_nil_sl (P := Try.prog) w 46 _ _ (some b) Try.underlying46
  go_enter Try.func25, Try.ntmps25
  go_wp2_with fail
  rw [run_callFunc_extern Try.func31 (by kernel_rfl) (by kernel_rfl) (by kernel_rfl) (e := Extern.MapsClone.clone) (by kernel_rfl), run_maps_clone_sl w 46 Hb.out]
  simp only [Result.andThen]
  rw [Oper.upon_value]
  go_wp2_with fail
  rw [run_typeAssert_map_sl _ 46 _ _ _ _ Try.underlying46]
  simp only [Result.andThen]
  rw [Oper.upon_value]
  go_wp2_with fail
  go_ret
  exact ⟨rfl, ⟨es, clock, World.alloc_heap_new _ _, Hok.out⟩, (Below.refl _ w).alloc (Nat.le_refl _) _, World.size_alloc _ _⟩

set_option maxRecDepth 100000 in
theorem keys_any (b : Nat) (w : World) :
    Calls Try.prog 27 #[.map (some b)] w fun e w' => e = .returned (.func (.func 32) #[] #[.pointer (some ⟨w.heap.size, 0, none⟩)]) ∧ w' = w.alloc (.cells #[.map (some b)] 46) := by
  go_enter Try.func27, Try.ntmps27
  go_wp2
  go_ret
  exact ⟨rfl, rfl⟩

set_option maxRecDepth 100000 in
set_option maxHeartbeats 2000000 in
theorem keys1_in (n l vb b N : Nat) (f : Int → Option Value) (hN : ∀ ys : List Int, ys.Nodup → (∀ x ∈ ys, is32 x ∧ f x ≠ none) → ys.length ≤ N) (B : Nat) (hbB : b < B) (J Jx : List Int → World → Prop)
    (hY : ∀ pre x W, J pre W → pre.length < N → YieldAt Fence.wide (n - 1) Try.prog l #[.int .u32 x] W fun e W' =>
      (e = .returned (.bool true) ∧ J (pre ++ [x]) W' ∧ KpB B W W') ∨ (e = .returned (.bool false) ∧ Jx (pre ++ [x]) W'))
    (W : World) (hBW : B ≤ W.heap.size) (hJ : AbidesFrom W.heap.size J) (hvb : W.cell? ⟨vb, 0, none⟩ = some (.map (some b))) (hM : MapAt uv is32 W b f) (h0 : J [] W) :
    CallsIn Fence.wide n Try.prog 32 #[.func (.yield l) #[] #[], .pointer (some ⟨vb, 0, none⟩)] W fun e W' => (∃ v, e = .returned v) ∧
      ((∃ ys, (ys.Nodup ∧ (∀ x ∈ ys, is32 x) ∧ ∀ x, is32 x → (x ∈ ys ↔ f x ≠ none)) ∧ J ys W') ∨ (∃ pre, True ∧ Jx pre W')) := by
  have HY := Lib.hid hY; have HJ0 := Lib.hid hJ; have H0 := Lib.hid h0; have HN := Lib.hid hN
  have HM := Lib.hid hM
  have hbr : b ≠ W.heap.size := by omega
  clear hY hJ h0 hN hM
  refine callsIn_of_wp Try.func32 rfl trivial ?_ rfl
  simp only [Try.ntmps32, List.size_toArray, List.length_cons, List.length_nil, Nat.reduceAdd, Nat.reduceSub, Array.replicate_succ, Array.replicate_zero, List.push_toArray, List.append_toArray, List.nil_append, List.cons_append]
  gi_wp2_with (first
    | (gi_at_range; refine wpListIn_range_it rfl _ 46 rfl Try.underlying46 rfl HM.out ?_; intro w0 cnt hI hg0 hs0; have HI := Lib.hid hI; have Hg0 := Lib.hid hg0; clear hI hg0)
    | gi_in)
  go_frame
  gi_loopw [3] (fun _ wr => ∃ (done : Int → Prop) (c : Nat) (ys : List Int), IterAt wr b W.heap.size f done c ∧ ys.Nodup ∧ (∀ x ∈ ys, is32 x ∧ f x ≠ none) ∧ (∀ x, done x ↔ x ∈ ys) ∧ J ys wr)
    (fun _ wr => wr.rangeLeft b W.heap.size)
  case atStart =>
    exact ⟨_, _, [], HI.out, List.nodup_nil, by simp, by simp, HJ0.out [] W w0 none H0.out Hg0.out (fun r e => by cases e)⟩
  case round =>
    obtain ⟨done, c, ys, hI, hnd, hys, hd, hJ⟩ := hrel
    have HI2 := Lib.hid hI; have Hnd := Lib.hid hnd; have Hys := Lib.hid hys; have Hd := Lib.hid hd; have HJ := Lib.hid hJ
    clear hI hnd hys hd hJ
    gi_wp2_with (first
      | (gi_at_next; refine wpListIn_next_it rfl _ rfl rfl HI2.out hbr ?_ ?_)
      | gi_in)
    · intro hc0 hl0
      have Hl0 := Lib.hid hl0
      clear hl0
      gi_wp2
      go_end0
      refine ⟨⟨_, rfl⟩, .inl ⟨ys, ⟨Hnd.out, fun x hx => (Hys.out x hx).1, fun x hx => ⟨fun h => (Hys.out x h).2, fun h => (Hd.out x).1 (Hl0.out x hx h)⟩⟩, HJ.out⟩⟩
    · intro x v w2 c2 hx hf hnx hI3 hlt hg2 hs2 hen
      have hx2 : IterAt w2 b W.heap.size f (fun y => done y ∨ y = x) c2 := hI3
      have hJ2 : J ys w2 := HJ0.out ys wr w2 (some W.heap.size) HJ.out hg2 (fun r e => by cases e; exact ⟨Nat.le_refl _, HI2.out.walk⟩)
      have hxn : x ∉ ys := fun h => hnx ((Hd.out x).2 h)
      have hnd2 : (ys ++ [x]).Nodup := List.nodup_append.2 ⟨Hnd.out, by simp, fun a ha c hc => by simp at hc; subst hc; exact fun e => hxn (e ▸ ha)⟩
      have hys2 : ∀ y ∈ ys ++ [x], is32 y ∧ f y ≠ none := fun y hy => by
        rcases List.mem_append.1 hy with h | h
        · exact Hys.out y h
        · simp at h; subst h; exact ⟨hx, by rw [hf]; simp⟩
      have hlen : ys.length < N := by have := HN.out _ hnd2 hys2; simp at this; omega
      have hm := fun y => (or_congr (Hd.out y) Iff.rfl : (done y ∨ y = x) ↔ (y ∈ ys ∨ y = x))
      have Hm := Lib.hid hm; have Hnd2 := Lib.hid hnd2; have Hys2 := Lib.hid hys2; have HI3 := Lib.hid hI3
      obtain ⟨fn, tmps, assign, body, hy, hR⟩ := HY.out ys x w2 hJ2 hlen
      have HR := Lib.hid hR
      have Hc : Hid (wr.rangeLeft b W.heap.size = c) := HI2.out.left_eq
      simp only [uv] at hen
      clear hR hm hnd2 hys2 hI3 hx2 hJ2 hxn hf hnx hg2 hs2
      gi_wp2
      refine ⟨fun hh => absurd hh (by decide), ?_⟩
      refine HR.out.mono ?_
      rintro e W3 (⟨rfl, hJ3, hk3⟩ | ⟨rfl, hJx3⟩)
      · have HJ3 := Lib.hid hJ3; have Hk3 := Lib.hid hk3; clear hJ3 hk3
        have hI4 : IterAt W3 b W.heap.size f (fun y => done y ∨ y = x) c2 := by
          obtain ⟨o, ho, hw⟩ := HI3.out.walk
          exact HI3.out.keep (Hk3.out.1 b hbB) ((Hk3.out.2.same _ _ ho hw).trans ho.symm)
        have HI4 := Lib.hid hI4
        clear hI4
        gi_wp2
        go_roundw
        case rel => exact ⟨_, c2, ys ++ [x], HI4.out, Hnd2.out, Hys2.out, fun y => by rw [Hm.out y]; simp, HJ3.out⟩
        case measure => rw [HI4.out.left_eq, Hc.out]; exact hlt
      · have HJx3 := Lib.hid hJx3; clear hJx3
        gi_wp2
        refine bodyPost_ret (results_none rfl _ _ _) rfl ?_
        exact ⟨⟨_, rfl⟩, .inr ⟨_, trivial, HJx3.out⟩⟩
theorem keys_stops (n vb b N : Nat) (f : Int → Option Value) (hN : ∀ ys : List Int, ys.Nodup → (∀ x ∈ ys, is32 x ∧ f x ≠ none) → ys.length ≤ N) (w : World) (hvl : vb < w.heap.size) (hvb : w.cell? ⟨vb, 0, none⟩ = some (.map (some b))) (hM : MapAt uv is32 w b f) :
    SeqStopsK Fence.wide n Try.prog 32 #[.pointer (some ⟨vb, 0, none⟩)] (fun x : Int => #[Value.int .u32 x]) (KpB w.heap.size) (fun ys => ys.Nodup ∧ (∀ x ∈ ys, is32 x) ∧ ∀ x, is32 x → (x ∈ ys ↔ f x ≠ none)) (fun _ => True) N w := fun l J Jx W hW hJ _ hY h0 =>
  keys1_in n l vb b N f hN w.heap.size hM.lt J Jx hY W hW.size hJ ((hW.cell (p := ⟨vb, 0, none⟩) hvl).trans hvb) (hM.stay (hW.block b hM.lt)) h0
end Go.Proofs.Ytpiciickgomggaa
