/- Maps in memory, over raw elements: what a look-up gives, what a write, a delete and an entry's store leave. -/
import Derived.Maps.OwnSet
import Derived.Below
import Derived.RangeFuncWrites
import Derived.Maps.AppendAt
import Derived.Test.YtmgaibeibfholaaDoorRows
import Derived.DeepKeys4
import Derived.WalkKit
import Derived.WalkSpells
import Derived.WalkLawsBesides
import Derived.WalkMore
import Derived.ScopeJumps
import Derived.LoopTactic
import Derived.Lib.Hide
import Derived.Deep.DeepMust
import Derived.Deep.RegionWith
import Derived.Deep.LoopGhost
import Derived.Deep.QuietTactic
import Derived.BigQuiet
import Derived.Deep.RegionHeld3
namespace Go.Proofs.YtmgaibeibfholaaDoor
open Go.Maps Go.MapKept Go.ChangeMaps
set_option linter.unusedVariables false

/-- the keys of a map type: values of κ, spelt by enc -/
structure Kys {κ : Type} (P : Program) (k : TypeId) (enc : κ → Value) (ok : κ → Prop) : Prop where
  K : Keyed P k
  reads : ∀ x, ok x → ∃ l, keyOf P k (enc x) = some l
  inj : ∀ x y, ok x → ok y → enc x = enc y → x = y

/-- these entries answer f -/
structure MapOk {κ : Type} (enc : κ → Value) (ok : κ → Prop) (es : Array MapEntry) (clock : Nat) (f : κ → Option Value) : Prop where
  st : Stamped es clock
  keys : ∀ e ∈ es.toList, ∃ x, ok x ∧ e.key = enc x
  get : ∀ x, ok x → ∀ v, f x = some v ↔ ∃ e ∈ es.toList, e.key = enc x ∧ e.val = v

def MapAt {κ : Type} (enc : κ → Value) (ok : κ → Prop) (w : World) (b : Nat) (f : κ → Option Value) : Prop :=
  ∃ es clock, w.heap[b]? = some (.map es clock) ∧ MapOk enc ok es clock f

/-- .. and the entry of x bears this stamp -/
def EntAt {κ : Type} (enc : κ → Value) (ok : κ → Prop) (w : World) (b : Nat) (f : κ → Option Value) (x : κ) (born : Int) : Prop :=
  ∃ es clock, w.heap[b]? = some (.map es clock) ∧ MapOk enc ok es clock f ∧ ∃ e ∈ es.toList, e.key = enc x ∧ (e.born : Int) = born

def upd {κ β : Type} [DecidableEq κ] (f : κ → Option β) (x : κ) (v : Option β) : κ → Option β := fun y => if y = x then v else f y
theorem upd_same {κ β : Type} [DecidableEq κ] (f : κ → Option β) (x : κ) (v : Option β) : upd f x v x = v := if_pos rfl
theorem upd_ne {κ β : Type} [DecidableEq κ] (f : κ → Option β) {x y : κ} (v : Option β) (h : y ≠ x) : upd f x v y = f y := if_neg h

section
variable {κ : Type} {P : Program} {k : TypeId} {enc : κ → Value} {ok : κ → Prop} {es : Array MapEntry} {clock : Nat} {f : κ → Option Value} {w : World} {b : Nat} {t e : TypeId}

theorem EntAt.at {x : κ} {born : Int} (h : EntAt enc ok w b f x born) : MapAt enc ok w b f := by
  obtain ⟨es, clock, h1, h2, _⟩ := h; exact ⟨es, clock, h1, h2⟩
theorem MapAt.lt (h : MapAt enc ok w b f) : b < w.heap.size := by
  obtain ⟨es, clock, hb, _⟩ := h
  exact (Array.getElem?_eq_some_iff.1 hb).1
theorem MapAt.stay {w' : World} (h : MapAt enc ok w b f) (hs : w'.heap[b]? = w.heap[b]?) : MapAt enc ok w' b f := by
  obtain ⟨es, clock, hb, r⟩ := h; exact ⟨es, clock, hs.trans hb, r⟩
theorem EntAt.stay {w' : World} {x : κ} {born : Int} (h : EntAt enc ok w b f x born) (hs : w'.heap[b]? = w.heap[b]?) : EntAt enc ok w' b f x born := by
  obtain ⟨es, clock, hb, r⟩ := h; exact ⟨es, clock, hs.trans hb, r⟩
theorem MapAt.congr {g : κ → Option Value} (h : MapAt enc ok w b f) (hg : ∀ x, ok x → g x = f x) : MapAt enc ok w b g := by
  obtain ⟨es, clock, hb, r⟩ := h
  exact ⟨es, clock, hb, r.st, r.keys, fun x hx v => by rw [hg x hx]; exact r.get x hx v⟩
theorem MapAt.made (w : World) : MapAt enc ok (w.alloc (.map #[] 0)) w.heap.size (fun _ => none) :=
  ⟨#[], 0, (MapKept.heap_alloc w _).1, stamped_empty 0, by simp, by simp⟩

/-- the one entry -/
theorem MapOk.find (h : MapOk enc ok es clock f) (K : Kys P k enc ok) (w : World) {x : κ} (hx : ok x) :
    ((Instr.findKey k (enc x) es.toList).run P w = .ok none w ∧ (∀ e ∈ es.toList, e.key ≠ enc x) ∧ f x = none) ∨
    ∃ j e, (Instr.findKey k (enc x) es.toList).run P w = .ok (some (j, e.val)) w ∧ es.toList[j]? = some e ∧ e.key = enc x ∧ f x = some e.val := by
  obtain ⟨l, hl⟩ := K.reads x hx
  rcases K.K.find w hl es.toList (fun e he => by obtain ⟨y, hy, e1⟩ := h.keys e he; rw [e1]; exact K.reads y hy) with ⟨h1, h2⟩ | ⟨j, e, h1, h2, h3⟩
  · refine .inl ⟨h1, h2, ?_⟩
    cases hf : f x with
    | none => rfl
    | some v =>
      obtain ⟨e, he, e1, _⟩ := (h.get x hx v).1 hf
      exact absurd e1 (h2 e he)
  · exact .inr ⟨j, e, h1, h2, h3, (h.get x hx _).2 ⟨e, List.mem_of_getElem? h2, h3, rfl⟩⟩

theorem MapAt.look (h : MapAt enc ok w b f) (K : Kys P k enc ok) (ht : P.underlying t = some (.map k e)) {z : Value} (hz : (zeroValue e).run P w = .ok z w) (c : Bool) {x : κ} (hx : ok x) :
    (Instr.lookup t (.map (some b)) (enc x) c).run P w = .ok (if c then .tuple #[(f x).getD z, .bool (f x).isSome] else (f x).getD z) w := by
  obtain ⟨es, clock, hb, F⟩ := h
  obtain ⟨l, hl⟩ := K.reads x hx
  rcases F.find K w hx with ⟨h1, _, h3⟩ | ⟨j, e0, h1, _, _, h3⟩
  · rw [h3]
    simp [Instr.lookup, run_underlying ht, MapKept.run_getObj_map hb, K.K.check w _ hl, h1, hz, Result.andThen]
  · rw [h3]
    simp [Instr.lookup, run_underlying ht, MapKept.run_getObj_map hb, K.K.check w _ hl, h1, Result.andThen]

variable [DecidableEq κ]

theorem MapOk.push (h : MapOk enc ok es clock f) (K : Kys P k enc ok) {x : κ} (hx : ok x) (hn : ∀ e ∈ es.toList, e.key ≠ enc x) (v : Value) : MapOk enc ok (es.push ⟨enc x, v, clock⟩) (clock + 1) (upd f x (some v)) := by
  refine ⟨stamped_push h.st hn, ?_, ?_⟩
  · intro e he
    simp only [Array.toList_push, List.mem_append, List.mem_singleton] at he
    rcases he with he | rfl
    · exact h.keys e he
    · exact ⟨x, hx, rfl⟩
  · intro y hy u
    simp only [Array.toList_push, List.mem_append, List.mem_singleton]
    by_cases hyx : y = x
    · subst hyx
      rw [upd_same]
      constructor
      · intro e; injection e with e; subst e; exact ⟨_, .inr rfl, rfl, rfl⟩
      · rintro ⟨e, he | rfl, e1, e2⟩
        · exact absurd e1 (hn e he)
        · simp at e2; rw [e2]
    · rw [upd_ne _ _ hyx, h.get y hy u]
      constructor
      · rintro ⟨e, he, r⟩; exact ⟨e, .inl he, r⟩
      · rintro ⟨e, he | rfl, e1, e2⟩
        · exact ⟨e, he, e1, e2⟩
        · exact absurd (K.inj x y hx hy e1).symm hyx

theorem nodup_idx {α : Type} : ∀ {l : List α}, l.Nodup → ∀ {i j : Nat} {a : α}, l[i]? = some a → l[j]? = some a → i = j := by
  intro l h i j a hi hj
  obtain ⟨hi1, hi2⟩ := List.getElem?_eq_some_iff.1 hi
  obtain ⟨hj1, hj2⟩ := List.getElem?_eq_some_iff.1 hj
  have hp := List.pairwise_iff_getElem.1 h
  rcases Nat.lt_trichotomy i j with hlt | he | hgt
  · exact absurd (hi2.trans hj2.symm) (hp i j hi1 hj1 hlt)
  · exact he
  · exact absurd (hj2.trans hi2.symm) (hp j i hj1 hi1 hgt)
theorem getElem?_key_inj (h : Stamped es clock) {i j : Nat} {a c : MapEntry} (hi : es.toList[i]? = some a) (hj : es.toList[j]? = some c) (e : a.key = c.key) : i = j :=
  nodup_idx h.2.2 (i := i) (j := j) (a := a.key) (by simp only [List.getElem?_map, hi]; rfl) (by simp only [List.getElem?_map, hj, e]; rfl)
theorem getElem?_born_inj (h : Stamped es clock) {i j : Nat} {a c : MapEntry} (hi : es.toList[i]? = some a) (hj : es.toList[j]? = some c) (e : a.born = c.born) : i = j :=
  nodup_idx h.2.1 (i := i) (j := j) (a := a.born) (by simp only [List.getElem?_map, hi]; rfl) (by simp only [List.getElem?_map, hj, e]; rfl)

/-- the j-th entry is turned, its key kept -/
theorem MapOk.turn (h : MapOk enc ok es clock f) (K : Kys P k enc ok) {x : κ} (hx : ok x) {j : Nat} {e0 : MapEntry} (hj : es.toList[j]? = some e0) (he : e0.key = enc x) (g : MapEntry → MapEntry) (v : Value)
    (hb : ∀ e, (g e).born = e.born) (hk : (g e0).key = enc x) (hv : (g e0).val = v) : MapOk enc ok (es.modify j g) clock (upd f x (some v)) := by
  have hj' : es[j]? = some e0 := by simpa using hj
  have hlist : ∀ i, (es.modify j g).toList[i]? = if j = i then (es.toList[i]?).map g else es.toList[i]? := by
    intro i
    simp only [Array.getElem?_toList, Array.getElem?_modify]
  have hmem : ∀ e, e ∈ (es.modify j g).toList ↔ e = g e0 ∨ ∃ i, i ≠ j ∧ es.toList[i]? = some e := by
    intro e
    rw [List.mem_iff_getElem?]
    constructor
    · rintro ⟨i, hi⟩
      rw [hlist] at hi
      split at hi
      · rename_i h; subst h; rw [hj] at hi; simp at hi; exact .inl hi.symm
      · rename_i h; exact .inr ⟨i, Ne.symm h, hi⟩
    · rintro (rfl | ⟨i, hi, h'⟩)
      · exact ⟨j, by rw [hlist, if_pos rfl, hj]; rfl⟩
      · exact ⟨i, by rw [hlist, if_neg (Ne.symm hi)]; exact h'⟩
  have hoth : ∀ i e, i ≠ j → es.toList[i]? = some e → e.key ≠ enc x := by
    intro i e hi h' hc
    exact hi (getElem?_key_inj h.st h' hj (hc.trans he.symm))
  refine ⟨stamped_modify h.st j g (fun e _ => hb e) (fun e _ h' => by rw [hj'] at h'; injection h' with h'; subst h'; rw [hk, he]), ?_, ?_⟩
  · intro e h'
    rcases (hmem e).1 h' with rfl | ⟨i, _, hi⟩
    · exact ⟨x, hx, hk⟩
    · exact h.keys e (List.mem_of_getElem? hi)
  · intro y hy u
    by_cases hyx : y = x
    · subst hyx
      rw [upd_same]
      constructor
      · intro e; injection e with e; subst e; exact ⟨_, (hmem _).2 (.inl rfl), hk, hv⟩
      · rintro ⟨e, h', e1, e2⟩
        rcases (hmem e).1 h' with rfl | ⟨i, hi, hi'⟩
        · rw [← e2, hv]
        · exact absurd e1 (hoth i e hi hi')
    · rw [upd_ne _ _ hyx, h.get y hy u]
      constructor
      · rintro ⟨e, h', e1, e2⟩
        obtain ⟨i, hi⟩ := List.mem_iff_getElem?.1 h'
        have : i ≠ j := fun hij => by
          subst hij
          rw [hj] at hi; injection hi with hi; subst hi
          exact hyx (K.inj y x hy hx (e1.symm.trans he))
        exact ⟨e, (hmem e).2 (.inr ⟨i, this, hi⟩), e1, e2⟩
      · rintro ⟨e, h', e1, e2⟩
        rcases (hmem e).1 h' with rfl | ⟨i, hi, hi'⟩
        · exact absurd (K.inj y x hy hx (e1.symm.trans hk)) hyx
        · exact ⟨e, List.mem_of_getElem? hi', e1, e2⟩

theorem MapOk.drop (h : MapOk enc ok es clock f) (K : Kys P k enc ok) {x : κ} (hx : ok x) {j : Nat} {e0 : MapEntry} (hj : es.toList[j]? = some e0) (he : e0.key = enc x) : MapOk enc ok (es.eraseIdxIfInBounds j) clock (upd f x none) := by
  have hjl : j < es.toList.length := (List.getElem?_eq_some_iff.1 hj).1
  have hjs : j < es.size := by simpa using hjl
  have hsub : (es.eraseIdxIfInBounds j).toList = es.toList.eraseIdx j := by
    unfold Array.eraseIdxIfInBounds
    rw [dif_pos hjs]
    simp
  have hmem : ∀ e, e ∈ (es.eraseIdxIfInBounds j).toList ↔ ∃ i, i ≠ j ∧ es.toList[i]? = some e := by
    intro e
    rw [hsub]
    exact List.mem_eraseIdx_iff_getElem?
  have hoth : ∀ i e, i ≠ j → es.toList[i]? = some e → e.key ≠ enc x := by
    intro i e hi h' hc
    exact hi (getElem?_key_inj h.st h' hj (hc.trans he.symm))
  refine ⟨stamped_erase h.st j, ?_, ?_⟩
  · intro e h'
    obtain ⟨i, _, hi⟩ := (hmem e).1 h'
    exact h.keys e (List.mem_of_getElem? hi)
  · intro y hy u
    by_cases hyx : y = x
    · subst hyx
      rw [upd_same]
      constructor
      · intro e; cases e
      · rintro ⟨e, h', e1, e2⟩
        obtain ⟨i, hi, hi'⟩ := (hmem e).1 h'
        exact absurd e1 (hoth i e hi hi')
    · rw [upd_ne _ _ hyx, h.get y hy u]
      constructor
      · rintro ⟨e, h', e1, e2⟩
        obtain ⟨i, hi⟩ := List.mem_iff_getElem?.1 h'
        have : i ≠ j := fun hij => by
          subst hij
          rw [hj] at hi; injection hi with hi; subst hi
          exact hyx (K.inj y x hy hx (e1.symm.trans he))
        exact ⟨e, (hmem e).2 ⟨i, this, hi⟩, e1, e2⟩
      · rintro ⟨e, h', e1, e2⟩
        obtain ⟨i, hi, hi'⟩ := (hmem e).1 h'
        exact ⟨e, List.mem_of_getElem? hi', e1, e2⟩

theorem MapAt.put (h : MapAt enc ok w b f) (K : Kys P k enc ok) (ht : P.underlying t = some (.map k e)) {x : κ} (hx : ok x) (v : Value) :
    ∃ w', (Instr.mapUpdate t (.map (some b)) (enc x) v).run P w = .ok () w' ∧ MapAt enc ok w' b (upd f x (some v)) ∧ w.mapTurned w' b := by
  obtain ⟨es, clock, hb, F⟩ := h
  obtain ⟨l, hl⟩ := K.reads x hx
  rcases F.find K w hx with ⟨h1, h2, _⟩ | ⟨j, e0, h1, h2, h3, _⟩
  · refine ⟨setBlock w b (.map (es.push ⟨enc x, v, clock⟩) (clock + 1)), ?_, ⟨_, _, heap_setBlock_same hb _, F.push K hx h2 v⟩, ⟨es, clock, _, _, hb, rfl⟩⟩
    simp [Instr.mapUpdate, run_underlying ht, MapKept.run_getObj_map hb, K.K.check w false hl, h1, MapKept.run_setObj_map _ hb, Result.andThen, setBlock]
  · have hj : es[j]? = some e0 := by simpa using h2
    refine ⟨setBlock w b (.map (es.modify j (fun e' => { e' with key := enc x, val := v })) clock), ?_, ⟨_, _, heap_setBlock_same hb _, F.turn K hx h2 h3 _ v (fun _ => rfl) rfl rfl⟩, ⟨es, clock, _, _, hb, rfl⟩⟩
    simp [Instr.mapUpdate, run_underlying ht, MapKept.run_getObj_map hb, K.K.check w false hl, h1, hj, h3, K.K.stays w hl, MapKept.run_setObj_map _ hb, Result.andThen, setBlock]

theorem MapAt.del (h : MapAt enc ok w b f) (K : Kys P k enc ok) (ht : P.underlying t = some (.map k e)) {x : κ} (hx : ok x) (ty : TypeId) :
    ∃ w', (Builtin.delete_ #[t, k] ty #[.map (some b), enc x]).run P w = .ok (.tuple #[]) w' ∧ MapAt enc ok w' b (upd f x none) ∧ w.mapTurned w' b := by
  obtain ⟨es, clock, hb, F⟩ := h
  obtain ⟨l, hl⟩ := K.reads x hx
  rcases F.find K w hx with ⟨h1, h2, h3⟩ | ⟨j, e0, h1, h2, h3, _⟩
  · refine ⟨setBlock w b (.map es clock), ?_, ?_, ⟨es, clock, _, _, hb, rfl⟩⟩
    · simp [Builtin.delete_, run_underlying ht, MapKept.run_getObj_map hb, K.K.check w _ hl, h1, MapKept.run_setObj_map _ hb, Result.andThen, setBlock]
    · have : MapAt enc ok (setBlock w b (.map es clock)) b f := ⟨_, _, heap_setBlock_same hb _, F⟩
      refine this.congr fun y hy => ?_
      by_cases hyx : y = x
      · subst hyx; rw [upd_same, h3]
      · rw [upd_ne _ _ hyx]
  · refine ⟨setBlock w b (.map (es.eraseIdxIfInBounds j) clock), ?_, ⟨_, _, heap_setBlock_same hb _, F.drop K hx h2 h3⟩, ⟨es, clock, _, _, hb, rfl⟩⟩
    simp [Builtin.delete_, run_underlying ht, MapKept.run_getObj_map hb, K.K.check w _ hl, h1, MapKept.run_setObj_map _ hb, Result.andThen, setBlock]

/-- 'm[k] op= ..': the entry is found, or made with the zero value. -/
theorem MapAt.entry (h : MapAt enc ok w b f) (K : Kys P k enc ok) (ht : P.underlying t = some (.map k e)) {z : Value} (hz : (zeroValue e).run P w = .ok z w) {x : κ} (hx : ok x) :
    ∃ w' born, (Instr.mapEntry t (.map (some b)) (enc x)).run P w = .ok (.tuple #[(f x).getD z, .int .i64 born]) w' ∧ EntAt enc ok w' b (upd f x (some ((f x).getD z))) x born ∧ w.mapTurned w' b := by
  obtain ⟨es, clock, hb, F⟩ := h
  obtain ⟨l, hl⟩ := K.reads x hx
  rcases F.find K w hx with ⟨h1, h2, h3⟩ | ⟨j, e0, h1, h2, h3, h4⟩
  · refine ⟨setBlock w b (.map (es.push ⟨enc x, z, clock⟩) (clock + 1)), clock, ?_, ⟨_, _, heap_setBlock_same hb _, by rw [h3]; exact F.push K hx h2 z, ⟨enc x, z, clock⟩, by simp, rfl, rfl⟩, ⟨es, clock, _, _, hb, rfl⟩⟩
    rw [h3]
    simp [Instr.mapEntry, run_underlying ht, MapKept.run_getObj_map hb, K.K.check w false hl, h1, hz, MapKept.run_setObj_map _ hb, Result.andThen, setBlock, goInt]
  · have hj : es[j]? = some e0 := by simpa using h2
    have hjs : j < es.size := (Array.getElem?_eq_some_iff.1 hj).1
    refine ⟨setBlock w b (.map (es.modify j (fun e' => { e' with key := enc x })) clock), e0.born, ?_, ⟨_, _, heap_setBlock_same hb _, by rw [h4]; exact F.turn K hx h2 h3 _ _ (fun _ => rfl) rfl rfl, { e0 with key := enc x }, ?_, rfl, rfl⟩, ⟨es, clock, _, _, hb, rfl⟩⟩
    · rw [h4]
      simp [Instr.mapEntry, run_underlying ht, MapKept.run_getObj_map hb, K.K.check w false hl, h1, hj, h3, K.K.stays w hl, MapKept.run_setObj_map _ hb, Result.andThen, setBlock, goInt]
    · refine List.mem_iff_getElem?.2 ⟨j, ?_⟩
      simp only [Array.getElem?_toList, Array.getElem?_modify, hj]
      simp

/-- .. and its value is stored. -/
theorem EntAt.store {x : κ} {born : Int} (h : EntAt enc ok w b f x born) (K : Kys P k enc ok) (hx : ok x) (v : Value) :
    ∃ w', (Instr.entryStore t (.map (some b)) (.int .i64 born) v).run P w = .ok () w' ∧ MapAt enc ok w' b (upd f x (some v)) ∧ w.mapTurned w' b := by
  obtain ⟨es, clock, hb, F, e0, he0, hk0, hb0⟩ := h
  obtain ⟨j, hj⟩ := List.mem_iff_getElem?.1 he0
  have hj' : es[j]? = some e0 := by simpa using hj
  obtain ⟨hjs, hje⟩ := Array.getElem?_eq_some_iff.1 hj'
  have hidx : es.findIdx? (fun e => (e.born : Int) == born) = some j := by
    rw [Array.findIdx?_eq_some_iff_getElem]
    refine ⟨hjs, by rw [hje]; simpa using hb0, fun i hi => ?_⟩
    intro hc
    have hc := eq_of_beq hc
    have hi' : i < es.size := by omega
    have : (es[i]'hi').born = e0.born := by omega
    have hh := getElem?_born_inj F.st (i := i) (j := j) (a := es[i]'hi') (c := e0) (by simp [hi']) hj this
    omega
  refine ⟨setBlock w b (.map (es.modify j (fun e' => { e' with val := v })) clock), ?_, ⟨_, _, heap_setBlock_same hb _, F.turn K hx hj hk0 _ v (fun _ => rfl) hk0 rfl⟩, ⟨es, clock, _, _, hb, rfl⟩⟩
  simp [Instr.entryStore, MapKept.run_getObj_map hb, hidx, asInt, asIntOf, MapKept.run_setObj_map _ hb, Result.andThen, setBlock]

omit [DecidableEq κ] in
/-- the length is the number of the keys that are answered -/
theorem MapAt.len (h : MapAt enc ok w b f) (K : Kys P k enc ok) (ht : P.underlying t = some (.map k e)) (ty : TypeId) :
    ∃ ks : List κ, ks.Nodup ∧ (∀ x ∈ ks, ok x) ∧ (∀ x, ok x → (x ∈ ks ↔ f x ≠ none)) ∧ (Builtin.len_ #[t] ty #[.map (some b)]).run P w = .ok (.int .i64 ks.length) w := by
  obtain ⟨es, clock, hb, F⟩ := h
  have hch : ∀ l : List MapEntry, (∀ e ∈ l, ∃ x, ok x ∧ e.key = enc x) → ∃ ks : List κ, (∀ x ∈ ks, ok x) ∧ ks.map enc = l.map (·.key) := by
    intro l
    induction l with
    | nil => intro _; exact ⟨[], by simp, rfl⟩
    | cons a l ih =>
      intro hl
      obtain ⟨x, hx, e1⟩ := hl a (by simp)
      obtain ⟨ks, h1, h2⟩ := ih (fun e he => hl e (by simp [he]))
      exact ⟨x :: ks, by simpa [hx] using h1, by simp [h2, e1]⟩
  obtain ⟨ks, h1, h2⟩ := hch es.toList F.keys
  have hlen : ks.length = es.size := by
    have := congrArg List.length h2
    simpa using this
  refine ⟨ks, ?_, h1, ?_, ?_⟩
  · have := F.st.2.2
    rw [← h2] at this
    exact (List.pairwise_map.1 this).imp (fun h e => h (by rw [e]))
  · intro x hx
    constructor
    · intro hm hc
      have : enc x ∈ es.toList.map (·.key) := by rw [← h2]; exact List.mem_map.2 ⟨x, hm, rfl⟩
      obtain ⟨e, he, e1⟩ := List.mem_map.1 this
      have := (F.get x hx e.val).2 ⟨e, he, e1, rfl⟩
      rw [hc] at this; cases this
    · intro hc
      obtain ⟨v, hv⟩ := Option.ne_none_iff_exists'.1 hc
      obtain ⟨e, he, e1, _⟩ := (F.get x hx v).1 hv
      have : enc x ∈ ks.map enc := by rw [h2]; exact List.mem_map.2 ⟨e, he, e1⟩
      obtain ⟨y, hy, e2⟩ := List.mem_map.1 this
      rw [← K.inj y x (h1 y hy) hx e2]; exact hy
  · rw [hlen]
    simp [Builtin.len_, run_underlying ht, MapKept.run_getObj_map hb, goInt, Result.andThen]
end
end Go.Proofs.YtmgaibeibfholaaDoor
