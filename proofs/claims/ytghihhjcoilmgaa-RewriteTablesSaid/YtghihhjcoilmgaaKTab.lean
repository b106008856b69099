/- Maps in memory, over raw elements: what a look-up gives, what a write, a delete and an entry's store leave. -/
import Derived.Maps.OwnSet
import Derived.Below
import Derived.RangeFuncWrites
import Derived.Maps.AppendAt
import Derived.Test.YtghihhjcoilmgaaRows
import Derived.DeepKeys4
import Derived.WalkKit
import Derived.WalkSpells
import Derived.WalkLawsBesides
import Derived.WalkMore
import Derived.ScopeJumps
import Derived.LoopTactic
import Derived.Lib.Hide
import Derived.Deep.DeepMust
import Derived.Deep.RegionWith
import Derived.Deep.LoopGhost
import Derived.Deep.QuietTactic
import Derived.BigQuiet
import Derived.Deep.RegionHeld3
namespace Go.Proofs.Ytghihhjcoilmgaa.T
set_option maxRecDepth 100000
open Go.Maps Go.MapKept Go.ChangeMaps
set_option linter.unusedVariables false

/-- the keys of a map type: values of κ, spelt by enc -/
structure Kys {κ : Type} (P : Program) (k : TypeId) (enc : κ → Value) (ok : κ → Prop) : Prop where
  K : Keyed P k
  reads : ∀ x, ok x → ∃ l, keyOf P k (enc x) = some l
  inj : ∀ x y, ok x → ok y → enc x = enc y → x = y

/-- these entries answer f -/
structure MapOk {κ : Type} (enc : κ → Value) (ok : κ → Prop) (es : Array MapEntry) (clock : Nat) (f : κ → Option Value) : Prop where
  st : Stamped es clock
  keys : ∀ e ∈ es.toList, ∃ x, ok x ∧ e.key = enc x
  get : ∀ x, ok x → ∀ v, f x = some v ↔ ∃ e ∈ es.toList, e.key = enc x ∧ e.val = v

def MapAt {κ : Type} (enc : κ → Value) (ok : κ → Prop) (w : World) (b : Nat) (f : κ → Option Value) : Prop :=
  ∃ es clock, w.heap[b]? = some (.map es clock) ∧ MapOk enc ok es clock f

/-- .. and the entry of x bears this stamp -/
def EntAt {κ : Type} (enc : κ → Value) (ok : κ → Prop) (w : World) (b : Nat) (f : κ → Option Value) (x : κ) (born : Int) : Prop :=
  ∃ es clock, w.heap[b]? = some (.map es clock) ∧ MapOk enc ok es clock f ∧ ∃ e ∈ es.toList, e.key = enc x ∧ (e.born : Int) = born

def upd {κ β : Type} [DecidableEq κ] (f : κ → Option β) (x : κ) (v : Option β) : κ → Option β := fun y => if y = x then v else f y
theorem upd_same {κ β : Type} [DecidableEq κ] (f : κ → Option β) (x : κ) (v : Option β) : upd f x v x = v := if_pos rfl
theorem upd_ne {κ β : Type} [DecidableEq κ] (f : κ → Option β) {x y : κ} (v : Option β) (h : y ≠ x) : upd f x v y = f y := if_neg h

section
variable {κ : Type} {P : Program} {k : TypeId} {enc : κ → Value} {ok : κ → Prop} {es : Array MapEntry} {clock : Nat} {f : κ → Option Value} {w : World} {b : Nat} {t e : TypeId}

theorem EntAt.at {x : κ} {born : Int} (h : EntAt enc ok w b f x born) : MapAt enc ok w b f := by
  obtain ⟨es, clock, h1, h2, _⟩ := h; exact ⟨es, clock, h1, h2⟩
theorem MapAt.lt (h : MapAt enc ok w b f) : b < w.heap.size := by
  obtain ⟨es, clock, hb, _⟩ := h
  exact (Array.getElem?_eq_some_iff.1 hb).1
theorem MapAt.stay {w' : World} (h : MapAt enc ok w b f) (hs : w'.heap[b]? = w.heap[b]?) : MapAt enc ok w' b f := by
  obtain ⟨es, clock, hb, r⟩ := h; exact ⟨es, clock, hs.trans hb, r⟩
theorem EntAt.stay {w' : World} {x : κ} {born : Int} (h : EntAt enc ok w b f x born) (hs : w'.heap[b]? = w.heap[b]?) : EntAt enc ok w' b f x born := by
  obtain ⟨es, clock, hb, r⟩ := h; exact ⟨es, clock, hs.trans hb, r⟩
theorem MapAt.congr {g : κ → Option Value} (h : MapAt enc ok w b f) (hg : ∀ x, ok x → g x = f x) : MapAt enc ok w b g := by
  obtain ⟨es, clock, hb, r⟩ := h
  exact ⟨es, clock, hb, r.st, r.keys, fun x hx v => by rw [hg x hx]; exact r.get x hx v⟩
theorem MapAt.made (w : World) : MapAt enc ok (w.alloc (.map #[] 0)) w.heap.size (fun _ => none) :=
  ⟨#[], 0, (MapKept.heap_alloc w _).1, stamped_empty 0, by simp, by simp⟩

/-- the one entry -/
theorem MapOk.find (h : MapOk enc ok es clock f) (K : Kys P k enc ok) (w : World) {x : κ} (hx : ok x) :
    ((Instr.findKey k (enc x) es.toList).run P w = .ok none w ∧ (∀ e ∈ es.toList, e.key ≠ enc x) ∧ f x = none) ∨
    ∃ j e, (Instr.findKey k (enc x) es.toList).run P w = .ok (some (j, e.val)) w ∧ es.toList[j]? = some e ∧ e.key = enc x ∧ f x = some e.val := by
  obtain ⟨l, hl⟩ := K.reads x hx
  rcases K.K.find w hl es.toList (fun e he => by obtain ⟨y, hy, e1⟩ := h.keys e he; rw [e1]; exact K.reads y hy) with ⟨h1, h2⟩ | ⟨j, e, h1, h2, h3⟩
  · refine .inl ⟨h1, h2, ?_⟩
    cases hf : f x with
    | none => rfl
    | some v =>
      obtain ⟨e, he, e1, _⟩ := (h.get x hx v).1 hf
      exact absurd e1 (h2 e he)
  · exact .inr ⟨j, e, h1, h2, h3, (h.get x hx _).2 ⟨e, List.mem_of_getElem? h2, h3, rfl⟩⟩

theorem MapAt.look (h : MapAt enc ok w b f) (K : Kys P k enc ok) (ht : P.underlying t = some (.map k e)) {z : Value} (hz : (zeroValue e).run P w = .ok z w) (c : Bool) {x : κ} (hx : ok x) :
    (Instr.lookup t (.map (some b)) (enc x) c).run P w = .ok (if c then .tuple #[(f x).getD z, .bool (f x).isSome] else (f x).getD z) w := by
  obtain ⟨es, clock, hb, F⟩ := h
  obtain ⟨l, hl⟩ := K.reads x hx
  rcases F.find K w hx with ⟨h1, _, h3⟩ | ⟨j, e0, h1, _, _, h3⟩
  · rw [h3]
    simp [Instr.lookup, run_underlying ht, MapKept.run_getObj_map hb, K.K.check w _ hl, h1, hz, Result.andThen]
  · rw [h3]
    simp [Instr.lookup, run_underlying ht, MapKept.run_getObj_map hb, K.K.check w _ hl, h1, Result.andThen]

variable [DecidableEq κ]

theorem MapOk.push (h : MapOk enc ok es clock f) (K : Kys P k enc ok) {x : κ} (hx : ok x) (hn : ∀ e ∈ es.toList, e.key ≠ enc x) (v : Value) : MapOk enc ok (es.push ⟨enc x, v, clock⟩) (clock + 1) (upd f x (some v)) := by
  refine ⟨stamped_push h.st hn, ?_, ?_⟩
  · intro e he
    simp only [Array.toList_push, List.mem_append, List.mem_singleton] at he
    rcases he with he | rfl
    · exact h.keys e he
    · exact ⟨x, hx, rfl⟩
  · intro y hy u
    simp only [Array.toList_push, List.mem_append, List.mem_singleton]
    by_cases hyx : y = x
    · subst hyx
      rw [upd_same]
      constructor
      · intro e; injection e with e; subst e; exact ⟨_, .inr rfl, rfl, rfl⟩
      · rintro ⟨e, he | rfl, e1, e2⟩
        · exact absurd e1 (hn e he)
        · simp at e2; rw [e2]
    · rw [upd_ne _ _ hyx, h.get y hy u]
      constructor
      · rintro ⟨e, he, r⟩; exact ⟨e, .inl he, r⟩
      · rintro ⟨e, he | rfl, e1, e2⟩
        · exact ⟨e, he, e1, e2⟩
        · exact absurd (K.inj x y hx hy e1).symm hyx

theorem nodup_idx {α : Type} : ∀ {l : List α}, l.Nodup → ∀ {i j : Nat} {a : α}, l[i]? = some a → l[j]? = some a → i = j := by
  intro l h i j a hi hj
  obtain ⟨hi1, hi2⟩ := List.getElem?_eq_some_iff.1 hi
  obtain ⟨hj1, hj2⟩ := List.getElem?_eq_some_iff.1 hj
  have hp := List.pairwise_iff_getElem.1 h
  rcases Nat.lt_trichotomy i j with hlt | he | hgt
  · exact absurd (hi2.trans hj2.symm) (hp i j hi1 hj1 hlt)
  · exact he
  · exact absurd (hj2.trans hi2.symm) (hp j i hj1 hi1 hgt)
theorem getElem?_key_inj (h : Stamped es clock) {i j : Nat} {a c : MapEntry} (hi : es.toList[i]? = some a) (hj : es.toList[j]? = some c) (e : a.key = c.key) : i = j :=
  nodup_idx h.2.2 (i := i) (j := j) (a := a.key) (by simp only [List.getElem?_map, hi]; rfl) (by simp only [List.getElem?_map, hj, e]; rfl)
theorem getElem?_born_inj (h : Stamped es clock) {i j : Nat} {a c : MapEntry} (hi : es.toList[i]? = some a) (hj : es.toList[j]? = some c) (e : a.born = c.born) : i = j :=
  nodup_idx h.2.1 (i := i) (j := j) (a := a.born) (by simp only [List.getElem?_map, hi]; rfl) (by simp only [List.getElem?_map, hj, e]; rfl)

/-- the j-th entry is turned, its key kept -/
theorem MapOk.turn (h : MapOk enc ok es clock f) (K : Kys P k enc ok) {x : κ} (hx : ok x) {j : Nat} {e0 : MapEntry} (hj : es.toList[j]? = some e0) (he : e0.key = enc x) (g : MapEntry → MapEntry) (v : Value)
    (hb : ∀ e, (g e).born = e.born) (hk : (g e0).key = enc x) (hv : (g e0).val = v) : MapOk enc ok (es.modify j g) clock (upd f x (some v)) := by
  have hj' : es[j]? = some e0 := by simpa using hj
  have hlist : ∀ i, (es.modify j g).toList[i]? = if j = i then (es.toList[i]?).map g else es.toList[i]? := by
    intro i
    simp only [Array.getElem?_toList, Array.getElem?_modify]
  have hmem : ∀ e, e ∈ (es.modify j g).toList ↔ e = g e0 ∨ ∃ i, i ≠ j ∧ es.toList[i]? = some e := by
    intro e
    rw [List.mem_iff_getElem?]
    constructor
    · rintro ⟨i, hi⟩
      rw [hlist] at hi
      split at hi
      · rename_i h; subst h; rw [hj] at hi; simp at hi; exact .inl hi.symm
      · rename_i h; exact .inr ⟨i, Ne.symm h, hi⟩
    · rintro (rfl | ⟨i, hi, h'⟩)
      · exact ⟨j, by rw [hlist, if_pos rfl, hj]; rfl⟩
      · exact ⟨i, by rw [hlist, if_neg (Ne.symm hi)]; exact h'⟩
  have hoth : ∀ i e, i ≠ j → es.toList[i]? = some e → e.key ≠ enc x := by
    intro i e hi h' hc
    exact hi (getElem?_key_inj h.st h' hj (hc.trans he.symm))
  refine ⟨stamped_modify h.st j g (fun e _ => hb e) (fun e _ h' => by rw [hj'] at h'; injection h' with h'; subst h'; rw [hk, he]), ?_, ?_⟩
  · intro e h'
    rcases (hmem e).1 h' with rfl | ⟨i, _, hi⟩
    · exact ⟨x, hx, hk⟩
    · exact h.keys e (List.mem_of_getElem? hi)
  · intro y hy u
    by_cases hyx : y = x
    · subst hyx
      rw [upd_same]
      constructor
      · intro e; injection e with e; subst e; exact ⟨_, (hmem _).2 (.inl rfl), hk, hv⟩
      · rintro ⟨e, h', e1, e2⟩
        rcases (hmem e).1 h' with rfl | ⟨i, hi, hi'⟩
        · rw [← e2, hv]
        · exact absurd e1 (hoth i e hi hi')
    · rw [upd_ne _ _ hyx, h.get y hy u]
      constructor
      · rintro ⟨e, h', e1, e2⟩
        obtain ⟨i, hi⟩ := List.mem_iff_getElem?.1 h'
        have : i ≠ j := fun hij => by
          subst hij
          rw [hj] at hi; injection hi with hi; subst hi
          exact hyx (K.inj y x hy hx (e1.symm.trans he))
        exact ⟨e, (hmem e).2 (.inr ⟨i, this, hi⟩), e1, e2⟩
      · rintro ⟨e, h', e1, e2⟩
        rcases (hmem e).1 h' with rfl | ⟨i, hi, hi'⟩
        · exact absurd (K.inj y x hy hx (e1.symm.trans hk)) hyx
        · exact ⟨e, List.mem_of_getElem? hi', e1, e2⟩

theorem MapOk.drop (h : MapOk enc ok es clock f) (K : Kys P k enc ok) {x : κ} (hx : ok x) {j : Nat} {e0 : MapEntry} (hj : es.toList[j]? = some e0) (he : e0.key = enc x) : MapOk enc ok (es.eraseIdxIfInBounds j) clock (upd f x none) := by
  have hjl : j < es.toList.length := (List.getElem?_eq_some_iff.1 hj).1
  have hjs : j < es.size := by simpa using hjl
  have hsub : (es.eraseIdxIfInBounds j).toList = es.toList.eraseIdx j := by
    unfold Array.eraseIdxIfInBounds
    rw [dif_pos hjs]
    simp
  have hmem : ∀ e, e ∈ (es.eraseIdxIfInBounds j).toList ↔ ∃ i, i ≠ j ∧ es.toList[i]? = some e := by
    intro e
    rw [hsub]
    exact List.mem_eraseIdx_iff_getElem?
  have hoth : ∀ i e, i ≠ j → es.toList[i]? = some e → e.key ≠ enc x := by
    intro i e hi h' hc
    exact hi (getElem?_key_inj h.st h' hj (hc.trans he.symm))
  refine ⟨stamped_erase h.st j, ?_, ?_⟩
  · intro e h'
    obtain ⟨i, _, hi⟩ := (hmem e).1 h'
    exact h.keys e (List.mem_of_getElem? hi)
  · intro y hy u
    by_cases hyx : y = x
    · subst hyx
      rw [upd_same]
      constructor
      · intro e; cases e
      · rintro ⟨e, h', e1, e2⟩
        obtain ⟨i, hi, hi'⟩ := (hmem e).1 h'
        exact absurd e1 (hoth i e hi hi')
    · rw [upd_ne _ _ hyx, h.get y hy u]
      constructor
      · rintro ⟨e, h', e1, e2⟩
        obtain ⟨i, hi⟩ := List.mem_iff_getElem?.1 h'
        have : i ≠ j := fun hij => by
          subst hij
          rw [hj] at hi; injection hi with hi; subst hi
          exact hyx (K.inj y x hy hx (e1.symm.trans he))
        exact ⟨e, (hmem e).2 ⟨i, this, hi⟩, e1, e2⟩
      · rintro ⟨e, h', e1, e2⟩
        obtain ⟨i, hi, hi'⟩ := (hmem e).1 h'
        exact ⟨e, List.mem_of_getElem? hi', e1, e2⟩

theorem MapAt.put (h : MapAt enc ok w b f) (K : Kys P k enc ok) (ht : P.underlying t = some (.map k e)) {x : κ} (hx : ok x) (v : Value) :
    ∃ w', (Instr.mapUpdate t (.map (some b)) (enc x) v).run P w = .ok () w' ∧ MapAt enc ok w' b (upd f x (some v)) ∧ w.mapTurned w' b := by
  obtain ⟨es, clock, hb, F⟩ := h
  obtain ⟨l, hl⟩ := K.reads x hx
  rcases F.find K w hx with ⟨h1, h2, _⟩ | ⟨j, e0, h1, h2, h3, _⟩
  · refine ⟨setBlock w b (.map (es.push ⟨enc x, v, clock⟩) (clock + 1)), ?_, ⟨_, _, heap_setBlock_same hb _, F.push K hx h2 v⟩, ⟨es, clock, _, _, hb, rfl⟩⟩
    simp [Instr.mapUpdate, run_underlying ht, MapKept.run_getObj_map hb, K.K.check w false hl, h1, MapKept.run_setObj_map _ hb, Result.andThen, setBlock]
  · have hj : es[j]? = some e0 := by simpa using h2
    refine ⟨setBlock w b (.map (es.modify j (fun e' => { e' with key := enc x, val := v })) clock), ?_, ⟨_, _, heap_setBlock_same hb _, F.turn K hx h2 h3 _ v (fun _ => rfl) rfl rfl⟩, ⟨es, clock, _, _, hb, rfl⟩⟩
    simp [Instr.mapUpdate, run_underlying ht, MapKept.run_getObj_map hb, K.K.check w false hl, h1, hj, h3, K.K.stays w hl, MapKept.run_setObj_map _ hb, Result.andThen, setBlock]

theorem MapAt.del (h : MapAt enc ok w b f) (K : Kys P k enc ok) (ht : P.underlying t = some (.map k e)) {x : κ} (hx : ok x) (ty : TypeId) :
    ∃ w', (Builtin.delete_ #[t, k] ty #[.map (some b), enc x]).run P w = .ok (.tuple #[]) w' ∧ MapAt enc ok w' b (upd f x none) ∧ w.mapTurned w' b := by
  obtain ⟨es, clock, hb, F⟩ := h
  obtain ⟨l, hl⟩ := K.reads x hx
  rcases F.find K w hx with ⟨h1, h2, h3⟩ | ⟨j, e0, h1, h2, h3, _⟩
  · refine ⟨setBlock w b (.map es clock), ?_, ?_, ⟨es, clock, _, _, hb, rfl⟩⟩
    · simp [Builtin.delete_, run_underlying ht, MapKept.run_getObj_map hb, K.K.check w _ hl, h1, MapKept.run_setObj_map _ hb, Result.andThen, setBlock]
    · have : MapAt enc ok (setBlock w b (.map es clock)) b f := ⟨_, _, heap_setBlock_same hb _, F⟩
      refine this.congr fun y hy => ?_
      by_cases hyx : y = x
      · subst hyx; rw [upd_same, h3]
      · rw [upd_ne _ _ hyx]
  · refine ⟨setBlock w b (.map (es.eraseIdxIfInBounds j) clock), ?_, ⟨_, _, heap_setBlock_same hb _, F.drop K hx h2 h3⟩, ⟨es, clock, _, _, hb, rfl⟩⟩
    simp [Builtin.delete_, run_underlying ht, MapKept.run_getObj_map hb, K.K.check w _ hl, h1, MapKept.run_setObj_map _ hb, Result.andThen, setBlock]

/-- 'm[k] op= ..': the entry is found, or made with the zero value. -/
theorem MapAt.entry (h : MapAt enc ok w b f) (K : Kys P k enc ok) (ht : P.underlying t = some (.map k e)) {z : Value} (hz : (zeroValue e).run P w = .ok z w) {x : κ} (hx : ok x) :
    ∃ w' born, (Instr.mapEntry t (.map (some b)) (enc x)).run P w = .ok (.tuple #[(f x).getD z, .int .i64 born]) w' ∧ EntAt enc ok w' b (upd f x (some ((f x).getD z))) x born ∧ w.mapTurned w' b := by
  obtain ⟨es, clock, hb, F⟩ := h
  obtain ⟨l, hl⟩ := K.reads x hx
  rcases F.find K w hx with ⟨h1, h2, h3⟩ | ⟨j, e0, h1, h2, h3, h4⟩
  · refine ⟨setBlock w b (.map (es.push ⟨enc x, z, clock⟩) (clock + 1)), clock, ?_, ⟨_, _, heap_setBlock_same hb _, by rw [h3]; exact F.push K hx h2 z, ⟨enc x, z, clock⟩, by simp, rfl, rfl⟩, ⟨es, clock, _, _, hb, rfl⟩⟩
    rw [h3]
    simp [Instr.mapEntry, run_underlying ht, MapKept.run_getObj_map hb, K.K.check w false hl, h1, hz, MapKept.run_setObj_map _ hb, Result.andThen, setBlock, goInt]
  · have hj : es[j]? = some e0 := by simpa using h2
    have hjs : j < es.size := (Array.getElem?_eq_some_iff.1 hj).1
    refine ⟨setBlock w b (.map (es.modify j (fun e' => { e' with key := enc x })) clock), e0.born, ?_, ⟨_, _, heap_setBlock_same hb _, by rw [h4]; exact F.turn K hx h2 h3 _ _ (fun _ => rfl) rfl rfl, { e0 with key := enc x }, ?_, rfl, rfl⟩, ⟨es, clock, _, _, hb, rfl⟩⟩
    · rw [h4]
      simp [Instr.mapEntry, run_underlying ht, MapKept.run_getObj_map hb, K.K.check w false hl, h1, hj, h3, K.K.stays w hl, MapKept.run_setObj_map _ hb, Result.andThen, setBlock, goInt]
    · refine List.mem_iff_getElem?.2 ⟨j, ?_⟩
      simp only [Array.getElem?_toList, Array.getElem?_modify, hj]
      simp

/-- .. and its value is stored. -/
theorem EntAt.store {x : κ} {born : Int} (h : EntAt enc ok w b f x born) (K : Kys P k enc ok) (hx : ok x) (v : Value) :
    ∃ w', (Instr.entryStore t (.map (some b)) (.int .i64 born) v).run P w = .ok () w' ∧ MapAt enc ok w' b (upd f x (some v)) ∧ w.mapTurned w' b := by
  obtain ⟨es, clock, hb, F, e0, he0, hk0, hb0⟩ := h
  obtain ⟨j, hj⟩ := List.mem_iff_getElem?.1 he0
  have hj' : es[j]? = some e0 := by simpa using hj
  obtain ⟨hjs, hje⟩ := Array.getElem?_eq_some_iff.1 hj'
  have hidx : es.findIdx? (fun e => (e.born : Int) == born) = some j := by
    rw [Array.findIdx?_eq_some_iff_getElem]
    refine ⟨hjs, by rw [hje]; simpa using hb0, fun i hi => ?_⟩
    intro hc
    have hc := eq_of_beq hc
    have hi' : i < es.size := by omega
    have : (es[i]'hi').born = e0.born := by omega
    have hh := getElem?_born_inj F.st (i := i) (j := j) (a := es[i]'hi') (c := e0) (by simp [hi']) hj this
    omega
  refine ⟨setBlock w b (.map (es.modify j (fun e' => { e' with val := v })) clock), ?_, ⟨_, _, heap_setBlock_same hb _, F.turn K hx hj hk0 _ v (fun _ => rfl) hk0 rfl⟩, ⟨es, clock, _, _, hb, rfl⟩⟩
  simp [Instr.entryStore, MapKept.run_getObj_map hb, hidx, asInt, asIntOf, MapKept.run_setObj_map _ hb, Result.andThen, setBlock]

omit [DecidableEq κ] in
/-- the length is the number of the keys that are answered -/
theorem MapAt.len (h : MapAt enc ok w b f) (K : Kys P k enc ok) (ht : P.underlying t = some (.map k e)) (ty : TypeId) :
    ∃ ks : List κ, ks.Nodup ∧ (∀ x ∈ ks, ok x) ∧ (∀ x, ok x → (x ∈ ks ↔ f x ≠ none)) ∧ (Builtin.len_ #[t] ty #[.map (some b)]).run P w = .ok (.int .i64 ks.length) w := by
  obtain ⟨es, clock, hb, F⟩ := h
  have hch : ∀ l : List MapEntry, (∀ e ∈ l, ∃ x, ok x ∧ e.key = enc x) → ∃ ks : List κ, (∀ x ∈ ks, ok x) ∧ ks.map enc = l.map (·.key) := by
    intro l
    induction l with
    | nil => intro _; exact ⟨[], by simp, rfl⟩
    | cons a l ih =>
      intro hl
      obtain ⟨x, hx, e1⟩ := hl a (by simp)
      obtain ⟨ks, h1, h2⟩ := ih (fun e he => hl e (by simp [he]))
      exact ⟨x :: ks, by simpa [hx] using h1, by simp [h2, e1]⟩
  obtain ⟨ks, h1, h2⟩ := hch es.toList F.keys
  have hlen : ks.length = es.size := by
    have := congrArg List.length h2
    simpa using this
  refine ⟨ks, ?_, h1, ?_, ?_⟩
  · have := F.st.2.2
    rw [← h2] at this
    exact (List.pairwise_map.1 this).imp (fun h e => h (by rw [e]))
  · intro x hx
    constructor
    · intro hm hc
      have : enc x ∈ es.toList.map (·.key) := by rw [← h2]; exact List.mem_map.2 ⟨x, hm, rfl⟩
      obtain ⟨e, he, e1⟩ := List.mem_map.1 this
      have := (F.get x hx e.val).2 ⟨e, he, e1, rfl⟩
      rw [hc] at this; cases this
    · intro hc
      obtain ⟨v, hv⟩ := Option.ne_none_iff_exists'.1 hc
      obtain ⟨e, he, e1, _⟩ := (F.get x hx v).1 hv
      have : enc x ∈ ks.map enc := by rw [h2]; exact List.mem_map.2 ⟨e, he, e1⟩
      obtain ⟨y, hy, e2⟩ := List.mem_map.1 this
      rw [← K.inj y x (h1 y hy) hx e2]; exact hy
  · rw [hlen]
    simp [Builtin.len_, run_underlying ht, MapKept.run_getObj_map hb, goInt, Result.andThen]
end
end Go.Proofs.Ytghihhjcoilmgaa.T

namespace Go.Proofs.Ytghihhjcoilmgaa.T
set_option maxRecDepth 100000
set_option linter.unusedVariables false

abbrev R3 := Int × Int × Int
def R3.at (r : R3) (p : Nat) : Int := if p = 0 then r.1 else if p = 1 then r.2.1 else r.2.2
abbrev TS := List (R3 × Int)
def is32 (x : Int) : Prop := 0 ≤ x ∧ x ≤ 4294967295
def is8 (x : Int) : Prop := 0 ≤ x ∧ x ≤ 255
def rok (r : R3) : Prop := is32 r.1 ∧ is32 r.2.1 ∧ is32 r.2.2
def rv (r : R3) : Value := .agg #[.int .u32 r.1, .int .u32 r.2.1, .int .u32 r.2.2]
theorem rv_inj {r s : R3} (h : rv r = rv s) : r = s := by
  obtain ⟨a, b, c⟩ := r; obtain ⟨a', b', c'⟩ := s
  simp [rv] at h
  obtain ⟨rfl, rfl, rfl⟩ := h; rfl
def rcs (T : TS) : List Value := T.flatMap fun y => [.int .u32 y.1.1, .int .u32 y.1.2.1, .int .u32 y.1.2.2]
def bcs (T : TS) : List Value := T.map fun y => .int .u8 y.2
def ics (l : List Nat) : List Value := l.map fun (n : Nat) => .int .i64 (n : Int)
/-- a row and bits that may stand in a table -/
def yok (y : R3 × Int) : Prop := rok y.1 ∧ y.1.1 ≠ 0 ∧ y.1.2.1 ≠ 0 ∧ y.1.2.2 ≠ 0 ∧ is8 y.2

def fits (x r : R3) : Bool := (x.1 == 0 || x.1 == r.1) && (x.2.1 == 0 || x.2.1 == r.2.1) && (x.2.2 == 0 || x.2.2 == r.2.2)
/-- a look with one or two numbers -/
def look2 (x : R3) : Bool := (x.1 == 0 || x.2.1 == 0 || x.2.2 == 0) && (x.1 != 0 || x.2.1 != 0 || x.2.2 != 0)
def idx (T : TS) (r : R3) : Option Nat := T.findIdx? (fun y => y.1 == r)
def lst (T : TS) (x : R3) : List Nat := T.zipIdx.filterMap (fun y => if fits x y.1.1 then some y.2 else none)
def cnt (T : TS) (p : Nat) (x : Int) : Nat := T.countP (fun y => y.2 != 0 && R3.at y.1 p == x)
def live (T : TS) : Nat := T.countP (fun y => y.2 != 0)
def bitsOf (T : TS) (n : Nat) : Int := (T[n]?.map (·.2)).getD 0
def rowOf (T : TS) (n : Nat) : R3 := (T[n]?.map (·.1)).getD (0, 0, 0)
def setB (T : TS) (n : Nat) (b : Int) : TS := T.modify n (fun y => (y.1, b))

theorem rcs_length (T : TS) : (rcs T).length = T.length * 3 := by
  induction T with
  | nil => rfl
  | cons a l ih => simp [rcs] at ih ⊢; omega
theorem bcs_length (T : TS) : (bcs T).length = T.length * 1 := by simp [bcs]
theorem ics_length (l : List Nat) : (ics l).length = l.length * 1 := by simp [ics]
theorem rcs_get (T : TS) (j : Nat) (h : j < T.length) : (rcs T)[j * 3]? = some (.int .u32 T[j].1.1) ∧ (rcs T)[j * 3 + 1]? = some (.int .u32 T[j].1.2.1) ∧ (rcs T)[j * 3 + 2]? = some (.int .u32 T[j].1.2.2) := by
  induction T generalizing j with
  | nil => simp at h
  | cons x L ih =>
    cases j with
    | zero => simp [rcs]
    | succ j =>
      have := ih j (by simpa using h)
      simp only [rcs, List.flatMap_cons, List.cons_append, List.nil_append, Nat.add_mul, Nat.one_mul, List.getElem_cons_succ] at this ⊢
      simpa using this
theorem bcs_get (T : TS) (j : Nat) (h : j < T.length) : (bcs T)[j]? = some (.int .u8 T[j].2) := by simp [bcs, h]
theorem ics_get (l : List Nat) (j : Nat) (h : j < l.length) : (ics l)[j]? = some (.int .i64 (l[j] : Nat)) := by simp [ics, h]
theorem rcs_snoc (T : TS) (r : R3) (b : Int) : rcs (T ++ [(r, b)]) = rcs T ++ [.int .u32 r.1, .int .u32 r.2.1, .int .u32 r.2.2] := by simp [rcs]
theorem bcs_snoc (T : TS) (r : R3) (b : Int) : bcs (T ++ [(r, b)]) = bcs T ++ [.int .u8 b] := by simp [bcs]
theorem ics_snoc (l : List Nat) (n : Nat) : ics (l ++ [n]) = ics l ++ [.int .i64 n] := by simp [ics]

theorem setB_length (T : TS) (n : Nat) (b : Int) : (setB T n b).length = T.length := by simp [setB]
theorem setB_get (T : TS) (n : Nat) (b : Int) (j : Nat) (h : j < (setB T n b).length) : (setB T n b)[j] = if j = n then ((T[j]'(by simpa [setB] using h)).1, b) else T[j]'(by simpa [setB] using h) := by
  simp only [setB, List.getElem_modify]
  by_cases hj : n = j
  · subst hj; simp
  · simp [hj, Ne.symm hj]
theorem setB_rows (T : TS) (n : Nat) (b : Int) : (setB T n b).map (·.1) = T.map (·.1) := by
  apply List.ext_getElem (by simp [setB])
  intro i h1 h2
  simp only [List.getElem_map, setB_get]
  split <;> rfl
theorem rcs_rows {T T' : TS} (h : T'.map (·.1) = T.map (·.1)) : rcs T' = rcs T := by
  have : ∀ T : TS, rcs T = (T.map (·.1)).flatMap fun r => [.int .u32 r.1, .int .u32 r.2.1, .int .u32 r.2.2] := fun T => by simp [rcs, List.flatMap_map]
  rw [this, this, h]
theorem lst_rows {T T' : TS} (h : T'.map (·.1) = T.map (·.1)) (x : R3) : lst T' x = lst T x := by
  have : ∀ T : TS, lst T x = (T.map (·.1)).zipIdx.filterMap (fun y => if fits x y.1 then some y.2 else none) := fun T => by
    rw [lst, List.zipIdx_map, List.filterMap_map]; rfl
  rw [this, this, h]
theorem idx_rows {T T' : TS} (h : T'.map (·.1) = T.map (·.1)) (r : R3) : idx T' r = idx T r := by
  have : ∀ T : TS, idx T r = (T.map (·.1)).findIdx? (fun y => y == r) := fun T => by
    rw [idx, List.findIdx?_map]; rfl
  rw [this, this, h]

theorem lst_snoc (T : TS) (y : R3 × Int) (x : R3) : lst (T ++ [y]) x = lst T x ++ if fits x y.1 then [T.length] else [] := by
  simp only [lst, List.zipIdx_append, List.filterMap_append, List.zipIdx_cons, List.zipIdx_nil, List.filterMap_cons, List.filterMap_nil, Nat.zero_add]
  cases fits x y.1 <;> simp
theorem idx_snoc (T : TS) (y : R3 × Int) (r : R3) : idx (T ++ [y]) r = match idx T r with | some n => some n | none => if y.1 = r then some T.length else none := by
  unfold idx
  rw [List.findIdx?_append]
  cases T.findIdx? (fun y => y.1 == r) with
  | some n => simp
  | none => 
    by_cases h : y.1 = r
    · simp [h, List.findIdx?_cons]
    · simp [h, List.findIdx?_cons]
theorem idx_lt {T : TS} {r : R3} {n : Nat} (h : idx T r = some n) : ∃ h : n < T.length, T[n].1 = r := by
  obtain ⟨h1, h2, _⟩ := List.findIdx?_eq_some_iff_getElem.1 h
  exact ⟨h1, by simpa using h2⟩
theorem idx_none {T : TS} {r : R3} (h : idx T r = none) : ∀ y ∈ T, y.1 ≠ r := by
  have := List.findIdx?_eq_none_iff.1 h
  intro y hy e
  have := this y hy
  simp [e] at this
theorem cnt_snoc (T : TS) (y : R3 × Int) (p : Nat) (x : Int) : cnt (T ++ [y]) p x = cnt T p x + if y.2 ≠ 0 ∧ R3.at y.1 p = x then 1 else 0 := by
  simp only [cnt, List.countP_append, List.countP_cons, List.countP_nil, Nat.zero_add]
  congr 1
  by_cases h : y.2 ≠ 0 ∧ R3.at y.1 p = x
  · simp [h]
  · rw [if_neg h, if_neg]; simpa using h
theorem live_snoc (T : TS) (y : R3 × Int) : live (T ++ [y]) = live T + if y.2 ≠ 0 then 1 else 0 := by
  simp only [live, List.countP_append, List.countP_cons, List.countP_nil, Nat.zero_add]
  congr 1
  by_cases h : y.2 ≠ 0 <;> simp [h]

theorem countP_modify {α : Type} (q : α → Bool) (f : α → α) : ∀ (T : List α) (n : Nat) (h : n < T.length), (T.modify n f).countP q + (if q T[n] then 1 else 0) = T.countP q + (if q (f T[n]) then 1 else 0)
  | a :: T, 0, _ => by
    simp only [List.modify_zero_cons, List.countP_cons, List.getElem_cons_zero]; omega
  | a :: T, n + 1, h => by
    have := countP_modify q f T n (by simpa using h)
    simp only [List.modify_succ_cons, List.countP_cons, List.getElem_cons_succ]; omega
theorem cnt_set (T : TS) (n : Nat) (h : n < T.length) (b : Int) (p : Nat) (x : Int) :
    (cnt (setB T n b) p x : Int) = cnt T p x + (if R3.at T[n].1 p = x then (if b ≠ 0 then 1 else 0) - (if T[n].2 ≠ 0 then 1 else 0) else 0) := by
  have := countP_modify (fun y : R3 × Int => y.2 != 0 && R3.at y.1 p == x) (fun y => (y.1, b)) T n h
  simp only [cnt, setB]
  simp only [Bool.and_eq_true, bne_iff_ne, ne_eq, beq_iff_eq] at this
  by_cases h1 : R3.at T[n].1 p = x <;> by_cases h2 : b = 0 <;> by_cases h3 : T[n].2 = 0 <;> simp [h1, h2, h3] at this ⊢ <;> omega
theorem live_set (T : TS) (n : Nat) (h : n < T.length) (b : Int) :
    (live (setB T n b) : Int) = live T + ((if b ≠ 0 then 1 else 0) - (if T[n].2 ≠ 0 then 1 else 0)) := by
  have := countP_modify (fun y : R3 × Int => y.2 != 0) (fun y => (y.1, b)) T n h
  simp only [live, setB]
  simp only [bne_iff_ne, ne_eq] at this
  by_cases h2 : b = 0 <;> by_cases h3 : T[n].2 = 0 <;> simp [h2, h3] at this ⊢ <;> omega
theorem cnt_le (T : TS) (p : Nat) (x : Int) : cnt T p x ≤ T.length := List.countP_le_length
theorem live_le (T : TS) : live T ≤ T.length := List.countP_le_length
theorem cnt_pos {T : TS} {n : Nat} (h : n < T.length) (hb : T[n].2 ≠ 0) (p : Nat) : 0 < cnt T p (R3.at T[n].1 p) := by
  rw [cnt, List.countP_pos_iff]
  exact ⟨T[n], List.getElem_mem _, by simp [hb]⟩
end Go.Proofs.Ytghihhjcoilmgaa.T

namespace Go.Proofs.Ytghihhjcoilmgaa.T
set_option maxRecDepth 100000
open Go.RowKit Go.ChangeMaps
set_option linter.unusedVariables false

/-- which cells may be written, which are read, which blocks that are no cells may turn -/
structure Zone where
  W : Nat → Nat → Prop
  R : Nat → Nat → Prop
  M : Nat → Prop
  sub : ∀ i j, W i j → R i j

/-- whatever comes anew is in the zone -/
def Zone.opn (Z : Zone) (n : Nat) : Prop := ∀ i j, n ≤ i → Z.W i j
theorem Zone.opn.mono {Z : Zone} {n m : Nat} (h : Z.opn n) (hm : n ≤ m) : Z.opn m := fun i j hi => h i j (Nat.le_trans hm hi)

structure Fr (Z : Zone) (w w' : World) : Prop where
  os : w'.os = w.os
  tape : w'.tape = w.tape
  output : w'.output = w.output
  size : w.heap.size ≤ w'.heap.size
  block : ∀ i, i < w.heap.size → (∀ j, ¬ Z.W i j) → w'.heap[i]? = w.heap[i]?
  cells : ∀ i cur e fz, w.heap[i]? = some (.cells cur e fz) → ∃ cur', w'.heap[i]? = some (.cells cur' e fz) ∧ cur'.size = cur.size ∧ ∀ j, ¬ Z.W i j → cur'[j]? = cur[j]?
  oth : ∀ i o, w.heap[i]? = some o → o.isCells = false → Z.M i ∨ w'.heap[i]? = some o

section
variable {Z : Zone} {w w' w'' : World}
theorem Fr.refl (Z : Zone) (w : World) : Fr Z w w := ⟨rfl, rfl, rfl, Nat.le_refl _, fun _ _ _ => rfl, fun i cur e fz h => ⟨cur, h, rfl, fun _ _ => rfl⟩, fun i o h _ => .inr h⟩
theorem Fr.trans (h : Fr Z w w') (k : Fr Z w' w'') : Fr Z w w'' where
  os := k.os.trans h.os
  tape := k.tape.trans h.tape
  output := k.output.trans h.output
  size := Nat.le_trans h.size k.size
  block i hi hn := (k.block i (Nat.lt_of_lt_of_le hi h.size) hn).trans (h.block i hi hn)
  cells i cur e fz hb := by
    obtain ⟨c1, h1, h2, h3⟩ := h.cells i cur e fz hb
    obtain ⟨c2, k1, k2, k3⟩ := k.cells i c1 e fz h1
    exact ⟨c2, k1, k2.trans h2, fun j hj => (k3 j hj).trans (h3 j hj)⟩
  oth i o hb ho := by
    rcases h.oth i o hb ho with hm | hm
    · exact .inl hm
    · exact k.oth i o hm ho
theorem Fr.drew (h : Fr Z w w') : Fr Z w w'.drew := h.trans ⟨rfl, rfl, rfl, Nat.le_refl _, fun _ _ _ => rfl, fun i cur e fz h => ⟨cur, h, rfl, fun _ _ => rfl⟩, fun i o h _ => .inr h⟩
/-- nothing that lay there has turned -/
theorem Fr.of_below (h : Below w.heap.size w w') : Fr Z w w' where
  os := h.os
  tape := h.tape
  output := h.output
  size := h.size
  block i hi _ := h.block i hi
  cells i cur e fz hb := ⟨cur, (h.block i (Array.getElem?_eq_some_iff.1 hb).1).trans hb, rfl, fun _ _ => rfl⟩
  oth i o hb _ := .inr ((h.block i (Array.getElem?_eq_some_iff.1 hb).1).trans hb)
theorem Fr.alloc (h : Fr Z w w') (o : Obj) : Fr Z w (w'.alloc o) := h.trans (.of_below ((Below.refl _ _).alloc (Nat.le_refl _) o))
theorem Fr.then_below (h : Fr Z w w') (k : Below w'.heap.size w' w'') : Fr Z w w'' := h.trans (.of_below k)
theorem Fr.mono {Z' : Zone} (h : Fr Z w w') (hW : ∀ i j, i < w.heap.size → Z.W i j → Z'.W i j) (hM : ∀ i, i < w.heap.size → Z.M i → Z'.M i) : Fr Z' w w' where
  os := h.os
  tape := h.tape
  output := h.output
  size := h.size
  block i hi hn := h.block i hi (fun j hj => hn j (hW i j hi hj))
  cells i cur e fz hb := by
    obtain ⟨c1, h1, h2, h3⟩ := h.cells i cur e fz hb
    exact ⟨c1, h1, h2, fun j hj => h3 j (fun hw => hj (hW i j (Array.getElem?_eq_some_iff.1 hb).1 hw))⟩
  oth i o hb ho := (h.oth i o hb ho).imp (hM i (Array.getElem?_eq_some_iff.1 hb).1) id
/-- where the zone begins, what lies below is as it was -/
theorem Fr.below {B : Nat} (h : Fr Z w w') (hB : B ≤ w.heap.size) (hZ : ∀ i j, Z.W i j → B ≤ i) : Below B w w' :=
  ⟨h.os, h.tape, h.output, h.size, fun k hk => h.block k (by omega) (fun j hj => by have := hZ k j hj; omega)⟩
theorem Fr.keeps {B : Nat} (h : Fr Z w w') (hM : ∀ i, Z.M i → i < B) : KeepsFrom B w w' :=
  ⟨h.size, fun k o hk hb ho => (h.oth k o hb ho).resolve_left (fun hm => by have := hM k hm; omega)⟩
theorem Fr.of_row {g : Nat} {cur cur' : Array Value} {e : TypeId} {fz : Nat × Nat} (hg : w.heap[g]? = some (.cells cur e fz)) (hg' : w'.heap[g]? = some (.cells cur' e fz)) (hs : cur'.size = cur.size)
    (hj : ∀ j, ¬ Z.W g j → cur'[j]? = cur[j]?) (hgr : w.grownBy w' (some g)) (hW : ∃ j, Z.W g j) : Fr Z w w' where
  os := hgr.os
  tape := hgr.tape
  output := hgr.output
  size := hgr.size
  block i hi hn := hgr.block i hi (fun e => by injection e with e; subst e; obtain ⟨j, hj⟩ := hW; exact hn j hj)
  cells i c e' fz' hb := by
    by_cases hi : i = g
    · subst hi
      rw [hg] at hb
      injection hb with hb; injection hb with h1 h2 h3
      subst h1; subst h2; subst h3
      exact ⟨cur', hg', hs, hj⟩
    · exact ⟨c, (hgr.block i (Array.getElem?_eq_some_iff.1 hb).1 (fun e => hi (by injection e))).trans hb, rfl, fun _ _ => rfl⟩
  oth i o hb ho := by
    by_cases hi : i = g
    · subst hi
      rw [hg] at hb
      injection hb with hb; subst hb; simp [Obj.isCells] at ho
    · exact .inr ((hgr.block i (Array.getElem?_eq_some_iff.1 hb).1 (fun e => hi (by injection e))).trans hb)
theorem Fr.setCell (h : Fr Z w w') {a : Addr} {v : Value} (hW : Z.W a.block a.off) : Fr Z w (w'.setCell a v) := by
  refine h.trans ?_
  refine ⟨rfl, rfl, rfl, by simp, ?_, ?_, ?_⟩
  · intro i hi hn
    exact Below.heap_setCell w' a v i (fun e => by subst e; exact hn _ hW)
  · intro i cur e fz hb
    by_cases hi : i = a.block
    · subst hi
      obtain ⟨hlt, hk⟩ := Array.getElem?_eq_some_iff.1 hb
      refine ⟨if a.spot.isSome then cur else cur.setIfInBounds a.off v, ?_, by split <;> simp, ?_⟩
      · show (w'.heap.modify a.block _)[a.block]? = _
        rw [Array.getElem?_eq_getElem (by rw [Array.size_modify]; exact hlt), Array.getElem_modify_self, hk]
      · intro j hj
        split
        · rfl
        · rw [Array.getElem?_setIfInBounds]
          split
          · rename_i h'; subst h'; exact absurd hW hj
          · rfl
    · exact ⟨cur, (Below.heap_setCell w' a v i hi).trans hb, rfl, fun _ _ => rfl⟩
  · intro i o hb ho
    exact .inr ((KeepsOthers.setCell w' a v).same i o hb ho)
theorem Fr.turned {b : Nat} (h : w.mapTurned w' b) (hW : ∃ j, Z.W b j) (hM : Z.M b) : Fr Z w w' := by
  have hg := h.grown
  obtain ⟨es, clock, es', clock', hb, rfl⟩ := h
  refine ⟨hg.os, hg.tape, hg.output, hg.size, ?_, ?_, ?_⟩
  · intro i hi hn
    exact hg.block i hi (fun e => by injection e with e; subst e; obtain ⟨j, hj⟩ := hW; exact hn j hj)
  · intro i c e fz hb'
    have hi : i ≠ b := fun e => by subst e; rw [hb] at hb'; injection hb' with hb'; cases hb'
    exact ⟨c, (hg.block i (Array.getElem?_eq_some_iff.1 hb').1 (fun e => hi (by injection e))).trans hb', rfl, fun _ _ => rfl⟩
  · intro i o hb' ho
    by_cases hi : i = b
    · subst hi; exact .inl hM
    · exact .inr ((hg.block i (Array.getElem?_eq_some_iff.1 hb').1 (fun e => hi (by injection e))).trans hb')
end

/-- a slice of n elements that lies in the zone: its cells are xs; the room behind them may be written -/
def Sl (Z : Zone) (w : World) (e size : Nat) (v : Value) (n : Nat) (xs : List Value) : Prop :=
  xs.length = n * size ∧
  ((v = .slice none 0 0 ∧ n = 0) ∨
   ∃ g cap cur, v = .slice (some ⟨g, 0, none⟩) n cap ∧ w.heap[g]? = some (.cells cur e (0, 0)) ∧ n ≤ cap ∧ cap ≤ maxLen ∧ cap * size ≤ cur.size ∧ cur.toList.take (n * size) = xs ∧
     (∀ j, n * size ≤ j → j < cap * size → Z.W g j) ∧ (∀ j, j < n * size → Z.R g j))
/-- .. and all of its block is the zone's -/
def Whole (Z : Zone) (v : Value) : Prop := ∀ g, v.ownBlock = some g → ∀ j, Z.W g j

section
variable {Z V : Zone} {w w' : World} {e size n : Nat} {v : Value} {xs : List Value}
theorem Sl.nil (Z : Zone) (w : World) (e size : Nat) : Sl Z w e size (.slice none 0 0) 0 [] := ⟨by simp, .inl ⟨rfl, rfl⟩⟩
theorem Sl.lt (h : Sl Z w e size v n xs) : ∀ k, v.ownBlock = some k → k < w.heap.size ∧ ∃ cur fz, w.heap[k]? = some (.cells cur e fz) := by
  intro k hk
  rcases h.2 with ⟨rfl, _⟩ | ⟨g, cap, cur, rfl, hg, _⟩
  · simp [Value.ownBlock] at hk
  · simp [Value.ownBlock] at hk
    subst hk
    exact ⟨(Array.getElem?_eq_some_iff.1 hg).1, cur, _, hg⟩
/-- it stays, where what is written is apart from what is read of it, or of its own block nothing turns -/
theorem Sl.stay (h : Sl Z w e size v n xs) (hf : Fr V w w') (hd : ∀ g j, v.ownBlock = some g → j < n * size → ¬ V.W g j) : Sl Z w' e size v n xs := by
  refine ⟨h.1, ?_⟩
  rcases h.2 with h' | ⟨g, cap, cur, rfl, hg, h1, h2, h3, h4, h5⟩
  · exact .inl h'
  · obtain ⟨cur', k1, k2, k3⟩ := hf.cells g cur e _ hg
    refine .inr ⟨g, cap, cur', rfl, k1, h1, h2, by rw [k2]; exact h3, ?_, h5⟩
    rw [← h4]
    apply List.ext_getElem?
    intro j
    simp only [List.getElem?_take, Array.getElem?_toList]
    split
    · rename_i hj; exact k3 j (hd g j rfl hj)
    · rfl
theorem Sl.stayB (h : Sl Z w e size v n xs) (hb : ∀ g, v.ownBlock = some g → w'.heap[g]? = w.heap[g]?) : Sl Z w' e size v n xs := by
  refine ⟨h.1, ?_⟩
  rcases h.2 with h' | ⟨g, cap, cur, rfl, hg, h1⟩
  · exact .inl h'
  · exact .inr ⟨g, cap, cur, rfl, (hb g rfl).trans hg, h1⟩
theorem Sl.below (h : Sl Z w e size v n xs) (hb : Below w.heap.size w w') : Sl Z w' e size v n xs := h.stayB (fun g hg => hb.block g (h.lt g hg).1)
theorem Sl.cells (h : Sl Z w e size v n xs) {g : Nat} (hv : v.ownBlock = some g) (j : Nat) (u : Value) (hj : xs[j]? = some u) : w.cell? ⟨g, j, none⟩ = some u := by
  rcases h.2 with ⟨rfl, _⟩ | ⟨g', cap, cur, rfl, hg, h1, h2, h3, h4, h5⟩
  · simp [Value.ownBlock] at hv
  · simp [Value.ownBlock] at hv
    subst hv
    unfold World.cell?
    rw [hg]
    rw [← h4, List.getElem?_take] at hj
    split at hj
    · simpa using hj
    · cases hj
theorem Sl.form (h : Sl Z w e size v n xs) : (v = .slice none 0 0 ∧ n = 0) ∨ ∃ g cap, v = .slice (some ⟨g, 0, none⟩) n cap ∧ n ≤ cap ∧ cap ≤ maxLen ∧ g < w.heap.size := by
  rcases h.2 with h' | ⟨g, cap, cur, rfl, hg, h1, h2, _⟩
  · exact .inl h'
  · exact .inr ⟨g, cap, rfl, h1, h2, (Array.getElem?_eq_some_iff.1 hg).1⟩
theorem Sl.frozen (h : Sl Z w e size v n xs) {g : Nat} (hv : v.ownBlock = some g) (j : Nat) : w.frozen? ⟨g, j, none⟩ = false := by
  rcases h.2 with ⟨rfl, _⟩ | ⟨g', cap, cur, rfl, hg, _⟩
  · simp [Value.ownBlock] at hv
  · simp [Value.ownBlock] at hv
    subst hv
    unfold World.frozen?
    rw [hg]
    simp

variable {P : Program}
/-- append: in the same block or in the one that comes next -/
theorem Sl.append (h : Sl Z w e size v n xs) (hZ : Z.opn w.heap.size) (t ty : TypeId) (i : TypeInfo) (z : Value) (bytes : Nat) (ht : P.underlying t = some (.slice e)) (hi : P.info? e = some i) (hz : i.zero = some z)
    (hsize : i.size = size) (hby : i.bytes = bytes) (hzs : z.cells.size = size) (hsz : 0 < size)
    (a : Addr) (m c : Nat) (news : List Value) (hl : news.length = m * size) (hnews : ∀ j u, news[j]? = some u → w.cell? (a.add j) = some u) (h1 : ∀ u ∈ news, u.oneCell' = true)
    (hm : 0 < m) (h63 : n + m ≤ maxLen) (hbytes : (n + m) * bytes ≤ 140737488355328) :
    ∃ v' w', (Builtin.append_ #[t, t] ty #[v, .slice (some a) m c]).run P w = .ok v' w' ∧ Sl Z w' e size v' (n + m) (xs ++ news) ∧ Fr Z w w' ∧ w.grownBy w' v.ownBlock ∧
      ((v'.ownBlock = v.ownBlock ∧ ∃ g, v.ownBlock = some g) ∨ v'.ownBlock = some w.heap.size ∧ Below w.heap.size w w') := by
  subst hsize
  subst hby
  have hsmall : n + m ≤ 9223372036854775807 := by simp only [maxLen] at h63; omega
  have hlen : (xs ++ news).length = (n + m) * i.size := by rw [List.length_append, h.1, hl, Nat.add_mul]
  have grown : ∀ (old : Nat), old < n + m → Sl Z (w.drew.alloc (.cells (xs.toArray ++ news.toArray ++ Builtin.zeroCells z.cells (grownCap w (n + m) old e - (n + m))) e)) e i.size
        (.slice (some ⟨w.heap.size, 0, none⟩) (n + m) (grownCap w (n + m) old e)) (n + m) (xs ++ news) := by
    intro old ho
    have hge := grownCap_ge w (n + m) old e
    have hcm : grownCap w (n + m) old e ≤ maxLen := grownCap_le_maxLen w (n + m) old e h63
    refine ⟨hlen, .inr ⟨w.heap.size, _, _, rfl, heap_alloc_new w.drew _, hge, hcm, ?_, ?_, fun j _ _ => hZ _ _ (Nat.le_refl _), fun j _ => Z.sub _ _ (hZ _ _ (Nat.le_refl _))⟩⟩
    · simp only [Array.size_append, List.size_toArray, size_zeroCells, hzs, h.1, hl, ← Nat.add_mul]
      refine Nat.mul_le_mul_right _ ?_
      omega
    · simp only [Array.toList_append, List.append_assoc]
      rw [← List.append_assoc, ← hlen]
      exact List.take_left
  have hbel : ∀ o, Below w.heap.size w (w.drew.alloc o) := fun o => ((Below.refl _ w).drew).alloc (Nat.le_refl _) o
  have hgr : ∀ o r, w.grownBy (w.drew.alloc o) r := fun o r => ⟨rfl, rfl, rfl, by simp, fun k hk _ => Below.heap_alloc w.drew _ k hk⟩
  rcases h.2 with ⟨rfl, rfl⟩ | ⟨g, cap, cur, rfl, hg, hnc, hcm, hcs, htake, hW, hR⟩
  · have hx : xs = [] := List.eq_nil_of_length_eq_zero (by simpa using h.1)
    subst hx
    have hr := run_append_nil (P := P) w t ty e i z ht hi hz a m c news hl hnews (by omega) (by omega) (by have hb := hbytes; simp only [Nat.zero_add] at hb; omega)
    have hgw := grown 0 (by omega)
    simp only [Nat.zero_add, List.nil_append, Array.empty_append] at hgw ⊢
    exact ⟨_, _, hr, hgw, .of_below (hbel _), hgr _ _, .inr ⟨rfl, hbel _⟩⟩
  · by_cases hroom : n + m ≤ cap
    · have hfit : n * i.size + news.length ≤ cur.size := by
        rw [hl, ← Nat.add_mul]; exact Nat.le_trans (Nat.mul_le_mul_right _ hroom) hcs
      have hr := run_append_room (P := P) w t ty e i ht hi g n cap cur hg a m c news hl hnews h1 hroom hfit
      have hmul : (n + m) * i.size ≤ cap * i.size := Nat.mul_le_mul_right _ hroom
      have hmm : (n + m) * i.size = n * i.size + m * i.size := Nat.add_mul _ _ _
      have hnl : (n * i.size) = (cur.toList.take (n * i.size)).length := by rw [htake]; exact h.1.symm
      have hW' : ∀ j, n * i.size ≤ j → j < (n + m) * i.size → Z.W g j := fun j h1 h2 => hW j h1 (by omega)
      have hgrw : w.grownBy (w.setRow g (cur.toList.take (n * i.size) ++ news ++ cur.toList.drop (n * i.size + news.length)).toArray) (some g) :=
        ⟨rfl, rfl, rfl, by simp, fun k _ hk => setRow_other w g k _ (fun e => hk (by rw [e]))⟩
      have hnew := setRow_heap w g cur (cur.toList.take (n * i.size) ++ news ++ cur.toList.drop (n * i.size + news.length)).toArray e (0, 0) hg
      refine ⟨_, _, hr, ⟨hlen, .inr ⟨g, cap, _, rfl, hnew, hroom, hcm, ?_, ?_, fun j h1 h2 => hW j (by omega) h2, ?_⟩⟩, ?_, hgrw, .inl ⟨rfl, g, rfl⟩⟩
      · simp only [List.size_toArray, List.length_append, List.length_take, List.length_drop, Array.length_toList]
        omega
      · simp only [htake]
        rw [← hlen]
        exact List.take_left
      · intro j hj
        by_cases hj' : j < n * i.size
        · exact hR j hj'
        · exact Z.sub _ _ (hW' j (by omega) hj)
      · refine Fr.of_row hg hnew ?_ ?_ hgrw ⟨n * i.size, hW' _ (Nat.le_refl _) (by rw [hmm]; have := Nat.mul_pos hm hsz; omega)⟩
        · simp only [List.size_toArray, List.length_append, List.length_take, List.length_drop, Array.length_toList]
          omega
        · intro j hj
          have hout : j < n * i.size ∨ (n + m) * i.size ≤ j := by
            by_cases h' : j < n * i.size
            · exact .inl h'
            · by_cases h'' : j < (n + m) * i.size
              · exact absurd (hW' j (by omega) h'') hj
              · exact .inr (by omega)
          simp only [List.getElem?_toArray]
          rcases hout with h' | h'
          · rw [List.append_assoc, List.getElem?_append_left (by omega), List.getElem?_take, if_pos h', Array.getElem?_toList]
          · rw [List.getElem?_append_right (by rw [List.length_append, ← hnl, hl]; omega), List.length_append, ← hnl, hl, List.getElem?_drop, Array.getElem?_toList]
            congr 1; omega
    · have holds : ∀ j u, xs[j]? = some u → w.cell? ((⟨g, 0, none⟩ : Addr).add j) = some u := fun j u hj => by
        have := h.cells (g := g) rfl j u hj
        rw [← this]; unfold Addr.add; split <;> simp_all
      have hr := run_append_grow (P := P) w t ty e i z ht hi hz ⟨g, 0, none⟩ n cap xs h.1 holds a m c news hl hnews (by omega) (by omega) (growslice_fits (by omega) hbytes)
      exact ⟨_, _, hr, grown cap (by omega), .of_below (hbel _), hgr _ _, .inr ⟨rfl, hbel _⟩⟩
end
end Go.Proofs.Ytghihhjcoilmgaa.T

namespace Go.Proofs.Ytghihhjcoilmgaa.T
set_option maxRecDepth 100000
open Go.RowKit Go.Maps
set_option linter.unusedVariables false

theorem Try.laidOut : laidOutB Try.prog = true := by kernel_rfl
theorem Try.rowRow : (37 : TypeId) < Try.prog.types.size := of_decide_eq_true (by kernel_rfl)
theorem Try.wideRow : (match Try.prog.underlying 37 with | some (.array _ _) | some (.struct _) => true | _ => false) = true := by rw [Try.underlying37]
set_option maxRecDepth 100000 in
theorem Try.lawRow : WideMaps.KeyLaw Try.prog 37 := deep_law_laid Try.laidOut (m := 2) (by omega) Try.rowRow (by kernel_rfl) Try.wideRow
theorem wf_u32 {x : Int} (h : is32 x) : (Lit.int .u32 x).wf = true := by
  obtain ⟨h1, h2⟩ := h
  have e1 : IntKind.u32.min = 0 := by decide
  have e2 : IntKind.u32.max = 4294967295 := by decide
  simp only [Lit.wf, e1, e2, Bool.and_eq_true, decide_eq_true_eq]
  exact ⟨h1, h2⟩
set_option maxRecDepth 100000 in
theorem Try.keyRow (r : R3) (h : rok r) : ∃ l, keyOf Try.prog 37 (rv r) = some l := by
  obtain ⟨a, b, c⟩ := r
  obtain ⟨ha, hb, hc⟩ := h
  simp only [is32] at ha hb hc
  have h3 : Try.prog.cellsOf 37 = 3 := by kernel_rfl
  have h4 : Try.prog.cellsOf 31 = 1 := by kernel_rfl
  have hf : (rv (a, b, c)).formed Try.prog 37 = true := by
    simp [rv, Value.formed, Try.underlying37, h3]
  have hk : Try.prog.keyType 37 = true := by kernel_rfl
  have wf : ∀ x, 0 ≤ x → x ≤ 4294967295 → (Lit.int .u32 x).wf = true := fun x h1 h2 => wf_u32 ⟨h1, h2⟩
  have h1 : Try.prog.keyLits (Try.prog.types.size + 1) 37 [.int .u32 a, .int .u32 b, .int .u32 c] = some [.int .u32 a, .int .u32 b, .int .u32 c] := by
    obtain ⟨m, hm⟩ : ∃ m, Try.prog.types.size = m + 1 := ⟨_, (Nat.succ_pred_eq_of_pos (Nat.lt_of_le_of_lt (Nat.zero_le _) Try.rowRow)).symm⟩
    rw [hm]
    simp [Program.keyLits, Try.underlying37, Try.underlying31, h3, h4, List.range, List.range.loop, wf a ha.1 ha.2, wf b hb.1 hb.2, wf c hc.1 hc.2]
  refine ⟨.string (keyBytes [.int .u32 a, .int .u32 b, .int .u32 c]), ?_⟩
  rw [keyOf, Try.underlying37]
  simp only [hf, hk, Bool.and_self, if_true]
  show Option.map _ (Try.prog.keyLits _ _ [.int .u32 a, .int .u32 b, .int .u32 c]) = _
  rw [h1]; rfl
def uv (x : Int) : Value := .int .u32 x
theorem kysR : Kys Try.prog 37 rv rok := ⟨Keyed.of_law Try.lawRow, Try.keyRow, fun _ _ _ _ h => rv_inj h⟩
theorem kysU : Kys Try.prog 31 uv is32 := ⟨int_keyed Try.underlying31, fun x hx => ⟨_, keyOf_int_mk Try.underlying31 (wf_u32 hx)⟩, fun x y _ _ h => by simpa [uv] using h⟩

/-- how often a number stands at a place, as its map has it -/
def cntF (T : TS) (p : Nat) : Int → Option Value := fun x => if cnt T p x = 0 then none else some (.int .i64 (cnt T p x : Nat))
def idxF (T : TS) : R3 → Option Value := fun r => (idx T r).map fun n => .int .i64 (n : Nat)

/-- what a table's blocks are -/
structure TabD where
  vr : Value
  vb : Value
  bf : Nat
  bb : Nat
  ba : Nat → Nat
  mb : R3 → Option Value

def TabD.cells (D : TabD) (l : Int) : Array Value := #[D.vr, D.vb, .map (some D.bf), .map (some D.bb), .map (some (D.ba 0)), .map (some (D.ba 1)), .map (some (D.ba 2)), .int .i64 l]

/-- the lists of rows by looks: each list once, in a block of its own -/
structure ByG (Z : Zone) (w : World) (ls : R3 → List Nat) (mb : R3 → Option Value) : Prop where
  look : ∀ x, rok x → mb x ≠ none → look2 x = true
  non : ∀ x, rok x → look2 x = true → mb x = Option.none → ls x = []
  has : ∀ (x : R3) (v : Value), rok x → mb x = Option.some v → ls x ≠ [] ∧ Sl Z w 3 1 v (ls x).length (ics (ls x))
  apart : ∀ (x y : R3) (v u : Value), rok x → rok y → mb x = Option.some v → mb y = Option.some u → x ≠ y → v.ownBlock ≠ u.ownBlock

/-- the table T lies at block tb; L is its count of rows that are not out, fa what its counts say -/
structure IsG (Z : Zone) (w : World) (tb : Nat) (T : TS) (ff : R3 → Option Value) (ls : R3 → List Nat) (L : Int) (fa : Nat → Int → Option Value) (D : TabD) : Prop where
  obj : w.heap[tb]? = some (.cells (D.cells L) 82 (0, 0))
  own : ∀ j, Z.W tb j
  rows : Sl Z w 37 3 D.vr T.length (rcs T)
  rowsW : Whole Z D.vr
  bits : Sl Z w 56 1 D.vb T.length (bcs T)
  bitsW : Whole Z D.vb
  find : MapAt rv rok w D.bf ff
  by_ : MapAt rv rok w D.bb D.mb
  byOk : ByG Z w ls D.mb
  at_ : ∀ p, p < 3 → MapAt uv is32 w (D.ba p) (fa p)
  findW : (∀ j, Z.W D.bf j) ∧ Z.M D.bf
  byW : (∀ j, Z.W D.bb j) ∧ Z.M D.bb
  atW : ∀ p, p < 3 → (∀ j, Z.W (D.ba p) j) ∧ Z.M (D.ba p)
  ne1 : D.bf ≠ D.bb
  ne2 : ∀ p, p < 3 → D.bf ≠ D.ba p ∧ D.bb ≠ D.ba p
  ne3 : ∀ p q, p < 3 → q < 3 → p ≠ q → D.ba p ≠ D.ba q
  oks : ∀ y ∈ T, yok y
  nodup : (T.map (·.1)).Nodup
  long : T.length ≤ 1000000

/-- the table T lies at block tb -/
abbrev IsT (Z : Zone) (w : World) (tb : Nat) (T : TS) (D : TabD) : Prop := IsG Z w tb T (idxF T) (lst T) (live T) (cntF T) D
def IsTab (Z : Zone) (w : World) (tb : Nat) (T : TS) : Prop := ∃ D, IsT Z w tb T D

section
variable {Z V : Zone} {w w' : World} {tb : Nat} {T : TS} {D : TabD} {ff : R3 → Option Value} {ls : R3 → List Nat} {L : Int} {fa : Nat → Int → Option Value}
theorem ByG.stay {ls : R3 → List Nat} {mb : R3 → Option Value} (h : ByG Z w ls mb) (hf : Fr V w w') (hd : ∀ i j, Z.R i j → ¬ V.W i j) : ByG Z w' ls mb :=
  ⟨h.look, h.non, fun x v hx hv => ⟨(h.has x v hx hv).1, (h.has x v hx hv).2.stay hf (fun g j hg hj => hd g j (by
    rcases (h.has x v hx hv).2.2 with ⟨rfl, _⟩ | ⟨g', cap, cur, rfl, _, _, _, _, _, _, hR⟩
    · simp [Value.ownBlock] at hg
    · simp [Value.ownBlock] at hg; subst hg; exact hR j hj))⟩, h.apart⟩
theorem ByG.stayB {ls : R3 → List Nat} {mb : R3 → Option Value} (h : ByG Z w ls mb) (hb : ∀ (g : Nat) cur fz, w.heap[g]? = some (.cells cur 3 fz) → w'.heap[g]? = w.heap[g]?) : ByG Z w' ls mb :=
  ⟨h.look, h.non, fun x v hx hv => ⟨(h.has x v hx hv).1, (h.has x v hx hv).2.stayB (fun g hg => by
    obtain ⟨_, cur, fz, h1⟩ := (h.has x v hx hv).2.lt g hg
    exact hb g cur fz h1)⟩, h.apart⟩
theorem block_of {i : Nat} {o : Obj} (hf : Fr V w w') (hi : w.heap[i]? = some o) (hd : ∀ j, ¬ V.W i j) : w'.heap[i]? = w.heap[i]? := hf.block i (Array.getElem?_eq_some_iff.1 hi).1 hd
theorem MapAt.heap {κ : Type} {enc : κ → Value} {ok : κ → Prop} {b : Nat} {f : κ → Option Value} (h : MapAt enc ok w b f) : ∃ es c, w.heap[b]? = some (.map es c) := by
  obtain ⟨es, c, h, _⟩ := h; exact ⟨es, c, h⟩
/-- a table stays where nothing that is read of it is written -/
theorem IsG.stay (h : IsG Z w tb T ff ls L fa D) (hf : Fr V w w') (hd : ∀ i j, Z.R i j → ¬ V.W i j) : IsG Z w' tb T ff ls L fa D := by
  have hW : ∀ i j, Z.W i j → ¬ V.W i j := fun i j hw => hd i j (Z.sub i j hw)
  have hm : ∀ {κ : Type} {enc : κ → Value} {ok : κ → Prop} {b : Nat} {f : κ → Option Value}, MapAt enc ok w b f → (∀ j, Z.W b j) → MapAt enc ok w' b f := by
    intro κ enc ok b f hm hw
    obtain ⟨es, c, hb⟩ := hm.heap
    exact hm.stay (block_of hf hb (fun j => hW _ _ (hw j)))
  exact { h with
    obj := (block_of hf h.obj (fun j => hW _ _ (h.own j))).trans h.obj
    rows := h.rows.stay hf (fun g j hg _ => hW g j (h.rowsW g hg j))
    bits := h.bits.stay hf (fun g j hg _ => hW g j (h.bitsW g hg j))
    find := hm h.find h.findW.1
    by_ := hm h.by_ h.byW.1
    byOk := h.byOk.stay hf hd
    at_ := fun p hp => hm (h.at_ p hp) (h.atW p hp).1 }
theorem IsG.below (h : IsG Z w tb T ff ls L fa D) (hb : Below w.heap.size w w') : IsG Z w' tb T ff ls L fa D := by
  have hblk : ∀ i o, w.heap[i]? = some o → w'.heap[i]? = w.heap[i]? := fun i o hi => hb.block i (Array.getElem?_eq_some_iff.1 hi).1
  have hm : ∀ {κ : Type} {enc : κ → Value} {ok : κ → Prop} {b : Nat} {f : κ → Option Value}, MapAt enc ok w b f → MapAt enc ok w' b f := by
    intro κ enc ok b f hm
    obtain ⟨es, c, hb⟩ := hm.heap
    exact hm.stay (hblk _ _ hb)
  exact { h with
    obj := (hblk _ _ h.obj).trans h.obj
    rows := h.rows.below hb
    bits := h.bits.below hb
    find := hm h.find
    by_ := hm h.by_
    byOk := h.byOk.stayB (fun g cur fz hg => hblk _ _ hg)
    at_ := fun p hp => hm (h.at_ p hp) }
theorem IsG.cell (h : IsG Z w tb T ff ls L fa D) (j : Nat) (v : Value) (hj : (D.cells L)[j]? = some v) : w.cell? ⟨tb, j, none⟩ = some v := by
  unfold World.cell?
  rw [h.obj]
  simpa using hj
theorem IsG.c0 (h : IsG Z w tb T ff ls L fa D) : w.cell? ⟨tb, 0, none⟩ = some D.vr := h.cell 0 _ rfl
theorem IsG.c1 (h : IsG Z w tb T ff ls L fa D) : w.cell? ⟨tb, 1, none⟩ = some D.vb := h.cell 1 _ rfl
theorem IsG.c2 (h : IsG Z w tb T ff ls L fa D) : w.cell? ⟨tb, 2, none⟩ = some (.map (some D.bf)) := h.cell 2 _ rfl
theorem IsG.c3 (h : IsG Z w tb T ff ls L fa D) : w.cell? ⟨tb, 3, none⟩ = some (.map (some D.bb)) := h.cell 3 _ rfl
theorem IsG.ca (h : IsG Z w tb T ff ls L fa D) (p : Nat) (hp : p < 3) : w.cell? ⟨tb, 4 + p, none⟩ = some (.map (some (D.ba p))) := by
  have : p = 0 ∨ p = 1 ∨ p = 2 := by omega
  rcases this with rfl | rfl | rfl
  · exact h.cell 4 _ rfl
  · exact h.cell 5 _ rfl
  · exact h.cell 6 _ rfl
theorem IsG.c7 (h : IsG Z w tb T ff ls L fa D) : w.cell? ⟨tb, 7, none⟩ = some (.int .i64 L) := h.cell 7 _ rfl
theorem IsG.frozen (h : IsG Z w tb T ff ls L fa D) (j : Nat) : w.frozen? ⟨tb, j, none⟩ = false := by
  unfold World.frozen?
  rw [h.obj]
  simp
theorem IsG.lt (h : IsG Z w tb T ff ls L fa D) : tb < w.heap.size := (Array.getElem?_eq_some_iff.1 h.obj).1
/-- a table's zone, as a caller sees it who has made blocks from N to N' since -/
def Zone.gap (Z : Zone) (N N' : Nat) : Zone where
  W i j := (Z.W i j ∧ i < N) ∨ N' ≤ i
  R i j := (Z.R i j ∧ i < N) ∨ N' ≤ i
  M i := Z.M i ∧ i < N
  sub i j h := h.imp (fun h => ⟨Z.sub i j h.1, h.2⟩) id
theorem Zone.gap_opn (Z : Zone) (N N' : Nat) : (Z.gap N N').opn N' := fun i j h => .inr h
theorem Sl.gap {e size n : Nat} {v : Value} {xs : List Value} (h : Sl Z w e size v n xs) {N N' : Nat} (hN : w.heap.size ≤ N) : Sl (Z.gap N N') w e size v n xs := by
  refine ⟨h.1, ?_⟩
  rcases h.2 with h' | ⟨g, cap, cur, rfl, hg, h1, h2, h3, h4, h5, h6⟩
  · exact .inl h'
  · have hlt := (Array.getElem?_eq_some_iff.1 hg).1
    exact .inr ⟨g, cap, cur, rfl, hg, h1, h2, h3, h4, fun j a b => .inl ⟨h5 j a b, by omega⟩, fun j a => .inl ⟨h6 j a, by omega⟩⟩
theorem IsG.gap (h : IsG Z w tb T ff ls L fa D) {N N' : Nat} (hN : w.heap.size ≤ N) : IsG (Z.gap N N') w tb T ff ls L fa D :=
  { h with
    own := fun j => .inl ⟨h.own j, by have := h.lt; omega⟩
    rows := h.rows.gap hN
    rowsW := fun g hg j => .inl ⟨h.rowsW g hg j, by have := (h.rows.lt g hg).1; omega⟩
    bits := h.bits.gap hN
    bitsW := fun g hg j => .inl ⟨h.bitsW g hg j, by have := (h.bits.lt g hg).1; omega⟩
    byOk := ⟨h.byOk.look, h.byOk.non, fun x v hx hv => ⟨(h.byOk.has x v hx hv).1, (h.byOk.has x v hx hv).2.gap hN⟩, h.byOk.apart⟩
    findW := ⟨fun j => .inl ⟨h.findW.1 j, by have := h.find.lt; omega⟩, h.findW.2, by have := h.find.lt; omega⟩
    byW := ⟨fun j => .inl ⟨h.byW.1 j, by have := h.by_.lt; omega⟩, h.byW.2, by have := h.by_.lt; omega⟩
    atW := fun p hp => ⟨fun j => .inl ⟨(h.atW p hp).1 j, by have := (h.at_ p hp).lt; omega⟩, (h.atW p hp).2, by have := (h.at_ p hp).lt; omega⟩ }
/-- .. and back -/
theorem Sl.back {e size n : Nat} {v : Value} {xs : List Value} {N N' : Nat} (h : Sl (Z.gap N N') w e size v n xs) (hN : N ≤ N') (hZ : Z.opn N) : Sl Z w e size v n xs := by
  refine ⟨h.1, ?_⟩
  rcases h.2 with h' | ⟨g, cap, cur, rfl, hg, h1, h2, h3, h4, h5, h6⟩
  · exact .inl h'
  · exact .inr ⟨g, cap, cur, rfl, hg, h1, h2, h3, h4, fun j a b => (h5 j a b).elim (·.1) (fun h => hZ _ _ (by omega)), fun j a => (h6 j a).elim (·.1) (fun h => Z.sub _ _ (hZ _ _ (by omega)))⟩
theorem IsG.back {N N' : Nat} (h : IsG (Z.gap N N') w tb T ff ls L fa D) (hN : N ≤ N') (hZ : Z.opn N) : IsG Z w tb T ff ls L fa D := by
  have hw : ∀ {i j}, (Z.gap N N').W i j → Z.W i j := fun h => h.elim (·.1) (fun h => hZ _ _ (by omega))
  exact { h with
    own := fun j => hw (h.own j)
    rows := h.rows.back hN hZ
    rowsW := fun g hg j => hw (h.rowsW g hg j)
    bits := h.bits.back hN hZ
    bitsW := fun g hg j => hw (h.bitsW g hg j)
    byOk := ⟨h.byOk.look, h.byOk.non, fun x v hx hv => ⟨(h.byOk.has x v hx hv).1, (h.byOk.has x v hx hv).2.back hN hZ⟩, h.byOk.apart⟩
    findW := ⟨fun j => hw (h.findW.1 j), h.findW.2.1⟩
    byW := ⟨fun j => hw (h.byW.1 j), h.byW.2.1⟩
    atW := fun p hp => ⟨fun j => hw ((h.atW p hp).1 j), (h.atW p hp).2.1⟩ }
theorem Fr.back {N N' : Nat} (h : Fr (Z.gap N N') w w') (hN : N ≤ N') (hZ : Z.opn N) : Fr Z w w' :=
  h.mono (fun i j _ h => h.elim (·.1) (fun h => hZ _ _ (by omega))) (fun i _ h => h.1)
/-- what was made between N and N' lies as it lay -/
theorem Fr.between {N N' : Nat} (h : Fr (Z.gap N N') w w') {i : Nat} (h1 : N ≤ i) (h2 : i < N') (h3 : i < w.heap.size) : w'.heap[i]? = w.heap[i]? :=
  h.block i h3 (fun j hj => by rcases hj with ⟨_, h⟩ | h <;> omega)
end
end Go.Proofs.Ytghihhjcoilmgaa.T
