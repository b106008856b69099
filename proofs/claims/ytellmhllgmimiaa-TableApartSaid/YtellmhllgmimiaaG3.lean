/- The table, and a list of rows and boxes beside it. -/
import Derived.Test.YtellmhllgmimiaaG2
namespace Go.Proofs.Ytellmhllgmimiaa
open Go.RowKit Go.Maps
set_option linter.unusedVariables false
set_option linter.unusedSimpArgs false

section
variable {Z V : Zone} {w w' : World} {tb : Nat} {T T' : TS} {ff : R3 → Option Value} {ls : R3 → List Nat} {L : Int} {fa : Nat → Int → Option Value} {D D' : TabD}
/-- a table stays where the blocks stay that it reads -/
theorem IsG.reads (h : IsG Z w tb T ff ls L fa D) (hb : ∀ i, (∃ j, Z.R i j) → i < w.heap.size → w'.heap[i]? = w.heap[i]?) : IsG Z w' tb T ff ls L fa D := by
  have hm : ∀ {κ : Type} {enc : κ → Value} {ok : κ → Prop} {b : Nat} {f : κ → Option Value}, MapAt enc ok w b f → (∀ j, Z.W b j) → MapAt enc ok w' b f := by
    intro κ enc ok b f hm hw
    exact hm.stay (hb _ ⟨0, Z.sub _ _ (hw 0)⟩ hm.lt)
  exact { h with
    obj := (hb _ ⟨0, Z.sub _ _ (h.own 0)⟩ h.lt).trans h.obj
    rows := h.rows.stayB (fun g hg => hb g ⟨0, Z.sub _ _ (h.rowsW g hg 0)⟩ (h.rows.lt g hg).1)
    bits := h.bits.stayB (fun g hg => hb g ⟨0, Z.sub _ _ (h.bitsW g hg 0)⟩ (h.bits.lt g hg).1)
    find := hm h.find h.findW.1
    by_ := hm h.by_ h.byW.1
    byOk := ⟨h.byOk.look, h.byOk.non, fun x v hx hv => ⟨(h.byOk.has x v hx hv).1, (h.byOk.has x v hx hv).2.stayB (fun g hg => hb g (by
      obtain ⟨hne, hsl⟩ := h.byOk.has x v hx hv
      rcases hsl.2 with ⟨_, h0⟩ | ⟨g', cap, cur, rfl, _, _, _, _, _, _, hR⟩
      · exact absurd (List.eq_nil_of_length_eq_zero h0) hne
      · simp [Value.ownBlock] at hg
        subst hg
        exact ⟨0, hR 0 (by have := List.length_pos_iff.2 hne; omega)⟩) ((h.byOk.has x v hx hv).2.lt g hg).1)⟩, h.byOk.apart⟩
    at_ := fun p hp => hm (h.at_ p hp) (h.atW p hp).1 }
theorem own_blk {w w' : World} {B e size n : Nat} {v : Value} {xs : List Value} (h : w.ownsRow B e size v n xs) (hb : ∀ g, v.ownBlock = some g → w'.heap[g]? = w.heap[g]?) : w'.ownsRow B e size v n xs := by
  refine ⟨h.1, ?_⟩
  rcases h.2 with h' | ⟨g, cap, cur, rfl, h1, h2, h3⟩
  · exact .inl h'
  · exact .inr ⟨g, cap, cur, rfl, h1, (hb g rfl).trans h2, h3⟩

/-- the table; the rows that are to come, in a block of their own; boxes O that are no part of the table -/
structure GS (s : Nat) (O : Nat → Prop) (tb : Nat) (T : TS) (Lr : List Nat) (vr : Value) (Z : Zone) (D : TabD) (W : World) : Prop where
  t : IsT Z W tb T D
  opn : Z.opn W.heap.size
  off : ∀ i j, Z.R i j → s ≤ i ∧ ¬ O i
  rows : W.ownsRow s 3 1 vr Lr.length (ics Lr)
  rowsOff : ∀ g, vr.ownBlock = some g → ¬ O g ∧ ∀ j, ¬ Z.R g j
variable {s : Nat} {O : Nat → Prop} {Lr Lr' : List Nat} {vr vr' : Value} {W W' : World}
theorem GS.new (h : GS s O tb T Lr vr Z D W) {i : Nat} (hi : W.heap.size ≤ i) : ¬ O i ∧ s ≤ i := by
  have := h.off i 0 (Z.sub _ _ (h.opn i 0 hi))
  exact ⟨this.2, this.1⟩
theorem GS.below (h : GS s O tb T Lr vr Z D W) (hb : Below W.heap.size W W') : GS s O tb T Lr vr Z D W' :=
  ⟨h.t.below hb, h.opn.mono hb.size, h.off, own_below h.rows hb, h.rowsOff⟩
theorem GS.call (h : GS s O tb T Lr vr Z D W) (ht : IsT Z W' tb T' D') (hf : Fr Z W W') : GS s O tb T' Lr vr Z D' W' :=
  ⟨ht, h.opn.mono hf.size, h.off, own_blk h.rows (fun g hg => hf.block g (h.rows.lt g hg).2 (fun j hj => (h.rowsOff g hg).2 j (Z.sub _ _ hj))), h.rowsOff⟩
theorem GS.box (h : GS s O tb T Lr vr Z D W) (hf : Fr Z W W') {b : Nat} (hO : O b ∨ b < s) (hb : b < W.heap.size) : W'.heap[b]? = W.heap[b]? :=
  hf.block b hb (fun j hj => by
    have := h.off b j (Z.sub _ _ hj)
    rcases hO with hO | hO
    · exact this.2 hO
    · omega)
/-- boxes and the rows turn, boxes come -/
theorem GS.turn (h : GS s O tb T Lr vr Z D W) (O' : Nat → Prop) (hO : ∀ i, O' i → O i ∨ (W.heap.size ≤ i ∧ i < W'.heap.size)) (hsz : W.heap.size ≤ W'.heap.size) (hb : ∀ i, i < W.heap.size → ¬ O i → vr.ownBlock ≠ some i → W'.heap[i]? = W.heap[i]?)
    (hown : W'.ownsRow s 3 1 vr' Lr'.length (ics Lr')) (hv : ∀ g, vr'.ownBlock = some g → ¬ O' g ∧ (vr.ownBlock = some g ∨ W.heap.size ≤ g)) : GS s O' tb T Lr' vr' (Z.gap W.heap.size W'.heap.size) D W' where
  t := (h.t.gap (N' := W'.heap.size) (Nat.le_refl W.heap.size)).reads (fun i ⟨j, hj⟩ hi => by
    rcases hj with ⟨hj, _⟩ | hj
    · exact hb i hi (h.off i j hj).2 (fun e => (h.rowsOff i e).2 j hj)
    · omega)
  opn := Zone.gap_opn _ _ _
  off := fun i j hj => by
    rcases hj with ⟨h1, h2⟩ | h1
    · refine ⟨(h.off i j h1).1, fun ho => ?_⟩
      rcases hO i ho with h3 | h3
      · exact (h.off i j h1).2 h3
      · omega
    · have := h.new (i := i) (by omega)
      refine ⟨this.2, fun ho => ?_⟩
      rcases hO i ho with h3 | h3
      · exact this.1 h3
      · omega
  rows := hown
  rowsOff := fun g hg => by
    have hlt := (hown.lt g hg).2
    obtain ⟨h0, h1⟩ := hv g hg
    refine ⟨h0, ?_⟩
    rcases h1 with h1 | h1
    · obtain ⟨h2, h3⟩ := h.rowsOff g h1
      rintro j (⟨h4, _⟩ | h4)
      · exact h3 j h4
      · omega
    · rintro j (⟨_, h4⟩ | h4) <;> omega
end

theorem twoB (w : World) (o0 o1 : Obj) : ∀ W, W = (w.alloc o0).alloc o1 → Below w.heap.size w W ∧ W.heap.size = w.heap.size + 2 ∧ W.heap[w.heap.size]? = some o0 ∧ W.heap[w.heap.size + 1]? = some o1 := by
  rintro W rfl
  have s1 := World.size_alloc w o0
  have s2 := World.size_alloc (w.alloc o0) o1
  refine ⟨((Below.refl _ w).alloc (Nat.le_refl _) _).alloc (by omega) _, by omega, ?_, ?_⟩
  · rw [Below.heap_alloc _ _ _ (by omega)]
    exact World.alloc_heap_new w o0
  · rw [← s1]
    exact World.alloc_heap_new _ o1
theorem GS.start {s tb : Nat} {w1 : World} {D : TabD} (h : IsT (Zone.from s) w1 tb [] D) (hs : s ≤ w1.heap.size) : GS s (fun _ => False) tb [] [] (.slice none 0 0) (Zone.from s) D w1 :=
  ⟨h, fun i j hi => Nat.le_trans hs hi, fun i j hi => ⟨hi, fun h => h⟩, World.ownsRow_nil _ _ _ _, fun g hg => by simp [Value.ownBlock] at hg⟩
theorem own_slice {w : World} {B e size n : Nat} {v : Value} {xs : List Value} (h : w.ownsRow B e size v n xs) (hn : 0 < n) : ∃ g cap, v = .slice (some ⟨g, 0, none⟩) n cap := by
  rcases h.2 with ⟨_, h'⟩ | ⟨g, cap, cur, rfl, h1, h2, h3⟩
  · omega
  · exact ⟨g, cap, rfl⟩
/-- a box of one cell -/
theorem box_cell {W : World} {b : Nat} {v : Value} {t : TypeId} (h : W.heap[b]? = some (.cells #[v] t (0, 0))) : W.cell? ⟨b, 0, none⟩ = some v ∧ W.frozen? ⟨b, 0, none⟩ = false := by
  unfold World.cell? World.frozen?
  rw [h]
  exact ⟨rfl, by simp⟩
theorem box3_cell {W : World} {b : Nat} {y0 y1 y2 : Int} (h : W.heap[b]? = some (.cells #[.int .u32 y0, .int .u32 y1, .int .u32 y2] 25 (0, 0))) :
    W.cell? ⟨b, 0, none⟩ = some (.int .u32 y0) ∧ W.cell? ⟨b, 1, none⟩ = some (.int .u32 y1) ∧ W.cell? ⟨b, 2, none⟩ = some (.int .u32 y2) := by
  unfold World.cell?
  rw [h]
  exact ⟨rfl, rfl, rfl⟩
theorem box_set {W : World} {b : Nat} {v : Value} {t : TypeId} (h : W.heap[b]? = some (.cells #[v] t (0, 0))) (u : Value) : (W.setCell ⟨b, 0, none⟩ u).heap[b]? = some (.cells #[u] t (0, 0)) := by
  obtain ⟨hlt, hk⟩ := Array.getElem?_eq_some_iff.1 h
  show (W.heap.modify b _)[b]? = _
  rw [Array.getElem?_eq_getElem (by rw [Array.size_modify]; exact hlt), Array.getElem_modify_self, hk]
  rfl

/-- all rows are in, of small numbers -/
def Two (T : TS) : Prop := ∀ c, c < T.length → bitsOf T c = 2
def smallR (r : R3) : Prop := r.1 < 1073741824 ∧ r.2.1 < 1073741824 ∧ r.2.2 < 1073741824
def SmallT (T : TS) : Prop := ∀ c, c < T.length → smallR (rowOf T c)
theorem grows_add (T : TS) (k r : R3) (h2 : Two T) (hs : SmallT T) (hr : smallR r) : Two (addT T r 2) ∧ SmallT (addT T r 2) ∧
    (addB T r 2 = true → addN T r 2 = T.length ∧ lst (addT T r 2) k = lst T k ++ if fits k r then [T.length] else []) ∧ (addB T r 2 = false → lst (addT T r 2) k = lst T k) := by
  unfold addT addB addN
  by_cases hb : (2 : Int) = 0 ∨ has0 r = true
  · rw [if_pos hb, if_pos hb, if_pos hb]
    exact ⟨h2, hs, (fun h => by cases h), fun _ => rfl⟩
  · rw [if_neg hb, if_neg hb, if_neg hb]
    cases hi : idx T r with
    | some n =>
      obtain ⟨h1, h3⟩ := idx_lt hi
      refine ⟨fun c hc => ?_, fun c hc => ?_, fun h => ?_, fun _ => lst_rows (setB_rows _ _ _) _⟩
      · simp only [setB_length] at hc
        simp only
        rw [bitsOf_set _ _ _ _ hc, h2 _ h1]
        split
        · decide
        · exact h2 c hc
      · simp only [setB_length] at hc
        simp only
        rw [rowOf_set]
        exact hs c hc
      · simp only [h2 _ h1] at h
        exact absurd h (by decide)
    | none =>
      refine ⟨fun c hc => ?_, fun c hc => ?_, fun h => ⟨rfl, ?_⟩, fun h => by cases h⟩
      · simp only [setB_length, List.length_append, List.length_singleton] at hc
        simp only
        rw [bitsOf_set _ _ _ _ (by simp; omega)]
        by_cases hl : c = T.length
        · rw [if_pos hl]; decide
        · rw [if_neg hl, bitsOf_snoc _ _ _ (by omega)]
          exact h2 c (by omega)
      · simp only [setB_length, List.length_append, List.length_singleton] at hc
        simp only
        rw [rowOf_set]
        by_cases hl : c = T.length
        · rw [hl, rowOf_last]; exact hr
        · rw [rowOf_snoc _ _ _ (by omega)]
          exact hs c (by omega)
      · simp only
        rw [lst_rows (setB_rows _ _ _), lst_snoc]
end Go.Proofs.Ytellmhllgmimiaa
