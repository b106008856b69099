/- A table and the reference's, side by side. -/
import Derived.Test.YtghihhjcoilmgaaKR5
import Derived.LoopNIn
import Derived.Test.YtghihhjcoilmgaaOrdW
namespace Go.Proofs.Ytghihhjcoilmgaa.T
set_option maxRecDepth 100000
open Go.RowKit Go.Maps
set_option linter.unusedVariables false
set_option linter.unusedSimpArgs false

/-- .. and whatever comes anew -/
def Zone.up (Z : Zone) (n : Nat) : Zone where
  W i j := Z.W i j ∨ n ≤ i
  R i j := Z.R i j ∨ n ≤ i
  M i := Z.M i ∨ n ≤ i
  sub i j h := h.imp (Z.sub i j) id
/-- .. but nothing that comes anew -/
def Zone.cut (Z : Zone) (n : Nat) : Zone where
  W i j := Z.W i j ∧ i < n
  R i j := Z.R i j ∧ i < n
  M i := Z.M i ∧ i < n
  sub i j h := ⟨Z.sub i j h.1, h.2⟩
theorem Zone.up_opn (Z : Zone) (n : Nat) : (Z.up n).opn n := fun i j h => .inr h
section
variable {Z : Zone} {w w' : World} {tb rb : Nat} {T : TS} {ff : R3 → Option Value} {ls : R3 → List Nat} {L : Int} {fa : Nat → Int → Option Value} {D : TabD} {vr vb : Value}
theorem Sl.up {e size n : Nat} {v : Value} {xs : List Value} (h : Sl Z w e size v n xs) (N : Nat) : Sl (Z.up N) w e size v n xs := by
  refine ⟨h.1, ?_⟩
  rcases h.2 with h' | ⟨g, cap, cur, rfl, hg, h1, h2, h3, h4, h5, h6⟩
  · exact .inl h'
  · exact .inr ⟨g, cap, cur, rfl, hg, h1, h2, h3, h4, fun j a b => .inl (h5 j a b), fun j a => .inl (h6 j a)⟩
theorem Sl.cut {e size n : Nat} {v : Value} {xs : List Value} (h : Sl Z w e size v n xs) {N : Nat} (hN : w.heap.size ≤ N) : Sl (Z.cut N) w e size v n xs := by
  refine ⟨h.1, ?_⟩
  rcases h.2 with h' | ⟨g, cap, cur, rfl, hg, h1, h2, h3, h4, h5, h6⟩
  · exact .inl h'
  · have hlt := (Array.getElem?_eq_some_iff.1 hg).1
    exact .inr ⟨g, cap, cur, rfl, hg, h1, h2, h3, h4, fun j a b => ⟨h5 j a b, by omega⟩, fun j a => ⟨h6 j a, by omega⟩⟩
theorem IsG.up (h : IsG Z w tb T ff ls L fa D) (N : Nat) : IsG (Z.up N) w tb T ff ls L fa D :=
  { h with
    own := fun j => .inl (h.own j)
    rows := h.rows.up N
    rowsW := fun g hg j => .inl (h.rowsW g hg j)
    bits := h.bits.up N
    bitsW := fun g hg j => .inl (h.bitsW g hg j)
    byOk := ⟨h.byOk.look, h.byOk.non, fun x v hx hv => ⟨(h.byOk.has x v hx hv).1, (h.byOk.has x v hx hv).2.up N⟩, h.byOk.apart⟩
    findW := ⟨fun j => .inl (h.findW.1 j), .inl h.findW.2⟩
    byW := ⟨fun j => .inl (h.byW.1 j), .inl h.byW.2⟩
    atW := fun p hp => ⟨fun j => .inl ((h.atW p hp).1 j), .inl (h.atW p hp).2⟩ }
theorem IsG.cut (h : IsG Z w tb T ff ls L fa D) {N : Nat} (hN : w.heap.size ≤ N) : IsG (Z.cut N) w tb T ff ls L fa D :=
  { h with
    own := fun j => ⟨h.own j, by have := h.lt; omega⟩
    rows := h.rows.cut hN
    rowsW := fun g hg j => ⟨h.rowsW g hg j, by have := (h.rows.lt g hg).1; omega⟩
    bits := h.bits.cut hN
    bitsW := fun g hg j => ⟨h.bitsW g hg j, by have := (h.bits.lt g hg).1; omega⟩
    byOk := ⟨h.byOk.look, h.byOk.non, fun x v hx hv => ⟨(h.byOk.has x v hx hv).1, (h.byOk.has x v hx hv).2.cut hN⟩, h.byOk.apart⟩
    findW := ⟨fun j => ⟨h.findW.1 j, by have := h.find.lt; omega⟩, h.findW.2, by have := h.find.lt; omega⟩
    byW := ⟨fun j => ⟨h.byW.1 j, by have := h.by_.lt; omega⟩, h.byW.2, by have := h.by_.lt; omega⟩
    atW := fun p hp => ⟨fun j => ⟨(h.atW p hp).1 j, by have := (h.at_ p hp).lt; omega⟩, (h.atW p hp).2, by have := (h.at_ p hp).lt; omega⟩ }
theorem IsR.up (h : IsR Z w rb T vr vb) (N : Nat) : IsR (Z.up N) w rb T vr vb :=
  { h with
    own := fun j => .inl (h.own j)
    rows := h.rows.up N
    rowsW := fun g hg j => .inl (h.rowsW g hg j)
    bits := h.bits.up N
    bitsW := fun g hg j => .inl (h.bitsW g hg j) }
theorem IsR.cut (h : IsR Z w rb T vr vb) {N : Nat} (hN : w.heap.size ≤ N) : IsR (Z.cut N) w rb T vr vb :=
  { h with
    own := fun j => ⟨h.own j, by have := h.lt; omega⟩
    rows := h.rows.cut hN
    rowsW := fun g hg j => ⟨h.rowsW g hg j, by have := (h.rows.lt g hg).1; omega⟩
    bits := h.bits.cut hN
    bitsW := fun g hg j => ⟨h.bitsW g hg j, by have := (h.bits.lt g hg).1; omega⟩ }
end

/-- the table T lies at tb, the reference's table TR at rb, apart, both made since the heap had n0 blocks -/
structure St (n0 : Nat) (w : World) (tb rb : Nat) (T TR : TS) (A B : Zone) (D : TabD) (vr vb : Value) : Prop where
  t : IsT A w tb T D
  r : IsR B w rb TR vr vb
  ab : ∀ i j, A.R i j → ¬ B.W i j
  al : ∀ i j, A.R i j → n0 ≤ i ∧ i < w.heap.size
  bl : ∀ i j, B.W i j → n0 ≤ i ∧ i < w.heap.size
  n : n0 ≤ w.heap.size
def Sts (n0 : Nat) (w : World) (tb rb : Nat) (T TR : TS) : Prop := ∃ A B D vr vb, St n0 w tb rb T TR A B D vr vb

section
variable {n0 : Nat} {w w' : World} {tb rb : Nat} {T TR T' : TS} {A B : Zone} {D D' : TabD} {vr vb vr' vb' : Value}
theorem St.below (h : St n0 w tb rb T TR A B D vr vb) (hb : Below w.heap.size w w') : St n0 w' tb rb T TR A B D vr vb :=
  ⟨h.t.below hb, h.r.below hb, h.ab, fun i j hr => ⟨(h.al i j hr).1, Nat.lt_of_lt_of_le (h.al i j hr).2 hb.size⟩, fun i j hr => ⟨(h.bl i j hr).1, Nat.lt_of_lt_of_le (h.bl i j hr).2 hb.size⟩, Nat.le_trans h.n hb.size⟩
theorem Sts.below (h : Sts n0 w tb rb T TR) (hb : Below w.heap.size w w') : Sts n0 w' tb rb T TR := by
  obtain ⟨A, B, D, vr, vb, h⟩ := h
  exact ⟨A, B, D, vr, vb, h.below hb⟩
/-- the table has been turned -/
theorem St.turnT (h : St n0 w tb rb T TR A B D vr vb) (ht : IsT (A.up w.heap.size) w' tb T' D') (hf : Fr (A.up w.heap.size) w w') : Sts n0 w' tb rb T' TR ∧ Below n0 w w' := by
  refine ⟨⟨(A.up w.heap.size).cut w'.heap.size, B, D', vr, vb, ht.cut (Nat.le_refl _), h.r.stay hf ?_, ?_, ?_, fun i j hr => ⟨(h.bl i j hr).1, Nat.lt_of_lt_of_le (h.bl i j hr).2 hf.size⟩, Nat.le_trans h.n hf.size⟩, hf.below h.n ?_⟩
  · rintro i j hi hw (h1 | h1)
    · exact h.ab i j (A.sub i j h1) hw
    · omega
  · rintro i j ⟨h1 | h1, _⟩ hw
    · exact h.ab i j h1 hw
    · have := (h.bl i j hw).2; omega
  · rintro i j ⟨h1 | h1, h2⟩
    · exact ⟨(h.al i j h1).1, h2⟩
    · exact ⟨by have := h.n; omega, h2⟩
  · rintro i j (h1 | h1)
    · exact (h.al i j (A.sub i j h1)).1
    · have := h.n; omega
/-- the reference's table has been turned -/
theorem St.turnR (h : St n0 w tb rb T TR A B D vr vb) (ht : IsR (B.up w.heap.size) w' rb T' vr' vb') (hf : Fr (B.up w.heap.size) w w') : Sts n0 w' tb rb T T' ∧ Below n0 w w' := by
  have hd : ∀ i j, A.R i j → ¬ (B.up w.heap.size).W i j := by
    rintro i j hr (h1 | h1)
    · exact h.ab i j hr h1
    · have := (h.al i j hr).2; omega
  refine ⟨⟨A, (B.up w.heap.size).cut w'.heap.size, D, vr', vb', h.t.stay hf hd, ht.cut (Nat.le_refl _), ?_, fun i j hr => ⟨(h.al i j hr).1, Nat.lt_of_lt_of_le (h.al i j hr).2 hf.size⟩, ?_, Nat.le_trans h.n hf.size⟩, hf.below h.n ?_⟩
  · rintro i j hr ⟨h1, _⟩
    exact hd i j hr h1
  · rintro i j ⟨h1 | h1, h2⟩
    · exact ⟨(h.bl i j h1).1, h2⟩
    · exact ⟨by have := h.n; omega, h2⟩
  · rintro i j (h1 | h1)
    · exact (h.bl i j h1).1
    · have := h.n; omega
end

end Go.Proofs.Ytghihhjcoilmgaa.T
