/- A table and the reference's, side by side. -/
import Derived.Test.YtkgkkbfpkgfcaaaR5
import Derived.LoopNIn
import Derived.Test.YtkgkkbfpkgfcaaaOrdW
namespace Go.Proofs.Ytkgkkbfpkgfcaaa
set_option maxRecDepth 100000
open Go.RowKit Go.Maps
set_option linter.unusedVariables false
set_option linter.unusedSimpArgs false

/-- .. and whatever comes anew -/
def Zone.up (Z : Zone) (n : Nat) : Zone where
  W i j := Z.W i j ∨ n ≤ i
  R i j := Z.R i j ∨ n ≤ i
  M i := Z.M i ∨ n ≤ i
  sub i j h := h.imp (Z.sub i j) id
/-- .. but nothing that comes anew -/
def Zone.cut (Z : Zone) (n : Nat) : Zone where
  W i j := Z.W i j ∧ i < n
  R i j := Z.R i j ∧ i < n
  M i := Z.M i ∧ i < n
  sub i j h := ⟨Z.sub i j h.1, h.2⟩
theorem Zone.up_opn (Z : Zone) (n : Nat) : (Z.up n).opn n := fun i j h => .inr h
section
variable {Z : Zone} {w w' : World} {tb rb : Nat} {T : TS} {ff : R3 → Option Value} {ls : R3 → List Nat} {L : Int} {fa : Nat → Int → Option Value} {D : TabD} {vr vb : Value}
theorem Sl.up {e size n : Nat} {v : Value} {xs : List Value} (h : Sl Z w e size v n xs) (N : Nat) : Sl (Z.up N) w e size v n xs := by
  refine ⟨h.1, ?_⟩
  rcases h.2 with h' | ⟨g, cap, cur, rfl, hg, h1, h2, h3, h4, h5, h6⟩
  · exact .inl h'
  · exact .inr ⟨g, cap, cur, rfl, hg, h1, h2, h3, h4, fun j a b => .inl (h5 j a b), fun j a => .inl (h6 j a)⟩
theorem Sl.cut {e size n : Nat} {v : Value} {xs : List Value} (h : Sl Z w e size v n xs) {N : Nat} (hN : w.heap.size ≤ N) : Sl (Z.cut N) w e size v n xs := by
  refine ⟨h.1, ?_⟩
  rcases h.2 with h' | ⟨g, cap, cur, rfl, hg, h1, h2, h3, h4, h5, h6⟩
  · exact .inl h'
  · have hlt := (Array.getElem?_eq_some_iff.1 hg).1
    exact .inr ⟨g, cap, cur, rfl, hg, h1, h2, h3, h4, fun j a b => ⟨h5 j a b, by omega⟩, fun j a => ⟨h6 j a, by omega⟩⟩
theorem IsG.up (h : IsG Z w tb T ff ls L fa D) (N : Nat) : IsG (Z.up N) w tb T ff ls L fa D :=
  { h with
    own := fun j => .inl (h.own j)
    rows := h.rows.up N
    rowsW := fun g hg j => .inl (h.rowsW g hg j)
    bits := h.bits.up N
    bitsW := fun g hg j => .inl (h.bitsW g hg j)
    byOk := ⟨h.byOk.look, h.byOk.non, fun x v hx hv => ⟨(h.byOk.has x v hx hv).1, (h.byOk.has x v hx hv).2.up N⟩, h.byOk.apart⟩
    findW := ⟨fun j => .inl (h.findW.1 j), .inl h.findW.2⟩
    byW := ⟨fun j => .inl (h.byW.1 j), .inl h.byW.2⟩
    atW := fun p hp => ⟨fun j => .inl ((h.atW p hp).1 j), .inl (h.atW p hp).2⟩ }
theorem IsG.cut (h : IsG Z w tb T ff ls L fa D) {N : Nat} (hN : w.heap.size ≤ N) : IsG (Z.cut N) w tb T ff ls L fa D :=
  { h with
    own := fun j => ⟨h.own j, by have := h.lt; omega⟩
    rows := h.rows.cut hN
    rowsW := fun g hg j => ⟨h.rowsW g hg j, by have := (h.rows.lt g hg).1; omega⟩
    bits := h.bits.cut hN
    bitsW := fun g hg j => ⟨h.bitsW g hg j, by have := (h.bits.lt g hg).1; omega⟩
    byOk := ⟨h.byOk.look, h.byOk.non, fun x v hx hv => ⟨(h.byOk.has x v hx hv).1, (h.byOk.has x v hx hv).2.cut hN⟩, h.byOk.apart⟩
    findW := ⟨fun j => ⟨h.findW.1 j, by have := h.find.lt; omega⟩, h.findW.2, by have := h.find.lt; omega⟩
    byW := ⟨fun j => ⟨h.byW.1 j, by have := h.by_.lt; omega⟩, h.byW.2, by have := h.by_.lt; omega⟩
    atW := fun p hp => ⟨fun j => ⟨(h.atW p hp).1 j, by have := (h.at_ p hp).lt; omega⟩, (h.atW p hp).2, by have := (h.at_ p hp).lt; omega⟩ }
theorem IsR.up (h : IsR Z w rb T vr vb) (N : Nat) : IsR (Z.up N) w rb T vr vb :=
  { h with
    own := fun j => .inl (h.own j)
    rows := h.rows.up N
    rowsW := fun g hg j => .inl (h.rowsW g hg j)
    bits := h.bits.up N
    bitsW := fun g hg j => .inl (h.bitsW g hg j) }
theorem IsR.cut (h : IsR Z w rb T vr vb) {N : Nat} (hN : w.heap.size ≤ N) : IsR (Z.cut N) w rb T vr vb :=
  { h with
    own := fun j => ⟨h.own j, by have := h.lt; omega⟩
    rows := h.rows.cut hN
    rowsW := fun g hg j => ⟨h.rowsW g hg j, by have := (h.rows.lt g hg).1; omega⟩
    bits := h.bits.cut hN
    bitsW := fun g hg j => ⟨h.bitsW g hg j, by have := (h.bits.lt g hg).1; omega⟩ }
end

/-- the table T lies at tb, the reference's table TR at rb, apart, both made since the heap had n0 blocks -/
structure St (n0 : Nat) (w : World) (tb rb : Nat) (T TR : TS) (A B : Zone) (D : TabD) (vr vb : Value) : Prop where
  t : IsT A w tb T D
  r : IsR B w rb TR vr vb
  ab : ∀ i j, A.R i j → ¬ B.W i j
  al : ∀ i j, A.R i j → n0 ≤ i ∧ i < w.heap.size
  bl : ∀ i j, B.W i j → n0 ≤ i ∧ i < w.heap.size
  n : n0 ≤ w.heap.size
def Sts (n0 : Nat) (w : World) (tb rb : Nat) (T TR : TS) : Prop := ∃ A B D vr vb, St n0 w tb rb T TR A B D vr vb

section
variable {n0 : Nat} {w w' : World} {tb rb : Nat} {T TR T' : TS} {A B : Zone} {D D' : TabD} {vr vb vr' vb' : Value}
theorem St.below (h : St n0 w tb rb T TR A B D vr vb) (hb : Below w.heap.size w w') : St n0 w' tb rb T TR A B D vr vb :=
  ⟨h.t.below hb, h.r.below hb, h.ab, fun i j hr => ⟨(h.al i j hr).1, Nat.lt_of_lt_of_le (h.al i j hr).2 hb.size⟩, fun i j hr => ⟨(h.bl i j hr).1, Nat.lt_of_lt_of_le (h.bl i j hr).2 hb.size⟩, Nat.le_trans h.n hb.size⟩
theorem Sts.below (h : Sts n0 w tb rb T TR) (hb : Below w.heap.size w w') : Sts n0 w' tb rb T TR := by
  obtain ⟨A, B, D, vr, vb, h⟩ := h
  exact ⟨A, B, D, vr, vb, h.below hb⟩
/-- the table has been turned -/
theorem St.turnT (h : St n0 w tb rb T TR A B D vr vb) (ht : IsT (A.up w.heap.size) w' tb T' D') (hf : Fr (A.up w.heap.size) w w') : Sts n0 w' tb rb T' TR ∧ Below n0 w w' := by
  refine ⟨⟨(A.up w.heap.size).cut w'.heap.size, B, D', vr, vb, ht.cut (Nat.le_refl _), h.r.stay hf ?_, ?_, ?_, fun i j hr => ⟨(h.bl i j hr).1, Nat.lt_of_lt_of_le (h.bl i j hr).2 hf.size⟩, Nat.le_trans h.n hf.size⟩, hf.below h.n ?_⟩
  · rintro i j hi hw (h1 | h1)
    · exact h.ab i j (A.sub i j h1) hw
    · omega
  · rintro i j ⟨h1 | h1, _⟩ hw
    · exact h.ab i j h1 hw
    · have := (h.bl i j hw).2; omega
  · rintro i j ⟨h1 | h1, h2⟩
    · exact ⟨(h.al i j h1).1, h2⟩
    · exact ⟨by have := h.n; omega, h2⟩
  · rintro i j (h1 | h1)
    · exact (h.al i j (A.sub i j h1)).1
    · have := h.n; omega
/-- the reference's table has been turned -/
theorem St.turnR (h : St n0 w tb rb T TR A B D vr vb) (ht : IsR (B.up w.heap.size) w' rb T' vr' vb') (hf : Fr (B.up w.heap.size) w w') : Sts n0 w' tb rb T T' ∧ Below n0 w w' := by
  have hd : ∀ i j, A.R i j → ¬ (B.up w.heap.size).W i j := by
    rintro i j hr (h1 | h1)
    · exact h.ab i j hr h1
    · have := (h.al i j hr).2; omega
  refine ⟨⟨A, (B.up w.heap.size).cut w'.heap.size, D, vr', vb', h.t.stay hf hd, ht.cut (Nat.le_refl _), ?_, fun i j hr => ⟨(h.al i j hr).1, Nat.lt_of_lt_of_le (h.al i j hr).2 hf.size⟩, ?_, Nat.le_trans h.n hf.size⟩, hf.below h.n ?_⟩
  · rintro i j hr ⟨h1, _⟩
    exact hd i j hr h1
  · rintro i j ⟨h1 | h1, h2⟩
    · exact ⟨(h.bl i j h1).1, h2⟩
    · exact ⟨by have := h.n; omega, h2⟩
  · rintro i j (h1 | h1)
    · exact (h.bl i j h1).1
    · have := h.n; omega
end

end Go.Proofs.Ytkgkkbfpkgfcaaa

namespace Go.Proofs.Ytkgkkbfpkgfcaaa
set_option maxRecDepth 100000
open Go.RowKit Go.Maps
attribute [local go_sem] Oper.semAt_some
set_option linter.unusedVariables false
set_option linter.unusedSimpArgs false

/-- the frame and the box of a loop's second variable, a row -/
def NRAx {α : Type} (B : Nat) (f : Array Value → α → Nat → Array Value) (a : Act) (enc : α → R3) : α → Act → World → Prop := fun x a' W =>
  ∃ bx, B ≤ bx ∧ a' = { tmps := f a.tmps x bx, defers := [] } ∧ W.heap[bx]? = some (.cells #[.int .u32 (enc x).1, .int .u32 (enc x).2.1, .int .u32 (enc x).2.2] 58 (0, 0))
theorem nrAx_own {α : Type} (B : Nat) (f : Array Value → α → Nat → Array Value) (a : Act) (enc : α → R3) (x : α) (a' : Act) (B' : Nat) : OwnFrom B' (fun (_ : Unit) W => NRAx B f a enc x a' W) := by
  rintro s W W' row ⟨bx, h1, h2, h3⟩ hg hr
  refine ⟨bx, h1, h2, (hg.block bx (Array.getElem?_eq_some_iff.1 h3).1 (fun e => ?_)).trans h3⟩
  obtain ⟨_, o, ho, hc⟩ := hr bx e.symm
  rw [h3] at ho; injection ho with ho; subst ho; cases hc
/-- a range over a function of a number and a row; the row's variable lies in a box -/
theorem wpIn_rangeFunc_nr {F : Fence} {n : Nat} {P : Program} {w : World} {α : Type} (f : Array Value → α → Nat → Array Value) {g : Operand} {p q : Nat} {assign body : Code} {Q : Exit → Act → World → Prop} {a : Act}
    (hro : F.round = none) (h1 : 1 ≤ n) {gf : Nat} {lb : Array Value} (hg : a.eval g = .func (.func gf) #[] lb) (hFg : F.fn gf) (eg : ∀ args w, (callFunc gf args).run P w = .ok (.enter gf args) w)
    {u : α → Value} {enc : α → R3} {Kp : World → World → Prop} {S Sp : List α → Prop} {N : Nat} {w0 : World} (hseq : SeqStopsK F (n - 1) P gf lb (fun x => #[u x, rv (enc x)]) Kp S Sp N w0)
    (hKt : ∀ {A B C : World}, Kp A B → Kp B C → Kp A C) (hKb : ∀ (W : World) (l : Nat) (o o' : Obj), w.heap.size ≤ l → W.heap[l]? = some o → o.isCells = false → o.isWalk = false → Kp W (W.putObj l o')) (hb0 : Below w0.heap.size w0 w)
    (I : List α → World → Prop) (Ix : Code → List α → World → Prop) (hI : OwnFrom w.heap.size I) (hIx : ∀ c, OwnFrom w.heap.size (Ix c)) (h0 : I [] w)
    (hassign : ∀ (l : Nat) (pre : List α) (x : α) (W : World) (K : Act → World → Prop), I pre W → (∀ a' W', KeepsFrom w.heap.size W W' → Kp W W' → I pre W' → NRAx w.heap.size f a enc x a' W' → K a' W') →
      assign.wpIn (F.inRound l) (n - 1 - 1) P (Exit.then K (fun _ _ _ => False)) { tmps := (a.tmps.setIfInBounds p (u x)).setIfInBounds q (rv (enc x)), defers := [] } W)
    (hbody : ∀ (l : Nat) (pre : List α) (x : α) (W : World) (bx : Nat), I pre W → w.heap.size ≤ bx → W.heap[bx]? = some (.cells #[.int .u32 (enc x).1, .int .u32 (enc x).2.1, .int .u32 (enc x).2.2] 58 (0, 0)) → pre.length < N →
      body.wpIn (F.inRound l) (n - 1 - 1) P (ownPostG w.heap.size Kp I Ix (pre ++ [x]) W) { tmps := f a.tmps x bx, defers := [] } W)
    (hdone : ∀ (D : Nat) (xs : List α) (W : World), w.heap.size ≤ D → S xs → I xs W → W.heap[D]? = some (.deferred (some [])) → Q .normal { a with defers := { target := .collected D, args := #[] } :: a.defers } W)
    (hstop : ∀ (c : Code) (pre : List α) (W : World), Sp pre → Ix c pre W → False) :
    (Code.rangeFunc g #[p, q] assign body).wpIn F n P Q a w :=
  wpIn_rangeFunc_ownH hro h1 hg hFg eg hseq hKt hKb hb0 (fun _ => rfl) I Ix hI hIx h0 (NRAx w.heap.size f a enc) (fun x a' => nrAx_own _ _ _ _ _ _ _)
    (fun l pre x W K hi hK => by
      have e : (#[p, q].zip #[u x, rv (enc x)]).foldl (fun t (p, v) => t.setIfInBounds p v) a.tmps = (a.tmps.setIfInBounds p (u x)).setIfInBounds q (rv (enc x)) := by simp
      rw [e]
      exact hassign l pre x W K hi hK)
    (fun l pre x a' W hl _ hi ⟨bx, h1, h2, h3⟩ hlen => by subst h2; exact hbody l pre x W bx hi h1 h3 hlen)
    hdone (fun D c pre W _ hs hx _ => (hstop c pre W hs hx).elim)
theorem eql_func_nil (w : World) (fn : Fn) (a b : Array Value) : (binOp .eql 111 (.func fn a b) .nilFunc).run Try.prog w = .ok (.bool false) w := by rfl

def KS (P : Nat → Prop) (A B : World) : Prop := KeepS P A B ∧ A.heap.size ≤ B.heap.size
theorem KS.own {β : Type} {P : Nat → Prop} {A : World} (hP : ∀ i, P i → i < A.heap.size) : OwnFrom A.heap.size (fun (_ : β) W => KS P A W) := by
  rintro s X Y row ⟨hk, hz⟩ hg hr
  exact ⟨fun i hi => (hg.block i (by have := hP i hi; omega) (fun e => by have := (hr i e.symm).1; have := hP i hi; omega)).trans (hk i hi), Nat.le_trans hz hg.size⟩
theorem KS.below {P : Nat → Prop} {A B C : World} (h : KS P A B) (hP : ∀ i, P i → i < A.heap.size) (hb : Below B.heap.size B C) : KS P A C :=
  ⟨fun i hi => (hb.block i (by have := hP i hi; have := h.2; omega)).trans (h.1 i hi), Nat.le_trans h.2 hb.size⟩
theorem KS.set {P : Nat → Prop} {A B : World} (h : KS P A B) (a : Addr) (v : Value) (hn : ¬ P a.block) : KS P A (B.setCell a v) :=
  ⟨fun i hi => (Below.heap_setCell B a v i (fun e => hn (e ▸ hi))).trans (h.1 i hi), by rw [World.size_setCell]; exact h.2⟩
theorem KS.cell {P : Nat → Prop} {A B : World} (h : KS P A B) {g j : Nat} (hp : P g) : B.cell? ⟨g, j, none⟩ = A.cell? ⟨g, j, none⟩ := World.cell?_of_block (w := A) (a := ⟨g, j, none⟩) (h.1 g hp)
theorem three (w : World) (o0 o1 o2 : Obj) : ∀ W, W = ((w.alloc o0).alloc o1).alloc o2 → Below w.heap.size w W ∧ W.heap.size = w.heap.size + 3 ∧
    W.heap[w.heap.size]? = some o0 ∧ W.heap[w.heap.size + 1]? = some o1 ∧ W.heap[w.heap.size + 2]? = some o2 := by
  rintro W rfl
  have s1 := World.size_alloc w o0
  have s2 := World.size_alloc (w.alloc o0) o1
  have s3 := World.size_alloc ((w.alloc o0).alloc o1) o2
  refine ⟨(((Below.refl _ w).alloc (Nat.le_refl _) _).alloc (by omega) _).alloc (by omega) _, by omega, ?_, ?_, ?_⟩
  · rw [Below.heap_alloc _ _ _ (by omega), Below.heap_alloc _ _ _ (by omega)]
    exact World.alloc_heap_new w o0
  · rw [Below.heap_alloc _ _ _ (by omega), ← s1]
    exact World.alloc_heap_new _ o1
  · rw [show w.heap.size + 2 = ((w.alloc o0).alloc o1).heap.size by omega]
    exact World.alloc_heap_new _ o2
theorem own_form {w : World} {base : Nat} {v : Value} {L : List Nat} (h : w.ownsRow base 3 1 v L.length (ics L)) : ∃ ao cap, v = .slice ao L.length cap ∧
    ∀ j (hj : j < L.length), ∃ g, ao = some ⟨g, 0, none⟩ ∧ base ≤ g ∧ g < w.heap.size ∧ w.cell? ⟨g, j, none⟩ = some (.int .i64 (L[j] : Nat)) := by
  rcases h.2 with ⟨rfl, h0⟩ | ⟨g, cap, cur, rfl, hb, hg, h1, h2, h3, h4⟩
  · exact ⟨none, 0, by rw [h0], fun j hj => by omega⟩
  · refine ⟨some ⟨g, 0, none⟩, cap, rfl, fun j hj => ⟨g, rfl, hb, (Array.getElem?_eq_some_iff.1 hg).1, ?_⟩⟩
    have := h.cells (g := g) rfl j _ (ics_get L j hj)
    rw [show (⟨g, 0, none⟩ : Addr).add j = ⟨g, j, none⟩ by unfold Addr.add; split <;> simp_all] at this
    exact this
section
variable {n0 : Nat} {w : World} {tb rb : Nat} {T : TS}
end
end Go.Proofs.Ytkgkkbfpkgfcaaa
