/- Layer 14: the reference's walk: its memory, what a call of Go gives. -/
import Derived.Test.YtkgkkbfpkgfcaaaJ29
namespace Go.Proofs.Ytkgkkbfpkgfcaaa
set_option maxRecDepth 100000
open Go.RowKit Go.Maps
set_option linter.unusedVariables false
set_option linter.unusedSimpArgs false

/-- what stays the same in the reference's walk -/
structure GoE where
  wt : World
  gb : Nat
  ra : Option Addr
  rcap : Nat
  T : TS
  h0 : Int
  h1 : Int
  h2 : Int
  h3 : Int
  h4 : Int
  h5 : Int
  sa : Option Addr
  cap : Nat
  vars : Nat
  steps : List StepT
  va : Option Addr
  vcap : Nat
  views : List Vw
def GoE.d (E : GoE) : Vw := (0, (E.T.length : Int), 3)
def GoE.cells (E : GoE) (ov : Value) (k : Nat) : Array Value := #[.slice E.ra E.T.length E.rcap, .int .i64 E.h0, .int .u32 E.h1, .int .i64 E.h2, .int .u32 E.h3, .int .i64 E.h4, .int .u32 E.h5, .slice E.sa E.steps.length E.cap, .int .i64 (E.vars : Nat), .slice E.va E.views.length E.vcap, ov, .int .i64 (k : Nat), .int .i64 (-1), .bool false]
structure GoOK (E : GoE) : Prop where
  rows : IsRows4 E.wt E.ra E.T
  st : IsSteps E.wt E.sa E.steps
  vw : IsViews E.wt E.va E.views
  n : E.steps.length ≤ 1000
  tl : E.T.length ≤ 1000
  nv : E.views.length ≤ 1000
  vars : E.vars ≤ 1000
  ok : ∀ s ∈ E.steps, 1 ≤ s.kind ∧ s.kind ≤ 4 ∧ (∀ x ∈ plsOf s, x.1 < (E.vars : Int))
structure GW (E : GoE) (w : World) (ov : Value) (acc : List OutT) (k : Nat) : Prop where
  low : ∀ i, i < E.wt.heap.size → w.heap[i]? = E.wt.heap[i]?
  lows : E.wt.heap.size ≤ w.heap.size
  gN : E.wt.heap.size ≤ E.gb
  gc : w.heap[E.gb]? = some (.cells (E.cells ov k) 55 (0, 0))
  oo : IsOuts E.wt.heap.size w ov acc
/-- a call turns the walk's block and the list's, and makes new ones -/
structure GTurn (E : GoE) (w w' : World) (ov ov' : Value) : Prop where
  os : w'.os = w.os
  tape : w'.tape = w.tape
  output : w'.output = w.output
  size : w.heap.size ≤ w'.heap.size
  same : ∀ i, i < w.heap.size → i ≠ E.gb → ov.ownBlock ≠ some i → w'.heap[i]? = w.heap[i]?
  blk : ov'.ownBlock = ov.ownBlock ∨ ∀ g, ov'.ownBlock = some g → w.heap.size ≤ g
theorem GTurn.below {E : GoE} {w w' : World} {ov : Value} (h : Below w.heap.size w w') : GTurn E w w' ov ov := ⟨h.os, h.tape, h.output, h.size, fun i hi _ _ => h.block i hi, .inl rfl⟩
theorem GTurn.trans {E : GoE} {a b c : World} {o1 o2 o3 : Value} (h : GTurn E a b o1 o2) (k : GTurn E b c o2 o3) : GTurn E a c o1 o3 where
  os := k.os.trans h.os
  tape := k.tape.trans h.tape
  output := k.output.trans h.output
  size := Nat.le_trans h.size k.size
  same i hi h1 h2 := by
    refine (k.same i (Nat.lt_of_lt_of_le hi h.size) h1 (fun e => ?_)).trans (h.same i hi h1 h2)
    rcases h.blk with h3 | h3
    · exact h2 (h3 ▸ e)
    · have := h3 i e; omega
  blk := by
    rcases k.blk with h3 | h3
    · rcases h.blk with h4 | h4
      · exact .inl (h3.trans h4)
      · exact .inr (fun g hg => h4 g (h3 ▸ hg))
    · exact .inr (fun g hg => Nat.le_trans h.size (h3 g hg))
theorem GW.below {E : GoE} {w w' : World} {ov : Value} {acc : List OutT} {k : Nat} (h : GW E w ov acc k) (hb : Below w.heap.size w w') : GW E w' ov acc k :=
  ⟨fun i hi => (hb.block i (Nat.lt_of_lt_of_le hi h.lows)).trans (h.low i hi), Nat.le_trans h.lows hb.size, h.gN, (hb.block _ (Array.getElem?_eq_some_iff.1 h.gc).1).trans h.gc, ⟨own_below h.oo.1 hb, fun y hy => own_below (h.oo.2 y hy) hb⟩⟩
/-- a binding of the walk's own stays -/
theorem GTurn.keep {E : GoE} {w w' : World} {ov ov' : Value} {acc : List OutT} {k : Nat} (h : GTurn E w w' ov ov') (g : GW E w ov acc k) {B : Nat} {bv : Value} {b : List Int} (hb : IsOut B w bv b) : IsOut B w' bv b := by
  refine jown_blk hb (fun i hi => ?_)
  obtain ⟨_, cur, fz, hc⟩ := own_ltJ hb i hi
  refine h.same i (own_lt hb hi) (blk_typ hc g.gc (by decide)) (fun e => ?_)
  obtain ⟨_, cur', fz', hc'⟩ := own_ltJ g.oo.1 i e
  exact absurd (blk_eq hc hc' rfl) (by decide)
/-- what is met from a step on -/
def stepE (E : GoE) (step m : Nat) (b : List Int) : List (Option (List Int)) := evs E.T ((E.steps.drop step).zip (extV E.d (E.steps.drop step) (E.views.drop m))) b
/-- what a call of Go from a step on gives -/
def GoC (E : GoE) (step : Nat) : Prop := ∀ (m : Nat) (b : List Int) (bv : Value) (w : World) (ov : Value) (acc : List OutT) (k : Nat), GW E w ov acc k → IsOut E.wt.heap.size w bv b → b.length = E.vars → m ≤ step →
  acc.length + (outsE (stepE E step m b)).length ≤ 1000000 → k + looksE (stepE E step m b) ≤ 1000000 →
  Calls Try.prog 13 #[.pointer (some ⟨E.gb, 0, none⟩), .int .i64 (step : Nat), .int .i64 (m : Nat), bv] w fun e w' => e = .returned (.tuple #[]) ∧
    ∃ ov' new, new.map (·.2) = outsE (stepE E step m b) ∧ GW E w' ov' (acc ++ new) (k + looksE (stepE E step m b)) ∧ GTurn E w w' ov ov'
end Go.Proofs.Ytkgkkbfpkgfcaaa
