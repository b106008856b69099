/- Add, whatever the row. -/
import Derived.Test.YtghihhjcoilmgaaK10
import Derived.ChangeKeysEq
namespace Go.Proofs.Ytghihhjcoilmgaa.T
set_option maxRecDepth 100000
open Go.RowKit Go.Maps
set_option linter.unusedVariables false
set_option linter.unusedSimpArgs false

def has0 (r : R3) : Bool := has3 r.1 r.2.1 r.2.2 0
/-- the table behind Add; what Add answers -/
def addT (T : TS) (r : R3) (b : Int) : TS :=
  if b = 0 ∨ has0 r = true then T else match idx T r with
    | some n => setB T n (bits .or .u8 (bitsOf T n) b)
    | none => setB (T ++ [(r, 0)]) T.length (bits .or .u8 0 b)
def addN (T : TS) (r : R3) (b : Int) : Int := if b = 0 ∨ has0 r = true then -1 else match idx T r with
    | some n => n
    | none => T.length
def addB (T : TS) (r : R3) (b : Int) : Bool := if b = 0 ∨ has0 r = true then false else match idx T r with
    | some n => bitsOf T n == 0
    | none => true

section
variable {Z : Zone} {w : World} {tb : Nat} {T : TS} {D : TabD}
theorem add_any (h : IsT Z w tb T D) (hZ : Z.opn w.heap.size) (r : R3) (b : Int) (hr : rok r) (hlen : T.length + 1 ≤ 1000000) :
    Calls Try.prog 18 #[.pointer (some ⟨tb, 0, none⟩), rv r, .int .u8 b] w fun e w' =>
      e = .returned (.tuple #[.int .i64 (addN T r b), .bool (addB T r b)]) ∧ (∃ D', IsT Z w' tb (addT T r b) D') ∧ Fr Z w w' := by
  by_cases hb : b = 0
  · refine (add_zero h r b hb).mono ?_
    rintro e w' ⟨rfl, h2⟩
    have hB := h2
    simp only [addN, addB, addT, if_pos (Or.inl hb : b = 0 ∨ has0 r = true)]
    exact ⟨trivial, ⟨D, h.below hB⟩, .of_below hB⟩
  · by_cases h0 : has0 r = true
    · obtain ⟨x0, x1, x2⟩ := r
      refine (add_has0 h x0 x1 x2 b hb h0).mono ?_
      rintro e w' ⟨rfl, h2⟩
      have hB := h2
      simp only [addN, addB, addT, if_pos (Or.inr h0 : b = 0 ∨ has0 (x0, x1, x2) = true)]
      exact ⟨trivial, ⟨D, h.below hB⟩, .of_below hB⟩
    · have hn : ¬ (b = 0 ∨ has0 r = true) := fun e => e.elim hb h0
      have h0' : has0 r = false := by simpa using h0
      obtain ⟨x0, x1, x2⟩ := r
      cases hi : idx T (x0, x1, x2) with
      | some n =>
        refine (add_old h hZ x0 x1 x2 b hb h0' hr n hi).mono ?_
        rintro e w' ⟨rfl, h1, h2⟩
        simp only [addN, addB, addT, if_neg hn, hi]
        exact ⟨trivial, ⟨D, h1⟩, h2⟩
      | none =>
        refine (callsIn_wide.1 (add_new_in h hZ x0 x1 x2 b hb h0' hr hi hlen)).mono ?_
        rintro e w' ⟨rfl, h1, h2⟩
        simp only [addN, addB, addT, if_neg hn, hi]
        exact ⟨trivial, h1, h2⟩
end
end Go.Proofs.Ytghihhjcoilmgaa.T

namespace Go.Proofs.Ytghihhjcoilmgaa.T
set_option maxRecDepth 100000
open Go.RowKit Go.Maps
set_option linter.unusedVariables false
set_option linter.unusedSimpArgs false

def newCells (B k : Nat) : Array Value := #[.slice none 0 0, .slice none 0 0, .map (some B), .map (some (B + 1)), .map (if 0 < k then some (B + 3) else none), .map (if 1 < k then some (B + 4) else none), .map (if 2 < k then some (B + 5) else none), .int .i64 0]
structure NewAt (w wr : World) (k : Nat) : Prop where
  size : wr.heap.size = w.heap.size + 3 + k
  below : Below w.heap.size w wr
  f : wr.heap[w.heap.size]? = some (.map #[] 0)
  b : wr.heap[w.heap.size + 1]? = some (.map #[] 0)
  t : wr.heap[w.heap.size + 2]? = some (.cells (newCells w.heap.size k) 82 (0, 0))
  m : ∀ p, p < k → wr.heap[w.heap.size + 3 + p]? = some (.map #[] 0)

theorem NewAt.cells {w wr : World} {k : Nat} (h : NewAt w wr k) (hk : k < 3) : (wr.alloc (.map #[] 0)).cell? ⟨w.heap.size + 2, 4 + k, none⟩ = some (.map none) ∧ (wr.alloc (.map #[] 0)).frozen? ⟨w.heap.size + 2, 4 + k, none⟩ = false := by
  have e : (wr.alloc (.map #[] 0)).heap[w.heap.size + 2]? = some (.cells (newCells w.heap.size k) 82 (0, 0)) := by
    rw [Below.heap_alloc _ _ _ (by have := h.size; omega)]; exact h.t
  unfold World.cell? World.frozen?
  rw [e]
  have : k = 0 ∨ k = 1 ∨ k = 2 := by omega
  rcases this with rfl | rfl | rfl <;> exact ⟨rfl, rfl⟩
theorem NewAt.step {w wr : World} {k : Nat} (h : NewAt w wr k) (hk : k < 3) : NewAt w ((wr.alloc (.map #[] 0)).setCell ⟨w.heap.size + 2, 4 + k, none⟩ (.map (some wr.heap.size))) (k + 1) := by
  have hs := h.size
  have ha : ∀ i, i < wr.heap.size → (wr.alloc (.map #[] 0)).heap[i]? = wr.heap[i]? := fun i hi => Below.heap_alloc _ _ _ hi
  have hset : ∀ i, i ≠ w.heap.size + 2 → ((wr.alloc (.map #[] 0)).setCell ⟨w.heap.size + 2, 4 + k, none⟩ (.map (some wr.heap.size))).heap[i]? = (wr.alloc (.map #[] 0)).heap[i]? := fun i hi => Below.heap_setCell _ _ _ i hi
  refine ⟨by rw [World.size_setCell, World.size_alloc, hs]; omega, (h.below.alloc (by omega) _).setCell (p := ⟨w.heap.size + 2, 4 + k, none⟩) (by simp) _, ?_, ?_, ?_, ?_⟩
  · rw [hset _ (by omega), ha _ (by omega)]; exact h.f
  · rw [hset _ (by omega), ha _ (by omega)]; exact h.b
  · rw [heap_setCell_at ((ha _ (by omega)).trans h.t) (4 + k) _, hs]
    have : k = 0 ∨ k = 1 ∨ k = 2 := by omega
    rcases this with rfl | rfl | rfl <;> rfl
  · intro p hp
    rw [hset _ (by omega)]
    by_cases hpk : p = k
    · subst hpk
      rw [← hs]; exact World.alloc_heap_new wr _
    · rw [ha _ (by omega)]; exact h.m p (by omega)

set_option maxRecDepth 100000 in
set_option maxHeartbeats 2000000 in
theorem new_at (w : World) : Calls Try.prog 17 #[] w fun e w' => e = .returned (.pointer (some ⟨w.heap.size + 2, 0, none⟩)) ∧ NewAt w w' 3 := by
  go_enter Try.func17, Try.ntmps17
  have hmk : ∀ (t : TypeId) (w : World), (Instr.makeMap t none).run Try.prog w = .ok (.map (some w.heap.size)) (w.alloc (.map #[] 0)) := fun _ _ => rfl
  go_wp2_with fail
  have h0 : NewAt w (((w.alloc (.map #[] 0)).alloc (.map #[] 0)).alloc (.cells (newCells w.heap.size 0) 82)) 0 := by
    have e1 : (w.alloc (.map #[] 0)).heap.size = w.heap.size + 1 := World.size_alloc _ _
    have e2 : ((w.alloc (.map #[] 0)).alloc (.map #[] 0)).heap.size = w.heap.size + 2 := by rw [World.size_alloc, e1]
    refine ⟨by rw [World.size_alloc, e2], (((Below.refl _ w).alloc (Nat.le_refl _) _).alloc (by omega) _).alloc (by omega) _, ?_, ?_, ?_, fun p hp => by omega⟩
    · rw [Below.heap_alloc _ _ _ (by omega), Below.heap_alloc _ _ _ (by omega)]; exact World.alloc_heap_new w _
    · rw [Below.heap_alloc _ _ _ (by omega), ← e1]; exact World.alloc_heap_new _ _
    · rw [← e2]; exact World.alloc_heap_new _ _
  rw [show w.heap.size + 1 + 1 = w.heap.size + 2 from rfl]
  go_loopw [7] (fun i wr => ∃ k : Nat, k ≤ 3 ∧ i = .int .i64 k ∧ NewAt w wr k) (fun i _ => 3 - (intOf i).toNat)
  case atStart => exact ⟨0, by omega, rfl, h0⟩
  case round =>
    obtain ⟨k, hk, rfl, hN⟩ := hrel
    have hk' : k = 0 ∨ k = 1 ∨ k = 2 ∨ k = 3 := by omega
    rcases hk' with rfl | rfl | rfl | rfl
    · obtain ⟨c, f⟩ := hN.cells (by decide)
      have HN := Lib.hid (hN.step (by decide)); clear hN h0
      simp only [Nat.reduceAdd] at c f HN
      go_wp2_with fail
      go_roundw
      case rel => exact ⟨1, by omega, rfl, HN.out⟩
      case measure => simp [intOf]
    · obtain ⟨c, f⟩ := hN.cells (by decide)
      have HN := Lib.hid (hN.step (by decide)); clear hN h0
      simp only [Nat.reduceAdd] at c f HN
      go_wp2_with fail
      go_roundw
      case rel => exact ⟨2, by omega, rfl, HN.out⟩
      case measure => simp [intOf]
    · obtain ⟨c, f⟩ := hN.cells (by decide)
      have HN := Lib.hid (hN.step (by decide)); clear hN h0
      simp only [Nat.reduceAdd] at c f HN
      go_wp2_with fail
      go_roundw
      case rel => exact ⟨3, by omega, rfl, HN.out⟩
      case measure => simp [intOf]
    · have HN := Lib.hid hN; clear hN h0
      go_wp2_with fail
      go_ret
      exact ⟨rfl, HN.out⟩
def newD (B : Nat) : TabD := { vr := nilS, vb := nilS, bf := B, bb := B + 1, ba := fun p => B + 3 + p, mb := fun _ => none }
theorem NewAt.isT {Z : Zone} {w w' : World} (h : NewAt w w' 3) (hZ : Z.opn w.heap.size) (hM : ∀ i, w.heap.size ≤ i → Z.M i) : IsT Z w' (w.heap.size + 2) [] (newD w.heap.size) := by
  have hm : ∀ {κ : Type} {enc : κ → Value} {ok : κ → Prop} {b : Nat}, w'.heap[b]? = some (.map #[] 0) → MapAt enc ok w' b (fun _ => none) := by
    intro κ enc ok b hb
    have := MapAt.made (enc := enc) (ok := ok) w'
    obtain ⟨es, c, h1, h2⟩ := this
    rw [World.alloc_heap_new] at h1
    injection h1 with h1; injection h1 with h1 h1'
    subst h1; subst h1'
    exact ⟨_, _, hb, h2⟩
  have hw : ∀ i, w.heap.size ≤ i → (∀ j, Z.W i j) ∧ Z.M i := fun i hi => ⟨fun j => hZ i j hi, hM i hi⟩
  refine { obj := h.t, own := fun j => hZ _ _ (by omega), rows := Sl.nil _ _ _ _, rowsW := fun g hg => (by simp [newD, nilS, Value.ownBlock] at hg), bits := Sl.nil _ _ _ _, bitsW := fun g hg => (by simp [newD, nilS, Value.ownBlock] at hg), find := (hm h.f).congr (fun x _ => rfl), by_ := hm h.b, byOk := ⟨fun x _ hn => absurd rfl hn, fun x _ _ _ => rfl, fun x v _ hv => (by simp [newD] at hv), fun x y v u _ _ hv => (by simp [newD] at hv)⟩, at_ := fun p hp => (hm (h.m p hp)).congr (fun x _ => rfl), findW := hw _ (Nat.le_refl _), byW := hw _ (by simp [newD]), atW := fun p _ => hw _ (by simp [newD]; omega), ne1 := by simp [newD], ne2 := fun p _ => ⟨(by simp [newD]; omega), (by simp [newD]; omega)⟩, ne3 := fun p q _ _ h => (by simp [newD]; omega), oks := by simp, nodup := by simp, long := by simp }
theorem new_any {Z : Zone} {w : World} (hZ : Z.opn w.heap.size) (hM : ∀ i, w.heap.size ≤ i → Z.M i) : Calls Try.prog 17 #[] w fun e w' =>
    e = .returned (.pointer (some ⟨w.heap.size + 2, 0, none⟩)) ∧ IsT Z w' (w.heap.size + 2) [] (newD w.heap.size) ∧ Below w.heap.size w w' ∧ w'.heap.size = w.heap.size + 6 := by
  refine (new_at w).mono ?_
  rintro e w' ⟨rfl, h⟩
  exact ⟨rfl, h.isT hZ hM, h.below, h.size⟩
end Go.Proofs.Ytghihhjcoilmgaa.T

namespace Go.Proofs.Ytghihhjcoilmgaa.T
set_option maxRecDepth 100000
open Go.RowKit Go.Maps
set_option linter.unusedVariables false
set_option linter.unusedSimpArgs false

/-- where a number would stand in a list that grows -/
def Stands (xs : List Nat) (t : Int) (i : Nat) : Prop := i ≤ xs.length ∧ (∀ j (h : j < xs.length), j < i → (xs[j] : Int) < t) ∧ ∀ j (h : j < xs.length), i ≤ j → t ≤ (xs[j] : Int)
def Grows (xs : List Nat) : Prop := ∀ i j (hi : i < xs.length) (hj : j < xs.length), i < j → xs[i] < xs[j]

end Go.Proofs.Ytghihhjcoilmgaa.T

namespace Go.Proofs.Ytghihhjcoilmgaa.T
set_option maxRecDepth 100000
open Go.RowKit Go.Maps
set_option linter.unusedVariables false
set_option linter.unusedSimpArgs false
theorem Try.info32 : (Try.prog.info? 31).map (fun i => (i.zero, i.size, i.bytes)) = some (some (.int .u32 0), 1, 4) := by kernel_rfl
theorem Try.cells32 : Try.prog.cellsOf 31 = 1 := by kernel_rfl
theorem eq32 (a b : Int) (w : World) (d : Nat) : (Op.equalIn (d + 1) 31 (.int .u32 a) (.int .u32 b)).run Try.prog w = .ok (a == b) w := by
  simp [Op.equalIn, run_underlying Try.underlying31, Result.andThen]
theorem part32 (a0 a1 a2 : Int) (w : World) :
    (Go.part 31 #[.int .u32 a0, .int .u32 a1, .int .u32 a2] 0).run Try.prog w = .ok (.int .u32 a0) w ∧
    (Go.part 31 #[.int .u32 a0, .int .u32 a1, .int .u32 a2] 1).run Try.prog w = .ok (.int .u32 a1) w ∧
    (Go.part 31 #[.int .u32 a0, .int .u32 a1, .int .u32 a2] 2).run Try.prog w = .ok (.int .u32 a2) w := ⟨by rfl, by rfl, by rfl⟩
theorem eqRow (a0 a1 a2 b0 b1 b2 : Int) (w : World) :
    (Op.equalIn 10000 37 (.agg #[.int .u32 a0, .int .u32 a1, .int .u32 a2]) (.agg #[.int .u32 b0, .int .u32 b1, .int .u32 b2])).run Try.prog w = .ok (a0 == b0 && (a1 == b1 && a2 == b2)) w := by
  obtain ⟨i, hi, _⟩ := info_parts Try.info32
  rw [run_equalIn_array w 9999 _ _ Try.underlying37 hi, Try.cells32]
  obtain ⟨p0, p1, p2⟩ := part32 a0 a1 a2 w
  obtain ⟨q0, q1, q2⟩ := part32 b0 b1 b2 w
  simp only [show List.range 3 = [0, 1, 2] from rfl, Op.eqItems, Sem.run_bind, Nat.mul_one, p0, p1, p2, q0, q1, q2, Result.andThen_ok, eq32 _ _ _ 9998]
  cases h0 : (a0 == b0) <;> cases h1 : (a1 == b1) <;> cases h2 : (a2 == b2) <;> simp [Sem.run_bind, Result.andThen, q1, q2, p1, p2, eq32 _ _ _ 9998, h0, h1, h2]
end Go.Proofs.Ytghihhjcoilmgaa.T

namespace Go.Proofs.Ytghihhjcoilmgaa.T
set_option maxRecDepth 100000
open Go.RowKit Go.Maps
set_option linter.unusedVariables false
set_option linter.unusedSimpArgs false

section
variable {Z : Zone} {w : World} {tb : Nat} {T : TS} {D : TabD}

theorem bx1 (w : World) (x0 x1 x2 : Int) : (w.alloc (.cells #[.int .u32 x0, .int .u32 x1, .int .u32 x2] 37)).cell? ⟨w.heap.size, 0, none⟩ = some (.int .u32 x0) ∧
    (w.alloc (.cells #[.int .u32 x0, .int .u32 x1, .int .u32 x2] 37)).cell? ⟨w.heap.size, 1, none⟩ = some (.int .u32 x1) ∧
    (w.alloc (.cells #[.int .u32 x0, .int .u32 x1, .int .u32 x2] 37)).cell? ⟨w.heap.size, 2, none⟩ = some (.int .u32 x2) := by
  unfold World.cell?
  rw [show (w.alloc (.cells #[.int .u32 x0, .int .u32 x1, .int .u32 x2] 37)).heap[w.heap.size]? = _ from World.alloc_heap_new w _]
  exact ⟨rfl, rfl, rfl⟩

end
end Go.Proofs.Ytghihhjcoilmgaa.T
