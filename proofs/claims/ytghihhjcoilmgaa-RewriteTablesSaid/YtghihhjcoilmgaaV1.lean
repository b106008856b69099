/- Sorting numbers of 32 bits: a row of the call's own; comparing; the insertion sort, walked. -/
import Derived.Test.YtghihhjcoilmgaaRows
import Derived.Below
import Derived.WalkKit
import Derived.WalkSpells
import Derived.WalkLawsBesides
import Derived.WalkMore
import Derived.LoopTactic
import Derived.Lib.Hide
import Derived.Maps.AppendAt
import Derived.Test.YtghihhjcoilmgaaOrdI
import Derived.Sort.Defs
namespace Go.Proofs.Ytghihhjcoilmgaa
set_option maxRecDepth 100000
open Go.RowKit Go.Maps Go.Sort
set_option linter.unusedVariables false
set_option linter.unusedSimpArgs false

theorem WA.skip {P : Program} {md : Region.Mode} {ops : Array Oper} {Q : Exit → Act → World → Prop} {S : Array Bool → World → Prop} {i : Nat} {o : Oper} {fuel : Nat} {L : Array Bool} {a : Act} {w : World} (hr : Region.ready md ops L = [i]) (ho : ops[i]? = some o) (hw : Region.wanted o (yielded ops a.tmps) = false)
    (hS : S (L.setIfInBounds i true) w) (h : WA P md ops Q S fuel (L.setIfInBounds i true) (a.put o.dst undef) w) : WA P md ops Q S (fuel + 1) L a w :=
  WA.all hr (by simp) (fun j hj => by
    obtain rfl : j = i := by simpa using hj
    unfold wpOp
    simp only [ho]
    rw [if_neg (by rw [hw]; simp)]
    exact ⟨hS, h⟩)
/-- a row of the call's own holds these numbers -/
structure IsA (w : World) (g n cap : Nat) (d : Array Int) : Prop where
  size : d.size = n
  le : n ≤ cap
  lem : cap ≤ maxLen
  cells : ∃ cur, w.heap[g]? = some (.cells cur 31 (0, 0)) ∧ cur.size = cap ∧ ∀ j, j < n → cur[j]? = some (.int .u32 d[j]!)
/-- nothing but that block has turned -/
structure TnA (w w' : World) (g : Nat) : Prop where
  os : w'.os = w.os
  tape : w'.tape = w.tape
  output : w'.output = w.output
  size : w.heap.size ≤ w'.heap.size
  same : ∀ i, i < w.heap.size → i ≠ g → w'.heap[i]? = w.heap[i]?
theorem TnA.refl (w : World) (g : Nat) : TnA w w g := ⟨rfl, rfl, rfl, Nat.le_refl _, fun _ _ _ => rfl⟩
theorem TnA.trans {a b c : World} {g : Nat} (h : TnA a b g) (k : TnA b c g) : TnA a c g :=
  ⟨k.os.trans h.os, k.tape.trans h.tape, k.output.trans h.output, Nat.le_trans h.size k.size, fun i hi hn => (k.same i (Nat.lt_of_lt_of_le hi h.size) hn).trans (h.same i hi hn)⟩
theorem TnA.below {w w' : World} {g : Nat} (h : Below w.heap.size w w') : TnA w w' g := ⟨h.os, h.tape, h.output, h.size, fun i hi _ => h.block i hi⟩
theorem TnA.set {w w' : World} {g : Nat} (h : TnA w w' g) (j : Nat) (v : Value) : TnA w (w'.setCell ⟨g, j, none⟩ v) g :=
  ⟨h.os, h.tape, h.output, by rw [World.size_setCell]; exact h.size, fun i hi hn => (Below.heap_setCell w' ⟨g, j, none⟩ v i hn).trans (h.same i hi hn)⟩
theorem TnA.drew {w w' : World} {g : Nat} (h : TnA w w' g) : TnA w w'.drew g := h.trans (TnA.below (Below.refl _ _).drew)
theorem get_setU (d : Array Int) (j k : Nat) (x : Int) (hk : k < d.size) : (d.setIfInBounds j x)[k]! = if j = k then x else d[k]! := by
  rw [getElem!_pos (d.setIfInBounds j x) k (by simpa using hk), getElem!_pos d k hk, Array.getElem_setIfInBounds]
section
variable {w : World} {g n cap : Nat} {d : Array Int}
theorem IsA.lt (h : IsA w g n cap d) : g < w.heap.size := by
  obtain ⟨cur, h1, _⟩ := h.cells
  exact (Array.getElem?_eq_some_iff.1 h1).1
theorem IsA.at (h : IsA w g n cap d) {j : Nat} (hj : j < n) : w.cell? ⟨g, j, none⟩ = some (.int .u32 d[j]!) ∧ w.frozen? ⟨g, j, none⟩ = false := by
  obtain ⟨cur, h1, h2, h3⟩ := h.cells
  unfold World.cell? World.frozen?
  rw [h1]
  exact ⟨h3 j hj, by simp⟩
theorem IsA.stay {w' : World} (h : IsA w g n cap d) (hs : w'.heap[g]? = w.heap[g]?) : IsA w' g n cap d := by
  obtain ⟨cur, h1, h2⟩ := h.cells
  exact ⟨h.size, h.le, h.lem, cur, hs.trans h1, h2⟩
theorem IsA.below {w' : World} (h : IsA w g n cap d) (hb : Below w.heap.size w w') : IsA w' g n cap d := h.stay (hb.block _ h.lt)
theorem IsA.set (h : IsA w g n cap d) {j : Nat} (hj : j < n) (x : Int) : IsA (w.setCell ⟨g, j, none⟩ (.int .u32 x)) g n cap (d.setIfInBounds j x) := by
  obtain ⟨cur, h1, h2, h3⟩ := h.cells
  have hlt := h.lt
  refine ⟨by rw [Array.size_setIfInBounds]; exact h.size, h.le, h.lem, cur.setIfInBounds j (.int .u32 x), ?_, by rw [Array.size_setIfInBounds]; exact h2, fun k hk => ?_⟩
  · unfold World.setCell
    simp only [Array.getElem?_modify, if_true, h1]
    rfl
  · have hs := h.size
    have hc := h.le
    rw [get_setU d j k x (by omega)]
    by_cases hjk : j = k
    · subst hjk
      rw [Array.getElem?_setIfInBounds_self_of_lt (by omega), if_pos rfl]
    · rw [Array.getElem?_setIfInBounds_ne hjk, h3 k hk, if_neg hjk]
theorem size_swp' (d : Array Int) (i j : Nat) : (swp d i j).size = d.size := by simp [swp]
/-- two numbers change places -/
theorem IsA.swp (h : IsA w g n cap d) {i j : Nat} (hi : i < n) (hj : j < n) : IsA ((w.setCell ⟨g, i, none⟩ (.int .u32 d[j]!)).setCell ⟨g, j, none⟩ (.int .u32 d[i]!)) g n cap (swp d i j) := (h.set hi d[j]!).set hj d[i]!
set_option maxHeartbeats 400000 in
theorem isNaN_u (x : Int) : Calls Try.prog 70 #[.int .u32 x] w fun e w' => e = .returned (.bool false) ∧ w = w' := by
  have hd : (x != x) = false := by simp
  go_enter Try.func70, Try.ntmps70
  go_wp2_with fail
  go_ret
  exact ⟨by simp, rfl⟩
set_option maxHeartbeats 400000 in
theorem less_u (x y : Int) : Calls Try.prog 60 #[.int .u32 x, .int .u32 y] w fun e w' => e = .returned (.bool (ltInt x y)) ∧ w = w' := by
  go_enter Try.func60, Try.ntmps60
  go_wp2_with (first | (go_at_call 70; refine (isNaN_u _).mono ?_; rintro e w' ⟨rfl, rfl⟩))
  go_ret
  exact ⟨rfl, rfl⟩
end
end Go.Proofs.Ytghihhjcoilmgaa
