/- Layer 14: the worlds of JoinRuns. -/
import Derived.Test.YtkgkkbfpkgfcaaaJ37
namespace Go.Proofs.Ytkgkkbfpkgfcaaa
set_option maxRecDepth 100000
open Go.RowKit Go.Maps
set_option linter.unusedVariables false
set_option linter.unusedSimpArgs false

/-- a range in which a counter's box turns, and what comes is new -/
structure RunI (W0 : World) (ib n : Nat) (X : Nat → Prop) (W : World) : Prop where
  x : ∀ i, X i → W0.heap.size ≤ i
  size : W0.heap.size ≤ W.heap.size
  os : W.os = W0.os
  tape : W.tape = W0.tape
  output : W.output = W0.output
  low : ∀ i, i < W0.heap.size → i ≠ ib → W.heap[i]? = W0.heap[i]?
  ibn : ib < W0.heap.size
  box : W.heap[ib]? = some (.cells #[.int .i64 (n : Nat)] 3 (0, 0))
section
variable {W0 W A B : World} {ib n : Nat} {X X' : Nat → Prop}
theorem RunI.grow (h : RunI W0 ib n X A) (hg : GrX X A B) (hX : ∀ i, X' i → X i ∨ A.heap.size ≤ i) : RunI W0 ib n X' B where
  x i hi := by
    rcases hX i hi with h5 | h5
    · exact h.x i h5
    · have := h.size; omega
  size := Nat.le_trans h.size hg.size
  os := hg.os.trans h.os
  tape := hg.tape.trans h.tape
  output := hg.output.trans h.output
  low i hi hn := (hg.block i (Nat.lt_of_lt_of_le hi h.size) (fun hx => by have := h.x i hx; omega)).trans (h.low i hi hn)
  ibn := h.ibn
  box := (hg.block ib (Nat.lt_of_lt_of_le h.ibn h.size) (fun hx => by have := h.x ib hx; have := h.ibn; omega)).trans h.box
theorem RunI.put (h : RunI W0 ib n X W) {l : Nat} (hn : W0.heap.size ≤ l) (o' : Obj) : RunI W0 ib n X (W.putObj l o') :=
  have hs : ∀ i, i ≠ l → (W.putObj l o').heap[i]? = W.heap[i]? := fun i hi => World.putObj_heap_other hi
  { h with
    size := by rw [show (W.putObj l o').heap.size = W.heap.size by simp [World.putObj]]; exact h.size
    os := h.os
    tape := h.tape
    output := h.output
    low := fun i hi hne => (hs i (by omega)).trans (h.low i hi hne)
    box := (hs ib (by have := h.ibn; omega)).trans h.box }
/-- what a round turns: the counter's box and the binding that it was handed -/
structure BodT (W W' : World) (ib : Nat) (sv : Value) : Prop where
  os : W'.os = W.os
  tape : W'.tape = W.tape
  output : W'.output = W.output
  size : W.heap.size ≤ W'.heap.size
  same : ∀ i, i < W.heap.size → i ≠ ib → sv.ownBlock ≠ some i → W'.heap[i]? = W.heap[i]?
theorem BodT.below {W W' : World} {ib : Nat} {sv : Value} (h : Below W.heap.size W W') : BodT W W' ib sv := ⟨h.os, h.tape, h.output, h.size, fun i hi _ _ => h.block i hi⟩
theorem BodT.set {W W' : World} {ib : Nat} {sv : Value} (h : BodT W W' ib sv) {g j : Nat} (hg : g = ib ∨ sv.ownBlock = some g) (u : Value) : BodT W (W'.setCell ⟨g, j, none⟩ u) ib sv :=
  ⟨h.os, h.tape, h.output, by rw [World.size_setCell]; exact h.size, fun i hi h1 h2 => (Below.heap_setCell W' ⟨g, j, none⟩ u i (fun e => by
    rcases hg with hg | hg
    · exact h1 (e.trans hg)
    · exact h2 (by rw [hg, e]))).trans (h.same i hi h1 h2)⟩
/-- a round's end -/
theorem RunI.step {wt : World} {sv : Value} {b : List Int} {W' : World} (h : RunI W0 ib n X W) (hwt : wt.heap.size ≤ ib) (hX : ∀ i, X i → W0.heap.size + 2 ≤ i ∧ i < W.heap.size) (hio : IsOut (W0.heap.size + 2) W sv b) (hnx : ∀ g, sv.ownBlock = some g → ¬ X g)
    (ht : BodT W W' ib sv) (hb : W'.heap[ib]? = some (.cells #[.int .i64 (n + 1 : Nat)] 3 (0, 0))) : KeepsFrom W0.heap.size W W' ∧ KpX wt.heap.size X W W' ∧ RunI W0 ib (n + 1) X W' := by
  have hbl : ∀ g, sv.ownBlock = some g → W0.heap.size + 2 ≤ g := fun g hg => (own_ltJ hio g hg).1
  have hi := h.ibn
  have hs := h.size
  refine ⟨⟨ht.size, fun i o _ ho hc => ?_⟩, ⟨ht.size, fun i hi' => ?_⟩, ⟨h.x, Nat.le_trans hs ht.size, ht.os.trans h.os, ht.tape.trans h.tape, ht.output.trans h.output, fun i hi' hn => ?_, hi, hb⟩⟩
  · refine (ht.same i (Array.getElem?_eq_some_iff.1 ho).1 ?_ ?_).trans ho
    · rintro rfl
      rw [h.box] at ho; injection ho with ho; subst ho; cases hc
    · intro e
      obtain ⟨_, cur, fz, hh⟩ := own_ltJ hio i e
      rw [hh] at ho; injection ho with ho; subst ho; cases hc
  · rcases hi' with hi' | hi'
    · exact ht.same i (by omega) (by omega) (fun e => by have := hbl i e; omega)
    · exact ht.same i (hX i hi').2 (by have := (hX i hi').1; omega) (fun e => hnx i e hi')
  · exact (ht.same i (by omega) hn (fun e => by have := hbl i e; omega)).trans (h.low i hi' hn)
end
/-- marks that no defer left anything with -/
def markOf (D : Nat) : Deferred := { target := .collected D, args := #[] }
theorem leaves_marks {fn : Func} {tmps : Array Value} {w : World} {R : Ending → World → Prop} (rb N : Nat) (hrb : rb < N) (hR : ∀ w', w'.heap[rb]? = some (.cells #[.bool true] 4 (0, 0)) → Below w.heap.size w w' → LeavesInM Fence.wide 9 Try.prog fn tmps R [] .returning w') (hN : w.heap.size ≤ N) :
    ∀ (Ds : List Nat) (W : World), Ds.Nodup → (∀ D ∈ Ds, N ≤ D ∧ W.heap[D]? = some (.deferred (some []))) → W.heap[rb]? = some (.cells #[.bool true] 4 (0, 0)) → Below w.heap.size w W →
      LeavesInM Fence.wide 9 Try.prog fn tmps R (Ds.map markOf) .returning W
  | [], W, _, _, hr, hb => hR W hr hb
  | D :: t, W, hnd, hds, hr, hb => by
    obtain ⟨hD, k⟩ := hds D (List.mem_cons_self ..)
    rw [List.nodup_cons] at hnd
    refine ⟨by simp [markOf], .inl ⟨_, _, rfl, run_takeDeferred k, ?_⟩⟩
    refine leaves_marks rb N hrb hR hN t _ hnd.2 (fun D' h' => ?_) ?_ ?_
    · obtain ⟨h1, h2⟩ := hds D' (List.mem_cons_of_mem _ h')
      exact ⟨h1, (World.putObj_heap_other (show D' ≠ D from fun e => hnd.1 (by rw [← e]; exact h'))).trans h2⟩
    · exact (World.putObj_heap_other (by omega)).trans hr
    · exact hb.trans (belowK_b (w := w) (Nat.le_refl _) W D _ (.deferred none) (by omega) k rfl rfl)
/-- between two turns -/
structure TurnI (w6 : World) (Ds : List Nat) (W : World) : Prop where
  b : Below w6.heap.size w6 W
  nd : Ds.Nodup
  ds : ∀ D ∈ Ds, w6.heap.size ≤ D ∧ W.heap[D]? = some (.deferred (some []))
theorem TurnI.below {w6 W W' : World} {Ds : List Nat} (h : TurnI w6 Ds W) (hb : Below W.heap.size W W') : TurnI w6 Ds W' :=
  ⟨h.b.trans (hb.mono h.b.size), h.nd, fun D hD => ⟨(h.ds D hD).1, (hb.block D (Array.getElem?_eq_some_iff.1 (h.ds D hD).2).1).trans (h.ds D hD).2⟩⟩
theorem TurnI.step {w6 W W0 W' : World} {Ds : List Nat} {n D : Nat} {X : Nat → Prop} (h : TurnI w6 Ds W) (hB : Below W.heap.size W W0) (hr : RunI W0 W.heap.size n X W') (hD : W0.heap.size ≤ D) (hd : W'.heap[D]? = some (.deferred (some []))) : TurnI w6 (D :: Ds) W' := by
  have hs := h.b.size
  have hs2 := hB.size
  have hlt : ∀ D' ∈ Ds, D' < W.heap.size := fun D' hD' => (Array.getElem?_eq_some_iff.1 (h.ds D' hD').2).1
  refine ⟨⟨hr.os.trans (hB.os.trans h.b.os), hr.tape.trans (hB.tape.trans h.b.tape), hr.output.trans (hB.output.trans h.b.output), by have := hr.size; omega, fun i hi => (hr.low i (by omega) (by omega)).trans ((hB.block i (by omega)).trans (h.b.block i hi))⟩, ?_, fun D' hD' => ?_⟩
  · rw [List.nodup_cons]
    exact ⟨fun hm => by have := hlt D hm; omega, h.nd⟩
  · rw [List.mem_cons] at hD'
    rcases hD' with rfl | hD'
    · exact ⟨by omega, hd⟩
    · have h5 := hlt D' hD'
      exact ⟨(h.ds D' hD').1, (hr.low D' (by omega) (by omega)).trans ((hB.block D' h5).trans (h.ds D' hD').2)⟩
theorem prefix_at {l : List OutT} {y : List Int} {m : List (List Int)} (h : l.map (·.2) ++ [y] <+: m) : m[l.length]? = some y := by
  obtain ⟨t, rfl⟩ := h
  simp
theorem map_at {l : List OutT} {m : List (List Int)} (h : l.map (·.2) = m) {j : Nat} {y : List Int} (hj : m[j]? = some y) : ∃ hl : j < l.length, l[j].2 = y := by
  subst h
  rw [List.getElem?_map] at hj
  obtain ⟨a, h1, h2⟩ := Option.map_eq_some_iff.1 hj
  obtain ⟨h3, h4⟩ := List.getElem?_eq_some_iff.1 h1
  exact ⟨h3, by rw [h4, h2]⟩
/-- a row of the head has a nought -/
theorem has0_at {r0 r1 r2 : Int} {k : Nat} (hk : k < 3) (h : R3.at (r0, r1, r2) k = 0) : has0 (r0, r1, r2) = true := by
  have hq : k = 0 ∨ k = 1 ∨ k = 2 := by omega
  rcases hq with rfl | rfl | rfl
  · have h1 : r0 = 0 := h
    simp [has0, has3, h1]
  · have h1 : r1 = 0 := h
    simp [has0, has3, h1]
  · have h1 : r2 = 0 := h
    simp [has0, has3, h1]
/-- a place of the head, as the law reckons it -/
theorem headV_neg {L : List Int} {v i : Int} (h : v < 0) : headV L (v, i) = i := by unfold headV; rw [if_pos h]
theorem headV_in {L : List Int} {q : Nat} {i : Int} (h : q < L.length) : headV L ((q : Int), i) = L[q] := by
  unfold headV
  rw [if_neg (by simp), if_pos (by simpa using h)]
  simp [h]
theorem headV_out {L : List Int} {q : Nat} {i : Int} (h : L.length ≤ q) : headV L ((q : Int), i) = 0 := by
  unfold headV
  rw [if_neg (by simp), if_neg (by simp; omega)]
end Go.Proofs.Ytkgkkbfpkgfcaaa
