/- What a range over cliques turns; marks; the numbers of joins, and who stands first. -/
import Derived.Test.YtghihhjcoilmgaaQ14
import Derived.Maps.OwnIn
import Derived.LoopIn
import Derived.Maps.AppendAt
namespace Go.Proofs.Ytghihhjcoilmgaa
set_option maxRecDepth 100000
open Go.RowKit Go.Maps
set_option linter.unusedVariables false
set_option linter.unusedSimpArgs false

theorem jwp_append_own {P : Program} {w : World} {o : Oper} {a : Act} {K : Act → World → Prop} {Q : Exit → Act → World → Prop} (s x : Operand) (t : TypeId)
    (ho : o.op = .call { callee := .builtin .append, args := #[s, x], argTypes := #[t, t] })
    (base : Nat) (e : TypeId) (i : TypeInfo) (z : Value) (size bytes : Nat) (ht : P.underlying t = some (.slice e)) (hi : P.info? e = some i) (hz : i.zero = some z)
    (hsize : i.size = size) (hby : i.bytes = bytes) (hzs : z.cells.size = size) (hsz : 0 < size)
    (v : Value) (n : Nat) (xs : List Value) (hs : a.eval s = v) (hown : w.ownsRow base e size v n xs)
    (ad : Addr) (m c : Nat) (news : List Value) (hx : a.eval x = .slice (some ad) m c) (hl : news.length = m * size) (hnews : ∀ j u, news[j]? = some u → w.cell? (ad.add j) = some u) (h1 : ∀ u ∈ news, u.oneCell' = true)
    (h63 : n + m ≤ maxLen) (hbytes : (n + m) * bytes ≤ 140737488355328) (hbase : base ≤ w.heap.size)
    (h : ∀ v' w', w'.ownsRow base e size v' (n + m) (xs ++ news) → w.grownBy w' v.ownBlock → (v' = .slice none 0 0 ↔ v = .slice none 0 0 ∧ m = 0) → (v'.ownBlock = v.ownBlock ∨ v'.ownBlock = some w.heap.size) → K (a.put o.dst v') w') :
    o.wp P a w K Q := by
  obtain ⟨v', w', hr, h2, h3, h4, h5⟩ := run_append_own_at (P := P) w base t o.type e i z size bytes ht hi hz hsize hby hzs hsz v n xs hown ad m c news hl hnews h1 h63 hbytes hbase
  unfold Oper.wp execOp
  simp only [ho, resolve, invoke, builtin, Sem.run_bind, Sem.run_pure, Result.andThen_ok, List.map_toArray, List.map_cons, List.map_nil, hs, hx, hr]
  exact h v' w' h2 h3 h4 h5
theorem cell_keep {w w' : World} {b o : Nat} {v : Value} (hb : Below w.heap.size w w') (h : w.cell? ⟨b, o, none⟩ = some v) : w'.cell? ⟨b, o, none⟩ = some v := cell_later hb h
theorem box_at {w : World} {b : Nat} {v : Value} {t : TypeId} {fz : Nat × Nat} (h : w.heap[b]? = some (.cells #[v] t fz)) (hf : fz = (0, 0)) : w.cell? ⟨b, 0, none⟩ = some v ∧ w.frozen? ⟨b, 0, none⟩ = false := by
  subst hf
  exact ⟨Boxed.cell (t := t) h, Boxed.frozen (t := t) (v := v) h⟩
/-- a range in which a number's box turns, and what comes is new -/
structure RunB (W0 : World) (ib : Nat) (n : Int) (W : World) : Prop where
  size : W0.heap.size ≤ W.heap.size
  os : W.os = W0.os
  tape : W.tape = W0.tape
  output : W.output = W0.output
  low : ∀ i, i < W0.heap.size → i ≠ ib → W.heap[i]? = W0.heap[i]?
  ibn : ib < W0.heap.size
  box : W.heap[ib]? = some (.cells #[.int .i64 n] 3 (0, 0))
section
variable {W0 W A B : World} {ib : Nat} {n : Int}
theorem RunB.grow (h : RunB W0 ib n A) (hg : Below A.heap.size A B) : RunB W0 ib n B where
  size := Nat.le_trans h.size hg.size
  os := hg.os.trans h.os
  tape := hg.tape.trans h.tape
  output := hg.output.trans h.output
  low i hi hn := (hg.block i (Nat.lt_of_lt_of_le hi h.size)).trans (h.low i hi hn)
  ibn := h.ibn
  box := (hg.block ib (Nat.lt_of_lt_of_le h.ibn h.size)).trans h.box
theorem RunB.put (h : RunB W0 ib n W) {l : Nat} (hn : W0.heap.size ≤ l) (o' : Obj) : RunB W0 ib n (W.putObj l o') :=
  have hs : ∀ i, i ≠ l → (W.putObj l o').heap[i]? = W.heap[i]? := fun i hi => World.putObj_heap_other hi
  { h with
    size := by rw [show (W.putObj l o').heap.size = W.heap.size by simp [World.putObj]]; exact h.size
    os := h.os
    tape := h.tape
    output := h.output
    low := fun i hi hne => (hs i (by omega)).trans (h.low i hi hne)
    box := (hs ib (by have := h.ibn; omega)).trans h.box }
/-- what a round turns: the number's box -/
structure BodB (W W' : World) (ib : Nat) : Prop where
  os : W'.os = W.os
  tape : W'.tape = W.tape
  output : W'.output = W.output
  size : W.heap.size ≤ W'.heap.size
  same : ∀ i, i < W.heap.size → i ≠ ib → W'.heap[i]? = W.heap[i]?
theorem BodB.below {W W' : World} {ib : Nat} (h : Below W.heap.size W W') : BodB W W' ib := ⟨h.os, h.tape, h.output, h.size, fun i hi _ => h.block i hi⟩
theorem BodB.set {W W' : World} {ib j : Nat} (h : BodB W W' ib) (u : Value) : BodB W (W'.setCell ⟨ib, j, none⟩ u) ib :=
  ⟨h.os, h.tape, h.output, by rw [World.size_setCell]; exact h.size, fun i hi h1 => (Below.heap_setCell W' ⟨ib, j, none⟩ u i h1).trans (h.same i hi h1)⟩
theorem RunB.step {W' : World} {m : Int} (h : RunB W0 ib n W) (ht : BodB W W' ib) (hb : W'.heap[ib]? = some (.cells #[.int .i64 m] 3 (0, 0))) (N : Nat) : KeepsFrom W0.heap.size W W' ∧ KpI N ib W W' ∧ RunB W0 ib m W' := by
  have hi := h.ibn
  have hs := h.size
  refine ⟨⟨ht.size, fun i o _ ho hc => ?_⟩, ⟨ht.size, fun i o ho hn _ => (ht.same i (lt_of_heap ho) hn).trans ho⟩, ⟨Nat.le_trans hs ht.size, ht.os.trans h.os, ht.tape.trans h.tape, ht.output.trans h.output, fun i hi' hn => (ht.same i (by omega) hn).trans (h.low i hi' hn), hi, hb⟩⟩
  refine (ht.same i (lt_of_heap ho) ?_).trans ho
  rintro rfl
  rw [h.box] at ho; injection ho with ho; subst ho; cases hc
end
/-- marks that no defer left anything with -/
def markOf (D : Nat) : Deferred := { target := .collected D, args := #[] }
theorem leaves_marks {fn : Func} {tmps : Array Value} {w : World} {R : Ending → World → Prop} (rb N : Nat) (hrb : rb < N) (hR : ∀ w', w'.heap[rb]? = some (.cells #[.bool true] 4 (0, 0)) → Below w.heap.size w w' → LeavesInM Fence.wide 9 Try.prog fn tmps R [] .returning w') (hN : w.heap.size ≤ N) :
    ∀ (Ds : List Nat) (W : World), Ds.Nodup → (∀ D ∈ Ds, N ≤ D ∧ W.heap[D]? = some (.deferred (some []))) → W.heap[rb]? = some (.cells #[.bool true] 4 (0, 0)) → Below w.heap.size w W →
      LeavesInM Fence.wide 9 Try.prog fn tmps R (Ds.map markOf) .returning W
  | [], W, _, _, hr, hb => hR W hr hb
  | D :: t, W, hnd, hds, hr, hb => by
    obtain ⟨hD, k⟩ := hds D (List.mem_cons_self ..)
    rw [List.nodup_cons] at hnd
    refine ⟨by simp [markOf], .inl ⟨_, _, rfl, run_takeDeferred k, ?_⟩⟩
    refine leaves_marks rb N hrb hR hN t _ hnd.2 (fun D' h' => ?_) ?_ ?_
    · obtain ⟨h1, h2⟩ := hds D' (List.mem_cons_of_mem _ h')
      exact ⟨h1, (World.putObj_heap_other (show D' ≠ D from fun e => hnd.1 (by rw [← e]; exact h'))).trans h2⟩
    · exact (World.putObj_heap_other (by omega)).trans hr
    · exact hb.trans (belowK_b (w := w) (Nat.le_refl _) W D _ (.deferred none) (by omega) k rfl rfl)
/-- between two turns -/
structure TurnB (w6 : World) (Ds : List Nat) (W : World) : Prop where
  b : Below w6.heap.size w6 W
  nd : Ds.Nodup
  ds : ∀ D ∈ Ds, w6.heap.size ≤ D ∧ W.heap[D]? = some (.deferred (some []))
theorem TurnB.below {w6 W W' : World} {Ds : List Nat} (h : TurnB w6 Ds W) (hb : Below W.heap.size W W') : TurnB w6 Ds W' :=
  ⟨h.b.trans (hb.mono h.b.size), h.nd, fun D hD => ⟨(h.ds D hD).1, (hb.block D (lt_of_heap (h.ds D hD).2)).trans (h.ds D hD).2⟩⟩
theorem TurnB.step {w6 W W0 W' : World} {Ds : List Nat} {n : Int} {D ib : Nat} (h : TurnB w6 Ds W) (hB : Below W.heap.size W W0) (hib : W.heap.size ≤ ib) (hr : RunB W0 ib n W') (hD : W0.heap.size ≤ D) (hd : W'.heap[D]? = some (.deferred (some []))) : TurnB w6 (D :: Ds) W' := by
  have hs := h.b.size
  have hs2 := hB.size
  have hlt : ∀ D' ∈ Ds, D' < W.heap.size := fun D' hD' => lt_of_heap (h.ds D' hD').2
  refine ⟨⟨hr.os.trans (hB.os.trans h.b.os), hr.tape.trans (hB.tape.trans h.b.tape), hr.output.trans (hB.output.trans h.b.output), by have := hr.size; omega, fun i hi => (hr.low i (by omega) (by omega)).trans ((hB.block i (by omega)).trans (h.b.block i hi))⟩, ?_, fun D' hD' => ?_⟩
  · rw [List.nodup_cons]
    exact ⟨fun hm => by have := hlt D hm; omega, h.nd⟩
  · rw [List.mem_cons] at hD'
    rcases hD' with rfl | hD'
    · exact ⟨by omega, hd⟩
    · have h5 := hlt D' hD'
      exact ⟨(h.ds D' hD').1, (hr.low D' (by omega) (by omega)).trans ((hB.block D' h5).trans (h.ds D' hD').2)⟩

/-! plain -/
/-- what is joined is other than what it is joined with, and not 0 -/
def Eff (J : Jn) : Prop := ∀ p ∈ J, p.1 ≠ 0 ∧ p.2 ≠ 0 ∧ p.1 ≠ p.2
theorem Eff.other {J : Jn} (h : Eff J) {x : Int} (hx : x ∈ nums J) : x ≠ 0 ∧ ∃ b, b ≠ x ∧ Conn J x b := by
  rcases List.mem_append.1 hx with hx | hx
  · obtain ⟨p, hp, rfl⟩ := List.mem_map.1 hx
    obtain ⟨h1, h2, h3⟩ := h p hp
    exact ⟨h1, p.2, Ne.symm h3, .edge ⟨p, hp, h1, h2, .inl rfl⟩⟩
  · obtain ⟨p, hp, rfl⟩ := List.mem_map.1 hx
    obtain ⟨h1, h2, h3⟩ := h p hp
    exact ⟨h2, p.1, h3, .edge ⟨p, hp, h1, h2, .inr rfl⟩⟩
/-- the first of a clique -/
theorem cl_first {J : Jn} {a : Int} {L : List Int} (h : IsCl J a L) : ∃ r L', L = r :: L' ∧ Conn J a r ∧ ∀ b, Conn J a b → r ≤ b := by
  cases L with
  | nil => exact absurd h.self (by simp)
  | cons r L' =>
    refine ⟨r, L', rfl, (h.mem r).1 (by simp), fun b hb => ?_⟩
    rcases List.mem_cons.1 ((h.mem b).2 hb) with e | e
    · omega
    · have := (List.pairwise_cons.1 h.srt).1 b e; omega
theorem key_first {J : Jn} {a r : Int} (ho : ∃ b, b ≠ a ∧ Conn J a b) (h1 : Conn J a r) (h2 : ∀ b, Conn J a b → r ≤ b) : IsKey J a ↔ r = a := by
  constructor
  · intro hk
    have := hk.1 r h1
    have := h2 a (.refl _)
    omega
  · rintro rfl
    exact ⟨h2, ho⟩
theorem srt_snoc {F : List Int} {a : Int} (h : Srt F) (hl : ∀ x ∈ F, x < a) : Srt (F ++ [a]) :=
  List.pairwise_append.2 ⟨h, by simp, fun x hx y hy => by simp at hy; subst hy; exact hl x hx⟩
theorem srt_take {L : List Int} (h : Srt L) {k : Nat} (hk : k < L.length) : ∀ x ∈ L.take k, x < L[k] := by
  intro x hx
  obtain ⟨j, hj, rfl⟩ := List.getElem_of_mem hx
  rw [List.length_take] at hj
  rw [List.getElem_take]
  exact List.pairwise_iff_getElem.1 h j k (by omega) hk (by omega)
theorem prefix_at {l : List (Int × Value)} {y : Int} {K : List Int} (h : l.map (·.1) ++ [y] <+: K) : K[l.length]? = some y := by
  obtain ⟨t, rfl⟩ := h
  simp
end Go.Proofs.Ytghihhjcoilmgaa
