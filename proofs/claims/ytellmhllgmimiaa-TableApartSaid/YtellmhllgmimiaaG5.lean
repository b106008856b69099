/- What stands at each turn of TableGrows' range. -/
import Derived.Test.YtellmhllgmimiaaG3
import Derived.Test.YtellmhllgmimiaaS6
import Derived.Test.YtellmhllgmimiaaOrdW
namespace Go.Proofs.Ytellmhllgmimiaa
open Go.RowKit Go.Maps
set_option linter.unusedVariables false
set_option linter.unusedSimpArgs false

section
variable {Z : Zone} {tb : Nat} {T : TS} {D D' : TabD} {s : Nat} {O : Nat → Prop} {Lr Lr' : List Nat} {vr vr' : Value} {W W' : World}
theorem GS.less (h : GS s O tb T Lr vr Z D W) {S : Nat → Nat → Prop} (hS : ∀ i j, S i j → LC D (lst T) i j) : GS s O tb T Lr vr (Z.less S) D W where
  t := h.t.less hS
  opn := fun i j hi => ⟨h.opn i j hi, fun hs => by
    obtain ⟨x, v, hx, hv, ho, _⟩ := hS i j hs
    have := ((h.t.byOk.has x v hx hv).2.lt i ho).1
    omega⟩
  off := h.off
  rows := h.rows
  rowsOff := h.rowsOff
/-- it stays where its cells and its maps stay -/
theorem GS.keptM (h : GS s O tb T Lr vr Z D W) (hsz : W.heap.size ≤ W'.heap.size) (hc : ∀ (i : Nat) (cur : Array Value) (e : TypeId) (fz : Nat × Nat), W.heap[i]? = some (Obj.cells cur e fz) → W'.heap[i]? = W.heap[i]?)
    (hM : ∀ (i : Nat) (o : Obj), Z.M i → W.heap[i]? = some o → W'.heap[i]? = W.heap[i]?) : GS s O tb T Lr vr Z D W' where
  t := h.t.blocksM hc hM
  opn := h.opn.mono hsz
  off := h.off
  rows := own_blk h.rows (fun g hg => by
    rcases h.rows.2 with ⟨rfl, _⟩ | ⟨g', cap, cur, rfl, _, h2, _⟩
    · simp [Value.ownBlock] at hg
    · simp [Value.ownBlock] at hg
      subst hg
      exact hc _ _ _ _ h2)
  rowsOff := h.rowsOff
end

theorem sl_reads {Z : Zone} {w : World} {e size n : Nat} {v : Value} {xs : List Value} (h : Sl Z w e size v n xs) {g j : Nat} (hv : v.ownBlock = some g) (hj : j < n * size) : Z.R g j := by
  rcases h.2 with ⟨rfl, _⟩ | ⟨g', cap, cur, rfl, _, _, _, _, _, _, hR⟩
  · simp [Value.ownBlock] at hv
  · simp [Value.ownBlock] at hv
    subst hv
    exact hR j hj
theorem own_cell {w : World} {B : Nat} {v : Value} {L : List Nat} (h : w.ownsRow B 3 1 v L.length (ics L)) {g : Nat} (hv : v.ownBlock = some g) {j d : Nat} (hj : L[j]? = some d) : w.cell? ⟨g, j, none⟩ = some (.int .i64 (d : Nat)) := by
  obtain ⟨h1, h2⟩ := List.getElem?_eq_some_iff.1 hj
  have := h.cells (g := g) hv j _ (ics_get L j h1)
  rw [h2, show (⟨g, 0, none⟩ : Addr).add j = ⟨g, j, none⟩ by unfold Addr.add; split <;> simp_all] at this
  exact this
theorem wp_append_own {P : Program} {w : World} {o : Oper} {a : Act} {K : Act → World → Prop} {Q : Exit → Act → World → Prop} (s x : Operand) (t : TypeId)
    (ho : o.op = .call { callee := .builtin .append, args := #[s, x], argTypes := #[t, t] })
    (base : Nat) (e : TypeId) (i : TypeInfo) (z : Value) (size bytes : Nat) (ht : P.underlying t = some (.slice e)) (hi : P.info? e = some i) (hz : i.zero = some z)
    (hsize : i.size = size) (hby : i.bytes = bytes) (hzs : z.cells.size = size) (hsz : 0 < size)
    (v : Value) (n : Nat) (xs : List Value) (hs : a.eval s = v) (hown : w.ownsRow base e size v n xs)
    (ad : Addr) (m c : Nat) (news : List Value) (hx : a.eval x = .slice (some ad) m c) (hl : news.length = m * size) (hnews : ∀ j u, news[j]? = some u → w.cell? (ad.add j) = some u) (h1 : ∀ u ∈ news, u.oneCell' = true)
    (h63 : n + m ≤ maxLen) (hbytes : (n + m) * bytes ≤ 140737488355328) (hbase : base ≤ w.heap.size)
    (h : ∀ v' w', w'.ownsRow base e size v' (n + m) (xs ++ news) → w.grownBy w' v.ownBlock → (v' = .slice none 0 0 ↔ v = .slice none 0 0 ∧ m = 0) → (v'.ownBlock = v.ownBlock ∨ v'.ownBlock = some w.heap.size) → K (a.put o.dst v') w') :
    o.wp P a w K Q := by
  obtain ⟨v', w', hr, h2, h3, h4, h5⟩ := run_append_own_at (P := P) w base t o.type e i z size bytes ht hi hz hsize hby hzs hsz v n xs hown ad m c news hl hnews h1 h63 hbytes hbase
  unfold Oper.wp execOp
  simp only [ho, resolve, invoke, builtin, Sem.run_bind, Sem.run_pure, Result.andThen_ok, List.map_toArray, List.map_cons, List.map_nil, hs, hx, hr]
  exact h v' w' h2 h3 h4 h5
theorem ics_one (L : List Nat) : ∀ u ∈ ics L, u.oneCell' = true := by
  intro u hu
  simp only [ics, List.mem_map] at hu
  obtain ⟨n, _, rfl⟩ := hu
  rfl
theorem ics_app (L M : List Nat) : ics (L ++ M) = ics L ++ ics M := by simp [ics]
theorem own_part {w : World} {B : Nat} {v : Value} {L M : List Nat} (h : w.ownsRow B 3 1 v L.length (ics L)) {g : Nat} (hv : v.ownBlock = some g) (off : Nat) (hM : ∀ j, j < M.length → M[j]? = L[off + j]?) :
    ∀ j u, (ics M)[j]? = some u → w.cell? ((⟨g, off, none⟩ : Addr).add j) = some u := by
  intro j u hj
  obtain ⟨h1, h2⟩ := List.getElem?_eq_some_iff.1 hj
  have h1' : j < M.length := by simpa [ics] using h1
  have h3 := hM j h1'
  rw [List.getElem?_eq_getElem h1'] at h3
  have := own_cell h hv h3.symm
  rw [ics_get M j h1'] at hj
  injection hj with hj
  rw [← hj]
  rw [show (⟨g, off, none⟩ : Addr).add j = ⟨g, off + j, none⟩ by unfold Addr.add; split <;> simp_all]
  exact this
theorem step_yes {k : R3} {T0 Tm : TS} {m : Nat} {Rm : List Nat} {lm : Int} {x d : Nat} (h0 : Rm[m]? = some x) (h1 : Rm[m + 1]? = some d) :
    GSt.step k T0 m ⟨Tm, Rm, lm⟩ = ⟨setB (addT Tm (growR k (rowOf T0 x) lm) 2) d (bits .andNot .u8 (bitsOf (addT Tm (growR k (rowOf T0 x) lm) 2) d) 2), Rm.eraseIdx (m + 1), (growL k lm).2.2⟩ := by
  unfold GSt.step
  simp only [List.getD_eq_getElem?_getD, h0, h1, Option.getD_some]
  rw [if_pos (List.getElem?_eq_some_iff.1 h1).1]
theorem step_no {k : R3} {T0 Tm : TS} {m : Nat} {Rm : List Nat} {lm : Int} {x : Nat} (h0 : Rm[m]? = some x) (h1 : ¬ m + 1 < Rm.length) :
    GSt.step k T0 m ⟨Tm, Rm, lm⟩ = ⟨addT Tm (growR k (rowOf T0 x) lm) 2, Rm, (growL k lm).2.2⟩ := by
  unfold GSt.step
  simp only [List.getD_eq_getElem?_getD, h0, Option.getD_some]
  rw [if_neg h1]
theorem own_cap {w : World} {B e size n m cap : Nat} {g : Nat} {xs : List Value} (h : w.ownsRow B e size (.slice (some ⟨g, 0, none⟩) m cap) n xs) : n ≤ cap := by
  rcases h.2 with ⟨h, _⟩ | ⟨g', cap', cur, h, _, _, h1, _⟩
  · simp at h
  · injection h with _ h2 h3
    subst h3
    exact h1
/-- the boxes of the range: two ahead of it, Match's five, and two more -/
def GO (b8 b9 B : Nat) (i : Nat) : Prop := (i = b8 ∨ i = b9) ∨ (B ≤ i ∧ i < B + 7)
def intB (v : Int) : Obj := .cells #[.int .i64 v] 3 (0, 0)
def u32B (v : Int) : Obj := .cells #[.int .u32 v] 23 (0, 0)
def lisB (v : Value) : Obj := .cells #[v] 29 (0, 0)

/-- at a turn: pre has been told; the table's world is Wb at the start -/
structure GT (s b8 b9 B tb N : Nat) (S : Nat → Nat → Prop) (W1 Wb : World) (T : TS) (R : List Nat) (k l : Int) (vr : Value) (Z : Zone) (D : TabD) (W : World) : Prop where
  g : GS s (GO b8 b9 B) tb T R vr Z D W
  m : ∀ i, Z.M i → i < N
  pr : ∀ i j, S i j → ¬ Z.W i j
  sr : ∀ i j, S i j → Z.R i j
  sc : ∀ i j, S i j → ∃ cur fz, W.heap[i]? = some (Obj.cells cur 3 fz)
  h9 : W.heap[b9]? = some (lisB vr)
  hk : W.heap[B + 5]? = some (intB k)
  hl : W.heap[B + 6]? = some (u32B l)
  kb : ∀ i, (i = b8 ∨ (B ≤ i ∧ i < B + 5)) → W.heap[i]? = Wb.heap[i]?
  pc : ∀ i j, S i j → W.cell? ⟨i, j, none⟩ = Wb.cell? ⟨i, j, none⟩
  sz : Wb.heap.size ≤ W.heap.size
  bel : Below s W1 W
section
variable {s b8 b9 B tb N : Nat} {S : Nat → Nat → Prop} {W1 Wb : World} {T T' : TS} {R R' : List Nat} {k l k' l' : Int} {vr vr' : Value} {Z : Zone} {D D' : TabD} {W W' : World}
theorem GT.slt (h : GT s b8 b9 B tb N S W1 Wb T R k l vr Z D W) : ∀ i j, S i j → i < W.heap.size := fun i j hs => by
  obtain ⟨cur, fz, hc⟩ := h.sc i j hs
  exact (Array.getElem?_eq_some_iff.1 hc).1
/-- boxes, the rows turn; blocks come -/
theorem GT.turn (h : GT s b8 b9 B tb N S W1 Wb T R k l vr Z D W) (hsz : W.heap.size ≤ W'.heap.size)
    (hb : ∀ i, i < W.heap.size → i ≠ b9 → i ≠ B + 5 → i ≠ B + 6 → vr.ownBlock ≠ some i → W'.heap[i]? = W.heap[i]?)
    (hown : W'.ownsRow s 3 1 vr' R'.length (ics R')) (hv : ∀ g, vr'.ownBlock = some g → vr.ownBlock = some g ∨ W.heap.size ≤ g)
    (h9 : W'.heap[b9]? = some (lisB vr')) (hk : W'.heap[B + 5]? = some (intB k')) (hl : W'.heap[B + 6]? = some (u32B l'))
    (hd : b8 ≠ b9 ∧ b8 < B ∧ b9 < B)
    (hbel : W'.os = W.os ∧ W'.tape = W.tape ∧ W'.output = W.output) (hs9 : s ≤ b9 ∧ s ≤ B) :
    GT s b8 b9 B tb N S W1 Wb T R' k' l' vr' (Z.gap W.heap.size W'.heap.size) D W' := by
  have hS : ∀ i j, S i j → i < W.heap.size := h.slt
  have hsW : ∀ i, W.heap.size ≤ i → s ≤ i ∧ ¬ GO b8 b9 B i := fun i hi => ⟨(h.g.new hi).2, (h.g.new hi).1⟩
  have hvO : ∀ g, vr'.ownBlock = some g → ¬ GO b8 b9 B g ∧ (vr.ownBlock = some g ∨ W.heap.size ≤ g) := by
    intro g hg
    rcases hv g hg with h1 | h1
    · exact ⟨(h.g.rowsOff g h1).1, .inl h1⟩
    · exact ⟨(hsW g h1).2, .inr h1⟩
  refine ⟨h.g.turn _ (fun i hi => .inl hi) hsz (fun i hi hO hne => hb i hi (fun e => hO (.inl (.inr e))) (fun e => hO (.inr (by omega))) (fun e => hO (.inr (by omega))) hne) hown hvO, fun i hi => h.m i hi.1, ?_, fun i j hs => .inl ⟨h.sr i j hs, hS i j hs⟩, ?_, h9, hk, hl, ?_, ?_, Nat.le_trans h.sz hsz, ?_⟩
  · rintro i j hs (⟨h1, _⟩ | h1)
    · exact h.pr i j hs h1
    · have := hS i j hs; omega
  · intro i j hs
    have hO := (h.g.off i j (h.sr i j hs)).2
    obtain ⟨cur, fz, hc⟩ := h.sc i j hs
    exact ⟨cur, fz, (hb i (hS i j hs) (fun e => hO (.inl (.inr e))) (fun e => hO (.inr (by omega))) (fun e => hO (.inr (by omega))) (fun e => (h.g.rowsOff i e).2 j (h.sr i j hs))).trans hc⟩
  · intro i hi
    have hlt : i < W.heap.size := by
      by_cases hlt : i < W.heap.size
      · exact hlt
      · refine absurd ?_ (hsW i (by omega)).2
        rcases hi with hi | hi
        · exact .inl (.inl hi)
        · exact .inr (by omega)
    refine (hb i hlt (by omega) (by omega) (by omega) (fun e => (h.g.rowsOff i e).1 (by
      rcases hi with hi | hi
      · exact .inl (.inl hi)
      · exact .inr (by omega)))).trans (h.kb i hi)
  · intro i j hs
    have h1 := hS i j hs
    have h2 := h.sr i j hs
    have hO := (h.g.off i j h2).2
    refine Eq.trans ?_ (h.pc i j hs)
    exact World.cell?_of_block (a := ⟨i, j, none⟩) (hb i h1 (fun e => hO (.inl (.inr e))) (fun e => hO (.inr (by omega))) (fun e => hO (.inr (by omega))) (fun e => (h.g.rowsOff i e).2 j h2))
  · have hbs := h.bel
    refine ⟨hbel.1.trans hbs.os, hbel.2.1.trans hbs.tape, hbel.2.2.trans hbs.output, Nat.le_trans hbs.size hsz, fun i hi => ?_⟩
    by_cases hlt : i < W.heap.size
    · refine (hb i hlt (by omega) (by omega) (by omega) (fun e => by have := (h.g.rows.lt i e).1; omega)).trans (hbs.block i hi)
    · have := (hsW i (by omega)).1; omega
theorem GT.below (h : GT s b8 b9 B tb N S W1 Wb T R k l vr Z D W) (hb : Below W.heap.size W W') (hw : s ≤ W.heap.size) : GT s b8 b9 B tb N S W1 Wb T R k l vr Z D W' := by
  have hlt : ∀ {i : Nat} {o : Obj}, W.heap[i]? = some o → W'.heap[i]? = W.heap[i]? := fun hi => hb.block _ (Array.getElem?_eq_some_iff.1 hi).1
  have hS := h.slt
  refine ⟨h.g.below hb, h.m, h.pr, h.sr, fun i j hs => (by obtain ⟨cur, fz, hc⟩ := h.sc i j hs; exact ⟨cur, fz, (hlt hc).trans hc⟩), (hlt h.h9).trans h.h9, (hlt h.hk).trans h.hk, (hlt h.hl).trans h.hl, fun i hi => ?_, fun i j hs => (World.cell?_of_block (a := ⟨i, j, none⟩) (hb.block i (hS i j hs))).trans (h.pc i j hs), Nat.le_trans h.sz hb.size, h.bel.trans (hb.mono hw)⟩
  have hlt : i < W.heap.size := by
    by_cases hlt : i < W.heap.size
    · exact hlt
    · refine absurd ?_ (h.g.new (i := i) (by omega)).1
      rcases hi with hi | hi
      · exact .inl (.inl hi)
      · exact .inr (by omega)
  exact (hb.block i hlt).trans (h.kb i hi)
/-- a call of the table's -/
theorem GT.call (h : GT s b8 b9 B tb N S W1 Wb T R k l vr Z D W) (ht : IsT Z W' tb T' D') (hf : Fr Z W W') (hw : s ≤ W.heap.size) : GT s b8 b9 B tb N S W1 Wb T' R k l vr Z D' W' := by
  have hO : ∀ {i : Nat} {o : Obj}, W.heap[i]? = some o → GO b8 b9 B i → W'.heap[i]? = W.heap[i]? := fun hi ho => h.g.box hf (.inl ho) (Array.getElem?_eq_some_iff.1 hi).1
  have hS := h.sc
  refine ⟨h.g.call ht hf, h.m, h.pr, h.sr, fun i j hs => (by obtain ⟨cur, fz, hc⟩ := hS i j hs; obtain ⟨cur', hc', _⟩ := hf.cells i cur _ fz hc; exact ⟨cur', fz, hc'⟩), (hO h.h9 (.inl (.inr rfl))).trans h.h9, (hO h.hk (.inr (by omega))).trans h.hk, (hO h.hl (.inr (by omega))).trans h.hl, fun i hi => ?_, fun i j hs => ?_, Nat.le_trans h.sz hf.size, h.bel.trans (hf.below hw (fun i j hj => (h.g.off i j (Z.sub _ _ hj)).1))⟩
  · have hgo : GO b8 b9 B i := by
      rcases hi with hi | hi
      · exact .inl (.inl hi)
      · exact .inr (by omega)
    have hlt : i < W.heap.size := by
      by_cases hlt : i < W.heap.size
      · exact hlt
      · exact absurd hgo (h.g.new (i := i) (by omega)).1
    exact (h.g.box hf (.inl hgo) hlt).trans (h.kb i hi)
  · refine Eq.trans ?_ (h.pc i j hs)
    obtain ⟨cur, fz, hc⟩ := hS i j hs
    obtain ⟨cur', hc', _, hj⟩ := hf.cells i cur _ fz hc
    unfold World.cell?
    rw [hc, hc']
    simpa using hj j (h.pr i j hs)
/-- it stays where its cells and its maps stay -/
theorem GT.keptM {row : Option Nat} (h : GT s b8 b9 B tb N S W1 Wb T R k l vr Z D W) (hg : W.grownBy W' row) (hr : ∀ r, row = some r → Wb.heap.size ≤ r ∧ ∃ o : Obj, W.heap[r]? = some o ∧ o.isCells = false) (hN : N ≤ Wb.heap.size) (hsb : s ≤ Wb.heap.size)
    (hS : ∀ i j, S i j → i < Wb.heap.size) (hO : ∀ i, GO b8 b9 B i → i < Wb.heap.size) : GT s b8 b9 B tb N S W1 Wb T R k l vr Z D W' := by
  have hc : ∀ (i : Nat) (cur : Array Value) (e : TypeId) (fz : Nat × Nat), W.heap[i]? = some (Obj.cells cur e fz) → W'.heap[i]? = W.heap[i]? := by
    intro i cur e fz hi
    refine hg.block i (Array.getElem?_eq_some_iff.1 hi).1 (fun e => ?_)
    obtain ⟨_, o, ho, hcc⟩ := hr i e.symm
    rw [hi] at ho; injection ho with ho; subst ho; cases hcc
  have hb : ∀ i, i < Wb.heap.size → W'.heap[i]? = W.heap[i]? := fun i hi => hg.block i (by have := h.sz; omega) (fun e => by have := (hr i e.symm).1; omega)
  refine ⟨h.g.keptM hg.size hc (fun i o hM hi => hb i (Nat.lt_of_lt_of_le (h.m i hM) hN)), h.m, h.pr, h.sr, fun i j hs => (by obtain ⟨cur, fz, h1⟩ := h.sc i j hs; exact ⟨cur, fz, (hc _ _ _ _ h1).trans h1⟩), (hc _ _ _ _ h.h9).trans h.h9, (hc _ _ _ _ h.hk).trans h.hk, (hc _ _ _ _ h.hl).trans h.hl, fun i hi => (hb i (hO i ?_)).trans (h.kb i hi), fun i j hs => (World.cell?_of_block (a := ⟨i, j, none⟩) (hb i (hS i j hs))).trans (h.pc i j hs), Nat.le_trans h.sz hg.size, h.bel.grown hg (by have := h.sz; omega) (fun r e => by have := (hr r e).1; omega)⟩
  rcases hi with hi | hi
  · exact .inl (.inl hi)
  · exact .inr (by omega)
/-- the last number and the new row, when j places are done -/
def lJ (k : R3) (l : Int) (j : Nat) : Int := if j = 0 then l else if j = 1 then (growL k l).1 else if j = 2 then (growL k l).2.1 else (growL k l).2.2
def xJ (k y : R3) (l : Int) (j : Nat) : Array Value := #[.int .u32 (if 0 < j then (growR k y l).1 else y.1), .int .u32 (if 1 < j then (growR k y l).2.1 else y.2.1), .int .u32 (if 2 < j then (growR k y l).2.2 else y.2.2)]
structure LX (W : World) (B : Nat) (k y : R3) (l : Int) (j : Nat) (X : World) : Prop where
  size : X.heap.size = W.heap.size + 1
  keep : ∀ i, i < W.heap.size → i ≠ B + 6 → X.heap[i]? = W.heap[i]?
  hl : X.heap[B + 6]? = some (u32B (lJ k l j))
  hx : X.heap[W.heap.size]? = some (.cells (xJ k y l j) 25 (0, 0))
  os : X.os = W.os ∧ X.tape = W.tape ∧ X.output = W.output
theorem LX.start (W : World) (B : Nat) (k y : R3) (l : Int) (h : W.heap[B + 6]? = some (u32B l)) : LX W B k y l 0 (W.alloc (.cells #[.int .u32 y.1, .int .u32 y.2.1, .int .u32 y.2.2] 25 (0, 0))) :=
  ⟨World.size_alloc _ _, fun i hi _ => Below.heap_alloc _ _ _ hi, (Below.heap_alloc _ _ _ (Array.getElem?_eq_some_iff.1 h).1).trans h, World.alloc_heap_new _ _, rfl, rfl, rfl⟩
theorem set_heap {W : World} {b : Nat} {cur : Array Value} {e : TypeId} (h : W.heap[b]? = some (.cells cur e (0, 0))) (j : Nat) (u : Value) : (W.setCell ⟨b, j, none⟩ u).heap[b]? = some (.cells (cur.setIfInBounds j u) e (0, 0)) := by
  obtain ⟨hlt, hk⟩ := Array.getElem?_eq_some_iff.1 h
  show (W.heap.modify b _)[b]? = _
  rw [Array.getElem?_eq_getElem (by rw [Array.size_modify]; exact hlt), Array.getElem_modify_self, hk]
  rfl
/-- a place with no number in the look -/
theorem LX.put {W X : World} {B : Nat} {k y : R3} {l : Int} {j : Nat} (h : LX W B k y l j X) (hj : j < 3) (h0 : R3.at k j = 0) (hne : B + 6 < W.heap.size) :
    LX W B k y l (j + 1) ((X.setCell ⟨B + 6, 0, none⟩ (.int .u32 (lJ k l j + 1))).setCell ⟨W.heap.size, j, none⟩ (.int .u32 (lJ k l j + 1))) := by
  have e1 : lJ k l (j + 1) = lJ k l j + 1 := by
    have : j = 0 ∨ j = 1 ∨ j = 2 := by omega
    rcases this with rfl | rfl | rfl <;> simp [R3.at] at h0 <;> simp [lJ, growL, h0]
  have e2 : xJ k y l (j + 1) = (xJ k y l j).setIfInBounds j (.int .u32 (lJ k l j + 1)) := by
    have : j = 0 ∨ j = 1 ∨ j = 2 := by omega
    rcases this with rfl | rfl | rfl <;> simp [R3.at] at h0 <;> simp [xJ, lJ, growL, growR, h0]
  refine ⟨by rw [World.size_setCell, World.size_setCell]; exact h.size, fun i hi hb => ?_, ?_, ?_, h.os⟩
  · rw [Below.heap_setCell _ _ _ i (by simp; omega), Below.heap_setCell _ _ _ i (by simp; omega)]
    exact h.keep i hi hb
  · rw [Below.heap_setCell _ _ _ _ (by simp; omega), e1]
    exact box_set h.hl _
  · rw [e2]
    exact set_heap ((Below.heap_setCell _ _ _ _ (by simp; omega)).trans h.hx) _ _
/-- a place with a number -/
theorem LX.skip {W X : World} {B : Nat} {k y : R3} {l : Int} {j : Nat} (h : LX W B k y l j X) (hj : j < 3) (h0 : R3.at k j ≠ 0) : LX W B k y l (j + 1) X := by
  have e1 : lJ k l (j + 1) = lJ k l j := by
    have : j = 0 ∨ j = 1 ∨ j = 2 := by omega
    rcases this with rfl | rfl | rfl <;> simp [R3.at] at h0 <;> simp [lJ, growL, h0]
  have e2 : xJ k y l (j + 1) = xJ k y l j := by
    have : j = 0 ∨ j = 1 ∨ j = 2 := by omega
    rcases this with rfl | rfl | rfl <;> simp [R3.at] at h0 <;> simp [xJ, lJ, growL, growR, h0]
  exact ⟨h.size, h.keep, by rw [e1]; exact h.hl, by rw [e2]; exact h.hx, h.os⟩
theorem lJ_b (k : R3) (l : Int) (j : Nat) : l ≤ lJ k l j ∧ lJ k l j ≤ l + 3 := by
  unfold lJ growL
  by_cases h1 : k.1 = 0 <;> by_cases h2 : k.2.1 = 0 <;> by_cases h3 : k.2.2 = 0 <;> simp only [h1, h2, h3, if_true, if_false] <;> split <;> (try split) <;> (try split) <;> constructor <;> omega
theorem GT.box8 (h : GT s b8 b9 B tb N S W1 Wb T R k l vr Z D W) {v : Value} (h8 : Wb.heap[b8]? = some (.cells #[v] 27 (0, 0))) : W.cell? ⟨b8, 0, none⟩ = some v := (box_cell ((h.kb b8 (.inl rfl)).trans h8)).1
/-- behind the new row's places -/
theorem GT.laid {m : Nat} {cap : Nat} {ao : Option Addr} (h : GT s b8 b9 B tb N S W1 Wb T R m l (.slice ao R.length cap) Z D W) {kk y : R3} (hX : LX W B kk y l 3 W') (hd : b8 ≠ b9 ∧ b8 < B ∧ b9 < B) (hs9 : s ≤ b9 ∧ s ≤ B) :
    GT s b8 b9 B tb N S W1 Wb T R m (growL kk l).2.2 (.slice ao R.length cap) (Z.gap W.heap.size W'.heap.size) D W' := by
  have hlt : ∀ {i : Nat} {o : Obj}, W.heap[i]? = some o → i < W.heap.size := fun h => (Array.getElem?_eq_some_iff.1 h).1
  refine h.turn (by have := hX.size; omega) (fun i hi _ _ h6 _ => hX.keep i hi h6) (own_blk h.g.rows (fun g hg => hX.keep g (h.g.rows.lt g hg).2 (fun e => (h.g.rowsOff g hg).1 (.inr (by omega))))) (fun g hg => .inl hg)
    ((hX.keep b9 (hlt h.h9) (by omega)).trans h.h9) ((hX.keep _ (hlt h.hk) (by omega)).trans h.hk) hX.hl hd hX.os hs9
/-- the count goes on -/
theorem GT.kset {ao : Option Addr} {n cap : Nat} (h : GT s b8 b9 B tb N S W1 Wb T R k l (.slice ao n cap) Z D W) (hd : b8 ≠ b9 ∧ b8 < B ∧ b9 < B) (hs9 : s ≤ b9 ∧ s ≤ B) (hn : n = R.length) (u : Int) :
    GT s b8 b9 B tb N S W1 Wb T R u l (.slice ao n cap) (Z.gap W.heap.size (W.setCell ⟨B + 5, 0, none⟩ (.int .i64 u)).heap.size) D (W.setCell ⟨B + 5, 0, none⟩ (.int .i64 u)) := by
  subst hn
  have ho : ∀ i, i ≠ B + 5 → (W.setCell ⟨B + 5, 0, none⟩ (.int .i64 u)).heap[i]? = W.heap[i]? := fun i hi => Below.heap_setCell _ _ _ i hi
  exact h.turn (by rw [World.size_setCell]; exact Nat.le_refl _) (fun i hi _ h5 _ _ => ho i h5) (own_blk h.g.rows (fun g hg => ho g (fun e => (h.g.rowsOff g hg).1 (.inr (by omega))))) (fun g hg => .inl hg)
    ((ho b9 (by omega)).trans h.h9) (box_set h.hk _) ((ho _ (by omega)).trans h.hl) hd ⟨rfl, rfl, rfl⟩ hs9
/-- the rows are made anew -/
theorem GT.rset {X Y : World} {v v1 v2 : Value} {R2 : List Nat} (h : GT s b8 b9 B tb N S W1 Wb T R k l v Z D W) (hd : b8 ≠ b9 ∧ b8 < B ∧ b9 < B) (hs9 : s ≤ b9 ∧ s ≤ B)
    (g1 : W.grownBy X none) (o1 : ∀ g, v1.ownBlock = some g → W.heap.size ≤ g) (g2 : X.grownBy Y v1.ownBlock) (o2 : ∀ g, v2.ownBlock = some g → W.heap.size ≤ g) (hown : Y.ownsRow s 3 1 v2 R2.length (ics R2)) :
    GT s b8 b9 B tb N S W1 Wb T R2 k l v2 (Z.gap W.heap.size (Y.setCell ⟨b9, 0, none⟩ v2).heap.size) D (Y.setCell ⟨b9, 0, none⟩ v2) ∧ KeepsFrom Wb.heap.size W (Y.setCell ⟨b9, 0, none⟩ v2) := by
  have hY : ∀ i, i < W.heap.size → Y.heap[i]? = W.heap[i]? := fun i hi =>
    (g2.block i (Nat.lt_of_lt_of_le hi g1.size) (fun e => by have := o1 i e.symm; omega)).trans (g1.block i hi (fun e => by cases e))
  have ho : ∀ i, i < W.heap.size → i ≠ b9 → (Y.setCell ⟨b9, 0, none⟩ v2).heap[i]? = W.heap[i]? := fun i hi h9 => (Below.heap_setCell _ _ _ i h9).trans (hY i hi)
  have hlt : ∀ {i : Nat} {o : Obj}, W.heap[i]? = some o → i < W.heap.size := fun h => (Array.getElem?_eq_some_iff.1 h).1
  have hsz : W.heap.size ≤ (Y.setCell ⟨b9, 0, none⟩ v2).heap.size := by rw [World.size_setCell]; exact Nat.le_trans g1.size g2.size
  refine ⟨h.turn hsz (fun i hi h9 _ _ _ => ho i hi h9) (own_blk hown (fun g hg => Below.heap_setCell _ _ _ g (fun e => ?_))) (fun g hg => .inr (o2 g hg)) (box_set ((hY b9 (hlt h.h9)).trans h.h9) _)
    ((ho _ (hlt h.hk) (by omega)).trans h.hk) ((ho _ (hlt h.hl) (by omega)).trans h.hl) hd ⟨g2.os.trans g1.os, g2.tape.trans g1.tape, g2.output.trans g1.output⟩ hs9, ⟨hsz, fun i o _ hi hc => ?_⟩⟩
  · have := o2 g hg
    have := hlt h.h9
    simp only at e
    omega
  · by_cases h9 : i = b9
    · have := h.h9
      rw [h9, this] at hi
      injection hi with hi; subst hi; cases hc
    · exact (ho i (hlt hi) h9).trans hi
theorem wrap_u32 (x : Int) (h0 : 0 ≤ x) (h1 : x ≤ 4294967295) : IntKind.u32.wrap x = x := by
  rw [IntKind.wrap_u32]; omega
theorem xJ_3 (k y : R3) (l : Int) : xJ k y l 3 = #[.int .u32 (growR k y l).1, .int .u32 (growR k y l).2.1, .int .u32 (growR k y l).2.2] := rfl
end
end Go.Proofs.Ytellmhllgmimiaa
