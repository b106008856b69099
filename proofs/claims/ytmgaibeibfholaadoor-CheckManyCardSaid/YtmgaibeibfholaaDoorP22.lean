/- A range over a function that goes over a list, also left with a break or a return: a law; what the body of a round keeps. -/
import Derived.Test.YtmgaibeibfholaaDoorP21
import Derived.RangeFuncFrom
namespace Go.Proofs.YtmgaibeibfholaaDoor
set_option maxRecDepth 100000
open Go.RowKit Go.Shelf Go.Maps Plain
set_option linter.unusedVariables false
set_option linter.unusedSimpArgs false

/-- an iterator that goes over a list, and ends where it is told to -/
def SeqZ {α : Type} (P : Program) (g : Nat) (lb : Array Value) (encs : α → Array Value) (Kp : World → World → Prop) (all : List α) (wt : World) (N0 : Nat) : Prop :=
  ∀ (l : Nat) (J Jx : List α → World → Prop) (W : World), N0 ≤ W.heap.size → Below wt.heap.size wt W → (∀ pre A B, J pre A → Below A.heap.size A B → J pre B) →
    (∀ pre x W1, J pre W1 → pre ++ [x] <+: all → YieldAt Fence.wide 7 P l (encs x) W1 fun e W' => ∃ go : Bool, e = .returned (.bool go) ∧ (go = true → J (pre ++ [x]) W' ∧ Kp W1 W') ∧ (go = false → Jx (pre ++ [x]) W')) → J [] W →
    CallsIn Fence.wide 8 P g (#[.func (.yield l) #[] #[]] ++ lb) W fun e W' => (∃ v, e = .returned v) ∧ (J all W' ∨ ∃ pre, pre <+: all ∧ Jx pre W')
/-- how the body of a round is left -/
def postR {α : Type} (B : Nat) (Kp : World → World → Prop) (I : List α → World → Prop) (Ix : Code → List α → World → Prop) (xs : List α) (W : World) : Exit → Act → World → Prop
  | .normal, _, W' => KeepsFrom B W W' ∧ Kp W W' ∧ I xs W'
  | .exit id, _, W' => KeepsFrom B W W' ∧ Ix (.exit id) xs W'
  | .ret, _, W' => KeepsFrom B W W' ∧ Ix .ret xs W'
  | _, _, _ => False
set_option maxHeartbeats 1000000 in
theorem wpIn_rangeFunc_R {α : Type} {P : Program} {w wt : World} {g : Operand} {ps : Array Tmp} {assign body : Code} {Q : Exit → Act → World → Prop} {a : Act}
    {gf : Nat} {lb : Array Value} (hg : a.eval g = .func (.func gf) #[] lb) (eg : ∀ args w, (callFunc gf args).run P w = .ok (.enter gf args) w)
    {encs : α → Array Value} {Kp : World → World → Prop} {all : List α} {N0 : Nat} (hseq : SeqZ P gf lb encs Kp all wt N0) (hN0 : N0 ≤ w.heap.size) (hwt : Below wt.heap.size wt w)
    (hps : ∀ x, (encs x).size = ps.size)
    (hKt : ∀ {A B C : World}, Kp A B → Kp B C → Kp A C) (hKb : ∀ (W : World) (l : Nat) (o o' : Obj), w.heap.size ≤ l → W.heap[l]? = some o → o.isCells = false → Kp W (W.putObj l o'))
    (hKg : ∀ A B : World, Below A.heap.size A B → Kp A B)
    (I : List α → World → Prop) (Ix : Code → List α → World → Prop) (hgrow : ∀ pre A B, I pre A → Below A.heap.size A B → I pre B)
    (hput : ∀ pre (W : World) (l : Nat) (o o' : Obj), I pre W → w.heap.size ≤ l → W.heap[l]? = some o → o.isCells = false → I pre (W.putObj l o'))
    (hputx : ∀ id pre (W : World) (l : Nat) (o o' : Obj), Ix id pre W → w.heap.size ≤ l → W.heap[l]? = some o → o.isCells = false → Ix id pre (W.putObj l o'))
    (h0 : I [] w) (A : Array Value → α → Array Value → World → Prop)
    (hAput : ∀ t x fr (W : World) (l : Nat) (o o' : Obj), A t x fr W → w.heap.size ≤ l → W.heap[l]? = some o → o.isCells = false → A t x fr (W.putObj l o'))
    (hassign : ∀ (l : Nat) (x : α) (W : World) (K : Act → World → Prop), w.heap.size + 2 ≤ W.heap.size → (∀ fr W', Below W.heap.size W W' → A a.tmps x fr W' → K { tmps := fr, defers := [] } W') →
      assign.wpIn (Fence.wide.inRound l) 7 P (Exit.then K (fun _ _ _ => False)) { tmps := (ps.zip (encs x)).foldl (fun t (p, v) => t.setIfInBounds p v) a.tmps, defers := [] } W)
    (hbody : ∀ (l : Nat) (pre : List α) (x : α) (fr : Array Value) (W : World), I pre W → pre ++ [x] <+: all → A a.tmps x fr W → w.heap.size + 2 ≤ W.heap.size → body.wpIn (Fence.wide.inRound l) 7 P (postR w.heap.size Kp I Ix (pre ++ [x]) W) { tmps := fr, defers := [] } W)
    (hdone : ∀ (D : Nat) (W : World), w.heap.size ≤ D → I all W → W.heap[D]? = some (.deferred (some [])) → Q .normal { a with defers := { target := .collected D, args := #[] } :: a.defers } W)
    (hstop : ∀ (D : Nat) (c : Code) (pre : List α) (W : World), w.heap.size ≤ D → pre <+: all → Ix c pre W → W.heap[D]? = some (.deferred (some [])) → c.wpIn Fence.wide 9 P Q { a with defers := { target := .collected D, args := #[] } :: a.defers } W) :
    (Code.rangeFunc g ps assign body).wpIn Fence.wide 9 P Q a w := by
  refine wpIn_rangeFunc ?_
  intro fn hfn
  obtain ⟨rec, hrec⟩ : ∃ rec : LoopState → Option Code → Loop, rec = fun st pe => { state := st, pending := pe, fn, tmps := a.tmps, params := ps, assign, body, defers := w.heap.size } := ⟨_, rfl⟩
  obtain ⟨W1, hW1⟩ : ∃ W1, (w.alloc (.deferred (some []))).alloc (.loop (rec .ready none)) = W1 := ⟨_, rfl⟩
  have hz1 : W1.heap.size = w.heap.size + 2 := by rw [← hW1, World.size_alloc, World.size_alloc]
  have hL1 : W1.heap[w.heap.size + 1]? = some (.loop (rec .ready none)) := by
    rw [← hW1]; have := World.alloc_heap_new (w.alloc (.deferred (some []))) (.loop (rec .ready none)); rwa [World.size_alloc] at this
  have hK1 : W1.heap[w.heap.size]? = some (.deferred (some [])) := by
    rw [← hW1]; exact (Below.heap_alloc _ _ _ (by simp)).trans (World.alloc_heap_new w _)
  have hB1 : Below w.heap.size w W1 := by
    rw [← hW1]; exact ((Below.refl _ w).alloc (Nat.le_refl _) _).alloc (by rw [World.size_alloc]; omega) _
  have hI1 : I [] W1 := hgrow _ _ _ h0 hB1
  refine ⟨w.heap.size + 1, [{ target := .collected w.heap.size, args := #[] }], W1, { target := .fn (.func gf) lb, args := #[.func (.yield (w.heap.size + 1)) #[] #[]] }, W1, gf,
    #[.func (.yield (w.heap.size + 1)) #[] #[]] ++ lb, W1, ?_, ?_, ?_, ?_, fun _ => by decide, ?_⟩
  · rw [← hW1, hrec]; exact run_enterLoop_outer _ _ _ _ _
  · simp only [resolve, hg]
    simp [go_sem]
  · intro f' hf'; exact trivial
  · simp [invoke, go_sem, eg]
  · refine (hseq (w.heap.size + 1)
      (fun pre W => I pre W ∧ W.heap[w.heap.size + 1]? = some (.loop (rec .ready none)) ∧ W.heap[w.heap.size]? = some (.deferred (some [])))
      (fun pre W => ∃ c, Ix c pre W ∧ W.heap[w.heap.size + 1]? = some (.loop (rec .done (some c))) ∧ W.heap[w.heap.size]? = some (.deferred (some [])))
      W1 (by omega) (hwt.trans (hB1.mono hwt.size)) ?_ ?_ ⟨hI1, hL1, hK1⟩).mono ?_
    · rintro pre A B ⟨hi, hl, hk⟩ hg2
      exact ⟨hgrow _ _ _ hi hg2, (hg2.block _ (Array.getElem?_eq_some_iff.1 hl).1).trans hl, (hg2.block _ (Array.getElem?_eq_some_iff.1 hk).1).trans hk⟩
    · rintro pre x W0 ⟨hi, hl, hk⟩ hpx
      have hlt : w.heap.size + 1 < W0.heap.size := (Array.getElem?_eq_some_iff.1 hl).1
      have hy := run_yield (P := P) (args := encs x) hl (by rw [hrec]; exact hps x)
      rw [hrec] at hy
      refine ⟨fn, _, assign, body, hy, roundIn_of_wpIn hfn ?_⟩
      refine hassign _ x W0 _ (by omega) ?_
      clear hy
      intro fr W hBW hA
      replace hi := hgrow _ _ _ hi hBW
      replace hl := (hBW.block _ hlt).trans hl
      replace hk := (hBW.block _ (by omega)).trans hk
      have hltW : w.heap.size + 1 < W.heap.size := Nat.lt_of_lt_of_le hlt hBW.size
      refine ⟨_, run_beginRound hl (by rw [hrec]), ?_⟩
      have hl2 : (W.putObj (w.heap.size + 1) (.loop { rec .ready none with state := .busy })).heap[w.heap.size + 1]? = some (.loop { rec .ready none with state := .busy }) := World.putObj_heap_same hltW
      have hk2 : (W.putObj (w.heap.size + 1) (.loop { rec .ready none with state := .busy })).heap[w.heap.size]? = some (.deferred (some [])) := (World.putObj_heap_other (by omega)).trans hk
      have hsz2 : (W.putObj (w.heap.size + 1) (.loop { rec .ready none with state := .busy })).heap.size = W.heap.size := by simp [World.putObj]
      refine wpIn_mono (hbody _ pre x fr _ (hput _ _ _ _ _ hi (by omega) hl rfl) hpx (hAput _ _ _ _ _ _ _ hA (by omega) hl rfl) (by rw [hsz2]; omega)) ?_
      have hkp0 : Kp W0 (W.putObj (w.heap.size + 1) (.loop { rec .ready none with state := .busy })) := hKt (hKg _ _ hBW) (hKb _ _ _ _ (by omega) hl rfl)
      have fin : ∀ (jump : Option Code) (W3 : World), KeepsFrom w.heap.size (W.putObj (w.heap.size + 1) (.loop { rec .ready none with state := .busy })) W3 →
          (Instr.endRound (w.heap.size + 1) jump).run P W3 = .ok (.bool jump.isNone) (W3.putObj (w.heap.size + 1) (.loop (rec (if jump.isNone then .ready else .done) jump))) ∧
          W3.heap[w.heap.size + 1]? = some (.loop { rec .ready none with state := .busy }) ∧
          (W3.putObj (w.heap.size + 1) (.loop (rec (if jump.isNone then .ready else .done) jump))).heap[w.heap.size + 1]? = some (.loop (rec (if jump.isNone then .ready else .done) jump)) ∧
          (W3.putObj (w.heap.size + 1) (.loop (rec (if jump.isNone then .ready else .done) jump))).heap[w.heap.size]? = some (.deferred (some [])) := fun jump W3 hk3 => by
        have hl3 := hk3.same _ _ (by omega) hl2 rfl
        have := run_endRound (P := P) jump hl3
        rw [hrec] at this ⊢
        exact ⟨this, by rw [hrec] at hl3; exact hl3, World.putObj_heap_same (Array.getElem?_eq_some_iff.1 hl3).1, (World.putObj_heap_other (by omega)).trans (hk3.same _ _ (Nat.le_refl _) hk2 rfl)⟩
      rintro e a3 W3 hp
      cases e with
      | normal =>
        obtain ⟨hk3, hkp3, hi3⟩ := hp
        obtain ⟨hr, hl3, hl4, hk4⟩ := fin none W3 hk3
        exact ⟨_, _, hr, true, rfl, fun _ => ⟨⟨hput _ _ _ _ _ hi3 (by omega) hl3 rfl, hl4, hk4⟩, hKt (hKt hkp0 hkp3) (hKb _ _ _ _ (by omega) hl3 rfl)⟩, fun h => by cases h⟩
      | exit id =>
        obtain ⟨hk3, hi3⟩ := hp
        obtain ⟨hr, hl3, hl4, hk4⟩ := fin (some (.exit id)) W3 hk3
        exact ⟨_, _, hr, false, rfl, (fun h => by cases h), fun _ => ⟨.exit id, hputx _ _ _ _ _ _ hi3 (by omega) hl3 rfl, hl4, hk4⟩⟩
      | ret =>
        obtain ⟨hk3, hi3⟩ := hp
        obtain ⟨hr, hl3, hl4, hk4⟩ := fin (some .ret) W3 hk3
        exact ⟨_, _, hr, false, rfl, (fun h => by cases h), fun _ => ⟨.ret, hputx _ _ _ _ _ _ hi3 (by omega) hl3 rfl, hl4, hk4⟩⟩
      | goto t => exact hp.elim
      | panic ch => exact hp.elim
      | outgrown => exact hp.elim
    · rintro e W2 ⟨⟨v, rfl⟩, (⟨hi, hl, hk⟩ | ⟨pre, hSp, c, hi, hl, hk⟩)⟩
      · exact ⟨none, _, by have := run_endLoop (P := P) hl (by rw [hrec]; simp); rw [hrec] at this; exact this, hdone _ _ (Nat.le_refl _) (hput _ _ _ _ _ hi (by omega) hl rfl) ((World.putObj_heap_other (by omega)).trans hk)⟩
      · exact ⟨some c, _, by have := run_endLoop (P := P) hl (by rw [hrec]; simp); rw [hrec] at this; exact this, hstop _ c pre _ (Nat.le_refl _) hSp (hputx _ _ _ _ _ _ hi (by omega) hl rfl) ((World.putObj_heap_other (by omega)).trans hk)⟩

/-- blocks of cells that lay there are as they were -/
def KpC (W W' : World) : Prop := ∀ (i : Nat) (o : Obj), W.heap[i]? = some o → o.isCells = true → W'.heap[i]? = some o
theorem KpC.refl (W : World) : KpC W W := fun _ _ h _ => h
theorem KpC.t {A B C : World} (h : KpC A B) (k : KpC B C) : KpC A C := fun i o hi hc => k i o (h i o hi hc) hc
theorem KpC.b (W : World) (l : Nat) (o o' : Obj) (h : W.heap[l]? = some o) (ho : o.isCells = false) : KpC W (W.putObj l o') := fun i p hi hc => by
  by_cases e : i = l
  · subst e; rw [hi] at h; cases h; rw [hc] at ho; cases ho
  · exact (World.putObj_heap_other e).trans hi
theorem KpC.g {A B : World} (h : Below A.heap.size A B) : KpC A B := fun i o hi _ => (h.block i (Array.getElem?_eq_some_iff.1 hi).1).trans hi
theorem KpC.turned {A B : World} {b : Nat} (h : A.mapTurned B b) : KpC A B := fun i o hi hc => by
  obtain ⟨es, clock, es', clock', hb, rfl⟩ := h
  have hne : i ≠ b := fun e => by subst e; rw [hi] at hb; cases hb; cases hc
  exact (ChangeMaps.heap_setBlock_other hb _ hne).trans hi
theorem KpC.cell {A B : World} (h : KpC A B) {g o : Nat} {v : Value} (hc : A.cell? ⟨g, o, none⟩ = some v) : B.cell? ⟨g, o, none⟩ = some v := by
  unfold World.cell? at hc ⊢
  dsimp only at hc ⊢
  cases hb : A.heap[g]? with
  | none => rw [hb] at hc; cases hc
  | some x =>
    rw [hb] at hc
    cases x with
    | cells c t f => rw [h g _ hb rfl]; exact hc
    | _ => cases hc
theorem box_at {w : World} {b : Nat} {v : Value} {t : TypeId} {fz : Nat × Nat} (h : w.heap[b]? = some (.cells #[v] t fz)) (hf : fz = (0, 0)) : w.cell? ⟨b, 0, none⟩ = some v ∧ w.frozen? ⟨b, 0, none⟩ = false := by
  subst hf
  constructor
  · unfold World.cell?; rw [h]; rfl
  · unfold World.frozen?; rw [h]; rfl
theorem lt_of_heap {w : World} {i : Nat} {o : Obj} (h : w.heap[i]? = some o) : i < w.heap.size := (Array.getElem?_eq_some_iff.1 h).1
theorem arr_set1 {W : World} {b : Nat} {v : Value} {t : TypeId} {fz : Nat × Nat} (h : W.heap[b]? = some (.cells #[v] t fz)) (u : Value) : (W.setCell ⟨b, 0, none⟩ u).heap[b]? = some (.cells #[u] t fz) := by
  have hlt : b < W.heap.size := lt_of_heap h
  obtain ⟨hlt', he⟩ := Array.getElem?_eq_some_iff.1 h
  simp only [World.setCell]
  rw [Array.getElem?_modify]
  simp [h]
def markOf (D : Nat) : Deferred := { target := .collected D, args := #[] }
theorem leaves_marks {fn : Func} {tmps : Array Value} {w : World} {R : Ending → World → Prop} (rb N : Nat) (ob : Obj) (hrb : rb < N) (hR : ∀ w', w'.heap[rb]? = some ob → Below w.heap.size w w' → LeavesInM Fence.wide 9 Tryd.prog fn tmps R [] .returning w') (hN : w.heap.size ≤ N) :
    ∀ (Ds : List Nat) (W : World), Ds.Nodup → (∀ D ∈ Ds, N ≤ D ∧ W.heap[D]? = some (.deferred (some []))) → W.heap[rb]? = some ob → Below w.heap.size w W →
      LeavesInM Fence.wide 9 Tryd.prog fn tmps R (Ds.map markOf) .returning W
  | [], W, _, _, hr, hb => hR W hr hb
  | D :: t, W, hnd, hds, hr, hb => by
    obtain ⟨hD, k⟩ := hds D (List.mem_cons_self ..)
    rw [List.nodup_cons] at hnd
    refine ⟨by simp [markOf], .inl ⟨_, _, rfl, run_takeDeferred k, ?_⟩⟩
    refine leaves_marks rb N ob hrb hR hN t _ hnd.2 (fun D' h' => ?_) ?_ ?_
    · obtain ⟨h1, h2⟩ := hds D' (List.mem_cons_of_mem _ h')
      exact ⟨h1, (World.putObj_heap_other (show D' ≠ D from fun e => hnd.1 (by rw [← e]; exact h'))).trans h2⟩
    · exact (World.putObj_heap_other (by omega)).trans hr
    · exact hb.trans (belowK_b (w := w) (Nat.le_refl _) W D _ (.deferred none) (by omega) k rfl rfl)
theorem CellsAt.kpc {A B : World} {g p : Nat} {cs : List Value} (h : CellsAt A g p cs) (k : KpC A B) : CellsAt B g p cs := fun i v hv => k.cell (h i v hv)
theorem lt_of_cell {A : World} {g o : Nat} {v : Value} (hc : A.cell? ⟨g, o, none⟩ = some v) : g < A.heap.size := by
  unfold World.cell? at hc
  dsimp only at hc
  cases hb : A.heap[g]? with
  | none => rw [hb] at hc; cases hc
  | some x => exact (Array.getElem?_eq_some_iff.1 hb).1
theorem BodAt.kpc {A B : World} {a : Option Addr} {L : List Pa} (h : BodAt A a L) (k : KpC A B) : BodAt B a L := fun j hj => by
  obtain ⟨g, o, e, hg, hc⟩ := h j hj
  exact ⟨g, o, e, lt_of_cell (k.cell (hc 0 _ rfl)), hc.kpc k⟩

section
variable {F : Fence} {n : Nat} {P : Program} {ops : Array Oper} {rest : List Oper} {o : Oper} {a : Act} {w : World} {Q : Exit → Act → World → Prop}
theorem wpListIn_load_is (hg : o.guard = none) (ty : TypeId) (x : Operand) (hop : o.op = .load ty x) (ad : Addr) (hx : a.eval x = .pointer (some ad)) (v : Value) (hl : (loadVar ty ad).run P w = .ok v w)
    (h : wpListIn F n P ops Q rest (a.put o.dst v) w) : wpListIn F n P ops Q (o :: rest) a w := by
  refine wpListIn_plain hg fun K' hK' => ?_
  unfold Oper.wpIn
  refine ⟨by simp [Oper.about, hop], ?_⟩
  rw [Oper.semAt_plain F _ _ (by rw [hop]; intro c hc'; cases hc')]
  simp [execOp, hop, hx, Instr.loadAt, Instr.sureAddr, hl, Result.andThen]
  exact hK' _ _ h
theorem wpListIn_store_is (hg : o.guard = none) (ty : TypeId) (x y : Operand) (hop : o.op = .store ty x y) (ad : Addr) (hx : a.eval x = .pointer (some ad)) (v : Value) (hy : a.eval y = v) (w' : World) (hl : (storeVar ty ad v).run P w = .ok () w')
    (h : wpListIn F n P ops Q rest (a.put o.dst undef) w') : wpListIn F n P ops Q (o :: rest) a w := by
  refine wpListIn_plain hg fun K' hK' => ?_
  unfold Oper.wpIn
  refine ⟨by simp [Oper.about, hop], ?_⟩
  rw [Oper.semAt_plain F _ _ (by rw [hop]; intro c hc'; cases hc')]
  simp [execOp, hop, hx, hy, Instr.storeAt, Instr.sureAddr, hl, Result.andThen]
  exact hK' _ _ h
theorem wpList_store_is (hg : o.guard = none) (ty : TypeId) (x y : Operand) (hop : o.op = .store ty x y) (ad : Addr) (hx : a.eval x = .pointer (some ad)) (v : Value) (hy : a.eval y = v) (w' : World) (hl : (storeVar ty ad v).run P w = .ok () w')
    (h : wpList P ops Q rest (a.put o.dst undef) w') : wpList P ops Q (o :: rest) a w := by
  refine wpList_plain hg fun K hK => ?_
  unfold Oper.wp execOp
  simp only [hop, hx, hy, Instr.storeAt, Instr.sureAddr, Sem.run_bind, Sem.run_pure, Result.andThen_ok, hl]
  exact hK _ _ h
end
end Go.Proofs.YtmgaibeibfholaaDoor
