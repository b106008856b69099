/- Layer 14: a range over a function that hands over bindings; its blocks of its own. -/
import Derived.Test.YtkgkkbfpkgfcaaaJ16
import Derived.Test.YtkgkkbfpkgfcaaaT19
import Derived.Test.YtkgkkbfpkgfcaaaJ12
import Derived.BigQuiet
import Derived.WalkSmall
namespace Go.Proofs.Ytkgkkbfpkgfcaaa
set_option maxRecDepth 100000
open Go.RowKit Go.Maps
set_option linter.unusedVariables false
set_option linter.unusedSimpArgs false

theorem own_anyJ' {w : World} {B e size n : Nat} {v : Value} {xs : List Value} (h : w.ownsRow B e size v n xs) : ∃ a n c, v = .slice a n c := by
  obtain ⟨a, c, h⟩ := own_anyJ h
  exact ⟨a, n, c, h⟩
/-- an iterator that goes over bindings -/
def SeqX (P : Program) (g : Nat) (lb : Array Value) (wt : World) (outs : List (List Int)) : Prop :=
  ∀ (l : Nat) (J : List OutT → (Nat → Prop) → World → Prop) (Jx : List OutT → World → Prop) (W : World), wt.heap.size ≤ W.heap.size → (∀ i, i < wt.heap.size → W.heap[i]? = wt.heap[i]?) →
    YieldsX P (.func (.yield l) #[] #[]) wt.heap.size outs J Jx → J [] (fun _ => False) W →
    Calls P g (#[.func (.yield l) #[] #[]] ++ lb) W fun e W' => (∃ v, e = .returned v) ∧ ((∃ pre X, pre.map (·.2) = outs ∧ J pre X W') ∨ ∃ pre, pre.map (·.2) <+: outs ∧ Jx pre W')
theorem RoundIn.wide {n m : Nat} {P : Program} {l : Nat} {f : FuncId} {tmps : Array Value} {assign body : Code} {w : World} {R : Ending → World → Prop} (h : RoundIn Fence.wide n P l f tmps assign body w R) : RoundIn Fence.wide m P l f tmps assign body w R :=
  ⟨h.1, fun c cs _ => h.2 c cs (room_wide _)⟩
theorem KpX.put {N : Nat} {X : Nat → Prop} (W : World) (l : Nat) (o : Obj) (hN : N ≤ l) (hX : ¬ X l) : KpX N X W (W.putObj l o) := by
  have hs : (W.putObj l o).heap.size = W.heap.size := by simp [World.putObj]
  exact ⟨by rw [hs]; exact Nat.le_refl _, fun i hi => World.putObj_heap_other (fun e => by subst e; rcases hi with h | h; omega; exact hX h)⟩
theorem KpX.trans {N : Nat} {X : Nat → Prop} {A B C : World} (h : KpX N X A B) (k : KpX N X B C) : KpX N X A C := ⟨Nat.le_trans h.size k.size, fun i hi => (k.same i hi).trans (h.same i hi)⟩
/-- how the body of a round may be left -/
def postX (B N : Nat) (X : Nat → Prop) (I : List OutT → (Nat → Prop) → World → Prop) (Ix : Code → List OutT → World → Prop) (xs : List OutT) (W : World) : Exit → Act → World → Prop
  | .normal, _, W' => KeepsFrom B W W' ∧ KpX N X W W' ∧ I xs X W'
  | .ret, _, W' => KeepsFrom B W W' ∧ Ix .ret xs W'
  | .exit id, _, W' => KeepsFrom B W W' ∧ Ix (.exit id) xs W'
  | .goto t, _, W' => KeepsFrom B W W' ∧ Ix (.goto t) xs W'
  | _, _, _ => False
set_option maxHeartbeats 1000000 in
theorem wp_rangeFunc_X {P : Program} {w wt : World} {g : Operand} {q : Nat} {assign body : Code} {Q : Exit → Act → World → Prop} {a : Act} (f : Array Value → Value → Array Value)
    {gf : Nat} {lb : Array Value} (hg : a.eval g = .func (.func gf) #[] lb) (eg : ∀ args w, (callFunc gf args).run P w = .ok (.enter gf args) w)
    {outs : List (List Int)} (hseq : SeqX P gf lb wt outs) (hwt : wt.heap.size ≤ w.heap.size) (hwk : ∀ i, i < wt.heap.size → w.heap[i]? = wt.heap[i]?)
    (I : List OutT → (Nat → Prop) → World → Prop) (Ix : Code → List OutT → World → Prop)
    (hgrow : ∀ pre X X' A B, I pre X A → GrX X A B → (∀ i, X' i → X i ∨ A.heap.size ≤ i) → I pre X' B)
    (hput : ∀ pre X W l o o', I pre X W → w.heap.size ≤ l → W.heap[l]? = some o → o.isCells = false → I pre X (W.putObj l o'))
    (hputx : ∀ c pre W l o o', Ix c pre W → w.heap.size ≤ l → W.heap[l]? = some o → o.isCells = false → Ix c pre (W.putObj l o'))
    (h0 : I [] (fun _ => False) w)
    (hassign : ∀ (l : Nat) (sv : Value) (W : World) (K : Act → World → Prop), (∃ a n c, sv = .slice a n c) → K { tmps := f a.tmps sv, defers := [] } W →
      assign.wpIn (Fence.wide.inRound l) 8 P (Exit.then K (fun _ _ _ => False)) { tmps := a.tmps.setIfInBounds q sv, defers := [] } W)
    (hbody : ∀ (l : Nat) (pre : List OutT) (X : Nat → Prop) (sv : Value) (b : List Int) (W : World), I pre X W → (∀ i, X i → w.heap.size + 2 ≤ i ∧ i < W.heap.size) → w.heap.size + 2 ≤ W.heap.size → IsOut (w.heap.size + 2) W sv b → (∀ g, sv.ownBlock = some g → ¬ X g) →
      pre.map (·.2) ++ [b] <+: outs → w.heap.size ≤ l → (∃ r, W.heap[l]? = some (.loop r)) → body.wpIn (Fence.wide.inRound l) 8 P (postX w.heap.size wt.heap.size X I Ix (pre ++ [(sv, b)]) W) { tmps := f a.tmps sv, defers := [] } W)
    (hdone : ∀ (D : Nat) (pre : List OutT) (X : Nat → Prop) (W : World), w.heap.size ≤ D → pre.map (·.2) = outs → I pre X W → W.heap[D]? = some (.deferred (some [])) → Q .normal { a with defers := { target := .collected D, args := #[] } :: a.defers } W)
    (hstop : ∀ (D : Nat) (c : Code) (pre : List OutT) (W : World), w.heap.size ≤ D → pre.map (·.2) <+: outs → Ix c pre W → W.heap[D]? = some (.deferred (some [])) → c.wpIn Fence.wide 9 P Q { a with defers := { target := .collected D, args := #[] } :: a.defers } W) :
    (Code.rangeFunc g #[q] assign body).wpIn Fence.wide 9 P Q a w := by
  refine wpIn_rangeFunc ?_
  intro fn hfn
  obtain ⟨rec, hrec⟩ : ∃ rec : LoopState → Option Code → Loop, rec = fun st pe => { state := st, pending := pe, fn, tmps := a.tmps, params := #[q], assign, body, defers := w.heap.size } := ⟨_, rfl⟩
  obtain ⟨W1, hW1⟩ : ∃ W1, (w.alloc (.deferred (some []))).alloc (.loop (rec .ready none)) = W1 := ⟨_, rfl⟩
  have hz1 : W1.heap.size = w.heap.size + 2 := by rw [← hW1, World.size_alloc, World.size_alloc]
  have hL1 : W1.heap[w.heap.size + 1]? = some (.loop (rec .ready none)) := by
    rw [← hW1]; have := World.alloc_heap_new (w.alloc (.deferred (some []))) (.loop (rec .ready none)); rwa [World.size_alloc] at this
  have hK1 : W1.heap[w.heap.size]? = some (.deferred (some [])) := by
    rw [← hW1]; exact (Below.heap_alloc _ _ _ (by simp)).trans (World.alloc_heap_new w _)
  have hI1 : I [] (fun _ => False) W1 := by
    rw [← hW1]
    exact hgrow _ _ _ _ _ h0 (GrX.below (((Below.refl _ w).alloc (Nat.le_refl _) _).alloc (by rw [World.size_alloc]; omega) _)) (fun _ h => h.elim)
  refine ⟨w.heap.size + 1, [{ target := .collected w.heap.size, args := #[] }], W1, { target := .fn (.func gf) lb, args := #[.func (.yield (w.heap.size + 1)) #[] #[]] }, W1, gf,
    #[.func (.yield (w.heap.size + 1)) #[] #[]] ++ lb, W1, ?_, ?_, ?_, ?_, fun _ => by decide, ?_⟩
  · rw [← hW1, hrec]; exact run_enterLoop_outer _ _ _ _ _
  · simp only [resolve, hg]
    simp [go_sem]
  · intro f' hf'; exact trivial
  · simp [invoke, go_sem, eg]
  · refine callsIn_wide.2 ?_
    have hb1 : ∀ i, i < w.heap.size → W1.heap[i]? = w.heap[i]? := by
      intro i hi
      rw [← hW1, Below.heap_alloc _ _ _ (by rw [World.size_alloc]; omega), Below.heap_alloc _ _ _ (by omega)]
    refine (hseq (w.heap.size + 1)
      (fun pre X W => I pre X W ∧ W.heap[w.heap.size + 1]? = some (.loop (rec .ready none)) ∧ W.heap[w.heap.size]? = some (.deferred (some [])) ∧ (∀ i, X i → w.heap.size + 2 ≤ i))
      (fun pre W => ∃ c, Ix c pre W ∧ W.heap[w.heap.size + 1]? = some (.loop (rec .done (some c))) ∧ W.heap[w.heap.size]? = some (.deferred (some [])))
      W1 (by omega) (fun i hi => (hb1 i (by omega)).trans (hwk i hi)) ⟨?_, ?_⟩ ⟨hI1, hL1, hK1, fun i hi => hi.elim⟩).mono ?_
    · rintro pre X X' A B ⟨hi, hl, hk, hx⟩ hg2 hX'
      have hla := (Array.getElem?_eq_some_iff.1 hl).1
      exact ⟨hgrow _ _ _ _ _ hi hg2 hX', (hg2.block _ hla (fun h => by have := hx _ h; omega)).trans hl, (hg2.block _ (by omega) (fun h => by have := hx _ h; omega)).trans hk,
        fun i hi' => (hX' i hi').elim (hx i) (fun h => by omega)⟩
    · -- one round
      rintro pre X A W sv b ⟨hi, hl, hk, hx⟩ hXA hB hio hpx
      refine .inl ⟨_, rfl, ?_⟩
      have hla : w.heap.size + 1 < A.heap.size := (Array.getElem?_eq_some_iff.1 hl).1
      have hlt : w.heap.size + 1 < W.heap.size := Nat.lt_of_lt_of_le hla hB.size
      replace hl := (hB.block _ hla).trans hl
      replace hk := (hB.block _ (show w.heap.size < A.heap.size by omega)).trans hk
      replace hi := hgrow _ _ X _ _ hi (GrX.below hB) (fun _ h => .inl h)
      have hnX : ∀ g, sv.ownBlock = some g → ¬ X g := fun g hg hx' => by
        have := (own_ltJ hio g hg).1
        have := hXA g hx'
        omega
      have hio2 : IsOut (w.heap.size + 2) W sv b := own_mono hio (by omega)
      have hy := run_yield (P := P) (args := #[sv]) hl (by rw [hrec]; rfl)
      rw [hrec] at hy
      refine ⟨fn, _, assign, body, hy, roundIn_of_wpIn hfn ?_⟩
      have e0 : (#[q].zip #[sv]).foldl (fun t (p, v) => t.setIfInBounds p v) a.tmps = a.tmps.setIfInBounds q sv := by simp
      rw [e0]
      refine hassign _ sv W _ (own_anyJ' hio) ?_
      clear hy
      refine ⟨_, run_beginRound hl (by rw [hrec]), ?_⟩
      have hl2 : (W.putObj (w.heap.size + 1) (.loop { rec .ready none with state := .busy })).heap[w.heap.size + 1]? = some (.loop { rec .ready none with state := .busy }) := World.putObj_heap_same hlt
      have hk2 : (W.putObj (w.heap.size + 1) (.loop { rec .ready none with state := .busy })).heap[w.heap.size]? = some (.deferred (some [])) := (World.putObj_heap_other (by omega)).trans hk
      have hsz2 : (W.putObj (w.heap.size + 1) (.loop { rec .ready none with state := .busy })).heap.size = W.heap.size := by simp [World.putObj]
      have hXl : ∀ l, l < w.heap.size + 2 → ¬ X l := fun l hl' hx' => by have := hx _ hx'; omega
      have hio3 : IsOut (w.heap.size + 2) (W.putObj (w.heap.size + 1) (.loop { rec .ready none with state := .busy })) sv b := jown_blk hio2 (fun g hg => World.putObj_heap_other (by have := (own_ltJ hio2 g hg).1; omega))
      refine wpIn_mono (hbody _ pre X sv b _ (hput _ _ _ _ _ _ hi (by omega) hl rfl) (fun i hi' => ⟨hx i hi', by rw [hsz2]; exact Nat.lt_of_lt_of_le (hXA i hi') hB.size⟩) (by rw [hsz2]; omega) hio3 hnX hpx (by omega) ⟨_, hl2⟩) ?_
      have hkp0 : KpX wt.heap.size X W (W.putObj (w.heap.size + 1) (.loop { rec .ready none with state := .busy })) := KpX.put _ _ _ (by omega) (hXl _ (by omega))
      have fin : ∀ (jump : Option Code) (W3 : World), KeepsFrom w.heap.size (W.putObj (w.heap.size + 1) (.loop { rec .ready none with state := .busy })) W3 →
          (Instr.endRound (w.heap.size + 1) jump).run P W3 = .ok (.bool jump.isNone) (W3.putObj (w.heap.size + 1) (.loop (rec (if jump.isNone then .ready else .done) jump))) ∧
          W3.heap[w.heap.size + 1]? = some (.loop { rec .ready none with state := .busy }) ∧
          (W3.putObj (w.heap.size + 1) (.loop (rec (if jump.isNone then .ready else .done) jump))).heap[w.heap.size + 1]? = some (.loop (rec (if jump.isNone then .ready else .done) jump)) ∧
          (W3.putObj (w.heap.size + 1) (.loop (rec (if jump.isNone then .ready else .done) jump))).heap[w.heap.size]? = some (.deferred (some [])) := fun jump W3 hk3 => by
        have hl3 := hk3.same _ _ (by omega) hl2 rfl
        have := run_endRound (P := P) jump hl3
        rw [hrec] at this ⊢
        exact ⟨this, by rw [hrec] at hl3; exact hl3, World.putObj_heap_same (Array.getElem?_eq_some_iff.1 hl3).1, (World.putObj_heap_other (by omega)).trans (hk3.same _ _ (Nat.le_refl _) hk2 rfl)⟩
      rintro e a3 W3 hp
      cases e with
      | normal =>
        obtain ⟨hk3, hkp3, hi3⟩ := hp
        obtain ⟨hr, hl3, hl4, hk4⟩ := fin none W3 hk3
        exact ⟨_, _, hr, .inl ⟨rfl, ⟨hput _ _ _ _ _ _ hi3 (by omega) hl3 rfl, hl4, hk4, hx⟩, (hkp0.trans hkp3).trans (KpX.put _ _ _ (by omega) (hXl _ (by omega)))⟩⟩
      | ret =>
        obtain ⟨hk3, hi3⟩ := hp
        obtain ⟨hr, hl3, hl4, hk4⟩ := fin (some .ret) W3 hk3
        exact ⟨_, _, hr, .inr ⟨rfl, .ret, hputx _ _ _ _ _ _ hi3 (by omega) hl3 rfl, hl4, hk4⟩⟩
      | exit id =>
        obtain ⟨hk3, hi3⟩ := hp
        obtain ⟨hr, hl3, hl4, hk4⟩ := fin (some (.exit id)) W3 hk3
        exact ⟨_, _, hr, .inr ⟨rfl, .exit id, hputx _ _ _ _ _ _ hi3 (by omega) hl3 rfl, hl4, hk4⟩⟩
      | goto t =>
        obtain ⟨hk3, hi3⟩ := hp
        obtain ⟨hr, hl3, hl4, hk4⟩ := fin (some (.goto t)) W3 hk3
        exact ⟨_, _, hr, .inr ⟨rfl, .goto t, hputx _ _ _ _ _ _ hi3 (by omega) hl3 rfl, hl4, hk4⟩⟩
      | panic ch => exact hp.elim
      | outgrown => exact hp.elim
    · -- behind the iterator
      rintro e W2 ⟨⟨v, rfl⟩, (⟨pre, X, hp, hi, hl, hk, _⟩ | ⟨pre, hSp, c, hi, hl, hk⟩)⟩
      · exact ⟨none, _, by have := run_endLoop (P := P) hl (by rw [hrec]; simp); rw [hrec] at this; exact this, hdone _ _ _ _ (Nat.le_refl _) hp (hput _ _ _ _ _ _ hi (by omega) hl rfl) ((World.putObj_heap_other (by omega)).trans hk)⟩
      · exact ⟨some c, _, by have := run_endLoop (P := P) hl (by rw [hrec]; simp); rw [hrec] at this; exact this, hstop _ c pre _ (Nat.le_refl _) hSp (hputx _ _ _ _ _ _ hi (by omega) hl rfl) ((World.putObj_heap_other (by omega)).trans hk)⟩
end Go.Proofs.Ytkgkkbfpkgfcaaa

namespace Go.Proofs.Ytkgkkbfpkgfcaaa
set_option maxRecDepth 100000
open Go.RowKit Go.Maps
set_option linter.unusedVariables false
set_option linter.unusedSimpArgs false

/-- a plan's cells -/
def planC (h0 h1 h2 h3 h4 h5 : Int) (sa : Option Addr) (n cap : Nat) (vars : Int) : Array Value := #[.int .i64 h0, .int .u32 h1, .int .i64 h2, .int .u32 h3, .int .i64 h4, .int .u32 h5, .slice sa n cap, .int .i64 vars]
def runEvs (T : TS) (vars : Int) (steps : List StepT) (views : List Vw) : List (Option (List Int)) := evs T (steps.zip (extV (0, (T.length : Int), 3) steps views)) (List.replicate vars.toNat 0)
def runOuts (T : TS) (vars : Int) (steps : List StepT) (views : List Vw) : List (List Int) := if mayP vars steps then outsE (runEvs T vars steps views) else []
/-- what Run and Steps ask of a plan -/
structure PlanOK (T : TS) (vars : Int) (steps : List StepT) (views : List Vw) : Prop where
  n : steps.length ≤ 1000000
  nv : views.length ≤ 1000000
  vle : vars ≤ 1000
  s64 : ∀ s ∈ steps, is64S s
  i32 : ∀ s ∈ steps, is32 s.r0.2 ∧ is32 s.r1.2 ∧ is32 s.r2.2
  looks : looksE (runEvs T vars steps views) ≤ 1000000
theorem extV_len (d : Vw) : ∀ (steps : List StepT) (vs : List Vw), (extV d steps vs).length = steps.length
  | [], _ => rfl
  | s :: t, vs => by
    unfold extV
    split <;> simp [extV_len d t]
theorem mayG_ok {vars : Int} : ∀ {steps : List StepT} {kn : Int → Bool}, mayG vars steps kn = true → ∀ s ∈ steps, 1 ≤ s.kind ∧ s.kind ≤ 4 ∧ (∀ x ∈ plsOf s, x.1 < vars)
  | [], _, _, s, hs => by simp at hs
  | s :: t, kn, h, s', hs => by
    simp only [mayG, Bool.and_eq_true, decide_eq_true_eq] at h
    rcases List.mem_cons.1 hs with rfl | hs
    · refine ⟨h.1.1, h.1.2, fun x hx => ?_⟩
      have := List.all_eq_true.1 h.2.1 x hx
      simp only [okP, Bool.and_eq_true, Bool.not_eq_true', decide_eq_false_iff_not] at this
      omega
    · exact mayG_ok h.2.2 s' hs
theorem IsViews.low {A B : World} {sa : Option Addr} {l : List Vw} (h : IsViews A sa l) (hs : A.heap.size ≤ B.heap.size) (hl : ∀ i, i < A.heap.size → B.heap[i]? = A.heap[i]?) : IsViews B sa l := fun i hi => by
  obtain ⟨sb, so, h1, h2⟩ := h i hi
  have e : ∀ {o : Nat} {v : Value}, A.cell? ⟨sb, o, none⟩ = some v → B.cell? ⟨sb, o, none⟩ = some v := fun {o v} hc => (World.cell?_of_block (w := A) (a := ⟨sb, o, none⟩) (hl sb h2.lt)).trans hc
  exact ⟨sb, so, h1, Nat.lt_of_lt_of_le h2.lt hs, e h2.c0, e h2.c1, e h2.c2⟩
/-- run, as it stands behind begin -/
theorem RS.begun {Z : Zone} {wt W1 W2 : World} {tb wb vb : Nat} {h0 h1 h2 h3 h4 h5 : Int} {sa : Option Addr} {cap vars : Nat} {steps : List StepT} {vws : List Vw} {v : Value}
    (hlow : ∀ i, i < wt.heap.size → W1.heap[i]? = wt.heap[i]?) (hsz : wt.heap.size ≤ W1.heap.size) (hB : Below W1.heap.size W1 W2) (hwb : W1.heap.size ≤ wb) (hvb : W1.heap.size ≤ vb)
    (hw : W2.heap[wb]? = some (.cells #[.pointer (some ⟨tb, 0, none⟩), .int .i64 h0, .int .u32 h1, .int .i64 h2, .int .u32 h3, .int .i64 h4, .int .u32 h5, .slice sa steps.length cap, .int .i64 (vars : Nat), v, .slice (some ⟨vb, 0, none⟩) vars vars, .int .i64 (0 : Int)] 79 (0, 0)))
    (hv : W2.heap[vb]? = some (.cells (uvs (List.replicate vars 0)) 23 (0, 0))) (ho : W2.ownsRow W1.heap.size 42 3 v steps.length (vcs vws)) :
    RS ⟨wt, tb, wb, vb, h0, h1, h2, h3, h4, h5, sa, cap, vars, steps, vws, v⟩ (fun i => W1.heap.size ≤ i ∧ i < W2.heap.size) W2 (List.replicate vars 0) 0 (.slice none 0 0) [] := by
  have hwl := (Array.getElem?_eq_some_iff.1 hw).1
  have hvl := (Array.getElem?_eq_some_iff.1 hv).1
  exact {
    rb := {
      low := fun i hi => (hB.block i (Nat.lt_of_lt_of_le hi hsz)).trans (hlow i hi)
      lows := Nat.le_trans hsz hB.size
      vw := own_mono ho hsz
      vwX := fun g hg => by
        obtain ⟨h3, cur, fz, h4⟩ := own_ltJ ho g hg
        exact ⟨h3, (Array.getElem?_eq_some_iff.1 h4).1⟩
      lev := fun y hy => by simp at hy
      xs := fun i hi => ⟨Nat.le_trans hsz hi.1, hi.2⟩ }
    wk := hw
    wbX := ⟨hwb, hwl⟩
    va := hv
    vbX := ⟨hvb, hvl⟩
    vlen := List.length_replicate
    v32 := fun x hx => by
      rw [List.mem_replicate] at hx
      rw [hx.2]
      exact ⟨by decide, by decide⟩
    sk := World.ownsRow_nil _ _ _ _
    skX := fun g hg => by simp [Value.ownBlock] at hg
    ch := trivial }
theorem PlanOK.run {T : TS} {vars : Nat} {steps : List StepT} {views : List Vw} (h : PlanOK T vars steps views) (hm : mayP vars steps = true) {wt : World} {tb wb vb : Nat} {h0 h1 h2 h3 h4 h5 : Int} {sa : Option Addr} {cap : Nat} {v : Value} (hst : IsSteps wt sa steps) :
    RunOK ⟨wt, tb, wb, vb, h0, h1, h2, h3, h4, h5, sa, cap, vars, steps, extV (0, (T.length : Int), 3) steps views, v⟩ := by
  have hv := h.vle
  simp only [mayP, Bool.and_eq_true] at hm
  exact { n := h.n, vl := extV_len _ _ _, vars := by show vars ≤ 1000000; omega, st := hst, ok := mayG_ok hm.2, i32 := h.i32 }
section
variable {Z : Zone} {wt : World} {tb B : Nat} {T : TS} {D : TabD}
set_option maxRecDepth 100000 in
set_option maxHeartbeats 4000000 in
theorem run1_any (ht : IsT Z wt tb T D) (h0 h1 h2 h3 h4 h5 : Int) (sa va : Option Addr) (cap vcap : Nat) (vars : Int) (steps : List StepT) (views : List Vw) (hst : IsSteps wt sa steps) (hvw : IsViews wt va views) (hok : PlanOK T vars steps views)
    (hb0 : wt.heap[B]? = some (.cells #[.pointer (some ⟨tb, 0, none⟩)] 36 (0, 0))) (hb1 : wt.heap[B + 1]? = some (.cells (planC h0 h1 h2 h3 h4 h5 sa steps.length cap vars) 29 (0, 0))) (hb2 : wt.heap[B + 2]? = some (.cells #[.slice va views.length vcap] 39 (0, 0))) :
    SeqX Try.prog 22 #[.pointer (some ⟨B + 1, 0, none⟩), .pointer (some ⟨B, 0, none⟩), .pointer (some ⟨B + 2, 0, none⟩)] wt (runOuts T vars steps views) := by
  intro l J Jx W hsz hlow hY hJ
  have hlt : B + 2 < wt.heap.size := (Array.getElem?_eq_some_iff.1 hb2).1
  have hc0 : ∀ W1 : World, Below W.heap.size W W1 → W1.cell? ⟨B, 0, none⟩ = some (.pointer (some ⟨tb, 0, none⟩)) ∧ W1.cell? ⟨B + 2, 0, none⟩ = some (.slice va views.length vcap) := by
    intro W1 h1
    unfold World.cell?
    rw [h1.block B (by omega), h1.block (B + 2) (by omega), hlow B (by omega), hlow (B + 2) (by omega), hb0, hb2]
    exact ⟨rfl, rfl⟩
  have hc1 : ∀ W1 : World, Below W.heap.size W W1 → W1.cell? ⟨B + 1, 0, none⟩ = some (.int .i64 h0) ∧ W1.cell? ⟨B + 1, 1, none⟩ = some (.int .u32 h1) ∧ W1.cell? ⟨B + 1, 2, none⟩ = some (.int .i64 h2) ∧ W1.cell? ⟨B + 1, 3, none⟩ = some (.int .u32 h3) ∧ W1.cell? ⟨B + 1, 4, none⟩ = some (.int .i64 h4) ∧ W1.cell? ⟨B + 1, 5, none⟩ = some (.int .u32 h5) ∧ W1.cell? ⟨B + 1, 6, none⟩ = some (.slice sa steps.length cap) ∧ W1.cell? ⟨B + 1, 7, none⟩ = some (.int .i64 vars) := by
    intro W1 h1
    unfold World.cell?
    rw [h1.block (B + 1) (by omega), hlow (B + 1) (by omega), hb1]
    exact ⟨rfl, rfl, rfl, rfl, rfl, rfl, rfl, rfl⟩
  obtain ⟨a0, a1, a2, a3, a4, a5, a6, a7⟩ := hc1 W (Below.refl _ _)
  have HT := Lib.hid ht; have Hst := Lib.hid hst; have Hvw := Lib.hid hvw; have Hok := Lib.hid hok; have HY := Lib.hid hY; have HJ := Lib.hid hJ; have Hlow := Lib.hid hlow; have Hc0 := Lib.hid hc0; have Hc1 := Lib.hid hc1
  obtain ⟨n, hn⟩ : ∃ n, steps.length = n := ⟨_, rfl⟩
  obtain ⟨nv, hnv⟩ : ∃ nv, views.length = nv := ⟨_, rfl⟩
  rw [hn] at a6
  have Hn := Lib.hid hn; have Hnv := Lib.hid hnv
  clear ht hst hvw hok hY hJ hlow hc0 hc1 hb0 hb1 hb2 hn hnv
  go_enter Try.func22, Try.ntmps22
  go_wp2_with fail
  rw [← Hn.out]
  refine (may_any h0 h1 h2 h3 h4 h5 sa cap vars steps (Hst.out.low hsz Hlow.out) Hok.out.n Hok.out.s64).mono ?_
  rintro e W1 ⟨rfl, hB1⟩
  have HB1 := Lib.hid hB1
  obtain ⟨q, hq⟩ : ∃ q, mayP vars steps = q := ⟨_, rfl⟩
  rw [hq]
  have Hq := Lib.hid hq
  obtain ⟨b0, b2⟩ := Hc0.out W1 hB1
  obtain ⟨d0, d1, d2, d3, d4, d5, d6, d7⟩ := Hc1.out W1 hB1
  rw [Hn.out] at d6
  rw [Hnv.out] at b2
  clear hB1 hq a0 a1 a2 a3 a4 a5 a6 a7
  cases q with
  | false =>
    go_wp2_with fail
    go_end0
    refine ⟨⟨_, rfl⟩, .inl ⟨[], fun _ => False, ?_, HY.out.grow _ _ _ _ _ HJ.out (GrX.below HB1.out) (fun _ h => .inl h)⟩⟩
    unfold runOuts
    rw [if_neg (by rw [Hq.out]; simp)]
    rfl
  | true =>
    have hv0 : 0 ≤ vars := by
      have := Hq.out
      simp only [mayP, Bool.and_eq_true, decide_eq_true_eq] at this
      exact this.1
    obtain ⟨vn, rfl⟩ : ∃ vn : Nat, vars = vn := ⟨vars.toNat, by omega⟩
    clear hv0
    go_wp2_with fail
    rw [← Hn.out, ← Hnv.out]
    have hl1 : ∀ i, i < wt.heap.size → W1.heap[i]? = wt.heap[i]? := fun i hi => (HB1.out.block i (by omega)).trans (Hlow.out i hi)
    have hs1 : wt.heap.size ≤ W1.heap.size := Nat.le_trans hsz HB1.out.size
    refine (begin_any (HT.out.blocks hl1) h0 h1 h2 h3 h4 h5 sa cap vn steps (Hst.out.low hs1 hl1) Hok.out.n (by have := Hok.out.vle; omega) va vcap views (Hvw.out.low hs1 hl1) Hok.out.nv).mono ?_
    rintro e W2 ⟨wb, vb, v, rfl, hB2, hwb, hvb, hne, hw, hv, ho⟩
    have hrs := RS.begun (Z := Z) hl1 hs1 hB2 hwb hvb hw hv ho
    have hj2 := HY.out.grow _ _ (fun i => W1.heap.size ≤ i ∧ i < W2.heap.size) _ _ HJ.out (GrX.below (HB1.out.trans (hB2.mono HB1.out.size))) (fun i hi => .inr (by have := HB1.out.size; omega))
    have hrok := Hok.out.run Hq.out (tb := tb) (wb := wb) (vb := vb) (h0 := h0) (h1 := h1) (h2 := h2) (h3 := h3) (h4 := h4) (h5 := h5) (cap := cap) (v := v) Hst.out
    have hyes : runOuts T vn steps views = outsE (runEvs T vn steps views) := by unfold runOuts; rw [if_pos Hq.out]
    have hY2 := HY.out
    rw [hyes] at hY2
    have hrun := run_any (E := ⟨wt, tb, wb, vb, h0, h1, h2, h3, h4, h5, sa, cap, vn, steps, extV (0, (T.length : Int), 3) steps views, v⟩) (L0 := List.replicate vn 0) HT.out hrok (.func (.yield l) #[] #[]) (-1) (outsE (runEvs T vn steps views)) J Jx hY2 hrs hj2 rfl Hok.out.looks (.inl (by decide))
    have Hrun := Lib.hid hrun; have Hyes := Lib.hid hyes
    clear hl1 hs1 hB2 hwb hvb hne hw hv ho hrs hj2 hrok hyes hY2 hrun b0 b2 d0 d1 d2 d3 d4 d5 d6 d7
    go_wp2_with fail
    refine Hrun.out.mono ?_
    rintro e W3 ⟨rfl, hpost⟩
    have Hpost := Lib.hid hpost
    clear hpost
    go_wp2_with fail
    go_end0
    refine ⟨⟨_, rfl⟩, ?_⟩
    rcases Hpost.out with ⟨pre, X', L', sv', h6, h7, _⟩ | ⟨pre, h6, h7⟩
    · exact .inl ⟨pre, X', by rw [Hyes.out]; exact h6, h7⟩
    · exact .inr ⟨pre, by rw [Hyes.out]; exact h6, h7⟩
set_option maxRecDepth 100000 in
set_option maxHeartbeats 1000000 in
theorem Run_any (w : World) (tb : Nat) (h0 h1 h2 h3 h4 h5 : Int) (sa va : Option Addr) (n cap nv vcap : Nat) (vars : Int) :
    Calls Try.prog 11 #[.pointer (some ⟨tb, 0, none⟩), .agg (planC h0 h1 h2 h3 h4 h5 sa n cap vars), .slice va nv vcap] w fun e w' =>
      e = .returned (.func (.func 22) #[] #[.pointer (some ⟨w.heap.size + 1, 0, none⟩), .pointer (some ⟨w.heap.size, 0, none⟩), .pointer (some ⟨w.heap.size + 2, 0, none⟩)]) ∧
      Below w.heap.size w w' ∧ w'.heap.size = w.heap.size + 3 ∧ w'.heap[w.heap.size]? = some (.cells #[.pointer (some ⟨tb, 0, none⟩)] 36 (0, 0)) ∧ w'.heap[w.heap.size + 1]? = some (.cells (planC h0 h1 h2 h3 h4 h5 sa n cap vars) 29 (0, 0)) ∧ w'.heap[w.heap.size + 2]? = some (.cells #[.slice va nv vcap] 39 (0, 0)) := by
  unfold planC
  go_enter Try.func11, Try.ntmps11
  go_wp2_with fail
  go_ret
  obtain ⟨h1', h2', h3', h4'⟩ := two_blocks w (.cells #[.pointer (some ⟨tb, 0, none⟩)] 36) (.cells #[.int .i64 h0, .int .u32 h1, .int .i64 h2, .int .u32 h3, .int .i64 h4, .int .u32 h5, .slice sa n cap, .int .i64 vars] 29) _ rfl
  have hb : ∀ A : World, Below A.heap.size A (A.alloc (.cells #[.slice va nv vcap] 39)) := fun A => (Below.refl _ A).alloc (Nat.le_refl _) _
  have hx := World.alloc_heap_new ((w.alloc (.cells #[.pointer (some ⟨tb, 0, none⟩)] 36)).alloc (.cells #[.int .i64 h0, .int .u32 h1, .int .i64 h2, .int .u32 h3, .int .i64 h4, .int .u32 h5, .slice sa n cap, .int .i64 vars] 29)) (.cells #[.slice va nv vcap] 39)
  rw [h2'] at hx
  exact ⟨rfl, h1'.trans ((hb _).mono h1'.size), by rw [World.size_alloc, h2'], ((hb _).block _ (by omega)).trans h3', ((hb _).block _ (by omega)).trans h4', hx⟩
end
end Go.Proofs.Ytkgkkbfpkgfcaaa

namespace Go.Proofs.Ytkgkkbfpkgfcaaa
set_option maxRecDepth 100000
open Go.RowKit Go.Maps
set_option linter.unusedVariables false
set_option linter.unusedSimpArgs false

theorem Try.infoU : (Try.prog.info? 51).map (fun i => (i.zero, i.size, i.bytes)) = some (some (.slice none 0 0), 1, 24) := by kernel_rfl
/-- bindings, in a slice of slices -/
def IsOuts (B : Nat) (W : World) (sv : Value) (l : List OutT) : Prop := W.ownsRow B 51 1 sv l.length (l.map (·.1)) ∧ ∀ y ∈ l, IsOut B W y.1 y.2
structure StJ (w : World) (ob : Nat) (pre : List OutT) (X : Nat → Prop) (W : World) : Prop where
  b : Below w.heap.size w W
  x : ∀ i, X i → w.heap.size ≤ i ∧ i ≠ ob
  o : w.heap.size ≤ ob
  has : ∃ ov, W.heap[ob]? = some (.cells #[ov] 43 (0, 0)) ∧ IsOuts w.heap.size W ov pre ∧ ∀ g, ov.ownBlock = some g → ¬ X g
  ys : ∀ y ∈ pre, ∀ g, y.1.ownBlock = some g → ¬ X g
theorem StJ.grow {w : World} {ob : Nat} {pre : List OutT} {X X' : Nat → Prop} {A B : World} (h : StJ w ob pre X A) (hg : GrX X A B) (hX : ∀ i, X' i → X i ∨ A.heap.size ≤ i) : StJ w ob pre X' B := by
  obtain ⟨ov, h1, ⟨h2, h3⟩, h4⟩ := h.has
  have hob := (Array.getElem?_eq_some_iff.1 h1).1
  have hk : ∀ {e size n : Nat} {v : Value} {xs : List Value}, A.ownsRow w.heap.size e size v n xs → (∀ g, v.ownBlock = some g → ¬ X g) → B.ownsRow w.heap.size e size v n xs ∧ ∀ g, v.ownBlock = some g → ¬ X' g := by
    intro e size n v xs ho hn
    have hl : ∀ g, v.ownBlock = some g → g < A.heap.size := fun g hg => by
      obtain ⟨_, cur, fz, hc⟩ := own_ltJ ho g hg
      exact (Array.getElem?_eq_some_iff.1 hc).1
    refine ⟨jown_blk ho (fun g hgv => hg.block g (hl g hgv) (hn g hgv)), fun g hgv hx => ?_⟩
    rcases hX g hx with h5 | h5
    · exact hn g hgv h5
    · have := hl g hgv; omega
  have hs := h.b.size
  exact {
    b := ⟨hg.os.trans h.b.os, hg.tape.trans h.b.tape, hg.output.trans h.b.output, Nat.le_trans h.b.size hg.size, fun i hi => (hg.block i (by omega) (fun hx => by have := (h.x i hx).1; omega)).trans (h.b.block i hi)⟩
    x := fun i hi => by
      rcases hX i hi with h5 | h5
      · exact h.x i h5
      · omega
    o := h.o
    has := ⟨ov, (hg.block ob hob (fun hx => (h.x ob hx).2 rfl)).trans h1, ⟨(hk h2 h4).1, fun y hy => (hk (h3 y hy) (h.ys y hy)).1⟩, (hk h2 h4).2⟩
    ys := fun y hy => (hk (h3 y hy) (h.ys y hy)).2 }
section
variable {w W : World} {ob : Nat} {pre : List OutT} {X : Nat → Prop}
set_option maxRecDepth 100000 in
set_option maxHeartbeats 1000000 in
theorem steps1_any (h : StJ w ob pre X W) (hXl : ∀ i, X i → i < W.heap.size) (sv : Value) (b : List Int) (hio : IsOut w.heap.size W sv b) (hn : ∀ g, sv.ownBlock = some g → ¬ X g) (hlen : pre.length ≤ 1000000) :
    Calls Try.prog 21 #[sv, .pointer (some ⟨ob, 0, none⟩)] W fun e W' => e = .returned (.bool true) ∧ StJ w ob (pre ++ [(sv, b)]) X W' ∧ KpX w.heap.size X W W' := by
  obtain ⟨ov, hbx, ⟨hov, hys⟩, hnx⟩ := h.has
  obtain ⟨cb, fb⟩ := jbox_cell hbx
  obtain ⟨sa, sc, hsv⟩ := own_anyJ hio
  subst hsv
  obtain ⟨bl, hbl⟩ : ∃ bl, b.length = bl := ⟨_, rfl⟩
  obtain ⟨i0, hi0, hz0, hz1, hz2⟩ := info_parts Try.infoU
  have hBA : Below W.heap.size W (W.alloc (.cells #[.slice sa bl sc] 51)) := (Below.refl _ W).alloc (Nat.le_refl _) _
  have hzA : (W.alloc (.cells #[.slice sa bl sc] 51)).heap.size = W.heap.size + 1 := World.size_alloc _ _
  have H := Lib.hid h; have HX := Lib.hid hXl; have Hio := Lib.hid hio; have Hn := Lib.hid hn; have Hbx := Lib.hid hbx; have Hov := Lib.hid hov; have Hys := Lib.hid hys; have Hnx := Lib.hid hnx; have Hbl := Lib.hid hbl
  have Hi := Lib.hid hi0; have Hz0 := Lib.hid hz0; have Hz1 := Lib.hid hz1; have Hz2 := Lib.hid hz2; have HBA := Lib.hid hBA; have HzA := Lib.hid hzA
  have HovA := Lib.hid (own_below hov hBA)
  have Hle := Lib.hid (show w.heap.size ≤ W.heap.size from h.b.size)
  have hne : ∀ A : World, A.ownsRow w.heap.size 51 1 ov pre.length (pre.map (·.1)) → A.heap[ob]? = some (.cells #[ov] 43 (0, 0)) → ov.ownBlock ≠ some ob := fun A h1 h2 => own_ne h1 h2 (by decide)
  have hkeep : ∀ w4 : World, (W.alloc (.cells #[.slice sa bl sc] 51)).grownBy w4 ov.ownBlock → w4.heap[ob]? = some (.cells #[ov] 43 (0, 0)) := by
    intro w4 hg
    have hob := (Array.getElem?_eq_some_iff.1 hbx).1
    exact (hg.block ob (by rw [hzA]; omega) (fun e => hne W hov hbx e.symm)).trans ((hBA.block ob hob).trans hbx)
  have Hkeep := Lib.hid hkeep
  rw [hbl]
  clear h hXl hio hn hbx hov hys hnx hbl hi0 hz0 hz1 hz2 hBA hzA hne hkeep
  go_enter Try.func21, Try.ntmps21
  go_wp2_with (at_builtin; refine wpList_append_own_at _ rfl _ _ 43 rfl w.heap.size 51 i0 (.slice none 0 0) 1 24 Try.underlying43 Hi.out Hz0.out Hz1.out Hz2.out rfl (by decide) _ _ _ rfl HovA.out ⟨W.heap.size, 0, none⟩ 1 1 [.slice sa bl sc] rfl rfl (cells_blk (World.alloc_heap_new _ _)) (by simp [Value.oneCell']) (by unfold maxLen; omega) (by omega) (by rw [HzA.out]; have := Hle.out; omega) ?_; intro v' w4 hown' hgrow _ hwh; obtain ⟨g', cap', rfl⟩ := jown_slice hown' (Nat.succ_pos _); obtain ⟨c4, f4⟩ := jbox_cell (Hkeep.out w4 hgrow); have Hown' := Lib.hid hown'; have Hgrow := Lib.hid hgrow; have Hwh := Lib.hid hwh; clear hown' hgrow hwh)
  go_ret
  obtain ⟨vn, hvn⟩ : ∃ vn : Value, .slice (some ⟨g', 0, none⟩) (pre.length + 1) cap' = vn := ⟨_, rfl⟩
  have hown := Hown'.out
  have hgr := Hgrow.out
  have hwh := Hwh.out
  have hbox := Hkeep.out w4 hgr
  rw [hvn] at hown hwh ⊢
  have hset : ∀ i, i ≠ ob → (w4.setCell ⟨ob, 0, none⟩ vn).heap[i]? = w4.heap[i]? := fun i hi => Below.heap_setCell w4 _ _ i hi
  have hbk : (w4.setCell ⟨ob, 0, none⟩ vn).heap[ob]? = some (.cells #[vn] 43 (0, 0)) := jbox_set hbox vn
  have hzA := HzA.out
  have hle := Hle.out
  have hws := HBA.out.size
  have hrow : ∀ {e n : Nat} {v : Value} {xs : List Value}, W.ownsRow w.heap.size e 1 v n xs → e ≠ 43 → e ≠ 51 → (w4.setCell ⟨ob, 0, none⟩ vn).ownsRow w.heap.size e 1 v n xs := by
    intro e n v xs hr he1 he2
    refine jown_blk hr (fun g hg => ?_)
    obtain ⟨_, cur, fz, hc⟩ := own_ltJ hr g hg
    have hl := (Array.getElem?_eq_some_iff.1 hc).1
    rw [hset g (blk_typ hc Hbx.out he1), hgr.block g (by omega) (fun e3 => ?_), HBA.out.block g hl]
    obtain ⟨_, cur', fz', hc'⟩ := own_ltJ Hov.out g e3.symm
    exact he2 (blk_eq hc hc' rfl)
  have hlow : ∀ i, (i < w.heap.size ∨ X i) → (w4.setCell ⟨ob, 0, none⟩ vn).heap[i]? = W.heap[i]? := by
    intro i hi
    have hl : i < W.heap.size := hi.elim (fun h => by omega) (HX.out i)
    have hio : i ≠ ob := hi.elim (fun h => by have := H.out.o; omega) (fun h => (H.out.x i h).2)
    rw [hset i hio, hgr.block i (by omega) (fun e3 => ?_), HBA.out.block i hl]
    rcases hi with h5 | h5
    · have := (own_ltJ Hov.out i e3.symm).1; omega
    · exact Hnx.out i e3.symm h5
  have hz4 : (w4.setCell ⟨ob, 0, none⟩ vn).heap.size = w4.heap.size := World.size_setCell _ _ _
  have hg4 := hgr.size
  have hiob : IsOut w.heap.size (w4.setCell ⟨ob, 0, none⟩ vn) (.slice sa bl sc) b := by
    have := hrow Hio.out (by decide) (by decide)
    rw [Hbl.out] at this
    unfold IsOut
    rw [Hbl.out]
    exact this
  have hvx : ∀ g, vn.ownBlock = some g → ¬ X g := by
    intro g hg hx
    rcases hwh with e | e
    · exact Hnx.out g (e ▸ hg) hx
    · rw [e] at hg
      injection hg with hg
      have := HX.out g hx
      omega
  refine ⟨rfl, {
    b := ⟨hgr.os.trans (HBA.out.os.trans H.out.b.os), hgr.tape.trans (HBA.out.tape.trans H.out.b.tape), hgr.output.trans (HBA.out.output.trans H.out.b.output), by omega, fun i hi => (hlow i (.inl hi)).trans (H.out.b.block i hi)⟩
    x := H.out.x
    o := H.out.o
    has := ⟨vn, hbk, ⟨?_, ?_⟩, hvx⟩
    ys := ?_ }, ⟨by omega, hlow⟩⟩
  · rw [List.length_append, List.map_append]
    exact jown_blk hown (fun g hg => hset g (fun e => own_ne hown hbox (by decide) (by rw [hg, e])))
  · intro y hy
    rw [List.mem_append, List.mem_singleton] at hy
    rcases hy with hy | rfl
    · exact hrow (Hys.out y hy) (by decide) (by decide)
    · exact hiob
  · intro y hy
    rw [List.mem_append, List.mem_singleton] at hy
    rcases hy with hy | rfl
    · exact H.out.ys y hy
    · intro g hg
      have := Hn.out g
      simp only at hg
      exact this (by rw [Hbl.out]; exact hg)
theorem StJ.yields (w : World) (ob : Nat) (outs : List (List Int)) (hl : outs.length ≤ 1000000) : YieldsX Try.prog (.func (.func 21) #[] #[.pointer (some ⟨ob, 0, none⟩)]) w.heap.size outs (StJ w ob) (fun _ _ => False) := by
  refine ⟨fun pre X X' A B h hg hX => h.grow hg hX, ?_⟩
  intro pre X A W sv b h hXA hB hio hp
  have h1 := h.grow (GrX.below hB) (fun _ h => .inl h)
  have hpl : pre.length ≤ 1000000 := by
    have := hp.length_le
    simp only [List.length_append, List.length_map, List.length_singleton] at this
    omega
  have hnX : ∀ g, sv.ownBlock = some g → ¬ X g := fun g hg hx' => by
    have := (own_ltJ hio g hg).1
    have := hXA g hx'
    omega
  refine .inr ⟨_, _, rfl, enters_of Try.func21 (by kernel_rfl) rfl, ?_⟩
  refine (steps1_any h1 (fun i hi => Nat.lt_of_lt_of_le (hXA i hi) hB.size) sv b (own_mono hio h.b.size) hnX hpl).mono ?_
  rintro e W' ⟨rfl, h2, h3⟩
  exact .inl ⟨rfl, h2, h3⟩
end
section
variable {Z : Zone} {w : World} {tb : Nat} {T : TS} {D : TabD}
set_option maxRecDepth 100000 in
set_option maxHeartbeats 4000000 in
theorem Steps_any (ht : IsT Z w tb T D) (h0 h1 h2 h3 h4 h5 : Int) (sa va : Option Addr) (cap vcap : Nat) (vars most : Int) (steps : List StepT) (views : List Vw) (hst : IsSteps w sa steps) (hvw : IsViews w va views) (hok : PlanOK T vars steps views) (hol : (runOuts T vars steps views).length ≤ 1000000)
    (hpos : 0 < most) (hmost : (looksE (runEvs T vars steps views) : Int) ≤ most) :
    Calls Try.prog 10 #[.pointer (some ⟨tb, 0, none⟩), .agg (planC h0 h1 h2 h3 h4 h5 sa steps.length cap vars), .int .i64 most, .slice va views.length vcap] w fun e w' =>
      ∃ (sv : Value) (l : List OutT) (k : Nat), e = .returned (.tuple #[sv, .int .i64 (k : Nat), .int .i64 0]) ∧ l.map (·.2) = runOuts T vars steps views ∧ (mayP vars steps = true → k = looksE (runEvs T vars steps views)) ∧ IsOuts w.heap.size w' sv l ∧ Below w.heap.size w w' := by
  obtain ⟨hA1, hA2, hA3, hA4⟩ := two_blocks w (.cells (planC h0 h1 h2 h3 h4 h5 sa steps.length cap vars) 29) (.cells #[.slice none 0 0] 43) _ rfl
  have hm0 : 0 ≤ most := by omega
  obtain ⟨n, hn⟩ : ∃ n, steps.length = n := ⟨_, rfl⟩
  obtain ⟨nv, hnv⟩ : ∃ nv, views.length = nv := ⟨_, rfl⟩
  rw [hn] at hA1 hA2 hA3 hA4 ⊢
  rw [hnv]
  unfold planC at hA1 hA2 hA3 hA4 ⊢
  have hal : ∀ A : World, A.heap[w.heap.size]? = some (.cells #[.int .i64 h0, .int .u32 h1, .int .i64 h2, .int .u32 h3, .int .i64 h4, .int .u32 h5, .slice sa n cap, .int .i64 vars] 29 (0, 0)) → A.cell? ⟨w.heap.size, 0, none⟩ = some (.int .i64 h0) ∧ A.cell? ⟨w.heap.size, 1, none⟩ = some (.int .u32 h1) ∧ A.cell? ⟨w.heap.size, 2, none⟩ = some (.int .i64 h2) ∧ A.cell? ⟨w.heap.size, 3, none⟩ = some (.int .u32 h3) ∧ A.cell? ⟨w.heap.size, 4, none⟩ = some (.int .i64 h4) ∧ A.cell? ⟨w.heap.size, 5, none⟩ = some (.int .u32 h5) ∧ A.cell? ⟨w.heap.size, 6, none⟩ = some (.slice sa n cap) ∧ A.cell? ⟨w.heap.size, 7, none⟩ = some (.int .i64 vars) := by
    intro A h
    unfold World.cell?
    rw [h]
    exact ⟨rfl, rfl, rfl, rfl, rfl, rfl, rfl, rfl⟩
  have HT := Lib.hid ht; have Hst := Lib.hid hst; have Hvw := Lib.hid hvw; have Hok := Lib.hid hok; have Hol := Lib.hid hol; have Hmost := Lib.hid hmost; have HA1 := Lib.hid hA1; have HA2 := Lib.hid hA2; have HA3 := Lib.hid hA3; have HA4 := Lib.hid hA4; have Hn := Lib.hid hn; have Hnv := Lib.hid hnv; have Hal := Lib.hid hal
  clear ht hst hvw hok hol hmost hA1 hA2 hA3 hA4 hn hnv hal
  go_enter Try.func10, Try.ntmps10
  go_wp2_with fail
  generalize (w.alloc (.cells #[.int .i64 h0, .int .u32 h1, .int .i64 h2, .int .u32 h3, .int .i64 h4, .int .u32 h5, .slice sa n cap, .int .i64 vars] 29)).alloc (.cells #[.slice none 0 0] 43) = W at *
  have hlow : ∀ i, i < w.heap.size → W.heap[i]? = w.heap[i]? := HA1.out.block
  rw [← Hn.out]
  refine (may_any h0 h1 h2 h3 h4 h5 sa cap vars steps (Hst.out.low HA1.out.size hlow) Hok.out.n Hok.out.s64).mono ?_
  rintro e W1 ⟨rfl, hB1⟩
  have HB1 := Lib.hid hB1
  obtain ⟨q, hq⟩ : ∃ q, mayP vars steps = q := ⟨_, rfl⟩
  rw [hq]
  have Hq := Lib.hid hq
  have HBw1 := Lib.hid (HA1.out.trans (hB1.mono HA1.out.size))
  have hp1 := (hB1.block w.heap.size (by have := HA2.out; omega)).trans HA3.out
  have ho1 := (hB1.block (w.heap.size + 1) (by have := HA2.out; omega)).trans HA4.out
  obtain ⟨d0, d1, d2, d3, d4, d5, d6, d7⟩ := Hal.out W1 hp1
  have Hp1 := Lib.hid hp1; have Ho1 := Lib.hid ho1; have Hlow := Lib.hid hlow
  clear hB1 hq hp1 ho1 hlow
  cases q with
  | false =>
    go_wp2_with fail
    go_ret3
    refine ⟨_, [], 0, rfl, ?_, (fun h => absurd h (by rw [Hq.out]; simp)), ⟨World.ownsRow_nil _ _ _ _, fun y hy => by simp at hy⟩, HBw1.out⟩
    unfold runOuts
    rw [if_neg (by rw [Hq.out]; simp)]
    rfl
  | true =>
    have hv0 : 0 ≤ vars := by
      have := Hq.out
      simp only [mayP, Bool.and_eq_true, decide_eq_true_eq] at this
      exact this.1
    obtain ⟨vn, rfl⟩ : ∃ vn : Nat, vars = vn := ⟨vars.toNat, by omega⟩
    clear hv0
    go_wp2_with fail
    rw [← Hn.out, ← Hnv.out]
    have hl1 : ∀ i, i < w.heap.size → W1.heap[i]? = w.heap[i]? := HBw1.out.block
    refine (begin_any (HT.out.blocks hl1) h0 h1 h2 h3 h4 h5 sa cap vn steps (Hst.out.low HBw1.out.size hl1) Hok.out.n (by have := Hok.out.vle; omega) va vcap views (Hvw.out.low HBw1.out.size hl1) Hok.out.nv).mono ?_
    rintro e W2 ⟨wb, vb, v, rfl, hB2, hwb, hvb, hne, hw, hv, ho⟩
    have hrs := RS.begun (Z := Z) hl1 HBw1.out.size hB2 hwb hvb hw hv ho
    have hrok := Hok.out.run Hq.out (tb := tb) (wb := wb) (vb := vb) (h0 := h0) (h1 := h1) (h2 := h2) (h3 := h3) (h4 := h4) (h5 := h5) (cap := cap) (v := v) Hst.out
    have hyes : runOuts T vn steps views = outsE (runEvs T vn steps views) := by unfold runOuts; rw [if_pos Hq.out]
    have hobs : w.heap.size + 1 < W1.heap.size := (Array.getElem?_eq_some_iff.1 Ho1.out).1
    have hj2 : StJ w (w.heap.size + 1) [] (fun i => W1.heap.size ≤ i ∧ i < W2.heap.size) W2 :=
      { b := HBw1.out.trans (hB2.mono HBw1.out.size)
        x := fun i hi => by omega
        o := by omega
        has := ⟨.slice none 0 0, (hB2.block _ hobs).trans Ho1.out, ⟨World.ownsRow_nil _ _ _ _, fun y hy => by simp at hy⟩, fun g hg => by simp [Value.ownBlock] at hg⟩
        ys := fun y hy => by simp at hy }
    have hrun := run_any (E := ⟨w, tb, wb, vb, h0, h1, h2, h3, h4, h5, sa, cap, vn, steps, extV (0, (T.length : Int), 3) steps views, v⟩) (L0 := List.replicate vn 0) HT.out hrok _ most (outsE (runEvs T vn steps views)) (StJ w (w.heap.size + 1)) (fun _ _ => False) (StJ.yields w (w.heap.size + 1) _ (by rw [← hyes]; exact Hol.out)) hrs hj2 rfl Hok.out.looks (.inr Hmost.out)
    have Hrun := Lib.hid hrun; have Hyes := Lib.hid hyes
    clear hl1 hB2 hwb hvb hne hw hv ho hrs hj2 hrok hyes hrun d0 d1 d2 d3 d4 d5 d6 d7 hobs
    go_wp2_with fail
    refine Hrun.out.mono ?_
    rintro e W3 ⟨rfl, hpost⟩
    obtain ⟨l, X', L', sv', hl, hj, hr⟩ : ∃ pre X' L' sv', pre.map (·.2) = outsE (runEvs T vn steps views) ∧ StJ w (w.heap.size + 1) pre X' W3 ∧ RS ⟨w, tb, wb, vb, h0, h1, h2, h3, h4, h5, sa, cap, vn, steps, extV (0, (T.length : Int), 3) steps views, v⟩ X' W3 L' (looksE (runEvs T vn steps views) : Nat) sv' [] := by
      rcases hpost with h | ⟨_, _, h⟩
      · exact h
      · exact h.elim
    obtain ⟨ov, hb, hos, _⟩ := hj.has
    obtain ⟨cb, fb⟩ := jbox_cell hb
    have c11 := hr.c11.1
    have Hl := Lib.hid hl; have Hbb := Lib.hid hj.b; have Hos := Lib.hid hos
    clear hpost hl hj hr hb hos
    go_wp2_with fail
    go_quiet (fail)
    go_wp2_with fail
    go_ret3
    exact ⟨ov, l, looksE (runEvs T vn steps views), rfl, by rw [Hyes.out]; exact Hl.out, fun _ => rfl, Hos.out, below_drewN Hbb.out _⟩
end
end Go.Proofs.Ytkgkkbfpkgfcaaa
