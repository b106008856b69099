/- A table's zone less the cells of its lists; a range over a function whose body turns what the function goes over. -/
import Derived.Test.YtellmhllgmimiaaS5
namespace Go.Proofs.Ytellmhllgmimiaa
open Go.RowKit Go.Maps
set_option linter.unusedVariables false
set_option linter.unusedSimpArgs false

def Zone.less (Z : Zone) (S : Nat → Nat → Prop) : Zone where
  W i j := Z.W i j ∧ ¬ S i j
  R := Z.R
  M := Z.M
  sub i j h := Z.sub i j h.1
/-- the cells of the lists' contents -/
def LC (D : TabD) (ls : R3 → List Nat) (i j : Nat) : Prop := ∃ (x : R3) (v : Value), rok x ∧ D.mb x = some v ∧ v.ownBlock = some i ∧ j < (ls x).length
section
variable {Z : Zone} {w w' : World} {tb : Nat} {T : TS} {ff : R3 → Option Value} {ls : R3 → List Nat} {L : Int} {fa : Nat → Int → Option Value} {D : TabD}
theorem Sl.less {e size n : Nat} {v : Value} {xs : List Value} (h : Sl Z w e size v n xs) {S : Nat → Nat → Prop} (hS : ∀ g j, v.ownBlock = some g → n * size ≤ j → ¬ S g j) : Sl (Z.less S) w e size v n xs := by
  refine ⟨h.1, ?_⟩
  rcases h.2 with h' | ⟨g, cap, cur, rfl, hg, h1, h2, h3, h4, h5, h6⟩
  · exact .inl h'
  · exact .inr ⟨g, cap, cur, rfl, hg, h1, h2, h3, h4, fun j a b => ⟨h5 j a b, hS g j rfl a⟩, h6⟩
theorem IsG.less (h : IsG Z w tb T ff ls L fa D) {S : Nat → Nat → Prop} (hS : ∀ i j, S i j → LC D ls i j) : IsG (Z.less S) w tb T ff ls L fa D := by
  have hI : ∀ i j, S i j → ∃ cur fz, w.heap[i]? = some (.cells cur 3 fz) := by
    intro i j hs
    obtain ⟨x, v, hx, hv, ho, _⟩ := hS i j hs
    exact ((h.byOk.has x v hx hv).2.lt i ho).2
  have hm : ∀ {κ : Type} {enc : κ → Value} {ok : κ → Prop} {b : Nat} {f : κ → Option Value}, MapAt enc ok w b f → ∀ j, ¬ S b j := by
    intro κ enc ok b f hm j hs
    obtain ⟨cur, fz, h1⟩ := hI _ _ hs
    obtain ⟨es, c, h2⟩ := hm.heap
    rw [h1] at h2; injection h2 with h2; cases h2
  have ht : ∀ {g : Nat} {cur : Array Value} {e : TypeId} {fz : Nat × Nat}, w.heap[g]? = some (.cells cur e fz) → e ≠ 3 → ∀ j, ¬ S g j := by
    intro g cur e fz hg he j hs
    obtain ⟨cur', fz', h1⟩ := hI _ _ hs
    rw [hg] at h1
    injection h1 with h1; injection h1 with _ h1 _
    exact he h1
  have hr : ∀ {e size n : Nat} {v : Value} {xs : List Value}, Sl Z w e size v n xs → e ≠ 3 → ∀ g j, v.ownBlock = some g → ¬ S g j := by
    intro e size n v xs hs he g j hg
    obtain ⟨_, cur, fz, h1⟩ := hs.lt g hg
    exact ht h1 he j
  exact { h with
    own := fun j => ⟨h.own j, ht h.obj (by decide) j⟩
    rows := h.rows.less (fun g j hg _ => hr h.rows (by decide) g j hg)
    rowsW := fun g hg j => ⟨h.rowsW g hg j, hr h.rows (by decide) g j hg⟩
    bits := h.bits.less (fun g j hg _ => hr h.bits (by decide) g j hg)
    bitsW := fun g hg j => ⟨h.bitsW g hg j, hr h.bits (by decide) g j hg⟩
    byOk := ⟨h.byOk.look, h.byOk.non, fun x v hx hv => ⟨(h.byOk.has x v hx hv).1, (h.byOk.has x v hx hv).2.less (fun g j hg hj hs => by
      obtain ⟨y, u, hy, hu, ho, hl⟩ := hS g j hs
      by_cases hxy : x = y
      · subst hxy
        omega
      · exact h.byOk.apart x y v u hx hy hv hu hxy (hg.trans ho.symm))⟩, h.byOk.apart⟩
    findW := ⟨fun j => ⟨h.findW.1 j, hm h.find j⟩, h.findW.2⟩
    byW := ⟨fun j => ⟨h.byW.1 j, hm h.by_ j⟩, h.byW.2⟩
    atW := fun p hp => ⟨fun j => ⟨(h.atW p hp).1 j, hm (h.at_ p hp) j⟩, (h.atW p hp).2⟩ }
/-- a table stays where its cells' blocks and its maps stay -/
theorem IsG.blocksM (h : IsG Z w tb T ff ls L fa D) (hc : ∀ (i : Nat) (cur : Array Value) (e : TypeId) (fz : Nat × Nat), w.heap[i]? = some (Obj.cells cur e fz) → w'.heap[i]? = w.heap[i]?) (hM : ∀ (i : Nat) (o : Obj), Z.M i → w.heap[i]? = some o → w'.heap[i]? = w.heap[i]?) : IsG Z w' tb T ff ls L fa D := by
  have hm : ∀ {κ : Type} {enc : κ → Value} {ok : κ → Prop} {b : Nat} {f : κ → Option Value}, MapAt enc ok w b f → Z.M b → MapAt enc ok w' b f := by
    intro κ enc ok b f hm hb
    obtain ⟨es, c, h1⟩ := hm.heap
    exact hm.stay (hM _ _ hb h1)
  have hs : ∀ {e size n : Nat} {v : Value} {xs : List Value}, Sl Z w e size v n xs → Sl Z w' e size v n xs := by
    intro e size n v xs hs
    refine hs.stayB (fun g hg => ?_)
    obtain ⟨_, cur, fz, h1⟩ := hs.lt g hg
    exact hc _ _ _ _ h1
  exact { h with
    obj := (hc _ _ _ _ h.obj).trans h.obj
    rows := hs h.rows
    bits := hs h.bits
    find := hm h.find h.findW.2
    by_ := hm h.by_ h.byW.2
    byOk := h.byOk.stayB (fun g cur fz hg => hc _ _ _ _ hg)
    at_ := fun p hp => hm (h.at_ p hp) (h.atW p hp).2 }
end

/-- an iterator that goes over ys, whatever the body turns, as long as Base stands -/
def SeqDrawn {α : Type} (F : Fence) (n : Nat) (P : Program) (g : Nat) (lb : Array Value) (encs : α → Array Value) (Base : List α → World → Prop) (ys : List α) : Prop :=
  ∀ (l : Nat) (J Jx : List α → World → Prop) (W : World), (∀ pre W W', J pre W → Below W.heap.size W W' → J pre W') → (∀ pre W, J pre W → Base pre W) →
    (∀ pre x W1, J pre W1 → pre ++ [x] <+: ys → YieldAt F (n - 1) P l (encs x) W1 fun e W' => (e = .returned (.bool true) ∧ J (pre ++ [x]) W') ∨ (e = .returned (.bool false) ∧ Jx (pre ++ [x]) W')) →
    J [] W → CallsIn F n P g (#[.func (.yield l) #[] #[]] ++ lb) W fun e W' => (∃ v, e = .returned v) ∧ (J ys W' ∨ ∃ pre, pre <+: ys ∧ Jx pre W')

def anyK (_ _ : World) : Prop := True
theorem wpIn_rangeFunc_D {F : Fence} {n : Nat} {P : Program} {w : World} {α : Type} {g : Operand} {ps : Array Tmp} {assign body : Code} {Q : Exit → Act → World → Prop} {a : Act}
    (hro : F.round = none) (h1 : 1 ≤ n) {gf : Nat} {lb : Array Value} (hg : a.eval g = .func (.func gf) #[] lb) (hFg : F.fn gf) (eg : ∀ args w, (callFunc gf args).run P w = .ok (.enter gf args) w)
    {encs : α → Array Value} {Base : List α → World → Prop} {ys : List α} (hseq : SeqDrawn F (n - 1) P gf lb encs Base ys) (hps : ∀ x, (encs x).size = ps.size)
    (I : List α → World → Prop) (Ix : Code → List α → World → Prop) (hI : OwnFrom w.heap.size I) (hIx : ∀ c, OwnFrom w.heap.size (Ix c)) (hBase : ∀ pre W, I pre W → Base pre W) (h0 : I [] w) (Ax : α → Act → World → Prop) (hAx : ∀ x a', OwnFrom w.heap.size (fun (_ : Unit) W => Ax x a' W))
    (hassign : ∀ (l : Nat) (pre : List α) (x : α) (W : World) (K : Act → World → Prop), I pre W → (∀ a' W', KeepsFrom w.heap.size W W' → I pre W' → Ax x a' W' → K a' W') →
      assign.wpIn (F.inRound l) (n - 1 - 1) P (Exit.then K (fun _ _ _ => False)) { tmps := (ps.zip (encs x)).foldl (fun t (p, v) => t.setIfInBounds p v) a.tmps, defers := [] } W)
    (hbody : ∀ (l : Nat) (pre : List α) (x : α) (a' : Act) (W : World), w.heap.size ≤ l → (∃ r, W.heap[l]? = some (.loop r)) → I pre W → Ax x a' W → pre ++ [x] <+: ys → body.wpIn (F.inRound l) (n - 1 - 1) P (ownPostG w.heap.size anyK I Ix (pre ++ [x]) W) a' W)
    (hdone : ∀ (D : Nat) (W : World), w.heap.size ≤ D → I ys W → W.heap[D]? = some (.deferred (some [])) → Q .normal { a with defers := { target := .collected D, args := #[] } :: a.defers } W)
    (hstop : ∀ (D : Nat) (c : Code) (pre : List α) (W : World), w.heap.size ≤ D → pre <+: ys → Ix c pre W → W.heap[D]? = some (.deferred (some [])) → c.wpIn F n P Q { a with defers := { target := .collected D, args := #[] } :: a.defers } W) :
    (Code.rangeFunc g ps assign body).wpIn F n P Q a w := by
  refine wpIn_rangeFunc ?_
  intro fn hfn
  rw [hro]
  obtain ⟨rec, hrec⟩ : ∃ rec : LoopState → Option Code → Loop, rec = fun st pe => { state := st, pending := pe, fn, tmps := a.tmps, params := ps, assign, body, defers := w.heap.size } := ⟨_, rfl⟩
  obtain ⟨W1, hW1⟩ : ∃ W1, (w.alloc (.deferred (some []))).alloc (.loop (rec .ready none)) = W1 := ⟨_, rfl⟩
  have hL1 : W1.heap[w.heap.size + 1]? = some (.loop (rec .ready none)) := by
    rw [← hW1]; have := World.alloc_heap_new (w.alloc (.deferred (some []))) (.loop (rec .ready none)); rwa [World.size_alloc] at this
  have hK1 : W1.heap[w.heap.size]? = some (.deferred (some [])) := by
    rw [← hW1]; exact (Below.heap_alloc _ _ _ (by simp)).trans (World.alloc_heap_new w _)
  have hI1 : I [] W1 := by rw [← hW1]; exact hI.alloc _ (hI.alloc _ h0)
  refine ⟨w.heap.size + 1, [{ target := .collected w.heap.size, args := #[] }], W1, { target := .fn (.func gf) lb, args := #[.func (.yield (w.heap.size + 1)) #[] #[]] }, W1, gf,
    #[.func (.yield (w.heap.size + 1)) #[] #[]] ++ lb, W1, ?_, ?_, ?_, ?_, fun _ => h1, ?_⟩
  · rw [← hW1, hrec]; exact run_enterLoop_outer _ _ _ _ _
  · simp only [resolve, hg]
    simp [go_sem]
  · intro f' hf'; simp [Target.leads] at hf'; subst hf'; exact hFg
  · simp [invoke, go_sem, eg]
  · refine (hseq (w.heap.size + 1)
      (fun pre W => I pre W ∧ W.heap[w.heap.size + 1]? = some (.loop (rec .ready none)) ∧ W.heap[w.heap.size]? = some (.deferred (some [])))
      (fun pre W => ∃ c, Ix c pre W ∧ W.heap[w.heap.size + 1]? = some (.loop (rec .done (some c))) ∧ W.heap[w.heap.size]? = some (.deferred (some [])))
      W1
      (fun s A B hs hb => ⟨hI s A B none hs.1 ⟨hb.os, hb.tape, hb.output, hb.size, fun k hk _ => hb.block k hk⟩ (fun r e => by cases e), (hb.block _ (Array.getElem?_eq_some_iff.1 hs.2.1).1).trans hs.2.1, (hb.block _ (Array.getElem?_eq_some_iff.1 hs.2.2).1).trans hs.2.2⟩)
      (fun pre W h => hBase pre W h.1) ?_ ⟨hI1, hL1, hK1⟩).mono ?_
    · -- one round
      rintro pre x W ⟨hi, hl, hk⟩ hpx
      have hlt : w.heap.size + 1 < W.heap.size := (Array.getElem?_eq_some_iff.1 hl).1
      have hy := run_yield (P := P) (args := encs x) hl (by rw [hrec]; exact hps x)
      rw [hrec] at hy
      refine ⟨fn, _, assign, body, hy, roundIn_of_wpIn hfn (hassign _ pre x W _ hi ?_)⟩
      clear hy
      intro a' Wa hkfa hia hax
      replace hl := hkfa.same _ _ (by omega) hl rfl
      replace hk := hkfa.same _ _ (Nat.le_refl _) hk rfl
      replace hlt : w.heap.size + 1 < Wa.heap.size := (Array.getElem?_eq_some_iff.1 hl).1
      replace hi := hia
      clear hia
      revert hkfa
      generalize W = Wb
      intro hkfa
      obtain ⟨W, rfl⟩ : ∃ W, W = Wa := ⟨_, rfl⟩
      refine ⟨_, run_beginRound hl (by rw [hrec]), ?_⟩
      have hl2 : (W.putObj (w.heap.size + 1) (.loop { rec .ready none with state := .busy })).heap[w.heap.size + 1]? = some (.loop { rec .ready none with state := .busy }) := World.putObj_heap_same hlt
      have hk2 : (W.putObj (w.heap.size + 1) (.loop { rec .ready none with state := .busy })).heap[w.heap.size]? = some (.deferred (some [])) := (World.putObj_heap_other (by omega)).trans hk
      refine wpIn_mono (hbody _ pre x a' _ (by omega) ⟨_, hl2⟩ (hI.putObj _ hi (by omega) hl rfl) ((hAx x a').putObj (s := ()) _ hax (by omega) hl rfl) hpx) ?_
      have fin : ∀ (jump : Option Code) (W3 : World), KeepsFrom w.heap.size (W.putObj (w.heap.size + 1) (.loop { rec .ready none with state := .busy })) W3 →
          (Instr.endRound (w.heap.size + 1) jump).run P W3 = .ok (.bool jump.isNone) (W3.putObj (w.heap.size + 1) (.loop (rec (if jump.isNone then .ready else .done) jump))) ∧
          W3.heap[w.heap.size + 1]? = some (.loop { rec .ready none with state := .busy }) ∧
          (W3.putObj (w.heap.size + 1) (.loop (rec (if jump.isNone then .ready else .done) jump))).heap[w.heap.size + 1]? = some (.loop (rec (if jump.isNone then .ready else .done) jump)) ∧
          (W3.putObj (w.heap.size + 1) (.loop (rec (if jump.isNone then .ready else .done) jump))).heap[w.heap.size]? = some (.deferred (some [])) := fun jump W3 hk3 => by
        have hl3 := hk3.same _ _ (by omega) hl2 rfl
        have := run_endRound (P := P) jump hl3
        rw [hrec] at this ⊢
        exact ⟨this, by rw [hrec] at hl3; exact hl3, World.putObj_heap_same (Array.getElem?_eq_some_iff.1 hl3).1, (World.putObj_heap_other (by omega)).trans (hk3.same _ _ (Nat.le_refl _) hk2 rfl)⟩
      rintro e a3 W3 hp
      cases e with
      | normal =>
        obtain ⟨hk3, -, hi3⟩ := hp
        obtain ⟨hr, hl3, hl4, hk4⟩ := fin none W3 hk3
        exact ⟨_, _, hr, .inl ⟨rfl, ⟨hI.putObj _ hi3 (by omega) hl3 rfl, hl4, hk4⟩⟩⟩
      | ret =>
        obtain ⟨hk3, hi3⟩ := hp
        obtain ⟨hr, hl3, hl4, hk4⟩ := fin (some .ret) W3 hk3
        exact ⟨_, _, hr, .inr ⟨rfl, .ret, (hIx _).putObj _ hi3 (by omega) hl3 rfl, hl4, hk4⟩⟩
      | exit id =>
        obtain ⟨hk3, hi3⟩ := hp
        obtain ⟨hr, hl3, hl4, hk4⟩ := fin (some (.exit id)) W3 hk3
        exact ⟨_, _, hr, .inr ⟨rfl, .exit id, (hIx _).putObj _ hi3 (by omega) hl3 rfl, hl4, hk4⟩⟩
      | goto t =>
        obtain ⟨hk3, hi3⟩ := hp
        obtain ⟨hr, hl3, hl4, hk4⟩ := fin (some (.goto t)) W3 hk3
        exact ⟨_, _, hr, .inr ⟨rfl, .goto t, (hIx _).putObj _ hi3 (by omega) hl3 rfl, hl4, hk4⟩⟩
      | panic ch => exact hp.elim
      | outgrown => exact hp.elim
    · -- behind the iterator
      rintro e W2 ⟨⟨v, rfl⟩, (⟨hi, hl, hk⟩ | ⟨pre, hSp, c, hi, hl, hk⟩)⟩
      · exact ⟨none, _, by have := run_endLoop (P := P) hl (by rw [hrec]; simp); rw [hrec] at this; exact this, hdone _ _ (Nat.le_refl _) (hI.putObj _ hi (by omega) hl rfl) ((World.putObj_heap_other (by omega)).trans hk)⟩
      · exact ⟨some c, _, by have := run_endLoop (P := P) hl (by rw [hrec]; simp); rw [hrec] at this; exact this, hstop _ c pre _ (Nat.le_refl _) hSp ((hIx c).putObj _ hi (by omega) hl rfl) ((World.putObj_heap_other (by omega)).trans hk)⟩

/-- .. of a number and a row; the row's variable lies in a box -/
theorem wpIn_rangeFunc_Dn {F : Fence} {n : Nat} {P : Program} {w : World} {α : Type} (f : Array Value → α → Nat → Array Value) {g : Operand} {p q : Nat} {assign body : Code} {Q : Exit → Act → World → Prop} {a : Act}
    (hro : F.round = none) (h1 : 1 ≤ n) {gf : Nat} {lb : Array Value} (hg : a.eval g = .func (.func gf) #[] lb) (hFg : F.fn gf) (eg : ∀ args w, (callFunc gf args).run P w = .ok (.enter gf args) w)
    {u : α → Value} {enc : α → R3} {Base : List α → World → Prop} {ys : List α} (hseq : SeqDrawn F (n - 1) P gf lb (fun x => #[u x, rv (enc x)]) Base ys)
    (I : List α → World → Prop) (Ix : Code → List α → World → Prop) (hI : OwnFrom w.heap.size I) (hIx : ∀ c, OwnFrom w.heap.size (Ix c)) (hBase : ∀ pre W, I pre W → Base pre W) (h0 : I [] w)
    (hassign : ∀ (l : Nat) (pre : List α) (x : α) (W : World) (K : Act → World → Prop), I pre W → (∀ a' W', KeepsFrom w.heap.size W W' → I pre W' → NRAx w.heap.size f a enc x a' W' → K a' W') →
      assign.wpIn (F.inRound l) (n - 1 - 1) P (Exit.then K (fun _ _ _ => False)) { tmps := (a.tmps.setIfInBounds p (u x)).setIfInBounds q (rv (enc x)), defers := [] } W)
    (hbody : ∀ (l : Nat) (pre : List α) (x : α) (W : World) (bx : Nat), I pre W → w.heap.size ≤ bx → W.heap[bx]? = some (.cells #[.int .u32 (enc x).1, .int .u32 (enc x).2.1, .int .u32 (enc x).2.2] 25 (0, 0)) → pre ++ [x] <+: ys →
      body.wpIn (F.inRound l) (n - 1 - 1) P (ownPostG w.heap.size anyK I Ix (pre ++ [x]) W) { tmps := f a.tmps x bx, defers := [] } W)
    (hdone : ∀ (D : Nat) (W : World), w.heap.size ≤ D → I ys W → W.heap[D]? = some (.deferred (some [])) → Q .normal { a with defers := { target := .collected D, args := #[] } :: a.defers } W)
    (hstop : ∀ (D : Nat) (c : Code) (pre : List α) (W : World), w.heap.size ≤ D → pre <+: ys → Ix c pre W → W.heap[D]? = some (.deferred (some [])) → c.wpIn F n P Q { a with defers := { target := .collected D, args := #[] } :: a.defers } W) :
    (Code.rangeFunc g #[p, q] assign body).wpIn F n P Q a w :=
  wpIn_rangeFunc_D hro h1 hg hFg eg hseq (fun _ => rfl) I Ix hI hIx hBase h0 (NRAx w.heap.size f a enc) (fun x a' => nrAx_own _ _ _ _ _ _ _)
    (fun l pre x W K hi hK => by
      have e : (#[p, q].zip #[u x, rv (enc x)]).foldl (fun t (p, v) => t.setIfInBounds p v) a.tmps = (a.tmps.setIfInBounds p (u x)).setIfInBounds q (rv (enc x)) := by simp
      rw [e]
      exact hassign l pre x W K hi hK)
    (fun l pre x a' W hl _ hi ⟨bx, h1, h2, h3⟩ hp => by subst h2; exact hbody l pre x W bx hi h1 h3 hp)
    hdone hstop

/-- what Match's iterator wants of its caller -/
def MBase (B tb : Nat) (r : R3) (fr tu b : Int) (T : TS) (D0 : TabD) (Tof : List Nat → TS) (pre : List Nat) (W : World) : Prop :=
  MBox W B tb r fr tu b ∧ (∃ Z D, IsT Z W tb (Tof pre) D) ∧ (pre = [] → ∃ Z0, IsT Z0 W tb T D0) ∧
    ∀ v g, look2 r = true → D0.mb r = some v → v.ownBlock = some g → ∀ j (h : j < (lst T r).length), W.cell? ⟨g, j, none⟩ = some (.int .i64 ((lst T r)[j] : Nat))
theorem match1_drawn (n B tb : Nat) (r : R3) (hr : rok r) (fr tu b : Int) (T : TS) (D0 : TabD) (Tof : List Nat → TS) (ys : List Nat)
    (hys : ys = run (fun pre c => liveB (Tof pre) b c) (candP T r fr tu) []) (hP : ∀ pre, T.length ≤ (Tof pre).length) (hR : ∀ pre x, pre ++ [x] <+: ys → rowOf (Tof pre) x = rowOf T x) :
    SeqDrawn Fence.wide n Try.prog 24 #[.pointer (some ⟨B, 0, none⟩), .pointer (some ⟨B + 2, 0, none⟩), .pointer (some ⟨B + 3, 0, none⟩), .pointer (some ⟨B + 1, 0, none⟩), .pointer (some ⟨B + 4, 0, none⟩)]
      (fun x : Nat => #[.int .i64 (x : Nat), rv (rowOf T x)]) (MBase B tb r fr tu b T D0 Tof) ys := by
  intro l J Jx W hJ hBs hY h0
  obtain ⟨_, _, hT0, _⟩ := hBs _ _ h0
  obtain ⟨Z0, hT0⟩ := hT0 rfl
  exact match1_any n l B tb r hr fr tu b T D0 Tof J Jx ys hys hJ (fun pre W h => (hBs pre W h).1) (fun pre W h => (hBs pre W h).2.1) hP
    (fun pre x W1 h hp => by rw [hR pre x hp]; exact hY pre x W1 h hp) W hT0 h0 (fun v g h1 h2 h3 pre W1 h => (hBs pre W1 h).2.2.2 v g h1 h2 h3)
end Go.Proofs.Ytellmhllgmimiaa
