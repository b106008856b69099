/- matches: does a look tell the same rows of both? -/
import Derived.Test.YtellmhllgmimiaaS1
import Derived.LoopNIn
import Derived.Test.YtellmhllgmimiaaOrdR
namespace Go.Proofs.Ytellmhllgmimiaa
open Go.RowKit Go.Maps
attribute [local go_sem] Oper.semAt_some
set_option linter.unusedVariables false
set_option linter.unusedSimpArgs false

/-- the frame and the box of a loop's second variable, a row -/
def NRAx {α : Type} (B : Nat) (f : Array Value → α → Nat → Array Value) (a : Act) (enc : α → R3) : α → Act → World → Prop := fun x a' W =>
  ∃ bx, B ≤ bx ∧ a' = { tmps := f a.tmps x bx, defers := [] } ∧ W.heap[bx]? = some (.cells #[.int .u32 (enc x).1, .int .u32 (enc x).2.1, .int .u32 (enc x).2.2] 25 (0, 0))
theorem nrAx_own {α : Type} (B : Nat) (f : Array Value → α → Nat → Array Value) (a : Act) (enc : α → R3) (x : α) (a' : Act) (B' : Nat) : OwnFrom B' (fun (_ : Unit) W => NRAx B f a enc x a' W) := by
  rintro s W W' row ⟨bx, h1, h2, h3⟩ hg hr
  refine ⟨bx, h1, h2, (hg.block bx (Array.getElem?_eq_some_iff.1 h3).1 (fun e => ?_)).trans h3⟩
  obtain ⟨_, o, ho, hc⟩ := hr bx e.symm
  rw [h3] at ho; injection ho with ho; subst ho; cases hc
/-- a range over a function of a number and a row; the row's variable lies in a box -/
theorem wpIn_rangeFunc_nr {F : Fence} {n : Nat} {P : Program} {w : World} {α : Type} (f : Array Value → α → Nat → Array Value) {g : Operand} {p q : Nat} {assign body : Code} {Q : Exit → Act → World → Prop} {a : Act}
    (hro : F.round = none) (h1 : 1 ≤ n) {gf : Nat} {lb : Array Value} (hg : a.eval g = .func (.func gf) #[] lb) (hFg : F.fn gf) (eg : ∀ args w, (callFunc gf args).run P w = .ok (.enter gf args) w)
    {u : α → Value} {enc : α → R3} {Kp : World → World → Prop} {S Sp : List α → Prop} {N : Nat} {w0 : World} (hseq : SeqStopsK F (n - 1) P gf lb (fun x => #[u x, rv (enc x)]) Kp S Sp N w0)
    (hKt : ∀ {A B C : World}, Kp A B → Kp B C → Kp A C) (hKb : ∀ (W : World) (l : Nat) (o o' : Obj), w.heap.size ≤ l → W.heap[l]? = some o → o.isCells = false → o.isWalk = false → Kp W (W.putObj l o')) (hb0 : Below w0.heap.size w0 w)
    (I : List α → World → Prop) (Ix : Code → List α → World → Prop) (hI : OwnFrom w.heap.size I) (hIx : ∀ c, OwnFrom w.heap.size (Ix c)) (h0 : I [] w)
    (hassign : ∀ (l : Nat) (pre : List α) (x : α) (W : World) (K : Act → World → Prop), I pre W → (∀ a' W', KeepsFrom w.heap.size W W' → Kp W W' → I pre W' → NRAx w.heap.size f a enc x a' W' → K a' W') →
      assign.wpIn (F.inRound l) (n - 1 - 1) P (Exit.then K (fun _ _ _ => False)) { tmps := (a.tmps.setIfInBounds p (u x)).setIfInBounds q (rv (enc x)), defers := [] } W)
    (hbody : ∀ (l : Nat) (pre : List α) (x : α) (W : World) (bx : Nat), I pre W → w.heap.size ≤ bx → W.heap[bx]? = some (.cells #[.int .u32 (enc x).1, .int .u32 (enc x).2.1, .int .u32 (enc x).2.2] 25 (0, 0)) → pre.length < N →
      body.wpIn (F.inRound l) (n - 1 - 1) P (ownPostG w.heap.size Kp I Ix (pre ++ [x]) W) { tmps := f a.tmps x bx, defers := [] } W)
    (hdone : ∀ (D : Nat) (xs : List α) (W : World), w.heap.size ≤ D → S xs → I xs W → W.heap[D]? = some (.deferred (some [])) → Q .normal { a with defers := { target := .collected D, args := #[] } :: a.defers } W)
    (hstop : ∀ (c : Code) (pre : List α) (W : World), Sp pre → Ix c pre W → False) :
    (Code.rangeFunc g #[p, q] assign body).wpIn F n P Q a w :=
  wpIn_rangeFunc_ownH hro h1 hg hFg eg hseq hKt hKb hb0 (fun _ => rfl) I Ix hI hIx h0 (NRAx w.heap.size f a enc) (fun x a' => nrAx_own _ _ _ _ _ _ _)
    (fun l pre x W K hi hK => by
      have e : (#[p, q].zip #[u x, rv (enc x)]).foldl (fun t (p, v) => t.setIfInBounds p v) a.tmps = (a.tmps.setIfInBounds p (u x)).setIfInBounds q (rv (enc x)) := by simp
      rw [e]
      exact hassign l pre x W K hi hK)
    (fun l pre x a' W hl _ hi ⟨bx, h1, h2, h3⟩ hlen => by subst h2; exact hbody l pre x W bx hi h1 h3 hlen)
    hdone (fun D c pre W _ hs hx _ => (hstop c pre W hs hx).elim)
theorem eql_func_nil (w : World) (fn : Fn) (a b : Array Value) : (binOp .eql 35 (.func fn a b) .nilFunc).run Try.prog w = .ok (.bool false) w := by rfl

def KS (P : Nat → Prop) (A B : World) : Prop := KeepS P A B ∧ A.heap.size ≤ B.heap.size
theorem KS.own {β : Type} {P : Nat → Prop} {A : World} (hP : ∀ i, P i → i < A.heap.size) : OwnFrom A.heap.size (fun (_ : β) W => KS P A W) := by
  rintro s X Y row ⟨hk, hz⟩ hg hr
  exact ⟨fun i hi => (hg.block i (by have := hP i hi; omega) (fun e => by have := (hr i e.symm).1; have := hP i hi; omega)).trans (hk i hi), Nat.le_trans hz hg.size⟩
theorem KS.below {P : Nat → Prop} {A B C : World} (h : KS P A B) (hP : ∀ i, P i → i < A.heap.size) (hb : Below B.heap.size B C) : KS P A C :=
  ⟨fun i hi => (hb.block i (by have := hP i hi; have := h.2; omega)).trans (h.1 i hi), Nat.le_trans h.2 hb.size⟩
theorem KS.set {P : Nat → Prop} {A B : World} (h : KS P A B) (a : Addr) (v : Value) (hn : ¬ P a.block) : KS P A (B.setCell a v) :=
  ⟨fun i hi => (Below.heap_setCell B a v i (fun e => hn (e ▸ hi))).trans (h.1 i hi), by rw [World.size_setCell]; exact h.2⟩
theorem KS.cell {P : Nat → Prop} {A B : World} (h : KS P A B) {g j : Nat} (hp : P g) : B.cell? ⟨g, j, none⟩ = A.cell? ⟨g, j, none⟩ := World.cell?_of_block (w := A) (a := ⟨g, j, none⟩) (h.1 g hp)
theorem three (w : World) (o0 o1 o2 : Obj) : ∀ W, W = ((w.alloc o0).alloc o1).alloc o2 → Below w.heap.size w W ∧ W.heap.size = w.heap.size + 3 ∧
    W.heap[w.heap.size]? = some o0 ∧ W.heap[w.heap.size + 1]? = some o1 ∧ W.heap[w.heap.size + 2]? = some o2 := by
  rintro W rfl
  have s1 := World.size_alloc w o0
  have s2 := World.size_alloc (w.alloc o0) o1
  have s3 := World.size_alloc ((w.alloc o0).alloc o1) o2
  refine ⟨(((Below.refl _ w).alloc (Nat.le_refl _) _).alloc (by omega) _).alloc (by omega) _, by omega, ?_, ?_, ?_⟩
  · rw [Below.heap_alloc _ _ _ (by omega), Below.heap_alloc _ _ _ (by omega)]
    exact World.alloc_heap_new w o0
  · rw [Below.heap_alloc _ _ _ (by omega), ← s1]
    exact World.alloc_heap_new _ o1
  · rw [show w.heap.size + 2 = ((w.alloc o0).alloc o1).heap.size by omega]
    exact World.alloc_heap_new _ o2
theorem own_form {w : World} {base : Nat} {v : Value} {L : List Nat} (h : w.ownsRow base 3 1 v L.length (ics L)) : ∃ ao cap, v = .slice ao L.length cap ∧
    ∀ j (hj : j < L.length), ∃ g, ao = some ⟨g, 0, none⟩ ∧ base ≤ g ∧ g < w.heap.size ∧ w.cell? ⟨g, j, none⟩ = some (.int .i64 (L[j] : Nat)) := by
  rcases h.2 with ⟨rfl, h0⟩ | ⟨g, cap, cur, rfl, hb, hg, h1, h2, h3, h4⟩
  · exact ⟨none, 0, by rw [h0], fun j hj => by omega⟩
  · refine ⟨some ⟨g, 0, none⟩, cap, rfl, fun j hj => ⟨g, rfl, hb, (Array.getElem?_eq_some_iff.1 hg).1, ?_⟩⟩
    have := h.cells (g := g) rfl j _ (ics_get L j hj)
    rw [show (⟨g, 0, none⟩ : Addr).add j = ⟨g, j, none⟩ by unfold Addr.add; split <;> simp_all] at this
    exact this
section
variable {n0 : Nat} {w : World} {tb rb : Nat} {T : TS}
set_option maxRecDepth 100000 in
set_option maxHeartbeats 8000000 in
theorem matches_in (h : Sts n0 w tb rb T T) (x0 x1 x2 : Int) (hr : rok (x0, x1, x2)) (fr tu b : Int) :
    CallsIn Fence.wide 9 Try.prog 17 #[.pointer (some ⟨tb, 0, none⟩), .pointer (some ⟨rb, 0, none⟩), rv (x0, x1, x2), .int .i64 fr, .int .i64 tu, .int .u8 b] w fun e w' =>
      e = .returned (.bool true) ∧ Below w.heap.size w w' := by
  obtain ⟨A, B, D, vr, vb, hst⟩ := h
  have HST := Lib.hid hst
  have hnf := eql_func_nil
  clear hst
  simp only [rv]
  have hfn : ∀ k, Fence.wide.fn k := fun _ => trivial
  refine callsIn_of_wp_marks Try.func17 rfl trivial ?_ rfl
  simp only [Try.ntmps17, List.size_toArray, List.length_cons, List.length_nil, Nat.reduceAdd, Nat.reduceSub, Array.replicate_succ, Array.replicate_zero, List.push_toArray, List.append_toArray, List.nil_append, List.cons_append]
  gi_wp2_with fail
  -- MATCHES
  obtain ⟨L, hL⟩ : ∃ L, mlist T (x0, x1, x2) fr tu b = L := ⟨_, rfl⟩
  obtain ⟨hB1, hz1, o0, o1, o2⟩ := three w (.cells #[.pointer (some ⟨rb, 0, none⟩)] 41) (.cells #[.int .u32 x0, .int .u32 x1, .int .u32 x2] 25) (.cells #[.bool false] 4) _ rfl
  generalize ((w.alloc (.cells #[.pointer (some ⟨rb, 0, none⟩)] 41)).alloc (.cells #[.int .u32 x0, .int .u32 x1, .int .u32 x2] 25)).alloc (.cells #[.bool false] 4) = W1 at *
  refine (callsIn_wide.2 (rmatch_any (HST.out.r.below hB1) (x0, x1, x2) fr tu b)).mono ?_
  rintro e W2 ⟨⟨v, rfl, hown⟩, hB2⟩
  rw [hL] at hown
  obtain ⟨ao, cap, rfl, hcs⟩ := own_form hown
  have hs2 := hB2.size
  -- the boxes that stand
  have p0 : W2.heap[w.heap.size]? = _ := (hB2.block _ (by omega)).trans o0
  have p1 : W2.heap[w.heap.size + 1]? = _ := (hB2.block _ (by omega)).trans o1
  have p2 : W2.heap[w.heap.size + 2]? = _ := (hB2.block _ (by omega)).trans o2
  have q0 : W2.cell? ⟨w.heap.size, 0, none⟩ = some (.pointer (some ⟨rb, 0, none⟩)) := by unfold World.cell?; rw [p0]; rfl
  have q1 : W2.cell? ⟨w.heap.size + 1, 0, none⟩ = some (.int .u32 x0) ∧ W2.cell? ⟨w.heap.size + 1, 1, none⟩ = some (.int .u32 x1) ∧ W2.cell? ⟨w.heap.size + 1, 2, none⟩ = some (.int .u32 x2) := by unfold World.cell?; rw [p1]; exact ⟨rfl, rfl, rfl⟩
  have q2 : W2.cell? ⟨w.heap.size + 2, 0, none⟩ = some (.bool false) ∧ W2.frozen? ⟨w.heap.size + 2, 0, none⟩ = false := by unfold World.cell? World.frozen?; rw [p2]; exact ⟨rfl, by simp⟩
  have B2 : Below w.heap.size w W2 := hB1.trans (hB2.mono (by omega))
  have Hz1 := Lib.hid hz1
  have HL := Lib.hid hL; have Hcs := Lib.hid hcs
  have Hz2 := Lib.hid (show w.heap.size + 3 ≤ W2.heap.size by omega)
  clear o0 o1 o2 p0 p1 p2 hB1 hB2 hs2 hz1 hown hcs hL
  obtain ⟨q10, q11, q12⟩ := q1
  obtain ⟨q20, q21⟩ := q2
  -- l in its box
  have hB3 : Below W2.heap.size W2 (W2.alloc (.cells #[.slice ao L.length cap] 29)) := (Below.refl _ _).alloc (Nat.le_refl _) _
  obtain ⟨l0, l1⟩ := cell_new1 W2 (.slice ao L.length cap) 29
  have hz3 : (W2.alloc (.cells #[.slice ao L.length cap] 29)).heap.size = W2.heap.size + 1 := World.size_alloc _ _
  have r0 := cell_later hB3 q0
  have r10 := cell_later hB3 q10
  have r11 := cell_later hB3 q11
  have r12 := cell_later hB3 q12
  gi_wp2_with fail
  generalize W2.alloc (.cells #[.slice ao L.length cap] 29) = W3 at *
  refine (callsIn_wide.2 (match_any _ tb (x0, x1, x2) fr tu b)).mono ?_
  rintro e W4 ⟨rfl, hB4, hz4, hm4⟩
  have s0 := cell_later hB4 r0
  have l4 := cell_later hB4 l0
  have hB14 := B2.trans ((hB3.mono (by have := Hz2.out; omega)).trans (hB4.mono (by have := Hz2.out; omega)))
  have hcs4 : ∀ j (hj : j < L.length), ∃ g, ao = some ⟨g, 0, none⟩ ∧ w.heap.size + 3 ≤ g ∧ g < W4.heap.size ∧ W4.cell? ⟨g, j, none⟩ = some (.int .i64 (L[j] : Nat)) := by
    intro j hj
    obtain ⟨g, h1, hb, h2, h3⟩ := Hcs.out j hj
    exact ⟨g, h1, by have := Hz1.out; omega, by omega, cell_later hB4 (cell_later hB3 h3)⟩
  have hR4 := HST.out.r.below hB14
  have hT4 : ∀ i, i < w.heap.size → W4.heap[i]? = w.heap[i]? := fun i hi => hB14.block i hi
  have b4 : W4.cell? ⟨w.heap.size + 2, 0, none⟩ = some (.bool false) := cell_later hB4 (cell_later hB3 q20)
  have f4 : W4.frozen? ⟨w.heap.size + 2, 0, none⟩ = false := ((World.frozen?_of_block (w := W3) (a := ⟨w.heap.size + 2, 0, none⟩) (hB4.block _ (by have := Hz2.out; simp; omega))).trans (World.frozen?_of_block (w := W2) (a := ⟨w.heap.size + 2, 0, none⟩) (hB3.block _ (by have := Hz2.out; simp; omega)))).trans q21
  have hsz : w.heap.size + 3 ≤ W2.heap.size ∧ W3.heap.size = W2.heap.size + 1 ∧ W4.heap.size = W3.heap.size + 5 := ⟨Hz2.out, hz3, hz4⟩
  have Hm4 := Lib.hid hm4; have HB14 := Lib.hid hB14; have Hcs4 := Lib.hid hcs4; have HR4 := Lib.hid hR4; have HT4 := Lib.hid hT4; have Hb4 := Lib.hid b4; have Hf4 := Lib.hid f4; have Hsz := Lib.hid hsz
  clear hB3 hB4 r0 r10 r11 r12 q0 q10 q11 q12 q20 q21 l0 l1 hz3 hz4 hm4 hB14 hcs4 hR4 hT4 b4 f4 hsz B2
  gi_wp2_with fail
  refine wpIn_loop_rounds 3 ?_
  rw [roundsIn_succ]
  -- TURN 0
  have HK0 := Lib.hid (show KS (fun i => i < W4.heap.size ∧ i ≠ w.heap.size + 2) W4 W4 from ⟨KeepS.refl _ _, Nat.le_refl _⟩)
  have HB0 := HB14
  have HBR0 := Lib.hid (show (∀ X, Below W4.heap.size W4 X → X.cell? ⟨w.heap.size + 2, 0, none⟩ = some (.bool false)) ∧ (∀ X, Below W4.heap.size W4 X → X.frozen? ⟨w.heap.size + 2, 0, none⟩ = false) from ⟨fun X hX => cell_later hX Hb4.out, fun X hX => (World.frozen?_of_block (w := W4) (a := ⟨w.heap.size + 2, 0, none⟩) (hX.block _ (by have := Hsz.out; simp; omega))).trans Hf4.out⟩)
  gi_wp2_with fail
  obtain ⟨i0, i1⟩ := cell_new1 W4 (.int .i64 0) 3
  have hzb : (W4.alloc (.cells #[.int .i64 0] 3)).heap.size = W4.heap.size + 1 := World.size_alloc _ _
  have hBb : Below W4.heap.size W4 (W4.alloc (.cells #[.int .i64 0] 3)) := (Below.refl _ _).alloc (Nat.le_refl _) _
  generalize W4.alloc (.cells #[.int .i64 0] 3) = Wb at *
  obtain ⟨hz1, hz2, hz3⟩ := Hsz.out
  have hKb := HK0.out.below (fun i hi => hi.1) hBb
  have hBbw := HB0.out.trans (hBb.mono HB0.out.size)
  have hs4 := HK0.out.2
  have hm : MBox Wb W3.heap.size tb (x0, x1, x2) fr tu b := Hm4.out.keep (N := w.heap.size) (fun i hi => hKb.1 i (by rcases hi with h | h <;> constructor <;> omega))
  have hPk : ∀ i, MKeep w.heap.size W3.heap.size i → i < Wb.heap.size := by
    intro i hi
    rcases hi with h | h <;> omega
  have HKN := Lib.hid (show W4.heap.size ≤ W4.heap.size from hs4)
  have HKb := Lib.hid hKb; have Hzb := Lib.hid hzb
  have hbW : Wb.cell? ⟨w.heap.size + 2, 0, none⟩ = some (.bool false) := HBR0.out.1 Wb hBb
  have hfW : Wb.frozen? ⟨w.heap.size + 2, 0, none⟩ = false := HBR0.out.2 Wb hBb
  have c20 : Wb.cell? ⟨W2.heap.size, 0, none⟩ = some (.slice ao L.length cap) := (hKb.cell ⟨by omega, by omega⟩).trans l4
  have c70 : Wb.cell? ⟨w.heap.size, 0, none⟩ = some (.pointer (some ⟨rb, 0, none⟩)) := (hKb.cell ⟨by omega, by omega⟩).trans s0
  refine wpIn_rangeFunc_nr (fun t x bx => (((t.setIfInBounds 38 (.int .i64 (x : Nat))).setIfInBounds 39 (rv (rowOf T x))).setIfInBounds 17 (.int .i64 (x : Nat))).setIfInBounds 18 (.pointer (some ⟨bx, 0, none⟩))) rfl (by decide) (gf := 24) (lb := #[.pointer (some ⟨W3.heap.size, 0, none⟩), .pointer (some ⟨W3.heap.size + 2, 0, none⟩), .pointer (some ⟨W3.heap.size + 3, 0, none⟩), .pointer (some ⟨W3.heap.size + 1, 0, none⟩), .pointer (some ⟨W3.heap.size + 4, 0, none⟩)]) rfl trivial (enters_of Try.func24 (by kernel_rfl) rfl)
    (match1_stops (9 - 1) W3.heap.size tb (x0, x1, x2) hr fr tu b HST.out.t (fun i hi => hBbw.block i hi) (by omega) hm (by omega)) KeepS.t (fun W l o o' hl _ _ _ => KeepS.put hPk W l o o' hl) (Below.refl _ _)
    (fun pre W => ((W.cell? ⟨W4.heap.size, 0, none⟩ = some (.int .i64 pre.length) ∧ W.frozen? ⟨W4.heap.size, 0, none⟩ = false) ∧ KS (fun i => i < Wb.heap.size ∧ i ≠ W4.heap.size) Wb W) ∧ Below w.heap.size w W)
    (fun c pre W => ¬ pre <+: L)
    (OwnFrom.and (OwnFrom.and (Own.from (fun s A B row hs hg hr => ⟨cell_kept hs.1 hg hr, (frozen_kept hs.1 hg hr).trans hs.2⟩) _) (KS.own (fun i hi => hi.1))) (ownFrom_below (Nat.le_refl _) (by omega)))
    (fun _ _ _ _ _ hs _ _ => hs)
    ⟨⟨⟨i0, i1⟩, ⟨KeepS.refl _ _, Nat.le_refl _⟩⟩, hBbw⟩ ?assign ?body ?done (fun c pre W hp hn => hn (by rw [← HL.out]; exact hp))
  case assign =>
    rintro ln pre x W K ⟨⟨⟨hc, hf⟩, hk⟩, hB⟩ hK
    obtain ⟨⟨y0, y1, y2⟩, hy⟩ : ∃ y, rowOf T x = y := ⟨_, rfl⟩
    simp only [NRAx, hy, rv] at hK
    simp only [hy]
    simp only [rv]
    have HK := Lib.hid hK; have HBo := Lib.hid hB; have Hk := Lib.hid hk
    clear hK hB hk hz1 hz2 hz3 hzb
    gi_wp2
    have BA : Below W.heap.size W (W.alloc (.cells #[.int .u32 y0, .int .u32 y1, .int .u32 y2] 25)) := (Below.refl _ W).alloc (Nat.le_refl _) _
    exact HK.out _ _ ⟨BA.size, fun k o _ h _ => (BA.block k (Array.getElem?_eq_some_iff.1 h).1).trans h⟩ (KeepS.below BA (fun i hi => Nat.lt_of_lt_of_le (hPk i hi) Hk.out.2)) ⟨⟨⟨cell_later BA hc, (World.frozen?_of_block (w := W) (a := ⟨W4.heap.size, 0, none⟩) (BA.block _ (by have := Hk.out.2; have := Hzb.out; simp; omega))).trans hf⟩, Hk.out.below (fun i hi => hi.1) BA⟩, HBo.out.trans (BA.mono HBo.out.size)⟩ ⟨W.heap.size, Hk.out.2, rfl, heap_alloc_new W _⟩
  case body =>
    rintro lnn pre x W bx ⟨⟨⟨hc, hf⟩, hk⟩, hB⟩ hbxl hbx hlen
    obtain ⟨m, hm'⟩ : ∃ m, pre.length = m := ⟨_, rfl⟩
    obtain ⟨ln, hln⟩ : ∃ ln, L.length = ln := ⟨_, rfl⟩
    obtain ⟨⟨y0, y1, y2⟩, hy⟩ : ∃ y, rowOf T x = y := ⟨_, rfl⟩
    rw [hm'] at hc hlen
    simp only [hy] at hbx ⊢
    simp only [rv]
    have hmT : m < 1000000 := by have := HST.out.t.long; omega
    have hlT : ln ≤ 1000000 := by
      have h1 := HST.out.t.long
      rw [← hln, ← HL.out]
      unfold mlist candP
      exact Nat.le_trans (List.length_filter_le _ _) (Nat.le_trans (List.length_filter_le _ _) (by simpa using h1))
    have c2 : W.cell? ⟨W2.heap.size, 0, none⟩ = some (.slice ao ln cap) := by rw [← hln]; exact (hk.cell ⟨by omega, by omega⟩).trans c20
    have c7 : W.cell? ⟨w.heap.size, 0, none⟩ = some (.pointer (some ⟨rb, 0, none⟩)) := (hk.cell ⟨by omega, by omega⟩).trans c70
    have b9 : W.cell? ⟨w.heap.size + 2, 0, none⟩ = _ := (hk.cell ⟨by omega, by omega⟩).trans hbW
    have f9 : W.frozen? ⟨w.heap.size + 2, 0, none⟩ = false := (World.frozen?_of_block (w := Wb) (a := ⟨w.heap.size + 2, 0, none⟩) (hk.1 (w.heap.size + 2) ⟨by omega, by omega⟩)).trans hfW
    by_cases hml : m < ln
    · have hd : decide ((m : Int) ≥ (ln : Int)) = false := by simp; omega
      obtain ⟨g, rfl, hg1, hg2, hg3⟩ := Hcs4.out m (by omega)
      obtain ⟨c, hcc⟩ : ∃ c, L[m]'(by omega) = c := ⟨_, rfl⟩
      rw [hcc] at hg3
      have ci : W.cell? ⟨g, m, none⟩ = some (.int .i64 (c : Nat)) := ((hk.cell (g := g) (j := m) ⟨by omega, by omega⟩).trans (HKb.out.cell (g := g) (j := m) ⟨by omega, by omega⟩)).trans hg3
      by_cases hxc : x = c
      · subst hxc
        have hlx : x < T.length := by
          have : x ∈ L := by rw [← hcc]; exact List.getElem_mem _
          rw [← HL.out] at this
          unfold mlist candP at this
          simp only [List.mem_filter, List.mem_range] at this
          exact this.1.1
        have hRW := HST.out.r.blocks (fun i hi => hB.block i hi)
        obtain ⟨gr, capr, hvr, _, v0, v1, v2⟩ := hRW.row x hlx
        obtain ⟨cr, _, _⟩ := hRW.cells
        rw [← rowOf_get T x hlx, hy] at v0 v1 v2
        obtain ⟨lT, hlTT⟩ : ∃ lT, T.length = lT := ⟨_, rfl⟩
        have hlx' : x < lT := by omega
        have hlTl : lT ≤ 1000000 := by have := HST.out.t.long; omega
        rw [hvr, hlTT] at cr
        have z : W.cell? ⟨bx, 0, none⟩ = some (.int .u32 y0) ∧ W.cell? ⟨bx, 1, none⟩ = some (.int .u32 y1) ∧ W.cell? ⟨bx, 2, none⟩ = some (.int .u32 y2) := by
          unfold World.cell?; rw [hbx]; exact ⟨rfl, rfl, rfl⟩
        obtain ⟨z0, z1, z2⟩ := z
        have he := eqRow y0 y1 y2 y0 y1 y2
        rw [show (y0 == y0 && (y1 == y1 && y2 == y2)) = true by simp] at he
        have Hm' := Lib.hid hm'; have Hln := Lib.hid hln; have Hcc := Lib.hid hcc; have HBo := Lib.hid hB
        clear hRW hvr hlTT hz1 hz2 hz3 hzb
        gi_wp2_with fail
        have hc : W.drew.cell? ⟨W4.heap.size, 0, none⟩ = _ := hc
        have c2 : W.drew.cell? ⟨W2.heap.size, 0, none⟩ = _ := c2
        have c7 : W.drew.cell? ⟨w.heap.size, 0, none⟩ = _ := c7
        have ci : W.drew.cell? ⟨g, m, none⟩ = _ := ci
        have z0 : W.drew.cell? ⟨bx, 0, none⟩ = _ := z0
        have z1 : W.drew.cell? ⟨bx, 1, none⟩ = _ := z1
        have z2 : W.drew.cell? ⟨bx, 2, none⟩ = _ := z2
        have cr : W.drew.cell? ⟨rb, 0, none⟩ = _ := cr
        have v0 : W.drew.cell? ⟨gr, x * 3, none⟩ = _ := v0
        have v1 : W.drew.cell? ⟨gr, x * 3 + 1, none⟩ = _ := v1
        have v2 : W.drew.cell? ⟨gr, x * 3 + 2, none⟩ = _ := v2
        have hk9 := hk.below (fun i hi => hi.1) (Below.refl _ W).drew
        have hf9 : W.drew.frozen? ⟨W4.heap.size, 0, none⟩ = false := hf
        have hB9 := hB.drew
        have hkf := Lib.hid (show KeepsFrom Wb.heap.size W W.drew from ⟨Nat.le_refl _, fun k o _ h _ => h⟩)
        have hkk := Lib.hid (show KeepS (MKeep w.heap.size W3.heap.size) W W.drew from fun i _ => rfl)
        have b9 : W.drew.cell? ⟨w.heap.size + 2, 0, none⟩ = _ := b9
        have f9 : W.drew.frozen? ⟨w.heap.size + 2, 0, none⟩ = false := f9
        obtain ⟨S12, hSe⟩ : ∃ S : Array Bool → World → Prop, S = fun _ w' => w' = W.drew := ⟨_, rfl⟩
        have hdrop : ∀ i : Nat, i ≠ 1000 → ∀ L w', S12 (L.setIfInBounds i true) w' → S12 L w' := by
          intro i _ L w' h; rw [hSe] at h ⊢; exact h
        have hS : ∀ L, S12 L W.drew := by intro L; rw [hSe]
        have hSo : ∀ {L w'}, S12 L w' → w' = W.drew := by intro L w' h; rw [hSe] at h; exact h
        clear hSe
        refine wpIn_region_L2 S12 23 #[false, false, false, false, false, false, false, false, false, false, false, false, false, false, false, false, false, false, false, false, false, false, false] (by kernel_rfl) (by kernel_rfl) rfl (by kernel_rfl) ?_
        generalize W.drew = W9 at *
        refine WA.take (i := 0) (v := .int .i64 (m : Int)) rfl (by kernel_rfl) (by kernel_rfl) (by kernel_rfl) (fun _ _ _ h => h) (hdrop 0 (by decide)) (Or.inl ⟨by rfl, ?_⟩) (hS _) ?_
        · rintro w' ⟨L, hL, hSw, hun⟩
          obtain rfl := hSo hSw 
          go_simp
        simp only [List.getElem_toArray, List.getElem_cons_zero, List.getElem_cons_succ, Act.put, List.setIfInBounds_toArray, List.set_cons_zero, List.set_cons_succ]
        refine WA.take (i := 1) (v := .slice (some ⟨g, 0, none⟩) ln cap) rfl (by kernel_rfl) (by kernel_rfl) (by kernel_rfl) (fun _ _ _ h => h) (hdrop 1 (by decide)) (Or.inl ⟨by rfl, ?_⟩) (hS _) ?_
        · rintro w' ⟨L, hL, hSw, hun⟩
          obtain rfl := hSo hSw 
          go_simp
        simp only [List.getElem_toArray, List.getElem_cons_zero, List.getElem_cons_succ, Act.put, List.setIfInBounds_toArray, List.set_cons_zero, List.set_cons_succ]
        refine WA.take (i := 2) (v := .int .i64 (ln : Int)) rfl (by kernel_rfl) (by kernel_rfl) (by kernel_rfl) (fun _ _ _ h => h) (hdrop 2 (by decide)) (Or.inl ⟨by rfl, ?_⟩) (hS _) ?_
        · rintro w' ⟨L, hL, hSw, hun⟩
          go_simp
        simp only [List.getElem_toArray, List.getElem_cons_zero, List.getElem_cons_succ, Act.put, List.setIfInBounds_toArray, List.set_cons_zero, List.set_cons_succ]
        refine WA.take (i := 3) (v := .bool false) rfl (by kernel_rfl) (by kernel_rfl) (by kernel_rfl) (fun _ _ _ h => h) (hdrop 3 (by decide)) (Or.inl ⟨by rfl, ?_⟩) (hS _) ?_
        · rintro w' ⟨L, hL, hSw, hun⟩
          go_simp
          all_goals omega
        simp only [List.getElem_toArray, List.getElem_cons_zero, List.getElem_cons_succ, Act.put, List.setIfInBounds_toArray, List.set_cons_zero, List.set_cons_succ]
        refine WA.take (i := 4) (v := .bool false) rfl (by kernel_rfl) (by kernel_rfl) (by kernel_rfl) (fun _ _ _ h => h) (hdrop 4 (by decide)) (Or.inl ⟨by rfl, ?_⟩) (hS _) ?_
        · rintro w' ⟨L, hL, hSw, hun⟩
          go_simp
        simp only [List.getElem_toArray, List.getElem_cons_zero, List.getElem_cons_succ, Act.put, List.setIfInBounds_toArray, List.set_cons_zero, List.set_cons_succ]
        refine WA.take (i := 5) (v := .int .i64 (x : Int)) rfl (by kernel_rfl) (by kernel_rfl) (by kernel_rfl) (fun _ _ _ h => h) (hdrop 5 (by decide)) (Or.inl ⟨by rfl, ?_⟩) (hS _) ?_
        · rintro w' ⟨L, hL, hSw, hun⟩
          go_simp
        simp only [List.getElem_toArray, List.getElem_cons_zero, List.getElem_cons_succ, Act.put, List.setIfInBounds_toArray, List.set_cons_zero, List.set_cons_succ]
        refine WA.take (i := 6) (v := .slice (some ⟨g, 0, none⟩) ln cap) rfl (by kernel_rfl) (by kernel_rfl) (by kernel_rfl) (fun _ _ _ h => h) (hdrop 6 (by decide)) (Or.inl ⟨by rfl, ?_⟩) (hS _) ?_
        · rintro w' ⟨L, hL, hSw, hun⟩
          obtain rfl := hSo hSw 
          go_simp
        simp only [List.getElem_toArray, List.getElem_cons_zero, List.getElem_cons_succ, Act.put, List.setIfInBounds_toArray, List.set_cons_zero, List.set_cons_succ]
        refine WA.take (i := 7) (v := .int .i64 (m : Int)) rfl (by kernel_rfl) (by kernel_rfl) (by kernel_rfl) (fun _ _ _ h => h) (hdrop 7 (by decide)) (Or.inl ⟨by rfl, ?_⟩) (hS _) ?_
        · rintro w' ⟨L, hL, hSw, hun⟩
          obtain rfl := hSo hSw 
          go_simp
        simp only [List.getElem_toArray, List.getElem_cons_zero, List.getElem_cons_succ, Act.put, List.setIfInBounds_toArray, List.set_cons_zero, List.set_cons_succ]
        refine WA.take (i := 8) (v := .pointer (some ⟨g, m, none⟩)) rfl (by kernel_rfl) (by kernel_rfl) (by kernel_rfl) (fun _ _ _ h => h) (hdrop 8 (by decide)) (Or.inl ⟨by rfl, ?_⟩) (hS _) ?_
        · rintro w' ⟨L, hL, hSw, hun⟩
          go_simp
        simp only [List.getElem_toArray, List.getElem_cons_zero, List.getElem_cons_succ, Act.put, List.setIfInBounds_toArray, List.set_cons_zero, List.set_cons_succ]
        refine WA.take (i := 9) (v := .int .i64 (x : Int)) rfl (by kernel_rfl) (by kernel_rfl) (by kernel_rfl) (fun _ _ _ h => h) (hdrop 9 (by decide)) (Or.inl ⟨by rfl, ?_⟩) (hS _) ?_
        · rintro w' ⟨L, hL, hSw, hun⟩
          obtain rfl := hSo hSw 
          go_simp
        simp only [List.getElem_toArray, List.getElem_cons_zero, List.getElem_cons_succ, Act.put, List.setIfInBounds_toArray, List.set_cons_zero, List.set_cons_succ]
        refine WA.take (i := 10) (v := .bool false) rfl (by kernel_rfl) (by kernel_rfl) (by kernel_rfl) (fun _ _ _ h => h) (hdrop 10 (by decide)) (Or.inl ⟨by rfl, ?_⟩) (hS _) ?_
        · rintro w' ⟨L, hL, hSw, hun⟩
          go_simp
        simp only [List.getElem_toArray, List.getElem_cons_zero, List.getElem_cons_succ, Act.put, List.setIfInBounds_toArray, List.set_cons_zero, List.set_cons_succ]
        refine WA.take (i := 11) (v := .bool false) rfl (by kernel_rfl) (by kernel_rfl) (by kernel_rfl) (fun _ _ _ h => h) (hdrop 11 (by decide)) (Or.inl ⟨by rfl, ?_⟩) (hS _) ?_
        · rintro w' ⟨L, hL, hSw, hun⟩
          go_simp
        simp only [List.getElem_toArray, List.getElem_cons_zero, List.getElem_cons_succ, Act.put, List.setIfInBounds_toArray, List.set_cons_zero, List.set_cons_succ]
        refine WA.take (i := 12) (v := .bool false) rfl (by kernel_rfl) (by kernel_rfl) (by kernel_rfl) (fun _ _ _ h => h) (hdrop 12 (by decide)) (Or.inl ⟨by rfl, ?_⟩) (hS _) ?_
        · rintro w' ⟨L, hL, hSw, hun⟩
          go_simp
        simp only [List.getElem_toArray, List.getElem_cons_zero, List.getElem_cons_succ, Act.put, List.setIfInBounds_toArray, List.set_cons_zero, List.set_cons_succ]
        refine WA.take (i := 13) (v := .agg #[.int .u32 y0, .int .u32 y1, .int .u32 y2]) rfl (by kernel_rfl) (by kernel_rfl) (by kernel_rfl) (fun _ _ _ h => h) (hdrop 13 (by decide)) (Or.inl ⟨by rfl, ?_⟩) (hS _) ?_
        · rintro w' ⟨L, hL, hSw, hun⟩
          obtain rfl := hSo hSw 
          go_simp
        simp only [List.getElem_toArray, List.getElem_cons_zero, List.getElem_cons_succ, Act.put, List.setIfInBounds_toArray, List.set_cons_zero, List.set_cons_succ]
        refine WA.take (i := 14) (v := .pointer (some ⟨rb, 0, none⟩)) rfl (by kernel_rfl) (by kernel_rfl) (by kernel_rfl) (fun _ _ _ h => h) (hdrop 14 (by decide)) (Or.inl ⟨by rfl, ?_⟩) (hS _) ?_
        · rintro w' ⟨L, hL, hSw, hun⟩
          obtain rfl := hSo hSw 
          go_simp
        simp only [List.getElem_toArray, List.getElem_cons_zero, List.getElem_cons_succ, Act.put, List.setIfInBounds_toArray, List.set_cons_zero, List.set_cons_succ]
        refine WA.take (i := 15) (v := .pointer (some ⟨rb, 0, none⟩)) rfl (by kernel_rfl) (by kernel_rfl) (by kernel_rfl) (fun _ _ _ h => h) (hdrop 15 (by decide)) (Or.inl ⟨by rfl, ?_⟩) (hS _) ?_
        · rintro w' ⟨L, hL, hSw, hun⟩
          go_simp
        simp only [List.getElem_toArray, List.getElem_cons_zero, List.getElem_cons_succ, Act.put, List.setIfInBounds_toArray, List.set_cons_zero, List.set_cons_succ]
        refine WA.take (i := 16) (v := .pointer (some ⟨rb, 0, none⟩)) rfl (by kernel_rfl) (by kernel_rfl) (by kernel_rfl) (fun _ _ _ h => h) (hdrop 16 (by decide)) (Or.inl ⟨by rfl, ?_⟩) (hS _) ?_
        · rintro w' ⟨L, hL, hSw, hun⟩
          go_simp
        simp only [List.getElem_toArray, List.getElem_cons_zero, List.getElem_cons_succ, Act.put, List.setIfInBounds_toArray, List.set_cons_zero, List.set_cons_succ]
        refine WA.take (i := 17) (v := .slice (some ⟨gr, 0, none⟩) lT capr) rfl (by kernel_rfl) (by kernel_rfl) (by kernel_rfl) (fun _ _ _ h => h) (hdrop 17 (by decide)) (Or.inl ⟨by rfl, ?_⟩) (hS _) ?_
        · rintro w' ⟨L, hL, hSw, hun⟩
          obtain rfl := hSo hSw 
          go_simp
        simp only [List.getElem_toArray, List.getElem_cons_zero, List.getElem_cons_succ, Act.put, List.setIfInBounds_toArray, List.set_cons_zero, List.set_cons_succ]
        refine WA.take (i := 18) (v := .int .i64 (x : Int)) rfl (by kernel_rfl) (by kernel_rfl) (by kernel_rfl) (fun _ _ _ h => h) (hdrop 18 (by decide)) (Or.inl ⟨by rfl, ?_⟩) (hS _) ?_
        · rintro w' ⟨L, hL, hSw, hun⟩
          go_simp
        simp only [List.getElem_toArray, List.getElem_cons_zero, List.getElem_cons_succ, Act.put, List.setIfInBounds_toArray, List.set_cons_zero, List.set_cons_succ]
        refine WA.take (i := 19) (v := .pointer (some ⟨gr, x * 3, none⟩)) rfl (by kernel_rfl) (by kernel_rfl) (by kernel_rfl) (fun _ _ _ h => h) (hdrop 19 (by decide)) (Or.inl ⟨by rfl, ?_⟩) (hS _) ?_
        · rintro w' ⟨L, hL, hSw, hun⟩
          go_simp
        simp only [List.getElem_toArray, List.getElem_cons_zero, List.getElem_cons_succ, Act.put, List.setIfInBounds_toArray, List.set_cons_zero, List.set_cons_succ]
        refine WA.take (i := 20) (v := .agg #[.int .u32 y0, .int .u32 y1, .int .u32 y2]) rfl (by kernel_rfl) (by kernel_rfl) (by kernel_rfl) (fun _ _ _ h => h) (hdrop 20 (by decide)) (Or.inl ⟨by rfl, ?_⟩) (hS _) ?_
        · rintro w' ⟨L, hL, hSw, hun⟩
          obtain rfl := hSo hSw 
          go_simp
        simp only [List.getElem_toArray, List.getElem_cons_zero, List.getElem_cons_succ, Act.put, List.setIfInBounds_toArray, List.set_cons_zero, List.set_cons_succ]
        refine WA.take (i := 21) (v := .bool false) rfl (by kernel_rfl) (by kernel_rfl) (by kernel_rfl) (fun _ _ _ h => h) (hdrop 21 (by decide)) (Or.inl ⟨by rfl, ?_⟩) (hS _) ?_
        · rintro w' ⟨L, hL, hSw, hun⟩
          go_simp
        simp only [List.getElem_toArray, List.getElem_cons_zero, List.getElem_cons_succ, Act.put, List.setIfInBounds_toArray, List.set_cons_zero, List.set_cons_succ]
        refine WA.take (i := 22) (v := .bool false) rfl (by kernel_rfl) (by kernel_rfl) (by kernel_rfl) (fun _ _ _ h => h) (hdrop 22 (by decide)) (Or.inl ⟨by rfl, ?_⟩) (hS _) ?_
        · rintro w' ⟨L, hL, hSw, hun⟩
          go_simp
        simp only [List.getElem_toArray, List.getElem_cons_zero, List.getElem_cons_succ, Act.put, List.setIfInBounds_toArray, List.set_cons_zero, List.set_cons_succ]
        refine WA.done (by kernel_rfl) ?_ _
        refine Nrm.normal ?_
        gi_wp2
        refine ⟨hkf.out.trans ((KeepsOthers.setCell _ _ _).from _), hkk.out.t (KeepS.set _ _ _ ?_), ⟨⟨⟨by rw [List.length_append, Hm'.out]; exact World.cell?_setCell_same' _ _ _ (by rw [hc]; rfl), by rw [World.frozen?_setCell]; exact hf9⟩, hk9.set _ _ (by simp)⟩, hB9.setCell (p := ⟨W4.heap.size, 0, none⟩) ?_ _⟩⟩
        · have := Hsz.out; have := HKN.out
          simp only [MKeep]; omega
        · have := Hsz.out; have := HKN.out
          simp; omega
      · have hd2 : ((x : Int) != (c : Int)) = true := by simp; omega
        have Hm' := Lib.hid hm'; have Hln := Lib.hid hln; have Hcc := Lib.hid hcc
        clear hz1 hz2 hz3 hzb
        gi_wp2_with fail
        have hc : W.drew.cell? ⟨W4.heap.size, 0, none⟩ = _ := hc
        have c2 : W.drew.cell? ⟨W2.heap.size, 0, none⟩ = _ := c2
        have c7 : W.drew.cell? ⟨w.heap.size, 0, none⟩ = _ := c7
        have ci : W.drew.cell? ⟨g, m, none⟩ = _ := ci
        have hk9 := hk.below (fun i hi => hi.1) (Below.refl _ W).drew
        have hf9 : W.drew.frozen? ⟨W4.heap.size, 0, none⟩ = false := hf
        have hB9 := hB.drew
        have hkf := Lib.hid (show KeepsFrom Wb.heap.size W W.drew from ⟨Nat.le_refl _, fun k o _ h _ => h⟩)
        have hkk := Lib.hid (show KeepS (MKeep w.heap.size W3.heap.size) W W.drew from fun i _ => rfl)
        have b9 : W.drew.cell? ⟨w.heap.size + 2, 0, none⟩ = _ := b9
        have f9 : W.drew.frozen? ⟨w.heap.size + 2, 0, none⟩ = false := f9
        obtain ⟨S12, hSe⟩ : ∃ S : Array Bool → World → Prop, S = fun _ w' => w' = W.drew := ⟨_, rfl⟩
        have hdrop : ∀ i : Nat, i ≠ 1000 → ∀ L w', S12 (L.setIfInBounds i true) w' → S12 L w' := by
          intro i _ L w' h; rw [hSe] at h ⊢; exact h
        have hS : ∀ L, S12 L W.drew := by intro L; rw [hSe]
        have hSo : ∀ {L w'}, S12 L w' → w' = W.drew := by intro L w' h; rw [hSe] at h; exact h
        clear hSe
        refine wpIn_region_L2 S12 23 #[false, false, false, false, false, false, false, false, false, false, false, false, false, false, false, false, false, false, false, false, false, false, false] (by kernel_rfl) (by kernel_rfl) rfl (by kernel_rfl) ?_
        generalize W.drew = W9 at *
        refine WA.take (i := 0) (v := .int .i64 (m : Int)) rfl (by kernel_rfl) (by kernel_rfl) (by kernel_rfl) (fun _ _ _ h => h) (hdrop 0 (by decide)) (Or.inl ⟨by rfl, ?_⟩) (hS _) ?_
        · rintro w' ⟨L, hL, hSw, hun⟩
          obtain rfl := hSo hSw 
          go_simp
        simp only [List.getElem_toArray, List.getElem_cons_zero, List.getElem_cons_succ, Act.put, List.setIfInBounds_toArray, List.set_cons_zero, List.set_cons_succ]
        refine WA.take (i := 1) (v := .slice (some ⟨g, 0, none⟩) ln cap) rfl (by kernel_rfl) (by kernel_rfl) (by kernel_rfl) (fun _ _ _ h => h) (hdrop 1 (by decide)) (Or.inl ⟨by rfl, ?_⟩) (hS _) ?_
        · rintro w' ⟨L, hL, hSw, hun⟩
          obtain rfl := hSo hSw 
          go_simp
        simp only [List.getElem_toArray, List.getElem_cons_zero, List.getElem_cons_succ, Act.put, List.setIfInBounds_toArray, List.set_cons_zero, List.set_cons_succ]
        refine WA.take (i := 2) (v := .int .i64 (ln : Int)) rfl (by kernel_rfl) (by kernel_rfl) (by kernel_rfl) (fun _ _ _ h => h) (hdrop 2 (by decide)) (Or.inl ⟨by rfl, ?_⟩) (hS _) ?_
        · rintro w' ⟨L, hL, hSw, hun⟩
          go_simp
        simp only [List.getElem_toArray, List.getElem_cons_zero, List.getElem_cons_succ, Act.put, List.setIfInBounds_toArray, List.set_cons_zero, List.set_cons_succ]
        refine WA.take (i := 3) (v := .bool false) rfl (by kernel_rfl) (by kernel_rfl) (by kernel_rfl) (fun _ _ _ h => h) (hdrop 3 (by decide)) (Or.inl ⟨by rfl, ?_⟩) (hS _) ?_
        · rintro w' ⟨L, hL, hSw, hun⟩
          go_simp
          all_goals omega
        simp only [List.getElem_toArray, List.getElem_cons_zero, List.getElem_cons_succ, Act.put, List.setIfInBounds_toArray, List.set_cons_zero, List.set_cons_succ]
        refine WA.take (i := 4) (v := .bool false) rfl (by kernel_rfl) (by kernel_rfl) (by kernel_rfl) (fun _ _ _ h => h) (hdrop 4 (by decide)) (Or.inl ⟨by rfl, ?_⟩) (hS _) ?_
        · rintro w' ⟨L, hL, hSw, hun⟩
          go_simp
        simp only [List.getElem_toArray, List.getElem_cons_zero, List.getElem_cons_succ, Act.put, List.setIfInBounds_toArray, List.set_cons_zero, List.set_cons_succ]
        refine WA.take (i := 5) (v := .int .i64 (x : Int)) rfl (by kernel_rfl) (by kernel_rfl) (by kernel_rfl) (fun _ _ _ h => h) (hdrop 5 (by decide)) (Or.inl ⟨by rfl, ?_⟩) (hS _) ?_
        · rintro w' ⟨L, hL, hSw, hun⟩
          go_simp
        simp only [List.getElem_toArray, List.getElem_cons_zero, List.getElem_cons_succ, Act.put, List.setIfInBounds_toArray, List.set_cons_zero, List.set_cons_succ]
        refine WA.take (i := 6) (v := .slice (some ⟨g, 0, none⟩) ln cap) rfl (by kernel_rfl) (by kernel_rfl) (by kernel_rfl) (fun _ _ _ h => h) (hdrop 6 (by decide)) (Or.inl ⟨by rfl, ?_⟩) (hS _) ?_
        · rintro w' ⟨L, hL, hSw, hun⟩
          obtain rfl := hSo hSw 
          go_simp
        simp only [List.getElem_toArray, List.getElem_cons_zero, List.getElem_cons_succ, Act.put, List.setIfInBounds_toArray, List.set_cons_zero, List.set_cons_succ]
        refine WA.take (i := 7) (v := .int .i64 (m : Int)) rfl (by kernel_rfl) (by kernel_rfl) (by kernel_rfl) (fun _ _ _ h => h) (hdrop 7 (by decide)) (Or.inl ⟨by rfl, ?_⟩) (hS _) ?_
        · rintro w' ⟨L, hL, hSw, hun⟩
          obtain rfl := hSo hSw 
          go_simp
        simp only [List.getElem_toArray, List.getElem_cons_zero, List.getElem_cons_succ, Act.put, List.setIfInBounds_toArray, List.set_cons_zero, List.set_cons_succ]
        refine WA.take (i := 8) (v := .pointer (some ⟨g, m, none⟩)) rfl (by kernel_rfl) (by kernel_rfl) (by kernel_rfl) (fun _ _ _ h => h) (hdrop 8 (by decide)) (Or.inl ⟨by rfl, ?_⟩) (hS _) ?_
        · rintro w' ⟨L, hL, hSw, hun⟩
          go_simp
        simp only [List.getElem_toArray, List.getElem_cons_zero, List.getElem_cons_succ, Act.put, List.setIfInBounds_toArray, List.set_cons_zero, List.set_cons_succ]
        refine WA.take (i := 9) (v := .int .i64 (c : Int)) rfl (by kernel_rfl) (by kernel_rfl) (by kernel_rfl) (fun _ _ _ h => h) (hdrop 9 (by decide)) (Or.inl ⟨by rfl, ?_⟩) (hS _) ?_
        · rintro w' ⟨L, hL, hSw, hun⟩
          obtain rfl := hSo hSw 
          go_simp
        simp only [List.getElem_toArray, List.getElem_cons_zero, List.getElem_cons_succ, Act.put, List.setIfInBounds_toArray, List.set_cons_zero, List.set_cons_succ]
        refine WA.take (i := 10) (v := .bool true) rfl (by kernel_rfl) (by kernel_rfl) (by kernel_rfl) (fun _ _ _ h => h) (hdrop 10 (by decide)) (Or.inl ⟨by rfl, ?_⟩) (hS _) ?_
        · rintro w' ⟨L, hL, hSw, hun⟩
          go_simp
        simp only [List.getElem_toArray, List.getElem_cons_zero, List.getElem_cons_succ, Act.put, List.setIfInBounds_toArray, List.set_cons_zero, List.set_cons_succ]
        refine WA.take (i := 11) (v := .bool true) rfl (by kernel_rfl) (by kernel_rfl) (by kernel_rfl) (fun _ _ _ h => h) (hdrop 11 (by decide)) (Or.inl ⟨by rfl, ?_⟩) (hS _) ?_
        · rintro w' ⟨L, hL, hSw, hun⟩
          go_simp
        simp only [List.getElem_toArray, List.getElem_cons_zero, List.getElem_cons_succ, Act.put, List.setIfInBounds_toArray, List.set_cons_zero, List.set_cons_succ]
        refine WA.take (i := 12) (v := .bool true) rfl (by kernel_rfl) (by kernel_rfl) (by kernel_rfl) (fun _ _ _ h => h) (hdrop 12 (by decide)) (Or.inl ⟨by rfl, ?_⟩) (hS _) ?_
        · rintro w' ⟨L, hL, hSw, hun⟩
          go_simp
        simp only [List.getElem_toArray, List.getElem_cons_zero, List.getElem_cons_succ, Act.put, List.setIfInBounds_toArray, List.set_cons_zero, List.set_cons_succ]
        refine WA.take (i := 13) (v := undef) rfl (by kernel_rfl) (by kernel_rfl) (by kernel_rfl) (fun _ _ _ h => h) (hdrop 13 (by decide)) (Or.inr ⟨by rfl, rfl⟩) (hS _) ?_
        simp only [List.getElem_toArray, List.getElem_cons_zero, List.getElem_cons_succ, Act.put, List.setIfInBounds_toArray, List.set_cons_zero, List.set_cons_succ]
        refine WA.take (i := 14) (v := undef) rfl (by kernel_rfl) (by kernel_rfl) (by kernel_rfl) (fun _ _ _ h => h) (hdrop 14 (by decide)) (Or.inr ⟨by rfl, rfl⟩) (hS _) ?_
        simp only [List.getElem_toArray, List.getElem_cons_zero, List.getElem_cons_succ, Act.put, List.setIfInBounds_toArray, List.set_cons_zero, List.set_cons_succ]
        refine WA.take (i := 15) (v := undef) rfl (by kernel_rfl) (by kernel_rfl) (by kernel_rfl) (fun _ _ _ h => h) (hdrop 15 (by decide)) (Or.inr ⟨by rfl, rfl⟩) (hS _) ?_
        simp only [List.getElem_toArray, List.getElem_cons_zero, List.getElem_cons_succ, Act.put, List.setIfInBounds_toArray, List.set_cons_zero, List.set_cons_succ]
        refine WA.take (i := 16) (v := undef) rfl (by kernel_rfl) (by kernel_rfl) (by kernel_rfl) (fun _ _ _ h => h) (hdrop 16 (by decide)) (Or.inr ⟨by rfl, rfl⟩) (hS _) ?_
        simp only [List.getElem_toArray, List.getElem_cons_zero, List.getElem_cons_succ, Act.put, List.setIfInBounds_toArray, List.set_cons_zero, List.set_cons_succ]
        refine WA.take (i := 17) (v := undef) rfl (by kernel_rfl) (by kernel_rfl) (by kernel_rfl) (fun _ _ _ h => h) (hdrop 17 (by decide)) (Or.inr ⟨by rfl, rfl⟩) (hS _) ?_
        simp only [List.getElem_toArray, List.getElem_cons_zero, List.getElem_cons_succ, Act.put, List.setIfInBounds_toArray, List.set_cons_zero, List.set_cons_succ]
        refine WA.take (i := 18) (v := undef) rfl (by kernel_rfl) (by kernel_rfl) (by kernel_rfl) (fun _ _ _ h => h) (hdrop 18 (by decide)) (Or.inr ⟨by rfl, rfl⟩) (hS _) ?_
        simp only [List.getElem_toArray, List.getElem_cons_zero, List.getElem_cons_succ, Act.put, List.setIfInBounds_toArray, List.set_cons_zero, List.set_cons_succ]
        refine WA.take (i := 19) (v := undef) rfl (by kernel_rfl) (by kernel_rfl) (by kernel_rfl) (fun _ _ _ h => h) (hdrop 19 (by decide)) (Or.inr ⟨by rfl, rfl⟩) (hS _) ?_
        simp only [List.getElem_toArray, List.getElem_cons_zero, List.getElem_cons_succ, Act.put, List.setIfInBounds_toArray, List.set_cons_zero, List.set_cons_succ]
        refine WA.take (i := 20) (v := undef) rfl (by kernel_rfl) (by kernel_rfl) (by kernel_rfl) (fun _ _ _ h => h) (hdrop 20 (by decide)) (Or.inr ⟨by rfl, rfl⟩) (hS _) ?_
        simp only [List.getElem_toArray, List.getElem_cons_zero, List.getElem_cons_succ, Act.put, List.setIfInBounds_toArray, List.set_cons_zero, List.set_cons_succ]
        refine WA.take (i := 21) (v := undef) rfl (by kernel_rfl) (by kernel_rfl) (by kernel_rfl) (fun _ _ _ h => h) (hdrop 21 (by decide)) (Or.inr ⟨by rfl, rfl⟩) (hS _) ?_
        simp only [List.getElem_toArray, List.getElem_cons_zero, List.getElem_cons_succ, Act.put, List.setIfInBounds_toArray, List.set_cons_zero, List.set_cons_succ]
        refine WA.take (i := 22) (v := .bool true) rfl (by kernel_rfl) (by kernel_rfl) (by kernel_rfl) (fun _ _ _ h => h) (hdrop 22 (by decide)) (Or.inl ⟨by rfl, ?_⟩) (hS _) ?_
        · rintro w' ⟨L, hL, hSw, hun⟩
          go_simp
        simp only [List.getElem_toArray, List.getElem_cons_zero, List.getElem_cons_succ, Act.put, List.setIfInBounds_toArray, List.set_cons_zero, List.set_cons_succ]
        refine WA.done (by kernel_rfl) ?_ _
        refine Nrm.normal ?_
        gi_wp2
        refine ⟨hkf.out.trans ((KeepsOthers.setCell _ _ _).from _), fun hp => ?_⟩
        obtain ⟨t, ht⟩ := hp
        have h1 : L[m]? = some x := by
          rw [← ht, List.append_assoc, List.getElem?_append_right (by rw [Hm'.out]; omega), Hm'.out, Nat.sub_self]
          rfl
        rw [List.getElem?_eq_getElem (by omega)] at h1
        have h2 := Hcc.out
        injection h1 with h1
        rw [h1] at h2
        exact hxc h2
    · have hd : decide ((m : Int) ≥ (ln : Int)) = true := by simp; omega
      have Hm' := Lib.hid hm'; have Hln := Lib.hid hln
      clear hz1 hz2 hz3 hzb
      gi_wp2_with fail
      have hc : W.drew.cell? ⟨W4.heap.size, 0, none⟩ = _ := hc
      have c2 : W.drew.cell? ⟨W2.heap.size, 0, none⟩ = _ := c2
      have c7 : W.drew.cell? ⟨w.heap.size, 0, none⟩ = _ := c7
      have hk9 := hk.below (fun i hi => hi.1) (Below.refl _ W).drew
      have hf9 : W.drew.frozen? ⟨W4.heap.size, 0, none⟩ = false := hf
      have hB9 := hB.drew
      have hkf := Lib.hid (show KeepsFrom Wb.heap.size W W.drew from ⟨Nat.le_refl _, fun k o _ h _ => h⟩)
      have hkk := Lib.hid (show KeepS (MKeep w.heap.size W3.heap.size) W W.drew from fun i _ => rfl)
      have b9 : W.drew.cell? ⟨w.heap.size + 2, 0, none⟩ = _ := b9
      have f9 : W.drew.frozen? ⟨w.heap.size + 2, 0, none⟩ = false := f9
      obtain ⟨S12, hSe⟩ : ∃ S : Array Bool → World → Prop, S = fun _ w' => w' = W.drew := ⟨_, rfl⟩
      have hdrop : ∀ i : Nat, i ≠ 1000 → ∀ L w', S12 (L.setIfInBounds i true) w' → S12 L w' := by
        intro i _ L w' h; rw [hSe] at h ⊢; exact h
      have hS : ∀ L, S12 L W.drew := by intro L; rw [hSe]
      have hSo : ∀ {L w'}, S12 L w' → w' = W.drew := by intro L w' h; rw [hSe] at h; exact h
      clear hSe
      refine wpIn_region_L2 S12 23 #[false, false, false, false, false, false, false, false, false, false, false, false, false, false, false, false, false, false, false, false, false, false, false] (by kernel_rfl) (by kernel_rfl) rfl (by kernel_rfl) ?_
      generalize W.drew = W9 at *
      refine WA.take (i := 0) (v := .int .i64 (m : Int)) rfl (by kernel_rfl) (by kernel_rfl) (by kernel_rfl) (fun _ _ _ h => h) (hdrop 0 (by decide)) (Or.inl ⟨by rfl, ?_⟩) (hS _) ?_
      · rintro w' ⟨L, hL, hSw, hun⟩
        obtain rfl := hSo hSw 
        go_simp
      simp only [List.getElem_toArray, List.getElem_cons_zero, List.getElem_cons_succ, Act.put, List.setIfInBounds_toArray, List.set_cons_zero, List.set_cons_succ]
      refine WA.take (i := 1) (v := .slice ao ln cap) rfl (by kernel_rfl) (by kernel_rfl) (by kernel_rfl) (fun _ _ _ h => h) (hdrop 1 (by decide)) (Or.inl ⟨by rfl, ?_⟩) (hS _) ?_
      · rintro w' ⟨L, hL, hSw, hun⟩
        obtain rfl := hSo hSw 
        go_simp
      simp only [List.getElem_toArray, List.getElem_cons_zero, List.getElem_cons_succ, Act.put, List.setIfInBounds_toArray, List.set_cons_zero, List.set_cons_succ]
      refine WA.take (i := 2) (v := .int .i64 (ln : Int)) rfl (by kernel_rfl) (by kernel_rfl) (by kernel_rfl) (fun _ _ _ h => h) (hdrop 2 (by decide)) (Or.inl ⟨by rfl, ?_⟩) (hS _) ?_
      · rintro w' ⟨L, hL, hSw, hun⟩
        go_simp
      simp only [List.getElem_toArray, List.getElem_cons_zero, List.getElem_cons_succ, Act.put, List.setIfInBounds_toArray, List.set_cons_zero, List.set_cons_succ]
      refine WA.take (i := 3) (v := .bool true) rfl (by kernel_rfl) (by kernel_rfl) (by kernel_rfl) (fun _ _ _ h => h) (hdrop 3 (by decide)) (Or.inl ⟨by rfl, ?_⟩) (hS _) ?_
      · rintro w' ⟨L, hL, hSw, hun⟩
        go_simp
        all_goals omega
      simp only [List.getElem_toArray, List.getElem_cons_zero, List.getElem_cons_succ, Act.put, List.setIfInBounds_toArray, List.set_cons_zero, List.set_cons_succ]
      refine WA.take (i := 4) (v := .bool true) rfl (by kernel_rfl) (by kernel_rfl) (by kernel_rfl) (fun _ _ _ h => h) (hdrop 4 (by decide)) (Or.inl ⟨by rfl, ?_⟩) (hS _) ?_
      · rintro w' ⟨L, hL, hSw, hun⟩
        go_simp
      simp only [List.getElem_toArray, List.getElem_cons_zero, List.getElem_cons_succ, Act.put, List.setIfInBounds_toArray, List.set_cons_zero, List.set_cons_succ]
      refine WA.take (i := 5) (v := undef) rfl (by kernel_rfl) (by kernel_rfl) (by kernel_rfl) (fun _ _ _ h => h) (hdrop 5 (by decide)) (Or.inr ⟨by rfl, rfl⟩) (hS _) ?_
      simp only [List.getElem_toArray, List.getElem_cons_zero, List.getElem_cons_succ, Act.put, List.setIfInBounds_toArray, List.set_cons_zero, List.set_cons_succ]
      refine WA.take (i := 6) (v := undef) rfl (by kernel_rfl) (by kernel_rfl) (by kernel_rfl) (fun _ _ _ h => h) (hdrop 6 (by decide)) (Or.inr ⟨by rfl, rfl⟩) (hS _) ?_
      simp only [List.getElem_toArray, List.getElem_cons_zero, List.getElem_cons_succ, Act.put, List.setIfInBounds_toArray, List.set_cons_zero, List.set_cons_succ]
      refine WA.take (i := 7) (v := undef) rfl (by kernel_rfl) (by kernel_rfl) (by kernel_rfl) (fun _ _ _ h => h) (hdrop 7 (by decide)) (Or.inr ⟨by rfl, rfl⟩) (hS _) ?_
      simp only [List.getElem_toArray, List.getElem_cons_zero, List.getElem_cons_succ, Act.put, List.setIfInBounds_toArray, List.set_cons_zero, List.set_cons_succ]
      refine WA.take (i := 8) (v := undef) rfl (by kernel_rfl) (by kernel_rfl) (by kernel_rfl) (fun _ _ _ h => h) (hdrop 8 (by decide)) (Or.inr ⟨by rfl, rfl⟩) (hS _) ?_
      simp only [List.getElem_toArray, List.getElem_cons_zero, List.getElem_cons_succ, Act.put, List.setIfInBounds_toArray, List.set_cons_zero, List.set_cons_succ]
      refine WA.take (i := 9) (v := undef) rfl (by kernel_rfl) (by kernel_rfl) (by kernel_rfl) (fun _ _ _ h => h) (hdrop 9 (by decide)) (Or.inr ⟨by rfl, rfl⟩) (hS _) ?_
      simp only [List.getElem_toArray, List.getElem_cons_zero, List.getElem_cons_succ, Act.put, List.setIfInBounds_toArray, List.set_cons_zero, List.set_cons_succ]
      refine WA.take (i := 10) (v := undef) rfl (by kernel_rfl) (by kernel_rfl) (by kernel_rfl) (fun _ _ _ h => h) (hdrop 10 (by decide)) (Or.inr ⟨by rfl, rfl⟩) (hS _) ?_
      simp only [List.getElem_toArray, List.getElem_cons_zero, List.getElem_cons_succ, Act.put, List.setIfInBounds_toArray, List.set_cons_zero, List.set_cons_succ]
      refine WA.take (i := 11) (v := .bool true) rfl (by kernel_rfl) (by kernel_rfl) (by kernel_rfl) (fun _ _ _ h => h) (hdrop 11 (by decide)) (Or.inl ⟨by rfl, ?_⟩) (hS _) ?_
      · rintro w' ⟨L, hL, hSw, hun⟩
        go_simp
      simp only [List.getElem_toArray, List.getElem_cons_zero, List.getElem_cons_succ, Act.put, List.setIfInBounds_toArray, List.set_cons_zero, List.set_cons_succ]
      refine WA.take (i := 12) (v := .bool true) rfl (by kernel_rfl) (by kernel_rfl) (by kernel_rfl) (fun _ _ _ h => h) (hdrop 12 (by decide)) (Or.inl ⟨by rfl, ?_⟩) (hS _) ?_
      · rintro w' ⟨L, hL, hSw, hun⟩
        go_simp
      simp only [List.getElem_toArray, List.getElem_cons_zero, List.getElem_cons_succ, Act.put, List.setIfInBounds_toArray, List.set_cons_zero, List.set_cons_succ]
      refine WA.take (i := 13) (v := undef) rfl (by kernel_rfl) (by kernel_rfl) (by kernel_rfl) (fun _ _ _ h => h) (hdrop 13 (by decide)) (Or.inr ⟨by rfl, rfl⟩) (hS _) ?_
      simp only [List.getElem_toArray, List.getElem_cons_zero, List.getElem_cons_succ, Act.put, List.setIfInBounds_toArray, List.set_cons_zero, List.set_cons_succ]
      refine WA.take (i := 14) (v := undef) rfl (by kernel_rfl) (by kernel_rfl) (by kernel_rfl) (fun _ _ _ h => h) (hdrop 14 (by decide)) (Or.inr ⟨by rfl, rfl⟩) (hS _) ?_
      simp only [List.getElem_toArray, List.getElem_cons_zero, List.getElem_cons_succ, Act.put, List.setIfInBounds_toArray, List.set_cons_zero, List.set_cons_succ]
      refine WA.take (i := 15) (v := undef) rfl (by kernel_rfl) (by kernel_rfl) (by kernel_rfl) (fun _ _ _ h => h) (hdrop 15 (by decide)) (Or.inr ⟨by rfl, rfl⟩) (hS _) ?_
      simp only [List.getElem_toArray, List.getElem_cons_zero, List.getElem_cons_succ, Act.put, List.setIfInBounds_toArray, List.set_cons_zero, List.set_cons_succ]
      refine WA.take (i := 16) (v := undef) rfl (by kernel_rfl) (by kernel_rfl) (by kernel_rfl) (fun _ _ _ h => h) (hdrop 16 (by decide)) (Or.inr ⟨by rfl, rfl⟩) (hS _) ?_
      simp only [List.getElem_toArray, List.getElem_cons_zero, List.getElem_cons_succ, Act.put, List.setIfInBounds_toArray, List.set_cons_zero, List.set_cons_succ]
      refine WA.take (i := 17) (v := undef) rfl (by kernel_rfl) (by kernel_rfl) (by kernel_rfl) (fun _ _ _ h => h) (hdrop 17 (by decide)) (Or.inr ⟨by rfl, rfl⟩) (hS _) ?_
      simp only [List.getElem_toArray, List.getElem_cons_zero, List.getElem_cons_succ, Act.put, List.setIfInBounds_toArray, List.set_cons_zero, List.set_cons_succ]
      refine WA.take (i := 18) (v := undef) rfl (by kernel_rfl) (by kernel_rfl) (by kernel_rfl) (fun _ _ _ h => h) (hdrop 18 (by decide)) (Or.inr ⟨by rfl, rfl⟩) (hS _) ?_
      simp only [List.getElem_toArray, List.getElem_cons_zero, List.getElem_cons_succ, Act.put, List.setIfInBounds_toArray, List.set_cons_zero, List.set_cons_succ]
      refine WA.take (i := 19) (v := undef) rfl (by kernel_rfl) (by kernel_rfl) (by kernel_rfl) (fun _ _ _ h => h) (hdrop 19 (by decide)) (Or.inr ⟨by rfl, rfl⟩) (hS _) ?_
      simp only [List.getElem_toArray, List.getElem_cons_zero, List.getElem_cons_succ, Act.put, List.setIfInBounds_toArray, List.set_cons_zero, List.set_cons_succ]
      refine WA.take (i := 20) (v := undef) rfl (by kernel_rfl) (by kernel_rfl) (by kernel_rfl) (fun _ _ _ h => h) (hdrop 20 (by decide)) (Or.inr ⟨by rfl, rfl⟩) (hS _) ?_
      simp only [List.getElem_toArray, List.getElem_cons_zero, List.getElem_cons_succ, Act.put, List.setIfInBounds_toArray, List.set_cons_zero, List.set_cons_succ]
      refine WA.take (i := 21) (v := undef) rfl (by kernel_rfl) (by kernel_rfl) (by kernel_rfl) (fun _ _ _ h => h) (hdrop 21 (by decide)) (Or.inr ⟨by rfl, rfl⟩) (hS _) ?_
      simp only [List.getElem_toArray, List.getElem_cons_zero, List.getElem_cons_succ, Act.put, List.setIfInBounds_toArray, List.set_cons_zero, List.set_cons_succ]
      refine WA.take (i := 22) (v := .bool true) rfl (by kernel_rfl) (by kernel_rfl) (by kernel_rfl) (fun _ _ _ h => h) (hdrop 22 (by decide)) (Or.inl ⟨by rfl, ?_⟩) (hS _) ?_
      · rintro w' ⟨L, hL, hSw, hun⟩
        go_simp
      simp only [List.getElem_toArray, List.getElem_cons_zero, List.getElem_cons_succ, Act.put, List.setIfInBounds_toArray, List.set_cons_zero, List.set_cons_succ]
      refine WA.done (by kernel_rfl) ?_ _
      refine Nrm.normal ?_
      gi_wp2
      refine ⟨hkf.out.trans ((KeepsOthers.setCell _ _ _).from _), fun hp => ?_⟩
      · have h1 := hp.length_le
        rw [List.length_append, List.length_singleton, Hm'.out, Hln.out] at h1
        omega
  case done =>
    rintro DD0 ys We0 hDD0 rfl ⟨⟨⟨hc, hf⟩, hk⟩, hB⟩ hdef0
    rw [HL.out] at hc
    obtain ⟨ln, hln⟩ : ∃ ln, L.length = ln := ⟨_, rfl⟩
    have c2 : We0.cell? ⟨W2.heap.size, 0, none⟩ = some (.slice ao L.length cap) := (hk.cell ⟨by omega, by omega⟩).trans c20
    have HKe0 := Lib.hid (show KS (fun i => i < W4.heap.size ∧ i ≠ w.heap.size + 2) W4 We0 from ⟨fun i hi => (hk.1 i ⟨by omega, by omega⟩).trans (HKb.out.1 i hi), by have := hk.2; omega⟩)
    have HBe0 := Lib.hid hB
    have hbe : We0.cell? ⟨w.heap.size + 2, 0, none⟩ = some (.bool false) := (hk.cell ⟨by omega, by omega⟩).trans hbW
    have hfe : We0.frozen? ⟨w.heap.size + 2, 0, none⟩ = false := (World.frozen?_of_block (w := Wb) (a := ⟨w.heap.size + 2, 0, none⟩) (hk.1 (w.heap.size + 2) ⟨by omega, by omega⟩)).trans hfW
    have HBRe0 := Lib.hid (show (∀ X, Below We0.heap.size We0 X → X.cell? ⟨w.heap.size + 2, 0, none⟩ = some (.bool false)) ∧ (∀ X, Below We0.heap.size We0 X → X.frozen? ⟨w.heap.size + 2, 0, none⟩ = false) from ⟨fun X hX => cell_later hX hbe, fun X hX => (World.frozen?_of_block (w := We0) (a := ⟨w.heap.size + 2, 0, none⟩) (hX.block _ (by have := hk.2; simp; omega))).trans hfe⟩)
    have Hdef0 := Lib.hid hdef0; have Hdd0 := Lib.hid (show Wb.heap.size ≤ DD0 from hDD0)
    have Hks0 := Lib.hid hk; have HNN := Lib.hid (show W4.heap.size < Wb.heap.size by omega)
    have HDK0 := Lib.hid (show w.heap.size + 3 ≤ DD0 ∧ DD0 < We0.heap.size from ⟨by omega, (Array.getElem?_eq_some_iff.1 hdef0).1⟩)
    clear hz1 hz2 hz3 hzb hk hB hdef0 hDD0 hPk hBb hBbw hs4 hm hKb hf hbe hfe HKb HKN Hzb hbW hfW c20 c70 i0 i1
    gi_wp2_with fail
    rw [roundsIn_succ]
    have HK1 := HKe0
    have HB1 := HBe0
    have HBR1 := HBRe0
    clear hc c2 hln
    gi_wp2_with fail
    obtain ⟨i0, i1⟩ := cell_new1 We0 (.int .i64 0) 3
    have hzb : (We0.alloc (.cells #[.int .i64 0] 3)).heap.size = We0.heap.size + 1 := World.size_alloc _ _
    have hBb : Below We0.heap.size We0 (We0.alloc (.cells #[.int .i64 0] 3)) := (Below.refl _ _).alloc (Nat.le_refl _) _
    generalize We0.alloc (.cells #[.int .i64 0] 3) = Wb at *
    obtain ⟨hz1, hz2, hz3⟩ := Hsz.out
    have hKb := HK1.out.below (fun i hi => hi.1) hBb
    have hBbw := HB1.out.trans (hBb.mono HB1.out.size)
    have hs4 := HK1.out.2
    have hm : MBox Wb W3.heap.size tb (x0, x1, x2) fr tu b := Hm4.out.keep (N := w.heap.size) (fun i hi => hKb.1 i (by rcases hi with h | h <;> constructor <;> omega))
    have hPk : ∀ i, MKeep w.heap.size W3.heap.size i → i < Wb.heap.size := by
      intro i hi
      rcases hi with h | h <;> omega
    have HKN := Lib.hid (show W4.heap.size ≤ We0.heap.size from hs4)
    have HKb := Lib.hid hKb; have Hzb := Lib.hid hzb
    have hbW : Wb.cell? ⟨w.heap.size + 2, 0, none⟩ = some (.bool false) := HBR1.out.1 Wb hBb
    have hfW : Wb.frozen? ⟨w.heap.size + 2, 0, none⟩ = false := HBR1.out.2 Wb hBb
    have c20 : Wb.cell? ⟨W2.heap.size, 0, none⟩ = some (.slice ao L.length cap) := (hKb.cell ⟨by omega, by omega⟩).trans l4
    have c70 : Wb.cell? ⟨w.heap.size, 0, none⟩ = some (.pointer (some ⟨rb, 0, none⟩)) := (hKb.cell ⟨by omega, by omega⟩).trans s0
    refine wpIn_rangeFunc_nr (fun t x bx => (((t.setIfInBounds 38 (.int .i64 (x : Nat))).setIfInBounds 39 (rv (rowOf T x))).setIfInBounds 17 (.int .i64 (x : Nat))).setIfInBounds 18 (.pointer (some ⟨bx, 0, none⟩))) rfl (by decide) (gf := 24) (lb := #[.pointer (some ⟨W3.heap.size, 0, none⟩), .pointer (some ⟨W3.heap.size + 2, 0, none⟩), .pointer (some ⟨W3.heap.size + 3, 0, none⟩), .pointer (some ⟨W3.heap.size + 1, 0, none⟩), .pointer (some ⟨W3.heap.size + 4, 0, none⟩)]) rfl trivial (enters_of Try.func24 (by kernel_rfl) rfl)
      (match1_stops (9 - 1) W3.heap.size tb (x0, x1, x2) hr fr tu b HST.out.t (fun i hi => hBbw.block i hi) (by omega) hm (by omega)) KeepS.t (fun W l o o' hl _ _ _ => KeepS.put hPk W l o o' hl) (Below.refl _ _)
      (fun pre W => ((W.cell? ⟨We0.heap.size, 0, none⟩ = some (.int .i64 pre.length) ∧ W.frozen? ⟨We0.heap.size, 0, none⟩ = false) ∧ KS (fun i => i < Wb.heap.size ∧ i ≠ We0.heap.size) Wb W) ∧ Below w.heap.size w W)
      (fun c pre W => ¬ pre <+: L)
      (OwnFrom.and (OwnFrom.and (Own.from (fun s A B row hs hg hr => ⟨cell_kept hs.1 hg hr, (frozen_kept hs.1 hg hr).trans hs.2⟩) _) (KS.own (fun i hi => hi.1))) (ownFrom_below (Nat.le_refl _) (by omega)))
      (fun _ _ _ _ _ hs _ _ => hs)
      ⟨⟨⟨i0, i1⟩, ⟨KeepS.refl _ _, Nat.le_refl _⟩⟩, hBbw⟩ ?assign ?body ?done (fun c pre W hp hn => hn (by rw [← HL.out]; exact hp))
    case assign =>
      rintro ln pre x W K ⟨⟨⟨hc, hf⟩, hk⟩, hB⟩ hK
      obtain ⟨⟨y0, y1, y2⟩, hy⟩ : ∃ y, rowOf T x = y := ⟨_, rfl⟩
      simp only [NRAx, hy, rv] at hK
      simp only [hy]
      simp only [rv]
      have HK := Lib.hid hK; have HBo := Lib.hid hB; have Hk := Lib.hid hk
      clear hK hB hk hz1 hz2 hz3 hzb
      gi_wp2
      have BA : Below W.heap.size W (W.alloc (.cells #[.int .u32 y0, .int .u32 y1, .int .u32 y2] 25)) := (Below.refl _ W).alloc (Nat.le_refl _) _
      exact HK.out _ _ ⟨BA.size, fun k o _ h _ => (BA.block k (Array.getElem?_eq_some_iff.1 h).1).trans h⟩ (KeepS.below BA (fun i hi => Nat.lt_of_lt_of_le (hPk i hi) Hk.out.2)) ⟨⟨⟨cell_later BA hc, (World.frozen?_of_block (w := W) (a := ⟨We0.heap.size, 0, none⟩) (BA.block _ (by have := Hk.out.2; have := Hzb.out; simp; omega))).trans hf⟩, Hk.out.below (fun i hi => hi.1) BA⟩, HBo.out.trans (BA.mono HBo.out.size)⟩ ⟨W.heap.size, Hk.out.2, rfl, heap_alloc_new W _⟩
    case body =>
      rintro lnn pre x W bx ⟨⟨⟨hc, hf⟩, hk⟩, hB⟩ hbxl hbx hlen
      obtain ⟨m, hm'⟩ : ∃ m, pre.length = m := ⟨_, rfl⟩
      obtain ⟨ln, hln⟩ : ∃ ln, L.length = ln := ⟨_, rfl⟩
      obtain ⟨⟨y0, y1, y2⟩, hy⟩ : ∃ y, rowOf T x = y := ⟨_, rfl⟩
      rw [hm'] at hc hlen
      simp only [hy] at hbx ⊢
      simp only [rv]
      have hmT : m < 1000000 := by have := HST.out.t.long; omega
      have hlT : ln ≤ 1000000 := by
        have h1 := HST.out.t.long
        rw [← hln, ← HL.out]
        unfold mlist candP
        exact Nat.le_trans (List.length_filter_le _ _) (Nat.le_trans (List.length_filter_le _ _) (by simpa using h1))
      have c2 : W.cell? ⟨W2.heap.size, 0, none⟩ = some (.slice ao ln cap) := by rw [← hln]; exact (hk.cell ⟨by omega, by omega⟩).trans c20
      have c7 : W.cell? ⟨w.heap.size, 0, none⟩ = some (.pointer (some ⟨rb, 0, none⟩)) := (hk.cell ⟨by omega, by omega⟩).trans c70
      have b9 : W.cell? ⟨w.heap.size + 2, 0, none⟩ = _ := (hk.cell ⟨by omega, by omega⟩).trans hbW
      have f9 : W.frozen? ⟨w.heap.size + 2, 0, none⟩ = false := (World.frozen?_of_block (w := Wb) (a := ⟨w.heap.size + 2, 0, none⟩) (hk.1 (w.heap.size + 2) ⟨by omega, by omega⟩)).trans hfW
      by_cases hml : m < ln
      · have hd : decide ((m : Int) ≥ (ln : Int)) = false := by simp; omega
        obtain ⟨g, rfl, hg1, hg2, hg3⟩ := Hcs4.out m (by omega)
        obtain ⟨c, hcc⟩ : ∃ c, L[m]'(by omega) = c := ⟨_, rfl⟩
        rw [hcc] at hg3
        have ci : W.cell? ⟨g, m, none⟩ = some (.int .i64 (c : Nat)) := ((hk.cell (g := g) (j := m) ⟨by omega, by omega⟩).trans (HKb.out.cell (g := g) (j := m) ⟨by omega, by omega⟩)).trans hg3
        by_cases hxc : x = c
        · subst hxc
          have hlx : x < T.length := by
            have : x ∈ L := by rw [← hcc]; exact List.getElem_mem _
            rw [← HL.out] at this
            unfold mlist candP at this
            simp only [List.mem_filter, List.mem_range] at this
            exact this.1.1
          have hRW := HST.out.r.blocks (fun i hi => hB.block i hi)
          obtain ⟨gr, capr, hvr, _, v0, v1, v2⟩ := hRW.row x hlx
          obtain ⟨cr, _, _⟩ := hRW.cells
          rw [← rowOf_get T x hlx, hy] at v0 v1 v2
          obtain ⟨lT, hlTT⟩ : ∃ lT, T.length = lT := ⟨_, rfl⟩
          have hlx' : x < lT := by omega
          have hlTl : lT ≤ 1000000 := by have := HST.out.t.long; omega
          rw [hvr, hlTT] at cr
          have z : W.cell? ⟨bx, 0, none⟩ = some (.int .u32 y0) ∧ W.cell? ⟨bx, 1, none⟩ = some (.int .u32 y1) ∧ W.cell? ⟨bx, 2, none⟩ = some (.int .u32 y2) := by
            unfold World.cell?; rw [hbx]; exact ⟨rfl, rfl, rfl⟩
          obtain ⟨z0, z1, z2⟩ := z
          have he := eqRow y0 y1 y2 y0 y1 y2
          rw [show (y0 == y0 && (y1 == y1 && y2 == y2)) = true by simp] at he
          have Hm' := Lib.hid hm'; have Hln := Lib.hid hln; have Hcc := Lib.hid hcc; have HBo := Lib.hid hB
          clear hRW hvr hlTT hz1 hz2 hz3 hzb
          gi_wp2_with fail
          have hc : W.drew.cell? ⟨We0.heap.size, 0, none⟩ = _ := hc
          have c2 : W.drew.cell? ⟨W2.heap.size, 0, none⟩ = _ := c2
          have c7 : W.drew.cell? ⟨w.heap.size, 0, none⟩ = _ := c7
          have ci : W.drew.cell? ⟨g, m, none⟩ = _ := ci
          have z0 : W.drew.cell? ⟨bx, 0, none⟩ = _ := z0
          have z1 : W.drew.cell? ⟨bx, 1, none⟩ = _ := z1
          have z2 : W.drew.cell? ⟨bx, 2, none⟩ = _ := z2
          have cr : W.drew.cell? ⟨rb, 0, none⟩ = _ := cr
          have v0 : W.drew.cell? ⟨gr, x * 3, none⟩ = _ := v0
          have v1 : W.drew.cell? ⟨gr, x * 3 + 1, none⟩ = _ := v1
          have v2 : W.drew.cell? ⟨gr, x * 3 + 2, none⟩ = _ := v2
          have hk9 := hk.below (fun i hi => hi.1) (Below.refl _ W).drew
          have hf9 : W.drew.frozen? ⟨We0.heap.size, 0, none⟩ = false := hf
          have hB9 := hB.drew
          have hkf := Lib.hid (show KeepsFrom Wb.heap.size W W.drew from ⟨Nat.le_refl _, fun k o _ h _ => h⟩)
          have hkk := Lib.hid (show KeepS (MKeep w.heap.size W3.heap.size) W W.drew from fun i _ => rfl)
          have b9 : W.drew.cell? ⟨w.heap.size + 2, 0, none⟩ = _ := b9
          have f9 : W.drew.frozen? ⟨w.heap.size + 2, 0, none⟩ = false := f9
          obtain ⟨S12, hSe⟩ : ∃ S : Array Bool → World → Prop, S = fun _ w' => w' = W.drew := ⟨_, rfl⟩
          have hdrop : ∀ i : Nat, i ≠ 1000 → ∀ L w', S12 (L.setIfInBounds i true) w' → S12 L w' := by
            intro i _ L w' h; rw [hSe] at h ⊢; exact h
          have hS : ∀ L, S12 L W.drew := by intro L; rw [hSe]
          have hSo : ∀ {L w'}, S12 L w' → w' = W.drew := by intro L w' h; rw [hSe] at h; exact h
          clear hSe
          refine wpIn_region_L2 S12 23 #[false, false, false, false, false, false, false, false, false, false, false, false, false, false, false, false, false, false, false, false, false, false, false] (by kernel_rfl) (by kernel_rfl) rfl (by kernel_rfl) ?_
          generalize W.drew = W9 at *
          refine WA.take (i := 0) (v := .int .i64 (m : Int)) rfl (by kernel_rfl) (by kernel_rfl) (by kernel_rfl) (fun _ _ _ h => h) (hdrop 0 (by decide)) (Or.inl ⟨by rfl, ?_⟩) (hS _) ?_
          · rintro w' ⟨L, hL, hSw, hun⟩
            obtain rfl := hSo hSw 
            go_simp
          simp only [List.getElem_toArray, List.getElem_cons_zero, List.getElem_cons_succ, Act.put, List.setIfInBounds_toArray, List.set_cons_zero, List.set_cons_succ]
          refine WA.take (i := 1) (v := .slice (some ⟨g, 0, none⟩) ln cap) rfl (by kernel_rfl) (by kernel_rfl) (by kernel_rfl) (fun _ _ _ h => h) (hdrop 1 (by decide)) (Or.inl ⟨by rfl, ?_⟩) (hS _) ?_
          · rintro w' ⟨L, hL, hSw, hun⟩
            obtain rfl := hSo hSw 
            go_simp
          simp only [List.getElem_toArray, List.getElem_cons_zero, List.getElem_cons_succ, Act.put, List.setIfInBounds_toArray, List.set_cons_zero, List.set_cons_succ]
          refine WA.take (i := 2) (v := .int .i64 (ln : Int)) rfl (by kernel_rfl) (by kernel_rfl) (by kernel_rfl) (fun _ _ _ h => h) (hdrop 2 (by decide)) (Or.inl ⟨by rfl, ?_⟩) (hS _) ?_
          · rintro w' ⟨L, hL, hSw, hun⟩
            go_simp
          simp only [List.getElem_toArray, List.getElem_cons_zero, List.getElem_cons_succ, Act.put, List.setIfInBounds_toArray, List.set_cons_zero, List.set_cons_succ]
          refine WA.take (i := 3) (v := .bool false) rfl (by kernel_rfl) (by kernel_rfl) (by kernel_rfl) (fun _ _ _ h => h) (hdrop 3 (by decide)) (Or.inl ⟨by rfl, ?_⟩) (hS _) ?_
          · rintro w' ⟨L, hL, hSw, hun⟩
            go_simp
            all_goals omega
          simp only [List.getElem_toArray, List.getElem_cons_zero, List.getElem_cons_succ, Act.put, List.setIfInBounds_toArray, List.set_cons_zero, List.set_cons_succ]
          refine WA.take (i := 4) (v := .bool false) rfl (by kernel_rfl) (by kernel_rfl) (by kernel_rfl) (fun _ _ _ h => h) (hdrop 4 (by decide)) (Or.inl ⟨by rfl, ?_⟩) (hS _) ?_
          · rintro w' ⟨L, hL, hSw, hun⟩
            go_simp
          simp only [List.getElem_toArray, List.getElem_cons_zero, List.getElem_cons_succ, Act.put, List.setIfInBounds_toArray, List.set_cons_zero, List.set_cons_succ]
          refine WA.take (i := 5) (v := .int .i64 (x : Int)) rfl (by kernel_rfl) (by kernel_rfl) (by kernel_rfl) (fun _ _ _ h => h) (hdrop 5 (by decide)) (Or.inl ⟨by rfl, ?_⟩) (hS _) ?_
          · rintro w' ⟨L, hL, hSw, hun⟩
            go_simp
          simp only [List.getElem_toArray, List.getElem_cons_zero, List.getElem_cons_succ, Act.put, List.setIfInBounds_toArray, List.set_cons_zero, List.set_cons_succ]
          refine WA.take (i := 6) (v := .slice (some ⟨g, 0, none⟩) ln cap) rfl (by kernel_rfl) (by kernel_rfl) (by kernel_rfl) (fun _ _ _ h => h) (hdrop 6 (by decide)) (Or.inl ⟨by rfl, ?_⟩) (hS _) ?_
          · rintro w' ⟨L, hL, hSw, hun⟩
            obtain rfl := hSo hSw 
            go_simp
          simp only [List.getElem_toArray, List.getElem_cons_zero, List.getElem_cons_succ, Act.put, List.setIfInBounds_toArray, List.set_cons_zero, List.set_cons_succ]
          refine WA.take (i := 7) (v := .int .i64 (m : Int)) rfl (by kernel_rfl) (by kernel_rfl) (by kernel_rfl) (fun _ _ _ h => h) (hdrop 7 (by decide)) (Or.inl ⟨by rfl, ?_⟩) (hS _) ?_
          · rintro w' ⟨L, hL, hSw, hun⟩
            obtain rfl := hSo hSw 
            go_simp
          simp only [List.getElem_toArray, List.getElem_cons_zero, List.getElem_cons_succ, Act.put, List.setIfInBounds_toArray, List.set_cons_zero, List.set_cons_succ]
          refine WA.take (i := 8) (v := .pointer (some ⟨g, m, none⟩)) rfl (by kernel_rfl) (by kernel_rfl) (by kernel_rfl) (fun _ _ _ h => h) (hdrop 8 (by decide)) (Or.inl ⟨by rfl, ?_⟩) (hS _) ?_
          · rintro w' ⟨L, hL, hSw, hun⟩
            go_simp
          simp only [List.getElem_toArray, List.getElem_cons_zero, List.getElem_cons_succ, Act.put, List.setIfInBounds_toArray, List.set_cons_zero, List.set_cons_succ]
          refine WA.take (i := 9) (v := .int .i64 (x : Int)) rfl (by kernel_rfl) (by kernel_rfl) (by kernel_rfl) (fun _ _ _ h => h) (hdrop 9 (by decide)) (Or.inl ⟨by rfl, ?_⟩) (hS _) ?_
          · rintro w' ⟨L, hL, hSw, hun⟩
            obtain rfl := hSo hSw 
            go_simp
          simp only [List.getElem_toArray, List.getElem_cons_zero, List.getElem_cons_succ, Act.put, List.setIfInBounds_toArray, List.set_cons_zero, List.set_cons_succ]
          refine WA.take (i := 10) (v := .bool false) rfl (by kernel_rfl) (by kernel_rfl) (by kernel_rfl) (fun _ _ _ h => h) (hdrop 10 (by decide)) (Or.inl ⟨by rfl, ?_⟩) (hS _) ?_
          · rintro w' ⟨L, hL, hSw, hun⟩
            go_simp
          simp only [List.getElem_toArray, List.getElem_cons_zero, List.getElem_cons_succ, Act.put, List.setIfInBounds_toArray, List.set_cons_zero, List.set_cons_succ]
          refine WA.take (i := 11) (v := .bool false) rfl (by kernel_rfl) (by kernel_rfl) (by kernel_rfl) (fun _ _ _ h => h) (hdrop 11 (by decide)) (Or.inl ⟨by rfl, ?_⟩) (hS _) ?_
          · rintro w' ⟨L, hL, hSw, hun⟩
            go_simp
          simp only [List.getElem_toArray, List.getElem_cons_zero, List.getElem_cons_succ, Act.put, List.setIfInBounds_toArray, List.set_cons_zero, List.set_cons_succ]
          refine WA.take (i := 12) (v := .bool false) rfl (by kernel_rfl) (by kernel_rfl) (by kernel_rfl) (fun _ _ _ h => h) (hdrop 12 (by decide)) (Or.inl ⟨by rfl, ?_⟩) (hS _) ?_
          · rintro w' ⟨L, hL, hSw, hun⟩
            go_simp
          simp only [List.getElem_toArray, List.getElem_cons_zero, List.getElem_cons_succ, Act.put, List.setIfInBounds_toArray, List.set_cons_zero, List.set_cons_succ]
          refine WA.take (i := 13) (v := .agg #[.int .u32 y0, .int .u32 y1, .int .u32 y2]) rfl (by kernel_rfl) (by kernel_rfl) (by kernel_rfl) (fun _ _ _ h => h) (hdrop 13 (by decide)) (Or.inl ⟨by rfl, ?_⟩) (hS _) ?_
          · rintro w' ⟨L, hL, hSw, hun⟩
            obtain rfl := hSo hSw 
            go_simp
          simp only [List.getElem_toArray, List.getElem_cons_zero, List.getElem_cons_succ, Act.put, List.setIfInBounds_toArray, List.set_cons_zero, List.set_cons_succ]
          refine WA.take (i := 14) (v := .pointer (some ⟨rb, 0, none⟩)) rfl (by kernel_rfl) (by kernel_rfl) (by kernel_rfl) (fun _ _ _ h => h) (hdrop 14 (by decide)) (Or.inl ⟨by rfl, ?_⟩) (hS _) ?_
          · rintro w' ⟨L, hL, hSw, hun⟩
            obtain rfl := hSo hSw 
            go_simp
          simp only [List.getElem_toArray, List.getElem_cons_zero, List.getElem_cons_succ, Act.put, List.setIfInBounds_toArray, List.set_cons_zero, List.set_cons_succ]
          refine WA.take (i := 15) (v := .pointer (some ⟨rb, 0, none⟩)) rfl (by kernel_rfl) (by kernel_rfl) (by kernel_rfl) (fun _ _ _ h => h) (hdrop 15 (by decide)) (Or.inl ⟨by rfl, ?_⟩) (hS _) ?_
          · rintro w' ⟨L, hL, hSw, hun⟩
            go_simp
          simp only [List.getElem_toArray, List.getElem_cons_zero, List.getElem_cons_succ, Act.put, List.setIfInBounds_toArray, List.set_cons_zero, List.set_cons_succ]
          refine WA.take (i := 16) (v := .pointer (some ⟨rb, 0, none⟩)) rfl (by kernel_rfl) (by kernel_rfl) (by kernel_rfl) (fun _ _ _ h => h) (hdrop 16 (by decide)) (Or.inl ⟨by rfl, ?_⟩) (hS _) ?_
          · rintro w' ⟨L, hL, hSw, hun⟩
            go_simp
          simp only [List.getElem_toArray, List.getElem_cons_zero, List.getElem_cons_succ, Act.put, List.setIfInBounds_toArray, List.set_cons_zero, List.set_cons_succ]
          refine WA.take (i := 17) (v := .slice (some ⟨gr, 0, none⟩) lT capr) rfl (by kernel_rfl) (by kernel_rfl) (by kernel_rfl) (fun _ _ _ h => h) (hdrop 17 (by decide)) (Or.inl ⟨by rfl, ?_⟩) (hS _) ?_
          · rintro w' ⟨L, hL, hSw, hun⟩
            obtain rfl := hSo hSw 
            go_simp
          simp only [List.getElem_toArray, List.getElem_cons_zero, List.getElem_cons_succ, Act.put, List.setIfInBounds_toArray, List.set_cons_zero, List.set_cons_succ]
          refine WA.take (i := 18) (v := .int .i64 (x : Int)) rfl (by kernel_rfl) (by kernel_rfl) (by kernel_rfl) (fun _ _ _ h => h) (hdrop 18 (by decide)) (Or.inl ⟨by rfl, ?_⟩) (hS _) ?_
          · rintro w' ⟨L, hL, hSw, hun⟩
            go_simp
          simp only [List.getElem_toArray, List.getElem_cons_zero, List.getElem_cons_succ, Act.put, List.setIfInBounds_toArray, List.set_cons_zero, List.set_cons_succ]
          refine WA.take (i := 19) (v := .pointer (some ⟨gr, x * 3, none⟩)) rfl (by kernel_rfl) (by kernel_rfl) (by kernel_rfl) (fun _ _ _ h => h) (hdrop 19 (by decide)) (Or.inl ⟨by rfl, ?_⟩) (hS _) ?_
          · rintro w' ⟨L, hL, hSw, hun⟩
            go_simp
          simp only [List.getElem_toArray, List.getElem_cons_zero, List.getElem_cons_succ, Act.put, List.setIfInBounds_toArray, List.set_cons_zero, List.set_cons_succ]
          refine WA.take (i := 20) (v := .agg #[.int .u32 y0, .int .u32 y1, .int .u32 y2]) rfl (by kernel_rfl) (by kernel_rfl) (by kernel_rfl) (fun _ _ _ h => h) (hdrop 20 (by decide)) (Or.inl ⟨by rfl, ?_⟩) (hS _) ?_
          · rintro w' ⟨L, hL, hSw, hun⟩
            obtain rfl := hSo hSw 
            go_simp
          simp only [List.getElem_toArray, List.getElem_cons_zero, List.getElem_cons_succ, Act.put, List.setIfInBounds_toArray, List.set_cons_zero, List.set_cons_succ]
          refine WA.take (i := 21) (v := .bool false) rfl (by kernel_rfl) (by kernel_rfl) (by kernel_rfl) (fun _ _ _ h => h) (hdrop 21 (by decide)) (Or.inl ⟨by rfl, ?_⟩) (hS _) ?_
          · rintro w' ⟨L, hL, hSw, hun⟩
            go_simp
          simp only [List.getElem_toArray, List.getElem_cons_zero, List.getElem_cons_succ, Act.put, List.setIfInBounds_toArray, List.set_cons_zero, List.set_cons_succ]
          refine WA.take (i := 22) (v := .bool false) rfl (by kernel_rfl) (by kernel_rfl) (by kernel_rfl) (fun _ _ _ h => h) (hdrop 22 (by decide)) (Or.inl ⟨by rfl, ?_⟩) (hS _) ?_
          · rintro w' ⟨L, hL, hSw, hun⟩
            go_simp
          simp only [List.getElem_toArray, List.getElem_cons_zero, List.getElem_cons_succ, Act.put, List.setIfInBounds_toArray, List.set_cons_zero, List.set_cons_succ]
          refine WA.done (by kernel_rfl) ?_ _
          refine Nrm.normal ?_
          gi_wp2
          refine ⟨hkf.out.trans ((KeepsOthers.setCell _ _ _).from _), hkk.out.t (KeepS.set _ _ _ ?_), ⟨⟨⟨by rw [List.length_append, Hm'.out]; exact World.cell?_setCell_same' _ _ _ (by rw [hc]; rfl), by rw [World.frozen?_setCell]; exact hf9⟩, hk9.set _ _ (by simp)⟩, hB9.setCell (p := ⟨We0.heap.size, 0, none⟩) ?_ _⟩⟩
          · have := Hsz.out; have := HKN.out
            simp only [MKeep]; omega
          · have := Hsz.out; have := HKN.out
            simp; omega
        · have hd2 : ((x : Int) != (c : Int)) = true := by simp; omega
          have Hm' := Lib.hid hm'; have Hln := Lib.hid hln; have Hcc := Lib.hid hcc
          clear hz1 hz2 hz3 hzb
          gi_wp2_with fail
          have hc : W.drew.cell? ⟨We0.heap.size, 0, none⟩ = _ := hc
          have c2 : W.drew.cell? ⟨W2.heap.size, 0, none⟩ = _ := c2
          have c7 : W.drew.cell? ⟨w.heap.size, 0, none⟩ = _ := c7
          have ci : W.drew.cell? ⟨g, m, none⟩ = _ := ci
          have hk9 := hk.below (fun i hi => hi.1) (Below.refl _ W).drew
          have hf9 : W.drew.frozen? ⟨We0.heap.size, 0, none⟩ = false := hf
          have hB9 := hB.drew
          have hkf := Lib.hid (show KeepsFrom Wb.heap.size W W.drew from ⟨Nat.le_refl _, fun k o _ h _ => h⟩)
          have hkk := Lib.hid (show KeepS (MKeep w.heap.size W3.heap.size) W W.drew from fun i _ => rfl)
          have b9 : W.drew.cell? ⟨w.heap.size + 2, 0, none⟩ = _ := b9
          have f9 : W.drew.frozen? ⟨w.heap.size + 2, 0, none⟩ = false := f9
          obtain ⟨S12, hSe⟩ : ∃ S : Array Bool → World → Prop, S = fun _ w' => w' = W.drew := ⟨_, rfl⟩
          have hdrop : ∀ i : Nat, i ≠ 1000 → ∀ L w', S12 (L.setIfInBounds i true) w' → S12 L w' := by
            intro i _ L w' h; rw [hSe] at h ⊢; exact h
          have hS : ∀ L, S12 L W.drew := by intro L; rw [hSe]
          have hSo : ∀ {L w'}, S12 L w' → w' = W.drew := by intro L w' h; rw [hSe] at h; exact h
          clear hSe
          refine wpIn_region_L2 S12 23 #[false, false, false, false, false, false, false, false, false, false, false, false, false, false, false, false, false, false, false, false, false, false, false] (by kernel_rfl) (by kernel_rfl) rfl (by kernel_rfl) ?_
          generalize W.drew = W9 at *
          refine WA.take (i := 0) (v := .int .i64 (m : Int)) rfl (by kernel_rfl) (by kernel_rfl) (by kernel_rfl) (fun _ _ _ h => h) (hdrop 0 (by decide)) (Or.inl ⟨by rfl, ?_⟩) (hS _) ?_
          · rintro w' ⟨L, hL, hSw, hun⟩
            obtain rfl := hSo hSw 
            go_simp
          simp only [List.getElem_toArray, List.getElem_cons_zero, List.getElem_cons_succ, Act.put, List.setIfInBounds_toArray, List.set_cons_zero, List.set_cons_succ]
          refine WA.take (i := 1) (v := .slice (some ⟨g, 0, none⟩) ln cap) rfl (by kernel_rfl) (by kernel_rfl) (by kernel_rfl) (fun _ _ _ h => h) (hdrop 1 (by decide)) (Or.inl ⟨by rfl, ?_⟩) (hS _) ?_
          · rintro w' ⟨L, hL, hSw, hun⟩
            obtain rfl := hSo hSw 
            go_simp
          simp only [List.getElem_toArray, List.getElem_cons_zero, List.getElem_cons_succ, Act.put, List.setIfInBounds_toArray, List.set_cons_zero, List.set_cons_succ]
          refine WA.take (i := 2) (v := .int .i64 (ln : Int)) rfl (by kernel_rfl) (by kernel_rfl) (by kernel_rfl) (fun _ _ _ h => h) (hdrop 2 (by decide)) (Or.inl ⟨by rfl, ?_⟩) (hS _) ?_
          · rintro w' ⟨L, hL, hSw, hun⟩
            go_simp
          simp only [List.getElem_toArray, List.getElem_cons_zero, List.getElem_cons_succ, Act.put, List.setIfInBounds_toArray, List.set_cons_zero, List.set_cons_succ]
          refine WA.take (i := 3) (v := .bool false) rfl (by kernel_rfl) (by kernel_rfl) (by kernel_rfl) (fun _ _ _ h => h) (hdrop 3 (by decide)) (Or.inl ⟨by rfl, ?_⟩) (hS _) ?_
          · rintro w' ⟨L, hL, hSw, hun⟩
            go_simp
            all_goals omega
          simp only [List.getElem_toArray, List.getElem_cons_zero, List.getElem_cons_succ, Act.put, List.setIfInBounds_toArray, List.set_cons_zero, List.set_cons_succ]
          refine WA.take (i := 4) (v := .bool false) rfl (by kernel_rfl) (by kernel_rfl) (by kernel_rfl) (fun _ _ _ h => h) (hdrop 4 (by decide)) (Or.inl ⟨by rfl, ?_⟩) (hS _) ?_
          · rintro w' ⟨L, hL, hSw, hun⟩
            go_simp
          simp only [List.getElem_toArray, List.getElem_cons_zero, List.getElem_cons_succ, Act.put, List.setIfInBounds_toArray, List.set_cons_zero, List.set_cons_succ]
          refine WA.take (i := 5) (v := .int .i64 (x : Int)) rfl (by kernel_rfl) (by kernel_rfl) (by kernel_rfl) (fun _ _ _ h => h) (hdrop 5 (by decide)) (Or.inl ⟨by rfl, ?_⟩) (hS _) ?_
          · rintro w' ⟨L, hL, hSw, hun⟩
            go_simp
          simp only [List.getElem_toArray, List.getElem_cons_zero, List.getElem_cons_succ, Act.put, List.setIfInBounds_toArray, List.set_cons_zero, List.set_cons_succ]
          refine WA.take (i := 6) (v := .slice (some ⟨g, 0, none⟩) ln cap) rfl (by kernel_rfl) (by kernel_rfl) (by kernel_rfl) (fun _ _ _ h => h) (hdrop 6 (by decide)) (Or.inl ⟨by rfl, ?_⟩) (hS _) ?_
          · rintro w' ⟨L, hL, hSw, hun⟩
            obtain rfl := hSo hSw 
            go_simp
          simp only [List.getElem_toArray, List.getElem_cons_zero, List.getElem_cons_succ, Act.put, List.setIfInBounds_toArray, List.set_cons_zero, List.set_cons_succ]
          refine WA.take (i := 7) (v := .int .i64 (m : Int)) rfl (by kernel_rfl) (by kernel_rfl) (by kernel_rfl) (fun _ _ _ h => h) (hdrop 7 (by decide)) (Or.inl ⟨by rfl, ?_⟩) (hS _) ?_
          · rintro w' ⟨L, hL, hSw, hun⟩
            obtain rfl := hSo hSw 
            go_simp
          simp only [List.getElem_toArray, List.getElem_cons_zero, List.getElem_cons_succ, Act.put, List.setIfInBounds_toArray, List.set_cons_zero, List.set_cons_succ]
          refine WA.take (i := 8) (v := .pointer (some ⟨g, m, none⟩)) rfl (by kernel_rfl) (by kernel_rfl) (by kernel_rfl) (fun _ _ _ h => h) (hdrop 8 (by decide)) (Or.inl ⟨by rfl, ?_⟩) (hS _) ?_
          · rintro w' ⟨L, hL, hSw, hun⟩
            go_simp
          simp only [List.getElem_toArray, List.getElem_cons_zero, List.getElem_cons_succ, Act.put, List.setIfInBounds_toArray, List.set_cons_zero, List.set_cons_succ]
          refine WA.take (i := 9) (v := .int .i64 (c : Int)) rfl (by kernel_rfl) (by kernel_rfl) (by kernel_rfl) (fun _ _ _ h => h) (hdrop 9 (by decide)) (Or.inl ⟨by rfl, ?_⟩) (hS _) ?_
          · rintro w' ⟨L, hL, hSw, hun⟩
            obtain rfl := hSo hSw 
            go_simp
          simp only [List.getElem_toArray, List.getElem_cons_zero, List.getElem_cons_succ, Act.put, List.setIfInBounds_toArray, List.set_cons_zero, List.set_cons_succ]
          refine WA.take (i := 10) (v := .bool true) rfl (by kernel_rfl) (by kernel_rfl) (by kernel_rfl) (fun _ _ _ h => h) (hdrop 10 (by decide)) (Or.inl ⟨by rfl, ?_⟩) (hS _) ?_
          · rintro w' ⟨L, hL, hSw, hun⟩
            go_simp
          simp only [List.getElem_toArray, List.getElem_cons_zero, List.getElem_cons_succ, Act.put, List.setIfInBounds_toArray, List.set_cons_zero, List.set_cons_succ]
          refine WA.take (i := 11) (v := .bool true) rfl (by kernel_rfl) (by kernel_rfl) (by kernel_rfl) (fun _ _ _ h => h) (hdrop 11 (by decide)) (Or.inl ⟨by rfl, ?_⟩) (hS _) ?_
          · rintro w' ⟨L, hL, hSw, hun⟩
            go_simp
          simp only [List.getElem_toArray, List.getElem_cons_zero, List.getElem_cons_succ, Act.put, List.setIfInBounds_toArray, List.set_cons_zero, List.set_cons_succ]
          refine WA.take (i := 12) (v := .bool true) rfl (by kernel_rfl) (by kernel_rfl) (by kernel_rfl) (fun _ _ _ h => h) (hdrop 12 (by decide)) (Or.inl ⟨by rfl, ?_⟩) (hS _) ?_
          · rintro w' ⟨L, hL, hSw, hun⟩
            go_simp
          simp only [List.getElem_toArray, List.getElem_cons_zero, List.getElem_cons_succ, Act.put, List.setIfInBounds_toArray, List.set_cons_zero, List.set_cons_succ]
          refine WA.take (i := 13) (v := undef) rfl (by kernel_rfl) (by kernel_rfl) (by kernel_rfl) (fun _ _ _ h => h) (hdrop 13 (by decide)) (Or.inr ⟨by rfl, rfl⟩) (hS _) ?_
          simp only [List.getElem_toArray, List.getElem_cons_zero, List.getElem_cons_succ, Act.put, List.setIfInBounds_toArray, List.set_cons_zero, List.set_cons_succ]
          refine WA.take (i := 14) (v := undef) rfl (by kernel_rfl) (by kernel_rfl) (by kernel_rfl) (fun _ _ _ h => h) (hdrop 14 (by decide)) (Or.inr ⟨by rfl, rfl⟩) (hS _) ?_
          simp only [List.getElem_toArray, List.getElem_cons_zero, List.getElem_cons_succ, Act.put, List.setIfInBounds_toArray, List.set_cons_zero, List.set_cons_succ]
          refine WA.take (i := 15) (v := undef) rfl (by kernel_rfl) (by kernel_rfl) (by kernel_rfl) (fun _ _ _ h => h) (hdrop 15 (by decide)) (Or.inr ⟨by rfl, rfl⟩) (hS _) ?_
          simp only [List.getElem_toArray, List.getElem_cons_zero, List.getElem_cons_succ, Act.put, List.setIfInBounds_toArray, List.set_cons_zero, List.set_cons_succ]
          refine WA.take (i := 16) (v := undef) rfl (by kernel_rfl) (by kernel_rfl) (by kernel_rfl) (fun _ _ _ h => h) (hdrop 16 (by decide)) (Or.inr ⟨by rfl, rfl⟩) (hS _) ?_
          simp only [List.getElem_toArray, List.getElem_cons_zero, List.getElem_cons_succ, Act.put, List.setIfInBounds_toArray, List.set_cons_zero, List.set_cons_succ]
          refine WA.take (i := 17) (v := undef) rfl (by kernel_rfl) (by kernel_rfl) (by kernel_rfl) (fun _ _ _ h => h) (hdrop 17 (by decide)) (Or.inr ⟨by rfl, rfl⟩) (hS _) ?_
          simp only [List.getElem_toArray, List.getElem_cons_zero, List.getElem_cons_succ, Act.put, List.setIfInBounds_toArray, List.set_cons_zero, List.set_cons_succ]
          refine WA.take (i := 18) (v := undef) rfl (by kernel_rfl) (by kernel_rfl) (by kernel_rfl) (fun _ _ _ h => h) (hdrop 18 (by decide)) (Or.inr ⟨by rfl, rfl⟩) (hS _) ?_
          simp only [List.getElem_toArray, List.getElem_cons_zero, List.getElem_cons_succ, Act.put, List.setIfInBounds_toArray, List.set_cons_zero, List.set_cons_succ]
          refine WA.take (i := 19) (v := undef) rfl (by kernel_rfl) (by kernel_rfl) (by kernel_rfl) (fun _ _ _ h => h) (hdrop 19 (by decide)) (Or.inr ⟨by rfl, rfl⟩) (hS _) ?_
          simp only [List.getElem_toArray, List.getElem_cons_zero, List.getElem_cons_succ, Act.put, List.setIfInBounds_toArray, List.set_cons_zero, List.set_cons_succ]
          refine WA.take (i := 20) (v := undef) rfl (by kernel_rfl) (by kernel_rfl) (by kernel_rfl) (fun _ _ _ h => h) (hdrop 20 (by decide)) (Or.inr ⟨by rfl, rfl⟩) (hS _) ?_
          simp only [List.getElem_toArray, List.getElem_cons_zero, List.getElem_cons_succ, Act.put, List.setIfInBounds_toArray, List.set_cons_zero, List.set_cons_succ]
          refine WA.take (i := 21) (v := undef) rfl (by kernel_rfl) (by kernel_rfl) (by kernel_rfl) (fun _ _ _ h => h) (hdrop 21 (by decide)) (Or.inr ⟨by rfl, rfl⟩) (hS _) ?_
          simp only [List.getElem_toArray, List.getElem_cons_zero, List.getElem_cons_succ, Act.put, List.setIfInBounds_toArray, List.set_cons_zero, List.set_cons_succ]
          refine WA.take (i := 22) (v := .bool true) rfl (by kernel_rfl) (by kernel_rfl) (by kernel_rfl) (fun _ _ _ h => h) (hdrop 22 (by decide)) (Or.inl ⟨by rfl, ?_⟩) (hS _) ?_
          · rintro w' ⟨L, hL, hSw, hun⟩
            go_simp
          simp only [List.getElem_toArray, List.getElem_cons_zero, List.getElem_cons_succ, Act.put, List.setIfInBounds_toArray, List.set_cons_zero, List.set_cons_succ]
          refine WA.done (by kernel_rfl) ?_ _
          refine Nrm.normal ?_
          gi_wp2
          refine ⟨hkf.out.trans ((KeepsOthers.setCell _ _ _).from _), fun hp => ?_⟩
          obtain ⟨t, ht⟩ := hp
          have h1 : L[m]? = some x := by
            rw [← ht, List.append_assoc, List.getElem?_append_right (by rw [Hm'.out]; omega), Hm'.out, Nat.sub_self]
            rfl
          rw [List.getElem?_eq_getElem (by omega)] at h1
          have h2 := Hcc.out
          injection h1 with h1
          rw [h1] at h2
          exact hxc h2
      · have hd : decide ((m : Int) ≥ (ln : Int)) = true := by simp; omega
        have Hm' := Lib.hid hm'; have Hln := Lib.hid hln
        clear hz1 hz2 hz3 hzb
        gi_wp2_with fail
        have hc : W.drew.cell? ⟨We0.heap.size, 0, none⟩ = _ := hc
        have c2 : W.drew.cell? ⟨W2.heap.size, 0, none⟩ = _ := c2
        have c7 : W.drew.cell? ⟨w.heap.size, 0, none⟩ = _ := c7
        have hk9 := hk.below (fun i hi => hi.1) (Below.refl _ W).drew
        have hf9 : W.drew.frozen? ⟨We0.heap.size, 0, none⟩ = false := hf
        have hB9 := hB.drew
        have hkf := Lib.hid (show KeepsFrom Wb.heap.size W W.drew from ⟨Nat.le_refl _, fun k o _ h _ => h⟩)
        have hkk := Lib.hid (show KeepS (MKeep w.heap.size W3.heap.size) W W.drew from fun i _ => rfl)
        have b9 : W.drew.cell? ⟨w.heap.size + 2, 0, none⟩ = _ := b9
        have f9 : W.drew.frozen? ⟨w.heap.size + 2, 0, none⟩ = false := f9
        obtain ⟨S12, hSe⟩ : ∃ S : Array Bool → World → Prop, S = fun _ w' => w' = W.drew := ⟨_, rfl⟩
        have hdrop : ∀ i : Nat, i ≠ 1000 → ∀ L w', S12 (L.setIfInBounds i true) w' → S12 L w' := by
          intro i _ L w' h; rw [hSe] at h ⊢; exact h
        have hS : ∀ L, S12 L W.drew := by intro L; rw [hSe]
        have hSo : ∀ {L w'}, S12 L w' → w' = W.drew := by intro L w' h; rw [hSe] at h; exact h
        clear hSe
        refine wpIn_region_L2 S12 23 #[false, false, false, false, false, false, false, false, false, false, false, false, false, false, false, false, false, false, false, false, false, false, false] (by kernel_rfl) (by kernel_rfl) rfl (by kernel_rfl) ?_
        generalize W.drew = W9 at *
        refine WA.take (i := 0) (v := .int .i64 (m : Int)) rfl (by kernel_rfl) (by kernel_rfl) (by kernel_rfl) (fun _ _ _ h => h) (hdrop 0 (by decide)) (Or.inl ⟨by rfl, ?_⟩) (hS _) ?_
        · rintro w' ⟨L, hL, hSw, hun⟩
          obtain rfl := hSo hSw 
          go_simp
        simp only [List.getElem_toArray, List.getElem_cons_zero, List.getElem_cons_succ, Act.put, List.setIfInBounds_toArray, List.set_cons_zero, List.set_cons_succ]
        refine WA.take (i := 1) (v := .slice ao ln cap) rfl (by kernel_rfl) (by kernel_rfl) (by kernel_rfl) (fun _ _ _ h => h) (hdrop 1 (by decide)) (Or.inl ⟨by rfl, ?_⟩) (hS _) ?_
        · rintro w' ⟨L, hL, hSw, hun⟩
          obtain rfl := hSo hSw 
          go_simp
        simp only [List.getElem_toArray, List.getElem_cons_zero, List.getElem_cons_succ, Act.put, List.setIfInBounds_toArray, List.set_cons_zero, List.set_cons_succ]
        refine WA.take (i := 2) (v := .int .i64 (ln : Int)) rfl (by kernel_rfl) (by kernel_rfl) (by kernel_rfl) (fun _ _ _ h => h) (hdrop 2 (by decide)) (Or.inl ⟨by rfl, ?_⟩) (hS _) ?_
        · rintro w' ⟨L, hL, hSw, hun⟩
          go_simp
        simp only [List.getElem_toArray, List.getElem_cons_zero, List.getElem_cons_succ, Act.put, List.setIfInBounds_toArray, List.set_cons_zero, List.set_cons_succ]
        refine WA.take (i := 3) (v := .bool true) rfl (by kernel_rfl) (by kernel_rfl) (by kernel_rfl) (fun _ _ _ h => h) (hdrop 3 (by decide)) (Or.inl ⟨by rfl, ?_⟩) (hS _) ?_
        · rintro w' ⟨L, hL, hSw, hun⟩
          go_simp
          all_goals omega
        simp only [List.getElem_toArray, List.getElem_cons_zero, List.getElem_cons_succ, Act.put, List.setIfInBounds_toArray, List.set_cons_zero, List.set_cons_succ]
        refine WA.take (i := 4) (v := .bool true) rfl (by kernel_rfl) (by kernel_rfl) (by kernel_rfl) (fun _ _ _ h => h) (hdrop 4 (by decide)) (Or.inl ⟨by rfl, ?_⟩) (hS _) ?_
        · rintro w' ⟨L, hL, hSw, hun⟩
          go_simp
        simp only [List.getElem_toArray, List.getElem_cons_zero, List.getElem_cons_succ, Act.put, List.setIfInBounds_toArray, List.set_cons_zero, List.set_cons_succ]
        refine WA.take (i := 5) (v := undef) rfl (by kernel_rfl) (by kernel_rfl) (by kernel_rfl) (fun _ _ _ h => h) (hdrop 5 (by decide)) (Or.inr ⟨by rfl, rfl⟩) (hS _) ?_
        simp only [List.getElem_toArray, List.getElem_cons_zero, List.getElem_cons_succ, Act.put, List.setIfInBounds_toArray, List.set_cons_zero, List.set_cons_succ]
        refine WA.take (i := 6) (v := undef) rfl (by kernel_rfl) (by kernel_rfl) (by kernel_rfl) (fun _ _ _ h => h) (hdrop 6 (by decide)) (Or.inr ⟨by rfl, rfl⟩) (hS _) ?_
        simp only [List.getElem_toArray, List.getElem_cons_zero, List.getElem_cons_succ, Act.put, List.setIfInBounds_toArray, List.set_cons_zero, List.set_cons_succ]
        refine WA.take (i := 7) (v := undef) rfl (by kernel_rfl) (by kernel_rfl) (by kernel_rfl) (fun _ _ _ h => h) (hdrop 7 (by decide)) (Or.inr ⟨by rfl, rfl⟩) (hS _) ?_
        simp only [List.getElem_toArray, List.getElem_cons_zero, List.getElem_cons_succ, Act.put, List.setIfInBounds_toArray, List.set_cons_zero, List.set_cons_succ]
        refine WA.take (i := 8) (v := undef) rfl (by kernel_rfl) (by kernel_rfl) (by kernel_rfl) (fun _ _ _ h => h) (hdrop 8 (by decide)) (Or.inr ⟨by rfl, rfl⟩) (hS _) ?_
        simp only [List.getElem_toArray, List.getElem_cons_zero, List.getElem_cons_succ, Act.put, List.setIfInBounds_toArray, List.set_cons_zero, List.set_cons_succ]
        refine WA.take (i := 9) (v := undef) rfl (by kernel_rfl) (by kernel_rfl) (by kernel_rfl) (fun _ _ _ h => h) (hdrop 9 (by decide)) (Or.inr ⟨by rfl, rfl⟩) (hS _) ?_
        simp only [List.getElem_toArray, List.getElem_cons_zero, List.getElem_cons_succ, Act.put, List.setIfInBounds_toArray, List.set_cons_zero, List.set_cons_succ]
        refine WA.take (i := 10) (v := undef) rfl (by kernel_rfl) (by kernel_rfl) (by kernel_rfl) (fun _ _ _ h => h) (hdrop 10 (by decide)) (Or.inr ⟨by rfl, rfl⟩) (hS _) ?_
        simp only [List.getElem_toArray, List.getElem_cons_zero, List.getElem_cons_succ, Act.put, List.setIfInBounds_toArray, List.set_cons_zero, List.set_cons_succ]
        refine WA.take (i := 11) (v := .bool true) rfl (by kernel_rfl) (by kernel_rfl) (by kernel_rfl) (fun _ _ _ h => h) (hdrop 11 (by decide)) (Or.inl ⟨by rfl, ?_⟩) (hS _) ?_
        · rintro w' ⟨L, hL, hSw, hun⟩
          go_simp
        simp only [List.getElem_toArray, List.getElem_cons_zero, List.getElem_cons_succ, Act.put, List.setIfInBounds_toArray, List.set_cons_zero, List.set_cons_succ]
        refine WA.take (i := 12) (v := .bool true) rfl (by kernel_rfl) (by kernel_rfl) (by kernel_rfl) (fun _ _ _ h => h) (hdrop 12 (by decide)) (Or.inl ⟨by rfl, ?_⟩) (hS _) ?_
        · rintro w' ⟨L, hL, hSw, hun⟩
          go_simp
        simp only [List.getElem_toArray, List.getElem_cons_zero, List.getElem_cons_succ, Act.put, List.setIfInBounds_toArray, List.set_cons_zero, List.set_cons_succ]
        refine WA.take (i := 13) (v := undef) rfl (by kernel_rfl) (by kernel_rfl) (by kernel_rfl) (fun _ _ _ h => h) (hdrop 13 (by decide)) (Or.inr ⟨by rfl, rfl⟩) (hS _) ?_
        simp only [List.getElem_toArray, List.getElem_cons_zero, List.getElem_cons_succ, Act.put, List.setIfInBounds_toArray, List.set_cons_zero, List.set_cons_succ]
        refine WA.take (i := 14) (v := undef) rfl (by kernel_rfl) (by kernel_rfl) (by kernel_rfl) (fun _ _ _ h => h) (hdrop 14 (by decide)) (Or.inr ⟨by rfl, rfl⟩) (hS _) ?_
        simp only [List.getElem_toArray, List.getElem_cons_zero, List.getElem_cons_succ, Act.put, List.setIfInBounds_toArray, List.set_cons_zero, List.set_cons_succ]
        refine WA.take (i := 15) (v := undef) rfl (by kernel_rfl) (by kernel_rfl) (by kernel_rfl) (fun _ _ _ h => h) (hdrop 15 (by decide)) (Or.inr ⟨by rfl, rfl⟩) (hS _) ?_
        simp only [List.getElem_toArray, List.getElem_cons_zero, List.getElem_cons_succ, Act.put, List.setIfInBounds_toArray, List.set_cons_zero, List.set_cons_succ]
        refine WA.take (i := 16) (v := undef) rfl (by kernel_rfl) (by kernel_rfl) (by kernel_rfl) (fun _ _ _ h => h) (hdrop 16 (by decide)) (Or.inr ⟨by rfl, rfl⟩) (hS _) ?_
        simp only [List.getElem_toArray, List.getElem_cons_zero, List.getElem_cons_succ, Act.put, List.setIfInBounds_toArray, List.set_cons_zero, List.set_cons_succ]
        refine WA.take (i := 17) (v := undef) rfl (by kernel_rfl) (by kernel_rfl) (by kernel_rfl) (fun _ _ _ h => h) (hdrop 17 (by decide)) (Or.inr ⟨by rfl, rfl⟩) (hS _) ?_
        simp only [List.getElem_toArray, List.getElem_cons_zero, List.getElem_cons_succ, Act.put, List.setIfInBounds_toArray, List.set_cons_zero, List.set_cons_succ]
        refine WA.take (i := 18) (v := undef) rfl (by kernel_rfl) (by kernel_rfl) (by kernel_rfl) (fun _ _ _ h => h) (hdrop 18 (by decide)) (Or.inr ⟨by rfl, rfl⟩) (hS _) ?_
        simp only [List.getElem_toArray, List.getElem_cons_zero, List.getElem_cons_succ, Act.put, List.setIfInBounds_toArray, List.set_cons_zero, List.set_cons_succ]
        refine WA.take (i := 19) (v := undef) rfl (by kernel_rfl) (by kernel_rfl) (by kernel_rfl) (fun _ _ _ h => h) (hdrop 19 (by decide)) (Or.inr ⟨by rfl, rfl⟩) (hS _) ?_
        simp only [List.getElem_toArray, List.getElem_cons_zero, List.getElem_cons_succ, Act.put, List.setIfInBounds_toArray, List.set_cons_zero, List.set_cons_succ]
        refine WA.take (i := 20) (v := undef) rfl (by kernel_rfl) (by kernel_rfl) (by kernel_rfl) (fun _ _ _ h => h) (hdrop 20 (by decide)) (Or.inr ⟨by rfl, rfl⟩) (hS _) ?_
        simp only [List.getElem_toArray, List.getElem_cons_zero, List.getElem_cons_succ, Act.put, List.setIfInBounds_toArray, List.set_cons_zero, List.set_cons_succ]
        refine WA.take (i := 21) (v := undef) rfl (by kernel_rfl) (by kernel_rfl) (by kernel_rfl) (fun _ _ _ h => h) (hdrop 21 (by decide)) (Or.inr ⟨by rfl, rfl⟩) (hS _) ?_
        simp only [List.getElem_toArray, List.getElem_cons_zero, List.getElem_cons_succ, Act.put, List.setIfInBounds_toArray, List.set_cons_zero, List.set_cons_succ]
        refine WA.take (i := 22) (v := .bool true) rfl (by kernel_rfl) (by kernel_rfl) (by kernel_rfl) (fun _ _ _ h => h) (hdrop 22 (by decide)) (Or.inl ⟨by rfl, ?_⟩) (hS _) ?_
        · rintro w' ⟨L, hL, hSw, hun⟩
          go_simp
        simp only [List.getElem_toArray, List.getElem_cons_zero, List.getElem_cons_succ, Act.put, List.setIfInBounds_toArray, List.set_cons_zero, List.set_cons_succ]
        refine WA.done (by kernel_rfl) ?_ _
        refine Nrm.normal ?_
        gi_wp2
        refine ⟨hkf.out.trans ((KeepsOthers.setCell _ _ _).from _), fun hp => ?_⟩
        · have h1 := hp.length_le
          rw [List.length_append, List.length_singleton, Hm'.out, Hln.out] at h1
          omega
    case done =>
      rintro DD1 ys We1 hDD1 rfl ⟨⟨⟨hc, hf⟩, hk⟩, hB⟩ hdef1
      rw [HL.out] at hc
      obtain ⟨ln, hln⟩ : ∃ ln, L.length = ln := ⟨_, rfl⟩
      have c2 : We1.cell? ⟨W2.heap.size, 0, none⟩ = some (.slice ao L.length cap) := (hk.cell ⟨by omega, by omega⟩).trans c20
      have HKe1 := Lib.hid (show KS (fun i => i < W4.heap.size ∧ i ≠ w.heap.size + 2) W4 We1 from ⟨fun i hi => (hk.1 i ⟨by omega, by omega⟩).trans (HKb.out.1 i hi), by have := hk.2; omega⟩)
      have HBe1 := Lib.hid hB
      have hbe : We1.cell? ⟨w.heap.size + 2, 0, none⟩ = some (.bool false) := (hk.cell ⟨by omega, by omega⟩).trans hbW
      have hfe : We1.frozen? ⟨w.heap.size + 2, 0, none⟩ = false := (World.frozen?_of_block (w := Wb) (a := ⟨w.heap.size + 2, 0, none⟩) (hk.1 (w.heap.size + 2) ⟨by omega, by omega⟩)).trans hfW
      have HBRe1 := Lib.hid (show (∀ X, Below We1.heap.size We1 X → X.cell? ⟨w.heap.size + 2, 0, none⟩ = some (.bool false)) ∧ (∀ X, Below We1.heap.size We1 X → X.frozen? ⟨w.heap.size + 2, 0, none⟩ = false) from ⟨fun X hX => cell_later hX hbe, fun X hX => (World.frozen?_of_block (w := We1) (a := ⟨w.heap.size + 2, 0, none⟩) (hX.block _ (by have := hk.2; simp; omega))).trans hfe⟩)
      have Hdef1 := Lib.hid hdef1; have Hdd1 := Lib.hid (show Wb.heap.size ≤ DD1 from hDD1)
      have Hks1 := Lib.hid hk; have HNN := Lib.hid (show We0.heap.size < Wb.heap.size by omega)
      have HDK1 := Lib.hid (show w.heap.size + 3 ≤ DD1 ∧ DD1 < We1.heap.size from ⟨by omega, (Array.getElem?_eq_some_iff.1 hdef1).1⟩)
      have hd0 : We1.heap[DD0]? = some (.deferred (some [])) := (hk.1 DD0 ⟨by have := HDK0.out; omega, by have := HDK0.out; omega⟩).trans ((hBb.block DD0 HDK0.out.2).trans Hdef0.out)
      have Hd0 := Lib.hid hd0
      clear hd0
      clear hz1 hz2 hz3 hzb hk hB hdef1 hDD1 hPk hBb hBbw hs4 hm hKb hf hbe hfe HKb HKN Hzb hbW hfW c20 c70 i0 i1
      gi_wp2_with fail
      rw [roundsIn_succ]
      have hb1 : We1.cell? ⟨w.heap.size + 2, 0, none⟩ = some (.bool false) := HBRe1.out.1 We1 (Below.refl _ _)
      have hf1 : We1.frozen? ⟨w.heap.size + 2, 0, none⟩ = false := HBRe1.out.2 We1 (Below.refl _ _)
      gi_wp2_with fail
      have hd1 : (We1.setCell ⟨w.heap.size + 1 + 1, 0, none⟩ (.bool true)).heap[DD1]? = some (.deferred (some [])) := (Below.heap_setCell _ _ _ DD1 (by have := HDK1.out; simp; omega)).trans Hdef1.out
      have hd0 : ((We1.setCell ⟨w.heap.size + 1 + 1, 0, none⟩ (.bool true)).putObj DD1 (.deferred none)).heap[DD0]? = some (.deferred (some [])) := (World.putObj_heap_other (by have := HDK0.out; have := Hdd1.out; have := HNN.out; omega)).trans ((Below.heap_setCell _ _ _ DD0 (by have := HDK0.out; simp; omega)).trans Hd0.out)
      refine ⟨by simp, .inl ⟨_, _, rfl, run_takeDeferred hd1, ?_⟩⟩
      refine ⟨by simp, .inl ⟨_, _, rfl, run_takeDeferred hd0, ?_⟩⟩
      have hdb : DD0 ≠ w.heap.size + 1 + 1 ∧ DD1 ≠ w.heap.size + 1 + 1 := by have := HDK0.out; have := HDK1.out; omega
      have hcell : (((We1.setCell ⟨w.heap.size + 1 + 1, 0, none⟩ (.bool true)).putObj DD1 (.deferred none)).putObj DD0 (.deferred none)).cell? ⟨w.heap.size + 1 + 1, 0, none⟩ = some (.bool true) := by
        have h1 : (We1.setCell ⟨w.heap.size + 1 + 1, 0, none⟩ (.bool true)).cell? ⟨w.heap.size + 1 + 1, 0, none⟩ = some (.bool true) := World.cell?_setCell_same' _ _ _ (by rw [show We1.cell? ⟨w.heap.size + 1 + 1, 0, none⟩ = _ from hb1]; rfl)
        rw [← h1]
        exact (World.cell?_of_block (a := ⟨w.heap.size + 1 + 1, 0, none⟩) (World.putObj_heap_other (Ne.symm hdb.1))).trans (World.cell?_of_block (a := ⟨w.heap.size + 1 + 1, 0, none⟩) (World.putObj_heap_other (Ne.symm hdb.2)))
      have hBf : Below w.heap.size w (((We1.setCell ⟨w.heap.size + 1 + 1, 0, none⟩ (.bool true)).putObj DD1 (.deferred none)).putObj DD0 (.deferred none)) := ((HBe1.out.setCell (p := ⟨w.heap.size + 1 + 1, 0, none⟩) (by simp; omega) _).trans (belowK_b (w := w) (Nat.le_refl _) _ DD1 _ _ (by have := HDK1.out; omega) hd1 rfl rfl)).trans (belowK_b (w := w) (Nat.le_refl _) _ DD0 _ _ (by have := HDK0.out; omega) hd0 rfl rfl)
      generalize (((We1.setCell ⟨w.heap.size + 1 + 1, 0, none⟩ (.bool true)).putObj DD1 (.deferred none)).putObj DD0 (.deferred none)) = Wf at *
      refine ⟨.bool true, ?_, rfl, hBf⟩
      have hres : Try.f17.results = #[.cell 12 4] := rfl
      simp only [results, hres]
      go_simp
end
end Go.Proofs.Ytellmhllgmimiaa
