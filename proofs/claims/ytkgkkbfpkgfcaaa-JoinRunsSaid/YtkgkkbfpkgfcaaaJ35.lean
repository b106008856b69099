/- Layer 14: the reference's Go at a match, in plain words. -/
import Derived.Test.YtkgkkbfpkgfcaaaJ34
namespace Go.Proofs.Ytkgkkbfpkgfcaaa
set_option maxRecDepth 100000
open Go.RowKit Go.Maps
set_option linter.unusedVariables false
set_option linter.unusedSimpArgs false

/-- the walk counts a row that it looks at -/
theorem GW.look {E : GoE} {w : World} {ov : Value} {acc : List OutT} {k : Nat} (h : GW E w ov acc k) : GW E (w.setCell ⟨E.gb, 11, none⟩ (.int .i64 (k + 1 : Nat))) ov acc (k + 1) ∧ GTurn E w (w.setCell ⟨E.gb, 11, none⟩ (.int .i64 (k + 1 : Nat))) ov ov := by
  have hset : ∀ i, i ≠ E.gb → (w.setCell ⟨E.gb, 11, none⟩ (.int .i64 (k + 1 : Nat))).heap[i]? = w.heap[i]? := fun i hi => Below.heap_setCell w _ _ i hi
  have hgn : ov.ownBlock ≠ some E.gb := own_ne h.oo.1 h.gc (by decide)
  refine ⟨⟨fun i hi => (hset i (by have := h.gN; omega)).trans (h.low i hi), by rw [World.size_setCell]; exact h.lows, h.gN, ?_, jown_blk h.oo.1 (fun g hg => hset g (fun e => hgn (by rw [hg, e]))), fun y hy => jown_blk (h.oo.2 y hy) (fun g hg => hset g (fun e => own_ne (h.oo.2 y hy) h.gc (by decide) (by rw [hg, e])))⟩,
    ⟨rfl, rfl, rfl, by rw [World.size_setCell]; exact Nat.le_refl _, fun i hi h1 h2 => hset i h1, .inl rfl⟩⟩
  rw [blk_set h.gc]
  rfl
theorem GTurn.cells {E : GoE} {a b : World} {oa ob : Value} {acc : List OutT} {k : Nat} (h : GTurn E a b oa ob) (g : GW E a oa acc k) {i : Nat} {cur : Array Value} {t : TypeId} {fz : Nat × Nat} (hi : a.heap[i]? = some (.cells cur t fz)) (h1 : t ≠ 51) (h2 : t ≠ 55) : b.heap[i]? = some (.cells cur t fz) := by
  refine (h.same i (Array.getElem?_eq_some_iff.1 hi).1 (blk_typ hi g.gc h2) (fun e => ?_)).trans hi
  obtain ⟨_, cur', fz', hc'⟩ := own_ltJ g.oo.1 i e
  exact h1 (blk_eq hi hc' rfl)
theorem rbindP_neg {x : Pl} {y : Int} {t : List (Pl × Int)} {q : Bool × List Int} (h : x.1 < 0) : rbindP ((x, y) :: t) q = rbindP t q := by
  obtain ⟨g, c⟩ := q
  rw [rbindP, if_pos h]
theorem rbindP_new {k : Nat} {i y : Int} {t : List (Pl × Int)} {g : Bool} {c : List Int} (hk : k < c.length) (h : c[k] = 0) : rbindP ((((k : Int), i), y) :: t) (g, c) = rbindP t (g, c.set k y) := by
  have h0 : c.getD k 0 = 0 := by simp [hk, h]
  rw [rbindP, if_neg (by simp)]
  simp only [Int.toNat_natCast, h0, if_true]
  rw [show decide ((c.set k y).getD k 0 = y) = true by simp [hk], Bool.and_true]
theorem rbindP_old {k : Nat} {i y : Int} {t : List (Pl × Int)} {g : Bool} {c : List Int} (hk : k < c.length) (h : c[k] ≠ 0) : rbindP ((((k : Int), i), y) :: t) (g, c) = rbindP t (g && (c[k] == y), c) := by
  have h0 : c.getD k 0 = c[k] := by simp [hk]
  rw [rbindP, if_neg (by simp)]
  simp only [Int.toNat_natCast, h0, if_neg h]
  rw [show (c[k] == y) = decide (c[k] = y) from by by_cases h5 : c[k] = y <;> simp [h5]]
def plAt (s : StepT) (k : Nat) : Pl := if k = 0 then s.r0 else if k = 1 then s.r1 else s.r2
theorem prs_drop (s : StepT) (r : R3) {k : Nat} (hk : k < 3) : (prs s r).drop k = (plAt s k, r.at k) :: (prs s r).drop (k + 1) := by
  have h : k = 0 ∨ k = 1 ∨ k = 2 := by omega
  rcases h with rfl | rfl | rfl <;> rfl
/-- what a row gives -/
def subE (E : GoE) (step m : Nat) (b : List Int) (s : StepT) (r : R3) : List (Option (List Int)) := none :: (if (bindP (prs s r) b).1 then stepE E (step + 1) (m + 1) (bindP (prs s r) b).2 else [])
def restE (E : GoE) (step m : Nat) (b : List Int) (s : StepT) (fr tu bt : Int) (i : Nat) : List (Option (List Int)) := (rowsOn E.T b s fr tu bt i).flatMap (subE E step m b s)
theorem restE_zero {E : GoE} {step : Nat} (h : step < E.steps.length) (m : Nat) (b : List Int) {s : StepT} (hs : E.steps[step] = s) (hk : s.kind = 1) {fr tu bt : Int} (hv : viewAt E.d E.views m = (fr, tu, bt)) : stepE E step m b = restE E step m b s fr tu bt 0 := by
  subst hs
  rw [stepE_match h m b hk, hv, rowsOn_zero]
  rfl
theorem restE_in {E : GoE} {step m : Nat} {b : List Int} {s : StepT} {fr tu bt : Int} {i : Nat} (h : i < E.T.length) (hg : goodAt E.T b s fr tu bt i = true) {r : R3} (hr : rowOf E.T i = r) : restE E step m b s fr tu bt i = none :: ((if (bindP (prs s r) b).1 then stepE E (step + 1) (m + 1) (bindP (prs s r) b).2 else []) ++ restE E step m b s fr tu bt (i + 1)) := by
  unfold restE
  rw [rowsOn_in h hg, List.flatMap_cons, hr]
  rfl
theorem restE_out {E : GoE} {step m : Nat} {b : List Int} {s : StepT} {fr tu bt : Int} {i : Nat} (h : i < E.T.length) (hg : goodAt E.T b s fr tu bt i = false) : restE E step m b s fr tu bt i = restE E step m b s fr tu bt (i + 1) := by
  unfold restE
  rw [rowsOn_out h hg]
theorem restE_end {E : GoE} {step m : Nat} {b : List Int} {s : StepT} {fr tu bt : Int} {i : Nat} (h : E.T.length ≤ i) : restE E step m b s fr tu bt i = [] := by
  unfold restE
  rw [rowsOn_end h]
  rfl
theorem goodAt_eq {T : TS} {i : Nat} (h : i < T.length) {r : R3} {yb : Int} (hT : T[i] = (r, yb)) (L : List Int) (s : StepT) (fr tu bt : Int) : goodAt T L s fr tu bt i = (!decide ((i : Int) < fr) && !decide ((i : Int) ≥ tu) && fits (lookP L s) r && !(bits .and .u8 yb bt == 0)) := by
  obtain ⟨h1, h2⟩ := rowBits h hT
  unfold goodAt liveB
  rw [h1, h2, show decide (fr ≤ (i : Int)) = !decide ((i : Int) < fr) by rw [← decide_not]; congr 1; simp, show decide ((i : Int) < tu) = !decide ((i : Int) ≥ tu) by rw [← decide_not]; congr 1; simp]
  rfl
theorem viewAt_in {d : Vw} {views : List Vw} {m : Nat} (h : m < views.length) : viewAt d views m = views[m] := by
  unfold viewAt
  simp [h]
theorem viewAt_out {d : Vw} {views : List Vw} {m : Nat} (h : views.length ≤ m) : viewAt d views m = d := by
  unfold viewAt
  simp [h]
theorem GW.rowc {E : GoE} {w : World} {ov : Value} {acc : List OutT} {k : Nat} (hE : GoOK E) (h : GW E w ov acc k) {i rb ro : Nat} {y : R3 × Int} (hi : i < E.T.length) (hra : E.ra = some ⟨rb, ro, none⟩) (hy : E.T[i] = y) :
    w.cell? ⟨rb, ro + i * 4, none⟩ = some (.int .u32 y.1.1) ∧ w.cell? ⟨rb, ro + i * 4 + 1, none⟩ = some (.int .u32 y.1.2.1) ∧ w.cell? ⟨rb, ro + i * 4 + 2, none⟩ = some (.int .u32 y.1.2.2) ∧ w.cell? ⟨rb, ro + i * 4 + 3, none⟩ = some (.int .u8 y.2) := by
  obtain ⟨b, o, h1, h2⟩ := h.rows hE i hi
  rw [hra] at h1
  injection h1 with h1
  injection h1 with h3 h4
  subst h3 h4 hy
  exact ⟨h2.c0, h2.c1, h2.c2, h2.c3⟩
theorem GW.c0r {E : GoE} {w : World} {ov : Value} {acc : List OutT} {k : Nat} (h : GW E w ov acc k) {rb ro tl : Nat} (hra : E.ra = some ⟨rb, ro, none⟩) (ht : E.T.length = tl) : w.cell? ⟨E.gb, 0, none⟩ = some (.slice (some ⟨rb, ro, none⟩) tl E.rcap) := by
  rw [h.c.1, hra, ht]
/-- a place of a binding of the call's own is written -/
theorem IsOut.set {B : Nat} {w : World} {g n cap : Nat} {L : List Int} (h : IsOut B w (.slice (some ⟨g, 0, none⟩) n cap) L) (hn : L.length = n) {q : Nat} (hq : q < n) (y : Int) :
    IsOut B (w.setCell ⟨g, q, none⟩ (.int .u32 y)) (.slice (some ⟨g, 0, none⟩) n cap) (L.set q y) ∧ (w.setCell ⟨g, q, none⟩ (.int .u32 y)).cell? ⟨g, q, none⟩ = some (.int .u32 y) := by
  subst hn
  have h1 : IsOut B (w.setCell ⟨g, q, none⟩ (.int .u32 y)) (.slice (some ⟨g, 0, none⟩) L.length cap) (L.set q y) := by
    have := own_setJ (u := .int .u32 y) h q (by omega)
    unfold IsOut
    rw [List.length_set, show (uvs (L.set q y)).toList = (uvs L).toList.set q (.int .u32 y) by simp [uvs, List.map_set]]
    exact this
  refine ⟨h1, ?_⟩
  rcases own_cellsJ h1 with ⟨h2, _⟩ | ⟨g', cap', h2, _, _, _, _, h7⟩
  · cases h2
  · injection h2 with h2
    injection h2 with h2
    injection h2 with h2
    subst h2
    exact (h7 q _ (by simp [uvs, hq])).1
/-- how far a match has come -/
structure MatS (E : GoE) (w : World) (ov : Value) (acc : List OutT) (k : Nat) (all rest : List (Option (List Int))) (wr : World) (ovr : Value) (new : List OutT) (kk : Nat) : Prop where
  gw : GW E wr ovr (acc ++ new) (k + kk)
  out : new.map (·.2) ++ outsE rest = outsE all
  lk : kk + looksE rest = looksE all
  turn : GTurn E w wr ov ovr
theorem MatS.below {E : GoE} {w wr w' : World} {ov ovr : Value} {acc new : List OutT} {k kk : Nat} {all rest : List (Option (List Int))} (h : MatS E w ov acc k all rest wr ovr new kk) (hb : Below wr.heap.size wr w') : MatS E w ov acc k all rest w' ovr new kk :=
  ⟨h.gw.below hb, h.out, h.lk, h.turn.trans (GTurn.below hb)⟩
theorem MatS.len {E : GoE} {w wr : World} {ov ovr : Value} {acc new : List OutT} {k kk : Nat} {all rest : List (Option (List Int))} (h : MatS E w ov acc k all rest wr ovr new kk) : new.length + (outsE rest).length = (outsE all).length := by
  rw [← h.out, List.length_append, List.length_map]
/-- a row is looked at -/
theorem MatS.look {E : GoE} {w wr : World} {ov ovr : Value} {acc new : List OutT} {k kk : Nat} {all sub rest : List (Option (List Int))} (h : MatS E w ov acc k all (none :: (sub ++ rest)) wr ovr new kk) :
    MatS E w ov acc k all (sub ++ rest) (wr.setCell ⟨E.gb, 11, none⟩ (.int .i64 (k + kk + 1 : Nat))) ovr new (kk + 1) := by
  obtain ⟨h1, h2⟩ := h.gw.look
  exact ⟨h1, by rw [← h.out, outsE_none], by rw [← h.lk, looksE_none]; omega, h.turn.trans h2⟩
/-- what came of it -/
theorem MatS.call {E : GoE} {w wr w' : World} {ov ovr ov' : Value} {acc new new' : List OutT} {k kk : Nat} {all sub rest : List (Option (List Int))} (h : MatS E w ov acc k all (sub ++ rest) wr ovr new kk) {wb : World} (hb : Below wr.heap.size wr wb)
    (h1 : new'.map (·.2) = outsE sub) (h2 : GW E w' ov' (acc ++ new ++ new') (k + kk + looksE sub)) (h3 : GTurn E wb w' ovr ov') : MatS E w ov acc k all rest w' ov' (new ++ new') (kk + looksE sub) :=
  ⟨by rw [← List.append_assoc, ← Nat.add_assoc]; exact h2, by rw [List.map_append, h1, List.append_assoc, ← outsE_app, h.out], by rw [← h.lk, looksE_app]; omega, (h.turn.trans (GTurn.below hb)).trans h3⟩
end Go.Proofs.Ytkgkkbfpkgfcaaa
