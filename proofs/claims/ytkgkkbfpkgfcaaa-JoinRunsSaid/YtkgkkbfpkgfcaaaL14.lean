/- Layer 14: the arguments that come in, opened. -/
import Derived.Test.YtkgkkbfpkgfcaaaJ24
import Derived.OpenShut
import Derived.Deep.Slices
namespace Go.Proofs.Ytkgkkbfpkgfcaaa
set_option maxRecDepth 100000
open Go.RowKit Go.Maps Go.ChangeShapes Go.WideShapes
set_option linter.unusedVariables false
set_option linter.unusedSimpArgs false

theorem spot_of {w : World} {x : Addr} (h : (w.cell? (x.add 0)).isSome) : ∃ b off, x = ⟨b, off, none⟩ ∧ b < w.heap.size := by
  have e : x.add 0 = x := by unfold Addr.add; simp
  rw [e] at h
  obtain ⟨b, off, sp⟩ := x
  unfold World.cell? at h
  cases hb : w.heap[b]? with
  | none => simp [hb] at h
  | some o =>
    simp only [hb] at h
    cases o with
    | cells c el fz =>
      simp only at h
      cases sp with
      | none => exact ⟨b, off, rfl, (Array.getElem?_eq_some_iff.1 hb).1⟩
      | some i => simp at h
    | _ => simp at h
theorem of_wf32 {x : Int} (h : (Lit.int .u32 x).wf = true) : is32 x := by
  have e1 : IntKind.u32.min = 0 := by decide
  have e2 : IntKind.u32.max = 4294967295 := by decide
  simp only [Lit.wf, e1, e2, Bool.and_eq_true, decide_eq_true_eq] at h
  exact h
theorem of_wf8 {x : Int} (h : (Lit.int .u8 x).wf = true) : is8 x := by
  have e1 : IntKind.u8.min = 0 := by decide
  have e2 : IntKind.u8.max = 255 := by decide
  simp only [Lit.wf, e1, e2, Bool.and_eq_true, decide_eq_true_eq] at h
  exact h
theorem of_wf64 {x : Int} (h : (Lit.int .i64 x).wf = true) : is64 x := by
  have e1 : IntKind.i64.min = -9223372036854775808 := by decide
  have e2 : IntKind.i64.max = 9223372036854775807 := by decide
  simp only [Lit.wf, e1, e2, Bool.and_eq_true, decide_eq_true_eq] at h
  exact h

theorem Try.cRow4 : Try.prog.cellsOf 73 = 4 := by kernel_rfl
theorem Try.cRow : Try.prog.cellsOf 58 = 3 := by kernel_rfl
theorem Try.cInt : Try.prog.cellsOf 3 = 1 := by kernel_rfl
theorem Try.cBits : Try.prog.cellsOf 40 = 1 := by kernel_rfl
theorem Try.cPlace : Try.prog.cellsOf 25 = 2 := by kernel_rfl
theorem Try.cPlaces : Try.prog.cellsOf 26 = 6 := by kernel_rfl
theorem Try.cStep : Try.prog.cellsOf 35 = 11 := by kernel_rfl
theorem Try.cKind : Try.prog.cellsOf 33 = 1 := by kernel_rfl
theorem Try.cSteps : Try.prog.cellsOf 27 = 1 := by kernel_rfl
theorem Try.cPlan : Try.prog.cellsOf 29 = 8 := by kernel_rfl

section
variable {H : Type} {enc : TypeId × Value → H} {w : World} {base : Nat} {spare : Nat → Bool} {held : Bool} {fuel : Nat}
theorem open_rowv {cs : List Value} {x : DataW H × List MemPlace} (h : DataW.trod enc Try.prog w base spare held fuel 58 cs = some x) :
    ∃ r : R3, cs = [.int .u32 r.1, .int .u32 r.2.1, .int .u32 r.2.2] ∧ rok r := by
  obtain ⟨xs, m, _, _, hl, hxl, hf⟩ := DataW.trod_array Try.underlying58 h
  rw [Try.cRow] at hl
  rw [Try.cells32] at hf
  match xs, hxl, cs, hl with
  | [y0, y1, y2], _, [v0, v1, v2], _ =>
    have g0 := hf 0 (by omega)
    have g1 := hf 1 (by omega)
    have g2 := hf 2 (by omega)
    simp at g0 g1 g2
    obtain ⟨n0, e0, _, w0⟩ := DataW.trod_int Try.underlying23 g0
    obtain ⟨n1, e1, _, w1⟩ := DataW.trod_int Try.underlying23 g1
    obtain ⟨n2, e2, _, w2⟩ := DataW.trod_int Try.underlying23 g2
    simp at e0 e1 e2
    subst e0; subst e1; subst e2
    exact ⟨(n0, n1, n2), rfl, of_wf32 w0, of_wf32 w1, of_wf32 w2⟩
theorem open_row4 {cs : List Value} {x : DataW H × List MemPlace} (h : DataW.trod enc Try.prog w base spare held fuel 73 cs = some x) :
    ∃ y : R3 × Int, cs = [.int .u32 y.1.1, .int .u32 y.1.2.1, .int .u32 y.1.2.2, .int .u8 y.2] ∧ rok y.1 ∧ is8 y.2 := by
  obtain ⟨xs, n, _, _, hl, hxl, hf⟩ := DataW.trod_struct Try.underlying73 h
  rw [Try.cRow4] at hl
  match xs, hxl, cs, hl with
  | [y0, y1], _, [v0, v1, v2, v3], _ =>
    have g0 := hf 0 _ rfl
    have g1 := hf 1 _ rfl
    simp [Try.cRow, Try.cBits] at g0 g1
    obtain ⟨r, e0, w0⟩ := open_rowv g0
    obtain ⟨n1, e1, _, w1⟩ := DataW.trod_int Try.underlying40 g1
    simp at e0 e1
    obtain ⟨ea, eb, ec⟩ := e0
    subst ea; subst eb; subst ec; subst e1
    exact ⟨(r, n1), rfl, w0, of_wf8 w1⟩
theorem open_place {cs : List Value} {x : DataW H × List MemPlace} (h : DataW.trod enc Try.prog w base spare held fuel 25 cs = some x) :
    ∃ y : Pl, cs = [.int .i64 y.1, .int .u32 y.2] ∧ is64 y.1 ∧ is32 y.2 := by
  obtain ⟨xs, n, _, _, hl, hxl, hf⟩ := DataW.trod_struct Try.underlying25 h
  rw [Try.cPlace] at hl
  match xs, hxl, cs, hl with
  | [y0, y1], _, [v0, v1], _ =>
    have g0 := hf 0 _ rfl
    have g1 := hf 1 _ rfl
    simp [Try.cInt, Try.cells32] at g0 g1
    obtain ⟨n0, e0, _, w0⟩ := DataW.trod_int Try.underlying3 g0
    obtain ⟨n1, e1, _, w1⟩ := DataW.trod_int Try.underlying23 g1
    simp at e0 e1
    subst e0; subst e1
    exact ⟨(n0, n1), rfl, of_wf64 w0, of_wf32 w1⟩
theorem open_places {cs : List Value} {x : DataW H × List MemPlace} (h : DataW.trod enc Try.prog w base spare held fuel 26 cs = some x) :
    ∃ a b c : Pl, cs = [.int .i64 a.1, .int .u32 a.2, .int .i64 b.1, .int .u32 b.2, .int .i64 c.1, .int .u32 c.2] ∧ (is64 a.1 ∧ is64 b.1 ∧ is64 c.1) ∧ is32 a.2 ∧ is32 b.2 ∧ is32 c.2 := by
  obtain ⟨xs, m, _, _, hl, hxl, hf⟩ := DataW.trod_array Try.underlying26 h
  rw [Try.cPlaces] at hl
  rw [Try.cPlace] at hf
  match xs, hxl, cs, hl with
  | [y0, y1, y2], _, [v0, v1, v2, v3, v4, v5], _ =>
    have g0 := hf 0 (by omega)
    have g1 := hf 1 (by omega)
    have g2 := hf 2 (by omega)
    simp at g0 g1 g2
    obtain ⟨a, e0, p0, r0⟩ := open_place g0
    obtain ⟨b, e1, p1, r1⟩ := open_place g1
    obtain ⟨c, e2, p2, r2⟩ := open_place g2
    simp at e0 e1 e2
    obtain ⟨rfl, rfl⟩ := e0
    obtain ⟨rfl, rfl⟩ := e1
    obtain ⟨rfl, rfl⟩ := e2
    exact ⟨a, b, c, rfl, ⟨p0, p1, p2⟩, r0, r1, r2⟩
def stepC (s : StepT) : List Value := [.int .i64 s.kind, .int .i64 s.r0.1, .int .u32 s.r0.2, .int .i64 s.r1.1, .int .u32 s.r1.2, .int .i64 s.r2.1, .int .u32 s.r2.2, .int .i64 s.a.1, .int .u32 s.a.2, .int .i64 s.b.1, .int .u32 s.b.2]
theorem open_step {cs : List Value} {x : DataW H × List MemPlace} (h : DataW.trod enc Try.prog w base spare held fuel 35 cs = some x) :
    ∃ s : StepT, cs = stepC s ∧ is64S s ∧ is32 s.r0.2 ∧ is32 s.r1.2 ∧ is32 s.r2.2 := by
  obtain ⟨xs, n, _, _, hl, hxl, hf⟩ := DataW.trod_struct Try.underlying35 h
  rw [Try.cStep] at hl
  match xs, hxl, cs, hl with
  | [y0, y1, y2, y3], _, [v0, v1, v2, v3, v4, v5, v6, v7, v8, v9, v10], _ =>
    have g0 := hf 0 _ rfl
    have g1 := hf 1 _ rfl
    have g2 := hf 2 _ rfl
    have g3 := hf 3 _ rfl
    simp [Try.cKind, Try.cPlaces, Try.cPlace] at g0 g1 g2 g3
    obtain ⟨n0, e0, _, w0⟩ := DataW.trod_int Try.underlying33 g0
    obtain ⟨a, b, c, e1, p1, r1⟩ := open_places g1
    obtain ⟨d, e2, p2, r2⟩ := open_place g2
    obtain ⟨f, e3, p3, r3⟩ := open_place g3
    simp at e0 e1 e2 e3
    obtain ⟨rfl, rfl, rfl, rfl, rfl, rfl⟩ := e1
    obtain ⟨rfl, rfl⟩ := e2
    obtain ⟨rfl, rfl⟩ := e3
    subst e0
    exact ⟨⟨n0, a, b, c, d, f⟩, rfl, ⟨p1.1, p1.2.1, p1.2.2, p2, p3⟩, r1⟩
theorem open_rows4 {a : Option Addr} {len cap : Nat} {x : DataW H × List MemPlace} (h : DataW.trod enc Try.prog w base spare held fuel 22 [.slice a len cap] = some x) :
    ∃ L : TS, L.length = len ∧ IsRows4 w a L := by
  rcases Deep.open_slice Try.underlying22 h with ⟨hcs, _⟩ | ⟨a', len', cap', m, n, D, Pl, hcs, hb, hl, hm, hmm, _, hx⟩
  · simp at hcs
    obtain ⟨rfl, rfl, rfl⟩ := hcs
    exact ⟨[], rfl, fun j hj => absurd hj (Nat.not_lt_zero _)⟩
  · simp at hcs
    obtain ⟨rfl, rfl, rfl⟩ := hcs
    rw [Try.cRow4] at hx
    have hlm : len ≤ m := by rw [hmm]; split <;> omega
    have each : ∀ i, i < len → ∃ y : R3 × Int, ∀ k v, [Value.int .u32 y.1.1, .int .u32 y.1.2.1, .int .u32 y.1.2.2, .int .u8 y.2][k]? = some v → w.cell? (a'.add (i * 4 + k)) = some v ∧ rok y.1 ∧ is8 y.2 := by
      intro i hi
      obtain ⟨cs', h1, h2⟩ := hx i (by omega)
      obtain ⟨_, hlen, hcell⟩ := World.cells?_some h1
      obtain ⟨y, rfl, hr, h8⟩ := open_row4 h2
      refine ⟨y, fun k v hk => ⟨?_, hr, h8⟩⟩
      have hk4 : k < 4 := by
        have := (List.getElem?_eq_some_iff.1 hk).1
        simpa using this
      have := hcell k hk4
      rw [Deep.add_add] at this
      rw [this]; exact hk
    haveI : Inhabited (R3 × Int) := ⟨((0, 0, 0), 0)⟩
    obtain ⟨f, hf⟩ := Deep.choose_lt each
    refine ⟨(List.range len).map f, by simp, fun j hj => ?_⟩
    have hj' : j < len := by simpa using hj
    have hc := hf j hj'
    obtain ⟨b, off, rfl, hb'⟩ : ∃ b off, a' = ⟨b, off, none⟩ ∧ b < w.heap.size := by
      have hs := (hf 0 (by omega) 0 _ rfl).1
      simp only [Nat.zero_mul, Nat.add_zero] at hs
      exact spot_of (by rw [hs]; rfl)
    have pl : ∀ k, (⟨b, off, none⟩ : Addr).add k = ⟨b, off + k, none⟩ := by
      intro k; unfold Addr.add; split <;> simp_all
    refine ⟨b, off, rfl, ?_⟩
    have c := fun k v hk => (hc k v hk).1
    simp only [pl, ← Nat.add_assoc] at c
    simp only [List.getElem_map, List.getElem_range]
    exact ⟨hb', c 0 _ rfl, c 1 _ rfl, c 2 _ rfl, c 3 _ rfl, (hc 0 _ rfl).2.1, (hc 0 _ rfl).2.2⟩
theorem open_steps {cs : List Value} {x : DataW H × List MemPlace} (h : DataW.trod enc Try.prog w base spare held fuel 27 cs = some x) :
    ∃ (a : Option Addr) (cap : Nat) (L : List StepT), cs = [.slice a L.length cap] ∧ IsSteps w a L ∧ PlanIn L ∧ L.length ≤ maxLen := by
  rcases Deep.open_slice Try.underlying27 h with ⟨rfl, _⟩ | ⟨a', len, cap, m, n, D, Pl, rfl, hb, hl, hm, hmm, _, hx⟩
  · exact ⟨none, 0, [], rfl, fun j hj => absurd hj (Nat.not_lt_zero _), ⟨fun s hs => by simp at hs, fun s hs => by simp at hs⟩, Nat.zero_le _⟩
  · rw [Try.cStep] at hx
    have hlm : len ≤ m := by rw [hmm]; split <;> omega
    have each : ∀ i, i < len → ∃ s : StepT, (is64S s ∧ is32 s.r0.2 ∧ is32 s.r1.2 ∧ is32 s.r2.2) ∧ ∀ k v, (stepC s)[k]? = some v → w.cell? (a'.add (i * 11 + k)) = some v := by
      intro i hi
      obtain ⟨cs', h1, h2⟩ := hx i (by omega)
      obtain ⟨_, hlen, hcell⟩ := World.cells?_some h1
      obtain ⟨s, rfl, hs⟩ := open_step h2
      refine ⟨s, hs, fun k v hk => ?_⟩
      have hk11 : k < 11 := by
        have := (List.getElem?_eq_some_iff.1 hk).1
        simpa [stepC] using this
      have := hcell k hk11
      rw [Deep.add_add] at this
      rw [this]; exact hk
    haveI : Inhabited StepT := ⟨⟨0, (0, 0), (0, 0), (0, 0), (0, 0), (0, 0)⟩⟩
    obtain ⟨f, hf⟩ := Deep.choose_lt each
    have hin : PlanIn ((List.range len).map f) := by
      constructor
      all_goals
        intro s hs
        simp only [List.mem_map, List.mem_range] at hs
        obtain ⟨i, hi, rfl⟩ := hs
      · exact (hf i hi).1.1
      · exact (hf i hi).1.2
    refine ⟨some a', cap, (List.range len).map f, by simp, fun j hj => ?_, hin, by simp; omega⟩
    have hj' : j < len := by simpa using hj
    have hc := (hf j hj').2
    obtain ⟨b, off, rfl, hb'⟩ : ∃ b off, a' = ⟨b, off, none⟩ ∧ b < w.heap.size := by
      have hs := (hf 0 (by omega)).2 0 _ rfl
      simp only [Nat.zero_mul, Nat.add_zero] at hs
      exact spot_of (by rw [hs]; rfl)
    have pl : ∀ k, (⟨b, off, none⟩ : Addr).add k = ⟨b, off + k, none⟩ := by
      intro k; unfold Addr.add; split <;> simp_all
    refine ⟨b, off, rfl, ?_⟩
    simp only [pl, ← Nat.add_assoc] at hc
    simp only [List.getElem_map, List.getElem_range]
    exact ⟨hb', hc 0 _ rfl, hc 1 _ rfl, hc 2 _ rfl, hc 3 _ rfl, hc 4 _ rfl, hc 5 _ rfl, hc 6 _ rfl, hc 7 _ rfl, hc 8 _ rfl, hc 9 _ rfl, hc 10 _ rfl⟩
theorem open_plan {cs : List Value} {x : DataW H × List MemPlace} (h : DataW.trod enc Try.prog w base spare held fuel 29 cs = some x) :
    ∃ (h0 h1 h2 h3 h4 h5 : Int) (a : Option Addr) (cap : Nat) (vars : Int) (L : List StepT), cs = (planC h0 h1 h2 h3 h4 h5 a L.length cap vars).toList ∧ IsSteps w a L ∧ PlanIn L ∧ L.length ≤ maxLen ∧ is64 vars ∧ (is64 h0 ∧ is64 h2 ∧ is64 h4) ∧ is32 h1 ∧ is32 h3 ∧ is32 h5 := by
  obtain ⟨xs, n, _, _, hl, hxl, hf⟩ := DataW.trod_struct Try.underlying29 h
  rw [Try.cPlan] at hl
  match xs, hxl, cs, hl with
  | [y0, y1, y2], _, [v0, v1, v2, v3, v4, v5, v6, v7], _ =>
    have g0 := hf 0 _ rfl
    have g1 := hf 1 _ rfl
    have g2 := hf 2 _ rfl
    simp [Try.cPlaces, Try.cSteps, Try.cInt] at g0 g1 g2
    obtain ⟨p, q, r, e0, k0, k1⟩ := open_places g0
    obtain ⟨a, cap, L, e1, hs, hin, hlen⟩ := open_steps g1
    obtain ⟨n2, e2, _, w2⟩ := DataW.trod_int Try.underlying3 g2
    simp at e0 e1 e2
    obtain ⟨rfl, rfl, rfl, rfl, rfl, rfl⟩ := e0
    subst e1; subst e2
    exact ⟨p.1, p.2, q.1, q.2, r.1, r.2, a, cap, n2, L, rfl, hs, hin, hlen, of_wf64 w2, k0, k1⟩
end
end Go.Proofs.Ytkgkkbfpkgfcaaa
