/- The acts that come in, opened. -/
import Derived.Test.YtellmhllgmimiaaS5
import Derived.OpenShut
import Derived.Deep.Slices
namespace Go.Proofs.Ytellmhllgmimiaa
open Go.RowKit Go.Maps Go.ChangeShapes Go.WideShapes
set_option linter.unusedVariables false
set_option linter.unusedSimpArgs false

theorem spot_of {w : World} {x : Addr} (h : (w.cell? (x.add 0)).isSome) : ∃ b off, x = ⟨b, off, none⟩ ∧ b < w.heap.size := by
  have e : x.add 0 = x := by unfold Addr.add; simp
  rw [e] at h
  obtain ⟨b, off, sp⟩ := x
  unfold World.cell? at h
  cases hb : w.heap[b]? with
  | none => simp [hb] at h
  | some o =>
    simp only [hb] at h
    cases o with
    | cells c el fz =>
      simp only at h
      cases sp with
      | none => exact ⟨b, off, rfl, (Array.getElem?_eq_some_iff.1 hb).1⟩
      | some i => simp at h
    | _ => simp at h
theorem of_wf32 {x : Int} (h : (Lit.int .u32 x).wf = true) : is32 x := by
  have e1 : IntKind.u32.min = 0 := by decide
  have e2 : IntKind.u32.max = 4294967295 := by decide
  simp only [Lit.wf, e1, e2, Bool.and_eq_true, decide_eq_true_eq] at h
  exact h
theorem of_wf8 {x : Int} (h : (Lit.int .u8 x).wf = true) : is8 x := by
  have e1 : IntKind.u8.min = 0 := by decide
  have e2 : IntKind.u8.max = 255 := by decide
  simp only [Lit.wf, e1, e2, Bool.and_eq_true, decide_eq_true_eq] at h
  exact h

theorem Try.cAct : Try.prog.cellsOf 47 = 7 := by kernel_rfl
theorem Try.cRow : Try.prog.cellsOf 25 = 3 := by kernel_rfl
theorem Try.cInt : Try.prog.cellsOf 3 = 1 := by kernel_rfl
theorem Try.cBits : Try.prog.cellsOf 32 = 1 := by kernel_rfl

section
variable {H : Type} {enc : TypeId × Value → H} {w : World} {base : Nat} {spare : Nat → Bool} {held : Bool} {fuel : Nat}
theorem open_rowv {cs : List Value} {x : DataW H × List MemPlace} (h : DataW.trod enc Try.prog w base spare held fuel 25 cs = some x) :
    ∃ r : R3, cs = [.int .u32 r.1, .int .u32 r.2.1, .int .u32 r.2.2] ∧ rok r := by
  obtain ⟨xs, m, _, _, hl, hxl, hf⟩ := DataW.trod_array Try.underlying25 h
  rw [Try.cRow] at hl
  rw [Try.cells32] at hf
  match xs, hxl, cs, hl with
  | [y0, y1, y2], _, [v0, v1, v2], _ =>
    have g0 := hf 0 (by omega)
    have g1 := hf 1 (by omega)
    have g2 := hf 2 (by omega)
    simp at g0 g1 g2
    obtain ⟨n0, e0, _, w0⟩ := DataW.trod_int Try.underlying23 g0
    obtain ⟨n1, e1, _, w1⟩ := DataW.trod_int Try.underlying23 g1
    obtain ⟨n2, e2, _, w2⟩ := DataW.trod_int Try.underlying23 g2
    simp at e0 e1 e2
    subst e0; subst e1; subst e2
    exact ⟨(n0, n1, n2), rfl, of_wf32 w0, of_wf32 w1, of_wf32 w2⟩
theorem open_actv {cs : List Value} {x : DataW H × List MemPlace} (h : DataW.trod enc Try.prog w base spare held fuel 47 cs = some x) :
    ∃ y : ActT, cs = [.int .i64 y.1, .int .u32 y.2.1.1, .int .u32 y.2.1.2.1, .int .u32 y.2.1.2.2, .int .u8 y.2.2.1, .int .i64 y.2.2.2.1, .int .i64 y.2.2.2.2] ∧ rok y.2.1 ∧ is8 y.2.2.1 := by
  obtain ⟨xs, n, _, _, hl, hxl, hf⟩ := DataW.trod_struct Try.underlying47 h
  rw [Try.cAct] at hl
  match xs, hxl, cs, hl with
  | [y0, y1, y2, y3, y4], _, [v0, v1, v2, v3, v4, v5, v6], _ =>
    have g0 := hf 0 _ rfl
    have g1 := hf 1 _ rfl
    have g2 := hf 2 _ rfl
    have g3 := hf 3 _ rfl
    have g4 := hf 4 _ rfl
    simp [Try.cRow, Try.cInt, Try.cBits] at g0 g1 g2 g3 g4
    obtain ⟨n0, e0, _, w0⟩ := DataW.trod_int Try.underlying3 g0
    obtain ⟨r, e1, w1⟩ := open_rowv g1
    obtain ⟨n2, e2, _, w2⟩ := DataW.trod_int Try.underlying32 g2
    obtain ⟨n3, e3, _, w3⟩ := DataW.trod_int Try.underlying3 g3
    obtain ⟨n4, e4, _, w4⟩ := DataW.trod_int Try.underlying3 g4
    simp at e0 e1 e2 e3 e4
    obtain ⟨ea, eb, ec⟩ := e1
    subst e0; subst ea; subst eb; subst ec; subst e2; subst e3; subst e4
    exact ⟨(n0, r, n2, n3, n4), rfl, w1, of_wf8 w2⟩
theorem open_acts {a : Option Addr} {len cap : Nat} {x : DataW H × List MemPlace} (h : DataW.trod enc Try.prog w base spare held fuel 40 [.slice a len cap] = some x) :
    ∃ L : List ActT, L.length = len ∧ IsActs w a L := by
  rcases Deep.open_slice Try.underlying40 h with ⟨hcs, _⟩ | ⟨a', len', cap', m, n, D, Pl, hcs, hb, hl, hm, hmm, _, hx⟩
  · simp at hcs
    obtain ⟨rfl, rfl, rfl⟩ := hcs
    exact ⟨[], rfl, fun j hj => absurd hj (Nat.not_lt_zero _)⟩
  · simp at hcs
    obtain ⟨rfl, rfl, rfl⟩ := hcs
    rw [Try.cAct] at hx
    have hlm : len ≤ m := by rw [hmm]; split <;> omega
    have each : ∀ i, i < len → ∃ y : ActT, ∀ k v, [Value.int .i64 y.1, .int .u32 y.2.1.1, .int .u32 y.2.1.2.1, .int .u32 y.2.1.2.2, .int .u8 y.2.2.1, .int .i64 y.2.2.2.1, .int .i64 y.2.2.2.2][k]? = some v → w.cell? (a'.add (i * 7 + k)) = some v ∧ rok y.2.1 ∧ is8 y.2.2.1 := by
      intro i hi
      obtain ⟨cs', h1, h2⟩ := hx i (by omega)
      obtain ⟨_, hlen, hcell⟩ := World.cells?_some h1
      obtain ⟨y, rfl, hr, h8⟩ := open_actv h2
      refine ⟨y, fun k v hk => ⟨?_, hr, h8⟩⟩
      have hk7 : k < 7 := by
        have := (List.getElem?_eq_some_iff.1 hk).1
        simpa using this
      have := hcell k hk7
      rw [Deep.add_add] at this
      rw [this]; exact hk
    haveI : Inhabited ActT := ⟨(0, (0, 0, 0), 0, 0, 0)⟩
    obtain ⟨f, hf⟩ := Deep.choose_lt each
    refine ⟨(List.range len).map f, by simp, fun j hj => ?_⟩
    have hj' : j < len := by simpa using hj
    have hc := hf j hj'
    have h0 := (hc 0 _ rfl).1
    obtain ⟨b, off, rfl, hb'⟩ : ∃ b off, a' = ⟨b, off, none⟩ ∧ b < w.heap.size := by
      have hs := (hf 0 (by omega) 0 _ rfl).1
      simp only [Nat.zero_mul, Nat.add_zero] at hs
      exact spot_of (by rw [hs]; rfl)
    have pl : ∀ k, (⟨b, off, none⟩ : Addr).add k = ⟨b, off + k, none⟩ := by
      intro k; unfold Addr.add; split <;> simp_all
    refine ⟨b, off, rfl, hb', ?_⟩
    have c := fun k v hk => (hc k v hk).1
    simp only [pl] at c
    simp only [List.getElem_map, List.getElem_range]
    exact ⟨c 0 _ rfl, c 1 _ rfl, c 2 _ rfl, c 3 _ rfl, c 4 _ rfl, c 5 _ rfl, c 6 _ rfl, (hc 0 _ rfl).2.1, (hc 0 _ rfl).2.2⟩
end
end Go.Proofs.Ytellmhllgmimiaa
