/- Layer 14: views that come in, opened. -/
import Derived.Test.YtkgkkbfpkgfcaaaL14
namespace Go.Proofs.Ytkgkkbfpkgfcaaa
set_option maxRecDepth 100000
open Go.RowKit Go.Maps Go.ChangeShapes Go.WideShapes
set_option linter.unusedVariables false
set_option linter.unusedSimpArgs false

theorem Try.cView : Try.prog.cellsOf 42 = 3 := by kernel_rfl
section
variable {H : Type} {enc : TypeId × Value → H} {w : World} {base : Nat} {spare : Nat → Bool} {held : Bool} {fuel : Nat}
theorem open_view {cs : List Value} {x : DataW H × List MemPlace} (h : DataW.trod enc Try.prog w base spare held fuel 42 cs = some x) :
    ∃ y : Vw, cs = [.int .i64 y.1, .int .i64 y.2.1, .int .u8 y.2.2] := by
  obtain ⟨xs, n, _, _, hl, hxl, hf⟩ := DataW.trod_struct Try.underlying42 h
  rw [Try.cView] at hl
  match xs, hxl, cs, hl with
  | [y0, y1, y2], _, [v0, v1, v2], _ =>
    have g0 := hf 0 _ rfl
    have g1 := hf 1 _ rfl
    have g2 := hf 2 _ rfl
    simp [Try.cInt, Try.cBits] at g0 g1 g2
    obtain ⟨n0, e0, _, w0⟩ := DataW.trod_int Try.underlying3 g0
    obtain ⟨n1, e1, _, w1⟩ := DataW.trod_int Try.underlying3 g1
    obtain ⟨n2, e2, _, w2⟩ := DataW.trod_int Try.underlying40 g2
    simp at e0 e1 e2
    subst e0; subst e1; subst e2
    exact ⟨(n0, n1, n2), rfl⟩
theorem open_views {a : Option Addr} {len cap : Nat} {x : DataW H × List MemPlace} (h : DataW.trod enc Try.prog w base spare held fuel 39 [.slice a len cap] = some x) :
    ∃ L : List Vw, L.length = len ∧ IsViews w a L := by
  rcases Deep.open_slice Try.underlying39 h with ⟨hcs, _⟩ | ⟨a', len', cap', m, n, D, Pl, hcs, hb, hl, hm, hmm, _, hx⟩
  · simp at hcs
    obtain ⟨rfl, rfl, rfl⟩ := hcs
    exact ⟨[], rfl, fun j hj => absurd hj (Nat.not_lt_zero _)⟩
  · simp at hcs
    obtain ⟨rfl, rfl, rfl⟩ := hcs
    rw [Try.cView] at hx
    have hlm : len ≤ m := by rw [hmm]; split <;> omega
    have each : ∀ i, i < len → ∃ y : Vw, ∀ k v, [Value.int .i64 y.1, .int .i64 y.2.1, .int .u8 y.2.2][k]? = some v → w.cell? (a'.add (i * 3 + k)) = some v := by
      intro i hi
      obtain ⟨cs', h1, h2⟩ := hx i (by omega)
      obtain ⟨_, hlen, hcell⟩ := World.cells?_some h1
      obtain ⟨y, rfl⟩ := open_view h2
      refine ⟨y, fun k v hk => ?_⟩
      have hk3 : k < 3 := by
        have := (List.getElem?_eq_some_iff.1 hk).1
        simpa using this
      have := hcell k hk3
      rw [Deep.add_add] at this
      rw [this]; exact hk
    haveI : Inhabited Vw := ⟨(0, 0, 0)⟩
    obtain ⟨f, hf⟩ := Deep.choose_lt each
    refine ⟨(List.range len).map f, by simp, fun j hj => ?_⟩
    have hj' : j < len := by simpa using hj
    have hc := hf j hj'
    obtain ⟨b, off, rfl, hb'⟩ : ∃ b off, a' = ⟨b, off, none⟩ ∧ b < w.heap.size := by
      have hs := hf 0 (by omega) 0 _ rfl
      simp only [Nat.zero_mul, Nat.add_zero] at hs
      exact spot_of (by rw [hs]; rfl)
    have pl : ∀ k, (⟨b, off, none⟩ : Addr).add k = ⟨b, off + k, none⟩ := by
      intro k; unfold Addr.add; split <;> simp_all
    refine ⟨b, off, rfl, ?_⟩
    simp only [pl, ← Nat.add_assoc] at hc
    simp only [List.getElem_map, List.getElem_range]
    exact ⟨hb', hc 0 _ rfl, hc 1 _ rfl, hc 2 _ rfl⟩
end
end Go.Proofs.Ytkgkkbfpkgfcaaa
