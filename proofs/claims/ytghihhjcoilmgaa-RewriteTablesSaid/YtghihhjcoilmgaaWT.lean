/- RewriteTables' arguments, opened. -/
import Derived.Test.YtghihhjcoilmgaaW2
import Derived.OpenShut
import Derived.Deep.Slices
namespace Go.Proofs.Ytghihhjcoilmgaa
set_option maxRecDepth 100000
open Go.RowKit Go.Maps Go.ChangeShapes Go.WideShapes
set_option linter.unusedVariables false
set_option linter.unusedSimpArgs false

theorem spot_of {w : World} {x : Addr} (h : (w.cell? (x.add 0)).isSome) : ∃ b off, x = ⟨b, off, none⟩ ∧ b < w.heap.size := by
  have e : x.add 0 = x := by unfold Addr.add; simp
  rw [e] at h
  obtain ⟨b, off, sp⟩ := x
  unfold World.cell? at h
  cases hb : w.heap[b]? with
  | none => simp [hb] at h
  | some o =>
    simp only [hb] at h
    cases o with
    | cells c el fz =>
      simp only at h
      cases sp with
      | none => exact ⟨b, off, rfl, (Array.getElem?_eq_some_iff.1 hb).1⟩
      | some i => simp at h
    | _ => simp at h
theorem of_wf32 {x : Int} (h : (Lit.int .u32 x).wf = true) : is32 x := by
  have e1 : IntKind.u32.min = 0 := by decide
  have e2 : IntKind.u32.max = 4294967295 := by decide
  simp only [Lit.wf, e1, e2, Bool.and_eq_true, decide_eq_true_eq] at h
  exact h
theorem of_wf64 {x : Int} (h : (Lit.int .i64 x).wf = true) : (-9223372036854775808 ≤ x ∧ x ≤ 9223372036854775807) := by
  have e1 : IntKind.i64.min = -9223372036854775808 := by decide
  have e2 : IntKind.i64.max = 9223372036854775807 := by decide
  simp only [Lit.wf, e1, e2, Bool.and_eq_true, decide_eq_true_eq] at h
  exact h


abbrev Rw3 := Int × Int × Int
def isB8 (x : Int) : Prop := 0 ≤ x ∧ x ≤ 255
def rowk (r : Rw3) : Prop := is32 r.1 ∧ is32 r.2.1 ∧ is32 r.2.2
theorem of_wf8 {x : Int} (h : (Lit.int .u8 x).wf = true) : isB8 x := by
  have e1 : IntKind.u8.min = 0 := by decide
  have e2 : IntKind.u8.max = 255 := by decide
  simp only [Lit.wf, e1, e2, Bool.and_eq_true, decide_eq_true_eq] at h
  exact h
theorem Try.laidOut : laidOutB Try.prog = true := by kernel_rfl
theorem Try.cJ : Try.prog.cellsOf 68 = 2 := by kernel_rfl
theorem Try.cU : Try.prog.cellsOf 31 = 1 := by kernel_rfl
theorem Try.cRow : Try.prog.cellsOf 37 = 3 := by kernel_rfl
theorem Try.cBits : Try.prog.cellsOf 56 = 1 := by kernel_rfl
/-- rows at an address -/
def IsRw (w : World) (a : Option Addr) (L : List Rw3) : Prop := ∀ j (h : j < L.length), ∃ b off, a = some ⟨b, off, none⟩ ∧ b < w.heap.size ∧
  w.cell? ⟨b, off + j * 3, none⟩ = some (.int .u32 L[j].1) ∧ w.cell? ⟨b, off + j * 3 + 1, none⟩ = some (.int .u32 L[j].2.1) ∧ w.cell? ⟨b, off + j * 3 + 2, none⟩ = some (.int .u32 L[j].2.2)
theorem IsRw.below {w w' : World} {a : Option Addr} {L : List Rw3} (h : IsRw w a L) (hb : Below w.heap.size w w') : IsRw w' a L := by
  intro j hj
  obtain ⟨b, off, e, h1, h2, h3, h4⟩ := h j hj
  have s : ∀ k, w'.cell? ⟨b, k, none⟩ = w.cell? ⟨b, k, none⟩ := fun k => World.cell?_of_block (w := w) (w' := w') (a := ⟨b, k, none⟩) (hb.block b h1)
  exact ⟨b, off, e, Nat.lt_of_lt_of_le h1 hb.size, (s _).trans h2, (s _).trans h3, (s _).trans h4⟩
section
variable {H : Type} {enc : TypeId × Value → H} {w : World} {base : Nat} {spare : Nat → Bool} {held : Bool} {fuel : Nat}
theorem open_join {cs : List Value} {x : DataW H × List MemPlace} (h : DataW.trod enc Try.prog w base spare held fuel 68 cs = some x) :
    ∃ r : Int × Int, cs = [.int .u32 r.1, .int .u32 r.2] ∧ is32 r.1 ∧ is32 r.2 := by
  obtain ⟨xs, m, _, _, hl, hxl, hf⟩ := DataW.trod_array Try.underlying68 h
  rw [Try.cJ] at hl
  rw [Try.cU] at hf
  match xs, hxl, cs, hl with
  | [y0, y1], _, [v0, v1], _ =>
    have g0 := hf 0 (by omega)
    have g1 := hf 1 (by omega)
    simp at g0 g1
    obtain ⟨n0, e0, _, w0⟩ := DataW.trod_int Try.underlying31 g0
    obtain ⟨n1, e1, _, w1⟩ := DataW.trod_int Try.underlying31 g1
    simp at e0 e1
    subst e0; subst e1
    exact ⟨(n0, n1), rfl, of_wf32 w0, of_wf32 w1⟩
theorem open_joins {a : Option Addr} {len cap : Nat} {x : DataW H × List MemPlace} (h : DataW.trod enc Try.prog w base spare held fuel 22 [.slice a len cap] = some x) :
    ∃ L : Jn, L.length = len ∧ IsJ w a L ∧ (∀ p ∈ L, is32 p.1 ∧ is32 p.2) ∧ L.length ≤ maxLen := by
  rcases Deep.open_slice Try.underlying22 h with ⟨hcs, _⟩ | ⟨a', len', cap', m, n, D, Pl, hcs, hb, hl, hm, hmm, _, hx⟩
  · simp at hcs
    obtain ⟨rfl, rfl, rfl⟩ := hcs
    exact ⟨[], rfl, fun j hj => absurd hj (Nat.not_lt_zero _), by simp, by simp⟩
  · simp at hcs
    obtain ⟨rfl, rfl, rfl⟩ := hcs
    rw [Try.cJ] at hx
    have hlm : len ≤ m := by rw [hmm]; split <;> omega
    have each : ∀ i, i < len → ∃ y : Int × Int, (is32 y.1 ∧ is32 y.2) ∧ ∀ k v, [Value.int .u32 y.1, Value.int .u32 y.2][k]? = some v → w.cell? (a'.add (i * 2 + k)) = some v := by
      intro i hi
      obtain ⟨cs', h1, h2⟩ := hx i (by omega)
      obtain ⟨_, hlen, hcell⟩ := World.cells?_some h1
      obtain ⟨y, rfl, hr⟩ := open_join h2
      refine ⟨y, hr, fun k v hk => ?_⟩
      have hk2 : k < 2 := by
        have := (List.getElem?_eq_some_iff.1 hk).1
        simpa using this
      have := hcell k hk2
      rw [Deep.add_add] at this
      rw [this]; exact hk
    haveI : Inhabited (Int × Int) := ⟨(0, 0)⟩
    obtain ⟨f, hf⟩ := Deep.choose_lt each
    refine ⟨(List.range len).map f, by simp, fun j hj => ?_, fun p hp => ?_, by simp; omega⟩
    · have hj' : j < len := by simpa using hj
      have hc := (hf j hj').2
      obtain ⟨b, off, rfl, hb'⟩ : ∃ b off, a' = ⟨b, off, none⟩ ∧ b < w.heap.size := by
        have hs := (hf 0 (by omega)).2 0 _ rfl
        simp only [Nat.zero_mul, Nat.add_zero] at hs
        exact spot_of (by rw [hs]; rfl)
      have pl : ∀ k, (⟨b, off, none⟩ : Addr).add k = ⟨b, off + k, none⟩ := by
        intro k; unfold Addr.add; split <;> simp_all
      refine ⟨b, off, rfl, hb', ?_, ?_⟩
      · have := hc 0 _ rfl
        rw [pl] at this
        simpa using this
      · have := hc 1 _ rfl
        rw [pl] at this
        simp only [List.getElem_map, List.getElem_range, Nat.add_assoc]
        exact this
    · obtain ⟨i, hi, rfl⟩ := List.mem_map.1 hp
      exact (hf i (List.mem_range.1 hi)).1

theorem open_rowv {cs : List Value} {x : DataW H × List MemPlace} (h : DataW.trod enc Try.prog w base spare held fuel 37 cs = some x) :
    ∃ r : Rw3, cs = [.int .u32 r.1, .int .u32 r.2.1, .int .u32 r.2.2] ∧ rowk r := by
  obtain ⟨xs, m, _, _, hl, hxl, hf⟩ := DataW.trod_array Try.underlying37 h
  rw [Try.cRow] at hl
  rw [Try.cU] at hf
  match xs, hxl, cs, hl with
  | [y0, y1, y2], _, [v0, v1, v2], _ =>
    have g0 := hf 0 (by omega)
    have g1 := hf 1 (by omega)
    have g2 := hf 2 (by omega)
    simp at g0 g1 g2
    obtain ⟨n0, e0, _, w0⟩ := DataW.trod_int Try.underlying31 g0
    obtain ⟨n1, e1, _, w1⟩ := DataW.trod_int Try.underlying31 g1
    obtain ⟨n2, e2, _, w2⟩ := DataW.trod_int Try.underlying31 g2
    simp at e0 e1 e2
    subst e0; subst e1; subst e2
    exact ⟨(n0, n1, n2), rfl, of_wf32 w0, of_wf32 w1, of_wf32 w2⟩
theorem open_bit {cs : List Value} {x : DataW H × List MemPlace} (h : DataW.trod enc Try.prog w base spare held fuel 56 cs = some x) : ∃ y : Int, cs = [.int .u8 y] ∧ isB8 y := by
  obtain ⟨n, e, _, wf⟩ := DataW.trod_int Try.underlying56 h
  exact ⟨n, e, of_wf8 wf⟩
/-- a slice whose elements open is a list -/
theorem open_list {α : Type} (dflt : α) {T E : TypeId} {size : Nat} {encs : α → List Value} {ok : α → Prop} (hT : Try.prog.underlying T = some (.slice E)) (hc : Try.prog.cellsOf E = size) (hsz : 0 < size) (hlen : ∀ y, (encs y).length = size)
    (hel : ∀ {cs : List Value} {x : DataW H × List MemPlace} {base : Nat} {spare : Nat → Bool} {held : Bool} {fuel : Nat}, DataW.trod enc Try.prog w base spare held fuel E cs = some x → ∃ y, cs = encs y ∧ ok y)
    {a : Option Addr} {len cap : Nat} {x : DataW H × List MemPlace} (h : DataW.trod enc Try.prog w base spare held fuel T [.slice a len cap] = some x) :
    ∃ L : List α, L.length = len ∧ (∀ j (hj : j < L.length), ∃ b off, a = some ⟨b, off, none⟩ ∧ b < w.heap.size ∧ ∀ k v, (encs L[j])[k]? = some v → w.cell? ⟨b, off + j * size + k, none⟩ = some v) ∧ (∀ y ∈ L, ok y) ∧ L.length ≤ maxLen := by
  rcases Deep.open_slice hT h with ⟨hcs, _⟩ | ⟨a', len', cap', m, n, D, Pl, hcs, hb, hl, hm, hmm, _, hx⟩
  · simp at hcs
    obtain ⟨rfl, rfl, rfl⟩ := hcs
    exact ⟨[], rfl, fun j hj => absurd hj (Nat.not_lt_zero _), by simp, by simp⟩
  · simp at hcs
    obtain ⟨rfl, rfl, rfl⟩ := hcs
    rw [hc] at hx
    have hlm : len ≤ m := by rw [hmm]; split <;> omega
    have each : ∀ i, i < len → ∃ y : α, ok y ∧ ∀ k v, (encs y)[k]? = some v → w.cell? (a'.add (i * size + k)) = some v := by
      intro i hi
      obtain ⟨cs', h1, h2⟩ := hx i (by omega)
      obtain ⟨_, hlen', hcell⟩ := World.cells?_some h1
      obtain ⟨y, rfl, hr⟩ := hel h2
      refine ⟨y, hr, fun k v hk => ?_⟩
      have hk2 : k < size := by
        have := (List.getElem?_eq_some_iff.1 hk).1
        rwa [hlen] at this
      have := hcell k hk2
      rw [Deep.add_add] at this
      rw [this]; exact hk
    haveI : Inhabited α := ⟨dflt⟩
    obtain ⟨f, hf⟩ := Deep.choose_lt each
    refine ⟨(List.range len).map f, by simp, fun j hj => ?_, fun p hp => ?_, by simp; omega⟩
    · have hj' : j < len := by simpa using hj
      have hc := (hf j hj').2
      obtain ⟨b, off, rfl, hb'⟩ : ∃ b off, a' = ⟨b, off, none⟩ ∧ b < w.heap.size := by
        have h0 : 0 < (encs (f 0)).length := by rw [hlen]; exact hsz
        have hs := (hf 0 (by omega)).2 0 _ (List.getElem?_eq_getElem h0)
        simp only [Nat.zero_mul, Nat.add_zero] at hs
        exact spot_of (by rw [hs]; rfl)
      have pl : ∀ k, (⟨b, off, none⟩ : Addr).add k = ⟨b, off + k, none⟩ := by
        intro k; unfold Addr.add; split <;> simp_all
      refine ⟨b, off, rfl, hb', fun k v hk => ?_⟩
      simp only [List.getElem_map, List.getElem_range] at hk
      have := hc k v hk
      rw [pl, ← Nat.add_assoc] at this
      exact this
    · obtain ⟨i, hi, rfl⟩ := List.mem_map.1 hp
      exact (hf i (List.mem_range.1 hi)).1
theorem open_bits {a : Option Addr} {len cap : Nat} {x : DataW H × List MemPlace} (h : DataW.trod enc Try.prog w base spare held fuel 48 [.slice a len cap] = some x) : ∃ L : List Int, L.length = len ∧ IsAt (Value.int .u8) w a L ∧ (∀ y ∈ L, isB8 y) ∧ L.length ≤ maxLen := by
  obtain ⟨L, h1, h2, h3, h4⟩ := open_list (0 : Int) (encs := fun y => [.int .u8 y]) Try.underlying48 Try.cBits (by decide) (fun _ => rfl) (fun h => open_bit h) h
  refine ⟨L, h1, fun j hj => ?_, h3, h4⟩
  obtain ⟨b, off, e, k1, k2⟩ := h2 j hj
  exact ⟨b, off, e, k1, by simpa using k2 0 _ rfl⟩
theorem open_rows {a : Option Addr} {len cap : Nat} {x : DataW H × List MemPlace} (h : DataW.trod enc Try.prog w base spare held fuel 39 [.slice a len cap] = some x) : ∃ L : List Rw3, L.length = len ∧ IsRw w a L ∧ (∀ y ∈ L, rowk y) ∧ L.length ≤ maxLen := by
  obtain ⟨L, h1, h2, h3, h4⟩ := open_list ((0, 0, 0) : Rw3) (encs := fun r => [.int .u32 r.1, .int .u32 r.2.1, .int .u32 r.2.2]) Try.underlying39 Try.cRow (by decide) (fun _ => rfl) (fun h => open_rowv h) h
  refine ⟨L, h1, fun j hj => ?_, h3, h4⟩
  obtain ⟨b, off, e, k1, k2⟩ := h2 j hj
  exact ⟨b, off, e, k1, by simpa using k2 0 _ rfl, k2 1 _ rfl, k2 2 _ rfl⟩
end
end Go.Proofs.Ytghihhjcoilmgaa
