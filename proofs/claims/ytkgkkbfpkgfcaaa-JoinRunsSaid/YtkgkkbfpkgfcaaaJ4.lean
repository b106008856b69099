/- Layer 14: plans and bindings in plain words; a place's number, which rows fit, whether two bindings are one. -/
import Derived.Test.YtkgkkbfpkgfcaaaR5
import Derived.Test.YtkgkkbfpkgfcaaaOrdW
namespace Go.Proofs.Ytkgkkbfpkgfcaaa
set_option maxRecDepth 100000
open Go.RowKit Go.Maps
set_option linter.unusedVariables false
set_option linter.unusedSimpArgs false

/-- a place: a variable's number, or -1 and a term's -/
abbrev Pl := Int × Int
structure StepT where
  kind : Int
  r0 : Pl
  r1 : Pl
  r2 : Pl
  a : Pl
  b : Pl
def plv (x : Pl) : Value := .agg #[.int .i64 x.1, .int .u32 x.2]
def stepv (s : StepT) : Value := .agg #[.int .i64 s.kind, .int .i64 s.r0.1, .int .u32 s.r0.2, .int .i64 s.r1.1, .int .u32 s.r1.2, .int .i64 s.r2.1, .int .u32 s.r2.2, .int .i64 s.a.1, .int .u32 s.a.2, .int .i64 s.b.1, .int .u32 s.b.2]
/-- the numbers L lie at the slice's address -/
def IsU (w : World) (a : Option Addr) (L : List Int) : Prop := ∀ j (h : j < L.length), ∃ b off, a = some ⟨b, off, none⟩ ∧ b < w.heap.size ∧ w.cell? ⟨b, off + j, none⟩ = some (.int .u32 L[j])
theorem IsU.below {w w' : World} {a : Option Addr} {L : List Int} (h : IsU w a L) (hb : Below w.heap.size w w') : IsU w' a L := by
  intro j hj
  obtain ⟨b, off, h1, h2, h3⟩ := h j hj
  exact ⟨b, off, h1, Nat.lt_of_lt_of_le h2 hb.size, cell_later hb h3⟩
/-- what a place says -/
def plVal (L : List Int) (x : Pl) : Int := if x.1 < 0 then x.2 else L.getD x.1.toNat 0
def lookP (L : List Int) (s : StepT) : R3 := (plVal L s.r0, plVal L s.r1, plVal L s.r2)
theorem plVal_in {L : List Int} {x : Pl} {k : Nat} (hk : x.1 = k) (h : k < L.length) : plVal L x = L[k] := by
  unfold plVal
  rw [if_neg (by omega), hk]
  simp [h]
theorem two_blocks (w : World) (o0 o1 : Obj) : ∀ W, W = (w.alloc o0).alloc o1 → Below w.heap.size w W ∧ W.heap.size = w.heap.size + 2 ∧ W.heap[w.heap.size]? = some o0 ∧ W.heap[w.heap.size + 1]? = some o1 := by
  rintro W rfl
  have s1 := World.size_alloc w o0
  have s2 := World.size_alloc (w.alloc o0) o1
  refine ⟨((Below.refl _ w).alloc (Nat.le_refl _) _).alloc (by omega) _, by omega, ?_, ?_⟩
  · rw [Below.heap_alloc _ _ _ (by omega)]
    exact World.alloc_heap_new w o0
  · rw [← s1]
    exact World.alloc_heap_new _ o1
section
variable {w : World}
set_option maxRecDepth 100000 in
theorem rvalue_any (a : Option Addr) (cap : Nat) (L : List Int) (x : Pl) (h : IsU w a L) (hx : x.1 < L.length) :
    Calls Try.prog 23 #[.slice a L.length cap, plv x] w fun e w' => e = .returned (.int .u32 (plVal L x)) ∧ Below w.heap.size w w' := by
  obtain ⟨v, i⟩ := x
  have H := Lib.hid h
  obtain ⟨l, hl⟩ : ∃ l, L.length = l := ⟨_, rfl⟩
  have Hl := Lib.hid hl
  simp only [plv] at hx ⊢
  rw [hl] at hx ⊢
  clear h hl
  go_enter Try.func23, Try.ntmps23
  by_cases hv : v < 0
  · have hd : decide (v < 0) = true := by simpa using hv
    go_wp2_with fail
    go_ret
    refine ⟨?_, (Below.refl _ w).alloc (Nat.le_refl _) _⟩
    simp [plVal, hv]
  · have hd : decide (v < 0) = false := by simpa using hv
    obtain ⟨k, rfl⟩ : ∃ k : Nat, v = k := ⟨v.toNat, by omega⟩
    have hkl : k < l := by omega
    obtain ⟨b, off, rfl, hb, hc⟩ := H.out k (by have := Hl.out; omega)
    have hp := plVal_in (L := L) (x := ((k : Int), i)) rfl (by have := Hl.out; omega)
    have hc' := cell_later ((Below.refl _ w).alloc (Nat.le_refl _) (.cells #[.int .i64 (k : Int), .int .u32 i] 25)) hc
    obtain ⟨u, hu⟩ : ∃ u, L[k]'(by have := Hl.out; omega) = u := ⟨_, rfl⟩
    rw [hu] at hc' hp
    have Hp := Lib.hid hp
    clear hc hp hu hx
    go_wp2_with fail
    go_ret
    exact ⟨by rw [Hp.out]; rfl, (Below.refl _ w).alloc (Nat.le_refl _) _⟩
-- PRINTED by gen_J1.py
set_option maxRecDepth 100000 in
set_option maxHeartbeats 2000000 in
theorem rfits_any (a : Option Addr) (cap : Nat) (L : List Int) (s : StepT) (r : R3) (h : IsU w a L) (hs : s.r0.1 < L.length ∧ s.r1.1 < L.length ∧ s.r2.1 < L.length) :
    Calls Try.prog 24 #[.slice a L.length cap, stepv s, rv r] w fun e w' => e = .returned (.bool (fits (lookP L s) r)) ∧ Below w.heap.size w w' := by
  obtain ⟨kk, ⟨a0, i0⟩, ⟨a1, i1⟩, ⟨a2, i2⟩, ⟨sa, sai⟩, ⟨sb, sbi⟩⟩ := s
  obtain ⟨y0, y1, y2⟩ := r
  have H := Lib.hid h
  have Hs0 := Lib.hid hs.1; have Hs1 := Lib.hid hs.2.1; have Hs2 := Lib.hid hs.2.2
  simp only [stepv, rv]
  clear h hs
  obtain ⟨hB0, hz0, hs0, hy0⟩ := two_blocks w (.cells #[.int .i64 kk, .int .i64 a0, .int .u32 i0, .int .i64 a1, .int .u32 i1, .int .i64 a2, .int .u32 i2, .int .i64 sa, .int .u32 sai, .int .i64 sb, .int .u32 sbi] 35) (.cells #[.int .u32 y0, .int .u32 y1, .int .u32 y2] 58) _ rfl
  have HB0 := Lib.hid hB0; have HS0 := Lib.hid hs0; have HY0 := Lib.hid hy0
  clear hB0 hz0 hs0 hy0
  go_enter Try.func24, Try.ntmps24
  go_wp2_with fail
  go_loopw [7] (fun u wr => ∃ k : Nat, k ≤ 3 ∧ u = .int .i64 k ∧ Below w.heap.size w wr ∧ wr.heap[w.heap.size]? = some (.cells #[.int .i64 kk, .int .i64 a0, .int .u32 i0, .int .i64 a1, .int .u32 i1, .int .i64 a2, .int .u32 i2, .int .i64 sa, .int .u32 sai, .int .i64 sb, .int .u32 sbi] 35) ∧ wr.heap[w.heap.size + 1]? = some (.cells #[.int .u32 y0, .int .u32 y1, .int .u32 y2] 58) ∧
    ∀ j, j < k → R3.at (lookP L ⟨kk, (a0, i0), (a1, i1), (a2, i2), (sa, sai), (sb, sbi)⟩) j = 0 ∨ R3.at (lookP L ⟨kk, (a0, i0), (a1, i1), (a2, i2), (sa, sai), (sb, sbi)⟩) j = R3.at (y0, y1, y2) j) (fun u _ => 3 - (intOf u).toNat)
  case atStart => exact ⟨0, by omega, rfl, HB0.out, HS0.out, HY0.out, fun j hj => by omega⟩
  case round =>
    obtain ⟨k, hk, rfl, hB, hs, hy, hfk⟩ := hrel
    have hkk : k = 0 ∨ k = 1 ∨ k = 2 ∨ k = 3 := by omega
    rcases hkk with rfl | rfl | rfl | rfl
    · have cp : wr.cell? ⟨w.heap.size, 1, none⟩ = some (.int .i64 a0) ∧ wr.cell? ⟨w.heap.size, 2, none⟩ = some (.int .u32 i0) := by unfold World.cell?; rw [hs]; exact ⟨rfl, rfl⟩
      obtain ⟨cp0, cp1⟩ := cp
      have cy : wr.cell? ⟨w.heap.size + 1, 0, none⟩ = some (.int .u32 y0) := by unfold World.cell?; rw [hy]; rfl
      have HB := Lib.hid hB; have Hs := Lib.hid hs; have Hy := Lib.hid hy; have Hfk := Lib.hid hfk
      clear hB hs hy hfk
      go_wp2_with fail
      refine (rvalue_any a cap L (a0, i0) (H.out.below HB.out) Hs0.out).mono ?_
      rintro e w2 ⟨rfl, hB2⟩
      obtain ⟨v, hv⟩ : ∃ v, plVal L (a0, i0) = v := ⟨_, rfl⟩
      rw [hv]
      have cy2 := cell_later hB2 cy
      have HB2 := Lib.hid (HB.out.trans (hB2.mono HB.out.size))
      have Hs2 := Lib.hid ((hB2.block _ (Array.getElem?_eq_some_iff.1 Hs.out).1).trans Hs.out)
      have Hy2 := Lib.hid ((hB2.block _ (Array.getElem?_eq_some_iff.1 Hy.out).1).trans Hy.out)
      have Hv := Lib.hid hv
      clear hB2 hv cp0 cp1 cy
      by_cases h0 : v = 0
      · have hd : (v != 0) = false := by simpa using h0
        go_wp2_with fail
        exact ⟨⟨1, by omega, rfl, HB2.out, Hs2.out, Hy2.out, fun j hj => by
          by_cases hjk : j = 0
          · subst hjk; exact .inl (Hv.out.trans h0)
          · exact Hfk.out j (by omega)⟩, by simp [intOf]⟩
      · have hd : (v != 0) = true := by simpa using h0
        by_cases h1 : v = y0
        · have hd2 : (v != y0) = false := by simpa using h1
          go_wp2_with fail
          exact ⟨⟨1, by omega, rfl, HB2.out, Hs2.out, Hy2.out, fun j hj => by
            by_cases hjk : j = 0
            · subst hjk; exact .inr (Hv.out.trans h1)
            · exact Hfk.out j (by omega)⟩, by simp [intOf]⟩
        · have hd2 : (v != y0) = true := by simpa using h1
          go_wp2_with fail
          go_ret
          refine ⟨?_, HB2.out⟩
          have hne : fits (lookP L ⟨kk, (a0, i0), (a1, i1), (a2, i2), (sa, sai), (sb, sbi)⟩) (y0, y1, y2) = false := by
            cases hf : fits (lookP L ⟨kk, (a0, i0), (a1, i1), (a2, i2), (sa, sai), (sb, sbi)⟩) (y0, y1, y2) with
            | false => rfl
            | true =>
              exfalso
              have hvv := Hv.out
              simp only [fits, lookP, Bool.and_eq_true, Bool.or_eq_true, beq_iff_eq, hvv] at hf
              obtain ⟨⟨f0, f1⟩, f2⟩ := hf
              rcases f0 with h | h
              · exact h0 h
              · exact h1 h
          rw [hne]; rfl
    · have cp : wr.cell? ⟨w.heap.size, 3, none⟩ = some (.int .i64 a1) ∧ wr.cell? ⟨w.heap.size, 4, none⟩ = some (.int .u32 i1) := by unfold World.cell?; rw [hs]; exact ⟨rfl, rfl⟩
      obtain ⟨cp0, cp1⟩ := cp
      have cy : wr.cell? ⟨w.heap.size + 1, 1, none⟩ = some (.int .u32 y1) := by unfold World.cell?; rw [hy]; rfl
      have HB := Lib.hid hB; have Hs := Lib.hid hs; have Hy := Lib.hid hy; have Hfk := Lib.hid hfk
      clear hB hs hy hfk
      go_wp2_with fail
      refine (rvalue_any a cap L (a1, i1) (H.out.below HB.out) Hs1.out).mono ?_
      rintro e w2 ⟨rfl, hB2⟩
      obtain ⟨v, hv⟩ : ∃ v, plVal L (a1, i1) = v := ⟨_, rfl⟩
      rw [hv]
      have cy2 := cell_later hB2 cy
      have HB2 := Lib.hid (HB.out.trans (hB2.mono HB.out.size))
      have Hs2 := Lib.hid ((hB2.block _ (Array.getElem?_eq_some_iff.1 Hs.out).1).trans Hs.out)
      have Hy2 := Lib.hid ((hB2.block _ (Array.getElem?_eq_some_iff.1 Hy.out).1).trans Hy.out)
      have Hv := Lib.hid hv
      clear hB2 hv cp0 cp1 cy
      by_cases h0 : v = 0
      · have hd : (v != 0) = false := by simpa using h0
        go_wp2_with fail
        exact ⟨⟨2, by omega, rfl, HB2.out, Hs2.out, Hy2.out, fun j hj => by
          by_cases hjk : j = 1
          · subst hjk; exact .inl (Hv.out.trans h0)
          · exact Hfk.out j (by omega)⟩, by simp [intOf]⟩
      · have hd : (v != 0) = true := by simpa using h0
        by_cases h1 : v = y1
        · have hd2 : (v != y1) = false := by simpa using h1
          go_wp2_with fail
          exact ⟨⟨2, by omega, rfl, HB2.out, Hs2.out, Hy2.out, fun j hj => by
            by_cases hjk : j = 1
            · subst hjk; exact .inr (Hv.out.trans h1)
            · exact Hfk.out j (by omega)⟩, by simp [intOf]⟩
        · have hd2 : (v != y1) = true := by simpa using h1
          go_wp2_with fail
          go_ret
          refine ⟨?_, HB2.out⟩
          have hne : fits (lookP L ⟨kk, (a0, i0), (a1, i1), (a2, i2), (sa, sai), (sb, sbi)⟩) (y0, y1, y2) = false := by
            cases hf : fits (lookP L ⟨kk, (a0, i0), (a1, i1), (a2, i2), (sa, sai), (sb, sbi)⟩) (y0, y1, y2) with
            | false => rfl
            | true =>
              exfalso
              have hvv := Hv.out
              simp only [fits, lookP, Bool.and_eq_true, Bool.or_eq_true, beq_iff_eq, hvv] at hf
              obtain ⟨⟨f0, f1⟩, f2⟩ := hf
              rcases f1 with h | h
              · exact h0 h
              · exact h1 h
          rw [hne]; rfl
    · have cp : wr.cell? ⟨w.heap.size, 5, none⟩ = some (.int .i64 a2) ∧ wr.cell? ⟨w.heap.size, 6, none⟩ = some (.int .u32 i2) := by unfold World.cell?; rw [hs]; exact ⟨rfl, rfl⟩
      obtain ⟨cp0, cp1⟩ := cp
      have cy : wr.cell? ⟨w.heap.size + 1, 2, none⟩ = some (.int .u32 y2) := by unfold World.cell?; rw [hy]; rfl
      have HB := Lib.hid hB; have Hs := Lib.hid hs; have Hy := Lib.hid hy; have Hfk := Lib.hid hfk
      clear hB hs hy hfk
      go_wp2_with fail
      refine (rvalue_any a cap L (a2, i2) (H.out.below HB.out) Hs2.out).mono ?_
      rintro e w2 ⟨rfl, hB2⟩
      obtain ⟨v, hv⟩ : ∃ v, plVal L (a2, i2) = v := ⟨_, rfl⟩
      rw [hv]
      have cy2 := cell_later hB2 cy
      have HB2 := Lib.hid (HB.out.trans (hB2.mono HB.out.size))
      have Hs2 := Lib.hid ((hB2.block _ (Array.getElem?_eq_some_iff.1 Hs.out).1).trans Hs.out)
      have Hy2 := Lib.hid ((hB2.block _ (Array.getElem?_eq_some_iff.1 Hy.out).1).trans Hy.out)
      have Hv := Lib.hid hv
      clear hB2 hv cp0 cp1 cy
      by_cases h0 : v = 0
      · have hd : (v != 0) = false := by simpa using h0
        go_wp2_with fail
        exact ⟨⟨3, by omega, rfl, HB2.out, Hs2.out, Hy2.out, fun j hj => by
          by_cases hjk : j = 2
          · subst hjk; exact .inl (Hv.out.trans h0)
          · exact Hfk.out j (by omega)⟩, by simp [intOf]⟩
      · have hd : (v != 0) = true := by simpa using h0
        by_cases h1 : v = y2
        · have hd2 : (v != y2) = false := by simpa using h1
          go_wp2_with fail
          exact ⟨⟨3, by omega, rfl, HB2.out, Hs2.out, Hy2.out, fun j hj => by
            by_cases hjk : j = 2
            · subst hjk; exact .inr (Hv.out.trans h1)
            · exact Hfk.out j (by omega)⟩, by simp [intOf]⟩
        · have hd2 : (v != y2) = true := by simpa using h1
          go_wp2_with fail
          go_ret
          refine ⟨?_, HB2.out⟩
          have hne : fits (lookP L ⟨kk, (a0, i0), (a1, i1), (a2, i2), (sa, sai), (sb, sbi)⟩) (y0, y1, y2) = false := by
            cases hf : fits (lookP L ⟨kk, (a0, i0), (a1, i1), (a2, i2), (sa, sai), (sb, sbi)⟩) (y0, y1, y2) with
            | false => rfl
            | true =>
              exfalso
              have hvv := Hv.out
              simp only [fits, lookP, Bool.and_eq_true, Bool.or_eq_true, beq_iff_eq, hvv] at hf
              obtain ⟨⟨f0, f1⟩, f2⟩ := hf
              rcases f2 with h | h
              · exact h0 h
              · exact h1 h
          rw [hne]; rfl
    · have HB := Lib.hid hB; have Hfk := Lib.hid hfk
      clear hB hs hy hfk
      go_wp2_with fail
      go_ret
      refine ⟨?_, HB.out⟩
      have h0 := Hfk.out 0 (by omega); have h1 := Hfk.out 1 (by omega); have h2 := Hfk.out 2 (by omega)
      simp only [R3.at, lookP] at h0 h1 h2
      have : fits (lookP L ⟨kk, (a0, i0), (a1, i1), (a2, i2), (sa, sai), (sb, sbi)⟩) (y0, y1, y2) = true := by
        simp only [fits, lookP, Bool.and_eq_true, Bool.or_eq_true, beq_iff_eq]
        simpa using ⟨⟨h0, h1⟩, h2⟩
      rw [this]; rfl
end
end Go.Proofs.Ytkgkkbfpkgfcaaa

namespace Go.Proofs.Ytkgkkbfpkgfcaaa
set_option maxRecDepth 100000
open Go.RowKit Go.Maps
set_option linter.unusedVariables false
set_option linter.unusedSimpArgs false

section
variable {w : World}
set_option maxRecDepth 100000 in
set_option maxHeartbeats 2000000 in
theorem equal_any (a a' : Option Addr) (cap cap' : Nat) (L L' : List Int) (h : IsU w a L) (h' : IsU w a' L') (hl : L.length ≤ 1000000) :
    Calls Try.prog 12 #[.slice a L.length cap, .slice a' L'.length cap'] w fun e w' => e = .returned (.bool (decide (L = L'))) ∧ Below w.heap.size w w' := by
  have H := Lib.hid h; have H' := Lib.hid h'
  obtain ⟨l, hll⟩ : ∃ l, L.length = l := ⟨_, rfl⟩
  obtain ⟨l', hll'⟩ : ∃ l, L'.length = l := ⟨_, rfl⟩
  have Hl := Lib.hid hll; have Hl' := Lib.hid hll'
  rw [hll] at hl
  rw [hll, hll']
  clear h h' hll hll'
  go_enter Try.func12, Try.ntmps12
  by_cases hne : l = l'
  · subst hne
    have hd : ((l : Int) != (l : Int)) = false := by simp
    go_wp2_with fail
    go_loopw [5] (fun u wr => ∃ k : Nat, k ≤ l ∧ u = .int .i64 k ∧ Below w.heap.size w wr ∧ ∀ j (h1 : j < L.length) (h2 : j < L'.length), j < k → L[j] = L'[j]) (fun u _ => l - (intOf u).toNat)
    case atStart => exact ⟨0, by omega, rfl, Below.refl _ _, fun j _ _ h => by omega⟩
    case round =>
      obtain ⟨k, hk, rfl, hB, hkk⟩ := hrel
      have HB := Lib.hid hB; have Hkk := Lib.hid hkk
      clear hB hkk
      by_cases hkl : k < l
      · have hd2 : decide ((k : Int) < (l : Int)) = true := by simp; omega
        obtain ⟨b, off, rfl, _, c⟩ := H.out.below HB.out k (by have := Hl.out; omega)
        obtain ⟨b', off', rfl, _, c'⟩ := H'.out.below HB.out k (by have := Hl'.out; omega)
        obtain ⟨x, hx⟩ : ∃ x, L[k]'(by have := Hl.out; omega) = x := ⟨_, rfl⟩
        obtain ⟨x', hx'⟩ : ∃ x, L'[k]'(by have := Hl'.out; omega) = x := ⟨_, rfl⟩
        rw [hx] at c
        rw [hx'] at c'
        have Hx := Lib.hid hx; have Hx' := Lib.hid hx'
        clear hx hx'
        go_wp2_with fail
        have c : wr.drew.cell? ⟨b, off + k, none⟩ = _ := c
        have c' : wr.drew.cell? ⟨b', off' + k, none⟩ = _ := c'
        have HBd := Lib.hid (HB.out.trans ((Below.refl wr.heap.size wr).drew.mono HB.out.size))
        obtain ⟨bb, hbb⟩ : ∃ bb, (x != x') = bb := ⟨_, rfl⟩
        obtain ⟨S6, hSe⟩ : ∃ S : Array Bool → World → Prop, S = fun _ w' => w' = wr.drew := ⟨_, rfl⟩
        have hdrop : ∀ i : Nat, i ≠ 1000 → ∀ L w', S6 (L.setIfInBounds i true) w' → S6 L w' := by
          intro i _ L w' h; rw [hSe] at h ⊢; exact h
        have hS : ∀ L, S6 L wr.drew := by intro L; rw [hSe]
        have hSo : ∀ {L w'}, S6 L w' → w' = wr.drew := by intro L w' h; rw [hSe] at h; exact h
        clear hSe
        refine wp_region_LN S6 9 #[false, false, false, false, false, false, false, false, false] (by kernel_rfl) (by kernel_rfl) rfl ?_
        generalize wr.drew = wd at *
        refine WA.take (i := 0) (v := .slice (some ⟨b, off, none⟩) l cap) rfl (by kernel_rfl) (by kernel_rfl) (by kernel_rfl) (fun _ _ _ h => h) (hdrop 0 (by decide)) (Or.inl ⟨by rfl, ?_⟩) (hS _) ?_
        · rintro w' ⟨L, hL, hSw, hun⟩
          go_simp
        simp only [List.getElem_toArray, List.getElem_cons_zero, List.getElem_cons_succ, Act.put, List.setIfInBounds_toArray, List.set_cons_zero, List.set_cons_succ]
        refine WA.take (i := 1) (v := .int .i64 (k : Int)) rfl (by kernel_rfl) (by kernel_rfl) (by kernel_rfl) (fun _ _ _ h => h) (hdrop 1 (by decide)) (Or.inl ⟨by rfl, ?_⟩) (hS _) ?_
        · rintro w' ⟨L, hL, hSw, hun⟩
          go_simp
        simp only [List.getElem_toArray, List.getElem_cons_zero, List.getElem_cons_succ, Act.put, List.setIfInBounds_toArray, List.set_cons_zero, List.set_cons_succ]
        refine WA.take (i := 2) (v := .pointer (some ⟨b, off + k, none⟩)) rfl (by kernel_rfl) (by kernel_rfl) (by kernel_rfl) (fun _ _ _ h => h) (hdrop 2 (by decide)) (Or.inl ⟨by rfl, ?_⟩) (hS _) ?_
        · rintro w' ⟨L, hL, hSw, hun⟩
          go_simp
        simp only [List.getElem_toArray, List.getElem_cons_zero, List.getElem_cons_succ, Act.put, List.setIfInBounds_toArray, List.set_cons_zero, List.set_cons_succ]
        refine WA.take (i := 3) (v := .int .u32 x) rfl (by kernel_rfl) (by kernel_rfl) (by kernel_rfl) (fun _ _ _ h => h) (hdrop 3 (by decide)) (Or.inl ⟨by rfl, ?_⟩) (hS _) ?_
        · rintro w' ⟨L, hL, hSw, hun⟩
          obtain rfl := hSo hSw 
          go_simp
        simp only [List.getElem_toArray, List.getElem_cons_zero, List.getElem_cons_succ, Act.put, List.setIfInBounds_toArray, List.set_cons_zero, List.set_cons_succ]
        refine WA.take (i := 4) (v := .slice (some ⟨b', off', none⟩) l cap') rfl (by kernel_rfl) (by kernel_rfl) (by kernel_rfl) (fun _ _ _ h => h) (hdrop 4 (by decide)) (Or.inl ⟨by rfl, ?_⟩) (hS _) ?_
        · rintro w' ⟨L, hL, hSw, hun⟩
          go_simp
        simp only [List.getElem_toArray, List.getElem_cons_zero, List.getElem_cons_succ, Act.put, List.setIfInBounds_toArray, List.set_cons_zero, List.set_cons_succ]
        refine WA.take (i := 5) (v := .int .i64 (k : Int)) rfl (by kernel_rfl) (by kernel_rfl) (by kernel_rfl) (fun _ _ _ h => h) (hdrop 5 (by decide)) (Or.inl ⟨by rfl, ?_⟩) (hS _) ?_
        · rintro w' ⟨L, hL, hSw, hun⟩
          go_simp
        simp only [List.getElem_toArray, List.getElem_cons_zero, List.getElem_cons_succ, Act.put, List.setIfInBounds_toArray, List.set_cons_zero, List.set_cons_succ]
        refine WA.take (i := 6) (v := .pointer (some ⟨b', off' + k, none⟩)) rfl (by kernel_rfl) (by kernel_rfl) (by kernel_rfl) (fun _ _ _ h => h) (hdrop 6 (by decide)) (Or.inl ⟨by rfl, ?_⟩) (hS _) ?_
        · rintro w' ⟨L, hL, hSw, hun⟩
          go_simp
        simp only [List.getElem_toArray, List.getElem_cons_zero, List.getElem_cons_succ, Act.put, List.setIfInBounds_toArray, List.set_cons_zero, List.set_cons_succ]
        refine WA.take (i := 7) (v := .int .u32 x') rfl (by kernel_rfl) (by kernel_rfl) (by kernel_rfl) (fun _ _ _ h => h) (hdrop 7 (by decide)) (Or.inl ⟨by rfl, ?_⟩) (hS _) ?_
        · rintro w' ⟨L, hL, hSw, hun⟩
          obtain rfl := hSo hSw 
          go_simp
        simp only [List.getElem_toArray, List.getElem_cons_zero, List.getElem_cons_succ, Act.put, List.setIfInBounds_toArray, List.set_cons_zero, List.set_cons_succ]
        refine WA.take (i := 8) (v := .bool bb) rfl (by kernel_rfl) (by kernel_rfl) (by kernel_rfl) (fun _ _ _ h => h) (hdrop 8 (by decide)) (Or.inl ⟨by rfl, ?_⟩) (hS _) ?_
        · rintro w' ⟨L, hL, hSw, hun⟩
          go_simp
        simp only [List.getElem_toArray, List.getElem_cons_zero, List.getElem_cons_succ, Act.put, List.setIfInBounds_toArray, List.set_cons_zero, List.set_cons_succ]
        refine WA.done (by kernel_rfl) ?_ _
        refine Nrm.normal ?_
        cases bb with
        | true =>
          go_wp2_with fail
          go_ret
          refine ⟨?_, HBd.out⟩
          rw [show decide (L = L') = false by
            rw [decide_eq_false_iff_not]
            intro e
            subst e
            rw [Hx.out] at Hx'
            simp [Hx'.out] at hbb]
          rfl
        | false =>
          go_wp2_with fail
          exact ⟨⟨k + 1, by omega, by push_cast; rfl, HBd.out, fun j h1 h2 hjk => by
            by_cases hj : j = k
            · subst hj
              rw [Hx.out, Hx'.out]
              simpa using hbb
            · exact Hkk.out j h1 h2 (by omega)⟩, by simp [intOf]; omega⟩
      · have hkl' : k = l := by omega
        subst hkl'
        have hd2 : decide ((k : Int) < (k : Int)) = false := by simp
        go_wp2_with fail
        go_ret
        refine ⟨?_, HB.out⟩
        rw [show decide (L = L') = true by
          rw [decide_eq_true_eq]
          exact List.ext_getElem (by rw [Hl.out, Hl'.out]) (fun j h1 h2 => Hkk.out j h1 h2 (by have := Hl.out; omega))]
        rfl
  · have hd : ((l : Int) != (l' : Int)) = true := by simp; omega
    go_wp2_with fail
    go_ret
    refine ⟨?_, Below.refl _ _⟩
    rw [show decide (L = L') = false by
      rw [decide_eq_false_iff_not]
      intro e
      exact hne (by rw [← Hl.out, ← Hl'.out, e])]
    rfl
-- PRINTED by gen_J2.py
/-- the walk's struct lies at wb: its values are L, in block vb -/
structure WkV (w : World) (wb vb : Nat) (L : List Int) : Prop where
  c : w.cell? ⟨wb, 10, none⟩ = some (.slice (some ⟨vb, 0, none⟩) L.length L.length)
  v : ∀ k (h : k < L.length), w.cell? ⟨vb, k, none⟩ = some (.int .u32 L[k])
  lb : wb < w.heap.size ∧ vb < w.heap.size
theorem WkV.below {w w' : World} {wb vb : Nat} {L : List Int} (h : WkV w wb vb L) (hb : Below w.heap.size w w') : WkV w' wb vb L :=
  ⟨cell_later hb h.c, fun k hk => cell_later hb (h.v k hk), by have := h.lb; have := hb.size; omega⟩
set_option maxRecDepth 100000 in
set_option maxHeartbeats 2000000 in
theorem jvalue_any {wb vb : Nat} {L : List Int} (h : WkV w wb vb L) (hlen : L.length ≤ 1000000) (x : Pl) (hx : x.1 < L.length) :
    Calls Try.prog 41 #[.pointer (some ⟨wb, 0, none⟩), plv x] w fun e w' => e = .returned (.int .u32 (plVal L x)) ∧ Below w.heap.size w w' := by
  obtain ⟨v, i⟩ := x
  have H := Lib.hid h
  obtain ⟨l, hl⟩ : ∃ l, L.length = l := ⟨_, rfl⟩
  have Hl := Lib.hid hl
  simp only [plv] at hx ⊢
  rw [hl] at hx hlen
  clear h hl
  have hbA : Below w.heap.size w (w.alloc (.cells #[.int .i64 v, .int .u32 i] 25)) := (Below.refl _ w).alloc (Nat.le_refl _) _
  have hbx := World.alloc_heap_new w (.cells #[.int .i64 v, .int .u32 i] 25)
  have HbA := Lib.hid hbA; have Hbx := Lib.hid hbx
  clear hbA hbx
  go_enter Try.func41, Try.ntmps41
  by_cases hv : v < 0
  · have hd : decide (v < 0) = true := by simpa using hv
    go_wp2_with fail
    go_ret
    refine ⟨?_, HbA.out⟩
    simp [plVal, hv]
  · have hd : decide (v < 0) = false := by simpa using hv
    obtain ⟨k, rfl⟩ : ∃ k : Nat, v = k := ⟨v.toNat, by omega⟩
    have hkl : k < l := by omega
    have hp := plVal_in (L := L) (x := ((k : Int), i)) rfl (by have := Hl.out; omega)
    have c10 := (H.out.below HbA.out).c
    have cv := (H.out.below HbA.out).v k (by have := Hl.out; omega)
    obtain ⟨u, hu⟩ : ∃ u, L[k]'(by have := Hl.out; omega) = u := ⟨_, rfl⟩
    rw [hu] at cv hp
    rw [Hl.out] at c10
    have cb : (w.alloc (.cells #[.int .i64 (k : Int), .int .u32 i] 25)).cell? ⟨w.heap.size, 0, none⟩ = some (.int .i64 (k : Int)) := by unfold World.cell?; rw [Hbx.out]; rfl
    have Hp := Lib.hid hp
    clear hp hu hx
    go_wp2_with fail
    generalize hW : w.alloc (.cells #[.int .i64 (k : Int), .int .u32 i] 25) = W at *
    clear hW
    have c10 : W.drew.cell? ⟨wb, 10, none⟩ = _ := c10
    have cv : W.drew.cell? ⟨vb, k, none⟩ = _ := cv
    have cb : W.drew.cell? ⟨w.heap.size, 0, none⟩ = _ := cb
    have HBd := Lib.hid HbA.out.drew
    obtain ⟨S3, hSe⟩ : ∃ S : Array Bool → World → Prop, S = fun _ w' => w' = W.drew := ⟨_, rfl⟩
    have hdrop : ∀ i : Nat, i ≠ 1000 → ∀ L w', S3 (L.setIfInBounds i true) w' → S3 L w' := by
      intro i _ L w' h; rw [hSe] at h ⊢; exact h
    have hS : ∀ L, S3 L W.drew := by intro L; rw [hSe]
    have hSo : ∀ {L w'}, S3 L w' → w' = W.drew := by intro L w' h; rw [hSe] at h; exact h
    clear hSe
    refine wp_region_LN S3 9 #[false, false, false, false, false, false, false, false, false] (by kernel_rfl) (by kernel_rfl) rfl ?_
    generalize W.drew = wd at *
    refine WA.take (i := 0) (v := .pointer (some ⟨wb, 0, none⟩)) rfl (by kernel_rfl) (by kernel_rfl) (by kernel_rfl) (fun _ _ _ h => h) (hdrop 0 (by decide)) (Or.inl ⟨by rfl, ?_⟩) (hS _) ?_
    · rintro w' ⟨L, hL, hSw, hun⟩
      go_simp
    simp only [List.getElem_toArray, List.getElem_cons_zero, List.getElem_cons_succ, Act.put, List.setIfInBounds_toArray, List.set_cons_zero, List.set_cons_succ]
    refine WA.take (i := 1) (v := .pointer (some ⟨wb, 0, none⟩)) rfl (by kernel_rfl) (by kernel_rfl) (by kernel_rfl) (fun _ _ _ h => h) (hdrop 1 (by decide)) (Or.inl ⟨by rfl, ?_⟩) (hS _) ?_
    · rintro w' ⟨L, hL, hSw, hun⟩
      go_simp
    simp only [List.getElem_toArray, List.getElem_cons_zero, List.getElem_cons_succ, Act.put, List.setIfInBounds_toArray, List.set_cons_zero, List.set_cons_succ]
    refine WA.take (i := 2) (v := .pointer (some ⟨wb, 10, none⟩)) rfl (by kernel_rfl) (by kernel_rfl) (by kernel_rfl) (fun _ _ _ h => h) (hdrop 2 (by decide)) (Or.inl ⟨by rfl, ?_⟩) (hS _) ?_
    · rintro w' ⟨L, hL, hSw, hun⟩
      go_simp
    simp only [List.getElem_toArray, List.getElem_cons_zero, List.getElem_cons_succ, Act.put, List.setIfInBounds_toArray, List.set_cons_zero, List.set_cons_succ]
    refine WA.take (i := 3) (v := .slice (some ⟨vb, 0, none⟩) l l) rfl (by kernel_rfl) (by kernel_rfl) (by kernel_rfl) (fun _ _ _ h => h) (hdrop 3 (by decide)) (Or.inl ⟨by rfl, ?_⟩) (hS _) ?_
    · rintro w' ⟨L, hL, hSw, hun⟩
      obtain rfl := hSo hSw 
      go_simp
    simp only [List.getElem_toArray, List.getElem_cons_zero, List.getElem_cons_succ, Act.put, List.setIfInBounds_toArray, List.set_cons_zero, List.set_cons_succ]
    refine WA.take (i := 4) (v := .pointer (some ⟨w.heap.size, 0, none⟩)) rfl (by kernel_rfl) (by kernel_rfl) (by kernel_rfl) (fun _ _ _ h => h) (hdrop 4 (by decide)) (Or.inl ⟨by rfl, ?_⟩) (hS _) ?_
    · rintro w' ⟨L, hL, hSw, hun⟩
      go_simp
    simp only [List.getElem_toArray, List.getElem_cons_zero, List.getElem_cons_succ, Act.put, List.setIfInBounds_toArray, List.set_cons_zero, List.set_cons_succ]
    refine WA.take (i := 5) (v := .int .i64 (k : Int)) rfl (by kernel_rfl) (by kernel_rfl) (by kernel_rfl) (fun _ _ _ h => h) (hdrop 5 (by decide)) (Or.inl ⟨by rfl, ?_⟩) (hS _) ?_
    · rintro w' ⟨L, hL, hSw, hun⟩
      obtain rfl := hSo hSw 
      go_simp
    simp only [List.getElem_toArray, List.getElem_cons_zero, List.getElem_cons_succ, Act.put, List.setIfInBounds_toArray, List.set_cons_zero, List.set_cons_succ]
    refine WA.take (i := 6) (v := .pointer (some ⟨vb, k, none⟩)) rfl (by kernel_rfl) (by kernel_rfl) (by kernel_rfl) (fun _ _ _ h => h) (hdrop 6 (by decide)) (Or.inl ⟨by rfl, ?_⟩) (hS _) ?_
    · rintro w' ⟨L, hL, hSw, hun⟩
      go_simp
    simp only [List.getElem_toArray, List.getElem_cons_zero, List.getElem_cons_succ, Act.put, List.setIfInBounds_toArray, List.set_cons_zero, List.set_cons_succ]
    refine WA.take (i := 7) (v := .int .u32 u) rfl (by kernel_rfl) (by kernel_rfl) (by kernel_rfl) (fun _ _ _ h => h) (hdrop 7 (by decide)) (Or.inl ⟨by rfl, ?_⟩) (hS _) ?_
    · rintro w' ⟨L, hL, hSw, hun⟩
      obtain rfl := hSo hSw 
      go_simp
    simp only [List.getElem_toArray, List.getElem_cons_zero, List.getElem_cons_succ, Act.put, List.setIfInBounds_toArray, List.set_cons_zero, List.set_cons_succ]
    refine WA.take (i := 8) (v := .int .u32 u) rfl (by kernel_rfl) (by kernel_rfl) (by kernel_rfl) (fun _ _ _ h => h) (hdrop 8 (by decide)) (Or.inl ⟨by rfl, ?_⟩) (hS _) ?_
    · rintro w' ⟨L, hL, hSw, hun⟩
      go_simp
    simp only [List.getElem_toArray, List.getElem_cons_zero, List.getElem_cons_succ, Act.put, List.setIfInBounds_toArray, List.set_cons_zero, List.set_cons_succ]
    refine WA.done (by kernel_rfl) ?_ _
    refine Nrm.normal ?_
    go_wp2_with fail
    go_ret
    exact ⟨by rw [Hp.out]; rfl, HBd.out⟩
end
end Go.Proofs.Ytkgkkbfpkgfcaaa

namespace Go.Proofs.Ytkgkkbfpkgfcaaa
set_option maxRecDepth 100000
open Go.RowKit Go.Maps
set_option linter.unusedVariables false
set_option linter.unusedSimpArgs false

section
variable {w : World}
def lkC (x0 x1 x2 : Int) (k : Nat) : Array Value := #[.int .u32 (if 0 < k then x0 else 0), .int .u32 (if 1 < k then x1 else 0), .int .u32 (if 2 < k then x2 else 0)]
theorem lkC_step (x0 x1 x2 : Int) (k : Nat) (hk : k < 3) : (lkC x0 x1 x2 k).setIfInBounds k (.int .u32 (R3.at (x0, x1, x2) k)) = lkC x0 x1 x2 (k + 1) := by
  have : k = 0 ∨ k = 1 ∨ k = 2 := by omega
  rcases this with rfl | rfl | rfl <;> simp [lkC, R3.at]
theorem blk_set {W : World} {b : Nat} {cur : Array Value} {e : TypeId} (h : W.heap[b]? = some (.cells cur e (0, 0))) (j : Nat) (u : Value) : (W.setCell ⟨b, j, none⟩ u).heap[b]? = some (.cells (cur.setIfInBounds j u) e (0, 0)) := by
  obtain ⟨hlt, hk⟩ := Array.getElem?_eq_some_iff.1 h
  show (W.heap.modify b _)[b]? = _
  rw [Array.getElem?_eq_getElem (by rw [Array.size_modify]; exact hlt), Array.getElem_modify_self, hk]
  rfl
theorem Try.infoPl : (Try.prog.info? 25).map (fun i => (i.zero, i.size, i.bytes)) = some (some (.agg #[.int .i64 0, .int .u32 0]), 2, 16) := by kernel_rfl
set_option maxRecDepth 100000 in
theorem idx_pl (a0 i0 a1 i1 a2 i2 : Int) (w : World) :
    (Instr.index 26 (.agg #[.int .i64 a0, .int .u32 i0, .int .i64 a1, .int .u32 i1, .int .i64 a2, .int .u32 i2]) (.int .i64 0)).run Try.prog w = .ok (.agg #[.int .i64 a0, .int .u32 i0]) w ∧
    (Instr.index 26 (.agg #[.int .i64 a0, .int .u32 i0, .int .i64 a1, .int .u32 i1, .int .i64 a2, .int .u32 i2]) (.int .i64 1)).run Try.prog w = .ok (.agg #[.int .i64 a1, .int .u32 i1]) w ∧
    (Instr.index 26 (.agg #[.int .i64 a0, .int .u32 i0, .int .i64 a1, .int .u32 i1, .int .i64 a2, .int .u32 i2]) (.int .i64 2)).run Try.prog w = .ok (.agg #[.int .i64 a2, .int .u32 i2]) w := by
  refine ⟨rfl, rfl, rfl⟩
set_option maxRecDepth 100000 in
set_option maxHeartbeats 4000000 in
theorem look_any {wb vb : Nat} {L : List Int} (h : WkV w wb vb L) (hlen : L.length ≤ 1000000) (s : StepT) (hs : s.r0.1 < L.length ∧ s.r1.1 < L.length ∧ s.r2.1 < L.length) :
    Calls Try.prog 40 #[.pointer (some ⟨wb, 0, none⟩), .agg #[.int .i64 s.r0.1, .int .u32 s.r0.2, .int .i64 s.r1.1, .int .u32 s.r1.2, .int .i64 s.r2.1, .int .u32 s.r2.2]] w fun e w' => e = .returned (rv (lookP L s)) ∧ Below w.heap.size w w' := by
  obtain ⟨kk, ⟨a0, i0⟩, ⟨a1, i1⟩, ⟨a2, i2⟩, sa, sb⟩ := s
  have H := Lib.hid h
  have Hs0 := Lib.hid hs.1; have Hs1 := Lib.hid hs.2.1; have Hs2 := Lib.hid hs.2.2
  simp only [rv, lookP]
  obtain ⟨x0, hx0⟩ : ∃ x, plVal L (a0, i0) = x := ⟨_, rfl⟩
  obtain ⟨x1, hx1⟩ : ∃ x, plVal L (a1, i1) = x := ⟨_, rfl⟩
  obtain ⟨x2, hx2⟩ : ∃ x, plVal L (a2, i2) = x := ⟨_, rfl⟩
  rw [hx0, hx1, hx2]
  have Hx0 := Lib.hid hx0; have Hx1 := Lib.hid hx1; have Hx2 := Lib.hid hx2
  clear h hs hx0 hx1 hx2
  obtain ⟨hB0, hz0, hs0, hy0⟩ := two_blocks w (.cells #[.int .i64 a0, .int .u32 i0, .int .i64 a1, .int .u32 i1, .int .i64 a2, .int .u32 i2] 26) (.cells #[.int .u32 0, .int .u32 0, .int .u32 0] 58) _ rfl
  have HB0 := Lib.hid hB0; have HY0 := Lib.hid hy0; have Hs00 := Lib.hid hs0; have Hz0 := Lib.hid hz0
  clear hB0 hz0 hs0 hy0
  go_enter Try.func40, Try.ntmps40
  go_wp2_with fail
  go_loopw [8] (fun u wr => ∃ k : Nat, k ≤ 3 ∧ u = .int .i64 k ∧ Below w.heap.size w wr ∧ wr.heap[w.heap.size + 1]? = some (.cells (lkC x0 x1 x2 k) 58 (0, 0))) (fun u _ => 3 - (intOf u).toNat)
  case atStart => exact ⟨0, by omega, rfl, HB0.out, HY0.out⟩
  case round =>
    obtain ⟨k, hk, rfl, hB, hy⟩ := hrel
    have hkk : k = 0 ∨ k = 1 ∨ k = 2 ∨ k = 3 := by omega
    rcases hkk with rfl | rfl | rfl | rfl
    · have HB := Lib.hid hB; have Hy := Lib.hid hy
      clear hB hy
      have hix := (idx_pl a0 i0 a1 i1 a2 i2 wr).1
      go_wp2_with fail
      obtain ⟨W, hW⟩ : ∃ W, W = wr.alloc (.cells #[.int .i64 a0, .int .u32 i0] 25) := ⟨_, rfl⟩
      have hbW : Below wr.heap.size wr W := by rw [hW]; exact (Below.refl _ _).alloc (Nat.le_refl _) _
      rw [← hW]
      have HBW := Lib.hid (HB.out.trans (hbW.mono HB.out.size))
      have HyW := Lib.hid ((hbW.block _ (Array.getElem?_eq_some_iff.1 Hy.out).1).trans Hy.out)
      clear hW hbW
      refine (jvalue_any (H.out.below HBW.out) hlen (a0, i0) Hs0.out).mono ?_
      rintro e w2 ⟨rfl, hB2⟩
      rw [Hx0.out]
      have hy2 := (hB2.block _ (Array.getElem?_eq_some_iff.1 HyW.out).1).trans HyW.out
      have HB2 := Lib.hid (HBW.out.trans (hB2.mono HBW.out.size))
      obtain ⟨co, fo⟩ : (w2.cell? ⟨w.heap.size + 1, 0, none⟩ = some (.int .u32 0)) ∧ w2.frozen? ⟨w.heap.size + 1, 0, none⟩ = false := by unfold World.cell? World.frozen?; rw [hy2]; exact ⟨rfl, by simp⟩
      have hst := blk_set hy2 0 (.int .u32 x0)
      rw [show (.int .u32 x0 : Value) = .int .u32 (R3.at (x0, x1, x2) 0) from rfl, lkC_step _ _ _ _ (by omega)] at hst
      have Hst := Lib.hid hst
      clear hB2 hy2 hst
      go_wp2_with fail
      exact ⟨⟨1, by omega, rfl, HB2.out.setCell (p := ⟨w.heap.size + 1, 0, none⟩) (by simp) _, Hst.out⟩, by simp [intOf]⟩
    · have HB := Lib.hid hB; have Hy := Lib.hid hy
      clear hB hy
      have hix := (idx_pl a0 i0 a1 i1 a2 i2 wr).2.1
      go_wp2_with fail
      obtain ⟨W, hW⟩ : ∃ W, W = wr.alloc (.cells #[.int .i64 a1, .int .u32 i1] 25) := ⟨_, rfl⟩
      have hbW : Below wr.heap.size wr W := by rw [hW]; exact (Below.refl _ _).alloc (Nat.le_refl _) _
      rw [← hW]
      have HBW := Lib.hid (HB.out.trans (hbW.mono HB.out.size))
      have HyW := Lib.hid ((hbW.block _ (Array.getElem?_eq_some_iff.1 Hy.out).1).trans Hy.out)
      clear hW hbW
      refine (jvalue_any (H.out.below HBW.out) hlen (a1, i1) Hs1.out).mono ?_
      rintro e w2 ⟨rfl, hB2⟩
      rw [Hx1.out]
      have hy2 := (hB2.block _ (Array.getElem?_eq_some_iff.1 HyW.out).1).trans HyW.out
      have HB2 := Lib.hid (HBW.out.trans (hB2.mono HBW.out.size))
      obtain ⟨co, fo⟩ : (w2.cell? ⟨w.heap.size + 1, 1, none⟩ = some (.int .u32 0)) ∧ w2.frozen? ⟨w.heap.size + 1, 1, none⟩ = false := by unfold World.cell? World.frozen?; rw [hy2]; exact ⟨rfl, by simp⟩
      have hst := blk_set hy2 1 (.int .u32 x1)
      rw [show (.int .u32 x1 : Value) = .int .u32 (R3.at (x0, x1, x2) 1) from rfl, lkC_step _ _ _ _ (by omega)] at hst
      have Hst := Lib.hid hst
      clear hB2 hy2 hst
      go_wp2_with fail
      exact ⟨⟨2, by omega, rfl, HB2.out.setCell (p := ⟨w.heap.size + 1, 1, none⟩) (by simp) _, Hst.out⟩, by simp [intOf]⟩
    · have HB := Lib.hid hB; have Hy := Lib.hid hy
      clear hB hy
      have hix := (idx_pl a0 i0 a1 i1 a2 i2 wr).2.2
      go_wp2_with fail
      obtain ⟨W, hW⟩ : ∃ W, W = wr.alloc (.cells #[.int .i64 a2, .int .u32 i2] 25) := ⟨_, rfl⟩
      have hbW : Below wr.heap.size wr W := by rw [hW]; exact (Below.refl _ _).alloc (Nat.le_refl _) _
      rw [← hW]
      have HBW := Lib.hid (HB.out.trans (hbW.mono HB.out.size))
      have HyW := Lib.hid ((hbW.block _ (Array.getElem?_eq_some_iff.1 Hy.out).1).trans Hy.out)
      clear hW hbW
      refine (jvalue_any (H.out.below HBW.out) hlen (a2, i2) Hs2.out).mono ?_
      rintro e w2 ⟨rfl, hB2⟩
      rw [Hx2.out]
      have hy2 := (hB2.block _ (Array.getElem?_eq_some_iff.1 HyW.out).1).trans HyW.out
      have HB2 := Lib.hid (HBW.out.trans (hB2.mono HBW.out.size))
      obtain ⟨co, fo⟩ : (w2.cell? ⟨w.heap.size + 1, 2, none⟩ = some (.int .u32 0)) ∧ w2.frozen? ⟨w.heap.size + 1, 2, none⟩ = false := by unfold World.cell? World.frozen?; rw [hy2]; exact ⟨rfl, by simp⟩
      have hst := blk_set hy2 2 (.int .u32 x2)
      rw [show (.int .u32 x2 : Value) = .int .u32 (R3.at (x0, x1, x2) 2) from rfl, lkC_step _ _ _ _ (by omega)] at hst
      have Hst := Lib.hid hst
      clear hB2 hy2 hst
      go_wp2_with fail
      exact ⟨⟨3, by omega, rfl, HB2.out.setCell (p := ⟨w.heap.size + 1, 2, none⟩) (by simp) _, Hst.out⟩, by simp [intOf]⟩
    · have HB := Lib.hid hB
      obtain ⟨e0, e1, e2⟩ : wr.cell? ⟨w.heap.size + 1, 0, none⟩ = some (.int .u32 x0) ∧ wr.cell? ⟨w.heap.size + 1, 1, none⟩ = some (.int .u32 x1) ∧ wr.cell? ⟨w.heap.size + 1, 2, none⟩ = some (.int .u32 x2) := by unfold World.cell?; rw [hy]; exact ⟨rfl, rfl, rfl⟩
      have ff : ∀ j, wr.frozen? ⟨w.heap.size + 1, j, none⟩ = false := fun j => by unfold World.frozen?; rw [hy]; simp
      have ff0 := ff 0; have ff1 := ff 1; have ff2 := ff 2
      have Hy := Lib.hid hy
      clear hB hy ff
      go_wp2_with fail
      have hyf := blk_set (blk_set (blk_set Hy.out 0 (.int .u32 x0)) 1 (.int .u32 x1)) 2 (.int .u32 x2)
      have hBf : Below w.heap.size w (((wr.setCell ⟨w.heap.size + 1, 0, none⟩ (.int .u32 x0)).setCell ⟨w.heap.size + 1, 1, none⟩ (.int .u32 x1)).setCell ⟨w.heap.size + 1, 2, none⟩ (.int .u32 x2)) := ((HB.out.setCell (p := ⟨w.heap.size + 1, 0, none⟩) (by simp) _).setCell (p := ⟨w.heap.size + 1, 1, none⟩) (by simp) _).setCell (p := ⟨w.heap.size + 1, 2, none⟩) (by simp) _
      generalize (((wr.setCell ⟨w.heap.size + 1, 0, none⟩ (.int .u32 x0)).setCell ⟨w.heap.size + 1, 1, none⟩ (.int .u32 x1)).setCell ⟨w.heap.size + 1, 2, none⟩ (.int .u32 x2)) = Wf at *
      obtain ⟨g0, g1, g2⟩ : Wf.cell? ⟨w.heap.size + 1, 0, none⟩ = some (.int .u32 x0) ∧ Wf.cell? ⟨w.heap.size + 1, 1, none⟩ = some (.int .u32 x1) ∧ Wf.cell? ⟨w.heap.size + 1, 2, none⟩ = some (.int .u32 x2) := by unfold World.cell?; rw [hyf]; exact ⟨rfl, rfl, rfl⟩
      refine ⟨rfl, rv (x0, x1, x2), ?_, rfl, hBf⟩
      have hres : Try.f40.results = #[.cell 4 58] := rfl
      simp only [results, hres, rv]
      go_simp
end
end Go.Proofs.Ytkgkkbfpkgfcaaa

namespace Go.Proofs.Ytkgkkbfpkgfcaaa
set_option maxRecDepth 100000
open Go.RowKit Go.Maps
set_option linter.unusedVariables false
set_option linter.unusedSimpArgs false

def uvs (L : List Int) : Array Value := (L.map (fun x : Int => Value.int .u32 x)).toArray
theorem uvs_set (L : List Int) (k : Nat) (x : Int) : (uvs L).setIfInBounds k (.int .u32 x) = uvs (L.set k x) := by
  simp [uvs, List.map_set]
/-- the walk's struct lies at wb; its values L are all of block vb -/
structure WkB (w : World) (wb vb : Nat) (L : List Int) : Prop where
  c : w.cell? ⟨wb, 10, none⟩ = some (.slice (some ⟨vb, 0, none⟩) L.length L.length)
  b : w.heap[vb]? = some (.cells (uvs L) 23 (0, 0))
  lw : wb < w.heap.size
  ne : wb ≠ vb
theorem WkB.lt {w : World} {wb vb : Nat} {L : List Int} (h : WkB w wb vb L) : vb < w.heap.size := (Array.getElem?_eq_some_iff.1 h.b).1
theorem WkB.v {w : World} {wb vb : Nat} {L : List Int} (h : WkB w wb vb L) (k : Nat) (hk : k < L.length) : w.cell? ⟨vb, k, none⟩ = some (.int .u32 L[k]) ∧ w.frozen? ⟨vb, k, none⟩ = false := by
  unfold World.cell? World.frozen?
  rw [h.b]
  simp [uvs, hk]
theorem WkB.toV {w : World} {wb vb : Nat} {L : List Int} (h : WkB w wb vb L) : WkV w wb vb L := ⟨h.c, fun k hk => (h.v k hk).1, h.lw, h.lt⟩
theorem WkB.below {w w' : World} {wb vb : Nat} {L : List Int} (h : WkB w wb vb L) (hb : Below w.heap.size w w') : WkB w' wb vb L :=
  ⟨cell_later hb h.c, (hb.block _ h.lt).trans h.b, Nat.lt_of_lt_of_le h.lw hb.size, h.ne⟩
theorem WkB.set {w : World} {wb vb : Nat} {L : List Int} (h : WkB w wb vb L) (k : Nat) (x : Int) : WkB (w.setCell ⟨vb, k, none⟩ (.int .u32 x)) wb vb (L.set k x) := by
  refine ⟨?_, ?_, by rw [World.size_setCell]; exact h.lw, h.ne⟩
  · rw [List.length_set]
    exact (World.cell?_of_block (a := ⟨wb, 10, none⟩) (Below.heap_setCell w _ _ wb h.ne)).trans h.c
  · rw [← uvs_set]
    exact blk_set h.b k _
/-- but for block b nothing has turned -/
theorem gr_trans {a b c : World} {v : Nat} (h : a.grownBy b (some v)) (k : b.grownBy c (some v)) : a.grownBy c (some v) :=
  ⟨k.os.trans h.os, k.tape.trans h.tape, k.output.trans h.output, Nat.le_trans h.size k.size, fun i hi hne => (k.block i (Nat.lt_of_lt_of_le hi h.size) hne).trans (h.block i hi hne)⟩
theorem gr_below {a b : World} (v : Nat) (h : Below a.heap.size a b) : a.grownBy b (some v) := ⟨h.os, h.tape, h.output, h.size, fun i hi _ => h.block i hi⟩
theorem gr_set (w : World) (v j : Nat) (u : Value) : w.grownBy (w.setCell ⟨v, j, none⟩ u) (some v) := ⟨rfl, rfl, rfl, by rw [World.size_setCell]; exact Nat.le_refl _, fun i _ hne => Below.heap_setCell w _ _ i (fun e => hne (by rw [e]))⟩
theorem gr_cell {a b : World} {v g j : Nat} (h : a.grownBy b (some v)) {u : Value} (hg : g ≠ v) (hu : a.cell? ⟨g, j, none⟩ = some u) : b.cell? ⟨g, j, none⟩ = some u := by
  have hlt : g < a.heap.size := by
    by_cases hlt : g < a.heap.size
    · exact hlt
    · unfold World.cell? at hu
      rw [Array.getElem?_eq_none (Nat.le_of_not_lt hlt)] at hu
      cases hu
  exact (World.cell?_of_block (a := ⟨g, j, none⟩) (h.block g hlt (fun e => hg (by injection e)))).trans hu
/-- the variables own are freed -/
def zeroOwn (own : List Nat) (L : List Int) : List Int := own.foldl (fun L v => L.set v 0) L
theorem zeroOwn_len (own : List Nat) : ∀ L : List Int, (zeroOwn own L).length = L.length := by
  induction own with
  | nil => intro L; rfl
  | cons v own ih => intro L; show (zeroOwn own (L.set v 0)).length = _; rw [ih, List.length_set]
theorem zeroOwn_snoc (own : List Nat) (v : Nat) (L : List Int) : zeroOwn (own ++ [v]) L = (zeroOwn own L).set v 0 := by simp [zeroOwn]
/-- what a row binds: does it, and the values then -/
def bindP : List (Pl × Int) → List Int → Bool × List Int
  | [], L => (true, L)
  | (x, y) :: t, L => if x.1 < 0 then bindP t L else
    let L1 := if L.getD x.1.toNat 0 = 0 then L.set x.1.toNat y else L
    if L1.getD x.1.toNat 0 = y then bindP t L1 else (false, L1)
def prs (s : StepT) (r : R3) : List (Pl × Int) := [(s.r0, r.1), (s.r1, r.2.1), (s.r2, r.2.2)]
theorem bindP_neg {x : Pl} {y : Int} {t : List (Pl × Int)} {L : List Int} (h : x.1 < 0) : bindP ((x, y) :: t) L = bindP t L := by rw [bindP, if_pos h]
theorem bindP_new {k : Nat} {i y : Int} {t : List (Pl × Int)} {L : List Int} (hk : k < L.length) (h : L[k] = 0) : bindP ((((k : Int), i), y) :: t) L = bindP t (L.set k y) := by
  have h0 : L.getD k 0 = 0 := by simp [hk, h]
  rw [bindP, if_neg (by simp)]
  simp only [Int.toNat_natCast, h0, if_true]
  rw [if_pos (by simp [hk])]
theorem bindP_same {k : Nat} {i y : Int} {t : List (Pl × Int)} {L : List Int} (hk : k < L.length) (h : L[k] ≠ 0) (hy : L[k] = y) : bindP ((((k : Int), i), y) :: t) L = bindP t L := by
  have h0 : L.getD k 0 = L[k] := by simp [hk]
  rw [bindP, if_neg (by simp)]
  simp only [Int.toNat_natCast, h0, if_neg h]
  rw [if_pos hy]
theorem bindP_not {k : Nat} {i y : Int} {t : List (Pl × Int)} {L : List Int} (hk : k < L.length) (h : L[k] ≠ 0) (hy : L[k] ≠ y) : bindP ((((k : Int), i), y) :: t) L = (false, L) := by
  have h0 : L.getD k 0 = L[k] := by simp [hk]
  rw [bindP, if_neg (by simp)]
  simp only [Int.toNat_natCast, h0, if_neg h]
  rw [if_neg hy]
/-- a step's places lie at the slice's address -/
def IsStepRow (w : World) (a : Option Addr) (i : Nat) (s : StepT) : Prop := ∃ b off, a = some ⟨b, off, none⟩ ∧ b < w.heap.size ∧
  w.cell? ⟨b, off + i * 11 + 1, none⟩ = some (.int .i64 s.r0.1) ∧ w.cell? ⟨b, off + i * 11 + 2, none⟩ = some (.int .u32 s.r0.2) ∧ w.cell? ⟨b, off + i * 11 + 3, none⟩ = some (.int .i64 s.r1.1) ∧
  w.cell? ⟨b, off + i * 11 + 4, none⟩ = some (.int .u32 s.r1.2) ∧ w.cell? ⟨b, off + i * 11 + 5, none⟩ = some (.int .i64 s.r2.1) ∧ w.cell? ⟨b, off + i * 11 + 6, none⟩ = some (.int .u32 s.r2.2)
/-- the numbers of variables lie at the slice's address -/
def IsI (w : World) (a : Option Addr) (L : List Nat) : Prop := ∀ j (h : j < L.length), ∃ b off, a = some ⟨b, off, none⟩ ∧ b < w.heap.size ∧ w.cell? ⟨b, off + j, none⟩ = some (.int .i64 (L[j] : Nat))
end Go.Proofs.Ytkgkkbfpkgfcaaa
