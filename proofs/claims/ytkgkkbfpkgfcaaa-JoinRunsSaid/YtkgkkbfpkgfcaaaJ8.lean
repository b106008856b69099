/- Layer 14: is a variable among these; all rows of a table. -/
import Derived.Test.YtkgkkbfpkgfcaaaJ5
namespace Go.Proofs.Ytkgkkbfpkgfcaaa
set_option maxRecDepth 100000
open Go.RowKit Go.Maps
set_option linter.unusedVariables false
set_option linter.unusedSimpArgs false

section
variable {w : World}
set_option maxRecDepth 100000 in
set_option maxHeartbeats 2000000 in
theorem index_int (a : Option Addr) (cap : Nat) (own : List Nat) (h : IsI w a own) (hl : own.length ≤ 1000000) (v : Nat) :
    Calls Try.prog 46 #[.slice a own.length cap, .int .i64 v] w fun e w' => (∃ r : Int, e = .returned (.int .i64 r) ∧ (0 ≤ r ↔ v ∈ own)) ∧ w = w' := by
  have H := Lib.hid h
  obtain ⟨l, hll⟩ : ∃ l, own.length = l := ⟨_, rfl⟩
  have Hl := Lib.hid hll
  rw [hll] at hl ⊢
  clear h hll
  go_enter Try.func46, Try.ntmps46
  go_wp2_with fail
  go_loopw [8] (fun u wr => ∃ k : Nat, k ≤ l ∧ u = .int .i64 k ∧ w = wr ∧ ∀ j (h : j < own.length), j < k → own[j] ≠ v) (fun u _ => l - (intOf u).toNat)
  case atStart => exact ⟨0, by omega, rfl, rfl, fun j _ h => by omega⟩
  case round =>
    obtain ⟨k, hk, rfl, hw, hkk⟩ := hrel
    rw [← hw]
    have Hkk := Lib.hid hkk
    clear hkk hw
    by_cases hkl : k < l
    · have hd : decide ((k : Int) < (l : Int)) = true := by simp; omega
      obtain ⟨b, off, rfl, _, c⟩ := H.out k (by have := Hl.out; omega)
      obtain ⟨x, hx⟩ : ∃ x, own[k]'(by have := Hl.out; omega) = x := ⟨_, rfl⟩
      rw [hx] at c
      have Hx := Lib.hid hx
      clear hx
      by_cases hxv : v = x
      · have hd2 : ((v : Int) == (x : Int)) = true := by simp; omega
        go_wp2_with fail
        go_ret
        exact ⟨⟨(k : Int), rfl, ⟨fun _ => by rw [hxv, ← Hx.out]; exact List.getElem_mem _, fun _ => by omega⟩⟩, rfl⟩
      · have hd2 : ((v : Int) == (x : Int)) = false := by simp; omega
        go_wp2_with fail
        exact ⟨⟨k + 1, by omega, by push_cast; rfl, by trivial, fun j h1 h2 => by
          by_cases hj : j = k
          · subst hj
            rw [Hx.out]; omega
          · exact Hkk.out j h1 (by omega)⟩, by simp [intOf]; omega⟩
    · have hkl' : k = l := by omega
      subst hkl'
      have hd : decide ((k : Int) < (k : Int)) = false := by simp
      go_wp2_with fail
      go_ret
      refine ⟨⟨-1, rfl, ⟨fun h => by omega, fun h => ?_⟩⟩, rfl⟩
      obtain ⟨j, hj, he⟩ := List.getElem_of_mem h
      exact absurd he (Hkk.out j hj (by have := Hl.out; omega))
theorem contains_int (a : Option Addr) (cap : Nat) (own : List Nat) (h : IsI w a own) (hl : own.length ≤ 1000000) (v : Nat) :
    Calls Try.prog 42 #[.slice a own.length cap, .int .i64 v] w fun e w' => e = .returned (.bool (decide (v ∈ own))) ∧ w = w' := by
  have H := Lib.hid (index_int a cap own h hl v)
  clear h
  go_enter Try.func42, Try.ntmps42
  go_wp2_with fail
  refine H.out.mono ?_
  rintro e w' ⟨⟨r, rfl, hr⟩, hw⟩
  rw [← hw]
  by_cases hv : v ∈ own
  · have hd : decide (r ≥ 0) = true := by simpa using hr.2 hv
    have hdv : decide (v ∈ own) = true := by simpa using hv
    clear hw
    go_wp2_with fail
    go_ret
    exact ⟨by rw [hdv]; rfl, rfl⟩
  · have hd : decide (r ≥ 0) = false := by simp; have := mt hr.1 hv; omega
    have hdv : decide (v ∈ own) = false := by simpa using hv
    clear hw
    go_wp2_with fail
    go_ret
    exact ⟨by rw [hdv]; rfl, rfl⟩
end
section
variable {Z : Zone} {w : World} {tb : Nat} {T : TS} {D : TabD}
set_option maxRecDepth 100000 in
theorem all_any (h : IsT Z w tb T D) : Calls Try.prog 30 #[.pointer (some ⟨tb, 0, none⟩)] w fun e w' => e = .returned (.agg #[.int .i64 0, .int .i64 T.length, .int .u8 3]) ∧ Below w.heap.size w w' := by
  have H := Lib.hid h
  have hbA : Below w.heap.size w (w.alloc (.cells #[.int .i64 0, .int .i64 0, .int .u8 0] 42)) := (Below.refl _ w).alloc (Nat.le_refl _) _
  have HbA := Lib.hid hbA; have Hbx := Lib.hid (World.alloc_heap_new w (.cells #[.int .i64 0, .int .i64 0, .int .u8 0] 42))
  have HTl := Lib.hid h.long
  clear h hbA
  go_enter Try.func30, Try.ntmps30
  go_wp2_with fail
  generalize hW : w.alloc (.cells #[.int .i64 0, .int .i64 0, .int .u8 0] 42) = W at *
  clear hW
  refine (len_any (H.out.below HbA.out)).mono ?_
  rintro e w' ⟨rfl, hw⟩
  rw [← hw]
  obtain ⟨l, hl⟩ : ∃ l, T.length = l := ⟨_, rfl⟩
  have Hll := Lib.hid hl
  rw [hl]
  clear hl hw
  have hx := Hbx.out
  have ff : ∀ j, W.frozen? ⟨w.heap.size, j, none⟩ = false := fun j => by unfold World.frozen?; rw [hx]; simp
  have ff0 := ff 0; have ff1 := ff 1; have ff2 := ff 2
  obtain ⟨g0, g1, g2⟩ : W.cell? ⟨w.heap.size, 0, none⟩ = some (.int .i64 0) ∧ W.cell? ⟨w.heap.size, 1, none⟩ = some (.int .i64 0) ∧ W.cell? ⟨w.heap.size, 2, none⟩ = some (.int .u8 0) := by unfold World.cell?; rw [hx]; exact ⟨rfl, rfl, rfl⟩
  clear hx ff
  go_wp2_with fail
  have hyf := blk_set (blk_set (blk_set Hbx.out 0 (.int .i64 0)) 1 (.int .i64 l)) 2 (.int .u8 3)
  have hBf : Below w.heap.size w (((W.setCell ⟨w.heap.size, 0, none⟩ (.int .i64 0)).setCell ⟨w.heap.size, 1, none⟩ (.int .i64 l)).setCell ⟨w.heap.size, 2, none⟩ (.int .u8 3)) := ((HbA.out.setCell (p := ⟨w.heap.size, 0, none⟩) (by simp) _).setCell (p := ⟨w.heap.size, 1, none⟩) (by simp) _).setCell (p := ⟨w.heap.size, 2, none⟩) (by simp) _
  generalize (((W.setCell ⟨w.heap.size, 0, none⟩ (.int .i64 0)).setCell ⟨w.heap.size, 1, none⟩ (.int .i64 l)).setCell ⟨w.heap.size, 2, none⟩ (.int .u8 3)) = Wf at *
  obtain ⟨e0, e1, e2⟩ : Wf.cell? ⟨w.heap.size, 0, none⟩ = some (.int .i64 0) ∧ Wf.cell? ⟨w.heap.size, 1, none⟩ = some (.int .i64 l) ∧ Wf.cell? ⟨w.heap.size, 2, none⟩ = some (.int .u8 3) := by unfold World.cell?; rw [hyf]; exact ⟨rfl, rfl, rfl⟩
  refine ⟨rfl, .agg #[.int .i64 0, .int .i64 l, .int .u8 3], ?_, by rw [Hll.out], hBf⟩
  have hres : Try.f30.results = #[.cell 2 42] := rfl
  simp only [results, hres]
  go_simp
end
end Go.Proofs.Ytkgkkbfpkgfcaaa

namespace Go.Proofs.Ytkgkkbfpkgfcaaa
set_option maxRecDepth 100000
open Go.RowKit Go.Maps
set_option linter.unusedVariables false
set_option linter.unusedSimpArgs false

theorem jbox_cell {W : World} {b : Nat} {v : Value} {t : TypeId} (h : W.heap[b]? = some (.cells #[v] t (0, 0))) : W.cell? ⟨b, 0, none⟩ = some v ∧ W.frozen? ⟨b, 0, none⟩ = false := by
  unfold World.cell? World.frozen?
  rw [h]
  exact ⟨rfl, by simp⟩
theorem jbox_set {W : World} {b : Nat} {v : Value} {t : TypeId} (h : W.heap[b]? = some (.cells #[v] t (0, 0))) (u : Value) : (W.setCell ⟨b, 0, none⟩ u).heap[b]? = some (.cells #[u] t (0, 0)) := by
  obtain ⟨hlt, hk⟩ := Array.getElem?_eq_some_iff.1 h
  show (W.heap.modify b _)[b]? = _
  rw [Array.getElem?_eq_getElem (by rw [Array.size_modify]; exact hlt), Array.getElem_modify_self, hk]
  rfl
section
variable {w : World}
set_option maxRecDepth 100000 in
set_option maxHeartbeats 4000000 in
theorem holds_same {wb vb : Nat} {L : List Int} (h : WkV w wb vb L) (hlen : L.length ≤ 1000000) (s : StepT) (hk : s.kind = 3) (ha : s.a.1 < L.length) (hb : s.b.1 < L.length) :
    Calls Try.prog 31 #[.pointer (some ⟨wb, 0, none⟩), stepv s] w fun e w' => e = .returned (.bool (plVal L s.a == plVal L s.b)) ∧ Below w.heap.size w w' := by
  obtain ⟨kk, ⟨a0, i0⟩, ⟨a1, i1⟩, ⟨a2, i2⟩, ⟨a3, i3⟩, ⟨a4, i4⟩⟩ := s
  simp only at hk
  subst hk
  have H := Lib.hid h
  have Ha := Lib.hid ha; have Hb := Lib.hid hb
  simp only [stepv]
  clear h ha hb
  obtain ⟨hB0, hz0, hs0, hy0⟩ := two_blocks w (.cells #[.int .i64 3, .int .i64 a0, .int .u32 i0, .int .i64 a1, .int .u32 i1, .int .i64 a2, .int .u32 i2, .int .i64 a3, .int .u32 i3, .int .i64 a4, .int .u32 i4] 35) (.cells #[.bool false] 4) _ rfl
  have HB0 := Lib.hid hB0; have Hz0 := Lib.hid hz0; have HS0 := Lib.hid hs0; have HY0 := Lib.hid hy0
  have cy : ((w.alloc (.cells #[.int .i64 3, .int .i64 a0, .int .u32 i0, .int .i64 a1, .int .u32 i1, .int .i64 a2, .int .u32 i2, .int .i64 a3, .int .u32 i3, .int .i64 a4, .int .u32 i4] 35)).alloc (.cells #[.bool false] 4)).cell? ⟨w.heap.size, 0, none⟩ = some (.int .i64 3) := by unfold World.cell?; rw [hs0]; rfl
  clear hB0 hz0 hs0 hy0
  go_enter Try.func31, Try.ntmps31
  go_wp2_with fail
  generalize hW : (w.alloc (.cells #[.int .i64 3, .int .i64 a0, .int .u32 i0, .int .i64 a1, .int .u32 i1, .int .i64 a2, .int .u32 i2, .int .i64 a3, .int .u32 i3, .int .i64 a4, .int .u32 i4] 35)).alloc (.cells #[.bool false] 4) = W at *
  clear hW
  have hWd : W.drew.heap.size = w.heap.size + 2 := Hz0.out
  have cc : ∀ j, W.drew.cell? ⟨w.heap.size, j, none⟩ = W.cell? ⟨w.heap.size, j, none⟩ := fun j => rfl
  obtain ⟨ca0, ca1, cb0, cb1⟩ : W.drew.cell? ⟨w.heap.size, 7, none⟩ = some (.int .i64 a3) ∧ W.drew.cell? ⟨w.heap.size, 8, none⟩ = some (.int .u32 i3) ∧ W.drew.cell? ⟨w.heap.size, 9, none⟩ = some (.int .i64 a4) ∧ W.drew.cell? ⟨w.heap.size, 10, none⟩ = some (.int .u32 i4) := by
    simp only [cc]; unfold World.cell?; rw [HS0.out]; exact ⟨rfl, rfl, rfl, rfl⟩
  obtain ⟨cr, fr⟩ : W.drew.cell? ⟨w.heap.size + 1, 0, none⟩ = some (.bool false) ∧ W.drew.frozen? ⟨w.heap.size + 1, 0, none⟩ = false := by
    have hY := HY0.out
    exact ⟨by show W.cell? _ = _; unfold World.cell?; rw [hY]; rfl, by show W.frozen? _ = _; unfold World.frozen?; rw [hY]; rfl⟩
  have Hd := H.out.below (HB0.out.drew)
  obtain ⟨X, hX⟩ : ∃ X, X = W.drew := ⟨_, rfl⟩
  have HB0d : Below w.heap.size w W.drew := HB0.out.drew
  have HD := Lib.hid Hd; have HBd := Lib.hid HB0d
  clear cy cc Hd HB0d
  obtain ⟨S7, hSe⟩ : ∃ S : Array Bool → World → Prop, S = fun L w' => L.getD 9 true = false → Below W.drew.heap.size W.drew w' := ⟨_, rfl⟩
  have hdrop : ∀ i, i ≠ 9 → ∀ L w', S7 (L.setIfInBounds i true) w' → S7 L w' := by
    intro i hi L w'
    rw [hSe]
    intro h hl
    exact h (by rw [getD_set_ne true hi]; exact hl)
  have hS : ∀ L, S7 L W.drew := by intro L; rw [hSe]; exact fun _ => Below.refl _ _
  have hSo : ∀ {L w'}, S7 L w' → L.getD 9 true = false → Below W.drew.heap.size W.drew w' := by intro L w' h hl; rw [hSe] at h; exact h hl
  have hSi : ∀ {w'}, Below W.drew.heap.size W.drew w' → ∀ L, S7 L w' := by intro w' h L; rw [hSe]; exact fun _ => h
  have hSd : ∀ (L : Array Bool) X, L.getD 9 true = true → S7 L X := by
    intro L X h; rw [hSe]; intro h1; rw [h] at h1; cases h1
  clear hSe
  refine wp_region_LN S7 10 #[false, false, false, false, false, false, false, false, false, false] (by kernel_rfl) (by kernel_rfl) rfl ?_
  rw [← hX] at hWd ca0 ca1 cb0 cb1 cr fr hSo hSi hS HD HBd ⊢
  clear hX
  refine WA.take (i := 0) (v := .pointer (some ⟨wb, 0, none⟩)) rfl (by kernel_rfl) (by kernel_rfl) (by kernel_rfl) (fun _ _ _ h => h) (hdrop 0 (by decide)) (Or.inl ⟨by rfl, ?_⟩) (hS _) ?_
  · rintro w' ⟨L, hL, hSw, hun⟩
    go_simp
  simp only [List.getElem_toArray, List.getElem_cons_zero, List.getElem_cons_succ, Act.put, List.setIfInBounds_toArray, List.set_cons_zero, List.set_cons_succ]
  refine WA.take (i := 1) (v := .pointer (some ⟨w.heap.size, 7, none⟩)) rfl (by kernel_rfl) (by kernel_rfl) (by kernel_rfl) (fun _ _ _ h => h) (hdrop 1 (by decide)) (Or.inl ⟨by rfl, ?_⟩) (hS _) ?_
  · rintro w' ⟨L, hL, hSw, hun⟩
    go_simp
  simp only [List.getElem_toArray, List.getElem_cons_zero, List.getElem_cons_succ, Act.put, List.setIfInBounds_toArray, List.set_cons_zero, List.set_cons_succ]
  refine WA.take (i := 2) (v := .agg #[.int .i64 a3, .int .u32 i3]) rfl (by kernel_rfl) (by kernel_rfl) (by kernel_rfl) (fun _ _ _ h => h) (hdrop 2 (by decide)) (Or.inl ⟨by rfl, ?_⟩) (hS _) ?_
  · rintro w' ⟨L, hL, hSw, hun⟩
    have hbw := hSo hSw (hL.wait 9 8 (by kernel_rfl) (hL.wait 8 3 (by kernel_rfl) (hL.wait 3 2 (by kernel_rfl) hun)))
    have ca0 := cell_later hbw ca0
    have ca1 := cell_later hbw ca1
    clear hbw
    go_simp
  simp only [List.getElem_toArray, List.getElem_cons_zero, List.getElem_cons_succ, Act.put, List.setIfInBounds_toArray, List.set_cons_zero, List.set_cons_succ]
  refine WA.take (i := 4) (v := .pointer (some ⟨wb, 0, none⟩)) rfl (by kernel_rfl) (by kernel_rfl) (by kernel_rfl) (fun _ _ _ h => h) (hdrop 4 (by decide)) (Or.inl ⟨by rfl, ?_⟩) (hS _) ?_
  · rintro w' ⟨L, hL, hSw, hun⟩
    go_simp
  simp only [List.getElem_toArray, List.getElem_cons_zero, List.getElem_cons_succ, Act.put, List.setIfInBounds_toArray, List.set_cons_zero, List.set_cons_succ]
  refine WA.take (i := 5) (v := .pointer (some ⟨w.heap.size, 9, none⟩)) rfl (by kernel_rfl) (by kernel_rfl) (by kernel_rfl) (fun _ _ _ h => h) (hdrop 5 (by decide)) (Or.inl ⟨by rfl, ?_⟩) (hS _) ?_
  · rintro w' ⟨L, hL, hSw, hun⟩
    go_simp
  simp only [List.getElem_toArray, List.getElem_cons_zero, List.getElem_cons_succ, Act.put, List.setIfInBounds_toArray, List.set_cons_zero, List.set_cons_succ]
  refine WA.take (i := 6) (v := .agg #[.int .i64 a4, .int .u32 i4]) rfl (by kernel_rfl) (by kernel_rfl) (by kernel_rfl) (fun _ _ _ h => h) (hdrop 6 (by decide)) (Or.inl ⟨by rfl, ?_⟩) (hS _) ?_
  · rintro w' ⟨L, hL, hSw, hun⟩
    have hbw := hSo hSw (hL.wait 9 8 (by kernel_rfl) (hL.wait 8 7 (by kernel_rfl) (hL.wait 7 6 (by kernel_rfl) hun)))
    have cb0 := cell_later hbw cb0
    have cb1 := cell_later hbw cb1
    clear hbw
    go_simp
  simp only [List.getElem_toArray, List.getElem_cons_zero, List.getElem_cons_succ, Act.put, List.setIfInBounds_toArray, List.set_cons_zero, List.set_cons_succ]
  refine WA.one (i := 3) (by kernel_rfl) rfl (by rfl) (fun K hK => ?_)
  go_simp
  refine (jvalue_any HD.out hlen (a3, i3) Ha.out).mono ?_
  rintro e w2 ⟨rfl, hB2⟩
  obtain ⟨u, hu⟩ : ∃ u, plVal L (a3, i3) = u := ⟨_, rfl⟩
  rw [hu]
  have Hu := Lib.hid hu; have HB1 := Lib.hid hB2
  clear hu hB2
  refine hK _ _ (hSi HB1.out _) ?_
  clear hK
  try simp only [List.getElem_toArray, List.getElem_cons_zero, List.getElem_cons_succ, Act.put, List.setIfInBounds_toArray, List.set_cons_zero, List.set_cons_succ]
  refine WA.one (i := 7) (by kernel_rfl) rfl (by rfl) (fun K hK => ?_)
  go_simp
  refine (jvalue_any (HD.out.below HB1.out) hlen (a4, i4) Hb.out).mono ?_
  rintro e w3 ⟨rfl, hB2⟩
  obtain ⟨v, hv⟩ : ∃ v, plVal L (a4, i4) = v := ⟨_, rfl⟩
  rw [hv]
  have Hv := Lib.hid hv; have HB2 := Lib.hid (HB1.out.trans (hB2.mono HB1.out.size))
  clear hv hB2
  refine hK _ _ (hSi HB2.out _) ?_
  clear hK
  try simp only [List.getElem_toArray, List.getElem_cons_zero, List.getElem_cons_succ, Act.put, List.setIfInBounds_toArray, List.set_cons_zero, List.set_cons_succ]
  refine WA.take (i := 8) (v := .bool (u == v)) rfl (by kernel_rfl) (by kernel_rfl) (by kernel_rfl) (fun _ _ _ h => h) (hdrop 8 (by decide)) (Or.inl ⟨by rfl, ?_⟩) (hSi HB2.out _) ?_
  · rintro w' ⟨L, hL, hSw, hun⟩
    go_simp
  simp only [List.getElem_toArray, List.getElem_cons_zero, List.getElem_cons_succ, Act.put, List.setIfInBounds_toArray, List.set_cons_zero, List.set_cons_succ]
  have cr := cell_later HB2.out cr
  have fr : w3.frozen? ⟨w.heap.size + 1, 0, none⟩ = false := (World.frozen?_of_block (a := ⟨w.heap.size + 1, 0, none⟩) (HB2.out.block _ (by show w.heap.size + 1 < X.heap.size; rw [hWd]; omega))).trans fr
  refine WA.one (i := 9) (by kernel_rfl) rfl (by rfl) (fun K hK => ?_)
  go_simp
  refine hK _ _ (hSd _ _ (by rfl)) ?_
  clear hK
  try simp only [List.getElem_toArray, List.getElem_cons_zero, List.getElem_cons_succ, Act.put, List.setIfInBounds_toArray, List.set_cons_zero, List.set_cons_succ]
  refine WA.done (by kernel_rfl) ?_ _
  refine Nrm.normal ?_
  have cr2 := World.cell?_setCell_same' w3 ⟨w.heap.size + 1, 0, none⟩ (.bool (u == v)) (by rw [cr]; rfl)
  clear hSo hSi hS hSd hdrop ca0 ca1 cb0 cb1 cr fr
  clear S7
  -- the end
  go_wp2_with fail
  refine ⟨rfl, .bool (u == v), ?_, by simp only [Hu.out, Hv.out], ?_⟩
  · have hres : Try.f31.results = #[.cell 4 4] := rfl
    simp only [results, hres]
    go_simp
  · exact ((HBd.out.trans (HB2.out.mono (by rw [hWd]; omega)))).setCell (p := ⟨w.heap.size + 1, 0, none⟩) (by simp) _
set_option maxRecDepth 100000 in
set_option maxHeartbeats 4000000 in
theorem holds_unlike {wb vb : Nat} {L : List Int} (h : WkV w wb vb L) (hlen : L.length ≤ 1000000) (s : StepT) (hk : s.kind = 4) (ha : s.a.1 < L.length) (hb : s.b.1 < L.length) :
    Calls Try.prog 31 #[.pointer (some ⟨wb, 0, none⟩), stepv s] w fun e w' => e = .returned (.bool (plVal L s.a != plVal L s.b)) ∧ Below w.heap.size w w' := by
  obtain ⟨kk, ⟨a0, i0⟩, ⟨a1, i1⟩, ⟨a2, i2⟩, ⟨a3, i3⟩, ⟨a4, i4⟩⟩ := s
  simp only at hk
  subst hk
  have H := Lib.hid h
  have Ha := Lib.hid ha; have Hb := Lib.hid hb
  simp only [stepv]
  clear h ha hb
  obtain ⟨hB0, hz0, hs0, hy0⟩ := two_blocks w (.cells #[.int .i64 4, .int .i64 a0, .int .u32 i0, .int .i64 a1, .int .u32 i1, .int .i64 a2, .int .u32 i2, .int .i64 a3, .int .u32 i3, .int .i64 a4, .int .u32 i4] 35) (.cells #[.bool false] 4) _ rfl
  have HB0 := Lib.hid hB0; have Hz0 := Lib.hid hz0; have HS0 := Lib.hid hs0; have HY0 := Lib.hid hy0
  have cy : ((w.alloc (.cells #[.int .i64 4, .int .i64 a0, .int .u32 i0, .int .i64 a1, .int .u32 i1, .int .i64 a2, .int .u32 i2, .int .i64 a3, .int .u32 i3, .int .i64 a4, .int .u32 i4] 35)).alloc (.cells #[.bool false] 4)).cell? ⟨w.heap.size, 0, none⟩ = some (.int .i64 4) := by unfold World.cell?; rw [hs0]; rfl
  clear hB0 hz0 hs0 hy0
  go_enter Try.func31, Try.ntmps31
  go_wp2_with fail
  generalize hW : (w.alloc (.cells #[.int .i64 4, .int .i64 a0, .int .u32 i0, .int .i64 a1, .int .u32 i1, .int .i64 a2, .int .u32 i2, .int .i64 a3, .int .u32 i3, .int .i64 a4, .int .u32 i4] 35)).alloc (.cells #[.bool false] 4) = W at *
  clear hW
  have hWd : W.drew.heap.size = w.heap.size + 2 := Hz0.out
  have cc : ∀ j, W.drew.cell? ⟨w.heap.size, j, none⟩ = W.cell? ⟨w.heap.size, j, none⟩ := fun j => rfl
  obtain ⟨ca0, ca1, cb0, cb1⟩ : W.drew.cell? ⟨w.heap.size, 7, none⟩ = some (.int .i64 a3) ∧ W.drew.cell? ⟨w.heap.size, 8, none⟩ = some (.int .u32 i3) ∧ W.drew.cell? ⟨w.heap.size, 9, none⟩ = some (.int .i64 a4) ∧ W.drew.cell? ⟨w.heap.size, 10, none⟩ = some (.int .u32 i4) := by
    simp only [cc]; unfold World.cell?; rw [HS0.out]; exact ⟨rfl, rfl, rfl, rfl⟩
  obtain ⟨cr, fr⟩ : W.drew.cell? ⟨w.heap.size + 1, 0, none⟩ = some (.bool false) ∧ W.drew.frozen? ⟨w.heap.size + 1, 0, none⟩ = false := by
    have hY := HY0.out
    exact ⟨by show W.cell? _ = _; unfold World.cell?; rw [hY]; rfl, by show W.frozen? _ = _; unfold World.frozen?; rw [hY]; rfl⟩
  have Hd := H.out.below (HB0.out.drew)
  obtain ⟨X, hX⟩ : ∃ X, X = W.drew := ⟨_, rfl⟩
  have HB0d : Below w.heap.size w W.drew := HB0.out.drew
  have HD := Lib.hid Hd; have HBd := Lib.hid HB0d
  clear cy cc Hd HB0d
  obtain ⟨S7, hSe⟩ : ∃ S : Array Bool → World → Prop, S = fun L w' => L.getD 9 true = false → Below W.drew.heap.size W.drew w' := ⟨_, rfl⟩
  have hdrop : ∀ i, i ≠ 9 → ∀ L w', S7 (L.setIfInBounds i true) w' → S7 L w' := by
    intro i hi L w'
    rw [hSe]
    intro h hl
    exact h (by rw [getD_set_ne true hi]; exact hl)
  have hS : ∀ L, S7 L W.drew := by intro L; rw [hSe]; exact fun _ => Below.refl _ _
  have hSo : ∀ {L w'}, S7 L w' → L.getD 9 true = false → Below W.drew.heap.size W.drew w' := by intro L w' h hl; rw [hSe] at h; exact h hl
  have hSi : ∀ {w'}, Below W.drew.heap.size W.drew w' → ∀ L, S7 L w' := by intro w' h L; rw [hSe]; exact fun _ => h
  have hSd : ∀ (L : Array Bool) X, L.getD 9 true = true → S7 L X := by
    intro L X h; rw [hSe]; intro h1; rw [h] at h1; cases h1
  clear hSe
  refine wp_region_LN S7 10 #[false, false, false, false, false, false, false, false, false, false] (by kernel_rfl) (by kernel_rfl) rfl ?_
  rw [← hX] at hWd ca0 ca1 cb0 cb1 cr fr hSo hSi hS HD HBd ⊢
  clear hX
  refine WA.take (i := 0) (v := .pointer (some ⟨wb, 0, none⟩)) rfl (by kernel_rfl) (by kernel_rfl) (by kernel_rfl) (fun _ _ _ h => h) (hdrop 0 (by decide)) (Or.inl ⟨by rfl, ?_⟩) (hS _) ?_
  · rintro w' ⟨L, hL, hSw, hun⟩
    go_simp
  simp only [List.getElem_toArray, List.getElem_cons_zero, List.getElem_cons_succ, Act.put, List.setIfInBounds_toArray, List.set_cons_zero, List.set_cons_succ]
  refine WA.take (i := 1) (v := .pointer (some ⟨w.heap.size, 7, none⟩)) rfl (by kernel_rfl) (by kernel_rfl) (by kernel_rfl) (fun _ _ _ h => h) (hdrop 1 (by decide)) (Or.inl ⟨by rfl, ?_⟩) (hS _) ?_
  · rintro w' ⟨L, hL, hSw, hun⟩
    go_simp
  simp only [List.getElem_toArray, List.getElem_cons_zero, List.getElem_cons_succ, Act.put, List.setIfInBounds_toArray, List.set_cons_zero, List.set_cons_succ]
  refine WA.take (i := 2) (v := .agg #[.int .i64 a3, .int .u32 i3]) rfl (by kernel_rfl) (by kernel_rfl) (by kernel_rfl) (fun _ _ _ h => h) (hdrop 2 (by decide)) (Or.inl ⟨by rfl, ?_⟩) (hS _) ?_
  · rintro w' ⟨L, hL, hSw, hun⟩
    have hbw := hSo hSw (hL.wait 9 8 (by kernel_rfl) (hL.wait 8 3 (by kernel_rfl) (hL.wait 3 2 (by kernel_rfl) hun)))
    have ca0 := cell_later hbw ca0
    have ca1 := cell_later hbw ca1
    clear hbw
    go_simp
  simp only [List.getElem_toArray, List.getElem_cons_zero, List.getElem_cons_succ, Act.put, List.setIfInBounds_toArray, List.set_cons_zero, List.set_cons_succ]
  refine WA.take (i := 4) (v := .pointer (some ⟨wb, 0, none⟩)) rfl (by kernel_rfl) (by kernel_rfl) (by kernel_rfl) (fun _ _ _ h => h) (hdrop 4 (by decide)) (Or.inl ⟨by rfl, ?_⟩) (hS _) ?_
  · rintro w' ⟨L, hL, hSw, hun⟩
    go_simp
  simp only [List.getElem_toArray, List.getElem_cons_zero, List.getElem_cons_succ, Act.put, List.setIfInBounds_toArray, List.set_cons_zero, List.set_cons_succ]
  refine WA.take (i := 5) (v := .pointer (some ⟨w.heap.size, 9, none⟩)) rfl (by kernel_rfl) (by kernel_rfl) (by kernel_rfl) (fun _ _ _ h => h) (hdrop 5 (by decide)) (Or.inl ⟨by rfl, ?_⟩) (hS _) ?_
  · rintro w' ⟨L, hL, hSw, hun⟩
    go_simp
  simp only [List.getElem_toArray, List.getElem_cons_zero, List.getElem_cons_succ, Act.put, List.setIfInBounds_toArray, List.set_cons_zero, List.set_cons_succ]
  refine WA.take (i := 6) (v := .agg #[.int .i64 a4, .int .u32 i4]) rfl (by kernel_rfl) (by kernel_rfl) (by kernel_rfl) (fun _ _ _ h => h) (hdrop 6 (by decide)) (Or.inl ⟨by rfl, ?_⟩) (hS _) ?_
  · rintro w' ⟨L, hL, hSw, hun⟩
    have hbw := hSo hSw (hL.wait 9 8 (by kernel_rfl) (hL.wait 8 7 (by kernel_rfl) (hL.wait 7 6 (by kernel_rfl) hun)))
    have cb0 := cell_later hbw cb0
    have cb1 := cell_later hbw cb1
    clear hbw
    go_simp
  simp only [List.getElem_toArray, List.getElem_cons_zero, List.getElem_cons_succ, Act.put, List.setIfInBounds_toArray, List.set_cons_zero, List.set_cons_succ]
  refine WA.one (i := 3) (by kernel_rfl) rfl (by rfl) (fun K hK => ?_)
  go_simp
  refine (jvalue_any HD.out hlen (a3, i3) Ha.out).mono ?_
  rintro e w2 ⟨rfl, hB2⟩
  obtain ⟨u, hu⟩ : ∃ u, plVal L (a3, i3) = u := ⟨_, rfl⟩
  rw [hu]
  have Hu := Lib.hid hu; have HB1 := Lib.hid hB2
  clear hu hB2
  refine hK _ _ (hSi HB1.out _) ?_
  clear hK
  try simp only [List.getElem_toArray, List.getElem_cons_zero, List.getElem_cons_succ, Act.put, List.setIfInBounds_toArray, List.set_cons_zero, List.set_cons_succ]
  refine WA.one (i := 7) (by kernel_rfl) rfl (by rfl) (fun K hK => ?_)
  go_simp
  refine (jvalue_any (HD.out.below HB1.out) hlen (a4, i4) Hb.out).mono ?_
  rintro e w3 ⟨rfl, hB2⟩
  obtain ⟨v, hv⟩ : ∃ v, plVal L (a4, i4) = v := ⟨_, rfl⟩
  rw [hv]
  have Hv := Lib.hid hv; have HB2 := Lib.hid (HB1.out.trans (hB2.mono HB1.out.size))
  clear hv hB2
  refine hK _ _ (hSi HB2.out _) ?_
  clear hK
  try simp only [List.getElem_toArray, List.getElem_cons_zero, List.getElem_cons_succ, Act.put, List.setIfInBounds_toArray, List.set_cons_zero, List.set_cons_succ]
  refine WA.take (i := 8) (v := .bool (u != v)) rfl (by kernel_rfl) (by kernel_rfl) (by kernel_rfl) (fun _ _ _ h => h) (hdrop 8 (by decide)) (Or.inl ⟨by rfl, ?_⟩) (hSi HB2.out _) ?_
  · rintro w' ⟨L, hL, hSw, hun⟩
    go_simp
  simp only [List.getElem_toArray, List.getElem_cons_zero, List.getElem_cons_succ, Act.put, List.setIfInBounds_toArray, List.set_cons_zero, List.set_cons_succ]
  have cr := cell_later HB2.out cr
  have fr : w3.frozen? ⟨w.heap.size + 1, 0, none⟩ = false := (World.frozen?_of_block (a := ⟨w.heap.size + 1, 0, none⟩) (HB2.out.block _ (by show w.heap.size + 1 < X.heap.size; rw [hWd]; omega))).trans fr
  refine WA.one (i := 9) (by kernel_rfl) rfl (by rfl) (fun K hK => ?_)
  go_simp
  refine hK _ _ (hSd _ _ (by rfl)) ?_
  clear hK
  try simp only [List.getElem_toArray, List.getElem_cons_zero, List.getElem_cons_succ, Act.put, List.setIfInBounds_toArray, List.set_cons_zero, List.set_cons_succ]
  refine WA.done (by kernel_rfl) ?_ _
  refine Nrm.normal ?_
  have cr2 := World.cell?_setCell_same' w3 ⟨w.heap.size + 1, 0, none⟩ (.bool (u != v)) (by rw [cr]; rfl)
  clear hSo hSi hS hSd hdrop ca0 ca1 cb0 cb1 cr fr
  clear S7
  -- the end
  go_wp2_with fail
  refine ⟨rfl, .bool (u != v), ?_, by simp only [Hu.out, Hv.out], ?_⟩
  · have hres : Try.f31.results = #[.cell 4 4] := rfl
    simp only [results, hres]
    go_simp
  · exact ((HBd.out.trans (HB2.out.mono (by rw [hWd]; omega)))).setCell (p := ⟨w.heap.size + 1, 0, none⟩) (by simp) _
end
end Go.Proofs.Ytkgkkbfpkgfcaaa

namespace Go.Proofs.Ytkgkkbfpkgfcaaa
set_option maxRecDepth 100000
open Go.RowKit Go.Maps
attribute [local go_sem] Oper.semAt_some
set_option linter.unusedVariables false
set_option linter.unusedSimpArgs false

section
variable {Z : Zone} {w : World} {tb : Nat} {T : TS} {D : TabD}
set_option maxRecDepth 100000 in
set_option maxHeartbeats 4000000 in
theorem holds_absent {wb vb : Nat} {L : List Int} (ht : IsT Z w tb T D) (h : WkV w wb vb L) (hlen : L.length ≤ 1000000) (hp : w.cell? ⟨wb, 0, none⟩ = some (.pointer (some ⟨tb, 0, none⟩))) (s : StepT) (hk : s.kind = 2) (hs : s.r0.1 < L.length ∧ s.r1.1 < L.length ∧ s.r2.1 < L.length) (hr : rok (lookP L s)) :
    CallsIn Fence.wide 9 Try.prog 31 #[.pointer (some ⟨wb, 0, none⟩), stepv s] w fun e w' => e = .returned (.bool (decide (mlist T (lookP L s) 0 T.length 3 = []))) ∧ Below w.heap.size w w' := by
  obtain ⟨kk, ⟨a0, i0⟩, ⟨a1, i1⟩, ⟨a2, i2⟩, ⟨a3, i3⟩, ⟨a4, i4⟩⟩ := s
  simp only at hk
  subst hk
  have H := Lib.hid h; have Ht := Lib.hid ht; have Hr := Lib.hid hr; have Hs := Lib.hid hs; have Hlen := Lib.hid hlen
  have hlt := ht.lt
  have hlong := ht.long
  simp only [stepv]
  clear h ht hr hs hlen
  have hfn : ∀ k, Fence.wide.fn k := fun _ => trivial
  obtain ⟨hB0, hz0, hs0, hy0⟩ := two_blocks w (.cells #[.int .i64 2, .int .i64 a0, .int .u32 i0, .int .i64 a1, .int .u32 i1, .int .i64 a2, .int .u32 i2, .int .i64 a3, .int .u32 i3, .int .i64 a4, .int .u32 i4] 35) (.cells #[.bool false] 4) _ rfl
  have HB0 := Lib.hid hB0; have Hz0 := Lib.hid hz0; have HS0 := Lib.hid hs0; have HY0 := Lib.hid hy0
  have cy : ((w.alloc (.cells #[.int .i64 2, .int .i64 a0, .int .u32 i0, .int .i64 a1, .int .u32 i1, .int .i64 a2, .int .u32 i2, .int .i64 a3, .int .u32 i3, .int .i64 a4, .int .u32 i4] 35)).alloc (.cells #[.bool false] 4)).cell? ⟨w.heap.size, 0, none⟩ = some (.int .i64 2) := by unfold World.cell?; rw [hs0]; rfl
  clear hB0 hz0 hs0 hy0
  refine callsIn_of_wp_marks Try.func31 rfl trivial ?_ rfl
  simp only [Try.ntmps31, List.size_toArray, List.length_cons, List.length_nil, Nat.reduceAdd, Nat.reduceSub, Array.replicate_succ, Array.replicate_zero, List.push_toArray, List.append_toArray, List.nil_append, List.cons_append]
  gi_wp2_with fail
  generalize hW : (w.alloc (.cells #[.int .i64 2, .int .i64 a0, .int .u32 i0, .int .i64 a1, .int .u32 i1, .int .i64 a2, .int .u32 i2, .int .i64 a3, .int .u32 i3, .int .i64 a4, .int .u32 i4] 35)).alloc (.cells #[.bool false] 4) = W at *
  clear hW
  have hWd : W.drew.heap.size = w.heap.size + 2 := Hz0.out
  have cc : ∀ j, W.drew.cell? ⟨w.heap.size, j, none⟩ = W.cell? ⟨w.heap.size, j, none⟩ := fun j => rfl
  obtain ⟨ca0, ca1, ca2, ca3, ca4, ca5⟩ : W.drew.cell? ⟨w.heap.size, 1, none⟩ = some (.int .i64 a0) ∧ W.drew.cell? ⟨w.heap.size, 2, none⟩ = some (.int .u32 i0) ∧ W.drew.cell? ⟨w.heap.size, 3, none⟩ = some (.int .i64 a1) ∧ W.drew.cell? ⟨w.heap.size, 4, none⟩ = some (.int .u32 i1) ∧ W.drew.cell? ⟨w.heap.size, 5, none⟩ = some (.int .i64 a2) ∧ W.drew.cell? ⟨w.heap.size, 6, none⟩ = some (.int .u32 i2) := by
    simp only [cc]; unfold World.cell?; rw [HS0.out]; exact ⟨rfl, rfl, rfl, rfl, rfl, rfl⟩
  have cp : W.drew.cell? ⟨wb, 0, none⟩ = some (.pointer (some ⟨tb, 0, none⟩)) := cell_later HB0.out.drew hp
  have Hy := Lib.hid (show W.drew.heap[w.heap.size + 1]? = some (.cells #[.bool false] 4 (0, 0)) from HY0.out)
  obtain ⟨X, hX⟩ : ∃ X, X = W.drew := ⟨_, rfl⟩
  have HB0d : Below w.heap.size w W.drew := HB0.out.drew
  have HBd := Lib.hid HB0d
  clear cy cc HB0d
  obtain ⟨S3, hSe⟩ : ∃ S : Array Bool → World → Prop, S = fun L w' => L.getD 13 true = false → Below W.drew.heap.size W.drew w' := ⟨_, rfl⟩
  have hdrop : ∀ i, i ≠ 13 → ∀ L w', S3 (L.setIfInBounds i true) w' → S3 L w' := by
    intro i hi L w'
    rw [hSe]
    intro h hl
    exact h (by rw [getD_set_ne true hi]; exact hl)
  have hS : ∀ L, S3 L W.drew := by intro L; rw [hSe]; exact fun _ => Below.refl _ _
  have hSo : ∀ {L w'}, S3 L w' → L.getD 13 true = false → Below W.drew.heap.size W.drew w' := by intro L w' h hl; rw [hSe] at h; exact h hl
  have hSi : ∀ {w'}, Below W.drew.heap.size W.drew w' → ∀ L, S3 L w' := by intro w' h L; rw [hSe]; exact fun _ => h
  have hSd : ∀ (L : Array Bool) X, L.getD 13 true = true → S3 L X := by
    intro L X h; rw [hSe]; intro h1; rw [h] at h1; cases h1
  clear hSe
  refine wpIn_region_LI S3 14 #[false, false, false, false, false, false, false, false, false, false, false, false, false, false] (by kernel_rfl) (by kernel_rfl) rfl ?_
  rw [← hX] at hWd ca0 ca1 ca2 ca3 ca4 ca5 cp Hy hSo hSi hS HBd ⊢
  clear hX
  refine WI.take (i := 0) (v := .pointer (some ⟨wb, 0, none⟩)) rfl rfl rfl (by kernel_rfl) (by kernel_rfl) (by kernel_rfl) (fun _ _ _ h => h) (hdrop 0 (by decide)) (Or.inl ⟨by rfl, ?_⟩) (hS _) ?_
  · rintro w' ⟨L, hL, hSw, hun⟩
    go_simp
  simp only [List.getElem_toArray, List.getElem_cons_zero, List.getElem_cons_succ, Act.put, List.setIfInBounds_toArray, List.set_cons_zero, List.set_cons_succ]
  refine WI.take (i := 1) (v := .pointer (some ⟨wb, 0, none⟩)) rfl rfl rfl (by kernel_rfl) (by kernel_rfl) (by kernel_rfl) (fun _ _ _ h => h) (hdrop 1 (by decide)) (Or.inl ⟨by rfl, ?_⟩) (hS _) ?_
  · rintro w' ⟨L, hL, hSw, hun⟩
    go_simp
  simp only [List.getElem_toArray, List.getElem_cons_zero, List.getElem_cons_succ, Act.put, List.setIfInBounds_toArray, List.set_cons_zero, List.set_cons_succ]
  refine WI.take (i := 2) (v := .pointer (some ⟨wb, 0, none⟩)) rfl rfl rfl (by kernel_rfl) (by kernel_rfl) (by kernel_rfl) (fun _ _ _ h => h) (hdrop 2 (by decide)) (Or.inl ⟨by rfl, ?_⟩) (hS _) ?_
  · rintro w' ⟨L, hL, hSw, hun⟩
    go_simp
  simp only [List.getElem_toArray, List.getElem_cons_zero, List.getElem_cons_succ, Act.put, List.setIfInBounds_toArray, List.set_cons_zero, List.set_cons_succ]
  refine WI.take (i := 3) (v := .pointer (some ⟨tb, 0, none⟩)) rfl rfl rfl (by kernel_rfl) (by kernel_rfl) (by kernel_rfl) (fun _ _ _ h => h) (hdrop 3 (by decide)) (Or.inl ⟨by rfl, ?_⟩) (hS _) ?_
  · rintro w' ⟨L, hL, hSw, hun⟩
    have hbw := hSo hSw (hL.wait 13 3 (by kernel_rfl) hun)
    have cp := cell_later hbw cp
    clear hbw
    go_simp
  simp only [List.getElem_toArray, List.getElem_cons_zero, List.getElem_cons_succ, Act.put, List.setIfInBounds_toArray, List.set_cons_zero, List.set_cons_succ]
  refine WI.take (i := 4) (v := .pointer (some ⟨wb, 0, none⟩)) rfl rfl rfl (by kernel_rfl) (by kernel_rfl) (by kernel_rfl) (fun _ _ _ h => h) (hdrop 4 (by decide)) (Or.inl ⟨by rfl, ?_⟩) (hS _) ?_
  · rintro w' ⟨L, hL, hSw, hun⟩
    go_simp
  simp only [List.getElem_toArray, List.getElem_cons_zero, List.getElem_cons_succ, Act.put, List.setIfInBounds_toArray, List.set_cons_zero, List.set_cons_succ]
  refine WI.take (i := 5) (v := .pointer (some ⟨w.heap.size, 1, none⟩)) rfl rfl rfl (by kernel_rfl) (by kernel_rfl) (by kernel_rfl) (fun _ _ _ h => h) (hdrop 5 (by decide)) (Or.inl ⟨by rfl, ?_⟩) (hS _) ?_
  · rintro w' ⟨L, hL, hSw, hun⟩
    go_simp
  simp only [List.getElem_toArray, List.getElem_cons_zero, List.getElem_cons_succ, Act.put, List.setIfInBounds_toArray, List.set_cons_zero, List.set_cons_succ]
  refine WI.take (i := 6) (v := .agg #[.int .i64 a0, .int .u32 i0, .int .i64 a1, .int .u32 i1, .int .i64 a2, .int .u32 i2]) rfl rfl rfl (by kernel_rfl) (by kernel_rfl) (by kernel_rfl) (fun _ _ _ h => h) (hdrop 6 (by decide)) (Or.inl ⟨by rfl, ?_⟩) (hS _) ?_
  · rintro w' ⟨L, hL, hSw, hun⟩
    have hbw := hSo hSw (hL.wait 13 7 (by kernel_rfl) (hL.wait 7 6 (by kernel_rfl) hun))
    have ca0 := cell_later hbw ca0
    have ca1 := cell_later hbw ca1
    have ca2 := cell_later hbw ca2
    have ca3 := cell_later hbw ca3
    have ca4 := cell_later hbw ca4
    have ca5 := cell_later hbw ca5
    clear hbw
    go_simp
  simp only [List.getElem_toArray, List.getElem_cons_zero, List.getElem_cons_succ, Act.put, List.setIfInBounds_toArray, List.set_cons_zero, List.set_cons_succ]
  refine WI.take (i := 8) (v := .pointer (some ⟨wb, 0, none⟩)) rfl rfl rfl (by kernel_rfl) (by kernel_rfl) (by kernel_rfl) (fun _ _ _ h => h) (hdrop 8 (by decide)) (Or.inl ⟨by rfl, ?_⟩) (hS _) ?_
  · rintro w' ⟨L, hL, hSw, hun⟩
    go_simp
  simp only [List.getElem_toArray, List.getElem_cons_zero, List.getElem_cons_succ, Act.put, List.setIfInBounds_toArray, List.set_cons_zero, List.set_cons_succ]
  refine WI.take (i := 9) (v := .pointer (some ⟨wb, 0, none⟩)) rfl rfl rfl (by kernel_rfl) (by kernel_rfl) (by kernel_rfl) (fun _ _ _ h => h) (hdrop 9 (by decide)) (Or.inl ⟨by rfl, ?_⟩) (hS _) ?_
  · rintro w' ⟨L, hL, hSw, hun⟩
    go_simp
  simp only [List.getElem_toArray, List.getElem_cons_zero, List.getElem_cons_succ, Act.put, List.setIfInBounds_toArray, List.set_cons_zero, List.set_cons_succ]
  refine WI.take (i := 10) (v := .pointer (some ⟨wb, 0, none⟩)) rfl rfl rfl (by kernel_rfl) (by kernel_rfl) (by kernel_rfl) (fun _ _ _ h => h) (hdrop 10 (by decide)) (Or.inl ⟨by rfl, ?_⟩) (hS _) ?_
  · rintro w' ⟨L, hL, hSw, hun⟩
    go_simp
  simp only [List.getElem_toArray, List.getElem_cons_zero, List.getElem_cons_succ, Act.put, List.setIfInBounds_toArray, List.set_cons_zero, List.set_cons_succ]
  refine WI.take (i := 11) (v := .pointer (some ⟨tb, 0, none⟩)) rfl rfl rfl (by kernel_rfl) (by kernel_rfl) (by kernel_rfl) (fun _ _ _ h => h) (hdrop 11 (by decide)) (Or.inl ⟨by rfl, ?_⟩) (hS _) ?_
  · rintro w' ⟨L, hL, hSw, hun⟩
    have hbw := hSo hSw (hL.wait 13 12 (by kernel_rfl) (hL.wait 12 11 (by kernel_rfl) hun))
    have cp := cell_later hbw cp
    clear hbw
    go_simp
  simp only [List.getElem_toArray, List.getElem_cons_zero, List.getElem_cons_succ, Act.put, List.setIfInBounds_toArray, List.set_cons_zero, List.set_cons_succ]
  refine WI.one (i := 7) (by kernel_rfl) rfl (by rfl) (fun K hK => ?_)
  unfold Oper.wpIn
  go_simp
  refine (callsIn_wide.2 (look_any (H.out.below HBd.out) Hlen.out ⟨2, (a0, i0), (a1, i1), (a2, i2), (a3, i3), (a4, i4)⟩ Hs.out)).mono ?_
  rintro e w2 ⟨rfl, hB2⟩
  obtain ⟨⟨x0, x1, x2⟩, hu⟩ : ∃ u, lookP L ⟨2, (a0, i0), (a1, i1), (a2, i2), (a3, i3), (a4, i4)⟩ = u := ⟨_, rfl⟩
  rw [hu] at Hr ⊢
  have Hlk := Lib.hid hu
  have HB1 := Lib.hid hB2
  clear hu hB2
  refine hK _ _ (hSi HB1.out _) ?_
  clear hK
  try simp only [List.getElem_toArray, List.getElem_cons_zero, List.getElem_cons_succ, Act.put, List.setIfInBounds_toArray, List.set_cons_zero, List.set_cons_succ]
  refine WI.one (i := 12) (by kernel_rfl) rfl (by rfl) (fun K hK => ?_)
  unfold Oper.wpIn
  go_simp
  have HB2 := Lib.hid (HBd.out.trans (HB1.out.mono (by rw [hWd]; omega)))
  refine (callsIn_wide.2 (len_any (Ht.out.below HB2.out))).mono ?_
  rintro e w3 ⟨rfl, hw3⟩
  rw [← hw3]
  clear hw3
  refine hK _ _ (hSi HB1.out _) ?_
  clear hK
  try simp only [List.getElem_toArray, List.getElem_cons_zero, List.getElem_cons_succ, Act.put, List.setIfInBounds_toArray, List.set_cons_zero, List.set_cons_succ]
  refine WI.one (i := 13) (by kernel_rfl) rfl (by rfl) (fun K hK => ?_)
  unfold Oper.wpIn
  go_simp
  refine (callsIn_wide.2 (match_any _ tb (x0, x1, x2) 0 T.length 3)).mono ?_
  rintro e W2 ⟨rfl, hB3, hz3, hm3⟩
  refine hK _ _ (hSd _ _ (by rfl)) ?_
  clear hK
  try simp only [List.getElem_toArray, List.getElem_cons_zero, List.getElem_cons_succ, Act.put, List.setIfInBounds_toArray, List.set_cons_zero, List.set_cons_succ]
  refine WI.done (by kernel_rfl) ?_ _
  refine Nrm.normal ?_
  have Hm := Lib.hid hm3
  have hzx : w.heap.size + 2 ≤ w2.heap.size := by have := HB1.out.size; omega
  have Hy2 := Lib.hid ((hB3.block _ (by omega)).trans ((HB1.out.block _ (by rw [hWd]; omega)).trans Hy.out))
  have HB3 := Lib.hid (HB2.out.trans (hB3.mono HB2.out.size))
  obtain ⟨B, hb⟩ : ∃ B, w2.heap.size = B := ⟨_, rfl⟩
  rw [hb] at Hm hzx hz3 ⊢
  have hBx : ∀ i, i < w.heap.size → W2.heap[i]? = w.heap[i]? := fun i hi => HB3.out.block i hi
  have Hx := Lib.hid hBx; have Hzx := Lib.hid hzx; have Hz3 := Lib.hid hz3
  have hlt2 : ∀ i, MKeep w.heap.size B i → i < W2.heap.size := by
    intro i hi
    rcases hi with h | h <;> omega
  clear hSo hSi hS hSd hdrop ca0 ca1 ca2 ca3 ca4 ca5 cp hm3 hB3 hb hBx hzx hz3 hWd
  clear S3
  gi_wp2_with fail
  refine wpIn_rangeFunc_two (fun t x => (t.setIfInBounds 23 (.int .i64 (x : Nat))).setIfInBounds 24 (rv (rowOf T x))) rfl (by decide) (gf := 43) (lb := #[.pointer (some ⟨B, 0, none⟩), .pointer (some ⟨B + 2, 0, none⟩), .pointer (some ⟨B + 3, 0, none⟩), .pointer (some ⟨B + 1, 0, none⟩), .pointer (some ⟨B + 4, 0, none⟩)]) rfl trivial (enters_of Try.func43 (by kernel_rfl) rfl)
    (match1_stops (9 - 1) B tb (x0, x1, x2) Hr.out 0 T.length 3 Ht.out (fun i hi => Hx.out i hi) (by have := Hz3.out; have := Hzx.out; omega) Hm.out (by have := Hz3.out; omega)) KeepS.t (fun W l o o' hl _ _ _ => KeepS.put hlt2 W l o o' hl) (Below.refl _ _)
    (fun pre W => pre = [] ∧ Below w.heap.size w W ∧ W.heap[w.heap.size + 1]? = some (.cells #[.bool false] 4 (0, 0)))
    (fun c pre W => c = .ret ∧ pre ≠ [] ∧ Below w.heap.size w W ∧ W.heap[w.heap.size + 1]? = some (.cells #[.bool false] 4 (0, 0)))
    (by
      rintro pre W W' row ⟨rfl, h1, h2⟩ hg hr
      refine ⟨rfl, h1.grown hg (Nat.le_trans (Nat.le_refl _) h1.size) (fun r e => by have := (hr r e).1; have := Hz3.out; have := Hzx.out; omega), (hg.block _ (Array.getElem?_eq_some_iff.1 h2).1 (fun e => ?_)).trans h2⟩
      have := (hr _ e.symm).1; have := Hz3.out; have := Hzx.out; omega)
    (by
      rintro c pre W W' row ⟨rfl, h0, h1, h2⟩ hg hr
      refine ⟨rfl, h0, h1.grown hg (Nat.le_trans (Nat.le_refl _) h1.size) (fun r e => by have := (hr r e).1; have := Hz3.out; have := Hzx.out; omega), (hg.block _ (Array.getElem?_eq_some_iff.1 h2).1 (fun e => ?_)).trans h2⟩
      have := (hr _ e.symm).1; have := Hz3.out; have := Hzx.out; omega)
    ⟨rfl, HB3.out, Hy2.out⟩
    ?assign ?body ?done ?stop
  case assign =>
    intro l x W K hK
    gi_wp2
    exact hK
  case body =>
    rintro l pre x W ⟨rfl, hB, hy⟩ hlen
    obtain ⟨c6, f6⟩ := jbox_cell hy
    have HB := Lib.hid hB; have HY := Lib.hid hy
    clear hB hy
    gi_wp2_with fail
    exact ⟨KeepsOthers.setCell _ _ _, rfl, by simp, HB.out.setCell (p := ⟨w.heap.size + 1, 0, none⟩) (by simp) _, jbox_set HY.out _⟩
  case done =>
    rintro DD ys W hDD hys ⟨rfl, hB, hy⟩ hdef
    obtain ⟨c6, f6⟩ := jbox_cell hy
    have HB := Lib.hid hB; have HY := Lib.hid hy
    have hdD : DD ≠ w.heap.size + 1 := by have := Hz3.out; have := Hzx.out; omega
    have hdD0 : w.heap.size ≤ DD := by have := Hz3.out; have := Hzx.out; omega
    have HD := Lib.hid hdef; have HDw := Lib.hid hdD; have HDw0 := Lib.hid hdD0
    clear hB hy hdef hdD hdD0 hDD
    gi_wp2_with fail
    have hd1 : (W.setCell ⟨w.heap.size + 1, 0, none⟩ (.bool true)).heap[DD]? = some (.deferred (some [])) := (Below.heap_setCell _ _ _ DD HDw.out).trans HD.out
    refine ⟨by simp, .inl ⟨_, _, rfl, run_takeDeferred hd1, ?_⟩⟩
    have hcell : ((W.setCell ⟨w.heap.size + 1, 0, none⟩ (.bool true)).putObj DD (.deferred none)).cell? ⟨w.heap.size + 1, 0, none⟩ = some (.bool true) :=
      (World.cell?_of_block (a := ⟨w.heap.size + 1, 0, none⟩) (World.putObj_heap_other (Ne.symm HDw.out))).trans (jbox_cell (jbox_set HY.out _)).1
    have hBf : Below w.heap.size w ((W.setCell ⟨w.heap.size + 1, 0, none⟩ (.bool true)).putObj DD (.deferred none)) := (HB.out.setCell (p := ⟨w.heap.size + 1, 0, none⟩) (by simp) _).trans (belowK_b (w := w) (Nat.le_refl _) _ DD _ _ HDw0.out hd1 rfl rfl)
    generalize ((W.setCell ⟨w.heap.size + 1, 0, none⟩ (.bool true)).putObj DD (.deferred none)) = Wf at *
    refine ⟨.bool true, ?_, by rw [Hlk.out, ← hys]; rfl, hBf⟩
    have hres : Try.f31.results = #[.cell 4 4] := rfl
    simp only [results, hres]
    go_simp
  case stop =>
    rintro DD c pre W hDD hp ⟨rfl, hne, hB, hy⟩ hdef
    have hdD : DD ≠ w.heap.size + 1 := by have := Hz3.out; have := Hzx.out; omega
    have hdD0 : w.heap.size ≤ DD := by have := Hz3.out; have := Hzx.out; omega
    have HB := Lib.hid hB; have HY := Lib.hid hy
    have HD := Lib.hid hdef; have HDw := Lib.hid hdD; have HDw0 := Lib.hid hdD0
    clear hB hy hdef hdD hdD0 hDD
    gi_wp2_with fail
    refine ⟨by simp, .inl ⟨_, _, rfl, run_takeDeferred HD.out, ?_⟩⟩
    have hcell : (W.putObj DD (.deferred none)).cell? ⟨w.heap.size + 1, 0, none⟩ = some (.bool false) :=
      (World.cell?_of_block (a := ⟨w.heap.size + 1, 0, none⟩) (World.putObj_heap_other (Ne.symm HDw.out))).trans (jbox_cell HY.out).1
    have hBf : Below w.heap.size w (W.putObj DD (.deferred none)) := HB.out.trans (belowK_b (w := w) (Nat.le_refl _) _ DD _ _ HDw0.out HD.out rfl rfl)
    have hnl : decide (mlist T (x0, x1, x2) 0 T.length 3 = []) = false := by
      simp only [decide_eq_false_iff_not]
      intro e
      rw [e] at hp
      exact hne (List.prefix_nil.1 hp)
    generalize (W.putObj DD (.deferred none)) = Wf at *
    refine ⟨.bool false, ?_, by rw [Hlk.out, hnl], hBf⟩
    have hres : Try.f31.results = #[.cell 4 4] := rfl
    simp only [results, hres]
    go_simp
end
end Go.Proofs.Ytkgkkbfpkgfcaaa
