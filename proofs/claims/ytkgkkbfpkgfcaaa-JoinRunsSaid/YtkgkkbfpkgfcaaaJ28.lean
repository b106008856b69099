/- Layer 14: Head, walked. -/
import Derived.Test.YtkgkkbfpkgfcaaaJ21
namespace Go.Proofs.Ytkgkkbfpkgfcaaa
set_option maxRecDepth 100000
open Go.RowKit Go.Maps
set_option linter.unusedVariables false
set_option linter.unusedSimpArgs false

/-- a place of the head, by a binding -/
def headV (L : List Int) (x : Pl) : Int := if x.1 < 0 then x.2 else if x.1 < L.length then L.getD x.1.toNat 0 else 0
theorem three_blocks (w : World) (o0 o1 o2 : Obj) : ∀ W, W = ((w.alloc o0).alloc o1).alloc o2 → Below w.heap.size w W ∧ W.heap.size = w.heap.size + 3 ∧ W.heap[w.heap.size]? = some o0 ∧ W.heap[w.heap.size + 1]? = some o1 ∧ W.heap[w.heap.size + 1 + 1]? = some o2 := by
  rintro W rfl
  obtain ⟨h1, h2, h3, h4⟩ := two_blocks w o0 o1 _ rfl
  have hb : Below ((w.alloc o0).alloc o1).heap.size ((w.alloc o0).alloc o1) (((w.alloc o0).alloc o1).alloc o2) := (Below.refl _ _).alloc (Nat.le_refl _) _
  have hx := World.alloc_heap_new ((w.alloc o0).alloc o1) o2
  rw [h2] at hx
  exact ⟨h1.trans (hb.mono h1.size), by rw [World.size_alloc, h2], (hb.block _ (by omega)).trans h3, (hb.block _ (by omega)).trans h4, hx⟩
section
variable {w : World}
set_option maxRecDepth 100000 in
set_option maxHeartbeats 8000000 in
theorem head_any (a0 i0 a1 i1 a2 i2 : Int) (sa ba : Option Addr) (n cap bcap : Nat) (vars : Int) (L : List Int) (h : IsU w ba L) (hl : L.length ≤ 1000000) :
    Calls Try.prog 14 #[.agg #[.int .i64 a0, .int .u32 i0, .int .i64 a1, .int .u32 i1, .int .i64 a2, .int .u32 i2, .slice sa n cap, .int .i64 vars], .slice ba L.length bcap] w fun e w' =>
      e = .returned (.tuple #[rv (headV L (a0, i0), headV L (a1, i1), headV L (a2, i2)), .bool (!has0 (headV L (a0, i0), headV L (a1, i1), headV L (a2, i2)))]) ∧ Below w.heap.size w w' := by
  have H := Lib.hid h
  obtain ⟨x0, hx0⟩ : ∃ x, headV L (a0, i0) = x := ⟨_, rfl⟩
  obtain ⟨x1, hx1⟩ : ∃ x, headV L (a1, i1) = x := ⟨_, rfl⟩
  obtain ⟨x2, hx2⟩ : ∃ x, headV L (a2, i2) = x := ⟨_, rfl⟩
  obtain ⟨bl, hbl⟩ : ∃ bl, L.length = bl := ⟨_, rfl⟩
  rw [hx0, hx1, hx2, hbl]
  rw [hbl] at hl
  have Hx0 := Lib.hid hx0; have Hx1 := Lib.hid hx1; have Hx2 := Lib.hid hx2; have Hbl := Lib.hid hbl
  clear h hx0 hx1 hx2 hbl
  obtain ⟨hB0, hz0, hp0, hr0, hq0⟩ := three_blocks w (.cells #[.int .i64 a0, .int .u32 i0, .int .i64 a1, .int .u32 i1, .int .i64 a2, .int .u32 i2, .slice sa n cap, .int .i64 vars] 29) (.cells #[.int .u32 0, .int .u32 0, .int .u32 0] 58) (.cells #[.int .u32 0, .int .u32 0, .int .u32 0] 58) _ rfl
  have HB0 := Lib.hid hB0; have HP0 := Lib.hid hp0; have HR0 := Lib.hid hr0; have HQ0 := Lib.hid hq0
  clear hB0 hz0 hp0 hr0 hq0
  go_enter Try.func14, Try.ntmps14
  go_wp2_with fail
  go_loopw [11] (fun u wr => ∃ k : Nat, k ≤ 3 ∧ u = .int .i64 k ∧ Below w.heap.size w wr ∧ wr.heap[w.heap.size + 1]? = some (.cells #[.int .u32 0, .int .u32 0, .int .u32 0] 58 (0, 0)) ∧ wr.heap[w.heap.size + 1 + 1]? = some (.cells (lkC x0 x1 x2 k) 58 (0, 0))) (fun u _ => 3 - (intOf u).toNat)
  case atStart => exact ⟨0, by omega, rfl, HB0.out, HR0.out, HQ0.out⟩
  case round =>
    obtain ⟨k, hk, rfl, hB, hr, hq⟩ := hrel
    have HB := Lib.hid hB; have Hr := Lib.hid hr; have Hq := Lib.hid hq
    clear hB hr hq
    have hkk : k = 0 ∨ k = 1 ∨ k = 2 ∨ k = 3 := by omega
    rcases hkk with rfl | rfl | rfl | rfl
    · have hix := (idx_pl a0 i0 a1 i1 a2 i2 wr).1
      have hbW : Below wr.heap.size wr (wr.alloc (.cells #[.int .i64 a0, .int .u32 i0] 25)) := (Below.refl _ _).alloc (Nat.le_refl _) _
      have hqW := (hbW.block _ (Array.getElem?_eq_some_iff.1 Hq.out).1).trans Hq.out
      have hrW := (hbW.block _ (Array.getElem?_eq_some_iff.1 Hr.out).1).trans Hr.out
      obtain ⟨co, fo⟩ : ((wr.alloc (.cells #[.int .i64 a0, .int .u32 i0] 25)).cell? ⟨w.heap.size + 1 + 1, 0, none⟩ = some (.int .u32 0)) ∧ (wr.alloc (.cells #[.int .i64 a0, .int .u32 i0] 25)).frozen? ⟨w.heap.size + 1 + 1, 0, none⟩ = false := by unfold World.cell? World.frozen?; rw [hqW]; exact ⟨rfl, by simp⟩
      have HBW := Lib.hid (HB.out.trans (hbW.mono HB.out.size)); have HqW := Lib.hid hqW; have HrW := Lib.hid hrW
      have hst := blk_set hqW 0 (.int .u32 x0)
      rw [show (.int .u32 x0 : Value) = .int .u32 (R3.at (x0, x1, x2) 0) from rfl, lkC_step _ _ _ _ (by omega)] at hst
      have Hst := Lib.hid hst
      have HbW := Lib.hid hbW
      clear hbW hqW hrW hst
      by_cases hneg : a0 < 0
      · have hd1 : decide (a0 < 0) = true := by simpa using hneg
        have hv := Hx0.out
        unfold headV at hv
        rw [if_pos hneg] at hv
        simp only at hv
        subst hv
        go_wp2_with fail
        exact ⟨⟨0 + 1, by omega, rfl, HBW.out.setCell (p := ⟨w.heap.size + 1 + 1, 0, none⟩) (by simp; omega) _, (Below.heap_setCell _ _ _ _ (by simp)).trans HrW.out, Hst.out⟩, by simp [intOf]⟩
      · have hd1 : decide (a0 < 0) = false := by simpa using hneg
        have hv := Hx0.out
        unfold headV at hv
        rw [if_neg hneg] at hv
        simp only at hv
        by_cases hlt : a0 < (bl : Int)
        · have hd2 : decide (a0 < (bl : Int)) = true := by simpa using hlt
          rw [if_pos (by rw [Hbl.out]; exact hlt)] at hv
          obtain ⟨v, hvk⟩ : ∃ v : Nat, a0 = v := ⟨a0.toNat, by omega⟩
          have hvl : v < L.length := by rw [Hbl.out]; omega
          obtain ⟨bb, off, hba, hbb, hbc⟩ := (H.out.below (HB.out.trans (HbW.out.mono HB.out.size))) v hvl
          subst hvk
          rw [Int.toNat_natCast, List.getD_eq_getElem?_getD, List.getElem?_eq_getElem hvl, Option.getD_some] at hv
          rw [hv] at hbc
          subst hba
          clear hv hvl hbb
          go_wp2_with fail
          exact ⟨⟨0 + 1, by omega, rfl, HBW.out.setCell (p := ⟨w.heap.size + 1 + 1, 0, none⟩) (by simp; omega) _, (Below.heap_setCell _ _ _ _ (by simp)).trans HrW.out, Hst.out⟩, by simp [intOf]⟩
        · have hd2 : decide (a0 < (bl : Int)) = false := by simpa using hlt
          rw [if_neg (by rw [Hbl.out]; exact hlt)] at hv
          have hz : lkC x0 x1 x2 0 = lkC x0 x1 x2 (0 + 1) := by simp [lkC, ← hv]
          have Hz := Lib.hid hz
          clear hv hz
          go_wp2_with fail
          exact ⟨⟨0 + 1, by omega, rfl, HBW.out, HrW.out, by rw [← Hz.out]; exact HqW.out⟩, by simp [intOf]⟩
    · have hix := (idx_pl a0 i0 a1 i1 a2 i2 wr).2.1
      have hbW : Below wr.heap.size wr (wr.alloc (.cells #[.int .i64 a1, .int .u32 i1] 25)) := (Below.refl _ _).alloc (Nat.le_refl _) _
      have hqW := (hbW.block _ (Array.getElem?_eq_some_iff.1 Hq.out).1).trans Hq.out
      have hrW := (hbW.block _ (Array.getElem?_eq_some_iff.1 Hr.out).1).trans Hr.out
      obtain ⟨co, fo⟩ : ((wr.alloc (.cells #[.int .i64 a1, .int .u32 i1] 25)).cell? ⟨w.heap.size + 1 + 1, 1, none⟩ = some (.int .u32 0)) ∧ (wr.alloc (.cells #[.int .i64 a1, .int .u32 i1] 25)).frozen? ⟨w.heap.size + 1 + 1, 1, none⟩ = false := by unfold World.cell? World.frozen?; rw [hqW]; exact ⟨rfl, by simp⟩
      have HBW := Lib.hid (HB.out.trans (hbW.mono HB.out.size)); have HqW := Lib.hid hqW; have HrW := Lib.hid hrW
      have hst := blk_set hqW 1 (.int .u32 x1)
      rw [show (.int .u32 x1 : Value) = .int .u32 (R3.at (x0, x1, x2) 1) from rfl, lkC_step _ _ _ _ (by omega)] at hst
      have Hst := Lib.hid hst
      have HbW := Lib.hid hbW
      clear hbW hqW hrW hst
      by_cases hneg : a1 < 0
      · have hd1 : decide (a1 < 0) = true := by simpa using hneg
        have hv := Hx1.out
        unfold headV at hv
        rw [if_pos hneg] at hv
        simp only at hv
        subst hv
        go_wp2_with fail
        exact ⟨⟨1 + 1, by omega, rfl, HBW.out.setCell (p := ⟨w.heap.size + 1 + 1, 1, none⟩) (by simp; omega) _, (Below.heap_setCell _ _ _ _ (by simp)).trans HrW.out, Hst.out⟩, by simp [intOf]⟩
      · have hd1 : decide (a1 < 0) = false := by simpa using hneg
        have hv := Hx1.out
        unfold headV at hv
        rw [if_neg hneg] at hv
        simp only at hv
        by_cases hlt : a1 < (bl : Int)
        · have hd2 : decide (a1 < (bl : Int)) = true := by simpa using hlt
          rw [if_pos (by rw [Hbl.out]; exact hlt)] at hv
          obtain ⟨v, hvk⟩ : ∃ v : Nat, a1 = v := ⟨a1.toNat, by omega⟩
          have hvl : v < L.length := by rw [Hbl.out]; omega
          obtain ⟨bb, off, hba, hbb, hbc⟩ := (H.out.below (HB.out.trans (HbW.out.mono HB.out.size))) v hvl
          subst hvk
          rw [Int.toNat_natCast, List.getD_eq_getElem?_getD, List.getElem?_eq_getElem hvl, Option.getD_some] at hv
          rw [hv] at hbc
          subst hba
          clear hv hvl hbb
          go_wp2_with fail
          exact ⟨⟨1 + 1, by omega, rfl, HBW.out.setCell (p := ⟨w.heap.size + 1 + 1, 1, none⟩) (by simp; omega) _, (Below.heap_setCell _ _ _ _ (by simp)).trans HrW.out, Hst.out⟩, by simp [intOf]⟩
        · have hd2 : decide (a1 < (bl : Int)) = false := by simpa using hlt
          rw [if_neg (by rw [Hbl.out]; exact hlt)] at hv
          have hz : lkC x0 x1 x2 1 = lkC x0 x1 x2 (1 + 1) := by simp [lkC, ← hv]
          have Hz := Lib.hid hz
          clear hv hz
          go_wp2_with fail
          exact ⟨⟨1 + 1, by omega, rfl, HBW.out, HrW.out, by rw [← Hz.out]; exact HqW.out⟩, by simp [intOf]⟩
    · have hix := (idx_pl a0 i0 a1 i1 a2 i2 wr).2.2
      have hbW : Below wr.heap.size wr (wr.alloc (.cells #[.int .i64 a2, .int .u32 i2] 25)) := (Below.refl _ _).alloc (Nat.le_refl _) _
      have hqW := (hbW.block _ (Array.getElem?_eq_some_iff.1 Hq.out).1).trans Hq.out
      have hrW := (hbW.block _ (Array.getElem?_eq_some_iff.1 Hr.out).1).trans Hr.out
      obtain ⟨co, fo⟩ : ((wr.alloc (.cells #[.int .i64 a2, .int .u32 i2] 25)).cell? ⟨w.heap.size + 1 + 1, 2, none⟩ = some (.int .u32 0)) ∧ (wr.alloc (.cells #[.int .i64 a2, .int .u32 i2] 25)).frozen? ⟨w.heap.size + 1 + 1, 2, none⟩ = false := by unfold World.cell? World.frozen?; rw [hqW]; exact ⟨rfl, by simp⟩
      have HBW := Lib.hid (HB.out.trans (hbW.mono HB.out.size)); have HqW := Lib.hid hqW; have HrW := Lib.hid hrW
      have hst := blk_set hqW 2 (.int .u32 x2)
      rw [show (.int .u32 x2 : Value) = .int .u32 (R3.at (x0, x1, x2) 2) from rfl, lkC_step _ _ _ _ (by omega)] at hst
      have Hst := Lib.hid hst
      have HbW := Lib.hid hbW
      clear hbW hqW hrW hst
      by_cases hneg : a2 < 0
      · have hd1 : decide (a2 < 0) = true := by simpa using hneg
        have hv := Hx2.out
        unfold headV at hv
        rw [if_pos hneg] at hv
        simp only at hv
        subst hv
        go_wp2_with fail
        exact ⟨⟨2 + 1, by omega, rfl, HBW.out.setCell (p := ⟨w.heap.size + 1 + 1, 2, none⟩) (by simp; omega) _, (Below.heap_setCell _ _ _ _ (by simp)).trans HrW.out, Hst.out⟩, by simp [intOf]⟩
      · have hd1 : decide (a2 < 0) = false := by simpa using hneg
        have hv := Hx2.out
        unfold headV at hv
        rw [if_neg hneg] at hv
        simp only at hv
        by_cases hlt : a2 < (bl : Int)
        · have hd2 : decide (a2 < (bl : Int)) = true := by simpa using hlt
          rw [if_pos (by rw [Hbl.out]; exact hlt)] at hv
          obtain ⟨v, hvk⟩ : ∃ v : Nat, a2 = v := ⟨a2.toNat, by omega⟩
          have hvl : v < L.length := by rw [Hbl.out]; omega
          obtain ⟨bb, off, hba, hbb, hbc⟩ := (H.out.below (HB.out.trans (HbW.out.mono HB.out.size))) v hvl
          subst hvk
          rw [Int.toNat_natCast, List.getD_eq_getElem?_getD, List.getElem?_eq_getElem hvl, Option.getD_some] at hv
          rw [hv] at hbc
          subst hba
          clear hv hvl hbb
          go_wp2_with fail
          exact ⟨⟨2 + 1, by omega, rfl, HBW.out.setCell (p := ⟨w.heap.size + 1 + 1, 2, none⟩) (by simp; omega) _, (Below.heap_setCell _ _ _ _ (by simp)).trans HrW.out, Hst.out⟩, by simp [intOf]⟩
        · have hd2 : decide (a2 < (bl : Int)) = false := by simpa using hlt
          rw [if_neg (by rw [Hbl.out]; exact hlt)] at hv
          have hz : lkC x0 x1 x2 2 = lkC x0 x1 x2 (2 + 1) := by simp [lkC, ← hv]
          have Hz := Lib.hid hz
          clear hv hz
          go_wp2_with fail
          exact ⟨⟨2 + 1, by omega, rfl, HBW.out, HrW.out, by rw [← Hz.out]; exact HqW.out⟩, by simp [intOf]⟩
    · skip
      go_upto_region 10 with fail
      obtain ⟨e0, e1, e2⟩ : wr.drew.cell? ⟨w.heap.size + 1 + 1, 0, none⟩ = some (.int .u32 x0) ∧ wr.drew.cell? ⟨w.heap.size + 1 + 1, 1, none⟩ = some (.int .u32 x1) ∧ wr.drew.cell? ⟨w.heap.size + 1 + 1, 2, none⟩ = some (.int .u32 x2) := by
        show wr.cell? _ = _ ∧ wr.cell? _ = _ ∧ wr.cell? _ = _
        unfold World.cell?; rw [Hq.out]; exact ⟨rfl, rfl, rfl⟩
      obtain ⟨f0, f1, f2⟩ : wr.drew.cell? ⟨w.heap.size + 1, 0, none⟩ = some (.int .u32 0) ∧ wr.drew.cell? ⟨w.heap.size + 1, 1, none⟩ = some (.int .u32 0) ∧ wr.drew.cell? ⟨w.heap.size + 1, 2, none⟩ = some (.int .u32 0) := by
        show wr.cell? _ = _ ∧ wr.cell? _ = _ ∧ wr.cell? _ = _
        unfold World.cell?; rw [Hr.out]; exact ⟨rfl, rfl, rfl⟩
      have ff : ∀ j, wr.drew.frozen? ⟨w.heap.size + 1, j, none⟩ = false := fun j => by show wr.frozen? _ = _; unfold World.frozen?; rw [Hr.out]; simp
      have ff0 := ff 0; have ff1 := ff 1; have ff2 := ff 2
      have HBd := Lib.hid (show Below w.heap.size w wr.drew from HB.out.drew)
      have Hrd := Lib.hid (show wr.drew.heap[w.heap.size + 1]? = _ from Hr.out)
      clear ff
      obtain ⟨S10, hSe⟩ : ∃ S : Array Bool → World → Prop, S = fun L w' => L.getD 4 true = false → w' = wr.drew := ⟨_, rfl⟩
      have hdrop : ∀ i, i ≠ 4 → ∀ L w', S10 (L.setIfInBounds i true) w' → S10 L w' := by
        intro i hi L w'
        rw [hSe]
        intro h hl
        exact h (by rw [getD_set_ne true hi]; exact hl)
      have hS : ∀ L, S10 L wr.drew := by intro L; rw [hSe]; exact fun _ => rfl
      have hSo : ∀ {L w'}, S10 L w' → L.getD 4 true = false → w' = wr.drew := by intro L w' h hl; rw [hSe] at h; exact h hl
      have hSd : ∀ (L : Array Bool) X, L.getD 4 true = true → S10 L X := by
        intro L X h; rw [hSe]; intro h1; rw [h] at h1; cases h1
      clear hSe
      refine wp_region_LN S10 6 #[false, false, false, false, false, false] (by kernel_rfl) (by kernel_rfl) rfl ?_
      obtain ⟨X_, hX⟩ : ∃ X_, X_ = wr.drew := ⟨_, rfl⟩
      rw [← hX] at e0 e1 e2 f0 f1 f2 ff0 ff1 ff2 HBd Hrd hSo hS ⊢
      clear hX
      refine WA.take (i := 0) (v := .agg #[.int .u32 x0, .int .u32 x1, .int .u32 x2]) rfl (by kernel_rfl) (by kernel_rfl) (by kernel_rfl) (fun _ _ _ h => h) (hdrop 0 (by decide)) (Or.inl ⟨by rfl, ?_⟩) (hS _) ?_
      · rintro w' ⟨L, hL, hSw, hun⟩
        obtain rfl := hSo hSw (hL.wait 4 0 (by kernel_rfl) hun)
        go_simp
      simp only [List.getElem_toArray, List.getElem_cons_zero, List.getElem_cons_succ, Act.put, List.setIfInBounds_toArray, List.set_cons_zero, List.set_cons_succ]
      refine WA.take (i := 1) (v := .slice (some ⟨w.heap.size + 1 + 1, 0, none⟩) 3 3) rfl (by kernel_rfl) (by kernel_rfl) (by kernel_rfl) (fun _ _ _ h => h) (hdrop 1 (by decide)) (Or.inl ⟨by rfl, ?_⟩) (hS _) ?_
      · rintro w' ⟨L, hL, hSw, hun⟩
        go_simp
      simp only [List.getElem_toArray, List.getElem_cons_zero, List.getElem_cons_succ, Act.put, List.setIfInBounds_toArray, List.set_cons_zero, List.set_cons_succ]
      refine WA.one (i := 2) (by kernel_rfl) rfl (by rfl) (fun K hK => ?_)
      go_simp
      refine (contains3 X_ _ x0 x1 x2 0 e0 e1 e2).mono ?_
      rintro e w5 ⟨rfl, rfl⟩
      obtain ⟨q, hq⟩ : ∃ q, has3 x0 x1 x2 0 = q := ⟨_, rfl⟩
      rw [hq]
      have Hq3 := Lib.hid hq
      clear hq
      refine hK _ _ (hS _) ?_
      clear hK
      try simp only [List.getElem_toArray, List.getElem_cons_zero, List.getElem_cons_succ, Act.put, List.setIfInBounds_toArray, List.set_cons_zero, List.set_cons_succ]
      refine WA.take (i := 3) (v := .bool (!q)) rfl (by kernel_rfl) (by kernel_rfl) (by kernel_rfl) (fun _ _ _ h => h) (hdrop 3 (by decide)) (Or.inl ⟨by rfl, ?_⟩) (hS _) ?_
      · rintro w' ⟨L, hL, hSw, hun⟩
        go_simp
      simp only [List.getElem_toArray, List.getElem_cons_zero, List.getElem_cons_succ, Act.put, List.setIfInBounds_toArray, List.set_cons_zero, List.set_cons_succ]
      refine WA.one (i := 4) (by kernel_rfl) rfl (by rfl) (fun K hK => ?_)
      go_simp
      refine hK _ _ (hSd _ _ (by rfl)) ?_
      clear hK
      try simp only [List.getElem_toArray, List.getElem_cons_zero, List.getElem_cons_succ, Act.put, List.setIfInBounds_toArray, List.set_cons_zero, List.set_cons_succ]
      refine WA.take (i := 5) (v := .bool (!q)) rfl (by kernel_rfl) (by kernel_rfl) (by kernel_rfl) (fun _ _ _ h => h) (hdrop 5 (by decide)) (Or.inl ⟨by rfl, ?_⟩) (hSd _ _ (by rfl)) ?_
      · rintro w' ⟨L, hL, hSw, hun⟩
        go_simp
      simp only [List.getElem_toArray, List.getElem_cons_zero, List.getElem_cons_succ, Act.put, List.setIfInBounds_toArray, List.set_cons_zero, List.set_cons_succ]
      refine WA.done (by kernel_rfl) ?_ _
      refine Nrm.normal ?_
      clear hSo hS hSd hdrop
      clear S10
      go_wp2_with fail
      have hyf := blk_set (blk_set (blk_set Hrd.out 0 (.int .u32 x0)) 1 (.int .u32 x1)) 2 (.int .u32 x2)
      have hBf : Below w.heap.size w (((X_.setCell ⟨w.heap.size + 1, 0, none⟩ (.int .u32 x0)).setCell ⟨w.heap.size + 1, 1, none⟩ (.int .u32 x1)).setCell ⟨w.heap.size + 1, 2, none⟩ (.int .u32 x2)) := ((HBd.out.setCell (p := ⟨w.heap.size + 1, 0, none⟩) (by simp) _).setCell (p := ⟨w.heap.size + 1, 1, none⟩) (by simp) _).setCell (p := ⟨w.heap.size + 1, 2, none⟩) (by simp) _
      generalize (((X_.setCell ⟨w.heap.size + 1, 0, none⟩ (.int .u32 x0)).setCell ⟨w.heap.size + 1, 1, none⟩ (.int .u32 x1)).setCell ⟨w.heap.size + 1, 2, none⟩ (.int .u32 x2)) = Wf at *
      obtain ⟨g0, g1, g2⟩ : Wf.cell? ⟨w.heap.size + 1, 0, none⟩ = some (.int .u32 x0) ∧ Wf.cell? ⟨w.heap.size + 1, 1, none⟩ = some (.int .u32 x1) ∧ Wf.cell? ⟨w.heap.size + 1, 2, none⟩ = some (.int .u32 x2) := by unfold World.cell?; rw [hyf]; exact ⟨rfl, rfl, rfl⟩
      have hh : has0 (x0, x1, x2) = q := Hq3.out
      rw [hh]
      refine ⟨rfl, .tuple #[rv (x0, x1, x2), .bool (!q)], ?_, rfl, hBf⟩
      have hres : Try.f14.results = #[.cell 4 58, .tmp 5] := rfl
      simp only [results, hres, rv]
      clear e0 e1 e2 f0 f1 f2 ff0 ff1 ff2
      go_simp
end
end Go.Proofs.Ytkgkkbfpkgfcaaa
