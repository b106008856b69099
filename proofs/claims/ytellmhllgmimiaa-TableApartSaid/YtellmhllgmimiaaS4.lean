/- same: a table and the reference's look the same. -/
import Derived.Test.YtellmhllgmimiaaS3
namespace Go.Proofs.Ytellmhllgmimiaa
open Go.RowKit Go.Maps
set_option linter.unusedVariables false
set_option linter.unusedSimpArgs false

theorem quiet_eq {P : Program} {f : FuncId} {args : Array Value} {w : World} {n : Nat} {v : Value}
    (h : Calls P f args (w.drewN n) fun e w' => e = .returned v ∧ w.drewN n = w') : Calls P f args (w.drewN n) fun e w'' => e = .returned v ∧ ∃ m, w'' = w.drewN m :=
  h.mono fun _ _ ⟨he, hm⟩ => ⟨he, n, hm.symm⟩
theorem below_N (w : World) (n : Nat) : Below w.heap.size w (w.drewN n) := ⟨rfl, rfl, rfl, Nat.le_refl _, fun _ _ => rfl⟩
theorem cnt_first {T : TS} {p : Nat} {x : Int} (h : cnt T p x ≠ 0) : ∃ i, i < T.length ∧ firstD T p i = true ∧ R3.at (rowOf T i) p = x := by
  have h1 : ∃ i, i < T.length ∧ bitsOf T i ≠ 0 ∧ R3.at (rowOf T i) p = x := by
    have := List.countP_pos_iff.1 (Nat.pos_of_ne_zero h)
    obtain ⟨y, hy, hq⟩ := this
    obtain ⟨i, hi, rfl⟩ := List.getElem_of_mem hy
    simp only [Bool.and_eq_true, bne_iff_ne, ne_eq, beq_iff_eq] at hq
    exact ⟨i, hi, by simp [bitsOf, hi]; exact hq.1, by rw [rowOf_get T i hi]; exact hq.2⟩
  obtain ⟨i, h1⟩ := h1
  induction i using Nat.strongRecOn with
  | _ i ih =>
    by_cases hf : firstD T p i = true
    · exact ⟨i, h1.1, hf, h1.2.2⟩
    · obtain ⟨hi, hb, hx⟩ := h1
      have hall : ¬ (List.range i).all (okD T p i) = true := by
        intro ha
        exact hf (by simp [firstD, hb, ha])
      rw [List.all_eq_true] at hall
      have : ∃ k, k < i ∧ ¬ okD T p i k = true := by
        apply Classical.byContradiction
        intro hn
        apply hall
        intro k hk
        apply Classical.byContradiction
        intro hk2
        exact hn ⟨k, List.mem_range.1 hk, hk2⟩
      obtain ⟨k, hk, hko⟩ := this
      simp only [okD, Bool.or_eq_true, beq_iff_eq, bne_iff_ne, ne_eq, not_or, Classical.not_not] at hko
      exact ih k hk ⟨by omega, hko.1, hko.2.trans hx⟩
theorem dist_eq {T : TS} {p : Nat} {ks : List Int} (hp : p < 3) (hok : ∀ y ∈ T, yok y) (hn : ks.Nodup) (h32 : ∀ x ∈ ks, is32 x)
    (hk : ∀ x, is32 x → (x ∈ ks ↔ cnt T p x ≠ 0)) : ks.length = distR T p := by
  have hnd : (((List.range T.length).filter (firstD T p)).map fun i => R3.at (rowOf T i) p).Nodup := by
    unfold List.Nodup
    rw [List.pairwise_map, List.pairwise_filter]
    refine List.pairwise_lt_range.imp ?_
    intro a b hab ha hb he
    simp only [firstD, Bool.and_eq_true, bne_iff_ne, ne_eq, List.all_eq_true] at ha hb
    have := hb.2 a (List.mem_range.2 hab)
    simp [okD, he] at this
    exact ha.1 this
  have hm : ∀ x, x ∈ ((List.range T.length).filter (firstD T p)).map (fun i => R3.at (rowOf T i) p) ↔ x ∈ ks := by
    intro x
    constructor
    · intro hx
      obtain ⟨i, hi, rfl⟩ := List.mem_map.1 hx
      rw [List.mem_filter, List.mem_range] at hi
      have hb : bitsOf T i ≠ 0 := by
        have := hi.2
        simp only [firstD, Bool.and_eq_true, bne_iff_ne, ne_eq] at this
        exact this.1
      have hy := hok _ (List.getElem_mem hi.1)
      rw [rowOf_get T i hi.1]
      refine (hk _ ?_).2 ?_
      · obtain ⟨⟨h1, h2, h3⟩, _⟩ := hy
        unfold R3.at
        split
        · exact h1
        · split
          · exact h2
          · exact h3
      · have := cnt_pos hi.1 (by simpa [bitsOf, hi.1] using hb) p
        omega
    · intro hx
      obtain ⟨i, h1, h2, h3⟩ := cnt_first ((hk x (h32 x hx)).1 hx)
      exact List.mem_map.2 ⟨i, List.mem_filter.2 ⟨List.mem_range.2 h1, h2⟩, h3⟩
  have := ((List.perm_ext_iff_of_nodup hnd hn).2 hm).length_eq
  rw [List.length_map] at this
  exact this.symm
theorem live_take (T : TS) (n : Nat) (h : n < T.length) : live (T.take (n + 1)) = live (T.take n) + if T[n].2 ≠ 0 then 1 else 0 := by
  rw [List.take_succ_eq_append_getElem h]
  exact live_snoc _ _

section
variable {n0 : Nat} {w : World} {tb rb : Nat} {T : TS}
set_option maxRecDepth 100000 in
set_option maxHeartbeats 4000000 in
theorem same_any (h : Sts n0 w tb rb T T) : Calls Try.prog 18 #[.pointer (some ⟨tb, 0, none⟩), .pointer (some ⟨rb, 0, none⟩)] w fun e w' => e = .returned (.bool true) ∧ Below w.heap.size w w' := by
  obtain ⟨A, B, D, vr, vb, hst⟩ := h
  have HST := Lib.hid hst
  have hlong := hst.t.long
  obtain ⟨l, hl⟩ : ∃ l, T.length = l := ⟨_, rfl⟩
  have hll : l ≤ 1000000 := by omega
  have Hl := Lib.hid hl
  have hm1 : decide ((-1 : Int) ≤ (l : Int)) = true := decide_eq_true (by omega)
  clear hlong hst hl
  go_enter Try.func18, Try.ntmps18
  go_wp2_with fail
  go_loopw [5, 6] (fun u v wr => (v = .int .i64 (-1) ∧ u = .int .i64 0 ∨ ∃ n : Nat, n ≤ l + 1 ∧ v = .int .i64 n ∧ u = .int .i64 (live (T.take n) : Nat)) ∧ Below w.heap.size w wr) (fun _ v _ => l + 2 - (intOf v + 1).toNat)
  case atStart => exact ⟨.inl ⟨rfl, rfl⟩, Below.refl _ _⟩
  case round =>
    obtain ⟨hrel, hBr⟩ := hrel
    have hIr := (HST.out.below hBr).r
    obtain ⟨c0, c1, _⟩ := hIr.cells
    have hvl := hIr.rows.len (P := Try.prog) Try.underlying22 3
    rw [Hl.out] at hvl
    have HBr := Lib.hid hBr
    have HSr := Lib.hid (HST.out.below hBr)
    clear hBr
    rcases hrel with ⟨rfl, rfl⟩ | ⟨n, hn, rfl, rfl⟩
    · clear hIr c1
      go_wp2_with fail
      refine (get_no HSr.out.t (-1) (by omega)).mono ?_
      rintro e w2 ⟨rfl, hB2⟩
      have HB2 := Lib.hid (HBr.out.trans (hB2.mono HBr.out.size))
      have HS2 := Lib.hid (HSr.out.below hB2)
      clear hB2
      simp only [rv]
      go_wp2_with fail
      have BA : Below w2.heap.size w2 (w2.alloc (.cells #[.int .u32 0, .int .u32 0, .int .u32 0] 25)) := (Below.refl _ w2).alloc (Nat.le_refl _) _
      obtain ⟨a0, a1, a2⟩ := bx1 w2 0 0 0
      have Hz := Lib.hid (World.size_alloc w2 (.cells #[.int .u32 0, .int .u32 0, .int .u32 0] 25))
      generalize hWx : w2.alloc (.cells #[.int .u32 0, .int .u32 0, .int .u32 0] 25) = Wx at *
      clear hWx
      have HB3 := Lib.hid (HB2.out.trans (BA.mono HB2.out.size))
      have HS3 := Lib.hid (HS2.out.below BA)
      clear BA
      refine (rin_any HS3.out.r (-1)).mono ?_
      rintro e w3 ⟨rfl, rfl⟩
      rw [show decide (0 ≤ (-1) ∧ (-1) < (T.length : Int)) = false by simp]
      have he := eqRow 0 0 0 0 0 0
      rw [show ((0 : Int) == 0 && ((0 : Int) == 0 && (0 : Int) == 0)) = true by decide] at he
      go_wp2_with fail
      go_roundw
      case rel => exact ⟨.inr ⟨0, by omega, rfl, rfl⟩, HB3.out⟩
      case measure => simp [intOf]
    · obtain ⟨c, hc⟩ : ∃ c, live (T.take n) = c := ⟨_, rfl⟩
      have hcn : c ≤ n := by
        rw [← hc]; exact Nat.le_trans (live_le _) (by simp; omega)
      rw [hc]
      have Hc := Lib.hid hc
      clear hc
      by_cases hnl : n < l
      · have hd : decide ((n : Int) ≤ (l : Int)) = true := by simp; omega
        have hnT : n < T.length := by rw [Hl.out]; exact hnl
        have HnT := Lib.hid hnT
        obtain ⟨gr, capr, hvr, hgr, v0, v1, v2⟩ := hIr.row n hnT
        obtain ⟨gb, capb, hvb, hgb, b3, _, _⟩ := hIr.bit n hnT
        rw [hvr, Hl.out] at c0
        rw [hvb, Hl.out] at c1
        rw [hvr, Hl.out] at hvl
        have hy' := rowOf_get T n hnT
        obtain ⟨⟨y0, y1, y2⟩, hy⟩ : ∃ y, rowOf T n = y := ⟨_, rfl⟩
        rw [hy] at hy'
        have hv' : bitsOf T n = (T[n]'hnT).2 := by

          simp [bitsOf, hnT]
        obtain ⟨v, hv⟩ : ∃ v, bitsOf T n = v := ⟨_, rfl⟩
        rw [hv] at hv'
        have hlt := live_take T n hnT
        rw [← hy'] at v0 v1 v2
        rw [← hv'] at b3 hlt
        have Hy := Lib.hid hy'; have Hv := Lib.hid hv'; have Hlt := Lib.hid hlt
        clear hIr hvr hvb hy hv hlt hy' hv'
        go_wp2_with fail
        refine (get_yes HSr.out.t n HnT.out).mono ?_
        rw [← Hy.out, ← Hv.out]
        rintro e w2 ⟨rfl, hB2⟩
        have HB2 := Lib.hid (HBr.out.trans (hB2.mono HBr.out.size))
        have HS2 := Lib.hid (HSr.out.below hB2)
        have c0 := cell_later hB2 c0
        have c1 := cell_later hB2 c1
        have v0 := cell_later hB2 v0
        have v1 := cell_later hB2 v1
        have v2 := cell_later hB2 v2
        have b3 := cell_later hB2 b3
        clear hB2 hgr hgb
        simp only [rv]
        go_wp2_with fail
        have BA : Below w2.heap.size w2 (w2.alloc (.cells #[.int .u32 y0, .int .u32 y1, .int .u32 y2] 25)) := (Below.refl _ w2).alloc (Nat.le_refl _) _
        obtain ⟨a0, a1, a2⟩ := bx1 w2 y0 y1 y2
        generalize hWx : w2.alloc (.cells #[.int .u32 y0, .int .u32 y1, .int .u32 y2] 25) = Wx at *
        clear hWx
        have HB3 := Lib.hid (HB2.out.trans (BA.mono HB2.out.size))
        have HS3 := Lib.hid (HS2.out.below BA)
        have c0 := cell_later BA c0
        have c1 := cell_later BA c1
        have v0 := cell_later BA v0
        have v1 := cell_later BA v1
        have v2 := cell_later BA v2
        have b3 := cell_later BA b3
        clear BA
        refine (rin_any HS3.out.r n).mono ?_
        rintro e w3 ⟨rfl, rfl⟩
        rw [show decide (0 ≤ (n : Int) ∧ (n : Int) < (T.length : Int)) = true by have := HnT.out; simp; exact this]
        have he := eqRow y0 y1 y2 y0 y1 y2
        rw [show (y0 == y0 && (y1 == y1 && y2 == y2)) = true by simp] at he
        go_wp2_with fail
        have a0 : Wx.drew.cell? ⟨w2.heap.size, 0, none⟩ = _ := a0
        have a1 : Wx.drew.cell? ⟨w2.heap.size, 1, none⟩ = _ := a1
        have a2 : Wx.drew.cell? ⟨w2.heap.size, 2, none⟩ = _ := a2
        have c0 : Wx.drew.cell? ⟨rb, 0, none⟩ = _ := c0
        have c1 : Wx.drew.cell? ⟨rb, 1, none⟩ = _ := c1
        have v0 : Wx.drew.cell? ⟨gr, n * 3, none⟩ = _ := v0
        have v1 : Wx.drew.cell? ⟨gr, n * 3 + 1, none⟩ = _ := v1
        have v2 : Wx.drew.cell? ⟨gr, n * 3 + 2, none⟩ = _ := v2
        have b3 : Wx.drew.cell? ⟨gb, n, none⟩ = _ := b3
        have HB4 := Lib.hid HB3.out.drew
        obtain ⟨S9, hSe⟩ : ∃ S : Array Bool → World → Prop, S = fun _ w' => w' = Wx.drew := ⟨_, rfl⟩
        have hdrop : ∀ i : Nat, i ≠ 1000 → ∀ L w', S9 (L.setIfInBounds i true) w' → S9 L w' := by
          intro i _ L w' h; rw [hSe] at h ⊢; exact h
        have hS : ∀ L, S9 L Wx.drew := by intro L; rw [hSe]
        have hSo : ∀ {L w'}, S9 L w' → w' = Wx.drew := by intro L w' h; rw [hSe] at h; exact h
        clear hSe
        refine wp_region_LN S9 20 #[false, false, false, false, false, false, false, false, false, false, false, false, false, false, false, false, false, false, false, false] (by kernel_rfl) (by kernel_rfl) rfl ?_
        generalize Wx.drew = W9 at *
        refine WA.take (i := 0) (v := .agg #[.int .u32 y0, .int .u32 y1, .int .u32 y2]) rfl (by kernel_rfl) (by kernel_rfl) (by kernel_rfl) (fun _ _ _ h => h) (hdrop 0 (by decide)) (Or.inl ⟨by rfl, ?_⟩) (hS _) ?_
        · rintro w' ⟨L, hL, hSw, hun⟩
          obtain rfl := hSo hSw 
          go_simp
        simp only [List.getElem_toArray, List.getElem_cons_zero, List.getElem_cons_succ, Act.put, List.setIfInBounds_toArray, List.set_cons_zero, List.set_cons_succ]
        refine WA.take (i := 1) (v := .pointer (some ⟨rb, 0, none⟩)) rfl (by kernel_rfl) (by kernel_rfl) (by kernel_rfl) (fun _ _ _ h => h) (hdrop 1 (by decide)) (Or.inl ⟨by rfl, ?_⟩) (hS _) ?_
        · rintro w' ⟨L, hL, hSw, hun⟩
          go_simp
        simp only [List.getElem_toArray, List.getElem_cons_zero, List.getElem_cons_succ, Act.put, List.setIfInBounds_toArray, List.set_cons_zero, List.set_cons_succ]
        refine WA.take (i := 2) (v := .pointer (some ⟨rb, 0, none⟩)) rfl (by kernel_rfl) (by kernel_rfl) (by kernel_rfl) (fun _ _ _ h => h) (hdrop 2 (by decide)) (Or.inl ⟨by rfl, ?_⟩) (hS _) ?_
        · rintro w' ⟨L, hL, hSw, hun⟩
          go_simp
        simp only [List.getElem_toArray, List.getElem_cons_zero, List.getElem_cons_succ, Act.put, List.setIfInBounds_toArray, List.set_cons_zero, List.set_cons_succ]
        refine WA.take (i := 3) (v := .pointer (some ⟨rb, 0, none⟩)) rfl (by kernel_rfl) (by kernel_rfl) (by kernel_rfl) (fun _ _ _ h => h) (hdrop 3 (by decide)) (Or.inl ⟨by rfl, ?_⟩) (hS _) ?_
        · rintro w' ⟨L, hL, hSw, hun⟩
          go_simp
        simp only [List.getElem_toArray, List.getElem_cons_zero, List.getElem_cons_succ, Act.put, List.setIfInBounds_toArray, List.set_cons_zero, List.set_cons_succ]
        refine WA.take (i := 4) (v := .slice (some ⟨gr, 0, none⟩) l capr) rfl (by kernel_rfl) (by kernel_rfl) (by kernel_rfl) (fun _ _ _ h => h) (hdrop 4 (by decide)) (Or.inl ⟨by rfl, ?_⟩) (hS _) ?_
        · rintro w' ⟨L, hL, hSw, hun⟩
          obtain rfl := hSo hSw 
          go_simp
        simp only [List.getElem_toArray, List.getElem_cons_zero, List.getElem_cons_succ, Act.put, List.setIfInBounds_toArray, List.set_cons_zero, List.set_cons_succ]
        refine WA.take (i := 5) (v := .int .i64 (n : Int)) rfl (by kernel_rfl) (by kernel_rfl) (by kernel_rfl) (fun _ _ _ h => h) (hdrop 5 (by decide)) (Or.inl ⟨by rfl, ?_⟩) (hS _) ?_
        · rintro w' ⟨L, hL, hSw, hun⟩
          go_simp
        simp only [List.getElem_toArray, List.getElem_cons_zero, List.getElem_cons_succ, Act.put, List.setIfInBounds_toArray, List.set_cons_zero, List.set_cons_succ]
        refine WA.take (i := 6) (v := .pointer (some ⟨gr, n * 3, none⟩)) rfl (by kernel_rfl) (by kernel_rfl) (by kernel_rfl) (fun _ _ _ h => h) (hdrop 6 (by decide)) (Or.inl ⟨by rfl, ?_⟩) (hS _) ?_
        · rintro w' ⟨L, hL, hSw, hun⟩
          go_simp
        simp only [List.getElem_toArray, List.getElem_cons_zero, List.getElem_cons_succ, Act.put, List.setIfInBounds_toArray, List.set_cons_zero, List.set_cons_succ]
        refine WA.take (i := 7) (v := .agg #[.int .u32 y0, .int .u32 y1, .int .u32 y2]) rfl (by kernel_rfl) (by kernel_rfl) (by kernel_rfl) (fun _ _ _ h => h) (hdrop 7 (by decide)) (Or.inl ⟨by rfl, ?_⟩) (hS _) ?_
        · rintro w' ⟨L, hL, hSw, hun⟩
          obtain rfl := hSo hSw 
          go_simp
        simp only [List.getElem_toArray, List.getElem_cons_zero, List.getElem_cons_succ, Act.put, List.setIfInBounds_toArray, List.set_cons_zero, List.set_cons_succ]
        refine WA.take (i := 8) (v := .bool false) rfl (by kernel_rfl) (by kernel_rfl) (by kernel_rfl) (fun _ _ _ h => h) (hdrop 8 (by decide)) (Or.inl ⟨by rfl, ?_⟩) (hS _) ?_
        · rintro w' ⟨L, hL, hSw, hun⟩
          go_simp
        simp only [List.getElem_toArray, List.getElem_cons_zero, List.getElem_cons_succ, Act.put, List.setIfInBounds_toArray, List.set_cons_zero, List.set_cons_succ]
        refine WA.take (i := 9) (v := .bool false) rfl (by kernel_rfl) (by kernel_rfl) (by kernel_rfl) (fun _ _ _ h => h) (hdrop 9 (by decide)) (Or.inl ⟨by rfl, ?_⟩) (hS _) ?_
        · rintro w' ⟨L, hL, hSw, hun⟩
          go_simp
        simp only [List.getElem_toArray, List.getElem_cons_zero, List.getElem_cons_succ, Act.put, List.setIfInBounds_toArray, List.set_cons_zero, List.set_cons_succ]
        refine WA.take (i := 10) (v := .int .u8 v) rfl (by kernel_rfl) (by kernel_rfl) (by kernel_rfl) (fun _ _ _ h => h) (hdrop 10 (by decide)) (Or.inl ⟨by rfl, ?_⟩) (hS _) ?_
        · rintro w' ⟨L, hL, hSw, hun⟩
          go_simp
        simp only [List.getElem_toArray, List.getElem_cons_zero, List.getElem_cons_succ, Act.put, List.setIfInBounds_toArray, List.set_cons_zero, List.set_cons_succ]
        refine WA.take (i := 11) (v := .pointer (some ⟨rb, 0, none⟩)) rfl (by kernel_rfl) (by kernel_rfl) (by kernel_rfl) (fun _ _ _ h => h) (hdrop 11 (by decide)) (Or.inl ⟨by rfl, ?_⟩) (hS _) ?_
        · rintro w' ⟨L, hL, hSw, hun⟩
          go_simp
        simp only [List.getElem_toArray, List.getElem_cons_zero, List.getElem_cons_succ, Act.put, List.setIfInBounds_toArray, List.set_cons_zero, List.set_cons_succ]
        refine WA.take (i := 12) (v := .pointer (some ⟨rb, 0, none⟩)) rfl (by kernel_rfl) (by kernel_rfl) (by kernel_rfl) (fun _ _ _ h => h) (hdrop 12 (by decide)) (Or.inl ⟨by rfl, ?_⟩) (hS _) ?_
        · rintro w' ⟨L, hL, hSw, hun⟩
          go_simp
        simp only [List.getElem_toArray, List.getElem_cons_zero, List.getElem_cons_succ, Act.put, List.setIfInBounds_toArray, List.set_cons_zero, List.set_cons_succ]
        refine WA.take (i := 13) (v := .pointer (some ⟨rb, 1, none⟩)) rfl (by kernel_rfl) (by kernel_rfl) (by kernel_rfl) (fun _ _ _ h => h) (hdrop 13 (by decide)) (Or.inl ⟨by rfl, ?_⟩) (hS _) ?_
        · rintro w' ⟨L, hL, hSw, hun⟩
          go_simp
        simp only [List.getElem_toArray, List.getElem_cons_zero, List.getElem_cons_succ, Act.put, List.setIfInBounds_toArray, List.set_cons_zero, List.set_cons_succ]
        refine WA.take (i := 14) (v := .slice (some ⟨gb, 0, none⟩) l capb) rfl (by kernel_rfl) (by kernel_rfl) (by kernel_rfl) (fun _ _ _ h => h) (hdrop 14 (by decide)) (Or.inl ⟨by rfl, ?_⟩) (hS _) ?_
        · rintro w' ⟨L, hL, hSw, hun⟩
          obtain rfl := hSo hSw 
          go_simp
        simp only [List.getElem_toArray, List.getElem_cons_zero, List.getElem_cons_succ, Act.put, List.setIfInBounds_toArray, List.set_cons_zero, List.set_cons_succ]
        refine WA.take (i := 15) (v := .int .i64 (n : Int)) rfl (by kernel_rfl) (by kernel_rfl) (by kernel_rfl) (fun _ _ _ h => h) (hdrop 15 (by decide)) (Or.inl ⟨by rfl, ?_⟩) (hS _) ?_
        · rintro w' ⟨L, hL, hSw, hun⟩
          go_simp
        simp only [List.getElem_toArray, List.getElem_cons_zero, List.getElem_cons_succ, Act.put, List.setIfInBounds_toArray, List.set_cons_zero, List.set_cons_succ]
        refine WA.take (i := 16) (v := .pointer (some ⟨gb, n, none⟩)) rfl (by kernel_rfl) (by kernel_rfl) (by kernel_rfl) (fun _ _ _ h => h) (hdrop 16 (by decide)) (Or.inl ⟨by rfl, ?_⟩) (hS _) ?_
        · rintro w' ⟨L, hL, hSw, hun⟩
          go_simp
        simp only [List.getElem_toArray, List.getElem_cons_zero, List.getElem_cons_succ, Act.put, List.setIfInBounds_toArray, List.set_cons_zero, List.set_cons_succ]
        refine WA.take (i := 17) (v := .int .u8 v) rfl (by kernel_rfl) (by kernel_rfl) (by kernel_rfl) (fun _ _ _ h => h) (hdrop 17 (by decide)) (Or.inl ⟨by rfl, ?_⟩) (hS _) ?_
        · rintro w' ⟨L, hL, hSw, hun⟩
          obtain rfl := hSo hSw 
          go_simp
        simp only [List.getElem_toArray, List.getElem_cons_zero, List.getElem_cons_succ, Act.put, List.setIfInBounds_toArray, List.set_cons_zero, List.set_cons_succ]
        refine WA.take (i := 18) (v := .bool false) rfl (by kernel_rfl) (by kernel_rfl) (by kernel_rfl) (fun _ _ _ h => h) (hdrop 18 (by decide)) (Or.inl ⟨by rfl, ?_⟩) (hS _) ?_
        · rintro w' ⟨L, hL, hSw, hun⟩
          go_simp
        simp only [List.getElem_toArray, List.getElem_cons_zero, List.getElem_cons_succ, Act.put, List.setIfInBounds_toArray, List.set_cons_zero, List.set_cons_succ]
        refine WA.take (i := 19) (v := .bool false) rfl (by kernel_rfl) (by kernel_rfl) (by kernel_rfl) (fun _ _ _ h => h) (hdrop 19 (by decide)) (Or.inl ⟨by rfl, ?_⟩) (hS _) ?_
        · rintro w' ⟨L, hL, hSw, hun⟩
          go_simp
        simp only [List.getElem_toArray, List.getElem_cons_zero, List.getElem_cons_succ, Act.put, List.setIfInBounds_toArray, List.set_cons_zero, List.set_cons_succ]
        refine WA.done (by kernel_rfl) ?_ _
        refine Nrm.normal ?_
        cases hv0 : (v != 0)
        · go_wp2_with fail
          go_roundw
          case rel => exact ⟨.inr ⟨n + 1, by omega, rfl, by rw [Hlt.out, if_neg (by simpa using hv0), Hc.out]; rfl⟩, HB4.out⟩
          case measure => simp [intOf]; omega
        · go_wp2_with fail
          go_roundw
          case rel => exact ⟨.inr ⟨n + 1, by omega, rfl, by rw [Hlt.out, if_pos (by simpa using hv0), Hc.out]; rfl⟩, HB4.out⟩
          case measure => simp [intOf]; omega
      · by_cases hnl' : n = l
        · subst hnl'
          have hd : decide ((n : Int) ≤ (n : Int)) = true := by simp
          clear hIr c1
          go_wp2_with fail
          refine (get_no HSr.out.t ((n : Int)) (by have := Hl.out; omega)).mono ?_
          rintro e w2 ⟨rfl, hB2⟩
          have HB2 := Lib.hid (HBr.out.trans (hB2.mono HBr.out.size))
          have HS2 := Lib.hid (HSr.out.below hB2)
          clear hB2
          simp only [rv]
          go_wp2_with fail
          have BA : Below w2.heap.size w2 (w2.alloc (.cells #[.int .u32 0, .int .u32 0, .int .u32 0] 25)) := (Below.refl _ w2).alloc (Nat.le_refl _) _
          obtain ⟨a0, a1, a2⟩ := bx1 w2 0 0 0
          have Hz := Lib.hid (World.size_alloc w2 (.cells #[.int .u32 0, .int .u32 0, .int .u32 0] 25))
          generalize hWx : w2.alloc (.cells #[.int .u32 0, .int .u32 0, .int .u32 0] 25) = Wx at *
          clear hWx
          have HB3 := Lib.hid (HB2.out.trans (BA.mono HB2.out.size))
          have HS3 := Lib.hid (HS2.out.below BA)
          clear BA
          refine (rin_any HS3.out.r ((n : Int))).mono ?_
          rintro e w3 ⟨rfl, rfl⟩
          rw [show decide (0 ≤ ((n : Int)) ∧ ((n : Int)) < (T.length : Int)) = false by have := Hl.out; simp; omega]
          have he := eqRow 0 0 0 0 0 0
          rw [show ((0 : Int) == 0 && ((0 : Int) == 0 && (0 : Int) == 0)) = true by decide] at he
          go_wp2_with fail
          go_roundw
          case rel => exact ⟨.inr ⟨n + 1, by omega, rfl, by rw [← Hc.out, List.take_of_length_le (by have := Hl.out; omega), List.take_of_length_le (by have := Hl.out; omega)]⟩, HB3.out⟩
          case measure => simp [intOf]; omega
        · have hnn : n = l + 1 := by omega
          have hcl : live T = c := by rw [← Hc.out, List.take_of_length_le (by have := Hl.out; omega)]
          have Hcl := Lib.hid hcl
          have hd : decide ((n : Int) ≤ (l : Int)) = false := by simp; omega
          have hd' : l < n := by omega
          have hd2 : decide (n ≤ l) = false := by simp; omega
          clear hIr c1 hcl hnn hnl hnl' hn
          go_wp2_with fail
          obtain ⟨Wo, hWo⟩ : ∃ Wo, wr = Wo := ⟨_, rfl⟩
          rw [hWo] at c0 HBr HSr ⊢
          clear hWo
          go_loopw [9] (fun u w2 => (u = .int .i64 (-1) ∨ ∃ p : Nat, p ≤ 4 ∧ u = .int .i64 p) ∧ Below Wo.heap.size Wo w2) (fun u _ => 5 - (intOf u + 1).toNat)
          case atStart => exact ⟨.inl rfl, Below.refl _ _⟩
          case round =>
            obtain ⟨hrel, hBw⟩ := hrel
            have c0' := cell_later hBw c0
            have HBw := Lib.hid hBw
            have HSw := Lib.hid (HSr.out.below hBw)
            clear hBw
            rcases hrel with rfl | ⟨p, hp, rfl⟩
            · go_wp2_with (first | (go_at_call 34; refine (distinct_no HSw.out.t (-1) (by omega)).mono ?_; rintro e w2 ⟨rfl, rfl⟩) | (go_at_call 35; refine (rdist_no rb _ (-1) (by omega)).mono ?_; rintro e w2 ⟨rfl, rfl⟩))
              go_roundw
              case rel => exact ⟨.inr ⟨0, by omega, rfl⟩, HBw.out⟩
              case measure => simp [intOf]
            · by_cases hp3 : p < 3
              · have hd4 : decide ((p : Int) < 4) = true := by simp; omega
                go_wp2_with fail
                refine (distinct_yes HSw.out.t p hp3).mono ?_
                rintro e w2 ⟨⟨ks, k1, k2, k3, rfl⟩, rfl⟩
                rw [dist_eq hp3 HSw.out.t.oks k1 k2 k3]
                clear k1 k2 k3
                obtain ⟨dr, hdr⟩ : ∃ d, distR T p = d := ⟨_, rfl⟩
                have Hdr := Lib.hid hdr
                rw [hdr]
                clear hdr
                go_wp2_with fail
                refine (rdist_any HSw.out.r p hp3).mono ?_
                rw [Hdr.out]
                rintro e w3 ⟨rfl, hB3⟩
                have HB3 := Lib.hid (HBw.out.trans (hB3.mono HBw.out.size))
                clear hB3 c0'
                go_wp2_with fail
                go_roundw
                case rel => exact ⟨.inr ⟨p + 1, by omega, rfl⟩, HB3.out⟩
                case measure => simp [intOf]; omega
              · by_cases hp3' : p = 3
                · subst hp3'
                  go_wp2_with (first | (go_at_call 34; refine (distinct_no HSw.out.t 3 (by omega)).mono ?_; rintro e w2 ⟨rfl, rfl⟩) | (go_at_call 35; refine (rdist_no rb _ 3 (by omega)).mono ?_; rintro e w2 ⟨rfl, rfl⟩))
                  go_roundw
                  case rel => exact ⟨.inr ⟨4, by omega, rfl⟩, HBw.out⟩
                  case measure => simp [intOf]
                · have hp4 : p = 4 := by omega
                  subst hp4
                  have HBe := Lib.hid (HBr.out.trans (HBw.out.mono HBr.out.size))
                  have hq1 : ∀ k, Calls Try.prog 12 #[.pointer (some ⟨tb, 0, none⟩)] (wr.drewN k) fun e w'' => e = .returned (.int .i64 l) ∧ ∃ m, w'' = wr.drewN m := by
                    intro k
                    have hh := len_any (HSw.out.below (below_N wr k)).t
                    rw [Hl.out] at hh
                    exact quiet_eq hh
                  have hq2 : ∀ k, Calls Try.prog 36 #[.pointer (some ⟨tb, 0, none⟩)] (wr.drewN k) fun e w'' => e = .returned (.int .i64 c) ∧ ∃ m, w'' = wr.drewN m := by
                    intro k
                    have hh := live_any (HSw.out.below (below_N wr k)).t
                    rw [Hcl.out] at hh
                    exact quiet_eq hh
                  clear c0
                  go_wp2_with fail
                  go_quiet (first | (go_at_call 12; exact hq1 _) | (go_at_call 36; exact hq2 _))
                  go_wp2
                  go_ret
                  exact ⟨rfl, HBe.out.trans ((below_N _ _).mono HBe.out.size)⟩
end
end Go.Proofs.Ytellmhllgmimiaa
