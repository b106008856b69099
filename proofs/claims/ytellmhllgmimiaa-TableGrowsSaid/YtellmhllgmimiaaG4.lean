/- TableGrows. -/
import Derived.Test.YtellmhllgmimiaaG5
namespace Go.Proofs.Ytellmhllgmimiaa
open Go.RowKit Go.Maps
attribute [local go_sem] Oper.semAt_some
set_option linter.unusedVariables false
set_option linter.unusedSimpArgs false

/-- the rows L lie at the slice's address -/
def IsRows (w : World) (a : Option Addr) (L : List R3) : Prop := ∀ j (h : j < L.length), ∃ b off, a = some ⟨b, off, none⟩ ∧ b < w.heap.size ∧
  w.cell? ⟨b, off + j * 3, none⟩ = some (.int .u32 L[j].1) ∧ w.cell? ⟨b, off + j * 3 + 1, none⟩ = some (.int .u32 L[j].2.1) ∧ w.cell? ⟨b, off + j * 3 + 2, none⟩ = some (.int .u32 L[j].2.2) ∧ rok L[j]
theorem IsRows.below {w w' : World} {a : Option Addr} {L : List R3} (h : IsRows w a L) (hb : Below w.heap.size w w') : IsRows w' a L := by
  intro j hj
  obtain ⟨b, off, h1, h2, c0, c1, c2, h3⟩ := h j hj
  exact ⟨b, off, h1, Nat.lt_of_lt_of_le h2 hb.size, cell_later hb c0, cell_later hb c1, cell_later hb c2, h3⟩

set_option maxRecDepth 100000 in
set_option maxHeartbeats 8000000 in
theorem grows_in (a : Option Addr) (cap : Nat) (L : List R3) (x0 x1 x2 leave : Int) (hro : rok (x0, x1, x2)) (w : World) (ha : IsRows w a L) :
    CallsIn Fence.wide 9 Try.prog 3 #[.slice a L.length cap, rv (x0, x1, x2), .int .i64 leave] w fun e w' => e = .returned (.bool true) ∧ Below w.heap.size w w' := by
  have HA := Lib.hid ha; have Hro0 := Lib.hid hro
  obtain ⟨l, hl⟩ : ∃ l, L.length = l := ⟨_, rfl⟩
  rw [hl]
  have Hl := Lib.hid hl
  simp only [rv]
  have hfn : ∀ k, Fence.wide.fn k := fun _ => trivial
  clear ha hl hro
  refine callsIn_of_wp_marks Try.func3 rfl trivial ?_ rfl
  refine wpIn_wide.2 ?_
  simp only [Try.ntmps3, List.size_toArray, List.length_cons, List.length_nil, Nat.reduceAdd, Nat.reduceSub, Array.replicate_succ, Array.replicate_zero, List.push_toArray, List.append_toArray, List.nil_append, List.cons_append]
  obtain ⟨hB1, hz1, o0, o1, o2⟩ := three w (.cells #[.int .u32 x0, .int .u32 x1, .int .u32 x2] 25) (.cells #[.int .i64 leave] 3) (.cells #[.bool false] 4) _ rfl
  have Hz1 := Lib.hid hz1; have HB1 := Lib.hid hB1; have HO2 := Lib.hid o2; have HO0 := Lib.hid o0; have HO1 := Lib.hid o1
  clear hz1 hB1 o2 o0 o1
  by_cases hlen : 60 < l
  · have hd : decide ((l : Int) > 60) = true := by simp; omega
    go_wp2_with fail
    generalize hW1 : ((w.alloc (.cells #[.int .u32 x0, .int .u32 x1, .int .u32 x2] 25)).alloc (.cells #[.int .i64 leave] 3)).alloc (.cells #[.bool false] 4) = W1 at *
    refine (known_any W1).mono ?_
    rintro e wa ⟨rfl, hB⟩
    have o2' := (hB.block _ (by have := Hz1.out; omega)).trans HO2.out
    have q2 : wa.cell? ⟨w.heap.size + 2, 0, none⟩ = some (.bool false) ∧ wa.frozen? ⟨w.heap.size + 2, 0, none⟩ = false := by unfold World.cell? World.frozen?; rw [o2']; exact ⟨rfl, by simp⟩
    obtain ⟨q3, q4⟩ := q2
    have HB := Lib.hid (HB1.out.trans (hB.mono (by have := Hz1.out; omega)))
    clear hB o2'
    go_wp2_with fail
    have hcell : (wa.setCell ⟨w.heap.size + 1 + 1, 0, none⟩ (.bool true)).cell? ⟨w.heap.size + 1 + 1, 0, none⟩ = some (.bool true) := World.cell?_setCell_same' _ _ _ (by rw [show wa.cell? ⟨w.heap.size + 1 + 1, 0, none⟩ = _ from q3]; rfl)
    have hBf : Below w.heap.size w (wa.setCell ⟨w.heap.size + 1 + 1, 0, none⟩ (.bool true)) := HB.out.setCell (p := ⟨w.heap.size + 1 + 1, 0, none⟩) (by simp; omega) _
    generalize (wa.setCell ⟨w.heap.size + 1 + 1, 0, none⟩ (.bool true)) = Wf at *
    refine ⟨.bool true, ?_, rfl, hBf⟩
    have hres : Try.f3.results = #[.cell 6 4] := rfl
    simp only [results, hres]
    go_simp
  · have hd : decide ((l : Int) > 60) = false := by simp; omega
    go_wp2_with fail
    generalize hW1 : ((w.alloc (.cells #[.int .u32 x0, .int .u32 x1, .int .u32 x2] 25)).alloc (.cells #[.int .i64 leave] 3)).alloc (.cells #[.bool false] 4) = W1 at *
    clear hW1
    have HA1 := Lib.hid (HA.out.below HB1.out)
    -- the numbers are small, or it is known
    go_loopw [7] (fun u wr => ∃ k : Nat, k ≤ l ∧ u = .int .i64 k ∧ wr = W1 ∧ ∀ j (h : j < L.length), j < k → smallR L[j]) (fun u _ => l - (intOf u).toNat)
    case atStart => exact ⟨0, by omega, rfl, by trivial, fun j _ h => by omega⟩
    case round =>
      obtain ⟨k, hk, rfl, hwr, hsm⟩ := hrel
      obtain rfl : W1 = wr := hwr.symm
      clear hwr
      have Hsm := Lib.hid hsm
      clear hsm
      by_cases hkl : k < l
      · have hd2 : decide ((k : Int) < (l : Int)) = true := by simp; omega
        obtain ⟨ba, off, rfl, _, c0, c1, c2, hrk⟩ := HA1.out k (by have := Hl.out; omega)
        obtain ⟨⟨y0, y1, y2⟩, hy⟩ : ∃ y : R3, L[k]'(by have := Hl.out; omega) = y := ⟨_, rfl⟩
        rw [hy] at c0 c1 c2 hrk
        have Hy := Lib.hid hy
        clear hy hrk
        by_cases h0 : y0 ≥ 1073741824
        · have hd3 : decide (y0 ≥ 1073741824) = true := by simpa using h0
          go_wp2_with fail
          refine (known_any W1).mono ?_
          rintro e wa ⟨rfl, hB⟩
          have o2' := (hB.block _ (by have := Hz1.out; omega)).trans HO2.out
          have q2 : wa.cell? ⟨w.heap.size + 2, 0, none⟩ = some (.bool false) ∧ wa.frozen? ⟨w.heap.size + 2, 0, none⟩ = false := by unfold World.cell? World.frozen?; rw [o2']; exact ⟨rfl, by simp⟩
          obtain ⟨q3, q4⟩ := q2
          have HB := Lib.hid (HB1.out.trans (hB.mono (by have := Hz1.out; omega)))
          clear hB o2'
          go_wp2_with fail
          have hcell : (wa.setCell ⟨w.heap.size + 1 + 1, 0, none⟩ (.bool true)).cell? ⟨w.heap.size + 1 + 1, 0, none⟩ = some (.bool true) := World.cell?_setCell_same' _ _ _ (by rw [show wa.cell? ⟨w.heap.size + 1 + 1, 0, none⟩ = _ from q3]; rfl)
          have hBf : Below w.heap.size w (wa.setCell ⟨w.heap.size + 1 + 1, 0, none⟩ (.bool true)) := HB.out.setCell (p := ⟨w.heap.size + 1 + 1, 0, none⟩) (by simp; omega) _
          generalize (wa.setCell ⟨w.heap.size + 1 + 1, 0, none⟩ (.bool true)) = Wf at *
          refine ⟨.bool true, ?_, rfl, hBf⟩
          have hres : Try.f3.results = #[.cell 6 4] := rfl
          simp only [results, hres]
          go_simp
        · have hd3 : decide (y0 ≥ 1073741824) = false := by simpa using h0
          by_cases h1 : y1 ≥ 1073741824
          · have hd4 : decide (y1 ≥ 1073741824) = true := by simpa using h1
            go_wp2_with fail
            refine (known_any W1).mono ?_
            rintro e wa ⟨rfl, hB⟩
            have o2' := (hB.block _ (by have := Hz1.out; omega)).trans HO2.out
            have q2 : wa.cell? ⟨w.heap.size + 2, 0, none⟩ = some (.bool false) ∧ wa.frozen? ⟨w.heap.size + 2, 0, none⟩ = false := by unfold World.cell? World.frozen?; rw [o2']; exact ⟨rfl, by simp⟩
            obtain ⟨q3, q4⟩ := q2
            have HB := Lib.hid (HB1.out.trans (hB.mono (by have := Hz1.out; omega)))
            clear hB o2'
            go_wp2_with fail
            have hcell : (wa.setCell ⟨w.heap.size + 1 + 1, 0, none⟩ (.bool true)).cell? ⟨w.heap.size + 1 + 1, 0, none⟩ = some (.bool true) := World.cell?_setCell_same' _ _ _ (by rw [show wa.cell? ⟨w.heap.size + 1 + 1, 0, none⟩ = _ from q3]; rfl)
            have hBf : Below w.heap.size w (wa.setCell ⟨w.heap.size + 1 + 1, 0, none⟩ (.bool true)) := HB.out.setCell (p := ⟨w.heap.size + 1 + 1, 0, none⟩) (by simp; omega) _
            generalize (wa.setCell ⟨w.heap.size + 1 + 1, 0, none⟩ (.bool true)) = Wf at *
            refine ⟨.bool true, ?_, rfl, hBf⟩
            have hres : Try.f3.results = #[.cell 6 4] := rfl
            simp only [results, hres]
            go_simp
          · have hd4 : decide (y1 ≥ 1073741824) = false := by simpa using h1
            by_cases h2 : y2 ≥ 1073741824
            · have hd5 : decide (y2 ≥ 1073741824) = true := by simpa using h2
              go_wp2_with fail
              refine (known_any W1).mono ?_
              rintro e wa ⟨rfl, hB⟩
              have o2' := (hB.block _ (by have := Hz1.out; omega)).trans HO2.out
              have q2 : wa.cell? ⟨w.heap.size + 2, 0, none⟩ = some (.bool false) ∧ wa.frozen? ⟨w.heap.size + 2, 0, none⟩ = false := by unfold World.cell? World.frozen?; rw [o2']; exact ⟨rfl, by simp⟩
              obtain ⟨q3, q4⟩ := q2
              have HB := Lib.hid (HB1.out.trans (hB.mono (by have := Hz1.out; omega)))
              clear hB o2'
              go_wp2_with fail
              have hcell : (wa.setCell ⟨w.heap.size + 1 + 1, 0, none⟩ (.bool true)).cell? ⟨w.heap.size + 1 + 1, 0, none⟩ = some (.bool true) := World.cell?_setCell_same' _ _ _ (by rw [show wa.cell? ⟨w.heap.size + 1 + 1, 0, none⟩ = _ from q3]; rfl)
              have hBf : Below w.heap.size w (wa.setCell ⟨w.heap.size + 1 + 1, 0, none⟩ (.bool true)) := HB.out.setCell (p := ⟨w.heap.size + 1 + 1, 0, none⟩) (by simp; omega) _
              generalize (wa.setCell ⟨w.heap.size + 1 + 1, 0, none⟩ (.bool true)) = Wf at *
              refine ⟨.bool true, ?_, rfl, hBf⟩
              have hres : Try.f3.results = #[.cell 6 4] := rfl
              simp only [results, hres]
              go_simp
            · have hd5 : decide (y2 ≥ 1073741824) = false := by simpa using h2
              go_wp2_with fail
              refine ⟨⟨k + 1, by omega, by push_cast; rfl, by trivial, fun j hj hjk => ?_⟩, by simp [intOf]; omega⟩
              by_cases hjk' : j = k
              · subst hjk'
                rw [Hy.out]
                exact ⟨by simpa using h0, by simpa using h1, by simpa using h2⟩
              · exact Hsm.out j hj (by omega)
      · have hkl' : k = l := by omega
        subst hkl'
        have hd2 : decide ((k : Int) < (k : Int)) = false := by simp
        go_wp2_with fail
        obtain ⟨i0, hi0, hzz0, hzz1, hzz2⟩ := info_parts Try.infoInt
        have Hi := Lib.hid hi0; have Hz0 := Lib.hid hzz0; have Hza := Lib.hid hzz1; have Hz2 := Lib.hid hzz2
        clear hi0 hzz0 hzz1 hzz2
        have Hsm1 := Lib.hid (fun j (h : j < L.length) => Hsm.out j h (by have := Hl.out; omega))
        refine (new_any (Z := Zone.from W1.heap.size) (fun i j h => h) (fun i h => h)).mono ?_
        rintro e w1 ⟨rfl, hI, hB, hzn⟩
        have HI := Lib.hid hI; have HB := Lib.hid hB; have Hzn := Lib.hid hzn
        clear hI hB hzn Hsm
        go_wp2_with fail
        obtain ⟨hB9, hz9, h8, h9⟩ := twoB w1 (.cells #[.pointer (some ⟨W1.heap.size + 2, 0, none⟩)] 27) (.cells #[.slice none 0 0] 29) _ rfl
        obtain ⟨W9, hW9⟩ : ∃ W9, W9 = (w1.alloc (.cells #[.pointer (some ⟨W1.heap.size + 2, 0, none⟩)] 27)).alloc (.cells #[.slice none 0 0] 29) := ⟨_, rfl⟩
        rw [← hW9] at hB9 hz9 h8 h9 ⊢
        clear hW9
        obtain ⟨b8, hb8⟩ : ∃ b8, w1.heap.size = b8 := ⟨_, rfl⟩
        obtain ⟨b9, hb9⟩ : ∃ b9, w1.heap.size + 1 = b9 := ⟨_, rfl⟩
        have hsb8 : W1.heap.size ≤ b8 ∧ W1.heap.size ≤ b9 ∧ b8 ≠ b9 ∧ b8 < W9.heap.size ∧ b9 < W9.heap.size := by have := HB.out.size; omega
        have hg9 := (GS.start HI.out HB.out.size).turn (W' := W9) (vr' := .slice none 0 0) (Lr' := []) (fun i => i = b8 ∨ i = b9) (fun i hi => .inr (by have := hsb8; omega)) hB9.size (fun i hi _ _ => hB9.block i hi) (World.ownsRow_nil _ _ _ _) (fun g hg => by simp [Value.ownBlock] at hg)
        rw [hb8] at h8
        rw [hb9] at h9
        rw [hb9]
        simp only [hb8] at hg9 ⊢
        obtain ⟨tb, htb⟩ : ∃ tb, W1.heap.size + 2 = tb := ⟨_, rfl⟩
        rw [htb] at h8 hg9 HI
        have HBr0 := Lib.hid (HB.out.trans (hB9.mono HB.out.size))
        have Hsb := Lib.hid hsb8; have H8 := Lib.hid h8; have H9 := Lib.hid h9; have Hg9 := Lib.hid hg9
        clear hsb8 h8 h9 hg9 hb8 hb9 hz9 hB9 htb HI
        have hx0 := box3_cell HO0.out
        go_loopw [10] (fun u wr => ∃ k' : Nat, k' ≤ k ∧ u = .int .i64 k' ∧ Below W1.heap.size W1 wr ∧ ∃ (T : TS) (vr : Value) (Z : Zone) (D : TabD), GS W1.heap.size (fun i => i = b8 ∨ i = b9) tb T (lst T (x0, x1, x2)) vr Z D wr ∧ T.length ≤ k' ∧ Two T ∧ SmallT T ∧
          wr.heap[b8]? = some (.cells #[.pointer (some ⟨tb, 0, none⟩)] 27 (0, 0)) ∧ wr.heap[b9]? = some (.cells #[vr] 29 (0, 0))) (fun u _ => k - (intOf u).toNat)
        case atStart => exact ⟨0, by omega, rfl, HBr0.out, [], _, _, _, Hg9.out, by simp, (fun c hc => by simp at hc), (fun c hc => by simp at hc), H8.out, H9.out⟩
        case round =>
          obtain ⟨k', hk', rfl, hBr, T, vr, Z, D, hg, hTl, h2T, hsT, h8, h9⟩ := hrel
          obtain ⟨c8, f8⟩ := box_cell h8
          obtain ⟨c9, f9⟩ := box_cell h9
          have HBr := Lib.hid hBr; have Hg := Lib.hid hg; have HTl := Lib.hid hTl; have H2T := Lib.hid h2T; have HsT := Lib.hid hsT; have H8 := Lib.hid h8; have H9 := Lib.hid h9
          clear hBr hg hTl h2T hsT h8 h9
          by_cases hkl2 : k' < k
          · have hd3 : decide ((k' : Int) < (k : Int)) = true := by simp; omega
            obtain ⟨ba, off, rfl, _, c0, c1, c2, hrk⟩ := HA1.out.below HBr.out k' (by have := Hl.out; omega)
            have hsmk := Hsm1.out k' (by have := Hl.out; omega)
            obtain ⟨⟨y0, y1, y2⟩, hy⟩ : ∃ y : R3, L[k']'(by have := Hl.out; omega) = y := ⟨_, rfl⟩
            rw [hy] at c0 c1 c2 hrk hsmk
            have Hrk := Lib.hid hrk; have Hsmk := Lib.hid hsmk; have Hy := Lib.hid hy
            clear hy hrk hsmk
            go_wp2_with fail
            have c8 : wr.drew.cell? ⟨b8, 0, none⟩ = _ := c8
            have c0 : wr.drew.cell? ⟨ba, off + k' * 3, none⟩ = _ := c0
            have c1 : wr.drew.cell? ⟨ba, off + k' * 3 + 1, none⟩ = _ := c1
            have c2 : wr.drew.cell? ⟨ba, off + k' * 3 + 2, none⟩ = _ := c2
            have Hgd := Lib.hid (Hg.out.below (below_drew wr))
            have HBd := Lib.hid (HBr.out.trans ((below_drew wr).mono HBr.out.size))
            have H8d := Lib.hid (show wr.drew.heap[b8]? = some (.cells #[.pointer (some ⟨tb, 0, none⟩)] 27 (0, 0)) from H8.out)
            have H9d := Lib.hid (show wr.drew.heap[b9]? = some (.cells #[vr] 29 (0, 0)) from H9.out)
            obtain ⟨S13, hSe⟩ : ∃ S : Array Bool → World → Prop, S = fun L w' => L.getD 5 true = false → w' = wr.drew := ⟨_, rfl⟩
            have hdrop : ∀ i, i ≠ 5 → ∀ L w', S13 (L.setIfInBounds i true) w' → S13 L w' := by
              intro i hi L w'
              rw [hSe]
              intro h hl
              exact h (by rw [getD_set_ne true hi]; exact hl)
            have hS : ∀ L, S13 L wr.drew := by intro L; rw [hSe]; exact fun _ => rfl
            have hSo : ∀ {L w'}, S13 L w' → L.getD 5 true = false → w' = wr.drew := by intro L w' h hl; rw [hSe] at h; exact h hl
            have hSd : ∀ (L : Array Bool) X, L.getD 5 true = true → S13 L X := by
              intro L X h; rw [hSe]; intro h1; rw [h] at h1; cases h1
            clear hSe
            refine wp_region_LN S13 11 #[false, false, false, false, false, false, false, false, false, false, false] (by kernel_rfl) (by kernel_rfl) rfl ?_
            generalize wr.drew = wd at *
            refine WA.take (i := 0) (v := .pointer (some ⟨tb, 0, none⟩)) rfl (by kernel_rfl) (by kernel_rfl) (by kernel_rfl) (fun _ _ _ h => h) (hdrop 0 (by decide)) (Or.inl ⟨by rfl, ?_⟩) (hS _) ?_
            · rintro w' ⟨L, hL, hSw, hun⟩
              obtain rfl := hSo hSw (hL.wait 5 0 (by kernel_rfl) hun)
              go_simp
            simp only [List.getElem_toArray, List.getElem_cons_zero, List.getElem_cons_succ, Act.put, List.setIfInBounds_toArray, List.set_cons_zero, List.set_cons_succ]
            refine WA.take (i := 1) (v := .slice (some ⟨ba, off, none⟩) k cap) rfl (by kernel_rfl) (by kernel_rfl) (by kernel_rfl) (fun _ _ _ h => h) (hdrop 1 (by decide)) (Or.inl ⟨by rfl, ?_⟩) (hS _) ?_
            · rintro w' ⟨L, hL, hSw, hun⟩
              go_simp
            simp only [List.getElem_toArray, List.getElem_cons_zero, List.getElem_cons_succ, Act.put, List.setIfInBounds_toArray, List.set_cons_zero, List.set_cons_succ]
            refine WA.take (i := 2) (v := .int .i64 (k' : Int)) rfl (by kernel_rfl) (by kernel_rfl) (by kernel_rfl) (fun _ _ _ h => h) (hdrop 2 (by decide)) (Or.inl ⟨by rfl, ?_⟩) (hS _) ?_
            · rintro w' ⟨L, hL, hSw, hun⟩
              go_simp
            simp only [List.getElem_toArray, List.getElem_cons_zero, List.getElem_cons_succ, Act.put, List.setIfInBounds_toArray, List.set_cons_zero, List.set_cons_succ]
            refine WA.take (i := 3) (v := .pointer (some ⟨ba, off + k' * 3, none⟩)) rfl (by kernel_rfl) (by kernel_rfl) (by kernel_rfl) (fun _ _ _ h => h) (hdrop 3 (by decide)) (Or.inl ⟨by rfl, ?_⟩) (hS _) ?_
            · rintro w' ⟨L, hL, hSw, hun⟩
              go_simp
            simp only [List.getElem_toArray, List.getElem_cons_zero, List.getElem_cons_succ, Act.put, List.setIfInBounds_toArray, List.set_cons_zero, List.set_cons_succ]
            refine WA.take (i := 4) (v := .agg #[.int .u32 y0, .int .u32 y1, .int .u32 y2]) rfl (by kernel_rfl) (by kernel_rfl) (by kernel_rfl) (fun _ _ _ h => h) (hdrop 4 (by decide)) (Or.inl ⟨by rfl, ?_⟩) (hS _) ?_
            · rintro w' ⟨L, hL, hSw, hun⟩
              obtain rfl := hSo hSw (hL.wait 5 4 (by kernel_rfl) hun)
              go_simp
            simp only [List.getElem_toArray, List.getElem_cons_zero, List.getElem_cons_succ, Act.put, List.setIfInBounds_toArray, List.set_cons_zero, List.set_cons_succ]
            refine WA.one (i := 5) (by kernel_rfl) rfl (by rfl) (fun K hK => ?_)
            go_simp
            refine (add_any Hgd.out.t Hgd.out.opn (y0, y1, y2) 2 Hrk.out (by have := HTl.out; omega)).mono ?_
            rintro e w2 ⟨rfl, ⟨D2, t2⟩, f2⟩
            have Hg2 := Lib.hid (Hgd.out.call t2 f2)
            have H82 := Lib.hid ((Hgd.out.box f2 (.inl (.inl rfl)) (Array.getElem?_eq_some_iff.1 H8d.out).1).trans H8d.out)
            have H92 := Lib.hid ((Hgd.out.box f2 (.inl (.inr rfl)) (Array.getElem?_eq_some_iff.1 H9d.out).1).trans H9d.out)
            have HB2 := Lib.hid (HBd.out.trans (f2.below HBd.out.size (fun i j hj => (Hgd.out.off i j (Z.sub _ _ hj)).1)))
            clear t2 f2
            obtain ⟨N, hN⟩ : ∃ N, addN T (y0, y1, y2) 2 = N := ⟨_, rfl⟩
            obtain ⟨bb, hbb⟩ : ∃ bb, addB T (y0, y1, y2) 2 = bb := ⟨_, rfl⟩
            rw [hN, hbb]
            have HN := Lib.hid hN; have Hbb := Lib.hid hbb
            clear hN hbb
            refine hK _ _ (hSd _ _ (by rfl)) ?_
            clear hK
            try simp only [List.getElem_toArray, List.getElem_cons_zero, List.getElem_cons_succ, Act.put, List.setIfInBounds_toArray, List.set_cons_zero, List.set_cons_succ]
            refine WA.take (i := 6) (v := .tuple #[.int .i64 N, .bool bb]) rfl (by kernel_rfl) (by kernel_rfl) (by kernel_rfl) (fun _ _ _ h => h) (hdrop 6 (by decide)) (Or.inl ⟨by rfl, ?_⟩) (hSd _ _ (by rfl)) ?_
            · rintro w' ⟨L, hL, hSw, hun⟩
              go_simp
            simp only [List.getElem_toArray, List.getElem_cons_zero, List.getElem_cons_succ, Act.put, List.setIfInBounds_toArray, List.set_cons_zero, List.set_cons_succ]
            refine WA.take (i := 7) (v := .int .i64 N) rfl (by kernel_rfl) (by kernel_rfl) (by kernel_rfl) (fun _ _ _ h => h) (hdrop 7 (by decide)) (Or.inl ⟨by rfl, ?_⟩) (hSd _ _ (by rfl)) ?_
            · rintro w' ⟨L, hL, hSw, hun⟩
              go_simp
            simp only [List.getElem_toArray, List.getElem_cons_zero, List.getElem_cons_succ, Act.put, List.setIfInBounds_toArray, List.set_cons_zero, List.set_cons_succ]
            refine WA.take (i := 8) (v := .bool bb) rfl (by kernel_rfl) (by kernel_rfl) (by kernel_rfl) (fun _ _ _ h => h) (hdrop 8 (by decide)) (Or.inl ⟨by rfl, ?_⟩) (hSd _ _ (by rfl)) ?_
            · rintro w' ⟨L, hL, hSw, hun⟩
              go_simp
            simp only [List.getElem_toArray, List.getElem_cons_zero, List.getElem_cons_succ, Act.put, List.setIfInBounds_toArray, List.set_cons_zero, List.set_cons_succ]
            refine WA.take (i := 9) (v := .int .i64 N) rfl (by kernel_rfl) (by kernel_rfl) (by kernel_rfl) (fun _ _ _ h => h) (hdrop 9 (by decide)) (Or.inl ⟨by rfl, ?_⟩) (hSd _ _ (by rfl)) ?_
            · rintro w' ⟨L, hL, hSw, hun⟩
              go_simp
            simp only [List.getElem_toArray, List.getElem_cons_zero, List.getElem_cons_succ, Act.put, List.setIfInBounds_toArray, List.set_cons_zero, List.set_cons_succ]
            refine WA.take (i := 10) (v := .bool bb) rfl (by kernel_rfl) (by kernel_rfl) (by kernel_rfl) (fun _ _ _ h => h) (hdrop 10 (by decide)) (Or.inl ⟨by rfl, ?_⟩) (hSd _ _ (by rfl)) ?_
            · rintro w' ⟨L, hL, hSw, hun⟩
              go_simp
            simp only [List.getElem_toArray, List.getElem_cons_zero, List.getElem_cons_succ, Act.put, List.setIfInBounds_toArray, List.set_cons_zero, List.set_cons_succ]
            refine WA.done (by kernel_rfl) ?_ _
            refine Nrm.normal ?_
            clear hSo hSd hS hdrop c8 f8 c9 f9 c0 c1 c2
            clear S13
            obtain ⟨c82, f82⟩ := box_cell H82.out
            obtain ⟨c92, f92⟩ := box_cell H92.out
            obtain ⟨d0, d1, d2⟩ := box3_cell ((HB2.out.block _ (by have := Hz1.out; omega)).trans HO0.out)
            obtain ⟨ba', off', e', _, c0, c1, c2, hrk⟩ := HA1.out.below HB2.out k' (by have := Hl.out; omega)
            rw [Hy.out] at c0 c1 c2
            -- Add has come
            cases bb with
            | false =>
              obtain ⟨g1, g2, _, g4⟩ := grows_add T (x0, x1, x2) (y0, y1, y2) H2T.out HsT.out Hsmk.out
              have g5 := g4 Hbb.out
              have Hfin := Lib.hid (show ∃ (T : TS) (vr : Value) (Z : Zone) (D : TabD), GS W1.heap.size (fun i => i = b8 ∨ i = b9) tb T (lst T (x0, x1, x2)) vr Z D w2.drew ∧ T.length ≤ k' + 1 ∧ Two T ∧ SmallT T ∧
                w2.drew.heap[b8]? = some (.cells #[.pointer (some ⟨tb, 0, none⟩)] 27 (0, 0)) ∧ w2.drew.heap[b9]? = some (.cells #[vr] 29 (0, 0)) from
                ⟨_, vr, Z, D2, by rw [g5]; exact Hg2.out.below (below_drew w2), by have := addT_len T (y0, y1, y2) 2; have := HTl.out; omega, g1, g2, H82.out, H92.out⟩)
              clear g1 g2 g4 g5 Hg2 H82 H92
              clear c82 f82 c92 f92 d0 d1 d2 c0 c1 c2 hrk
              go_wp2_with fail
              obtain ⟨S14, hSe⟩ : ∃ S : Array Bool → World → Prop, S = fun _ w' => w' = w2.drew := ⟨_, rfl⟩
              have hdrop : ∀ i : Nat, i ≠ 1000 → ∀ L w', S14 (L.setIfInBounds i true) w' → S14 L w' := by
                intro i _ L w' h; rw [hSe] at h ⊢; exact h
              have hS : ∀ L, S14 L w2.drew := by intro L; rw [hSe]
              have hSo : ∀ {L w'}, S14 L w' → w' = w2.drew := by intro L w' h; rw [hSe] at h; exact h
              clear hSe
              refine wp_region_LN S14 9 #[false, false, false, false, false, false, false, false, false] (by kernel_rfl) (by kernel_rfl) rfl ?_
              refine WA.take (i := 0) (v := .bool false) rfl (by kernel_rfl) (by kernel_rfl) (by kernel_rfl) (fun _ _ _ h => h) (hdrop 0 (by decide)) (Or.inl ⟨by rfl, ?_⟩) (hS _) ?_
              · rintro w' ⟨L, hL, hSw, hun⟩
                go_simp
              simp only [List.getElem_toArray, List.getElem_cons_zero, List.getElem_cons_succ, Act.put, List.setIfInBounds_toArray, List.set_cons_zero, List.set_cons_succ]
              refine WA.take (i := 1) (v := .bool false) rfl (by kernel_rfl) (by kernel_rfl) (by kernel_rfl) (fun _ _ _ h => h) (hdrop 1 (by decide)) (Or.inl ⟨by rfl, ?_⟩) (hS _) ?_
              · rintro w' ⟨L, hL, hSw, hun⟩
                go_simp
              simp only [List.getElem_toArray, List.getElem_cons_zero, List.getElem_cons_succ, Act.put, List.setIfInBounds_toArray, List.set_cons_zero, List.set_cons_succ]
              refine WA.take (i := 2) (v := undef) rfl (by kernel_rfl) (by kernel_rfl) (by kernel_rfl) (fun _ _ _ h => h) (hdrop 2 (by decide)) (Or.inr ⟨by rfl, rfl⟩) (hS _) ?_
              simp only [List.getElem_toArray, List.getElem_cons_zero, List.getElem_cons_succ, Act.put, List.setIfInBounds_toArray, List.set_cons_zero, List.set_cons_succ]
              refine WA.take (i := 3) (v := undef) rfl (by kernel_rfl) (by kernel_rfl) (by kernel_rfl) (fun _ _ _ h => h) (hdrop 3 (by decide)) (Or.inr ⟨by rfl, rfl⟩) (hS _) ?_
              simp only [List.getElem_toArray, List.getElem_cons_zero, List.getElem_cons_succ, Act.put, List.setIfInBounds_toArray, List.set_cons_zero, List.set_cons_succ]
              refine WA.take (i := 4) (v := undef) rfl (by kernel_rfl) (by kernel_rfl) (by kernel_rfl) (fun _ _ _ h => h) (hdrop 4 (by decide)) (Or.inr ⟨by rfl, rfl⟩) (hS _) ?_
              simp only [List.getElem_toArray, List.getElem_cons_zero, List.getElem_cons_succ, Act.put, List.setIfInBounds_toArray, List.set_cons_zero, List.set_cons_succ]
              refine WA.take (i := 5) (v := undef) rfl (by kernel_rfl) (by kernel_rfl) (by kernel_rfl) (fun _ _ _ h => h) (hdrop 5 (by decide)) (Or.inr ⟨by rfl, rfl⟩) (hS _) ?_
              simp only [List.getElem_toArray, List.getElem_cons_zero, List.getElem_cons_succ, Act.put, List.setIfInBounds_toArray, List.set_cons_zero, List.set_cons_succ]
              refine WA.take (i := 6) (v := undef) rfl (by kernel_rfl) (by kernel_rfl) (by kernel_rfl) (fun _ _ _ h => h) (hdrop 6 (by decide)) (Or.inr ⟨by rfl, rfl⟩) (hS _) ?_
              simp only [List.getElem_toArray, List.getElem_cons_zero, List.getElem_cons_succ, Act.put, List.setIfInBounds_toArray, List.set_cons_zero, List.set_cons_succ]
              refine WA.skip (i := 7) (by kernel_rfl) rfl (by rfl) (hS _) ?_
              simp only [List.getElem_toArray, List.getElem_cons_zero, List.getElem_cons_succ, Act.put, List.setIfInBounds_toArray, List.set_cons_zero, List.set_cons_succ]
              refine WA.take (i := 8) (v := .bool false) rfl (by kernel_rfl) (by kernel_rfl) (by kernel_rfl) (fun _ _ _ h => h) (hdrop 8 (by decide)) (Or.inl ⟨by rfl, ?_⟩) (hS _) ?_
              · rintro w' ⟨L, hL, hSw, hun⟩
                go_simp
              simp only [List.getElem_toArray, List.getElem_cons_zero, List.getElem_cons_succ, Act.put, List.setIfInBounds_toArray, List.set_cons_zero, List.set_cons_succ]
              refine WA.done (by kernel_rfl) ?_ _
              refine Nrm.normal ?_
              go_wp2_with fail
              exact ⟨⟨k' + 1, by omega, by push_cast; rfl, HB2.out.trans ((below_drew w2).mono HB2.out.size), Hfin.out⟩, by simp [intOf]; omega⟩
            | true =>
              injection e' with e'
              injection e' with e1 e2
              subst e1
              subst e2
              obtain ⟨g1, g2, g3, _⟩ := grows_add T (x0, x1, x2) (y0, y1, y2) H2T.out HsT.out Hsmk.out
              obtain ⟨g3, g4⟩ := g3 Hbb.out
              rw [HN.out] at g3
              subst g3
              have G1 := Lib.hid g1; have G2 := Lib.hid g2; have G4 := Lib.hid g4
              clear g1 g2 g4 hrk
              go_wp2_with fail
              have d0 : w2.drew.cell? ⟨w.heap.size, 0, none⟩ = _ := d0
              have d1 : w2.drew.cell? ⟨w.heap.size, 1, none⟩ = _ := d1
              have d2 : w2.drew.cell? ⟨w.heap.size, 2, none⟩ = _ := d2
              have c0 : w2.drew.cell? ⟨ba, off + k' * 3, none⟩ = _ := c0
              have c1 : w2.drew.cell? ⟨ba, off + k' * 3 + 1, none⟩ = _ := c1
              have c2 : w2.drew.cell? ⟨ba, off + k' * 3 + 2, none⟩ = _ := c2
              obtain ⟨S14, hSe⟩ : ∃ S : Array Bool → World → Prop, S = fun _ w' => Below w2.drew.heap.size w2.drew w' := ⟨_, rfl⟩
              have hdrop : ∀ i : Nat, ∀ L w', S14 (L.setIfInBounds i true) w' → S14 L w' := by
                intro i L w' h; rw [hSe] at h ⊢; exact h
              have hS : ∀ L, S14 L w2.drew := by intro L; rw [hSe]; exact Below.refl _ _
              have hSo : ∀ {L w'}, S14 L w' → Below w2.drew.heap.size w2.drew w' := by intro L w' h; rw [hSe] at h; exact h
              have hSi : ∀ {w'}, Below w2.drew.heap.size w2.drew w' → ∀ L, S14 L w' := by intro w' h L; rw [hSe]; exact h
              clear hSe
              refine wp_region_LN S14 9 #[false, false, false, false, false, false, false, false, false] (by kernel_rfl) (by kernel_rfl) rfl ?_
              refine WA.take (i := 0) (v := .bool true) rfl (by kernel_rfl) (by kernel_rfl) (by kernel_rfl) (fun _ _ _ h => h) (hdrop 0) (Or.inl ⟨by rfl, ?_⟩) (hS _) ?_
              · rintro w' ⟨L, hL, hSw, hun⟩
                go_simp
              simp only [List.getElem_toArray, List.getElem_cons_zero, List.getElem_cons_succ, Act.put, List.setIfInBounds_toArray, List.set_cons_zero, List.set_cons_succ]
              refine WA.take (i := 1) (v := .bool true) rfl (by kernel_rfl) (by kernel_rfl) (by kernel_rfl) (fun _ _ _ h => h) (hdrop 1) (Or.inl ⟨by rfl, ?_⟩) (hS _) ?_
              · rintro w' ⟨L, hL, hSw, hun⟩
                go_simp
              simp only [List.getElem_toArray, List.getElem_cons_zero, List.getElem_cons_succ, Act.put, List.setIfInBounds_toArray, List.set_cons_zero, List.set_cons_succ]
              refine WA.take (i := 2) (v := .agg #[.int .u32 x0, .int .u32 x1, .int .u32 x2]) rfl (by kernel_rfl) (by kernel_rfl) (by kernel_rfl) (fun _ _ _ h => h) (hdrop 2) (Or.inl ⟨by rfl, ?_⟩) (hS _) ?_
              · rintro w' ⟨L, hL, hSw, hun⟩
                have hbw := hSo hSw
                have d0 := cell_later hbw d0
                have d1 := cell_later hbw d1
                have d2 := cell_later hbw d2
                clear hbw
                go_simp
              simp only [List.getElem_toArray, List.getElem_cons_zero, List.getElem_cons_succ, Act.put, List.setIfInBounds_toArray, List.set_cons_zero, List.set_cons_succ]
              refine WA.take (i := 3) (v := .slice (some ⟨ba, off, none⟩) k cap) rfl (by kernel_rfl) (by kernel_rfl) (by kernel_rfl) (fun _ _ _ h => h) (hdrop 3) (Or.inl ⟨by rfl, ?_⟩) (hS _) ?_
              · rintro w' ⟨L, hL, hSw, hun⟩
                go_simp
              simp only [List.getElem_toArray, List.getElem_cons_zero, List.getElem_cons_succ, Act.put, List.setIfInBounds_toArray, List.set_cons_zero, List.set_cons_succ]
              refine WA.take (i := 4) (v := .int .i64 (k' : Int)) rfl (by kernel_rfl) (by kernel_rfl) (by kernel_rfl) (fun _ _ _ h => h) (hdrop 4) (Or.inl ⟨by rfl, ?_⟩) (hS _) ?_
              · rintro w' ⟨L, hL, hSw, hun⟩
                go_simp
              simp only [List.getElem_toArray, List.getElem_cons_zero, List.getElem_cons_succ, Act.put, List.setIfInBounds_toArray, List.set_cons_zero, List.set_cons_succ]
              refine WA.take (i := 5) (v := .pointer (some ⟨ba, off + k' * 3, none⟩)) rfl (by kernel_rfl) (by kernel_rfl) (by kernel_rfl) (fun _ _ _ h => h) (hdrop 5) (Or.inl ⟨by rfl, ?_⟩) (hS _) ?_
              · rintro w' ⟨L, hL, hSw, hun⟩
                go_simp
              simp only [List.getElem_toArray, List.getElem_cons_zero, List.getElem_cons_succ, Act.put, List.setIfInBounds_toArray, List.set_cons_zero, List.set_cons_succ]
              refine WA.take (i := 6) (v := .agg #[.int .u32 y0, .int .u32 y1, .int .u32 y2]) rfl (by kernel_rfl) (by kernel_rfl) (by kernel_rfl) (fun _ _ _ h => h) (hdrop 6) (Or.inl ⟨by rfl, ?_⟩) (hS _) ?_
              · rintro w' ⟨L, hL, hSw, hun⟩
                have hbw := hSo hSw
                have c0 := cell_later hbw c0
                have c1 := cell_later hbw c1
                have c2 := cell_later hbw c2
                clear hbw
                go_simp
              simp only [List.getElem_toArray, List.getElem_cons_zero, List.getElem_cons_succ, Act.put, List.setIfInBounds_toArray, List.set_cons_zero, List.set_cons_succ]
              refine WA.one (i := 7) (by kernel_rfl) rfl (by rfl) (fun K hK => ?_)
              go_simp
              refine (fits_any (x0, x1, x2) (y0, y1, y2) _).mono ?_
              rintro e w3 ⟨rfl, hB3⟩
              obtain ⟨ff, hff⟩ : ∃ ff, fits (x0, x1, x2) (y0, y1, y2) = ff := ⟨_, rfl⟩
              rw [hff]
              have Hff := Lib.hid hff; have HB3 := Lib.hid ((below_drew w2).trans hB3); have HB3d := Lib.hid hB3
              refine hK _ _ (hSi hB3 _) ?_
              clear hK
              try simp only [List.getElem_toArray, List.getElem_cons_zero, List.getElem_cons_succ, Act.put, List.setIfInBounds_toArray, List.set_cons_zero, List.set_cons_succ]
              clear hB3 hff
              refine WA.take (i := 8) (v := .bool ff) rfl (by kernel_rfl) (by kernel_rfl) (by kernel_rfl) (fun _ _ _ h => h) (hdrop 8) (Or.inl ⟨by rfl, ?_⟩) (hSi HB3d.out _) ?_
              · rintro w' ⟨L, hL, hSw, hun⟩
                go_simp
              simp only [List.getElem_toArray, List.getElem_cons_zero, List.getElem_cons_succ, Act.put, List.setIfInBounds_toArray, List.set_cons_zero, List.set_cons_succ]
              refine WA.done (by kernel_rfl) ?_ _
              refine Nrm.normal ?_
              clear hSo hSi hS hdrop d0 d1 d2 c0 c1 c2 c82 f82 c92 f92
              clear S14
              have Hg3 := Lib.hid (Hg2.out.below HB3.out)
              have H83 := Lib.hid ((HB3.out.block _ (Array.getElem?_eq_some_iff.1 H82.out).1).trans H82.out)
              have H93 := Lib.hid ((HB3.out.block _ (Array.getElem?_eq_some_iff.1 H92.out).1).trans H92.out)
              have HB23 := Lib.hid (HB2.out.trans (HB3.out.mono HB2.out.size))
              have HTl2 := Lib.hid (show (addT T (y0, y1, y2) 2).length ≤ k' + 1 by have := addT_len T (y0, y1, y2) 2; have := HTl.out; omega)
              cases ff with
              | false =>
                have Hfin := Lib.hid (show ∃ (T : TS) (vr : Value) (Z : Zone) (D : TabD), GS W1.heap.size (fun i => i = b8 ∨ i = b9) tb T (lst T (x0, x1, x2)) vr Z D w3 ∧ T.length ≤ k' + 1 ∧ Two T ∧ SmallT T ∧
                  w3.heap[b8]? = some (.cells #[.pointer (some ⟨tb, 0, none⟩)] 27 (0, 0)) ∧ w3.heap[b9]? = some (.cells #[vr] 29 (0, 0)) from
                  ⟨_, vr, Z, D2, by rw [G4.out, Hff.out, if_neg (by simp), List.append_nil]; exact Hg3.out, HTl2.out, G1.out, G2.out, H83.out, H93.out⟩)
                go_wp2_with fail
                exact ⟨⟨k' + 1, by omega, by push_cast; rfl, HB23.out, Hfin.out⟩, by simp [intOf]; omega⟩
              | true =>
                have hlT : (lst T (x0, x1, x2)).length ≤ T.length := lst_len _ _
                have hb9s : ∀ g, vr.ownBlock = some g → g ≠ b9 := fun g hg e => (Hg3.out.rowsOff g hg).1 (.inr e)
                obtain ⟨c8, f8⟩ := box_cell H83.out
                obtain ⟨c9, f9⟩ := box_cell H93.out
                have Hb9s := Lib.hid hb9s
                have hl9 := (Array.getElem?_eq_some_iff.1 H93.out).1
                have hTk : T.length ≤ 60 := by have := HTl.out; omega
                obtain ⟨ll, hll⟩ : ∃ ll, (lst T (x0, x1, x2)).length = ll := ⟨_, rfl⟩
                obtain ⟨lt, hlt⟩ : ∃ lt, T.length = lt := ⟨_, rfl⟩
                have HA3 := Lib.hid ((Below.refl _ w3).alloc (Nat.le_refl _) (.cells #[.int .i64 (T.length : Nat)] 3))
                have hrw := own_below Hg3.out.rows HA3.out
                rw [hll] at hrw hlT
                rw [hlt] at hlT hTk hrw ⊢
                have Hrw := Lib.hid hrw; have Hll := Lib.hid hll; have Hlt := Lib.hid hlt
                clear hb9s hrw hll hlt
                rw [Hlt.out] at HA3
                go_wp2_with (at_builtin; go_loud (refine wpList_append_own_at _ rfl _ _ 29 rfl W1.heap.size 3 i0 (.int .i64 0) 1 8 Try.underlying29 Hi.out Hz0.out Hza.out Hz2.out rfl (by decide) _ _ _ rfl Hrw.out ⟨w3.heap.size, 0, none⟩ 1 1 [.int .i64 (lt : Nat)] rfl rfl (cells_blk (World.alloc_heap_new _ _)) (by simp [Value.oneCell']) (by unfold maxLen; omega) (by omega) (by have := HB23.out.size; simp; omega) ?_); intro v' w4 hown' hgrow _ hwh; obtain ⟨g', cap', rfl⟩ := own_slice hown' (Nat.succ_pos _); obtain ⟨vn, hvn⟩ : ∃ vn : Value, vn = .slice (some ⟨g', 0, none⟩) (ll + 1) cap' := ⟨_, rfl⟩; rw [← hvn] at hown' hwh; have Hvn := Lib.hid hvn; have Hown' := Lib.hid hown'; have Hgrow := Lib.hid hgrow; have Hwh := Lib.hid hwh; obtain ⟨c94, f94⟩ := box_cell ((hgrow.block b9 (by simp; omega) (fun e => Hb9s.out b9 e.symm rfl)).trans ((HA3.out.block b9 hl9).trans H93.out)); clear hown' hgrow hwh hvn)
                rw [← Hvn.out]
                have hz3 := HA3.out.size
                have hb9w : W1.heap.size ≤ b9 := Hsb.out.2.1
                have hw49 : w4.heap[b9]? = some (.cells #[vr] 29 (0, 0)) := (Hgrow.out.block b9 (by omega) (fun e => Hb9s.out b9 e.symm rfl)).trans ((HA3.out.block b9 hl9).trans H93.out)
                have hw48 : w4.heap[b8]? = w3.heap[b8]? := (Hgrow.out.block b8 (by have := (Array.getElem?_eq_some_iff.1 H83.out).1; omega) (fun e => (Hg3.out.rowsOff b8 e.symm).1 (.inl rfl))).trans (HA3.out.block b8 (Array.getElem?_eq_some_iff.1 H83.out).1)
                have hvO : ∀ g, vn.ownBlock = some g → ¬ (g = b8 ∨ g = b9) ∧ (vr.ownBlock = some g ∨ w3.heap.size ≤ g) := by
                  intro g hg
                  rcases Hwh.out with h1 | h1
                  · exact ⟨(Hg3.out.rowsOff g (h1 ▸ hg)).1, .inl (h1 ▸ hg)⟩
                  · rw [h1] at hg
                    injection hg with hg
                    have hge : w3.heap.size ≤ g := by omega
                    exact ⟨(Hg3.out.new hge).1, .inr hge⟩
                have hsz : w3.heap.size ≤ (w4.setCell ⟨b9, 0, none⟩ vn).heap.size := by rw [World.size_setCell]; exact Nat.le_trans hz3 Hgrow.out.size
                have hgt := Hg3.out.turn (W' := w4.setCell ⟨b9, 0, none⟩ vn) (vr' := vn) (Lr' := lst T (x0, x1, x2) ++ [T.length]) (fun i => i = b8 ∨ i = b9) (fun i hi => .inl hi) hsz
                  (fun i hi hO hne => (Below.heap_setCell w4 _ _ i (fun e => hO (.inr e))).trans ((Hgrow.out.block i (by omega) (fun e => hne e.symm)).trans (HA3.out.block i hi)))
                  (by rw [List.length_append, List.length_singleton, ics_snoc, Hll.out, Hlt.out]; exact own_blk Hown'.out (fun g hg => Below.heap_setCell w4 _ _ g (fun e => (hvO g hg).1 (.inr e)))) hvO
                have Hfin := Lib.hid (show ∃ (T : TS) (vr : Value) (Z : Zone) (D : TabD), GS W1.heap.size (fun i => i = b8 ∨ i = b9) tb T (lst T (x0, x1, x2)) vr Z D (w4.setCell ⟨b9, 0, none⟩ vn) ∧ T.length ≤ k' + 1 ∧ Two T ∧ SmallT T ∧
                  (w4.setCell ⟨b9, 0, none⟩ vn).heap[b8]? = some (.cells #[.pointer (some ⟨tb, 0, none⟩)] 27 (0, 0)) ∧ (w4.setCell ⟨b9, 0, none⟩ vn).heap[b9]? = some (.cells #[vr] 29 (0, 0)) from
                  ⟨_, vn, _, D2, by rw [G4.out, Hff.out, if_pos rfl]; exact hgt, HTl2.out, G1.out, G2.out, (Below.heap_setCell w4 _ _ b8 Hsb.out.2.2.1).trans (hw48.trans H83.out), box_set hw49 vn⟩)
                exact ⟨⟨k' + 1, by omega, by push_cast; rfl, ((HB23.out.trans (HA3.out.mono HB23.out.size)).grown Hgrow.out (Nat.le_trans HB23.out.size hz3) (fun j hj => (Hg3.out.rows.lt j hj).1)).setCell (p := ⟨b9, 0, none⟩) hb9w _, Hfin.out⟩, by simp [intOf]; omega⟩
          · have hkl' : k' = k := by omega
            subst hkl'
            have hd3 : decide ((k' : Int) < (k' : Int)) = false := by simp
            go_wp2_with fail
            have HG0 := Lib.hid (show G0 (x0, x1, x2) T from ⟨Hg.out.t.nodup, H2T.out, HsT.out, fun c hc => by
              obtain ⟨_, h1, h2, h3, _⟩ := Hg.out.t.oks _ (List.getElem_mem hc)
              rw [rowOf_get T c hc]
              simp only [has0, has3, Bool.or_eq_false_iff, beq_eq_false_iff_ne]
              exact ⟨⟨Ne.symm h1, Ne.symm h2⟩, Ne.symm h3⟩⟩)
            obtain ⟨lt, hlt⟩ : ∃ lt, T.length = lt := ⟨_, rfl⟩
            have Hlt := Lib.hid hlt
            clear hlt f8 c9 f9 hx0
            obtain ⟨d0, d1, d2⟩ := box3_cell ((HBr.out.block _ (by have := Hz1.out; omega)).trans HO0.out)
            have hnf := eql_func_nil
            have c8 : wr.drew.cell? ⟨b8, 0, none⟩ = _ := c8
            have d0 : wr.drew.cell? ⟨w.heap.size, 0, none⟩ = _ := d0
            have d1 : wr.drew.cell? ⟨w.heap.size, 1, none⟩ = _ := d1
            have d2 : wr.drew.cell? ⟨w.heap.size, 2, none⟩ = _ := d2
            have Hgq := Lib.hid (Hg.out.below (below_drew wr))
            obtain ⟨S16, hSe⟩ : ∃ S : Array Bool → World → Prop, S = fun _ w' => Below wr.drew.heap.size wr.drew w' := ⟨_, rfl⟩
            have hdrop : ∀ i : Nat, ∀ L w', S16 (L.setIfInBounds i true) w' → S16 L w' := by
              intro i L w' h; rw [hSe] at h ⊢; exact h
            have hS : ∀ L, S16 L wr.drew := by intro L; rw [hSe]; exact Below.refl _ _
            have hSo : ∀ {L w'}, S16 L w' → Below wr.drew.heap.size wr.drew w' := by intro L w' h; rw [hSe] at h; exact h
            have hSi : ∀ {w'}, Below wr.drew.heap.size wr.drew w' → ∀ L, S16 L w' := by intro w' h L; rw [hSe]; exact h
            clear hSe
            refine wp_region_LN S16 6 #[false, false, false, false, false, false] (by kernel_rfl) (by kernel_rfl) rfl ?_
            obtain ⟨wq, hwq⟩ : ∃ wq, wq = wr.drew := ⟨_, rfl⟩
            have Hwq := Lib.hid hwq
            rw [← hwq] at c8 d0 d1 d2 Hgq hS hSo hSi ⊢
            clear hwq
            refine WA.take (i := 0) (v := .pointer (some ⟨tb, 0, none⟩)) rfl (by kernel_rfl) (by kernel_rfl) (by kernel_rfl) (fun _ _ _ h => h) (hdrop 0) (Or.inl ⟨by rfl, ?_⟩) (hS _) ?_
            · rintro w' ⟨L, hL, hSw, hun⟩
              have hbw := hSo hSw
              have c8 := cell_later hbw c8
              clear hbw
              go_simp
            simp only [List.getElem_toArray, List.getElem_cons_zero, List.getElem_cons_succ, Act.put, List.setIfInBounds_toArray, List.set_cons_zero, List.set_cons_succ]
            refine WA.take (i := 1) (v := .agg #[.int .u32 x0, .int .u32 x1, .int .u32 x2]) rfl (by kernel_rfl) (by kernel_rfl) (by kernel_rfl) (fun _ _ _ h => h) (hdrop 1) (Or.inl ⟨by rfl, ?_⟩) (hS _) ?_
            · rintro w' ⟨L, hL, hSw, hun⟩
              have hbw := hSo hSw
              have d0 := cell_later hbw d0
              have d1 := cell_later hbw d1
              have d2 := cell_later hbw d2
              clear hbw
              go_simp
            simp only [List.getElem_toArray, List.getElem_cons_zero, List.getElem_cons_succ, Act.put, List.setIfInBounds_toArray, List.set_cons_zero, List.set_cons_succ]
            refine WA.take (i := 2) (v := .pointer (some ⟨tb, 0, none⟩)) rfl (by kernel_rfl) (by kernel_rfl) (by kernel_rfl) (fun _ _ _ h => h) (hdrop 2) (Or.inl ⟨by rfl, ?_⟩) (hS _) ?_
            · rintro w' ⟨L, hL, hSw, hun⟩
              have hbw := hSo hSw
              have c8 := cell_later hbw c8
              clear hbw
              go_simp
            simp only [List.getElem_toArray, List.getElem_cons_zero, List.getElem_cons_succ, Act.put, List.setIfInBounds_toArray, List.set_cons_zero, List.set_cons_succ]
            refine WA.one (i := 3) (by kernel_rfl) rfl (by rfl) (fun K hK => ?_)
            go_simp
            refine (len_any Hgq.out.t).mono ?_
            rintro e w' ⟨rfl, rfl⟩
            rw [Hlt.out]
            refine hK _ _ (hSi (Below.refl _ _) _) ?_
            clear hK
            try simp only [List.getElem_toArray, List.getElem_cons_zero, List.getElem_cons_succ, Act.put, List.setIfInBounds_toArray, List.set_cons_zero, List.set_cons_succ]
            refine WA.one (i := 4) (by kernel_rfl) rfl (by rfl) (fun K hK => ?_)
            go_simp
            refine (match_any wq tb (x0, x1, x2) 0 lt 2).mono ?_
            rintro e w4 ⟨rfl, hB4, hz4, hm4⟩
            have HB4 := Lib.hid hB4; have Hz4 := Lib.hid hz4; have Hm4 := Lib.hid hm4
            refine hK _ _ (hSi hB4 _) ?_
            clear hK
            try simp only [List.getElem_toArray, List.getElem_cons_zero, List.getElem_cons_succ, Act.put, List.setIfInBounds_toArray, List.set_cons_zero, List.set_cons_succ]
            clear hB4 hz4 hm4
            refine WA.take (i := 5) (v := .func (.func 24) #[] #[.pointer (some ⟨wq.heap.size, 0, none⟩), .pointer (some ⟨wq.heap.size + 2, 0, none⟩), .pointer (some ⟨wq.heap.size + 3, 0, none⟩), .pointer (some ⟨wq.heap.size + 1, 0, none⟩), .pointer (some ⟨wq.heap.size + 4, 0, none⟩)]) rfl (by kernel_rfl) (by kernel_rfl) (by kernel_rfl) (fun _ _ _ h => h) (hdrop 5) (Or.inl ⟨by rfl, ?_⟩) (hSi HB4.out _) ?_
            · rintro w' ⟨L, hL, hSw, hun⟩
              go_simp
            simp only [List.getElem_toArray, List.getElem_cons_zero, List.getElem_cons_succ, Act.put, List.setIfInBounds_toArray, List.set_cons_zero, List.set_cons_succ]
            refine WA.done (by kernel_rfl) ?_ _
            refine Nrm.normal ?_
            clear hSo hSi hS hdrop d0 d1 d2 c8
            clear S16
            go_wp2_with fail
            refine (wpIn_wide (n := 9)).1 ?_
            obtain ⟨hBb, hzb, k0, l0⟩ := twoB w4 (intB 0) (u32B 1073741824) _ rfl
            obtain ⟨Wb, hWb⟩ : ∃ Wb, Wb = (w4.alloc (intB 0)).alloc (u32B 1073741824) := ⟨_, rfl⟩
            rw [← hWb] at hBb hzb k0 l0
            rw [show (w4.alloc (.cells #[.int .i64 0] 3)).alloc (.cells #[.int .u32 1073741824] 23) = Wb from hWb.symm]
            clear hWb
            obtain ⟨B, hBq⟩ : ∃ B, wq.heap.size = B := ⟨_, rfl⟩
            have hz4 := Hz4.out
            rw [hz4, hBq] at k0 l0 hzb
            rw [hz4, hBq]
            have hm4 := Hm4.out
            rw [hBq] at hm4
            have hq4 : Below wq.heap.size wq Wb := HB4.out.trans (hBb.mono HB4.out.size)
            have hsq : W1.heap.size ≤ wq.heap.size := by rw [Hwq.out]; exact HBr.out.size
            have hBq1 : Below W1.heap.size W1 wq := by rw [Hwq.out]; exact HBr.out.trans ((below_drew wr).mono HBr.out.size)
            have h8q : wq.heap[b8]? = some (.cells #[.pointer (some ⟨tb, 0, none⟩)] 27 (0, 0)) := by rw [Hwq.out]; exact H8.out
            have h9q : wq.heap[b9]? = some (lisB vr) := by rw [Hwq.out]; exact H9.out
            have hl8 := (Array.getElem?_eq_some_iff.1 h8q).1
            have hl9 := (Array.getElem?_eq_some_iff.1 h9q).1
            have hzB : Wb.heap.size = B + 7 := by omega
            obtain ⟨S, hS⟩ : ∃ S : Nat → Nat → Prop, S = fun i j => ∃ v, look2 (x0, x1, x2) = true ∧ D.mb (x0, x1, x2) = some v ∧ v.ownBlock = some i ∧ j < (lst T (x0, x1, x2)).length := ⟨_, rfl⟩
            have hgt := (Hgq.out.turn (W' := Wb) (vr' := vr) (Lr' := lst T (x0, x1, x2)) (GO b8 b9 B) (fun i hi => by
              rcases hi with hi | hi
              · exact .inl hi
              · exact .inr ⟨by omega, by omega⟩) hq4.size (fun i hi _ _ => hq4.block i hi) (own_below Hgq.out.rows hq4) (fun g hg => ⟨fun hO => by
              rcases hO with hO | hO
              · exact (Hgq.out.rowsOff g hg).1 hO
              · have := (Hgq.out.rows.lt g hg).2; omega, .inl hg⟩)).less (S := S) (fun i j hs => by
              rw [hS] at hs
              obtain ⟨v, h1, h2, h3, h4⟩ := hs
              exact ⟨_, v, Hro0.out, h2, h3, h4⟩)
            have hSI : ∀ i j, S i j → (∃ cur fz, wq.heap[i]? = some (.cells cur 3 fz)) ∧ i < wq.heap.size := by
              intro i j hs
              rw [hS] at hs
              obtain ⟨v, h1, h2, h3, h4⟩ := hs
              have := (Hgq.out.t.byOk.has _ v Hro0.out h2).2.lt i h3
              exact ⟨this.2, this.1⟩
            have hT0 : GT W1.heap.size b8 b9 B tb B S W1 Wb T (lst T (x0, x1, x2)) 0 1073741824 vr ((Z.gap wq.heap.size Wb.heap.size).less S) D Wb :=
              ⟨hgt, fun i hi => by have := hi.2; omega, fun i j hs hw => hw.2 hs, fun i j hs => (by obtain ⟨v, h1, h2, h3, h4⟩ := (hS ▸ hs : (fun i j => ∃ v, look2 (x0, x1, x2) = true ∧ D.mb (x0, x1, x2) = some v ∧ v.ownBlock = some i ∧ j < (lst T (x0, x1, x2)).length) i j); exact .inl ⟨sl_reads (Hgq.out.t.byOk.has _ v Hro0.out h2).2 h3 (by omega), (hSI i j hs).2⟩), fun i j hs => (by obtain ⟨⟨cur, fz, h1⟩, h2⟩ := hSI i j hs; exact ⟨cur, fz, (hq4.block i h2).trans h1⟩), (hq4.block b9 hl9).trans h9q, k0, l0, fun i _ => rfl, fun i j _ => rfl, Nat.le_refl _, hBq1.trans (hq4.mono hsq)⟩
            have hlc : ∀ v g, look2 (x0, x1, x2) = true → D.mb (x0, x1, x2) = some v → v.ownBlock = some g → ∀ j (h : j < (lst T (x0, x1, x2)).length), S g j ∧ Wb.cell? ⟨g, j, none⟩ = some (.int .i64 ((lst T (x0, x1, x2))[j] : Nat)) := by
              intro v g h1 h2 h3 j h
              refine ⟨by rw [hS]; exact ⟨v, h1, h2, h3, h⟩, cell_later hq4 ?_⟩
              exact (Hgq.out.t.byOk.has _ v Hro0.out h2).2.cells h3 j _ (ics_get _ _ h)
            have hmb : MBox Wb B tb (x0, x1, x2) 0 lt 2 := hm4.keep (N := 0) (fun i hi => hBb.block i (by rcases hi with h | h <;> omega))
            have hGOb : ∀ i, GO b8 b9 B i → i < Wb.heap.size := by
              intro i hi
              rcases hi with (hi | hi) | hi <;> omega
            have hSb : ∀ i j, S i j → i < Wb.heap.size := fun i j hs => by have := (hSI i j hs).2; omega
            have hys := run_grows HG0.out
            rw [Hlt.out] at hys
            have hsB : W1.heap.size ≤ b8 ∧ W1.heap.size ≤ b9 ∧ b8 ≠ b9 := ⟨Hsb.out.1, Hsb.out.2.1, Hsb.out.2.2.1⟩
            have HT0 := Lib.hid hT0; have Hlc := Lib.hid hlc; have Hmb := Lib.hid hmb; have HGOb := Lib.hid hGOb; have HSb := Lib.hid hSb; have HSI := Lib.hid hSI; have HsB := Lib.hid hsB; have HzB := Lib.hid hzB
            have HB8 := Lib.hid (show Wb.heap[b8]? = some (.cells #[.pointer (some ⟨tb, 0, none⟩)] 27 (0, 0)) from (hq4.block b8 hl8).trans h8q)
            have Hlb := Lib.hid (show b8 < B ∧ b9 < B ∧ W1.heap.size ≤ B by omega)
            clear hzB hT0 hlc hmb hGOb hSb hSI hsB hgt hl8 hl9 h8q h9q hBq1 hsq hq4 hm4 hz4 hS k0 l0 hzb hBb
            refine wpIn_rangeFunc_Dn (fun t x bx => (((t.setIfInBounds 90 (.int .i64 (x : Nat))).setIfInBounds 91 (rv (rowOf T x))).setIfInBounds 16 (.int .i64 (x : Nat))).setIfInBounds 17 (.pointer (some ⟨bx, 0, none⟩))) rfl (by decide) (gf := 24) (lb := #[.pointer (some ⟨B, 0, none⟩), .pointer (some ⟨B + 2, 0, none⟩), .pointer (some ⟨B + 3, 0, none⟩), .pointer (some ⟨B + 1, 0, none⟩), .pointer (some ⟨B + 4, 0, none⟩)]) rfl trivial (enters_of Try.func24 (by kernel_rfl) rfl)
              (match1_drawn (9 - 1) B tb (x0, x1, x2) Hro0.out 0 lt 2 T D (fun pre => (stG (x0, x1, x2) T pre.length).T) (ev (lst T (x0, x1, x2))) hys (fun pre => stG_ge _ _ _) (fun pre x hp => by
                obtain ⟨h1, h2⟩ := ev_at hp
                have hi := stG_inv HG0.out pre.length (by omega)
                exact hi.row x (by rw [← h2]; exact (lst_lt (List.getElem_mem h1)).1)))
              (fun pre W => ∃ vr Z D', GT W1.heap.size b8 b9 B tb B S W1 Wb (stG (x0, x1, x2) T pre.length).T (stG (x0, x1, x2) T pre.length).R pre.length (stG (x0, x1, x2) T pre.length).l vr Z D' W ∧ (pre = [] → D' = D))
              (fun c pre W => c = .ret ∧ Below w.heap.size w W ∧ W.heap[w.heap.size + 2]? = some (.cells #[.bool true] 4 (0, 0)))
              (by
                rintro pre W W' row ⟨vr, Z, D', h, hD⟩ hg hr
                exact ⟨vr, Z, D', h.keptM hg hr (by have := HzB.out; omega) (by have := HzB.out; have := Hlb.out; omega) HSb.out HGOb.out, hD⟩)
              (by
                rintro c pre W W' row ⟨rfl, h1, h2⟩ hg hr
                refine ⟨rfl, h1.grown hg (Nat.le_trans (Nat.le_refl _) h1.size) (fun r e => by have := (hr r e).1; have := HzB.out; have := Hlb.out; have := Hz1.out; omega), (hg.block _ (Array.getElem?_eq_some_iff.1 h2).1 (fun e => ?_)).trans h2⟩
                have := (hr _ e.symm).1; have := HzB.out; have := Hlb.out; have := Hz1.out; omega)
              (by
                rintro pre W ⟨vr, Z, D', h, hD⟩
                refine ⟨Hmb.out.keep (N := 0) (fun i hi => h.kb i (.inr (by rcases hi with h | h <;> omega))), ⟨Z, D', h.g.t⟩, fun e => ?_, fun v g h1 h2 h3 j hj => ?_⟩
                · subst e
                  have := hD rfl
                  subst this
                  exact ⟨Z, h.g.t⟩
                · obtain ⟨h4, h5⟩ := Hlc.out v g h1 h2 h3 j hj
                  exact (h.pc g j h4).trans h5)
              ⟨vr, _, D, HT0.out, fun _ => rfl⟩
              ?assign ?body ?done ?stop
            case assign =>
              rintro ln pre x W K ⟨vr', Z', D', hgt, hD⟩ hK
              obtain ⟨⟨y0, y1, y2⟩, hy⟩ : ∃ y, rowOf T x = y := ⟨_, rfl⟩
              simp only [NRAx, hy, rv] at hK
              simp only [hy]
              simp only [rv]
              have HK := Lib.hid hK; have Hgt := Lib.hid hgt
              have Hsw := Lib.hid (show W1.heap.size ≤ W.heap.size by have := hgt.sz; have := HzB.out; have := Hlb.out; omega)
              have Hbw := Lib.hid (show Wb.heap.size ≤ W.heap.size from hgt.sz)
              clear hK hgt
              gi_wp2
              have BA : Below W.heap.size W (W.alloc (.cells #[.int .u32 y0, .int .u32 y1, .int .u32 y2] 25)) := (Below.refl _ W).alloc (Nat.le_refl _) _
              exact HK.out _ _ ⟨BA.size, fun k o _ h _ => (BA.block k (Array.getElem?_eq_some_iff.1 h).1).trans h⟩ ⟨vr', Z', D', Hgt.out.below BA Hsw.out, hD⟩ ⟨W.heap.size, Hbw.out, rfl, World.alloc_heap_new _ _⟩
            case body =>
              rintro lnn pre x W bx ⟨vr', Z', D', hgt, hD⟩ hbxl hbx hpx
              obtain ⟨⟨y0, y1, y2⟩, hy⟩ : ∃ y, rowOf T x = y := ⟨_, rfl⟩
              simp only [hy] at hbx ⊢
              simp only [rv]
              obtain ⟨hxT, hi, hR0, hR1, hmT, hRT⟩ := g_turn HG0.out hpx
              have Hst := Lib.hid (show stG (x0, x1, x2) T (pre.length + 1) = GSt.step (x0, x1, x2) T pre.length (stG (x0, x1, x2) T pre.length) from rfl)
              have Hpl := Lib.hid (show (pre ++ [x]).length = pre.length + 1 by simp)
              obtain ⟨m, hm⟩ : ∃ m, pre.length = m := ⟨_, rfl⟩
              rw [hm] at hgt hi hR0 hR1 hmT hRT Hst Hpl
              obtain ⟨⟨Tm, Rm, lm⟩, hsm⟩ : ∃ st, stG (x0, x1, x2) T m = st := ⟨_, rfl⟩
              rw [hsm] at hgt hi hR0 hR1 hRT Hst
              simp only at hgt hR0 hR1 hRT
              have hm60 : m < 61 := by have := HTl.out; omega
              obtain ⟨hr1, hRx⟩ := List.getElem?_eq_some_iff.1 hR0
              have hrk : rok (y0, y1, y2) := by
                rw [← hy, rowOf_get T x hxT]
                exact (Hg.out.t.oks _ (List.getElem_mem hxT)).1
              have hl0 := hi.l0; have hl1 := hi.l1; have hle := hi.le
              simp only at hl0 hl1 hle
              have hle' : Tm.length + 1 ≤ 1000000 := by have := HTl.out; omega
              have hge' : T.length ≤ Tm.length := hi.ge
              obtain ⟨ao, cap1, hvr, hcs⟩ := own_form hgt.g.rows
              obtain ⟨g, hao, hg1, hg2, hgm⟩ := hcs m hr1
              subst hao
              subst hvr
              rw [hRx] at hgm
              obtain ⟨rl, hrl⟩ : ∃ rl, Rm.length = rl := ⟨_, rfl⟩
              have hrm : m < rl := by omega
              have hrl60 : rl ≤ 60 := by have := HTl.out; omega
              have h9 := hgt.h9
              rw [hrl] at h9
              obtain ⟨c9, f9⟩ := box_cell h9
              obtain ⟨ck, fk⟩ := box_cell hgt.hk
              obtain ⟨cl, fl⟩ := box_cell hgt.hl
              obtain ⟨c8, f8⟩ := box_cell ((hgt.kb b8 (.inl rfl)).trans ((HT0.out.kb b8 (.inl rfl)).symm.trans HB8.out))
              obtain ⟨z0, z1, z2⟩ := box3_cell hbx
              obtain ⟨d0, d1, d2⟩ := box3_cell ((hgt.bel.block _ (by have := Hz1.out; omega)).trans HO0.out)
              have hd4 : decide ((m : Int) ≥ (rl : Int)) = false := by simp; omega
              have HGT := Lib.hid hgt; have HGi := Lib.hid hi; have Hcs := Lib.hid hcs; have Hrl := Lib.hid hrl; have Hm := Lib.hid hm; have Hsm := Lib.hid hsm; have HR0 := Lib.hid hR0; have HR1 := Lib.hid hR1
              have Hrk := Lib.hid hrk; have Hle := Lib.hid (And.intro hle' hge'); have Hpx := Lib.hid hpx; have Hbxl := Lib.hid hbxl; have Hbx := Lib.hid hbx; have HxT := Lib.hid hxT; have Hy := Lib.hid hy
              have H9m := Lib.hid h9; have Hg12 := Lib.hid (show W1.heap.size ≤ g ∧ g < W.heap.size from ⟨hg1, hg2⟩)
              have HX0 := Lib.hid (LX.start W B (x0, x1, x2) (y0, y1, y2) lm hgt.hl)
              have HBW := Lib.hid (show B + 6 < W.heap.size from (Array.getElem?_eq_some_iff.1 hgt.hl).1)
              have Hl01 := Lib.hid (show 0 ≤ lm ∧ lm + 10 ≤ 4294967295 by omega)
              clear hgt hi hcs hrl hm hsm hR0 hR1 hRx hrk hle' hge' hpx hbxl hbx hxT hy hys h9 hg1 hg2 hl0 hl1 hle hD hr1 hmT hRT
              gi_wp2_with fail
              have hk0 := ck; have hk1 := fk
              clear c9 f9 ck fk cl fl c8 f8 z0 z1 z2 d0 d1 d2 hgm hk0 hk1
              gi_loopw [19] (fun u X => ∃ j : Nat, j ≤ 3 ∧ u = .int .i64 j ∧ LX W B (x0, x1, x2) (y0, y1, y2) lm j X) (fun u _ => 3 - (intOf u).toNat)
              case atStart => exact ⟨0, by omega, rfl, HX0.out⟩
              case round =>
                obtain ⟨j, hj, rfl, hX⟩ := hrel
                by_cases hj3 : j < 3
                · obtain ⟨d0, d1, d2⟩ := box3_cell ((hX.keep w.heap.size (by have := Hz1.out; have := HGT.out.bel.size; omega) (by have := Hz1.out; have := Hlb.out; omega)).trans ((HGT.out.bel.block _ (by have := Hz1.out; omega)).trans HO0.out))
                  obtain ⟨cl, fl⟩ := box_cell hX.hl
                  have hbd := lJ_b (x0, x1, x2) lm j
                  obtain ⟨lj, hlj⟩ : ∃ lj, lJ (x0, x1, x2) lm j = lj := ⟨_, rfl⟩
                  rw [hlj] at cl hbd
                  have hwr : IntKind.u32.wrap (lj + 1) = lj + 1 := wrap_u32 _ (by have := Hl01.out; omega) (by have := Hl01.out; omega)
                  have hxf : ∀ j', wr.frozen? ⟨W.heap.size, j', none⟩ = false := fun j' => by unfold World.frozen?; rw [hX.hx]; simp
                  have hxc : ∀ j', j' < 3 → (wr.cell? ⟨W.heap.size, j', none⟩).isSome := fun j' h => by unfold World.cell?; rw [hX.hx]; simp [xJ, h]
                  obtain ⟨e0, he0⟩ := Option.isSome_iff_exists.1 (hxc 0 (by omega)); obtain ⟨e1, he1⟩ := Option.isSome_iff_exists.1 (hxc 1 (by omega)); obtain ⟨e2, he2⟩ := Option.isSome_iff_exists.1 (hxc 2 (by omega))
                  have q0 := hxf 0; have q1 := hxf 1; have q2 := hxf 2
                  have hne1 : B + 6 ≠ W.heap.size := by have := HBW.out; omega
                  have hne2 : w.heap.size ≠ B + 6 ∧ w.heap.size ≠ W.heap.size := by have := Hz1.out; have := Hlb.out; have := HBW.out; omega
                  obtain ⟨hne2, hne3⟩ := hne2
                  have HX := Lib.hid hX; have Hlj := Lib.hid hlj
                  clear hX hlj hxf hxc
                  have hjj : j = 0 ∨ j = 1 ∨ j = 2 := by omega
                  rcases hjj with rfl | rfl | rfl
                  · skip
                    by_cases hx : x0 = 0
                    · have hd6 : (x0 == 0) = true := by simpa using hx
                      gi_wp2_with fail
                      rw [← Hlj.out]
                      exact ⟨⟨1, by omega, rfl, HX.out.put (by omega) hx HBW.out⟩, by simp [intOf]⟩
                    · have hd6 : (x0 == 0) = false := by simpa using hx
                      gi_wp2_with fail
                      exact ⟨⟨1, by omega, rfl, HX.out.skip (by omega) hx⟩, by simp [intOf]⟩
                  · skip
                    by_cases hx : x1 = 0
                    · have hd6 : (x1 == 0) = true := by simpa using hx
                      gi_wp2_with fail
                      rw [← Hlj.out]
                      exact ⟨⟨2, by omega, rfl, HX.out.put (by omega) hx HBW.out⟩, by simp [intOf]⟩
                    · have hd6 : (x1 == 0) = false := by simpa using hx
                      gi_wp2_with fail
                      exact ⟨⟨2, by omega, rfl, HX.out.skip (by omega) hx⟩, by simp [intOf]⟩
                  · skip
                    by_cases hx : x2 = 0
                    · have hd6 : (x2 == 0) = true := by simpa using hx
                      gi_wp2_with fail
                      rw [← Hlj.out]
                      exact ⟨⟨3, by omega, rfl, HX.out.put (by omega) hx HBW.out⟩, by simp [intOf]⟩
                    · have hd6 : (x2 == 0) = false := by simpa using hx
                      gi_wp2_with fail
                      exact ⟨⟨3, by omega, rfl, HX.out.skip (by omega) hx⟩, by simp [intOf]⟩
                · have hj' : j = 3 := by omega
                  subst hj'
                  have hgc := HGT.out.laid hX ⟨HsB.out.2.2, Hlb.out.1, Hlb.out.2.1⟩ ⟨HsB.out.2.1, Hlb.out.2.2⟩
                  rw [Hrl.out] at hgc
                  have c8 := hgc.box8 HB8.out
                  have hx3 := hX.hx
                  rw [xJ_3] at hx3
                  have hqok := growR_ok (x0, x1, x2) (y0, y1, y2) lm Hrk.out Hl01.out.1 (by have := Hl01.out.2; omega)
                  obtain ⟨⟨q0, q1, q2⟩, hq⟩ : ∃ q, growR (x0, x1, x2) (y0, y1, y2) lm = q := ⟨_, rfl⟩
                  rw [hq] at hx3 hqok
                  obtain ⟨e0, e1, e2⟩ := box3_cell hx3
                  have HGc := Lib.hid hgc; have Hqok := Lib.hid hqok; have Hq := Lib.hid hq
                  have HKc := Lib.hid (show KeepsFrom Wb.heap.size W wr from ⟨by have := hX.size; omega, fun i o _ ho hc => by
                    refine (hX.keep i (Array.getElem?_eq_some_iff.1 ho).1 (fun e => ?_)).trans ho
                    have h6 := HGT.out.hl
                    rw [e, h6] at ho
                    injection ho with ho; subst ho; cases hc⟩)
                  have Hswr := Lib.hid (show W1.heap.size ≤ wr.heap.size from hgc.bel.size)
                  clear hX hgc hx3 hqok hq
                  gi_wp2_with fail
                  refine (CallsIn.inRound lnn (callsIn_wide.2 (add_any HGc.out.g.t HGc.out.g.opn (q0, q1, q2) 2 Hqok.out Hle.out.1))).mono ?_
                  rintro e w2 ⟨rfl, ⟨D2, t2⟩, f2⟩
                  have hg2 := HGc.out.call t2 f2 Hswr.out
                  have HK2 := Lib.hid (HKc.out.trans (f2.keeps (B := Wb.heap.size) (fun i hM => by have := HGc.out.m i hM; have := HzB.out; omega)))
                  obtain ⟨nn, hnn⟩ : ∃ nn, addN Tm (q0, q1, q2) 2 = nn := ⟨_, rfl⟩
                  obtain ⟨nb, hnb⟩ : ∃ nb, addB Tm (q0, q1, q2) 2 = nb := ⟨_, rfl⟩
                  rw [hnn, hnb]
                  obtain ⟨T1, hT1⟩ : ∃ T1, addT Tm (q0, q1, q2) 2 = T1 := ⟨_, rfl⟩
                  have Hge1 := Lib.hid (show T.length ≤ T1.length by rw [← hT1]; exact Nat.le_trans Hle.out.2 (addT_ge _ _ _))
                  rw [hT1] at hg2
                  have HT1 := Lib.hid hT1
                  obtain ⟨ck, fk⟩ := box_cell hg2.hk
                  obtain ⟨c9, f9⟩ := box_cell hg2.h9
                  have c8 := hg2.box8 HB8.out
                  obtain ⟨lv, hlv⟩ : ∃ lv : Int, (growL (x0, x1, x2) lm).2.2 = lv := ⟨_, rfl⟩
                  rw [hlv] at hg2
                  have Hlv := Lib.hid hlv
                  have hwm : IntKind.i64.wrap ((m : Int) + 1) = (m : Int) + 1 := by rw [IntKind.wrap_i64]; omega
                  have hwm2 : IntKind.i64.wrap ((m : Int) + 2) = (m : Int) + 2 := by rw [IntKind.wrap_i64]; omega
                  have Hd9 := Lib.hid (show b8 ≠ b9 ∧ b8 < B ∧ b9 < B from ⟨HsB.out.2.2, Hlb.out.1, Hlb.out.2.1⟩)
                  have Hs9 := Lib.hid (show W1.heap.size ≤ b9 ∧ W1.heap.size ≤ B from ⟨HsB.out.2.1, Hlb.out.2.2⟩)
                  clear hnn hnb t2 f2 hT1 e0 e1 e2 hlv
                  by_cases hm1 : m + 1 < rl
                  · have hd7 : decide ((m : Int) + 1 < (rl : Int)) = true := by simp; omega
                    obtain ⟨d, hd8⟩ : ∃ d, Rm[m + 1]? = some d := ⟨_, List.getElem?_eq_getElem (by have := Hrl.out; omega)⟩
                    have hdT := HR1.out d hd8
                    have hown2 := hg2.g.rows
                    have cg := own_cell (by rw [← Hrl.out] at hown2; exact hown2) (g := g) rfl hd8
                    have HG2 := Lib.hid hg2; have Hd8 := Lib.hid hd8; have HdT := Lib.hid hdT
                    clear hg2 hd8 hdT hown2
                    gi_wp2_with fail
                    have c8 : w2.drew.cell? ⟨b8, 0, none⟩ = _ := c8
                    have c9 : w2.drew.cell? ⟨b9, 0, none⟩ = _ := c9
                    have ck : w2.drew.cell? ⟨B + 5, 0, none⟩ = _ := ck
                    have cg : w2.drew.cell? ⟨g, m + 1, none⟩ = _ := cg
                    have HG2d := Lib.hid (HG2.out.below (below_drew w2) (by have := HG2.out.bel.size; exact this))
                    have HK2d := Lib.hid (show KeepsFrom Wb.heap.size W w2.drew from ⟨HK2.out.size, fun k o h1 h2 h3 => HK2.out.same k o h1 h2 h3⟩)
                    obtain ⟨S35, hSe⟩ : ∃ S : Array Bool → World → Prop, S = fun L w' => L.getD 6 true = false → w' = w2.drew := ⟨_, rfl⟩
                    have hdrop : ∀ i, i ≠ 6 → ∀ L w', S35 (L.setIfInBounds i true) w' → S35 L w' := by
                      intro i hi L w'
                      rw [hSe]
                      intro h hl
                      exact h (by rw [getD_set_ne true hi]; exact hl)
                    have hS : ∀ L, S35 L w2.drew := by intro L; rw [hSe]; exact fun _ => rfl
                    have hSo : ∀ {L w'}, S35 L w' → L.getD 6 true = false → w' = w2.drew := by intro L w' h hl; rw [hSe] at h; exact h hl
                    have hSd : ∀ (L : Array Bool) X, L.getD 6 true = true → S35 L X := by
                      intro L X h; rw [hSe]; intro h1; rw [h] at h1; cases h1
                    clear hSe
                    refine wpIn_region_LW S35 7 #[false, false, false, false, false, false, false] (by kernel_rfl) (by kernel_rfl) rfl (by kernel_rfl) ?_
                    generalize w2.drew = wd at *
                    refine WA.take (i := 0) (v := .pointer (some ⟨tb, 0, none⟩)) rfl (by kernel_rfl) (by kernel_rfl) (by kernel_rfl) (fun _ _ _ h => h) (hdrop 0 (by decide)) (Or.inl ⟨by rfl, ?_⟩) (hS _) ?_
                    · rintro w' ⟨L, hL, hSw, hun⟩
                      obtain rfl := hSo hSw (hL.wait 6 0 (by kernel_rfl) hun)
                      go_simp
                    simp only [List.getElem_toArray, List.getElem_cons_zero, List.getElem_cons_succ, Act.put, List.setIfInBounds_toArray, List.set_cons_zero, List.set_cons_succ]
                    refine WA.take (i := 1) (v := .slice (some ⟨g, 0, none⟩) rl cap1) rfl (by kernel_rfl) (by kernel_rfl) (by kernel_rfl) (fun _ _ _ h => h) (hdrop 1 (by decide)) (Or.inl ⟨by rfl, ?_⟩) (hS _) ?_
                    · rintro w' ⟨L, hL, hSw, hun⟩
                      obtain rfl := hSo hSw (hL.wait 6 5 (by kernel_rfl) (hL.wait 5 4 (by kernel_rfl) (hL.wait 4 1 (by kernel_rfl) hun)))
                      go_simp
                    simp only [List.getElem_toArray, List.getElem_cons_zero, List.getElem_cons_succ, Act.put, List.setIfInBounds_toArray, List.set_cons_zero, List.set_cons_succ]
                    refine WA.take (i := 2) (v := .int .i64 (m : Int)) rfl (by kernel_rfl) (by kernel_rfl) (by kernel_rfl) (fun _ _ _ h => h) (hdrop 2 (by decide)) (Or.inl ⟨by rfl, ?_⟩) (hS _) ?_
                    · rintro w' ⟨L, hL, hSw, hun⟩
                      obtain rfl := hSo hSw (hL.wait 6 5 (by kernel_rfl) (hL.wait 5 4 (by kernel_rfl) (hL.wait 4 3 (by kernel_rfl) (hL.wait 3 2 (by kernel_rfl) hun))))
                      go_simp
                    simp only [List.getElem_toArray, List.getElem_cons_zero, List.getElem_cons_succ, Act.put, List.setIfInBounds_toArray, List.set_cons_zero, List.set_cons_succ]
                    refine WA.take (i := 3) (v := .int .i64 ((m : Int) + 1)) rfl (by kernel_rfl) (by kernel_rfl) (by kernel_rfl) (fun _ _ _ h => h) (hdrop 3 (by decide)) (Or.inl ⟨by rfl, ?_⟩) (hS _) ?_
                    · rintro w' ⟨L, hL, hSw, hun⟩
                      go_simp
                      all_goals rw [hwm]
                    simp only [List.getElem_toArray, List.getElem_cons_zero, List.getElem_cons_succ, Act.put, List.setIfInBounds_toArray, List.set_cons_zero, List.set_cons_succ]
                    refine WA.take (i := 4) (v := .pointer (some ⟨g, m + 1, none⟩)) rfl (by kernel_rfl) (by kernel_rfl) (by kernel_rfl) (fun _ _ _ h => h) (hdrop 4 (by decide)) (Or.inl ⟨by rfl, ?_⟩) (hS _) ?_
                    · rintro w' ⟨L, hL, hSw, hun⟩
                      go_simp
                      all_goals (intro hh; exact absurd (hh (by omega)) (by omega))
                    simp only [List.getElem_toArray, List.getElem_cons_zero, List.getElem_cons_succ, Act.put, List.setIfInBounds_toArray, List.set_cons_zero, List.set_cons_succ]
                    refine WA.take (i := 5) (v := .int .i64 (d : Nat)) rfl (by kernel_rfl) (by kernel_rfl) (by kernel_rfl) (fun _ _ _ h => h) (hdrop 5 (by decide)) (Or.inl ⟨by rfl, ?_⟩) (hS _) ?_
                    · rintro w' ⟨L, hL, hSw, hun⟩
                      obtain rfl := hSo hSw (hL.wait 6 5 (by kernel_rfl) hun)
                      go_simp
                    simp only [List.getElem_toArray, List.getElem_cons_zero, List.getElem_cons_succ, Act.put, List.setIfInBounds_toArray, List.set_cons_zero, List.set_cons_succ]
                    refine WA.one (i := 6) (by kernel_rfl) rfl (by rfl) (fun K hK => ?_)
                    go_simp
                    refine (clear_yes HG2d.out.g.t d (Nat.lt_of_lt_of_le HdT.out Hge1.out) 2 ⟨by omega, by omega⟩).mono ?_
                    rintro e w3 ⟨rfl, t3, f3⟩
                    have Hg3 := Lib.hid (HG2d.out.call t3 f3 (by have := HG2d.out.bel.size; exact this))
                    have HK3 := Lib.hid (HK2d.out.trans (f3.keeps (B := Wb.heap.size) (fun i hM => by have := HG2d.out.m i hM; have := HzB.out; omega)))
                    clear t3 f3
                    refine hK _ _ (hSd _ _ (by rfl)) ?_
                    clear hK
                    try simp only [List.getElem_toArray, List.getElem_cons_zero, List.getElem_cons_succ, Act.put, List.setIfInBounds_toArray, List.set_cons_zero, List.set_cons_succ]
                    refine WA.done (by kernel_rfl) ?_ _
                    refine Nrm.normal ?_
                    obtain ⟨ck, fk⟩ := box_cell Hg3.out.hk
                    obtain ⟨c9, f9⟩ := box_cell Hg3.out.h9
                    have hcap : rl ≤ cap1 := by have := own_cap Hg3.out.g.rows; rw [Hrl.out] at this; exact this
                    obtain ⟨go, hgo⟩ : ∃ go, (if cap1 = m + 2 then 0 else m + 2) = go := ⟨_, rfl⟩
                    clear hSo hSd hS hdrop cg c8
                    clear S35
                    gi_wp2_with fail
                    have c9 : w3.drew.cell? ⟨b9, 0, none⟩ = _ := c9
                    have ck : w3.drew.cell? ⟨B + 5, 0, none⟩ = _ := ck
                    have f9 : w3.drew.frozen? ⟨b9, 0, none⟩ = false := f9
                    have Hg3d := Lib.hid (Hg3.out.below (below_drew w3) (by have := Hg3.out.bel.size; exact this))
                    have HK3d := Lib.hid (show KeepsFrom Wb.heap.size W w3.drew from ⟨HK3.out.size, fun k o h1 h2 h3 => HK3.out.same k o h1 h2 h3⟩)
                    obtain ⟨S36, hSe⟩ : ∃ S : Array Bool → World → Prop, S = fun L w' => L.getD 10 true = false → (w'.cell? ⟨b9, 0, none⟩ = some (.slice (some ⟨g, 0, none⟩) rl cap1) ∧ w'.cell? ⟨B + 5, 0, none⟩ = some (.int .i64 (m : Int))) := ⟨_, rfl⟩
                    have hdrop : ∀ i, i ≠ 10 → ∀ L w', S36 (L.setIfInBounds i true) w' → S36 L w' := by
                      intro i hi L w'
                      rw [hSe]
                      intro h hl
                      exact h (by rw [getD_set_ne true hi]; exact hl)
                    have hSg : ∀ w' : World, (w'.cell? ⟨b9, 0, none⟩ = some (.slice (some ⟨g, 0, none⟩) rl cap1) ∧ w'.cell? ⟨B + 5, 0, none⟩ = some (.int .i64 (m : Int))) → ∀ L, S36 L w' := by intro w' h L; rw [hSe]; exact fun _ => h
                    have hSo : ∀ {L w'}, S36 L w' → L.getD 10 true = false → (w'.cell? ⟨b9, 0, none⟩ = some (.slice (some ⟨g, 0, none⟩) rl cap1) ∧ w'.cell? ⟨B + 5, 0, none⟩ = some (.int .i64 (m : Int))) := by intro L w' h hl; rw [hSe] at h; exact h hl
                    have hSd : ∀ (L : Array Bool) X, L.getD 10 true = true → S36 L X := by
                      intro L X h; rw [hSe]; intro h1; rw [h] at h1; cases h1
                    clear hSe
                    refine wpIn_region_LW S36 11 #[false, false, false, false, false, false, false, false, false, false, false] (by kernel_rfl) (by kernel_rfl) rfl (by kernel_rfl) ?_
                    generalize w3.drew = wd at *
                    refine WA.take (i := 0) (v := .slice (some ⟨g, 0, none⟩) rl cap1) rfl (by kernel_rfl) (by kernel_rfl) (by kernel_rfl) (fun _ _ _ h => h) (hdrop 0 (by decide)) (Or.inl ⟨by rfl, ?_⟩) (hSg _ ⟨c9, ck⟩ _) ?_
                    · rintro w' ⟨L, hL, hSw, hun⟩
                      obtain ⟨c9, ck⟩ := hSo hSw (hL.wait 10 9 (by kernel_rfl) (hL.wait 9 4 (by kernel_rfl) (hL.wait 4 3 (by kernel_rfl) (hL.wait 3 0 (by kernel_rfl) hun))))
                      go_simp
                    simp only [List.getElem_toArray, List.getElem_cons_zero, List.getElem_cons_succ, Act.put, List.setIfInBounds_toArray, List.set_cons_zero, List.set_cons_succ]
                    refine WA.take (i := 1) (v := .int .i64 (m : Int)) rfl (by kernel_rfl) (by kernel_rfl) (by kernel_rfl) (fun _ _ _ h => h) (hdrop 1 (by decide)) (Or.inl ⟨by rfl, ?_⟩) (hSg _ ⟨c9, ck⟩ _) ?_
                    · rintro w' ⟨L, hL, hSw, hun⟩
                      obtain ⟨c9, ck⟩ := hSo hSw (hL.wait 10 9 (by kernel_rfl) (hL.wait 9 4 (by kernel_rfl) (hL.wait 4 3 (by kernel_rfl) (hL.wait 3 2 (by kernel_rfl) (hL.wait 2 1 (by kernel_rfl) hun)))))
                      go_simp
                    simp only [List.getElem_toArray, List.getElem_cons_zero, List.getElem_cons_succ, Act.put, List.setIfInBounds_toArray, List.set_cons_zero, List.set_cons_succ]
                    refine WA.take (i := 2) (v := .int .i64 ((m : Int) + 1)) rfl (by kernel_rfl) (by kernel_rfl) (by kernel_rfl) (fun _ _ _ h => h) (hdrop 2 (by decide)) (Or.inl ⟨by rfl, ?_⟩) (hSg _ ⟨c9, ck⟩ _) ?_
                    · rintro w' ⟨L, hL, hSw, hun⟩
                      go_simp
                      all_goals rw [hwm]
                    simp only [List.getElem_toArray, List.getElem_cons_zero, List.getElem_cons_succ, Act.put, List.setIfInBounds_toArray, List.set_cons_zero, List.set_cons_succ]
                    refine WA.take (i := 3) (v := .slice (some ⟨g, 0, none⟩) (m + 1) cap1) rfl (by kernel_rfl) (by kernel_rfl) (by kernel_rfl) (fun _ _ _ h => h) (hdrop 3 (by decide)) (Or.inl ⟨by rfl, ?_⟩) (hSg _ ⟨c9, ck⟩ _) ?_
                    · rintro w' ⟨L, hL, hSw, hun⟩
                      go_simp
                      all_goals (intro hh; exact absurd (hh (by omega)) (by omega))
                    simp only [List.getElem_toArray, List.getElem_cons_zero, List.getElem_cons_succ, Act.put, List.setIfInBounds_toArray, List.set_cons_zero, List.set_cons_succ]
                    refine WA.take (i := 5) (v := .slice (some ⟨g, 0, none⟩) rl cap1) rfl (by kernel_rfl) (by kernel_rfl) (by kernel_rfl) (fun _ _ _ h => h) (hdrop 5 (by decide)) (Or.inl ⟨by rfl, ?_⟩) (hSg _ ⟨c9, ck⟩ _) ?_
                    · rintro w' ⟨L, hL, hSw, hun⟩
                      obtain ⟨c9, ck⟩ := hSo hSw (hL.wait 10 9 (by kernel_rfl) (hL.wait 9 8 (by kernel_rfl) (hL.wait 8 5 (by kernel_rfl) hun)))
                      go_simp
                    simp only [List.getElem_toArray, List.getElem_cons_zero, List.getElem_cons_succ, Act.put, List.setIfInBounds_toArray, List.set_cons_zero, List.set_cons_succ]
                    refine WA.take (i := 6) (v := .int .i64 (m : Int)) rfl (by kernel_rfl) (by kernel_rfl) (by kernel_rfl) (fun _ _ _ h => h) (hdrop 6 (by decide)) (Or.inl ⟨by rfl, ?_⟩) (hSg _ ⟨c9, ck⟩ _) ?_
                    · rintro w' ⟨L, hL, hSw, hun⟩
                      obtain ⟨c9, ck⟩ := hSo hSw (hL.wait 10 9 (by kernel_rfl) (hL.wait 9 8 (by kernel_rfl) (hL.wait 8 7 (by kernel_rfl) (hL.wait 7 6 (by kernel_rfl) hun))))
                      go_simp
                    simp only [List.getElem_toArray, List.getElem_cons_zero, List.getElem_cons_succ, Act.put, List.setIfInBounds_toArray, List.set_cons_zero, List.set_cons_succ]
                    refine WA.take (i := 7) (v := .int .i64 ((m : Int) + 2)) rfl (by kernel_rfl) (by kernel_rfl) (by kernel_rfl) (fun _ _ _ h => h) (hdrop 7 (by decide)) (Or.inl ⟨by rfl, ?_⟩) (hSg _ ⟨c9, ck⟩ _) ?_
                    · rintro w' ⟨L, hL, hSw, hun⟩
                      go_simp
                      all_goals rw [hwm2]
                    simp only [List.getElem_toArray, List.getElem_cons_zero, List.getElem_cons_succ, Act.put, List.setIfInBounds_toArray, List.set_cons_zero, List.set_cons_succ]
                    refine WA.take (i := 8) (v := .slice (some ⟨g, go, none⟩) (rl - (m + 2)) (cap1 - (m + 2))) rfl (by kernel_rfl) (by kernel_rfl) (by kernel_rfl) (fun _ _ _ h => h) (hdrop 8 (by decide)) (Or.inl ⟨by rfl, ?_⟩) (hSg _ ⟨c9, ck⟩ _) ?_
                    · rintro w' ⟨L, hL, hSw, hun⟩
                      go_simp
                      all_goals (rw [if_pos ⟨by omega, by omega⟩, show ((m : Int) + 2).toNat = m + 2 by omega, ← hgo]; split <;> rfl)
                    simp only [List.getElem_toArray, List.getElem_cons_zero, List.getElem_cons_succ, Act.put, List.setIfInBounds_toArray, List.set_cons_zero, List.set_cons_succ]
                    refine WA.one (i := 4) (by kernel_rfl) rfl (by rfl) (fun K hK => ?_)
                    have hown3 := Hg3d.out.g.rows
                    have hls := Hrl.out
                    have hw1d : W1.heap.size ≤ wd.heap.size := Hg3d.out.bel.size
                    refine wp_append_own (.const (.slice none 0 0)) (.tmp 136) 29 (by rfl) W1.heap.size 3 i0 (.int .i64 0) 1 8 Try.underlying29 Hi.out Hz0.out Hza.out Hz2.out rfl (by decide) (.slice none 0 0) 0 [] (by rfl) (World.ownsRow_nil _ _ _ _) ⟨g, 0, none⟩ (m + 1) cap1 (ics (Rm.take (m + 1))) (by rfl) (by rw [ics_length, List.length_take]; omega) (own_part hown3 rfl 0 (fun j hj => by rw [Nat.zero_add, List.getElem?_take]; rw [List.length_take] at hj; rw [if_pos (by omega)])) (ics_one _) (by unfold maxLen; omega) (by omega) hw1d ?_
                    intro v1 w4 hown4 hg4 _ hw4
                    replace hg4 : wd.grownBy w4 none := hg4
                    have hb4 : ∀ i, i < wd.heap.size → w4.heap[i]? = wd.heap[i]? := fun i hi => hg4.block i hi (fun e => by cases e)
                    have hlt9 := (Array.getElem?_eq_some_iff.1 Hg3d.out.h9).1
                    have hltk := (Array.getElem?_eq_some_iff.1 Hg3d.out.hk).1
                    have c94 : w4.cell? ⟨b9, 0, none⟩ = _ := (World.cell?_of_block (a := ⟨b9, 0, none⟩) (hb4 b9 hlt9)).trans c9
                    have ck4 : w4.cell? ⟨B + 5, 0, none⟩ = _ := (World.cell?_of_block (a := ⟨B + 5, 0, none⟩) (hb4 _ hltk)).trans ck
                    have hown34 := own_blk hown3 (fun g' hg' => hb4 g' (hown3.lt g' hg').2)
                    have hw41 : ∀ g, v1.ownBlock = some g → wd.heap.size ≤ g := by
                      intro g hg
                      rcases hw4 with h1 | h1
                      · rw [h1] at hg; cases hg
                      · rw [h1] at hg; injection hg with hg; omega
                    have Hown4 := Lib.hid hown4; have Hg4 := Lib.hid hg4; have Hw41 := Lib.hid hw41
                    refine hK _ _ (hSg _ ⟨c94, ck4⟩ _) ?_
                    clear hK hown4 hg4 hw4 hw41
                    try simp only [List.getElem_toArray, List.getElem_cons_zero, List.getElem_cons_succ, Act.put, List.setIfInBounds_toArray, List.set_cons_zero, List.set_cons_succ]
                    refine WA.one (i := 9) (by kernel_rfl) rfl (by rfl) (fun K hK => ?_)
                    refine wp_append_own (.tmp 137) (.tmp 141) 29 (by rfl) W1.heap.size 3 i0 (.int .i64 0) 1 8 Try.underlying29 Hi.out Hz0.out Hza.out Hz2.out rfl (by decide) v1 (0 + (m + 1)) ([] ++ ics (Rm.take (m + 1))) (by rfl) Hown4.out ⟨g, go, none⟩ (rl - (m + 2)) (cap1 - (m + 2)) (ics (Rm.drop (m + 2))) (by rfl) (by rw [ics_length, List.length_drop, hls]) (by
                      by_cases hc : cap1 = m + 2
                      · rw [show Rm.drop (m + 2) = [] from List.drop_eq_nil_of_le (by omega)]
                        intro j u hj
                        simp [ics] at hj
                      · rw [← hgo, if_neg hc]
                        exact own_part hown34 rfl (m + 2) (fun j hj => by rw [List.getElem?_drop])) (ics_one _) (by unfold maxLen; omega) (by omega) (Nat.le_trans hw1d Hg4.out.size) ?_
                    intro v2 w5 hown5 hg5 _ hw5
                    obtain ⟨g2, cap2, rfl⟩ := own_slice hown5 (by omega)
                    have hR2 : Rm.eraseIdx (m + 1) = Rm.take (m + 1) ++ Rm.drop (m + 2) := List.eraseIdx_eq_take_drop_succ _ _
                    obtain ⟨n2, hn2⟩ : ∃ n2, 0 + (m + 1) + (rl - (m + 2)) = n2 := ⟨_, rfl⟩
                    have hn2' : n2 = (Rm.eraseIdx (m + 1)).length := by rw [hR2, List.length_append, List.length_take, List.length_drop]; omega
                    rw [hn2] at hown5 hw5 ⊢
                    rw [List.nil_append, ← ics_app, ← hR2, hn2'] at hown5
                    have hw52 : ∀ g, (Value.slice (some ⟨g2, 0, none⟩) n2 cap2).ownBlock = some g → wd.heap.size ≤ g := by
                      intro g hg
                      rcases hw5 with h1 | h1
                      · exact Hw41.out g (h1 ▸ hg)
                      · rw [h1] at hg; injection hg with hg; have := Hg4.out.size; omega
                    have c95 : w5.heap[b9]? = some (lisB (.slice (some ⟨g, 0, none⟩) rl cap1)) := ((hg5.block b9 (Nat.lt_of_lt_of_le hlt9 Hg4.out.size) (fun e => by have := Hw41.out b9 e.symm; omega)).trans (hb4 b9 hlt9)).trans Hg3d.out.h9
                    obtain ⟨c95, f95⟩ := box_cell c95
                    rw [← hn2'] at hown5
                    obtain ⟨HG6, HK6⟩ := Hg3d.out.rset (X := w4) (Y := w5) (v2 := .slice (some ⟨g2, 0, none⟩) n2 cap2) (R2 := Rm.eraseIdx (m + 1)) Hd9.out Hs9.out Hg4.out Hw41.out hg5 hw52 (by rw [← hn2']; exact hown5)
                    have HG6 := Lib.hid HG6; have HK6 := Lib.hid (HK3d.out.trans HK6); have Hn2 := Lib.hid hn2'
                    refine hK _ _ (hSg _ ⟨c95, ?_⟩ _) ?_
                    · exact (World.cell?_of_block (a := ⟨B + 5, 0, none⟩) (hg5.block _ (Nat.lt_of_lt_of_le hltk Hg4.out.size) (fun e => by have := Hw41.out (B + 5) e.symm; omega))).trans ck4
                    clear hK hown5 hg5 hw5 hw52 hn2 hn2' hR2 hown34 hown3 hls
                    try simp only [List.getElem_toArray, List.getElem_cons_zero, List.getElem_cons_succ, Act.put, List.setIfInBounds_toArray, List.set_cons_zero, List.set_cons_succ]
                    refine WA.one (i := 10) (by kernel_rfl) rfl (by rfl) (fun K hK => ?_)
                    go_simp
                    refine hK _ _ (hSd _ _ (by rfl)) ?_
                    clear hK
                    try simp only [List.getElem_toArray, List.getElem_cons_zero, List.getElem_cons_succ, Act.put, List.setIfInBounds_toArray, List.set_cons_zero, List.set_cons_succ]
                    refine WA.done (by kernel_rfl) ?_ _
                    refine Nrm.normal ?_
                    clear hSo hSd hSg hdrop c94 ck4 c95 f95 c9 ck f9 fk hb4 hlt9 hltk hw1d
                    clear S36
                    have Hst6 := Lib.hid (show stG (x0, x1, x2) T (m + 1) = ⟨setB T1 d (bits .andNot .u8 (T1[d]'(Nat.lt_of_lt_of_le HdT.out Hge1.out)).2 2), Rm.eraseIdx (m + 1), lv⟩ by
                      rw [Hst.out, step_yes HR0.out Hd8.out, Hy.out, Hq.out, HT1.out, Hlv.out]
                      rw [show bitsOf T1 d = (T1[d]'(Nat.lt_of_lt_of_le HdT.out Hge1.out)).2 by simp [bitsOf, Nat.lt_of_lt_of_le HdT.out Hge1.out]])
                    obtain ⟨ck, fk⟩ := box_cell HG6.out.hk
                    obtain ⟨c5, f5⟩ := box_cell ((HG6.out.bel.block _ (by have := Hz1.out; omega)).trans HO1.out)
                    obtain ⟨c6, f6⟩ := box_cell ((HG6.out.bel.block _ (by have := Hz1.out; omega)).trans HO2.out)
                    have hgk := HG6.out.kset Hd9.out Hs9.out (Hn2.out) ((m : Int) + 1)
                    obtain ⟨X, hX⟩ : ∃ X, X = w5.setCell ⟨b9, 0, none⟩ (.slice (some ⟨g2, 0, none⟩) n2 cap2) := ⟨_, rfl⟩
                    rw [← hX] at ck fk c5 f5 c6 f6 hgk HG6 HK6 ⊢
                    have Hgk := Lib.hid hgk
                    have hnb : w.heap.size + 1 ≠ B + 5 ∧ w.heap.size + 2 ≠ B + 5 ∧ w.heap.size + 1 + 1 ≠ B + 5 := by have := Hz1.out; have := Hs9.out; omega
                    obtain ⟨hnb1, hnb2, hnb3⟩ := hnb
                    have HXs := Lib.hid (show W1.heap.size ≤ X.heap.size from HG6.out.bel.size)
                    clear hgk hX
                    by_cases hlv : (m : Int) + 1 = leave
                    · subst hlv
                      have hd9 : ((m : Int) + 1 == (m : Int) + 1) = true := by simp
                      gi_wp2_with fail
                      refine (CallsIn.inRound lnn (callsIn_wide.2 (known_any _))).mono ?_
                      rintro e w7 ⟨rfl, hB7⟩
                      have hX7 : ∀ i, i < X.heap.size → i ≠ B + 5 → w7.heap[i]? = X.heap[i]? := fun i hi h5 => (hB7.block i (by rw [World.size_setCell]; exact hi)).trans (Below.heap_setCell _ _ _ i h5)
                      have h6 : w7.heap[w.heap.size + 2]? = some (.cells #[.bool false] 4 (0, 0)) := (hX7 _ (by have := HXs.out; have := Hz1.out; omega) hnb2).trans ((HG6.out.bel.block _ (by have := Hz1.out; omega)).trans HO2.out)
                      obtain ⟨c67, f67⟩ := box_cell h6
                      have c67' : w7.cell? ⟨w.heap.size + 1 + 1, 0, none⟩ = _ := c67
                      have H6 := Lib.hid h6
                      have HK7 := Lib.hid (HK6.out.trans (((KeepsOthers.setCell X ⟨B + 5, 0, none⟩ (.int .i64 ((m : Int) + 1))).from _).trans (⟨hB7.size, fun i o _ ho _ => (hB7.block i (Array.getElem?_eq_some_iff.1 ho).1).trans ho⟩ : KeepsFrom Wb.heap.size _ w7)))
                      have HB7 := Lib.hid ((HB1.out.trans (HG6.out.bel.mono (by have := Hz1.out; omega))).trans ((((Below.refl w.heap.size X).setCell (p := ⟨B + 5, 0, none⟩) (by have := Hz1.out; have := Hs9.out; simp; omega) (.int .i64 ((m : Int) + 1)))).trans (hB7.mono (by rw [World.size_setCell]; have := HXs.out; have := Hz1.out; omega))))
                      clear hX7 h6 hB7
                      gi_wp2_with fail
                      exact ⟨HK7.out.trans ((KeepsOthers.setCell _ _ _).from _), rfl, HB7.out.setCell (p := ⟨w.heap.size + 1 + 1, 0, none⟩) (by simp; omega) _, box_set H6.out _⟩
                    · have hd9 : ((m : Int) + 1 == leave) = false := by simpa using hlv
                      gi_wp2_with fail
                      refine ⟨HK6.out.trans ((KeepsOthers.setCell _ _ _).from _), trivial, ?_⟩
                      dsimp only
                      rw [Hpl.out, Hst6.out]
                      exact ⟨_, _, _, by push_cast; exact Hgk.out, fun e => by simp at e⟩
                  · have hd7 : decide ((m : Int) + 1 < (rl : Int)) = false := by simp; omega
                    have HG6 := Lib.hid hg2
                    have HK6 := HK2
                    have Hst6 := Lib.hid (show stG (x0, x1, x2) T (m + 1) = ⟨T1, Rm, lv⟩ by rw [Hst.out, step_no HR0.out (by rw [Hrl.out]; exact hm1), Hy.out, Hq.out, HT1.out, Hlv.out])
                    clear hg2 c8
                    obtain ⟨ck, fk⟩ := box_cell HG6.out.hk
                    obtain ⟨c5, f5⟩ := box_cell ((HG6.out.bel.block _ (by have := Hz1.out; omega)).trans HO1.out)
                    obtain ⟨c6, f6⟩ := box_cell ((HG6.out.bel.block _ (by have := Hz1.out; omega)).trans HO2.out)
                    have hgk := HG6.out.kset Hd9.out Hs9.out (Hrl.out.symm) ((m : Int) + 1)
                    obtain ⟨X, hX⟩ : ∃ X, X = w2 := ⟨_, rfl⟩
                    rw [← hX] at ck fk c5 f5 c6 f6 c9 f9 hgk HG6 HK6 ⊢
                    have Hgk := Lib.hid hgk
                    have hnb : w.heap.size + 1 ≠ B + 5 ∧ w.heap.size + 2 ≠ B + 5 ∧ w.heap.size + 1 + 1 ≠ B + 5 := by have := Hz1.out; have := Hs9.out; omega
                    obtain ⟨hnb1, hnb2, hnb3⟩ := hnb
                    have HXs := Lib.hid (show W1.heap.size ≤ X.heap.size from HG6.out.bel.size)
                    clear hgk hX
                    by_cases hlv : (m : Int) + 1 = leave
                    · subst hlv
                      have hd9 : ((m : Int) + 1 == (m : Int) + 1) = true := by simp
                      gi_wp2_with fail
                      refine (CallsIn.inRound lnn (callsIn_wide.2 (known_any _))).mono ?_
                      rintro e w7 ⟨rfl, hB7⟩
                      have hX7 : ∀ i, i < X.heap.size → i ≠ B + 5 → w7.heap[i]? = X.heap[i]? := fun i hi h5 => (hB7.block i (by rw [World.size_setCell]; exact hi)).trans (Below.heap_setCell _ _ _ i h5)
                      have h6 : w7.heap[w.heap.size + 2]? = some (.cells #[.bool false] 4 (0, 0)) := (hX7 _ (by have := HXs.out; have := Hz1.out; omega) hnb2).trans ((HG6.out.bel.block _ (by have := Hz1.out; omega)).trans HO2.out)
                      obtain ⟨c67, f67⟩ := box_cell h6
                      have c67' : w7.cell? ⟨w.heap.size + 1 + 1, 0, none⟩ = _ := c67
                      have H6 := Lib.hid h6
                      have HK7 := Lib.hid (HK6.out.trans (((KeepsOthers.setCell X ⟨B + 5, 0, none⟩ (.int .i64 ((m : Int) + 1))).from _).trans (⟨hB7.size, fun i o _ ho _ => (hB7.block i (Array.getElem?_eq_some_iff.1 ho).1).trans ho⟩ : KeepsFrom Wb.heap.size _ w7)))
                      have HB7 := Lib.hid ((HB1.out.trans (HG6.out.bel.mono (by have := Hz1.out; omega))).trans ((((Below.refl w.heap.size X).setCell (p := ⟨B + 5, 0, none⟩) (by have := Hz1.out; have := Hs9.out; simp; omega) (.int .i64 ((m : Int) + 1)))).trans (hB7.mono (by rw [World.size_setCell]; have := HXs.out; have := Hz1.out; omega))))
                      clear hX7 h6 hB7
                      gi_wp2_with fail
                      exact ⟨HK7.out.trans ((KeepsOthers.setCell _ _ _).from _), rfl, HB7.out.setCell (p := ⟨w.heap.size + 1 + 1, 0, none⟩) (by simp; omega) _, box_set H6.out _⟩
                    · have hd9 : ((m : Int) + 1 == leave) = false := by simpa using hlv
                      gi_wp2_with fail
                      refine ⟨HK6.out.trans ((KeepsOthers.setCell _ _ _).from _), trivial, ?_⟩
                      dsimp only
                      rw [Hpl.out, Hst6.out]
                      exact ⟨_, _, _, by push_cast; exact Hgk.out, fun e => by simp at e⟩
            case done =>
              rintro DD We hDD ⟨vr', Z', D', hgt, -⟩ hdef
              obtain ⟨hRl, hml⟩ := g_done HG0.out
              obtain ⟨m, hm⟩ : ∃ m, (ev (lst T (x0, x1, x2))).length = m := ⟨_, rfl⟩
              rw [hm] at hgt hRl hml
              obtain ⟨⟨Tm, Rm, lm⟩, hsm⟩ : ∃ st, stG (x0, x1, x2) T m = st := ⟨_, rfl⟩
              rw [hsm] at hgt hRl
              simp only at hgt hRl
              obtain ⟨ao, cap1, hvr, -⟩ := own_form hgt.g.rows
              subst hvr
              have h9 := hgt.h9
              rw [hRl] at h9
              obtain ⟨c9, f9⟩ := box_cell h9
              obtain ⟨ck, fk⟩ := box_cell hgt.hk
              have h6 : We.heap[w.heap.size + 2]? = some (.cells #[.bool false] 4 (0, 0)) := (hgt.bel.block _ (by have := Hz1.out; omega)).trans HO2.out
              have hDw : DD ≠ w.heap.size + 1 + 1 := by have := HzB.out; have := Hlb.out; have := Hz1.out; omega
              have hDw0 : w.heap.size ≤ DD := by have := HzB.out; have := Hlb.out; have := Hz1.out; omega
              have hdm : ((m : Int) == (m : Int)) = true := by simp
              have HB6 := Lib.hid (HB1.out.trans (hgt.bel.mono (by have := Hz1.out; omega)))
              have HD := Lib.hid hdef; have H6 := Lib.hid h6; have HDw := Lib.hid hDw; have HDw0 := Lib.hid hDw0; have Hlt6 := Lib.hid (Array.getElem?_eq_some_iff.1 h6).1
              clear hgt hRl hml hm hsm h9 h6 hdef hDw hDw0 hDD hys
              go_wp2_with fail
              refine (known_any We).mono ?_
              rintro e w7 ⟨rfl, hB7⟩
              have h67 := (hB7.block _ Hlt6.out).trans H6.out
              obtain ⟨c67, f67⟩ := box_cell h67
              have HD7 := Lib.hid ((hB7.block _ (Array.getElem?_eq_some_iff.1 HD.out).1).trans HD.out)
              have H67 := Lib.hid h67
              have HB7 := Lib.hid (HB6.out.trans (hB7.mono HB6.out.size))
              clear h67 hB7 ck fk c9 f9
              go_wp2_with fail
              have hd1 : (w7.setCell ⟨w.heap.size + 1 + 1, 0, none⟩ (.bool true)).heap[DD]? = some (.deferred (some [])) := (Below.heap_setCell _ _ _ DD HDw.out).trans HD7.out
              refine ⟨by simp, .inl ⟨_, _, rfl, run_takeDeferred hd1, ?_⟩⟩
              have hcell : ((w7.setCell ⟨w.heap.size + 1 + 1, 0, none⟩ (.bool true)).putObj DD (.deferred none)).cell? ⟨w.heap.size + 1 + 1, 0, none⟩ = some (.bool true) :=
                (World.cell?_of_block (a := ⟨w.heap.size + 1 + 1, 0, none⟩) (World.putObj_heap_other (Ne.symm HDw.out))).trans (box_cell (box_set H67.out _)).1
              have hBf : Below w.heap.size w ((w7.setCell ⟨w.heap.size + 1 + 1, 0, none⟩ (.bool true)).putObj DD (.deferred none)) := (HB7.out.setCell (p := ⟨w.heap.size + 1 + 1, 0, none⟩) (by simp; omega) _).trans (belowK_b (w := w) (Nat.le_refl _) _ DD _ _ HDw0.out hd1 rfl rfl)
              generalize ((w7.setCell ⟨w.heap.size + 1 + 1, 0, none⟩ (.bool true)).putObj DD (.deferred none)) = Wf at *
              refine ⟨.bool true, ?_, rfl, hBf⟩
              have hres : Try.f3.results = #[.cell 6 4] := rfl
              simp only [results, hres]
              go_simp
            case stop =>
              rintro DD c pre We hDD hp ⟨rfl, hB, h6⟩ hdef
              have hDw : DD ≠ w.heap.size + 1 + 1 := by have := HzB.out; have := Hlb.out; have := Hz1.out; omega
              have hDw0 : w.heap.size ≤ DD := by have := HzB.out; have := Hlb.out; have := Hz1.out; omega
              have HB6 := Lib.hid hB; have HD := Lib.hid hdef; have H6 := Lib.hid h6; have HDw := Lib.hid hDw; have HDw0 := Lib.hid hDw0
              clear hB h6 hdef hDw hDw0 hDD hys
              gi_wp2_with fail
              refine ⟨by simp, .inl ⟨_, _, rfl, run_takeDeferred HD.out, ?_⟩⟩
              have hcell : (We.putObj DD (.deferred none)).cell? ⟨w.heap.size + 1 + 1, 0, none⟩ = some (.bool true) :=
                (World.cell?_of_block (a := ⟨w.heap.size + 1 + 1, 0, none⟩) (World.putObj_heap_other (Ne.symm HDw.out))).trans (box_cell H6.out).1
              have hBf : Below w.heap.size w (We.putObj DD (.deferred none)) := HB6.out.trans (belowK_b (w := w) (Nat.le_refl _) _ DD _ _ HDw0.out HD.out rfl rfl)
              generalize (We.putObj DD (.deferred none)) = Wf at *
              refine ⟨.bool true, ?_, rfl, hBf⟩
              have hres : Try.f3.results = #[.cell 6 4] := rfl
              simp only [results, hres]
              go_simp
end Go.Proofs.Ytellmhllgmimiaa
