/- do: an act, by both, with others' cells beside. -/
import Derived.Test.YtellmhllgmimiaaA1
namespace Go.Proofs.Ytellmhllgmimiaa
open Go.RowKit Go.Maps
set_option linter.unusedVariables false
set_option linter.unusedSimpArgs false

section
variable {F G : Nat → Nat → Prop} {w : World} {tb rb : Nat} {T : TS}
set_option maxRecDepth 100000 in
set_option maxHeartbeats 4000000 in
theorem do_addF (h : StsF F G w tb rb T T) (x0 x1 x2 : Int) (hr : rok (x0, x1, x2)) (b n tu : Int) (hb : is8 b) (hlen : T.length + 1 ≤ 1000000) :
    Calls Try.prog 14 #[.pointer (some ⟨tb, 0, none⟩), .pointer (some ⟨rb, 0, none⟩), .agg #[.int .i64 1, .int .u32 x0, .int .u32 x1, .int .u32 x2, .int .u8 b, .int .i64 n, .int .i64 tu]] w fun e w' =>
      e = .returned (.bool true) ∧ StsF F G w' tb rb (addT T (x0, x1, x2) b) (addT T (x0, x1, x2) b) ∧ Fr (Zone.off F) w w' := by
  obtain ⟨A, B, D, vr, vb, hst⟩ := h
  obtain ⟨hB1, hz1, a0, a1, a2, a3, a4, a5, a6⟩ := actBox w 1 x0 x1 x2 b n tu _ rfl
  have HST := Lib.hid hst
  go_enter Try.func14, Try.ntmps14
  go_wp2_with fail
  generalize hW : w.alloc (.cells #[.int .i64 1, .int .u32 x0, .int .u32 x1, .int .u32 x2, .int .u8 b, .int .i64 n, .int .i64 tu] 47) = W at *
  clear hW
  have h1 := hst.below hB1
  have Hz1 := Lib.hid hz1; have HB1 := Lib.hid hB1; have H1 := Lib.hid h1
  clear hst h1 hz1 hB1
  refine (add_any (H1.out.t.up W.heap.size) (Zone.up_opn _ _) (x0, x1, x2) b hr hlen).mono ?_
  rintro e w2 ⟨rfl, ⟨D2, t2⟩, f2⟩
  have hbx := HST.out.box Hz1.out f2
  have cel : ∀ j v, W.cell? ⟨w.heap.size, j, none⟩ = some v → w2.cell? ⟨w.heap.size, j, none⟩ = some v := fun j v hv => (World.cell?_of_block (w := W) (a := ⟨w.heap.size, j, none⟩) hbx).trans hv
  have a1 := cel _ _ a1
  have a2 := cel _ _ a2
  have a3 := cel _ _ a3
  have a4 := cel _ _ a4
  obtain ⟨hs2, hB2⟩ := H1.out.turnT t2 f2
  obtain ⟨A2, B2, D2', vr2, vb2, s2⟩ := hs2
  have HS2 := Lib.hid s2; have HB2 := Lib.hid hB2
  clear t2 f2 hbx cel s2 hB2 a0 a5 a6
  go_wp2_with fail
  refine (radd_any (HS2.out.r.up w2.heap.size) (Zone.up_opn _ _) (x0, x1, x2) hr b hlen).mono ?_
  rintro e w3 ⟨rfl, ⟨vr3, vb3, t3⟩, f3⟩
  obtain ⟨hs3, hB3⟩ := HS2.out.turnR t3 f3
  have HS3 := Lib.hid hs3; have HB3 := Lib.hid ((Fr.of_below (Z := Zone.off F) HB1.out).trans (HB2.out.trans hB3))
  clear t3 f3 hs3 hB3 a1 a2 a3 a4
  obtain ⟨N, hN⟩ : ∃ N, addN T (x0, x1, x2) b = N := ⟨_, rfl⟩
  obtain ⟨bb, hbb⟩ : ∃ bb, addB T (x0, x1, x2) b = bb := ⟨_, rfl⟩
  rw [hN, hbb]
  clear hN hbb
  go_wp2_with fail
  go_ret
  exact ⟨rfl, HS3.out, HB3.out⟩

set_option maxRecDepth 100000 in
set_option maxHeartbeats 4000000 in
theorem do_set_yesF (h : StsF F G w tb rb T T) (x0 x1 x2 : Int) (hr : rok (x0, x1, x2)) (b tu : Int) (hb : is8 b) (n : Nat) (hn : n < T.length) :
    Calls Try.prog 14 #[.pointer (some ⟨tb, 0, none⟩), .pointer (some ⟨rb, 0, none⟩), .agg #[.int .i64 2, .int .u32 x0, .int .u32 x1, .int .u32 x2, .int .u8 b, .int .i64 n, .int .i64 tu]] w fun e w' =>
      e = .returned (.bool true) ∧ StsF F G w' tb rb (setB T n (bits .or .u8 (bitsOf T n) b)) (setB T n (bits .or .u8 (bitsOf T n) b)) ∧ Fr (Zone.off F) w w' := by
  obtain ⟨A, B, D, vr, vb, hst⟩ := h
  obtain ⟨hB1, hz1, a0, a1, a2, a3, a4, a5, a6⟩ := actBox w 2 x0 x1 x2 b n tu _ rfl
  have HST := Lib.hid hst
  have hbt : bitsOf T n = T[n].2 := by simp [bitsOf, hn]
  have hlong := hst.t.long
  have Hbt := Lib.hid hbt; have Hn := Lib.hid hn
  obtain ⟨l, hl⟩ : ∃ l, T.length = l := ⟨_, rfl⟩
  have hnl : n < l := by omega
  have hll : l ≤ 1000000 := by omega
  have Hl := Lib.hid hl
  clear hlong hbt hl
  go_enter Try.func14, Try.ntmps14
  go_wp2_with fail
  generalize hW : w.alloc (.cells #[.int .i64 2, .int .u32 x0, .int .u32 x1, .int .u32 x2, .int .u8 b, .int .i64 n, .int .i64 tu] 47) = W at *
  clear hW
  have h1 := hst.below hB1
  have Hz1 := Lib.hid hz1; have HB1 := Lib.hid hB1; have H1 := Lib.hid h1
  clear hst h1 hz1 hB1
  refine (set_yes (H1.out.t.up W.heap.size) n hn b hb).mono ?_
  rintro e w2 ⟨rfl, t2, f2⟩
  rw [← Hbt.out] at t2
  have hbx := HST.out.box Hz1.out f2
  have cel : ∀ j v, W.cell? ⟨w.heap.size, j, none⟩ = some v → w2.cell? ⟨w.heap.size, j, none⟩ = some v := fun j v hv => (World.cell?_of_block (w := W) (a := ⟨w.heap.size, j, none⟩) hbx).trans hv
  have a4 := cel _ _ a4
  have a5 := cel _ _ a5
  obtain ⟨hs2, hB2⟩ := H1.out.turnT t2 f2
  obtain ⟨A2, B2, D2', vr2, vb2, s2⟩ := hs2
  have HS2 := Lib.hid s2; have HB2 := Lib.hid hB2
  clear t2 f2 hbx cel s2 hB2 a0 a1 a2 a3 a6
  go_wp2_with fail
  refine (rin_any HS2.out.r n).mono ?_
  rintro e w' ⟨rfl, rfl⟩
  rw [show decide (0 ≤ (n : Int) ∧ (n : Int) < (T.length : Int)) = true by simp; exact Hn.out]
  obtain ⟨gb, capb, hvb, _, b3, f3, hWb⟩ := HS2.out.r.bit n hn
  obtain ⟨_, c1, _⟩ := HS2.out.r.cells
  rw [← Hbt.out] at b3
  rw [hvb, Hl.out] at c1
  obtain ⟨v, hv⟩ : ∃ v, bitsOf T n = v := ⟨_, rfl⟩
  rw [hv] at b3
  have Hv := Lib.hid hv; have Hvb := Lib.hid hvb; have HWb := Lib.hid hWb
  clear hv hvb hWb
  go_wp2_with fail
  have a4 : w2.drew.cell? ⟨w.heap.size, 4, none⟩ = _ := a4
  have a5 : w2.drew.cell? ⟨w.heap.size, 5, none⟩ = _ := a5
  have c1 : w2.drew.cell? ⟨rb, 1, none⟩ = _ := c1
  have b3 : w2.drew.cell? ⟨gb, n, none⟩ = _ := b3
  have f3 : w2.drew.frozen? ⟨gb, n, none⟩ = _ := f3
  obtain ⟨S9, hSe⟩ : ∃ S : Array Bool → World → Prop, S = fun L w' => L.getD 18 true = false → w' = w2.drew := ⟨_, rfl⟩
  have hdrop : ∀ i, i ≠ 18 → ∀ L w', S9 (L.setIfInBounds i true) w' → S9 L w' := by
    intro i hi L w'
    rw [hSe]
    intro h hl
    exact h (by rw [getD_set_ne true hi]; exact hl)
  have hS : ∀ L, S9 L w2.drew := by intro L; rw [hSe]; exact fun _ => rfl
  have hSo : ∀ {L w'}, S9 L w' → L.getD 18 true = false → w' = w2.drew := by intro L w' h hl; rw [hSe] at h; exact h hl
  have hSd : ∀ (L : Array Bool) X, L.getD 18 true = true → S9 L X := by
    intro L X h; rw [hSe]; intro h1; rw [h] at h1; cases h1
  clear hSe
  refine wp_region_LN S9 19 #[false, false, false, false, false, false, false, false, false, false, false, false, false, false, false, false, false, false, false] (by kernel_rfl) (by kernel_rfl) rfl ?_
  refine WA.take (i := 0) (v := .pointer (some ⟨rb, 0, none⟩)) rfl (by kernel_rfl) (by kernel_rfl) (by kernel_rfl) (fun _ _ _ h => h) (hdrop 0 (by decide)) (Or.inl ⟨by rfl, ?_⟩) (hS _) ?_
  · rintro w' ⟨L, hL, hSw, hun⟩
    go_simp
  simp only [List.getElem_toArray, List.getElem_cons_zero, List.getElem_cons_succ, Act.put, List.setIfInBounds_toArray, List.set_cons_zero, List.set_cons_succ]
  refine WA.take (i := 1) (v := .pointer (some ⟨rb, 0, none⟩)) rfl (by kernel_rfl) (by kernel_rfl) (by kernel_rfl) (fun _ _ _ h => h) (hdrop 1 (by decide)) (Or.inl ⟨by rfl, ?_⟩) (hS _) ?_
  · rintro w' ⟨L, hL, hSw, hun⟩
    go_simp
  simp only [List.getElem_toArray, List.getElem_cons_zero, List.getElem_cons_succ, Act.put, List.setIfInBounds_toArray, List.set_cons_zero, List.set_cons_succ]
  refine WA.take (i := 2) (v := .pointer (some ⟨rb, 1, none⟩)) rfl (by kernel_rfl) (by kernel_rfl) (by kernel_rfl) (fun _ _ _ h => h) (hdrop 2 (by decide)) (Or.inl ⟨by rfl, ?_⟩) (hS _) ?_
  · rintro w' ⟨L, hL, hSw, hun⟩
    go_simp
  simp only [List.getElem_toArray, List.getElem_cons_zero, List.getElem_cons_succ, Act.put, List.setIfInBounds_toArray, List.set_cons_zero, List.set_cons_succ]
  refine WA.take (i := 3) (v := .slice (some ⟨gb, 0, none⟩) l capb) rfl (by kernel_rfl) (by kernel_rfl) (by kernel_rfl) (fun _ _ _ h => h) (hdrop 3 (by decide)) (Or.inl ⟨by rfl, ?_⟩) (hS _) ?_
  · rintro w' ⟨L, hL, hSw, hun⟩
    obtain rfl := hSo hSw (hL.wait 18 17 (by kernel_rfl) (hL.wait 17 3 (by kernel_rfl) hun))
    go_simp
  simp only [List.getElem_toArray, List.getElem_cons_zero, List.getElem_cons_succ, Act.put, List.setIfInBounds_toArray, List.set_cons_zero, List.set_cons_succ]
  refine WA.take (i := 4) (v := .pointer (some ⟨w.heap.size, 5, none⟩)) rfl (by kernel_rfl) (by kernel_rfl) (by kernel_rfl) (fun _ _ _ h => h) (hdrop 4 (by decide)) (Or.inl ⟨by rfl, ?_⟩) (hS _) ?_
  · rintro w' ⟨L, hL, hSw, hun⟩
    go_simp
  simp only [List.getElem_toArray, List.getElem_cons_zero, List.getElem_cons_succ, Act.put, List.setIfInBounds_toArray, List.set_cons_zero, List.set_cons_succ]
  refine WA.take (i := 5) (v := .int .i64 (n : Int)) rfl (by kernel_rfl) (by kernel_rfl) (by kernel_rfl) (fun _ _ _ h => h) (hdrop 5 (by decide)) (Or.inl ⟨by rfl, ?_⟩) (hS _) ?_
  · rintro w' ⟨L, hL, hSw, hun⟩
    obtain rfl := hSo hSw (hL.wait 18 17 (by kernel_rfl) (hL.wait 17 5 (by kernel_rfl) hun))
    go_simp
  simp only [List.getElem_toArray, List.getElem_cons_zero, List.getElem_cons_succ, Act.put, List.setIfInBounds_toArray, List.set_cons_zero, List.set_cons_succ]
  refine WA.take (i := 6) (v := .pointer (some ⟨rb, 0, none⟩)) rfl (by kernel_rfl) (by kernel_rfl) (by kernel_rfl) (fun _ _ _ h => h) (hdrop 6 (by decide)) (Or.inl ⟨by rfl, ?_⟩) (hS _) ?_
  · rintro w' ⟨L, hL, hSw, hun⟩
    go_simp
  simp only [List.getElem_toArray, List.getElem_cons_zero, List.getElem_cons_succ, Act.put, List.setIfInBounds_toArray, List.set_cons_zero, List.set_cons_succ]
  refine WA.take (i := 7) (v := .pointer (some ⟨rb, 0, none⟩)) rfl (by kernel_rfl) (by kernel_rfl) (by kernel_rfl) (fun _ _ _ h => h) (hdrop 7 (by decide)) (Or.inl ⟨by rfl, ?_⟩) (hS _) ?_
  · rintro w' ⟨L, hL, hSw, hun⟩
    go_simp
  simp only [List.getElem_toArray, List.getElem_cons_zero, List.getElem_cons_succ, Act.put, List.setIfInBounds_toArray, List.set_cons_zero, List.set_cons_succ]
  refine WA.take (i := 8) (v := .pointer (some ⟨rb, 1, none⟩)) rfl (by kernel_rfl) (by kernel_rfl) (by kernel_rfl) (fun _ _ _ h => h) (hdrop 8 (by decide)) (Or.inl ⟨by rfl, ?_⟩) (hS _) ?_
  · rintro w' ⟨L, hL, hSw, hun⟩
    go_simp
  simp only [List.getElem_toArray, List.getElem_cons_zero, List.getElem_cons_succ, Act.put, List.setIfInBounds_toArray, List.set_cons_zero, List.set_cons_succ]
  refine WA.take (i := 9) (v := .slice (some ⟨gb, 0, none⟩) l capb) rfl (by kernel_rfl) (by kernel_rfl) (by kernel_rfl) (fun _ _ _ h => h) (hdrop 9 (by decide)) (Or.inl ⟨by rfl, ?_⟩) (hS _) ?_
  · rintro w' ⟨L, hL, hSw, hun⟩
    obtain rfl := hSo hSw (hL.wait 18 16 (by kernel_rfl) (hL.wait 16 13 (by kernel_rfl) (hL.wait 13 12 (by kernel_rfl) (hL.wait 12 9 (by kernel_rfl) hun))))
    go_simp
  simp only [List.getElem_toArray, List.getElem_cons_zero, List.getElem_cons_succ, Act.put, List.setIfInBounds_toArray, List.set_cons_zero, List.set_cons_succ]
  refine WA.take (i := 10) (v := .pointer (some ⟨w.heap.size, 5, none⟩)) rfl (by kernel_rfl) (by kernel_rfl) (by kernel_rfl) (fun _ _ _ h => h) (hdrop 10 (by decide)) (Or.inl ⟨by rfl, ?_⟩) (hS _) ?_
  · rintro w' ⟨L, hL, hSw, hun⟩
    go_simp
  simp only [List.getElem_toArray, List.getElem_cons_zero, List.getElem_cons_succ, Act.put, List.setIfInBounds_toArray, List.set_cons_zero, List.set_cons_succ]
  refine WA.take (i := 11) (v := .int .i64 (n : Int)) rfl (by kernel_rfl) (by kernel_rfl) (by kernel_rfl) (fun _ _ _ h => h) (hdrop 11 (by decide)) (Or.inl ⟨by rfl, ?_⟩) (hS _) ?_
  · rintro w' ⟨L, hL, hSw, hun⟩
    obtain rfl := hSo hSw (hL.wait 18 16 (by kernel_rfl) (hL.wait 16 13 (by kernel_rfl) (hL.wait 13 12 (by kernel_rfl) (hL.wait 12 11 (by kernel_rfl) hun))))
    go_simp
  simp only [List.getElem_toArray, List.getElem_cons_zero, List.getElem_cons_succ, Act.put, List.setIfInBounds_toArray, List.set_cons_zero, List.set_cons_succ]
  refine WA.take (i := 12) (v := .pointer (some ⟨gb, n, none⟩)) rfl (by kernel_rfl) (by kernel_rfl) (by kernel_rfl) (fun _ _ _ h => h) (hdrop 12 (by decide)) (Or.inl ⟨by rfl, ?_⟩) (hS _) ?_
  · rintro w' ⟨L, hL, hSw, hun⟩
    go_simp
  simp only [List.getElem_toArray, List.getElem_cons_zero, List.getElem_cons_succ, Act.put, List.setIfInBounds_toArray, List.set_cons_zero, List.set_cons_succ]
  refine WA.take (i := 13) (v := .int .u8 v) rfl (by kernel_rfl) (by kernel_rfl) (by kernel_rfl) (fun _ _ _ h => h) (hdrop 13 (by decide)) (Or.inl ⟨by rfl, ?_⟩) (hS _) ?_
  · rintro w' ⟨L, hL, hSw, hun⟩
    obtain rfl := hSo hSw (hL.wait 18 16 (by kernel_rfl) (hL.wait 16 13 (by kernel_rfl) hun))
    go_simp
  simp only [List.getElem_toArray, List.getElem_cons_zero, List.getElem_cons_succ, Act.put, List.setIfInBounds_toArray, List.set_cons_zero, List.set_cons_succ]
  refine WA.take (i := 14) (v := .pointer (some ⟨w.heap.size, 4, none⟩)) rfl (by kernel_rfl) (by kernel_rfl) (by kernel_rfl) (fun _ _ _ h => h) (hdrop 14 (by decide)) (Or.inl ⟨by rfl, ?_⟩) (hS _) ?_
  · rintro w' ⟨L, hL, hSw, hun⟩
    go_simp
  simp only [List.getElem_toArray, List.getElem_cons_zero, List.getElem_cons_succ, Act.put, List.setIfInBounds_toArray, List.set_cons_zero, List.set_cons_succ]
  refine WA.take (i := 15) (v := .int .u8 b) rfl (by kernel_rfl) (by kernel_rfl) (by kernel_rfl) (fun _ _ _ h => h) (hdrop 15 (by decide)) (Or.inl ⟨by rfl, ?_⟩) (hS _) ?_
  · rintro w' ⟨L, hL, hSw, hun⟩
    obtain rfl := hSo hSw (hL.wait 18 16 (by kernel_rfl) (hL.wait 16 15 (by kernel_rfl) hun))
    go_simp
  simp only [List.getElem_toArray, List.getElem_cons_zero, List.getElem_cons_succ, Act.put, List.setIfInBounds_toArray, List.set_cons_zero, List.set_cons_succ]
  refine WA.take (i := 16) (v := .int .u8 (bits .or .u8 v b)) rfl (by kernel_rfl) (by kernel_rfl) (by kernel_rfl) (fun _ _ _ h => h) (hdrop 16 (by decide)) (Or.inl ⟨by rfl, ?_⟩) (hS _) ?_
  · rintro w' ⟨L, hL, hSw, hun⟩
    go_simp
  simp only [List.getElem_toArray, List.getElem_cons_zero, List.getElem_cons_succ, Act.put, List.setIfInBounds_toArray, List.set_cons_zero, List.set_cons_succ]
  refine WA.take (i := 17) (v := .pointer (some ⟨gb, n, none⟩)) rfl (by kernel_rfl) (by kernel_rfl) (by kernel_rfl) (fun _ _ _ h => h) (hdrop 17 (by decide)) (Or.inl ⟨by rfl, ?_⟩) (hS _) ?_
  · rintro w' ⟨L, hL, hSw, hun⟩
    go_simp
  simp only [List.getElem_toArray, List.getElem_cons_zero, List.getElem_cons_succ, Act.put, List.setIfInBounds_toArray, List.set_cons_zero, List.set_cons_succ]
  refine WA.one (i := 18) (by kernel_rfl) rfl (by rfl) (fun K hK => ?_)
  go_simp
  refine hK _ _ (hSd _ _ (by rfl)) ?_
  clear hK
  try simp only [List.getElem_toArray, List.getElem_cons_zero, List.getElem_cons_succ, Act.put, List.setIfInBounds_toArray, List.set_cons_zero, List.set_cons_succ]
  refine WA.done (by kernel_rfl) ?_ _
  refine Nrm.normal ?_
  go_wp2_with fail
  go_ret
  have hd := HS2.out.below (Below.refl _ w2).drew
  have hi := (hd.r.up w2.drew.heap.size).setBit n Hn.out Hvb.out (bits .or .u8 v b) (is8_or _ _)
  obtain ⟨hs3, hB3⟩ := hd.turnR hi ((Fr.refl (B2.up w2.drew.heap.size) w2.drew).setCell (a := ⟨gb, n, none⟩) (.inl HWb.out))
  rw [Hv.out] at hs3 ⊢
  exact ⟨rfl, hs3, (Fr.of_below (Z := Zone.off F) HB1.out).trans (HB2.out.trans ((Fr.of_below (Z := Zone.off F) (Below.refl _ w2).drew).trans hB3))⟩

set_option maxRecDepth 100000 in
set_option maxHeartbeats 4000000 in
theorem do_set_noF (h : StsF F G w tb rb T T) (x0 x1 x2 : Int) (b n tu : Int) (hn : n < 0 ∨ T.length ≤ n) :
    Calls Try.prog 14 #[.pointer (some ⟨tb, 0, none⟩), .pointer (some ⟨rb, 0, none⟩), .agg #[.int .i64 2, .int .u32 x0, .int .u32 x1, .int .u32 x2, .int .u8 b, .int .i64 n, .int .i64 tu]] w fun e w' =>
      e = .returned (.bool true) ∧ StsF F G w' tb rb T T ∧ Fr (Zone.off F) w w' := by
  obtain ⟨A, B, D, vr, vb, hst⟩ := h
  obtain ⟨hB1, hz1, a0, a1, a2, a3, a4, a5, a6⟩ := actBox w 2 x0 x1 x2 b n tu _ rfl
  have HST := Lib.hid hst
  have Hn := Lib.hid hn
  go_enter Try.func14, Try.ntmps14
  go_wp2_with fail
  generalize hW : w.alloc (.cells #[.int .i64 2, .int .u32 x0, .int .u32 x1, .int .u32 x2, .int .u8 b, .int .i64 n, .int .i64 tu] 47) = W at *
  clear hW
  have h1 := hst.below hB1
  have Hz1 := Lib.hid hz1; have HB1 := Lib.hid hB1; have H1 := Lib.hid h1
  clear hst h1 hz1 hB1
  refine (set_no H1.out.t n hn b).mono ?_
  rintro e w' ⟨rfl, rfl⟩
  clear hn
  go_wp2_with fail
  refine (rin_any H1.out.r n).mono ?_
  rintro e w' ⟨rfl, rfl⟩
  rw [show decide (0 ≤ n ∧ n < (T.length : Int)) = false by have := Hn.out; simp; omega]
  go_wp2_with fail
  go_ret
  exact ⟨rfl, ⟨_, _, _, _, _, H1.out⟩, Fr.of_below (Z := Zone.off F) HB1.out⟩

set_option maxRecDepth 100000 in
set_option maxHeartbeats 4000000 in
theorem do_clear_yesF (h : StsF F G w tb rb T T) (x0 x1 x2 : Int) (hr : rok (x0, x1, x2)) (b tu : Int) (hb : is8 b) (n : Nat) (hn : n < T.length) :
    Calls Try.prog 14 #[.pointer (some ⟨tb, 0, none⟩), .pointer (some ⟨rb, 0, none⟩), .agg #[.int .i64 3, .int .u32 x0, .int .u32 x1, .int .u32 x2, .int .u8 b, .int .i64 n, .int .i64 tu]] w fun e w' =>
      e = .returned (.bool true) ∧ StsF F G w' tb rb (setB T n (bits .andNot .u8 (bitsOf T n) b)) (setB T n (bits .andNot .u8 (bitsOf T n) b)) ∧ Fr (Zone.off F) w w' := by
  obtain ⟨A, B, D, vr, vb, hst⟩ := h
  obtain ⟨hB1, hz1, a0, a1, a2, a3, a4, a5, a6⟩ := actBox w 3 x0 x1 x2 b n tu _ rfl
  have HST := Lib.hid hst
  have hbt : bitsOf T n = T[n].2 := by simp [bitsOf, hn]
  have hlong := hst.t.long
  have Hbt := Lib.hid hbt; have Hn := Lib.hid hn
  obtain ⟨l, hl⟩ : ∃ l, T.length = l := ⟨_, rfl⟩
  have hnl : n < l := by omega
  have hll : l ≤ 1000000 := by omega
  have Hl := Lib.hid hl
  clear hlong hbt hl
  go_enter Try.func14, Try.ntmps14
  go_wp2_with fail
  generalize hW : w.alloc (.cells #[.int .i64 3, .int .u32 x0, .int .u32 x1, .int .u32 x2, .int .u8 b, .int .i64 n, .int .i64 tu] 47) = W at *
  clear hW
  have h1 := hst.below hB1
  have Hz1 := Lib.hid hz1; have HB1 := Lib.hid hB1; have H1 := Lib.hid h1
  clear hst h1 hz1 hB1
  refine (clear_yes (H1.out.t.up W.heap.size) n hn b hb).mono ?_
  rintro e w2 ⟨rfl, t2, f2⟩
  rw [← Hbt.out] at t2
  have hbx := HST.out.box Hz1.out f2
  have cel : ∀ j v, W.cell? ⟨w.heap.size, j, none⟩ = some v → w2.cell? ⟨w.heap.size, j, none⟩ = some v := fun j v hv => (World.cell?_of_block (w := W) (a := ⟨w.heap.size, j, none⟩) hbx).trans hv
  have a4 := cel _ _ a4
  have a5 := cel _ _ a5
  obtain ⟨hs2, hB2⟩ := H1.out.turnT t2 f2
  obtain ⟨A2, B2, D2', vr2, vb2, s2⟩ := hs2
  have HS2 := Lib.hid s2; have HB2 := Lib.hid hB2
  clear t2 f2 hbx cel s2 hB2 a0 a1 a2 a3 a6
  go_wp2_with fail
  refine (rin_any HS2.out.r n).mono ?_
  rintro e w' ⟨rfl, rfl⟩
  rw [show decide (0 ≤ (n : Int) ∧ (n : Int) < (T.length : Int)) = true by simp; exact Hn.out]
  obtain ⟨gb, capb, hvb, _, b3, f3, hWb⟩ := HS2.out.r.bit n hn
  obtain ⟨_, c1, _⟩ := HS2.out.r.cells
  rw [← Hbt.out] at b3
  rw [hvb, Hl.out] at c1
  obtain ⟨v, hv⟩ : ∃ v, bitsOf T n = v := ⟨_, rfl⟩
  rw [hv] at b3
  have Hv := Lib.hid hv; have Hvb := Lib.hid hvb; have HWb := Lib.hid hWb
  clear hv hvb hWb
  go_wp2_with fail
  have a4 : w2.drew.cell? ⟨w.heap.size, 4, none⟩ = _ := a4
  have a5 : w2.drew.cell? ⟨w.heap.size, 5, none⟩ = _ := a5
  have c1 : w2.drew.cell? ⟨rb, 1, none⟩ = _ := c1
  have b3 : w2.drew.cell? ⟨gb, n, none⟩ = _ := b3
  have f3 : w2.drew.frozen? ⟨gb, n, none⟩ = _ := f3
  obtain ⟨S9, hSe⟩ : ∃ S : Array Bool → World → Prop, S = fun L w' => L.getD 18 true = false → w' = w2.drew := ⟨_, rfl⟩
  have hdrop : ∀ i, i ≠ 18 → ∀ L w', S9 (L.setIfInBounds i true) w' → S9 L w' := by
    intro i hi L w'
    rw [hSe]
    intro h hl
    exact h (by rw [getD_set_ne true hi]; exact hl)
  have hS : ∀ L, S9 L w2.drew := by intro L; rw [hSe]; exact fun _ => rfl
  have hSo : ∀ {L w'}, S9 L w' → L.getD 18 true = false → w' = w2.drew := by intro L w' h hl; rw [hSe] at h; exact h hl
  have hSd : ∀ (L : Array Bool) X, L.getD 18 true = true → S9 L X := by
    intro L X h; rw [hSe]; intro h1; rw [h] at h1; cases h1
  clear hSe
  refine wp_region_LN S9 19 #[false, false, false, false, false, false, false, false, false, false, false, false, false, false, false, false, false, false, false] (by kernel_rfl) (by kernel_rfl) rfl ?_
  refine WA.take (i := 0) (v := .pointer (some ⟨rb, 0, none⟩)) rfl (by kernel_rfl) (by kernel_rfl) (by kernel_rfl) (fun _ _ _ h => h) (hdrop 0 (by decide)) (Or.inl ⟨by rfl, ?_⟩) (hS _) ?_
  · rintro w' ⟨L, hL, hSw, hun⟩
    go_simp
  simp only [List.getElem_toArray, List.getElem_cons_zero, List.getElem_cons_succ, Act.put, List.setIfInBounds_toArray, List.set_cons_zero, List.set_cons_succ]
  refine WA.take (i := 1) (v := .pointer (some ⟨rb, 0, none⟩)) rfl (by kernel_rfl) (by kernel_rfl) (by kernel_rfl) (fun _ _ _ h => h) (hdrop 1 (by decide)) (Or.inl ⟨by rfl, ?_⟩) (hS _) ?_
  · rintro w' ⟨L, hL, hSw, hun⟩
    go_simp
  simp only [List.getElem_toArray, List.getElem_cons_zero, List.getElem_cons_succ, Act.put, List.setIfInBounds_toArray, List.set_cons_zero, List.set_cons_succ]
  refine WA.take (i := 2) (v := .pointer (some ⟨rb, 1, none⟩)) rfl (by kernel_rfl) (by kernel_rfl) (by kernel_rfl) (fun _ _ _ h => h) (hdrop 2 (by decide)) (Or.inl ⟨by rfl, ?_⟩) (hS _) ?_
  · rintro w' ⟨L, hL, hSw, hun⟩
    go_simp
  simp only [List.getElem_toArray, List.getElem_cons_zero, List.getElem_cons_succ, Act.put, List.setIfInBounds_toArray, List.set_cons_zero, List.set_cons_succ]
  refine WA.take (i := 3) (v := .slice (some ⟨gb, 0, none⟩) l capb) rfl (by kernel_rfl) (by kernel_rfl) (by kernel_rfl) (fun _ _ _ h => h) (hdrop 3 (by decide)) (Or.inl ⟨by rfl, ?_⟩) (hS _) ?_
  · rintro w' ⟨L, hL, hSw, hun⟩
    obtain rfl := hSo hSw (hL.wait 18 17 (by kernel_rfl) (hL.wait 17 3 (by kernel_rfl) hun))
    go_simp
  simp only [List.getElem_toArray, List.getElem_cons_zero, List.getElem_cons_succ, Act.put, List.setIfInBounds_toArray, List.set_cons_zero, List.set_cons_succ]
  refine WA.take (i := 4) (v := .pointer (some ⟨w.heap.size, 5, none⟩)) rfl (by kernel_rfl) (by kernel_rfl) (by kernel_rfl) (fun _ _ _ h => h) (hdrop 4 (by decide)) (Or.inl ⟨by rfl, ?_⟩) (hS _) ?_
  · rintro w' ⟨L, hL, hSw, hun⟩
    go_simp
  simp only [List.getElem_toArray, List.getElem_cons_zero, List.getElem_cons_succ, Act.put, List.setIfInBounds_toArray, List.set_cons_zero, List.set_cons_succ]
  refine WA.take (i := 5) (v := .int .i64 (n : Int)) rfl (by kernel_rfl) (by kernel_rfl) (by kernel_rfl) (fun _ _ _ h => h) (hdrop 5 (by decide)) (Or.inl ⟨by rfl, ?_⟩) (hS _) ?_
  · rintro w' ⟨L, hL, hSw, hun⟩
    obtain rfl := hSo hSw (hL.wait 18 17 (by kernel_rfl) (hL.wait 17 5 (by kernel_rfl) hun))
    go_simp
  simp only [List.getElem_toArray, List.getElem_cons_zero, List.getElem_cons_succ, Act.put, List.setIfInBounds_toArray, List.set_cons_zero, List.set_cons_succ]
  refine WA.take (i := 6) (v := .pointer (some ⟨rb, 0, none⟩)) rfl (by kernel_rfl) (by kernel_rfl) (by kernel_rfl) (fun _ _ _ h => h) (hdrop 6 (by decide)) (Or.inl ⟨by rfl, ?_⟩) (hS _) ?_
  · rintro w' ⟨L, hL, hSw, hun⟩
    go_simp
  simp only [List.getElem_toArray, List.getElem_cons_zero, List.getElem_cons_succ, Act.put, List.setIfInBounds_toArray, List.set_cons_zero, List.set_cons_succ]
  refine WA.take (i := 7) (v := .pointer (some ⟨rb, 0, none⟩)) rfl (by kernel_rfl) (by kernel_rfl) (by kernel_rfl) (fun _ _ _ h => h) (hdrop 7 (by decide)) (Or.inl ⟨by rfl, ?_⟩) (hS _) ?_
  · rintro w' ⟨L, hL, hSw, hun⟩
    go_simp
  simp only [List.getElem_toArray, List.getElem_cons_zero, List.getElem_cons_succ, Act.put, List.setIfInBounds_toArray, List.set_cons_zero, List.set_cons_succ]
  refine WA.take (i := 8) (v := .pointer (some ⟨rb, 1, none⟩)) rfl (by kernel_rfl) (by kernel_rfl) (by kernel_rfl) (fun _ _ _ h => h) (hdrop 8 (by decide)) (Or.inl ⟨by rfl, ?_⟩) (hS _) ?_
  · rintro w' ⟨L, hL, hSw, hun⟩
    go_simp
  simp only [List.getElem_toArray, List.getElem_cons_zero, List.getElem_cons_succ, Act.put, List.setIfInBounds_toArray, List.set_cons_zero, List.set_cons_succ]
  refine WA.take (i := 9) (v := .slice (some ⟨gb, 0, none⟩) l capb) rfl (by kernel_rfl) (by kernel_rfl) (by kernel_rfl) (fun _ _ _ h => h) (hdrop 9 (by decide)) (Or.inl ⟨by rfl, ?_⟩) (hS _) ?_
  · rintro w' ⟨L, hL, hSw, hun⟩
    obtain rfl := hSo hSw (hL.wait 18 16 (by kernel_rfl) (hL.wait 16 13 (by kernel_rfl) (hL.wait 13 12 (by kernel_rfl) (hL.wait 12 9 (by kernel_rfl) hun))))
    go_simp
  simp only [List.getElem_toArray, List.getElem_cons_zero, List.getElem_cons_succ, Act.put, List.setIfInBounds_toArray, List.set_cons_zero, List.set_cons_succ]
  refine WA.take (i := 10) (v := .pointer (some ⟨w.heap.size, 5, none⟩)) rfl (by kernel_rfl) (by kernel_rfl) (by kernel_rfl) (fun _ _ _ h => h) (hdrop 10 (by decide)) (Or.inl ⟨by rfl, ?_⟩) (hS _) ?_
  · rintro w' ⟨L, hL, hSw, hun⟩
    go_simp
  simp only [List.getElem_toArray, List.getElem_cons_zero, List.getElem_cons_succ, Act.put, List.setIfInBounds_toArray, List.set_cons_zero, List.set_cons_succ]
  refine WA.take (i := 11) (v := .int .i64 (n : Int)) rfl (by kernel_rfl) (by kernel_rfl) (by kernel_rfl) (fun _ _ _ h => h) (hdrop 11 (by decide)) (Or.inl ⟨by rfl, ?_⟩) (hS _) ?_
  · rintro w' ⟨L, hL, hSw, hun⟩
    obtain rfl := hSo hSw (hL.wait 18 16 (by kernel_rfl) (hL.wait 16 13 (by kernel_rfl) (hL.wait 13 12 (by kernel_rfl) (hL.wait 12 11 (by kernel_rfl) hun))))
    go_simp
  simp only [List.getElem_toArray, List.getElem_cons_zero, List.getElem_cons_succ, Act.put, List.setIfInBounds_toArray, List.set_cons_zero, List.set_cons_succ]
  refine WA.take (i := 12) (v := .pointer (some ⟨gb, n, none⟩)) rfl (by kernel_rfl) (by kernel_rfl) (by kernel_rfl) (fun _ _ _ h => h) (hdrop 12 (by decide)) (Or.inl ⟨by rfl, ?_⟩) (hS _) ?_
  · rintro w' ⟨L, hL, hSw, hun⟩
    go_simp
  simp only [List.getElem_toArray, List.getElem_cons_zero, List.getElem_cons_succ, Act.put, List.setIfInBounds_toArray, List.set_cons_zero, List.set_cons_succ]
  refine WA.take (i := 13) (v := .int .u8 v) rfl (by kernel_rfl) (by kernel_rfl) (by kernel_rfl) (fun _ _ _ h => h) (hdrop 13 (by decide)) (Or.inl ⟨by rfl, ?_⟩) (hS _) ?_
  · rintro w' ⟨L, hL, hSw, hun⟩
    obtain rfl := hSo hSw (hL.wait 18 16 (by kernel_rfl) (hL.wait 16 13 (by kernel_rfl) hun))
    go_simp
  simp only [List.getElem_toArray, List.getElem_cons_zero, List.getElem_cons_succ, Act.put, List.setIfInBounds_toArray, List.set_cons_zero, List.set_cons_succ]
  refine WA.take (i := 14) (v := .pointer (some ⟨w.heap.size, 4, none⟩)) rfl (by kernel_rfl) (by kernel_rfl) (by kernel_rfl) (fun _ _ _ h => h) (hdrop 14 (by decide)) (Or.inl ⟨by rfl, ?_⟩) (hS _) ?_
  · rintro w' ⟨L, hL, hSw, hun⟩
    go_simp
  simp only [List.getElem_toArray, List.getElem_cons_zero, List.getElem_cons_succ, Act.put, List.setIfInBounds_toArray, List.set_cons_zero, List.set_cons_succ]
  refine WA.take (i := 15) (v := .int .u8 b) rfl (by kernel_rfl) (by kernel_rfl) (by kernel_rfl) (fun _ _ _ h => h) (hdrop 15 (by decide)) (Or.inl ⟨by rfl, ?_⟩) (hS _) ?_
  · rintro w' ⟨L, hL, hSw, hun⟩
    obtain rfl := hSo hSw (hL.wait 18 16 (by kernel_rfl) (hL.wait 16 15 (by kernel_rfl) hun))
    go_simp
  simp only [List.getElem_toArray, List.getElem_cons_zero, List.getElem_cons_succ, Act.put, List.setIfInBounds_toArray, List.set_cons_zero, List.set_cons_succ]
  refine WA.take (i := 16) (v := .int .u8 (bits .andNot .u8 v b)) rfl (by kernel_rfl) (by kernel_rfl) (by kernel_rfl) (fun _ _ _ h => h) (hdrop 16 (by decide)) (Or.inl ⟨by rfl, ?_⟩) (hS _) ?_
  · rintro w' ⟨L, hL, hSw, hun⟩
    go_simp
  simp only [List.getElem_toArray, List.getElem_cons_zero, List.getElem_cons_succ, Act.put, List.setIfInBounds_toArray, List.set_cons_zero, List.set_cons_succ]
  refine WA.take (i := 17) (v := .pointer (some ⟨gb, n, none⟩)) rfl (by kernel_rfl) (by kernel_rfl) (by kernel_rfl) (fun _ _ _ h => h) (hdrop 17 (by decide)) (Or.inl ⟨by rfl, ?_⟩) (hS _) ?_
  · rintro w' ⟨L, hL, hSw, hun⟩
    go_simp
  simp only [List.getElem_toArray, List.getElem_cons_zero, List.getElem_cons_succ, Act.put, List.setIfInBounds_toArray, List.set_cons_zero, List.set_cons_succ]
  refine WA.one (i := 18) (by kernel_rfl) rfl (by rfl) (fun K hK => ?_)
  go_simp
  refine hK _ _ (hSd _ _ (by rfl)) ?_
  clear hK
  try simp only [List.getElem_toArray, List.getElem_cons_zero, List.getElem_cons_succ, Act.put, List.setIfInBounds_toArray, List.set_cons_zero, List.set_cons_succ]
  refine WA.done (by kernel_rfl) ?_ _
  refine Nrm.normal ?_
  go_wp2_with fail
  go_ret
  have hd := HS2.out.below (Below.refl _ w2).drew
  have hi := (hd.r.up w2.drew.heap.size).setBit n Hn.out Hvb.out (bits .andNot .u8 v b) (is8_andNot _ _)
  obtain ⟨hs3, hB3⟩ := hd.turnR hi ((Fr.refl (B2.up w2.drew.heap.size) w2.drew).setCell (a := ⟨gb, n, none⟩) (.inl HWb.out))
  rw [Hv.out] at hs3 ⊢
  exact ⟨rfl, hs3, (Fr.of_below (Z := Zone.off F) HB1.out).trans (HB2.out.trans ((Fr.of_below (Z := Zone.off F) (Below.refl _ w2).drew).trans hB3))⟩

set_option maxRecDepth 100000 in
set_option maxHeartbeats 4000000 in
theorem do_clear_noF (h : StsF F G w tb rb T T) (x0 x1 x2 : Int) (b n tu : Int) (hn : n < 0 ∨ T.length ≤ n) :
    Calls Try.prog 14 #[.pointer (some ⟨tb, 0, none⟩), .pointer (some ⟨rb, 0, none⟩), .agg #[.int .i64 3, .int .u32 x0, .int .u32 x1, .int .u32 x2, .int .u8 b, .int .i64 n, .int .i64 tu]] w fun e w' =>
      e = .returned (.bool true) ∧ StsF F G w' tb rb T T ∧ Fr (Zone.off F) w w' := by
  obtain ⟨A, B, D, vr, vb, hst⟩ := h
  obtain ⟨hB1, hz1, a0, a1, a2, a3, a4, a5, a6⟩ := actBox w 3 x0 x1 x2 b n tu _ rfl
  have HST := Lib.hid hst
  have Hn := Lib.hid hn
  go_enter Try.func14, Try.ntmps14
  go_wp2_with fail
  generalize hW : w.alloc (.cells #[.int .i64 3, .int .u32 x0, .int .u32 x1, .int .u32 x2, .int .u8 b, .int .i64 n, .int .i64 tu] 47) = W at *
  clear hW
  have h1 := hst.below hB1
  have Hz1 := Lib.hid hz1; have HB1 := Lib.hid hB1; have H1 := Lib.hid h1
  clear hst h1 hz1 hB1
  refine (clear_no H1.out.t n hn b).mono ?_
  rintro e w' ⟨rfl, rfl⟩
  clear hn
  go_wp2_with fail
  refine (rin_any H1.out.r n).mono ?_
  rintro e w' ⟨rfl, rfl⟩
  rw [show decide (0 ≤ n ∧ n < (T.length : Int)) = false by have := Hn.out; simp; omega]
  go_wp2_with fail
  go_ret
  exact ⟨rfl, ⟨_, _, _, _, _, H1.out⟩, Fr.of_below (Z := Zone.off F) HB1.out⟩

set_option maxRecDepth 100000 in
set_option maxHeartbeats 4000000 in
theorem do_matchF (h : StsF F G w tb rb T T) (x0 x1 x2 : Int) (hr : rok (x0, x1, x2)) (b n tu : Int) (hb : is8 b) :
    Calls Try.prog 14 #[.pointer (some ⟨tb, 0, none⟩), .pointer (some ⟨rb, 0, none⟩), .agg #[.int .i64 4, .int .u32 x0, .int .u32 x1, .int .u32 x2, .int .u8 b, .int .i64 n, .int .i64 tu]] w fun e w' =>
      e = .returned (.bool true) ∧ StsF F G w' tb rb T T ∧ Fr (Zone.off F) w w' := by
  obtain ⟨A, B, D, vr, vb, hst⟩ := h
  obtain ⟨hB1, hz1, a0, a1, a2, a3, a4, a5, a6⟩ := actBox w 4 x0 x1 x2 b n tu _ rfl
  have HST := Lib.hid hst
  go_enter Try.func14, Try.ntmps14
  go_wp2_with fail
  generalize hW : w.alloc (.cells #[.int .i64 4, .int .u32 x0, .int .u32 x1, .int .u32 x2, .int .u8 b, .int .i64 n, .int .i64 tu] 47) = W at *
  clear hW
  have h1 := hst.below hB1
  have Hz1 := Lib.hid hz1; have HB1 := Lib.hid hB1; have H1 := Lib.hid h1
  clear hst h1 hz1 hB1
  refine (callsIn_wide.1 (matches_in ⟨_, _, _, _, _, H1.out.st⟩ x0 x1 x2 hr n tu b)).mono ?_
  rintro e w2 ⟨rfl, hB2⟩
  have HS2 := Lib.hid (H1.out.below hB2); have HB2 := Lib.hid ((Fr.of_below (Z := Zone.off F) HB1.out).trans (Fr.of_below (Z := Zone.off F) hB2))
  clear hB2
  go_wp2_with fail
  go_ret
  exact ⟨rfl, ⟨_, _, _, _, _, HS2.out⟩, HB2.out⟩

set_option maxRecDepth 100000 in
set_option maxHeartbeats 4000000 in
theorem do_findF (h : StsF F G w tb rb T T) (x0 x1 x2 : Int) (hr : rok (x0, x1, x2)) (b n tu : Int) (hb : is8 b) :
    Calls Try.prog 14 #[.pointer (some ⟨tb, 0, none⟩), .pointer (some ⟨rb, 0, none⟩), .agg #[.int .i64 5, .int .u32 x0, .int .u32 x1, .int .u32 x2, .int .u8 b, .int .i64 n, .int .i64 tu]] w fun e w' =>
      e = .returned (.bool true) ∧ StsF F G w' tb rb T T ∧ Fr (Zone.off F) w w' := by
  obtain ⟨A, B, D, vr, vb, hst⟩ := h
  obtain ⟨hB1, hz1, a0, a1, a2, a3, a4, a5, a6⟩ := actBox w 5 x0 x1 x2 b n tu _ rfl
  have HST := Lib.hid hst
  go_enter Try.func14, Try.ntmps14
  cases hi : idx T (x0, x1, x2) with
  | some k =>
    go_wp2_with fail
    generalize hW : w.alloc (.cells #[.int .i64 5, .int .u32 x0, .int .u32 x1, .int .u32 x2, .int .u8 b, .int .i64 n, .int .i64 tu] 47) = W at *
    clear hW
    have h1 := hst.below hB1
    have Hz1 := Lib.hid hz1; have HB1 := Lib.hid hB1; have H1 := Lib.hid h1
    clear hst h1 hz1 hB1
    refine (find_yes H1.out.t (x0, x1, x2) hr k hi).mono ?_
    rintro e w2 ⟨rfl, hB2⟩
    have a1 := cell_later hB2 a1
    have a2 := cell_later hB2 a2
    have a3 := cell_later hB2 a3
    have HS2 := Lib.hid (H1.out.below hB2); have HB2 := Lib.hid ((Fr.of_below (Z := Zone.off F) HB1.out).trans (Fr.of_below (Z := Zone.off F) hB2))
    clear hB2 a0 a4 a5 a6
    go_wp2_with fail
    refine (rfind_any HS2.out.r (x0, x1, x2)).mono ?_
    rintro e w3 ⟨rfl, hB3⟩
    rw [show findN T (x0, x1, x2) = (k : Int) by simp [findN, hi]]
    have HS3 := Lib.hid (HS2.out.below hB3); have HB3 := Lib.hid (HB2.out.trans (Fr.of_below (Z := Zone.off F) hB3))
    have hk0 : decide ((k : Int) ≥ 0) = true := by simp
    clear hB3 a1 a2 a3 hi
    go_wp2_with fail
    go_ret
    exact ⟨rfl, ⟨_, _, _, _, _, HS3.out⟩, HB3.out⟩
  | none =>
    go_wp2_with fail
    generalize hW : w.alloc (.cells #[.int .i64 5, .int .u32 x0, .int .u32 x1, .int .u32 x2, .int .u8 b, .int .i64 n, .int .i64 tu] 47) = W at *
    clear hW
    have h1 := hst.below hB1
    have Hz1 := Lib.hid hz1; have HB1 := Lib.hid hB1; have H1 := Lib.hid h1
    clear hst h1 hz1 hB1
    refine (find_no H1.out.t (x0, x1, x2) hr hi).mono ?_
    rintro e w2 ⟨rfl, hB2⟩
    have a1 := cell_later hB2 a1
    have a2 := cell_later hB2 a2
    have a3 := cell_later hB2 a3
    have HS2 := Lib.hid (H1.out.below hB2); have HB2 := Lib.hid ((Fr.of_below (Z := Zone.off F) HB1.out).trans (Fr.of_below (Z := Zone.off F) hB2))
    clear hB2 a0 a4 a5 a6
    go_wp2_with fail
    refine (rfind_any HS2.out.r (x0, x1, x2)).mono ?_
    rintro e w3 ⟨rfl, hB3⟩
    rw [show findN T (x0, x1, x2) = -1 by simp [findN, hi]]
    have HS3 := Lib.hid (HS2.out.below hB3); have HB3 := Lib.hid (HB2.out.trans (Fr.of_below (Z := Zone.off F) hB3))
    clear hB3 a1 a2 a3 hi
    go_wp2_with fail
    go_ret
    exact ⟨rfl, ⟨_, _, _, _, _, HS3.out⟩, HB3.out⟩

set_option maxRecDepth 100000 in
set_option maxHeartbeats 4000000 in
theorem do_noneF (h : StsF F G w tb rb T T) (kind x0 x1 x2 b n tu : Int) (h1 : kind ≠ 1) (h2 : kind ≠ 2) (h3 : kind ≠ 3) (h4 : kind ≠ 4) (h5 : kind ≠ 5) :
    Calls Try.prog 14 #[.pointer (some ⟨tb, 0, none⟩), .pointer (some ⟨rb, 0, none⟩), .agg #[.int .i64 kind, .int .u32 x0, .int .u32 x1, .int .u32 x2, .int .u8 b, .int .i64 n, .int .i64 tu]] w fun e w' =>
      e = .returned (.bool true) ∧ StsF F G w' tb rb T T ∧ Fr (Zone.off F) w w' := by
  obtain ⟨A, B, D, vr, vb, hst⟩ := h
  obtain ⟨hB1, hz1, a0, a1, a2, a3, a4, a5, a6⟩ := actBox w kind x0 x1 x2 b n tu _ rfl
  have HR := Lib.hid (And.intro (hst.below hB1) (Fr.of_below (Z := Zone.off F) hB1))
  have e1 : (kind == 1) = false := by simpa using h1
  have e2 : (kind == 2) = false := by simpa using h2
  have e3 : (kind == 3) = false := by simpa using h3
  have e4 : (kind == 4) = false := by simpa using h4
  have e5 : (kind == 5) = false := by simpa using h5
  clear h1 h2 h3 h4 h5 hst hB1 hz1
  go_enter Try.func14, Try.ntmps14
  go_wp2_with fail
  go_ret
  exact ⟨rfl, ⟨_, _, _, _, _, HR.out.1⟩, HR.out.2⟩

theorem do_anyF (h : StsF F G w tb rb T T) (kind : Int) (r : R3) (hr : rok r) (b n tu : Int) (hb : is8 b) (hlen : T.length + 1 ≤ 1000000) :
    Calls Try.prog 14 #[.pointer (some ⟨tb, 0, none⟩), .pointer (some ⟨rb, 0, none⟩), actv kind r b n tu] w fun e w' =>
      e = .returned (.bool true) ∧ StsF F G w' tb rb (doT T kind r b n) (doT T kind r b n) ∧ Fr (Zone.off F) w w' := by
  obtain ⟨x0, x1, x2⟩ := r
  unfold actv
  by_cases h1 : kind = 1
  · subst h1
    exact do_addF h x0 x1 x2 hr b n tu hb hlen
  by_cases h2 : kind = 2
  · subst h2
    by_cases hn : 0 ≤ n ∧ n < T.length
    · obtain ⟨k, rfl⟩ : ∃ k : Nat, n = k := ⟨n.toNat, by omega⟩
      have := do_set_yesF h x0 x1 x2 hr b tu hb k (by omega)
      unfold doT
      rw [if_neg (by omega), if_pos rfl, if_pos hn]
      exact this
    · have := do_set_noF h x0 x1 x2 b n tu (by omega)
      unfold doT
      rw [if_neg (by omega), if_pos rfl, if_neg hn]
      exact this
  by_cases h3 : kind = 3
  · subst h3
    by_cases hn : 0 ≤ n ∧ n < T.length
    · obtain ⟨k, rfl⟩ : ∃ k : Nat, n = k := ⟨n.toNat, by omega⟩
      have := do_clear_yesF h x0 x1 x2 hr b tu hb k (by omega)
      unfold doT
      rw [if_neg (by omega), if_neg (by omega), if_pos rfl, if_pos hn]
      exact this
    · have := do_clear_noF h x0 x1 x2 b n tu (by omega)
      unfold doT
      rw [if_neg (by omega), if_neg (by omega), if_pos rfl, if_neg hn]
      exact this
  unfold doT
  rw [if_neg h1, if_neg h2, if_neg h3]
  by_cases h4 : kind = 4
  · subst h4
    exact do_matchF h x0 x1 x2 hr b n tu hb
  by_cases h5 : kind = 5
  · subst h5
    exact do_findF h x0 x1 x2 hr b n tu hb
  exact do_noneF h kind x0 x1 x2 b n tu h1 h2 h3 h4 h5
end
end Go.Proofs.Ytellmhllgmimiaa
