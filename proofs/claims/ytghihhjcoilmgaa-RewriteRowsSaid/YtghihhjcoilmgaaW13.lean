/- The reference's Expand. -/
import Derived.Test.YtghihhjcoilmgaaW8
import Derived.Maps.AppendAt
namespace Go.Proofs.Ytghihhjcoilmgaa
set_option maxRecDepth 100000
open Go.RowKit Go.Maps
set_option linter.unusedVariables false
set_option linter.unusedSimpArgs false
attribute [local go_sem] Oper.semAt_some

/-- rows' cells -/
def rwc (L : List Rw3) : List Value := L.flatMap fun r => [.int .u32 r.1, .int .u32 r.2.1, .int .u32 r.2.2]
theorem rwc_len (L : List Rw3) : (rwc L).length = L.length * 3 := by
  induction L with
  | nil => rfl
  | cons r L ih => simp only [rwc, List.flatMap_cons, List.length_append, List.length_cons, List.length_nil] at ih ⊢; omega
theorem rwc_snoc (L : List Rw3) (r : Rw3) : rwc (L ++ [r]) = rwc L ++ [.int .u32 r.1, .int .u32 r.2.1, .int .u32 r.2.2] := by simp [rwc]
theorem rwc_get (L : List Rw3) (j : Nat) (h : j < L.length) : (rwc L)[j * 3]? = some (.int .u32 L[j].1) ∧ (rwc L)[j * 3 + 1]? = some (.int .u32 L[j].2.1) ∧ (rwc L)[j * 3 + 2]? = some (.int .u32 L[j].2.2) := by
  induction L generalizing j with
  | nil => simp at h
  | cons r L ih =>
    cases j with
    | zero => simp [rwc]
    | succ j =>
      obtain ⟨h1, h2, h3⟩ := ih j (by simpa using h)
      have e : rwc (r :: L) = [.int .u32 r.1, .int .u32 r.2.1, .int .u32 r.2.2] ++ rwc L := by simp [rwc]
      rw [e]
      refine ⟨?_, ?_, ?_⟩
      · rw [List.getElem?_append_right (by simp; omega)]; rw [show (j + 1) * 3 - [Value.int .u32 r.1, .int .u32 r.2.1, .int .u32 r.2.2].length = j * 3 by simp; omega]; exact h1
      · rw [List.getElem?_append_right (by simp; omega)]; rw [show (j + 1) * 3 + 1 - [Value.int .u32 r.1, .int .u32 r.2.1, .int .u32 r.2.2].length = j * 3 + 1 by simp; omega]; exact h2
      · rw [List.getElem?_append_right (by simp; omega)]; rw [show (j + 1) * 3 + 2 - [Value.int .u32 r.1, .int .u32 r.2.1, .int .u32 r.2.2].length = j * 3 + 2 by simp; omega]; exact h3
def OwnRw (base : Nat) (w : World) (v : Value) (L : List Rw3) : Prop := w.ownsRow base 37 3 v L.length (rwc L)
theorem OwnRw.below {base : Nat} {w w' : World} {v : Value} {L : List Rw3} (h : OwnRw base w v L) (hb : Below w.heap.size w w') : OwnRw base w' v L := World.ownsRow.kept (row := none) h ⟨hb.os, hb.tape, hb.output, hb.size, fun k hk _ => hb.block k hk⟩ (by cases hv : v.ownBlock <;> simp)
theorem OwnRw.mono {b b' : Nat} {w : World} {v : Value} {L : List Rw3} (h : OwnRw b w v L) (hb : b' ≤ b) : OwnRw b' w v L := by
  refine ⟨h.1, ?_⟩
  rcases h.2 with h1 | ⟨g, cap, cur, h1, h2, h3⟩
  · exact .inl h1
  · exact .inr ⟨g, cap, cur, h1, by omega, h3⟩
theorem OwnRw.form {base : Nat} {w : World} {v : Value} {L : List Rw3} (h : OwnRw base w v L) : ∃ a cap, v = .slice a L.length cap ∧ L.length ≤ maxLen := by
  rcases h.2 with ⟨rfl, h3⟩ | ⟨g, cap, cur, rfl, _, _, h4, h5, _⟩
  · exact ⟨none, 0, by rw [h3], by rw [h3]; simp [maxLen]⟩
  · exact ⟨_, cap, rfl, by omega⟩
theorem OwnRw.at {base n cap : Nat} {w : World} {a : Option Addr} {L : List Rw3} (h : OwnRw base w (.slice a n cap) L) {j : Nat} (hj : j < L.length) :
    ∃ g, a = some ⟨g, 0, none⟩ ∧ w.cell? ⟨g, j * 3, none⟩ = some (.int .u32 L[j].1) ∧ w.cell? ⟨g, j * 3 + 1, none⟩ = some (.int .u32 L[j].2.1) ∧ w.cell? ⟨g, j * 3 + 2, none⟩ = some (.int .u32 L[j].2.2) := by
  rcases h.2 with ⟨h3, h4⟩ | ⟨g, cp, cur, e, _⟩
  · omega
  · injection e with e1 e2 e3
    subst e1 e2 e3
    obtain ⟨k0, k1, k2⟩ := rwc_get L j hj
    have p : ∀ k : Nat, (⟨g, 0, none⟩ : Addr).add k = ⟨g, k, none⟩ := fun k => add_is g k
    refine ⟨g, rfl, ?_, ?_, ?_⟩
    · rw [← p]; exact World.ownsRow.cells h (g := g) rfl _ _ k0
    · rw [← p]; exact World.ownsRow.cells h (g := g) rfl _ _ k1
    · rw [← p]; exact World.ownsRow.cells h (g := g) rfl _ _ k2
theorem cells_blk3 {w : World} {g : Nat} {a b c : Value} {t : TypeId} {fz : Nat × Nat} (h : w.heap[g]? = some (.cells #[a, b, c] t fz)) : ∀ j u, [a, b, c][j]? = some u → w.cell? ((⟨g, 0, none⟩ : Addr).add j) = some u := by
  intro j u hj
  rw [add_is]
  have hj3 : j < 3 := by have := (List.getElem?_eq_some_iff.1 hj).1; simpa using this
  unfold World.cell?
  rw [h]
  have : j = 0 ∨ j = 1 ∨ j = 2 := by omega
  rcases this with rfl | rfl | rfl <;> simpa using hj
theorem Try.infoRowP : (Try.prog.info? 37).map (fun i => (i.zero, i.size, i.bytes)) = some (some (.agg #[.int .u32 0, .int .u32 0, .int .u32 0]), 3, 12) := by kernel_rfl
section
variable {w : World} {ja : Option Addr} {J : Jn} {a b c : Int}
set_option maxRecDepth 100000 in
set_option maxHeartbeats 16000000 in
theorem expandR_any (h : IsJ w ja J) (jcap : Nat) (hJl : J.length ≤ 60) (hz : ∀ p ∈ J, p.1 ≠ 0 ∧ p.2 ≠ 0) {LA LB LC : List Int} (hA : ClL J a LA) (hB : ClL J b LB) (hC : ClL J c LC) :
    Calls Try.prog 13 #[.slice ja J.length jcap, .agg #[.int .u32 a, .int .u32 b, .int .u32 c]] w fun e w' => ∃ v, e = .returned v ∧ OwnRw w.heap.size w' v (prod3 LA LB LC) ∧ Below w.heap.size w w' := by
  have hAl := hA.len; have hBl := hB.len; have hCl := hC.len
  have q1 : Below w.heap.size w (w.alloc (.cells #[.int .u32 a, .int .u32 b, .int .u32 c] 37)) := (Below.refl _ w).alloc (Nat.le_refl _) _
  have q3 := World.alloc_heap_new w (.cells #[.int .u32 a, .int .u32 b, .int .u32 c] 37)
  obtain ⟨i0, hi0, hz0, hz1, hz2⟩ := info_parts Try.infoRowP
  have Hi := Lib.hid hi0; have Hz0 := Lib.hid hz0; have Hz1 := Lib.hid hz1; have Hz2 := Lib.hid hz2
  obtain ⟨jn, hjn⟩ : ∃ jn, J.length = jn := ⟨_, rfl⟩
  obtain ⟨na, hna⟩ : ∃ na, LA.length = na := ⟨_, rfl⟩
  obtain ⟨nb, hnb⟩ : ∃ nb, LB.length = nb := ⟨_, rfl⟩
  obtain ⟨nc, hnc⟩ : ∃ nc, LC.length = nc := ⟨_, rfl⟩
  rw [hjn] at hJl ⊢
  rw [hjn] at hAl hBl hCl
  rw [hna] at hAl
  rw [hnb] at hBl
  rw [hnc] at hCl
  have HJ := Lib.hid h; have Hz := Lib.hid hz; have HA := Lib.hid hA; have HB := Lib.hid hB; have HC := Lib.hid hC
  have Q1 := Lib.hid q1; have Q3 := Lib.hid q3; have Hjn := Lib.hid hjn; have Hna := Lib.hid hna; have Hnb := Lib.hid hnb; have Hnc := Lib.hid hnc
  have b2 : na * nb ≤ 121 * 121 := Nat.mul_le_mul (by omega) (by omega)
  have b3 : na * nb * nc ≤ 121 * 121 * 121 := Nat.mul_le_mul b2 (by omega)
  have B3 := Lib.hid b3
  clear h hz hA hB hC q1 q3 hjn hna hnb hnc hi0 hz0 hz1 hz2 b2 b3
  go_enter Try.func13, Try.ntmps13
  go_upto_region 1 with fail
  generalize w.alloc (.cells #[.int .u32 a, .int .u32 b, .int .u32 c] 37) = W2 at *
  obtain ⟨rb, hb0⟩ : ∃ b0, w.heap.size = b0 := ⟨_, rfl⟩
  have hq3 := Q3.out
  rw [hb0] at hq3 ⊢
  have r0 : W2.cell? ⟨rb, 0, none⟩ = some (.int .u32 a) := by unfold World.cell?; rw [hq3]; rfl
  have r1 : W2.cell? ⟨rb, 1, none⟩ = some (.int .u32 b) := by unfold World.cell?; rw [hq3]; rfl
  have r2 : W2.cell? ⟨rb, 2, none⟩ = some (.int .u32 c) := by unfold World.cell?; rw [hq3]; rfl
  have Hb0 := Lib.hid hb0
  clear hq3 hb0
  have hJX : IsJ W2.drew ja J := HJ.out.below Q1.out.drew
  have HJX := Lib.hid hJX
  clear hJX
  have r0 : W2.drew.cell? ⟨rb, 0, none⟩ = some (.int .u32 a) := r0
  have r1 : W2.drew.cell? ⟨rb, 1, none⟩ = some (.int .u32 b) := r1
  have r2 : W2.drew.cell? ⟨rb, 2, none⟩ = some (.int .u32 c) := r2
  obtain ⟨S1, hSe⟩ : ∃ S : Array Bool → World → Prop, S = fun _ w' => Below W2.drew.heap.size W2.drew w' := ⟨_, rfl⟩
  have hdrop : ∀ i : Nat, ∀ L w', S1 (L.setIfInBounds i true) w' → S1 L w' := by
    intro i L w' h; rw [hSe] at h ⊢; exact h
  have hS : ∀ L, S1 L W2.drew := by intro L; rw [hSe]; exact Below.refl _ _
  have hSo : ∀ {L w'}, S1 L w' → Below W2.drew.heap.size W2.drew w' := by intro L w' h; rw [hSe] at h; exact h
  have hSi : ∀ {w'}, Below W2.drew.heap.size W2.drew w' → ∀ L, S1 L w' := by intro w' h L; rw [hSe]; exact h
  clear hSe
  refine wp_region_LN S1 15 #[false, false, false, false, false, false, false, false, false, false, false, false, false, false, false] (by kernel_rfl) (by kernel_rfl) rfl ?_
  obtain ⟨X0, hX0⟩ : ∃ X0, X0 = W2.drew := ⟨_, rfl⟩
  rw [← hX0] at r0 r1 r2 hSo hS hSi ⊢
  have HX0 := Lib.hid hX0
  clear hX0
  refine WA.take (i := 0) (v := .slice ja jn jcap) rfl (by kernel_rfl) (by kernel_rfl) (by kernel_rfl) (fun _ _ _ h => h) (hdrop 0) (Or.inl ⟨by rfl, ?_⟩) (hS _) ?_
  · rintro w' ⟨L, hL, hSw, hun⟩
    go_simp
  simp only [List.getElem_toArray, List.getElem_cons_zero, List.getElem_cons_succ, Act.put, List.setIfInBounds_toArray, List.set_cons_zero, List.set_cons_succ]
  refine WA.take (i := 1) (v := .pointer (some ⟨rb, 0, none⟩)) rfl (by kernel_rfl) (by kernel_rfl) (by kernel_rfl) (fun _ _ _ h => h) (hdrop 1) (Or.inl ⟨by rfl, ?_⟩) (hS _) ?_
  · rintro w' ⟨L, hL, hSw, hun⟩
    go_simp
  simp only [List.getElem_toArray, List.getElem_cons_zero, List.getElem_cons_succ, Act.put, List.setIfInBounds_toArray, List.set_cons_zero, List.set_cons_succ]
  refine WA.take (i := 2) (v := .int .u32 a) rfl (by kernel_rfl) (by kernel_rfl) (by kernel_rfl) (fun _ _ _ h => h) (hdrop 2) (Or.inl ⟨by rfl, ?_⟩) (hS _) ?_
  · rintro w' ⟨L, hL, hSw, hun⟩
    have hbw := hSo hSw
    have r0 := cell_later hbw r0
    clear hbw
    go_simp
  simp only [List.getElem_toArray, List.getElem_cons_zero, List.getElem_cons_succ, Act.put, List.setIfInBounds_toArray, List.set_cons_zero, List.set_cons_succ]
  refine WA.take (i := 4) (v := .slice ja jn jcap) rfl (by kernel_rfl) (by kernel_rfl) (by kernel_rfl) (fun _ _ _ h => h) (hdrop 4) (Or.inl ⟨by rfl, ?_⟩) (hS _) ?_
  · rintro w' ⟨L, hL, hSw, hun⟩
    go_simp
  simp only [List.getElem_toArray, List.getElem_cons_zero, List.getElem_cons_succ, Act.put, List.setIfInBounds_toArray, List.set_cons_zero, List.set_cons_succ]
  refine WA.take (i := 5) (v := .pointer (some ⟨rb, 1, none⟩)) rfl (by kernel_rfl) (by kernel_rfl) (by kernel_rfl) (fun _ _ _ h => h) (hdrop 5) (Or.inl ⟨by rfl, ?_⟩) (hS _) ?_
  · rintro w' ⟨L, hL, hSw, hun⟩
    go_simp
  simp only [List.getElem_toArray, List.getElem_cons_zero, List.getElem_cons_succ, Act.put, List.setIfInBounds_toArray, List.set_cons_zero, List.set_cons_succ]
  refine WA.take (i := 6) (v := .int .u32 b) rfl (by kernel_rfl) (by kernel_rfl) (by kernel_rfl) (fun _ _ _ h => h) (hdrop 6) (Or.inl ⟨by rfl, ?_⟩) (hS _) ?_
  · rintro w' ⟨L, hL, hSw, hun⟩
    have hbw := hSo hSw
    have r1 := cell_later hbw r1
    clear hbw
    go_simp
  simp only [List.getElem_toArray, List.getElem_cons_zero, List.getElem_cons_succ, Act.put, List.setIfInBounds_toArray, List.set_cons_zero, List.set_cons_succ]
  refine WA.take (i := 8) (v := .slice ja jn jcap) rfl (by kernel_rfl) (by kernel_rfl) (by kernel_rfl) (fun _ _ _ h => h) (hdrop 8) (Or.inl ⟨by rfl, ?_⟩) (hS _) ?_
  · rintro w' ⟨L, hL, hSw, hun⟩
    go_simp
  simp only [List.getElem_toArray, List.getElem_cons_zero, List.getElem_cons_succ, Act.put, List.setIfInBounds_toArray, List.set_cons_zero, List.set_cons_succ]
  refine WA.take (i := 9) (v := .pointer (some ⟨rb, 2, none⟩)) rfl (by kernel_rfl) (by kernel_rfl) (by kernel_rfl) (fun _ _ _ h => h) (hdrop 9) (Or.inl ⟨by rfl, ?_⟩) (hS _) ?_
  · rintro w' ⟨L, hL, hSw, hun⟩
    go_simp
  simp only [List.getElem_toArray, List.getElem_cons_zero, List.getElem_cons_succ, Act.put, List.setIfInBounds_toArray, List.set_cons_zero, List.set_cons_succ]
  refine WA.take (i := 10) (v := .int .u32 c) rfl (by kernel_rfl) (by kernel_rfl) (by kernel_rfl) (fun _ _ _ h => h) (hdrop 10) (Or.inl ⟨by rfl, ?_⟩) (hS _) ?_
  · rintro w' ⟨L, hL, hSw, hun⟩
    have hbw := hSo hSw
    have r2 := cell_later hbw r2
    clear hbw
    go_simp
  simp only [List.getElem_toArray, List.getElem_cons_zero, List.getElem_cons_succ, Act.put, List.setIfInBounds_toArray, List.set_cons_zero, List.set_cons_succ]
  refine WA.one (i := 3) (by kernel_rfl) rfl (by rfl) (fun K hK => ?_)
  go_simp
  have hcl3 := cliqueR_any (w := X0) (by rw [HX0.out]; exact HJX.out) jcap (by rw [Hjn.out]; omega) Hz.out a
  rw [Hjn.out] at hcl3
  refine hcl3.mono ?_
  rintro e w3 ⟨v3, L3, rfl, hO_, hL_, hB_⟩
  obtain rfl := (hL_.unique HA.out (fun _ _ => Iff.rfl)).symm
  have HO3 := Lib.hid hO_; have HB3_ := Lib.hid hB_
  have HB3 := Lib.hid (HB3_.out)
  obtain ⟨s3, cap3, rfl, _⟩ := hO_.u
  rw [Hna.out] at HO3
  simp only [Hna.out]
  clear hO_ hL_ hB_ hcl3
  refine hK _ _ (hSi HB3.out _) ?_
  clear hK
  try simp only [List.getElem_toArray, List.getElem_cons_zero, List.getElem_cons_succ, Act.put, List.setIfInBounds_toArray, List.set_cons_zero, List.set_cons_succ]
  refine WA.one (i := 7) (by kernel_rfl) rfl (by rfl) (fun K hK => ?_)
  go_simp
  have hcl7 := cliqueR_any (w := w3) (IsJ.below (by rw [HX0.out]; exact HJX.out) HB3.out) jcap (by rw [Hjn.out]; omega) Hz.out b
  rw [Hjn.out] at hcl7
  refine hcl7.mono ?_
  rintro e w7 ⟨v7, L7, rfl, hO_, hL_, hB_⟩
  obtain rfl := (hL_.unique HB.out (fun _ _ => Iff.rfl)).symm
  have HO7 := Lib.hid hO_; have HB7_ := Lib.hid hB_
  have HB7 := Lib.hid (HB3.out.trans (HB7_.out.mono HB3.out.size))
  obtain ⟨s7, cap7, rfl, _⟩ := hO_.u
  rw [Hnb.out] at HO7
  simp only [Hnb.out]
  clear hO_ hL_ hB_ hcl7
  refine hK _ _ (hSi HB7.out _) ?_
  clear hK
  try simp only [List.getElem_toArray, List.getElem_cons_zero, List.getElem_cons_succ, Act.put, List.setIfInBounds_toArray, List.set_cons_zero, List.set_cons_succ]
  refine WA.one (i := 11) (by kernel_rfl) rfl (by rfl) (fun K hK => ?_)
  go_simp
  have hcl11 := cliqueR_any (w := w7) (IsJ.below (by rw [HX0.out]; exact HJX.out) HB7.out) jcap (by rw [Hjn.out]; omega) Hz.out c
  rw [Hjn.out] at hcl11
  refine hcl11.mono ?_
  rintro e w11 ⟨v11, L11, rfl, hO_, hL_, hB_⟩
  obtain rfl := (hL_.unique HC.out (fun _ _ => Iff.rfl)).symm
  have HO11 := Lib.hid hO_; have HB11_ := Lib.hid hB_
  have HB11 := Lib.hid (HB7.out.trans (HB11_.out.mono HB7.out.size))
  obtain ⟨s11, cap11, rfl, _⟩ := hO_.u
  rw [Hnc.out] at HO11
  simp only [Hnc.out]
  clear hO_ hL_ hB_ hcl11
  refine hK _ _ (hSi HB11.out _) ?_
  clear hK
  try simp only [List.getElem_toArray, List.getElem_cons_zero, List.getElem_cons_succ, Act.put, List.setIfInBounds_toArray, List.set_cons_zero, List.set_cons_succ]
  refine WA.take (i := 12) (v := .slice s3 na cap3) rfl (by kernel_rfl) (by kernel_rfl) (by kernel_rfl) (fun _ _ _ h => h) (hdrop 12) (Or.inl ⟨by rfl, ?_⟩) (hSi HB11.out _) ?_
  · rintro w' ⟨L, hL, hSw, hun⟩
    go_simp
  simp only [List.getElem_toArray, List.getElem_cons_zero, List.getElem_cons_succ, Act.put, List.setIfInBounds_toArray, List.set_cons_zero, List.set_cons_succ]
  refine WA.take (i := 13) (v := .slice s7 nb cap7) rfl (by kernel_rfl) (by kernel_rfl) (by kernel_rfl) (fun _ _ _ h => h) (hdrop 13) (Or.inl ⟨by rfl, ?_⟩) (hSi HB11.out _) ?_
  · rintro w' ⟨L, hL, hSw, hun⟩
    go_simp
  simp only [List.getElem_toArray, List.getElem_cons_zero, List.getElem_cons_succ, Act.put, List.setIfInBounds_toArray, List.set_cons_zero, List.set_cons_succ]
  refine WA.take (i := 14) (v := .slice s11 nc cap11) rfl (by kernel_rfl) (by kernel_rfl) (by kernel_rfl) (fun _ _ _ h => h) (hdrop 14) (Or.inl ⟨by rfl, ?_⟩) (hSi HB11.out _) ?_
  · rintro w' ⟨L, hL, hSw, hun⟩
    go_simp
  simp only [List.getElem_toArray, List.getElem_cons_zero, List.getElem_cons_succ, Act.put, List.setIfInBounds_toArray, List.set_cons_zero, List.set_cons_succ]
  refine WA.done (by kernel_rfl) ?_ _
  refine Nrm.normal ?_
  clear hSo hS hSi hdrop r0 r1 r2
  clear S1
  have hBW : Below w.heap.size w w11 := by
    have h1 : Below w.heap.size w X0 := by rw [HX0.out]; exact Q1.out.drew
    exact h1.trans (HB11.out.mono h1.size)
  have hOA := HO3.out.below rfl (HB7_.out.trans (HB11_.out.mono HB7_.out.size))
  have hOB := HO7.out.below rfl HB11_.out
  have HOA := Lib.hid hOA; have HOB := Lib.hid hOB; have HBW := Lib.hid hBW
  clear hBW hOA hOB HO3 HO7
  go_wp2_with fail
  go_loopw [8, 9] (fun u8 u wr => ∃ i : Nat, i ≤ na ∧ u = .int .i64 i ∧ OwnRw w11.heap.size wr u8 (pre3 LA LB LC i 0 0) ∧ Below w11.heap.size w11 wr) (fun _ u _ => na - (intOf u).toNat)
  case atStart => exact ⟨0, by omega, rfl, by rw [pre3_zero]; exact World.ownsRow_nil _ _ _ _, Below.refl _ _⟩
  case round =>
    obtain ⟨i, hi, rfl, hO8, hBr⟩ := hrel
    have HO8 := Lib.hid hO8; have HBr := Lib.hid hBr
    clear hO8 hBr
    by_cases hin : i < na
    · have hd : decide ((i : Int) < (na : Int)) = true := by simp; omega
      obtain ⟨x, hx⟩ : ∃ x, LA[i]'(by rw [Hna.out]; exact hin) = x := ⟨_, rfl⟩
      have hxD : LA.getD i 0 = x := by rw [← hx]; simp [List.getD_eq_getElem?_getD, Hna.out, hin]
      have Hx := Lib.hid hx; have HxD := Lib.hid hxD
      clear hx hxD
      go_wp2_with fail
      go_loopw [8, 10] (fun u8 u w2 => ∃ k : Nat, k ≤ nb ∧ u = .int .i64 k ∧ OwnRw w11.heap.size w2 u8 (pre3 LA LB LC i k 0) ∧ Below w11.heap.size w11 w2) (fun _ u _ => nb - (intOf u).toNat)
      case atStart => exact ⟨0, by omega, rfl, HO8.out, HBr.out⟩
      case round =>
        obtain ⟨k, hk, rfl, hO8, hBr⟩ := hrel
        have HO8 := Lib.hid hO8; have HBr := Lib.hid hBr
        clear hO8 hBr
        by_cases hkn : k < nb
        · have hd2 : decide ((k : Int) < (nb : Int)) = true := by simp; omega
          obtain ⟨y, hy⟩ : ∃ y, LB[k]'(by rw [Hnb.out]; exact hkn) = y := ⟨_, rfl⟩
          have hyD : LB.getD k 0 = y := by rw [← hy]; simp [List.getD_eq_getElem?_getD, Hnb.out, hkn]
          have Hy := Lib.hid hy; have HyD := Lib.hid hyD
          clear hy hyD
          go_wp2_with fail
          go_loopw [8, 11] (fun u8 u w3 => ∃ j : Nat, j ≤ nc ∧ u = .int .i64 j ∧ OwnRw w11.heap.size w3 u8 (pre3 LA LB LC i k j) ∧ Below w11.heap.size w11 w3) (fun _ u _ => nc - (intOf u).toNat)
          case atStart => exact ⟨0, by omega, rfl, HO8.out, HBr.out⟩
          case round =>
            rename World => wv
            obtain ⟨j, hj, rfl, hO8, hBr⟩ := hrel
            have HO8 := Lib.hid hO8; have HBr := Lib.hid hBr
            clear hO8 hBr
            by_cases hjn : j < nc
            · have hd3 : decide ((j : Int) < (nc : Int)) = true := by simp; omega
              obtain ⟨ga, rfl, _, c1⟩ := (HOA.out.below rfl HBr.out).at' i (by rw [Hna.out]; exact hin)
              obtain ⟨gb, rfl, _, c2⟩ := (HOB.out.below rfl HBr.out).at' k (by rw [Hnb.out]; exact hkn)
              obtain ⟨gc, rfl, _, c3⟩ := (HO11.out.below rfl HBr.out).at' j (by rw [Hnc.out]; exact hjn)
              obtain ⟨z, hz⟩ : ∃ z, LC[j]'(by rw [Hnc.out]; exact hjn) = z := ⟨_, rfl⟩
              rw [Hx.out] at c1
              rw [Hy.out] at c2
              rw [hz] at c3
              have hzD : LC.getD j 0 = z := by rw [← hz]; simp [List.getD_eq_getElem?_getD, Hnc.out, hjn]
              have hnx : pre3 LA LB LC i k j ++ [(x, y, z)] = pre3 LA LB LC i k (j + 1) := by
                have := pre3_next (A := LA) (B := LB) (i := i) (k := k) (show j < LC.length by rw [Hnc.out]; exact hjn)
                rwa [HxD.out, HyD.out, hzD] at this
              have hpl : (pre3 LA LB LC i k j).length ≤ 121 * 121 * 121 := by
                have h1 := (pre3_pre (A := LA) (B := LB) (C := LC) (j := j) (show i < LA.length by rw [Hna.out]; exact hin) (show k < LB.length by rw [Hnb.out]; exact hkn)).length_le
                rw [prod3_len, Hna.out, Hnb.out, Hnc.out] at h1
                exact Nat.le_trans h1 B3.out
              obtain ⟨a8, cap8, rfl, _⟩ := HO8.out.form
              obtain ⟨pl, hple⟩ : ∃ pl, (pre3 LA LB LC i k j).length = pl := ⟨_, rfl⟩
              rw [hple] at hpl HO8 ⊢
              have Hnx := Lib.hid hnx; have Hple := Lib.hid hple
              clear hz hzD hnx hple
              go_wp2_with fail
              have c1 : wv.drew.cell? ⟨ga, i, none⟩ = some (.int .u32 x) := c1
              have c2 : wv.drew.cell? ⟨gb, k, none⟩ = some (.int .u32 y) := c2
              have c3 : wv.drew.cell? ⟨gc, j, none⟩ = some (.int .u32 z) := c3
              obtain ⟨S12, hSe⟩ : ∃ S : Array Bool → World → Prop, S = fun L w' => L.getD 15 true = false → Below wv.drew.heap.size wv.drew w' := ⟨_, rfl⟩
              have hdrop : ∀ i, i ≠ 15 → ∀ L w', S12 (L.setIfInBounds i true) w' → S12 L w' := by
                intro i hi L w'
                rw [hSe]
                intro h hl
                exact h (by rw [getD_set_ne true hi]; exact hl)
              have hS : ∀ L, S12 L wv.drew := by intro L; rw [hSe]; exact fun _ => Below.refl _ _
              have hSo : ∀ {L w'}, S12 L w' → L.getD 15 true = false → Below wv.drew.heap.size wv.drew w' := by intro L w' h hl; rw [hSe] at h; exact h hl
              have hSi : ∀ {w'}, Below wv.drew.heap.size wv.drew w' → ∀ L, S12 L w' := by intro w' h L; rw [hSe]; exact fun _ => h
              have hSd : ∀ (L : Array Bool) X, L.getD 15 true = true → S12 L X := by
                intro L X h; rw [hSe]; intro h1; rw [h] at h1; cases h1
              clear hSe
              refine wp_region_LN S12 17 #[false, false, false, false, false, false, false, false, false, false, false, false, false, false, false, false, false] (by kernel_rfl) (by kernel_rfl) rfl ?_
              obtain ⟨X12, hX12⟩ : ∃ X12, X12 = wv.drew := ⟨_, rfl⟩
              rw [← hX12] at c1 c2 c3 hSo hS hSi ⊢
              have HX12 := Lib.hid hX12
              clear hX12
              refine WA.take (i := 0) (v := .slice a8 pl cap8) rfl (by kernel_rfl) (by kernel_rfl) (by kernel_rfl) (fun _ _ _ h => h) (hdrop 0 (by decide)) (Or.inl ⟨by rfl, ?_⟩) (hS _) ?_
              · rintro w' ⟨L, hL, hSw, hun⟩
                go_simp
              simp only [List.getElem_toArray, List.getElem_cons_zero, List.getElem_cons_succ, Act.put, List.setIfInBounds_toArray, List.set_cons_zero, List.set_cons_succ]
              refine WA.take (i := 1) (v := .slice (some ⟨ga, 0, none⟩) na cap3) rfl (by kernel_rfl) (by kernel_rfl) (by kernel_rfl) (fun _ _ _ h => h) (hdrop 1 (by decide)) (Or.inl ⟨by rfl, ?_⟩) (hS _) ?_
              · rintro w' ⟨L, hL, hSw, hun⟩
                go_simp
              simp only [List.getElem_toArray, List.getElem_cons_zero, List.getElem_cons_succ, Act.put, List.setIfInBounds_toArray, List.set_cons_zero, List.set_cons_succ]
              refine WA.take (i := 2) (v := .int .i64 ((i : Nat) : Int)) rfl (by kernel_rfl) (by kernel_rfl) (by kernel_rfl) (fun _ _ _ h => h) (hdrop 2 (by decide)) (Or.inl ⟨by rfl, ?_⟩) (hS _) ?_
              · rintro w' ⟨L, hL, hSw, hun⟩
                go_simp
              simp only [List.getElem_toArray, List.getElem_cons_zero, List.getElem_cons_succ, Act.put, List.setIfInBounds_toArray, List.set_cons_zero, List.set_cons_succ]
              refine WA.take (i := 3) (v := .pointer (some ⟨ga, i, none⟩)) rfl (by kernel_rfl) (by kernel_rfl) (by kernel_rfl) (fun _ _ _ h => h) (hdrop 3 (by decide)) (Or.inl ⟨by rfl, ?_⟩) (hS _) ?_
              · rintro w' ⟨L, hL, hSw, hun⟩
                go_simp
              simp only [List.getElem_toArray, List.getElem_cons_zero, List.getElem_cons_succ, Act.put, List.setIfInBounds_toArray, List.set_cons_zero, List.set_cons_succ]
              refine WA.take (i := 4) (v := .int .u32 x) rfl (by kernel_rfl) (by kernel_rfl) (by kernel_rfl) (fun _ _ _ h => h) (hdrop 4 (by decide)) (Or.inl ⟨by rfl, ?_⟩) (hS _) ?_
              · rintro w' ⟨L, hL, hSw, hun⟩
                have hbw := hSo hSw (hL.wait 15 14 (by kernel_rfl) (hL.wait 14 13 (by kernel_rfl) (hL.wait 13 4 (by kernel_rfl) hun)))
                have c1 := cell_later hbw c1
                clear hbw
                go_simp
              simp only [List.getElem_toArray, List.getElem_cons_zero, List.getElem_cons_succ, Act.put, List.setIfInBounds_toArray, List.set_cons_zero, List.set_cons_succ]
              refine WA.take (i := 5) (v := .slice (some ⟨gb, 0, none⟩) nb cap7) rfl (by kernel_rfl) (by kernel_rfl) (by kernel_rfl) (fun _ _ _ h => h) (hdrop 5 (by decide)) (Or.inl ⟨by rfl, ?_⟩) (hS _) ?_
              · rintro w' ⟨L, hL, hSw, hun⟩
                go_simp
              simp only [List.getElem_toArray, List.getElem_cons_zero, List.getElem_cons_succ, Act.put, List.setIfInBounds_toArray, List.set_cons_zero, List.set_cons_succ]
              refine WA.take (i := 6) (v := .int .i64 ((k : Nat) : Int)) rfl (by kernel_rfl) (by kernel_rfl) (by kernel_rfl) (fun _ _ _ h => h) (hdrop 6 (by decide)) (Or.inl ⟨by rfl, ?_⟩) (hS _) ?_
              · rintro w' ⟨L, hL, hSw, hun⟩
                go_simp
              simp only [List.getElem_toArray, List.getElem_cons_zero, List.getElem_cons_succ, Act.put, List.setIfInBounds_toArray, List.set_cons_zero, List.set_cons_succ]
              refine WA.take (i := 7) (v := .pointer (some ⟨gb, k, none⟩)) rfl (by kernel_rfl) (by kernel_rfl) (by kernel_rfl) (fun _ _ _ h => h) (hdrop 7 (by decide)) (Or.inl ⟨by rfl, ?_⟩) (hS _) ?_
              · rintro w' ⟨L, hL, hSw, hun⟩
                go_simp
              simp only [List.getElem_toArray, List.getElem_cons_zero, List.getElem_cons_succ, Act.put, List.setIfInBounds_toArray, List.set_cons_zero, List.set_cons_succ]
              refine WA.take (i := 8) (v := .int .u32 y) rfl (by kernel_rfl) (by kernel_rfl) (by kernel_rfl) (fun _ _ _ h => h) (hdrop 8 (by decide)) (Or.inl ⟨by rfl, ?_⟩) (hS _) ?_
              · rintro w' ⟨L, hL, hSw, hun⟩
                have hbw := hSo hSw (hL.wait 15 14 (by kernel_rfl) (hL.wait 14 13 (by kernel_rfl) (hL.wait 13 8 (by kernel_rfl) hun)))
                have c2 := cell_later hbw c2
                clear hbw
                go_simp
              simp only [List.getElem_toArray, List.getElem_cons_zero, List.getElem_cons_succ, Act.put, List.setIfInBounds_toArray, List.set_cons_zero, List.set_cons_succ]
              refine WA.take (i := 9) (v := .slice (some ⟨gc, 0, none⟩) nc cap11) rfl (by kernel_rfl) (by kernel_rfl) (by kernel_rfl) (fun _ _ _ h => h) (hdrop 9 (by decide)) (Or.inl ⟨by rfl, ?_⟩) (hS _) ?_
              · rintro w' ⟨L, hL, hSw, hun⟩
                go_simp
              simp only [List.getElem_toArray, List.getElem_cons_zero, List.getElem_cons_succ, Act.put, List.setIfInBounds_toArray, List.set_cons_zero, List.set_cons_succ]
              refine WA.take (i := 10) (v := .int .i64 ((j : Nat) : Int)) rfl (by kernel_rfl) (by kernel_rfl) (by kernel_rfl) (fun _ _ _ h => h) (hdrop 10 (by decide)) (Or.inl ⟨by rfl, ?_⟩) (hS _) ?_
              · rintro w' ⟨L, hL, hSw, hun⟩
                go_simp
              simp only [List.getElem_toArray, List.getElem_cons_zero, List.getElem_cons_succ, Act.put, List.setIfInBounds_toArray, List.set_cons_zero, List.set_cons_succ]
              refine WA.take (i := 11) (v := .pointer (some ⟨gc, j, none⟩)) rfl (by kernel_rfl) (by kernel_rfl) (by kernel_rfl) (fun _ _ _ h => h) (hdrop 11 (by decide)) (Or.inl ⟨by rfl, ?_⟩) (hS _) ?_
              · rintro w' ⟨L, hL, hSw, hun⟩
                go_simp
              simp only [List.getElem_toArray, List.getElem_cons_zero, List.getElem_cons_succ, Act.put, List.setIfInBounds_toArray, List.set_cons_zero, List.set_cons_succ]
              refine WA.take (i := 12) (v := .int .u32 z) rfl (by kernel_rfl) (by kernel_rfl) (by kernel_rfl) (fun _ _ _ h => h) (hdrop 12 (by decide)) (Or.inl ⟨by rfl, ?_⟩) (hS _) ?_
              · rintro w' ⟨L, hL, hSw, hun⟩
                have hbw := hSo hSw (hL.wait 15 14 (by kernel_rfl) (hL.wait 14 13 (by kernel_rfl) (hL.wait 13 12 (by kernel_rfl) hun)))
                have c3 := cell_later hbw c3
                clear hbw
                go_simp
              simp only [List.getElem_toArray, List.getElem_cons_zero, List.getElem_cons_succ, Act.put, List.setIfInBounds_toArray, List.set_cons_zero, List.set_cons_succ]
              refine WA.take (i := 13) (v := .agg #[.int .u32 x, .int .u32 y, .int .u32 z]) rfl (by kernel_rfl) (by kernel_rfl) (by kernel_rfl) (fun _ _ _ h => h) (hdrop 13 (by decide)) (Or.inl ⟨by rfl, ?_⟩) (hS _) ?_
              · rintro w' ⟨L, hL, hSw, hun⟩
                go_simp
              simp only [List.getElem_toArray, List.getElem_cons_zero, List.getElem_cons_succ, Act.put, List.setIfInBounds_toArray, List.set_cons_zero, List.set_cons_succ]
              refine WA.one (i := 14) (by kernel_rfl) rfl (by rfl) (fun K hK => ?_)
              go_simp
              have hA12 := (Below.refl X12.heap.size X12).alloc (Nat.le_refl _) (.cells #[.int .u32 x, .int .u32 y, .int .u32 z] 37)
              have HA12 := Lib.hid hA12
              clear hA12
              refine hK _ _ (hSi HA12.out _) ?_
              clear hK
              try simp only [List.getElem_toArray, List.getElem_cons_zero, List.getElem_cons_succ, Act.put, List.setIfInBounds_toArray, List.set_cons_zero, List.set_cons_succ]
              refine WA.one (i := 15) (by kernel_rfl) rfl (by rfl) (fun K hK => ?_)
              have HO12 := Lib.hid (show OwnRw w11.heap.size X12 (.slice a8 pl cap8) (pre3 LA LB LC i k j) by rw [HX12.out]; exact HO8.out.below (Below.refl _ _).drew)
              have HO12a := Lib.hid (HO12.out.below HA12.out)
              have hsz12 : w11.heap.size ≤ X12.heap.size := by rw [HX12.out]; exact HBr.out.size
              refine jwp_append_own (.tmp 42) (.tmp 56) 39 (by rfl) w11.heap.size 37 i0 (.agg #[.int .u32 0, .int .u32 0, .int .u32 0]) 3 12 Try.underlying39 Hi.out Hz0.out Hz1.out Hz2.out rfl (by decide) (.slice a8 pl cap8) pl (rwc (pre3 LA LB LC i k j)) (by rfl) (by rw [← Hple.out]; have := HO12a.out; rw [← Hple.out] at this; exact this) ⟨X12.heap.size, 0, none⟩ 1 1 [.int .u32 x, .int .u32 y, .int .u32 z] (by rfl) rfl (cells_blk3 (World.alloc_heap_new _ _)) (by simp [Value.oneCell']) (by simp only [maxLen]; omega) (by omega) (by simp; omega) ?_
              intro v' w15 hown' hgrow _ _
              obtain ⟨g', cap', rfl⟩ := ownsRow_succ hown'
              have HOn := Lib.hid hown'; have HGr := Lib.hid hgrow
              clear hown' hgrow
              refine hK _ _ (hSd _ _ (by rfl)) ?_
              clear hK
              try simp only [List.getElem_toArray, List.getElem_cons_zero, List.getElem_cons_succ, Act.put, List.setIfInBounds_toArray, List.set_cons_zero, List.set_cons_succ]
              refine WA.take (i := 16) (v := .slice (some ⟨g', 0, none⟩) (pl + 1) cap') rfl (by kernel_rfl) (by kernel_rfl) (by kernel_rfl) (fun _ _ _ h => h) (hdrop 16 (by decide)) (Or.inl ⟨by rfl, ?_⟩) (hSd _ _ (by rfl)) ?_
              · rintro w' ⟨L, hL, hSw, hun⟩
                go_simp
              simp only [List.getElem_toArray, List.getElem_cons_zero, List.getElem_cons_succ, Act.put, List.setIfInBounds_toArray, List.set_cons_zero, List.set_cons_succ]
              refine WA.done (by kernel_rfl) ?_ _
              refine Nrm.normal ?_
              clear hSo hS hSi hSd hdrop c1 c2 c3
              clear S12
              have HBn := Lib.hid (show Below w11.heap.size w11 w15 from by
                have h1 : Below w11.heap.size w11 X12 := by rw [HX12.out]; exact HBr.out.drew
                exact (h1.trans (HA12.out.mono h1.size)).grown HGr.out (Nat.le_trans h1.size HA12.out.size) (fun g hg => (HO12a.out.lt g hg).1))
              go_wp2_with fail
              go_roundw
              case rel => exact ⟨j + 1, by omega, by push_cast; rfl, by rw [← Hnx.out]; unfold OwnRw; rw [List.length_append, Hple.out, rwc_snoc]; exact HOn.out, HBn.out⟩
              case measure => simp [intOf]; omega
            · have hd3 : decide ((j : Int) < (nc : Int)) = false := by simp; omega
              obtain rfl : j = nc := by omega
              go_wp2_with fail
              go_roundw
              case rel => exact ⟨k + 1, by omega, by push_cast; rfl, by have h1 := pre3_row (A := LA) (C := LC) (i := i) (show k < LB.length by rw [Hnb.out]; exact hkn); rw [Hnc.out] at h1; rw [← h1]; exact HO8.out, HBr.out⟩
              case measure => simp [intOf]; omega
        · have hd2 : decide ((k : Int) < (nb : Int)) = false := by simp; omega
          obtain rfl : k = nb := by omega
          go_wp2_with fail
          go_roundw
          case rel => exact ⟨i + 1, by omega, by push_cast; rfl, by have h1 := pre3_blk (B := LB) (C := LC) (show i < LA.length by rw [Hna.out]; exact hin); rw [Hnb.out] at h1; rw [← h1]; exact HO8.out, HBr.out⟩
          case measure => simp [intOf]; omega
    · have hd : decide ((i : Int) < (na : Int)) = false := by simp; omega
      obtain rfl : i = na := by omega
      go_wp2_with fail
      go_ret
      refine ⟨_, rfl, ?_, HBW.out.trans (HBr.out.mono HBW.out.size)⟩
      have h1 := pre3_end (A := LA) (B := LB) (C := LC)
      rw [Hna.out] at h1
      rw [← h1]
      exact OwnRw.mono HO8.out HBW.out.size
end
end Go.Proofs.Ytghihhjcoilmgaa
