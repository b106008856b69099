/- The reference's Add. -/
import Derived.Test.YtghihhjcoilmgaaKR3
import Derived.Deep.CutRange
namespace Go.Proofs.Ytghihhjcoilmgaa.T
set_option maxRecDepth 100000
open Go.RowKit Go.Maps
set_option linter.unusedVariables false
set_option linter.unusedSimpArgs false

section
variable {Z : Zone} {w w' : World} {rb : Nat} {T : TS} {vr vb : Value}
theorem IsR.setBit (h : IsR Z w rb T vr vb) (n : Nat) (hn : n < T.length) {g cap : Nat} (hv : vb = .slice (some ⟨g, 0, none⟩) T.length cap) (b : Int) (hb : is8 b) :
    IsR Z (w.setCell ⟨g, n, none⟩ (.int .u8 b)) rb (setB T n b) vr vb := by
  obtain ⟨_, cur0, fz0, hgb⟩ := h.bits.lt g (by rw [hv]; rfl)
  have hg : ∀ i, i ≠ g → (w.setCell ⟨g, n, none⟩ (.int .u8 b)).heap[i]? = w.heap[i]? := fun i hi => Below.heap_setCell w _ _ i hi
  have hty : ∀ {e : TypeId} {i : Nat} {cur : Array Value} {fz : Nat × Nat}, e ≠ 56 → w.heap[i]? = some (.cells cur e fz) → i ≠ g := fun he hi e1 => by
    subst e1; rw [hgb] at hi; injection hi with hi; injection hi with _ hi; exact he hi.symm
  have hrw := setB_rows T n b
  refine { h with
    obj := (hg _ (hty (by decide) h.obj)).trans h.obj
    rows := by
      rw [setB_length, rcs_rows hrw]
      exact h.rows.stayB (fun g hv => by obtain ⟨_, cur, fz, h1⟩ := h.rows.lt g hv; exact hg _ (hty (by decide) h1))
    bits := ?_
    oks := yok_set h.oks n hb
    long := by rw [setB_length]; exact h.long
    nil0 := fun e => by
      have := congrArg List.length e
      rw [setB_length, List.length_nil] at this
      omega }
  rw [setB_length]
  have hbits := h.bits
  refine ⟨bcs_length _ |>.trans (by rw [setB_length]), ?_⟩
  rcases hbits.2 with ⟨e1, e2⟩ | ⟨g', cap', cur, e1, hgg, k1, k2, k3, k4, k5, k6⟩
  · omega
  · have : g' = g := by rw [hv] at e1; injection e1 with e1; injection e1 with e1; injection e1 with e1; exact e1.symm
    subst this
    refine .inr ⟨g', cap', _, e1, heap_setCell_at hgg n _, k1, k2, by simpa using k3, ?_, k5, k6⟩
    rw [Array.toList_setIfInBounds, List.take_set, k4, bcs_set]

/-- what is told of a list of rows and bits, behind the copy and the row that comes -/
theorem IsR.came (h : IsR Z w rb T vr vb) (y : R3 × Int) (hy : yok y) (hl : T.length + 1 ≤ 1000000) {X : World} {vr' vb' : Value}
    (h1 : Sl Z X 37 3 vr' (T.length + 1) (rcs T ++ [.int .u32 y.1.1, .int .u32 y.1.2.1, .int .u32 y.1.2.2])) (h1w : Whole Z vr')
    (h2 : Sl Z X 56 1 vb' (T.length + 1) (bcs T ++ [.int .u8 y.2])) (h2w : Whole Z vb')
    (ho : X.heap[rb]? = some (.cells #[vr', vb'] 53 (0, 0))) : IsR Z X rb (T ++ [y]) vr' vb' := by
  obtain ⟨r, b⟩ := y
  refine { obj := ho, own := h.own, rows := ?_, rowsW := h1w, bits := ?_, bitsW := h2w, oks := ?_, long := by rw [List.length_append, List.length_singleton]; exact hl, nil0 := fun e => by simp at e }
  · rw [rcs_snoc, List.length_append, List.length_singleton]; exact h1
  · rw [bcs_snoc, List.length_append, List.length_singleton]; exact h2
  · intro z hz
    rcases List.mem_append.1 hz with hz | hz
    · exact h.oks z hz
    · obtain rfl : z = (r, b) := by simpa using hz
      exact hy

set_option maxRecDepth 100000 in
set_option maxHeartbeats 2000000 in
theorem radd_no (r : R3) (b : Int) (hb : b = 0 ∨ has0 r = true) (w : World) (rb : Nat) :
    Calls Try.prog 19 #[.pointer (some ⟨rb, 0, none⟩), rv r, .int .u8 b] w fun e w' => e = .returned (.tuple #[.int .i64 (-1), .bool false]) ∧ Below w.heap.size w w' := by
  obtain ⟨x0, x1, x2⟩ := r
  simp only [rv]
  have hB : Below w.heap.size w (w.alloc (.cells #[.int .u32 x0, .int .u32 x1, .int .u32 x2] 37)) := (Below.refl _ w).alloc (Nat.le_refl _) _
  obtain ⟨a0, a1, a2⟩ := bx1 w x0 x1 x2
  have hc : (b == 0) = true ∨ (b == 0) = false ∧ (x0 == 0) = true ∨ (b == 0) = false ∧ (x0 == 0) = false ∧ (x1 == 0) = true ∨ (b == 0) = false ∧ (x0 == 0) = false ∧ (x1 == 0) = false ∧ (x2 == 0) = true := by
    simp only [has0, has3, Bool.or_eq_true, beq_iff_eq] at hb
    simp only [beq_iff_eq, beq_eq_false_iff_ne, ne_eq]
    omega
  clear hb
  rcases hc with h1 | ⟨h1, h2⟩ | ⟨h1, h2, h3⟩ | ⟨h1, h2, h3, h4⟩
  all_goals
    go_enter Try.func19, Try.ntmps19
    go_wp2_with fail
    go_ret2
    exact ⟨rfl, hB⟩

set_option maxRecDepth 100000 in
set_option maxHeartbeats 4000000 in
theorem radd_old (h : IsR Z w rb T vr vb) (r : R3) (b : Int) (hb : ¬ (b = 0 ∨ has0 r = true)) (n : Nat) (hn : idx T r = some n) :
    Calls Try.prog 19 #[.pointer (some ⟨rb, 0, none⟩), rv r, .int .u8 b] w fun e w' => e = .returned (.tuple #[.int .i64 n, .bool (bitsOf T n == 0)]) ∧
      IsR Z w' rb (setB T n (bits .or .u8 (bitsOf T n) b)) vr vb ∧ Fr Z w w' := by
  obtain ⟨x0, x1, x2⟩ := r
  obtain ⟨hnl, hnr⟩ := idx_lt hn
  have hlong := h.long
  have hh := Lib.hid h
  simp only [rv]
  have hB : Below w.heap.size w (w.alloc (.cells #[.int .u32 x0, .int .u32 x1, .int .u32 x2] 37)) := (Below.refl _ w).alloc (Nat.le_refl _) _
  have hf := fun w' hb => Lib.hid (rfind_any (h.below (w' := w') hb) (x0, x1, x2))
  simp only [findN, hn] at hf
  obtain ⟨a0, a1, a2⟩ := bx1 w x0 x1 x2
  obtain ⟨h1, h2, h3, h4⟩ : (b == 0) = false ∧ (x0 == 0) = false ∧ (x1 == 0) = false ∧ (x2 == 0) = false := by
    simp only [has0, has3, Bool.or_eq_true, beq_iff_eq] at hb
    simp only [beq_eq_false_iff_ne, ne_eq]
    omega
  clear hb h
  obtain ⟨l, hl⟩ : ∃ l, T.length = l := ⟨_, rfl⟩
  have hbt : bitsOf T n = T[n].2 := by simp [bitsOf, hnl]
  obtain ⟨v, hv⟩ : ∃ v, bitsOf T n = v := ⟨_, rfl⟩
  have hnl' : n < l := by omega
  rw [hl] at hlong
  have hneg : decide ((n : Int) < 0) = false := by simp
  go_enter Try.func19, Try.ntmps19
  rw [hv]
  have Hl := Lib.hid hl; have Hbt := Lib.hid hbt; have Hv := Lib.hid hv; have Hnl := Lib.hid hnl
  clear hl hbt hv hnr hn
  go_wp2_with (go_at_call 38; refine (hf _ hB).out.mono ?_; rintro e w3 ⟨rfl, hB3⟩; have hB4 := hB.trans (hB3.mono hB.size); have hI := hh.out.below hB4; obtain ⟨c0, c1, _⟩ := hI.cells; obtain ⟨gb, capb, hvb, _, b3, f3, hWb⟩ := hI.bit n Hnl.out; rw [← Hbt.out, Hv.out] at b3; rw [hvb, Hl.out] at c1; have HI := Lib.hid hI; have Hvb := Lib.hid hvb; have HB4 := Lib.hid hB4; have HWb := Lib.hid hWb; clear hI hvb hB3 hB4 hWb hf hB a0 a1 a2 c0)
  -- OLD9
  have c1 : w3.drew.cell? ⟨rb, 1, none⟩ = _ := c1
  have b3 : w3.drew.cell? ⟨gb, n, none⟩ = _ := b3
  have f3 : w3.drew.frozen? ⟨gb, n, none⟩ = _ := f3
  obtain ⟨S9, hSe⟩ : ∃ S : Array Bool → World → Prop, S = fun L w' => L.getD 15 true = false → w' = w3.drew := ⟨_, rfl⟩
  have hdrop : ∀ i, i ≠ 15 → ∀ L w', S9 (L.setIfInBounds i true) w' → S9 L w' := by
    intro i hi L w'
    rw [hSe]
    intro h hl
    exact h (by rw [getD_set_ne true hi]; exact hl)
  have hS : ∀ L, S9 L w3.drew := by intro L; rw [hSe]; exact fun _ => rfl
  have hSo : ∀ {L w'}, S9 L w' → L.getD 15 true = false → w' = w3.drew := by intro L w' h hl; rw [hSe] at h; exact h hl
  have hSd : ∀ (L : Array Bool) X, L.getD 15 true = true → S9 L X := by
    intro L X h; rw [hSe]; intro h1; rw [h] at h1; cases h1
  clear hSe
  refine wp_region_LN S9 16 #[false, false, false, false, false, false, false, false, false, false, false, false, false, false, false, false] (by kernel_rfl) (by kernel_rfl) rfl ?_
  refine WA.tk (i := 0) (v := .pointer (some ⟨rb, 0, none⟩)) rfl (hdrop 0 (by decide)) (Or.inl ⟨by rfl, ?_⟩) (hS _) ?_
  · rintro w' ⟨L, hL, hSw, hun⟩
    go_simp
  simp only [nA, nB, nC, Act.put, nD, nE, nF]
  refine WA.tk (i := 1) (v := .pointer (some ⟨rb, 0, none⟩)) rfl (hdrop 1 (by decide)) (Or.inl ⟨by rfl, ?_⟩) (hS _) ?_
  · rintro w' ⟨L, hL, hSw, hun⟩
    go_simp
  simp only [nA, nB, nC, Act.put, nD, nE, nF]
  refine WA.tk (i := 2) (v := .pointer (some ⟨rb, 1, none⟩)) rfl (hdrop 2 (by decide)) (Or.inl ⟨by rfl, ?_⟩) (hS _) ?_
  · rintro w' ⟨L, hL, hSw, hun⟩
    go_simp
  simp only [nA, nB, nC, Act.put, nD, nE, nF]
  refine WA.tk (i := 3) (v := .slice (some ⟨gb, 0, none⟩) l capb) rfl (hdrop 3 (by decide)) (Or.inl ⟨by rfl, ?_⟩) (hS _) ?_
  · rintro w' ⟨L, hL, hSw, hun⟩
    obtain rfl := hSo hSw (hL.wait 15 14 (by kernel_rfl) (hL.wait 14 3 (by kernel_rfl) hun))
    go_simp
  simp only [nA, nB, nC, Act.put, nD, nE, nF]
  refine WA.tk (i := 4) (v := .int .i64 (n : Int)) rfl (hdrop 4 (by decide)) (Or.inl ⟨by rfl, ?_⟩) (hS _) ?_
  · rintro w' ⟨L, hL, hSw, hun⟩
    go_simp
  simp only [nA, nB, nC, Act.put, nD, nE, nF]
  refine WA.tk (i := 5) (v := .pointer (some ⟨rb, 0, none⟩)) rfl (hdrop 5 (by decide)) (Or.inl ⟨by rfl, ?_⟩) (hS _) ?_
  · rintro w' ⟨L, hL, hSw, hun⟩
    go_simp
  simp only [nA, nB, nC, Act.put, nD, nE, nF]
  refine WA.tk (i := 6) (v := .pointer (some ⟨rb, 0, none⟩)) rfl (hdrop 6 (by decide)) (Or.inl ⟨by rfl, ?_⟩) (hS _) ?_
  · rintro w' ⟨L, hL, hSw, hun⟩
    go_simp
  simp only [nA, nB, nC, Act.put, nD, nE, nF]
  refine WA.tk (i := 7) (v := .pointer (some ⟨rb, 1, none⟩)) rfl (hdrop 7 (by decide)) (Or.inl ⟨by rfl, ?_⟩) (hS _) ?_
  · rintro w' ⟨L, hL, hSw, hun⟩
    go_simp
  simp only [nA, nB, nC, Act.put, nD, nE, nF]
  refine WA.tk (i := 8) (v := .slice (some ⟨gb, 0, none⟩) l capb) rfl (hdrop 8 (by decide)) (Or.inl ⟨by rfl, ?_⟩) (hS _) ?_
  · rintro w' ⟨L, hL, hSw, hun⟩
    obtain rfl := hSo hSw (hL.wait 15 13 (by kernel_rfl) (hL.wait 13 11 (by kernel_rfl) (hL.wait 11 10 (by kernel_rfl) (hL.wait 10 8 (by kernel_rfl) hun))))
    go_simp
  simp only [nA, nB, nC, Act.put, nD, nE, nF]
  refine WA.tk (i := 9) (v := .int .i64 (n : Int)) rfl (hdrop 9 (by decide)) (Or.inl ⟨by rfl, ?_⟩) (hS _) ?_
  · rintro w' ⟨L, hL, hSw, hun⟩
    go_simp
  simp only [nA, nB, nC, Act.put, nD, nE, nF]
  refine WA.tk (i := 10) (v := .pointer (some ⟨gb, n, none⟩)) rfl (hdrop 10 (by decide)) (Or.inl ⟨by rfl, ?_⟩) (hS _) ?_
  · rintro w' ⟨L, hL, hSw, hun⟩
    go_simp
  simp only [nA, nB, nC, Act.put, nD, nE, nF]
  refine WA.tk (i := 11) (v := .int .u8 v) rfl (hdrop 11 (by decide)) (Or.inl ⟨by rfl, ?_⟩) (hS _) ?_
  · rintro w' ⟨L, hL, hSw, hun⟩
    obtain rfl := hSo hSw (hL.wait 15 13 (by kernel_rfl) (hL.wait 13 11 (by kernel_rfl) hun))
    go_simp
  simp only [nA, nB, nC, Act.put, nD, nE, nF]
  refine WA.tk (i := 12) (v := .int .u8 b) rfl (hdrop 12 (by decide)) (Or.inl ⟨by rfl, ?_⟩) (hS _) ?_
  · rintro w' ⟨L, hL, hSw, hun⟩
    go_simp
  simp only [nA, nB, nC, Act.put, nD, nE, nF]
  refine WA.tk (i := 13) (v := .int .u8 (bits .or .u8 v b)) rfl (hdrop 13 (by decide)) (Or.inl ⟨by rfl, ?_⟩) (hS _) ?_
  · rintro w' ⟨L, hL, hSw, hun⟩
    go_simp
  simp only [nA, nB, nC, Act.put, nD, nE, nF]
  refine WA.tk (i := 14) (v := .pointer (some ⟨gb, n, none⟩)) rfl (hdrop 14 (by decide)) (Or.inl ⟨by rfl, ?_⟩) (hS _) ?_
  · rintro w' ⟨L, hL, hSw, hun⟩
    go_simp
  simp only [nA, nB, nC, Act.put, nD, nE, nF]
  refine WA.one (i := 15) (by kernel_rfl) rfl (by rfl) (fun K hK => ?_)
  go_simp
  refine hK _ _ (hSd _ _ (by rfl)) ?_
  clear hK
  try simp only [nA, nB, nC, Act.put, nD, nE, nF]
  refine WA.done (by kernel_rfl) ?_ _
  refine Nrm.normal ?_
  go_wp2_with fail
  go_ret2
  have hi := (HI.out.below (Below.refl _ w3).drew).setBit n Hnl.out Hvb.out (bits .or .u8 v b) (is8_or _ _)
  exact ⟨rfl, hi, ((Fr.of_below HB4.out).drew).setCell (a := ⟨gb, n, none⟩) HWb.out⟩
  -- NEW
set_option maxRecDepth 100000 in
set_option maxHeartbeats 8000000 in
theorem radd_new (h : IsR Z w rb T vr vb) (hZ : Z.opn w.heap.size) (r : R3) (hr : rok r) (b : Int) (hb : ¬ (b = 0 ∨ has0 r = true)) (hn : idx T r = none) (hlen : T.length + 1 ≤ 1000000) :
    Calls Try.prog 19 #[.pointer (some ⟨rb, 0, none⟩), rv r, .int .u8 b] w fun e w' => e = .returned (.tuple #[.int .i64 T.length, .bool true]) ∧
      (∃ vr' vb', IsR Z w' rb (setB (T ++ [(r, 0)]) T.length (bits .or .u8 0 b)) vr' vb') ∧ Fr Z w w' := by
  obtain ⟨x0, x1, x2⟩ := r
  have hh := Lib.hid h
  simp only [rv]
  have hB : Below w.heap.size w (w.alloc (.cells #[.int .u32 x0, .int .u32 x1, .int .u32 x2] 37)) := (Below.refl _ w).alloc (Nat.le_refl _) _
  have hza : (w.alloc (.cells #[.int .u32 x0, .int .u32 x1, .int .u32 x2] 37)).heap.size = w.heap.size + 1 := World.size_alloc _ _
  have hf := fun w' hb => Lib.hid (rfind_any (h.below (w' := w') hb) (x0, x1, x2))
  simp only [findN, hn] at hf
  have hbx := bx1 w x0 x1 x2
  have hnz : b ≠ 0 ∧ x0 ≠ 0 ∧ x1 ≠ 0 ∧ x2 ≠ 0 := by
    simp only [has0, has3, Bool.or_eq_true, beq_iff_eq] at hb
    omega
  obtain ⟨h1, h2, h3, h4⟩ : (b == 0) = false ∧ (x0 == 0) = false ∧ (x1 == 0) = false ∧ (x2 == 0) = false := by
    simp only [beq_eq_false_iff_ne, ne_eq]
    exact hnz
  have hyok : yok ((x0, x1, x2), 0) := ⟨hr, hnz.2.1, hnz.2.2.1, hnz.2.2.2, by unfold is8; omega⟩
  clear hb h hnz
  obtain ⟨l, hl⟩ : ∃ l, T.length = l := ⟨_, rfl⟩
  rw [hl] at hlen ⊢
  obtain ⟨i0, hi0, hz0, hz1, hz2⟩ := info_parts Try.infoRow
  obtain ⟨i1, hi1, hw0, hw1, hw2⟩ := info_parts Try.infoBits
  have Hl := Lib.hid hl; have Hyok := Lib.hid hyok
  clear hl hn hr hyok
  obtain ⟨a0, a1, a2⟩ := hbx
  go_enter Try.func19, Try.ntmps19
  go_wp2_with (go_at_call 38; refine (hf _ hB).out.mono ?_; rintro e w3 ⟨rfl, hB3⟩; have b0 := cell_later hB3 a0; have b1 := cell_later hB3 a1; have b2 := cell_later hB3 a2; have hB4 := hB.trans (hB3.mono hB.size); have hI := hh.out.below hB4; obtain ⟨c0, c1, f3⟩ := hI.cells; have Hz := Lib.hid (show w.heap.size + 1 ≤ w3.heap.size from (by have := hB3.size; omega)); have HI := Lib.hid hI; have HB4 := Lib.hid hB4; clear hI hB3 hB4 hf hB a0 a1 a2 hza)
  go_cut [] from 32 to 42 (fun wx => ∃ vr', Sl Z wx 37 3 vr' (T.length + 1) (rcs T ++ [.int .u32 x0, .int .u32 x1, .int .u32 x2]) ∧ Whole Z vr' ∧ wx.heap[rb]? = some (.cells #[vr', vb] 53 (0, 0)) ∧ Sl Z wx 56 1 vb T.length (bcs T) ∧ Fr Z w wx)
  case first =>
    obtain ⟨S5, hSe⟩ : ∃ S : Array Bool → World → Prop, S = fun L w' => L.getD 11 true = false → ∀ i, i < w3.drew.heap.size → w'.heap[i]? = w3.drew.heap[i]? := ⟨_, rfl⟩
    have hdrop : ∀ i, i ≠ 11 → ∀ L w', S5 (L.setIfInBounds i true) w' → S5 L w' := by
      intro i hi L w'
      rw [hSe]
      intro h hl
      exact h (by rw [getD_set_ne true hi]; exact hl)
    have hS : ∀ L, S5 L w3.drew := by intro L; rw [hSe]; exact fun _ _ _ => rfl
    have hSb : ∀ (L : Array Bool) X, (∀ i, i < w3.drew.heap.size → X.heap[i]? = w3.drew.heap[i]?) → S5 L X := by
      intro L X h; rw [hSe]; exact fun _ => h
    have hst : ∀ L w', S5 L w' → L.getD 11 true = false → ∀ ad v, w3.drew.cell? ad = some v → w'.cell? ad = some v := by
      intro L w' h hl ad v hc
      rw [hSe] at h
      exact (World.cell?_of_block (w := w3.drew) (a := ad) (h hl _ (World.block_lt_of_cell? w3.drew ad hc))).trans hc
    have hSd : ∀ (L : Array Bool) X, L.getD 11 true = true → S5 L X := by
      intro L X h; rw [hSe]; intro h1; rw [h] at h1; cases h1
    clear hSe
    have HI5 := Lib.hid (HI.out.below (Below.refl _ w3).drew)
    have HB5 := Lib.hid (HB4.out.drew)
    have Hz5 : Hid (w.heap.size + 1 ≤ w3.drew.heap.size) := Hz
    have b0 : w3.drew.cell? ⟨w.heap.size, 0, none⟩ = _ := b0
    have b1 : w3.drew.cell? ⟨w.heap.size, 1, none⟩ = _ := b1
    have b2 : w3.drew.cell? ⟨w.heap.size, 2, none⟩ = _ := b2
    have c0 : w3.drew.cell? ⟨rb, 0, none⟩ = _ := c0
    have f3 : ∀ j, w3.drew.frozen? ⟨rb, j, none⟩ = false := f3
    refine wp_region_LN S5 12 #[false, false, false, false, false, false, false, false, false, false, false, false] (by kernel_rfl) (by kernel_rfl) rfl ?_
    generalize w3.drew = W5 at *
    refine WA.tk (i := 0) (v := .pointer (some ⟨rb, 0, none⟩)) rfl (hdrop 0 (by decide)) (Or.inl ⟨by rfl, ?_⟩) (hS _) ?_
    · rintro w' ⟨L, hL, hSw, hun⟩
      go_simp
    simp only [nA, nB, nC, Act.put, nD, nE, nF]
    refine WA.tk (i := 1) (v := .pointer (some ⟨rb, 0, none⟩)) rfl (hdrop 1 (by decide)) (Or.inl ⟨by rfl, ?_⟩) (hS _) ?_
    · rintro w' ⟨L, hL, hSw, hun⟩
      go_simp
    simp only [nA, nB, nC, Act.put, nD, nE, nF]
    refine WA.tk (i := 2) (v := .pointer (some ⟨rb, 0, none⟩)) rfl (hdrop 2 (by decide)) (Or.inl ⟨by rfl, ?_⟩) (hS _) ?_
    · rintro w' ⟨L, hL, hSw, hun⟩
      go_simp
    simp only [nA, nB, nC, Act.put, nD, nE, nF]
    refine WA.tk (i := 3) (v := .pointer (some ⟨rb, 0, none⟩)) rfl (hdrop 3 (by decide)) (Or.inl ⟨by rfl, ?_⟩) (hS _) ?_
    · rintro w' ⟨L, hL, hSw, hun⟩
      go_simp
    simp only [nA, nB, nC, Act.put, nD, nE, nF]
    refine WA.tk (i := 4) (v := vr) rfl (hdrop 4 (by decide)) (Or.inl ⟨by rfl, ?_⟩) (hS _) ?_
    · rintro w' ⟨L, hL, hSw, hun⟩
      have hs := hst _ _ hSw (hL.wait 11 8 (by kernel_rfl) (hL.wait 8 5 (by kernel_rfl) (hL.wait 5 4 (by kernel_rfl) hun))); have p0 := hs _ _ b0; have p1 := hs _ _ b1; have p2 := hs _ _ b2; have p3 := hs _ _ c0; clear hs
      go_simp
    simp only [nA, nB, nC, Act.put, nD, nE, nF]
    refine WA.tk (i := 6) (v := .agg #[.int .u32 x0, .int .u32 x1, .int .u32 x2]) rfl (hdrop 6 (by decide)) (Or.inl ⟨by rfl, ?_⟩) (hS _) ?_
    · rintro w' ⟨L, hL, hSw, hun⟩
      have hs := hst _ _ hSw (hL.wait 11 8 (by kernel_rfl) (hL.wait 8 7 (by kernel_rfl) (hL.wait 7 6 (by kernel_rfl) hun))); have p0 := hs _ _ b0; have p1 := hs _ _ b1; have p2 := hs _ _ b2; have p3 := hs _ _ c0; clear hs
      go_simp
    simp only [nA, nB, nC, Act.put, nD, nE, nF]
    have hlt5 := HI5.out.lt
    have hzo : Z.opn W5.heap.size := hZ.mono (by have := Hz5.out; omega)
    have hrw5 := HI5.out.rows
    have hnl0 : T.length = 0 → vr = .slice none 0 0 := fun e => (HI5.out.nil0 (List.eq_nil_of_length_eq_zero e)).1
    have hones : ∀ u ∈ rcs T, u.oneCell' = true := by
      intro u hu
      simp only [rcs, List.mem_flatMap, List.mem_cons, List.not_mem_nil, or_false] at hu
      obtain ⟨y, _, rfl | rfl | rfl⟩ := hu <;> rfl
    have hll := Hl.out
    have f30 := f3 0
    refine WA.all (rs := [5, 7]) (by kernel_rfl) (by simp) ?_
    intro i hi
    rcases (show i = 5 ∨ i = 7 by simpa using hi) with rfl | rfl
    · -- 5, 7
      refine wpOp_go rfl (by rfl) (fun K hK => ?_)
      refine wp_copy_Sl (.const (.slice none 0 0)) (.tmp 36) 39 (by rfl) (by rfl) (by rfl) (hrw5) hnl0 (hzo.mono (Nat.le_refl _)) i0 _ 12 Try.underlying39 hi0 hz0 hz1 hz2 rfl (by decide) hones (by unfold maxLen; omega) (by omega) ?_
      intro v1 X1 p1 p2 p3
      refine hK _ _ ⟨hSb _ X1 (fun i hi => p2.block i hi), ?_⟩
      clear hK
      try simp only [nA, nB, nC, Act.put, nD, nE, nF]
      refine WA.all (rs := [7]) (by kernel_rfl) (by simp) ?_
      intro i hi
      obtain rfl : i = 7 := by simpa using hi
      refine wpOp_go rfl (by rfl) (fun K hK => ?_)
      go_simp
      have q1 : Below X1.heap.size X1 (X1.alloc (.cells #[.int .u32 x0, .int .u32 x1, .int .u32 x2] 37)) := (Below.refl _ _).alloc (Nat.le_refl _) _
      have q2 : (X1.alloc (.cells #[.int .u32 x0, .int .u32 x1, .int .u32 x2] 37)).heap[X1.heap.size]? = some (.cells #[.int .u32 x0, .int .u32 x1, .int .u32 x2] 37 (0, 0)) := World.alloc_heap_new X1 _
      generalize X1.alloc (.cells #[.int .u32 x0, .int .u32 x1, .int .u32 x2] 37) = X at *
      have hB7 : Below W5.heap.size W5 X := p2.trans (q1.mono p2.size)
      have s1 := p1.below q1
      have s2 := q2
      have s3 : ∀ g, v1.ownBlock = some g → W5.heap.size ≤ g := p3
      refine hK _ _ ⟨hSb _ X (fun i hi => hB7.block i hi), ?_⟩
      clear hK
      try simp only [nA, nB, nC, Act.put, nD, nE, nF]
      refine WA.all (rs := [8]) (by kernel_rfl) (by simp) ?_
      intro i hi
      obtain rfl : i = 8 := by simpa using hi
      refine wpOp_go rfl (by rfl) (fun K hK => ?_)
      refine wp_append_Sl (.tmp 37) (.tmp 39) 39 (by rfl) (by rfl) s1 (hzo.mono hB7.size) i0 _ 12 Try.underlying39 hi0 hz0 hz1 hz2 rfl (by decide) ⟨X1.heap.size, 0, none⟩ 1 1 [.int .u32 x0, .int .u32 x1, .int .u32 x2] (by rfl) rfl (cells_blk s2) (by simp [Value.oneCell']) (by decide) (by unfold maxLen; omega) (by omega) ?_
      intro vr' X3 r1 r2 r3 r4
      obtain ⟨g1, cap1, rfl⟩ := r1.succ (by decide)
      have k3 : ∀ i, i < W5.heap.size → X3.heap[i]? = W5.heap[i]? := fun i hi => (r3.block i (Nat.lt_of_lt_of_le hi hB7.size) (fun e => by have := s3 i e.symm; omega)).trans (hB7.block i hi)
      have c30 := (World.cell?_of_block (w := W5) (a := ⟨rb, 0, none⟩) (k3 rb hlt5)).trans c0
      have f30' := (World.frozen?_of_block (w := W5) (a := ⟨rb, 0, none⟩) (k3 rb hlt5)).trans f30
      have hg1 : W5.heap.size ≤ g1 := by
        rcases r4 with ⟨e, _⟩ | ⟨e, _⟩
        · exact s3 g1 (by rw [← e]; rfl)
        · have e : some g1 = some X.heap.size := e
          injection e with e
          rw [e]; exact hB7.size
      rw [hll] at r1
      refine hK _ _ ⟨hSb _ X3 k3, ?_⟩
      clear hK
      try simp only [nA, nB, nC, Act.put, nD, nE, nF]
      refine WA.tk (i := 9) (v := .pointer (some ⟨rb, 0, none⟩)) rfl (hdrop 9 (by decide)) (Or.inl ⟨by rfl, ?_⟩) (hSb _ X3 k3) ?_
      · rintro w' ⟨L, hL, hSw, hun⟩
        go_simp
      simp only [nA, nB, nC, Act.put, nD, nE, nF]
      refine WA.tk (i := 10) (v := .pointer (some ⟨rb, 0, none⟩)) rfl (hdrop 10 (by decide)) (Or.inl ⟨by rfl, ?_⟩) (hSb _ X3 k3) ?_
      · rintro w' ⟨L, hL, hSw, hun⟩
        go_simp
      simp only [nA, nB, nC, Act.put, nD, nE, nF]
      skip
      refine WA.one (i := 11) (by kernel_rfl) rfl (by rfl) (fun K hK => ?_)
      go_simp
      refine hK _ _ (hSd _ _ (by rfl)) ?_
      clear hK
      try simp only [nA, nB, nC, Act.put, nD, nE, nF]
      refine WA.done (by kernel_rfl) ?_ _
      refine Nrm.normal ?_
      go_step
      go_step
      go_meet
      have hob : X3.heap[rb]? = some (.cells #[vr, vb] 53 (0, 0)) := (k3 rb hlt5).trans HI5.out.obj
      have hr1 : rb ≠ g1 := by omega
      refine ⟨_, ?_, ?_, heap_setCell_at hob 0 _, ?_, ?_⟩
      · rw [hll]
        exact r1.stayB (fun g hg => Below.heap_setCell _ _ _ g (fun e => hr1 (by have hg : some g1 = some g := hg; injection hg with hg; rw [hg, e])))
      · intro g hg j
        have hg : some g1 = some g := hg
        injection hg with hg
        exact hZ g j (by have := Hz5.out; omega)
      · exact HI5.out.bits.stayB (fun g hg => by
          obtain ⟨hlt, c, z, hc⟩ := HI5.out.bits.lt g hg
          refine (Below.heap_setCell _ _ _ g (fun e => ?_)).trans (k3 g hlt)
          have e : g = rb := e
          rw [e, HI5.out.obj] at hc; injection hc with hc; injection hc with _ hc; revert hc; decide)
      · exact ((((Fr.of_below HB5.out).trans (.of_below hB7)).trans r2)).setCell (a := ⟨rb, 0, none⟩) (HI5.out.own 0)
    · -- 7, 5
      refine wpOp_go rfl (by rfl) (fun K hK => ?_)
      go_simp
      have q1 : Below W5.heap.size W5 (W5.alloc (.cells #[.int .u32 x0, .int .u32 x1, .int .u32 x2] 37)) := (Below.refl _ _).alloc (Nat.le_refl _) _
      have q2 : (W5.alloc (.cells #[.int .u32 x0, .int .u32 x1, .int .u32 x2] 37)).heap[W5.heap.size]? = some (.cells #[.int .u32 x0, .int .u32 x1, .int .u32 x2] 37 (0, 0)) := World.alloc_heap_new W5 _
      generalize W5.alloc (.cells #[.int .u32 x0, .int .u32 x1, .int .u32 x2] 37) = X1 at *
      refine hK _ _ ⟨hSb _ X1 (fun i hi => q1.block i hi), ?_⟩
      clear hK
      try simp only [nA, nB, nC, Act.put, nD, nE, nF]
      refine WA.all (rs := [5]) (by kernel_rfl) (by simp) ?_
      intro i hi
      obtain rfl : i = 5 := by simpa using hi
      refine wpOp_go rfl (by rfl) (fun K hK => ?_)
      refine wp_copy_Sl (.const (.slice none 0 0)) (.tmp 36) 39 (by rfl) (by rfl) (by rfl) (hrw5.below q1) hnl0 (hzo.mono q1.size) i0 _ 12 Try.underlying39 hi0 hz0 hz1 hz2 rfl (by decide) hones (by unfold maxLen; omega) (by omega) ?_
      intro v1 X p1 p2 p3
      have hB7 : Below W5.heap.size W5 X := q1.trans (p2.mono q1.size)
      have s1 := p1
      have s2 := (p2.block W5.heap.size (Array.getElem?_eq_some_iff.1 q2).1).trans q2
      have s3 : ∀ g, v1.ownBlock = some g → W5.heap.size ≤ g := fun g hg => Nat.le_trans q1.size (p3 g hg)
      refine hK _ _ ⟨hSb _ X (fun i hi => hB7.block i hi), ?_⟩
      clear hK
      try simp only [nA, nB, nC, Act.put, nD, nE, nF]
      refine WA.all (rs := [8]) (by kernel_rfl) (by simp) ?_
      intro i hi
      obtain rfl : i = 8 := by simpa using hi
      refine wpOp_go rfl (by rfl) (fun K hK => ?_)
      refine wp_append_Sl (.tmp 37) (.tmp 39) 39 (by rfl) (by rfl) s1 (hzo.mono hB7.size) i0 _ 12 Try.underlying39 hi0 hz0 hz1 hz2 rfl (by decide) ⟨W5.heap.size, 0, none⟩ 1 1 [.int .u32 x0, .int .u32 x1, .int .u32 x2] (by rfl) rfl (cells_blk s2) (by simp [Value.oneCell']) (by decide) (by unfold maxLen; omega) (by omega) ?_
      intro vr' X3 r1 r2 r3 r4
      obtain ⟨g1, cap1, rfl⟩ := r1.succ (by decide)
      have k3 : ∀ i, i < W5.heap.size → X3.heap[i]? = W5.heap[i]? := fun i hi => (r3.block i (Nat.lt_of_lt_of_le hi hB7.size) (fun e => by have := s3 i e.symm; omega)).trans (hB7.block i hi)
      have c30 := (World.cell?_of_block (w := W5) (a := ⟨rb, 0, none⟩) (k3 rb hlt5)).trans c0
      have f30' := (World.frozen?_of_block (w := W5) (a := ⟨rb, 0, none⟩) (k3 rb hlt5)).trans f30
      have hg1 : W5.heap.size ≤ g1 := by
        rcases r4 with ⟨e, _⟩ | ⟨e, _⟩
        · exact s3 g1 (by rw [← e]; rfl)
        · have e : some g1 = some X.heap.size := e
          injection e with e
          rw [e]; exact hB7.size
      rw [hll] at r1
      refine hK _ _ ⟨hSb _ X3 k3, ?_⟩
      clear hK
      try simp only [nA, nB, nC, Act.put, nD, nE, nF]
      refine WA.tk (i := 9) (v := .pointer (some ⟨rb, 0, none⟩)) rfl (hdrop 9 (by decide)) (Or.inl ⟨by rfl, ?_⟩) (hSb _ X3 k3) ?_
      · rintro w' ⟨L, hL, hSw, hun⟩
        go_simp
      simp only [nA, nB, nC, Act.put, nD, nE, nF]
      refine WA.tk (i := 10) (v := .pointer (some ⟨rb, 0, none⟩)) rfl (hdrop 10 (by decide)) (Or.inl ⟨by rfl, ?_⟩) (hSb _ X3 k3) ?_
      · rintro w' ⟨L, hL, hSw, hun⟩
        go_simp
      simp only [nA, nB, nC, Act.put, nD, nE, nF]
      skip
      refine WA.one (i := 11) (by kernel_rfl) rfl (by rfl) (fun K hK => ?_)
      go_simp
      refine hK _ _ (hSd _ _ (by rfl)) ?_
      clear hK
      try simp only [nA, nB, nC, Act.put, nD, nE, nF]
      refine WA.done (by kernel_rfl) ?_ _
      refine Nrm.normal ?_
      go_step
      go_step
      go_meet
      have hob : X3.heap[rb]? = some (.cells #[vr, vb] 53 (0, 0)) := (k3 rb hlt5).trans HI5.out.obj
      have hr1 : rb ≠ g1 := by omega
      refine ⟨_, ?_, ?_, heap_setCell_at hob 0 _, ?_, ?_⟩
      · rw [hll]
        exact r1.stayB (fun g hg => Below.heap_setCell _ _ _ g (fun e => hr1 (by have hg : some g1 = some g := hg; injection hg with hg; rw [hg, e])))
      · intro g hg j
        have hg : some g1 = some g := hg
        injection hg with hg
        exact hZ g j (by have := Hz5.out; omega)
      · exact HI5.out.bits.stayB (fun g hg => by
          obtain ⟨hlt, c, z, hc⟩ := HI5.out.bits.lt g hg
          refine (Below.heap_setCell _ _ _ g (fun e => ?_)).trans (k3 g hlt)
          have e : g = rb := e
          rw [e, HI5.out.obj] at hc; injection hc with hc; injection hc with _ hc; revert hc; decide)
      · exact ((((Fr.of_below HB5.out).trans (.of_below hB7)).trans r2)).setCell (a := ⟨rb, 0, none⟩) (HI5.out.own 0)
  case rest =>
    obtain ⟨vr', k1, k1w, kob, kb, kF⟩ := hcut
    have hlt5 := (Array.getElem?_eq_some_iff.1 kob).1
    have kc1 : wc.cell? ⟨rb, 1, none⟩ = some vb := by unfold World.cell?; rw [kob]; rfl
    have kc0 : wc.cell? ⟨rb, 0, none⟩ = some vr' := by unfold World.cell?; rw [kob]; rfl
    have kf1 : wc.frozen? ⟨rb, 1, none⟩ = false := by unfold World.frozen?; rw [kob]; simp
    have hzo : Z.opn wc.heap.size := hZ.mono kF.size
    have hnl0 : T.length = 0 → vb = .slice none 0 0 := fun e => (HI.out.nil0 (List.eq_nil_of_length_eq_zero e)).2
    have hones : ∀ u ∈ bcs T, u.oneCell' = true := by
      intro u hu
      simp only [bcs, List.mem_map] at hu
      obtain ⟨y, _, rfl⟩ := hu; rfl
    have hll := Hl.out
    have hvl := k1.len (P := Try.prog) Try.underlying39 3
    rw [Hl.out] at hvl
    have K1 := Lib.hid k1; have K1w := Lib.hid k1w; have KF := Lib.hid kF; have Kob := Lib.hid kob; have Kb := Lib.hid kb
    clear k1 k1w kF kob kb b0 b1 b2 c0 c1 f3 hll
    go_step
    go_cut [8] from 43 to 58 (fun v8 wx => v8 = .int .i64 l ∧ ∃ vr2 vb2, IsR Z wx rb (T ++ [((x0, x1, x2), 0)]) vr2 vb2 ∧ Fr Z w wx)
    case first =>
      go_wp2_with (first | (at_builtin; refine wpList_plain rfl fun _ hK => ?_; refine wp_copy_Sl (.const (.slice none 0 0)) (.tmp 47) 48 (by rfl) (by rfl) (by rfl) Kb.out hnl0 hzo i1 _ 1 Try.underlying48 hi1 hw0 hw1 hw2 rfl (by decide) hones (by have := Hl.out; unfold maxLen; omega) (by have := Hl.out; omega) ?_; intro v1 X1 p1 p2 p3; refine hK _ _ ?_; clear hK; have P1 := Lib.hid p1; have P2 := Lib.hid p2; have P3 := Lib.hid p3; clear p1 p2 p3 hnl0) | (at_builtin; refine wpList_plain rfl fun _ hK => ?_; refine wp_append_Sl (.tmp 48) (.tmp 49) 48 (by rfl) (by rfl) (P1.out.below ((Below.refl _ _).alloc (Nat.le_refl _) _)) (hzo.mono (by have := P2.out.size; simp; omega)) i1 _ 1 Try.underlying48 hi1 hw0 hw1 hw2 rfl (by decide) ⟨X1.heap.size, 0, none⟩ 1 1 [.int .u8 0] (by rfl) rfl (cells_blk (World.alloc_heap_new _ _)) (by simp [Value.oneCell']) (by decide) (by have := Hl.out; unfold maxLen; omega) (by have := Hl.out; omega) ?_; intro vb' X3 r1 r2 r3 r4; obtain ⟨g1, cap1, rfl⟩ := r1.succ (by decide); refine hK _ _ ?_; clear hK; have hA : Below X1.heap.size X1 (X1.alloc (.cells #[.int .u8 0] 56)) := (Below.refl _ _).alloc (Nat.le_refl _) _; have hB7 : Below wc.heap.size wc (X1.alloc (.cells #[.int .u8 0] 56)) := P2.out.trans (hA.mono P2.out.size); have k3 : ∀ i, i < wc.heap.size → X3.heap[i]? = wc.heap[i]? := fun i hi => (r3.block i (Nat.lt_of_lt_of_le hi hB7.size) (fun e => by have := P3.out i e.symm; omega)).trans (hB7.block i hi); have hg1 : wc.heap.size ≤ g1 := r4.elim (fun h => P3.out g1 (by rw [← h.1]; rfl)) (fun h => by have e : some g1 = some (X1.alloc (.cells #[.int .u8 0] 56)).heap.size := h.1; injection e with e; rw [e]; exact hB7.size); have c31 := (World.cell?_of_block (w := wc) (a := ⟨rb, 1, none⟩) (k3 rb hlt5)).trans kc1; have f31 := (World.frozen?_of_block (w := wc) (a := ⟨rb, 1, none⟩) (k3 rb hlt5)).trans kf1; have c30 := (World.cell?_of_block (w := wc) (a := ⟨rb, 0, none⟩) (k3 rb hlt5)).trans kc0; have K3 := Lib.hid k3; have Hg1 := Lib.hid hg1; have R1 := Lib.hid r1; have RF := Lib.hid (((KF.out).trans (.of_below hB7)).trans r2); clear k3 hg1 r1 r2 r3 r4 hA hB7 kc1 kc0 kf1))
      go_meet
      have hl := Hl.out
      have hr1 : rb ≠ g1 := by have := Hg1.out; omega
      have hob := heap_setCell_at ((K3.out rb hlt5).trans Kob.out) 1 (.slice (some ⟨g1, 0, none⟩) (T.length + 1) cap1)
      refine ⟨rfl, vr', _, HI.out.came ((x0, x1, x2), 0) Hyok.out (by omega) ?_ K1w.out ?_ ?_ hob, RF.out.setCell (a := ⟨rb, 1, none⟩) (HI.out.own 1)⟩
      · exact K1.out.stayB (fun g hg => by
          obtain ⟨hlt, c, z, hc⟩ := K1.out.lt g hg
          refine (Below.heap_setCell _ _ _ g (fun e => ?_)).trans (K3.out g hlt)
          have e : g = rb := e
          rw [e, Kob.out] at hc; injection hc with hc; injection hc with _ hc; revert hc; decide)
      · exact R1.out.stayB (fun g hg => Below.heap_setCell _ _ _ g (fun e => hr1 (by have hg : some g1 = some g := hg; injection hg with hg; rw [hg, e])))
      · intro g hg j
        have hg : some g1 = some g := hg
        injection hg with hg
        exact hZ g j (by have := Hg1.out; have := KF.out.size; omega)
    case rest =>
      obtain ⟨rfl, vr2, vb2, q1, q2⟩ := hcut
      obtain ⟨T', hT'⟩ : ∃ T', T ++ [((x0, x1, x2), (0 : Int))] = T' := ⟨_, rfl⟩
      have hl' : T'.length = l + 1 := by rw [← hT', List.length_append, Hl.out]; rfl
      have hnl : l < T'.length := by omega
      have hv0 : T'[l] = ((x0, x1, x2), 0) := by
        have hl := Hl.out
        subst hT'; subst hl; simp
      have q1 : IsR Z wc rb T' vr2 vb2 := by rw [← hT']; exact q1
      obtain ⟨gb, capb, hvb, _, b3, f3, hWb⟩ := q1.bit l hnl
      obtain ⟨_, c1, _⟩ := q1.cells
      rw [hv0] at b3
      obtain ⟨l1, hl1⟩ : ∃ l1, l1 = l + 1 := ⟨_, rfl⟩
      rw [hvb, hl', ← hl1] at c1
      have hnl' : l < l1 := by omega
      have hlong : l1 ≤ 1000001 := by omega
      have HI2 := Lib.hid q1; have HF2 := Lib.hid q2; have Hvb := Lib.hid hvb; have HWb := Lib.hid hWb; have Hnl := Lib.hid hnl; have HT' := Lib.hid hT'
      clear q1 q2 hvb hWb hl' hl1 hT' hv0 hvl kc0 kc1 kf1 hlt5 hnl0 hones
      go_wp2_with fail
      have c1 : wc.drew.cell? ⟨rb, 1, none⟩ = _ := c1
      have b3 : wc.drew.cell? ⟨gb, l, none⟩ = _ := b3
      have f3 : wc.drew.frozen? ⟨gb, l, none⟩ = _ := f3
      obtain ⟨S9, hSe⟩ : ∃ S : Array Bool → World → Prop, S = fun L w' => L.getD 15 true = false → w' = wc.drew := ⟨_, rfl⟩
      have hdrop : ∀ i, i ≠ 15 → ∀ L w', S9 (L.setIfInBounds i true) w' → S9 L w' := by
        intro i hi L w'
        rw [hSe]
        intro h hl
        exact h (by rw [getD_set_ne true hi]; exact hl)
      have hS : ∀ L, S9 L wc.drew := by intro L; rw [hSe]; exact fun _ => rfl
      have hSo : ∀ {L w'}, S9 L w' → L.getD 15 true = false → w' = wc.drew := by intro L w' h hl; rw [hSe] at h; exact h hl
      have hSd : ∀ (L : Array Bool) X, L.getD 15 true = true → S9 L X := by
        intro L X h; rw [hSe]; intro h1; rw [h] at h1; cases h1
      clear hSe
      refine wp_region_LN S9 16 #[false, false, false, false, false, false, false, false, false, false, false, false, false, false, false, false] (by kernel_rfl) (by kernel_rfl) rfl ?_
      refine WA.tk (i := 0) (v := .pointer (some ⟨rb, 0, none⟩)) rfl (hdrop 0 (by decide)) (Or.inl ⟨by rfl, ?_⟩) (hS _) ?_
      · rintro w' ⟨L, hL, hSw, hun⟩
        go_simp
      simp only [nA, nB, nC, Act.put, nD, nE, nF]
      refine WA.tk (i := 1) (v := .pointer (some ⟨rb, 0, none⟩)) rfl (hdrop 1 (by decide)) (Or.inl ⟨by rfl, ?_⟩) (hS _) ?_
      · rintro w' ⟨L, hL, hSw, hun⟩
        go_simp
      simp only [nA, nB, nC, Act.put, nD, nE, nF]
      refine WA.tk (i := 2) (v := .pointer (some ⟨rb, 1, none⟩)) rfl (hdrop 2 (by decide)) (Or.inl ⟨by rfl, ?_⟩) (hS _) ?_
      · rintro w' ⟨L, hL, hSw, hun⟩
        go_simp
      simp only [nA, nB, nC, Act.put, nD, nE, nF]
      refine WA.tk (i := 3) (v := .slice (some ⟨gb, 0, none⟩) l1 capb) rfl (hdrop 3 (by decide)) (Or.inl ⟨by rfl, ?_⟩) (hS _) ?_
      · rintro w' ⟨L, hL, hSw, hun⟩
        obtain rfl := hSo hSw (hL.wait 15 14 (by kernel_rfl) (hL.wait 14 3 (by kernel_rfl) hun))
        go_simp
      simp only [nA, nB, nC, Act.put, nD, nE, nF]
      refine WA.tk (i := 4) (v := .int .i64 (l : Int)) rfl (hdrop 4 (by decide)) (Or.inl ⟨by rfl, ?_⟩) (hS _) ?_
      · rintro w' ⟨L, hL, hSw, hun⟩
        go_simp
      simp only [nA, nB, nC, Act.put, nD, nE, nF]
      refine WA.tk (i := 5) (v := .pointer (some ⟨rb, 0, none⟩)) rfl (hdrop 5 (by decide)) (Or.inl ⟨by rfl, ?_⟩) (hS _) ?_
      · rintro w' ⟨L, hL, hSw, hun⟩
        go_simp
      simp only [nA, nB, nC, Act.put, nD, nE, nF]
      refine WA.tk (i := 6) (v := .pointer (some ⟨rb, 0, none⟩)) rfl (hdrop 6 (by decide)) (Or.inl ⟨by rfl, ?_⟩) (hS _) ?_
      · rintro w' ⟨L, hL, hSw, hun⟩
        go_simp
      simp only [nA, nB, nC, Act.put, nD, nE, nF]
      refine WA.tk (i := 7) (v := .pointer (some ⟨rb, 1, none⟩)) rfl (hdrop 7 (by decide)) (Or.inl ⟨by rfl, ?_⟩) (hS _) ?_
      · rintro w' ⟨L, hL, hSw, hun⟩
        go_simp
      simp only [nA, nB, nC, Act.put, nD, nE, nF]
      refine WA.tk (i := 8) (v := .slice (some ⟨gb, 0, none⟩) l1 capb) rfl (hdrop 8 (by decide)) (Or.inl ⟨by rfl, ?_⟩) (hS _) ?_
      · rintro w' ⟨L, hL, hSw, hun⟩
        obtain rfl := hSo hSw (hL.wait 15 13 (by kernel_rfl) (hL.wait 13 11 (by kernel_rfl) (hL.wait 11 10 (by kernel_rfl) (hL.wait 10 8 (by kernel_rfl) hun))))
        go_simp
      simp only [nA, nB, nC, Act.put, nD, nE, nF]
      refine WA.tk (i := 9) (v := .int .i64 (l : Int)) rfl (hdrop 9 (by decide)) (Or.inl ⟨by rfl, ?_⟩) (hS _) ?_
      · rintro w' ⟨L, hL, hSw, hun⟩
        go_simp
      simp only [nA, nB, nC, Act.put, nD, nE, nF]
      refine WA.tk (i := 10) (v := .pointer (some ⟨gb, l, none⟩)) rfl (hdrop 10 (by decide)) (Or.inl ⟨by rfl, ?_⟩) (hS _) ?_
      · rintro w' ⟨L, hL, hSw, hun⟩
        go_simp
      simp only [nA, nB, nC, Act.put, nD, nE, nF]
      refine WA.tk (i := 11) (v := .int .u8 0) rfl (hdrop 11 (by decide)) (Or.inl ⟨by rfl, ?_⟩) (hS _) ?_
      · rintro w' ⟨L, hL, hSw, hun⟩
        obtain rfl := hSo hSw (hL.wait 15 13 (by kernel_rfl) (hL.wait 13 11 (by kernel_rfl) hun))
        go_simp
      simp only [nA, nB, nC, Act.put, nD, nE, nF]
      refine WA.tk (i := 12) (v := .int .u8 b) rfl (hdrop 12 (by decide)) (Or.inl ⟨by rfl, ?_⟩) (hS _) ?_
      · rintro w' ⟨L, hL, hSw, hun⟩
        go_simp
      simp only [nA, nB, nC, Act.put, nD, nE, nF]
      refine WA.tk (i := 13) (v := .int .u8 (bits .or .u8 0 b)) rfl (hdrop 13 (by decide)) (Or.inl ⟨by rfl, ?_⟩) (hS _) ?_
      · rintro w' ⟨L, hL, hSw, hun⟩
        go_simp
      simp only [nA, nB, nC, Act.put, nD, nE, nF]
      refine WA.tk (i := 14) (v := .pointer (some ⟨gb, l, none⟩)) rfl (hdrop 14 (by decide)) (Or.inl ⟨by rfl, ?_⟩) (hS _) ?_
      · rintro w' ⟨L, hL, hSw, hun⟩
        go_simp
      simp only [nA, nB, nC, Act.put, nD, nE, nF]
      refine WA.one (i := 15) (by kernel_rfl) rfl (by rfl) (fun K hK => ?_)
      go_simp
      refine hK _ _ (hSd _ _ (by rfl)) ?_
      clear hK
      try simp only [nA, nB, nC, Act.put, nD, nE, nF]
      refine WA.done (by kernel_rfl) ?_ _
      refine Nrm.normal ?_
      go_wp2_with fail
      go_ret2
      have hi := (HI2.out.below (Below.refl _ wc).drew).setBit l Hnl.out Hvb.out (bits .or .u8 0 b) (is8_or _ _)
      rw [HT'.out]
      exact ⟨rfl, ⟨_, _, hi⟩, ((HF2.out).drew).setCell (a := ⟨gb, l, none⟩) HWb.out⟩
end
end Go.Proofs.Ytghihhjcoilmgaa.T

namespace Go.Proofs.Ytghihhjcoilmgaa.T
set_option maxRecDepth 100000
open Go.RowKit Go.Maps
set_option linter.unusedVariables false
set_option linter.unusedSimpArgs false

section
variable {Z : Zone} {w w' : World} {rb : Nat} {T : TS} {vr vb : Value}
theorem radd_any (h : IsR Z w rb T vr vb) (hZ : Z.opn w.heap.size) (r : R3) (hr : rok r) (b : Int) (hlen : T.length + 1 ≤ 1000000) :
    Calls Try.prog 19 #[.pointer (some ⟨rb, 0, none⟩), rv r, .int .u8 b] w fun e w' => e = .returned (.tuple #[.int .i64 (addN T r b), .bool (addB T r b)]) ∧
      (∃ vr' vb', IsR Z w' rb (addT T r b) vr' vb') ∧ Fr Z w w' := by
  by_cases hc : b = 0 ∨ has0 r = true
  · refine (radd_no r b hc w rb).mono ?_
    rintro e w' ⟨rfl, hB⟩
    simp only [addN, addB, addT, if_pos hc]
    exact ⟨trivial, ⟨vr, vb, h.below hB⟩, .of_below hB⟩
  · cases hi : idx T r with
    | some n =>
      refine (radd_old h r b hc n hi).mono ?_
      rintro e w' ⟨rfl, h1, h2⟩
      simp only [addN, addB, addT, if_neg hc, hi]
      exact ⟨trivial, ⟨vr, vb, h1⟩, h2⟩
    | none =>
      refine (radd_new h hZ r hr b hc hi hlen).mono ?_
      rintro e w' ⟨rfl, h1, h2⟩
      simp only [addN, addB, addT, if_neg hc, hi]
      exact ⟨trivial, h1, h2⟩

end
end Go.Proofs.Ytghihhjcoilmgaa.T
