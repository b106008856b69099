/- The reference's Add, whatever the row; its Distinct. -/
import Derived.Test.YtellmhllgmimiaaR4
namespace Go.Proofs.Ytellmhllgmimiaa
open Go.RowKit Go.Maps
set_option linter.unusedVariables false
set_option linter.unusedSimpArgs false

section
variable {Z : Zone} {w w' : World} {rb : Nat} {T : TS} {vr vb : Value}
theorem radd_any (h : IsR Z w rb T vr vb) (hZ : Z.opn w.heap.size) (r : R3) (hr : rok r) (b : Int) (hlen : T.length + 1 ≤ 1000000) :
    Calls Try.prog 28 #[.pointer (some ⟨rb, 0, none⟩), rv r, .int .u8 b] w fun e w' => e = .returned (.tuple #[.int .i64 (addN T r b), .bool (addB T r b)]) ∧
      (∃ vr' vb', IsR Z w' rb (addT T r b) vr' vb') ∧ Fr Z w w' := by
  by_cases hc : b = 0 ∨ has0 r = true
  · refine (radd_no r b hc w rb).mono ?_
    rintro e w' ⟨rfl, hB⟩
    simp only [addN, addB, addT, if_pos hc]
    exact ⟨trivial, ⟨vr, vb, h.below hB⟩, .of_below hB⟩
  · cases hi : idx T r with
    | some n =>
      refine (radd_old h r b hc n hi).mono ?_
      rintro e w' ⟨rfl, h1, h2⟩
      simp only [addN, addB, addT, if_neg hc, hi]
      exact ⟨trivial, ⟨vr, vb, h1⟩, h2⟩
    | none =>
      refine (radd_new h hZ r hr b hc hi hlen).mono ?_
      rintro e w' ⟨rfl, h1, h2⟩
      simp only [addN, addB, addT, if_neg hc, hi]
      exact ⟨trivial, h1, h2⟩

/-- the number at row i's place does not stand in row k -/
def okD (T : TS) (p i k : Nat) : Bool := bitsOf T k == 0 || R3.at (rowOf T k) p != R3.at (rowOf T i) p
def firstD (T : TS) (p i : Nat) : Bool := bitsOf T i != 0 && (List.range i).all (okD T p i)
def distR (T : TS) (p : Nat) : Nat := ((List.range T.length).filter (firstD T p)).length
theorem IsR.at (h : IsR Z w rb T vr vb) (n : Nat) (hn : n < T.length) (p : Nat) (hp : p < 3) : ∃ g cap, vr = .slice (some ⟨g, 0, none⟩) T.length cap ∧
    w.cell? ⟨g, n * 3 + p, none⟩ = some (.int .u32 (R3.at (rowOf T n) p)) := by
  obtain ⟨g, cap, hv, _, h0, h1, h2⟩ := h.row n hn
  refine ⟨g, cap, hv, ?_⟩
  rw [rowOf_get T n hn]
  have : p = 0 ∨ p = 1 ∨ p = 2 := by omega
  rcases this with rfl | rfl | rfl
  · exact h0
  · exact h1
  · exact h2
set_option maxRecDepth 100000 in
set_option maxHeartbeats 1000000 in
theorem rdist_no (rb : Nat) (w : World) (p : Int) (hp : p < 0 ∨ 2 < p) : Calls Try.prog 35 #[.pointer (some ⟨rb, 0, none⟩), .int .i64 p] w fun e w' => e = .returned (.int .i64 0) ∧ w = w' := by
  go_enter Try.func35, Try.ntmps35
  by_cases h0 : p < 0
  · have hd : decide (p < 0) = true := by simpa using h0
    clear hp
    go_wp2
    go_ret
    exact ⟨rfl, rfl⟩
  · have hd : decide (p < 0) = false := by simpa using h0
    have hd2 : decide (p > 2) = true := by simp; omega
    clear hp
    go_wp2
    go_ret
    exact ⟨rfl, rfl⟩

set_option maxRecDepth 100000 in
set_option maxHeartbeats 4000000 in
theorem rdist_any (h : IsR Z w rb T vr vb) (p : Nat) (hp : p < 3) : Calls Try.prog 35 #[.pointer (some ⟨rb, 0, none⟩), .int .i64 p] w fun e w' => e = .returned (.int .i64 (distR T p)) ∧ Below w.heap.size w w' := by
  have hh := Lib.hid h
  have hlong := h.long
  clear h
  obtain ⟨l, hl⟩ : ∃ l, T.length = l := ⟨_, rfl⟩
  rw [hl] at hlong
  have hd1 : decide ((p : Int) < 0) = false := by simp
  have hd2 : decide ((p : Int) > 2) = false := by simp; omega
  unfold distR
  rw [hl]
  have Hl := Lib.hid hl
  clear hl
  go_enter Try.func35, Try.ntmps35
  go_wp2_with fail
  go_loopw [5, 6] (fun u v wr => ∃ i : Nat, i ≤ l ∧ u = .int .i64 (((List.range i).filter (firstD T p)).length : Nat) ∧ v = .int .i64 i ∧ Below w.heap.size w wr) (fun _ v _ => l - (intOf v).toNat)
  case atStart => exact ⟨0, by omega, rfl, rfl, Below.refl _ _⟩
  case round =>
    obtain ⟨i, hi, rfl, rfl, hBr⟩ := hrel
    obtain ⟨Wo, hWo⟩ : ∃ Wo, wr = Wo := ⟨_, rfl⟩
    rw [hWo] at hBr ⊢
    clear hWo
    obtain ⟨c, hc⟩ : ∃ c, ((List.range i).filter (firstD T p)).length = c := ⟨_, rfl⟩
    have hci : c ≤ i := by rw [← hc]; exact Nat.le_trans (List.length_filter_le _ _) (by simp)
    rw [hc]
    have hI := hh.out.below hBr
    obtain ⟨c0, c1, _⟩ := hI.cells
    have hvl := hI.rows.len (P := Try.prog) Try.underlying22 3
    rw [Hl.out] at hvl
    have HBr := Lib.hid hBr
    clear hBr
    by_cases hlt : i < l
    · have hd : decide ((i : Int) < (l : Int)) = true := by simpa using hlt
      have hil : i < T.length := by rw [Hl.out]; exact hlt
      obtain ⟨gb, capb, hvb, _, b3, _, _⟩ := hI.bit i hil
      have hbt : bitsOf T i = T[i].2 := by simp [bitsOf, hil]
      rw [← hbt] at b3
      rw [hvb, Hl.out] at c1
      obtain ⟨v3, hv3⟩ : ∃ v, bitsOf T i = v := ⟨_, rfl⟩
      rw [hv3] at b3
      have HI := Lib.hid hI; have Hil := Lib.hid hil; have Hv3 := Lib.hid hv3; have Hvb := Lib.hid hvb; have Hc := Lib.hid hc
      clear hI hil hbt hv3 hvb hc
      go_wp2_with fail
      go_loopw [7, 8] (fun u v w2 => ∃ k : Nat, k ≤ i ∧ u = .bool (v3 != 0 && (List.range k).all (okD T p i)) ∧ v = .int .i64 k ∧ Below Wo.heap.size Wo w2) (fun _ v _ => i - (intOf v).toNat)
      case atStart => exact ⟨0, by omega, by simp, rfl, Below.refl _ _⟩
      case round =>
        -- INNER
        obtain ⟨k, hk, rfl, rfl, hBw⟩ := hrel
        have hIk := HI.out.below hBw
        obtain ⟨c0', c1', _⟩ := hIk.cells
        have HBw := Lib.hid hBw
        by_cases hki : k < i
        · have hd3 : decide ((k : Int) < (i : Int)) = true := by simpa using hki
          have hkl : k < T.length := by have := Hil.out; omega
          obtain ⟨gb', capb', hvb', _, d3, _, _⟩ := hIk.bit k hkl
          have hbb := hvb'
          rw [Hvb.out] at hbb
          simp only [Value.slice.injEq, Option.some.injEq, Addr.mk.injEq, and_true, true_and] at hbb
          obtain ⟨rfl, rfl⟩ := hbb
          have hbt : bitsOf T k = T[k].2 := by simp [bitsOf, hkl]
          rw [← hbt] at d3
          obtain ⟨gr, capr, hvr, e1⟩ := hIk.at k hkl p hp
          obtain ⟨gr', capr', hvr', e2⟩ := hIk.at i Hil.out p hp
          have hbb := hvr'
          rw [hvr] at hbb
          simp only [Value.slice.injEq, Option.some.injEq, Addr.mk.injEq, and_true, true_and] at hbb
          obtain ⟨rfl, rfl⟩ := hbb
          obtain ⟨v4, hv4⟩ : ∃ v, bitsOf T k = v := ⟨_, rfl⟩
          obtain ⟨a1, ha1⟩ : ∃ v, R3.at (rowOf T k) p = v := ⟨_, rfl⟩
          obtain ⟨a2, ha2⟩ : ∃ v, R3.at (rowOf T i) p = v := ⟨_, rfl⟩
          rw [hv4] at d3
          rw [ha1] at e1
          rw [ha2] at e2
          rw [hvr, Hl.out] at c0'
          rw [Hvb.out, Hl.out] at c1'
          have Hv4 := Lib.hid hv4; have Ha1 := Lib.hid ha1; have Ha2 := Lib.hid ha2
          have hkl2 : k < l := by have := Hl.out; omega
          clear hIk hvb' hbt hvr hvr' hv4 ha1 ha2 hkl hBw c0 c1 b3 hvl
          cases hf : (v3 != 0 && (List.range k).all (okD T p i))
          · have Hf := Lib.hid hf; clear hf
            go_wp2_with fail
            have HBd := Lib.hid (HBw.out.drew)
            have c0' : wr.drew.cell? ⟨rb, 0, none⟩ = _ := c0'
            have c1' : wr.drew.cell? ⟨rb, 1, none⟩ = _ := c1'
            have d3 : wr.drew.cell? ⟨gb, k, none⟩ = _ := d3
            have e1 : wr.drew.cell? ⟨gr, k * 3 + p, none⟩ = _ := e1
            have e2 : wr.drew.cell? ⟨gr, i * 3 + p, none⟩ = _ := e2
            obtain ⟨S11, hSe⟩ : ∃ S : Array Bool → World → Prop, S = fun _ w' => w' = wr.drew := ⟨_, rfl⟩
            have hdrop : ∀ i : Nat, i ≠ 1000 → ∀ L w', S11 (L.setIfInBounds i true) w' → S11 L w' := by
              intro i _ L w' h; rw [hSe] at h ⊢; exact h
            have hS : ∀ L, S11 L wr.drew := by intro L; rw [hSe]
            have hSo : ∀ {L w'}, S11 L w' → w' = wr.drew := by intro L w' h; rw [hSe] at h; exact h
            clear hSe
            refine wp_region_LN S11 33 #[false, false, false, false, false, false, false, false, false, false, false, false, false, false, false, false, false, false, false, false, false, false, false, false, false, false, false, false, false, false, false, false, false] (by kernel_rfl) (by kernel_rfl) rfl ?_
            generalize wr.drew = W9 at *
            refine WA.take (i := 0) (v := .bool false) rfl (by kernel_rfl) (by kernel_rfl) (by kernel_rfl) (fun _ _ _ h => h) (hdrop 0 (by decide)) (Or.inl ⟨by rfl, ?_⟩) (hS _) ?_
            · rintro w' ⟨L, hL, hSw, hun⟩
              go_simp
            simp only [List.getElem_toArray, List.getElem_cons_zero, List.getElem_cons_succ, Act.put, List.setIfInBounds_toArray, List.set_cons_zero, List.set_cons_succ]
            refine WA.take (i := 1) (v := .bool false) rfl (by kernel_rfl) (by kernel_rfl) (by kernel_rfl) (fun _ _ _ h => h) (hdrop 1 (by decide)) (Or.inl ⟨by rfl, ?_⟩) (hS _) ?_
            · rintro w' ⟨L, hL, hSw, hun⟩
              go_simp
            simp only [List.getElem_toArray, List.getElem_cons_zero, List.getElem_cons_succ, Act.put, List.setIfInBounds_toArray, List.set_cons_zero, List.set_cons_succ]
            refine WA.take (i := 2) (v := undef) rfl (by kernel_rfl) (by kernel_rfl) (by kernel_rfl) (fun _ _ _ h => h) (hdrop 2 (by decide)) (Or.inr ⟨by rfl, rfl⟩) (hS _) ?_
            simp only [List.getElem_toArray, List.getElem_cons_zero, List.getElem_cons_succ, Act.put, List.setIfInBounds_toArray, List.set_cons_zero, List.set_cons_succ]
            refine WA.take (i := 3) (v := undef) rfl (by kernel_rfl) (by kernel_rfl) (by kernel_rfl) (fun _ _ _ h => h) (hdrop 3 (by decide)) (Or.inr ⟨by rfl, rfl⟩) (hS _) ?_
            simp only [List.getElem_toArray, List.getElem_cons_zero, List.getElem_cons_succ, Act.put, List.setIfInBounds_toArray, List.set_cons_zero, List.set_cons_succ]
            refine WA.take (i := 4) (v := undef) rfl (by kernel_rfl) (by kernel_rfl) (by kernel_rfl) (fun _ _ _ h => h) (hdrop 4 (by decide)) (Or.inr ⟨by rfl, rfl⟩) (hS _) ?_
            simp only [List.getElem_toArray, List.getElem_cons_zero, List.getElem_cons_succ, Act.put, List.setIfInBounds_toArray, List.set_cons_zero, List.set_cons_succ]
            refine WA.take (i := 5) (v := undef) rfl (by kernel_rfl) (by kernel_rfl) (by kernel_rfl) (fun _ _ _ h => h) (hdrop 5 (by decide)) (Or.inr ⟨by rfl, rfl⟩) (hS _) ?_
            simp only [List.getElem_toArray, List.getElem_cons_zero, List.getElem_cons_succ, Act.put, List.setIfInBounds_toArray, List.set_cons_zero, List.set_cons_succ]
            refine WA.take (i := 6) (v := undef) rfl (by kernel_rfl) (by kernel_rfl) (by kernel_rfl) (fun _ _ _ h => h) (hdrop 6 (by decide)) (Or.inr ⟨by rfl, rfl⟩) (hS _) ?_
            simp only [List.getElem_toArray, List.getElem_cons_zero, List.getElem_cons_succ, Act.put, List.setIfInBounds_toArray, List.set_cons_zero, List.set_cons_succ]
            refine WA.take (i := 7) (v := undef) rfl (by kernel_rfl) (by kernel_rfl) (by kernel_rfl) (fun _ _ _ h => h) (hdrop 7 (by decide)) (Or.inr ⟨by rfl, rfl⟩) (hS _) ?_
            simp only [List.getElem_toArray, List.getElem_cons_zero, List.getElem_cons_succ, Act.put, List.setIfInBounds_toArray, List.set_cons_zero, List.set_cons_succ]
            refine WA.take (i := 8) (v := undef) rfl (by kernel_rfl) (by kernel_rfl) (by kernel_rfl) (fun _ _ _ h => h) (hdrop 8 (by decide)) (Or.inr ⟨by rfl, rfl⟩) (hS _) ?_
            simp only [List.getElem_toArray, List.getElem_cons_zero, List.getElem_cons_succ, Act.put, List.setIfInBounds_toArray, List.set_cons_zero, List.set_cons_succ]
            refine WA.take (i := 9) (v := undef) rfl (by kernel_rfl) (by kernel_rfl) (by kernel_rfl) (fun _ _ _ h => h) (hdrop 9 (by decide)) (Or.inr ⟨by rfl, rfl⟩) (hS _) ?_
            simp only [List.getElem_toArray, List.getElem_cons_zero, List.getElem_cons_succ, Act.put, List.setIfInBounds_toArray, List.set_cons_zero, List.set_cons_succ]
            refine WA.take (i := 10) (v := undef) rfl (by kernel_rfl) (by kernel_rfl) (by kernel_rfl) (fun _ _ _ h => h) (hdrop 10 (by decide)) (Or.inr ⟨by rfl, rfl⟩) (hS _) ?_
            simp only [List.getElem_toArray, List.getElem_cons_zero, List.getElem_cons_succ, Act.put, List.setIfInBounds_toArray, List.set_cons_zero, List.set_cons_succ]
            refine WA.take (i := 11) (v := undef) rfl (by kernel_rfl) (by kernel_rfl) (by kernel_rfl) (fun _ _ _ h => h) (hdrop 11 (by decide)) (Or.inr ⟨by rfl, rfl⟩) (hS _) ?_
            simp only [List.getElem_toArray, List.getElem_cons_zero, List.getElem_cons_succ, Act.put, List.setIfInBounds_toArray, List.set_cons_zero, List.set_cons_succ]
            refine WA.take (i := 12) (v := undef) rfl (by kernel_rfl) (by kernel_rfl) (by kernel_rfl) (fun _ _ _ h => h) (hdrop 12 (by decide)) (Or.inr ⟨by rfl, rfl⟩) (hS _) ?_
            simp only [List.getElem_toArray, List.getElem_cons_zero, List.getElem_cons_succ, Act.put, List.setIfInBounds_toArray, List.set_cons_zero, List.set_cons_succ]
            refine WA.take (i := 13) (v := undef) rfl (by kernel_rfl) (by kernel_rfl) (by kernel_rfl) (fun _ _ _ h => h) (hdrop 13 (by decide)) (Or.inr ⟨by rfl, rfl⟩) (hS _) ?_
            simp only [List.getElem_toArray, List.getElem_cons_zero, List.getElem_cons_succ, Act.put, List.setIfInBounds_toArray, List.set_cons_zero, List.set_cons_succ]
            refine WA.take (i := 14) (v := undef) rfl (by kernel_rfl) (by kernel_rfl) (by kernel_rfl) (fun _ _ _ h => h) (hdrop 14 (by decide)) (Or.inr ⟨by rfl, rfl⟩) (hS _) ?_
            simp only [List.getElem_toArray, List.getElem_cons_zero, List.getElem_cons_succ, Act.put, List.setIfInBounds_toArray, List.set_cons_zero, List.set_cons_succ]
            refine WA.take (i := 15) (v := undef) rfl (by kernel_rfl) (by kernel_rfl) (by kernel_rfl) (fun _ _ _ h => h) (hdrop 15 (by decide)) (Or.inr ⟨by rfl, rfl⟩) (hS _) ?_
            simp only [List.getElem_toArray, List.getElem_cons_zero, List.getElem_cons_succ, Act.put, List.setIfInBounds_toArray, List.set_cons_zero, List.set_cons_succ]
            refine WA.take (i := 16) (v := undef) rfl (by kernel_rfl) (by kernel_rfl) (by kernel_rfl) (fun _ _ _ h => h) (hdrop 16 (by decide)) (Or.inr ⟨by rfl, rfl⟩) (hS _) ?_
            simp only [List.getElem_toArray, List.getElem_cons_zero, List.getElem_cons_succ, Act.put, List.setIfInBounds_toArray, List.set_cons_zero, List.set_cons_succ]
            refine WA.take (i := 17) (v := undef) rfl (by kernel_rfl) (by kernel_rfl) (by kernel_rfl) (fun _ _ _ h => h) (hdrop 17 (by decide)) (Or.inr ⟨by rfl, rfl⟩) (hS _) ?_
            simp only [List.getElem_toArray, List.getElem_cons_zero, List.getElem_cons_succ, Act.put, List.setIfInBounds_toArray, List.set_cons_zero, List.set_cons_succ]
            refine WA.take (i := 18) (v := undef) rfl (by kernel_rfl) (by kernel_rfl) (by kernel_rfl) (fun _ _ _ h => h) (hdrop 18 (by decide)) (Or.inr ⟨by rfl, rfl⟩) (hS _) ?_
            simp only [List.getElem_toArray, List.getElem_cons_zero, List.getElem_cons_succ, Act.put, List.setIfInBounds_toArray, List.set_cons_zero, List.set_cons_succ]
            refine WA.take (i := 19) (v := undef) rfl (by kernel_rfl) (by kernel_rfl) (by kernel_rfl) (fun _ _ _ h => h) (hdrop 19 (by decide)) (Or.inr ⟨by rfl, rfl⟩) (hS _) ?_
            simp only [List.getElem_toArray, List.getElem_cons_zero, List.getElem_cons_succ, Act.put, List.setIfInBounds_toArray, List.set_cons_zero, List.set_cons_succ]
            refine WA.take (i := 20) (v := undef) rfl (by kernel_rfl) (by kernel_rfl) (by kernel_rfl) (fun _ _ _ h => h) (hdrop 20 (by decide)) (Or.inr ⟨by rfl, rfl⟩) (hS _) ?_
            simp only [List.getElem_toArray, List.getElem_cons_zero, List.getElem_cons_succ, Act.put, List.setIfInBounds_toArray, List.set_cons_zero, List.set_cons_succ]
            refine WA.take (i := 21) (v := undef) rfl (by kernel_rfl) (by kernel_rfl) (by kernel_rfl) (fun _ _ _ h => h) (hdrop 21 (by decide)) (Or.inr ⟨by rfl, rfl⟩) (hS _) ?_
            simp only [List.getElem_toArray, List.getElem_cons_zero, List.getElem_cons_succ, Act.put, List.setIfInBounds_toArray, List.set_cons_zero, List.set_cons_succ]
            refine WA.take (i := 22) (v := undef) rfl (by kernel_rfl) (by kernel_rfl) (by kernel_rfl) (fun _ _ _ h => h) (hdrop 22 (by decide)) (Or.inr ⟨by rfl, rfl⟩) (hS _) ?_
            simp only [List.getElem_toArray, List.getElem_cons_zero, List.getElem_cons_succ, Act.put, List.setIfInBounds_toArray, List.set_cons_zero, List.set_cons_succ]
            refine WA.take (i := 23) (v := undef) rfl (by kernel_rfl) (by kernel_rfl) (by kernel_rfl) (fun _ _ _ h => h) (hdrop 23 (by decide)) (Or.inr ⟨by rfl, rfl⟩) (hS _) ?_
            simp only [List.getElem_toArray, List.getElem_cons_zero, List.getElem_cons_succ, Act.put, List.setIfInBounds_toArray, List.set_cons_zero, List.set_cons_succ]
            refine WA.take (i := 24) (v := undef) rfl (by kernel_rfl) (by kernel_rfl) (by kernel_rfl) (fun _ _ _ h => h) (hdrop 24 (by decide)) (Or.inr ⟨by rfl, rfl⟩) (hS _) ?_
            simp only [List.getElem_toArray, List.getElem_cons_zero, List.getElem_cons_succ, Act.put, List.setIfInBounds_toArray, List.set_cons_zero, List.set_cons_succ]
            refine WA.take (i := 25) (v := undef) rfl (by kernel_rfl) (by kernel_rfl) (by kernel_rfl) (fun _ _ _ h => h) (hdrop 25 (by decide)) (Or.inr ⟨by rfl, rfl⟩) (hS _) ?_
            simp only [List.getElem_toArray, List.getElem_cons_zero, List.getElem_cons_succ, Act.put, List.setIfInBounds_toArray, List.set_cons_zero, List.set_cons_succ]
            refine WA.take (i := 26) (v := undef) rfl (by kernel_rfl) (by kernel_rfl) (by kernel_rfl) (fun _ _ _ h => h) (hdrop 26 (by decide)) (Or.inr ⟨by rfl, rfl⟩) (hS _) ?_
            simp only [List.getElem_toArray, List.getElem_cons_zero, List.getElem_cons_succ, Act.put, List.setIfInBounds_toArray, List.set_cons_zero, List.set_cons_succ]
            refine WA.take (i := 27) (v := undef) rfl (by kernel_rfl) (by kernel_rfl) (by kernel_rfl) (fun _ _ _ h => h) (hdrop 27 (by decide)) (Or.inr ⟨by rfl, rfl⟩) (hS _) ?_
            simp only [List.getElem_toArray, List.getElem_cons_zero, List.getElem_cons_succ, Act.put, List.setIfInBounds_toArray, List.set_cons_zero, List.set_cons_succ]
            refine WA.take (i := 28) (v := undef) rfl (by kernel_rfl) (by kernel_rfl) (by kernel_rfl) (fun _ _ _ h => h) (hdrop 28 (by decide)) (Or.inr ⟨by rfl, rfl⟩) (hS _) ?_
            simp only [List.getElem_toArray, List.getElem_cons_zero, List.getElem_cons_succ, Act.put, List.setIfInBounds_toArray, List.set_cons_zero, List.set_cons_succ]
            refine WA.take (i := 29) (v := undef) rfl (by kernel_rfl) (by kernel_rfl) (by kernel_rfl) (fun _ _ _ h => h) (hdrop 29 (by decide)) (Or.inr ⟨by rfl, rfl⟩) (hS _) ?_
            simp only [List.getElem_toArray, List.getElem_cons_zero, List.getElem_cons_succ, Act.put, List.setIfInBounds_toArray, List.set_cons_zero, List.set_cons_succ]
            refine WA.take (i := 30) (v := undef) rfl (by kernel_rfl) (by kernel_rfl) (by kernel_rfl) (fun _ _ _ h => h) (hdrop 30 (by decide)) (Or.inr ⟨by rfl, rfl⟩) (hS _) ?_
            simp only [List.getElem_toArray, List.getElem_cons_zero, List.getElem_cons_succ, Act.put, List.setIfInBounds_toArray, List.set_cons_zero, List.set_cons_succ]
            refine WA.take (i := 31) (v := .bool false) rfl (by kernel_rfl) (by kernel_rfl) (by kernel_rfl) (fun _ _ _ h => h) (hdrop 31 (by decide)) (Or.inl ⟨by rfl, ?_⟩) (hS _) ?_
            · rintro w' ⟨L, hL, hSw, hun⟩
              go_simp
            simp only [List.getElem_toArray, List.getElem_cons_zero, List.getElem_cons_succ, Act.put, List.setIfInBounds_toArray, List.set_cons_zero, List.set_cons_succ]
            refine WA.take (i := 32) (v := .bool false) rfl (by kernel_rfl) (by kernel_rfl) (by kernel_rfl) (fun _ _ _ h => h) (hdrop 32 (by decide)) (Or.inl ⟨by rfl, ?_⟩) (hS _) ?_
            · rintro w' ⟨L, hL, hSw, hun⟩
              go_simp
            simp only [List.getElem_toArray, List.getElem_cons_zero, List.getElem_cons_succ, Act.put, List.setIfInBounds_toArray, List.set_cons_zero, List.set_cons_succ]
            refine WA.done (by kernel_rfl) ?_ _
            refine Nrm.normal ?_
            go_wp2_with fail
            go_roundw
            case rel =>
              refine ⟨k + 1, by omega, congrArg Value.bool ?_, by push_cast; rfl, HBd.out⟩
              rw [List.range_succ, List.all_append]
              simp only [List.all_cons, List.all_nil, Bool.and_true]
              rw [← Bool.and_assoc, Hf.out]; rfl
            case measure => simp [intOf]; omega
          · have Hf := Lib.hid hf; clear hf
            cases hz4 : (v4 == 0)
            · cases hn4 : (a1 != a2)
              · go_wp2_with fail
                have HBd := Lib.hid (HBw.out.drew)
                have c0' : wr.drew.cell? ⟨rb, 0, none⟩ = _ := c0'
                have c1' : wr.drew.cell? ⟨rb, 1, none⟩ = _ := c1'
                have d3 : wr.drew.cell? ⟨gb, k, none⟩ = _ := d3
                have e1 : wr.drew.cell? ⟨gr, k * 3 + p, none⟩ = _ := e1
                have e2 : wr.drew.cell? ⟨gr, i * 3 + p, none⟩ = _ := e2
                obtain ⟨S11, hSe⟩ : ∃ S : Array Bool → World → Prop, S = fun _ w' => w' = wr.drew := ⟨_, rfl⟩
                have hdrop : ∀ i : Nat, i ≠ 1000 → ∀ L w', S11 (L.setIfInBounds i true) w' → S11 L w' := by
                  intro i _ L w' h; rw [hSe] at h ⊢; exact h
                have hS : ∀ L, S11 L wr.drew := by intro L; rw [hSe]
                have hSo : ∀ {L w'}, S11 L w' → w' = wr.drew := by intro L w' h; rw [hSe] at h; exact h
                clear hSe
                refine wp_region_LN S11 33 #[false, false, false, false, false, false, false, false, false, false, false, false, false, false, false, false, false, false, false, false, false, false, false, false, false, false, false, false, false, false, false, false, false] (by kernel_rfl) (by kernel_rfl) rfl ?_
                generalize wr.drew = W9 at *
                refine WA.take (i := 0) (v := .bool true) rfl (by kernel_rfl) (by kernel_rfl) (by kernel_rfl) (fun _ _ _ h => h) (hdrop 0 (by decide)) (Or.inl ⟨by rfl, ?_⟩) (hS _) ?_
                · rintro w' ⟨L, hL, hSw, hun⟩
                  go_simp
                simp only [List.getElem_toArray, List.getElem_cons_zero, List.getElem_cons_succ, Act.put, List.setIfInBounds_toArray, List.set_cons_zero, List.set_cons_succ]
                refine WA.take (i := 1) (v := .bool true) rfl (by kernel_rfl) (by kernel_rfl) (by kernel_rfl) (fun _ _ _ h => h) (hdrop 1 (by decide)) (Or.inl ⟨by rfl, ?_⟩) (hS _) ?_
                · rintro w' ⟨L, hL, hSw, hun⟩
                  go_simp
                simp only [List.getElem_toArray, List.getElem_cons_zero, List.getElem_cons_succ, Act.put, List.setIfInBounds_toArray, List.set_cons_zero, List.set_cons_succ]
                refine WA.take (i := 2) (v := .pointer (some ⟨rb, 0, none⟩)) rfl (by kernel_rfl) (by kernel_rfl) (by kernel_rfl) (fun _ _ _ h => h) (hdrop 2 (by decide)) (Or.inl ⟨by rfl, ?_⟩) (hS _) ?_
                · rintro w' ⟨L, hL, hSw, hun⟩
                  go_simp
                simp only [List.getElem_toArray, List.getElem_cons_zero, List.getElem_cons_succ, Act.put, List.setIfInBounds_toArray, List.set_cons_zero, List.set_cons_succ]
                refine WA.take (i := 3) (v := .pointer (some ⟨rb, 0, none⟩)) rfl (by kernel_rfl) (by kernel_rfl) (by kernel_rfl) (fun _ _ _ h => h) (hdrop 3 (by decide)) (Or.inl ⟨by rfl, ?_⟩) (hS _) ?_
                · rintro w' ⟨L, hL, hSw, hun⟩
                  go_simp
                simp only [List.getElem_toArray, List.getElem_cons_zero, List.getElem_cons_succ, Act.put, List.setIfInBounds_toArray, List.set_cons_zero, List.set_cons_succ]
                refine WA.take (i := 4) (v := .pointer (some ⟨rb, 1, none⟩)) rfl (by kernel_rfl) (by kernel_rfl) (by kernel_rfl) (fun _ _ _ h => h) (hdrop 4 (by decide)) (Or.inl ⟨by rfl, ?_⟩) (hS _) ?_
                · rintro w' ⟨L, hL, hSw, hun⟩
                  go_simp
                simp only [List.getElem_toArray, List.getElem_cons_zero, List.getElem_cons_succ, Act.put, List.setIfInBounds_toArray, List.set_cons_zero, List.set_cons_succ]
                refine WA.take (i := 5) (v := .slice (some ⟨gb, 0, none⟩) l capb) rfl (by kernel_rfl) (by kernel_rfl) (by kernel_rfl) (fun _ _ _ h => h) (hdrop 5 (by decide)) (Or.inl ⟨by rfl, ?_⟩) (hS _) ?_
                · rintro w' ⟨L, hL, hSw, hun⟩
                  obtain rfl := hSo hSw 
                  go_simp
                simp only [List.getElem_toArray, List.getElem_cons_zero, List.getElem_cons_succ, Act.put, List.setIfInBounds_toArray, List.set_cons_zero, List.set_cons_succ]
                refine WA.take (i := 6) (v := .int .i64 (k : Int)) rfl (by kernel_rfl) (by kernel_rfl) (by kernel_rfl) (fun _ _ _ h => h) (hdrop 6 (by decide)) (Or.inl ⟨by rfl, ?_⟩) (hS _) ?_
                · rintro w' ⟨L, hL, hSw, hun⟩
                  go_simp
                simp only [List.getElem_toArray, List.getElem_cons_zero, List.getElem_cons_succ, Act.put, List.setIfInBounds_toArray, List.set_cons_zero, List.set_cons_succ]
                refine WA.take (i := 7) (v := .pointer (some ⟨gb, k, none⟩)) rfl (by kernel_rfl) (by kernel_rfl) (by kernel_rfl) (fun _ _ _ h => h) (hdrop 7 (by decide)) (Or.inl ⟨by rfl, ?_⟩) (hS _) ?_
                · rintro w' ⟨L, hL, hSw, hun⟩
                  go_simp
                simp only [List.getElem_toArray, List.getElem_cons_zero, List.getElem_cons_succ, Act.put, List.setIfInBounds_toArray, List.set_cons_zero, List.set_cons_succ]
                refine WA.take (i := 8) (v := .int .u8 v4) rfl (by kernel_rfl) (by kernel_rfl) (by kernel_rfl) (fun _ _ _ h => h) (hdrop 8 (by decide)) (Or.inl ⟨by rfl, ?_⟩) (hS _) ?_
                · rintro w' ⟨L, hL, hSw, hun⟩
                  obtain rfl := hSo hSw 
                  go_simp
                simp only [List.getElem_toArray, List.getElem_cons_zero, List.getElem_cons_succ, Act.put, List.setIfInBounds_toArray, List.set_cons_zero, List.set_cons_succ]
                refine WA.take (i := 9) (v := .bool false) rfl (by kernel_rfl) (by kernel_rfl) (by kernel_rfl) (fun _ _ _ h => h) (hdrop 9 (by decide)) (Or.inl ⟨by rfl, ?_⟩) (hS _) ?_
                · rintro w' ⟨L, hL, hSw, hun⟩
                  go_simp
                simp only [List.getElem_toArray, List.getElem_cons_zero, List.getElem_cons_succ, Act.put, List.setIfInBounds_toArray, List.set_cons_zero, List.set_cons_succ]
                refine WA.take (i := 10) (v := .bool false) rfl (by kernel_rfl) (by kernel_rfl) (by kernel_rfl) (fun _ _ _ h => h) (hdrop 10 (by decide)) (Or.inl ⟨by rfl, ?_⟩) (hS _) ?_
                · rintro w' ⟨L, hL, hSw, hun⟩
                  go_simp
                simp only [List.getElem_toArray, List.getElem_cons_zero, List.getElem_cons_succ, Act.put, List.setIfInBounds_toArray, List.set_cons_zero, List.set_cons_succ]
                refine WA.take (i := 11) (v := .pointer (some ⟨rb, 0, none⟩)) rfl (by kernel_rfl) (by kernel_rfl) (by kernel_rfl) (fun _ _ _ h => h) (hdrop 11 (by decide)) (Or.inl ⟨by rfl, ?_⟩) (hS _) ?_
                · rintro w' ⟨L, hL, hSw, hun⟩
                  go_simp
                simp only [List.getElem_toArray, List.getElem_cons_zero, List.getElem_cons_succ, Act.put, List.setIfInBounds_toArray, List.set_cons_zero, List.set_cons_succ]
                refine WA.take (i := 12) (v := .pointer (some ⟨rb, 0, none⟩)) rfl (by kernel_rfl) (by kernel_rfl) (by kernel_rfl) (fun _ _ _ h => h) (hdrop 12 (by decide)) (Or.inl ⟨by rfl, ?_⟩) (hS _) ?_
                · rintro w' ⟨L, hL, hSw, hun⟩
                  go_simp
                simp only [List.getElem_toArray, List.getElem_cons_zero, List.getElem_cons_succ, Act.put, List.setIfInBounds_toArray, List.set_cons_zero, List.set_cons_succ]
                refine WA.take (i := 13) (v := .pointer (some ⟨rb, 0, none⟩)) rfl (by kernel_rfl) (by kernel_rfl) (by kernel_rfl) (fun _ _ _ h => h) (hdrop 13 (by decide)) (Or.inl ⟨by rfl, ?_⟩) (hS _) ?_
                · rintro w' ⟨L, hL, hSw, hun⟩
                  go_simp
                simp only [List.getElem_toArray, List.getElem_cons_zero, List.getElem_cons_succ, Act.put, List.setIfInBounds_toArray, List.set_cons_zero, List.set_cons_succ]
                refine WA.take (i := 14) (v := .slice (some ⟨gr, 0, none⟩) l capr) rfl (by kernel_rfl) (by kernel_rfl) (by kernel_rfl) (fun _ _ _ h => h) (hdrop 14 (by decide)) (Or.inl ⟨by rfl, ?_⟩) (hS _) ?_
                · rintro w' ⟨L, hL, hSw, hun⟩
                  obtain rfl := hSo hSw 
                  go_simp
                simp only [List.getElem_toArray, List.getElem_cons_zero, List.getElem_cons_succ, Act.put, List.setIfInBounds_toArray, List.set_cons_zero, List.set_cons_succ]
                refine WA.take (i := 15) (v := .int .i64 (k : Int)) rfl (by kernel_rfl) (by kernel_rfl) (by kernel_rfl) (fun _ _ _ h => h) (hdrop 15 (by decide)) (Or.inl ⟨by rfl, ?_⟩) (hS _) ?_
                · rintro w' ⟨L, hL, hSw, hun⟩
                  go_simp
                simp only [List.getElem_toArray, List.getElem_cons_zero, List.getElem_cons_succ, Act.put, List.setIfInBounds_toArray, List.set_cons_zero, List.set_cons_succ]
                refine WA.take (i := 16) (v := .int .i64 (p : Int)) rfl (by kernel_rfl) (by kernel_rfl) (by kernel_rfl) (fun _ _ _ h => h) (hdrop 16 (by decide)) (Or.inl ⟨by rfl, ?_⟩) (hS _) ?_
                · rintro w' ⟨L, hL, hSw, hun⟩
                  go_simp
                simp only [List.getElem_toArray, List.getElem_cons_zero, List.getElem_cons_succ, Act.put, List.setIfInBounds_toArray, List.set_cons_zero, List.set_cons_succ]
                refine WA.take (i := 17) (v := .pointer (some ⟨gr, k * 3, none⟩)) rfl (by kernel_rfl) (by kernel_rfl) (by kernel_rfl) (fun _ _ _ h => h) (hdrop 17 (by decide)) (Or.inl ⟨by rfl, ?_⟩) (hS _) ?_
                · rintro w' ⟨L, hL, hSw, hun⟩
                  go_simp
                simp only [List.getElem_toArray, List.getElem_cons_zero, List.getElem_cons_succ, Act.put, List.setIfInBounds_toArray, List.set_cons_zero, List.set_cons_succ]
                refine WA.take (i := 18) (v := .pointer (some ⟨gr, k * 3 + p, none⟩)) rfl (by kernel_rfl) (by kernel_rfl) (by kernel_rfl) (fun _ _ _ h => h) (hdrop 18 (by decide)) (Or.inl ⟨by rfl, ?_⟩) (hS _) ?_
                · rintro w' ⟨L, hL, hSw, hun⟩
                  go_simp
                  intro hh; exfalso; omega
                simp only [List.getElem_toArray, List.getElem_cons_zero, List.getElem_cons_succ, Act.put, List.setIfInBounds_toArray, List.set_cons_zero, List.set_cons_succ]
                refine WA.take (i := 19) (v := .int .u32 a1) rfl (by kernel_rfl) (by kernel_rfl) (by kernel_rfl) (fun _ _ _ h => h) (hdrop 19 (by decide)) (Or.inl ⟨by rfl, ?_⟩) (hS _) ?_
                · rintro w' ⟨L, hL, hSw, hun⟩
                  obtain rfl := hSo hSw 
                  go_simp
                simp only [List.getElem_toArray, List.getElem_cons_zero, List.getElem_cons_succ, Act.put, List.setIfInBounds_toArray, List.set_cons_zero, List.set_cons_succ]
                refine WA.take (i := 20) (v := .pointer (some ⟨rb, 0, none⟩)) rfl (by kernel_rfl) (by kernel_rfl) (by kernel_rfl) (fun _ _ _ h => h) (hdrop 20 (by decide)) (Or.inl ⟨by rfl, ?_⟩) (hS _) ?_
                · rintro w' ⟨L, hL, hSw, hun⟩
                  go_simp
                simp only [List.getElem_toArray, List.getElem_cons_zero, List.getElem_cons_succ, Act.put, List.setIfInBounds_toArray, List.set_cons_zero, List.set_cons_succ]
                refine WA.take (i := 21) (v := .pointer (some ⟨rb, 0, none⟩)) rfl (by kernel_rfl) (by kernel_rfl) (by kernel_rfl) (fun _ _ _ h => h) (hdrop 21 (by decide)) (Or.inl ⟨by rfl, ?_⟩) (hS _) ?_
                · rintro w' ⟨L, hL, hSw, hun⟩
                  go_simp
                simp only [List.getElem_toArray, List.getElem_cons_zero, List.getElem_cons_succ, Act.put, List.setIfInBounds_toArray, List.set_cons_zero, List.set_cons_succ]
                refine WA.take (i := 22) (v := .pointer (some ⟨rb, 0, none⟩)) rfl (by kernel_rfl) (by kernel_rfl) (by kernel_rfl) (fun _ _ _ h => h) (hdrop 22 (by decide)) (Or.inl ⟨by rfl, ?_⟩) (hS _) ?_
                · rintro w' ⟨L, hL, hSw, hun⟩
                  go_simp
                simp only [List.getElem_toArray, List.getElem_cons_zero, List.getElem_cons_succ, Act.put, List.setIfInBounds_toArray, List.set_cons_zero, List.set_cons_succ]
                refine WA.take (i := 23) (v := .slice (some ⟨gr, 0, none⟩) l capr) rfl (by kernel_rfl) (by kernel_rfl) (by kernel_rfl) (fun _ _ _ h => h) (hdrop 23 (by decide)) (Or.inl ⟨by rfl, ?_⟩) (hS _) ?_
                · rintro w' ⟨L, hL, hSw, hun⟩
                  obtain rfl := hSo hSw 
                  go_simp
                simp only [List.getElem_toArray, List.getElem_cons_zero, List.getElem_cons_succ, Act.put, List.setIfInBounds_toArray, List.set_cons_zero, List.set_cons_succ]
                refine WA.take (i := 24) (v := .int .i64 (i : Int)) rfl (by kernel_rfl) (by kernel_rfl) (by kernel_rfl) (fun _ _ _ h => h) (hdrop 24 (by decide)) (Or.inl ⟨by rfl, ?_⟩) (hS _) ?_
                · rintro w' ⟨L, hL, hSw, hun⟩
                  go_simp
                simp only [List.getElem_toArray, List.getElem_cons_zero, List.getElem_cons_succ, Act.put, List.setIfInBounds_toArray, List.set_cons_zero, List.set_cons_succ]
                refine WA.take (i := 25) (v := .int .i64 (p : Int)) rfl (by kernel_rfl) (by kernel_rfl) (by kernel_rfl) (fun _ _ _ h => h) (hdrop 25 (by decide)) (Or.inl ⟨by rfl, ?_⟩) (hS _) ?_
                · rintro w' ⟨L, hL, hSw, hun⟩
                  go_simp
                simp only [List.getElem_toArray, List.getElem_cons_zero, List.getElem_cons_succ, Act.put, List.setIfInBounds_toArray, List.set_cons_zero, List.set_cons_succ]
                refine WA.take (i := 26) (v := .pointer (some ⟨gr, i * 3, none⟩)) rfl (by kernel_rfl) (by kernel_rfl) (by kernel_rfl) (fun _ _ _ h => h) (hdrop 26 (by decide)) (Or.inl ⟨by rfl, ?_⟩) (hS _) ?_
                · rintro w' ⟨L, hL, hSw, hun⟩
                  go_simp
                simp only [List.getElem_toArray, List.getElem_cons_zero, List.getElem_cons_succ, Act.put, List.setIfInBounds_toArray, List.set_cons_zero, List.set_cons_succ]
                refine WA.take (i := 27) (v := .pointer (some ⟨gr, i * 3 + p, none⟩)) rfl (by kernel_rfl) (by kernel_rfl) (by kernel_rfl) (fun _ _ _ h => h) (hdrop 27 (by decide)) (Or.inl ⟨by rfl, ?_⟩) (hS _) ?_
                · rintro w' ⟨L, hL, hSw, hun⟩
                  go_simp
                  intro hh; exfalso; omega
                simp only [List.getElem_toArray, List.getElem_cons_zero, List.getElem_cons_succ, Act.put, List.setIfInBounds_toArray, List.set_cons_zero, List.set_cons_succ]
                refine WA.take (i := 28) (v := .int .u32 a2) rfl (by kernel_rfl) (by kernel_rfl) (by kernel_rfl) (fun _ _ _ h => h) (hdrop 28 (by decide)) (Or.inl ⟨by rfl, ?_⟩) (hS _) ?_
                · rintro w' ⟨L, hL, hSw, hun⟩
                  obtain rfl := hSo hSw 
                  go_simp
                simp only [List.getElem_toArray, List.getElem_cons_zero, List.getElem_cons_succ, Act.put, List.setIfInBounds_toArray, List.set_cons_zero, List.set_cons_succ]
                refine WA.take (i := 29) (v := .bool false) rfl (by kernel_rfl) (by kernel_rfl) (by kernel_rfl) (fun _ _ _ h => h) (hdrop 29 (by decide)) (Or.inl ⟨by rfl, ?_⟩) (hS _) ?_
                · rintro w' ⟨L, hL, hSw, hun⟩
                  go_simp
                simp only [List.getElem_toArray, List.getElem_cons_zero, List.getElem_cons_succ, Act.put, List.setIfInBounds_toArray, List.set_cons_zero, List.set_cons_succ]
                refine WA.take (i := 30) (v := .bool false) rfl (by kernel_rfl) (by kernel_rfl) (by kernel_rfl) (fun _ _ _ h => h) (hdrop 30 (by decide)) (Or.inl ⟨by rfl, ?_⟩) (hS _) ?_
                · rintro w' ⟨L, hL, hSw, hun⟩
                  go_simp
                simp only [List.getElem_toArray, List.getElem_cons_zero, List.getElem_cons_succ, Act.put, List.setIfInBounds_toArray, List.set_cons_zero, List.set_cons_succ]
                refine WA.take (i := 31) (v := .bool false) rfl (by kernel_rfl) (by kernel_rfl) (by kernel_rfl) (fun _ _ _ h => h) (hdrop 31 (by decide)) (Or.inl ⟨by rfl, ?_⟩) (hS _) ?_
                · rintro w' ⟨L, hL, hSw, hun⟩
                  go_simp
                simp only [List.getElem_toArray, List.getElem_cons_zero, List.getElem_cons_succ, Act.put, List.setIfInBounds_toArray, List.set_cons_zero, List.set_cons_succ]
                refine WA.take (i := 32) (v := .bool false) rfl (by kernel_rfl) (by kernel_rfl) (by kernel_rfl) (fun _ _ _ h => h) (hdrop 32 (by decide)) (Or.inl ⟨by rfl, ?_⟩) (hS _) ?_
                · rintro w' ⟨L, hL, hSw, hun⟩
                  go_simp
                simp only [List.getElem_toArray, List.getElem_cons_zero, List.getElem_cons_succ, Act.put, List.setIfInBounds_toArray, List.set_cons_zero, List.set_cons_succ]
                refine WA.done (by kernel_rfl) ?_ _
                refine Nrm.normal ?_
                go_wp2_with fail
                go_roundw
                case rel =>
                  refine ⟨k + 1, by omega, congrArg Value.bool ?_, by push_cast; rfl, HBd.out⟩
                  rw [List.range_succ, List.all_append]
                  simp only [List.all_cons, List.all_nil, Bool.and_true]
                  rw [← Bool.and_assoc, Hf.out]
                  simp only [okD, Hv4.out, hz4, Ha1.out, Ha2.out, hn4]; rfl
                case measure => simp [intOf]; omega
              · go_wp2_with fail
                have HBd := Lib.hid (HBw.out.drew)
                have c0' : wr.drew.cell? ⟨rb, 0, none⟩ = _ := c0'
                have c1' : wr.drew.cell? ⟨rb, 1, none⟩ = _ := c1'
                have d3 : wr.drew.cell? ⟨gb, k, none⟩ = _ := d3
                have e1 : wr.drew.cell? ⟨gr, k * 3 + p, none⟩ = _ := e1
                have e2 : wr.drew.cell? ⟨gr, i * 3 + p, none⟩ = _ := e2
                obtain ⟨S11, hSe⟩ : ∃ S : Array Bool → World → Prop, S = fun _ w' => w' = wr.drew := ⟨_, rfl⟩
                have hdrop : ∀ i : Nat, i ≠ 1000 → ∀ L w', S11 (L.setIfInBounds i true) w' → S11 L w' := by
                  intro i _ L w' h; rw [hSe] at h ⊢; exact h
                have hS : ∀ L, S11 L wr.drew := by intro L; rw [hSe]
                have hSo : ∀ {L w'}, S11 L w' → w' = wr.drew := by intro L w' h; rw [hSe] at h; exact h
                clear hSe
                refine wp_region_LN S11 33 #[false, false, false, false, false, false, false, false, false, false, false, false, false, false, false, false, false, false, false, false, false, false, false, false, false, false, false, false, false, false, false, false, false] (by kernel_rfl) (by kernel_rfl) rfl ?_
                generalize wr.drew = W9 at *
                refine WA.take (i := 0) (v := .bool true) rfl (by kernel_rfl) (by kernel_rfl) (by kernel_rfl) (fun _ _ _ h => h) (hdrop 0 (by decide)) (Or.inl ⟨by rfl, ?_⟩) (hS _) ?_
                · rintro w' ⟨L, hL, hSw, hun⟩
                  go_simp
                simp only [List.getElem_toArray, List.getElem_cons_zero, List.getElem_cons_succ, Act.put, List.setIfInBounds_toArray, List.set_cons_zero, List.set_cons_succ]
                refine WA.take (i := 1) (v := .bool true) rfl (by kernel_rfl) (by kernel_rfl) (by kernel_rfl) (fun _ _ _ h => h) (hdrop 1 (by decide)) (Or.inl ⟨by rfl, ?_⟩) (hS _) ?_
                · rintro w' ⟨L, hL, hSw, hun⟩
                  go_simp
                simp only [List.getElem_toArray, List.getElem_cons_zero, List.getElem_cons_succ, Act.put, List.setIfInBounds_toArray, List.set_cons_zero, List.set_cons_succ]
                refine WA.take (i := 2) (v := .pointer (some ⟨rb, 0, none⟩)) rfl (by kernel_rfl) (by kernel_rfl) (by kernel_rfl) (fun _ _ _ h => h) (hdrop 2 (by decide)) (Or.inl ⟨by rfl, ?_⟩) (hS _) ?_
                · rintro w' ⟨L, hL, hSw, hun⟩
                  go_simp
                simp only [List.getElem_toArray, List.getElem_cons_zero, List.getElem_cons_succ, Act.put, List.setIfInBounds_toArray, List.set_cons_zero, List.set_cons_succ]
                refine WA.take (i := 3) (v := .pointer (some ⟨rb, 0, none⟩)) rfl (by kernel_rfl) (by kernel_rfl) (by kernel_rfl) (fun _ _ _ h => h) (hdrop 3 (by decide)) (Or.inl ⟨by rfl, ?_⟩) (hS _) ?_
                · rintro w' ⟨L, hL, hSw, hun⟩
                  go_simp
                simp only [List.getElem_toArray, List.getElem_cons_zero, List.getElem_cons_succ, Act.put, List.setIfInBounds_toArray, List.set_cons_zero, List.set_cons_succ]
                refine WA.take (i := 4) (v := .pointer (some ⟨rb, 1, none⟩)) rfl (by kernel_rfl) (by kernel_rfl) (by kernel_rfl) (fun _ _ _ h => h) (hdrop 4 (by decide)) (Or.inl ⟨by rfl, ?_⟩) (hS _) ?_
                · rintro w' ⟨L, hL, hSw, hun⟩
                  go_simp
                simp only [List.getElem_toArray, List.getElem_cons_zero, List.getElem_cons_succ, Act.put, List.setIfInBounds_toArray, List.set_cons_zero, List.set_cons_succ]
                refine WA.take (i := 5) (v := .slice (some ⟨gb, 0, none⟩) l capb) rfl (by kernel_rfl) (by kernel_rfl) (by kernel_rfl) (fun _ _ _ h => h) (hdrop 5 (by decide)) (Or.inl ⟨by rfl, ?_⟩) (hS _) ?_
                · rintro w' ⟨L, hL, hSw, hun⟩
                  obtain rfl := hSo hSw 
                  go_simp
                simp only [List.getElem_toArray, List.getElem_cons_zero, List.getElem_cons_succ, Act.put, List.setIfInBounds_toArray, List.set_cons_zero, List.set_cons_succ]
                refine WA.take (i := 6) (v := .int .i64 (k : Int)) rfl (by kernel_rfl) (by kernel_rfl) (by kernel_rfl) (fun _ _ _ h => h) (hdrop 6 (by decide)) (Or.inl ⟨by rfl, ?_⟩) (hS _) ?_
                · rintro w' ⟨L, hL, hSw, hun⟩
                  go_simp
                simp only [List.getElem_toArray, List.getElem_cons_zero, List.getElem_cons_succ, Act.put, List.setIfInBounds_toArray, List.set_cons_zero, List.set_cons_succ]
                refine WA.take (i := 7) (v := .pointer (some ⟨gb, k, none⟩)) rfl (by kernel_rfl) (by kernel_rfl) (by kernel_rfl) (fun _ _ _ h => h) (hdrop 7 (by decide)) (Or.inl ⟨by rfl, ?_⟩) (hS _) ?_
                · rintro w' ⟨L, hL, hSw, hun⟩
                  go_simp
                simp only [List.getElem_toArray, List.getElem_cons_zero, List.getElem_cons_succ, Act.put, List.setIfInBounds_toArray, List.set_cons_zero, List.set_cons_succ]
                refine WA.take (i := 8) (v := .int .u8 v4) rfl (by kernel_rfl) (by kernel_rfl) (by kernel_rfl) (fun _ _ _ h => h) (hdrop 8 (by decide)) (Or.inl ⟨by rfl, ?_⟩) (hS _) ?_
                · rintro w' ⟨L, hL, hSw, hun⟩
                  obtain rfl := hSo hSw 
                  go_simp
                simp only [List.getElem_toArray, List.getElem_cons_zero, List.getElem_cons_succ, Act.put, List.setIfInBounds_toArray, List.set_cons_zero, List.set_cons_succ]
                refine WA.take (i := 9) (v := .bool false) rfl (by kernel_rfl) (by kernel_rfl) (by kernel_rfl) (fun _ _ _ h => h) (hdrop 9 (by decide)) (Or.inl ⟨by rfl, ?_⟩) (hS _) ?_
                · rintro w' ⟨L, hL, hSw, hun⟩
                  go_simp
                simp only [List.getElem_toArray, List.getElem_cons_zero, List.getElem_cons_succ, Act.put, List.setIfInBounds_toArray, List.set_cons_zero, List.set_cons_succ]
                refine WA.take (i := 10) (v := .bool false) rfl (by kernel_rfl) (by kernel_rfl) (by kernel_rfl) (fun _ _ _ h => h) (hdrop 10 (by decide)) (Or.inl ⟨by rfl, ?_⟩) (hS _) ?_
                · rintro w' ⟨L, hL, hSw, hun⟩
                  go_simp
                simp only [List.getElem_toArray, List.getElem_cons_zero, List.getElem_cons_succ, Act.put, List.setIfInBounds_toArray, List.set_cons_zero, List.set_cons_succ]
                refine WA.take (i := 11) (v := .pointer (some ⟨rb, 0, none⟩)) rfl (by kernel_rfl) (by kernel_rfl) (by kernel_rfl) (fun _ _ _ h => h) (hdrop 11 (by decide)) (Or.inl ⟨by rfl, ?_⟩) (hS _) ?_
                · rintro w' ⟨L, hL, hSw, hun⟩
                  go_simp
                simp only [List.getElem_toArray, List.getElem_cons_zero, List.getElem_cons_succ, Act.put, List.setIfInBounds_toArray, List.set_cons_zero, List.set_cons_succ]
                refine WA.take (i := 12) (v := .pointer (some ⟨rb, 0, none⟩)) rfl (by kernel_rfl) (by kernel_rfl) (by kernel_rfl) (fun _ _ _ h => h) (hdrop 12 (by decide)) (Or.inl ⟨by rfl, ?_⟩) (hS _) ?_
                · rintro w' ⟨L, hL, hSw, hun⟩
                  go_simp
                simp only [List.getElem_toArray, List.getElem_cons_zero, List.getElem_cons_succ, Act.put, List.setIfInBounds_toArray, List.set_cons_zero, List.set_cons_succ]
                refine WA.take (i := 13) (v := .pointer (some ⟨rb, 0, none⟩)) rfl (by kernel_rfl) (by kernel_rfl) (by kernel_rfl) (fun _ _ _ h => h) (hdrop 13 (by decide)) (Or.inl ⟨by rfl, ?_⟩) (hS _) ?_
                · rintro w' ⟨L, hL, hSw, hun⟩
                  go_simp
                simp only [List.getElem_toArray, List.getElem_cons_zero, List.getElem_cons_succ, Act.put, List.setIfInBounds_toArray, List.set_cons_zero, List.set_cons_succ]
                refine WA.take (i := 14) (v := .slice (some ⟨gr, 0, none⟩) l capr) rfl (by kernel_rfl) (by kernel_rfl) (by kernel_rfl) (fun _ _ _ h => h) (hdrop 14 (by decide)) (Or.inl ⟨by rfl, ?_⟩) (hS _) ?_
                · rintro w' ⟨L, hL, hSw, hun⟩
                  obtain rfl := hSo hSw 
                  go_simp
                simp only [List.getElem_toArray, List.getElem_cons_zero, List.getElem_cons_succ, Act.put, List.setIfInBounds_toArray, List.set_cons_zero, List.set_cons_succ]
                refine WA.take (i := 15) (v := .int .i64 (k : Int)) rfl (by kernel_rfl) (by kernel_rfl) (by kernel_rfl) (fun _ _ _ h => h) (hdrop 15 (by decide)) (Or.inl ⟨by rfl, ?_⟩) (hS _) ?_
                · rintro w' ⟨L, hL, hSw, hun⟩
                  go_simp
                simp only [List.getElem_toArray, List.getElem_cons_zero, List.getElem_cons_succ, Act.put, List.setIfInBounds_toArray, List.set_cons_zero, List.set_cons_succ]
                refine WA.take (i := 16) (v := .int .i64 (p : Int)) rfl (by kernel_rfl) (by kernel_rfl) (by kernel_rfl) (fun _ _ _ h => h) (hdrop 16 (by decide)) (Or.inl ⟨by rfl, ?_⟩) (hS _) ?_
                · rintro w' ⟨L, hL, hSw, hun⟩
                  go_simp
                simp only [List.getElem_toArray, List.getElem_cons_zero, List.getElem_cons_succ, Act.put, List.setIfInBounds_toArray, List.set_cons_zero, List.set_cons_succ]
                refine WA.take (i := 17) (v := .pointer (some ⟨gr, k * 3, none⟩)) rfl (by kernel_rfl) (by kernel_rfl) (by kernel_rfl) (fun _ _ _ h => h) (hdrop 17 (by decide)) (Or.inl ⟨by rfl, ?_⟩) (hS _) ?_
                · rintro w' ⟨L, hL, hSw, hun⟩
                  go_simp
                simp only [List.getElem_toArray, List.getElem_cons_zero, List.getElem_cons_succ, Act.put, List.setIfInBounds_toArray, List.set_cons_zero, List.set_cons_succ]
                refine WA.take (i := 18) (v := .pointer (some ⟨gr, k * 3 + p, none⟩)) rfl (by kernel_rfl) (by kernel_rfl) (by kernel_rfl) (fun _ _ _ h => h) (hdrop 18 (by decide)) (Or.inl ⟨by rfl, ?_⟩) (hS _) ?_
                · rintro w' ⟨L, hL, hSw, hun⟩
                  go_simp
                  intro hh; exfalso; omega
                simp only [List.getElem_toArray, List.getElem_cons_zero, List.getElem_cons_succ, Act.put, List.setIfInBounds_toArray, List.set_cons_zero, List.set_cons_succ]
                refine WA.take (i := 19) (v := .int .u32 a1) rfl (by kernel_rfl) (by kernel_rfl) (by kernel_rfl) (fun _ _ _ h => h) (hdrop 19 (by decide)) (Or.inl ⟨by rfl, ?_⟩) (hS _) ?_
                · rintro w' ⟨L, hL, hSw, hun⟩
                  obtain rfl := hSo hSw 
                  go_simp
                simp only [List.getElem_toArray, List.getElem_cons_zero, List.getElem_cons_succ, Act.put, List.setIfInBounds_toArray, List.set_cons_zero, List.set_cons_succ]
                refine WA.take (i := 20) (v := .pointer (some ⟨rb, 0, none⟩)) rfl (by kernel_rfl) (by kernel_rfl) (by kernel_rfl) (fun _ _ _ h => h) (hdrop 20 (by decide)) (Or.inl ⟨by rfl, ?_⟩) (hS _) ?_
                · rintro w' ⟨L, hL, hSw, hun⟩
                  go_simp
                simp only [List.getElem_toArray, List.getElem_cons_zero, List.getElem_cons_succ, Act.put, List.setIfInBounds_toArray, List.set_cons_zero, List.set_cons_succ]
                refine WA.take (i := 21) (v := .pointer (some ⟨rb, 0, none⟩)) rfl (by kernel_rfl) (by kernel_rfl) (by kernel_rfl) (fun _ _ _ h => h) (hdrop 21 (by decide)) (Or.inl ⟨by rfl, ?_⟩) (hS _) ?_
                · rintro w' ⟨L, hL, hSw, hun⟩
                  go_simp
                simp only [List.getElem_toArray, List.getElem_cons_zero, List.getElem_cons_succ, Act.put, List.setIfInBounds_toArray, List.set_cons_zero, List.set_cons_succ]
                refine WA.take (i := 22) (v := .pointer (some ⟨rb, 0, none⟩)) rfl (by kernel_rfl) (by kernel_rfl) (by kernel_rfl) (fun _ _ _ h => h) (hdrop 22 (by decide)) (Or.inl ⟨by rfl, ?_⟩) (hS _) ?_
                · rintro w' ⟨L, hL, hSw, hun⟩
                  go_simp
                simp only [List.getElem_toArray, List.getElem_cons_zero, List.getElem_cons_succ, Act.put, List.setIfInBounds_toArray, List.set_cons_zero, List.set_cons_succ]
                refine WA.take (i := 23) (v := .slice (some ⟨gr, 0, none⟩) l capr) rfl (by kernel_rfl) (by kernel_rfl) (by kernel_rfl) (fun _ _ _ h => h) (hdrop 23 (by decide)) (Or.inl ⟨by rfl, ?_⟩) (hS _) ?_
                · rintro w' ⟨L, hL, hSw, hun⟩
                  obtain rfl := hSo hSw 
                  go_simp
                simp only [List.getElem_toArray, List.getElem_cons_zero, List.getElem_cons_succ, Act.put, List.setIfInBounds_toArray, List.set_cons_zero, List.set_cons_succ]
                refine WA.take (i := 24) (v := .int .i64 (i : Int)) rfl (by kernel_rfl) (by kernel_rfl) (by kernel_rfl) (fun _ _ _ h => h) (hdrop 24 (by decide)) (Or.inl ⟨by rfl, ?_⟩) (hS _) ?_
                · rintro w' ⟨L, hL, hSw, hun⟩
                  go_simp
                simp only [List.getElem_toArray, List.getElem_cons_zero, List.getElem_cons_succ, Act.put, List.setIfInBounds_toArray, List.set_cons_zero, List.set_cons_succ]
                refine WA.take (i := 25) (v := .int .i64 (p : Int)) rfl (by kernel_rfl) (by kernel_rfl) (by kernel_rfl) (fun _ _ _ h => h) (hdrop 25 (by decide)) (Or.inl ⟨by rfl, ?_⟩) (hS _) ?_
                · rintro w' ⟨L, hL, hSw, hun⟩
                  go_simp
                simp only [List.getElem_toArray, List.getElem_cons_zero, List.getElem_cons_succ, Act.put, List.setIfInBounds_toArray, List.set_cons_zero, List.set_cons_succ]
                refine WA.take (i := 26) (v := .pointer (some ⟨gr, i * 3, none⟩)) rfl (by kernel_rfl) (by kernel_rfl) (by kernel_rfl) (fun _ _ _ h => h) (hdrop 26 (by decide)) (Or.inl ⟨by rfl, ?_⟩) (hS _) ?_
                · rintro w' ⟨L, hL, hSw, hun⟩
                  go_simp
                simp only [List.getElem_toArray, List.getElem_cons_zero, List.getElem_cons_succ, Act.put, List.setIfInBounds_toArray, List.set_cons_zero, List.set_cons_succ]
                refine WA.take (i := 27) (v := .pointer (some ⟨gr, i * 3 + p, none⟩)) rfl (by kernel_rfl) (by kernel_rfl) (by kernel_rfl) (fun _ _ _ h => h) (hdrop 27 (by decide)) (Or.inl ⟨by rfl, ?_⟩) (hS _) ?_
                · rintro w' ⟨L, hL, hSw, hun⟩
                  go_simp
                  intro hh; exfalso; omega
                simp only [List.getElem_toArray, List.getElem_cons_zero, List.getElem_cons_succ, Act.put, List.setIfInBounds_toArray, List.set_cons_zero, List.set_cons_succ]
                refine WA.take (i := 28) (v := .int .u32 a2) rfl (by kernel_rfl) (by kernel_rfl) (by kernel_rfl) (fun _ _ _ h => h) (hdrop 28 (by decide)) (Or.inl ⟨by rfl, ?_⟩) (hS _) ?_
                · rintro w' ⟨L, hL, hSw, hun⟩
                  obtain rfl := hSo hSw 
                  go_simp
                simp only [List.getElem_toArray, List.getElem_cons_zero, List.getElem_cons_succ, Act.put, List.setIfInBounds_toArray, List.set_cons_zero, List.set_cons_succ]
                refine WA.take (i := 29) (v := .bool true) rfl (by kernel_rfl) (by kernel_rfl) (by kernel_rfl) (fun _ _ _ h => h) (hdrop 29 (by decide)) (Or.inl ⟨by rfl, ?_⟩) (hS _) ?_
                · rintro w' ⟨L, hL, hSw, hun⟩
                  go_simp
                simp only [List.getElem_toArray, List.getElem_cons_zero, List.getElem_cons_succ, Act.put, List.setIfInBounds_toArray, List.set_cons_zero, List.set_cons_succ]
                refine WA.take (i := 30) (v := .bool true) rfl (by kernel_rfl) (by kernel_rfl) (by kernel_rfl) (fun _ _ _ h => h) (hdrop 30 (by decide)) (Or.inl ⟨by rfl, ?_⟩) (hS _) ?_
                · rintro w' ⟨L, hL, hSw, hun⟩
                  go_simp
                simp only [List.getElem_toArray, List.getElem_cons_zero, List.getElem_cons_succ, Act.put, List.setIfInBounds_toArray, List.set_cons_zero, List.set_cons_succ]
                refine WA.take (i := 31) (v := .bool true) rfl (by kernel_rfl) (by kernel_rfl) (by kernel_rfl) (fun _ _ _ h => h) (hdrop 31 (by decide)) (Or.inl ⟨by rfl, ?_⟩) (hS _) ?_
                · rintro w' ⟨L, hL, hSw, hun⟩
                  go_simp
                simp only [List.getElem_toArray, List.getElem_cons_zero, List.getElem_cons_succ, Act.put, List.setIfInBounds_toArray, List.set_cons_zero, List.set_cons_succ]
                refine WA.take (i := 32) (v := .bool true) rfl (by kernel_rfl) (by kernel_rfl) (by kernel_rfl) (fun _ _ _ h => h) (hdrop 32 (by decide)) (Or.inl ⟨by rfl, ?_⟩) (hS _) ?_
                · rintro w' ⟨L, hL, hSw, hun⟩
                  go_simp
                simp only [List.getElem_toArray, List.getElem_cons_zero, List.getElem_cons_succ, Act.put, List.setIfInBounds_toArray, List.set_cons_zero, List.set_cons_succ]
                refine WA.done (by kernel_rfl) ?_ _
                refine Nrm.normal ?_
                go_wp2_with fail
                go_roundw
                case rel =>
                  refine ⟨k + 1, by omega, congrArg Value.bool ?_, by push_cast; rfl, HBd.out⟩
                  rw [List.range_succ, List.all_append]
                  simp only [List.all_cons, List.all_nil, Bool.and_true]
                  rw [← Bool.and_assoc, Hf.out]
                  simp only [okD, Hv4.out, hz4, Ha1.out, Ha2.out, hn4]; rfl
                case measure => simp [intOf]; omega
            · go_wp2_with fail
              have HBd := Lib.hid (HBw.out.drew)
              have c0' : wr.drew.cell? ⟨rb, 0, none⟩ = _ := c0'
              have c1' : wr.drew.cell? ⟨rb, 1, none⟩ = _ := c1'
              have d3 : wr.drew.cell? ⟨gb, k, none⟩ = _ := d3
              have e1 : wr.drew.cell? ⟨gr, k * 3 + p, none⟩ = _ := e1
              have e2 : wr.drew.cell? ⟨gr, i * 3 + p, none⟩ = _ := e2
              obtain ⟨S11, hSe⟩ : ∃ S : Array Bool → World → Prop, S = fun _ w' => w' = wr.drew := ⟨_, rfl⟩
              have hdrop : ∀ i : Nat, i ≠ 1000 → ∀ L w', S11 (L.setIfInBounds i true) w' → S11 L w' := by
                intro i _ L w' h; rw [hSe] at h ⊢; exact h
              have hS : ∀ L, S11 L wr.drew := by intro L; rw [hSe]
              have hSo : ∀ {L w'}, S11 L w' → w' = wr.drew := by intro L w' h; rw [hSe] at h; exact h
              clear hSe
              refine wp_region_LN S11 33 #[false, false, false, false, false, false, false, false, false, false, false, false, false, false, false, false, false, false, false, false, false, false, false, false, false, false, false, false, false, false, false, false, false] (by kernel_rfl) (by kernel_rfl) rfl ?_
              generalize wr.drew = W9 at *
              refine WA.take (i := 0) (v := .bool true) rfl (by kernel_rfl) (by kernel_rfl) (by kernel_rfl) (fun _ _ _ h => h) (hdrop 0 (by decide)) (Or.inl ⟨by rfl, ?_⟩) (hS _) ?_
              · rintro w' ⟨L, hL, hSw, hun⟩
                go_simp
              simp only [List.getElem_toArray, List.getElem_cons_zero, List.getElem_cons_succ, Act.put, List.setIfInBounds_toArray, List.set_cons_zero, List.set_cons_succ]
              refine WA.take (i := 1) (v := .bool true) rfl (by kernel_rfl) (by kernel_rfl) (by kernel_rfl) (fun _ _ _ h => h) (hdrop 1 (by decide)) (Or.inl ⟨by rfl, ?_⟩) (hS _) ?_
              · rintro w' ⟨L, hL, hSw, hun⟩
                go_simp
              simp only [List.getElem_toArray, List.getElem_cons_zero, List.getElem_cons_succ, Act.put, List.setIfInBounds_toArray, List.set_cons_zero, List.set_cons_succ]
              refine WA.take (i := 2) (v := .pointer (some ⟨rb, 0, none⟩)) rfl (by kernel_rfl) (by kernel_rfl) (by kernel_rfl) (fun _ _ _ h => h) (hdrop 2 (by decide)) (Or.inl ⟨by rfl, ?_⟩) (hS _) ?_
              · rintro w' ⟨L, hL, hSw, hun⟩
                go_simp
              simp only [List.getElem_toArray, List.getElem_cons_zero, List.getElem_cons_succ, Act.put, List.setIfInBounds_toArray, List.set_cons_zero, List.set_cons_succ]
              refine WA.take (i := 3) (v := .pointer (some ⟨rb, 0, none⟩)) rfl (by kernel_rfl) (by kernel_rfl) (by kernel_rfl) (fun _ _ _ h => h) (hdrop 3 (by decide)) (Or.inl ⟨by rfl, ?_⟩) (hS _) ?_
              · rintro w' ⟨L, hL, hSw, hun⟩
                go_simp
              simp only [List.getElem_toArray, List.getElem_cons_zero, List.getElem_cons_succ, Act.put, List.setIfInBounds_toArray, List.set_cons_zero, List.set_cons_succ]
              refine WA.take (i := 4) (v := .pointer (some ⟨rb, 1, none⟩)) rfl (by kernel_rfl) (by kernel_rfl) (by kernel_rfl) (fun _ _ _ h => h) (hdrop 4 (by decide)) (Or.inl ⟨by rfl, ?_⟩) (hS _) ?_
              · rintro w' ⟨L, hL, hSw, hun⟩
                go_simp
              simp only [List.getElem_toArray, List.getElem_cons_zero, List.getElem_cons_succ, Act.put, List.setIfInBounds_toArray, List.set_cons_zero, List.set_cons_succ]
              refine WA.take (i := 5) (v := .slice (some ⟨gb, 0, none⟩) l capb) rfl (by kernel_rfl) (by kernel_rfl) (by kernel_rfl) (fun _ _ _ h => h) (hdrop 5 (by decide)) (Or.inl ⟨by rfl, ?_⟩) (hS _) ?_
              · rintro w' ⟨L, hL, hSw, hun⟩
                obtain rfl := hSo hSw 
                go_simp
              simp only [List.getElem_toArray, List.getElem_cons_zero, List.getElem_cons_succ, Act.put, List.setIfInBounds_toArray, List.set_cons_zero, List.set_cons_succ]
              refine WA.take (i := 6) (v := .int .i64 (k : Int)) rfl (by kernel_rfl) (by kernel_rfl) (by kernel_rfl) (fun _ _ _ h => h) (hdrop 6 (by decide)) (Or.inl ⟨by rfl, ?_⟩) (hS _) ?_
              · rintro w' ⟨L, hL, hSw, hun⟩
                go_simp
              simp only [List.getElem_toArray, List.getElem_cons_zero, List.getElem_cons_succ, Act.put, List.setIfInBounds_toArray, List.set_cons_zero, List.set_cons_succ]
              refine WA.take (i := 7) (v := .pointer (some ⟨gb, k, none⟩)) rfl (by kernel_rfl) (by kernel_rfl) (by kernel_rfl) (fun _ _ _ h => h) (hdrop 7 (by decide)) (Or.inl ⟨by rfl, ?_⟩) (hS _) ?_
              · rintro w' ⟨L, hL, hSw, hun⟩
                go_simp
              simp only [List.getElem_toArray, List.getElem_cons_zero, List.getElem_cons_succ, Act.put, List.setIfInBounds_toArray, List.set_cons_zero, List.set_cons_succ]
              refine WA.take (i := 8) (v := .int .u8 v4) rfl (by kernel_rfl) (by kernel_rfl) (by kernel_rfl) (fun _ _ _ h => h) (hdrop 8 (by decide)) (Or.inl ⟨by rfl, ?_⟩) (hS _) ?_
              · rintro w' ⟨L, hL, hSw, hun⟩
                obtain rfl := hSo hSw 
                go_simp
              simp only [List.getElem_toArray, List.getElem_cons_zero, List.getElem_cons_succ, Act.put, List.setIfInBounds_toArray, List.set_cons_zero, List.set_cons_succ]
              refine WA.take (i := 9) (v := .bool true) rfl (by kernel_rfl) (by kernel_rfl) (by kernel_rfl) (fun _ _ _ h => h) (hdrop 9 (by decide)) (Or.inl ⟨by rfl, ?_⟩) (hS _) ?_
              · rintro w' ⟨L, hL, hSw, hun⟩
                go_simp
              simp only [List.getElem_toArray, List.getElem_cons_zero, List.getElem_cons_succ, Act.put, List.setIfInBounds_toArray, List.set_cons_zero, List.set_cons_succ]
              refine WA.take (i := 10) (v := .bool true) rfl (by kernel_rfl) (by kernel_rfl) (by kernel_rfl) (fun _ _ _ h => h) (hdrop 10 (by decide)) (Or.inl ⟨by rfl, ?_⟩) (hS _) ?_
              · rintro w' ⟨L, hL, hSw, hun⟩
                go_simp
              simp only [List.getElem_toArray, List.getElem_cons_zero, List.getElem_cons_succ, Act.put, List.setIfInBounds_toArray, List.set_cons_zero, List.set_cons_succ]
              refine WA.take (i := 11) (v := undef) rfl (by kernel_rfl) (by kernel_rfl) (by kernel_rfl) (fun _ _ _ h => h) (hdrop 11 (by decide)) (Or.inr ⟨by rfl, rfl⟩) (hS _) ?_
              simp only [List.getElem_toArray, List.getElem_cons_zero, List.getElem_cons_succ, Act.put, List.setIfInBounds_toArray, List.set_cons_zero, List.set_cons_succ]
              refine WA.take (i := 12) (v := undef) rfl (by kernel_rfl) (by kernel_rfl) (by kernel_rfl) (fun _ _ _ h => h) (hdrop 12 (by decide)) (Or.inr ⟨by rfl, rfl⟩) (hS _) ?_
              simp only [List.getElem_toArray, List.getElem_cons_zero, List.getElem_cons_succ, Act.put, List.setIfInBounds_toArray, List.set_cons_zero, List.set_cons_succ]
              refine WA.take (i := 13) (v := undef) rfl (by kernel_rfl) (by kernel_rfl) (by kernel_rfl) (fun _ _ _ h => h) (hdrop 13 (by decide)) (Or.inr ⟨by rfl, rfl⟩) (hS _) ?_
              simp only [List.getElem_toArray, List.getElem_cons_zero, List.getElem_cons_succ, Act.put, List.setIfInBounds_toArray, List.set_cons_zero, List.set_cons_succ]
              refine WA.take (i := 14) (v := undef) rfl (by kernel_rfl) (by kernel_rfl) (by kernel_rfl) (fun _ _ _ h => h) (hdrop 14 (by decide)) (Or.inr ⟨by rfl, rfl⟩) (hS _) ?_
              simp only [List.getElem_toArray, List.getElem_cons_zero, List.getElem_cons_succ, Act.put, List.setIfInBounds_toArray, List.set_cons_zero, List.set_cons_succ]
              refine WA.take (i := 15) (v := undef) rfl (by kernel_rfl) (by kernel_rfl) (by kernel_rfl) (fun _ _ _ h => h) (hdrop 15 (by decide)) (Or.inr ⟨by rfl, rfl⟩) (hS _) ?_
              simp only [List.getElem_toArray, List.getElem_cons_zero, List.getElem_cons_succ, Act.put, List.setIfInBounds_toArray, List.set_cons_zero, List.set_cons_succ]
              refine WA.take (i := 16) (v := undef) rfl (by kernel_rfl) (by kernel_rfl) (by kernel_rfl) (fun _ _ _ h => h) (hdrop 16 (by decide)) (Or.inr ⟨by rfl, rfl⟩) (hS _) ?_
              simp only [List.getElem_toArray, List.getElem_cons_zero, List.getElem_cons_succ, Act.put, List.setIfInBounds_toArray, List.set_cons_zero, List.set_cons_succ]
              refine WA.take (i := 17) (v := undef) rfl (by kernel_rfl) (by kernel_rfl) (by kernel_rfl) (fun _ _ _ h => h) (hdrop 17 (by decide)) (Or.inr ⟨by rfl, rfl⟩) (hS _) ?_
              simp only [List.getElem_toArray, List.getElem_cons_zero, List.getElem_cons_succ, Act.put, List.setIfInBounds_toArray, List.set_cons_zero, List.set_cons_succ]
              refine WA.take (i := 18) (v := undef) rfl (by kernel_rfl) (by kernel_rfl) (by kernel_rfl) (fun _ _ _ h => h) (hdrop 18 (by decide)) (Or.inr ⟨by rfl, rfl⟩) (hS _) ?_
              simp only [List.getElem_toArray, List.getElem_cons_zero, List.getElem_cons_succ, Act.put, List.setIfInBounds_toArray, List.set_cons_zero, List.set_cons_succ]
              refine WA.take (i := 19) (v := undef) rfl (by kernel_rfl) (by kernel_rfl) (by kernel_rfl) (fun _ _ _ h => h) (hdrop 19 (by decide)) (Or.inr ⟨by rfl, rfl⟩) (hS _) ?_
              simp only [List.getElem_toArray, List.getElem_cons_zero, List.getElem_cons_succ, Act.put, List.setIfInBounds_toArray, List.set_cons_zero, List.set_cons_succ]
              refine WA.take (i := 20) (v := undef) rfl (by kernel_rfl) (by kernel_rfl) (by kernel_rfl) (fun _ _ _ h => h) (hdrop 20 (by decide)) (Or.inr ⟨by rfl, rfl⟩) (hS _) ?_
              simp only [List.getElem_toArray, List.getElem_cons_zero, List.getElem_cons_succ, Act.put, List.setIfInBounds_toArray, List.set_cons_zero, List.set_cons_succ]
              refine WA.take (i := 21) (v := undef) rfl (by kernel_rfl) (by kernel_rfl) (by kernel_rfl) (fun _ _ _ h => h) (hdrop 21 (by decide)) (Or.inr ⟨by rfl, rfl⟩) (hS _) ?_
              simp only [List.getElem_toArray, List.getElem_cons_zero, List.getElem_cons_succ, Act.put, List.setIfInBounds_toArray, List.set_cons_zero, List.set_cons_succ]
              refine WA.take (i := 22) (v := undef) rfl (by kernel_rfl) (by kernel_rfl) (by kernel_rfl) (fun _ _ _ h => h) (hdrop 22 (by decide)) (Or.inr ⟨by rfl, rfl⟩) (hS _) ?_
              simp only [List.getElem_toArray, List.getElem_cons_zero, List.getElem_cons_succ, Act.put, List.setIfInBounds_toArray, List.set_cons_zero, List.set_cons_succ]
              refine WA.take (i := 23) (v := undef) rfl (by kernel_rfl) (by kernel_rfl) (by kernel_rfl) (fun _ _ _ h => h) (hdrop 23 (by decide)) (Or.inr ⟨by rfl, rfl⟩) (hS _) ?_
              simp only [List.getElem_toArray, List.getElem_cons_zero, List.getElem_cons_succ, Act.put, List.setIfInBounds_toArray, List.set_cons_zero, List.set_cons_succ]
              refine WA.take (i := 24) (v := undef) rfl (by kernel_rfl) (by kernel_rfl) (by kernel_rfl) (fun _ _ _ h => h) (hdrop 24 (by decide)) (Or.inr ⟨by rfl, rfl⟩) (hS _) ?_
              simp only [List.getElem_toArray, List.getElem_cons_zero, List.getElem_cons_succ, Act.put, List.setIfInBounds_toArray, List.set_cons_zero, List.set_cons_succ]
              refine WA.take (i := 25) (v := undef) rfl (by kernel_rfl) (by kernel_rfl) (by kernel_rfl) (fun _ _ _ h => h) (hdrop 25 (by decide)) (Or.inr ⟨by rfl, rfl⟩) (hS _) ?_
              simp only [List.getElem_toArray, List.getElem_cons_zero, List.getElem_cons_succ, Act.put, List.setIfInBounds_toArray, List.set_cons_zero, List.set_cons_succ]
              refine WA.take (i := 26) (v := undef) rfl (by kernel_rfl) (by kernel_rfl) (by kernel_rfl) (fun _ _ _ h => h) (hdrop 26 (by decide)) (Or.inr ⟨by rfl, rfl⟩) (hS _) ?_
              simp only [List.getElem_toArray, List.getElem_cons_zero, List.getElem_cons_succ, Act.put, List.setIfInBounds_toArray, List.set_cons_zero, List.set_cons_succ]
              refine WA.take (i := 27) (v := undef) rfl (by kernel_rfl) (by kernel_rfl) (by kernel_rfl) (fun _ _ _ h => h) (hdrop 27 (by decide)) (Or.inr ⟨by rfl, rfl⟩) (hS _) ?_
              simp only [List.getElem_toArray, List.getElem_cons_zero, List.getElem_cons_succ, Act.put, List.setIfInBounds_toArray, List.set_cons_zero, List.set_cons_succ]
              refine WA.take (i := 28) (v := undef) rfl (by kernel_rfl) (by kernel_rfl) (by kernel_rfl) (fun _ _ _ h => h) (hdrop 28 (by decide)) (Or.inr ⟨by rfl, rfl⟩) (hS _) ?_
              simp only [List.getElem_toArray, List.getElem_cons_zero, List.getElem_cons_succ, Act.put, List.setIfInBounds_toArray, List.set_cons_zero, List.set_cons_succ]
              refine WA.take (i := 29) (v := undef) rfl (by kernel_rfl) (by kernel_rfl) (by kernel_rfl) (fun _ _ _ h => h) (hdrop 29 (by decide)) (Or.inr ⟨by rfl, rfl⟩) (hS _) ?_
              simp only [List.getElem_toArray, List.getElem_cons_zero, List.getElem_cons_succ, Act.put, List.setIfInBounds_toArray, List.set_cons_zero, List.set_cons_succ]
              refine WA.take (i := 30) (v := .bool true) rfl (by kernel_rfl) (by kernel_rfl) (by kernel_rfl) (fun _ _ _ h => h) (hdrop 30 (by decide)) (Or.inl ⟨by rfl, ?_⟩) (hS _) ?_
              · rintro w' ⟨L, hL, hSw, hun⟩
                go_simp
              simp only [List.getElem_toArray, List.getElem_cons_zero, List.getElem_cons_succ, Act.put, List.setIfInBounds_toArray, List.set_cons_zero, List.set_cons_succ]
              refine WA.take (i := 31) (v := .bool true) rfl (by kernel_rfl) (by kernel_rfl) (by kernel_rfl) (fun _ _ _ h => h) (hdrop 31 (by decide)) (Or.inl ⟨by rfl, ?_⟩) (hS _) ?_
              · rintro w' ⟨L, hL, hSw, hun⟩
                go_simp
              simp only [List.getElem_toArray, List.getElem_cons_zero, List.getElem_cons_succ, Act.put, List.setIfInBounds_toArray, List.set_cons_zero, List.set_cons_succ]
              refine WA.take (i := 32) (v := .bool true) rfl (by kernel_rfl) (by kernel_rfl) (by kernel_rfl) (fun _ _ _ h => h) (hdrop 32 (by decide)) (Or.inl ⟨by rfl, ?_⟩) (hS _) ?_
              · rintro w' ⟨L, hL, hSw, hun⟩
                go_simp
              simp only [List.getElem_toArray, List.getElem_cons_zero, List.getElem_cons_succ, Act.put, List.setIfInBounds_toArray, List.set_cons_zero, List.set_cons_succ]
              refine WA.done (by kernel_rfl) ?_ _
              refine Nrm.normal ?_
              go_wp2_with fail
              go_roundw
              case rel =>
                refine ⟨k + 1, by omega, congrArg Value.bool ?_, by push_cast; rfl, HBd.out⟩
                rw [List.range_succ, List.all_append]
                simp only [List.all_cons, List.all_nil, Bool.and_true]
                rw [← Bool.and_assoc, Hf.out]
                simp only [okD, Hv4.out, hz4]; rfl
              case measure => simp [intOf]; omega
        · have hki' : k = i := by omega
          subst hki'
          have hd3 : decide ((k : Int) < (k : Int)) = false := by simp
          clear hIk c0' c1'
          have Hfd := Lib.hid (show firstD T p k = (v3 != 0 && (List.range k).all (okD T p k)) by unfold firstD; rw [Hv3.out])
          cases hf : (v3 != 0 && (List.range k).all (okD T p k))
          · have Hf := Lib.hid hf; clear hf hBw
            go_wp2_with fail
            go_roundw
            case rel =>
              refine ⟨k + 1, by omega, ?_, by push_cast; rfl, HBr.out.trans (HBw.out.mono HBr.out.size)⟩
              rw [List.range_succ, List.filter_append, List.length_append, Hc.out]
              simp [List.filter_cons, Hfd.out, Hf.out]
            case measure => simp [intOf]; omega
          · have Hf := Lib.hid hf; clear hf hBw
            go_wp2_with fail
            go_roundw
            case rel =>
              refine ⟨k + 1, by omega, ?_, by push_cast; rfl, HBr.out.trans (HBw.out.mono HBr.out.size)⟩
              rw [List.range_succ, List.filter_append, List.length_append, Hc.out]
              simp [List.filter_cons, Hfd.out, Hf.out]
            case measure => simp [intOf]; omega
    · have hil' : i = l := by omega
      subst hil'
      have hd : decide ((i : Int) < (i : Int)) = false := by simp
      clear hI c1
      have Hc := Lib.hid hc
      clear hc
      go_wp2_with fail
      go_ret
      exact ⟨congrArg (fun n : Nat => Ending.returned (.int .i64 (n : Int))) Hc.out.symm, HBr.out⟩
end
end Go.Proofs.Ytellmhllgmimiaa
