/- Breaking patterns by numbers drawn at, walked. -/
import Derived.Test.YtghihhjcoilmgaaV11
import Derived.Test.YtghihhjcoilmgaaV3
import Derived.Test.YtghihhjcoilmgaaV7
import Derived.Test.YtghihhjcoilmgaaV10
import Derived.Sort.Walk13a
namespace Go.Proofs.Ytghihhjcoilmgaa
set_option maxRecDepth 100000
open Go.RowKit Go.Maps Go.Sort
set_option linter.unusedVariables false
set_option linter.unusedSimpArgs false

/-- so many rounds are left; t have been made -/
def bpRest (a L M i0 : Nat) : Nat → Nat → UInt64 × Array Int → Array Int
  | 0, _, st => st.2
  | k + 1, t, st => bpRest a L M i0 k (t + 1) (breakStep a L M st (i0 + t))
theorem breakPatterns_eq (d : Array Int) (a L : Nat) (h8 : 8 ≤ L) : breakPatterns d a (a + L) = bpRest a L (1 <<< bitsLen L) (a + L / 4 * 2 - 1) 3 0 (UInt64.ofNat L, d) := by
  unfold breakPatterns
  simp only [Nat.add_sub_cancel_left]
  rw [if_pos h8]
  rfl
theorem bp_step (a L M i0 t : Nat) (r : UInt64) (d : Array Int) (o : Nat) (ht : t < 3) (ho : (if (xorNext r).toNat &&& (M - 1) ≥ L then ((xorNext r).toNat &&& (M - 1)) - L else (xorNext r).toNat &&& (M - 1)) = o) :
    bpRest a L M i0 (3 - t) t (r, d) = bpRest a L M i0 (3 - (t + 1)) (t + 1) (xorNext r, swp d (i0 + t) (a + o)) := by
  rw [show 3 - t = (3 - (t + 1)) + 1 by omega, bpRest]
  unfold breakStep
  simp only [ho]
theorem TnA.box {w a b : World} {g rb : Nat} (h : TnA w a g) (k : TnA a b rb) (hr : w.heap.size ≤ rb) : TnA w b g :=
  ⟨k.os.trans h.os, k.tape.trans h.tape, k.output.trans h.output, Nat.le_trans h.size k.size, fun i hi hn => (k.same i (Nat.lt_of_lt_of_le hi h.size) (by omega)).trans (h.same i hi hn)⟩
section
variable {w : World} {g n cap : Nat} {d : Array Int}
def BoxA (w : World) (rb R : Nat) : Prop := w.heap[rb]? = some (.cells #[.int .u64 (R : Nat)] 116 (0, 0))
set_option maxRecDepth 100000 in
set_option maxHeartbeats 8000000 in
theorem breakPatterns_u (h : IsA w g n cap d) (hn6 : n < 256) (a L : Nat) (hL : 8 ≤ L) (hb : a + L ≤ n) : Calls Try.prog 56 #[.slice (some ⟨g, 0, none⟩) n cap, .int .i64 (a : Nat), .int .i64 ((a : Int) + (L : Int))] w fun e w' => e = .returned (.tuple #[]) ∧ IsA w' g n cap (breakPatterns d a (a + L)) ∧ TnA w w' g := by
  rw [breakPatterns_eq d a L hL]
  obtain ⟨M, hM⟩ : ∃ M : Nat, M = 1 <<< bitsLen L := ⟨_, rfl⟩
  have hM1 : 1 ≤ M := by rw [hM, Nat.one_shiftLeft]; exact Nat.two_pow_pos _
  have hM2 : M ≤ 2 * L := by rw [hM, Nat.one_shiftLeft]; exact two_pow_bitsLen_le (by omega)
  have hNP : ∀ w, Calls Try.prog 66 #[.int .i64 (L : Int)] w fun e w' => e = .returned (.int .u64 (M : Int)) ∧ w = w' := by rw [hM]; exact fun w => npot_u L (by omega)
  have HNP := Lib.hid hNP
  rw [← hM]
  clear hM hNP
  obtain ⟨q, hq⟩ : ∃ q, L / 4 = q := ⟨_, rfl⟩
  obtain ⟨i0, hi0⟩ : ∃ i0, a + L / 4 * 2 - 1 = i0 := ⟨_, rfl⟩
  have hq2 : 2 ≤ q ∧ q * 4 ≤ L ∧ i0 + 1 = a + q * 2 := by omega
  obtain ⟨hq2, hq4, hi1⟩ := hq2
  have hqw : IntKind.i64.wrap ((L : Int).tdiv 4) = (q : Int) := by
    rw [Int.tdiv_eq_ediv_of_nonneg (by omega), show (L : Int) / 4 = ((L / 4 : Nat) : Int) by omega, hq]; exact i64w (by omega) (by omega)
  have hsub : (a : Int) + (L : Int) - (a : Int) = (L : Int) := by omega
  have hd8 : decide ((L : Int) ≥ 8) = true := by simp; omega
  have hd8' : decide ((8 : Int) ≤ (L : Int)) = true := by simp; omega
  rw [hi0]
  have hlt := h.lt
  have hB0 : Below w.heap.size w (w.alloc (.cells #[.int .u64 (L : Nat)] 116)) := (Below.refl _ w).alloc (Nat.le_refl _) _
  have hX0 : BoxA (w.alloc (.cells #[.int .u64 (L : Nat)] 116)) w.heap.size L := heap_alloc_new w _
  have HA := Lib.hid (h.below hB0)
  have HT := Lib.hid (TnA.below (g := g) hB0)
  have HX := Lib.hid hX0
  have Hi0 := Lib.hid hi0
  have hne : g ≠ w.heap.size := by omega
  have hu : IntKind.u64.wrap (L : Int) = (L : Int) := IntWalk.u64_in _ (by omega)
  clear h hB0 hX0 hi0 hqw
  go_enter Try.func56, Try.ntmps56
  go_wp2_with fail
  refine (HNP.out _).mono ?_
  rintro e wz ⟨rfl, rfl⟩
  generalize w.alloc (.cells #[.int .u64 (L : Nat)] 116) = w1 at *
  go_wp2_with fail
  go_loopw [9] (fun u wr => ∃ (t : Nat) (r : UInt64) (dk : Array Int), u = .int .i64 ((i0 : Int) + (t : Int)) ∧ t ≤ 3 ∧ IsA wr g n cap dk ∧ TnA w wr g ∧ BoxA wr w.heap.size r.toNat ∧
      bpRest a L M i0 (3 - t) t (r, dk) = bpRest a L M i0 3 0 (UInt64.ofNat L, d)) (fun u _ => a + q * 2 + 3 - (intOf u).toNat)
  case atStart => exact ⟨0, UInt64.ofNat L, d, by congr 1; push_cast; omega, by omega, HA.out, HT.out, by rw [show (UInt64.ofNat L).toNat = L from by simp; omega]; exact HX.out, rfl⟩
  case round =>
    rename World => w2
    obtain ⟨t, r, dk, rfl, ht, hA, hT, hX, hR⟩ := hrel
    have HA2 := Lib.hid hA; have HT2 := Lib.hid hT; have HX2 := Lib.hid hX; have HR := Lib.hid hR
    clear hA hT hX hR HA HT HX
    by_cases h3 : t < 3
    · have hd : decide ((i0 : Int) + (t : Int) ≤ (a : Int) + (L : Int) / 4 * 2 + 1) = true := by simp; omega
      obtain ⟨R', hR'⟩ : ∃ R' : Nat, R' = xorNextN r.toNat := ⟨_, rfl⟩
      have lR : r.toNat < 18446744073709551616 := r.toNat_lt
      have lR' : R' < 18446744073709551616 := by rw [hR']; exact xorNextN_lt _ lR
      obtain ⟨O, hO⟩ : ∃ O : Nat, O = R' &&& (M - 1) := ⟨_, rfl⟩
      have lO : O ≤ M - 1 := by rw [hO]; exact Nat.and_le_right
      have eAnd : bits .and .u64 (R' : Int) ((M : Int) - 1) = (O : Int) := by
        rw [show ((M : Int) - 1) = ((M - 1 : Nat) : Int) by omega, bits_and_u64_nat _ _ lR' (by omega), hO]
      have hx := xor_u w.heap.size r.toNat lR HX2.out
      rw [← hR'] at hx
      have HR' := Lib.hid hR'; have HO := Lib.hid hO
      clear hR' hO
      have Hx := Lib.hid hx
      clear hx
      go_wp2_with fail
      refine Hx.out.mono ?_
      rintro e w3 ⟨rfl, hb3, ht3⟩
      have HX3 := Lib.hid (show BoxA w3 w.heap.size R' from hb3); have HT3 := Lib.hid (HT2.out.box ht3 (Nat.le_refl _)); have HA3 := Lib.hid (HA2.out.stay (ht3.same g HA2.out.lt hne))
      clear hb3 ht3
      by_cases hLO : L ≤ O
      · obtain ⟨o, ho⟩ : ∃ o, o = O - L := ⟨_, rfl⟩
        have hoi : (O : Int) - (L : Int) = (o : Int) := by omega
        have ho2 : (if (xorNext r).toNat &&& (M - 1) ≥ L then ((xorNext r).toNat &&& (M - 1)) - L else (xorNext r).toNat &&& (M - 1)) = o := by
          rw [xorNext_toNat, ← HR'.out, ← HO.out, if_pos hLO, ho]
        have hoL : a + o < n := by omega
        have Ho2 := Lib.hid ho2
        have hdL : decide ((O : Int) ≥ (L : Int)) = true := by simp; omega
        have hdL' : decide ((L : Int) ≤ (O : Int)) = true := by simp; omega
        clear ho ho2
        go_wp2_with fail
        have HA_X4 := Lib.hid (show IsA w3.drew g n cap dk from HA3.out.stay rfl)
        have c0 : w3.drew.cell? ⟨g, a + o, none⟩ = some (.int .u32 dk[a + o]!) := (HA_X4.out.at (j := a + o) (by omega)).1
        have c1 : w3.drew.cell? ⟨g, i0 + t, none⟩ = some (.int .u32 dk[i0 + t]!) := (HA_X4.out.at (j := i0 + t) (by omega)).1
        obtain ⟨SW, hSe⟩ : ∃ S : Array Bool → World → Prop, S = fun L w' => L.getD 17 true = false → w' = w3.drew := ⟨_, rfl⟩
        have hdrop : ∀ i, i ≠ 17 → ∀ L w', SW (L.setIfInBounds i true) w' → SW L w' := by
          intro i hi L w'
          rw [hSe]
          intro h hl
          exact h (by rw [getD_set_ne true hi]; exact hl)
        have hS : ∀ L, SW L w3.drew := by intro L; rw [hSe]; exact fun _ => rfl
        have hSo : ∀ {L w'}, SW L w' → L.getD 17 true = false → w' = w3.drew := by intro L w' h hl; rw [hSe] at h; exact h hl
        have hSd : ∀ (L : Array Bool) X, L.getD 17 true = true → SW L X := by
          intro L X h; rw [hSe]; intro h1; rw [h] at h1; cases h1
        clear hSe
        refine wp_region_LN SW 20 #[false, false, false, false, false, false, false, false, false, false, false, false, false, false, false, false, false, false, false, false] (by kernel_rfl) (by kernel_rfl) rfl ?_
        obtain ⟨X4, hX4⟩ : ∃ X4, X4 = w3.drew := ⟨_, rfl⟩
        rw [← hX4] at c0 c1 HA_X4 hSo hS ⊢
        have HX4 := Lib.hid hX4
        clear hX4
        refine WA.tk (i := 0) (v := .slice (some ⟨g, 0, none⟩) n cap) rfl (hdrop 0 (by decide)) (Or.inl ⟨by rfl, ?_⟩) (hS _) ?_
        · rintro w' ⟨L, hL, hSw, hun⟩
          go_simp
        simp only [nA, nB, nC, Act.put, nD, nE, nF]
        refine WA.tk (i := 1) (v := .int .i64 ((i0 + t : Nat) : Int)) rfl (hdrop 1 (by decide)) (Or.inl ⟨by rfl, ?_⟩) (hS _) ?_
        · rintro w' ⟨L, hL, hSw, hun⟩
          go_simp
          all_goals omega
        simp only [nA, nB, nC, Act.put, nD, nE, nF]
        refine WA.tk (i := 2) (v := .slice (some ⟨g, 0, none⟩) n cap) rfl (hdrop 2 (by decide)) (Or.inl ⟨by rfl, ?_⟩) (hS _) ?_
        · rintro w' ⟨L, hL, hSw, hun⟩
          go_simp
        simp only [nA, nB, nC, Act.put, nD, nE, nF]
        refine WA.tk (i := 3) (v := .int .i64 ((a : Nat) : Int)) rfl (hdrop 3 (by decide)) (Or.inl ⟨by rfl, ?_⟩) (hS _) ?_
        · rintro w' ⟨L, hL, hSw, hun⟩
          go_simp
          all_goals omega
        simp only [nA, nB, nC, Act.put, nD, nE, nF]
        refine WA.tk (i := 4) (v := .int .i64 ((o : Nat) : Int)) rfl (hdrop 4 (by decide)) (Or.inl ⟨by rfl, ?_⟩) (hS _) ?_
        · rintro w' ⟨L, hL, hSw, hun⟩
          go_simp
          all_goals omega
        simp only [nA, nB, nC, Act.put, nD, nE, nF]
        refine WA.tk (i := 5) (v := .int .i64 ((a + o : Nat) : Int)) rfl (hdrop 5 (by decide)) (Or.inl ⟨by rfl, ?_⟩) (hS _) ?_
        · rintro w' ⟨L, hL, hSw, hun⟩
          go_simp
          all_goals (exact i64w (by omega) (by omega))
        simp only [nA, nB, nC, Act.put, nD, nE, nF]
        refine WA.tk (i := 6) (v := .slice (some ⟨g, 0, none⟩) n cap) rfl (hdrop 6 (by decide)) (Or.inl ⟨by rfl, ?_⟩) (hS _) ?_
        · rintro w' ⟨L, hL, hSw, hun⟩
          go_simp
        simp only [nA, nB, nC, Act.put, nD, nE, nF]
        refine WA.tk (i := 7) (v := .int .i64 ((a : Nat) : Int)) rfl (hdrop 7 (by decide)) (Or.inl ⟨by rfl, ?_⟩) (hS _) ?_
        · rintro w' ⟨L, hL, hSw, hun⟩
          go_simp
          all_goals omega
        simp only [nA, nB, nC, Act.put, nD, nE, nF]
        refine WA.tk (i := 8) (v := .int .i64 ((o : Nat) : Int)) rfl (hdrop 8 (by decide)) (Or.inl ⟨by rfl, ?_⟩) (hS _) ?_
        · rintro w' ⟨L, hL, hSw, hun⟩
          go_simp
          all_goals omega
        simp only [nA, nB, nC, Act.put, nD, nE, nF]
        refine WA.tk (i := 9) (v := .int .i64 ((a + o : Nat) : Int)) rfl (hdrop 9 (by decide)) (Or.inl ⟨by rfl, ?_⟩) (hS _) ?_
        · rintro w' ⟨L, hL, hSw, hun⟩
          go_simp
          all_goals (exact i64w (by omega) (by omega))
        simp only [nA, nB, nC, Act.put, nD, nE, nF]
        refine WA.tk (i := 10) (v := .pointer (some ⟨g, a + o, none⟩)) rfl (hdrop 10 (by decide)) (Or.inl ⟨by rfl, ?_⟩) (hS _) ?_
        · rintro w' ⟨L, hL, hSw, hun⟩
          go_simp
          all_goals first | (intro h5; omega) | (rw [if_pos (by omega)]; exact ptrOk (by omega))
        simp only [nA, nB, nC, Act.put, nD, nE, nF]
        refine WA.tk (i := 11) (v := .int .u32 dk[a + o]!) rfl (hdrop 11 (by decide)) (Or.inl ⟨by rfl, ?_⟩) (hS _) ?_
        · rintro w' ⟨L, hL, hSw, hun⟩
          obtain rfl := hSo hSw (hL.wait 17 11 (by kernel_rfl) hun)
          go_simp
        simp only [nA, nB, nC, Act.put, nD, nE, nF]
        refine WA.tk (i := 12) (v := .slice (some ⟨g, 0, none⟩) n cap) rfl (hdrop 12 (by decide)) (Or.inl ⟨by rfl, ?_⟩) (hS _) ?_
        · rintro w' ⟨L, hL, hSw, hun⟩
          go_simp
        simp only [nA, nB, nC, Act.put, nD, nE, nF]
        refine WA.tk (i := 13) (v := .int .i64 ((i0 + t : Nat) : Int)) rfl (hdrop 13 (by decide)) (Or.inl ⟨by rfl, ?_⟩) (hS _) ?_
        · rintro w' ⟨L, hL, hSw, hun⟩
          go_simp
          all_goals omega
        simp only [nA, nB, nC, Act.put, nD, nE, nF]
        refine WA.tk (i := 14) (v := .pointer (some ⟨g, i0 + t, none⟩)) rfl (hdrop 14 (by decide)) (Or.inl ⟨by rfl, ?_⟩) (hS _) ?_
        · rintro w' ⟨L, hL, hSw, hun⟩
          go_simp
          all_goals first | (intro h5; omega) | (rw [if_pos (by omega)]; exact ptrOk (by omega))
        simp only [nA, nB, nC, Act.put, nD, nE, nF]
        refine WA.tk (i := 15) (v := .int .u32 dk[i0 + t]!) rfl (hdrop 15 (by decide)) (Or.inl ⟨by rfl, ?_⟩) (hS _) ?_
        · rintro w' ⟨L, hL, hSw, hun⟩
          obtain rfl := hSo hSw (hL.wait 17 15 (by kernel_rfl) hun)
          go_simp
        simp only [nA, nB, nC, Act.put, nD, nE, nF]
        refine WA.tk (i := 16) (v := .pointer (some ⟨g, i0 + t, none⟩)) rfl (hdrop 16 (by decide)) (Or.inl ⟨by rfl, ?_⟩) (hS _) ?_
        · rintro w' ⟨L, hL, hSw, hun⟩
          go_simp
          all_goals first | (intro h5; omega) | (rw [if_pos (by omega)]; exact ptrOk (by omega))
        simp only [nA, nB, nC, Act.put, nD, nE, nF]
        obtain ⟨cx, fx⟩ := HA_X4.out.at (j := i0 + t) (by omega)
        obtain ⟨cy, fy⟩ := (HA_X4.out.set (j := i0 + t) (by omega) dk[a + o]!).at (j := a + o) (by omega)
        refine WA.one (i := 17) (by kernel_rfl) rfl (by rfl) (fun K hK => ?_)
        go_simp
        refine hK _ _ (hSd _ _ (by rfl)) ?_
        clear hK
        try simp only [nA, nB, nC, Act.put, nD, nE, nF]
        refine WA.tk (i := 18) (v := .pointer (some ⟨g, a + o, none⟩)) rfl (hdrop 18 (by decide)) (Or.inl ⟨by rfl, ?_⟩) (hSd _ _ (by rfl)) ?_
        · rintro w' ⟨L, hL, hSw, hun⟩
          go_simp
          all_goals first | (intro h5; omega) | (rw [if_pos (by omega)]; exact ptrOk (by omega))
        simp only [nA, nB, nC, Act.put, nD, nE, nF]
        refine WA.one (i := 19) (by kernel_rfl) rfl (by rfl) (fun K hK => ?_)
        go_simp
        refine hK _ _ (hSd _ _ (by rfl)) ?_
        clear hK
        try simp only [nA, nB, nC, Act.put, nD, nE, nF]
        refine WA.done (by kernel_rfl) ?_ _
        refine Nrm.normal ?_
        clear hSo hS hdrop c0 c1 hSd cx fx cy fy
        clear SW

        go_wp2_with fail
        refine ⟨⟨t + 1, xorNext r, swp dk (i0 + t) (a + o), by first | rfl | (congr 1; push_cast; omega), by omega, HA_X4.out.swp (by omega) (by omega), ?_, ?_, ?_⟩, by simp [intOf]; try omega⟩
        · have ht := HT3.out.drew
          rw [← HX4.out] at ht
          exact (ht.set _ _).set _ _
        · have hb4 : BoxA X4 w.heap.size (xorNext r).toNat := by rw [HX4.out, xorNext_toNat, ← HR'.out]; exact HX3.out
          exact ((Below.heap_setCell _ ⟨g, _, none⟩ _ _ (Ne.symm hne)).trans (Below.heap_setCell _ ⟨g, _, none⟩ _ _ (Ne.symm hne))).trans hb4
        · rw [← HR.out]
          exact (bp_step a L M i0 t r dk o h3 Ho2.out).symm
      · have ho2 : (if (xorNext r).toNat &&& (M - 1) ≥ L then ((xorNext r).toNat &&& (M - 1)) - L else (xorNext r).toNat &&& (M - 1)) = O := by
          rw [xorNext_toNat, ← HR'.out, ← HO.out, if_neg hLO]
        have hoL : a + O < n := by omega
        have Ho2 := Lib.hid ho2
        have hdL : decide ((O : Int) ≥ (L : Int)) = false := by simp; omega
        have hdL' : decide ((L : Int) ≤ (O : Int)) = false := by simp; omega
        clear ho2
        go_wp2_with fail
        have HA_X4 := Lib.hid (show IsA w3.drew g n cap dk from HA3.out.stay rfl)
        have c0 : w3.drew.cell? ⟨g, a + O, none⟩ = some (.int .u32 dk[a + O]!) := (HA_X4.out.at (j := a + O) (by omega)).1
        have c1 : w3.drew.cell? ⟨g, i0 + t, none⟩ = some (.int .u32 dk[i0 + t]!) := (HA_X4.out.at (j := i0 + t) (by omega)).1
        obtain ⟨SW, hSe⟩ : ∃ S : Array Bool → World → Prop, S = fun L w' => L.getD 17 true = false → w' = w3.drew := ⟨_, rfl⟩
        have hdrop : ∀ i, i ≠ 17 → ∀ L w', SW (L.setIfInBounds i true) w' → SW L w' := by
          intro i hi L w'
          rw [hSe]
          intro h hl
          exact h (by rw [getD_set_ne true hi]; exact hl)
        have hS : ∀ L, SW L w3.drew := by intro L; rw [hSe]; exact fun _ => rfl
        have hSo : ∀ {L w'}, SW L w' → L.getD 17 true = false → w' = w3.drew := by intro L w' h hl; rw [hSe] at h; exact h hl
        have hSd : ∀ (L : Array Bool) X, L.getD 17 true = true → SW L X := by
          intro L X h; rw [hSe]; intro h1; rw [h] at h1; cases h1
        clear hSe
        refine wp_region_LN SW 20 #[false, false, false, false, false, false, false, false, false, false, false, false, false, false, false, false, false, false, false, false] (by kernel_rfl) (by kernel_rfl) rfl ?_
        obtain ⟨X4, hX4⟩ : ∃ X4, X4 = w3.drew := ⟨_, rfl⟩
        rw [← hX4] at c0 c1 HA_X4 hSo hS ⊢
        have HX4 := Lib.hid hX4
        clear hX4
        refine WA.tk (i := 0) (v := .slice (some ⟨g, 0, none⟩) n cap) rfl (hdrop 0 (by decide)) (Or.inl ⟨by rfl, ?_⟩) (hS _) ?_
        · rintro w' ⟨L, hL, hSw, hun⟩
          go_simp
        simp only [nA, nB, nC, Act.put, nD, nE, nF]
        refine WA.tk (i := 1) (v := .int .i64 ((i0 + t : Nat) : Int)) rfl (hdrop 1 (by decide)) (Or.inl ⟨by rfl, ?_⟩) (hS _) ?_
        · rintro w' ⟨L, hL, hSw, hun⟩
          go_simp
          all_goals omega
        simp only [nA, nB, nC, Act.put, nD, nE, nF]
        refine WA.tk (i := 2) (v := .slice (some ⟨g, 0, none⟩) n cap) rfl (hdrop 2 (by decide)) (Or.inl ⟨by rfl, ?_⟩) (hS _) ?_
        · rintro w' ⟨L, hL, hSw, hun⟩
          go_simp
        simp only [nA, nB, nC, Act.put, nD, nE, nF]
        refine WA.tk (i := 3) (v := .int .i64 ((a : Nat) : Int)) rfl (hdrop 3 (by decide)) (Or.inl ⟨by rfl, ?_⟩) (hS _) ?_
        · rintro w' ⟨L, hL, hSw, hun⟩
          go_simp
          all_goals omega
        simp only [nA, nB, nC, Act.put, nD, nE, nF]
        refine WA.tk (i := 4) (v := .int .i64 ((O : Nat) : Int)) rfl (hdrop 4 (by decide)) (Or.inl ⟨by rfl, ?_⟩) (hS _) ?_
        · rintro w' ⟨L, hL, hSw, hun⟩
          go_simp
          all_goals omega
        simp only [nA, nB, nC, Act.put, nD, nE, nF]
        refine WA.tk (i := 5) (v := .int .i64 ((a + O : Nat) : Int)) rfl (hdrop 5 (by decide)) (Or.inl ⟨by rfl, ?_⟩) (hS _) ?_
        · rintro w' ⟨L, hL, hSw, hun⟩
          go_simp
          all_goals (exact i64w (by omega) (by omega))
        simp only [nA, nB, nC, Act.put, nD, nE, nF]
        refine WA.tk (i := 6) (v := .slice (some ⟨g, 0, none⟩) n cap) rfl (hdrop 6 (by decide)) (Or.inl ⟨by rfl, ?_⟩) (hS _) ?_
        · rintro w' ⟨L, hL, hSw, hun⟩
          go_simp
        simp only [nA, nB, nC, Act.put, nD, nE, nF]
        refine WA.tk (i := 7) (v := .int .i64 ((a : Nat) : Int)) rfl (hdrop 7 (by decide)) (Or.inl ⟨by rfl, ?_⟩) (hS _) ?_
        · rintro w' ⟨L, hL, hSw, hun⟩
          go_simp
          all_goals omega
        simp only [nA, nB, nC, Act.put, nD, nE, nF]
        refine WA.tk (i := 8) (v := .int .i64 ((O : Nat) : Int)) rfl (hdrop 8 (by decide)) (Or.inl ⟨by rfl, ?_⟩) (hS _) ?_
        · rintro w' ⟨L, hL, hSw, hun⟩
          go_simp
          all_goals omega
        simp only [nA, nB, nC, Act.put, nD, nE, nF]
        refine WA.tk (i := 9) (v := .int .i64 ((a + O : Nat) : Int)) rfl (hdrop 9 (by decide)) (Or.inl ⟨by rfl, ?_⟩) (hS _) ?_
        · rintro w' ⟨L, hL, hSw, hun⟩
          go_simp
          all_goals (exact i64w (by omega) (by omega))
        simp only [nA, nB, nC, Act.put, nD, nE, nF]
        refine WA.tk (i := 10) (v := .pointer (some ⟨g, a + O, none⟩)) rfl (hdrop 10 (by decide)) (Or.inl ⟨by rfl, ?_⟩) (hS _) ?_
        · rintro w' ⟨L, hL, hSw, hun⟩
          go_simp
          all_goals first | (intro h5; omega) | (rw [if_pos (by omega)]; exact ptrOk (by omega))
        simp only [nA, nB, nC, Act.put, nD, nE, nF]
        refine WA.tk (i := 11) (v := .int .u32 dk[a + O]!) rfl (hdrop 11 (by decide)) (Or.inl ⟨by rfl, ?_⟩) (hS _) ?_
        · rintro w' ⟨L, hL, hSw, hun⟩
          obtain rfl := hSo hSw (hL.wait 17 11 (by kernel_rfl) hun)
          go_simp
        simp only [nA, nB, nC, Act.put, nD, nE, nF]
        refine WA.tk (i := 12) (v := .slice (some ⟨g, 0, none⟩) n cap) rfl (hdrop 12 (by decide)) (Or.inl ⟨by rfl, ?_⟩) (hS _) ?_
        · rintro w' ⟨L, hL, hSw, hun⟩
          go_simp
        simp only [nA, nB, nC, Act.put, nD, nE, nF]
        refine WA.tk (i := 13) (v := .int .i64 ((i0 + t : Nat) : Int)) rfl (hdrop 13 (by decide)) (Or.inl ⟨by rfl, ?_⟩) (hS _) ?_
        · rintro w' ⟨L, hL, hSw, hun⟩
          go_simp
          all_goals omega
        simp only [nA, nB, nC, Act.put, nD, nE, nF]
        refine WA.tk (i := 14) (v := .pointer (some ⟨g, i0 + t, none⟩)) rfl (hdrop 14 (by decide)) (Or.inl ⟨by rfl, ?_⟩) (hS _) ?_
        · rintro w' ⟨L, hL, hSw, hun⟩
          go_simp
          all_goals first | (intro h5; omega) | (rw [if_pos (by omega)]; exact ptrOk (by omega))
        simp only [nA, nB, nC, Act.put, nD, nE, nF]
        refine WA.tk (i := 15) (v := .int .u32 dk[i0 + t]!) rfl (hdrop 15 (by decide)) (Or.inl ⟨by rfl, ?_⟩) (hS _) ?_
        · rintro w' ⟨L, hL, hSw, hun⟩
          obtain rfl := hSo hSw (hL.wait 17 15 (by kernel_rfl) hun)
          go_simp
        simp only [nA, nB, nC, Act.put, nD, nE, nF]
        refine WA.tk (i := 16) (v := .pointer (some ⟨g, i0 + t, none⟩)) rfl (hdrop 16 (by decide)) (Or.inl ⟨by rfl, ?_⟩) (hS _) ?_
        · rintro w' ⟨L, hL, hSw, hun⟩
          go_simp
          all_goals first | (intro h5; omega) | (rw [if_pos (by omega)]; exact ptrOk (by omega))
        simp only [nA, nB, nC, Act.put, nD, nE, nF]
        obtain ⟨cx, fx⟩ := HA_X4.out.at (j := i0 + t) (by omega)
        obtain ⟨cy, fy⟩ := (HA_X4.out.set (j := i0 + t) (by omega) dk[a + O]!).at (j := a + O) (by omega)
        refine WA.one (i := 17) (by kernel_rfl) rfl (by rfl) (fun K hK => ?_)
        go_simp
        refine hK _ _ (hSd _ _ (by rfl)) ?_
        clear hK
        try simp only [nA, nB, nC, Act.put, nD, nE, nF]
        refine WA.tk (i := 18) (v := .pointer (some ⟨g, a + O, none⟩)) rfl (hdrop 18 (by decide)) (Or.inl ⟨by rfl, ?_⟩) (hSd _ _ (by rfl)) ?_
        · rintro w' ⟨L, hL, hSw, hun⟩
          go_simp
          all_goals first | (intro h5; omega) | (rw [if_pos (by omega)]; exact ptrOk (by omega))
        simp only [nA, nB, nC, Act.put, nD, nE, nF]
        refine WA.one (i := 19) (by kernel_rfl) rfl (by rfl) (fun K hK => ?_)
        go_simp
        refine hK _ _ (hSd _ _ (by rfl)) ?_
        clear hK
        try simp only [nA, nB, nC, Act.put, nD, nE, nF]
        refine WA.done (by kernel_rfl) ?_ _
        refine Nrm.normal ?_
        clear hSo hS hdrop c0 c1 hSd cx fx cy fy
        clear SW

        go_wp2_with fail
        refine ⟨⟨t + 1, xorNext r, swp dk (i0 + t) (a + O), by first | rfl | (congr 1; push_cast; omega), by omega, HA_X4.out.swp (by omega) (by omega), ?_, ?_, ?_⟩, by simp [intOf]; try omega⟩
        · have ht := HT3.out.drew
          rw [← HX4.out] at ht
          exact (ht.set _ _).set _ _
        · have hb4 : BoxA X4 w.heap.size (xorNext r).toNat := by rw [HX4.out, xorNext_toNat, ← HR'.out]; exact HX3.out
          exact ((Below.heap_setCell _ ⟨g, _, none⟩ _ _ (Ne.symm hne)).trans (Below.heap_setCell _ ⟨g, _, none⟩ _ _ (Ne.symm hne))).trans hb4
        · rw [← HR.out]
          exact (bp_step a L M i0 t r dk O h3 Ho2.out).symm
    · have ht3 : t = 3 := by omega
      have hd : decide ((i0 : Int) + (t : Int) ≤ (a : Int) + (L : Int) / 4 * 2 + 1) = false := by simp; omega
      go_wp2_with fail
      (try simp only [Exit.inBlock, Exit.then]); refine bodyPost_end (results_none rfl _ _ _) rfl ?_
      have hr := HR.out
      subst ht3
      refine ⟨rfl, ?_, HT2.out⟩
      rw [← hr]
      exact HA2.out
theorem breakPatterns_ub (h : IsA w g n cap d) (hn6 : n < 256) (a b : Nat) (hab : a + 8 ≤ b) (hb : b ≤ n) : Calls Try.prog 56 #[.slice (some ⟨g, 0, none⟩) n cap, .int .i64 (a : Nat), .int .i64 (b : Nat)] w fun e w' => e = .returned (.tuple #[]) ∧ IsA w' g n cap (breakPatterns d a b) ∧ TnA w w' g := by
  obtain ⟨L, rfl⟩ : ∃ L, b = a + L := ⟨b - a, by omega⟩
  have hc := breakPatterns_u h hn6 a L (by omega) hb
  push_cast
  exact hc

end
end Go.Proofs.Ytghihhjcoilmgaa
