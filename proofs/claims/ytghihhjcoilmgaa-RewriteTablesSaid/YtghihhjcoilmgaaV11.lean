/- The next of the numbers drawn at, walked. -/
import Derived.Test.YtghihhjcoilmgaaV1
import Derived.IntWalk
import Derived.Sort.LotD5
import Derived.Laws.Bits64
namespace Go.Proofs.Ytghihhjcoilmgaa
set_option maxRecDepth 100000
open Go.RowKit Go.Maps Go.Sort
set_option linter.unusedVariables false
set_option linter.unusedSimpArgs false

theorem xbox {W : World} {b : Nat} {v : Value} {t : TypeId} (h : W.heap[b]? = some (.cells #[v] t (0, 0))) : W.cell? ⟨b, 0, none⟩ = some v ∧ W.frozen? ⟨b, 0, none⟩ = false ∧ ∀ u, (W.setCell ⟨b, 0, none⟩ u).heap[b]? = some (.cells #[u] t (0, 0)) := by
  refine ⟨by unfold World.cell?; rw [h]; rfl, by unfold World.frozen?; rw [h]; simp, fun u => ?_⟩
  unfold World.setCell
  simp only [Array.getElem?_modify, if_true, h]
  rfl
set_option maxRecDepth 100000 in
set_option maxHeartbeats 4000000 in
theorem xor_u {w : World} {t : TypeId} (rb X : Nat) (hX : X < 18446744073709551616) (hb : w.heap[rb]? = some (.cells #[.int .u64 (X : Nat)] t (0, 0))) : Calls Try.prog 67 #[.pointer (some ⟨rb, 0, none⟩)] w fun e w' =>
    e = .returned (.int .u64 (xorNextN X : Nat)) ∧ w'.heap[rb]? = some (.cells #[.int .u64 (xorNextN X : Nat)] t (0, 0)) ∧ TnA w w' rb := by
  obtain ⟨A, hA⟩ : ∃ A : Nat, A = X ^^^ (X * 8192 % 18446744073709551616) := ⟨_, rfl⟩
  obtain ⟨B, hB⟩ : ∃ B : Nat, B = A ^^^ (A / 128) := ⟨_, rfl⟩
  obtain ⟨C, hC⟩ : ∃ C : Nat, C = B ^^^ (B * 131072 % 18446744073709551616) := ⟨_, rfl⟩
  have lA : A < 18446744073709551616 := by rw [hA]; exact Nat.xor_lt_two_pow (n := 64) (by omega) (by omega)
  have lB : B < 18446744073709551616 := by rw [hB]; exact Nat.xor_lt_two_pow (n := 64) (by omega) (by omega)
  have e1 : bits .xor .u64 (X : Int) (IntKind.u64.wrap ((X : Int) * 8192)) = (A : Int) := by
    rw [IntKind.wrap_u64, show ((X : Int) * 8192 % 18446744073709551616) = ((X * 8192 % 18446744073709551616 : Nat) : Int) by omega, bits_xor_u64_nat _ _ hX (by omega), hA]
  have e2 : bits .xor .u64 (A : Int) ((A : Int) / 128) = (B : Int) := by
    rw [show ((A : Int) / 128) = ((A / 128 : Nat) : Int) by omega, bits_xor_u64_nat _ _ lA (by omega), hB]
  have e3 : bits .xor .u64 (B : Int) (IntKind.u64.wrap ((B : Int) * 131072)) = (C : Int) := by
    rw [IntKind.wrap_u64, show ((B : Int) * 131072 % 18446744073709551616) = ((B * 131072 % 18446744073709551616 : Nat) : Int) by omega, bits_xor_u64_nat _ _ lB (by omega), hC]
  have hv : xorNextN X = C := by unfold xorNextN; simp only []; rw [← hA, ← hB, ← hC]
  rw [hv]
  clear hA hB hC hv
  have Hb := Lib.hid hb
  obtain ⟨c1, f1, -⟩ := xbox hb
  clear hb
  go_enter Try.func67, Try.ntmps67
  go_wp2_with fail
  have cx : w.drew.cell? ⟨rb, 0, none⟩ = some (.int .u64 ((X : Nat) : Int)) := c1
  have fx : w.drew.frozen? ⟨rb, 0, none⟩ = false := f1
  obtain ⟨S1, hSe⟩ : ∃ S : Array Bool → World → Prop, S = fun L w' => L.getD 9 true = false → w' = w.drew := ⟨_, rfl⟩
  have hdrop : ∀ i, i ≠ 9 → ∀ L w', S1 (L.setIfInBounds i true) w' → S1 L w' := by
    intro i hi L w'
    rw [hSe]
    intro h hl
    exact h (by rw [getD_set_ne true hi]; exact hl)
  have hS : ∀ L, S1 L w.drew := by intro L; rw [hSe]; exact fun _ => rfl
  have hSo : ∀ {L w'}, S1 L w' → L.getD 9 true = false → w' = w.drew := by intro L w' h hl; rw [hSe] at h; exact h hl
  have hSd : ∀ (L : Array Bool) X, L.getD 9 true = true → S1 L X := by
    intro L X h; rw [hSe]; intro h1; rw [h] at h1; cases h1
  clear hSe
  refine wp_region_LN S1 10 #[false, false, false, false, false, false, false, false, false, false] (by kernel_rfl) (by kernel_rfl) rfl ?_
  obtain ⟨X1, hX1⟩ : ∃ X1, X1 = w.drew := ⟨_, rfl⟩
  rw [← hX1] at cx fx hSo hS ⊢
  have HX1 := Lib.hid hX1
  clear hX1
  refine WA.tk (i := 0) (v := .pointer (some ⟨rb, 0, none⟩)) rfl (hdrop 0 (by decide)) (Or.inl ⟨by rfl, ?_⟩) (hS _) ?_
  · rintro w' ⟨L, hL, hSw, hun⟩
    go_simp
  simp only [nA, nB, nC, Act.put, nD, nE, nF]
  refine WA.tk (i := 1) (v := .pointer (some ⟨rb, 0, none⟩)) rfl (hdrop 1 (by decide)) (Or.inl ⟨by rfl, ?_⟩) (hS _) ?_
  · rintro w' ⟨L, hL, hSw, hun⟩
    go_simp
  simp only [nA, nB, nC, Act.put, nD, nE, nF]
  refine WA.tk (i := 2) (v := .int .u64 ((X : Nat) : Int)) rfl (hdrop 2 (by decide)) (Or.inl ⟨by rfl, ?_⟩) (hS _) ?_
  · rintro w' ⟨L, hL, hSw, hun⟩
    obtain rfl := hSo hSw (hL.wait 9 2 (by kernel_rfl) hun)
    go_simp
  simp only [nA, nB, nC, Act.put, nD, nE, nF]
  refine WA.tk (i := 3) (v := .pointer (some ⟨rb, 0, none⟩)) rfl (hdrop 3 (by decide)) (Or.inl ⟨by rfl, ?_⟩) (hS _) ?_
  · rintro w' ⟨L, hL, hSw, hun⟩
    go_simp
  simp only [nA, nB, nC, Act.put, nD, nE, nF]
  refine WA.tk (i := 4) (v := .pointer (some ⟨rb, 0, none⟩)) rfl (hdrop 4 (by decide)) (Or.inl ⟨by rfl, ?_⟩) (hS _) ?_
  · rintro w' ⟨L, hL, hSw, hun⟩
    go_simp
  simp only [nA, nB, nC, Act.put, nD, nE, nF]
  refine WA.tk (i := 5) (v := .int .u64 ((X : Nat) : Int)) rfl (hdrop 5 (by decide)) (Or.inl ⟨by rfl, ?_⟩) (hS _) ?_
  · rintro w' ⟨L, hL, hSw, hun⟩
    obtain rfl := hSo hSw (hL.wait 9 5 (by kernel_rfl) hun)
    go_simp
  simp only [nA, nB, nC, Act.put, nD, nE, nF]
  refine WA.tk (i := 6) (v := .int .u64 (IntKind.u64.wrap ((X : Int) * 8192))) rfl (hdrop 6 (by decide)) (Or.inl ⟨by rfl, ?_⟩) (hS _) ?_
  · rintro w' ⟨L, hL, hSw, hun⟩
    go_simp
  simp only [nA, nB, nC, Act.put, nD, nE, nF]
  refine WA.tk (i := 7) (v := .int .u64 ((A : Nat) : Int)) rfl (hdrop 7 (by decide)) (Or.inl ⟨by rfl, ?_⟩) (hS _) ?_
  · rintro w' ⟨L, hL, hSw, hun⟩
    go_simp
  simp only [nA, nB, nC, Act.put, nD, nE, nF]
  refine WA.tk (i := 8) (v := .pointer (some ⟨rb, 0, none⟩)) rfl (hdrop 8 (by decide)) (Or.inl ⟨by rfl, ?_⟩) (hS _) ?_
  · rintro w' ⟨L, hL, hSw, hun⟩
    go_simp
  simp only [nA, nB, nC, Act.put, nD, nE, nF]
  refine WA.one (i := 9) (by kernel_rfl) rfl (by rfl) (fun K hK => ?_)
  go_simp
  refine hK _ _ (hSd _ _ (by rfl)) ?_
  clear hK
  try simp only [nA, nB, nC, Act.put, nD, nE, nF]
  refine WA.done (by kernel_rfl) ?_ _
  refine Nrm.normal ?_
  clear hSo hS hSd hdrop cx fx
  clear S1
  have hb2 := (xbox (W := X1) (by rw [HX1.out]; exact Hb.out)).2.2 (.int .u64 (A : Nat))
  have ht2 := (show TnA w X1 rb by rw [HX1.out]; exact (TnA.refl _ _).drew).set 0 (.int .u64 (A : Nat))
  have Hb2 := Lib.hid hb2; have HT2 := Lib.hid ht2
  clear hb2 ht2
  generalize X1.setCell ⟨rb, 0, none⟩ (.int .u64 ((A : Nat) : Int)) = w2 at *
  obtain ⟨c2, f2, -⟩ := xbox Hb2.out
  go_wp2_with fail
  have cx : w2.drew.cell? ⟨rb, 0, none⟩ = some (.int .u64 ((A : Nat) : Int)) := c2
  have fx : w2.drew.frozen? ⟨rb, 0, none⟩ = false := f2
  obtain ⟨S2, hSe⟩ : ∃ S : Array Bool → World → Prop, S = fun L w' => L.getD 9 true = false → w' = w2.drew := ⟨_, rfl⟩
  have hdrop : ∀ i, i ≠ 9 → ∀ L w', S2 (L.setIfInBounds i true) w' → S2 L w' := by
    intro i hi L w'
    rw [hSe]
    intro h hl
    exact h (by rw [getD_set_ne true hi]; exact hl)
  have hS : ∀ L, S2 L w2.drew := by intro L; rw [hSe]; exact fun _ => rfl
  have hSo : ∀ {L w'}, S2 L w' → L.getD 9 true = false → w' = w2.drew := by intro L w' h hl; rw [hSe] at h; exact h hl
  have hSd : ∀ (L : Array Bool) X, L.getD 9 true = true → S2 L X := by
    intro L X h; rw [hSe]; intro h1; rw [h] at h1; cases h1
  clear hSe
  refine wp_region_LN S2 10 #[false, false, false, false, false, false, false, false, false, false] (by kernel_rfl) (by kernel_rfl) rfl ?_
  obtain ⟨X2, hX2⟩ : ∃ X2, X2 = w2.drew := ⟨_, rfl⟩
  rw [← hX2] at cx fx hSo hS ⊢
  have HX2 := Lib.hid hX2
  clear hX2
  refine WA.tk (i := 0) (v := .pointer (some ⟨rb, 0, none⟩)) rfl (hdrop 0 (by decide)) (Or.inl ⟨by rfl, ?_⟩) (hS _) ?_
  · rintro w' ⟨L, hL, hSw, hun⟩
    go_simp
  simp only [nA, nB, nC, Act.put, nD, nE, nF]
  refine WA.tk (i := 1) (v := .pointer (some ⟨rb, 0, none⟩)) rfl (hdrop 1 (by decide)) (Or.inl ⟨by rfl, ?_⟩) (hS _) ?_
  · rintro w' ⟨L, hL, hSw, hun⟩
    go_simp
  simp only [nA, nB, nC, Act.put, nD, nE, nF]
  refine WA.tk (i := 2) (v := .int .u64 ((A : Nat) : Int)) rfl (hdrop 2 (by decide)) (Or.inl ⟨by rfl, ?_⟩) (hS _) ?_
  · rintro w' ⟨L, hL, hSw, hun⟩
    obtain rfl := hSo hSw (hL.wait 9 2 (by kernel_rfl) hun)
    go_simp
  simp only [nA, nB, nC, Act.put, nD, nE, nF]
  refine WA.tk (i := 3) (v := .pointer (some ⟨rb, 0, none⟩)) rfl (hdrop 3 (by decide)) (Or.inl ⟨by rfl, ?_⟩) (hS _) ?_
  · rintro w' ⟨L, hL, hSw, hun⟩
    go_simp
  simp only [nA, nB, nC, Act.put, nD, nE, nF]
  refine WA.tk (i := 4) (v := .pointer (some ⟨rb, 0, none⟩)) rfl (hdrop 4 (by decide)) (Or.inl ⟨by rfl, ?_⟩) (hS _) ?_
  · rintro w' ⟨L, hL, hSw, hun⟩
    go_simp
  simp only [nA, nB, nC, Act.put, nD, nE, nF]
  refine WA.tk (i := 5) (v := .int .u64 ((A : Nat) : Int)) rfl (hdrop 5 (by decide)) (Or.inl ⟨by rfl, ?_⟩) (hS _) ?_
  · rintro w' ⟨L, hL, hSw, hun⟩
    obtain rfl := hSo hSw (hL.wait 9 5 (by kernel_rfl) hun)
    go_simp
  simp only [nA, nB, nC, Act.put, nD, nE, nF]
  refine WA.tk (i := 6) (v := .int .u64 ((A : Int) / 128)) rfl (hdrop 6 (by decide)) (Or.inl ⟨by rfl, ?_⟩) (hS _) ?_
  · rintro w' ⟨L, hL, hSw, hun⟩
    go_simp
  simp only [nA, nB, nC, Act.put, nD, nE, nF]
  refine WA.tk (i := 7) (v := .int .u64 ((B : Nat) : Int)) rfl (hdrop 7 (by decide)) (Or.inl ⟨by rfl, ?_⟩) (hS _) ?_
  · rintro w' ⟨L, hL, hSw, hun⟩
    go_simp
  simp only [nA, nB, nC, Act.put, nD, nE, nF]
  refine WA.tk (i := 8) (v := .pointer (some ⟨rb, 0, none⟩)) rfl (hdrop 8 (by decide)) (Or.inl ⟨by rfl, ?_⟩) (hS _) ?_
  · rintro w' ⟨L, hL, hSw, hun⟩
    go_simp
  simp only [nA, nB, nC, Act.put, nD, nE, nF]
  refine WA.one (i := 9) (by kernel_rfl) rfl (by rfl) (fun K hK => ?_)
  go_simp
  refine hK _ _ (hSd _ _ (by rfl)) ?_
  clear hK
  try simp only [nA, nB, nC, Act.put, nD, nE, nF]
  refine WA.done (by kernel_rfl) ?_ _
  refine Nrm.normal ?_
  clear hSo hS hSd hdrop cx fx
  clear S2
  have hb3 := (xbox (W := X2) (by rw [HX2.out]; exact Hb2.out)).2.2 (.int .u64 (B : Nat))
  have ht3 := (show TnA w X2 rb by rw [HX2.out]; exact HT2.out.drew).set 0 (.int .u64 (B : Nat))
  have Hb3 := Lib.hid hb3; have HT3 := Lib.hid ht3
  clear hb3 ht3
  generalize X2.setCell ⟨rb, 0, none⟩ (.int .u64 ((B : Nat) : Int)) = w3 at *
  obtain ⟨c3, f3, -⟩ := xbox Hb3.out
  go_wp2_with fail
  have cx : w3.drew.cell? ⟨rb, 0, none⟩ = some (.int .u64 ((B : Nat) : Int)) := c3
  have fx : w3.drew.frozen? ⟨rb, 0, none⟩ = false := f3
  obtain ⟨S3, hSe⟩ : ∃ S : Array Bool → World → Prop, S = fun L w' => L.getD 9 true = false → w' = w3.drew := ⟨_, rfl⟩
  have hdrop : ∀ i, i ≠ 9 → ∀ L w', S3 (L.setIfInBounds i true) w' → S3 L w' := by
    intro i hi L w'
    rw [hSe]
    intro h hl
    exact h (by rw [getD_set_ne true hi]; exact hl)
  have hS : ∀ L, S3 L w3.drew := by intro L; rw [hSe]; exact fun _ => rfl
  have hSo : ∀ {L w'}, S3 L w' → L.getD 9 true = false → w' = w3.drew := by intro L w' h hl; rw [hSe] at h; exact h hl
  have hSd : ∀ (L : Array Bool) X, L.getD 9 true = true → S3 L X := by
    intro L X h; rw [hSe]; intro h1; rw [h] at h1; cases h1
  clear hSe
  refine wp_region_LN S3 10 #[false, false, false, false, false, false, false, false, false, false] (by kernel_rfl) (by kernel_rfl) rfl ?_
  obtain ⟨X3, hX3⟩ : ∃ X3, X3 = w3.drew := ⟨_, rfl⟩
  rw [← hX3] at cx fx hSo hS ⊢
  have HX3 := Lib.hid hX3
  clear hX3
  refine WA.tk (i := 0) (v := .pointer (some ⟨rb, 0, none⟩)) rfl (hdrop 0 (by decide)) (Or.inl ⟨by rfl, ?_⟩) (hS _) ?_
  · rintro w' ⟨L, hL, hSw, hun⟩
    go_simp
  simp only [nA, nB, nC, Act.put, nD, nE, nF]
  refine WA.tk (i := 1) (v := .pointer (some ⟨rb, 0, none⟩)) rfl (hdrop 1 (by decide)) (Or.inl ⟨by rfl, ?_⟩) (hS _) ?_
  · rintro w' ⟨L, hL, hSw, hun⟩
    go_simp
  simp only [nA, nB, nC, Act.put, nD, nE, nF]
  refine WA.tk (i := 2) (v := .int .u64 ((B : Nat) : Int)) rfl (hdrop 2 (by decide)) (Or.inl ⟨by rfl, ?_⟩) (hS _) ?_
  · rintro w' ⟨L, hL, hSw, hun⟩
    obtain rfl := hSo hSw (hL.wait 9 2 (by kernel_rfl) hun)
    go_simp
  simp only [nA, nB, nC, Act.put, nD, nE, nF]
  refine WA.tk (i := 3) (v := .pointer (some ⟨rb, 0, none⟩)) rfl (hdrop 3 (by decide)) (Or.inl ⟨by rfl, ?_⟩) (hS _) ?_
  · rintro w' ⟨L, hL, hSw, hun⟩
    go_simp
  simp only [nA, nB, nC, Act.put, nD, nE, nF]
  refine WA.tk (i := 4) (v := .pointer (some ⟨rb, 0, none⟩)) rfl (hdrop 4 (by decide)) (Or.inl ⟨by rfl, ?_⟩) (hS _) ?_
  · rintro w' ⟨L, hL, hSw, hun⟩
    go_simp
  simp only [nA, nB, nC, Act.put, nD, nE, nF]
  refine WA.tk (i := 5) (v := .int .u64 ((B : Nat) : Int)) rfl (hdrop 5 (by decide)) (Or.inl ⟨by rfl, ?_⟩) (hS _) ?_
  · rintro w' ⟨L, hL, hSw, hun⟩
    obtain rfl := hSo hSw (hL.wait 9 5 (by kernel_rfl) hun)
    go_simp
  simp only [nA, nB, nC, Act.put, nD, nE, nF]
  refine WA.tk (i := 6) (v := .int .u64 (IntKind.u64.wrap ((B : Int) * 131072))) rfl (hdrop 6 (by decide)) (Or.inl ⟨by rfl, ?_⟩) (hS _) ?_
  · rintro w' ⟨L, hL, hSw, hun⟩
    go_simp
  simp only [nA, nB, nC, Act.put, nD, nE, nF]
  refine WA.tk (i := 7) (v := .int .u64 ((C : Nat) : Int)) rfl (hdrop 7 (by decide)) (Or.inl ⟨by rfl, ?_⟩) (hS _) ?_
  · rintro w' ⟨L, hL, hSw, hun⟩
    go_simp
  simp only [nA, nB, nC, Act.put, nD, nE, nF]
  refine WA.tk (i := 8) (v := .pointer (some ⟨rb, 0, none⟩)) rfl (hdrop 8 (by decide)) (Or.inl ⟨by rfl, ?_⟩) (hS _) ?_
  · rintro w' ⟨L, hL, hSw, hun⟩
    go_simp
  simp only [nA, nB, nC, Act.put, nD, nE, nF]
  refine WA.one (i := 9) (by kernel_rfl) rfl (by rfl) (fun K hK => ?_)
  go_simp
  refine hK _ _ (hSd _ _ (by rfl)) ?_
  clear hK
  try simp only [nA, nB, nC, Act.put, nD, nE, nF]
  refine WA.done (by kernel_rfl) ?_ _
  refine Nrm.normal ?_
  clear hSo hS hSd hdrop cx fx
  clear S3
  have hb4 := (xbox (W := X3) (by rw [HX3.out]; exact Hb3.out)).2.2 (.int .u64 (C : Nat))
  have ht4 := (show TnA w X3 rb by rw [HX3.out]; exact HT3.out.drew).set 0 (.int .u64 (C : Nat))
  have Hb4 := Lib.hid hb4; have HT4 := Lib.hid ht4
  clear hb4 ht4
  generalize X3.setCell ⟨rb, 0, none⟩ (.int .u64 ((C : Nat) : Int)) = w4 at *
  obtain ⟨c4, f4, -⟩ := xbox Hb4.out
  go_wp2_with fail
  go_ret
  exact ⟨rfl, Hb4.out, HT4.out⟩
end Go.Proofs.Ytghihhjcoilmgaa
