/- UnionOrder, walked. -/
import Derived.Test.YtpiciickgomggaaQ11
namespace Go.Proofs.Ytpiciickgomggaa
set_option maxRecDepth 100000
open Go.RowKit Go.Maps
set_option linter.unusedVariables false
set_option linter.unusedSimpArgs false

section
variable {w : World}
set_option maxRecDepth 100000 in
set_option maxHeartbeats 8000000 in
theorem order_u {la : Option Addr} {J : Jn} (h : IsJ w la J) (hJ : ∀ p ∈ J, is32 p.1 ∧ is32 p.2) (hlen : J.length ≤ maxLen) (lcap : Nat) (by_ : Int) (hby : -9223372036854775808 ≤ by_ ∧ by_ ≤ 9223372036854775807) :
    Calls Try.prog 3 #[.slice la J.length lcap, .int .i64 by_] w fun e w' => e = .returned (.bool true) ∧ Below w.heap.size w w' := by
  obtain ⟨n, hn⟩ : ∃ n, J.length = n := ⟨_, rfl⟩
  have H := Lib.hid h; have HJ := Lib.hid hJ; have Hn := Lib.hid hn
  rw [hn] at hlen ⊢
  clear h hJ hn
  simp only [maxLen] at hlen
  by_cases h60 : n > 60
  · have hd : decide ((n : Int) > 60) = true := by simp; omega
    have hd' : decide (60 < (n : Int)) = true := by simp; omega
    go_enter Try.func3, Try.ntmps3
    go_wp2_with fail
    refine (known_u w).mono ?_
    rintro e w' ⟨rfl, hB⟩
    go_wp2_with fail
    go_ret
    exact ⟨rfl, hB⟩
  · have hd : decide ((n : Int) > 60) = false := by simp; omega
    have hd' : decide (60 < (n : Int)) = false := by simp; omega
    go_enter Try.func3, Try.ntmps3
    go_wp2_with fail
    refine (newP_u w).mono ?_
    rintro e w1 ⟨pb, mf, mc, rfl, hP1, m1, m2, m3, hB1⟩
    have HP1 := Lib.hid hP1; have HB1 := Lib.hid hB1
    clear hP1 hB1
    go_wp2_with fail
    refine (newP_u w1).mono ?_
    rintro e w2 ⟨qb, nf, nc, rfl, hQ2, n1, n2, n3, hB2⟩
    have HP2 := Lib.hid (HP1.out.below hB2); have HB2 := Lib.hid (HB1.out.trans (hB2.mono HB1.out.size)); have HQ2 := Lib.hid hQ2
    have ap : nf ≠ mf ∧ nf ≠ mc ∧ nc ≠ mf ∧ nc ≠ mc := by
      obtain ⟨cv, k1, _⟩ := HP1.out.cl
      have l1 := HP1.out.of.lt
      have l2 := k1.lt
      omega
    have g1 := HB1.out.size
    have lows : w.heap.size ≤ nf ∧ w.heap.size ≤ nc := by omega
    have Ap := Lib.hid ap; have Lo := Lib.hid lows
    clear hB2 hQ2 HP1 ap lows n1 n2 n3 HB1 g1
    go_wp2_with fail
    have hrem1 := Int.tmod_lt_of_pos by_ (b := (n : Int) + 1) (by omega)
    have hrem2 := Int.lt_tmod_of_pos by_ (b := (n : Int) + 1) (by omega)
    obtain ⟨m, hm⟩ : ∃ m, by_.tmod ((n : Int) + 1) = m := ⟨_, rfl⟩
    rw [hm] at hrem1 hrem2
    obtain ⟨s, hs⟩ : ∃ s : Nat, 0 < n → ∀ i : Nat, ((i : Int) + m + n + 1).tmod n = (((i + s) % n : Nat) : Int) := by
      by_cases h0 : 0 < n
      · obtain ⟨s, _, h2⟩ := rot_place h0 (m := m) (by omega) (by omega)
        exact ⟨s, fun _ => h2⟩
      · exact ⟨0, fun h => absurd h h0⟩
    have Hs := Lib.hid hs
    clear hs
    go_loopw [7] (fun u wr => ∃ (i : Nat) (f : Int → Option Int) (c : Int → Option (List Int)) (g : Int → Option Int) (d : Int → Option (List Int)), i ≤ n ∧ u = .int .i64 i ∧ IsP wr pb mf mc f c ∧ PInv (J.take i) f c ∧ IsP wr qb nf nc g d ∧ PInv (rotQ J s i) g d ∧ Below w.heap.size w wr) (fun u _ => n - (intOf u).toNat)
    case atStart => exact ⟨0, _, _, _, _, by omega, rfl, HP2.out, PInv.nil, HQ2.out, PInv.nil, HB2.out⟩
    case round =>
      obtain ⟨i, f, c, g, d, hi, rfl, hP, hI, hQ, hK, hB⟩ := hrel
      have HP := Lib.hid hP; have HI := Lib.hid hI; have HQ := Lib.hid hQ; have HK := Lib.hid hK; have HB := Lib.hid hB
      clear hP hI hQ hK hB HP2 HQ2 HB2
      by_cases hin : i < n
      · have hdi : decide ((i : Int) < (n : Int)) = true := by simp; omega
        have hiJ : i < J.length := by have := Hn.out; omega
        obtain ⟨k, hk⟩ : ∃ k, (i + s) % n = k := ⟨_, rfl⟩
        have hkn : k < n := by rw [← hk]; exact Nat.mod_lt _ (by omega)
        have hkJ : k < J.length := by have := Hn.out; omega
        have hkz := Hs.out (by omega) i
        rw [hk] at hkz
        obtain ⟨x, hx⟩ : ∃ x, J[i].1 = x := ⟨_, rfl⟩
        obtain ⟨y, hy⟩ : ∃ y, J[i].2 = y := ⟨_, rfl⟩
        obtain ⟨u, hu⟩ : ∃ u, J[k].1 = u := ⟨_, rfl⟩
        obtain ⟨v, hv⟩ : ∃ v, J[k].2 = v := ⟨_, rfl⟩
        obtain ⟨b, off, rfl, _, cx, cy⟩ := H.out.below HB.out i hiJ
        rw [hx] at cx
        rw [hy] at cy
        have x32 : is32 x ∧ is32 y := by rw [← hx, ← hy]; exact HJ.out _ (List.getElem_mem hiJ)
        have u32 : is32 u ∧ is32 v := by rw [← hu, ← hv]; exact HJ.out _ (List.getElem_mem hkJ)
        have htk : J.take (i + 1) = J.take i ++ [(x, y)] := by rw [List.take_succ_eq_append_getElem hiJ, ← hx, ← hy]
        have hrq : rotQ J s (i + 1) = rotQ J s i ++ [(v, u)] := rotQ_succ J s i u v (by rw [Hn.out, hk, List.getD_eq_getElem?_getD, List.getElem?_eq_getElem hkJ, ← hu, ← hv]; rfl)
        have hcu : ∀ W, Below w.heap.size w W → W.cell? ⟨b, off + k * 2, none⟩ = some (.int .u32 u) ∧ W.cell? ⟨b, off + k * 2 + 1, none⟩ = some (.int .u32 v) := fun W hW => by
          obtain ⟨b', off', e, _, k1, k2⟩ := H.out.below hW k hkJ
          simp at e
          obtain ⟨rfl, rfl⟩ := e
          rw [hu] at k1
          rw [hv] at k2
          exact ⟨k1, k2⟩
        have X32 := Lib.hid x32; have U32 := Lib.hid u32; have Htk := Lib.hid htk; have Hrq := Lib.hid hrq; have Hcu := Lib.hid hcu
        clear x32 u32 htk hrq hcu hx hy hu hv hk
        go_wp2_with fail
        have cx : wr.drew.cell? ⟨b, off + i * 2, none⟩ = some (.int .u32 x) := cx
        have cy : wr.drew.cell? ⟨b, off + i * 2 + 1, none⟩ = some (.int .u32 y) := cy
        obtain ⟨S7, hSe⟩ : ∃ S : Array Bool → World → Prop, S = fun L w' => L.getD 11 true = false → w' = wr.drew := ⟨_, rfl⟩
        have hdrop : ∀ i, i ≠ 11 → ∀ L w', S7 (L.setIfInBounds i true) w' → S7 L w' := by
          intro i hi L w'
          rw [hSe]
          intro h hl
          exact h (by rw [getD_set_ne true hi]; exact hl)
        have hS : ∀ L, S7 L wr.drew := by intro L; rw [hSe]; exact fun _ => rfl
        have hSo : ∀ {L w'}, S7 L w' → L.getD 11 true = false → w' = wr.drew := by intro L w' h hl; rw [hSe] at h; exact h hl
        have hSd : ∀ (L : Array Bool) X, L.getD 11 true = true → S7 L X := by
          intro L X h; rw [hSe]; intro h1; rw [h] at h1; cases h1
        clear hSe
        refine wp_region_LN S7 12 #[false, false, false, false, false, false, false, false, false, false, false, false] (by kernel_rfl) (by kernel_rfl) rfl ?_
        obtain ⟨X1, hX1⟩ : ∃ X1, X1 = wr.drew := ⟨_, rfl⟩
        rw [← hX1] at cx cy hSo hS ⊢
        have HX1 := Lib.hid hX1
        clear hX1
        refine WA.take (i := 0) (v := .pointer (some ⟨pb, 0, none⟩)) rfl (by kernel_rfl) (by kernel_rfl) (by kernel_rfl) (fun _ _ _ h => h) (hdrop 0 (by decide)) (Or.inl ⟨by rfl, ?_⟩) (hS _) ?_
        · rintro w' ⟨L, hL, hSw, hun⟩
          go_simp
        simp only [List.getElem_toArray, List.getElem_cons_zero, List.getElem_cons_succ, Act.put, List.setIfInBounds_toArray, List.set_cons_zero, List.set_cons_succ]
        refine WA.take (i := 1) (v := .slice (some ⟨b, off, none⟩) n lcap) rfl (by kernel_rfl) (by kernel_rfl) (by kernel_rfl) (fun _ _ _ h => h) (hdrop 1 (by decide)) (Or.inl ⟨by rfl, ?_⟩) (hS _) ?_
        · rintro w' ⟨L, hL, hSw, hun⟩
          go_simp
        simp only [List.getElem_toArray, List.getElem_cons_zero, List.getElem_cons_succ, Act.put, List.setIfInBounds_toArray, List.set_cons_zero, List.set_cons_succ]
        refine WA.take (i := 2) (v := .int .i64 ((i : Nat) : Int)) rfl (by kernel_rfl) (by kernel_rfl) (by kernel_rfl) (fun _ _ _ h => h) (hdrop 2 (by decide)) (Or.inl ⟨by rfl, ?_⟩) (hS _) ?_
        · rintro w' ⟨L, hL, hSw, hun⟩
          go_simp
        simp only [List.getElem_toArray, List.getElem_cons_zero, List.getElem_cons_succ, Act.put, List.setIfInBounds_toArray, List.set_cons_zero, List.set_cons_succ]
        refine WA.take (i := 3) (v := .pointer (some ⟨b, off + i * 2, none⟩)) rfl (by kernel_rfl) (by kernel_rfl) (by kernel_rfl) (fun _ _ _ h => h) (hdrop 3 (by decide)) (Or.inl ⟨by rfl, ?_⟩) (hS _) ?_
        · rintro w' ⟨L, hL, hSw, hun⟩
          go_simp
        simp only [List.getElem_toArray, List.getElem_cons_zero, List.getElem_cons_succ, Act.put, List.setIfInBounds_toArray, List.set_cons_zero, List.set_cons_succ]
        refine WA.take (i := 4) (v := .pointer (some ⟨b, off + i * 2, none⟩)) rfl (by kernel_rfl) (by kernel_rfl) (by kernel_rfl) (fun _ _ _ h => h) (hdrop 4 (by decide)) (Or.inl ⟨by rfl, ?_⟩) (hS _) ?_
        · rintro w' ⟨L, hL, hSw, hun⟩
          go_simp
        simp only [List.getElem_toArray, List.getElem_cons_zero, List.getElem_cons_succ, Act.put, List.setIfInBounds_toArray, List.set_cons_zero, List.set_cons_succ]
        refine WA.take (i := 5) (v := .int .u32 x) rfl (by kernel_rfl) (by kernel_rfl) (by kernel_rfl) (fun _ _ _ h => h) (hdrop 5 (by decide)) (Or.inl ⟨by rfl, ?_⟩) (hS _) ?_
        · rintro w' ⟨L, hL, hSw, hun⟩
          obtain rfl := hSo hSw (hL.wait 11 5 (by kernel_rfl) hun)
          go_simp
        simp only [List.getElem_toArray, List.getElem_cons_zero, List.getElem_cons_succ, Act.put, List.setIfInBounds_toArray, List.set_cons_zero, List.set_cons_succ]
        refine WA.take (i := 6) (v := .slice (some ⟨b, off, none⟩) n lcap) rfl (by kernel_rfl) (by kernel_rfl) (by kernel_rfl) (fun _ _ _ h => h) (hdrop 6 (by decide)) (Or.inl ⟨by rfl, ?_⟩) (hS _) ?_
        · rintro w' ⟨L, hL, hSw, hun⟩
          go_simp
        simp only [List.getElem_toArray, List.getElem_cons_zero, List.getElem_cons_succ, Act.put, List.setIfInBounds_toArray, List.set_cons_zero, List.set_cons_succ]
        refine WA.take (i := 7) (v := .int .i64 ((i : Nat) : Int)) rfl (by kernel_rfl) (by kernel_rfl) (by kernel_rfl) (fun _ _ _ h => h) (hdrop 7 (by decide)) (Or.inl ⟨by rfl, ?_⟩) (hS _) ?_
        · rintro w' ⟨L, hL, hSw, hun⟩
          go_simp
        simp only [List.getElem_toArray, List.getElem_cons_zero, List.getElem_cons_succ, Act.put, List.setIfInBounds_toArray, List.set_cons_zero, List.set_cons_succ]
        refine WA.take (i := 8) (v := .pointer (some ⟨b, off + i * 2, none⟩)) rfl (by kernel_rfl) (by kernel_rfl) (by kernel_rfl) (fun _ _ _ h => h) (hdrop 8 (by decide)) (Or.inl ⟨by rfl, ?_⟩) (hS _) ?_
        · rintro w' ⟨L, hL, hSw, hun⟩
          go_simp
        simp only [List.getElem_toArray, List.getElem_cons_zero, List.getElem_cons_succ, Act.put, List.setIfInBounds_toArray, List.set_cons_zero, List.set_cons_succ]
        refine WA.take (i := 9) (v := .pointer (some ⟨b, off + i * 2 + 1, none⟩)) rfl (by kernel_rfl) (by kernel_rfl) (by kernel_rfl) (fun _ _ _ h => h) (hdrop 9 (by decide)) (Or.inl ⟨by rfl, ?_⟩) (hS _) ?_
        · rintro w' ⟨L, hL, hSw, hun⟩
          go_simp
        simp only [List.getElem_toArray, List.getElem_cons_zero, List.getElem_cons_succ, Act.put, List.setIfInBounds_toArray, List.set_cons_zero, List.set_cons_succ]
        refine WA.take (i := 10) (v := .int .u32 y) rfl (by kernel_rfl) (by kernel_rfl) (by kernel_rfl) (fun _ _ _ h => h) (hdrop 10 (by decide)) (Or.inl ⟨by rfl, ?_⟩) (hS _) ?_
        · rintro w' ⟨L, hL, hSw, hun⟩
          obtain rfl := hSo hSw (hL.wait 11 10 (by kernel_rfl) hun)
          go_simp
        simp only [List.getElem_toArray, List.getElem_cons_zero, List.getElem_cons_succ, Act.put, List.setIfInBounds_toArray, List.set_cons_zero, List.set_cons_succ]
        refine WA.one (i := 11) (by kernel_rfl) rfl (by rfl) (fun K hK => ?_)
        go_simp
        refine (joinP_u (w := X1) (by rw [HX1.out]; exact HP.out.below (Below.refl _ _).drew) HI.out (fun p hp => HJ.out p (List.mem_of_mem_take hp)) (by rw [List.length_take]; omega) X32.out.1 X32.out.2).mono ?_
        rintro e w4 ⟨r_, two_, f1, c1, rfl, hP_, hI_, hT_, -⟩
        have HP4 := Lib.hid hP_; have HI4 := Lib.hid hI_; have HT4 := Lib.hid hT_
        clear hP_ hI_ hT_
        refine hK _ _ (hSd _ _ (by rfl)) ?_
        clear hK
        try simp only [List.getElem_toArray, List.getElem_cons_zero, List.getElem_cons_succ, Act.put, List.setIfInBounds_toArray, List.set_cons_zero, List.set_cons_succ]
        refine WA.done (by kernel_rfl) ?_ _
        refine Nrm.normal ?_
        clear hSo hS hSd hdrop cx cy
        clear S7
        have hT4 : TnM wr w4 mf mc := (TnM.below (by rw [HX1.out]; exact (Below.refl _ _).drew)).trans HT4.out
        have HQ4 := Lib.hid (HQ.out.turn HP.out.objs.1 HP.out.objs.2 hT4 Ap.out.1 Ap.out.2.1 Ap.out.2.2.1 Ap.out.2.2.2)
        have HB4 := Lib.hid (HB.out.trans (hT4.lower m1 m2 HB.out.size))
        obtain ⟨cu, cv⟩ := Hcu.out w4 HB4.out
        clear hT4 HT4
        go_wp2_with fail
        have cu : w4.drew.cell? ⟨b, off + k * 2, none⟩ = some (.int .u32 u) := cu
        have cv : w4.drew.cell? ⟨b, off + k * 2 + 1, none⟩ = some (.int .u32 v) := cv
        obtain ⟨S9, hSe⟩ : ∃ S : Array Bool → World → Prop, S = fun L w' => L.getD 11 true = false → w' = w4.drew := ⟨_, rfl⟩
        have hdrop : ∀ i, i ≠ 11 → ∀ L w', S9 (L.setIfInBounds i true) w' → S9 L w' := by
          intro i hi L w'
          rw [hSe]
          intro h hl
          exact h (by rw [getD_set_ne true hi]; exact hl)
        have hS : ∀ L, S9 L w4.drew := by intro L; rw [hSe]; exact fun _ => rfl
        have hSo : ∀ {L w'}, S9 L w' → L.getD 11 true = false → w' = w4.drew := by intro L w' h hl; rw [hSe] at h; exact h hl
        have hSd : ∀ (L : Array Bool) X, L.getD 11 true = true → S9 L X := by
          intro L X h; rw [hSe]; intro h1; rw [h] at h1; cases h1
        clear hSe
        refine wp_region_LN S9 12 #[false, false, false, false, false, false, false, false, false, false, false, false] (by kernel_rfl) (by kernel_rfl) rfl ?_
        obtain ⟨X2, hX2⟩ : ∃ X2, X2 = w4.drew := ⟨_, rfl⟩
        rw [← hX2] at cu cv hSo hS ⊢
        have HX2 := Lib.hid hX2
        clear hX2
        refine WA.take (i := 0) (v := .pointer (some ⟨qb, 0, none⟩)) rfl (by kernel_rfl) (by kernel_rfl) (by kernel_rfl) (fun _ _ _ h => h) (hdrop 0 (by decide)) (Or.inl ⟨by rfl, ?_⟩) (hS _) ?_
        · rintro w' ⟨L, hL, hSw, hun⟩
          go_simp
        simp only [List.getElem_toArray, List.getElem_cons_zero, List.getElem_cons_succ, Act.put, List.setIfInBounds_toArray, List.set_cons_zero, List.set_cons_succ]
        refine WA.take (i := 1) (v := .slice (some ⟨b, off, none⟩) n lcap) rfl (by kernel_rfl) (by kernel_rfl) (by kernel_rfl) (fun _ _ _ h => h) (hdrop 1 (by decide)) (Or.inl ⟨by rfl, ?_⟩) (hS _) ?_
        · rintro w' ⟨L, hL, hSw, hun⟩
          go_simp
        simp only [List.getElem_toArray, List.getElem_cons_zero, List.getElem_cons_succ, Act.put, List.setIfInBounds_toArray, List.set_cons_zero, List.set_cons_succ]
        refine WA.take (i := 2) (v := .int .i64 ((k : Nat) : Int)) rfl (by kernel_rfl) (by kernel_rfl) (by kernel_rfl) (fun _ _ _ h => h) (hdrop 2 (by decide)) (Or.inl ⟨by rfl, ?_⟩) (hS _) ?_
        · rintro w' ⟨L, hL, hSw, hun⟩
          go_simp
        simp only [List.getElem_toArray, List.getElem_cons_zero, List.getElem_cons_succ, Act.put, List.setIfInBounds_toArray, List.set_cons_zero, List.set_cons_succ]
        refine WA.take (i := 3) (v := .pointer (some ⟨b, off + k * 2, none⟩)) rfl (by kernel_rfl) (by kernel_rfl) (by kernel_rfl) (fun _ _ _ h => h) (hdrop 3 (by decide)) (Or.inl ⟨by rfl, ?_⟩) (hS _) ?_
        · rintro w' ⟨L, hL, hSw, hun⟩
          go_simp
        simp only [List.getElem_toArray, List.getElem_cons_zero, List.getElem_cons_succ, Act.put, List.setIfInBounds_toArray, List.set_cons_zero, List.set_cons_succ]
        refine WA.take (i := 4) (v := .pointer (some ⟨b, off + k * 2 + 1, none⟩)) rfl (by kernel_rfl) (by kernel_rfl) (by kernel_rfl) (fun _ _ _ h => h) (hdrop 4 (by decide)) (Or.inl ⟨by rfl, ?_⟩) (hS _) ?_
        · rintro w' ⟨L, hL, hSw, hun⟩
          go_simp
        simp only [List.getElem_toArray, List.getElem_cons_zero, List.getElem_cons_succ, Act.put, List.setIfInBounds_toArray, List.set_cons_zero, List.set_cons_succ]
        refine WA.take (i := 5) (v := .int .u32 v) rfl (by kernel_rfl) (by kernel_rfl) (by kernel_rfl) (fun _ _ _ h => h) (hdrop 5 (by decide)) (Or.inl ⟨by rfl, ?_⟩) (hS _) ?_
        · rintro w' ⟨L, hL, hSw, hun⟩
          obtain rfl := hSo hSw (hL.wait 11 5 (by kernel_rfl) hun)
          go_simp
        simp only [List.getElem_toArray, List.getElem_cons_zero, List.getElem_cons_succ, Act.put, List.setIfInBounds_toArray, List.set_cons_zero, List.set_cons_succ]
        refine WA.take (i := 6) (v := .slice (some ⟨b, off, none⟩) n lcap) rfl (by kernel_rfl) (by kernel_rfl) (by kernel_rfl) (fun _ _ _ h => h) (hdrop 6 (by decide)) (Or.inl ⟨by rfl, ?_⟩) (hS _) ?_
        · rintro w' ⟨L, hL, hSw, hun⟩
          go_simp
        simp only [List.getElem_toArray, List.getElem_cons_zero, List.getElem_cons_succ, Act.put, List.setIfInBounds_toArray, List.set_cons_zero, List.set_cons_succ]
        refine WA.take (i := 7) (v := .int .i64 ((k : Nat) : Int)) rfl (by kernel_rfl) (by kernel_rfl) (by kernel_rfl) (fun _ _ _ h => h) (hdrop 7 (by decide)) (Or.inl ⟨by rfl, ?_⟩) (hS _) ?_
        · rintro w' ⟨L, hL, hSw, hun⟩
          go_simp
        simp only [List.getElem_toArray, List.getElem_cons_zero, List.getElem_cons_succ, Act.put, List.setIfInBounds_toArray, List.set_cons_zero, List.set_cons_succ]
        refine WA.take (i := 8) (v := .pointer (some ⟨b, off + k * 2, none⟩)) rfl (by kernel_rfl) (by kernel_rfl) (by kernel_rfl) (fun _ _ _ h => h) (hdrop 8 (by decide)) (Or.inl ⟨by rfl, ?_⟩) (hS _) ?_
        · rintro w' ⟨L, hL, hSw, hun⟩
          go_simp
        simp only [List.getElem_toArray, List.getElem_cons_zero, List.getElem_cons_succ, Act.put, List.setIfInBounds_toArray, List.set_cons_zero, List.set_cons_succ]
        refine WA.take (i := 9) (v := .pointer (some ⟨b, off + k * 2, none⟩)) rfl (by kernel_rfl) (by kernel_rfl) (by kernel_rfl) (fun _ _ _ h => h) (hdrop 9 (by decide)) (Or.inl ⟨by rfl, ?_⟩) (hS _) ?_
        · rintro w' ⟨L, hL, hSw, hun⟩
          go_simp
        simp only [List.getElem_toArray, List.getElem_cons_zero, List.getElem_cons_succ, Act.put, List.setIfInBounds_toArray, List.set_cons_zero, List.set_cons_succ]
        refine WA.take (i := 10) (v := .int .u32 u) rfl (by kernel_rfl) (by kernel_rfl) (by kernel_rfl) (fun _ _ _ h => h) (hdrop 10 (by decide)) (Or.inl ⟨by rfl, ?_⟩) (hS _) ?_
        · rintro w' ⟨L, hL, hSw, hun⟩
          obtain rfl := hSo hSw (hL.wait 11 10 (by kernel_rfl) hun)
          go_simp
        simp only [List.getElem_toArray, List.getElem_cons_zero, List.getElem_cons_succ, Act.put, List.setIfInBounds_toArray, List.set_cons_zero, List.set_cons_succ]
        refine WA.one (i := 11) (by kernel_rfl) rfl (by rfl) (fun K hK => ?_)
        go_simp
        refine (joinP_u (w := X2) (by rw [HX2.out]; exact HQ4.out.below (Below.refl _ _).drew) HK.out (rotQ_32 HJ.out s i) (by rw [rotQ_len]; omega) U32.out.2 U32.out.1).mono ?_
        rintro e w5 ⟨r_, two_, g1, d1, rfl, hP_, hI_, hT_, -⟩
        have HQ5 := Lib.hid hP_; have HK5 := Lib.hid hI_; have HT5 := Lib.hid hT_
        clear hP_ hI_ hT_
        refine hK _ _ (hSd _ _ (by rfl)) ?_
        clear hK
        try simp only [List.getElem_toArray, List.getElem_cons_zero, List.getElem_cons_succ, Act.put, List.setIfInBounds_toArray, List.set_cons_zero, List.set_cons_succ]
        refine WA.done (by kernel_rfl) ?_ _
        refine Nrm.normal ?_
        clear hSo hS hSd hdrop cu cv
        clear S9
        have hT5 : TnM w4 w5 nf nc := (TnM.below (by rw [HX2.out]; exact (Below.refl _ _).drew)).trans HT5.out
        have HP5 := Lib.hid (HP4.out.turn HQ4.out.objs.1 HQ4.out.objs.2 hT5 (Ne.symm Ap.out.1) (Ne.symm Ap.out.2.2.1) (Ne.symm Ap.out.2.1) (Ne.symm Ap.out.2.2.2))
        have HB5 := Lib.hid (HB4.out.trans (hT5.lower Lo.out.1 Lo.out.2 HB4.out.size))
        clear hT5 HT5
        go_wp2_with fail
        go_roundw
        case rel => exact ⟨i + 1, _, _, _, _, by omega, by push_cast; rfl, HP5.out, by rw [Htk.out]; exact HI4.out, HQ5.out, by rw [Hrq.out]; exact HK5.out, HB5.out⟩
        case measure => simp [intOf]; omega
      · have hdi : decide ((i : Int) < (n : Int)) = false := by simp; omega
        have hin2 : i = n := by omega
        have hcc := Lib.hid (rotQ_conn J s)
        have HI := Lib.hid (show PInv J f c by have := HI.out; rwa [List.take_of_length_le (by rw [Hn.out]; omega)] at this)
        have HK := Lib.hid (show PInv (rotQ J s J.length) g d by have := HK.out; rwa [hin2, ← Hn.out] at this)
        clear hin2
        go_wp2_with fail
        rename World => w9
        go_loopw [9] (fun u wx => ∃ i2 : Nat, i2 ≤ n ∧ u = .int .i64 i2 ∧ Below w9.heap.size w9 wx) (fun u _ => n - (intOf u).toNat)
        case atStart => exact ⟨0, by omega, rfl, Below.refl _ _⟩
        case round =>
          rename World => w10
          obtain ⟨i2, hi2, rfl, hB10⟩ := hrel
          have HB10 := Lib.hid hB10
          clear hB10
          by_cases hin2 : i2 < n
          · have hd2 : decide ((i2 : Int) < (n : Int)) = true := by simp; omega
            go_wp2_with fail
            go_loopw [10] (fun u wx => ∃ k2 : Nat, k2 ≤ 2 ∧ u = .int .i64 k2 ∧ Below w9.heap.size w9 wx) (fun u _ => 2 - (intOf u).toNat)
            case atStart => exact ⟨0, by omega, rfl, HB10.out⟩
            case round =>
              rename World => w11
              obtain ⟨k2, hk2, rfl, hB11⟩ := hrel
              have HB11 := Lib.hid hB11
              clear hB11
              by_cases hkk : k2 < 2
              · have hd3 : decide ((k2 : Int) < 2) = true := by simp; omega
                have hiJ : i2 < J.length := by have := Hn.out; omega
                obtain ⟨b, off, rfl, _, c1, c2⟩ := H.out.below (HB.out.trans (HB11.out.mono HB.out.size)) i2 hiJ
                have hcz : ∃ z, is32 z ∧ w11.cell? ⟨b, off + i2 * 2 + k2, none⟩ = some (.int .u32 z) := by
                  rcases (show k2 = 0 ∨ k2 = 1 by omega) with e | e <;> rw [e]
                  · exact ⟨_, (HJ.out _ (List.getElem_mem hiJ)).1, c1⟩
                  · exact ⟨_, (HJ.out _ (List.getElem_mem hiJ)).2, c2⟩
                obtain ⟨z, hz, cz⟩ := hcz
                have Z32 := Lib.hid hz
                have HP11 := Lib.hid (HP.out.below (w' := w11.drew) (HB11.out.drew))
                have HQ11 := Lib.hid (HQ.out.below (w' := w11.drew) (HB11.out.drew))
                have hff := find_same HI.out HK.out hcc.out z
                obtain ⟨fz, hfz⟩ : ∃ fz, findP g z = fz := ⟨_, rfl⟩
                have Hfz := Lib.hid hfz; have Hff := Lib.hid hff
                clear hz c1 c2 hff hfz
                go_wp2_with fail
                have cz : w11.drew.cell? ⟨b, off + i2 * 2 + k2, none⟩ = some (.int .u32 z) := cz
                obtain ⟨S16, hSe⟩ : ∃ S : Array Bool → World → Prop, S = fun _ w' => Below w11.drew.heap.size w11.drew w' := ⟨_, rfl⟩
                have hdrop : ∀ i : Nat, ∀ L w', S16 (L.setIfInBounds i true) w' → S16 L w' := by
                  intro i L w' h; rw [hSe] at h ⊢; exact h
                have hS : ∀ L, S16 L w11.drew := by intro L; rw [hSe]; exact Below.refl _ _
                have hSo : ∀ {L w'}, S16 L w' → Below w11.drew.heap.size w11.drew w' := by intro L w' h; rw [hSe] at h; exact h
                have hSi : ∀ {w'}, Below w11.drew.heap.size w11.drew w' → ∀ L, S16 L w' := by intro w' h L; rw [hSe]; exact h
                clear hSe
                refine wp_region_LN S16 37 #[false, false, false, false, false, false, false, false, false, false, false, false, false, false, false, false, false, false, false, false, false, false, false, false, false, false, false, false, false, false, false, false, false, false, false, false, false] (by kernel_rfl) (by kernel_rfl) rfl ?_
                obtain ⟨X3, hX3⟩ : ∃ X3, X3 = w11.drew := ⟨_, rfl⟩
                rw [← hX3] at cz hSo hS hSi ⊢
                have HX3 := Lib.hid hX3
                clear hX3
                refine WA.take (i := 0) (v := .pointer (some ⟨pb, 0, none⟩)) rfl (by kernel_rfl) (by kernel_rfl) (by kernel_rfl) (fun _ _ _ h => h) (hdrop 0) (Or.inl ⟨by rfl, ?_⟩) (hS _) ?_
                · rintro w' ⟨L, hL, hSw, hun⟩
                  go_simp
                simp only [List.getElem_toArray, List.getElem_cons_zero, List.getElem_cons_succ, Act.put, List.setIfInBounds_toArray, List.set_cons_zero, List.set_cons_succ]
                refine WA.take (i := 1) (v := .slice (some ⟨b, off, none⟩) n lcap) rfl (by kernel_rfl) (by kernel_rfl) (by kernel_rfl) (fun _ _ _ h => h) (hdrop 1) (Or.inl ⟨by rfl, ?_⟩) (hS _) ?_
                · rintro w' ⟨L, hL, hSw, hun⟩
                  go_simp
                simp only [List.getElem_toArray, List.getElem_cons_zero, List.getElem_cons_succ, Act.put, List.setIfInBounds_toArray, List.set_cons_zero, List.set_cons_succ]
                refine WA.take (i := 2) (v := .int .i64 ((i2 : Nat) : Int)) rfl (by kernel_rfl) (by kernel_rfl) (by kernel_rfl) (fun _ _ _ h => h) (hdrop 2) (Or.inl ⟨by rfl, ?_⟩) (hS _) ?_
                · rintro w' ⟨L, hL, hSw, hun⟩
                  go_simp
                simp only [List.getElem_toArray, List.getElem_cons_zero, List.getElem_cons_succ, Act.put, List.setIfInBounds_toArray, List.set_cons_zero, List.set_cons_succ]
                refine WA.take (i := 3) (v := .int .i64 ((k2 : Nat) : Int)) rfl (by kernel_rfl) (by kernel_rfl) (by kernel_rfl) (fun _ _ _ h => h) (hdrop 3) (Or.inl ⟨by rfl, ?_⟩) (hS _) ?_
                · rintro w' ⟨L, hL, hSw, hun⟩
                  go_simp
                simp only [List.getElem_toArray, List.getElem_cons_zero, List.getElem_cons_succ, Act.put, List.setIfInBounds_toArray, List.set_cons_zero, List.set_cons_succ]
                refine WA.take (i := 4) (v := .pointer (some ⟨b, off + i2 * 2, none⟩)) rfl (by kernel_rfl) (by kernel_rfl) (by kernel_rfl) (fun _ _ _ h => h) (hdrop 4) (Or.inl ⟨by rfl, ?_⟩) (hS _) ?_
                · rintro w' ⟨L, hL, hSw, hun⟩
                  go_simp
                simp only [List.getElem_toArray, List.getElem_cons_zero, List.getElem_cons_succ, Act.put, List.setIfInBounds_toArray, List.set_cons_zero, List.set_cons_succ]
                refine WA.take (i := 5) (v := .pointer (some ⟨b, off + i2 * 2 + k2, none⟩)) rfl (by kernel_rfl) (by kernel_rfl) (by kernel_rfl) (fun _ _ _ h => h) (hdrop 5) (Or.inl ⟨by rfl, ?_⟩) (hS _) ?_
                · rintro w' ⟨L, hL, hSw, hun⟩
                  go_simp
                  all_goals (intro h5; omega)
                simp only [List.getElem_toArray, List.getElem_cons_zero, List.getElem_cons_succ, Act.put, List.setIfInBounds_toArray, List.set_cons_zero, List.set_cons_succ]
                refine WA.take (i := 6) (v := .int .u32 z) rfl (by kernel_rfl) (by kernel_rfl) (by kernel_rfl) (fun _ _ _ h => h) (hdrop 6) (Or.inl ⟨by rfl, ?_⟩) (hS _) ?_
                · rintro w' ⟨L, hL, hSw, hun⟩
                  have hbw := hSo hSw
                  have cz := cell_later hbw cz
                  clear hbw
                  go_simp
                simp only [List.getElem_toArray, List.getElem_cons_zero, List.getElem_cons_succ, Act.put, List.setIfInBounds_toArray, List.set_cons_zero, List.set_cons_succ]
                refine WA.take (i := 8) (v := .pointer (some ⟨qb, 0, none⟩)) rfl (by kernel_rfl) (by kernel_rfl) (by kernel_rfl) (fun _ _ _ h => h) (hdrop 8) (Or.inl ⟨by rfl, ?_⟩) (hS _) ?_
                · rintro w' ⟨L, hL, hSw, hun⟩
                  go_simp
                simp only [List.getElem_toArray, List.getElem_cons_zero, List.getElem_cons_succ, Act.put, List.setIfInBounds_toArray, List.set_cons_zero, List.set_cons_succ]
                refine WA.take (i := 9) (v := .slice (some ⟨b, off, none⟩) n lcap) rfl (by kernel_rfl) (by kernel_rfl) (by kernel_rfl) (fun _ _ _ h => h) (hdrop 9) (Or.inl ⟨by rfl, ?_⟩) (hS _) ?_
                · rintro w' ⟨L, hL, hSw, hun⟩
                  go_simp
                simp only [List.getElem_toArray, List.getElem_cons_zero, List.getElem_cons_succ, Act.put, List.setIfInBounds_toArray, List.set_cons_zero, List.set_cons_succ]
                refine WA.take (i := 10) (v := .int .i64 ((i2 : Nat) : Int)) rfl (by kernel_rfl) (by kernel_rfl) (by kernel_rfl) (fun _ _ _ h => h) (hdrop 10) (Or.inl ⟨by rfl, ?_⟩) (hS _) ?_
                · rintro w' ⟨L, hL, hSw, hun⟩
                  go_simp
                simp only [List.getElem_toArray, List.getElem_cons_zero, List.getElem_cons_succ, Act.put, List.setIfInBounds_toArray, List.set_cons_zero, List.set_cons_succ]
                refine WA.take (i := 11) (v := .int .i64 ((k2 : Nat) : Int)) rfl (by kernel_rfl) (by kernel_rfl) (by kernel_rfl) (fun _ _ _ h => h) (hdrop 11) (Or.inl ⟨by rfl, ?_⟩) (hS _) ?_
                · rintro w' ⟨L, hL, hSw, hun⟩
                  go_simp
                simp only [List.getElem_toArray, List.getElem_cons_zero, List.getElem_cons_succ, Act.put, List.setIfInBounds_toArray, List.set_cons_zero, List.set_cons_succ]
                refine WA.take (i := 12) (v := .pointer (some ⟨b, off + i2 * 2, none⟩)) rfl (by kernel_rfl) (by kernel_rfl) (by kernel_rfl) (fun _ _ _ h => h) (hdrop 12) (Or.inl ⟨by rfl, ?_⟩) (hS _) ?_
                · rintro w' ⟨L, hL, hSw, hun⟩
                  go_simp
                simp only [List.getElem_toArray, List.getElem_cons_zero, List.getElem_cons_succ, Act.put, List.setIfInBounds_toArray, List.set_cons_zero, List.set_cons_succ]
                refine WA.take (i := 13) (v := .pointer (some ⟨b, off + i2 * 2 + k2, none⟩)) rfl (by kernel_rfl) (by kernel_rfl) (by kernel_rfl) (fun _ _ _ h => h) (hdrop 13) (Or.inl ⟨by rfl, ?_⟩) (hS _) ?_
                · rintro w' ⟨L, hL, hSw, hun⟩
                  go_simp
                  all_goals (intro h5; omega)
                simp only [List.getElem_toArray, List.getElem_cons_zero, List.getElem_cons_succ, Act.put, List.setIfInBounds_toArray, List.set_cons_zero, List.set_cons_succ]
                refine WA.take (i := 14) (v := .int .u32 z) rfl (by kernel_rfl) (by kernel_rfl) (by kernel_rfl) (fun _ _ _ h => h) (hdrop 14) (Or.inl ⟨by rfl, ?_⟩) (hS _) ?_
                · rintro w' ⟨L, hL, hSw, hun⟩
                  have hbw := hSo hSw
                  have cz := cell_later hbw cz
                  clear hbw
                  go_simp
                simp only [List.getElem_toArray, List.getElem_cons_zero, List.getElem_cons_succ, Act.put, List.setIfInBounds_toArray, List.set_cons_zero, List.set_cons_succ]
                refine WA.one (i := 7) (by kernel_rfl) rfl (by rfl) (fun K hK => ?_)
                go_simp
                refine (find_u (w := X3) (by rw [HX3.out]; exact HP11.out) Z32.out).mono ?_
                rintro e w_ ⟨rfl, hw_⟩
                subst hw_
                rw [Hff.out, Hfz.out]
                refine hK _ _ (hS _) ?_
                clear hK
                try simp only [List.getElem_toArray, List.getElem_cons_zero, List.getElem_cons_succ, Act.put, List.setIfInBounds_toArray, List.set_cons_zero, List.set_cons_succ]
                refine WA.one (i := 15) (by kernel_rfl) rfl (by rfl) (fun K hK => ?_)
                go_simp
                refine (find_u (w := X3) (by rw [HX3.out]; exact HQ11.out) Z32.out).mono ?_
                rintro e w_ ⟨rfl, hw_⟩
                subst hw_
                rw [Hfz.out]
                refine hK _ _ (hS _) ?_
                clear hK
                try simp only [List.getElem_toArray, List.getElem_cons_zero, List.getElem_cons_succ, Act.put, List.setIfInBounds_toArray, List.set_cons_zero, List.set_cons_succ]
                refine WA.take (i := 16) (v := .bool false) rfl (by kernel_rfl) (by kernel_rfl) (by kernel_rfl) (fun _ _ _ h => h) (hdrop 16) (Or.inl ⟨by rfl, ?_⟩) (hS _) ?_
                · rintro w' ⟨L, hL, hSw, hun⟩
                  go_simp
                simp only [List.getElem_toArray, List.getElem_cons_zero, List.getElem_cons_succ, Act.put, List.setIfInBounds_toArray, List.set_cons_zero, List.set_cons_succ]
                refine WA.take (i := 17) (v := .bool false) rfl (by kernel_rfl) (by kernel_rfl) (by kernel_rfl) (fun _ _ _ h => h) (hdrop 17) (Or.inl ⟨by rfl, ?_⟩) (hS _) ?_
                · rintro w' ⟨L, hL, hSw, hun⟩
                  go_simp
                simp only [List.getElem_toArray, List.getElem_cons_zero, List.getElem_cons_succ, Act.put, List.setIfInBounds_toArray, List.set_cons_zero, List.set_cons_succ]
                refine WA.take (i := 18) (v := .pointer (some ⟨pb, 0, none⟩)) rfl (by kernel_rfl) (by kernel_rfl) (by kernel_rfl) (fun _ _ _ h => h) (hdrop 18) (Or.inl ⟨by rfl, ?_⟩) (hS _) ?_
                · rintro w' ⟨L, hL, hSw, hun⟩
                  go_simp
                simp only [List.getElem_toArray, List.getElem_cons_zero, List.getElem_cons_succ, Act.put, List.setIfInBounds_toArray, List.set_cons_zero, List.set_cons_succ]
                refine WA.take (i := 19) (v := .slice (some ⟨b, off, none⟩) n lcap) rfl (by kernel_rfl) (by kernel_rfl) (by kernel_rfl) (fun _ _ _ h => h) (hdrop 19) (Or.inl ⟨by rfl, ?_⟩) (hS _) ?_
                · rintro w' ⟨L, hL, hSw, hun⟩
                  go_simp
                simp only [List.getElem_toArray, List.getElem_cons_zero, List.getElem_cons_succ, Act.put, List.setIfInBounds_toArray, List.set_cons_zero, List.set_cons_succ]
                refine WA.take (i := 20) (v := .int .i64 ((i2 : Nat) : Int)) rfl (by kernel_rfl) (by kernel_rfl) (by kernel_rfl) (fun _ _ _ h => h) (hdrop 20) (Or.inl ⟨by rfl, ?_⟩) (hS _) ?_
                · rintro w' ⟨L, hL, hSw, hun⟩
                  go_simp
                simp only [List.getElem_toArray, List.getElem_cons_zero, List.getElem_cons_succ, Act.put, List.setIfInBounds_toArray, List.set_cons_zero, List.set_cons_succ]
                refine WA.take (i := 21) (v := .int .i64 ((k2 : Nat) : Int)) rfl (by kernel_rfl) (by kernel_rfl) (by kernel_rfl) (fun _ _ _ h => h) (hdrop 21) (Or.inl ⟨by rfl, ?_⟩) (hS _) ?_
                · rintro w' ⟨L, hL, hSw, hun⟩
                  go_simp
                simp only [List.getElem_toArray, List.getElem_cons_zero, List.getElem_cons_succ, Act.put, List.setIfInBounds_toArray, List.set_cons_zero, List.set_cons_succ]
                refine WA.take (i := 22) (v := .pointer (some ⟨b, off + i2 * 2, none⟩)) rfl (by kernel_rfl) (by kernel_rfl) (by kernel_rfl) (fun _ _ _ h => h) (hdrop 22) (Or.inl ⟨by rfl, ?_⟩) (hS _) ?_
                · rintro w' ⟨L, hL, hSw, hun⟩
                  go_simp
                simp only [List.getElem_toArray, List.getElem_cons_zero, List.getElem_cons_succ, Act.put, List.setIfInBounds_toArray, List.set_cons_zero, List.set_cons_succ]
                refine WA.take (i := 23) (v := .pointer (some ⟨b, off + i2 * 2 + k2, none⟩)) rfl (by kernel_rfl) (by kernel_rfl) (by kernel_rfl) (fun _ _ _ h => h) (hdrop 23) (Or.inl ⟨by rfl, ?_⟩) (hS _) ?_
                · rintro w' ⟨L, hL, hSw, hun⟩
                  go_simp
                  all_goals (intro h5; omega)
                simp only [List.getElem_toArray, List.getElem_cons_zero, List.getElem_cons_succ, Act.put, List.setIfInBounds_toArray, List.set_cons_zero, List.set_cons_succ]
                refine WA.take (i := 24) (v := .int .u32 z) rfl (by kernel_rfl) (by kernel_rfl) (by kernel_rfl) (fun _ _ _ h => h) (hdrop 24) (Or.inl ⟨by rfl, ?_⟩) (hS _) ?_
                · rintro w' ⟨L, hL, hSw, hun⟩
                  have hbw := hSo hSw
                  have cz := cell_later hbw cz
                  clear hbw
                  go_simp
                simp only [List.getElem_toArray, List.getElem_cons_zero, List.getElem_cons_succ, Act.put, List.setIfInBounds_toArray, List.set_cons_zero, List.set_cons_succ]
                refine WA.take (i := 26) (v := .pointer (some ⟨qb, 0, none⟩)) rfl (by kernel_rfl) (by kernel_rfl) (by kernel_rfl) (fun _ _ _ h => h) (hdrop 26) (Or.inl ⟨by rfl, ?_⟩) (hS _) ?_
                · rintro w' ⟨L, hL, hSw, hun⟩
                  go_simp
                simp only [List.getElem_toArray, List.getElem_cons_zero, List.getElem_cons_succ, Act.put, List.setIfInBounds_toArray, List.set_cons_zero, List.set_cons_succ]
                refine WA.take (i := 27) (v := .slice (some ⟨b, off, none⟩) n lcap) rfl (by kernel_rfl) (by kernel_rfl) (by kernel_rfl) (fun _ _ _ h => h) (hdrop 27) (Or.inl ⟨by rfl, ?_⟩) (hS _) ?_
                · rintro w' ⟨L, hL, hSw, hun⟩
                  go_simp
                simp only [List.getElem_toArray, List.getElem_cons_zero, List.getElem_cons_succ, Act.put, List.setIfInBounds_toArray, List.set_cons_zero, List.set_cons_succ]
                refine WA.take (i := 28) (v := .int .i64 ((i2 : Nat) : Int)) rfl (by kernel_rfl) (by kernel_rfl) (by kernel_rfl) (fun _ _ _ h => h) (hdrop 28) (Or.inl ⟨by rfl, ?_⟩) (hS _) ?_
                · rintro w' ⟨L, hL, hSw, hun⟩
                  go_simp
                simp only [List.getElem_toArray, List.getElem_cons_zero, List.getElem_cons_succ, Act.put, List.setIfInBounds_toArray, List.set_cons_zero, List.set_cons_succ]
                refine WA.take (i := 29) (v := .int .i64 ((k2 : Nat) : Int)) rfl (by kernel_rfl) (by kernel_rfl) (by kernel_rfl) (fun _ _ _ h => h) (hdrop 29) (Or.inl ⟨by rfl, ?_⟩) (hS _) ?_
                · rintro w' ⟨L, hL, hSw, hun⟩
                  go_simp
                simp only [List.getElem_toArray, List.getElem_cons_zero, List.getElem_cons_succ, Act.put, List.setIfInBounds_toArray, List.set_cons_zero, List.set_cons_succ]
                refine WA.take (i := 30) (v := .pointer (some ⟨b, off + i2 * 2, none⟩)) rfl (by kernel_rfl) (by kernel_rfl) (by kernel_rfl) (fun _ _ _ h => h) (hdrop 30) (Or.inl ⟨by rfl, ?_⟩) (hS _) ?_
                · rintro w' ⟨L, hL, hSw, hun⟩
                  go_simp
                simp only [List.getElem_toArray, List.getElem_cons_zero, List.getElem_cons_succ, Act.put, List.setIfInBounds_toArray, List.set_cons_zero, List.set_cons_succ]
                refine WA.take (i := 31) (v := .pointer (some ⟨b, off + i2 * 2 + k2, none⟩)) rfl (by kernel_rfl) (by kernel_rfl) (by kernel_rfl) (fun _ _ _ h => h) (hdrop 31) (Or.inl ⟨by rfl, ?_⟩) (hS _) ?_
                · rintro w' ⟨L, hL, hSw, hun⟩
                  go_simp
                  all_goals (intro h5; omega)
                simp only [List.getElem_toArray, List.getElem_cons_zero, List.getElem_cons_succ, Act.put, List.setIfInBounds_toArray, List.set_cons_zero, List.set_cons_succ]
                refine WA.take (i := 32) (v := .int .u32 z) rfl (by kernel_rfl) (by kernel_rfl) (by kernel_rfl) (fun _ _ _ h => h) (hdrop 32) (Or.inl ⟨by rfl, ?_⟩) (hS _) ?_
                · rintro w' ⟨L, hL, hSw, hun⟩
                  have hbw := hSo hSw
                  have cz := cell_later hbw cz
                  clear hbw
                  go_simp
                simp only [List.getElem_toArray, List.getElem_cons_zero, List.getElem_cons_succ, Act.put, List.setIfInBounds_toArray, List.set_cons_zero, List.set_cons_succ]
                refine WA.one (i := 25) (by kernel_rfl) rfl (by rfl) (fun K hK => ?_)
                go_simp
                refine (clique_any (w := X3) (by rw [HX3.out]; exact HP11.out) HI.out (HJ.out) (by have := Hn.out; omega) Z32.out).mono ?_
                rintro e w5 ⟨v5, L5, rfl, hO_, hL_, hB_⟩
                obtain ⟨a5, cap5, rfl, _, _, hU_⟩ := hO_.u
                have HU5 := Lib.hid hU_; have HL5 := Lib.hid hL_; have HB5 := Lib.hid hB_
                clear hO_ hL_ hB_ hU_
                refine hK _ _ (hSi HB5.out _) ?_
                clear hK
                try simp only [List.getElem_toArray, List.getElem_cons_zero, List.getElem_cons_succ, Act.put, List.setIfInBounds_toArray, List.set_cons_zero, List.set_cons_succ]
                refine WA.one (i := 33) (by kernel_rfl) rfl (by rfl) (fun K hK => ?_)
                go_simp
                refine (clique_any (w := w5) ((show IsP X3 qb nf nc g d by rw [HX3.out]; exact HQ11.out).below HB5.out) HK.out (rotQ_32 HJ.out s J.length) (by have := Hn.out; rw [rotQ_len]; omega) Z32.out).mono ?_
                rintro e w6 ⟨v6, L6, rfl, hO_, hL_, hB_⟩
                obtain ⟨a6, cap6, rfl, _, _, hU_⟩ := hO_.u
                have HU6 := Lib.hid hU_; have HL6 := Lib.hid hL_; have HB6 := Lib.hid hB_
                clear hO_ hL_ hB_ hU_
                refine hK _ _ (hSi (HB5.out.trans (HB6.out.mono HB5.out.size)) _) ?_
                clear hK
                try simp only [List.getElem_toArray, List.getElem_cons_zero, List.getElem_cons_succ, Act.put, List.setIfInBounds_toArray, List.set_cons_zero, List.set_cons_succ]
                refine WA.one (i := 34) (by kernel_rfl) rfl (by rfl) (fun K hK => ?_)
                go_simp
                have hLL := HL5.out.unique HL6.out hcc.out
                refine (equal_u a5 a6 cap5 cap6 L5 L6 (HU5.out.below HB6.out) HU6.out (by have := HL5.out.len; have := Hn.out; omega)).mono ?_
                rintro e w7 ⟨rfl, hB_⟩
                have HB7 := Lib.hid hB_
                rw [decide_eq_true hLL]
                clear hB_ hLL
                refine hK _ _ (hSi ((HB5.out.trans (HB6.out.mono HB5.out.size)).trans (HB7.out.mono (Nat.le_trans HB5.out.size HB6.out.size))) _) ?_
                clear hK
                try simp only [List.getElem_toArray, List.getElem_cons_zero, List.getElem_cons_succ, Act.put, List.setIfInBounds_toArray, List.set_cons_zero, List.set_cons_succ]
                refine WA.take (i := 35) (v := .bool false) rfl (by kernel_rfl) (by kernel_rfl) (by kernel_rfl) (fun _ _ _ h => h) (hdrop 35) (Or.inl ⟨by rfl, ?_⟩) (hSi ((HB5.out.trans (HB6.out.mono HB5.out.size)).trans (HB7.out.mono (Nat.le_trans HB5.out.size HB6.out.size))) _) ?_
                · rintro w' ⟨L, hL, hSw, hun⟩
                  go_simp
                simp only [List.getElem_toArray, List.getElem_cons_zero, List.getElem_cons_succ, Act.put, List.setIfInBounds_toArray, List.set_cons_zero, List.set_cons_succ]
                refine WA.take (i := 36) (v := .bool false) rfl (by kernel_rfl) (by kernel_rfl) (by kernel_rfl) (fun _ _ _ h => h) (hdrop 36) (Or.inl ⟨by rfl, ?_⟩) (hSi ((HB5.out.trans (HB6.out.mono HB5.out.size)).trans (HB7.out.mono (Nat.le_trans HB5.out.size HB6.out.size))) _) ?_
                · rintro w' ⟨L, hL, hSw, hun⟩
                  go_simp
                simp only [List.getElem_toArray, List.getElem_cons_zero, List.getElem_cons_succ, Act.put, List.setIfInBounds_toArray, List.set_cons_zero, List.set_cons_succ]
                refine WA.done (by kernel_rfl) ?_ _
                refine Nrm.normal ?_
                clear hSo hS hSi hdrop cz
                clear S16
                have HB12 := Lib.hid (show Below w9.heap.size w9 w7 by
                  have h1 : Below w11.heap.size w11 X3 := by rw [HX3.out]; exact (Below.refl _ _).drew
                  have h2 := (HB5.out.trans (HB6.out.mono HB5.out.size)).trans (HB7.out.mono (Nat.le_trans HB5.out.size HB6.out.size))
                  exact HB11.out.trans ((h1.trans (h2.mono h1.size)).mono HB11.out.size))
                go_wp2_with fail
                go_roundw
                case rel => exact ⟨k2 + 1, by omega, by push_cast; rfl, HB12.out⟩
                case measure => simp [intOf]; omega
              · have hd3 : decide ((k2 : Int) < 2) = false := by simp; omega
                go_wp2_with fail
                go_roundw
                case rel => exact ⟨i2 + 1, by omega, by push_cast; rfl, HB11.out⟩
                case measure => simp [intOf]; omega
          · have hd2 : decide ((i2 : Int) < (n : Int)) = false := by simp; omega
            have l1 := Lib.hid (lenP_u (HP.out.below HB10.out))
            have l2 := Lib.hid (lenP_u (HQ.out.below HB10.out))
            go_wp2_with fail
            refine l1.out.mono ?_
            rintro e w12 ⟨⟨ks, a1, a2, a3, rfl⟩, rfl⟩
            go_wp2_with fail
            refine l2.out.mono ?_
            rintro e w13 ⟨⟨ls, b1, b2, b3, rfl⟩, rfl⟩
            have hkl : ks.length = ls.length := keys_same HI.out HK.out hcc.out a1 b1 a2 b2 a3 b3
            rw [hkl]
            have hq2 : ((ls.length : Int) == (ls.length : Int)) = true := by simp
            clear a1 a2 a3 b1 b2 b3 hkl
            go_wp2_with fail
            refine (known_u _).mono ?_
            rintro e w14 ⟨rfl, hB14⟩
            go_wp2_with fail
            go_ret
            exact ⟨rfl, (HB.out.trans (HB10.out.mono HB.out.size)).trans (hB14.mono (Nat.le_trans HB.out.size HB10.out.size))⟩
end
end Go.Proofs.Ytpiciickgomggaa
