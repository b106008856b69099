/- Are two lists the same; a clique, whatever the number; the chapter's rows. -/
import Derived.Test.YtpiciickgomggaaQ9
namespace Go.Proofs.Ytpiciickgomggaa
set_option maxRecDepth 100000
open Go.RowKit Go.Maps
set_option linter.unusedVariables false
set_option linter.unusedSimpArgs false

section
variable {w : World}
set_option maxRecDepth 100000 in
set_option maxHeartbeats 2000000 in
theorem equal_u (a a' : Option Addr) (cap cap' : Nat) (L L' : List Int) (h : IsU w a L) (h' : IsU w a' L') (hl : L.length ≤ 1000000) :
    Calls Try.prog 10 #[.slice a L.length cap, .slice a' L'.length cap'] w fun e w' => e = .returned (.bool (decide (L = L'))) ∧ Below w.heap.size w w' := by
  have H := Lib.hid h; have H' := Lib.hid h'
  obtain ⟨l, hll⟩ : ∃ l, L.length = l := ⟨_, rfl⟩
  obtain ⟨l', hll'⟩ : ∃ l, L'.length = l := ⟨_, rfl⟩
  have Hl := Lib.hid hll; have Hl' := Lib.hid hll'
  rw [hll] at hl
  rw [hll, hll']
  clear h h' hll hll'
  go_enter Try.func10, Try.ntmps10
  by_cases hne : l = l'
  · subst hne
    have hd : ((l : Int) != (l : Int)) = false := by simp
    go_wp2_with fail
    go_loopw [5] (fun u wr => ∃ k : Nat, k ≤ l ∧ u = .int .i64 k ∧ Below w.heap.size w wr ∧ ∀ j (h1 : j < L.length) (h2 : j < L'.length), j < k → L[j] = L'[j]) (fun u _ => l - (intOf u).toNat)
    case atStart => exact ⟨0, by omega, rfl, Below.refl _ _, fun j _ _ h => by omega⟩
    case round =>
      obtain ⟨k, hk, rfl, hB, hkk⟩ := hrel
      have HB := Lib.hid hB; have Hkk := Lib.hid hkk
      clear hB hkk
      by_cases hkl : k < l
      · have hd2 : decide ((k : Int) < (l : Int)) = true := by simp; omega
        obtain ⟨b, rfl, _, c⟩ := H.out.below HB.out k (by have := Hl.out; omega)
        obtain ⟨b', rfl, _, c'⟩ := H'.out.below HB.out k (by have := Hl'.out; omega)
        obtain ⟨x, hx⟩ : ∃ x, L[k]'(by have := Hl.out; omega) = x := ⟨_, rfl⟩
        obtain ⟨x', hx'⟩ : ∃ x, L'[k]'(by have := Hl'.out; omega) = x := ⟨_, rfl⟩
        rw [hx] at c
        rw [hx'] at c'
        have Hx := Lib.hid hx; have Hx' := Lib.hid hx'
        clear hx hx'
        obtain ⟨bb, hbb⟩ : ∃ bb, (x != x') = bb := ⟨_, rfl⟩
        go_wp2_with fail
        have c : wr.drew.cell? ⟨b, k, none⟩ = some (.int .u32 x) := c
        have c' : wr.drew.cell? ⟨b', k, none⟩ = some (.int .u32 x') := c'
        obtain ⟨SQ, hSe⟩ : ∃ S : Array Bool → World → Prop, S = fun _ w' => Below wr.drew.heap.size wr.drew w' := ⟨_, rfl⟩
        have hdrop : ∀ i : Nat, ∀ L w', SQ (L.setIfInBounds i true) w' → SQ L w' := by
          intro i L w' h; rw [hSe] at h ⊢; exact h
        have hS : ∀ L, SQ L wr.drew := by intro L; rw [hSe]; exact Below.refl _ _
        have hSo : ∀ {L w'}, SQ L w' → Below wr.drew.heap.size wr.drew w' := by intro L w' h; rw [hSe] at h; exact h
        have hSi : ∀ {w'}, Below wr.drew.heap.size wr.drew w' → ∀ L, SQ L w' := by intro w' h L; rw [hSe]; exact h
        clear hSe
        refine wp_region_LN SQ 9 #[false, false, false, false, false, false, false, false, false] (by kernel_rfl) (by kernel_rfl) rfl ?_
        obtain ⟨X1, hX1⟩ : ∃ X1, X1 = wr.drew := ⟨_, rfl⟩
        rw [← hX1] at c c' hSo hS hSi ⊢
        have HX1 := Lib.hid hX1
        clear hX1
        refine WA.take (i := 0) (v := .slice (some ⟨b, 0, none⟩) l cap) rfl (by kernel_rfl) (by kernel_rfl) (by kernel_rfl) (fun _ _ _ h => h) (hdrop 0) (Or.inl ⟨by rfl, ?_⟩) (hS _) ?_
        · rintro w' ⟨L, hL, hSw, hun⟩
          go_simp
        simp only [List.getElem_toArray, List.getElem_cons_zero, List.getElem_cons_succ, Act.put, List.setIfInBounds_toArray, List.set_cons_zero, List.set_cons_succ]
        refine WA.take (i := 1) (v := .int .i64 ((k : Nat) : Int)) rfl (by kernel_rfl) (by kernel_rfl) (by kernel_rfl) (fun _ _ _ h => h) (hdrop 1) (Or.inl ⟨by rfl, ?_⟩) (hS _) ?_
        · rintro w' ⟨L, hL, hSw, hun⟩
          go_simp
        simp only [List.getElem_toArray, List.getElem_cons_zero, List.getElem_cons_succ, Act.put, List.setIfInBounds_toArray, List.set_cons_zero, List.set_cons_succ]
        refine WA.take (i := 2) (v := .pointer (some ⟨b, k, none⟩)) rfl (by kernel_rfl) (by kernel_rfl) (by kernel_rfl) (fun _ _ _ h => h) (hdrop 2) (Or.inl ⟨by rfl, ?_⟩) (hS _) ?_
        · rintro w' ⟨L, hL, hSw, hun⟩
          go_simp
        simp only [List.getElem_toArray, List.getElem_cons_zero, List.getElem_cons_succ, Act.put, List.setIfInBounds_toArray, List.set_cons_zero, List.set_cons_succ]
        refine WA.take (i := 3) (v := .int .u32 x) rfl (by kernel_rfl) (by kernel_rfl) (by kernel_rfl) (fun _ _ _ h => h) (hdrop 3) (Or.inl ⟨by rfl, ?_⟩) (hS _) ?_
        · rintro w' ⟨L, hL, hSw, hun⟩
          have hbw := hSo hSw
          have c := cell_later hbw c
          clear hbw
          go_simp
        simp only [List.getElem_toArray, List.getElem_cons_zero, List.getElem_cons_succ, Act.put, List.setIfInBounds_toArray, List.set_cons_zero, List.set_cons_succ]
        refine WA.take (i := 4) (v := .slice (some ⟨b', 0, none⟩) l cap') rfl (by kernel_rfl) (by kernel_rfl) (by kernel_rfl) (fun _ _ _ h => h) (hdrop 4) (Or.inl ⟨by rfl, ?_⟩) (hS _) ?_
        · rintro w' ⟨L, hL, hSw, hun⟩
          go_simp
        simp only [List.getElem_toArray, List.getElem_cons_zero, List.getElem_cons_succ, Act.put, List.setIfInBounds_toArray, List.set_cons_zero, List.set_cons_succ]
        refine WA.take (i := 5) (v := .int .i64 ((k : Nat) : Int)) rfl (by kernel_rfl) (by kernel_rfl) (by kernel_rfl) (fun _ _ _ h => h) (hdrop 5) (Or.inl ⟨by rfl, ?_⟩) (hS _) ?_
        · rintro w' ⟨L, hL, hSw, hun⟩
          go_simp
        simp only [List.getElem_toArray, List.getElem_cons_zero, List.getElem_cons_succ, Act.put, List.setIfInBounds_toArray, List.set_cons_zero, List.set_cons_succ]
        refine WA.take (i := 6) (v := .pointer (some ⟨b', k, none⟩)) rfl (by kernel_rfl) (by kernel_rfl) (by kernel_rfl) (fun _ _ _ h => h) (hdrop 6) (Or.inl ⟨by rfl, ?_⟩) (hS _) ?_
        · rintro w' ⟨L, hL, hSw, hun⟩
          go_simp
        simp only [List.getElem_toArray, List.getElem_cons_zero, List.getElem_cons_succ, Act.put, List.setIfInBounds_toArray, List.set_cons_zero, List.set_cons_succ]
        refine WA.take (i := 7) (v := .int .u32 x') rfl (by kernel_rfl) (by kernel_rfl) (by kernel_rfl) (fun _ _ _ h => h) (hdrop 7) (Or.inl ⟨by rfl, ?_⟩) (hS _) ?_
        · rintro w' ⟨L, hL, hSw, hun⟩
          have hbw := hSo hSw
          have c' := cell_later hbw c'
          clear hbw
          go_simp
        simp only [List.getElem_toArray, List.getElem_cons_zero, List.getElem_cons_succ, Act.put, List.setIfInBounds_toArray, List.set_cons_zero, List.set_cons_succ]
        refine WA.take (i := 8) (v := .bool bb) rfl (by kernel_rfl) (by kernel_rfl) (by kernel_rfl) (fun _ _ _ h => h) (hdrop 8) (Or.inl ⟨by rfl, ?_⟩) (hS _) ?_
        · rintro w' ⟨L, hL, hSw, hun⟩
          go_simp
        simp only [List.getElem_toArray, List.getElem_cons_zero, List.getElem_cons_succ, Act.put, List.setIfInBounds_toArray, List.set_cons_zero, List.set_cons_succ]
        refine WA.done (by kernel_rfl) ?_ _
        refine Nrm.normal ?_
        clear hSo hS hSi hdrop c c'
        clear SQ
        have HBd := Lib.hid (show Below w.heap.size w X1 by rw [HX1.out]; exact HB.out.drew)
        cases bb with
        | true =>
          go_wp2_with fail
          go_ret
          refine ⟨?_, HBd.out⟩
          rw [show decide (L = L') = false by
            rw [decide_eq_false_iff_not]
            intro e
            subst e
            rw [Hx.out] at Hx'
            simp [Hx'.out] at hbb]
          rfl
        | false =>
          go_wp2_with fail
          exact ⟨⟨k + 1, by omega, by push_cast; rfl, HBd.out, fun j h1 h2 hjk => by
            by_cases hj : j = k
            · subst hj
              rw [Hx.out, Hx'.out]
              simpa using hbb
            · exact Hkk.out j h1 h2 (by omega)⟩, by simp [intOf]; omega⟩
      · have hkl' : k = l := by omega
        subst hkl'
        have hd2 : decide ((k : Int) < (k : Int)) = false := by simp
        go_wp2_with fail
        go_ret
        refine ⟨?_, HB.out⟩
        rw [show decide (L = L') = true by
          rw [decide_eq_true_eq]
          exact List.ext_getElem (by rw [Hl.out, Hl'.out]) (fun j h1 h2 => Hkk.out j h1 h2 (by have := Hl.out; omega))]
        rfl
  · have hd : ((l : Int) != (l' : Int)) = true := by simp; omega
    go_wp2_with fail
    go_ret
    refine ⟨?_, Below.refl _ _⟩
    rw [show decide (L = L') = false by
      rw [decide_eq_false_iff_not]
      intro e
      exact hne (by rw [← Hl.out, ← Hl'.out, e])]
    rfl
theorem srt_cl {J : Jn} {a : Int} {L : List Int} (hn : L.Nodup) (hm : ∀ b, b ∈ L ↔ Conn J a b) : IsCl J a (srt L) := by
  refine ⟨?_, fun b => (List.Perm.mem_iff (srt_perm L)).trans (hm b)⟩
  have hs : (srt L).Pairwise (fun x y => decide (x ≤ y) = true) := List.pairwise_mergeSort (fun a b c h1 h2 => by simp at *; omega) (fun a b => by simp; omega) L
  have hd : (srt L).Pairwise (fun x y => x ≠ y) := (srt_perm L).nodup_iff.2 hn
  exact (hs.and hd).imp fun ⟨h1, h2⟩ => by simp at h1; omega
/-- a number's clique: none for 0, else all that it is joined with -/
def ClL (J : Jn) (x : Int) (L : List Int) : Prop := (x = 0 → L = []) ∧ (x ≠ 0 → IsCl J x L)
theorem ClL.unique {J K : Jn} {x : Int} {L M : List Int} (h : ClL J x L) (k : ClL K x M) (hc : ∀ a b, Conn J a b ↔ Conn K a b) : L = M := by
  by_cases h0 : x = 0
  · rw [h.1 h0, k.1 h0]
  · exact (h.2 h0).unique ((k.2 h0).move fun b => (hc x b).symm)
theorem ClL.len {J : Jn} {x : Int} {L : List Int} (h : ClL J x L) : L.length ≤ 2 * J.length + 1 := by
  by_cases h0 : x = 0
  · rw [h.1 h0]; simp
  · exact conn_len (h.2 h0).srt.nodup fun b hb => ((h.2 h0).mem b).1 hb
theorem clique_any {pb mf mc : Nat} {f : Int → Option Int} {c : Int → Option (List Int)} {J : Jn} (h : IsP w pb mf mc f c) (hI : PInv J f c) (hJ : ∀ p ∈ J, is32 p.1 ∧ is32 p.2) (hJl : J.length ≤ 100) {a : Int} (ha : is32 a) :
    Calls Try.prog 11 #[.pointer (some ⟨pb, 0, none⟩), .int .u32 a] w fun e w' => ∃ v L, e = .returned v ∧ OwnU w.heap.size w' v L ∧ ClL J a L ∧ Below w.heap.size w w' := by
  by_cases h0 : a = 0
  · subst h0
    exact (cliqueP_zero _ rfl).mono fun e w' ⟨h1, h2⟩ => by subst h2; exact ⟨_, [], h1, World.ownsRow_nil _ _ _ _, ⟨fun _ => rfl, fun h => absurd rfl h⟩, Below.refl _ _⟩
  · obtain ⟨nd, hm⟩ := hI.list a
    have hl := conn_len nd (fun b hb => (hm b).1 hb)
    exact (cliqueP_u h ha h0 ((hI.find a).1.is32 hJ ha) (by omega)).mono fun e w' ⟨v, h1, h2, h3⟩ => ⟨v, _, h1, h2, ⟨fun h => absurd h h0, fun _ => srt_cl nd hm⟩, h3⟩

/-! the chapter's rows -/
theorem k1_cl : IsCl [(5, 3)] 5 [3, 5] := by
  refine ⟨by simp [Srt], fun b => ⟨fun h => ?_, fun h => closed_all (by simp) (fun j hj => ?_) h⟩⟩
  · have e : Conn [(5, 3)] 5 3 := .edge ⟨(5, 3), by simp, by simp, by simp, .inl rfl⟩
    simp at h
    rcases h with rfl | rfl
    · exact e
    · exact .refl _
  · have hj0 : j = 0 := by simp at hj; omega
    subst hj0
    simp
theorem k2_cl : IsCl [(5, 3), (3, 9)] 5 [3, 5, 9] := by
  refine ⟨by simp [Srt], fun b => ⟨fun h => ?_, fun h => closed_all (by simp) (fun j hj => ?_) h⟩⟩
  · have e : Conn [(5, 3), (3, 9)] 5 3 := .edge ⟨(5, 3), by simp, by simp, by simp, .inl rfl⟩
    have e2 : Conn [(5, 3), (3, 9)] 3 9 := .edge ⟨(3, 9), by simp, by simp, by simp, .inl rfl⟩
    simp at h
    rcases h with rfl | rfl | rfl
    · exact e
    · exact .refl _
    · exact e.trans e2
  · have hj0 : j = 0 ∨ j = 1 := by simp at hj; omega
    rcases hj0 with rfl | rfl <;> simp
theorem find_cl {J : Jn} {f : Int → Option Int} {c : Int → Option (List Int)} (hI : PInv J f c) {a r : Int} {L : List Int} (h : IsCl J a (r :: L)) : findP f a = r := by
  obtain ⟨h1, h2⟩ := hI.find a
  have h3 := h2 r ((h.mem r).1 (by simp))
  rcases List.mem_cons.1 ((h.mem _).2 h1) with e | e
  · exact e
  · have := (List.pairwise_cons.1 h.srt).1 _ e
    omega
set_option maxRecDepth 100000 in
set_option maxHeartbeats 2000000 in
theorem known_u (w : World) : Calls Try.prog 6 #[] w fun e w' => e = .returned (.bool true) ∧ Below w.heap.size w w' := by
  go_enter Try.func6, Try.ntmps6
  go_wp2_with fail
  refine (newP_u w).mono ?_
  rintro e w1 ⟨pb, mf, mc, rfl, hP1, m1, m2, m3, hB1⟩
  have HP1 := Lib.hid hP1; have HB1 := Lib.hid hB1
  clear hP1 hB1
  have hj1 := joinP_u HP1.out PInv.nil (by simp) (by simp) (a := 5) (b := 3) (by simp [is32]) (by simp [is32])
  go_wp2_with fail
  refine hj1.mono ?_
  rintro e w2 ⟨r, two, f1, c1, rfl, hP2, hI2, hT2, hr⟩
  have hr2 : r = 3 ∧ two = true := by
    rcases hr with ⟨h, _⟩ | ⟨_, _, h1, h2⟩
    · omega
    · refine ⟨h1.trans (find_cl hI2 k1_cl), h2.2 fun h => ?_⟩
      exact absurd (PInv.nil.non 5 rfl 3 h) (by omega)
  obtain ⟨rfl, rfl⟩ := hr2
  have HP2 := Lib.hid hP2; have HI2 := Lib.hid hI2; have HB2 := Lib.hid (HB1.out.trans ((hT2.lower (n := w.heap.size) m1 m2 HB1.out.size)))
  clear hP2 hI2 hT2 hr hj1
  have hj2 := joinP_u HP2.out HI2.out (by simp [is32]) (by simp) (a := 3) (b := 9) (by simp [is32]) (by simp [is32])
  go_wp2_with fail
  refine hj2.mono ?_
  rintro e w3 ⟨r, two, f2, c2, rfl, hP3, hI3, hT3, hr⟩
  have hr2 : r = 3 ∧ two = true := by
    rcases hr with ⟨h, _⟩ | ⟨_, _, h1, h2⟩
    · omega
    · have h5 : findP f2 3 = findP f2 5 := hI3.find_eq.2 (((k2_cl.mem 3).1 (by simp)).symm)
      refine ⟨h1.trans (h5.trans (find_cl hI3 k2_cl)), h2.2 fun h => ?_⟩
      have h6 : Conn [(5, 3)] 5 9 := ((k1_cl.mem 3).1 (by simp)).trans h
      have := (k1_cl.mem 9).2 h6
      simp at this
  obtain ⟨rfl, rfl⟩ := hr2
  have HP3 := Lib.hid hP3; have HI3 := Lib.hid hI3; have HB3 := Lib.hid (HB2.out.trans ((hT3.lower (n := w.heap.size) m1 m2 HB2.out.size)))
  clear hP3 hI3 hT3 hr hj2
  have hc := clique_any HP3.out HI3.out (by simp [is32]) (by simp) (a := 5) (by simp [is32])
  go_wp2_with fail
  refine hc.mono ?_
  rintro e w4 ⟨v, L, rfl, hO, hL, hB⟩
  obtain rfl : L = [3, 5, 9] := (hL.2 (by omega)).unique k2_cl
  obtain ⟨sa, cap, rfl, _, _, hU⟩ := hO.u
  obtain ⟨g, rfl, hg, u0⟩ := hU 0 (by simp)
  obtain ⟨g1, e1, _, u1⟩ := hU 1 (by simp)
  obtain rfl : g = g1 := by simpa using e1
  obtain ⟨g2, e2, _, u2⟩ := hU 2 (by simp)
  obtain rfl : g = g2 := by simpa using e2
  simp only [List.getElem_cons_zero, List.getElem_cons_succ] at u0 u1 u2
  have HB4 := Lib.hid (HB3.out.trans (hB.mono HB3.out.size))
  have hf := find_u (HP3.out.below hB) (a := 9) (by simp [is32])
  have hf9 : findP f2 9 = 3 := by
    have h5 : findP f2 9 = findP f2 5 := HI3.out.find_eq.2 (((k2_cl.mem 9).1 (by simp)).symm)
    exact h5.trans (find_cl HI3.out k2_cl)
  rw [hf9] at hf
  have Hf := Lib.hid hf
  clear hc hO hL hB hU e1 e2 hf hf9
  go_wp2_with fail
  refine Hf.out.mono ?_
  rintro e w5 ⟨rfl, rfl⟩
  go_wp2_with fail
  go_ret
  exact ⟨rfl, HB4.out⟩
end
end Go.Proofs.Ytpiciickgomggaa
