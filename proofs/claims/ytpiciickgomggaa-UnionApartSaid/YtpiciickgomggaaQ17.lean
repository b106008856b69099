/- UnionPlays, walked. -/
import Derived.Test.YtpiciickgomggaaQ16
namespace Go.Proofs.Ytpiciickgomggaa
set_option maxRecDepth 100000
open Go.RowKit Go.Maps
set_option linter.unusedVariables false
set_option linter.unusedSimpArgs false

theorem conn_still {J : Jn} {x y : Int} (hs : x = 0 ∨ y = 0 ∨ Conn J x y) (a b : Int) : Conn (J ++ [(x, y)]) a b ↔ Conn J a b := by
  refine ⟨fun k => ?_, fun k => k.mono fun p hp => List.mem_append_left _ hp⟩
  rcases Conn.snoc.1 k with k | ⟨ha, hb, hk⟩
  · exact k
  · rcases hs with h0 | h0 | h0
    · exact absurd h0 ha
    · exact absurd h0 hb
    · rcases hk with ⟨k1, k2⟩ | ⟨k1, k2⟩
      · exact (k1.trans h0).trans k2
      · exact (k1.trans h0.symm).trans k2
/-- what the reference has after a join, and the partition -/
theorem pair_step {J J' : Jn} {f : Int → Option Int} {c : Int → Option (List Int)} {x y : Int} {two : Bool} (hI : PInv (J ++ [(x, y)]) f c) (hE : Eff J) (h32 : ∀ p ∈ J, is32 p.1 ∧ is32 p.2) (hx : is32 x) (hy : is32 y)
    (h : (two = false ∧ J' = J ∧ (x = 0 ∨ y = 0 ∨ Conn J x y)) ∨ (two = true ∧ J' = J ++ [(x, y)] ∧ x ≠ 0 ∧ y ≠ 0 ∧ ¬ Conn J x y)) :
    PInv J' f c ∧ Eff J' ∧ (∀ p ∈ J', is32 p.1 ∧ is32 p.2) ∧ J'.length ≤ J.length + 1 := by
  rcases h with ⟨_, rfl, hs⟩ | ⟨_, rfl, h1, h2, h3⟩
  · exact ⟨hI.move (conn_still hs), hE, h32, by omega⟩
  · refine ⟨hI, fun p hp => ?_, fun p hp => ?_, by simp⟩
    · rcases List.mem_append.1 hp with hp | hp
      · exact hE p hp
      · rw [List.mem_singleton] at hp; subst hp
        exact ⟨h1, h2, fun e => h3 (by simp only at e; rw [e]; exact .refl _)⟩
    · rcases List.mem_append.1 hp with hp | hp
      · exact h32 p hp
      · rw [List.mem_singleton] at hp; subst hp; exact ⟨hx, hy⟩
theorem OwnJ.turn {base mf mc : Nat} {w w' : World} {v : Value} {J : Jn} (h : OwnJ base w v J) (hf : ∃ es k, w.heap[mf]? = some (.map es k)) (hc : ∃ es k, w.heap[mc]? = some (.map es k)) (ht : TnM w w' mf mc) : OwnJ base w' v J := by
  obtain ⟨_, _, hf⟩ := hf
  obtain ⟨_, _, hc⟩ := hc
  refine ⟨h.1, ?_⟩
  rcases h.2 with h1 | ⟨g, cap, cur, h1, h2, h3, h4⟩
  · exact .inl h1
  · refine .inr ⟨g, cap, cur, h1, h2, (ht.same g (lt_of_heap h3) (fun e => ?_) (fun e => ?_)).trans h3, h4⟩
    · subst e; rw [h3] at hf; cases hf
    · subst e; rw [h3] at hc; cases hc
section
variable {w : World}
theorem cliqueR_any {ja : Option Addr} {J : Jn} (h : IsJ w ja J) (jcap : Nat) (hJ : J.length ≤ 100000) (hz : ∀ p ∈ J, p.1 ≠ 0 ∧ p.2 ≠ 0) (a : Int) :
    Calls Try.prog 14 #[.slice ja J.length jcap, .int .u32 a] w fun e w' => ∃ v L, e = .returned v ∧ OwnU w.heap.size w' v L ∧ ClL J a L ∧ Below w.heap.size w w' := by
  by_cases h0 : a = 0
  · subst h0
    exact (cliqueR_zero ja J.length jcap).mono fun e w' ⟨h1, h2⟩ => by subst h2; exact ⟨_, [], h1, World.ownsRow_nil _ _ _ _, ⟨fun _ => rfl, fun h => absurd rfl h⟩, Below.refl _ _⟩
  · exact (cliqueR_u h jcap hJ hz a h0).mono fun e w' ⟨v, L, h1, h2, h3, h4⟩ => ⟨v, L, h1, h2, ⟨fun h => absurd h h0, fun _ => h3⟩, h4⟩
theorem Eff.nz {J : Jn} (h : Eff J) : ∀ p ∈ J, p.1 ≠ 0 ∧ p.2 ≠ 0 := fun p hp => ⟨(h p hp).1, (h p hp).2.1⟩
set_option maxRecDepth 100000 in
set_option maxHeartbeats 16000000 in
theorem plays_u {la : Option Addr} {L0 : Jn} (h : IsJ w la L0) (hJ : ∀ p ∈ L0, is32 p.1 ∧ is32 p.2) (hlen : L0.length ≤ maxLen) (lcap : Nat) (al : Int) (hal : is32 al) :
    Calls Try.prog 4 #[.slice la L0.length lcap, .int .u32 al] w fun e w' => e = .returned (.bool true) ∧ Below w.heap.size w w' := by
  obtain ⟨n, hn⟩ : ∃ n, L0.length = n := ⟨_, rfl⟩
  have H := Lib.hid h; have HJ := Lib.hid hJ; have Hn := Lib.hid hn; have Hal := Lib.hid hal
  rw [hn] at hlen ⊢
  clear h hJ hn hal
  simp only [maxLen] at hlen
  by_cases h60 : n > 60
  · have hd : decide ((n : Int) > 60) = true := by simp; omega
    have hd' : decide (60 < (n : Int)) = true := by simp; omega
    go_enter Try.func4, Try.ntmps4
    go_wp2_with fail
    refine (known_u w).mono ?_
    rintro e w' ⟨rfl, hB⟩
    go_wp2_with fail
    go_ret
    exact ⟨rfl, hB⟩
  · have hd : decide ((n : Int) > 60) = false := by simp; omega
    have hd' : decide (60 < (n : Int)) = false := by simp; omega
    go_enter Try.func4, Try.ntmps4
    go_wp2_with fail
    refine (newP_u w).mono ?_
    rintro e w1 ⟨pb, mf, mc, rfl, hP1, m1, m2, m3, hB1⟩
    have HP1 := Lib.hid hP1; have HB1 := Lib.hid hB1
    clear hP1 hB1
    go_wp2_with fail
    go_loopw [6, 7] (fun u6 u wr => ∃ (i : Nat) (f : Int → Option Int) (c : Int → Option (List Int)) (J : Jn), i ≤ n ∧ u = .int .i64 i ∧ IsP wr pb mf mc f c ∧ PInv J f c ∧ Eff J ∧ (∀ p ∈ J, is32 p.1 ∧ is32 p.2) ∧ J.length ≤ i ∧ OwnJ 0 wr u6 J ∧ Below w.heap.size w wr) (fun _ u _ => n - (intOf u).toNat)
    case atStart => exact ⟨0, _, _, [], by omega, rfl, HP1.out, PInv.nil, fun p hp => by simp at hp, fun p hp => by simp at hp, by simp, OwnJ.nil _ _, HB1.out⟩
    case round =>
      obtain ⟨i, f, c, J, hi, rfl, hP, hI, hE, h32, hJl, hO, hB⟩ := hrel
      have HP := Lib.hid hP; have HI := Lib.hid hI; have HE := Lib.hid hE; have H32 := Lib.hid h32; have HO := Lib.hid hO; have HB := Lib.hid hB
      obtain ⟨ja, jcap, rfl, hIJ⟩ := hO.j
      have HIJ := Lib.hid hIJ
      obtain ⟨jn, hjn⟩ : ∃ jn, J.length = jn := ⟨_, rfl⟩
      rw [hjn] at HO hJl ⊢
      have Hjn := Lib.hid hjn
      clear hP hI hE h32 hO hB HP1 HB1 hjn hIJ
      by_cases hin : i < n
      · have hdi : decide ((i : Int) < (n : Int)) = true := by simp; omega
        have hiJ : i < L0.length := by have := Hn.out; omega
        obtain ⟨x, hx⟩ : ∃ x, L0[i].1 = x := ⟨_, rfl⟩
        obtain ⟨y, hy⟩ : ∃ y, L0[i].2 = y := ⟨_, rfl⟩
        obtain ⟨b, off, rfl, hbl, cx, cy⟩ := H.out.below HB.out i hiJ
        rw [hx] at cx
        rw [hy] at cy
        have x32 : is32 x ∧ is32 y := by rw [← hx, ← hy]; exact HJ.out _ (List.getElem_mem hiJ)
        have hcs : ∀ W, Below w.heap.size w W → W.cell? ⟨b, off + i * 2, none⟩ = some (.int .u32 x) ∧ W.cell? ⟨b, off + i * 2 + 1, none⟩ = some (.int .u32 y) := fun W hW => by
          obtain ⟨b', off', e, _, k1, k2⟩ := H.out.below hW i hiJ
          simp at e
          obtain ⟨rfl, rfl⟩ := e
          rw [hx] at k1
          rw [hy] at k2
          exact ⟨k1, k2⟩
        have X32 := Lib.hid x32; have Hcs := Lib.hid hcs
        clear x32 hx hy hbl hcs
        go_wp2_with fail
        have cx : wr.drew.cell? ⟨b, off + i * 2, none⟩ = some (.int .u32 x) := cx
        have cy : wr.drew.cell? ⟨b, off + i * 2 + 1, none⟩ = some (.int .u32 y) := cy
        obtain ⟨S8, hSe⟩ : ∃ S : Array Bool → World → Prop, S = fun L w' => L.getD 11 true = false → w' = wr.drew := ⟨_, rfl⟩
        have hdrop : ∀ i, i ≠ 11 → ∀ L w', S8 (L.setIfInBounds i true) w' → S8 L w' := by
          intro i hi L w'
          rw [hSe]
          intro h hl
          exact h (by rw [getD_set_ne true hi]; exact hl)
        have hS : ∀ L, S8 L wr.drew := by intro L; rw [hSe]; exact fun _ => rfl
        have hSo : ∀ {L w'}, S8 L w' → L.getD 11 true = false → w' = wr.drew := by intro L w' h hl; rw [hSe] at h; exact h hl
        have hSd : ∀ (L : Array Bool) X, L.getD 11 true = true → S8 L X := by
          intro L X h; rw [hSe]; intro h1; rw [h] at h1; cases h1
        clear hSe
        refine wp_region_LN S8 17 #[false, false, false, false, false, false, false, false, false, false, false, false, false, false, false, false, false] (by kernel_rfl) (by kernel_rfl) rfl ?_
        obtain ⟨X1, hX1⟩ : ∃ X1, X1 = wr.drew := ⟨_, rfl⟩
        rw [← hX1] at cx cy hSo hS ⊢
        have HX1 := Lib.hid hX1
        clear hX1
        refine WA.take (i := 0) (v := .pointer (some ⟨pb, 0, none⟩)) rfl (by kernel_rfl) (by kernel_rfl) (by kernel_rfl) (fun _ _ _ h => h) (hdrop 0 (by decide)) (Or.inl ⟨by rfl, ?_⟩) (hS _) ?_
        · rintro w' ⟨L, hL, hSw, hun⟩
          go_simp
        simp only [List.getElem_toArray, List.getElem_cons_zero, List.getElem_cons_succ, Act.put, List.setIfInBounds_toArray, List.set_cons_zero, List.set_cons_succ]
        refine WA.take (i := 1) (v := .slice (some ⟨b, off, none⟩) n lcap) rfl (by kernel_rfl) (by kernel_rfl) (by kernel_rfl) (fun _ _ _ h => h) (hdrop 1 (by decide)) (Or.inl ⟨by rfl, ?_⟩) (hS _) ?_
        · rintro w' ⟨L, hL, hSw, hun⟩
          go_simp
        simp only [List.getElem_toArray, List.getElem_cons_zero, List.getElem_cons_succ, Act.put, List.setIfInBounds_toArray, List.set_cons_zero, List.set_cons_succ]
        refine WA.take (i := 2) (v := .int .i64 ((i : Nat) : Int)) rfl (by kernel_rfl) (by kernel_rfl) (by kernel_rfl) (fun _ _ _ h => h) (hdrop 2 (by decide)) (Or.inl ⟨by rfl, ?_⟩) (hS _) ?_
        · rintro w' ⟨L, hL, hSw, hun⟩
          go_simp
        simp only [List.getElem_toArray, List.getElem_cons_zero, List.getElem_cons_succ, Act.put, List.setIfInBounds_toArray, List.set_cons_zero, List.set_cons_succ]
        refine WA.take (i := 3) (v := .pointer (some ⟨b, off + i * 2, none⟩)) rfl (by kernel_rfl) (by kernel_rfl) (by kernel_rfl) (fun _ _ _ h => h) (hdrop 3 (by decide)) (Or.inl ⟨by rfl, ?_⟩) (hS _) ?_
        · rintro w' ⟨L, hL, hSw, hun⟩
          go_simp
        simp only [List.getElem_toArray, List.getElem_cons_zero, List.getElem_cons_succ, Act.put, List.setIfInBounds_toArray, List.set_cons_zero, List.set_cons_succ]
        refine WA.take (i := 4) (v := .pointer (some ⟨b, off + i * 2, none⟩)) rfl (by kernel_rfl) (by kernel_rfl) (by kernel_rfl) (fun _ _ _ h => h) (hdrop 4 (by decide)) (Or.inl ⟨by rfl, ?_⟩) (hS _) ?_
        · rintro w' ⟨L, hL, hSw, hun⟩
          go_simp
        simp only [List.getElem_toArray, List.getElem_cons_zero, List.getElem_cons_succ, Act.put, List.setIfInBounds_toArray, List.set_cons_zero, List.set_cons_succ]
        refine WA.take (i := 5) (v := .int .u32 x) rfl (by kernel_rfl) (by kernel_rfl) (by kernel_rfl) (fun _ _ _ h => h) (hdrop 5 (by decide)) (Or.inl ⟨by rfl, ?_⟩) (hS _) ?_
        · rintro w' ⟨L, hL, hSw, hun⟩
          obtain rfl := hSo hSw (hL.wait 11 5 (by kernel_rfl) hun)
          go_simp
        simp only [List.getElem_toArray, List.getElem_cons_zero, List.getElem_cons_succ, Act.put, List.setIfInBounds_toArray, List.set_cons_zero, List.set_cons_succ]
        refine WA.take (i := 6) (v := .slice (some ⟨b, off, none⟩) n lcap) rfl (by kernel_rfl) (by kernel_rfl) (by kernel_rfl) (fun _ _ _ h => h) (hdrop 6 (by decide)) (Or.inl ⟨by rfl, ?_⟩) (hS _) ?_
        · rintro w' ⟨L, hL, hSw, hun⟩
          go_simp
        simp only [List.getElem_toArray, List.getElem_cons_zero, List.getElem_cons_succ, Act.put, List.setIfInBounds_toArray, List.set_cons_zero, List.set_cons_succ]
        refine WA.take (i := 7) (v := .int .i64 ((i : Nat) : Int)) rfl (by kernel_rfl) (by kernel_rfl) (by kernel_rfl) (fun _ _ _ h => h) (hdrop 7 (by decide)) (Or.inl ⟨by rfl, ?_⟩) (hS _) ?_
        · rintro w' ⟨L, hL, hSw, hun⟩
          go_simp
        simp only [List.getElem_toArray, List.getElem_cons_zero, List.getElem_cons_succ, Act.put, List.setIfInBounds_toArray, List.set_cons_zero, List.set_cons_succ]
        refine WA.take (i := 8) (v := .pointer (some ⟨b, off + i * 2, none⟩)) rfl (by kernel_rfl) (by kernel_rfl) (by kernel_rfl) (fun _ _ _ h => h) (hdrop 8 (by decide)) (Or.inl ⟨by rfl, ?_⟩) (hS _) ?_
        · rintro w' ⟨L, hL, hSw, hun⟩
          go_simp
        simp only [List.getElem_toArray, List.getElem_cons_zero, List.getElem_cons_succ, Act.put, List.setIfInBounds_toArray, List.set_cons_zero, List.set_cons_succ]
        refine WA.take (i := 9) (v := .pointer (some ⟨b, off + i * 2 + 1, none⟩)) rfl (by kernel_rfl) (by kernel_rfl) (by kernel_rfl) (fun _ _ _ h => h) (hdrop 9 (by decide)) (Or.inl ⟨by rfl, ?_⟩) (hS _) ?_
        · rintro w' ⟨L, hL, hSw, hun⟩
          go_simp
        simp only [List.getElem_toArray, List.getElem_cons_zero, List.getElem_cons_succ, Act.put, List.setIfInBounds_toArray, List.set_cons_zero, List.set_cons_succ]
        refine WA.take (i := 10) (v := .int .u32 y) rfl (by kernel_rfl) (by kernel_rfl) (by kernel_rfl) (fun _ _ _ h => h) (hdrop 10 (by decide)) (Or.inl ⟨by rfl, ?_⟩) (hS _) ?_
        · rintro w' ⟨L, hL, hSw, hun⟩
          obtain rfl := hSo hSw (hL.wait 11 10 (by kernel_rfl) hun)
          go_simp
        simp only [List.getElem_toArray, List.getElem_cons_zero, List.getElem_cons_succ, Act.put, List.setIfInBounds_toArray, List.set_cons_zero, List.set_cons_succ]
        refine WA.one (i := 11) (by kernel_rfl) rfl (by rfl) (fun K hK => ?_)
        go_simp
        refine (joinP_u (w := X1) (by rw [HX1.out]; exact HP.out.below (Below.refl _ _).drew) HI.out H32.out (by have := Hjn.out; omega) X32.out.1 X32.out.2).mono ?_
        rintro e w4 ⟨r1, two1, f1, c1, rfl, hP_, hI_, hT_, hr_⟩
        have HP4 := Lib.hid hP_; have HI4 := Lib.hid hI_; have HT4 := Lib.hid hT_; have Hr4 := Lib.hid hr_
        clear hP_ hI_ hT_ hr_
        refine hK _ _ (hSd _ _ (by rfl)) ?_
        clear hK
        try simp only [List.getElem_toArray, List.getElem_cons_zero, List.getElem_cons_succ, Act.put, List.setIfInBounds_toArray, List.set_cons_zero, List.set_cons_succ]
        refine WA.take (i := 12) (v := .tuple #[.int .u32 r1, .bool two1]) rfl (by kernel_rfl) (by kernel_rfl) (by kernel_rfl) (fun _ _ _ h => h) (hdrop 12 (by decide)) (Or.inl ⟨by rfl, ?_⟩) (hSd _ _ (by rfl)) ?_
        · rintro w' ⟨L, hL, hSw, hun⟩
          go_simp
        simp only [List.getElem_toArray, List.getElem_cons_zero, List.getElem_cons_succ, Act.put, List.setIfInBounds_toArray, List.set_cons_zero, List.set_cons_succ]
        refine WA.take (i := 13) (v := .int .u32 r1) rfl (by kernel_rfl) (by kernel_rfl) (by kernel_rfl) (fun _ _ _ h => h) (hdrop 13 (by decide)) (Or.inl ⟨by rfl, ?_⟩) (hSd _ _ (by rfl)) ?_
        · rintro w' ⟨L, hL, hSw, hun⟩
          go_simp
        simp only [List.getElem_toArray, List.getElem_cons_zero, List.getElem_cons_succ, Act.put, List.setIfInBounds_toArray, List.set_cons_zero, List.set_cons_succ]
        refine WA.take (i := 14) (v := .bool two1) rfl (by kernel_rfl) (by kernel_rfl) (by kernel_rfl) (fun _ _ _ h => h) (hdrop 14 (by decide)) (Or.inl ⟨by rfl, ?_⟩) (hSd _ _ (by rfl)) ?_
        · rintro w' ⟨L, hL, hSw, hun⟩
          go_simp
        simp only [List.getElem_toArray, List.getElem_cons_zero, List.getElem_cons_succ, Act.put, List.setIfInBounds_toArray, List.set_cons_zero, List.set_cons_succ]
        refine WA.take (i := 15) (v := .int .u32 r1) rfl (by kernel_rfl) (by kernel_rfl) (by kernel_rfl) (fun _ _ _ h => h) (hdrop 15 (by decide)) (Or.inl ⟨by rfl, ?_⟩) (hSd _ _ (by rfl)) ?_
        · rintro w' ⟨L, hL, hSw, hun⟩
          go_simp
        simp only [List.getElem_toArray, List.getElem_cons_zero, List.getElem_cons_succ, Act.put, List.setIfInBounds_toArray, List.set_cons_zero, List.set_cons_succ]
        refine WA.take (i := 16) (v := .bool two1) rfl (by kernel_rfl) (by kernel_rfl) (by kernel_rfl) (fun _ _ _ h => h) (hdrop 16 (by decide)) (Or.inl ⟨by rfl, ?_⟩) (hSd _ _ (by rfl)) ?_
        · rintro w' ⟨L, hL, hSw, hun⟩
          go_simp
        simp only [List.getElem_toArray, List.getElem_cons_zero, List.getElem_cons_succ, Act.put, List.setIfInBounds_toArray, List.set_cons_zero, List.set_cons_succ]
        refine WA.done (by kernel_rfl) ?_ _
        refine Nrm.normal ?_
        clear hSo hS hSd hdrop cx cy
        clear S8
        have hT4 : TnM wr w4 mf mc := (TnM.below (by rw [HX1.out]; exact (Below.refl _ _).drew)).trans HT4.out
        have HB4 := Lib.hid (HB.out.trans (hT4.lower m1 m2 HB.out.size))
        have HO4 := Lib.hid (OwnJ.turn HO.out HP.out.objs.1 HP.out.objs.2 hT4)
        obtain ⟨cx, cy⟩ := Hcs.out w4 HB4.out
        clear hT4 HT4
        go_wp2_with fail
        have cx : w4.drew.cell? ⟨b, off + i * 2, none⟩ = some (.int .u32 x) := cx
        have cy : w4.drew.cell? ⟨b, off + i * 2 + 1, none⟩ = some (.int .u32 y) := cy
        obtain ⟨S9, hSe⟩ : ∃ S : Array Bool → World → Prop, S = fun _ w' => Below w4.drew.heap.size w4.drew w' := ⟨_, rfl⟩
        have hdrop : ∀ i : Nat, ∀ L w', S9 (L.setIfInBounds i true) w' → S9 L w' := by
          intro i L w' h; rw [hSe] at h ⊢; exact h
        have hS : ∀ L, S9 L w4.drew := by intro L; rw [hSe]; exact Below.refl _ _
        have hSo : ∀ {L w'}, S9 L w' → Below w4.drew.heap.size w4.drew w' := by intro L w' h; rw [hSe] at h; exact h
        have hSi : ∀ {w'}, Below w4.drew.heap.size w4.drew w' → ∀ L, S9 L w' := by intro w' h L; rw [hSe]; exact h
        clear hSe
        refine wp_region_LN S9 17 #[false, false, false, false, false, false, false, false, false, false, false, false, false, false, false, false, false] (by kernel_rfl) (by kernel_rfl) rfl ?_
        obtain ⟨X2, hX2⟩ : ∃ X2, X2 = w4.drew := ⟨_, rfl⟩
        rw [← hX2] at cx cy hSo hS hSi ⊢
        have HX2 := Lib.hid hX2
        clear hX2
        refine WA.take (i := 0) (v := .slice ja jn jcap) rfl (by kernel_rfl) (by kernel_rfl) (by kernel_rfl) (fun _ _ _ h => h) (hdrop 0) (Or.inl ⟨by rfl, ?_⟩) (hS _) ?_
        · rintro w' ⟨L, hL, hSw, hun⟩
          go_simp
        simp only [List.getElem_toArray, List.getElem_cons_zero, List.getElem_cons_succ, Act.put, List.setIfInBounds_toArray, List.set_cons_zero, List.set_cons_succ]
        refine WA.take (i := 1) (v := .slice (some ⟨b, off, none⟩) n lcap) rfl (by kernel_rfl) (by kernel_rfl) (by kernel_rfl) (fun _ _ _ h => h) (hdrop 1) (Or.inl ⟨by rfl, ?_⟩) (hS _) ?_
        · rintro w' ⟨L, hL, hSw, hun⟩
          go_simp
        simp only [List.getElem_toArray, List.getElem_cons_zero, List.getElem_cons_succ, Act.put, List.setIfInBounds_toArray, List.set_cons_zero, List.set_cons_succ]
        refine WA.take (i := 2) (v := .int .i64 ((i : Nat) : Int)) rfl (by kernel_rfl) (by kernel_rfl) (by kernel_rfl) (fun _ _ _ h => h) (hdrop 2) (Or.inl ⟨by rfl, ?_⟩) (hS _) ?_
        · rintro w' ⟨L, hL, hSw, hun⟩
          go_simp
        simp only [List.getElem_toArray, List.getElem_cons_zero, List.getElem_cons_succ, Act.put, List.setIfInBounds_toArray, List.set_cons_zero, List.set_cons_succ]
        refine WA.take (i := 3) (v := .pointer (some ⟨b, off + i * 2, none⟩)) rfl (by kernel_rfl) (by kernel_rfl) (by kernel_rfl) (fun _ _ _ h => h) (hdrop 3) (Or.inl ⟨by rfl, ?_⟩) (hS _) ?_
        · rintro w' ⟨L, hL, hSw, hun⟩
          go_simp
        simp only [List.getElem_toArray, List.getElem_cons_zero, List.getElem_cons_succ, Act.put, List.setIfInBounds_toArray, List.set_cons_zero, List.set_cons_succ]
        refine WA.take (i := 4) (v := .pointer (some ⟨b, off + i * 2, none⟩)) rfl (by kernel_rfl) (by kernel_rfl) (by kernel_rfl) (fun _ _ _ h => h) (hdrop 4) (Or.inl ⟨by rfl, ?_⟩) (hS _) ?_
        · rintro w' ⟨L, hL, hSw, hun⟩
          go_simp
        simp only [List.getElem_toArray, List.getElem_cons_zero, List.getElem_cons_succ, Act.put, List.setIfInBounds_toArray, List.set_cons_zero, List.set_cons_succ]
        refine WA.take (i := 5) (v := .int .u32 x) rfl (by kernel_rfl) (by kernel_rfl) (by kernel_rfl) (fun _ _ _ h => h) (hdrop 5) (Or.inl ⟨by rfl, ?_⟩) (hS _) ?_
        · rintro w' ⟨L, hL, hSw, hun⟩
          have hbw := hSo hSw
          have cx := cell_later hbw cx
          clear hbw
          go_simp
        simp only [List.getElem_toArray, List.getElem_cons_zero, List.getElem_cons_succ, Act.put, List.setIfInBounds_toArray, List.set_cons_zero, List.set_cons_succ]
        refine WA.take (i := 6) (v := .slice (some ⟨b, off, none⟩) n lcap) rfl (by kernel_rfl) (by kernel_rfl) (by kernel_rfl) (fun _ _ _ h => h) (hdrop 6) (Or.inl ⟨by rfl, ?_⟩) (hS _) ?_
        · rintro w' ⟨L, hL, hSw, hun⟩
          go_simp
        simp only [List.getElem_toArray, List.getElem_cons_zero, List.getElem_cons_succ, Act.put, List.setIfInBounds_toArray, List.set_cons_zero, List.set_cons_succ]
        refine WA.take (i := 7) (v := .int .i64 ((i : Nat) : Int)) rfl (by kernel_rfl) (by kernel_rfl) (by kernel_rfl) (fun _ _ _ h => h) (hdrop 7) (Or.inl ⟨by rfl, ?_⟩) (hS _) ?_
        · rintro w' ⟨L, hL, hSw, hun⟩
          go_simp
        simp only [List.getElem_toArray, List.getElem_cons_zero, List.getElem_cons_succ, Act.put, List.setIfInBounds_toArray, List.set_cons_zero, List.set_cons_succ]
        refine WA.take (i := 8) (v := .pointer (some ⟨b, off + i * 2, none⟩)) rfl (by kernel_rfl) (by kernel_rfl) (by kernel_rfl) (fun _ _ _ h => h) (hdrop 8) (Or.inl ⟨by rfl, ?_⟩) (hS _) ?_
        · rintro w' ⟨L, hL, hSw, hun⟩
          go_simp
        simp only [List.getElem_toArray, List.getElem_cons_zero, List.getElem_cons_succ, Act.put, List.setIfInBounds_toArray, List.set_cons_zero, List.set_cons_succ]
        refine WA.take (i := 9) (v := .pointer (some ⟨b, off + i * 2 + 1, none⟩)) rfl (by kernel_rfl) (by kernel_rfl) (by kernel_rfl) (fun _ _ _ h => h) (hdrop 9) (Or.inl ⟨by rfl, ?_⟩) (hS _) ?_
        · rintro w' ⟨L, hL, hSw, hun⟩
          go_simp
        simp only [List.getElem_toArray, List.getElem_cons_zero, List.getElem_cons_succ, Act.put, List.setIfInBounds_toArray, List.set_cons_zero, List.set_cons_succ]
        refine WA.take (i := 10) (v := .int .u32 y) rfl (by kernel_rfl) (by kernel_rfl) (by kernel_rfl) (fun _ _ _ h => h) (hdrop 10) (Or.inl ⟨by rfl, ?_⟩) (hS _) ?_
        · rintro w' ⟨L, hL, hSw, hun⟩
          have hbw := hSo hSw
          have cy := cell_later hbw cy
          clear hbw
          go_simp
        simp only [List.getElem_toArray, List.getElem_cons_zero, List.getElem_cons_succ, Act.put, List.setIfInBounds_toArray, List.set_cons_zero, List.set_cons_succ]
        refine WA.one (i := 11) (by kernel_rfl) rfl (by rfl) (fun K hK => ?_)
        go_simp
        refine (joinR_u (w := X2) (J := J) (by rw [HX2.out]; exact HO4.out) (by have := Hjn.out; omega) HE.out.nz x y).mono ?_
        rintro e w5 ⟨v5, was, J2, rfl, hO_, hB_, hw_⟩
        obtain ⟨ja2, jcap2, rfl, hj_⟩ := hO_.j
        have HO5 := Lib.hid hO_; have HB5 := Lib.hid hB_; have Hw5 := Lib.hid hw_; have HJ5 := Lib.hid hj_
        clear hO_ hB_ hw_ hj_
        refine hK _ _ (hSi HB5.out _) ?_
        clear hK
        try simp only [List.getElem_toArray, List.getElem_cons_zero, List.getElem_cons_succ, Act.put, List.setIfInBounds_toArray, List.set_cons_zero, List.set_cons_succ]
        refine WA.take (i := 12) (v := .tuple #[.slice ja2 J2.length jcap2, .bool was]) rfl (by kernel_rfl) (by kernel_rfl) (by kernel_rfl) (fun _ _ _ h => h) (hdrop 12) (Or.inl ⟨by rfl, ?_⟩) (hSi HB5.out _) ?_
        · rintro w' ⟨L, hL, hSw, hun⟩
          go_simp
        simp only [List.getElem_toArray, List.getElem_cons_zero, List.getElem_cons_succ, Act.put, List.setIfInBounds_toArray, List.set_cons_zero, List.set_cons_succ]
        refine WA.take (i := 13) (v := .slice ja2 J2.length jcap2) rfl (by kernel_rfl) (by kernel_rfl) (by kernel_rfl) (fun _ _ _ h => h) (hdrop 13) (Or.inl ⟨by rfl, ?_⟩) (hSi HB5.out _) ?_
        · rintro w' ⟨L, hL, hSw, hun⟩
          go_simp
        simp only [List.getElem_toArray, List.getElem_cons_zero, List.getElem_cons_succ, Act.put, List.setIfInBounds_toArray, List.set_cons_zero, List.set_cons_succ]
        refine WA.take (i := 14) (v := .bool was) rfl (by kernel_rfl) (by kernel_rfl) (by kernel_rfl) (fun _ _ _ h => h) (hdrop 14) (Or.inl ⟨by rfl, ?_⟩) (hSi HB5.out _) ?_
        · rintro w' ⟨L, hL, hSw, hun⟩
          go_simp
        simp only [List.getElem_toArray, List.getElem_cons_zero, List.getElem_cons_succ, Act.put, List.setIfInBounds_toArray, List.set_cons_zero, List.set_cons_succ]
        refine WA.take (i := 15) (v := .slice ja2 J2.length jcap2) rfl (by kernel_rfl) (by kernel_rfl) (by kernel_rfl) (fun _ _ _ h => h) (hdrop 15) (Or.inl ⟨by rfl, ?_⟩) (hSi HB5.out _) ?_
        · rintro w' ⟨L, hL, hSw, hun⟩
          go_simp
        simp only [List.getElem_toArray, List.getElem_cons_zero, List.getElem_cons_succ, Act.put, List.setIfInBounds_toArray, List.set_cons_zero, List.set_cons_succ]
        refine WA.take (i := 16) (v := .bool was) rfl (by kernel_rfl) (by kernel_rfl) (by kernel_rfl) (fun _ _ _ h => h) (hdrop 16) (Or.inl ⟨by rfl, ?_⟩) (hSi HB5.out _) ?_
        · rintro w' ⟨L, hL, hSw, hun⟩
          go_simp
        simp only [List.getElem_toArray, List.getElem_cons_zero, List.getElem_cons_succ, Act.put, List.setIfInBounds_toArray, List.set_cons_zero, List.set_cons_succ]
        refine WA.done (by kernel_rfl) ?_ _
        refine Nrm.normal ?_
        clear hSo hS hSi hdrop cx cy
        clear S9
        obtain ⟨hI5, hE5, h325, hJl5⟩ := pair_step HI4.out HE.out H32.out X32.out.1 X32.out.2 Hw5.out
        rw [Hjn.out] at hJl5
        have hb5 : Below w4.heap.size w4 w5 := by
          have h1 : Below w4.heap.size w4 X2 := by rw [HX2.out]; exact (Below.refl _ _).drew
          exact h1.trans (HB5.out.mono h1.size)
        have htw : two1 = was := by
          rcases Hw5.out with ⟨h1, _, hs⟩ | ⟨h1, _, h2, h3, h4⟩
          · rw [h1]
            rcases Hr4.out with ⟨_, _, h5⟩ | ⟨h6, h7, _, h8⟩
            · exact h5
            · cases two1 with
              | false => rfl
              | true =>
                rcases hs with hs | hs | hs
                · exact absurd hs h6
                · exact absurd hs h7
                · exact absurd hs (h8.1 rfl)
          · rw [h1]
            rcases Hr4.out with ⟨h5 | h5, _⟩ | ⟨_, _, _, h8⟩
            · exact absurd h5 h2
            · exact absurd h5 h3
            · exact h8.2 h4
        subst htw
        have HP5 := Lib.hid (HP4.out.below hb5); have HB6 := Lib.hid (HB4.out.trans (hb5.mono HB4.out.size))
        have HI5 := Lib.hid hI5; have HE5 := Lib.hid hE5; have H325 := Lib.hid h325
        obtain ⟨cx, cy⟩ := Hcs.out w5 HB6.out
        obtain ⟨jn2, hjn2⟩ : ∃ jn2, J2.length = jn2 := ⟨_, rfl⟩
        rw [hjn2] at HO5 hJl5 ⊢
        have Hjn2 := Lib.hid hjn2
        clear hI5 hE5 h325 hb5 hjn2
        go_upto_region 12 with fail
        obtain ⟨bz, hbz⟩ : ∃ bz, bz = decide (x ≠ 0 ∧ y ≠ 0) := ⟨_, rfl⟩
        have Hbz := Lib.hid hbz
        clear hbz
        go_cut [68] from 18 to 85 (fun s68 wx => s68 = .bool bz ∧ wx = w5)
        case first =>
          by_cases hx0 : x = 0
          · have hq : (x != 0) = false := by simp [hx0]
            have hb := Lib.hid (show bz = false by rw [Hbz.out]; simp [hx0])
            clear hx0
            go_wp2_with fail
            go_meet
            exact ⟨by rw [hb.out], rfl⟩
          · have hq : (x != 0) = true := by simp [hx0]
            by_cases hy0 : y = 0
            · have hq2 : (y != 0) = false := by simp [hy0]
              have hb := Lib.hid (show bz = false by rw [Hbz.out]; simp [hy0])
              clear hx0 hy0
              go_wp2_with fail
              go_meet
              exact ⟨by rw [hb.out], rfl⟩
            · have hq2 : (y != 0) = true := by simp [hy0]
              have hb := Lib.hid (show bz = true by rw [Hbz.out]; simp [hx0, hy0])
              clear hx0 hy0
              go_wp2_with fail
              go_meet
              exact ⟨by rw [hb.out], rfl⟩
        case rest =>
        rename World => w6c
        obtain ⟨rfl, rfl⟩ := hcut
        go_upto_if 68 with fail
        go_cut [12] from 18 to 85 (fun s12 wx => s12 = .int .u32 r1 ∧ Below w6c.heap.size w6c wx)
        case first =>
          cases bz with
          | false =>
            have hr0 : r1 = 0 := by
              have hb := Hbz.out
              rcases Hr4.out with ⟨_, h, _⟩ | ⟨h1, h2, _⟩
              · exact h
              · simp [h1, h2] at hb
            have Hr0 := Lib.hid hr0
            clear hr0
            go_wp2_with fail
            go_meet
            exact ⟨by rw [Hr0.out], Below.refl _ _⟩
          | true =>
            have hxy : x ≠ 0 ∧ y ≠ 0 := by
              have hb := Hbz.out.symm
              exact of_decide_eq_true hb
            obtain ⟨hx0, hy0⟩ := hxy
            have hr1 : r1 = findP f1 x := by
              rcases Hr4.out with ⟨h | h, _⟩ | ⟨_, _, h, _⟩
              · exact absurd h hx0
              · exact absurd h hy0
              · exact h
            have hc := cliqueR_u HJ5.out jcap2 (by have := Hjn2.out; omega) HE5.out.nz x hx0
            rw [Hjn2.out] at hc
            have Hr1 := Lib.hid hr1; have Hc := Lib.hid hc
            clear hx0 hy0 hr1 hc
            go_wp2_with fail
            refine Hc.out.mono ?_
            rintro e w6 ⟨v6, L, rfl, hO, hI, hB⟩
            obtain ⟨r, L', hLe, k1, k2⟩ := cl_first hI
            obtain ⟨s6, cap6, rfl, _, _, hU⟩ := hO.u
            have hL1 : 0 < L.length := List.length_pos_of_mem hI.self
            obtain ⟨g6, rfl, _, c6⟩ := hU 0 hL1
            have hLr : L[0] = r := by simp [hLe]
            rw [hLr] at c6
            have hrr : r = r1 := by rw [Hr1.out]; exact (find_cl HI5.out (show IsCl J2 x (r :: L') by rw [← hLe]; exact hI)).symm
            have Hrr := Lib.hid hrr; have HB7 := Lib.hid hB
            clear hLe k1 k2 hO hI hU hLr hrr hB
            go_wp2_with fail
            go_meet
            exact ⟨by rw [Hrr.out], HB7.out⟩
        case rest =>
          obtain ⟨rfl, hB8⟩ := hcut
          have HP8 := Lib.hid (HP5.out.below hB8); have HO8 := Lib.hid (HO5.out.below rfl hB8); have HB8 := Lib.hid (HB6.out.trans (hB8.mono HB6.out.size))
          clear hB8 cx cy
          have hrr : (r1 != r1) = false := by simp
          cases two1 <;>
            (go_wp2_with fail
             go_roundw
             case rel => exact ⟨i + 1, f1, c1, J2, by omega, by push_cast; rfl, HP8.out, HI5.out, HE5.out, H325.out, by have := Hjn2.out; omega, by have := HO8.out; rw [← Hjn2.out] at this ⊢; exact this, HB8.out⟩
             case measure => simp [intOf]; omega)
      · have hdi : decide ((i : Int) < (n : Int)) = false := by simp; omega
        have hjl : J.length ≤ 60 := by have := Hjn.out; omega
        have hsm := same_u HP.out HO.out HI.out HE.out H32.out (by omega)
        have Hsm := Lib.hid hsm; have Hjl := Lib.hid hjl
        clear hsm hjl
        by_cases ha0 : al = 0
        · have hq : (al == 0) = true := by simp [ha0]
          have Ha0 := Lib.hid ha0
          clear ha0
          go_wp2_with fail
          refine Hsm.out.mono ?_
          rintro e w3 ⟨rfl, hB3⟩
          have HB3 := Lib.hid hB3
          have hc1 := clique_any (HP.out.below hB3) HI.out H32.out (by have := Hjl.out; omega) Hal.out
          have Hc1 := Lib.hid hc1
          clear hB3 hc1
          go_wp2_with fail
          refine Hc1.out.mono ?_
          rintro e w4 ⟨v4, L4, rfl, hO4, hL4, hB4⟩
          obtain ⟨s4, cap4, rfl, _, _, hU4⟩ := hO4.u
          have HB4 := Lib.hid (HB3.out.trans (hB4.mono HB3.out.size)); have HU4 := Lib.hid hU4; have HL4 := Lib.hid hL4
          have hc2 := cliqueR_any (HIJ.out.below HB4.out) jcap (by have := Hjl.out; omega) HE.out.nz al
          rw [Hjn.out] at hc2
          have Hc2 := Lib.hid hc2
          clear hO4 hL4 hB4 hU4 hc2
          go_wp2_with fail
          refine Hc2.out.mono ?_
          rintro e w5 ⟨v5, L5, rfl, hO5, hL5, hB5⟩
          obtain ⟨s5, cap5, rfl, _, _, hU5⟩ := hO5.u
          have hLL : L4 = L5 := HL4.out.unique hL5 (fun _ _ => Iff.rfl)
          have heq := equal_u s4 s5 cap4 cap5 L4 L5 (HU4.out.below hB5) hU5 (by have := HL4.out.len; have := Hjl.out; omega)
          rw [decide_eq_true hLL] at heq
          have Heq := Lib.hid heq; have HB5 := Lib.hid (HB4.out.trans (hB5.mono HB4.out.size))
          clear hO5 hL5 hB5 hU5 hLL heq
          go_wp2_with fail
          refine Heq.out.mono ?_
          rintro e w6 ⟨rfl, hB6⟩
          have HBa := Lib.hid (HB5.out.trans (hB6.mono HB5.out.size))
          clear hB6
          go_wp2_with fail
          have hf0 := find_u (HP.out.below HBa.out) (a := 0) (by simp [is32])
          rw [HI.out.find_zero] at hf0
          have Hf0 := Lib.hid hf0
          clear hf0
          refine Hf0.out.mono ?_
          rintro e w_ ⟨rfl, hw_⟩
          subst hw_
          go_wp2_with fail
          refine (known_u _).mono ?_
          rintro e w9 ⟨rfl, hB9⟩
          go_wp2_with fail
          go_ret
          exact ⟨rfl, HB.out.trans ((HBa.out.trans (hB9.mono HBa.out.size)).mono HB.out.size)⟩
        · have hq : (al == 0) = false := by simp [ha0]
          have Ha0 := Lib.hid ha0
          clear ha0
          go_wp2_with fail
          refine Hsm.out.mono ?_
          rintro e w3 ⟨rfl, hB3⟩
          have HB3 := Lib.hid hB3
          have hc1 := clique_any (HP.out.below hB3) HI.out H32.out (by have := Hjl.out; omega) Hal.out
          have Hc1 := Lib.hid hc1
          clear hB3 hc1
          go_wp2_with fail
          refine Hc1.out.mono ?_
          rintro e w4 ⟨v4, L4, rfl, hO4, hL4, hB4⟩
          obtain ⟨s4, cap4, rfl, _, _, hU4⟩ := hO4.u
          have HB4 := Lib.hid (HB3.out.trans (hB4.mono HB3.out.size)); have HU4 := Lib.hid hU4; have HL4 := Lib.hid hL4
          have hc2 := cliqueR_any (HIJ.out.below HB4.out) jcap (by have := Hjl.out; omega) HE.out.nz al
          rw [Hjn.out] at hc2
          have Hc2 := Lib.hid hc2
          clear hO4 hL4 hB4 hU4 hc2
          go_wp2_with fail
          refine Hc2.out.mono ?_
          rintro e w5 ⟨v5, L5, rfl, hO5, hL5, hB5⟩
          obtain ⟨s5, cap5, rfl, _, _, hU5⟩ := hO5.u
          have hLL : L4 = L5 := HL4.out.unique hL5 (fun _ _ => Iff.rfl)
          have heq := equal_u s4 s5 cap4 cap5 L4 L5 (HU4.out.below hB5) hU5 (by have := HL4.out.len; have := Hjl.out; omega)
          rw [decide_eq_true hLL] at heq
          have Heq := Lib.hid heq; have HB5 := Lib.hid (HB4.out.trans (hB5.mono HB4.out.size))
          clear hO5 hL5 hB5 hU5 hLL heq
          go_wp2_with fail
          refine Heq.out.mono ?_
          rintro e w6 ⟨rfl, hB6⟩
          have HBa := Lib.hid (HB5.out.trans (hB6.mono HB5.out.size))
          clear hB6
          go_wp2_with fail
          have hf := find_u (HP.out.below (show Below wr.heap.size wr w6 from HBa.out)) Hal.out
          refine hf.mono ?_
          rintro e w_ ⟨rfl, hw_⟩
          subst hw_
          obtain ⟨fa, hfa⟩ : ∃ fa, findP f al = fa := ⟨_, rfl⟩
          rw [hfa]
          have Hfa := Lib.hid hfa
          clear hf hfa
          have hc := cliqueR_u ((HIJ.out).below HBa.out) jcap (by have := Hjl.out; omega) HE.out.nz al Ha0.out
          rw [Hjn.out] at hc
          have Hc := Lib.hid hc
          clear hc
          go_wp2_with fail
          refine Hc.out.mono ?_
          rintro e w7 ⟨v7, L7, rfl, hO, hI, hB⟩
          obtain ⟨r, L', hLe, k1, k2⟩ := cl_first hI
          obtain ⟨s7, cap7, rfl, _, _, hU⟩ := hO.u
          have hL1 : 0 < L7.length := List.length_pos_of_mem hI.self
          obtain ⟨g7, rfl, _, c7⟩ := hU 0 hL1
          have hLr : L7[0] = r := by simp [hLe]
          rw [hLr] at c7
          have hrr : r = fa := by rw [← Hfa.out]; exact (find_cl HI.out (show IsCl J al (r :: L') by rw [← hLe]; exact hI)).symm
          subst hrr
          have hq2 : (r == r) = true := by simp
          have HBa := Lib.hid (HBa.out.trans (hB.mono HBa.out.size))
          clear hLe k1 k2 hO hI hU hLr hB
          go_wp2_with fail
          have hf0 := find_u (HP.out.below HBa.out) (a := 0) (by simp [is32])
          rw [HI.out.find_zero] at hf0
          have Hf0 := Lib.hid hf0
          clear hf0
          refine Hf0.out.mono ?_
          rintro e w_ ⟨rfl, hw_⟩
          subst hw_
          go_wp2_with fail
          refine (known_u _).mono ?_
          rintro e w9 ⟨rfl, hB9⟩
          go_wp2_with fail
          go_ret
          exact ⟨rfl, HB.out.trans ((HBa.out.trans (hB9.mono HBa.out.size)).mono HB.out.size)⟩
end
end Go.Proofs.Ytpiciickgomggaa
