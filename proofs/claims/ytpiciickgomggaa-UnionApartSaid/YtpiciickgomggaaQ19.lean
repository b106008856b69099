/- UnionApart, walked. -/
import Derived.Test.YtpiciickgomggaaQ18
import Derived.Deep.LoopGhost
import Derived.Sort.CutIn
namespace Go.Proofs.Ytpiciickgomggaa
set_option maxRecDepth 100000
open Go.RowKit Go.Maps
set_option linter.unusedVariables false
set_option linter.unusedSimpArgs false
attribute [local go_sem] Oper.semAt_some

theorem one_block (w : World) (o0 : Obj) : ∀ W, W = w.alloc o0 → Below w.heap.size w W ∧ W.heap.size = w.heap.size + 1 ∧ W.heap[w.heap.size]? = some o0 := by
  rintro W rfl
  exact ⟨(Below.refl _ w).alloc (Nat.le_refl _) _, by simp, World.alloc_heap_new w o0⟩
theorem OwnJ.at' {base : Nat} {w : World} {a : Option Addr} {n cap : Nat} {J : Jn} (h : OwnJ base w (.slice a n cap) J) : IsJ w a J := by
  obtain ⟨a', cap', e, k⟩ := h.j
  injection e with e1 e2 e3
  subst e1
  exact k
section
variable {w : World}
set_option maxRecDepth 100000 in
set_option maxHeartbeats 40000000 in
theorem apart_u {la aa ba : Option Addr} {L0 A0 B0 : Jn} (hl : IsJ w la L0) (ha : IsJ w aa A0) (hb : IsJ w ba B0) (hL : ∀ p ∈ L0, is32 p.1 ∧ is32 p.2) (hA : ∀ p ∈ A0, is32 p.1 ∧ is32 p.2) (hB : ∀ p ∈ B0, is32 p.1 ∧ is32 p.2)
    (hLl : L0.length ≤ maxLen) (hAl : A0.length ≤ maxLen) (hBl : B0.length ≤ maxLen) (lcap acap bcap : Nat) :
    Calls Try.prog 5 #[.slice la L0.length lcap, .slice aa A0.length acap, .slice ba B0.length bcap] w fun e w' => e = .returned (.bool true) ∧ Below w.heap.size w w' := by
  obtain ⟨n, hn⟩ : ∃ n, L0.length = n := ⟨_, rfl⟩
  obtain ⟨na, hna⟩ : ∃ na, A0.length = na := ⟨_, rfl⟩
  obtain ⟨nb, hnb⟩ : ∃ nb, B0.length = nb := ⟨_, rfl⟩
  rw [hn] at hLl ⊢
  rw [hna] at hAl ⊢
  rw [hnb] at hBl ⊢
  obtain ⟨hA1, hA2, hA3⟩ := one_block w (.cells #[.bool false] 4) _ rfl
  have Hl := Lib.hid hl; have Ha := Lib.hid ha; have Hb := Lib.hid hb; have HL := Lib.hid hL; have HA := Lib.hid hA; have HBb := Lib.hid hB
  have Hn := Lib.hid hn; have Hna := Lib.hid hna; have Hnb := Lib.hid hnb
  have HA1 := Lib.hid hA1; have HA2 := Lib.hid hA2; have HA3 := Lib.hid hA3
  clear hl ha hb hL hA hB hn hna hnb hA1 hA2 hA3
  simp only [maxLen] at hLl hAl hBl
  refine (callsIn_wide (n := 9)).1 ?_
  refine callsIn_of_wp_marks Try.func5 rfl trivial ?_ rfl
  refine wpIn_wide.2 ?_
  simp only [Try.ntmps5, List.size_toArray, List.length_cons, List.length_nil, Nat.reduceAdd, Nat.reduceSub, Array.replicate_succ, Array.replicate_zero, List.push_toArray, List.append_toArray, List.nil_append, List.cons_append]
  go_upto_region 1 with fail
  generalize w.alloc (.cells #[.bool false] 4) = W2 at *
  have endE : ∀ (a : Act) (Ds : List Nat) (W : World), a.defers = Ds.map markOf → a.tmps[6]?.getD undef = .pointer (some ⟨w.heap.size, 0, none⟩) → Ds.Nodup → (∀ D ∈ Ds, w.heap.size + 1 ≤ D ∧ W.heap[D]? = some (.deferred (some []))) →
      W.heap[w.heap.size]? = some (.cells #[.bool true] 4 (0, 0)) → Below w.heap.size w W → bodyPostM Fence.wide 9 Try.prog Try.f5 (fun e w' => e = .returned (.bool true) ∧ Below w.heap.size w w') .ret a W := by
    intro a Ds W hd ht hnd hds hr hb
    show LeavesInM Fence.wide 9 Try.prog Try.f5 a.tmps _ a.defers .returning W
    rw [hd]
    refine leaves_marks (w.heap.size) (w.heap.size + 1) (by omega) (fun w' hx1 hx2 => ?_) (by omega) Ds W hnd hds hr hb
    refine ⟨.bool true, ?_, rfl, hx2⟩
    have hres : Try.f5.results = #[.cell 6 4] := rfl
    have cx := (box_at hx1 rfl).1
    simp only [results, hres]
    simp [go_sem, ht, cx]
  have EndE := Lib.hid endE
  clear endE
  have cRs : ∀ V : World, Below W2.heap.size W2 V → V.heap[w.heap.size]? = some (.cells #[.bool false] 4 (0, 0)) := fun V hV => (hV.block _ (lt_of_heap HA3.out)).trans HA3.out
  have CR := Lib.hid cRs
  clear cRs
  have early : ∀ V : World, Below W2.heap.size W2 V → Below w.heap.size w (V.setCell ⟨w.heap.size, 0, none⟩ (.bool true)) ∧ (V.setCell ⟨w.heap.size, 0, none⟩ (.bool true)).heap[w.heap.size]? = some (.cells #[.bool true] 4 (0, 0)) := fun V hV =>
    ⟨(HA1.out.trans (hV.mono HA1.out.size)).setCell (p := ⟨w.heap.size, 0, none⟩) (by simp) _, Boxed.set (.bool true) (CR.out V hV)⟩
  have Early := Lib.hid early
  clear early
  by_cases h1 : n > 30
  · have hd1 : decide ((n : Int) > 30) = true := by simp; omega
    have hd1' : decide (30 < (n : Int)) = true := by simp; omega
    go_wp2_with fail
    refine (known_u W2).mono ?_
    rintro e w1 ⟨rfl, hB1⟩
    obtain ⟨cR, fR⟩ := box_at (CR.out w1 hB1) rfl
    have HB1 := Lib.hid hB1
    clear hB1
    go_wp2_with fail
    exact EndE.out _ [] _ rfl rfl List.nodup_nil (fun D hD => by simp at hD) (Early.out w1 HB1.out).2 (Early.out w1 HB1.out).1
  have hd1 : decide ((n : Int) > 30) = false := by simp; omega
  have hd1' : decide (30 < (n : Int)) = false := by simp; omega
  by_cases h2 : na > 30
  · have hd2 : decide ((na : Int) > 30) = true := by simp; omega
    have hd2' : decide (30 < (na : Int)) = true := by simp; omega
    go_wp2_with fail
    refine (known_u W2).mono ?_
    rintro e w1 ⟨rfl, hB1⟩
    obtain ⟨cR, fR⟩ := box_at (CR.out w1 hB1) rfl
    have HB1 := Lib.hid hB1
    clear hB1
    go_wp2_with fail
    exact EndE.out _ [] _ rfl rfl List.nodup_nil (fun D hD => by simp at hD) (Early.out w1 HB1.out).2 (Early.out w1 HB1.out).1
  have hd2 : decide ((na : Int) > 30) = false := by simp; omega
  have hd2' : decide (30 < (na : Int)) = false := by simp; omega
  by_cases h3 : nb > 30
  · have hd3 : decide ((nb : Int) > 30) = true := by simp; omega
    have hd3' : decide (30 < (nb : Int)) = true := by simp; omega
    go_wp2_with fail
    refine (known_u W2).mono ?_
    rintro e w1 ⟨rfl, hB1⟩
    obtain ⟨cR, fR⟩ := box_at (CR.out w1 hB1) rfl
    have HB1 := Lib.hid hB1
    clear hB1
    go_wp2_with fail
    exact EndE.out _ [] _ rfl rfl List.nodup_nil (fun D hD => by simp at hD) (Early.out w1 HB1.out).2 (Early.out w1 HB1.out).1
  have hd3 : decide ((nb : Int) > 30) = false := by simp; omega
  have hd3' : decide (30 < (nb : Int)) = false := by simp; omega
  go_wp2_with fail
  refine (newP_u W2).mono ?_
  rintro e w1 ⟨pb, mf, mc, rfl, hP1, m1, m2, m3, hB1⟩
  have HP1 := Lib.hid hP1; have HB1 := Lib.hid hB1
  clear hP1 hB1
  go_wp2_with fail
  have hB3 : Below w1.heap.size w1 (w1.alloc (.cells #[.slice none 0 0] 36)) := (Below.refl _ w1).alloc (Nat.le_refl _) _
  have hX3 := Boxed.new w1 36 (.slice none 0 0)
  generalize w1.alloc (.cells #[.slice none 0 0] 36) = W3 at *
  obtain ⟨jb, hjb⟩ : ∃ jb, w1.heap.size = jb := ⟨_, rfl⟩
  have hjm : W2.heap.size ≤ jb := by rw [← hjb]; exact HB1.out.size
  have HP3 := Lib.hid (HP1.out.below hB3); have HB3 := Lib.hid (HB1.out.trans (hB3.mono HB1.out.size))
  rw [hjb] at hX3 ⊢
  have HX3 := Lib.hid hX3
  clear hB3 hX3 hjb HP1 HB1
  go_loopw [9] (fun u wr => ∃ (i : Nat) (f : Int → Option Int) (c : Int → Option (List Int)) (J : Jn) (v : Value), i ≤ n ∧ u = .int .i64 i ∧ IsP wr pb mf mc f c ∧ PInv J f c ∧ Eff J ∧ (∀ p ∈ J, is32 p.1 ∧ is32 p.2) ∧ J.length ≤ i ∧ Boxed wr jb 36 v ∧ OwnJ 0 wr v J ∧ Below W2.heap.size W2 wr) (fun u _ => n - (intOf u).toNat)
  case atStart => exact ⟨0, _, _, [], _, by omega, rfl, HP3.out, PInv.nil, fun p hp => by simp at hp, fun p hp => by simp at hp, by simp, HX3.out, OwnJ.nil _ _, HB3.out⟩
  case round =>
    obtain ⟨i, f, c, J, vJ, hi, rfl, hP, hI, hE, h32, hJl, hBx, hO, hB⟩ := hrel
    have HP := Lib.hid hP; have HI := Lib.hid hI; have HE := Lib.hid hE; have H32 := Lib.hid h32; have HBx := Lib.hid hBx; have HO := Lib.hid hO; have HB := Lib.hid hB
    clear hP hI hE h32 hBx hO hB HP3 HB3 HX3
    by_cases hin : i < n
    · have hdi : decide ((i : Int) < (n : Int)) = true := by simp; omega
      have hiJ : i < L0.length := by have := Hn.out; omega
      obtain ⟨x, hx⟩ : ∃ x, L0[i].1 = x := ⟨_, rfl⟩
      obtain ⟨y, hy⟩ : ∃ y, L0[i].2 = y := ⟨_, rfl⟩
      obtain ⟨b, off, rfl, hbl, cx, cy⟩ := Hl.out.below (HA1.out.trans (HB.out.mono HA1.out.size)) i hiJ
      rw [hx] at cx
      rw [hy] at cy
      have x32 : is32 x ∧ is32 y := by rw [← hx, ← hy]; exact HL.out _ (List.getElem_mem hiJ)
      have hcs : ∀ W, Below w.heap.size w W → W.cell? ⟨b, off + i * 2, none⟩ = some (.int .u32 x) ∧ W.cell? ⟨b, off + i * 2 + 1, none⟩ = some (.int .u32 y) := fun W hW => by
        obtain ⟨b', off', e, _, k1, k2⟩ := Hl.out.below hW i hiJ
        simp at e
        obtain ⟨rfl, rfl⟩ := e
        rw [hx] at k1
        rw [hy] at k2
        exact ⟨k1, k2⟩
      have X32 := Lib.hid x32; have Hcs := Lib.hid hcs
      clear x32 hx hy hbl hcs
      go_wp2_with fail
      have cx : wr.drew.cell? ⟨b, off + i * 2, none⟩ = some (.int .u32 x) := cx
      have cy : wr.drew.cell? ⟨b, off + i * 2 + 1, none⟩ = some (.int .u32 y) := cy
      obtain ⟨S8, hSe⟩ : ∃ S : Array Bool → World → Prop, S = fun L w' => L.getD 11 true = false → w' = wr.drew := ⟨_, rfl⟩
      have hdrop : ∀ i, i ≠ 11 → ∀ L w', S8 (L.setIfInBounds i true) w' → S8 L w' := by
        intro i hi L w'
        rw [hSe]
        intro h hl
        exact h (by rw [getD_set_ne true hi]; exact hl)
      have hS : ∀ L, S8 L wr.drew := by intro L; rw [hSe]; exact fun _ => rfl
      have hSo : ∀ {L w'}, S8 L w' → L.getD 11 true = false → w' = wr.drew := by intro L w' h hl; rw [hSe] at h; exact h hl
      have hSd : ∀ (L : Array Bool) X, L.getD 11 true = true → S8 L X := by
        intro L X h; rw [hSe]; intro h1; rw [h] at h1; cases h1
      clear hSe
      refine wp_region_LN S8 12 #[false, false, false, false, false, false, false, false, false, false, false, false] (by kernel_rfl) (by kernel_rfl) rfl ?_
      obtain ⟨Y1, hY1⟩ : ∃ Y1, Y1 = wr.drew := ⟨_, rfl⟩
      rw [← hY1] at cx cy hSo hS ⊢
      have HY1 := Lib.hid hY1
      clear hY1
      refine WA.take (i := 0) (v := .pointer (some ⟨pb, 0, none⟩)) rfl (by kernel_rfl) (by kernel_rfl) (by kernel_rfl) (fun _ _ _ h => h) (hdrop 0 (by decide)) (Or.inl ⟨by rfl, ?_⟩) (hS _) ?_
      · rintro w' ⟨L, hL, hSw, hun⟩
        go_simp
      simp only [List.getElem_toArray, List.getElem_cons_zero, List.getElem_cons_succ, Act.put, List.setIfInBounds_toArray, List.set_cons_zero, List.set_cons_succ]
      refine WA.take (i := 1) (v := .slice (some ⟨b, off, none⟩) n lcap) rfl (by kernel_rfl) (by kernel_rfl) (by kernel_rfl) (fun _ _ _ h => h) (hdrop 1 (by decide)) (Or.inl ⟨by rfl, ?_⟩) (hS _) ?_
      · rintro w' ⟨L, hL, hSw, hun⟩
        go_simp
      simp only [List.getElem_toArray, List.getElem_cons_zero, List.getElem_cons_succ, Act.put, List.setIfInBounds_toArray, List.set_cons_zero, List.set_cons_succ]
      refine WA.take (i := 2) (v := .int .i64 ((i : Nat) : Int)) rfl (by kernel_rfl) (by kernel_rfl) (by kernel_rfl) (fun _ _ _ h => h) (hdrop 2 (by decide)) (Or.inl ⟨by rfl, ?_⟩) (hS _) ?_
      · rintro w' ⟨L, hL, hSw, hun⟩
        go_simp
      simp only [List.getElem_toArray, List.getElem_cons_zero, List.getElem_cons_succ, Act.put, List.setIfInBounds_toArray, List.set_cons_zero, List.set_cons_succ]
      refine WA.take (i := 3) (v := .pointer (some ⟨b, off + i * 2, none⟩)) rfl (by kernel_rfl) (by kernel_rfl) (by kernel_rfl) (fun _ _ _ h => h) (hdrop 3 (by decide)) (Or.inl ⟨by rfl, ?_⟩) (hS _) ?_
      · rintro w' ⟨L, hL, hSw, hun⟩
        go_simp
      simp only [List.getElem_toArray, List.getElem_cons_zero, List.getElem_cons_succ, Act.put, List.setIfInBounds_toArray, List.set_cons_zero, List.set_cons_succ]
      refine WA.take (i := 4) (v := .pointer (some ⟨b, off + i * 2, none⟩)) rfl (by kernel_rfl) (by kernel_rfl) (by kernel_rfl) (fun _ _ _ h => h) (hdrop 4 (by decide)) (Or.inl ⟨by rfl, ?_⟩) (hS _) ?_
      · rintro w' ⟨L, hL, hSw, hun⟩
        go_simp
      simp only [List.getElem_toArray, List.getElem_cons_zero, List.getElem_cons_succ, Act.put, List.setIfInBounds_toArray, List.set_cons_zero, List.set_cons_succ]
      refine WA.take (i := 5) (v := .int .u32 x) rfl (by kernel_rfl) (by kernel_rfl) (by kernel_rfl) (fun _ _ _ h => h) (hdrop 5 (by decide)) (Or.inl ⟨by rfl, ?_⟩) (hS _) ?_
      · rintro w' ⟨L, hL, hSw, hun⟩
        obtain rfl := hSo hSw (hL.wait 11 5 (by kernel_rfl) hun)
        go_simp
      simp only [List.getElem_toArray, List.getElem_cons_zero, List.getElem_cons_succ, Act.put, List.setIfInBounds_toArray, List.set_cons_zero, List.set_cons_succ]
      refine WA.take (i := 6) (v := .slice (some ⟨b, off, none⟩) n lcap) rfl (by kernel_rfl) (by kernel_rfl) (by kernel_rfl) (fun _ _ _ h => h) (hdrop 6 (by decide)) (Or.inl ⟨by rfl, ?_⟩) (hS _) ?_
      · rintro w' ⟨L, hL, hSw, hun⟩
        go_simp
      simp only [List.getElem_toArray, List.getElem_cons_zero, List.getElem_cons_succ, Act.put, List.setIfInBounds_toArray, List.set_cons_zero, List.set_cons_succ]
      refine WA.take (i := 7) (v := .int .i64 ((i : Nat) : Int)) rfl (by kernel_rfl) (by kernel_rfl) (by kernel_rfl) (fun _ _ _ h => h) (hdrop 7 (by decide)) (Or.inl ⟨by rfl, ?_⟩) (hS _) ?_
      · rintro w' ⟨L, hL, hSw, hun⟩
        go_simp
      simp only [List.getElem_toArray, List.getElem_cons_zero, List.getElem_cons_succ, Act.put, List.setIfInBounds_toArray, List.set_cons_zero, List.set_cons_succ]
      refine WA.take (i := 8) (v := .pointer (some ⟨b, off + i * 2, none⟩)) rfl (by kernel_rfl) (by kernel_rfl) (by kernel_rfl) (fun _ _ _ h => h) (hdrop 8 (by decide)) (Or.inl ⟨by rfl, ?_⟩) (hS _) ?_
      · rintro w' ⟨L, hL, hSw, hun⟩
        go_simp
      simp only [List.getElem_toArray, List.getElem_cons_zero, List.getElem_cons_succ, Act.put, List.setIfInBounds_toArray, List.set_cons_zero, List.set_cons_succ]
      refine WA.take (i := 9) (v := .pointer (some ⟨b, off + i * 2 + 1, none⟩)) rfl (by kernel_rfl) (by kernel_rfl) (by kernel_rfl) (fun _ _ _ h => h) (hdrop 9 (by decide)) (Or.inl ⟨by rfl, ?_⟩) (hS _) ?_
      · rintro w' ⟨L, hL, hSw, hun⟩
        go_simp
      simp only [List.getElem_toArray, List.getElem_cons_zero, List.getElem_cons_succ, Act.put, List.setIfInBounds_toArray, List.set_cons_zero, List.set_cons_succ]
      refine WA.take (i := 10) (v := .int .u32 y) rfl (by kernel_rfl) (by kernel_rfl) (by kernel_rfl) (fun _ _ _ h => h) (hdrop 10 (by decide)) (Or.inl ⟨by rfl, ?_⟩) (hS _) ?_
      · rintro w' ⟨L, hL, hSw, hun⟩
        obtain rfl := hSo hSw (hL.wait 11 10 (by kernel_rfl) hun)
        go_simp
      simp only [List.getElem_toArray, List.getElem_cons_zero, List.getElem_cons_succ, Act.put, List.setIfInBounds_toArray, List.set_cons_zero, List.set_cons_succ]
      refine WA.one (i := 11) (by kernel_rfl) rfl (by rfl) (fun K hK => ?_)
      go_simp
      refine (joinP_u (w := Y1) (by rw [HY1.out]; exact HP.out.below (Below.refl _ _).drew) HI.out H32.out (by omega) X32.out.1 X32.out.2).mono ?_
      rintro e w4 ⟨r1, two1, f1, c1, rfl, hP_, hI_, hT_, _⟩
      have HP4 := Lib.hid hP_; have HI4 := Lib.hid hI_; have HT4 := Lib.hid hT_
      clear hP_ hI_ hT_
      refine hK _ _ (hSd _ _ (by rfl)) ?_
      clear hK
      try simp only [List.getElem_toArray, List.getElem_cons_zero, List.getElem_cons_succ, Act.put, List.setIfInBounds_toArray, List.set_cons_zero, List.set_cons_succ]
      refine WA.done (by kernel_rfl) ?_ _
      refine Nrm.normal ?_
      clear hSo hS hSd hdrop cx cy
      clear S8
      have hT5 : TnM wr w4 mf mc := (TnM.below (by rw [HY1.out]; exact (Below.refl _ _).drew)).trans HT4.out
      have HB4 := Lib.hid (HB.out.trans (hT5.lower m1 m2 HB.out.size))
      have HO4 := Lib.hid (OwnJ.turn HO.out HP.out.objs.1 HP.out.objs.2 hT5)
      have HBx4 := Lib.hid (show Boxed w4 jb 36 vJ from hT5.cells HP.out HBx.out)
      obtain ⟨cx, cy⟩ := Hcs.out w4 (HA1.out.trans (HB4.out.mono HA1.out.size))
      obtain ⟨ja, jcap, rfl, _⟩ := HO4.out.j
      obtain ⟨jn, hjn⟩ : ∃ jn, J.length = jn := ⟨_, rfl⟩
      rw [hjn] at HO4 HBx4 HO HBx hJl
      have Hjn := Lib.hid hjn
      have cb := HBx4.out.cell
      clear hT5 HT4 hjn
      go_wp2_with fail
      have cx : w4.drew.cell? ⟨b, off + i * 2, none⟩ = some (.int .u32 x) := cx
      have cy : w4.drew.cell? ⟨b, off + i * 2 + 1, none⟩ = some (.int .u32 y) := cy
      have cb : w4.drew.cell? ⟨jb, 0, none⟩ = some (.slice ja jn jcap) := cb
      obtain ⟨S9, hSe⟩ : ∃ S : Array Bool → World → Prop, S = fun L w' => L.getD 15 true = false → Below w4.drew.heap.size w4.drew w' := ⟨_, rfl⟩
      have hdrop : ∀ i, i ≠ 15 → ∀ L w', S9 (L.setIfInBounds i true) w' → S9 L w' := by
        intro i hi L w'
        rw [hSe]
        intro h hl
        exact h (by rw [getD_set_ne true hi]; exact hl)
      have hS : ∀ L, S9 L w4.drew := by intro L; rw [hSe]; exact fun _ => Below.refl _ _
      have hSo : ∀ {L w'}, S9 L w' → L.getD 15 true = false → Below w4.drew.heap.size w4.drew w' := by intro L w' h hl; rw [hSe] at h; exact h hl
      have hSi : ∀ {w'}, Below w4.drew.heap.size w4.drew w' → ∀ L, S9 L w' := by intro w' h L; rw [hSe]; exact fun _ => h
      have hSd : ∀ (L : Array Bool) X, L.getD 15 true = true → S9 L X := by
        intro L X h; rw [hSe]; intro h1; rw [h] at h1; cases h1
      clear hSe
      refine wp_region_LN S9 16 #[false, false, false, false, false, false, false, false, false, false, false, false, false, false, false, false] (by kernel_rfl) (by kernel_rfl) rfl ?_
      obtain ⟨Y2, hY2⟩ : ∃ Y2, Y2 = w4.drew := ⟨_, rfl⟩
      rw [← hY2] at cx cy cb hSo hS hSi ⊢
      have HY2 := Lib.hid hY2
      clear hY2
      refine WA.take (i := 0) (v := .slice ja jn jcap) rfl (by kernel_rfl) (by kernel_rfl) (by kernel_rfl) (fun _ _ _ h => h) (hdrop 0 (by decide)) (Or.inl ⟨by rfl, ?_⟩) (hS _) ?_
      · rintro w' ⟨L, hL, hSw, hun⟩
        have hbw := hSo hSw (hL.wait 15 13 (by kernel_rfl) (hL.wait 13 12 (by kernel_rfl) (hL.wait 12 11 (by kernel_rfl) (hL.wait 11 0 (by kernel_rfl) hun))))
        have cb := cell_later hbw cb
        clear hbw
        go_simp
      simp only [List.getElem_toArray, List.getElem_cons_zero, List.getElem_cons_succ, Act.put, List.setIfInBounds_toArray, List.set_cons_zero, List.set_cons_succ]
      refine WA.take (i := 1) (v := .slice (some ⟨b, off, none⟩) n lcap) rfl (by kernel_rfl) (by kernel_rfl) (by kernel_rfl) (fun _ _ _ h => h) (hdrop 1 (by decide)) (Or.inl ⟨by rfl, ?_⟩) (hS _) ?_
      · rintro w' ⟨L, hL, hSw, hun⟩
        go_simp
      simp only [List.getElem_toArray, List.getElem_cons_zero, List.getElem_cons_succ, Act.put, List.setIfInBounds_toArray, List.set_cons_zero, List.set_cons_succ]
      refine WA.take (i := 2) (v := .int .i64 ((i : Nat) : Int)) rfl (by kernel_rfl) (by kernel_rfl) (by kernel_rfl) (fun _ _ _ h => h) (hdrop 2 (by decide)) (Or.inl ⟨by rfl, ?_⟩) (hS _) ?_
      · rintro w' ⟨L, hL, hSw, hun⟩
        go_simp
      simp only [List.getElem_toArray, List.getElem_cons_zero, List.getElem_cons_succ, Act.put, List.setIfInBounds_toArray, List.set_cons_zero, List.set_cons_succ]
      refine WA.take (i := 3) (v := .pointer (some ⟨b, off + i * 2, none⟩)) rfl (by kernel_rfl) (by kernel_rfl) (by kernel_rfl) (fun _ _ _ h => h) (hdrop 3 (by decide)) (Or.inl ⟨by rfl, ?_⟩) (hS _) ?_
      · rintro w' ⟨L, hL, hSw, hun⟩
        go_simp
      simp only [List.getElem_toArray, List.getElem_cons_zero, List.getElem_cons_succ, Act.put, List.setIfInBounds_toArray, List.set_cons_zero, List.set_cons_succ]
      refine WA.take (i := 4) (v := .pointer (some ⟨b, off + i * 2, none⟩)) rfl (by kernel_rfl) (by kernel_rfl) (by kernel_rfl) (fun _ _ _ h => h) (hdrop 4 (by decide)) (Or.inl ⟨by rfl, ?_⟩) (hS _) ?_
      · rintro w' ⟨L, hL, hSw, hun⟩
        go_simp
      simp only [List.getElem_toArray, List.getElem_cons_zero, List.getElem_cons_succ, Act.put, List.setIfInBounds_toArray, List.set_cons_zero, List.set_cons_succ]
      refine WA.take (i := 5) (v := .int .u32 x) rfl (by kernel_rfl) (by kernel_rfl) (by kernel_rfl) (fun _ _ _ h => h) (hdrop 5 (by decide)) (Or.inl ⟨by rfl, ?_⟩) (hS _) ?_
      · rintro w' ⟨L, hL, hSw, hun⟩
        have hbw := hSo hSw (hL.wait 15 13 (by kernel_rfl) (hL.wait 13 12 (by kernel_rfl) (hL.wait 12 11 (by kernel_rfl) (hL.wait 11 5 (by kernel_rfl) hun))))
        have cx := cell_later hbw cx
        clear hbw
        go_simp
      simp only [List.getElem_toArray, List.getElem_cons_zero, List.getElem_cons_succ, Act.put, List.setIfInBounds_toArray, List.set_cons_zero, List.set_cons_succ]
      refine WA.take (i := 6) (v := .slice (some ⟨b, off, none⟩) n lcap) rfl (by kernel_rfl) (by kernel_rfl) (by kernel_rfl) (fun _ _ _ h => h) (hdrop 6 (by decide)) (Or.inl ⟨by rfl, ?_⟩) (hS _) ?_
      · rintro w' ⟨L, hL, hSw, hun⟩
        go_simp
      simp only [List.getElem_toArray, List.getElem_cons_zero, List.getElem_cons_succ, Act.put, List.setIfInBounds_toArray, List.set_cons_zero, List.set_cons_succ]
      refine WA.take (i := 7) (v := .int .i64 ((i : Nat) : Int)) rfl (by kernel_rfl) (by kernel_rfl) (by kernel_rfl) (fun _ _ _ h => h) (hdrop 7 (by decide)) (Or.inl ⟨by rfl, ?_⟩) (hS _) ?_
      · rintro w' ⟨L, hL, hSw, hun⟩
        go_simp
      simp only [List.getElem_toArray, List.getElem_cons_zero, List.getElem_cons_succ, Act.put, List.setIfInBounds_toArray, List.set_cons_zero, List.set_cons_succ]
      refine WA.take (i := 8) (v := .pointer (some ⟨b, off + i * 2, none⟩)) rfl (by kernel_rfl) (by kernel_rfl) (by kernel_rfl) (fun _ _ _ h => h) (hdrop 8 (by decide)) (Or.inl ⟨by rfl, ?_⟩) (hS _) ?_
      · rintro w' ⟨L, hL, hSw, hun⟩
        go_simp
      simp only [List.getElem_toArray, List.getElem_cons_zero, List.getElem_cons_succ, Act.put, List.setIfInBounds_toArray, List.set_cons_zero, List.set_cons_succ]
      refine WA.take (i := 9) (v := .pointer (some ⟨b, off + i * 2 + 1, none⟩)) rfl (by kernel_rfl) (by kernel_rfl) (by kernel_rfl) (fun _ _ _ h => h) (hdrop 9 (by decide)) (Or.inl ⟨by rfl, ?_⟩) (hS _) ?_
      · rintro w' ⟨L, hL, hSw, hun⟩
        go_simp
      simp only [List.getElem_toArray, List.getElem_cons_zero, List.getElem_cons_succ, Act.put, List.setIfInBounds_toArray, List.set_cons_zero, List.set_cons_succ]
      refine WA.take (i := 10) (v := .int .u32 y) rfl (by kernel_rfl) (by kernel_rfl) (by kernel_rfl) (fun _ _ _ h => h) (hdrop 10 (by decide)) (Or.inl ⟨by rfl, ?_⟩) (hS _) ?_
      · rintro w' ⟨L, hL, hSw, hun⟩
        have hbw := hSo hSw (hL.wait 15 13 (by kernel_rfl) (hL.wait 13 12 (by kernel_rfl) (hL.wait 12 11 (by kernel_rfl) (hL.wait 11 10 (by kernel_rfl) hun))))
        have cy := cell_later hbw cy
        clear hbw
        go_simp
      simp only [List.getElem_toArray, List.getElem_cons_zero, List.getElem_cons_succ, Act.put, List.setIfInBounds_toArray, List.set_cons_zero, List.set_cons_succ]
      refine WA.one (i := 11) (by kernel_rfl) rfl (by rfl) (fun K hK => ?_)
      go_simp
      refine (joinR_u (w := Y2) (J := J) (v := .slice ja jn jcap) (by rw [HY2.out]; exact HO4.out) (by have := Hjn.out; omega) HE.out.nz x y).mono ?_
      rintro e w5 ⟨v5, was, J2, rfl, hO_, hB_, hw_⟩
      obtain ⟨ja2, jcap2, rfl, hj_⟩ := hO_.j
      have HO5 := Lib.hid hO_; have HB5 := Lib.hid hB_; have Hw5 := Lib.hid hw_; have HJ5 := Lib.hid hj_
      have hbx5 : Boxed w5 jb 36 (.slice ja jn jcap) := by
        have h1 : Below w4.heap.size w4 Y2 := by rw [HY2.out]; exact (Below.refl _ _).drew
        exact ((h1.trans (hB_.mono h1.size)).block jb HBx4.out.lt).trans HBx4.out
      have hc5 := hbx5.cell
      have hf5 := hbx5.frozen
      clear hO_ hB_ hw_ hj_ hbx5
      refine hK _ _ (hSi HB5.out _) ?_
      clear hK
      try simp only [List.getElem_toArray, List.getElem_cons_zero, List.getElem_cons_succ, Act.put, List.setIfInBounds_toArray, List.set_cons_zero, List.set_cons_succ]
      refine WA.take (i := 12) (v := .tuple #[.slice ja2 J2.length jcap2, .bool was]) rfl (by kernel_rfl) (by kernel_rfl) (by kernel_rfl) (fun _ _ _ h => h) (hdrop 12 (by decide)) (Or.inl ⟨by rfl, ?_⟩) (hSi HB5.out _) ?_
      · rintro w' ⟨L, hL, hSw, hun⟩
        go_simp
      simp only [List.getElem_toArray, List.getElem_cons_zero, List.getElem_cons_succ, Act.put, List.setIfInBounds_toArray, List.set_cons_zero, List.set_cons_succ]
      refine WA.take (i := 13) (v := .slice ja2 J2.length jcap2) rfl (by kernel_rfl) (by kernel_rfl) (by kernel_rfl) (fun _ _ _ h => h) (hdrop 13 (by decide)) (Or.inl ⟨by rfl, ?_⟩) (hSi HB5.out _) ?_
      · rintro w' ⟨L, hL, hSw, hun⟩
        go_simp
      simp only [List.getElem_toArray, List.getElem_cons_zero, List.getElem_cons_succ, Act.put, List.setIfInBounds_toArray, List.set_cons_zero, List.set_cons_succ]
      refine WA.take (i := 14) (v := .bool was) rfl (by kernel_rfl) (by kernel_rfl) (by kernel_rfl) (fun _ _ _ h => h) (hdrop 14 (by decide)) (Or.inl ⟨by rfl, ?_⟩) (hSi HB5.out _) ?_
      · rintro w' ⟨L, hL, hSw, hun⟩
        go_simp
      simp only [List.getElem_toArray, List.getElem_cons_zero, List.getElem_cons_succ, Act.put, List.setIfInBounds_toArray, List.set_cons_zero, List.set_cons_succ]
      refine WA.one (i := 15) (by kernel_rfl) rfl (by rfl) (fun K hK => ?_)
      go_simp
      go_simp
      refine hK _ _ (hSd _ _ (by rfl)) ?_
      clear hK
      try simp only [List.getElem_toArray, List.getElem_cons_zero, List.getElem_cons_succ, Act.put, List.setIfInBounds_toArray, List.set_cons_zero, List.set_cons_succ]
      refine WA.done (by kernel_rfl) ?_ _
      refine Nrm.normal ?_
      clear hSo hS hSi hSd hdrop cx cy cb
      clear S9 hc5 hf5
      obtain ⟨hI5, hE5, h325, hJl5⟩ := pair_step HI4.out HE.out H32.out X32.out.1 X32.out.2 Hw5.out
      rw [Hjn.out] at hJl5
      have hb5 : Below w4.heap.size w4 w5 := by
        have h1 : Below w4.heap.size w4 Y2 := by rw [HY2.out]; exact (Below.refl _ _).drew
        exact h1.trans (HB5.out.mono h1.size)
      have hbx5 : Boxed w5 jb 36 (.slice ja jn jcap) := (hb5.block jb HBx4.out.lt).trans HBx4.out
      have HP5 := Lib.hid ((HP4.out.below hb5).but hbx5 (by decide) (by decide) box_set (w' := w5.setCell ⟨jb, 0, none⟩ (.slice ja2 J2.length jcap2)))
      have HO6 := Lib.hid (HO5.out.but hbx5 (by decide) box_set (w' := w5.setCell ⟨jb, 0, none⟩ (.slice ja2 J2.length jcap2)))
      have HBx5 := Lib.hid (Boxed.set (.slice ja2 J2.length jcap2) hbx5)
      have HB6 := Lib.hid ((HB4.out.trans (hb5.mono HB4.out.size)).setCell (p := ⟨jb, 0, none⟩) hjm (.slice ja2 J2.length jcap2))
      have HI5 := Lib.hid hI5; have HE5 := Lib.hid hE5; have H325 := Lib.hid h325
      clear hI5 hE5 h325 hb5 hbx5
      go_wp2_with fail
      go_roundw
      case rel => exact ⟨i + 1, f1, c1, J2, _, by omega, by push_cast; rfl, HP5.out, HI5.out, HE5.out, H325.out, by omega, HBx5.out, HO6.out, HB6.out⟩
      case measure => simp [intOf]; omega
    · have hdi : decide ((i : Int) < (n : Int)) = false := by simp; omega
      have hjl : J.length ≤ 30 := by omega
      obtain ⟨ja, jcap, rfl, _⟩ := HO.out.j
      obtain ⟨jn, hjn⟩ : ∃ jn, J.length = jn := ⟨_, rfl⟩
      rw [hjn] at HO HBx hJl hjl
      have Hjn := Lib.hid hjn
      clear hjn
      go_wp2_with fail
      refine (copyP_u HP.out).mono ?_
      rintro e w3 ⟨ob, of, oc, rfl, hP3, o1, o2, o3, hB3⟩
      have HPo := Lib.hid hP3; have HB3 := Lib.hid hB3
      clear hP3 hB3
      go_wp2_with fail
      refine (allP_u2 (HP.out.below HB3.out)).mono ?_
      rintro e w4 ⟨vb, qb, nf, nc, rfl, hvb, hQ, q1, q2, hB4⟩
      have hnilf : ∀ (lb : Array Value) (w : World), (binOp .eql 42 (.func (.func 26) #[] lb) .nilFunc).run Try.prog w = .ok (.bool false) w := fun _ _ => rfl
      have Hvb := Lib.hid hvb; have HQ := Lib.hid hQ; have HB4 := Lib.hid hB4
      clear hvb hQ hB4
      go_wp2_with fail
      clear hnilf
      have hB34 : Below wr.heap.size wr w4 := HB3.out.trans (HB4.out.mono HB3.out.size)
      have HB34 := Lib.hid hB34
      refine (lenP_u (HP.out.below hB34)).mono ?_
      rintro e w_ ⟨⟨ks, a1, a2, a3, rfl⟩, hw_⟩
      subst hw_
      obtain ⟨hK1, hK2, hK3⟩ := HI.out.keysL H32.out a1 a2 a3
      obtain ⟨q, hq⟩ : ∃ q, ks.length = q := ⟨_, rfl⟩
      have hq2 : q ≤ 60 := by
        have := List.Nodup.length_le_of_subset hK1.nodup (l₂ := nums J) (fun x hx => ((hK3 x).1 hx).nums)
        rw [nums_len, hK2, hq, Hjn.out] at this
        omega
      rw [hq] at hK2 ⊢
      have HK1 := Lib.hid hK1; have HK2 := Lib.hid hK2; have HK3 := Lib.hid hK3
      clear a1 a2 a3 hK1 hK2 hK3 hq hB34
      generalize srt ks = K at *
      go_upto_region 15 with fail
      obtain ⟨ib, hib⟩ : ∃ ib, w4.heap.size = ib := ⟨_, rfl⟩
      obtain ⟨hW1, hW2, hW3⟩ := one_block w4 (.cells #[.int .i64 (q : Int)] 3) _ rfl
      generalize w4.alloc (.cells #[.int .i64 (q : Int)] 3) = W6 at *
      rw [hib] at hW2 hW3 ⊢
      have hb4 : Below wr.heap.size wr W6 := HB34.out.trans (hW1.mono HB34.out.size)
      have cb : W6.cell? ⟨jb, 0, none⟩ = some (.slice ja jn jcap) := (box_at ((hb4.block jb HBx.out.lt).trans HBx.out) rfl).1
      have HB6 := Lib.hid hb4; have HW1 := Lib.hid hW1; have HW2 := Lib.hid hW2; have HW3 := Lib.hid hW3; have Hib := Lib.hid hib
      clear hb4 hW1 hW2 hW3 hib
      have cb : W6.drew.cell? ⟨jb, 0, none⟩ = some (.slice ja jn jcap) := cb
      obtain ⟨S15, hSe⟩ : ∃ S : Array Bool → World → Prop, S = fun _ w' => Below W6.drew.heap.size W6.drew w' := ⟨_, rfl⟩
      have hdrop : ∀ i : Nat, ∀ L w', S15 (L.setIfInBounds i true) w' → S15 L w' := by
        intro i L w' h; rw [hSe] at h ⊢; exact h
      have hS : ∀ L, S15 L W6.drew := by intro L; rw [hSe]; exact Below.refl _ _
      have hSo : ∀ {L w'}, S15 L w' → Below W6.drew.heap.size W6.drew w' := by intro L w' h; rw [hSe] at h; exact h
      have hSi : ∀ {w'}, Below W6.drew.heap.size W6.drew w' → ∀ L, S15 L w' := by intro w' h L; rw [hSe]; exact h
      clear hSe
      refine wp_region_LN S15 4 #[false, false, false, false] (by kernel_rfl) (by kernel_rfl) rfl ?_
      obtain ⟨X15, hX15⟩ : ∃ X15, X15 = W6.drew := ⟨_, rfl⟩
      rw [← hX15] at cb hSo hS hSi ⊢
      have HX15 := Lib.hid hX15
      clear hX15
      refine WA.take (i := 0) (v := .slice ja jn jcap) rfl (by kernel_rfl) (by kernel_rfl) (by kernel_rfl) (fun _ _ _ h => h) (hdrop 0) (Or.inl ⟨by rfl, ?_⟩) (hS _) ?_
      · rintro w' ⟨L, hL, hSw, hun⟩
        have hbw := hSo hSw
        have cb := cell_later hbw cb
        clear hbw
        go_simp
      simp only [List.getElem_toArray, List.getElem_cons_zero, List.getElem_cons_succ, Act.put, List.setIfInBounds_toArray, List.set_cons_zero, List.set_cons_succ]
      refine WA.take (i := 1) (v := .slice ja jn jcap) rfl (by kernel_rfl) (by kernel_rfl) (by kernel_rfl) (fun _ _ _ h => h) (hdrop 1) (Or.inl ⟨by rfl, ?_⟩) (hS _) ?_
      · rintro w' ⟨L, hL, hSw, hun⟩
        have hbw := hSo hSw
        have cb := cell_later hbw cb
        clear hbw
        go_simp
      simp only [List.getElem_toArray, List.getElem_cons_zero, List.getElem_cons_succ, Act.put, List.setIfInBounds_toArray, List.set_cons_zero, List.set_cons_succ]
      refine WA.take (i := 2) (v := .slice ja jn jcap) rfl (by kernel_rfl) (by kernel_rfl) (by kernel_rfl) (fun _ _ _ h => h) (hdrop 2) (Or.inl ⟨by rfl, ?_⟩) (hS _) ?_
      · rintro w' ⟨L, hL, hSw, hun⟩
        go_simp
      simp only [List.getElem_toArray, List.getElem_cons_zero, List.getElem_cons_succ, Act.put, List.setIfInBounds_toArray, List.set_cons_zero, List.set_cons_succ]
      refine WA.take (i := 3) (v := .slice ja jn jcap) rfl (by kernel_rfl) (by kernel_rfl) (by kernel_rfl) (fun _ _ _ h => h) (hdrop 3) (Or.inl ⟨by rfl, ?_⟩) (hS _) ?_
      · rintro w' ⟨L, hL, hSw, hun⟩
        go_simp
      simp only [List.getElem_toArray, List.getElem_cons_zero, List.getElem_cons_succ, Act.put, List.setIfInBounds_toArray, List.set_cons_zero, List.set_cons_succ]
      refine WA.done (by kernel_rfl) ?_ _
      refine Nrm.normal ?_
      clear hSo hS hSi hdrop
      clear S15
      have hd7 : Below W6.heap.size W6 X15 := by rw [HX15.out]; exact (Below.refl _ _).drew
      have hr7 : Below wr.heap.size wr X15 := HB6.out.trans (hd7.mono HB6.out.size)
      have h47 : Below w4.heap.size w4 X15 := HW1.out.trans (hd7.mono HW1.out.size)
      have h37 : Below w3.heap.size w3 X15 := HB4.out.trans (h47.mono HB4.out.size)
      have HP7 := Lib.hid (HP.out.below hr7); have HPo7 := Lib.hid (HPo.out.below h37); have HQ7 := Lib.hid (HQ.out.below h47)
      have Hvb7 := Lib.hid ((h47.block vb (lt_of_heap Hvb.out)).trans Hvb.out)
      have Hib7 := Lib.hid (show Boxed X15 ib 3 (.int .i64 (q : Int)) from (hd7.block ib (lt_of_heap HW3.out)).trans HW3.out)
      have Hjb7 := Lib.hid (show Boxed X15 jb 36 (.slice ja jn jcap) from (hr7.block jb HBx.out.lt).trans HBx.out)
      have HJ7 := Lib.hid (HO.out.below rfl hr7)
      have HB7 := Lib.hid (HB.out.trans (hr7.mono HB.out.size))
      have Hlt := Lib.hid (show vb < ib ∧ qb < ib ∧ nf < ib ∧ nc < ib from by
        obtain ⟨⟨_, _, g1⟩, ⟨_, _, g2⟩⟩ := HQ.out.objs
        rw [← Hib.out]
        exact ⟨lt_of_heap Hvb.out, lt_of_heap HQ.out.head, lt_of_heap g1, lt_of_heap g2⟩)
      have Hne := Lib.hid (show (of ≠ mf ∧ of ≠ mc ∧ oc ≠ mf ∧ oc ≠ mc) ∧ (nf ≠ mf ∧ nf ≠ mc ∧ nc ≠ mf ∧ nc ≠ mc) ∧ (nf ≠ of ∧ nf ≠ oc ∧ nc ≠ of ∧ nc ≠ oc) ∧ W2.heap.size ≤ of ∧ W2.heap.size ≤ oc ∧ W2.heap.size ≤ ib from by
        obtain ⟨⟨_, _, g1⟩, ⟨_, _, g2⟩⟩ := HP.out.objs
        obtain ⟨⟨_, _, g3⟩, ⟨_, _, g4⟩⟩ := HPo.out.objs
        have l1 := lt_of_heap g1; have l2 := lt_of_heap g2; have l3 := lt_of_heap g3; have l4 := lt_of_heap g4
        have s1 := HB.out.size; have s2 := HB3.out.size; have s3 := HB4.out.size
        have s4 := Hib.out
        omega)
      have hjl7 : jn ≤ 30 := by omega
      clear hd7 hr7 h47 h37 HX15 HW1 HW2 HW3 HB6 HB34 HB4 HB3 HB HBx HO HP HPo HQ Hvb
      clear cb o1 o2 o3 q1 q2 hJl hjl hdi hin hi Hib
      go_wp2_with fail
      go_loopw [13, 15] (fun ux u wz => ∃ (i : Nat) (fa : Int → Option Int) (ca : Int → Option (List Int)) (Ja : Jn), i ≤ na ∧ u = .int .i64 i ∧ IsP wz pb mf mc fa ca ∧ PInv Ja fa ca ∧ Eff Ja ∧ (∀ p ∈ Ja, is32 p.1 ∧ is32 p.2) ∧ Ja.length ≤ 30 + i ∧ OwnJ 0 wz ux Ja ∧ TnM X15 wz mf mc) (fun _ u _ => na - (intOf u).toNat)
      case atStart => exact ⟨0, f, c, J, by omega, rfl, HP7.out, HI.out, HE.out, H32.out, by have := Hjn.out; omega, HJ7.out, TnM.refl _ _ _⟩
      case round =>
        rename World => wa
        obtain ⟨k, fa, ca, Ja, hk, rfl, hPa, hIa, hEa, h32a, hJla, hOa, hTa⟩ := hrel
        have HPa := Lib.hid hPa; have HIa := Lib.hid hIa; have HEa := Lib.hid hEa; have H32a := Lib.hid h32a; have HOa := Lib.hid hOa; have HTa := Lib.hid hTa
        have HBa := Lib.hid (HB7.out.trans (hTa.lower m1 m2 HB7.out.size))
        obtain ⟨jx, xcap, rfl, _⟩ := hOa.j
        obtain ⟨xn, hxn⟩ : ∃ xn, Ja.length = xn := ⟨_, rfl⟩
        rw [hxn] at HOa hJla ⊢
        have Hxn := Lib.hid hxn
        clear hPa hIa hEa h32a hOa hTa hxn
        by_cases hin : k < na
        · have hdi : decide ((k : Int) < (na : Int)) = true := by simp; omega
          have hiJ : k < A0.length := by have := Hna.out; omega
          obtain ⟨x, hx⟩ : ∃ x, A0[k].1 = x := ⟨_, rfl⟩
          obtain ⟨y, hy⟩ : ∃ y, A0[k].2 = y := ⟨_, rfl⟩
          obtain ⟨b, off, rfl, hbl, cx, cy⟩ := Ha.out.below (HA1.out.trans (HBa.out.mono HA1.out.size)) k hiJ
          rw [hx] at cx
          rw [hy] at cy
          have x32 : is32 x ∧ is32 y := by rw [← hx, ← hy]; exact HA.out _ (List.getElem_mem hiJ)
          have hcs : ∀ W, Below w.heap.size w W → W.cell? ⟨b, off + k * 2, none⟩ = some (.int .u32 x) ∧ W.cell? ⟨b, off + k * 2 + 1, none⟩ = some (.int .u32 y) := fun W hW => by
            obtain ⟨b', off', e, _, k1, k2⟩ := Ha.out.below hW k hiJ
            simp at e
            obtain ⟨rfl, rfl⟩ := e
            rw [hx] at k1
            rw [hy] at k2
            exact ⟨k1, k2⟩
          have X32 := Lib.hid x32; have Hcs := Lib.hid hcs
          clear x32 hx hy hbl hcs
          go_wp2_with fail
          have cx : wa.drew.cell? ⟨b, off + k * 2, none⟩ = some (.int .u32 x) := cx
          have cy : wa.drew.cell? ⟨b, off + k * 2 + 1, none⟩ = some (.int .u32 y) := cy
          obtain ⟨S8, hSe⟩ : ∃ S : Array Bool → World → Prop, S = fun L w' => L.getD 11 true = false → w' = wa.drew := ⟨_, rfl⟩
          have hdrop : ∀ i, i ≠ 11 → ∀ L w', S8 (L.setIfInBounds i true) w' → S8 L w' := by
            intro i hi L w'
            rw [hSe]
            intro h hl
            exact h (by rw [getD_set_ne true hi]; exact hl)
          have hS : ∀ L, S8 L wa.drew := by intro L; rw [hSe]; exact fun _ => rfl
          have hSo : ∀ {L w'}, S8 L w' → L.getD 11 true = false → w' = wa.drew := by intro L w' h hl; rw [hSe] at h; exact h hl
          have hSd : ∀ (L : Array Bool) X, L.getD 11 true = true → S8 L X := by
            intro L X h; rw [hSe]; intro h1; rw [h] at h1; cases h1
          clear hSe
          refine wp_region_LN S8 12 #[false, false, false, false, false, false, false, false, false, false, false, false] (by kernel_rfl) (by kernel_rfl) rfl ?_
          obtain ⟨Y3, hY3⟩ : ∃ Y3, Y3 = wa.drew := ⟨_, rfl⟩
          rw [← hY3] at cx cy hSo hS ⊢
          have HY3 := Lib.hid hY3
          clear hY3
          refine WA.take (i := 0) (v := .pointer (some ⟨pb, 0, none⟩)) rfl (by kernel_rfl) (by kernel_rfl) (by kernel_rfl) (fun _ _ _ h => h) (hdrop 0 (by decide)) (Or.inl ⟨by rfl, ?_⟩) (hS _) ?_
          · rintro w' ⟨L, hL, hSw, hun⟩
            go_simp
          simp only [List.getElem_toArray, List.getElem_cons_zero, List.getElem_cons_succ, Act.put, List.setIfInBounds_toArray, List.set_cons_zero, List.set_cons_succ]
          refine WA.take (i := 1) (v := .slice (some ⟨b, off, none⟩) na acap) rfl (by kernel_rfl) (by kernel_rfl) (by kernel_rfl) (fun _ _ _ h => h) (hdrop 1 (by decide)) (Or.inl ⟨by rfl, ?_⟩) (hS _) ?_
          · rintro w' ⟨L, hL, hSw, hun⟩
            go_simp
          simp only [List.getElem_toArray, List.getElem_cons_zero, List.getElem_cons_succ, Act.put, List.setIfInBounds_toArray, List.set_cons_zero, List.set_cons_succ]
          refine WA.take (i := 2) (v := .int .i64 ((k : Nat) : Int)) rfl (by kernel_rfl) (by kernel_rfl) (by kernel_rfl) (fun _ _ _ h => h) (hdrop 2 (by decide)) (Or.inl ⟨by rfl, ?_⟩) (hS _) ?_
          · rintro w' ⟨L, hL, hSw, hun⟩
            go_simp
          simp only [List.getElem_toArray, List.getElem_cons_zero, List.getElem_cons_succ, Act.put, List.setIfInBounds_toArray, List.set_cons_zero, List.set_cons_succ]
          refine WA.take (i := 3) (v := .pointer (some ⟨b, off + k * 2, none⟩)) rfl (by kernel_rfl) (by kernel_rfl) (by kernel_rfl) (fun _ _ _ h => h) (hdrop 3 (by decide)) (Or.inl ⟨by rfl, ?_⟩) (hS _) ?_
          · rintro w' ⟨L, hL, hSw, hun⟩
            go_simp
          simp only [List.getElem_toArray, List.getElem_cons_zero, List.getElem_cons_succ, Act.put, List.setIfInBounds_toArray, List.set_cons_zero, List.set_cons_succ]
          refine WA.take (i := 4) (v := .pointer (some ⟨b, off + k * 2, none⟩)) rfl (by kernel_rfl) (by kernel_rfl) (by kernel_rfl) (fun _ _ _ h => h) (hdrop 4 (by decide)) (Or.inl ⟨by rfl, ?_⟩) (hS _) ?_
          · rintro w' ⟨L, hL, hSw, hun⟩
            go_simp
          simp only [List.getElem_toArray, List.getElem_cons_zero, List.getElem_cons_succ, Act.put, List.setIfInBounds_toArray, List.set_cons_zero, List.set_cons_succ]
          refine WA.take (i := 5) (v := .int .u32 x) rfl (by kernel_rfl) (by kernel_rfl) (by kernel_rfl) (fun _ _ _ h => h) (hdrop 5 (by decide)) (Or.inl ⟨by rfl, ?_⟩) (hS _) ?_
          · rintro w' ⟨L, hL, hSw, hun⟩
            obtain rfl := hSo hSw (hL.wait 11 5 (by kernel_rfl) hun)
            go_simp
          simp only [List.getElem_toArray, List.getElem_cons_zero, List.getElem_cons_succ, Act.put, List.setIfInBounds_toArray, List.set_cons_zero, List.set_cons_succ]
          refine WA.take (i := 6) (v := .slice (some ⟨b, off, none⟩) na acap) rfl (by kernel_rfl) (by kernel_rfl) (by kernel_rfl) (fun _ _ _ h => h) (hdrop 6 (by decide)) (Or.inl ⟨by rfl, ?_⟩) (hS _) ?_
          · rintro w' ⟨L, hL, hSw, hun⟩
            go_simp
          simp only [List.getElem_toArray, List.getElem_cons_zero, List.getElem_cons_succ, Act.put, List.setIfInBounds_toArray, List.set_cons_zero, List.set_cons_succ]
          refine WA.take (i := 7) (v := .int .i64 ((k : Nat) : Int)) rfl (by kernel_rfl) (by kernel_rfl) (by kernel_rfl) (fun _ _ _ h => h) (hdrop 7 (by decide)) (Or.inl ⟨by rfl, ?_⟩) (hS _) ?_
          · rintro w' ⟨L, hL, hSw, hun⟩
            go_simp
          simp only [List.getElem_toArray, List.getElem_cons_zero, List.getElem_cons_succ, Act.put, List.setIfInBounds_toArray, List.set_cons_zero, List.set_cons_succ]
          refine WA.take (i := 8) (v := .pointer (some ⟨b, off + k * 2, none⟩)) rfl (by kernel_rfl) (by kernel_rfl) (by kernel_rfl) (fun _ _ _ h => h) (hdrop 8 (by decide)) (Or.inl ⟨by rfl, ?_⟩) (hS _) ?_
          · rintro w' ⟨L, hL, hSw, hun⟩
            go_simp
          simp only [List.getElem_toArray, List.getElem_cons_zero, List.getElem_cons_succ, Act.put, List.setIfInBounds_toArray, List.set_cons_zero, List.set_cons_succ]
          refine WA.take (i := 9) (v := .pointer (some ⟨b, off + k * 2 + 1, none⟩)) rfl (by kernel_rfl) (by kernel_rfl) (by kernel_rfl) (fun _ _ _ h => h) (hdrop 9 (by decide)) (Or.inl ⟨by rfl, ?_⟩) (hS _) ?_
          · rintro w' ⟨L, hL, hSw, hun⟩
            go_simp
          simp only [List.getElem_toArray, List.getElem_cons_zero, List.getElem_cons_succ, Act.put, List.setIfInBounds_toArray, List.set_cons_zero, List.set_cons_succ]
          refine WA.take (i := 10) (v := .int .u32 y) rfl (by kernel_rfl) (by kernel_rfl) (by kernel_rfl) (fun _ _ _ h => h) (hdrop 10 (by decide)) (Or.inl ⟨by rfl, ?_⟩) (hS _) ?_
          · rintro w' ⟨L, hL, hSw, hun⟩
            obtain rfl := hSo hSw (hL.wait 11 10 (by kernel_rfl) hun)
            go_simp
          simp only [List.getElem_toArray, List.getElem_cons_zero, List.getElem_cons_succ, Act.put, List.setIfInBounds_toArray, List.set_cons_zero, List.set_cons_succ]
          refine WA.one (i := 11) (by kernel_rfl) rfl (by rfl) (fun K hK => ?_)
          go_simp
          refine (joinP_u (w := Y3) (by rw [HY3.out]; exact HPa.out.below (Below.refl _ _).drew) HIa.out H32a.out (by have := Hxn.out; omega) X32.out.1 X32.out.2).mono ?_
          rintro e wb ⟨r1, two1, fb, cb1, rfl, hP_, hI_, hT_, _⟩
          have HP4 := Lib.hid hP_; have HI4 := Lib.hid hI_; have HT4 := Lib.hid hT_
          clear hP_ hI_ hT_
          refine hK _ _ (hSd _ _ (by rfl)) ?_
          clear hK
          try simp only [List.getElem_toArray, List.getElem_cons_zero, List.getElem_cons_succ, Act.put, List.setIfInBounds_toArray, List.set_cons_zero, List.set_cons_succ]
          refine WA.done (by kernel_rfl) ?_ _
          refine Nrm.normal ?_
          clear hSo hS hSd hdrop cx cy
          clear S8
          have hT5 : TnM wa wb mf mc := (TnM.below (by rw [HY3.out]; exact (Below.refl _ _).drew)).trans HT4.out
          have HB4 := Lib.hid (HBa.out.trans (hT5.lower m1 m2 HBa.out.size))
          have HO4 := Lib.hid (OwnJ.turn HOa.out HPa.out.objs.1 HPa.out.objs.2 hT5)
          obtain ⟨cx, cy⟩ := Hcs.out wb (HA1.out.trans (HB4.out.mono HA1.out.size))
          have HT5 := Lib.hid hT5
          clear hT5 HT4
          go_wp2_with fail
          have cx : wb.drew.cell? ⟨b, off + k * 2, none⟩ = some (.int .u32 x) := cx
          have cy : wb.drew.cell? ⟨b, off + k * 2 + 1, none⟩ = some (.int .u32 y) := cy
          obtain ⟨S9, hSe⟩ : ∃ S : Array Bool → World → Prop, S = fun _ w' => Below wb.drew.heap.size wb.drew w' := ⟨_, rfl⟩
          have hdrop : ∀ i : Nat, ∀ L w', S9 (L.setIfInBounds i true) w' → S9 L w' := by
            intro i L w' h; rw [hSe] at h ⊢; exact h
          have hS : ∀ L, S9 L wb.drew := by intro L; rw [hSe]; exact Below.refl _ _
          have hSo : ∀ {L w'}, S9 L w' → Below wb.drew.heap.size wb.drew w' := by intro L w' h; rw [hSe] at h; exact h
          have hSi : ∀ {w'}, Below wb.drew.heap.size wb.drew w' → ∀ L, S9 L w' := by intro w' h L; rw [hSe]; exact h
          clear hSe
          refine wp_region_LN S9 16 #[false, false, false, false, false, false, false, false, false, false, false, false, false, false, false, false] (by kernel_rfl) (by kernel_rfl) rfl ?_
          obtain ⟨Y4, hY4⟩ : ∃ Y4, Y4 = wb.drew := ⟨_, rfl⟩
          rw [← hY4] at cx cy hSo hS hSi ⊢
          have HY4 := Lib.hid hY4
          clear hY4
          refine WA.take (i := 0) (v := .slice jx xn xcap) rfl (by kernel_rfl) (by kernel_rfl) (by kernel_rfl) (fun _ _ _ h => h) (hdrop 0) (Or.inl ⟨by rfl, ?_⟩) (hS _) ?_
          · rintro w' ⟨L, hL, hSw, hun⟩
            go_simp
          simp only [List.getElem_toArray, List.getElem_cons_zero, List.getElem_cons_succ, Act.put, List.setIfInBounds_toArray, List.set_cons_zero, List.set_cons_succ]
          refine WA.take (i := 1) (v := .slice (some ⟨b, off, none⟩) na acap) rfl (by kernel_rfl) (by kernel_rfl) (by kernel_rfl) (fun _ _ _ h => h) (hdrop 1) (Or.inl ⟨by rfl, ?_⟩) (hS _) ?_
          · rintro w' ⟨L, hL, hSw, hun⟩
            go_simp
          simp only [List.getElem_toArray, List.getElem_cons_zero, List.getElem_cons_succ, Act.put, List.setIfInBounds_toArray, List.set_cons_zero, List.set_cons_succ]
          refine WA.take (i := 2) (v := .int .i64 ((k : Nat) : Int)) rfl (by kernel_rfl) (by kernel_rfl) (by kernel_rfl) (fun _ _ _ h => h) (hdrop 2) (Or.inl ⟨by rfl, ?_⟩) (hS _) ?_
          · rintro w' ⟨L, hL, hSw, hun⟩
            go_simp
          simp only [List.getElem_toArray, List.getElem_cons_zero, List.getElem_cons_succ, Act.put, List.setIfInBounds_toArray, List.set_cons_zero, List.set_cons_succ]
          refine WA.take (i := 3) (v := .pointer (some ⟨b, off + k * 2, none⟩)) rfl (by kernel_rfl) (by kernel_rfl) (by kernel_rfl) (fun _ _ _ h => h) (hdrop 3) (Or.inl ⟨by rfl, ?_⟩) (hS _) ?_
          · rintro w' ⟨L, hL, hSw, hun⟩
            go_simp
          simp only [List.getElem_toArray, List.getElem_cons_zero, List.getElem_cons_succ, Act.put, List.setIfInBounds_toArray, List.set_cons_zero, List.set_cons_succ]
          refine WA.take (i := 4) (v := .pointer (some ⟨b, off + k * 2, none⟩)) rfl (by kernel_rfl) (by kernel_rfl) (by kernel_rfl) (fun _ _ _ h => h) (hdrop 4) (Or.inl ⟨by rfl, ?_⟩) (hS _) ?_
          · rintro w' ⟨L, hL, hSw, hun⟩
            go_simp
          simp only [List.getElem_toArray, List.getElem_cons_zero, List.getElem_cons_succ, Act.put, List.setIfInBounds_toArray, List.set_cons_zero, List.set_cons_succ]
          refine WA.take (i := 5) (v := .int .u32 x) rfl (by kernel_rfl) (by kernel_rfl) (by kernel_rfl) (fun _ _ _ h => h) (hdrop 5) (Or.inl ⟨by rfl, ?_⟩) (hS _) ?_
          · rintro w' ⟨L, hL, hSw, hun⟩
            have hbw := hSo hSw
            have cx := cell_later hbw cx
            clear hbw
            go_simp
          simp only [List.getElem_toArray, List.getElem_cons_zero, List.getElem_cons_succ, Act.put, List.setIfInBounds_toArray, List.set_cons_zero, List.set_cons_succ]
          refine WA.take (i := 6) (v := .slice (some ⟨b, off, none⟩) na acap) rfl (by kernel_rfl) (by kernel_rfl) (by kernel_rfl) (fun _ _ _ h => h) (hdrop 6) (Or.inl ⟨by rfl, ?_⟩) (hS _) ?_
          · rintro w' ⟨L, hL, hSw, hun⟩
            go_simp
          simp only [List.getElem_toArray, List.getElem_cons_zero, List.getElem_cons_succ, Act.put, List.setIfInBounds_toArray, List.set_cons_zero, List.set_cons_succ]
          refine WA.take (i := 7) (v := .int .i64 ((k : Nat) : Int)) rfl (by kernel_rfl) (by kernel_rfl) (by kernel_rfl) (fun _ _ _ h => h) (hdrop 7) (Or.inl ⟨by rfl, ?_⟩) (hS _) ?_
          · rintro w' ⟨L, hL, hSw, hun⟩
            go_simp
          simp only [List.getElem_toArray, List.getElem_cons_zero, List.getElem_cons_succ, Act.put, List.setIfInBounds_toArray, List.set_cons_zero, List.set_cons_succ]
          refine WA.take (i := 8) (v := .pointer (some ⟨b, off + k * 2, none⟩)) rfl (by kernel_rfl) (by kernel_rfl) (by kernel_rfl) (fun _ _ _ h => h) (hdrop 8) (Or.inl ⟨by rfl, ?_⟩) (hS _) ?_
          · rintro w' ⟨L, hL, hSw, hun⟩
            go_simp
          simp only [List.getElem_toArray, List.getElem_cons_zero, List.getElem_cons_succ, Act.put, List.setIfInBounds_toArray, List.set_cons_zero, List.set_cons_succ]
          refine WA.take (i := 9) (v := .pointer (some ⟨b, off + k * 2 + 1, none⟩)) rfl (by kernel_rfl) (by kernel_rfl) (by kernel_rfl) (fun _ _ _ h => h) (hdrop 9) (Or.inl ⟨by rfl, ?_⟩) (hS _) ?_
          · rintro w' ⟨L, hL, hSw, hun⟩
            go_simp
          simp only [List.getElem_toArray, List.getElem_cons_zero, List.getElem_cons_succ, Act.put, List.setIfInBounds_toArray, List.set_cons_zero, List.set_cons_succ]
          refine WA.take (i := 10) (v := .int .u32 y) rfl (by kernel_rfl) (by kernel_rfl) (by kernel_rfl) (fun _ _ _ h => h) (hdrop 10) (Or.inl ⟨by rfl, ?_⟩) (hS _) ?_
          · rintro w' ⟨L, hL, hSw, hun⟩
            have hbw := hSo hSw
            have cy := cell_later hbw cy
            clear hbw
            go_simp
          simp only [List.getElem_toArray, List.getElem_cons_zero, List.getElem_cons_succ, Act.put, List.setIfInBounds_toArray, List.set_cons_zero, List.set_cons_succ]
          refine WA.one (i := 11) (by kernel_rfl) rfl (by rfl) (fun K hK => ?_)
          go_simp
          refine (joinR_u (w := Y4) (J := Ja) (v := .slice jx xn xcap) (by rw [HY4.out]; exact HO4.out) (by have := Hxn.out; omega) HEa.out.nz x y).mono ?_
          rintro e w5 ⟨v5, was, J2, rfl, hO_, hB_, hw_⟩
          obtain ⟨ja2, jcap2, rfl, hj_⟩ := hO_.j
          have HO5 := Lib.hid hO_; have HB5 := Lib.hid hB_; have Hw5 := Lib.hid hw_
          clear hO_ hB_ hw_ hj_
          refine hK _ _ (hSi HB5.out _) ?_
          clear hK
          try simp only [List.getElem_toArray, List.getElem_cons_zero, List.getElem_cons_succ, Act.put, List.setIfInBounds_toArray, List.set_cons_zero, List.set_cons_succ]
          refine WA.take (i := 12) (v := .tuple #[.slice ja2 J2.length jcap2, .bool was]) rfl (by kernel_rfl) (by kernel_rfl) (by kernel_rfl) (fun _ _ _ h => h) (hdrop 12) (Or.inl ⟨by rfl, ?_⟩) (hSi HB5.out _) ?_
          · rintro w' ⟨L, hL, hSw, hun⟩
            go_simp
          simp only [List.getElem_toArray, List.getElem_cons_zero, List.getElem_cons_succ, Act.put, List.setIfInBounds_toArray, List.set_cons_zero, List.set_cons_succ]
          refine WA.take (i := 13) (v := .slice ja2 J2.length jcap2) rfl (by kernel_rfl) (by kernel_rfl) (by kernel_rfl) (fun _ _ _ h => h) (hdrop 13) (Or.inl ⟨by rfl, ?_⟩) (hSi HB5.out _) ?_
          · rintro w' ⟨L, hL, hSw, hun⟩
            go_simp
          simp only [List.getElem_toArray, List.getElem_cons_zero, List.getElem_cons_succ, Act.put, List.setIfInBounds_toArray, List.set_cons_zero, List.set_cons_succ]
          refine WA.take (i := 14) (v := .bool was) rfl (by kernel_rfl) (by kernel_rfl) (by kernel_rfl) (fun _ _ _ h => h) (hdrop 14) (Or.inl ⟨by rfl, ?_⟩) (hSi HB5.out _) ?_
          · rintro w' ⟨L, hL, hSw, hun⟩
            go_simp
          simp only [List.getElem_toArray, List.getElem_cons_zero, List.getElem_cons_succ, Act.put, List.setIfInBounds_toArray, List.set_cons_zero, List.set_cons_succ]
          refine WA.take (i := 15) (v := .slice ja2 J2.length jcap2) rfl (by kernel_rfl) (by kernel_rfl) (by kernel_rfl) (fun _ _ _ h => h) (hdrop 15) (Or.inl ⟨by rfl, ?_⟩) (hSi HB5.out _) ?_
          · rintro w' ⟨L, hL, hSw, hun⟩
            go_simp
          simp only [List.getElem_toArray, List.getElem_cons_zero, List.getElem_cons_succ, Act.put, List.setIfInBounds_toArray, List.set_cons_zero, List.set_cons_succ]
          refine WA.done (by kernel_rfl) ?_ _
          refine Nrm.normal ?_
          clear hSo hS hSi hdrop cx cy
          clear S9
          obtain ⟨hI5, hE5, h325, hJl5⟩ := pair_step HI4.out HEa.out H32a.out X32.out.1 X32.out.2 Hw5.out
          rw [Hxn.out] at hJl5
          have hb5 : Below wb.heap.size wb w5 := by
            have h1 : Below wb.heap.size wb Y4 := by rw [HY4.out]; exact (Below.refl _ _).drew
            exact h1.trans (HB5.out.mono h1.size)
          have HP5 := Lib.hid (HP4.out.below hb5)
          have HI5 := Lib.hid hI5; have HE5 := Lib.hid hE5; have H325 := Lib.hid h325
          have HT6 := Lib.hid (HTa.out.trans (HT5.out.trans (TnM.below hb5)))
          clear hI5 hE5 h325 hb5
          go_wp2_with fail
          go_roundw
          case rel => exact ⟨k + 1, fb, cb1, J2, by omega, by push_cast; rfl, HP5.out, HI5.out, HE5.out, H325.out, by omega, HO5.out, HT6.out⟩
          case measure => simp [intOf]; omega
        · have hdi : decide ((k : Int) < (na : Int)) = false := by simp; omega
          have hxl : xn ≤ 60 := by omega
          have hT := HTa.out
          have HPoa := Lib.hid (HPo7.out.turn HP7.out.objs.1 HP7.out.objs.2 hT Hne.out.1.1 Hne.out.1.2.1 Hne.out.1.2.2.1 Hne.out.1.2.2.2)
          have HQa := Lib.hid (HQ7.out.turn HP7.out.objs.1 HP7.out.objs.2 hT Hne.out.2.1.1 Hne.out.2.1.2.1 Hne.out.2.1.2.2.1 Hne.out.2.1.2.2.2)
          have HJa := Lib.hid (HJ7.out.turn HP7.out.objs.1 HP7.out.objs.2 hT)
          have Hvba := Lib.hid (hT.cells HP7.out Hvb7.out)
          have Hiba := Lib.hid (show Boxed wa ib 3 (.int .i64 (q : Int)) from hT.cells HP7.out Hib7.out)
          have Hjba := Lib.hid (show Boxed wa jb 36 (.slice ja jn jcap) from hT.cells HP7.out Hjb7.out)
          clear hT HP7 HPo7 HQ7 HJ7 Hvb7 Hib7 Hjb7 HB7 HTa hk hJla
          go_wp2_with fail
          go_loopw [14, 16] (fun ux u wz => ∃ (i : Nat) (fo : Int → Option Int) (co : Int → Option (List Int)) (Jo : Jn), i ≤ nb ∧ u = .int .i64 i ∧ IsP wz ob of oc fo co ∧ PInv Jo fo co ∧ Eff Jo ∧ (∀ p ∈ Jo, is32 p.1 ∧ is32 p.2) ∧ Jo.length ≤ 30 + i ∧ OwnJ 0 wz ux Jo ∧ TnM wa wz of oc) (fun _ u _ => nb - (intOf u).toNat)
          case atStart => exact ⟨0, f, c, J, by omega, rfl, HPoa.out, HI.out, HE.out, H32.out, by have := Hjn.out; omega, HJa.out, TnM.refl _ _ _⟩
          case round =>
            rename World => wo
            obtain ⟨l, fo, co, Jo, hl, rfl, hPo, hIo, hEo, h32o, hJlo, hOo, hTo⟩ := hrel
            have HPo := Lib.hid hPo; have HIo := Lib.hid hIo; have HEo := Lib.hid hEo; have H32o := Lib.hid h32o; have HOo := Lib.hid hOo; have HTo := Lib.hid hTo
            have HBo := Lib.hid (HBa.out.trans (hTo.lower Hne.out.2.2.2.1 Hne.out.2.2.2.2.1 HBa.out.size))
            obtain ⟨jy, ycap, rfl, _⟩ := hOo.j
            obtain ⟨yn, hyn⟩ : ∃ yn, Jo.length = yn := ⟨_, rfl⟩
            rw [hyn] at HOo hJlo ⊢
            have Hyn := Lib.hid hyn
            clear hPo hIo hEo h32o hOo hTo hyn
            by_cases hil : l < nb
            · have hdl : decide ((l : Int) < (nb : Int)) = true := by simp; omega
              have hiJ : l < B0.length := by have := Hnb.out; omega
              obtain ⟨x, hx⟩ : ∃ x, B0[l].1 = x := ⟨_, rfl⟩
              obtain ⟨y, hy⟩ : ∃ y, B0[l].2 = y := ⟨_, rfl⟩
              obtain ⟨b, off, rfl, hbl, cx, cy⟩ := Hb.out.below (HA1.out.trans (HBo.out.mono HA1.out.size)) l hiJ
              rw [hx] at cx
              rw [hy] at cy
              have x32 : is32 x ∧ is32 y := by rw [← hx, ← hy]; exact HBb.out _ (List.getElem_mem hiJ)
              have hcs : ∀ W, Below w.heap.size w W → W.cell? ⟨b, off + l * 2, none⟩ = some (.int .u32 x) ∧ W.cell? ⟨b, off + l * 2 + 1, none⟩ = some (.int .u32 y) := fun W hW => by
                obtain ⟨b', off', e, _, k1, k2⟩ := Hb.out.below hW l hiJ
                simp at e
                obtain ⟨rfl, rfl⟩ := e
                rw [hx] at k1
                rw [hy] at k2
                exact ⟨k1, k2⟩
              have X32 := Lib.hid x32; have Hcs := Lib.hid hcs
              clear x32 hx hy hbl hcs
              go_wp2_with fail
              have cx : wo.drew.cell? ⟨b, off + l * 2, none⟩ = some (.int .u32 x) := cx
              have cy : wo.drew.cell? ⟨b, off + l * 2 + 1, none⟩ = some (.int .u32 y) := cy
              obtain ⟨S8, hSe⟩ : ∃ S : Array Bool → World → Prop, S = fun L w' => L.getD 11 true = false → w' = wo.drew := ⟨_, rfl⟩
              have hdrop : ∀ i, i ≠ 11 → ∀ L w', S8 (L.setIfInBounds i true) w' → S8 L w' := by
                intro i hi L w'
                rw [hSe]
                intro h hl
                exact h (by rw [getD_set_ne true hi]; exact hl)
              have hS : ∀ L, S8 L wo.drew := by intro L; rw [hSe]; exact fun _ => rfl
              have hSo : ∀ {L w'}, S8 L w' → L.getD 11 true = false → w' = wo.drew := by intro L w' h hl; rw [hSe] at h; exact h hl
              have hSd : ∀ (L : Array Bool) X, L.getD 11 true = true → S8 L X := by
                intro L X h; rw [hSe]; intro h1; rw [h] at h1; cases h1
              clear hSe
              refine wp_region_LN S8 12 #[false, false, false, false, false, false, false, false, false, false, false, false] (by kernel_rfl) (by kernel_rfl) rfl ?_
              obtain ⟨Y5, hY5⟩ : ∃ Y5, Y5 = wo.drew := ⟨_, rfl⟩
              rw [← hY5] at cx cy hSo hS ⊢
              have HY5 := Lib.hid hY5
              clear hY5
              refine WA.take (i := 0) (v := .pointer (some ⟨ob, 0, none⟩)) rfl (by kernel_rfl) (by kernel_rfl) (by kernel_rfl) (fun _ _ _ h => h) (hdrop 0 (by decide)) (Or.inl ⟨by rfl, ?_⟩) (hS _) ?_
              · rintro w' ⟨L, hL, hSw, hun⟩
                go_simp
              simp only [List.getElem_toArray, List.getElem_cons_zero, List.getElem_cons_succ, Act.put, List.setIfInBounds_toArray, List.set_cons_zero, List.set_cons_succ]
              refine WA.take (i := 1) (v := .slice (some ⟨b, off, none⟩) nb bcap) rfl (by kernel_rfl) (by kernel_rfl) (by kernel_rfl) (fun _ _ _ h => h) (hdrop 1 (by decide)) (Or.inl ⟨by rfl, ?_⟩) (hS _) ?_
              · rintro w' ⟨L, hL, hSw, hun⟩
                go_simp
              simp only [List.getElem_toArray, List.getElem_cons_zero, List.getElem_cons_succ, Act.put, List.setIfInBounds_toArray, List.set_cons_zero, List.set_cons_succ]
              refine WA.take (i := 2) (v := .int .i64 ((l : Nat) : Int)) rfl (by kernel_rfl) (by kernel_rfl) (by kernel_rfl) (fun _ _ _ h => h) (hdrop 2 (by decide)) (Or.inl ⟨by rfl, ?_⟩) (hS _) ?_
              · rintro w' ⟨L, hL, hSw, hun⟩
                go_simp
              simp only [List.getElem_toArray, List.getElem_cons_zero, List.getElem_cons_succ, Act.put, List.setIfInBounds_toArray, List.set_cons_zero, List.set_cons_succ]
              refine WA.take (i := 3) (v := .pointer (some ⟨b, off + l * 2, none⟩)) rfl (by kernel_rfl) (by kernel_rfl) (by kernel_rfl) (fun _ _ _ h => h) (hdrop 3 (by decide)) (Or.inl ⟨by rfl, ?_⟩) (hS _) ?_
              · rintro w' ⟨L, hL, hSw, hun⟩
                go_simp
              simp only [List.getElem_toArray, List.getElem_cons_zero, List.getElem_cons_succ, Act.put, List.setIfInBounds_toArray, List.set_cons_zero, List.set_cons_succ]
              refine WA.take (i := 4) (v := .pointer (some ⟨b, off + l * 2, none⟩)) rfl (by kernel_rfl) (by kernel_rfl) (by kernel_rfl) (fun _ _ _ h => h) (hdrop 4 (by decide)) (Or.inl ⟨by rfl, ?_⟩) (hS _) ?_
              · rintro w' ⟨L, hL, hSw, hun⟩
                go_simp
              simp only [List.getElem_toArray, List.getElem_cons_zero, List.getElem_cons_succ, Act.put, List.setIfInBounds_toArray, List.set_cons_zero, List.set_cons_succ]
              refine WA.take (i := 5) (v := .int .u32 x) rfl (by kernel_rfl) (by kernel_rfl) (by kernel_rfl) (fun _ _ _ h => h) (hdrop 5 (by decide)) (Or.inl ⟨by rfl, ?_⟩) (hS _) ?_
              · rintro w' ⟨L, hL, hSw, hun⟩
                obtain rfl := hSo hSw (hL.wait 11 5 (by kernel_rfl) hun)
                go_simp
              simp only [List.getElem_toArray, List.getElem_cons_zero, List.getElem_cons_succ, Act.put, List.setIfInBounds_toArray, List.set_cons_zero, List.set_cons_succ]
              refine WA.take (i := 6) (v := .slice (some ⟨b, off, none⟩) nb bcap) rfl (by kernel_rfl) (by kernel_rfl) (by kernel_rfl) (fun _ _ _ h => h) (hdrop 6 (by decide)) (Or.inl ⟨by rfl, ?_⟩) (hS _) ?_
              · rintro w' ⟨L, hL, hSw, hun⟩
                go_simp
              simp only [List.getElem_toArray, List.getElem_cons_zero, List.getElem_cons_succ, Act.put, List.setIfInBounds_toArray, List.set_cons_zero, List.set_cons_succ]
              refine WA.take (i := 7) (v := .int .i64 ((l : Nat) : Int)) rfl (by kernel_rfl) (by kernel_rfl) (by kernel_rfl) (fun _ _ _ h => h) (hdrop 7 (by decide)) (Or.inl ⟨by rfl, ?_⟩) (hS _) ?_
              · rintro w' ⟨L, hL, hSw, hun⟩
                go_simp
              simp only [List.getElem_toArray, List.getElem_cons_zero, List.getElem_cons_succ, Act.put, List.setIfInBounds_toArray, List.set_cons_zero, List.set_cons_succ]
              refine WA.take (i := 8) (v := .pointer (some ⟨b, off + l * 2, none⟩)) rfl (by kernel_rfl) (by kernel_rfl) (by kernel_rfl) (fun _ _ _ h => h) (hdrop 8 (by decide)) (Or.inl ⟨by rfl, ?_⟩) (hS _) ?_
              · rintro w' ⟨L, hL, hSw, hun⟩
                go_simp
              simp only [List.getElem_toArray, List.getElem_cons_zero, List.getElem_cons_succ, Act.put, List.setIfInBounds_toArray, List.set_cons_zero, List.set_cons_succ]
              refine WA.take (i := 9) (v := .pointer (some ⟨b, off + l * 2 + 1, none⟩)) rfl (by kernel_rfl) (by kernel_rfl) (by kernel_rfl) (fun _ _ _ h => h) (hdrop 9 (by decide)) (Or.inl ⟨by rfl, ?_⟩) (hS _) ?_
              · rintro w' ⟨L, hL, hSw, hun⟩
                go_simp
              simp only [List.getElem_toArray, List.getElem_cons_zero, List.getElem_cons_succ, Act.put, List.setIfInBounds_toArray, List.set_cons_zero, List.set_cons_succ]
              refine WA.take (i := 10) (v := .int .u32 y) rfl (by kernel_rfl) (by kernel_rfl) (by kernel_rfl) (fun _ _ _ h => h) (hdrop 10 (by decide)) (Or.inl ⟨by rfl, ?_⟩) (hS _) ?_
              · rintro w' ⟨L, hL, hSw, hun⟩
                obtain rfl := hSo hSw (hL.wait 11 10 (by kernel_rfl) hun)
                go_simp
              simp only [List.getElem_toArray, List.getElem_cons_zero, List.getElem_cons_succ, Act.put, List.setIfInBounds_toArray, List.set_cons_zero, List.set_cons_succ]
              refine WA.one (i := 11) (by kernel_rfl) rfl (by rfl) (fun K hK => ?_)
              go_simp
              refine (joinP_u (w := Y5) (by rw [HY5.out]; exact HPo.out.below (Below.refl _ _).drew) HIo.out H32o.out (by have := Hyn.out; omega) X32.out.1 X32.out.2).mono ?_
              rintro e wb ⟨r1, two1, fb, cb1, rfl, hP_, hI_, hT_, _⟩
              have HP4 := Lib.hid hP_; have HI4 := Lib.hid hI_; have HT4 := Lib.hid hT_
              clear hP_ hI_ hT_
              refine hK _ _ (hSd _ _ (by rfl)) ?_
              clear hK
              try simp only [List.getElem_toArray, List.getElem_cons_zero, List.getElem_cons_succ, Act.put, List.setIfInBounds_toArray, List.set_cons_zero, List.set_cons_succ]
              refine WA.done (by kernel_rfl) ?_ _
              refine Nrm.normal ?_
              clear hSo hS hSd hdrop cx cy
              clear S8
              have hT5 : TnM wo wb of oc := (TnM.below (by rw [HY5.out]; exact (Below.refl _ _).drew)).trans HT4.out
              have HB4 := Lib.hid (HBo.out.trans (hT5.lower Hne.out.2.2.2.1 Hne.out.2.2.2.2.1 HBo.out.size))
              have HO4 := Lib.hid (OwnJ.turn HOo.out HPo.out.objs.1 HPo.out.objs.2 hT5)
              obtain ⟨cx, cy⟩ := Hcs.out wb (HA1.out.trans (HB4.out.mono HA1.out.size))
              have HT5 := Lib.hid hT5
              clear hT5 HT4
              go_wp2_with fail
              have cx : wb.drew.cell? ⟨b, off + l * 2, none⟩ = some (.int .u32 x) := cx
              have cy : wb.drew.cell? ⟨b, off + l * 2 + 1, none⟩ = some (.int .u32 y) := cy
              obtain ⟨S9, hSe⟩ : ∃ S : Array Bool → World → Prop, S = fun _ w' => Below wb.drew.heap.size wb.drew w' := ⟨_, rfl⟩
              have hdrop : ∀ i : Nat, ∀ L w', S9 (L.setIfInBounds i true) w' → S9 L w' := by
                intro i L w' h; rw [hSe] at h ⊢; exact h
              have hS : ∀ L, S9 L wb.drew := by intro L; rw [hSe]; exact Below.refl _ _
              have hSo : ∀ {L w'}, S9 L w' → Below wb.drew.heap.size wb.drew w' := by intro L w' h; rw [hSe] at h; exact h
              have hSi : ∀ {w'}, Below wb.drew.heap.size wb.drew w' → ∀ L, S9 L w' := by intro w' h L; rw [hSe]; exact h
              clear hSe
              refine wp_region_LN S9 16 #[false, false, false, false, false, false, false, false, false, false, false, false, false, false, false, false] (by kernel_rfl) (by kernel_rfl) rfl ?_
              obtain ⟨Y6, hY6⟩ : ∃ Y6, Y6 = wb.drew := ⟨_, rfl⟩
              rw [← hY6] at cx cy hSo hS hSi ⊢
              have HY6 := Lib.hid hY6
              clear hY6
              refine WA.take (i := 0) (v := .slice jy yn ycap) rfl (by kernel_rfl) (by kernel_rfl) (by kernel_rfl) (fun _ _ _ h => h) (hdrop 0) (Or.inl ⟨by rfl, ?_⟩) (hS _) ?_
              · rintro w' ⟨L, hL, hSw, hun⟩
                go_simp
              simp only [List.getElem_toArray, List.getElem_cons_zero, List.getElem_cons_succ, Act.put, List.setIfInBounds_toArray, List.set_cons_zero, List.set_cons_succ]
              refine WA.take (i := 1) (v := .slice (some ⟨b, off, none⟩) nb bcap) rfl (by kernel_rfl) (by kernel_rfl) (by kernel_rfl) (fun _ _ _ h => h) (hdrop 1) (Or.inl ⟨by rfl, ?_⟩) (hS _) ?_
              · rintro w' ⟨L, hL, hSw, hun⟩
                go_simp
              simp only [List.getElem_toArray, List.getElem_cons_zero, List.getElem_cons_succ, Act.put, List.setIfInBounds_toArray, List.set_cons_zero, List.set_cons_succ]
              refine WA.take (i := 2) (v := .int .i64 ((l : Nat) : Int)) rfl (by kernel_rfl) (by kernel_rfl) (by kernel_rfl) (fun _ _ _ h => h) (hdrop 2) (Or.inl ⟨by rfl, ?_⟩) (hS _) ?_
              · rintro w' ⟨L, hL, hSw, hun⟩
                go_simp
              simp only [List.getElem_toArray, List.getElem_cons_zero, List.getElem_cons_succ, Act.put, List.setIfInBounds_toArray, List.set_cons_zero, List.set_cons_succ]
              refine WA.take (i := 3) (v := .pointer (some ⟨b, off + l * 2, none⟩)) rfl (by kernel_rfl) (by kernel_rfl) (by kernel_rfl) (fun _ _ _ h => h) (hdrop 3) (Or.inl ⟨by rfl, ?_⟩) (hS _) ?_
              · rintro w' ⟨L, hL, hSw, hun⟩
                go_simp
              simp only [List.getElem_toArray, List.getElem_cons_zero, List.getElem_cons_succ, Act.put, List.setIfInBounds_toArray, List.set_cons_zero, List.set_cons_succ]
              refine WA.take (i := 4) (v := .pointer (some ⟨b, off + l * 2, none⟩)) rfl (by kernel_rfl) (by kernel_rfl) (by kernel_rfl) (fun _ _ _ h => h) (hdrop 4) (Or.inl ⟨by rfl, ?_⟩) (hS _) ?_
              · rintro w' ⟨L, hL, hSw, hun⟩
                go_simp
              simp only [List.getElem_toArray, List.getElem_cons_zero, List.getElem_cons_succ, Act.put, List.setIfInBounds_toArray, List.set_cons_zero, List.set_cons_succ]
              refine WA.take (i := 5) (v := .int .u32 x) rfl (by kernel_rfl) (by kernel_rfl) (by kernel_rfl) (fun _ _ _ h => h) (hdrop 5) (Or.inl ⟨by rfl, ?_⟩) (hS _) ?_
              · rintro w' ⟨L, hL, hSw, hun⟩
                have hbw := hSo hSw
                have cx := cell_later hbw cx
                clear hbw
                go_simp
              simp only [List.getElem_toArray, List.getElem_cons_zero, List.getElem_cons_succ, Act.put, List.setIfInBounds_toArray, List.set_cons_zero, List.set_cons_succ]
              refine WA.take (i := 6) (v := .slice (some ⟨b, off, none⟩) nb bcap) rfl (by kernel_rfl) (by kernel_rfl) (by kernel_rfl) (fun _ _ _ h => h) (hdrop 6) (Or.inl ⟨by rfl, ?_⟩) (hS _) ?_
              · rintro w' ⟨L, hL, hSw, hun⟩
                go_simp
              simp only [List.getElem_toArray, List.getElem_cons_zero, List.getElem_cons_succ, Act.put, List.setIfInBounds_toArray, List.set_cons_zero, List.set_cons_succ]
              refine WA.take (i := 7) (v := .int .i64 ((l : Nat) : Int)) rfl (by kernel_rfl) (by kernel_rfl) (by kernel_rfl) (fun _ _ _ h => h) (hdrop 7) (Or.inl ⟨by rfl, ?_⟩) (hS _) ?_
              · rintro w' ⟨L, hL, hSw, hun⟩
                go_simp
              simp only [List.getElem_toArray, List.getElem_cons_zero, List.getElem_cons_succ, Act.put, List.setIfInBounds_toArray, List.set_cons_zero, List.set_cons_succ]
              refine WA.take (i := 8) (v := .pointer (some ⟨b, off + l * 2, none⟩)) rfl (by kernel_rfl) (by kernel_rfl) (by kernel_rfl) (fun _ _ _ h => h) (hdrop 8) (Or.inl ⟨by rfl, ?_⟩) (hS _) ?_
              · rintro w' ⟨L, hL, hSw, hun⟩
                go_simp
              simp only [List.getElem_toArray, List.getElem_cons_zero, List.getElem_cons_succ, Act.put, List.setIfInBounds_toArray, List.set_cons_zero, List.set_cons_succ]
              refine WA.take (i := 9) (v := .pointer (some ⟨b, off + l * 2 + 1, none⟩)) rfl (by kernel_rfl) (by kernel_rfl) (by kernel_rfl) (fun _ _ _ h => h) (hdrop 9) (Or.inl ⟨by rfl, ?_⟩) (hS _) ?_
              · rintro w' ⟨L, hL, hSw, hun⟩
                go_simp
              simp only [List.getElem_toArray, List.getElem_cons_zero, List.getElem_cons_succ, Act.put, List.setIfInBounds_toArray, List.set_cons_zero, List.set_cons_succ]
              refine WA.take (i := 10) (v := .int .u32 y) rfl (by kernel_rfl) (by kernel_rfl) (by kernel_rfl) (fun _ _ _ h => h) (hdrop 10) (Or.inl ⟨by rfl, ?_⟩) (hS _) ?_
              · rintro w' ⟨L, hL, hSw, hun⟩
                have hbw := hSo hSw
                have cy := cell_later hbw cy
                clear hbw
                go_simp
              simp only [List.getElem_toArray, List.getElem_cons_zero, List.getElem_cons_succ, Act.put, List.setIfInBounds_toArray, List.set_cons_zero, List.set_cons_succ]
              refine WA.one (i := 11) (by kernel_rfl) rfl (by rfl) (fun K hK => ?_)
              go_simp
              refine (joinR_u (w := Y6) (J := Jo) (v := .slice jy yn ycap) (by rw [HY6.out]; exact HO4.out) (by have := Hyn.out; omega) HEo.out.nz x y).mono ?_
              rintro e w5 ⟨v5, was, J2, rfl, hO_, hB_, hw_⟩
              obtain ⟨ja2, jcap2, rfl, hj_⟩ := hO_.j
              have HO5 := Lib.hid hO_; have HB5 := Lib.hid hB_; have Hw5 := Lib.hid hw_
              clear hO_ hB_ hw_ hj_
              refine hK _ _ (hSi HB5.out _) ?_
              clear hK
              try simp only [List.getElem_toArray, List.getElem_cons_zero, List.getElem_cons_succ, Act.put, List.setIfInBounds_toArray, List.set_cons_zero, List.set_cons_succ]
              refine WA.take (i := 12) (v := .tuple #[.slice ja2 J2.length jcap2, .bool was]) rfl (by kernel_rfl) (by kernel_rfl) (by kernel_rfl) (fun _ _ _ h => h) (hdrop 12) (Or.inl ⟨by rfl, ?_⟩) (hSi HB5.out _) ?_
              · rintro w' ⟨L, hL, hSw, hun⟩
                go_simp
              simp only [List.getElem_toArray, List.getElem_cons_zero, List.getElem_cons_succ, Act.put, List.setIfInBounds_toArray, List.set_cons_zero, List.set_cons_succ]
              refine WA.take (i := 13) (v := .slice ja2 J2.length jcap2) rfl (by kernel_rfl) (by kernel_rfl) (by kernel_rfl) (fun _ _ _ h => h) (hdrop 13) (Or.inl ⟨by rfl, ?_⟩) (hSi HB5.out _) ?_
              · rintro w' ⟨L, hL, hSw, hun⟩
                go_simp
              simp only [List.getElem_toArray, List.getElem_cons_zero, List.getElem_cons_succ, Act.put, List.setIfInBounds_toArray, List.set_cons_zero, List.set_cons_succ]
              refine WA.take (i := 14) (v := .bool was) rfl (by kernel_rfl) (by kernel_rfl) (by kernel_rfl) (fun _ _ _ h => h) (hdrop 14) (Or.inl ⟨by rfl, ?_⟩) (hSi HB5.out _) ?_
              · rintro w' ⟨L, hL, hSw, hun⟩
                go_simp
              simp only [List.getElem_toArray, List.getElem_cons_zero, List.getElem_cons_succ, Act.put, List.setIfInBounds_toArray, List.set_cons_zero, List.set_cons_succ]
              refine WA.take (i := 15) (v := .slice ja2 J2.length jcap2) rfl (by kernel_rfl) (by kernel_rfl) (by kernel_rfl) (fun _ _ _ h => h) (hdrop 15) (Or.inl ⟨by rfl, ?_⟩) (hSi HB5.out _) ?_
              · rintro w' ⟨L, hL, hSw, hun⟩
                go_simp
              simp only [List.getElem_toArray, List.getElem_cons_zero, List.getElem_cons_succ, Act.put, List.setIfInBounds_toArray, List.set_cons_zero, List.set_cons_succ]
              refine WA.done (by kernel_rfl) ?_ _
              refine Nrm.normal ?_
              clear hSo hS hSi hdrop cx cy
              clear S9
              obtain ⟨hI5, hE5, h325, hJl5⟩ := pair_step HI4.out HEo.out H32o.out X32.out.1 X32.out.2 Hw5.out
              rw [Hyn.out] at hJl5
              have hb5 : Below wb.heap.size wb w5 := by
                have h1 : Below wb.heap.size wb Y6 := by rw [HY6.out]; exact (Below.refl _ _).drew
                exact h1.trans (HB5.out.mono h1.size)
              have HP5 := Lib.hid (HP4.out.below hb5)
              have HI5 := Lib.hid hI5; have HE5 := Lib.hid hE5; have H325 := Lib.hid h325
              have HT6 := Lib.hid (HTo.out.trans (HT5.out.trans (TnM.below hb5)))
              clear hI5 hE5 h325 hb5
              go_wp2_with fail
              go_roundw
              case rel => exact ⟨l + 1, fb, cb1, J2, by omega, by push_cast; rfl, HP5.out, HI5.out, HE5.out, H325.out, by omega, HO5.out, HT6.out⟩
              case measure => simp [intOf]; omega
            · have hdl : decide ((l : Int) < (nb : Int)) = false := by simp; omega
              have hyl : yn ≤ 60 := by omega
              have hT := HTo.out
              have HPb := Lib.hid (HPa.out.turn HPoa.out.objs.1 HPoa.out.objs.2 hT (Ne.symm Hne.out.1.1) (Ne.symm Hne.out.1.2.2.1) (Ne.symm Hne.out.1.2.1) (Ne.symm Hne.out.1.2.2.2))
              have HQb := Lib.hid (HQa.out.turn HPoa.out.objs.1 HPoa.out.objs.2 hT Hne.out.2.2.1.1 Hne.out.2.2.1.2.1 Hne.out.2.2.1.2.2.1 Hne.out.2.2.1.2.2.2)
              have HJb := Lib.hid (HJa.out.turn HPoa.out.objs.1 HPoa.out.objs.2 hT)
              have HXb := Lib.hid (HOa.out.turn HPoa.out.objs.1 HPoa.out.objs.2 hT)
              have Hvbb := Lib.hid (hT.cells HPoa.out Hvba.out)
              have Hibb := Lib.hid (show Boxed wo ib 3 (.int .i64 (q : Int)) from hT.cells HPoa.out Hiba.out)
              have Hjbb := Lib.hid (show Boxed wo jb 36 (.slice ja jn jcap) from hT.cells HPoa.out Hjba.out)
              have hRes := CR.out wo HBo.out
              have hgt : w.heap.size < wo.heap.size ∧ jb < wo.heap.size ∧ ib < wo.heap.size ∧ w.heap.size ≠ ib ∧ jb ≠ ib ∧ W2.heap.size = w.heap.size + 1 := by
                have hs := Hne.out.2.2.2.2.2
                have ha := HA2.out
                refine ⟨lt_of_heap hRes, Hjbb.out.lt, Hibb.out.lt, by omega, fun e => ?_, ha⟩
                have h1 := Hibb.out
                rw [← e] at h1
                have h2 := (show wo.heap[jb]? = some (.cells #[.int .i64 (q : Int)] 3 (0, 0)) from h1).symm.trans (show wo.heap[jb]? = some (.cells #[.slice ja jn jcap] 36 (0, 0)) from Hjbb.out)
                injection h2 with h2
                injection h2 with _ e2 _
                exact absurd e2 (by decide)
              have HRes := Lib.hid hRes; have Hgt := Lib.hid hgt
              clear hT hRes hgt HTo hl hJlo
              clear HPoa HQa HJa HOa HPa Hvba Hiba Hjba HBa
              go_upto_block 6 with fail
              refine (wpIn_wide (n := 9)).1 ?_
              have hfn : ∀ k, Fence.wide.fn k := fun _ => trivial
              have hseq := all1_seq2 (B := ib) (ib := ib) Hvbb.out HQb.out HI.out H32.out (by have := Hjn.out; omega) HK1.out HK3.out (Nat.le_refl _) Hlt.out Hibb.out
              have Hseq := Lib.hid hseq
              clear hseq
              refine wpIn_block (wpIn_rangeFunc_Y (w := wo) (wt := wo) rfl (enters_of Try.func26 (by kernel_rfl) rfl) Hseq.out (by have := Hgt.out.2.2.1; omega) (Below.refl _ _) (fun _ => rfl) KpI.t
                (fun V l o o' hl ho hc => KpI.b (by have := Hgt.out.2.2.1; omega) V l o o' hl ho hc)
                (fun pre x V l o o' hy hl ho hc => ⟨hy.1, by obtain ⟨L, h1, h2⟩ := hy.2; exact ⟨L, h1.stay (fun i cur hi => World.putObj_heap_other (fun e => by subst e; rw [ho] at hi; injection hi with hi; subst hi; cases hc)), h2⟩⟩)
                (fun pre V => RunB wo ib ((q : Int) - (pre.length : Nat)) V) (fun pre A B h hg => h.grow hg) (fun pre V l o o' h hw hl hc => h.put hw o')
                ⟨Nat.le_refl _, rfl, rfl, rfl, fun i _ _ => rfl, Hgt.out.2.2.1, by have h : wo.heap[ib]? = some (.cells #[.int .i64 (q : Int)] 3 (0, 0)) := Hibb.out; simpa using h⟩
                (fun t x => (((t.setIfInBounds 144 (.int .u32 x.1)).setIfInBounds 145 x.2).setIfInBounds 17 (.int .u32 x.1)).setIfInBounds 18 x.2) ?assign ?body ?fin)
              case assign =>
                rintro lnn pre ⟨r, rv⟩ V K ⟨_, L, hO, _⟩ hK
                obtain ⟨sr, cr, hrv, _⟩ := hO.u
                simp only at hrv
                subst hrv
                have HK := Lib.hid hK
                clear hK hO
                gi_wp2
                exact HK.out
              case body =>
                rintro lnn pre ⟨r, rv⟩ V hR ⟨hpx, L, hO, hL⟩ hV2
                obtain ⟨sr, cr, hrv, _, _, hUr⟩ := hO.u
                simp only at hrv hpx hL
                subst hrv
                have hFr := prefix_at hpx
                obtain ⟨pl, hpl⟩ : ∃ pl, pre.length = pl := ⟨_, rfl⟩
                rw [hpl] at hFr
                obtain ⟨hplF, hFr2⟩ := List.getElem?_eq_some_iff.1 hFr
                have hrk := (HK3.out r).1 (List.mem_of_getElem? hFr)
                have r0 := (HE.out.other hrk.nums).1
                have hcI := box_at hR.box rfl
                rw [hpl] at hcI
                obtain ⟨cI, fI⟩ := hcI
                have c8 : V.cell? ⟨jb, 0, none⟩ = some (.slice ja jn jcap) := (box_at ((hR.low jb Hgt.out.2.1 Hgt.out.2.2.2.2.1).trans Hjbb.out) rfl).1
                have hplq : pl < q := by rw [← HK2.out]; exact hplF
                have hJV : OwnJ 0 V (.slice ja jn jcap) J := HJb.out.but Hibb.out (by decide) hR.low
                have hcq := cliqueR_u hJV.at' jcap (by have := Hjn.out; omega) HE.out.nz r r0
                rw [Hjn.out] at hcq
                obtain ⟨ln, hln⟩ : ∃ ln, L.length = ln := ⟨_, rfl⟩
                have HR := Lib.hid hR; have HUr := Lib.hid hUr; have HLr := Lib.hid (hL.2 r0); have Hln := Lib.hid hln; have R0 := Lib.hid r0; have Hpl := Lib.hid hpl; have Hcq := Lib.hid hcq
                have hLlen := hL.len
                rw [Hjn.out, hln] at hLlen
                rw [hln]
                clear hR hUr hpl hpx hFr hFr2 hrk r0 hO hL hln hJV hcq
                gi_wp2_with fail
                refine (CallsIn.inRound lnn (callsIn_wide.2 Hcq.out)).mono ?_
                rintro e w31 ⟨v31, L2, rfl, hO, hI, hB⟩
                obtain ⟨s31, cap31, rfl, _, _, hU31⟩ := hO.u
                have hLL : L = L2 := HLr.out.unique hI
                have heq := equal_u sr s31 cr cap31 L L2 (HUr.out.below hB) hU31 (by have := Hln.out; omega)
                rw [decide_eq_true hLL, Hln.out] at heq
                have Heq := Lib.hid heq; have HB31 := Lib.hid hB
                clear hO hI hB hU31 hLL heq
                gi_wp2_with fail
                refine (CallsIn.inRound lnn (callsIn_wide.2 Heq.out)).mono ?_
                rintro e w32 ⟨rfl, hB32⟩
                have HB32 := Lib.hid (HB31.out.trans (hB32.mono HB31.out.size))
                have hR32 := HR.out.grow HB32.out
                obtain ⟨cI2, fI2⟩ := box_at hR32.box rfl
                rw [Hpl.out] at cI2
                have HR32 := Lib.hid hR32
                clear hB32 hR32 cI fI
                gi_wp2_with fail
                have hst := HR.out.step ((BodB.below HB32.out).set (j := 0) (.int .i64 ((q : Int) - (pl : Int) - 1))) (m := (q : Int) - (pl : Int) - 1) (Boxed.set _ HR32.out.box) ib
                refine ⟨hst.1, hst.2.1, ?_⟩
                show RunB wo ib ((q : Int) - (((pre ++ [(r, Value.slice sr ln cr)]).length : Nat) : Int)) _
                have e : (q : Int) - (((pre ++ [(r, Value.slice sr ln cr)]).length : Nat) : Int) = (q : Int) - (pl : Int) - 1 := by
                  rw [List.length_append, List.length_singleton, Hpl.out]
                  push_cast
                  omega
                rw [e]
                exact hst.2.2
              case fin =>
                rintro D1 pre V hD hp hR hdef
                have hplq : pre.length = q := by rw [← HK2.out, ← hp, List.length_map]
                have hbx := hR.box
                rw [hplq, show (q : Int) - ((q : Nat) : Int) = 0 by omega] at hbx
                obtain ⟨cI, fI⟩ := box_at hbx rfl
                have hVB : Below W2.heap.size wo V := ⟨hR.os, hR.tape, hR.output, hR.size, fun i hi => hR.low i (by have := Hgt.out; omega) (by have := Hne.out.2.2.2.2.2; omega)⟩
                have HVB := Lib.hid (HBo.out.trans hVB)
                have HPv := Lib.hid (HPb.out.but Hibb.out (by decide) (by decide) hR.low)
                have HOv := Lib.hid (HPo.out.but Hibb.out (by decide) (by decide) hR.low)
                have HXv := Lib.hid (HXb.out.but Hibb.out (by decide) hR.low)
                have HYv := Lib.hid (HOo.out.but Hibb.out (by decide) hR.low)
                have HD := Lib.hid hD; have Hdef := Lib.hid hdef
                clear hD hp hR hdef hbx hplq hVB
                go_wp2_with fail
                refine (same_u HPv.out HXv.out HIa.out HEa.out H32a.out (by have := Hxn.out; omega)).mono ?_
                rintro e w41 ⟨rfl, hB41⟩
                have HB41 := Lib.hid hB41
                clear hB41
                go_wp2_with fail
                refine (same_u (HOv.out.below HB41.out) (HYv.out.below rfl HB41.out) HIo.out HEo.out H32o.out (by have := Hyn.out; omega)).mono ?_
                rintro e w42 ⟨rfl, hB42⟩
                have HB42 := Lib.hid (HB41.out.trans (hB42.mono HB41.out.size))
                clear hB42
                go_wp2_with fail
                refine (known_u w42).mono ?_
                rintro e w43 ⟨rfl, hB43⟩
                have HB43 := Lib.hid (HB42.out.trans (hB43.mono HB42.out.size))
                have HBE := Lib.hid (HVB.out.trans (HB43.out.mono HVB.out.size))
                clear hB43
                obtain ⟨cR, fR⟩ := box_at (CR.out w43 HBE.out) rfl
                go_wp2_with fail
                refine EndE.out _ [D1] _ rfl rfl (by simp) (fun D hD => ?_) (Early.out w43 HBE.out).2 (Early.out w43 HBE.out).1
                rw [List.mem_singleton] at hD
                subst hD
                have h1 := HD.out
                have h2 := Hgt.out.1
                refine ⟨by omega, ?_⟩
                exact (Below.heap_setCell w43 ⟨w.heap.size, 0, none⟩ _ D (by simp; omega)).trans ((HB43.out.block D (lt_of_heap Hdef.out)).trans Hdef.out)
end
end Go.Proofs.Ytpiciickgomggaa
