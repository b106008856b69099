/- RewriteTables, walked. -/
import Derived.Test.YtghihhjcoilmgaaW9
import Derived.Test.YtghihhjcoilmgaaW10
import Derived.Test.YtghihhjcoilmgaaW17
import Derived.Test.YtghihhjcoilmgaaWT
namespace Go.Proofs.Ytghihhjcoilmgaa
set_option maxRecDepth 100000
open Go.RowKit Go.Maps
set_option linter.unusedVariables false
set_option linter.unusedSimpArgs false
attribute [local go_sem] Oper.semAt_some

theorem isAt_below {α : Type} {enc : α → Value} {w w' : World} {a : Option Addr} {L : List α} (h : IsAt enc w a L) (hb : Below w.heap.size w w') : IsAt enc w' a L := h.low hb
/-- who stands for a row's numbers -/
def ownP (f : Int → Option Int) (r : T.R3) : T.R3 := (findP f r.1, findP f r.2.1, findP f r.2.2)
theorem ownP_is {f : Int → Option Int} {c : Int → Option (List Int)} {J : Jn} (hI : PInv J f c) : OwnF J (ownP f) := fun r _ => ⟨hI.find _, hI.find _, hI.find _⟩
theorem addT_len (U : T.TS) (r : T.R3) (b : Int) : (T.addT U r b).length ≤ U.length + 1 := by
  unfold T.addT
  split
  · omega
  · split
    · rw [T.setB_length]; omega
    · rw [T.setB_length]; simp
set_option maxRecDepth 100000 in
set_option maxHeartbeats 16000000 in
theorem tables_any {w : World} {la ra ba : Option Addr} {L0 : Jn} {Rs : List Rw3} {Bs : List Int} (hl : IsJ w la L0) (h32 : ∀ p ∈ L0, is32 p.1 ∧ is32 p.2) (hLl : L0.length ≤ maxLen) (hr : IsRw w ra Rs) (hrk : ∀ y ∈ Rs, rowk y) (hRl : Rs.length ≤ maxLen) (hb : IsAt (Value.int .u8) w ba Bs) (hBl : Bs.length ≤ maxLen) (lcap rcap bcap : Nat) :
    Calls Try.prog 6 #[.slice la L0.length lcap, .slice ra Rs.length rcap, .slice ba Bs.length bcap] w fun e w' => e = .returned (.bool true) ∧ Below w.heap.size w w' := by
  obtain ⟨n, hn⟩ : ∃ n, L0.length = n := ⟨_, rfl⟩
  obtain ⟨nr, hnr⟩ : ∃ nr, Rs.length = nr := ⟨_, rfl⟩
  obtain ⟨nb, hnb⟩ : ∃ nb, Bs.length = nb := ⟨_, rfl⟩
  have Hl := Lib.hid hl; have H32 := Lib.hid h32; have Hr := Lib.hid hr; have Hrk := Lib.hid hrk; have Hb := Lib.hid hb
  rw [hn] at hLl ⊢
  rw [hnr] at hRl ⊢
  rw [hnb] at hBl ⊢
  have Hn := Lib.hid hn; have Hnr := Lib.hid hnr; have Hnb := Lib.hid hnb
  clear hl h32 hr hrk hb hn hnr hnb
  simp only [maxLen] at hLl hRl hBl
  by_cases h12 : n > 12
  · have hd : decide ((n : Int) > 12) = true := by simp; omega
    have hd' : decide (12 < (n : Int)) = true := by simp; omega
    have hd2 : decide (12 < n) = true := by simp; omega
    go_enter Try.func6, Try.ntmps6
    go_wp2_with fail
    refine (known_any w).mono ?_
    rintro e w' ⟨rfl, hB⟩
    go_wp2_with fail
    go_ret
    exact ⟨rfl, hB⟩
  have hd : decide ((n : Int) > 12) = false := by simp; omega
  have hd' : decide (12 < (n : Int)) = false := by simp; omega
  have hd2 : decide (12 < n) = false := by simp; omega
  by_cases h40 : nr > 40
  · have he : decide ((nr : Int) > 40) = true := by simp; omega
    have he' : decide (40 < (nr : Int)) = true := by simp; omega
    have he2 : decide (40 < nr) = true := by simp; omega
    go_enter Try.func6, Try.ntmps6
    go_wp2_with fail
    refine (known_any w).mono ?_
    rintro e w' ⟨rfl, hB⟩
    go_wp2_with fail
    go_ret
    exact ⟨rfl, hB⟩
  have he : decide ((nr : Int) > 40) = false := by simp; omega
  have he' : decide (40 < (nr : Int)) = false := by simp; omega
  have he2 : decide (40 < nr) = false := by simp; omega
  by_cases hne : nb = nr
  rotate_left
  · have hf : ((nb : Int) != (nr : Int)) = true := by simp; omega
    go_enter Try.func6, Try.ntmps6
    go_wp2_with fail
    refine (known_any w).mono ?_
    rintro e w' ⟨rfl, hB⟩
    go_wp2_with fail
    go_ret
    exact ⟨rfl, hB⟩
  subst hne
  have hf : ((nb : Int) != (nb : Int)) = false := by simp
  have hbg := begin_any Hl.out H32.out (by have := Hn.out; omega) lcap
  rw [Hn.out] at hbg
  have Hbg := Lib.hid hbg
  clear hbg
  go_enter Try.func6, Try.ntmps6
  go_wp2_with fail
  refine Hbg.out.mono ?_
  rintro e w1 ⟨pb, mf, mc, f, c, v, J, rfl, hP, hI, hE, hJ32, hJl, hO, hB⟩
  obtain ⟨ja, jcap, rfl, hIJ⟩ := hO.j
  have HQ := Lib.hid (isQ_of hP hI hJ32 (by omega)); have HIJ := Lib.hid hIJ; have HB := Lib.hid hB; have Hz := Lib.hid hE.nz; have HJl := Lib.hid hJl; have HJ32 := Lib.hid hJ32
  obtain ⟨own, hownd⟩ : ∃ own, own = ownP f := ⟨_, rfl⟩
  have Hown := Lib.hid (show OwnF J own by rw [hownd]; exact ownP_is hI)
  clear hP hI hE hJ32 hO hIJ hB hJl hownd
  obtain ⟨jn, hjn⟩ : ∃ jn, J.length = jn := ⟨_, rfl⟩
  rw [hjn] at ⊢
  have Hjn := Lib.hid hjn
  clear hjn
  have hnew := T.new_any (Z := T.Zone.from w1.heap.size) (w := w1) (fun i j h => h) (fun i h => h)
  have Hnw := Lib.hid hnew
  clear hnew
  go_wp2_with fail
  refine Hnw.out.mono ?_
  rintro e w2 ⟨rfl, hT2, hB2, hz2⟩
  obtain ⟨tb, htb⟩ : ∃ tb, w1.heap.size + 2 = tb := ⟨_, rfl⟩
  obtain ⟨n0, hn0⟩ : ∃ n0, w1.heap.size = n0 := ⟨_, rfl⟩
  rw [htb] at hT2 ⊢
  have hst := T.Sts.start hT2 hB2.size
  have hBa := (Below.refl w2.heap.size w2).alloc (Nat.le_refl _) (.cells #[.slice none 0 0, .slice none 0 0] 53)
  have hB13 := hB2.trans (hBa.mono hB2.size)
  rw [hn0] at hst hB13
  have Hst := Lib.hid hst; have HB13 := Lib.hid hB13; have Hn0 := Lib.hid hn0
  clear hT2 hB2 hz2 htb hst hBa hB13 hn0
  go_upto_region 5 with fail
  obtain ⟨rb, hrb⟩ : ∃ rb, w2.heap.size = rb := ⟨_, rfl⟩
  generalize w2.alloc (.cells #[.slice none 0 0, .slice none 0 0] 53) = w3 at *
  rw [hrb] at Hst ⊢
  clear hrb
  go_wp2_with fail
  go_loopw [11] (fun u wr => ∃ (i : Nat) (U : T.TS), i ≤ nb ∧ u = .int .i64 i ∧ T.Sts n0 wr tb rb U U ∧ U.length ≤ i ∧ Below n0 w1 wr) (fun u _ => nb - (intOf u).toNat)
  case atStart => exact ⟨0, [], by omega, rfl, Hst.out, by simp, HB13.out⟩
  case round =>
    obtain ⟨i, U, hi, rfl, hS, hUl, hBr⟩ := hrel
    have HS := Lib.hid hS; have HBr := Lib.hid hBr
    have hBw : Below w.heap.size w wr := HB.out.trans (hBr.mono (by have := HB.out.size; rw [Hn0.out] at this; exact this))
    have HBw := Lib.hid hBw
    clear hS hBr hBw Hst HB13 Hnw Hbg
    by_cases hin : i < nb
    · have hg : decide ((i : Int) < (nb : Int)) = true := by simp; omega
      obtain ⟨vb, voff, rfl, hvl, k0, k1, k2⟩ := Hr.out.below HBw.out i (by rw [Hnr.out]; exact hin)
      obtain ⟨bb, boff, rfl, hbl, b0⟩ := (isAt_below Hb.out HBw.out) i (by rw [Hnb.out]; exact hin)
      obtain ⟨⟨x0, x1, x2⟩, hx⟩ : ∃ x, Rs[i]'(by rw [Hnr.out]; exact hin) = x := ⟨_, rfl⟩
      obtain ⟨b, hbb⟩ : ∃ b, Bs[i]'(by rw [Hnb.out]; exact hin) = b := ⟨_, rfl⟩
      have hrok := Hrk.out _ (List.getElem_mem (show i < Rs.length by rw [Hnr.out]; exact hin))
      rw [hx] at k0 k1 k2 hrok
      rw [hbb] at b0
      simp only at k0 k1 k2
      have hcs : ∀ W, Below w.heap.size w W → W.cell? ⟨vb, voff + i * 3, none⟩ = some (.int .u32 x0) ∧ W.cell? ⟨vb, voff + i * 3 + 1, none⟩ = some (.int .u32 x1) ∧ W.cell? ⟨vb, voff + i * 3 + 2, none⟩ = some (.int .u32 x2) ∧ W.cell? ⟨bb, boff + i, none⟩ = some (.int .u8 b) := fun W hW => by
        obtain ⟨vb', voff', e, _, g0, g1, g2⟩ := Hr.out.below hW i (by rw [Hnr.out]; exact hin)
        obtain ⟨bb', boff', e', _, g3⟩ := (isAt_below Hb.out hW) i (by rw [Hnb.out]; exact hin)
        simp at e e'
        obtain ⟨rfl, rfl⟩ := e
        obtain ⟨rfl, rfl⟩ := e'
        rw [hx] at g0 g1 g2
        rw [hbb] at g3
        exact ⟨g0, g1, g2, g3⟩
      have Hcs := Lib.hid hcs; have Hrok := Lib.hid (show T.rok (x0, x1, x2) from hrok)
      clear hcs hrok hx hbb hvl hbl
      have hsz : n0 ≤ wr.heap.size := by have := HBr.out.size; rw [Hn0.out] at this; exact this
      go_wp2_with fail
      have k0 : wr.drew.cell? ⟨vb, voff + i * 3, none⟩ = some (.int .u32 x0) := k0
      have k1 : wr.drew.cell? ⟨vb, voff + i * 3 + 1, none⟩ = some (.int .u32 x1) := k1
      have k2 : wr.drew.cell? ⟨vb, voff + i * 3 + 2, none⟩ = some (.int .u32 x2) := k2
      have b0 : wr.drew.cell? ⟨bb, boff + i, none⟩ = some (.int .u8 b) := b0
      obtain ⟨S8, hSe⟩ : ∃ S : Array Bool → World → Prop, S = fun L w' => L.getD 9 true = false → w' = wr.drew := ⟨_, rfl⟩
      have hdrop : ∀ i, i ≠ 9 → ∀ L w', S8 (L.setIfInBounds i true) w' → S8 L w' := by
        intro i hi L w'
        rw [hSe]
        intro h hl
        exact h (by rw [getD_set_ne true hi]; exact hl)
      have hS : ∀ L, S8 L wr.drew := by intro L; rw [hSe]; exact fun _ => rfl
      have hSo : ∀ {L w'}, S8 L w' → L.getD 9 true = false → w' = wr.drew := by intro L w' h hl; rw [hSe] at h; exact h hl
      have hSd : ∀ (L : Array Bool) X, L.getD 9 true = true → S8 L X := by
        intro L X h; rw [hSe]; intro h1; rw [h] at h1; cases h1
      clear hSe
      refine wp_region_LN S8 10 #[false, false, false, false, false, false, false, false, false, false] (by kernel_rfl) (by kernel_rfl) rfl ?_
      obtain ⟨X8, hX8⟩ : ∃ X8, X8 = wr.drew := ⟨_, rfl⟩
      rw [← hX8] at k0 k1 k2 b0 hSo hS ⊢
      have HX8 := Lib.hid hX8
      clear hX8
      refine WA.take (i := 0) (v := .pointer (some ⟨tb, 0, none⟩)) rfl (by kernel_rfl) (by kernel_rfl) (by kernel_rfl) (fun _ _ _ h => h) (hdrop 0 (by decide)) (Or.inl ⟨by rfl, ?_⟩) (hS _) ?_
      · rintro w' ⟨L, hL, hSw, hun⟩
        go_simp
      simp only [List.getElem_toArray, List.getElem_cons_zero, List.getElem_cons_succ, Act.put, List.setIfInBounds_toArray, List.set_cons_zero, List.set_cons_succ]
      refine WA.take (i := 1) (v := .slice (some ⟨vb, voff, none⟩) nb rcap) rfl (by kernel_rfl) (by kernel_rfl) (by kernel_rfl) (fun _ _ _ h => h) (hdrop 1 (by decide)) (Or.inl ⟨by rfl, ?_⟩) (hS _) ?_
      · rintro w' ⟨L, hL, hSw, hun⟩
        go_simp
      simp only [List.getElem_toArray, List.getElem_cons_zero, List.getElem_cons_succ, Act.put, List.setIfInBounds_toArray, List.set_cons_zero, List.set_cons_succ]
      refine WA.take (i := 2) (v := .int .i64 ((i : Nat) : Int)) rfl (by kernel_rfl) (by kernel_rfl) (by kernel_rfl) (fun _ _ _ h => h) (hdrop 2 (by decide)) (Or.inl ⟨by rfl, ?_⟩) (hS _) ?_
      · rintro w' ⟨L, hL, hSw, hun⟩
        go_simp
      simp only [List.getElem_toArray, List.getElem_cons_zero, List.getElem_cons_succ, Act.put, List.setIfInBounds_toArray, List.set_cons_zero, List.set_cons_succ]
      refine WA.take (i := 3) (v := .pointer (some ⟨vb, voff + i * 3, none⟩)) rfl (by kernel_rfl) (by kernel_rfl) (by kernel_rfl) (fun _ _ _ h => h) (hdrop 3 (by decide)) (Or.inl ⟨by rfl, ?_⟩) (hS _) ?_
      · rintro w' ⟨L, hL, hSw, hun⟩
        go_simp
      simp only [List.getElem_toArray, List.getElem_cons_zero, List.getElem_cons_succ, Act.put, List.setIfInBounds_toArray, List.set_cons_zero, List.set_cons_succ]
      refine WA.take (i := 4) (v := .agg #[.int .u32 x0, .int .u32 x1, .int .u32 x2]) rfl (by kernel_rfl) (by kernel_rfl) (by kernel_rfl) (fun _ _ _ h => h) (hdrop 4 (by decide)) (Or.inl ⟨by rfl, ?_⟩) (hS _) ?_
      · rintro w' ⟨L, hL, hSw, hun⟩
        obtain rfl := hSo hSw (hL.wait 9 4 (by kernel_rfl) hun)
        go_simp
      simp only [List.getElem_toArray, List.getElem_cons_zero, List.getElem_cons_succ, Act.put, List.setIfInBounds_toArray, List.set_cons_zero, List.set_cons_succ]
      refine WA.take (i := 5) (v := .slice (some ⟨bb, boff, none⟩) nb bcap) rfl (by kernel_rfl) (by kernel_rfl) (by kernel_rfl) (fun _ _ _ h => h) (hdrop 5 (by decide)) (Or.inl ⟨by rfl, ?_⟩) (hS _) ?_
      · rintro w' ⟨L, hL, hSw, hun⟩
        go_simp
      simp only [List.getElem_toArray, List.getElem_cons_zero, List.getElem_cons_succ, Act.put, List.setIfInBounds_toArray, List.set_cons_zero, List.set_cons_succ]
      refine WA.take (i := 6) (v := .int .i64 ((i : Nat) : Int)) rfl (by kernel_rfl) (by kernel_rfl) (by kernel_rfl) (fun _ _ _ h => h) (hdrop 6 (by decide)) (Or.inl ⟨by rfl, ?_⟩) (hS _) ?_
      · rintro w' ⟨L, hL, hSw, hun⟩
        go_simp
      simp only [List.getElem_toArray, List.getElem_cons_zero, List.getElem_cons_succ, Act.put, List.setIfInBounds_toArray, List.set_cons_zero, List.set_cons_succ]
      refine WA.take (i := 7) (v := .pointer (some ⟨bb, boff + i, none⟩)) rfl (by kernel_rfl) (by kernel_rfl) (by kernel_rfl) (fun _ _ _ h => h) (hdrop 7 (by decide)) (Or.inl ⟨by rfl, ?_⟩) (hS _) ?_
      · rintro w' ⟨L, hL, hSw, hun⟩
        go_simp
      simp only [List.getElem_toArray, List.getElem_cons_zero, List.getElem_cons_succ, Act.put, List.setIfInBounds_toArray, List.set_cons_zero, List.set_cons_succ]
      refine WA.take (i := 8) (v := .int .u8 b) rfl (by kernel_rfl) (by kernel_rfl) (by kernel_rfl) (fun _ _ _ h => h) (hdrop 8 (by decide)) (Or.inl ⟨by rfl, ?_⟩) (hS _) ?_
      · rintro w' ⟨L, hL, hSw, hun⟩
        obtain rfl := hSo hSw (hL.wait 9 8 (by kernel_rfl) hun)
        go_simp
      simp only [List.getElem_toArray, List.getElem_cons_zero, List.getElem_cons_succ, Act.put, List.setIfInBounds_toArray, List.set_cons_zero, List.set_cons_succ]
      refine WA.one (i := 9) (by kernel_rfl) rfl (by rfl) (fun K hK => ?_)
      go_simp
      have hadd := (HS.out.below (w' := wr.drew) (Below.refl _ wr).drew).add (x0, x1, x2) b Hrok.out (by omega)
      simp only [T.rv] at hadd
      rw [← HX8.out] at hadd
      refine hadd.mono ?_
      rintro e w4 ⟨⟨z1, z2, rfl⟩, hS_, hB_⟩
      have HS4 := Lib.hid hS_; have HB4 := Lib.hid (show Below n0 wr w4 from (show Below n0 wr X8 by rw [HX8.out]; exact (Below.refl _ wr).drew.mono hsz).trans hB_)
      clear hS_ hB_ hadd
      refine hK _ _ (hSd _ _ (by rfl)) ?_
      clear hK
      try simp only [List.getElem_toArray, List.getElem_cons_zero, List.getElem_cons_succ, Act.put, List.setIfInBounds_toArray, List.set_cons_zero, List.set_cons_succ]
      refine WA.done (by kernel_rfl) ?_ _
      refine Nrm.normal ?_
      clear hSo hS hSd hdrop k0 k1 k2 b0
      clear S8
      have HBw4 := Lib.hid (HBw.out.trans (HB4.out.mono (by have := HB.out.size; rw [Hn0.out] at this; exact this)))
      obtain ⟨k0, k1, k2, b0⟩ := Hcs.out w4 HBw4.out
      go_wp2_with fail
      have k0 : w4.drew.cell? ⟨vb, voff + i * 3, none⟩ = some (.int .u32 x0) := k0
      have k1 : w4.drew.cell? ⟨vb, voff + i * 3 + 1, none⟩ = some (.int .u32 x1) := k1
      have k2 : w4.drew.cell? ⟨vb, voff + i * 3 + 2, none⟩ = some (.int .u32 x2) := k2
      have b0 : w4.drew.cell? ⟨bb, boff + i, none⟩ = some (.int .u8 b) := b0
      obtain ⟨S9, hSe⟩ : ∃ S : Array Bool → World → Prop, S = fun L w' => L.getD 9 true = false → w' = w4.drew := ⟨_, rfl⟩
      have hdrop : ∀ i, i ≠ 9 → ∀ L w', S9 (L.setIfInBounds i true) w' → S9 L w' := by
        intro i hi L w'
        rw [hSe]
        intro h hl
        exact h (by rw [getD_set_ne true hi]; exact hl)
      have hS : ∀ L, S9 L w4.drew := by intro L; rw [hSe]; exact fun _ => rfl
      have hSo : ∀ {L w'}, S9 L w' → L.getD 9 true = false → w' = w4.drew := by intro L w' h hl; rw [hSe] at h; exact h hl
      have hSd : ∀ (L : Array Bool) X, L.getD 9 true = true → S9 L X := by
        intro L X h; rw [hSe]; intro h1; rw [h] at h1; cases h1
      clear hSe
      refine wp_region_LN S9 10 #[false, false, false, false, false, false, false, false, false, false] (by kernel_rfl) (by kernel_rfl) rfl ?_
      obtain ⟨X9, hX9⟩ : ∃ X9, X9 = w4.drew := ⟨_, rfl⟩
      rw [← hX9] at k0 k1 k2 b0 hSo hS ⊢
      have HX9 := Lib.hid hX9
      clear hX9
      refine WA.take (i := 0) (v := .pointer (some ⟨rb, 0, none⟩)) rfl (by kernel_rfl) (by kernel_rfl) (by kernel_rfl) (fun _ _ _ h => h) (hdrop 0 (by decide)) (Or.inl ⟨by rfl, ?_⟩) (hS _) ?_
      · rintro w' ⟨L, hL, hSw, hun⟩
        go_simp
      simp only [List.getElem_toArray, List.getElem_cons_zero, List.getElem_cons_succ, Act.put, List.setIfInBounds_toArray, List.set_cons_zero, List.set_cons_succ]
      refine WA.take (i := 1) (v := .slice (some ⟨vb, voff, none⟩) nb rcap) rfl (by kernel_rfl) (by kernel_rfl) (by kernel_rfl) (fun _ _ _ h => h) (hdrop 1 (by decide)) (Or.inl ⟨by rfl, ?_⟩) (hS _) ?_
      · rintro w' ⟨L, hL, hSw, hun⟩
        go_simp
      simp only [List.getElem_toArray, List.getElem_cons_zero, List.getElem_cons_succ, Act.put, List.setIfInBounds_toArray, List.set_cons_zero, List.set_cons_succ]
      refine WA.take (i := 2) (v := .int .i64 ((i : Nat) : Int)) rfl (by kernel_rfl) (by kernel_rfl) (by kernel_rfl) (fun _ _ _ h => h) (hdrop 2 (by decide)) (Or.inl ⟨by rfl, ?_⟩) (hS _) ?_
      · rintro w' ⟨L, hL, hSw, hun⟩
        go_simp
      simp only [List.getElem_toArray, List.getElem_cons_zero, List.getElem_cons_succ, Act.put, List.setIfInBounds_toArray, List.set_cons_zero, List.set_cons_succ]
      refine WA.take (i := 3) (v := .pointer (some ⟨vb, voff + i * 3, none⟩)) rfl (by kernel_rfl) (by kernel_rfl) (by kernel_rfl) (fun _ _ _ h => h) (hdrop 3 (by decide)) (Or.inl ⟨by rfl, ?_⟩) (hS _) ?_
      · rintro w' ⟨L, hL, hSw, hun⟩
        go_simp
      simp only [List.getElem_toArray, List.getElem_cons_zero, List.getElem_cons_succ, Act.put, List.setIfInBounds_toArray, List.set_cons_zero, List.set_cons_succ]
      refine WA.take (i := 4) (v := .agg #[.int .u32 x0, .int .u32 x1, .int .u32 x2]) rfl (by kernel_rfl) (by kernel_rfl) (by kernel_rfl) (fun _ _ _ h => h) (hdrop 4 (by decide)) (Or.inl ⟨by rfl, ?_⟩) (hS _) ?_
      · rintro w' ⟨L, hL, hSw, hun⟩
        obtain rfl := hSo hSw (hL.wait 9 4 (by kernel_rfl) hun)
        go_simp
      simp only [List.getElem_toArray, List.getElem_cons_zero, List.getElem_cons_succ, Act.put, List.setIfInBounds_toArray, List.set_cons_zero, List.set_cons_succ]
      refine WA.take (i := 5) (v := .slice (some ⟨bb, boff, none⟩) nb bcap) rfl (by kernel_rfl) (by kernel_rfl) (by kernel_rfl) (fun _ _ _ h => h) (hdrop 5 (by decide)) (Or.inl ⟨by rfl, ?_⟩) (hS _) ?_
      · rintro w' ⟨L, hL, hSw, hun⟩
        go_simp
      simp only [List.getElem_toArray, List.getElem_cons_zero, List.getElem_cons_succ, Act.put, List.setIfInBounds_toArray, List.set_cons_zero, List.set_cons_succ]
      refine WA.take (i := 6) (v := .int .i64 ((i : Nat) : Int)) rfl (by kernel_rfl) (by kernel_rfl) (by kernel_rfl) (fun _ _ _ h => h) (hdrop 6 (by decide)) (Or.inl ⟨by rfl, ?_⟩) (hS _) ?_
      · rintro w' ⟨L, hL, hSw, hun⟩
        go_simp
      simp only [List.getElem_toArray, List.getElem_cons_zero, List.getElem_cons_succ, Act.put, List.setIfInBounds_toArray, List.set_cons_zero, List.set_cons_succ]
      refine WA.take (i := 7) (v := .pointer (some ⟨bb, boff + i, none⟩)) rfl (by kernel_rfl) (by kernel_rfl) (by kernel_rfl) (fun _ _ _ h => h) (hdrop 7 (by decide)) (Or.inl ⟨by rfl, ?_⟩) (hS _) ?_
      · rintro w' ⟨L, hL, hSw, hun⟩
        go_simp
      simp only [List.getElem_toArray, List.getElem_cons_zero, List.getElem_cons_succ, Act.put, List.setIfInBounds_toArray, List.set_cons_zero, List.set_cons_succ]
      refine WA.take (i := 8) (v := .int .u8 b) rfl (by kernel_rfl) (by kernel_rfl) (by kernel_rfl) (fun _ _ _ h => h) (hdrop 8 (by decide)) (Or.inl ⟨by rfl, ?_⟩) (hS _) ?_
      · rintro w' ⟨L, hL, hSw, hun⟩
        obtain rfl := hSo hSw (hL.wait 9 8 (by kernel_rfl) hun)
        go_simp
      simp only [List.getElem_toArray, List.getElem_cons_zero, List.getElem_cons_succ, Act.put, List.setIfInBounds_toArray, List.set_cons_zero, List.set_cons_succ]
      refine WA.one (i := 9) (by kernel_rfl) rfl (by rfl) (fun K hK => ?_)
      go_simp
      have hadd := (HS4.out.below (w' := w4.drew) (Below.refl _ w4).drew).radd (x0, x1, x2) b Hrok.out (by omega)
      simp only [T.rv] at hadd
      rw [← HX9.out] at hadd
      refine hadd.mono ?_
      rintro e w5 ⟨⟨z3, z4, rfl⟩, hS_, hB_⟩
      have HS5 := Lib.hid hS_; have HB5 := Lib.hid (show Below n0 w4 w5 from (show Below n0 w4 X9 by rw [HX9.out]; exact (Below.refl _ w4).drew.mono (by have := HB4.out.size; omega)).trans hB_)
      clear hS_ hB_ hadd
      refine hK _ _ (hSd _ _ (by rfl)) ?_
      clear hK
      try simp only [List.getElem_toArray, List.getElem_cons_zero, List.getElem_cons_succ, Act.put, List.setIfInBounds_toArray, List.set_cons_zero, List.set_cons_succ]
      refine WA.done (by kernel_rfl) ?_ _
      refine Nrm.normal ?_
      clear hSo hS hSd hdrop k0 k1 k2 b0
      clear S9
      go_wp2_with fail
      go_roundw
      case rel => exact ⟨i + 1, _, by omega, by push_cast; rfl, HS5.out, by have := addT_len U (x0, x1, x2) b; omega, (HBr.out.trans HB4.out).trans HB5.out⟩
      case measure => simp [intOf]; omega
    · have hg : decide ((i : Int) < (nb : Int)) = false := by simp; omega
      obtain ⟨R, hR⟩ : ∃ R, T.rwGo own (2 * U.length) 0 U 0 = R := ⟨_, rfl⟩
      have htab := table_any (pv := .pointer (some ⟨pb, 0, none⟩)) HQ.out (by rw [Hn0.out]; exact HBr.out) (by rw [Hn0.out]; exact HS.out) Hown.out (by omega)
      rw [hR, Hn0.out] at htab
      have Htab := Lib.hid htab; have HR := Lib.hid hR
      clear htab hR
      go_upto_region 10 with fail
      go_cut [81] from 65 to 139 (fun s81 wx => s81 = .bool false ∧ T.Sts n0 wx tb rb R.1 R.1 ∧ T.RwI own U.length R.1.length R.1 ∧ Below n0 w1 wx)
      case first =>
        obtain ⟨S10, hSe⟩ : ∃ S : Array Bool → World → Prop, S = fun L w' => L.getD 2 true = false → w' = wr.drew := ⟨_, rfl⟩
        have hdrop : ∀ i, i ≠ 2 → ∀ L w', S10 (L.setIfInBounds i true) w' → S10 L w' := by
          intro i hi L w'
          rw [hSe]
          intro h hl
          exact h (by rw [getD_set_ne true hi]; exact hl)
        have hS : ∀ L, S10 L wr.drew := by intro L; rw [hSe]; exact fun _ => rfl
        have hSo : ∀ {L w'}, S10 L w' → L.getD 2 true = false → w' = wr.drew := by intro L w' h hl; rw [hSe] at h; exact h hl
        have hSd : ∀ (L : Array Bool) X, L.getD 2 true = true → S10 L X := by
          intro L X h; rw [hSe]; intro h1; rw [h] at h1; cases h1
        clear hSe
        refine wp_region_LN S10 17 #[false, false, false, false, false, false, false, false, false, false, false, false, false, false, false, false, false] (by kernel_rfl) (by kernel_rfl) rfl ?_
        obtain ⟨X10, hX10⟩ : ∃ X10, X10 = wr.drew := ⟨_, rfl⟩
        rw [← hX10] at hSo hS ⊢
        have HX10 := Lib.hid hX10
        clear hX10
        refine WA.take (i := 0) (v := .pointer (some ⟨pb, 0, none⟩)) rfl (by kernel_rfl) (by kernel_rfl) (by kernel_rfl) (fun _ _ _ h => h) (hdrop 0 (by decide)) (Or.inl ⟨by rfl, ?_⟩) (hS _) ?_
        · rintro w' ⟨L, hL, hSw, hun⟩
          go_simp
        simp only [List.getElem_toArray, List.getElem_cons_zero, List.getElem_cons_succ, Act.put, List.setIfInBounds_toArray, List.set_cons_zero, List.set_cons_succ]
        refine WA.take (i := 1) (v := .pointer (some ⟨tb, 0, none⟩)) rfl (by kernel_rfl) (by kernel_rfl) (by kernel_rfl) (fun _ _ _ h => h) (hdrop 1 (by decide)) (Or.inl ⟨by rfl, ?_⟩) (hS _) ?_
        · rintro w' ⟨L, hL, hSw, hun⟩
          go_simp
        simp only [List.getElem_toArray, List.getElem_cons_zero, List.getElem_cons_succ, Act.put, List.setIfInBounds_toArray, List.set_cons_zero, List.set_cons_succ]
        refine WA.take (i := 3) (v := .slice ja jn jcap) rfl (by kernel_rfl) (by kernel_rfl) (by kernel_rfl) (fun _ _ _ h => h) (hdrop 3 (by decide)) (Or.inl ⟨by rfl, ?_⟩) (hS _) ?_
        · rintro w' ⟨L, hL, hSw, hun⟩
          go_simp
        simp only [List.getElem_toArray, List.getElem_cons_zero, List.getElem_cons_succ, Act.put, List.setIfInBounds_toArray, List.set_cons_zero, List.set_cons_succ]
        refine WA.take (i := 4) (v := .pointer (some ⟨rb, 0, none⟩)) rfl (by kernel_rfl) (by kernel_rfl) (by kernel_rfl) (fun _ _ _ h => h) (hdrop 4 (by decide)) (Or.inl ⟨by rfl, ?_⟩) (hS _) ?_
        · rintro w' ⟨L, hL, hSw, hun⟩
          go_simp
        simp only [List.getElem_toArray, List.getElem_cons_zero, List.getElem_cons_succ, Act.put, List.setIfInBounds_toArray, List.set_cons_zero, List.set_cons_succ]
        refine WA.one (i := 2) (by kernel_rfl) rfl (by rfl) (fun K hK => ?_)
        go_simp
        have htb := table_any (pv := .pointer (some ⟨pb, 0, none⟩)) (w := X10) HQ.out (by rw [Hn0.out, HX10.out]; exact HBr.out.drew) (by rw [Hn0.out, HX10.out]; exact HS.out.below (Below.refl _ wr).drew) Hown.out (by omega)
        rw [HR.out, Hn0.out] at htb
        obtain ⟨oo, hoo⟩ : ∃ oo, R.2 = oo := ⟨_, rfl⟩
        rw [hoo] at htb
        have Hoo := Lib.hid hoo
        clear hoo
        refine htb.mono ?_
        rintro e w4 ⟨rfl, hS_, hI_, hB_⟩
        have HS4 := Lib.hid hS_; have HI4 := Lib.hid hI_; have HB4 := Lib.hid hB_
        clear htb hS_ hI_ hB_
        refine hK _ _ (hSd _ _ (by rfl)) ?_
        clear hK
        try simp only [List.getElem_toArray, List.getElem_cons_zero, List.getElem_cons_succ, Act.put, List.setIfInBounds_toArray, List.set_cons_zero, List.set_cons_succ]
        refine WA.one (i := 5) (by kernel_rfl) rfl (by rfl) (fun K hK => ?_)
        go_simp
        have htr := tableR_any (w := w4) HIJ.out jcap (by have := HJl.out; omega) Hz.out HJ32.out (by rw [Hn0.out]; exact HB4.out) (by rw [Hn0.out]; exact HS4.out) Hown.out (by omega)
        rw [HR.out, Hn0.out, Hoo.out, Hjn.out] at htr
        refine htr.mono ?_
        rintro e w5 ⟨rfl, hS_, hB_⟩
        have HS5 := Lib.hid hS_; have HB5 := Lib.hid hB_
        clear htr hS_ hB_
        obtain ⟨vr, vb_, ⟨c0, _⟩, ⟨ar, cr, rfl⟩, _, _, _⟩ := HS5.out.ref
        obtain ⟨l5, hl5⟩ : ∃ l5, R.1.length = l5 := ⟨_, rfl⟩
        have hlen5 := HS5.out.len
        rw [hl5] at c0 hlen5
        have Hlen5 := Lib.hid hlen5
        clear hl5 hlen5
        refine hK _ _ (hSd _ _ (by rfl)) ?_
        clear hK
        try simp only [List.getElem_toArray, List.getElem_cons_zero, List.getElem_cons_succ, Act.put, List.setIfInBounds_toArray, List.set_cons_zero, List.set_cons_succ]
        refine WA.take (i := 6) (v := .bool false) rfl (by kernel_rfl) (by kernel_rfl) (by kernel_rfl) (fun _ _ _ h => h) (hdrop 6 (by decide)) (Or.inl ⟨by rfl, ?_⟩) (hSd _ _ (by rfl)) ?_
        · rintro w' ⟨L, hL, hSw, hun⟩
          go_simp
        simp only [List.getElem_toArray, List.getElem_cons_zero, List.getElem_cons_succ, Act.put, List.setIfInBounds_toArray, List.set_cons_zero, List.set_cons_succ]
        refine WA.take (i := 7) (v := .bool false) rfl (by kernel_rfl) (by kernel_rfl) (by kernel_rfl) (fun _ _ _ h => h) (hdrop 7 (by decide)) (Or.inl ⟨by rfl, ?_⟩) (hSd _ _ (by rfl)) ?_
        · rintro w' ⟨L, hL, hSw, hun⟩
          go_simp
        simp only [List.getElem_toArray, List.getElem_cons_zero, List.getElem_cons_succ, Act.put, List.setIfInBounds_toArray, List.set_cons_zero, List.set_cons_succ]
        refine WA.take (i := 8) (v := .pointer (some ⟨tb, 0, none⟩)) rfl (by kernel_rfl) (by kernel_rfl) (by kernel_rfl) (fun _ _ _ h => h) (hdrop 8 (by decide)) (Or.inl ⟨by rfl, ?_⟩) (hSd _ _ (by rfl)) ?_
        · rintro w' ⟨L, hL, hSw, hun⟩
          go_simp
        simp only [List.getElem_toArray, List.getElem_cons_zero, List.getElem_cons_succ, Act.put, List.setIfInBounds_toArray, List.set_cons_zero, List.set_cons_succ]
        refine WA.take (i := 10) (v := .pointer (some ⟨rb, 0, none⟩)) rfl (by kernel_rfl) (by kernel_rfl) (by kernel_rfl) (fun _ _ _ h => h) (hdrop 10 (by decide)) (Or.inl ⟨by rfl, ?_⟩) (hSd _ _ (by rfl)) ?_
        · rintro w' ⟨L, hL, hSw, hun⟩
          go_simp
        simp only [List.getElem_toArray, List.getElem_cons_zero, List.getElem_cons_succ, Act.put, List.setIfInBounds_toArray, List.set_cons_zero, List.set_cons_succ]
        refine WA.take (i := 11) (v := .pointer (some ⟨rb, 0, none⟩)) rfl (by kernel_rfl) (by kernel_rfl) (by kernel_rfl) (fun _ _ _ h => h) (hdrop 11 (by decide)) (Or.inl ⟨by rfl, ?_⟩) (hSd _ _ (by rfl)) ?_
        · rintro w' ⟨L, hL, hSw, hun⟩
          go_simp
        simp only [List.getElem_toArray, List.getElem_cons_zero, List.getElem_cons_succ, Act.put, List.setIfInBounds_toArray, List.set_cons_zero, List.set_cons_succ]
        refine WA.take (i := 12) (v := .pointer (some ⟨rb, 0, none⟩)) rfl (by kernel_rfl) (by kernel_rfl) (by kernel_rfl) (fun _ _ _ h => h) (hdrop 12 (by decide)) (Or.inl ⟨by rfl, ?_⟩) (hSd _ _ (by rfl)) ?_
        · rintro w' ⟨L, hL, hSw, hun⟩
          go_simp
        simp only [List.getElem_toArray, List.getElem_cons_zero, List.getElem_cons_succ, Act.put, List.setIfInBounds_toArray, List.set_cons_zero, List.set_cons_succ]
        refine WA.all (rs := [9, 13]) (by kernel_rfl) (by simp) ?_
        intro i hi
        rcases (show i = 9 ∨ i = 13 by simpa using hi) with rfl | rfl
        · refine wpOp_go rfl (by rfl) (fun K hK => ?_)
          go_simp
          refine Hlen5.out.mono ?_
          rintro e w_ ⟨rfl, hw_⟩
          subst hw_
          refine hK _ _ ⟨hSd _ _ (by rfl), ?_⟩
          clear hK hi
          try simp only [List.getElem_toArray, List.getElem_cons_zero, List.getElem_cons_succ, Act.put, List.setIfInBounds_toArray, List.set_cons_zero, List.set_cons_succ]
          refine WA.one (i := 13) (by kernel_rfl) rfl (by rfl) (fun K hK => ?_)
          go_simp
          refine hK _ _ (hSd _ _ (by rfl)) ?_
          clear hK
          try simp only [List.getElem_toArray, List.getElem_cons_zero, List.getElem_cons_succ, Act.put, List.setIfInBounds_toArray, List.set_cons_zero, List.set_cons_succ]
          refine WA.take (i := 14) (v := .int .i64 ((l5 : Nat) : Int)) rfl (by kernel_rfl) (by kernel_rfl) (by kernel_rfl) (fun _ _ _ h => h) (hdrop 14 (by decide)) (Or.inl ⟨by rfl, ?_⟩) (hSd _ _ (by rfl)) ?_
          · rintro w' ⟨L, hL, hSw, hun⟩
            go_simp
          simp only [List.getElem_toArray, List.getElem_cons_zero, List.getElem_cons_succ, Act.put, List.setIfInBounds_toArray, List.set_cons_zero, List.set_cons_succ]
          refine WA.take (i := 15) (v := .bool false) rfl (by kernel_rfl) (by kernel_rfl) (by kernel_rfl) (fun _ _ _ h => h) (hdrop 15 (by decide)) (Or.inl ⟨by rfl, ?_⟩) (hSd _ _ (by rfl)) ?_
          · rintro w' ⟨L, hL, hSw, hun⟩
            go_simp
          simp only [List.getElem_toArray, List.getElem_cons_zero, List.getElem_cons_succ, Act.put, List.setIfInBounds_toArray, List.set_cons_zero, List.set_cons_succ]
          refine WA.take (i := 16) (v := .bool false) rfl (by kernel_rfl) (by kernel_rfl) (by kernel_rfl) (fun _ _ _ h => h) (hdrop 16 (by decide)) (Or.inl ⟨by rfl, ?_⟩) (hSd _ _ (by rfl)) ?_
          · rintro w' ⟨L, hL, hSw, hun⟩
            go_simp
          simp only [List.getElem_toArray, List.getElem_cons_zero, List.getElem_cons_succ, Act.put, List.setIfInBounds_toArray, List.set_cons_zero, List.set_cons_succ]
          refine WA.done (by kernel_rfl) ?_ _
          refine Nrm.normal ?_
          clear hSo hS hSd hdrop c0
          clear S10
          go_wp2_with fail
          go_meet
          exact ⟨rfl, HS5.out, HI4.out, HB5.out⟩
        · refine wpOp_go rfl (by rfl) (fun K hK => ?_)
          go_simp
          refine hK _ _ ⟨hSd _ _ (by rfl), ?_⟩
          clear hK hi
          try simp only [List.getElem_toArray, List.getElem_cons_zero, List.getElem_cons_succ, Act.put, List.setIfInBounds_toArray, List.set_cons_zero, List.set_cons_succ]
          refine WA.take (i := 14) (v := .int .i64 ((l5 : Nat) : Int)) rfl (by kernel_rfl) (by kernel_rfl) (by kernel_rfl) (fun _ _ _ h => h) (hdrop 14 (by decide)) (Or.inl ⟨by rfl, ?_⟩) (hSd _ _ (by rfl)) ?_
          · rintro w' ⟨L, hL, hSw, hun⟩
            go_simp
          simp only [List.getElem_toArray, List.getElem_cons_zero, List.getElem_cons_succ, Act.put, List.setIfInBounds_toArray, List.set_cons_zero, List.set_cons_succ]
          refine WA.one (i := 9) (by kernel_rfl) rfl (by rfl) (fun K hK => ?_)
          go_simp
          refine Hlen5.out.mono ?_
          rintro e w_ ⟨rfl, hw_⟩
          subst hw_
          refine hK _ _ (hSd _ _ (by rfl)) ?_
          clear hK
          try simp only [List.getElem_toArray, List.getElem_cons_zero, List.getElem_cons_succ, Act.put, List.setIfInBounds_toArray, List.set_cons_zero, List.set_cons_succ]
          refine WA.take (i := 15) (v := .bool false) rfl (by kernel_rfl) (by kernel_rfl) (by kernel_rfl) (fun _ _ _ h => h) (hdrop 15 (by decide)) (Or.inl ⟨by rfl, ?_⟩) (hSd _ _ (by rfl)) ?_
          · rintro w' ⟨L, hL, hSw, hun⟩
            go_simp
          simp only [List.getElem_toArray, List.getElem_cons_zero, List.getElem_cons_succ, Act.put, List.setIfInBounds_toArray, List.set_cons_zero, List.set_cons_succ]
          refine WA.take (i := 16) (v := .bool false) rfl (by kernel_rfl) (by kernel_rfl) (by kernel_rfl) (fun _ _ _ h => h) (hdrop 16 (by decide)) (Or.inl ⟨by rfl, ?_⟩) (hSd _ _ (by rfl)) ?_
          · rintro w' ⟨L, hL, hSw, hun⟩
            go_simp
          simp only [List.getElem_toArray, List.getElem_cons_zero, List.getElem_cons_succ, Act.put, List.setIfInBounds_toArray, List.set_cons_zero, List.set_cons_succ]
          refine WA.done (by kernel_rfl) ?_ _
          refine Nrm.normal ?_
          clear hSo hS hSd hdrop c0
          clear S10
          go_wp2_with fail
          go_meet
          exact ⟨rfl, HS5.out, HI4.out, HB5.out⟩
      case rest =>
        rename World => w6
        obtain ⟨rfl, hS6, hI6, hB6⟩ := hcut
        have HS6 := Lib.hid hS6; have HB6 := Lib.hid hB6
        have hup := hI6.up
        have hcl := hI6.clean
        obtain ⟨l, hl⟩ : ∃ l, R.1.length = l := ⟨_, rfl⟩
        obtain ⟨V, hV⟩ : ∃ V, R.1 = V := ⟨_, rfl⟩
        rw [hl] at hup hcl
        rw [hV] at HS6 hcl hl
        have Hcl := Lib.hid hcl; have Hl6 := Lib.hid hl
        have hll : l ≤ 1000 := by omega
        clear hS6 hI6 hB6 hcl hl hup hV Htab
        have hsz6 : n0 ≤ w6.heap.size := by have := HB6.out.size; rw [Hn0.out] at this; exact this
        go_wp2_with fail
        go_loopw [12] (fun u wz => ∃ i : Nat, i ≤ l ∧ u = .int .i64 i ∧ Below w6.heap.size w6 wz) (fun u _ => l - (intOf u).toNat)
        case atStart => exact ⟨0, by omega, rfl, Below.refl _ _⟩
        case round =>
          rename World => wz
          obtain ⟨q, hq, rfl, hBz⟩ := hrel
          have HBz := Lib.hid hBz
          have HSz := Lib.hid (HS6.out.below hBz)
          obtain ⟨vr, vb, ⟨c0, c1⟩, ⟨ar, cr, rfl⟩, ⟨ab, cb, rfl⟩, hrow, hbit⟩ := HSz.out.ref
          rw [Hl6.out] at c0 c1
          have Hrow := Lib.hid hrow; have Hbit := Lib.hid hbit
          clear hBz hrow hbit
          by_cases hql : q < l
          · have hh : decide ((q : Int) < (l : Int)) = true := by simp; omega
            have hh2 : decide (q < l) = true := by simp; omega
            have hqV : q < V.length := by rw [Hl6.out]; exact hql
            have hget := HSz.out.get q hqV
            have hcq := Hcl.out q hqV hql
            have hyok := HSz.out.oks.1 _ (List.getElem_mem hqV)
            obtain ⟨⟨⟨x0, x1, x2⟩, b⟩, hy⟩ : ∃ y, V[q] = y := ⟨_, rfl⟩
            rw [hy] at hget hcq hyok
            simp only [T.rv] at hget
            simp only at hcq
            have Hget := Lib.hid hget; have Hcq := Lib.hid hcq; have Hy := Lib.hid hy; have Hyok := Lib.hid hyok
            clear hget hcq hy hyok
            go_wp2_with fail
            refine Hget.out.mono ?_
            rintro e w8 ⟨rfl, hB8⟩
            have HB8 := Lib.hid hB8
            clear hB8 c0 c1
            go_upto_region 16 with fail
            have hBa := (Below.refl w8.heap.size w8).alloc (Nat.le_refl _) (.cells #[.int .u32 x0, .int .u32 x1, .int .u32 x2] 37)
            have hnew := World.alloc_heap_new w8 (.cells #[.int .u32 x0, .int .u32 x1, .int .u32 x2] 37)
            obtain ⟨xb, hxb⟩ : ∃ xb, w8.heap.size = xb := ⟨_, rfl⟩
            generalize w8.alloc (.cells #[.int .u32 x0, .int .u32 x1, .int .u32 x2] 37) = w9 at *
            rw [hxb] at hnew ⊢
            have hB69 : Below w6.heap.size w6 w9 := (HBz.out.trans (HB8.out.mono HBz.out.size)).trans (hBa.mono (by have := HBz.out.size; have := HB8.out.size; omega))
            have HB69 := Lib.hid hB69
            obtain ⟨n0_, n1_, n2_⟩ := row_cells hnew
            obtain ⟨vr9, vb9, ⟨c0, c1⟩, _, _, hrow9, hbit9⟩ := (HS6.out.below hB69).ref
            obtain ⟨gr, capr, er, _, k0, k1, k2⟩ := hrow9 q hqV
            obtain ⟨gb, capb, eb, _, b0, _, _⟩ := hbit9 q hqV
            subst er eb
            rw [Hl6.out] at c0 c1
            rw [Hy.out] at k0 k1 k2 b0
            simp only at k0 k1 k2 b0
            have hQ9 : IsQ w9 (.pointer (some ⟨pb, 0, none⟩)) J := HQ.out.below (by rw [Hn0.out]; exact HB6.out.trans (hB69.mono hsz6))
            have HQ9 := Lib.hid (hQ9.drew)
            clear hBa hnew hxb hB69 hrow9 hbit9 hQ9 Hrow Hbit
            have he := eqRw_same x0 x1 x2
            by_cases hb0 : b = 0
            · subst hb0
              have n0_ : w9.drew.cell? ⟨xb, 0, none⟩ = some (.int .u32 x0) := n0_
              have n1_ : w9.drew.cell? ⟨xb, 1, none⟩ = some (.int .u32 x1) := n1_
              have n2_ : w9.drew.cell? ⟨xb, 2, none⟩ = some (.int .u32 x2) := n2_
              have c0 : w9.drew.cell? ⟨rb, 0, none⟩ = some (.slice (some ⟨gr, 0, none⟩) l capr) := c0
              have c1 : w9.drew.cell? ⟨rb, 1, none⟩ = some (.slice (some ⟨gb, 0, none⟩) l capb) := c1
              have k0 : w9.drew.cell? ⟨gr, q * 3, none⟩ = some (.int .u32 x0) := k0
              have k1 : w9.drew.cell? ⟨gr, q * 3 + 1, none⟩ = some (.int .u32 x1) := k1
              have k2 : w9.drew.cell? ⟨gr, q * 3 + 2, none⟩ = some (.int .u32 x2) := k2
              have b0 : w9.drew.cell? ⟨gb, q, none⟩ = some (.int .u8 0) := b0
              obtain ⟨S16, hSe⟩ : ∃ S : Array Bool → World → Prop, S = fun _ w' => Below w9.drew.heap.size w9.drew w' := ⟨_, rfl⟩
              have hdrop : ∀ i : Nat, ∀ L w', S16 (L.setIfInBounds i true) w' → S16 L w' := by
                intro i L w' h; rw [hSe] at h ⊢; exact h
              have hS : ∀ L, S16 L w9.drew := by intro L; rw [hSe]; exact Below.refl _ _
              have hSo : ∀ {L w'}, S16 L w' → Below w9.drew.heap.size w9.drew w' := by intro L w' h; rw [hSe] at h; exact h
              have hSi : ∀ {w'}, Below w9.drew.heap.size w9.drew w' → ∀ L, S16 L w' := by intro w' h L; rw [hSe]; exact h
              clear hSe
              refine wp_region_LN S16 31 #[false, false, false, false, false, false, false, false, false, false, false, false, false, false, false, false, false, false, false, false, false, false, false, false, false, false, false, false, false, false, false] (by kernel_rfl) (by kernel_rfl) rfl ?_
              obtain ⟨X16, hX16⟩ : ∃ X16, X16 = w9.drew := ⟨_, rfl⟩
              rw [← hX16] at n0_ n1_ n2_ c0 c1 k0 k1 k2 b0 hSo hS hSi ⊢
              have HX16 := Lib.hid hX16
              clear hX16
              refine WA.take (i := 0) (v := .agg #[.int .u32 x0, .int .u32 x1, .int .u32 x2]) rfl (by kernel_rfl) (by kernel_rfl) (by kernel_rfl) (fun _ _ _ h => h) (hdrop 0) (Or.inl ⟨by rfl, ?_⟩) (hS _) ?_
              · rintro w' ⟨L, hL, hSw, hun⟩
                have hbw := hSo hSw
                have n0_ := cell_later hbw n0_
                have n1_ := cell_later hbw n1_
                have n2_ := cell_later hbw n2_
                clear hbw
                go_simp
              simp only [List.getElem_toArray, List.getElem_cons_zero, List.getElem_cons_succ, Act.put, List.setIfInBounds_toArray, List.set_cons_zero, List.set_cons_succ]
              refine WA.take (i := 1) (v := .pointer (some ⟨rb, 0, none⟩)) rfl (by kernel_rfl) (by kernel_rfl) (by kernel_rfl) (fun _ _ _ h => h) (hdrop 1) (Or.inl ⟨by rfl, ?_⟩) (hS _) ?_
              · rintro w' ⟨L, hL, hSw, hun⟩
                go_simp
              simp only [List.getElem_toArray, List.getElem_cons_zero, List.getElem_cons_succ, Act.put, List.setIfInBounds_toArray, List.set_cons_zero, List.set_cons_succ]
              refine WA.take (i := 2) (v := .pointer (some ⟨rb, 0, none⟩)) rfl (by kernel_rfl) (by kernel_rfl) (by kernel_rfl) (fun _ _ _ h => h) (hdrop 2) (Or.inl ⟨by rfl, ?_⟩) (hS _) ?_
              · rintro w' ⟨L, hL, hSw, hun⟩
                go_simp
              simp only [List.getElem_toArray, List.getElem_cons_zero, List.getElem_cons_succ, Act.put, List.setIfInBounds_toArray, List.set_cons_zero, List.set_cons_succ]
              refine WA.take (i := 3) (v := .pointer (some ⟨rb, 0, none⟩)) rfl (by kernel_rfl) (by kernel_rfl) (by kernel_rfl) (fun _ _ _ h => h) (hdrop 3) (Or.inl ⟨by rfl, ?_⟩) (hS _) ?_
              · rintro w' ⟨L, hL, hSw, hun⟩
                go_simp
              simp only [List.getElem_toArray, List.getElem_cons_zero, List.getElem_cons_succ, Act.put, List.setIfInBounds_toArray, List.set_cons_zero, List.set_cons_succ]
              refine WA.take (i := 4) (v := .slice (some ⟨gr, 0, none⟩) l capr) rfl (by kernel_rfl) (by kernel_rfl) (by kernel_rfl) (fun _ _ _ h => h) (hdrop 4) (Or.inl ⟨by rfl, ?_⟩) (hS _) ?_
              · rintro w' ⟨L, hL, hSw, hun⟩
                have hbw := hSo hSw
                have c0 := cell_later hbw c0
                clear hbw
                go_simp
              simp only [List.getElem_toArray, List.getElem_cons_zero, List.getElem_cons_succ, Act.put, List.setIfInBounds_toArray, List.set_cons_zero, List.set_cons_succ]
              refine WA.take (i := 5) (v := .int .i64 ((q : Nat) : Int)) rfl (by kernel_rfl) (by kernel_rfl) (by kernel_rfl) (fun _ _ _ h => h) (hdrop 5) (Or.inl ⟨by rfl, ?_⟩) (hS _) ?_
              · rintro w' ⟨L, hL, hSw, hun⟩
                go_simp
              simp only [List.getElem_toArray, List.getElem_cons_zero, List.getElem_cons_succ, Act.put, List.setIfInBounds_toArray, List.set_cons_zero, List.set_cons_succ]
              refine WA.take (i := 6) (v := .pointer (some ⟨gr, q * 3, none⟩)) rfl (by kernel_rfl) (by kernel_rfl) (by kernel_rfl) (fun _ _ _ h => h) (hdrop 6) (Or.inl ⟨by rfl, ?_⟩) (hS _) ?_
              · rintro w' ⟨L, hL, hSw, hun⟩
                go_simp
              simp only [List.getElem_toArray, List.getElem_cons_zero, List.getElem_cons_succ, Act.put, List.setIfInBounds_toArray, List.set_cons_zero, List.set_cons_succ]
              refine WA.take (i := 7) (v := .agg #[.int .u32 x0, .int .u32 x1, .int .u32 x2]) rfl (by kernel_rfl) (by kernel_rfl) (by kernel_rfl) (fun _ _ _ h => h) (hdrop 7) (Or.inl ⟨by rfl, ?_⟩) (hS _) ?_
              · rintro w' ⟨L, hL, hSw, hun⟩
                have hbw := hSo hSw
                have k0 := cell_later hbw k0
                have k1 := cell_later hbw k1
                have k2 := cell_later hbw k2
                clear hbw
                go_simp
              simp only [List.getElem_toArray, List.getElem_cons_zero, List.getElem_cons_succ, Act.put, List.setIfInBounds_toArray, List.set_cons_zero, List.set_cons_succ]
              refine WA.take (i := 8) (v := .bool false) rfl (by kernel_rfl) (by kernel_rfl) (by kernel_rfl) (fun _ _ _ h => h) (hdrop 8) (Or.inl ⟨by rfl, ?_⟩) (hS _) ?_
              · rintro w' ⟨L, hL, hSw, hun⟩
                go_simp
              simp only [List.getElem_toArray, List.getElem_cons_zero, List.getElem_cons_succ, Act.put, List.setIfInBounds_toArray, List.set_cons_zero, List.set_cons_succ]
              refine WA.take (i := 9) (v := .bool false) rfl (by kernel_rfl) (by kernel_rfl) (by kernel_rfl) (fun _ _ _ h => h) (hdrop 9) (Or.inl ⟨by rfl, ?_⟩) (hS _) ?_
              · rintro w' ⟨L, hL, hSw, hun⟩
                go_simp
              simp only [List.getElem_toArray, List.getElem_cons_zero, List.getElem_cons_succ, Act.put, List.setIfInBounds_toArray, List.set_cons_zero, List.set_cons_succ]
              refine WA.take (i := 10) (v := .int .u8 0) rfl (by kernel_rfl) (by kernel_rfl) (by kernel_rfl) (fun _ _ _ h => h) (hdrop 10) (Or.inl ⟨by rfl, ?_⟩) (hS _) ?_
              · rintro w' ⟨L, hL, hSw, hun⟩
                go_simp
              simp only [List.getElem_toArray, List.getElem_cons_zero, List.getElem_cons_succ, Act.put, List.setIfInBounds_toArray, List.set_cons_zero, List.set_cons_succ]
              refine WA.take (i := 11) (v := .pointer (some ⟨rb, 0, none⟩)) rfl (by kernel_rfl) (by kernel_rfl) (by kernel_rfl) (fun _ _ _ h => h) (hdrop 11) (Or.inl ⟨by rfl, ?_⟩) (hS _) ?_
              · rintro w' ⟨L, hL, hSw, hun⟩
                go_simp
              simp only [List.getElem_toArray, List.getElem_cons_zero, List.getElem_cons_succ, Act.put, List.setIfInBounds_toArray, List.set_cons_zero, List.set_cons_succ]
              refine WA.take (i := 12) (v := .pointer (some ⟨rb, 0, none⟩)) rfl (by kernel_rfl) (by kernel_rfl) (by kernel_rfl) (fun _ _ _ h => h) (hdrop 12) (Or.inl ⟨by rfl, ?_⟩) (hS _) ?_
              · rintro w' ⟨L, hL, hSw, hun⟩
                go_simp
              simp only [List.getElem_toArray, List.getElem_cons_zero, List.getElem_cons_succ, Act.put, List.setIfInBounds_toArray, List.set_cons_zero, List.set_cons_succ]
              refine WA.take (i := 13) (v := .pointer (some ⟨rb, 1, none⟩)) rfl (by kernel_rfl) (by kernel_rfl) (by kernel_rfl) (fun _ _ _ h => h) (hdrop 13) (Or.inl ⟨by rfl, ?_⟩) (hS _) ?_
              · rintro w' ⟨L, hL, hSw, hun⟩
                go_simp
              simp only [List.getElem_toArray, List.getElem_cons_zero, List.getElem_cons_succ, Act.put, List.setIfInBounds_toArray, List.set_cons_zero, List.set_cons_succ]
              refine WA.take (i := 14) (v := .slice (some ⟨gb, 0, none⟩) l capb) rfl (by kernel_rfl) (by kernel_rfl) (by kernel_rfl) (fun _ _ _ h => h) (hdrop 14) (Or.inl ⟨by rfl, ?_⟩) (hS _) ?_
              · rintro w' ⟨L, hL, hSw, hun⟩
                have hbw := hSo hSw
                have c1 := cell_later hbw c1
                clear hbw
                go_simp
              simp only [List.getElem_toArray, List.getElem_cons_zero, List.getElem_cons_succ, Act.put, List.setIfInBounds_toArray, List.set_cons_zero, List.set_cons_succ]
              refine WA.take (i := 15) (v := .int .i64 ((q : Nat) : Int)) rfl (by kernel_rfl) (by kernel_rfl) (by kernel_rfl) (fun _ _ _ h => h) (hdrop 15) (Or.inl ⟨by rfl, ?_⟩) (hS _) ?_
              · rintro w' ⟨L, hL, hSw, hun⟩
                go_simp
              simp only [List.getElem_toArray, List.getElem_cons_zero, List.getElem_cons_succ, Act.put, List.setIfInBounds_toArray, List.set_cons_zero, List.set_cons_succ]
              refine WA.take (i := 16) (v := .pointer (some ⟨gb, q, none⟩)) rfl (by kernel_rfl) (by kernel_rfl) (by kernel_rfl) (fun _ _ _ h => h) (hdrop 16) (Or.inl ⟨by rfl, ?_⟩) (hS _) ?_
              · rintro w' ⟨L, hL, hSw, hun⟩
                go_simp
              simp only [List.getElem_toArray, List.getElem_cons_zero, List.getElem_cons_succ, Act.put, List.setIfInBounds_toArray, List.set_cons_zero, List.set_cons_succ]
              refine WA.take (i := 17) (v := .int .u8 0) rfl (by kernel_rfl) (by kernel_rfl) (by kernel_rfl) (fun _ _ _ h => h) (hdrop 17) (Or.inl ⟨by rfl, ?_⟩) (hS _) ?_
              · rintro w' ⟨L, hL, hSw, hun⟩
                have hbw := hSo hSw
                have b0 := cell_later hbw b0
                clear hbw
                go_simp
              simp only [List.getElem_toArray, List.getElem_cons_zero, List.getElem_cons_succ, Act.put, List.setIfInBounds_toArray, List.set_cons_zero, List.set_cons_succ]
              refine WA.take (i := 18) (v := .bool false) rfl (by kernel_rfl) (by kernel_rfl) (by kernel_rfl) (fun _ _ _ h => h) (hdrop 18) (Or.inl ⟨by rfl, ?_⟩) (hS _) ?_
              · rintro w' ⟨L, hL, hSw, hun⟩
                go_simp
              simp only [List.getElem_toArray, List.getElem_cons_zero, List.getElem_cons_succ, Act.put, List.setIfInBounds_toArray, List.set_cons_zero, List.set_cons_succ]
              refine WA.take (i := 19) (v := .bool false) rfl (by kernel_rfl) (by kernel_rfl) (by kernel_rfl) (fun _ _ _ h => h) (hdrop 19) (Or.inl ⟨by rfl, ?_⟩) (hS _) ?_
              · rintro w' ⟨L, hL, hSw, hun⟩
                go_simp
              simp only [List.getElem_toArray, List.getElem_cons_zero, List.getElem_cons_succ, Act.put, List.setIfInBounds_toArray, List.set_cons_zero, List.set_cons_succ]
              refine WA.take (i := 20) (v := .bool false) rfl (by kernel_rfl) (by kernel_rfl) (by kernel_rfl) (fun _ _ _ h => h) (hdrop 20) (Or.inl ⟨by rfl, ?_⟩) (hS _) ?_
              · rintro w' ⟨L, hL, hSw, hun⟩
                go_simp
              simp only [List.getElem_toArray, List.getElem_cons_zero, List.getElem_cons_succ, Act.put, List.setIfInBounds_toArray, List.set_cons_zero, List.set_cons_succ]
              refine WA.take (i := 21) (v := .int .u8 0) rfl (by kernel_rfl) (by kernel_rfl) (by kernel_rfl) (fun _ _ _ h => h) (hdrop 21) (Or.inl ⟨by rfl, ?_⟩) (hS _) ?_
              · rintro w' ⟨L, hL, hSw, hun⟩
                go_simp
              simp only [List.getElem_toArray, List.getElem_cons_zero, List.getElem_cons_succ, Act.put, List.setIfInBounds_toArray, List.set_cons_zero, List.set_cons_succ]
              refine WA.take (i := 22) (v := .bool false) rfl (by kernel_rfl) (by kernel_rfl) (by kernel_rfl) (fun _ _ _ h => h) (hdrop 22) (Or.inl ⟨by rfl, ?_⟩) (hS _) ?_
              · rintro w' ⟨L, hL, hSw, hun⟩
                go_simp
              simp only [List.getElem_toArray, List.getElem_cons_zero, List.getElem_cons_succ, Act.put, List.setIfInBounds_toArray, List.set_cons_zero, List.set_cons_succ]
              refine WA.take (i := 23) (v := .bool false) rfl (by kernel_rfl) (by kernel_rfl) (by kernel_rfl) (fun _ _ _ h => h) (hdrop 23) (Or.inl ⟨by rfl, ?_⟩) (hS _) ?_
              · rintro w' ⟨L, hL, hSw, hun⟩
                go_simp
              simp only [List.getElem_toArray, List.getElem_cons_zero, List.getElem_cons_succ, Act.put, List.setIfInBounds_toArray, List.set_cons_zero, List.set_cons_succ]
              refine WA.take (i := 24) (v := undef) rfl (by kernel_rfl) (by kernel_rfl) (by kernel_rfl) (fun _ _ _ h => h) (hdrop 24) (Or.inr ⟨by rfl, rfl⟩) (hS _) ?_
              simp only [List.getElem_toArray, List.getElem_cons_zero, List.getElem_cons_succ, Act.put, List.setIfInBounds_toArray, List.set_cons_zero, List.set_cons_succ]
              refine WA.take (i := 25) (v := undef) rfl (by kernel_rfl) (by kernel_rfl) (by kernel_rfl) (fun _ _ _ h => h) (hdrop 25) (Or.inr ⟨by rfl, rfl⟩) (hS _) ?_
              simp only [List.getElem_toArray, List.getElem_cons_zero, List.getElem_cons_succ, Act.put, List.setIfInBounds_toArray, List.set_cons_zero, List.set_cons_succ]
              refine WA.take (i := 27) (v := undef) rfl (by kernel_rfl) (by kernel_rfl) (by kernel_rfl) (fun _ _ _ h => h) (hdrop 27) (Or.inr ⟨by rfl, rfl⟩) (hS _) ?_
              simp only [List.getElem_toArray, List.getElem_cons_zero, List.getElem_cons_succ, Act.put, List.setIfInBounds_toArray, List.set_cons_zero, List.set_cons_succ]
              refine WA.skip (i := 26) (by kernel_rfl) rfl (by rfl) (hS _) ?_
              simp only [List.getElem_toArray, List.getElem_cons_zero, List.getElem_cons_succ, Act.put, List.setIfInBounds_toArray, List.set_cons_zero, List.set_cons_succ]
              refine WA.take (i := 28) (v := undef) rfl (by kernel_rfl) (by kernel_rfl) (by kernel_rfl) (fun _ _ _ h => h) (hdrop 28) (Or.inr ⟨by rfl, rfl⟩) (hS _) ?_
              simp only [List.getElem_toArray, List.getElem_cons_zero, List.getElem_cons_succ, Act.put, List.setIfInBounds_toArray, List.set_cons_zero, List.set_cons_succ]
              refine WA.take (i := 29) (v := .bool false) rfl (by kernel_rfl) (by kernel_rfl) (by kernel_rfl) (fun _ _ _ h => h) (hdrop 29) (Or.inl ⟨by rfl, ?_⟩) (hS _) ?_
              · rintro w' ⟨L, hL, hSw, hun⟩
                go_simp
              simp only [List.getElem_toArray, List.getElem_cons_zero, List.getElem_cons_succ, Act.put, List.setIfInBounds_toArray, List.set_cons_zero, List.set_cons_succ]
              refine WA.take (i := 30) (v := .bool false) rfl (by kernel_rfl) (by kernel_rfl) (by kernel_rfl) (fun _ _ _ h => h) (hdrop 30) (Or.inl ⟨by rfl, ?_⟩) (hS _) ?_
              · rintro w' ⟨L, hL, hSw, hun⟩
                go_simp
              simp only [List.getElem_toArray, List.getElem_cons_zero, List.getElem_cons_succ, Act.put, List.setIfInBounds_toArray, List.set_cons_zero, List.set_cons_succ]
              refine WA.done (by kernel_rfl) ?_ _
              refine Nrm.normal ?_
              clear hSo hS hSi hdrop n0_ n1_ n2_ c0 c1 k0 k1 k2 b0
              clear S16
              go_wp2_with fail
              go_roundw
              case rel => exact ⟨q + 1, by omega, by push_cast; rfl, by rw [HX16.out]; exact HB69.out.drew⟩
              case measure => simp [intOf]; omega
            · have hoe : own (x0, x1, x2) = (x0, x1, x2) := Hcq.out hb0
              have hqb : (b != 0) = true := by simp [hb0]
              have Hoe := Lib.hid hoe
              clear hoe hb0
              have n0_ : w9.drew.cell? ⟨xb, 0, none⟩ = some (.int .u32 x0) := n0_
              have n1_ : w9.drew.cell? ⟨xb, 1, none⟩ = some (.int .u32 x1) := n1_
              have n2_ : w9.drew.cell? ⟨xb, 2, none⟩ = some (.int .u32 x2) := n2_
              have c0 : w9.drew.cell? ⟨rb, 0, none⟩ = some (.slice (some ⟨gr, 0, none⟩) l capr) := c0
              have c1 : w9.drew.cell? ⟨rb, 1, none⟩ = some (.slice (some ⟨gb, 0, none⟩) l capb) := c1
              have k0 : w9.drew.cell? ⟨gr, q * 3, none⟩ = some (.int .u32 x0) := k0
              have k1 : w9.drew.cell? ⟨gr, q * 3 + 1, none⟩ = some (.int .u32 x1) := k1
              have k2 : w9.drew.cell? ⟨gr, q * 3 + 2, none⟩ = some (.int .u32 x2) := k2
              have b0 : w9.drew.cell? ⟨gb, q, none⟩ = some (.int .u8 b) := b0
              obtain ⟨S16, hSe⟩ : ∃ S : Array Bool → World → Prop, S = fun _ w' => Below w9.drew.heap.size w9.drew w' := ⟨_, rfl⟩
              have hdrop : ∀ i : Nat, ∀ L w', S16 (L.setIfInBounds i true) w' → S16 L w' := by
                intro i L w' h; rw [hSe] at h ⊢; exact h
              have hS : ∀ L, S16 L w9.drew := by intro L; rw [hSe]; exact Below.refl _ _
              have hSo : ∀ {L w'}, S16 L w' → Below w9.drew.heap.size w9.drew w' := by intro L w' h; rw [hSe] at h; exact h
              have hSi : ∀ {w'}, Below w9.drew.heap.size w9.drew w' → ∀ L, S16 L w' := by intro w' h L; rw [hSe]; exact h
              clear hSe
              refine wp_region_LN S16 31 #[false, false, false, false, false, false, false, false, false, false, false, false, false, false, false, false, false, false, false, false, false, false, false, false, false, false, false, false, false, false, false] (by kernel_rfl) (by kernel_rfl) rfl ?_
              obtain ⟨X16, hX16⟩ : ∃ X16, X16 = w9.drew := ⟨_, rfl⟩
              rw [← hX16] at n0_ n1_ n2_ c0 c1 k0 k1 k2 b0 hSo hS hSi ⊢
              have HX16 := Lib.hid hX16
              clear hX16
              refine WA.take (i := 0) (v := .agg #[.int .u32 x0, .int .u32 x1, .int .u32 x2]) rfl (by kernel_rfl) (by kernel_rfl) (by kernel_rfl) (fun _ _ _ h => h) (hdrop 0) (Or.inl ⟨by rfl, ?_⟩) (hS _) ?_
              · rintro w' ⟨L, hL, hSw, hun⟩
                have hbw := hSo hSw
                have n0_ := cell_later hbw n0_
                have n1_ := cell_later hbw n1_
                have n2_ := cell_later hbw n2_
                clear hbw
                go_simp
              simp only [List.getElem_toArray, List.getElem_cons_zero, List.getElem_cons_succ, Act.put, List.setIfInBounds_toArray, List.set_cons_zero, List.set_cons_succ]
              refine WA.take (i := 1) (v := .pointer (some ⟨rb, 0, none⟩)) rfl (by kernel_rfl) (by kernel_rfl) (by kernel_rfl) (fun _ _ _ h => h) (hdrop 1) (Or.inl ⟨by rfl, ?_⟩) (hS _) ?_
              · rintro w' ⟨L, hL, hSw, hun⟩
                go_simp
              simp only [List.getElem_toArray, List.getElem_cons_zero, List.getElem_cons_succ, Act.put, List.setIfInBounds_toArray, List.set_cons_zero, List.set_cons_succ]
              refine WA.take (i := 2) (v := .pointer (some ⟨rb, 0, none⟩)) rfl (by kernel_rfl) (by kernel_rfl) (by kernel_rfl) (fun _ _ _ h => h) (hdrop 2) (Or.inl ⟨by rfl, ?_⟩) (hS _) ?_
              · rintro w' ⟨L, hL, hSw, hun⟩
                go_simp
              simp only [List.getElem_toArray, List.getElem_cons_zero, List.getElem_cons_succ, Act.put, List.setIfInBounds_toArray, List.set_cons_zero, List.set_cons_succ]
              refine WA.take (i := 3) (v := .pointer (some ⟨rb, 0, none⟩)) rfl (by kernel_rfl) (by kernel_rfl) (by kernel_rfl) (fun _ _ _ h => h) (hdrop 3) (Or.inl ⟨by rfl, ?_⟩) (hS _) ?_
              · rintro w' ⟨L, hL, hSw, hun⟩
                go_simp
              simp only [List.getElem_toArray, List.getElem_cons_zero, List.getElem_cons_succ, Act.put, List.setIfInBounds_toArray, List.set_cons_zero, List.set_cons_succ]
              refine WA.take (i := 4) (v := .slice (some ⟨gr, 0, none⟩) l capr) rfl (by kernel_rfl) (by kernel_rfl) (by kernel_rfl) (fun _ _ _ h => h) (hdrop 4) (Or.inl ⟨by rfl, ?_⟩) (hS _) ?_
              · rintro w' ⟨L, hL, hSw, hun⟩
                have hbw := hSo hSw
                have c0 := cell_later hbw c0
                clear hbw
                go_simp
              simp only [List.getElem_toArray, List.getElem_cons_zero, List.getElem_cons_succ, Act.put, List.setIfInBounds_toArray, List.set_cons_zero, List.set_cons_succ]
              refine WA.take (i := 5) (v := .int .i64 ((q : Nat) : Int)) rfl (by kernel_rfl) (by kernel_rfl) (by kernel_rfl) (fun _ _ _ h => h) (hdrop 5) (Or.inl ⟨by rfl, ?_⟩) (hS _) ?_
              · rintro w' ⟨L, hL, hSw, hun⟩
                go_simp
              simp only [List.getElem_toArray, List.getElem_cons_zero, List.getElem_cons_succ, Act.put, List.setIfInBounds_toArray, List.set_cons_zero, List.set_cons_succ]
              refine WA.take (i := 6) (v := .pointer (some ⟨gr, q * 3, none⟩)) rfl (by kernel_rfl) (by kernel_rfl) (by kernel_rfl) (fun _ _ _ h => h) (hdrop 6) (Or.inl ⟨by rfl, ?_⟩) (hS _) ?_
              · rintro w' ⟨L, hL, hSw, hun⟩
                go_simp
              simp only [List.getElem_toArray, List.getElem_cons_zero, List.getElem_cons_succ, Act.put, List.setIfInBounds_toArray, List.set_cons_zero, List.set_cons_succ]
              refine WA.take (i := 7) (v := .agg #[.int .u32 x0, .int .u32 x1, .int .u32 x2]) rfl (by kernel_rfl) (by kernel_rfl) (by kernel_rfl) (fun _ _ _ h => h) (hdrop 7) (Or.inl ⟨by rfl, ?_⟩) (hS _) ?_
              · rintro w' ⟨L, hL, hSw, hun⟩
                have hbw := hSo hSw
                have k0 := cell_later hbw k0
                have k1 := cell_later hbw k1
                have k2 := cell_later hbw k2
                clear hbw
                go_simp
              simp only [List.getElem_toArray, List.getElem_cons_zero, List.getElem_cons_succ, Act.put, List.setIfInBounds_toArray, List.set_cons_zero, List.set_cons_succ]
              refine WA.take (i := 8) (v := .bool false) rfl (by kernel_rfl) (by kernel_rfl) (by kernel_rfl) (fun _ _ _ h => h) (hdrop 8) (Or.inl ⟨by rfl, ?_⟩) (hS _) ?_
              · rintro w' ⟨L, hL, hSw, hun⟩
                go_simp
              simp only [List.getElem_toArray, List.getElem_cons_zero, List.getElem_cons_succ, Act.put, List.setIfInBounds_toArray, List.set_cons_zero, List.set_cons_succ]
              refine WA.take (i := 9) (v := .bool false) rfl (by kernel_rfl) (by kernel_rfl) (by kernel_rfl) (fun _ _ _ h => h) (hdrop 9) (Or.inl ⟨by rfl, ?_⟩) (hS _) ?_
              · rintro w' ⟨L, hL, hSw, hun⟩
                go_simp
              simp only [List.getElem_toArray, List.getElem_cons_zero, List.getElem_cons_succ, Act.put, List.setIfInBounds_toArray, List.set_cons_zero, List.set_cons_succ]
              refine WA.take (i := 10) (v := .int .u8 b) rfl (by kernel_rfl) (by kernel_rfl) (by kernel_rfl) (fun _ _ _ h => h) (hdrop 10) (Or.inl ⟨by rfl, ?_⟩) (hS _) ?_
              · rintro w' ⟨L, hL, hSw, hun⟩
                go_simp
              simp only [List.getElem_toArray, List.getElem_cons_zero, List.getElem_cons_succ, Act.put, List.setIfInBounds_toArray, List.set_cons_zero, List.set_cons_succ]
              refine WA.take (i := 11) (v := .pointer (some ⟨rb, 0, none⟩)) rfl (by kernel_rfl) (by kernel_rfl) (by kernel_rfl) (fun _ _ _ h => h) (hdrop 11) (Or.inl ⟨by rfl, ?_⟩) (hS _) ?_
              · rintro w' ⟨L, hL, hSw, hun⟩
                go_simp
              simp only [List.getElem_toArray, List.getElem_cons_zero, List.getElem_cons_succ, Act.put, List.setIfInBounds_toArray, List.set_cons_zero, List.set_cons_succ]
              refine WA.take (i := 12) (v := .pointer (some ⟨rb, 0, none⟩)) rfl (by kernel_rfl) (by kernel_rfl) (by kernel_rfl) (fun _ _ _ h => h) (hdrop 12) (Or.inl ⟨by rfl, ?_⟩) (hS _) ?_
              · rintro w' ⟨L, hL, hSw, hun⟩
                go_simp
              simp only [List.getElem_toArray, List.getElem_cons_zero, List.getElem_cons_succ, Act.put, List.setIfInBounds_toArray, List.set_cons_zero, List.set_cons_succ]
              refine WA.take (i := 13) (v := .pointer (some ⟨rb, 1, none⟩)) rfl (by kernel_rfl) (by kernel_rfl) (by kernel_rfl) (fun _ _ _ h => h) (hdrop 13) (Or.inl ⟨by rfl, ?_⟩) (hS _) ?_
              · rintro w' ⟨L, hL, hSw, hun⟩
                go_simp
              simp only [List.getElem_toArray, List.getElem_cons_zero, List.getElem_cons_succ, Act.put, List.setIfInBounds_toArray, List.set_cons_zero, List.set_cons_succ]
              refine WA.take (i := 14) (v := .slice (some ⟨gb, 0, none⟩) l capb) rfl (by kernel_rfl) (by kernel_rfl) (by kernel_rfl) (fun _ _ _ h => h) (hdrop 14) (Or.inl ⟨by rfl, ?_⟩) (hS _) ?_
              · rintro w' ⟨L, hL, hSw, hun⟩
                have hbw := hSo hSw
                have c1 := cell_later hbw c1
                clear hbw
                go_simp
              simp only [List.getElem_toArray, List.getElem_cons_zero, List.getElem_cons_succ, Act.put, List.setIfInBounds_toArray, List.set_cons_zero, List.set_cons_succ]
              refine WA.take (i := 15) (v := .int .i64 ((q : Nat) : Int)) rfl (by kernel_rfl) (by kernel_rfl) (by kernel_rfl) (fun _ _ _ h => h) (hdrop 15) (Or.inl ⟨by rfl, ?_⟩) (hS _) ?_
              · rintro w' ⟨L, hL, hSw, hun⟩
                go_simp
              simp only [List.getElem_toArray, List.getElem_cons_zero, List.getElem_cons_succ, Act.put, List.setIfInBounds_toArray, List.set_cons_zero, List.set_cons_succ]
              refine WA.take (i := 16) (v := .pointer (some ⟨gb, q, none⟩)) rfl (by kernel_rfl) (by kernel_rfl) (by kernel_rfl) (fun _ _ _ h => h) (hdrop 16) (Or.inl ⟨by rfl, ?_⟩) (hS _) ?_
              · rintro w' ⟨L, hL, hSw, hun⟩
                go_simp
              simp only [List.getElem_toArray, List.getElem_cons_zero, List.getElem_cons_succ, Act.put, List.setIfInBounds_toArray, List.set_cons_zero, List.set_cons_succ]
              refine WA.take (i := 17) (v := .int .u8 b) rfl (by kernel_rfl) (by kernel_rfl) (by kernel_rfl) (fun _ _ _ h => h) (hdrop 17) (Or.inl ⟨by rfl, ?_⟩) (hS _) ?_
              · rintro w' ⟨L, hL, hSw, hun⟩
                have hbw := hSo hSw
                have b0 := cell_later hbw b0
                clear hbw
                go_simp
              simp only [List.getElem_toArray, List.getElem_cons_zero, List.getElem_cons_succ, Act.put, List.setIfInBounds_toArray, List.set_cons_zero, List.set_cons_succ]
              refine WA.take (i := 18) (v := .bool false) rfl (by kernel_rfl) (by kernel_rfl) (by kernel_rfl) (fun _ _ _ h => h) (hdrop 18) (Or.inl ⟨by rfl, ?_⟩) (hS _) ?_
              · rintro w' ⟨L, hL, hSw, hun⟩
                go_simp
              simp only [List.getElem_toArray, List.getElem_cons_zero, List.getElem_cons_succ, Act.put, List.setIfInBounds_toArray, List.set_cons_zero, List.set_cons_succ]
              refine WA.take (i := 19) (v := .bool false) rfl (by kernel_rfl) (by kernel_rfl) (by kernel_rfl) (fun _ _ _ h => h) (hdrop 19) (Or.inl ⟨by rfl, ?_⟩) (hS _) ?_
              · rintro w' ⟨L, hL, hSw, hun⟩
                go_simp
              simp only [List.getElem_toArray, List.getElem_cons_zero, List.getElem_cons_succ, Act.put, List.setIfInBounds_toArray, List.set_cons_zero, List.set_cons_succ]
              refine WA.take (i := 20) (v := .bool false) rfl (by kernel_rfl) (by kernel_rfl) (by kernel_rfl) (fun _ _ _ h => h) (hdrop 20) (Or.inl ⟨by rfl, ?_⟩) (hS _) ?_
              · rintro w' ⟨L, hL, hSw, hun⟩
                go_simp
              simp only [List.getElem_toArray, List.getElem_cons_zero, List.getElem_cons_succ, Act.put, List.setIfInBounds_toArray, List.set_cons_zero, List.set_cons_succ]
              refine WA.take (i := 21) (v := .int .u8 b) rfl (by kernel_rfl) (by kernel_rfl) (by kernel_rfl) (fun _ _ _ h => h) (hdrop 21) (Or.inl ⟨by rfl, ?_⟩) (hS _) ?_
              · rintro w' ⟨L, hL, hSw, hun⟩
                go_simp
              simp only [List.getElem_toArray, List.getElem_cons_zero, List.getElem_cons_succ, Act.put, List.setIfInBounds_toArray, List.set_cons_zero, List.set_cons_succ]
              refine WA.take (i := 22) (v := .bool true) rfl (by kernel_rfl) (by kernel_rfl) (by kernel_rfl) (fun _ _ _ h => h) (hdrop 22) (Or.inl ⟨by rfl, ?_⟩) (hS _) ?_
              · rintro w' ⟨L, hL, hSw, hun⟩
                go_simp
              simp only [List.getElem_toArray, List.getElem_cons_zero, List.getElem_cons_succ, Act.put, List.setIfInBounds_toArray, List.set_cons_zero, List.set_cons_succ]
              refine WA.take (i := 23) (v := .bool true) rfl (by kernel_rfl) (by kernel_rfl) (by kernel_rfl) (fun _ _ _ h => h) (hdrop 23) (Or.inl ⟨by rfl, ?_⟩) (hS _) ?_
              · rintro w' ⟨L, hL, hSw, hun⟩
                go_simp
              simp only [List.getElem_toArray, List.getElem_cons_zero, List.getElem_cons_succ, Act.put, List.setIfInBounds_toArray, List.set_cons_zero, List.set_cons_succ]
              refine WA.take (i := 24) (v := .pointer (some ⟨pb, 0, none⟩)) rfl (by kernel_rfl) (by kernel_rfl) (by kernel_rfl) (fun _ _ _ h => h) (hdrop 24) (Or.inl ⟨by rfl, ?_⟩) (hS _) ?_
              · rintro w' ⟨L, hL, hSw, hun⟩
                go_simp
              simp only [List.getElem_toArray, List.getElem_cons_zero, List.getElem_cons_succ, Act.put, List.setIfInBounds_toArray, List.set_cons_zero, List.set_cons_succ]
              refine WA.take (i := 25) (v := .agg #[.int .u32 x0, .int .u32 x1, .int .u32 x2]) rfl (by kernel_rfl) (by kernel_rfl) (by kernel_rfl) (fun _ _ _ h => h) (hdrop 25) (Or.inl ⟨by rfl, ?_⟩) (hS _) ?_
              · rintro w' ⟨L, hL, hSw, hun⟩
                have hbw := hSo hSw
                have n0_ := cell_later hbw n0_
                have n1_ := cell_later hbw n1_
                have n2_ := cell_later hbw n2_
                clear hbw
                go_simp
              simp only [List.getElem_toArray, List.getElem_cons_zero, List.getElem_cons_succ, Act.put, List.setIfInBounds_toArray, List.set_cons_zero, List.set_cons_succ]
              refine WA.take (i := 27) (v := .agg #[.int .u32 x0, .int .u32 x1, .int .u32 x2]) rfl (by kernel_rfl) (by kernel_rfl) (by kernel_rfl) (fun _ _ _ h => h) (hdrop 27) (Or.inl ⟨by rfl, ?_⟩) (hS _) ?_
              · rintro w' ⟨L, hL, hSw, hun⟩
                have hbw := hSo hSw
                have n0_ := cell_later hbw n0_
                have n1_ := cell_later hbw n1_
                have n2_ := cell_later hbw n2_
                clear hbw
                go_simp
              simp only [List.getElem_toArray, List.getElem_cons_zero, List.getElem_cons_succ, Act.put, List.setIfInBounds_toArray, List.set_cons_zero, List.set_cons_succ]
              refine WA.one (i := 26) (by kernel_rfl) rfl (by rfl) (fun K hK => ?_)
              go_simp
              refine (own_any (w := X16) (by rw [HX16.out]; exact HQ9.out) Hyok.out.1.1 Hyok.out.1.2.1 Hyok.out.1.2.2).mono ?_
              rintro e w26 ⟨y0, y1, y2, rfl, ⟨hy0, hy1, hy2⟩, hB_⟩
              obtain ⟨o0, o1, o2⟩ := Hown.out (x0, x1, x2) Hyok.out.1
              rw [Hoe.out] at o0 o1 o2
              obtain rfl := (hy0.unique o0).symm
              obtain rfl := (hy1.unique o1).symm
              obtain rfl := (hy2.unique o2).symm
              have HB26 := Lib.hid hB_
              clear hy0 hy1 hy2 o0 o1 o2 hB_
              refine hK _ _ (hSi HB26.out _) ?_
              clear hK
              try simp only [List.getElem_toArray, List.getElem_cons_zero, List.getElem_cons_succ, Act.put, List.setIfInBounds_toArray, List.set_cons_zero, List.set_cons_succ]
              refine WA.take (i := 28) (v := .bool false) rfl (by kernel_rfl) (by kernel_rfl) (by kernel_rfl) (fun _ _ _ h => h) (hdrop 28) (Or.inl ⟨by rfl, ?_⟩) (hSi HB26.out _) ?_
              · rintro w' ⟨L, hL, hSw, hun⟩
                go_simp
              simp only [List.getElem_toArray, List.getElem_cons_zero, List.getElem_cons_succ, Act.put, List.setIfInBounds_toArray, List.set_cons_zero, List.set_cons_succ]
              refine WA.take (i := 29) (v := .bool false) rfl (by kernel_rfl) (by kernel_rfl) (by kernel_rfl) (fun _ _ _ h => h) (hdrop 29) (Or.inl ⟨by rfl, ?_⟩) (hSi HB26.out _) ?_
              · rintro w' ⟨L, hL, hSw, hun⟩
                go_simp
              simp only [List.getElem_toArray, List.getElem_cons_zero, List.getElem_cons_succ, Act.put, List.setIfInBounds_toArray, List.set_cons_zero, List.set_cons_succ]
              refine WA.take (i := 30) (v := .bool false) rfl (by kernel_rfl) (by kernel_rfl) (by kernel_rfl) (fun _ _ _ h => h) (hdrop 30) (Or.inl ⟨by rfl, ?_⟩) (hSi HB26.out _) ?_
              · rintro w' ⟨L, hL, hSw, hun⟩
                go_simp
              simp only [List.getElem_toArray, List.getElem_cons_zero, List.getElem_cons_succ, Act.put, List.setIfInBounds_toArray, List.set_cons_zero, List.set_cons_succ]
              refine WA.done (by kernel_rfl) ?_ _
              refine Nrm.normal ?_
              clear hSo hS hSi hdrop n0_ n1_ n2_ c0 c1 k0 k1 k2 b0
              clear S16
              have hBe : Below w6.heap.size w6 w26 := by
                have h1 : Below w6.heap.size w6 X16 := by rw [HX16.out]; exact HB69.out.drew
                exact h1.trans (HB26.out.mono h1.size)
              have HBe := Lib.hid hBe
              clear hBe
              go_wp2_with fail
              go_roundw
              case rel => exact ⟨q + 1, by omega, by push_cast; rfl, HBe.out⟩
              case measure => simp [intOf]; omega
          · have hh : decide ((q : Int) < (l : Int)) = false := by simp; omega
            have hh2 : decide (q < l) = false := by simp; omega
            have hB6z := HB6.out.trans (HBz.out.mono hsz6)
            have htab := table_any (pv := .pointer (some ⟨pb, 0, none⟩)) (w := wz) HQ.out (by rw [Hn0.out]; exact hB6z) (by rw [Hn0.out]; exact HSz.out) Hown.out (by rw [Hl6.out]; exact hll)
            rw [T.rwGo_clean _ _ _ _ (by rw [Hl6.out]; exact Hcl.out), Hn0.out] at htab
            have Htab2 := Lib.hid htab
            clear htab c1 Hrow Hbit
            go_wp2_with fail
            refine Htab2.out.mono ?_
            rintro e w20 ⟨rfl, _, _, hB_⟩
            have HB20 := Lib.hid hB_
            clear hB_
            go_wp2_with fail
            refine (table_nil w20 _).mono ?_
            rintro e w21 ⟨rfl, hw_⟩
            subst hw_
            go_wp2_with fail
            refine (known_any w20).mono ?_
            rintro e w22 ⟨rfl, hB_⟩
            have HBa := Lib.hid (HB.out.trans (HB20.out.mono (by have := HB.out.size; rw [Hn0.out] at this; exact this)))
            have HB18 := Lib.hid (HBa.out.trans (hB_.mono HBa.out.size))
            clear hB_
            go_wp2_with fail
            go_ret
            exact ⟨rfl, HB18.out⟩
end Go.Proofs.Ytghihhjcoilmgaa
