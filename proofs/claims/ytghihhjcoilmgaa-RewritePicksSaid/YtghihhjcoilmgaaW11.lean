/- RewritePicks, walked. -/
import Derived.Test.YtghihhjcoilmgaaW6
import Derived.Test.YtghihhjcoilmgaaW9
import Derived.Test.YtghihhjcoilmgaaW10
namespace Go.Proofs.Ytghihhjcoilmgaa
set_option maxRecDepth 100000
open Go.RowKit Go.Maps
set_option linter.unusedVariables false
set_option linter.unusedSimpArgs false
attribute [local go_sem] Oper.semAt_some

set_option maxRecDepth 100000 in
set_option maxHeartbeats 8000000 in
theorem picks_any {w : World} {la va fa ca : Option Addr} {L0 : Jn} {V : List Int} {F : List Bool} {C : List CondT} (hl : IsJ w la L0) (h32 : ∀ p ∈ L0, is32 p.1 ∧ is32 p.2) (hLl : L0.length ≤ maxLen) (hV : IsAt (Value.int .u32) w va V) (hV32 : ∀ x ∈ V, is32 x) (hVl : V.length ≤ maxLen)
    (hF : IsAt Value.bool w fa F) (hFl : F.length ≤ maxLen) (hC : IsC w ca C) (hCl : C.length ≤ maxLen) (lcap vcap fcap ccap : Nat) :
    Calls Try.prog 3 #[.slice la L0.length lcap, .slice va V.length vcap, .slice fa F.length fcap, .slice ca C.length ccap] w fun e w' => e = .returned (.bool true) ∧ Below w.heap.size w w' := by
  obtain ⟨n, hn⟩ : ∃ n, L0.length = n := ⟨_, rfl⟩
  obtain ⟨nv, hnv⟩ : ∃ nv, V.length = nv := ⟨_, rfl⟩
  obtain ⟨nc, hnc⟩ : ∃ nc, C.length = nc := ⟨_, rfl⟩
  obtain ⟨nf, hnf⟩ : ∃ nf, F.length = nf := ⟨_, rfl⟩
  have Hl := Lib.hid hl; have H32 := Lib.hid h32; have HV := Lib.hid hV; have HV32 := Lib.hid hV32; have HF := Lib.hid hF; have HC := Lib.hid hC; have HFl := Lib.hid hFl
  rw [hn] at hLl ⊢
  rw [hnv] at hVl ⊢
  rw [hnc] at hCl ⊢
  rw [hnf] at ⊢
  have Hn := Lib.hid hn; have Hnv := Lib.hid hnv; have Hnc := Lib.hid hnc; have Hnf := Lib.hid hnf
  clear hl h32 hV hV32 hF hFl hC hn hnv hnc hnf
  simp only [maxLen] at hLl hVl hCl
  by_cases h12 : n > 12
  · have hd : decide ((n : Int) > 12) = true := by simp; omega
    have hd' : decide (12 < (n : Int)) = true := by simp; omega
    have hd2 : decide (12 < n) = true := by simp; omega
    go_enter Try.func3, Try.ntmps3
    go_wp2_with fail
    refine (known_any w).mono ?_
    rintro e w' ⟨rfl, hB⟩
    go_wp2_with fail
    go_ret
    exact ⟨rfl, hB⟩
  · have hd : decide ((n : Int) > 12) = false := by simp; omega
    have hd' : decide (12 < (n : Int)) = false := by simp; omega
    have hd2 : decide (12 < n) = false := by simp; omega
    by_cases h5 : nv > 5
    · have he : decide ((nv : Int) > 5) = true := by simp; omega
      have he' : decide (5 < (nv : Int)) = true := by simp; omega
      have he2 : decide (5 < nv) = true := by simp; omega
      go_enter Try.func3, Try.ntmps3
      go_wp2_with fail
      refine (known_any w).mono ?_
      rintro e w' ⟨rfl, hB⟩
      go_wp2_with fail
      go_ret
      exact ⟨rfl, hB⟩
    · have he : decide ((nv : Int) > 5) = false := by simp; omega
      have he' : decide (5 < (nv : Int)) = false := by simp; omega
      have he2 : decide (5 < nv) = false := by simp; omega
      by_cases h10 : nc > 10
      · have hf : decide ((nc : Int) > 10) = true := by simp; omega
        have hf' : decide (10 < (nc : Int)) = true := by simp; omega
        have hf2 : decide (10 < nc) = true := by simp; omega
        go_enter Try.func3, Try.ntmps3
        go_wp2_with fail
        refine (known_any w).mono ?_
        rintro e w' ⟨rfl, hB⟩
        go_wp2_with fail
        go_ret
        exact ⟨rfl, hB⟩
      · have hf : decide ((nc : Int) > 10) = false := by simp; omega
        have hf' : decide (10 < (nc : Int)) = false := by simp; omega
        have hf2 : decide (10 < nc) = false := by simp; omega
        have hbg := begin_any Hl.out H32.out (by have := Hn.out; omega) lcap
        rw [Hn.out] at hbg
        have Hbg := Lib.hid hbg
        clear hbg
        go_enter Try.func3, Try.ntmps3
        go_wp2_with fail
        refine Hbg.out.mono ?_
        rintro e w1 ⟨pb, mf, mc, f, c, v, J, rfl, hP, hI, hE, hJ32, hJl, hO, hB⟩
        obtain ⟨ja, jcap, rfl, hIJ⟩ := hO.j
        have HQ := Lib.hid (isQ_of hP hI hJ32 (by omega)); have HIJ := Lib.hid hIJ; have HB := Lib.hid hB; have Hz := Lib.hid hE.nz; have HJl := Lib.hid hJl
        clear hP hI hE hJ32 hO hIJ hB hJl
        obtain ⟨jn, hjn⟩ : ∃ jn, J.length = jn := ⟨_, rfl⟩
        rw [hjn] at ⊢
        have Hjn := Lib.hid hjn
        clear hjn
        go_wp2_with fail
        go_loopw [11] (fun u wr => ∃ i : Nat, i ≤ nv ∧ u = .int .i64 i ∧ (∀ j (h : j < V.length), j < i → V[j] ≠ 0) ∧ Below w1.heap.size w1 wr) (fun u _ => nv - (intOf u).toNat)
        case atStart => exact ⟨0, by omega, rfl, fun j _ h => by omega, Below.refl _ _⟩
        case round =>
          obtain ⟨i, hi, rfl, hnz, hBr⟩ := hrel
          have Hnz := Lib.hid hnz; have HBr := Lib.hid hBr; have HBw := Lib.hid (HB.out.trans (hBr.mono HB.out.size))
          clear hnz hBr
          by_cases hin : i < nv
          · have hg : decide ((i : Int) < (nv : Int)) = true := by simp; omega
            obtain ⟨vb, voff, rfl, hvl, c1⟩ := HV.out.low HBw.out i (by rw [Hnv.out]; exact hin)
            obtain ⟨x, hx⟩ : ∃ x, V[i]'(by rw [Hnv.out]; exact hin) = x := ⟨_, rfl⟩
            rw [hx] at c1
            have Hx := Lib.hid hx
            clear hx hvl
            by_cases hx0 : x = 0
            · subst hx0
              go_wp2_with fail
              refine (known_any wr).mono ?_
              rintro e w' ⟨rfl, hB5⟩
              have HB5 := Lib.hid hB5
              clear hB5
              go_wp2_with fail
              go_ret
              exact ⟨rfl, HBw.out.trans (HB5.out.mono HBw.out.size)⟩
            · have hq : (x == 0) = false := by simp [hx0]
              have Hx0 := Lib.hid hx0
              clear hx0
              have hcl := cliqueR_any (HIJ.out.below HBr.out) jcap (by have := HJl.out; omega) Hz.out x
              rw [Hjn.out] at hcl
              have Hcl := Lib.hid hcl
              clear hcl
              go_wp2_with fail
              refine Hcl.out.mono ?_
              rintro e w2 ⟨v2, L2, rfl, hO2, hL2, hB2⟩
              obtain ⟨s2, cap2, rfl, q1, q2, _⟩ := hO2.u
              have HB2 := Lib.hid hB2
              obtain ⟨l2, hl2⟩ : ∃ l2, L2.length = l2 := ⟨_, rfl⟩
              rw [hl2] at q1 ⊢
              simp only [maxLen] at q2
              clear hO2 hL2 hB2 hl2
              have HBx := Lib.hid (HBw.out.trans (HB2.out.mono HBw.out.size))
              by_cases h6 : l2 > 6
              · have hh : decide ((l2 : Int) > 6) = true := by simp; omega
                have hh' : decide (6 < (l2 : Int)) = true := by simp; omega
                have hh2 : decide (6 < l2) = true := by simp; omega
                go_wp2_with fail
                refine (known_any w2).mono ?_
                rintro e w' ⟨rfl, hB5⟩
                have HB5 := Lib.hid hB5
                clear hB5
                go_wp2_with fail
                go_ret
                exact ⟨rfl, HBx.out.trans (HB5.out.mono HBx.out.size)⟩
              · have hh : decide ((l2 : Int) > 6) = false := by simp; omega
                have hh' : decide (6 < (l2 : Int)) = false := by simp; omega
                have hh2 : decide (6 < l2) = false := by simp; omega
                go_wp2_with fail
                go_roundw
                case rel => exact ⟨i + 1, by omega, by push_cast; rfl, fun j hj h => (by
                  rcases Nat.lt_succ_iff_lt_or_eq.1 h with h | rfl
                  · exact Hnz.out j hj h
                  · rw [Hx.out]; exact Hx0.out), HBr.out.trans (HB2.out.mono HBr.out.size)⟩
                case measure => simp [intOf]; omega
          · have hg : decide ((i : Int) < (nv : Int)) = false := by simp; omega
            have hV0 : ∀ x ∈ V, x ≠ 0 := fun x hx => by
              obtain ⟨j, hj, rfl⟩ := List.getElem_of_mem hx
              exact Hnz.out j hj (by have := Hnv.out; omega)
            have hpk := pick_any (vcap := vcap) (fcap := fcap) (ccap := ccap) (HQ.out.below HBr.out) (HV.out.low HBw.out) (HF.out.low HBw.out) (HC.out.below HBw.out) HV32.out (by have := Hnv.out; omega) (by have := Hnc.out; omega) HFl.out
            rw [Hnv.out, Hnf.out, Hnc.out] at hpk
            have Hpk := Lib.hid hpk; have HV0 := Lib.hid hV0
            clear hpk hV0
            go_wp2_with fail
            refine Hpk.out.mono ?_
            rintro e w3 ⟨b1, rfl, hb1, hB3⟩
            have HB3 := Lib.hid hB3; have Hb1 := Lib.hid hb1
            have HBy := Lib.hid (HBw.out.trans (hB3.mono HBw.out.size))
            have hpr := pickR_any (vcap := vcap) (fcap := fcap) (ccap := ccap) ((HIJ.out.below HBr.out).below hB3) jcap (by have := HJl.out; omega) Hz.out (HV.out.low HBy.out) (HF.out.low HBy.out) (HC.out.below HBy.out) HV0.out (by have := Hnv.out; omega) (by have := Hnc.out; omega) HFl.out
            rw [Hjn.out, Hnv.out, Hnf.out, Hnc.out] at hpr
            have Hpr := Lib.hid hpr
            clear hpr hB3 hb1
            go_wp2_with fail
            refine Hpr.out.mono ?_
            rintro e w4 ⟨b2, rfl, hb2, hB4⟩
            obtain rfl : b1 = b2 := by
              have := Hb1.out.trans hb2.symm
              cases b1 <;> cases b2 <;> simp at this <;> rfl
            have HB4 := Lib.hid (HBy.out.trans (hB4.mono HBy.out.size))
            clear hb2 hB4
            have hbb : (b1 == b1) = true := by simp
            go_wp2_with fail
            refine (known_any w4).mono ?_
            rintro e w' ⟨rfl, hB5⟩
            have HB5 := Lib.hid hB5
            clear hB5
            go_wp2_with fail
            go_ret
            exact ⟨rfl, HB4.out.trans (HB5.out.mono HB4.out.size)⟩
end Go.Proofs.Ytghihhjcoilmgaa
