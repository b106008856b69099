/- The sort of a row: its rounds, and itself, walked. -/
import Derived.Test.YtghihhjcoilmgaaV12
import Derived.Test.YtghihhjcoilmgaaV9
import Derived.Test.YtghihhjcoilmgaaV8
import Derived.Test.YtghihhjcoilmgaaV6
import Derived.Sort.AssemblyPlain
import Derived.Sort.Walk13a
import Derived.Deep.Cut
namespace Go.Proofs.Ytghihhjcoilmgaa
set_option maxRecDepth 100000
open Go.RowKit Go.Maps Go.Sort
set_option linter.unusedVariables false
set_option linter.unusedSimpArgs false

theorem hintC_two {h : Hint} (e : hintC h = 2) : h = .decreasing := by cases h <;> simp [hintC] at e ⊢
theorem eighth_is {x y p q : Nat} (h1 : q ≤ p) (h2 : y ≤ x) : decide (((x : Int) - (y : Int)) / 8 ≤ (p : Int) - (q : Int)) = decide (p - q ≥ (x - y) / 8) :=
  decide_eq_decide.2 ⟨fun h => by omega, fun h => by omega⟩
theorem swoInt : SWO ltInt := swo_ltInt
section
variable {w : World} {g n cap : Nat} {d : Array Int}
set_option maxRecDepth 1000000 in
set_option maxHeartbeats 16000000 in
theorem pdq_u (hn6 : n < 256) : ∀ (N a b limit : Nat) (d : Array Int) (w : World), b - a < N → IsA w g n cap d → a ≤ b → b ≤ n → limit ≤ 1000000 → Sort.Below ltInt a b d →
    Calls Try.prog 52 #[.slice (some ⟨g, 0, none⟩) n cap, .int .i64 (a : Nat), .int .i64 (b : Nat), .int .i64 (limit : Nat)] w fun e w' => e = .returned (.tuple #[]) ∧ IsA w' g n cap (pdq ltInt d a b limit true true) ∧ TnA w w' g := by
  intro N
  induction N with
  | zero => intro _ _ _ _ _ h; exact absurd h (Nat.not_lt_zero _)
  | succ N ih =>
    intro a b limit d w hN hH hab hb hlimit hBel0
    have IH := Lib.hid ih
    have H0 := Lib.hid hH
    have HB0 := Lib.hid hBel0
    clear ih hH hBel0
    go_enter Try.func52, Try.ntmps52
    go_wp2_with fail
    go_loopg [1, 2, 3, 8, 9] (b - a) (fun k s1 s2 s3 s8 s9 wr => ∃ (a' b' lim : Nat) (wb wp : Bool) (dk : Array Int), s1 = .int .i64 a' ∧ s2 = .int .i64 b' ∧ s3 = .int .i64 lim ∧ s8 = .bool wb ∧ s9 = .bool wp ∧
      a' ≤ b' ∧ b' ≤ n ∧ b' - a' ≤ k ∧ k ≤ b - a ∧ lim ≤ limit ∧ Sort.Below ltInt a' b' dk ∧ IsA wr g n cap dk ∧ TnA w wr g ∧ pdq ltInt dk a' b' lim wb wp = pdq ltInt d a b limit true true)
    case atStart => exact ⟨a, b, limit, true, true, d, rfl, rfl, rfl, rfl, rfl, hab, hb, Nat.le_refl _, Nat.le_refl _, Nat.le_refl _, HB0.out, H0.out, TnA.refl _ _, rfl⟩
    case round =>
      obtain ⟨a', b', lim, wb, wp, dk, rfl, rfl, rfl, rfl, rfl, hab', hb', hk, hkN, hlim, hBel, hA, hT, heq⟩ := hrel
      have hdk : dk.size = n := hA.size
      have HA := Lib.hid hA; have HT := Lib.hid hT; have Heq := Lib.hid heq; have HBel := Lib.hid hBel; have Hdk := Lib.hid hdk
      clear hA hT heq hBel hdk
      by_cases h12 : b' - a' ≤ 12
      · have h12z : decide ((b' : Int) - (a' : Int) ≤ 12) = true := by simp; omega
        have hc := insertion_u HA.out (by omega) a' b' hab' hb'
        go_wp2_with fail
        refine hc.mono ?_
        rintro e w1 ⟨rfl, hA1, hT1⟩
        go_wp2_with fail
        (try simp only [Exit.inBlock, Exit.then]); refine bodyPost_ret (results_none rfl _ _ _) rfl ?_
        refine ⟨rfl, ?_, HT.out.trans hT1⟩
        rw [← Heq.out, pdq_small h12]
        exact hA1
      · have h12z : decide ((b' : Int) - (a' : Int) ≤ 12) = false := by simp; omega
        by_cases hl0 : lim = 0
        · subst hl0
          have hc := heapSort_u HA.out (by omega) a' b' (by omega) hb'
          go_wp2_with fail
          refine hc.mono ?_
          rintro e w1 ⟨rfl, hA1, hT1⟩
          go_wp2_with fail
          (try simp only [Exit.inBlock, Exit.then]); refine bodyPost_ret (results_none rfl _ _ _) rfl ?_
          refine ⟨rfl, ?_, HT.out.trans hT1⟩
          rw [← Heq.out, pdq_heap h12 rfl]
          exact hA1
        · have hl0z : ((lim : Int) == 0) = false := by simp; omega
          obtain ⟨s1, B1, hc1, s2, B2, hpv, s3, B3⟩ := rd_facts (limit := lim) (wb := wb) (wp := wp) swoInt partialInsertionSort_holds reverseRange_holds (show a' < b' by omega) (show b' ≤ dk.size by rw [Hdk.out]; exact hb') HBel.out
          have S1 := Lib.hid s1; have S2 := Lib.hid s2; have S3 := Lib.hid s3; have BB := Lib.hid B3
          obtain ⟨hpv1, hpv2⟩ := hpv
          obtain ⟨hc1, hc2⟩ := hc1
          clear s1 B1 s2 B2 s3 B3
          go_upto_if 35 with fail
          go_cut [3] from 19 (fun s3 wc => s3 = .int .i64 (rd ltInt dk a' b' lim wb wp).lim ∧ IsA wc g n cap (rd ltInt dk a' b' lim wb wp).d1 ∧ TnA w wc g)
          case first =>
            cases wb
            · have hc := breakPatterns_ub HA.out hn6 a' b' (by omega) hb'
              go_wp2_with fail
              refine hc.mono ?_
              rintro e w1 ⟨rfl, hA1, hT1⟩
              go_wp2_with fail
              go_meet
              case rel =>
                refine ⟨?_, hA1, HT.out.trans hT1⟩
                show Value.int .i64 ((lim : Int) - 1) = Value.int .i64 ((lim - 1 : Nat) : Int)
                congr 1
                omega
            · go_wp2_with fail
              go_meet
              case rel => exact ⟨rfl, HA.out, HT.out⟩
          case rest =>
            obtain ⟨rfl, hA1, hT1⟩ := hcut
            have HA1 := Lib.hid hA1; have HT1 := Lib.hid hT1
            clear hA1 hT1
            have hc17 : Calls Try.prog 57 #[.slice (some ⟨g, 0, none⟩) n cap, .int .i64 (a' : Nat), .int .i64 (b' : Nat)] wc fun e w' => e = .returned (.tuple #[.int .i64 ((rd ltInt dk a' b' lim wb wp).c.1 : Nat), .int .i64 (hintC (rd ltInt dk a' b' lim wb wp).c.2)]) ∧ Below wc.heap.size wc w' := choosePivot_u HA1.out (by omega) a' b' (by omega) hb'
            go_upto_if 50 with fail
            refine hc17.mono ?_
            rintro e w2 ⟨rfl, hB2⟩
            have HA2 := Lib.hid (HA1.out.below hB2); have HT2 := Lib.hid (HT1.out.trans (TnA.below (g := g) hB2))
            clear hB2 hc17 HA HT HA1 HT1
            go_upto_if 50 with fail
            go_cut [11, 12] from 19 (fun s11 s12 wc => s11 = .int .i64 (rd ltInt dk a' b' lim wb wp).pivot ∧ s12 = .int .i64 (hintC (rd ltInt dk a' b' lim wb wp).hint) ∧ IsA wc g n cap (rd ltInt dk a' b' lim wb wp).d2 ∧ TnA w wc g)
            case first =>
              by_cases hh : (rd ltInt dk a' b' lim wb wp).c.2 = .decreasing
              · have hcode : hintC (rd ltInt dk a' b' lim wb wp).c.2 = 2 := by rw [hh]; rfl
                obtain ⟨e2, epv, eht⟩ := rd_dec hh
                have E2 := Lib.hid e2; have Epv := Lib.hid epv; have Eht := Lib.hid eht
                clear e2 epv eht hh
                have hc18 := reverse_u HA2.out (by omega) a' b' (by omega) hb'
                go_wp2_with fail
                refine hc18.mono ?_
                rintro e w3 ⟨rfl, hA3, hT3⟩
                go_wp2_with fail
                go_meet
                case rel =>
                  refine ⟨?_, by rw [Eht.out]; rfl, by rw [E2.out]; exact hA3, HT2.out.trans hT3⟩
                  rw [Epv.out]
                  congr 1
                  omega
              · have hcode : ((hintC (rd ltInt dk a' b' lim wb wp).c.2) == 2) = false := by simp; exact fun h => hh (hintC_two h)
                obtain ⟨e2, epv, eht⟩ := rd_not hh
                have E2 := Lib.hid e2; have Epv := Lib.hid epv; have Eht := Lib.hid eht
                clear e2 epv eht hh
                go_wp2_with fail
                go_meet
                case rel => exact ⟨by rw [Epv.out], by rw [Eht.out], by rw [E2.out]; exact HA2.out, HT2.out⟩
            case rest =>
              obtain ⟨rfl, rfl, hA3, hT3⟩ := hcut
              have HA3 := Lib.hid hA3; have HT3 := Lib.hid hT3
              clear hA3 hT3 HA2 HT2
              go_upto_region 15 with fail
              go_cut [12, 68] from 19 (fun s12 s68 wx => s12 = .int .i64 (hintC (rd ltInt dk a' b' lim wb wp).hint) ∧ s68 = .bool (wb && wp && decide ((rd ltInt dk a' b' lim wb wp).hint = .increasing)) ∧ wx = wc)
              case first =>
                cases wb <;> cases wp <;> cases hh3 : (rd ltInt dk a' b' lim _ _).hint <;>
                  (have hcode3 := congrArg hintC hh3
                   simp only [hintC] at hcode3
                   go_wp2_with fail
                   go_meet
                   exact ⟨by simp [hh3, hintC], by simp [hh3, hintC], rfl⟩)
              case rest =>
                obtain ⟨rfl, rfl, rfl⟩ := hcut
                go_upto_if 68 with fail
                go_cut [] from 19 (fun wx => (rd ltInt dk a' b' lim wb wp).pi.2 = false ∧ IsA wx g n cap (rd ltInt dk a' b' lim wb wp).pi.1 ∧ TnA w wx g)
                case first =>
                  cases h68 : (wb && wp && decide ((rd ltInt dk a' b' lim wb wp).hint = .increasing))
                  · have epi := Lib.hid (rd_pi_no (lt := ltInt) (d := dk) (limit := lim) h68)
                    go_wp2_with fail
                    go_meet
                    case rel => exact ⟨by rw [epi.out], by rw [epi.out]; exact HA3.out, HT3.out⟩
                  · have epi := Lib.hid (rd_pi_yes (lt := ltInt) (d := dk) (limit := lim) h68)
                    have hc19 := partialIns_u HA3.out (by omega) a' b' (by omega) hb'
                    rw [← epi.out] at hc19
                    clear h68
                    cases hp2 : (rd ltInt dk a' b' lim wb wp).pi.2
                    · have Hp2 := Lib.hid hp2
                      rw [hp2] at hc19
                      clear hp2
                      go_wp2_with fail
                      refine hc19.mono ?_
                      rintro e w4 ⟨rfl, hA4, hT4⟩
                      go_wp2_with fail
                      go_meet
                      exact ⟨Hp2.out, hA4, HT3.out.trans hT4⟩
                    · have Hp2 := Lib.hid hp2
                      rw [hp2] at hc19
                      clear hp2
                      go_wp2_with fail
                      refine hc19.mono ?_
                      rintro e w4 ⟨rfl, hA4, hT4⟩
                      go_wp2_with fail
                      (try simp only [Exit.inBlock, Exit.then]); refine bodyPost_ret (results_none rfl _ _ _) rfl ?_
                      refine ⟨rfl, ?_, HT3.out.trans hT4⟩
                      rw [← Heq.out, pdq_done h12 hl0 Hp2.out]
                      exact hA4
                case rest =>
                  obtain ⟨hp2, hA5, hT5⟩ := hcut
                  have HA5 := Lib.hid hA5; have HT5 := Lib.hid hT5; have Hp2 := Lib.hid hp2
                  clear hA5 hT5 HA3 HT3 hp2
                  obtain ⟨e1, he1⟩ : ∃ e1, e1 = (rd ltInt dk a' b' lim wb wp).pi.1 := ⟨_, rfl⟩
                  obtain ⟨pv, hpv⟩ : ∃ pv, pv = (rd ltInt dk a' b' lim wb wp).pivot := ⟨_, rfl⟩
                  rw [← he1] at HA5
                  rw [← hpv] at hpv1 hpv2 ⊢
                  have He1 := Lib.hid he1; have Hpv := Lib.hid hpv
                  clear he1 hpv
                  go_upto_region 17 with fail
                  go_cut [87] from 19 (fun s87 wx => s87 = .bool (decide (a' > 0) && !ltInt e1[a' - 1]! e1[pv]!) ∧ IsA wx g n cap e1 ∧ TnA w wx g)
                  case first =>
                    rcases Nat.eq_zero_or_pos a' with ha0 | ha0
                    · have ha0z : decide ((a' : Int) > 0) = false := decide_eq_false (by omega)
                      have ha0y : decide ((0 : Int) < (a' : Int)) = false := decide_eq_false (by omega)
                      have HA_Xn := Lib.hid (show IsA wc.drew g n cap e1 from HA5.out.stay rfl)
                      obtain ⟨Sn, hSe⟩ : ∃ S : Array Bool → World → Prop, S = fun _ w' => w' = wc.drew := ⟨_, rfl⟩
                      have hdrop : ∀ i : Nat, i ≠ 1000 → ∀ L w', Sn (L.setIfInBounds i true) w' → Sn L w' := by
                        intro i _ L w' h; rw [hSe] at h ⊢; exact h
                      have hS : ∀ L, Sn L wc.drew := by intro L; rw [hSe]
                      have hSo : ∀ {L w'}, Sn L w' → w' = wc.drew := by intro L w' h; rw [hSe] at h; exact h
                      clear hSe
                      refine wp_region_LN Sn 15 #[false, false, false, false, false, false, false, false, false, false, false, false, false, false, false] (by kernel_rfl) (by kernel_rfl) rfl ?_
                      obtain ⟨Xn, hXn⟩ : ∃ Xn, Xn = wc.drew := ⟨_, rfl⟩
                      rw [← hXn] at  HA_Xn hSo hS ⊢
                      have HXn := Lib.hid hXn
                      clear hXn
                      refine WA.tk (i := 0) (v := .int .i64 ((a' : Nat) : Int)) rfl (hdrop 0 (by decide)) (Or.inl ⟨by rfl, ?_⟩) (hS _) ?_
                      · rintro w' ⟨L, hL, hSw, hun⟩
                        go_simp
                        all_goals omega
                      simp only [nA, nB, nC, Act.put, nD, nE, nF]
                      refine WA.tk (i := 1) (v := .bool false) rfl (hdrop 1 (by decide)) (Or.inl ⟨by rfl, ?_⟩) (hS _) ?_
                      · rintro w' ⟨L, hL, hSw, hun⟩
                        go_simp
                        all_goals omega
                      simp only [nA, nB, nC, Act.put, nD, nE, nF]
                      refine WA.tk (i := 2) (v := .bool false) rfl (hdrop 2 (by decide)) (Or.inl ⟨by rfl, ?_⟩) (hS _) ?_
                      · rintro w' ⟨L, hL, hSw, hun⟩
                        go_simp
                      simp only [nA, nB, nC, Act.put, nD, nE, nF]
                      refine WA.tk (i := 3) (v := undef) rfl (hdrop 3 (by decide)) (Or.inr ⟨by rfl, rfl⟩) (hS _) ?_
                      simp only [nA, nB, nC, Act.put, nD, nE, nF]
                      refine WA.tk (i := 4) (v := undef) rfl (hdrop 4 (by decide)) (Or.inr ⟨by rfl, rfl⟩) (hS _) ?_
                      simp only [nA, nB, nC, Act.put, nD, nE, nF]
                      refine WA.tk (i := 5) (v := undef) rfl (hdrop 5 (by decide)) (Or.inr ⟨by rfl, rfl⟩) (hS _) ?_
                      simp only [nA, nB, nC, Act.put, nD, nE, nF]
                      refine WA.tk (i := 6) (v := undef) rfl (hdrop 6 (by decide)) (Or.inr ⟨by rfl, rfl⟩) (hS _) ?_
                      simp only [nA, nB, nC, Act.put, nD, nE, nF]
                      refine WA.tk (i := 7) (v := undef) rfl (hdrop 7 (by decide)) (Or.inr ⟨by rfl, rfl⟩) (hS _) ?_
                      simp only [nA, nB, nC, Act.put, nD, nE, nF]
                      refine WA.tk (i := 8) (v := undef) rfl (hdrop 8 (by decide)) (Or.inr ⟨by rfl, rfl⟩) (hS _) ?_
                      simp only [nA, nB, nC, Act.put, nD, nE, nF]
                      refine WA.tk (i := 9) (v := undef) rfl (hdrop 9 (by decide)) (Or.inr ⟨by rfl, rfl⟩) (hS _) ?_
                      simp only [nA, nB, nC, Act.put, nD, nE, nF]
                      refine WA.tk (i := 10) (v := undef) rfl (hdrop 10 (by decide)) (Or.inr ⟨by rfl, rfl⟩) (hS _) ?_
                      simp only [nA, nB, nC, Act.put, nD, nE, nF]
                      refine WA.tk (i := 11) (v := undef) rfl (hdrop 11 (by decide)) (Or.inr ⟨by rfl, rfl⟩) (hS _) ?_
                      simp only [nA, nB, nC, Act.put, nD, nE, nF]
                      refine WA.skip (i := 12) (by kernel_rfl) rfl (by rfl) (hS _) ?_
                      simp only [nA, nB, nC, Act.put, nD, nE, nF]
                      refine WA.tk (i := 13) (v := undef) rfl (hdrop 13 (by decide)) (Or.inr ⟨by rfl, rfl⟩) (hS _) ?_
                      simp only [nA, nB, nC, Act.put, nD, nE, nF]
                      refine WA.tk (i := 14) (v := .bool false) rfl (hdrop 14 (by decide)) (Or.inl ⟨by rfl, ?_⟩) (hS _) ?_
                      · rintro w' ⟨L, hL, hSw, hun⟩
                        go_simp
                      simp only [nA, nB, nC, Act.put, nD, nE, nF]
                      refine WA.done (by kernel_rfl) ?_ _
                      refine Nrm.normal ?_
                      clear hSo hS hdrop 
                      clear Sn
                      go_wp2_with fail
                      go_meet
                      exact ⟨by simp [ha0], HA_Xn.out, by rw [HXn.out]; exact HT5.out.drew⟩
                    · have ha0z : decide ((a' : Int) > 0) = true := decide_eq_true (by omega)
                      have ha0y : decide ((0 : Int) < (a' : Int)) = true := decide_eq_true (by omega)
                      obtain ⟨m, hm⟩ : ∃ m, m = a' - 1 := ⟨_, rfl⟩
                      have hm1 : (a' : Int) - 1 = (m : Int) := by omega
                      have hm2 : m < n := by omega
                      have Hm := Lib.hid hm
                      clear hm
                      cases hl : ltInt e1[m]! e1[pv]!
                      · skip
                        have HA_Xf := Lib.hid (show IsA wc.drew g n cap e1 from HA5.out.stay rfl)
                        have c0 : wc.drew.cell? ⟨g, m, none⟩ = some (.int .u32 e1[m]!) := (HA_Xf.out.at (j := m) (by omega)).1
                        have c1 : wc.drew.cell? ⟨g, pv, none⟩ = some (.int .u32 e1[pv]!) := (HA_Xf.out.at (j := pv) (by omega)).1
                        obtain ⟨Sf, hSe⟩ : ∃ S : Array Bool → World → Prop, S = fun _ w' => w' = wc.drew := ⟨_, rfl⟩
                        have hdrop : ∀ i : Nat, i ≠ 1000 → ∀ L w', Sf (L.setIfInBounds i true) w' → Sf L w' := by
                          intro i _ L w' h; rw [hSe] at h ⊢; exact h
                        have hS : ∀ L, Sf L wc.drew := by intro L; rw [hSe]
                        have hSo : ∀ {L w'}, Sf L w' → w' = wc.drew := by intro L w' h; rw [hSe] at h; exact h
                        clear hSe
                        refine wp_region_LN Sf 15 #[false, false, false, false, false, false, false, false, false, false, false, false, false, false, false] (by kernel_rfl) (by kernel_rfl) rfl ?_
                        obtain ⟨Xf, hXf⟩ : ∃ Xf, Xf = wc.drew := ⟨_, rfl⟩
                        rw [← hXf] at c0 c1 HA_Xf hSo hS ⊢
                        have HXf := Lib.hid hXf
                        clear hXf
                        refine WA.tk (i := 0) (v := .int .i64 ((a' : Nat) : Int)) rfl (hdrop 0 (by decide)) (Or.inl ⟨by rfl, ?_⟩) (hS _) ?_
                        · rintro w' ⟨L, hL, hSw, hun⟩
                          go_simp
                          all_goals omega
                        simp only [nA, nB, nC, Act.put, nD, nE, nF]
                        refine WA.tk (i := 1) (v := .bool true) rfl (hdrop 1 (by decide)) (Or.inl ⟨by rfl, ?_⟩) (hS _) ?_
                        · rintro w' ⟨L, hL, hSw, hun⟩
                          go_simp
                          all_goals omega
                        simp only [nA, nB, nC, Act.put, nD, nE, nF]
                        refine WA.tk (i := 2) (v := .bool true) rfl (hdrop 2 (by decide)) (Or.inl ⟨by rfl, ?_⟩) (hS _) ?_
                        · rintro w' ⟨L, hL, hSw, hun⟩
                          go_simp
                        simp only [nA, nB, nC, Act.put, nD, nE, nF]
                        refine WA.tk (i := 3) (v := .slice (some ⟨g, 0, none⟩) n cap) rfl (hdrop 3 (by decide)) (Or.inl ⟨by rfl, ?_⟩) (hS _) ?_
                        · rintro w' ⟨L, hL, hSw, hun⟩
                          go_simp
                        simp only [nA, nB, nC, Act.put, nD, nE, nF]
                        refine WA.tk (i := 4) (v := .int .i64 ((a' : Nat) : Int)) rfl (hdrop 4 (by decide)) (Or.inl ⟨by rfl, ?_⟩) (hS _) ?_
                        · rintro w' ⟨L, hL, hSw, hun⟩
                          go_simp
                          all_goals omega
                        simp only [nA, nB, nC, Act.put, nD, nE, nF]
                        refine WA.tk (i := 5) (v := .int .i64 ((m : Nat) : Int)) rfl (hdrop 5 (by decide)) (Or.inl ⟨by rfl, ?_⟩) (hS _) ?_
                        · rintro w' ⟨L, hL, hSw, hun⟩
                          go_simp
                          all_goals (exact i64w (by omega) (by omega))
                        simp only [nA, nB, nC, Act.put, nD, nE, nF]
                        refine WA.tk (i := 6) (v := .pointer (some ⟨g, m, none⟩)) rfl (hdrop 6 (by decide)) (Or.inl ⟨by rfl, ?_⟩) (hS _) ?_
                        · rintro w' ⟨L, hL, hSw, hun⟩
                          go_simp
                          all_goals first | (intro h5; omega) | (rw [if_pos (by omega)]; exact ptrOk (by omega))
                        simp only [nA, nB, nC, Act.put, nD, nE, nF]
                        refine WA.tk (i := 7) (v := .int .u32 e1[m]!) rfl (hdrop 7 (by decide)) (Or.inl ⟨by rfl, ?_⟩) (hS _) ?_
                        · rintro w' ⟨L, hL, hSw, hun⟩
                          obtain rfl := hSo hSw 
                          go_simp
                        simp only [nA, nB, nC, Act.put, nD, nE, nF]
                        refine WA.tk (i := 8) (v := .slice (some ⟨g, 0, none⟩) n cap) rfl (hdrop 8 (by decide)) (Or.inl ⟨by rfl, ?_⟩) (hS _) ?_
                        · rintro w' ⟨L, hL, hSw, hun⟩
                          go_simp
                        simp only [nA, nB, nC, Act.put, nD, nE, nF]
                        refine WA.tk (i := 9) (v := .int .i64 ((pv : Nat) : Int)) rfl (hdrop 9 (by decide)) (Or.inl ⟨by rfl, ?_⟩) (hS _) ?_
                        · rintro w' ⟨L, hL, hSw, hun⟩
                          go_simp
                          all_goals omega
                        simp only [nA, nB, nC, Act.put, nD, nE, nF]
                        refine WA.tk (i := 10) (v := .pointer (some ⟨g, pv, none⟩)) rfl (hdrop 10 (by decide)) (Or.inl ⟨by rfl, ?_⟩) (hS _) ?_
                        · rintro w' ⟨L, hL, hSw, hun⟩
                          go_simp
                          all_goals first | (intro h5; omega) | (rw [if_pos (by omega)]; exact ptrOk (by omega))
                        simp only [nA, nB, nC, Act.put, nD, nE, nF]
                        refine WA.tk (i := 11) (v := .int .u32 e1[pv]!) rfl (hdrop 11 (by decide)) (Or.inl ⟨by rfl, ?_⟩) (hS _) ?_
                        · rintro w' ⟨L, hL, hSw, hun⟩
                          obtain rfl := hSo hSw 
                          go_simp
                        simp only [nA, nB, nC, Act.put, nD, nE, nF]
                        refine WA.one (i := 12) (by kernel_rfl) rfl (by rfl) (fun K hK => ?_)
                        go_simp
                        refine (less_u _ _).mono ?_
                        rintro e w_ ⟨rfl, hw_⟩
                        subst hw_
                        rw [hl]
                        refine hK _ _ (hS _) ?_
                        clear hK
                        try simp only [nA, nB, nC, Act.put, nD, nE, nF]
                        refine WA.tk (i := 13) (v := .bool true) rfl (hdrop 13 (by decide)) (Or.inl ⟨by rfl, ?_⟩) (hS _) ?_
                        · rintro w' ⟨L, hL, hSw, hun⟩
                          go_simp
                        simp only [nA, nB, nC, Act.put, nD, nE, nF]
                        refine WA.tk (i := 14) (v := .bool true) rfl (hdrop 14 (by decide)) (Or.inl ⟨by rfl, ?_⟩) (hS _) ?_
                        · rintro w' ⟨L, hL, hSw, hun⟩
                          go_simp
                        simp only [nA, nB, nC, Act.put, nD, nE, nF]
                        refine WA.done (by kernel_rfl) ?_ _
                        refine Nrm.normal ?_
                        clear hSo hS hdrop c0 c1
                        clear Sf
                        go_wp2_with fail
                        go_meet
                        exact ⟨by rw [← Hm.out, hl]; simp; omega, HA_Xf.out, by rw [HXf.out]; exact HT5.out.drew⟩
                      · skip
                        have HA_Xt := Lib.hid (show IsA wc.drew g n cap e1 from HA5.out.stay rfl)
                        have c0 : wc.drew.cell? ⟨g, m, none⟩ = some (.int .u32 e1[m]!) := (HA_Xt.out.at (j := m) (by omega)).1
                        have c1 : wc.drew.cell? ⟨g, pv, none⟩ = some (.int .u32 e1[pv]!) := (HA_Xt.out.at (j := pv) (by omega)).1
                        obtain ⟨St, hSe⟩ : ∃ S : Array Bool → World → Prop, S = fun _ w' => w' = wc.drew := ⟨_, rfl⟩
                        have hdrop : ∀ i : Nat, i ≠ 1000 → ∀ L w', St (L.setIfInBounds i true) w' → St L w' := by
                          intro i _ L w' h; rw [hSe] at h ⊢; exact h
                        have hS : ∀ L, St L wc.drew := by intro L; rw [hSe]
                        have hSo : ∀ {L w'}, St L w' → w' = wc.drew := by intro L w' h; rw [hSe] at h; exact h
                        clear hSe
                        refine wp_region_LN St 15 #[false, false, false, false, false, false, false, false, false, false, false, false, false, false, false] (by kernel_rfl) (by kernel_rfl) rfl ?_
                        obtain ⟨Xt, hXt⟩ : ∃ Xt, Xt = wc.drew := ⟨_, rfl⟩
                        rw [← hXt] at c0 c1 HA_Xt hSo hS ⊢
                        have HXt := Lib.hid hXt
                        clear hXt
                        refine WA.tk (i := 0) (v := .int .i64 ((a' : Nat) : Int)) rfl (hdrop 0 (by decide)) (Or.inl ⟨by rfl, ?_⟩) (hS _) ?_
                        · rintro w' ⟨L, hL, hSw, hun⟩
                          go_simp
                          all_goals omega
                        simp only [nA, nB, nC, Act.put, nD, nE, nF]
                        refine WA.tk (i := 1) (v := .bool true) rfl (hdrop 1 (by decide)) (Or.inl ⟨by rfl, ?_⟩) (hS _) ?_
                        · rintro w' ⟨L, hL, hSw, hun⟩
                          go_simp
                          all_goals omega
                        simp only [nA, nB, nC, Act.put, nD, nE, nF]
                        refine WA.tk (i := 2) (v := .bool true) rfl (hdrop 2 (by decide)) (Or.inl ⟨by rfl, ?_⟩) (hS _) ?_
                        · rintro w' ⟨L, hL, hSw, hun⟩
                          go_simp
                        simp only [nA, nB, nC, Act.put, nD, nE, nF]
                        refine WA.tk (i := 3) (v := .slice (some ⟨g, 0, none⟩) n cap) rfl (hdrop 3 (by decide)) (Or.inl ⟨by rfl, ?_⟩) (hS _) ?_
                        · rintro w' ⟨L, hL, hSw, hun⟩
                          go_simp
                        simp only [nA, nB, nC, Act.put, nD, nE, nF]
                        refine WA.tk (i := 4) (v := .int .i64 ((a' : Nat) : Int)) rfl (hdrop 4 (by decide)) (Or.inl ⟨by rfl, ?_⟩) (hS _) ?_
                        · rintro w' ⟨L, hL, hSw, hun⟩
                          go_simp
                          all_goals omega
                        simp only [nA, nB, nC, Act.put, nD, nE, nF]
                        refine WA.tk (i := 5) (v := .int .i64 ((m : Nat) : Int)) rfl (hdrop 5 (by decide)) (Or.inl ⟨by rfl, ?_⟩) (hS _) ?_
                        · rintro w' ⟨L, hL, hSw, hun⟩
                          go_simp
                          all_goals (exact i64w (by omega) (by omega))
                        simp only [nA, nB, nC, Act.put, nD, nE, nF]
                        refine WA.tk (i := 6) (v := .pointer (some ⟨g, m, none⟩)) rfl (hdrop 6 (by decide)) (Or.inl ⟨by rfl, ?_⟩) (hS _) ?_
                        · rintro w' ⟨L, hL, hSw, hun⟩
                          go_simp
                          all_goals first | (intro h5; omega) | (rw [if_pos (by omega)]; exact ptrOk (by omega))
                        simp only [nA, nB, nC, Act.put, nD, nE, nF]
                        refine WA.tk (i := 7) (v := .int .u32 e1[m]!) rfl (hdrop 7 (by decide)) (Or.inl ⟨by rfl, ?_⟩) (hS _) ?_
                        · rintro w' ⟨L, hL, hSw, hun⟩
                          obtain rfl := hSo hSw 
                          go_simp
                        simp only [nA, nB, nC, Act.put, nD, nE, nF]
                        refine WA.tk (i := 8) (v := .slice (some ⟨g, 0, none⟩) n cap) rfl (hdrop 8 (by decide)) (Or.inl ⟨by rfl, ?_⟩) (hS _) ?_
                        · rintro w' ⟨L, hL, hSw, hun⟩
                          go_simp
                        simp only [nA, nB, nC, Act.put, nD, nE, nF]
                        refine WA.tk (i := 9) (v := .int .i64 ((pv : Nat) : Int)) rfl (hdrop 9 (by decide)) (Or.inl ⟨by rfl, ?_⟩) (hS _) ?_
                        · rintro w' ⟨L, hL, hSw, hun⟩
                          go_simp
                          all_goals omega
                        simp only [nA, nB, nC, Act.put, nD, nE, nF]
                        refine WA.tk (i := 10) (v := .pointer (some ⟨g, pv, none⟩)) rfl (hdrop 10 (by decide)) (Or.inl ⟨by rfl, ?_⟩) (hS _) ?_
                        · rintro w' ⟨L, hL, hSw, hun⟩
                          go_simp
                          all_goals first | (intro h5; omega) | (rw [if_pos (by omega)]; exact ptrOk (by omega))
                        simp only [nA, nB, nC, Act.put, nD, nE, nF]
                        refine WA.tk (i := 11) (v := .int .u32 e1[pv]!) rfl (hdrop 11 (by decide)) (Or.inl ⟨by rfl, ?_⟩) (hS _) ?_
                        · rintro w' ⟨L, hL, hSw, hun⟩
                          obtain rfl := hSo hSw 
                          go_simp
                        simp only [nA, nB, nC, Act.put, nD, nE, nF]
                        refine WA.one (i := 12) (by kernel_rfl) rfl (by rfl) (fun K hK => ?_)
                        go_simp
                        refine (less_u _ _).mono ?_
                        rintro e w_ ⟨rfl, hw_⟩
                        subst hw_
                        rw [hl]
                        refine hK _ _ (hS _) ?_
                        clear hK
                        try simp only [nA, nB, nC, Act.put, nD, nE, nF]
                        refine WA.tk (i := 13) (v := .bool false) rfl (hdrop 13 (by decide)) (Or.inl ⟨by rfl, ?_⟩) (hS _) ?_
                        · rintro w' ⟨L, hL, hSw, hun⟩
                          go_simp
                        simp only [nA, nB, nC, Act.put, nD, nE, nF]
                        refine WA.tk (i := 14) (v := .bool false) rfl (hdrop 14 (by decide)) (Or.inl ⟨by rfl, ?_⟩) (hS _) ?_
                        · rintro w' ⟨L, hL, hSw, hun⟩
                          go_simp
                        simp only [nA, nB, nC, Act.put, nD, nE, nF]
                        refine WA.done (by kernel_rfl) ?_ _
                        refine Nrm.normal ?_
                        clear hSo hS hdrop c0 c1
                        clear St
                        go_wp2_with fail
                        go_meet
                        exact ⟨by rw [← Hm.out, hl]; simp, HA_Xt.out, by rw [HXt.out]; exact HT5.out.drew⟩
                  case rest =>
                    obtain ⟨rfl, hA6, hT6⟩ := hcut
                    have HA6 := Lib.hid hA6; have HT6 := Lib.hid hT6
                    clear hA6 hT6 HA5 HT5
                    have he1z : e1.size = n := HA6.out.size
                    cases h87 : (decide (a' > 0) && !ltInt e1[a' - 1]! e1[pv]!)
                    · obtain ⟨mid, ap, d4, hx⟩ : ∃ mid ap d4, partition ltInt e1 a' b' pv = (mid, ap, d4) := ⟨(partition ltInt e1 a' b' pv).1, (partition ltInt e1 a' b' pv).2.1, (partition ltInt e1 a' b' pv).2.2, rfl⟩
                      have hBel3 : Sort.Below ltInt a' b' e1 := by rw [He1.out]; exact BB.out
                      obtain ⟨r1, r2, r3, r4, r5, r6, r7⟩ := round_part swoInt (partition_holds ltInt) hpv1 hpv2 (show b' ≤ e1.size by omega) hBel3 hx
                      have hc22 := partition_u HA6.out (by omega) a' b' pv hpv1 hpv2 hb'
                      rw [hx] at hc22
                      have Hx := Lib.hid hx; have R4 := Lib.hid r4; have R5 := Lib.hid r5; have R6 := Lib.hid r6; have R7 := Lib.hid r7; have H87 := Lib.hid h87
                      clear hx r3 r4 r5 r6 r7 hBel3 he1z h87
                      go_upto_if 113 with fail
                      refine hc22.mono ?_
                      rintro e w7 ⟨rfl, hA7, hT7⟩
                      have HA7 := Lib.hid hA7; have HT7 := Lib.hid (HT6.out.trans hT7)
                      clear hA7 hT7 HA6 HT6 hc22
                      have hlm : (rd ltInt dk a' b' lim wb wp).lim ≤ lim := rd_lim_le
                      have leftEq := pdq_left (lt := ltInt) (d := dk) (wb := wb) (wp := wp) h12 hl0 Hp2.out
                      have rightEq := pdq_right (lt := ltInt) (d := dk) (wb := wb) (wp := wp) h12 hl0 Hp2.out
                      rw [← He1.out, ← Hpv.out, Hx.out] at leftEq rightEq
                      have LE := Lib.hid (leftEq H87.out ⟨r1, r2⟩); have RE := Lib.hid (rightEq H87.out ⟨r1, r2⟩)
                      clear leftEq rightEq
                      go_upto_if 113 with fail
                      obtain ⟨lm, hlme⟩ : ∃ lm, lm = (rd ltInt dk a' b' lim wb wp).lim := ⟨_, rfl⟩
                      have hlm2 : lm ≤ 1000000 := by omega
                      by_cases h4 : mid - a' < b' - mid
                      · have h4z : decide ((mid : Int) - (a' : Int) < (b' : Int) - (mid : Int)) = true := by simp; omega
                        have hih := IH.out a' mid lm d4 w7 (by omega) HA7.out r1 (by omega) hlm2 R4.out
                        obtain ⟨pL, sL⟩ := pdq_sorts ltInt swoInt d4 a' mid lm true true r1 (by rw [HA7.out.size]; omega) R4.out
                        have H6 := Lib.hid (R6.out _ pL sL).1
                        clear pL sL
                        rw [hlme] at hih H6
                        have Hlme := Lib.hid hlme
                        clear hlme
                        go_wp2_with fail
                        refine hih.mono ?_
                        rintro e w8 ⟨rfl, hA8, hT8⟩
                        go_wp2_with fail
                        go_roundg (b' - (mid + 1))
                        case measure => omega
                        case rel =>
                          refine ⟨mid + 1, b', (rd ltInt dk a' b' lim wb wp).lim, decide (mid - a' ≥ (b' - a') / 8), ap, pdq ltInt d4 a' mid (rd ltInt dk a' b' lim wb wp).lim true true, by simp, rfl, rfl, ?_, rfl, by omega, hb', Nat.le_refl _, by omega, by omega, H6.out, hA8, HT7.out.trans hT8, ?_⟩
                          · exact congrArg Value.bool (eighth_is (by omega) (by omega))
                          · rw [← Heq.out, LE.out h4]
                      · have h4z : decide ((mid : Int) - (a' : Int) < (b' : Int) - (mid : Int)) = false := by simp; omega
                        have hih := IH.out (mid + 1) b' lm d4 w7 (by omega) HA7.out (by omega) hb' hlm2 R5.out
                        obtain ⟨pL, sL⟩ := pdq_sorts ltInt swoInt d4 (mid + 1) b' lm true true (by omega) (by rw [HA7.out.size]; omega) R5.out
                        have H7 := Lib.hid (R7.out _ pL sL).1
                        clear pL sL
                        rw [hlme] at hih H7
                        have Hlme := Lib.hid hlme
                        clear hlme
                        push_cast at hih
                        go_wp2_with fail
                        refine hih.mono ?_
                        rintro e w8 ⟨rfl, hA8, hT8⟩
                        go_wp2_with fail
                        go_roundg (mid - a')
                        case measure => omega
                        case rel =>
                          refine ⟨a', mid, (rd ltInt dk a' b' lim wb wp).lim, decide (b' - mid ≥ (b' - a') / 8), ap, pdq ltInt d4 (mid + 1) b' (rd ltInt dk a' b' lim wb wp).lim true true, rfl, rfl, rfl, ?_, rfl, r1, by omega, Nat.le_refl _, by omega, by omega, H7.out, hA8, HT7.out.trans hT8, ?_⟩
                          · exact congrArg Value.bool (eighth_is (by omega) (by omega))
                          · rw [← Heq.out, RE.out h4]
                    · have h87' := h87
                      simp only [Bool.and_eq_true, decide_eq_true_eq, Bool.not_eq_true'] at h87'
                      obtain ⟨mid, d4, hx⟩ : ∃ mid d4, partitionEqual ltInt e1 a' b' pv = (mid, d4) := ⟨(partitionEqual ltInt e1 a' b' pv).1, (partitionEqual ltInt e1 a' b' pv).2, rfl⟩
                      have hBel3 : Sort.Below ltInt a' b' e1 := by rw [He1.out]; exact BB.out
                      obtain ⟨r1, r2, r3, r4, _⟩ := round_eq swoInt (partitionEqual_holds ltInt) h87'.1 hpv1 hpv2 (show b' ≤ e1.size by omega) hBel3 h87'.2 hx
                      have hc21 := partitionEq_u HA6.out (by omega) a' b' pv hpv1 hpv2 hb'
                      rw [hx] at hc21
                      have Hx := Lib.hid hx; have R4 := Lib.hid r4; have H87 := Lib.hid h87
                      have hlm : (rd ltInt dk a' b' lim wb wp).lim ≤ lim := rd_lim_le
                      have eqEq := pdq_eq (lt := ltInt) (d := dk) (wb := wb) (wp := wp) h12 hl0 Hp2.out
                      rw [← He1.out, ← Hpv.out, Hx.out] at eqEq
                      have EE := Lib.hid (eqEq H87.out ⟨r1, r2⟩)
                      clear hx r3 r4 hBel3 he1z h87 h87' eqEq
                      go_wp2_with fail
                      refine hc21.mono ?_
                      rintro e w7 ⟨rfl, hA7, hT7⟩
                      go_wp2_with fail
                      go_roundg (b' - mid)
                      case measure => omega
                      case rel =>
                        exact ⟨mid, b', (rd ltInt dk a' b' lim wb wp).lim, wb, wp, d4, rfl, rfl, rfl, rfl, rfl, r2, hb', Nat.le_refl _, by omega, by omega, R4.out, hA7, HT6.out.trans hT7, by rw [← Heq.out, EE.out]⟩

end
end Go.Proofs.Ytghihhjcoilmgaa
