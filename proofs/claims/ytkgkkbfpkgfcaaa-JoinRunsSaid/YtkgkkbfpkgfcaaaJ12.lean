/- Layer 14: the reference's May, walked. -/
import Derived.Test.YtkgkkbfpkgfcaaaJ11
namespace Go.Proofs.Ytkgkkbfpkgfcaaa
set_option maxRecDepth 100000
open Go.RowKit Go.Maps
set_option linter.unusedVariables false
set_option linter.unusedSimpArgs false

def knA (n : Nat) (kn : Int → Bool) : Array Value := ((List.range n).map (fun v : Nat => Value.bool (kn v))).toArray
theorem knA_set (n : Nat) (kn kn' : Int → Bool) (v : Nat) (h : ∀ u : Nat, kn' u = (kn u || decide (u = v))) : (knA n kn).setIfInBounds v (.bool true) = knA n kn' := by
  refine Array.ext (by simp [knA]) (fun j h1 h2 => ?_)
  rw [Array.getElem_setIfInBounds (by simpa using h1)]
  simp only [knA, List.getElem_toArray, List.getElem_map, List.getElem_range, h]
  by_cases hj : v = j
  · subst hj; simp
  · rw [if_neg hj]; simp [Ne.symm hj]
theorem knA_congr (n : Nat) (kn kn' : Int → Bool) (h : ∀ u : Nat, kn' u = kn u) : knA n kn = knA n kn' := by
  unfold knA
  congr 2
  funext v
  rw [h]
theorem Try.infoBool : (Try.prog.info? 4).map (fun i => (i.zero, i.size, i.bytes)) = some (some (.bool false), 1, 1) := by kernel_rfl
theorem run_mkB (w : World) (n : Nat) (h : n ≤ 1000000) : (Instr.makeSlice 62 (.int .i64 (n : Int)) (.int .i64 (n : Int))).run Try.prog w = .ok (.slice (some ⟨w.heap.size, 0, none⟩) n n) (w.alloc (.cells (knA n (fun _ => false)) 4)) := by
  obtain ⟨i, hi, hz, hs, hb⟩ := info_parts Try.infoBool
  have hr := run_make (P := Try.prog) w 62 4 i (.bool false) Try.underlying62 hi hz .i64 .i64 n n (by omega) (Int.le_refl _) (by rw [hb]; omega) (by omega)
  rw [Int.toNat_natCast, hs, Nat.mul_one] at hr
  rw [hr]
  have e : madeCells (Value.bool false).cells n = knA n (fun _ => false) := by
    refine Array.ext (by simp [size_madeCells, knA]) (fun j h1 h2 => ?_)
    simp [madeCells, knA, Value.cells, Nat.mod_one]
  rw [e]
section
variable {w : World}
set_option maxRecDepth 100000 in
set_option maxHeartbeats 8000000 in
theorem rmay_any (h0 h1 h2 h3 h4 h5 : Int) (sa : Option Addr) (cap : Nat) (vars : Int) (steps : List StepT) (hst : IsSteps w sa steps) (hn : steps.length ≤ 1000000) (hv20 : vars ≤ 1000) :
    Calls Try.prog 7 #[.agg #[.int .i64 h0, .int .u32 h1, .int .i64 h2, .int .u32 h3, .int .i64 h4, .int .u32 h5, .slice sa steps.length cap, .int .i64 vars]] w fun e w' => e = .returned (.bool (mayP vars steps)) ∧ Below w.heap.size w w' := by
  have Hst := Lib.hid hst
  obtain ⟨n, hnn⟩ : ∃ n, steps.length = n := ⟨_, rfl⟩
  rw [hnn] at hn ⊢
  have Hn := Lib.hid hnn
  clear hst hnn
  by_cases hv : vars < 0
  · have hd : decide (vars < 0) = true := by simpa using hv
    have hbA : Below w.heap.size w (w.alloc (.cells #[.int .i64 h0, .int .u32 h1, .int .i64 h2, .int .u32 h3, .int .i64 h4, .int .u32 h5, .slice sa n cap, .int .i64 vars] 29)) := (Below.refl _ w).alloc (Nat.le_refl _) _
    have HbA := Lib.hid hbA
    clear hbA
    go_enter Try.func7, Try.ntmps7
    go_wp2_with fail
    go_ret
    refine ⟨?_, HbA.out⟩
    have : decide (0 ≤ vars) = false := by simpa using hv
    simp [mayP, this]
  · obtain ⟨vars, rfl⟩ : ∃ v : Nat, vars = v := ⟨vars.toNat, by omega⟩
    have hd : decide ((vars : Int) < 0) = false := by simp
    have hd2 : decide ((vars : Int) > 1000) = false := by simp; omega
    have hbA : Below w.heap.size w (w.alloc (.cells #[.int .i64 h0, .int .u32 h1, .int .i64 h2, .int .u32 h3, .int .i64 h4, .int .u32 h5, .slice sa n cap, .int .i64 (vars : Nat)] 29)) := (Below.refl _ w).alloc (Nat.le_refl _) _
    have hzA : (w.alloc (.cells #[.int .i64 h0, .int .u32 h1, .int .i64 h2, .int .u32 h3, .int .i64 h4, .int .u32 h5, .slice sa n cap, .int .i64 (vars : Nat)] 29)).heap.size = w.heap.size + 1 := World.size_alloc _ _
    have HbA := Lib.hid hbA; have HzA := Lib.hid hzA; have HbX := Lib.hid (World.alloc_heap_new w (.cells #[.int .i64 h0, .int .u32 h1, .int .i64 h2, .int .u32 h3, .int .i64 h4, .int .u32 h5, .slice sa n cap, .int .i64 (vars : Nat)] 29))
    clear hbA hzA
    obtain ⟨hB2, hz2, g1, g2⟩ := two_blocks w (.cells #[.int .i64 h0, .int .u32 h1, .int .i64 h2, .int .u32 h3, .int .i64 h4, .int .u32 h5, .slice sa n cap, .int .i64 (vars : Nat)] 29) (.cells (knA vars (fun _ => false)) 4) _ rfl
    have HB2 := Lib.hid hB2; have Hz2 := Lib.hid hz2; have G1 := Lib.hid g1; have G2 := Lib.hid g2
    have hmk := fun w => run_mkB w vars (by omega)
    clear hB2 hz2 g1 g2
    go_enter Try.func7, Try.ntmps7
    go_wp2_with fail
    clear hmk
    have HzW := Hz2
    generalize (w.alloc (.cells #[.int .i64 h0, .int .u32 h1, .int .i64 h2, .int .u32 h3, .int .i64 h4, .int .u32 h5, .slice sa n cap, .int .i64 (vars : Nat)] 29)).alloc (.cells (knA vars (fun _ => false)) 4) = W at *
    go_loopw [4] (fun u wr => ∃ (i : Nat) (kn : Int → Bool), i ≤ n ∧ u = .int .i64 i ∧ wr.heap[w.heap.size + 1]? = some (.cells (knA vars kn) 4 (0, 0)) ∧ mayG vars steps (fun _ => false) = mayG vars (steps.drop i) kn ∧ Below w.heap.size w wr ∧ W.heap.size ≤ wr.heap.size ∧ wr.heap[w.heap.size]? = some (.cells #[.int .i64 h0, .int .u32 h1, .int .i64 h2, .int .u32 h3, .int .i64 h4, .int .u32 h5, .slice sa n cap, .int .i64 (vars : Nat)] 29 (0, 0))) (fun u _ => n - (intOf u).toNat)
    case atStart => exact ⟨0, _, by omega, rfl, G2.out, by rw [List.drop_zero], HB2.out, Nat.le_refl _, G1.out⟩
    case round =>
      obtain ⟨i, kn, hi, rfl, hm, hg, hB, hsz, hx⟩ := hrel
      have HM := Lib.hid hm; have HG := Lib.hid hg; have HB := Lib.hid hB; have Hsz := Lib.hid hsz; have HX := Lib.hid hx
      have hc6 : wr.cell? ⟨w.heap.size, 6, none⟩ = some (.slice sa n cap) := by unfold World.cell?; rw [hx]; rfl
      clear hm hg hB hsz hx
      by_cases hin : i < n
      · have hd3 : decide ((i : Int) < (n : Int)) = true := by simp; omega
        obtain ⟨sb, so, rfl, hs⟩ := Hst.out i (by have := Hn.out; omega)
        obtain ⟨⟨kk, ⟨a0, i0⟩, ⟨a1, i1⟩, ⟨a2, i2⟩, ⟨a3, i3⟩, ⟨a4, i4⟩⟩, hsi⟩ : ∃ s : StepT, steps[i]'(by have := Hn.out; omega) = s := ⟨_, rfl⟩
        rw [hsi] at hs
        obtain ⟨hsl, e0, e1, e2, e3, e4, e5, e6, e7, e8, e9, e10⟩ := hs.below HB.out
        simp only at e0 e1 e2 e3 e4 e5 e6 e7 e8 e9 e10
        have hdr : steps.drop i = ⟨kk, (a0, i0), (a1, i1), (a2, i2), (a3, i3), (a4, i4)⟩ :: steps.drop (i + 1) := by rw [← hsi]; exact List.drop_eq_getElem_cons _
        have Hdr := Lib.hid hdr
        obtain ⟨hB1, hz1, hb1, hb2⟩ := two_blocks wr (.cells #[.int .i64 kk, .int .i64 a0, .int .u32 i0, .int .i64 a1, .int .u32 i1, .int .i64 a2, .int .u32 i2, .int .i64 a3, .int .u32 i3, .int .i64 a4, .int .u32 i4] 35) (.cells #[.int .i64 a0, .int .u32 i0, .int .i64 a1, .int .u32 i1, .int .i64 a2, .int .u32 i2] 25) _ rfl
        have hB0 : Below wr.heap.size wr (wr.alloc (.cells #[.int .i64 kk, .int .i64 a0, .int .u32 i0, .int .i64 a1, .int .u32 i1, .int .i64 a2, .int .u32 i2, .int .i64 a3, .int .u32 i3, .int .i64 a4, .int .u32 i4] 35)) := (Below.refl _ wr).alloc (Nat.le_refl _) _
        have hb0 := World.alloc_heap_new wr (.cells #[.int .i64 kk, .int .i64 a0, .int .u32 i0, .int .i64 a1, .int .u32 i1, .int .i64 a2, .int .u32 i2, .int .i64 a3, .int .u32 i3, .int .i64 a4, .int .u32 i4] 35)
        have HB0 := Lib.hid hB0
        have HB1 := Lib.hid hB1; have Hz1 := Lib.hid hz1; have Hb1 := Lib.hid hb1; have Hb2 := Lib.hid hb2
        obtain ⟨ck0, ck1, ck2, ck3, ck4, ck5, ck6⟩ : (wr.alloc (.cells #[.int .i64 kk, .int .i64 a0, .int .u32 i0, .int .i64 a1, .int .u32 i1, .int .i64 a2, .int .u32 i2, .int .i64 a3, .int .u32 i3, .int .i64 a4, .int .u32 i4] 35)).cell? ⟨wr.heap.size, 0, none⟩ = some (.int .i64 kk) ∧ (wr.alloc (.cells #[.int .i64 kk, .int .i64 a0, .int .u32 i0, .int .i64 a1, .int .u32 i1, .int .i64 a2, .int .u32 i2, .int .i64 a3, .int .u32 i3, .int .i64 a4, .int .u32 i4] 35)).cell? ⟨wr.heap.size, 1, none⟩ = some (.int .i64 a0) ∧ (wr.alloc (.cells #[.int .i64 kk, .int .i64 a0, .int .u32 i0, .int .i64 a1, .int .u32 i1, .int .i64 a2, .int .u32 i2, .int .i64 a3, .int .u32 i3, .int .i64 a4, .int .u32 i4] 35)).cell? ⟨wr.heap.size, 2, none⟩ = some (.int .u32 i0) ∧ (wr.alloc (.cells #[.int .i64 kk, .int .i64 a0, .int .u32 i0, .int .i64 a1, .int .u32 i1, .int .i64 a2, .int .u32 i2, .int .i64 a3, .int .u32 i3, .int .i64 a4, .int .u32 i4] 35)).cell? ⟨wr.heap.size, 3, none⟩ = some (.int .i64 a1) ∧ (wr.alloc (.cells #[.int .i64 kk, .int .i64 a0, .int .u32 i0, .int .i64 a1, .int .u32 i1, .int .i64 a2, .int .u32 i2, .int .i64 a3, .int .u32 i3, .int .i64 a4, .int .u32 i4] 35)).cell? ⟨wr.heap.size, 4, none⟩ = some (.int .u32 i1) ∧ (wr.alloc (.cells #[.int .i64 kk, .int .i64 a0, .int .u32 i0, .int .i64 a1, .int .u32 i1, .int .i64 a2, .int .u32 i2, .int .i64 a3, .int .u32 i3, .int .i64 a4, .int .u32 i4] 35)).cell? ⟨wr.heap.size, 5, none⟩ = some (.int .i64 a2) ∧ (wr.alloc (.cells #[.int .i64 kk, .int .i64 a0, .int .u32 i0, .int .i64 a1, .int .u32 i1, .int .i64 a2, .int .u32 i2, .int .i64 a3, .int .u32 i3, .int .i64 a4, .int .u32 i4] 35)).cell? ⟨wr.heap.size, 6, none⟩ = some (.int .u32 i2) := by
          unfold World.cell?; rw [hb0]; exact ⟨rfl, rfl, rfl, rfl, rfl, rfl, rfl⟩
        have cq : ((wr.alloc (.cells #[.int .i64 kk, .int .i64 a0, .int .u32 i0, .int .i64 a1, .int .u32 i1, .int .i64 a2, .int .u32 i2, .int .i64 a3, .int .u32 i3, .int .i64 a4, .int .u32 i4] 35)).alloc (.cells #[.int .i64 a0, .int .u32 i0, .int .i64 a1, .int .u32 i1, .int .i64 a2, .int .u32 i2] 25)).cell? ⟨wr.heap.size, 0, none⟩ = some (.int .i64 kk) := by unfold World.cell?; rw [hb1]; rfl
        clear hs hsi hdr hB1 hz1 hb1 hb2 hB0 hb0
        by_cases hkk : 1 ≤ kk ∧ kk ≤ 4
        · have hk1 : decide (kk < 1) = false := by simp; omega
          have hk4 : decide (kk > 4) = false := by simp; omega
          have Hkk := Lib.hid (show decide (1 ≤ kk ∧ kk ≤ 4) = true from by simpa using hkk)
          go_upto_region 11 with fail
          obtain ⟨V1, hV1⟩ : ∃ V1, V1 = (wr.alloc (.cells #[.int .i64 kk, .int .i64 a0, .int .u32 i0, .int .i64 a1, .int .u32 i1, .int .i64 a2, .int .u32 i2, .int .i64 a3, .int .u32 i3, .int .i64 a4, .int .u32 i4] 35)).alloc (.cells #[.int .i64 a0, .int .u32 i0, .int .i64 a1, .int .u32 i1, .int .i64 a2, .int .u32 i2] 25) := ⟨_, rfl⟩
          obtain ⟨b5, hb5⟩ : ∃ b5, b5 = wr.heap.size := ⟨_, rfl⟩
          rw [← hV1] at HB1 Hz1 Hb1 Hb2 cq ⊢
          rw [← hb5] at Hb1 Hb2 cq Hz1 ⊢
          have Hb5 := Lib.hid hb5
          clear hV1 hb5 ck0 ck1 ck2 ck3 ck4 ck5 ck6 e0 e1 e2 e3 e4 e5 e6 e7 e8 e9 e10
          go_cut [57] from 50 to 57 (fun u57 wx => u57 = .bool (kk == 3 || kk == 4) ∧ wx = V1)
          case first =>
            by_cases hk3 : kk = 3
            · have hd4 : (kk == 3) = true := by simpa using hk3
              go_wp2_with fail
              go_meet
              exact ⟨by simp [hd4], rfl⟩
            · have hd4 : (kk == 3) = false := by simpa using hk3
              go_wp2_with fail
              go_meet
              exact ⟨by simp [hd4], rfl⟩
          case rest =>
            obtain ⟨rfl, hwc⟩ := hcut
            rw [hwc]
            clear hwc
            obtain ⟨q, hq⟩ : ∃ q, (kk == 3 || kk == 4) = q := ⟨_, rfl⟩
            rw [hq]
            have Hq := Lib.hid hq
            clear hq
            go_upto_if 57 with fail
            go_cut [6] from 58 to 62 (fun u6 wx => ∃ lb m : Nat, u6 = .slice (some ⟨lb, 0, none⟩) m m ∧ m ≤ 3 ∧ (plsOf ⟨kk, (a0, i0), (a1, i1), (a2, i2), (a3, i3), (a4, i4)⟩).length = m ∧ IsPls wx lb 0 (plsOf ⟨kk, (a0, i0), (a1, i1), (a2, i2), (a3, i3), (a4, i4)⟩) ∧ Below V1.heap.size V1 wx ∧ b5 < lb)
            case first =>
              have hq := Hq.out
              cases q with
              | false =>
                have hp : plsOf ⟨kk, (a0, i0), (a1, i1), (a2, i2), (a3, i3), (a4, i4)⟩ = [(a0, i0), (a1, i1), (a2, i2)] := by
                  unfold plsOf; rw [if_neg]
                  rintro (h | h) <;> (simp only at h; subst h; simp at hq)
                have Hp := Lib.hid hp
                clear hp hq
                go_wp2_with fail
                go_meet
                refine ⟨b5 + 1, 3, rfl, by decide, by rw [Hp.out]; rfl, ?_, Below.refl _ _, by omega⟩
                intro j hj
                simp only [Hp.out] at hj ⊢
                have hx := Hb2.out
                rcases (show j = 0 ∨ j = 1 ∨ j = 2 by simp at hj; omega) with rfl | rfl | rfl <;> (unfold World.cell?; rw [hx]; exact ⟨rfl, rfl⟩)
              | true =>
                have hp : plsOf ⟨kk, (a0, i0), (a1, i1), (a2, i2), (a3, i3), (a4, i4)⟩ = [(a3, i3), (a4, i4)] := by
                  unfold plsOf; rw [if_pos]
                  simpa using hq
                have Hp := Lib.hid hp
                obtain ⟨c7, c8, c9, c10⟩ : V1.cell? ⟨b5, 7, none⟩ = some (.int .i64 a3) ∧ V1.cell? ⟨b5, 8, none⟩ = some (.int .u32 i3) ∧ V1.cell? ⟨b5, 9, none⟩ = some (.int .i64 a4) ∧ V1.cell? ⟨b5, 10, none⟩ = some (.int .u32 i4) := by
                  unfold World.cell?; rw [Hb1.out]; exact ⟨rfl, rfl, rfl, rfl⟩
                clear hp hq
                go_wp2_with fail
                go_meet
                refine ⟨V1.heap.size, 2, rfl, by decide, by rw [Hp.out]; rfl, ?_, (Below.refl _ _).alloc (Nat.le_refl _) _, by have := Hz1.out; omega⟩
                intro j hj
                simp only [Hp.out] at hj ⊢
                have hx := World.alloc_heap_new V1 (.cells #[.int .i64 a3, .int .u32 i3, .int .i64 a4, .int .u32 i4] 25)
                rcases (show j = 0 ∨ j = 1 by simp at hj; omega) with rfl | rfl <;> (unfold World.cell?; rw [hx]; exact ⟨rfl, rfl⟩)
            case rest =>
              obtain ⟨lb, m, rfl, hm3, hm, hpl, hBx, hlb⟩ := hcut
              obtain ⟨LL, hLL⟩ : ∃ LL, plsOf ⟨kk, (a0, i0), (a1, i1), (a2, i2), (a3, i3), (a4, i4)⟩ = LL := ⟨_, rfl⟩
              rw [hLL] at hm hpl
              have Hc5 := Lib.hid ((hBx.block b5 (by have := Hz1.out; omega)).trans Hb1.out)
              have HBw := Lib.hid (HB1.out.trans (hBx.mono HB1.out.size))
              have Hm := Lib.hid hm; have Hpl := Lib.hid hpl; have HLL := Lib.hid hLL
              have Hcx := Lib.hid ((HBw.out.block _ (Array.getElem?_eq_some_iff.1 HX.out).1).trans HX.out)
              have Hck := Lib.hid ((HBw.out.block _ (Array.getElem?_eq_some_iff.1 HM.out).1).trans HM.out)
              clear hm hpl hLL hBx cq
              go_wp2_with fail
              go_loopw [7] (fun u wx => ∃ j : Nat, j ≤ m ∧ u = .int .i64 j ∧ Below wc.heap.size wc wx ∧ ∀ i (h : i < LL.length), i < j → okP vars kk kn LL[i] = true) (fun u _ => m - (intOf u).toNat)
              case atStart => exact ⟨0, by omega, rfl, Below.refl _ _, fun i _ h => by omega⟩
              case round =>
                obtain ⟨j, hj, rfl, hBj, hall⟩ := hrel
                have HBj := Lib.hid hBj; have Hall := Lib.hid hall
                clear hBj hall
                by_cases hjm : j < m
                · have hd : decide ((j : Int) < (m : Int)) = true := by simp; omega
                  have hjL : j < LL.length := by have := Hm.out; omega
                  obtain ⟨p0, p1⟩ := (Hpl.out.below HBj.out) j hjL
                  rw [Nat.zero_add] at p0 p1
                  obtain ⟨⟨xv, xi⟩, hx⟩ : ∃ x, LL[j] = x := ⟨_, rfl⟩
                  rw [hx] at p0 p1
                  simp only at p0 p1
                  have p0 : wr.drew.cell? ⟨lb, j * 2, none⟩ = _ := p0
                  have cv : wr.drew.cell? ⟨w.heap.size, 7, none⟩ = some (.int .i64 (vars : Nat)) := cell_later HBj.out.drew (by unfold World.cell?; rw [Hcx.out]; rfl)
                  have ck : wr.drew.cell? ⟨b5, 0, none⟩ = some (.int .i64 kk) := cell_later HBj.out.drew (by unfold World.cell?; rw [Hc5.out]; rfl)
                  have hckn : ∀ v : Nat, v < vars → wr.drew.cell? ⟨w.heap.size + 1, v, none⟩ = some (.bool (kn v)) := fun v hv => cell_later HBj.out.drew (by unfold World.cell?; rw [Hck.out]; simp [knA, hv])
                  have HBn := Lib.hid (HBj.out.drew); have Hx := Lib.hid hx; have Hckn := Lib.hid hckn
                  have hnext : okP vars kk kn (xv, xi) = true → ∀ i (h : i < LL.length), i < j + 1 → okP vars kk kn LL[i] = true := by
                    intro ho i h hi
                    by_cases hij : i = j
                    · subst hij; rw [Hx.out]; exact ho
                    · exact Hall.out i h (by omega)
                  have hbad : okP vars kk kn (xv, xi) = false → mayP vars steps = false := by
                    intro ho
                    have : LL.all (okP vars kk kn) = false := by
                      rw [List.all_eq_false]
                      exact ⟨_, List.getElem_mem hjL, by rw [Hx.out, ho]; simp⟩
                    simp only [mayP, HG.out, Hdr.out, mayG, HLL.out, this, Bool.false_and, Bool.and_false]
                  have Hnext := Lib.hid hnext; have Hbad := Lib.hid hbad
                  have HBf := Lib.hid ((HB.out.trans (HBw.out.mono HB.out.size)).trans (HBn.out.mono (HB.out.trans (HBw.out.mono HB.out.size)).size))
                  clear hnext hbad hx p1 hckn
                  by_cases hxv : xv ≥ (vars : Int)
                  · have hd1 : decide (xv ≥ (vars : Int)) = true := by simpa using hxv
                    go_wp2_with fail
                    obtain ⟨S16, hSe⟩ : ∃ S : Array Bool → World → Prop, S = fun _ w' => w' = wr.drew := ⟨_, rfl⟩
                    have hdrop : ∀ i : Nat, i ≠ 1000 → ∀ L w', S16 (L.setIfInBounds i true) w' → S16 L w' := by
                      intro i _ L w' h; rw [hSe] at h ⊢; exact h
                    have hS : ∀ L, S16 L wr.drew := by intro L; rw [hSe]
                    have hSo : ∀ {L w'}, S16 L w' → w' = wr.drew := by intro L w' h; rw [hSe] at h; exact h
                    clear hSe
                    refine wp_region_LN S16 32 #[false, false, false, false, false, false, false, false, false, false, false, false, false, false, false, false, false, false, false, false, false, false, false, false, false, false, false, false, false, false, false, false] (by kernel_rfl) (by kernel_rfl) rfl ?_
                    obtain ⟨X_, hX⟩ : ∃ X_, X_ = wr.drew := ⟨_, rfl⟩
                    rw [← hX] at p0 cv ck HBn HBf hSo hS ⊢
                    clear hX
                    refine WA.take (i := 0) (v := .slice (some ⟨lb, 0, none⟩) m m) rfl (by kernel_rfl) (by kernel_rfl) (by kernel_rfl) (fun _ _ _ h => h) (hdrop 0 (by decide)) (Or.inl ⟨by rfl, ?_⟩) (hS _) ?_
                    · rintro w' ⟨L, hL, hSw, hun⟩
                      go_simp
                    simp only [List.getElem_toArray, List.getElem_cons_zero, List.getElem_cons_succ, Act.put, List.setIfInBounds_toArray, List.set_cons_zero, List.set_cons_succ]
                    refine WA.take (i := 1) (v := .int .i64 (j : Nat)) rfl (by kernel_rfl) (by kernel_rfl) (by kernel_rfl) (fun _ _ _ h => h) (hdrop 1 (by decide)) (Or.inl ⟨by rfl, ?_⟩) (hS _) ?_
                    · rintro w' ⟨L, hL, hSw, hun⟩
                      go_simp
                    simp only [List.getElem_toArray, List.getElem_cons_zero, List.getElem_cons_succ, Act.put, List.setIfInBounds_toArray, List.set_cons_zero, List.set_cons_succ]
                    refine WA.take (i := 2) (v := .pointer (some ⟨lb, j * 2, none⟩)) rfl (by kernel_rfl) (by kernel_rfl) (by kernel_rfl) (fun _ _ _ h => h) (hdrop 2 (by decide)) (Or.inl ⟨by rfl, ?_⟩) (hS _) ?_
                    · rintro w' ⟨L, hL, hSw, hun⟩
                      go_simp
                    simp only [List.getElem_toArray, List.getElem_cons_zero, List.getElem_cons_succ, Act.put, List.setIfInBounds_toArray, List.set_cons_zero, List.set_cons_succ]
                    refine WA.take (i := 3) (v := .pointer (some ⟨lb, j * 2, none⟩)) rfl (by kernel_rfl) (by kernel_rfl) (by kernel_rfl) (fun _ _ _ h => h) (hdrop 3 (by decide)) (Or.inl ⟨by rfl, ?_⟩) (hS _) ?_
                    · rintro w' ⟨L, hL, hSw, hun⟩
                      go_simp
                    simp only [List.getElem_toArray, List.getElem_cons_zero, List.getElem_cons_succ, Act.put, List.setIfInBounds_toArray, List.set_cons_zero, List.set_cons_succ]
                    refine WA.take (i := 4) (v := .int .i64 xv) rfl (by kernel_rfl) (by kernel_rfl) (by kernel_rfl) (fun _ _ _ h => h) (hdrop 4 (by decide)) (Or.inl ⟨by rfl, ?_⟩) (hS _) ?_
                    · rintro w' ⟨L, hL, hSw, hun⟩
                      obtain rfl := hSo hSw 
                      go_simp
                    simp only [List.getElem_toArray, List.getElem_cons_zero, List.getElem_cons_succ, Act.put, List.setIfInBounds_toArray, List.set_cons_zero, List.set_cons_succ]
                    refine WA.take (i := 5) (v := .pointer (some ⟨w.heap.size, 7, none⟩)) rfl (by kernel_rfl) (by kernel_rfl) (by kernel_rfl) (fun _ _ _ h => h) (hdrop 5 (by decide)) (Or.inl ⟨by rfl, ?_⟩) (hS _) ?_
                    · rintro w' ⟨L, hL, hSw, hun⟩
                      go_simp
                    simp only [List.getElem_toArray, List.getElem_cons_zero, List.getElem_cons_succ, Act.put, List.setIfInBounds_toArray, List.set_cons_zero, List.set_cons_succ]
                    refine WA.take (i := 6) (v := .int .i64 (vars : Nat)) rfl (by kernel_rfl) (by kernel_rfl) (by kernel_rfl) (fun _ _ _ h => h) (hdrop 6 (by decide)) (Or.inl ⟨by rfl, ?_⟩) (hS _) ?_
                    · rintro w' ⟨L, hL, hSw, hun⟩
                      obtain rfl := hSo hSw 
                      go_simp
                    simp only [List.getElem_toArray, List.getElem_cons_zero, List.getElem_cons_succ, Act.put, List.setIfInBounds_toArray, List.set_cons_zero, List.set_cons_succ]
                    refine WA.take (i := 7) (v := .bool true) rfl (by kernel_rfl) (by kernel_rfl) (by kernel_rfl) (fun _ _ _ h => h) (hdrop 7 (by decide)) (Or.inl ⟨by rfl, ?_⟩) (hS _) ?_
                    · rintro w' ⟨L, hL, hSw, hun⟩
                      go_simp
                    simp only [List.getElem_toArray, List.getElem_cons_zero, List.getElem_cons_succ, Act.put, List.setIfInBounds_toArray, List.set_cons_zero, List.set_cons_succ]
                    refine WA.take (i := 8) (v := .bool true) rfl (by kernel_rfl) (by kernel_rfl) (by kernel_rfl) (fun _ _ _ h => h) (hdrop 8 (by decide)) (Or.inl ⟨by rfl, ?_⟩) (hS _) ?_
                    · rintro w' ⟨L, hL, hSw, hun⟩
                      go_simp
                    simp only [List.getElem_toArray, List.getElem_cons_zero, List.getElem_cons_succ, Act.put, List.setIfInBounds_toArray, List.set_cons_zero, List.set_cons_succ]
                    refine WA.take (i := 9) (v := undef) rfl (by kernel_rfl) (by kernel_rfl) (by kernel_rfl) (fun _ _ _ h => h) (hdrop 9 (by decide)) (Or.inr ⟨by rfl, rfl⟩) (hS _) ?_
                    simp only [List.getElem_toArray, List.getElem_cons_zero, List.getElem_cons_succ, Act.put, List.setIfInBounds_toArray, List.set_cons_zero, List.set_cons_succ]
                    refine WA.take (i := 10) (v := undef) rfl (by kernel_rfl) (by kernel_rfl) (by kernel_rfl) (fun _ _ _ h => h) (hdrop 10 (by decide)) (Or.inr ⟨by rfl, rfl⟩) (hS _) ?_
                    simp only [List.getElem_toArray, List.getElem_cons_zero, List.getElem_cons_succ, Act.put, List.setIfInBounds_toArray, List.set_cons_zero, List.set_cons_succ]
                    refine WA.take (i := 11) (v := undef) rfl (by kernel_rfl) (by kernel_rfl) (by kernel_rfl) (fun _ _ _ h => h) (hdrop 11 (by decide)) (Or.inr ⟨by rfl, rfl⟩) (hS _) ?_
                    simp only [List.getElem_toArray, List.getElem_cons_zero, List.getElem_cons_succ, Act.put, List.setIfInBounds_toArray, List.set_cons_zero, List.set_cons_succ]
                    refine WA.take (i := 12) (v := undef) rfl (by kernel_rfl) (by kernel_rfl) (by kernel_rfl) (fun _ _ _ h => h) (hdrop 12 (by decide)) (Or.inr ⟨by rfl, rfl⟩) (hS _) ?_
                    simp only [List.getElem_toArray, List.getElem_cons_zero, List.getElem_cons_succ, Act.put, List.setIfInBounds_toArray, List.set_cons_zero, List.set_cons_succ]
                    refine WA.take (i := 13) (v := undef) rfl (by kernel_rfl) (by kernel_rfl) (by kernel_rfl) (fun _ _ _ h => h) (hdrop 13 (by decide)) (Or.inr ⟨by rfl, rfl⟩) (hS _) ?_
                    simp only [List.getElem_toArray, List.getElem_cons_zero, List.getElem_cons_succ, Act.put, List.setIfInBounds_toArray, List.set_cons_zero, List.set_cons_succ]
                    refine WA.take (i := 14) (v := undef) rfl (by kernel_rfl) (by kernel_rfl) (by kernel_rfl) (fun _ _ _ h => h) (hdrop 14 (by decide)) (Or.inr ⟨by rfl, rfl⟩) (hS _) ?_
                    simp only [List.getElem_toArray, List.getElem_cons_zero, List.getElem_cons_succ, Act.put, List.setIfInBounds_toArray, List.set_cons_zero, List.set_cons_succ]
                    refine WA.take (i := 15) (v := undef) rfl (by kernel_rfl) (by kernel_rfl) (by kernel_rfl) (fun _ _ _ h => h) (hdrop 15 (by decide)) (Or.inr ⟨by rfl, rfl⟩) (hS _) ?_
                    simp only [List.getElem_toArray, List.getElem_cons_zero, List.getElem_cons_succ, Act.put, List.setIfInBounds_toArray, List.set_cons_zero, List.set_cons_succ]
                    refine WA.take (i := 16) (v := undef) rfl (by kernel_rfl) (by kernel_rfl) (by kernel_rfl) (fun _ _ _ h => h) (hdrop 16 (by decide)) (Or.inr ⟨by rfl, rfl⟩) (hS _) ?_
                    simp only [List.getElem_toArray, List.getElem_cons_zero, List.getElem_cons_succ, Act.put, List.setIfInBounds_toArray, List.set_cons_zero, List.set_cons_succ]
                    refine WA.take (i := 17) (v := undef) rfl (by kernel_rfl) (by kernel_rfl) (by kernel_rfl) (fun _ _ _ h => h) (hdrop 17 (by decide)) (Or.inr ⟨by rfl, rfl⟩) (hS _) ?_
                    simp only [List.getElem_toArray, List.getElem_cons_zero, List.getElem_cons_succ, Act.put, List.setIfInBounds_toArray, List.set_cons_zero, List.set_cons_succ]
                    refine WA.take (i := 18) (v := undef) rfl (by kernel_rfl) (by kernel_rfl) (by kernel_rfl) (fun _ _ _ h => h) (hdrop 18 (by decide)) (Or.inr ⟨by rfl, rfl⟩) (hS _) ?_
                    simp only [List.getElem_toArray, List.getElem_cons_zero, List.getElem_cons_succ, Act.put, List.setIfInBounds_toArray, List.set_cons_zero, List.set_cons_succ]
                    refine WA.take (i := 19) (v := undef) rfl (by kernel_rfl) (by kernel_rfl) (by kernel_rfl) (fun _ _ _ h => h) (hdrop 19 (by decide)) (Or.inr ⟨by rfl, rfl⟩) (hS _) ?_
                    simp only [List.getElem_toArray, List.getElem_cons_zero, List.getElem_cons_succ, Act.put, List.setIfInBounds_toArray, List.set_cons_zero, List.set_cons_succ]
                    refine WA.take (i := 20) (v := undef) rfl (by kernel_rfl) (by kernel_rfl) (by kernel_rfl) (fun _ _ _ h => h) (hdrop 20 (by decide)) (Or.inr ⟨by rfl, rfl⟩) (hS _) ?_
                    simp only [List.getElem_toArray, List.getElem_cons_zero, List.getElem_cons_succ, Act.put, List.setIfInBounds_toArray, List.set_cons_zero, List.set_cons_succ]
                    refine WA.take (i := 21) (v := undef) rfl (by kernel_rfl) (by kernel_rfl) (by kernel_rfl) (fun _ _ _ h => h) (hdrop 21 (by decide)) (Or.inr ⟨by rfl, rfl⟩) (hS _) ?_
                    simp only [List.getElem_toArray, List.getElem_cons_zero, List.getElem_cons_succ, Act.put, List.setIfInBounds_toArray, List.set_cons_zero, List.set_cons_succ]
                    refine WA.take (i := 22) (v := undef) rfl (by kernel_rfl) (by kernel_rfl) (by kernel_rfl) (fun _ _ _ h => h) (hdrop 22 (by decide)) (Or.inr ⟨by rfl, rfl⟩) (hS _) ?_
                    simp only [List.getElem_toArray, List.getElem_cons_zero, List.getElem_cons_succ, Act.put, List.setIfInBounds_toArray, List.set_cons_zero, List.set_cons_succ]
                    refine WA.take (i := 23) (v := undef) rfl (by kernel_rfl) (by kernel_rfl) (by kernel_rfl) (fun _ _ _ h => h) (hdrop 23 (by decide)) (Or.inr ⟨by rfl, rfl⟩) (hS _) ?_
                    simp only [List.getElem_toArray, List.getElem_cons_zero, List.getElem_cons_succ, Act.put, List.setIfInBounds_toArray, List.set_cons_zero, List.set_cons_succ]
                    refine WA.take (i := 24) (v := undef) rfl (by kernel_rfl) (by kernel_rfl) (by kernel_rfl) (fun _ _ _ h => h) (hdrop 24 (by decide)) (Or.inr ⟨by rfl, rfl⟩) (hS _) ?_
                    simp only [List.getElem_toArray, List.getElem_cons_zero, List.getElem_cons_succ, Act.put, List.setIfInBounds_toArray, List.set_cons_zero, List.set_cons_succ]
                    refine WA.take (i := 25) (v := undef) rfl (by kernel_rfl) (by kernel_rfl) (by kernel_rfl) (fun _ _ _ h => h) (hdrop 25 (by decide)) (Or.inr ⟨by rfl, rfl⟩) (hS _) ?_
                    simp only [List.getElem_toArray, List.getElem_cons_zero, List.getElem_cons_succ, Act.put, List.setIfInBounds_toArray, List.set_cons_zero, List.set_cons_succ]
                    refine WA.take (i := 26) (v := undef) rfl (by kernel_rfl) (by kernel_rfl) (by kernel_rfl) (fun _ _ _ h => h) (hdrop 26 (by decide)) (Or.inr ⟨by rfl, rfl⟩) (hS _) ?_
                    simp only [List.getElem_toArray, List.getElem_cons_zero, List.getElem_cons_succ, Act.put, List.setIfInBounds_toArray, List.set_cons_zero, List.set_cons_succ]
                    refine WA.take (i := 27) (v := undef) rfl (by kernel_rfl) (by kernel_rfl) (by kernel_rfl) (fun _ _ _ h => h) (hdrop 27 (by decide)) (Or.inr ⟨by rfl, rfl⟩) (hS _) ?_
                    simp only [List.getElem_toArray, List.getElem_cons_zero, List.getElem_cons_succ, Act.put, List.setIfInBounds_toArray, List.set_cons_zero, List.set_cons_succ]
                    refine WA.take (i := 28) (v := undef) rfl (by kernel_rfl) (by kernel_rfl) (by kernel_rfl) (fun _ _ _ h => h) (hdrop 28 (by decide)) (Or.inr ⟨by rfl, rfl⟩) (hS _) ?_
                    simp only [List.getElem_toArray, List.getElem_cons_zero, List.getElem_cons_succ, Act.put, List.setIfInBounds_toArray, List.set_cons_zero, List.set_cons_succ]
                    refine WA.take (i := 29) (v := undef) rfl (by kernel_rfl) (by kernel_rfl) (by kernel_rfl) (fun _ _ _ h => h) (hdrop 29 (by decide)) (Or.inr ⟨by rfl, rfl⟩) (hS _) ?_
                    simp only [List.getElem_toArray, List.getElem_cons_zero, List.getElem_cons_succ, Act.put, List.setIfInBounds_toArray, List.set_cons_zero, List.set_cons_succ]
                    refine WA.take (i := 30) (v := undef) rfl (by kernel_rfl) (by kernel_rfl) (by kernel_rfl) (fun _ _ _ h => h) (hdrop 30 (by decide)) (Or.inr ⟨by rfl, rfl⟩) (hS _) ?_
                    simp only [List.getElem_toArray, List.getElem_cons_zero, List.getElem_cons_succ, Act.put, List.setIfInBounds_toArray, List.set_cons_zero, List.set_cons_succ]
                    refine WA.take (i := 31) (v := .bool true) rfl (by kernel_rfl) (by kernel_rfl) (by kernel_rfl) (fun _ _ _ h => h) (hdrop 31 (by decide)) (Or.inl ⟨by rfl, ?_⟩) (hS _) ?_
                    · rintro w' ⟨L, hL, hSw, hun⟩
                      go_simp
                    simp only [List.getElem_toArray, List.getElem_cons_zero, List.getElem_cons_succ, Act.put, List.setIfInBounds_toArray, List.set_cons_zero, List.set_cons_succ]
                    refine WA.done (by kernel_rfl) ?_ _
                    refine Nrm.normal ?_
                    clear hSo hS hdrop
                    clear S16
                    go_wp2_with fail
                    go_ret
                    refine ⟨?_, HBf.out⟩
                    rw [Hbad.out (by simp only [okP, hd1]; rfl)]; rfl
                  · have hd1 : decide (xv ≥ (vars : Int)) = false := by simpa using hxv
                    by_cases hx0 : xv < 0
                    · have hd3 : decide (xv ≥ 0) = false := by simp; omega
                      go_wp2_with fail
                      obtain ⟨S16, hSe⟩ : ∃ S : Array Bool → World → Prop, S = fun _ w' => w' = wr.drew := ⟨_, rfl⟩
                      have hdrop : ∀ i : Nat, i ≠ 1000 → ∀ L w', S16 (L.setIfInBounds i true) w' → S16 L w' := by
                        intro i _ L w' h; rw [hSe] at h ⊢; exact h
                      have hS : ∀ L, S16 L wr.drew := by intro L; rw [hSe]
                      have hSo : ∀ {L w'}, S16 L w' → w' = wr.drew := by intro L w' h; rw [hSe] at h; exact h
                      clear hSe
                      refine wp_region_LN S16 32 #[false, false, false, false, false, false, false, false, false, false, false, false, false, false, false, false, false, false, false, false, false, false, false, false, false, false, false, false, false, false, false, false] (by kernel_rfl) (by kernel_rfl) rfl ?_
                      obtain ⟨X_, hX⟩ : ∃ X_, X_ = wr.drew := ⟨_, rfl⟩
                      rw [← hX] at p0 cv ck HBn HBf hSo hS ⊢
                      clear hX
                      refine WA.take (i := 0) (v := .slice (some ⟨lb, 0, none⟩) m m) rfl (by kernel_rfl) (by kernel_rfl) (by kernel_rfl) (fun _ _ _ h => h) (hdrop 0 (by decide)) (Or.inl ⟨by rfl, ?_⟩) (hS _) ?_
                      · rintro w' ⟨L, hL, hSw, hun⟩
                        go_simp
                      simp only [List.getElem_toArray, List.getElem_cons_zero, List.getElem_cons_succ, Act.put, List.setIfInBounds_toArray, List.set_cons_zero, List.set_cons_succ]
                      refine WA.take (i := 1) (v := .int .i64 (j : Nat)) rfl (by kernel_rfl) (by kernel_rfl) (by kernel_rfl) (fun _ _ _ h => h) (hdrop 1 (by decide)) (Or.inl ⟨by rfl, ?_⟩) (hS _) ?_
                      · rintro w' ⟨L, hL, hSw, hun⟩
                        go_simp
                      simp only [List.getElem_toArray, List.getElem_cons_zero, List.getElem_cons_succ, Act.put, List.setIfInBounds_toArray, List.set_cons_zero, List.set_cons_succ]
                      refine WA.take (i := 2) (v := .pointer (some ⟨lb, j * 2, none⟩)) rfl (by kernel_rfl) (by kernel_rfl) (by kernel_rfl) (fun _ _ _ h => h) (hdrop 2 (by decide)) (Or.inl ⟨by rfl, ?_⟩) (hS _) ?_
                      · rintro w' ⟨L, hL, hSw, hun⟩
                        go_simp
                      simp only [List.getElem_toArray, List.getElem_cons_zero, List.getElem_cons_succ, Act.put, List.setIfInBounds_toArray, List.set_cons_zero, List.set_cons_succ]
                      refine WA.take (i := 3) (v := .pointer (some ⟨lb, j * 2, none⟩)) rfl (by kernel_rfl) (by kernel_rfl) (by kernel_rfl) (fun _ _ _ h => h) (hdrop 3 (by decide)) (Or.inl ⟨by rfl, ?_⟩) (hS _) ?_
                      · rintro w' ⟨L, hL, hSw, hun⟩
                        go_simp
                      simp only [List.getElem_toArray, List.getElem_cons_zero, List.getElem_cons_succ, Act.put, List.setIfInBounds_toArray, List.set_cons_zero, List.set_cons_succ]
                      refine WA.take (i := 4) (v := .int .i64 xv) rfl (by kernel_rfl) (by kernel_rfl) (by kernel_rfl) (fun _ _ _ h => h) (hdrop 4 (by decide)) (Or.inl ⟨by rfl, ?_⟩) (hS _) ?_
                      · rintro w' ⟨L, hL, hSw, hun⟩
                        obtain rfl := hSo hSw 
                        go_simp
                      simp only [List.getElem_toArray, List.getElem_cons_zero, List.getElem_cons_succ, Act.put, List.setIfInBounds_toArray, List.set_cons_zero, List.set_cons_succ]
                      refine WA.take (i := 5) (v := .pointer (some ⟨w.heap.size, 7, none⟩)) rfl (by kernel_rfl) (by kernel_rfl) (by kernel_rfl) (fun _ _ _ h => h) (hdrop 5 (by decide)) (Or.inl ⟨by rfl, ?_⟩) (hS _) ?_
                      · rintro w' ⟨L, hL, hSw, hun⟩
                        go_simp
                      simp only [List.getElem_toArray, List.getElem_cons_zero, List.getElem_cons_succ, Act.put, List.setIfInBounds_toArray, List.set_cons_zero, List.set_cons_succ]
                      refine WA.take (i := 6) (v := .int .i64 (vars : Nat)) rfl (by kernel_rfl) (by kernel_rfl) (by kernel_rfl) (fun _ _ _ h => h) (hdrop 6 (by decide)) (Or.inl ⟨by rfl, ?_⟩) (hS _) ?_
                      · rintro w' ⟨L, hL, hSw, hun⟩
                        obtain rfl := hSo hSw 
                        go_simp
                      simp only [List.getElem_toArray, List.getElem_cons_zero, List.getElem_cons_succ, Act.put, List.setIfInBounds_toArray, List.set_cons_zero, List.set_cons_succ]
                      refine WA.take (i := 7) (v := .bool false) rfl (by kernel_rfl) (by kernel_rfl) (by kernel_rfl) (fun _ _ _ h => h) (hdrop 7 (by decide)) (Or.inl ⟨by rfl, ?_⟩) (hS _) ?_
                      · rintro w' ⟨L, hL, hSw, hun⟩
                        go_simp
                      simp only [List.getElem_toArray, List.getElem_cons_zero, List.getElem_cons_succ, Act.put, List.setIfInBounds_toArray, List.set_cons_zero, List.set_cons_succ]
                      refine WA.take (i := 8) (v := .bool false) rfl (by kernel_rfl) (by kernel_rfl) (by kernel_rfl) (fun _ _ _ h => h) (hdrop 8 (by decide)) (Or.inl ⟨by rfl, ?_⟩) (hS _) ?_
                      · rintro w' ⟨L, hL, hSw, hun⟩
                        go_simp
                      simp only [List.getElem_toArray, List.getElem_cons_zero, List.getElem_cons_succ, Act.put, List.setIfInBounds_toArray, List.set_cons_zero, List.set_cons_succ]
                      refine WA.take (i := 9) (v := .slice (some ⟨lb, 0, none⟩) m m) rfl (by kernel_rfl) (by kernel_rfl) (by kernel_rfl) (fun _ _ _ h => h) (hdrop 9 (by decide)) (Or.inl ⟨by rfl, ?_⟩) (hS _) ?_
                      · rintro w' ⟨L, hL, hSw, hun⟩
                        go_simp
                      simp only [List.getElem_toArray, List.getElem_cons_zero, List.getElem_cons_succ, Act.put, List.setIfInBounds_toArray, List.set_cons_zero, List.set_cons_succ]
                      refine WA.take (i := 10) (v := .int .i64 (j : Nat)) rfl (by kernel_rfl) (by kernel_rfl) (by kernel_rfl) (fun _ _ _ h => h) (hdrop 10 (by decide)) (Or.inl ⟨by rfl, ?_⟩) (hS _) ?_
                      · rintro w' ⟨L, hL, hSw, hun⟩
                        go_simp
                      simp only [List.getElem_toArray, List.getElem_cons_zero, List.getElem_cons_succ, Act.put, List.setIfInBounds_toArray, List.set_cons_zero, List.set_cons_succ]
                      refine WA.take (i := 11) (v := .pointer (some ⟨lb, j * 2, none⟩)) rfl (by kernel_rfl) (by kernel_rfl) (by kernel_rfl) (fun _ _ _ h => h) (hdrop 11 (by decide)) (Or.inl ⟨by rfl, ?_⟩) (hS _) ?_
                      · rintro w' ⟨L, hL, hSw, hun⟩
                        go_simp
                      simp only [List.getElem_toArray, List.getElem_cons_zero, List.getElem_cons_succ, Act.put, List.setIfInBounds_toArray, List.set_cons_zero, List.set_cons_succ]
                      refine WA.take (i := 12) (v := .pointer (some ⟨lb, j * 2, none⟩)) rfl (by kernel_rfl) (by kernel_rfl) (by kernel_rfl) (fun _ _ _ h => h) (hdrop 12 (by decide)) (Or.inl ⟨by rfl, ?_⟩) (hS _) ?_
                      · rintro w' ⟨L, hL, hSw, hun⟩
                        go_simp
                      simp only [List.getElem_toArray, List.getElem_cons_zero, List.getElem_cons_succ, Act.put, List.setIfInBounds_toArray, List.set_cons_zero, List.set_cons_succ]
                      refine WA.take (i := 13) (v := .int .i64 xv) rfl (by kernel_rfl) (by kernel_rfl) (by kernel_rfl) (fun _ _ _ h => h) (hdrop 13 (by decide)) (Or.inl ⟨by rfl, ?_⟩) (hS _) ?_
                      · rintro w' ⟨L, hL, hSw, hun⟩
                        obtain rfl := hSo hSw 
                        go_simp
                      simp only [List.getElem_toArray, List.getElem_cons_zero, List.getElem_cons_succ, Act.put, List.setIfInBounds_toArray, List.set_cons_zero, List.set_cons_succ]
                      refine WA.take (i := 14) (v := .bool false) rfl (by kernel_rfl) (by kernel_rfl) (by kernel_rfl) (fun _ _ _ h => h) (hdrop 14 (by decide)) (Or.inl ⟨by rfl, ?_⟩) (hS _) ?_
                      · rintro w' ⟨L, hL, hSw, hun⟩
                        go_simp
                      simp only [List.getElem_toArray, List.getElem_cons_zero, List.getElem_cons_succ, Act.put, List.setIfInBounds_toArray, List.set_cons_zero, List.set_cons_succ]
                      refine WA.take (i := 15) (v := .bool false) rfl (by kernel_rfl) (by kernel_rfl) (by kernel_rfl) (fun _ _ _ h => h) (hdrop 15 (by decide)) (Or.inl ⟨by rfl, ?_⟩) (hS _) ?_
                      · rintro w' ⟨L, hL, hSw, hun⟩
                        go_simp
                      simp only [List.getElem_toArray, List.getElem_cons_zero, List.getElem_cons_succ, Act.put, List.setIfInBounds_toArray, List.set_cons_zero, List.set_cons_succ]
                      refine WA.take (i := 16) (v := undef) rfl (by kernel_rfl) (by kernel_rfl) (by kernel_rfl) (fun _ _ _ h => h) (hdrop 16 (by decide)) (Or.inr ⟨by rfl, rfl⟩) (hS _) ?_
                      simp only [List.getElem_toArray, List.getElem_cons_zero, List.getElem_cons_succ, Act.put, List.setIfInBounds_toArray, List.set_cons_zero, List.set_cons_succ]
                      refine WA.take (i := 17) (v := undef) rfl (by kernel_rfl) (by kernel_rfl) (by kernel_rfl) (fun _ _ _ h => h) (hdrop 17 (by decide)) (Or.inr ⟨by rfl, rfl⟩) (hS _) ?_
                      simp only [List.getElem_toArray, List.getElem_cons_zero, List.getElem_cons_succ, Act.put, List.setIfInBounds_toArray, List.set_cons_zero, List.set_cons_succ]
                      refine WA.take (i := 18) (v := undef) rfl (by kernel_rfl) (by kernel_rfl) (by kernel_rfl) (fun _ _ _ h => h) (hdrop 18 (by decide)) (Or.inr ⟨by rfl, rfl⟩) (hS _) ?_
                      simp only [List.getElem_toArray, List.getElem_cons_zero, List.getElem_cons_succ, Act.put, List.setIfInBounds_toArray, List.set_cons_zero, List.set_cons_succ]
                      refine WA.take (i := 19) (v := .bool false) rfl (by kernel_rfl) (by kernel_rfl) (by kernel_rfl) (fun _ _ _ h => h) (hdrop 19 (by decide)) (Or.inl ⟨by rfl, ?_⟩) (hS _) ?_
                      · rintro w' ⟨L, hL, hSw, hun⟩
                        go_simp
                      simp only [List.getElem_toArray, List.getElem_cons_zero, List.getElem_cons_succ, Act.put, List.setIfInBounds_toArray, List.set_cons_zero, List.set_cons_succ]
                      refine WA.take (i := 20) (v := .bool false) rfl (by kernel_rfl) (by kernel_rfl) (by kernel_rfl) (fun _ _ _ h => h) (hdrop 20 (by decide)) (Or.inl ⟨by rfl, ?_⟩) (hS _) ?_
                      · rintro w' ⟨L, hL, hSw, hun⟩
                        go_simp
                      simp only [List.getElem_toArray, List.getElem_cons_zero, List.getElem_cons_succ, Act.put, List.setIfInBounds_toArray, List.set_cons_zero, List.set_cons_succ]
                      refine WA.take (i := 21) (v := undef) rfl (by kernel_rfl) (by kernel_rfl) (by kernel_rfl) (fun _ _ _ h => h) (hdrop 21 (by decide)) (Or.inr ⟨by rfl, rfl⟩) (hS _) ?_
                      simp only [List.getElem_toArray, List.getElem_cons_zero, List.getElem_cons_succ, Act.put, List.setIfInBounds_toArray, List.set_cons_zero, List.set_cons_succ]
                      refine WA.take (i := 22) (v := undef) rfl (by kernel_rfl) (by kernel_rfl) (by kernel_rfl) (fun _ _ _ h => h) (hdrop 22 (by decide)) (Or.inr ⟨by rfl, rfl⟩) (hS _) ?_
                      simp only [List.getElem_toArray, List.getElem_cons_zero, List.getElem_cons_succ, Act.put, List.setIfInBounds_toArray, List.set_cons_zero, List.set_cons_succ]
                      refine WA.take (i := 23) (v := undef) rfl (by kernel_rfl) (by kernel_rfl) (by kernel_rfl) (fun _ _ _ h => h) (hdrop 23 (by decide)) (Or.inr ⟨by rfl, rfl⟩) (hS _) ?_
                      simp only [List.getElem_toArray, List.getElem_cons_zero, List.getElem_cons_succ, Act.put, List.setIfInBounds_toArray, List.set_cons_zero, List.set_cons_succ]
                      refine WA.take (i := 24) (v := undef) rfl (by kernel_rfl) (by kernel_rfl) (by kernel_rfl) (fun _ _ _ h => h) (hdrop 24 (by decide)) (Or.inr ⟨by rfl, rfl⟩) (hS _) ?_
                      simp only [List.getElem_toArray, List.getElem_cons_zero, List.getElem_cons_succ, Act.put, List.setIfInBounds_toArray, List.set_cons_zero, List.set_cons_succ]
                      refine WA.take (i := 25) (v := undef) rfl (by kernel_rfl) (by kernel_rfl) (by kernel_rfl) (fun _ _ _ h => h) (hdrop 25 (by decide)) (Or.inr ⟨by rfl, rfl⟩) (hS _) ?_
                      simp only [List.getElem_toArray, List.getElem_cons_zero, List.getElem_cons_succ, Act.put, List.setIfInBounds_toArray, List.set_cons_zero, List.set_cons_succ]
                      refine WA.take (i := 26) (v := undef) rfl (by kernel_rfl) (by kernel_rfl) (by kernel_rfl) (fun _ _ _ h => h) (hdrop 26 (by decide)) (Or.inr ⟨by rfl, rfl⟩) (hS _) ?_
                      simp only [List.getElem_toArray, List.getElem_cons_zero, List.getElem_cons_succ, Act.put, List.setIfInBounds_toArray, List.set_cons_zero, List.set_cons_succ]
                      refine WA.take (i := 27) (v := undef) rfl (by kernel_rfl) (by kernel_rfl) (by kernel_rfl) (fun _ _ _ h => h) (hdrop 27 (by decide)) (Or.inr ⟨by rfl, rfl⟩) (hS _) ?_
                      simp only [List.getElem_toArray, List.getElem_cons_zero, List.getElem_cons_succ, Act.put, List.setIfInBounds_toArray, List.set_cons_zero, List.set_cons_succ]
                      refine WA.take (i := 28) (v := undef) rfl (by kernel_rfl) (by kernel_rfl) (by kernel_rfl) (fun _ _ _ h => h) (hdrop 28 (by decide)) (Or.inr ⟨by rfl, rfl⟩) (hS _) ?_
                      simp only [List.getElem_toArray, List.getElem_cons_zero, List.getElem_cons_succ, Act.put, List.setIfInBounds_toArray, List.set_cons_zero, List.set_cons_succ]
                      refine WA.take (i := 29) (v := undef) rfl (by kernel_rfl) (by kernel_rfl) (by kernel_rfl) (fun _ _ _ h => h) (hdrop 29 (by decide)) (Or.inr ⟨by rfl, rfl⟩) (hS _) ?_
                      simp only [List.getElem_toArray, List.getElem_cons_zero, List.getElem_cons_succ, Act.put, List.setIfInBounds_toArray, List.set_cons_zero, List.set_cons_succ]
                      refine WA.take (i := 30) (v := .bool false) rfl (by kernel_rfl) (by kernel_rfl) (by kernel_rfl) (fun _ _ _ h => h) (hdrop 30 (by decide)) (Or.inl ⟨by rfl, ?_⟩) (hS _) ?_
                      · rintro w' ⟨L, hL, hSw, hun⟩
                        go_simp
                      simp only [List.getElem_toArray, List.getElem_cons_zero, List.getElem_cons_succ, Act.put, List.setIfInBounds_toArray, List.set_cons_zero, List.set_cons_succ]
                      refine WA.take (i := 31) (v := .bool false) rfl (by kernel_rfl) (by kernel_rfl) (by kernel_rfl) (fun _ _ _ h => h) (hdrop 31 (by decide)) (Or.inl ⟨by rfl, ?_⟩) (hS _) ?_
                      · rintro w' ⟨L, hL, hSw, hun⟩
                        go_simp
                      simp only [List.getElem_toArray, List.getElem_cons_zero, List.getElem_cons_succ, Act.put, List.setIfInBounds_toArray, List.set_cons_zero, List.set_cons_succ]
                      refine WA.done (by kernel_rfl) ?_ _
                      refine Nrm.normal ?_
                      clear hSo hS hdrop
                      clear S16
                      go_wp2_with fail
                      exact ⟨⟨j + 1, by omega, by push_cast; rfl, HBn.out, Hnext.out (by simp [okP, hd1, hd3])⟩, by simp [intOf]; omega⟩
                    · obtain ⟨xv, rfl⟩ : ∃ v : Nat, xv = v := ⟨xv.toNat, by omega⟩
                      have hd3 : decide ((xv : Int) ≥ 0) = true := by simp
                      have hxl : xv < vars := by omega
                      have ckn := Hckn.out xv hxl
                      by_cases hk1 : kk = 1
                      · have hd2 : (kk != 1) = false := by simpa using hk1
                        have Hk1 := Lib.hid hk1
                        clear hk1
                        go_wp2_with fail
                        obtain ⟨S16, hSe⟩ : ∃ S : Array Bool → World → Prop, S = fun _ w' => w' = wr.drew := ⟨_, rfl⟩
                        have hdrop : ∀ i : Nat, i ≠ 1000 → ∀ L w', S16 (L.setIfInBounds i true) w' → S16 L w' := by
                          intro i _ L w' h; rw [hSe] at h ⊢; exact h
                        have hS : ∀ L, S16 L wr.drew := by intro L; rw [hSe]
                        have hSo : ∀ {L w'}, S16 L w' → w' = wr.drew := by intro L w' h; rw [hSe] at h; exact h
                        clear hSe
                        refine wp_region_LN S16 32 #[false, false, false, false, false, false, false, false, false, false, false, false, false, false, false, false, false, false, false, false, false, false, false, false, false, false, false, false, false, false, false, false] (by kernel_rfl) (by kernel_rfl) rfl ?_
                        obtain ⟨X_, hX⟩ : ∃ X_, X_ = wr.drew := ⟨_, rfl⟩
                        rw [← hX] at p0 cv ck ckn HBn HBf hSo hS ⊢
                        clear hX
                        refine WA.take (i := 0) (v := .slice (some ⟨lb, 0, none⟩) m m) rfl (by kernel_rfl) (by kernel_rfl) (by kernel_rfl) (fun _ _ _ h => h) (hdrop 0 (by decide)) (Or.inl ⟨by rfl, ?_⟩) (hS _) ?_
                        · rintro w' ⟨L, hL, hSw, hun⟩
                          go_simp
                        simp only [List.getElem_toArray, List.getElem_cons_zero, List.getElem_cons_succ, Act.put, List.setIfInBounds_toArray, List.set_cons_zero, List.set_cons_succ]
                        refine WA.take (i := 1) (v := .int .i64 (j : Nat)) rfl (by kernel_rfl) (by kernel_rfl) (by kernel_rfl) (fun _ _ _ h => h) (hdrop 1 (by decide)) (Or.inl ⟨by rfl, ?_⟩) (hS _) ?_
                        · rintro w' ⟨L, hL, hSw, hun⟩
                          go_simp
                        simp only [List.getElem_toArray, List.getElem_cons_zero, List.getElem_cons_succ, Act.put, List.setIfInBounds_toArray, List.set_cons_zero, List.set_cons_succ]
                        refine WA.take (i := 2) (v := .pointer (some ⟨lb, j * 2, none⟩)) rfl (by kernel_rfl) (by kernel_rfl) (by kernel_rfl) (fun _ _ _ h => h) (hdrop 2 (by decide)) (Or.inl ⟨by rfl, ?_⟩) (hS _) ?_
                        · rintro w' ⟨L, hL, hSw, hun⟩
                          go_simp
                        simp only [List.getElem_toArray, List.getElem_cons_zero, List.getElem_cons_succ, Act.put, List.setIfInBounds_toArray, List.set_cons_zero, List.set_cons_succ]
                        refine WA.take (i := 3) (v := .pointer (some ⟨lb, j * 2, none⟩)) rfl (by kernel_rfl) (by kernel_rfl) (by kernel_rfl) (fun _ _ _ h => h) (hdrop 3 (by decide)) (Or.inl ⟨by rfl, ?_⟩) (hS _) ?_
                        · rintro w' ⟨L, hL, hSw, hun⟩
                          go_simp
                        simp only [List.getElem_toArray, List.getElem_cons_zero, List.getElem_cons_succ, Act.put, List.setIfInBounds_toArray, List.set_cons_zero, List.set_cons_succ]
                        refine WA.take (i := 4) (v := .int .i64 (xv : Nat)) rfl (by kernel_rfl) (by kernel_rfl) (by kernel_rfl) (fun _ _ _ h => h) (hdrop 4 (by decide)) (Or.inl ⟨by rfl, ?_⟩) (hS _) ?_
                        · rintro w' ⟨L, hL, hSw, hun⟩
                          obtain rfl := hSo hSw 
                          go_simp
                        simp only [List.getElem_toArray, List.getElem_cons_zero, List.getElem_cons_succ, Act.put, List.setIfInBounds_toArray, List.set_cons_zero, List.set_cons_succ]
                        refine WA.take (i := 5) (v := .pointer (some ⟨w.heap.size, 7, none⟩)) rfl (by kernel_rfl) (by kernel_rfl) (by kernel_rfl) (fun _ _ _ h => h) (hdrop 5 (by decide)) (Or.inl ⟨by rfl, ?_⟩) (hS _) ?_
                        · rintro w' ⟨L, hL, hSw, hun⟩
                          go_simp
                        simp only [List.getElem_toArray, List.getElem_cons_zero, List.getElem_cons_succ, Act.put, List.setIfInBounds_toArray, List.set_cons_zero, List.set_cons_succ]
                        refine WA.take (i := 6) (v := .int .i64 (vars : Nat)) rfl (by kernel_rfl) (by kernel_rfl) (by kernel_rfl) (fun _ _ _ h => h) (hdrop 6 (by decide)) (Or.inl ⟨by rfl, ?_⟩) (hS _) ?_
                        · rintro w' ⟨L, hL, hSw, hun⟩
                          obtain rfl := hSo hSw 
                          go_simp
                        simp only [List.getElem_toArray, List.getElem_cons_zero, List.getElem_cons_succ, Act.put, List.setIfInBounds_toArray, List.set_cons_zero, List.set_cons_succ]
                        refine WA.take (i := 7) (v := .bool false) rfl (by kernel_rfl) (by kernel_rfl) (by kernel_rfl) (fun _ _ _ h => h) (hdrop 7 (by decide)) (Or.inl ⟨by rfl, ?_⟩) (hS _) ?_
                        · rintro w' ⟨L, hL, hSw, hun⟩
                          go_simp
                        simp only [List.getElem_toArray, List.getElem_cons_zero, List.getElem_cons_succ, Act.put, List.setIfInBounds_toArray, List.set_cons_zero, List.set_cons_succ]
                        refine WA.take (i := 8) (v := .bool false) rfl (by kernel_rfl) (by kernel_rfl) (by kernel_rfl) (fun _ _ _ h => h) (hdrop 8 (by decide)) (Or.inl ⟨by rfl, ?_⟩) (hS _) ?_
                        · rintro w' ⟨L, hL, hSw, hun⟩
                          go_simp
                        simp only [List.getElem_toArray, List.getElem_cons_zero, List.getElem_cons_succ, Act.put, List.setIfInBounds_toArray, List.set_cons_zero, List.set_cons_succ]
                        refine WA.take (i := 9) (v := .slice (some ⟨lb, 0, none⟩) m m) rfl (by kernel_rfl) (by kernel_rfl) (by kernel_rfl) (fun _ _ _ h => h) (hdrop 9 (by decide)) (Or.inl ⟨by rfl, ?_⟩) (hS _) ?_
                        · rintro w' ⟨L, hL, hSw, hun⟩
                          go_simp
                        simp only [List.getElem_toArray, List.getElem_cons_zero, List.getElem_cons_succ, Act.put, List.setIfInBounds_toArray, List.set_cons_zero, List.set_cons_succ]
                        refine WA.take (i := 10) (v := .int .i64 (j : Nat)) rfl (by kernel_rfl) (by kernel_rfl) (by kernel_rfl) (fun _ _ _ h => h) (hdrop 10 (by decide)) (Or.inl ⟨by rfl, ?_⟩) (hS _) ?_
                        · rintro w' ⟨L, hL, hSw, hun⟩
                          go_simp
                        simp only [List.getElem_toArray, List.getElem_cons_zero, List.getElem_cons_succ, Act.put, List.setIfInBounds_toArray, List.set_cons_zero, List.set_cons_succ]
                        refine WA.take (i := 11) (v := .pointer (some ⟨lb, j * 2, none⟩)) rfl (by kernel_rfl) (by kernel_rfl) (by kernel_rfl) (fun _ _ _ h => h) (hdrop 11 (by decide)) (Or.inl ⟨by rfl, ?_⟩) (hS _) ?_
                        · rintro w' ⟨L, hL, hSw, hun⟩
                          go_simp
                        simp only [List.getElem_toArray, List.getElem_cons_zero, List.getElem_cons_succ, Act.put, List.setIfInBounds_toArray, List.set_cons_zero, List.set_cons_succ]
                        refine WA.take (i := 12) (v := .pointer (some ⟨lb, j * 2, none⟩)) rfl (by kernel_rfl) (by kernel_rfl) (by kernel_rfl) (fun _ _ _ h => h) (hdrop 12 (by decide)) (Or.inl ⟨by rfl, ?_⟩) (hS _) ?_
                        · rintro w' ⟨L, hL, hSw, hun⟩
                          go_simp
                        simp only [List.getElem_toArray, List.getElem_cons_zero, List.getElem_cons_succ, Act.put, List.setIfInBounds_toArray, List.set_cons_zero, List.set_cons_succ]
                        refine WA.take (i := 13) (v := .int .i64 (xv : Nat)) rfl (by kernel_rfl) (by kernel_rfl) (by kernel_rfl) (fun _ _ _ h => h) (hdrop 13 (by decide)) (Or.inl ⟨by rfl, ?_⟩) (hS _) ?_
                        · rintro w' ⟨L, hL, hSw, hun⟩
                          obtain rfl := hSo hSw 
                          go_simp
                        simp only [List.getElem_toArray, List.getElem_cons_zero, List.getElem_cons_succ, Act.put, List.setIfInBounds_toArray, List.set_cons_zero, List.set_cons_succ]
                        refine WA.take (i := 14) (v := .bool true) rfl (by kernel_rfl) (by kernel_rfl) (by kernel_rfl) (fun _ _ _ h => h) (hdrop 14 (by decide)) (Or.inl ⟨by rfl, ?_⟩) (hS _) ?_
                        · rintro w' ⟨L, hL, hSw, hun⟩
                          go_simp
                        simp only [List.getElem_toArray, List.getElem_cons_zero, List.getElem_cons_succ, Act.put, List.setIfInBounds_toArray, List.set_cons_zero, List.set_cons_succ]
                        refine WA.take (i := 15) (v := .bool true) rfl (by kernel_rfl) (by kernel_rfl) (by kernel_rfl) (fun _ _ _ h => h) (hdrop 15 (by decide)) (Or.inl ⟨by rfl, ?_⟩) (hS _) ?_
                        · rintro w' ⟨L, hL, hSw, hun⟩
                          go_simp
                        simp only [List.getElem_toArray, List.getElem_cons_zero, List.getElem_cons_succ, Act.put, List.setIfInBounds_toArray, List.set_cons_zero, List.set_cons_succ]
                        refine WA.take (i := 16) (v := .pointer (some ⟨b5, 0, none⟩)) rfl (by kernel_rfl) (by kernel_rfl) (by kernel_rfl) (fun _ _ _ h => h) (hdrop 16 (by decide)) (Or.inl ⟨by rfl, ?_⟩) (hS _) ?_
                        · rintro w' ⟨L, hL, hSw, hun⟩
                          go_simp
                        simp only [List.getElem_toArray, List.getElem_cons_zero, List.getElem_cons_succ, Act.put, List.setIfInBounds_toArray, List.set_cons_zero, List.set_cons_succ]
                        refine WA.take (i := 17) (v := .int .i64 kk) rfl (by kernel_rfl) (by kernel_rfl) (by kernel_rfl) (fun _ _ _ h => h) (hdrop 17 (by decide)) (Or.inl ⟨by rfl, ?_⟩) (hS _) ?_
                        · rintro w' ⟨L, hL, hSw, hun⟩
                          obtain rfl := hSo hSw 
                          go_simp
                        simp only [List.getElem_toArray, List.getElem_cons_zero, List.getElem_cons_succ, Act.put, List.setIfInBounds_toArray, List.set_cons_zero, List.set_cons_succ]
                        refine WA.take (i := 18) (v := .bool false) rfl (by kernel_rfl) (by kernel_rfl) (by kernel_rfl) (fun _ _ _ h => h) (hdrop 18 (by decide)) (Or.inl ⟨by rfl, ?_⟩) (hS _) ?_
                        · rintro w' ⟨L, hL, hSw, hun⟩
                          go_simp
                        simp only [List.getElem_toArray, List.getElem_cons_zero, List.getElem_cons_succ, Act.put, List.setIfInBounds_toArray, List.set_cons_zero, List.set_cons_succ]
                        refine WA.take (i := 19) (v := .bool false) rfl (by kernel_rfl) (by kernel_rfl) (by kernel_rfl) (fun _ _ _ h => h) (hdrop 19 (by decide)) (Or.inl ⟨by rfl, ?_⟩) (hS _) ?_
                        · rintro w' ⟨L, hL, hSw, hun⟩
                          go_simp
                        simp only [List.getElem_toArray, List.getElem_cons_zero, List.getElem_cons_succ, Act.put, List.setIfInBounds_toArray, List.set_cons_zero, List.set_cons_succ]
                        refine WA.take (i := 20) (v := .bool false) rfl (by kernel_rfl) (by kernel_rfl) (by kernel_rfl) (fun _ _ _ h => h) (hdrop 20 (by decide)) (Or.inl ⟨by rfl, ?_⟩) (hS _) ?_
                        · rintro w' ⟨L, hL, hSw, hun⟩
                          go_simp
                        simp only [List.getElem_toArray, List.getElem_cons_zero, List.getElem_cons_succ, Act.put, List.setIfInBounds_toArray, List.set_cons_zero, List.set_cons_succ]
                        refine WA.take (i := 21) (v := undef) rfl (by kernel_rfl) (by kernel_rfl) (by kernel_rfl) (fun _ _ _ h => h) (hdrop 21 (by decide)) (Or.inr ⟨by rfl, rfl⟩) (hS _) ?_
                        simp only [List.getElem_toArray, List.getElem_cons_zero, List.getElem_cons_succ, Act.put, List.setIfInBounds_toArray, List.set_cons_zero, List.set_cons_succ]
                        refine WA.take (i := 22) (v := undef) rfl (by kernel_rfl) (by kernel_rfl) (by kernel_rfl) (fun _ _ _ h => h) (hdrop 22 (by decide)) (Or.inr ⟨by rfl, rfl⟩) (hS _) ?_
                        simp only [List.getElem_toArray, List.getElem_cons_zero, List.getElem_cons_succ, Act.put, List.setIfInBounds_toArray, List.set_cons_zero, List.set_cons_succ]
                        refine WA.take (i := 23) (v := undef) rfl (by kernel_rfl) (by kernel_rfl) (by kernel_rfl) (fun _ _ _ h => h) (hdrop 23 (by decide)) (Or.inr ⟨by rfl, rfl⟩) (hS _) ?_
                        simp only [List.getElem_toArray, List.getElem_cons_zero, List.getElem_cons_succ, Act.put, List.setIfInBounds_toArray, List.set_cons_zero, List.set_cons_succ]
                        refine WA.take (i := 24) (v := undef) rfl (by kernel_rfl) (by kernel_rfl) (by kernel_rfl) (fun _ _ _ h => h) (hdrop 24 (by decide)) (Or.inr ⟨by rfl, rfl⟩) (hS _) ?_
                        simp only [List.getElem_toArray, List.getElem_cons_zero, List.getElem_cons_succ, Act.put, List.setIfInBounds_toArray, List.set_cons_zero, List.set_cons_succ]
                        refine WA.take (i := 25) (v := undef) rfl (by kernel_rfl) (by kernel_rfl) (by kernel_rfl) (fun _ _ _ h => h) (hdrop 25 (by decide)) (Or.inr ⟨by rfl, rfl⟩) (hS _) ?_
                        simp only [List.getElem_toArray, List.getElem_cons_zero, List.getElem_cons_succ, Act.put, List.setIfInBounds_toArray, List.set_cons_zero, List.set_cons_succ]
                        refine WA.take (i := 26) (v := undef) rfl (by kernel_rfl) (by kernel_rfl) (by kernel_rfl) (fun _ _ _ h => h) (hdrop 26 (by decide)) (Or.inr ⟨by rfl, rfl⟩) (hS _) ?_
                        simp only [List.getElem_toArray, List.getElem_cons_zero, List.getElem_cons_succ, Act.put, List.setIfInBounds_toArray, List.set_cons_zero, List.set_cons_succ]
                        refine WA.take (i := 27) (v := undef) rfl (by kernel_rfl) (by kernel_rfl) (by kernel_rfl) (fun _ _ _ h => h) (hdrop 27 (by decide)) (Or.inr ⟨by rfl, rfl⟩) (hS _) ?_
                        simp only [List.getElem_toArray, List.getElem_cons_zero, List.getElem_cons_succ, Act.put, List.setIfInBounds_toArray, List.set_cons_zero, List.set_cons_succ]
                        refine WA.take (i := 28) (v := undef) rfl (by kernel_rfl) (by kernel_rfl) (by kernel_rfl) (fun _ _ _ h => h) (hdrop 28 (by decide)) (Or.inr ⟨by rfl, rfl⟩) (hS _) ?_
                        simp only [List.getElem_toArray, List.getElem_cons_zero, List.getElem_cons_succ, Act.put, List.setIfInBounds_toArray, List.set_cons_zero, List.set_cons_succ]
                        refine WA.take (i := 29) (v := undef) rfl (by kernel_rfl) (by kernel_rfl) (by kernel_rfl) (fun _ _ _ h => h) (hdrop 29 (by decide)) (Or.inr ⟨by rfl, rfl⟩) (hS _) ?_
                        simp only [List.getElem_toArray, List.getElem_cons_zero, List.getElem_cons_succ, Act.put, List.setIfInBounds_toArray, List.set_cons_zero, List.set_cons_succ]
                        refine WA.take (i := 30) (v := .bool false) rfl (by kernel_rfl) (by kernel_rfl) (by kernel_rfl) (fun _ _ _ h => h) (hdrop 30 (by decide)) (Or.inl ⟨by rfl, ?_⟩) (hS _) ?_
                        · rintro w' ⟨L, hL, hSw, hun⟩
                          go_simp
                        simp only [List.getElem_toArray, List.getElem_cons_zero, List.getElem_cons_succ, Act.put, List.setIfInBounds_toArray, List.set_cons_zero, List.set_cons_succ]
                        refine WA.take (i := 31) (v := .bool false) rfl (by kernel_rfl) (by kernel_rfl) (by kernel_rfl) (fun _ _ _ h => h) (hdrop 31 (by decide)) (Or.inl ⟨by rfl, ?_⟩) (hS _) ?_
                        · rintro w' ⟨L, hL, hSw, hun⟩
                          go_simp
                        simp only [List.getElem_toArray, List.getElem_cons_zero, List.getElem_cons_succ, Act.put, List.setIfInBounds_toArray, List.set_cons_zero, List.set_cons_succ]
                        refine WA.done (by kernel_rfl) ?_ _
                        refine Nrm.normal ?_
                        clear hSo hS hdrop
                        clear S16
                        go_wp2_with fail
                        exact ⟨⟨j + 1, by omega, by push_cast; rfl, HBn.out, Hnext.out (by simp [okP, hd1, hd2, hxl])⟩, by simp [intOf]; omega⟩
                      · have hd2 : (kk != 1) = true := by simpa using hk1
                        obtain ⟨qk, hqk⟩ : ∃ qk, kn xv = qk := ⟨_, rfl⟩
                        rw [hqk] at ckn
                        have Hqk := Lib.hid hqk
                        clear hqk
                        go_wp2_with fail
                        obtain ⟨S16, hSe⟩ : ∃ S : Array Bool → World → Prop, S = fun _ w' => w' = wr.drew := ⟨_, rfl⟩
                        have hdrop : ∀ i : Nat, i ≠ 1000 → ∀ L w', S16 (L.setIfInBounds i true) w' → S16 L w' := by
                          intro i _ L w' h; rw [hSe] at h ⊢; exact h
                        have hS : ∀ L, S16 L wr.drew := by intro L; rw [hSe]
                        have hSo : ∀ {L w'}, S16 L w' → w' = wr.drew := by intro L w' h; rw [hSe] at h; exact h
                        clear hSe
                        refine wp_region_LN S16 32 #[false, false, false, false, false, false, false, false, false, false, false, false, false, false, false, false, false, false, false, false, false, false, false, false, false, false, false, false, false, false, false, false] (by kernel_rfl) (by kernel_rfl) rfl ?_
                        obtain ⟨X_, hX⟩ : ∃ X_, X_ = wr.drew := ⟨_, rfl⟩
                        rw [← hX] at p0 cv ck ckn HBn HBf hSo hS ⊢
                        clear hX
                        refine WA.take (i := 0) (v := .slice (some ⟨lb, 0, none⟩) m m) rfl (by kernel_rfl) (by kernel_rfl) (by kernel_rfl) (fun _ _ _ h => h) (hdrop 0 (by decide)) (Or.inl ⟨by rfl, ?_⟩) (hS _) ?_
                        · rintro w' ⟨L, hL, hSw, hun⟩
                          go_simp
                        simp only [List.getElem_toArray, List.getElem_cons_zero, List.getElem_cons_succ, Act.put, List.setIfInBounds_toArray, List.set_cons_zero, List.set_cons_succ]
                        refine WA.take (i := 1) (v := .int .i64 (j : Nat)) rfl (by kernel_rfl) (by kernel_rfl) (by kernel_rfl) (fun _ _ _ h => h) (hdrop 1 (by decide)) (Or.inl ⟨by rfl, ?_⟩) (hS _) ?_
                        · rintro w' ⟨L, hL, hSw, hun⟩
                          go_simp
                        simp only [List.getElem_toArray, List.getElem_cons_zero, List.getElem_cons_succ, Act.put, List.setIfInBounds_toArray, List.set_cons_zero, List.set_cons_succ]
                        refine WA.take (i := 2) (v := .pointer (some ⟨lb, j * 2, none⟩)) rfl (by kernel_rfl) (by kernel_rfl) (by kernel_rfl) (fun _ _ _ h => h) (hdrop 2 (by decide)) (Or.inl ⟨by rfl, ?_⟩) (hS _) ?_
                        · rintro w' ⟨L, hL, hSw, hun⟩
                          go_simp
                        simp only [List.getElem_toArray, List.getElem_cons_zero, List.getElem_cons_succ, Act.put, List.setIfInBounds_toArray, List.set_cons_zero, List.set_cons_succ]
                        refine WA.take (i := 3) (v := .pointer (some ⟨lb, j * 2, none⟩)) rfl (by kernel_rfl) (by kernel_rfl) (by kernel_rfl) (fun _ _ _ h => h) (hdrop 3 (by decide)) (Or.inl ⟨by rfl, ?_⟩) (hS _) ?_
                        · rintro w' ⟨L, hL, hSw, hun⟩
                          go_simp
                        simp only [List.getElem_toArray, List.getElem_cons_zero, List.getElem_cons_succ, Act.put, List.setIfInBounds_toArray, List.set_cons_zero, List.set_cons_succ]
                        refine WA.take (i := 4) (v := .int .i64 (xv : Nat)) rfl (by kernel_rfl) (by kernel_rfl) (by kernel_rfl) (fun _ _ _ h => h) (hdrop 4 (by decide)) (Or.inl ⟨by rfl, ?_⟩) (hS _) ?_
                        · rintro w' ⟨L, hL, hSw, hun⟩
                          obtain rfl := hSo hSw 
                          go_simp
                        simp only [List.getElem_toArray, List.getElem_cons_zero, List.getElem_cons_succ, Act.put, List.setIfInBounds_toArray, List.set_cons_zero, List.set_cons_succ]
                        refine WA.take (i := 5) (v := .pointer (some ⟨w.heap.size, 7, none⟩)) rfl (by kernel_rfl) (by kernel_rfl) (by kernel_rfl) (fun _ _ _ h => h) (hdrop 5 (by decide)) (Or.inl ⟨by rfl, ?_⟩) (hS _) ?_
                        · rintro w' ⟨L, hL, hSw, hun⟩
                          go_simp
                        simp only [List.getElem_toArray, List.getElem_cons_zero, List.getElem_cons_succ, Act.put, List.setIfInBounds_toArray, List.set_cons_zero, List.set_cons_succ]
                        refine WA.take (i := 6) (v := .int .i64 (vars : Nat)) rfl (by kernel_rfl) (by kernel_rfl) (by kernel_rfl) (fun _ _ _ h => h) (hdrop 6 (by decide)) (Or.inl ⟨by rfl, ?_⟩) (hS _) ?_
                        · rintro w' ⟨L, hL, hSw, hun⟩
                          obtain rfl := hSo hSw 
                          go_simp
                        simp only [List.getElem_toArray, List.getElem_cons_zero, List.getElem_cons_succ, Act.put, List.setIfInBounds_toArray, List.set_cons_zero, List.set_cons_succ]
                        refine WA.take (i := 7) (v := .bool false) rfl (by kernel_rfl) (by kernel_rfl) (by kernel_rfl) (fun _ _ _ h => h) (hdrop 7 (by decide)) (Or.inl ⟨by rfl, ?_⟩) (hS _) ?_
                        · rintro w' ⟨L, hL, hSw, hun⟩
                          go_simp
                        simp only [List.getElem_toArray, List.getElem_cons_zero, List.getElem_cons_succ, Act.put, List.setIfInBounds_toArray, List.set_cons_zero, List.set_cons_succ]
                        refine WA.take (i := 8) (v := .bool false) rfl (by kernel_rfl) (by kernel_rfl) (by kernel_rfl) (fun _ _ _ h => h) (hdrop 8 (by decide)) (Or.inl ⟨by rfl, ?_⟩) (hS _) ?_
                        · rintro w' ⟨L, hL, hSw, hun⟩
                          go_simp
                        simp only [List.getElem_toArray, List.getElem_cons_zero, List.getElem_cons_succ, Act.put, List.setIfInBounds_toArray, List.set_cons_zero, List.set_cons_succ]
                        refine WA.take (i := 9) (v := .slice (some ⟨lb, 0, none⟩) m m) rfl (by kernel_rfl) (by kernel_rfl) (by kernel_rfl) (fun _ _ _ h => h) (hdrop 9 (by decide)) (Or.inl ⟨by rfl, ?_⟩) (hS _) ?_
                        · rintro w' ⟨L, hL, hSw, hun⟩
                          go_simp
                        simp only [List.getElem_toArray, List.getElem_cons_zero, List.getElem_cons_succ, Act.put, List.setIfInBounds_toArray, List.set_cons_zero, List.set_cons_succ]
                        refine WA.take (i := 10) (v := .int .i64 (j : Nat)) rfl (by kernel_rfl) (by kernel_rfl) (by kernel_rfl) (fun _ _ _ h => h) (hdrop 10 (by decide)) (Or.inl ⟨by rfl, ?_⟩) (hS _) ?_
                        · rintro w' ⟨L, hL, hSw, hun⟩
                          go_simp
                        simp only [List.getElem_toArray, List.getElem_cons_zero, List.getElem_cons_succ, Act.put, List.setIfInBounds_toArray, List.set_cons_zero, List.set_cons_succ]
                        refine WA.take (i := 11) (v := .pointer (some ⟨lb, j * 2, none⟩)) rfl (by kernel_rfl) (by kernel_rfl) (by kernel_rfl) (fun _ _ _ h => h) (hdrop 11 (by decide)) (Or.inl ⟨by rfl, ?_⟩) (hS _) ?_
                        · rintro w' ⟨L, hL, hSw, hun⟩
                          go_simp
                        simp only [List.getElem_toArray, List.getElem_cons_zero, List.getElem_cons_succ, Act.put, List.setIfInBounds_toArray, List.set_cons_zero, List.set_cons_succ]
                        refine WA.take (i := 12) (v := .pointer (some ⟨lb, j * 2, none⟩)) rfl (by kernel_rfl) (by kernel_rfl) (by kernel_rfl) (fun _ _ _ h => h) (hdrop 12 (by decide)) (Or.inl ⟨by rfl, ?_⟩) (hS _) ?_
                        · rintro w' ⟨L, hL, hSw, hun⟩
                          go_simp
                        simp only [List.getElem_toArray, List.getElem_cons_zero, List.getElem_cons_succ, Act.put, List.setIfInBounds_toArray, List.set_cons_zero, List.set_cons_succ]
                        refine WA.take (i := 13) (v := .int .i64 (xv : Nat)) rfl (by kernel_rfl) (by kernel_rfl) (by kernel_rfl) (fun _ _ _ h => h) (hdrop 13 (by decide)) (Or.inl ⟨by rfl, ?_⟩) (hS _) ?_
                        · rintro w' ⟨L, hL, hSw, hun⟩
                          obtain rfl := hSo hSw 
                          go_simp
                        simp only [List.getElem_toArray, List.getElem_cons_zero, List.getElem_cons_succ, Act.put, List.setIfInBounds_toArray, List.set_cons_zero, List.set_cons_succ]
                        refine WA.take (i := 14) (v := .bool true) rfl (by kernel_rfl) (by kernel_rfl) (by kernel_rfl) (fun _ _ _ h => h) (hdrop 14 (by decide)) (Or.inl ⟨by rfl, ?_⟩) (hS _) ?_
                        · rintro w' ⟨L, hL, hSw, hun⟩
                          go_simp
                        simp only [List.getElem_toArray, List.getElem_cons_zero, List.getElem_cons_succ, Act.put, List.setIfInBounds_toArray, List.set_cons_zero, List.set_cons_succ]
                        refine WA.take (i := 15) (v := .bool true) rfl (by kernel_rfl) (by kernel_rfl) (by kernel_rfl) (fun _ _ _ h => h) (hdrop 15 (by decide)) (Or.inl ⟨by rfl, ?_⟩) (hS _) ?_
                        · rintro w' ⟨L, hL, hSw, hun⟩
                          go_simp
                        simp only [List.getElem_toArray, List.getElem_cons_zero, List.getElem_cons_succ, Act.put, List.setIfInBounds_toArray, List.set_cons_zero, List.set_cons_succ]
                        refine WA.take (i := 16) (v := .pointer (some ⟨b5, 0, none⟩)) rfl (by kernel_rfl) (by kernel_rfl) (by kernel_rfl) (fun _ _ _ h => h) (hdrop 16 (by decide)) (Or.inl ⟨by rfl, ?_⟩) (hS _) ?_
                        · rintro w' ⟨L, hL, hSw, hun⟩
                          go_simp
                        simp only [List.getElem_toArray, List.getElem_cons_zero, List.getElem_cons_succ, Act.put, List.setIfInBounds_toArray, List.set_cons_zero, List.set_cons_succ]
                        refine WA.take (i := 17) (v := .int .i64 kk) rfl (by kernel_rfl) (by kernel_rfl) (by kernel_rfl) (fun _ _ _ h => h) (hdrop 17 (by decide)) (Or.inl ⟨by rfl, ?_⟩) (hS _) ?_
                        · rintro w' ⟨L, hL, hSw, hun⟩
                          obtain rfl := hSo hSw 
                          go_simp
                        simp only [List.getElem_toArray, List.getElem_cons_zero, List.getElem_cons_succ, Act.put, List.setIfInBounds_toArray, List.set_cons_zero, List.set_cons_succ]
                        refine WA.take (i := 18) (v := .bool true) rfl (by kernel_rfl) (by kernel_rfl) (by kernel_rfl) (fun _ _ _ h => h) (hdrop 18 (by decide)) (Or.inl ⟨by rfl, ?_⟩) (hS _) ?_
                        · rintro w' ⟨L, hL, hSw, hun⟩
                          go_simp
                        simp only [List.getElem_toArray, List.getElem_cons_zero, List.getElem_cons_succ, Act.put, List.setIfInBounds_toArray, List.set_cons_zero, List.set_cons_succ]
                        refine WA.take (i := 19) (v := .bool true) rfl (by kernel_rfl) (by kernel_rfl) (by kernel_rfl) (fun _ _ _ h => h) (hdrop 19 (by decide)) (Or.inl ⟨by rfl, ?_⟩) (hS _) ?_
                        · rintro w' ⟨L, hL, hSw, hun⟩
                          go_simp
                        simp only [List.getElem_toArray, List.getElem_cons_zero, List.getElem_cons_succ, Act.put, List.setIfInBounds_toArray, List.set_cons_zero, List.set_cons_succ]
                        refine WA.take (i := 20) (v := .bool true) rfl (by kernel_rfl) (by kernel_rfl) (by kernel_rfl) (fun _ _ _ h => h) (hdrop 20 (by decide)) (Or.inl ⟨by rfl, ?_⟩) (hS _) ?_
                        · rintro w' ⟨L, hL, hSw, hun⟩
                          go_simp
                        simp only [List.getElem_toArray, List.getElem_cons_zero, List.getElem_cons_succ, Act.put, List.setIfInBounds_toArray, List.set_cons_zero, List.set_cons_succ]
                        refine WA.take (i := 21) (v := .slice (some ⟨w.heap.size + 1, 0, none⟩) vars vars) rfl (by kernel_rfl) (by kernel_rfl) (by kernel_rfl) (fun _ _ _ h => h) (hdrop 21 (by decide)) (Or.inl ⟨by rfl, ?_⟩) (hS _) ?_
                        · rintro w' ⟨L, hL, hSw, hun⟩
                          go_simp
                        simp only [List.getElem_toArray, List.getElem_cons_zero, List.getElem_cons_succ, Act.put, List.setIfInBounds_toArray, List.set_cons_zero, List.set_cons_succ]
                        refine WA.take (i := 22) (v := .slice (some ⟨lb, 0, none⟩) m m) rfl (by kernel_rfl) (by kernel_rfl) (by kernel_rfl) (fun _ _ _ h => h) (hdrop 22 (by decide)) (Or.inl ⟨by rfl, ?_⟩) (hS _) ?_
                        · rintro w' ⟨L, hL, hSw, hun⟩
                          go_simp
                        simp only [List.getElem_toArray, List.getElem_cons_zero, List.getElem_cons_succ, Act.put, List.setIfInBounds_toArray, List.set_cons_zero, List.set_cons_succ]
                        refine WA.take (i := 23) (v := .int .i64 (j : Nat)) rfl (by kernel_rfl) (by kernel_rfl) (by kernel_rfl) (fun _ _ _ h => h) (hdrop 23 (by decide)) (Or.inl ⟨by rfl, ?_⟩) (hS _) ?_
                        · rintro w' ⟨L, hL, hSw, hun⟩
                          go_simp
                        simp only [List.getElem_toArray, List.getElem_cons_zero, List.getElem_cons_succ, Act.put, List.setIfInBounds_toArray, List.set_cons_zero, List.set_cons_succ]
                        refine WA.take (i := 24) (v := .pointer (some ⟨lb, j * 2, none⟩)) rfl (by kernel_rfl) (by kernel_rfl) (by kernel_rfl) (fun _ _ _ h => h) (hdrop 24 (by decide)) (Or.inl ⟨by rfl, ?_⟩) (hS _) ?_
                        · rintro w' ⟨L, hL, hSw, hun⟩
                          go_simp
                        simp only [List.getElem_toArray, List.getElem_cons_zero, List.getElem_cons_succ, Act.put, List.setIfInBounds_toArray, List.set_cons_zero, List.set_cons_succ]
                        refine WA.take (i := 25) (v := .pointer (some ⟨lb, j * 2, none⟩)) rfl (by kernel_rfl) (by kernel_rfl) (by kernel_rfl) (fun _ _ _ h => h) (hdrop 25 (by decide)) (Or.inl ⟨by rfl, ?_⟩) (hS _) ?_
                        · rintro w' ⟨L, hL, hSw, hun⟩
                          go_simp
                        simp only [List.getElem_toArray, List.getElem_cons_zero, List.getElem_cons_succ, Act.put, List.setIfInBounds_toArray, List.set_cons_zero, List.set_cons_succ]
                        refine WA.take (i := 26) (v := .int .i64 (xv : Nat)) rfl (by kernel_rfl) (by kernel_rfl) (by kernel_rfl) (fun _ _ _ h => h) (hdrop 26 (by decide)) (Or.inl ⟨by rfl, ?_⟩) (hS _) ?_
                        · rintro w' ⟨L, hL, hSw, hun⟩
                          obtain rfl := hSo hSw 
                          go_simp
                        simp only [List.getElem_toArray, List.getElem_cons_zero, List.getElem_cons_succ, Act.put, List.setIfInBounds_toArray, List.set_cons_zero, List.set_cons_succ]
                        refine WA.take (i := 27) (v := .pointer (some ⟨w.heap.size + 1, xv, none⟩)) rfl (by kernel_rfl) (by kernel_rfl) (by kernel_rfl) (fun _ _ _ h => h) (hdrop 27 (by decide)) (Or.inl ⟨by rfl, ?_⟩) (hS _) ?_
                        · rintro w' ⟨L, hL, hSw, hun⟩
                          go_simp
                        simp only [List.getElem_toArray, List.getElem_cons_zero, List.getElem_cons_succ, Act.put, List.setIfInBounds_toArray, List.set_cons_zero, List.set_cons_succ]
                        refine WA.take (i := 28) (v := .bool qk) rfl (by kernel_rfl) (by kernel_rfl) (by kernel_rfl) (fun _ _ _ h => h) (hdrop 28 (by decide)) (Or.inl ⟨by rfl, ?_⟩) (hS _) ?_
                        · rintro w' ⟨L, hL, hSw, hun⟩
                          obtain rfl := hSo hSw 
                          go_simp
                        simp only [List.getElem_toArray, List.getElem_cons_zero, List.getElem_cons_succ, Act.put, List.setIfInBounds_toArray, List.set_cons_zero, List.set_cons_succ]
                        refine WA.take (i := 29) (v := .bool (!qk)) rfl (by kernel_rfl) (by kernel_rfl) (by kernel_rfl) (fun _ _ _ h => h) (hdrop 29 (by decide)) (Or.inl ⟨by rfl, ?_⟩) (hS _) ?_
                        · rintro w' ⟨L, hL, hSw, hun⟩
                          go_simp
                        simp only [List.getElem_toArray, List.getElem_cons_zero, List.getElem_cons_succ, Act.put, List.setIfInBounds_toArray, List.set_cons_zero, List.set_cons_succ]
                        refine WA.take (i := 30) (v := .bool (!qk)) rfl (by kernel_rfl) (by kernel_rfl) (by kernel_rfl) (fun _ _ _ h => h) (hdrop 30 (by decide)) (Or.inl ⟨by rfl, ?_⟩) (hS _) ?_
                        · rintro w' ⟨L, hL, hSw, hun⟩
                          go_simp
                        simp only [List.getElem_toArray, List.getElem_cons_zero, List.getElem_cons_succ, Act.put, List.setIfInBounds_toArray, List.set_cons_zero, List.set_cons_succ]
                        refine WA.take (i := 31) (v := .bool (!qk)) rfl (by kernel_rfl) (by kernel_rfl) (by kernel_rfl) (fun _ _ _ h => h) (hdrop 31 (by decide)) (Or.inl ⟨by rfl, ?_⟩) (hS _) ?_
                        · rintro w' ⟨L, hL, hSw, hun⟩
                          go_simp
                        simp only [List.getElem_toArray, List.getElem_cons_zero, List.getElem_cons_succ, Act.put, List.setIfInBounds_toArray, List.set_cons_zero, List.set_cons_succ]
                        refine WA.done (by kernel_rfl) ?_ _
                        refine Nrm.normal ?_
                        clear hSo hS hdrop
                        clear S16
                        cases qk with
                        | true =>
                          go_wp2_with fail
                          exact ⟨⟨j + 1, by omega, by push_cast; rfl, HBn.out, Hnext.out (by simp [okP, hd1, hd2, Hqk.out, hxl])⟩, by simp [intOf]; omega⟩
                        | false =>
                          go_wp2_with fail
                          go_ret
                          refine ⟨?_, HBf.out⟩
                          rw [Hbad.out (by simp [okP, hd1, hd2, Hqk.out])]; rfl
                · have hjm' : j = m := by omega
                  subst hjm'
                  have hd : decide ((j : Int) < (j : Int)) = false := by simp
                  have hallL : LL.all (okP vars kk kn) = true := by
                    rw [List.all_eq_true]
                    intro x hx
                    obtain ⟨i, hi, rfl⟩ := List.getElem_of_mem hx
                    exact Hall.out i hi (by have := Hm.out; omega)
                  have hlt : ∀ i (h : i < LL.length), LL[i].1 < (vars : Int) := fun i h => by
                    have := Hall.out i h (by have := Hm.out; omega)
                    simp only [okP, Bool.and_eq_true, Bool.not_eq_true', decide_eq_false_iff_not] at this
                    omega
                  have hstep : mayG vars steps (fun _ => false) = mayG vars (steps.drop (i + 1)) (knP kk LL kn) := by
                    rw [HG.out, Hdr.out]
                    simp only [mayG, HLL.out, hallL, Hkk.out, Bool.true_and]
                  have Hstep := Lib.hid hstep; have Hlt := Lib.hid hlt
                  have HBf := Lib.hid ((HB.out.trans (HBw.out.mono HB.out.size)).trans (HBj.out.mono (HB.out.trans (HBw.out.mono HB.out.size)).size))
                  have Hsz2 := Lib.hid (show W.heap.size ≤ wr.heap.size from Nat.le_trans Hsz.out (Nat.le_trans HBw.out.size HBj.out.size))
                  have HXw := Lib.hid ((HBj.out.block _ (Array.getElem?_eq_some_iff.1 Hcx.out).1).trans Hcx.out)
                  have HCw := Lib.hid ((HBj.out.block _ (Array.getElem?_eq_some_iff.1 Hck.out).1).trans Hck.out)
                  have H5w := Lib.hid ((HBj.out.block _ (Array.getElem?_eq_some_iff.1 Hc5.out).1).trans Hc5.out)
                  have HPw := Lib.hid (Hpl.out.below HBj.out)
                  obtain ⟨V0, hV0⟩ : ∃ V0, V0 = wr := ⟨_, rfl⟩
                  rw [← hV0] at HBf Hsz2 HXw HCw H5w HPw ⊢
                  have hne5 : b5 ≠ w.heap.size + 1 ∧ lb ≠ w.heap.size + 1 := by have := HzW.out; have := Hsz.out; have := Hb5.out; omega
                  have Hne5 := Lib.hid hne5
                  clear hallL hstep hlt hV0 hne5
                  go_wp2_with fail
                  go_loopw [8] (fun u wx => ∃ j' : Nat, j' ≤ j ∧ (kk ≠ 1 → j' = 0) ∧ u = .int .i64 j' ∧ wx.heap[w.heap.size + 1]? = some (.cells (knA vars (fun v => kn v || (LL.take j').any (fun x => x.1 == v))) 4 (0, 0)) ∧ (∀ i, i ≠ w.heap.size + 1 → wx.heap[i]? = V0.heap[i]?) ∧ Below w.heap.size w wx ∧ V0.heap.size ≤ wx.heap.size) (fun u _ => j - (intOf u).toNat)
                  case atStart =>
                    refine ⟨0, by omega, fun _ => rfl, rfl, ?_, fun i _ => rfl, HBf.out, Nat.le_refl _⟩
                    rw [HCw.out]
                    simp
                  case round =>
                    obtain ⟨j', hj', hj0, rfl, hkb, hk0, hBk, hsk⟩ := hrel
                    have HKb := Lib.hid hkb; have HK0 := Lib.hid hk0; have HBk := Lib.hid hBk; have Hsk := Lib.hid hsk; have Hj0 := Lib.hid hj0
                    have ck : wr.cell? ⟨b5, 0, none⟩ = some (.int .i64 kk) := by unfold World.cell?; rw [HK0.out _ Hne5.out.1, H5w.out]; rfl
                    clear hkb hk0 hBk hsk hj0
                    have fin : knA vars (fun v => kn v || (LL.take j').any (fun x => x.1 == v)) = knA vars (knP kk LL kn) → wr.heap[w.heap.size + 1]? = some (.cells (knA vars (knP kk LL kn)) 4 (0, 0)) := fun e => by rw [HKb.out, e]
                    have Fin := Lib.hid fin
                    clear fin
                    by_cases hjm : j' < j
                    · have hd : decide ((j' : Int) < (j : Int)) = true := by simp; omega
                      by_cases hk1 : kk = 1
                      · have hd1 : (kk == 1) = true := by simpa using hk1
                        have hjL : j' < LL.length := by have := Hm.out; omega
                        obtain ⟨p0, p1⟩ := HPw.out j' hjL
                        rw [Nat.zero_add] at p0 p1
                        obtain ⟨⟨xv, xi⟩, hx⟩ : ∃ x, LL[j'] = x := ⟨_, rfl⟩
                        have hxl := Hlt.out j' hjL
                        rw [hx] at p0 p1 hxl
                        simp only at p0 p1 hxl
                        have p0 : wr.cell? ⟨lb, j' * 2, none⟩ = some (.int .i64 xv) := (World.cell?_of_block (a := ⟨lb, j' * 2, none⟩) (HK0.out lb Hne5.out.2)).trans p0
                        have htk : ∀ u : Int, (LL.take (j' + 1)).any (fun x => x.1 == u) = ((LL.take j').any (fun x => x.1 == u) || (xv == u)) := by
                          intro u
                          rw [List.take_add_one, List.getElem?_eq_getElem hjL, hx]
                          simp only [Option.toList_some, List.any_append, List.any_cons, List.any_nil, Bool.or_false]
                        have Htk := Lib.hid htk; have Hxl := Lib.hid hxl
                        clear p1 hx htk hxl
                        by_cases hx0 : xv < 0
                        · have hd3 : decide (xv ≥ 0) = false := by simp; omega
                          go_wp2_with fail
                          refine ⟨⟨j' + 1, by omega, fun h => absurd hk1 h, by push_cast; rfl, ?_, HK0.out, HBk.out, Hsk.out⟩, by simp [intOf]; omega⟩
                          rw [HKb.out, knA_congr vars _ _ (fun u => ?_)]
                          rw [Htk.out, show (xv == (u : Int)) = false by simp; omega, Bool.or_false]
                        · obtain ⟨xv, rfl⟩ : ∃ v : Nat, xv = v := ⟨xv.toNat, by omega⟩
                          have hd3 : decide ((xv : Int) ≥ 0) = true := by simp
                          have hxl : xv < vars := by have := Hxl.out; omega
                          obtain ⟨co, fo⟩ : wr.cell? ⟨w.heap.size + 1, xv, none⟩ = some (.bool (kn xv || (LL.take j').any (fun x => x.1 == (xv : Int)))) ∧ wr.frozen? ⟨w.heap.size + 1, xv, none⟩ = false := by
                            unfold World.cell? World.frozen?; rw [HKb.out]; simp [knA, hxl]
                          go_wp2_with fail
                          have hst := blk_set HKb.out xv (.bool true)
                          rw [knA_set vars _ (fun v => kn v || (LL.take (j' + 1)).any (fun x => x.1 == v)) xv (fun u => by
                            rw [Htk.out, ← Bool.or_assoc, show ((xv : Int) == (u : Int)) = decide (u = xv) by
                              rw [Bool.eq_iff_iff]; simp only [beq_iff_eq, decide_eq_true_eq]; omega])] at hst
                          exact ⟨⟨j' + 1, by omega, fun h => absurd hk1 h, by push_cast; rfl, hst, fun i hi => (Below.heap_setCell _ _ _ i hi).trans (HK0.out i hi), HBk.out.setCell (p := ⟨w.heap.size + 1, xv, none⟩) (by simp) _, by rw [World.size_setCell]; exact Hsk.out⟩, by simp [intOf]; omega⟩
                      · have hd1 : (kk == 1) = false := by simpa using hk1
                        have hz := Hj0.out hk1
                        go_wp2_with fail
                        refine ⟨⟨i + 1, _, by omega, by push_cast; rfl, Fin.out ?_, Hstep.out, HBk.out, Nat.le_trans Hsz2.out Hsk.out, (HK0.out _ (by omega)).trans HXw.out⟩, by simp [intOf]; omega⟩
                        rw [hz]
                        simp [knP, hk1]
                    · have hjm' : j' = j := by omega
                      have hd : decide ((j' : Int) < (j : Int)) = false := by simp; omega
                      have hz : kk = 1 ∨ (kk ≠ 1 ∧ j' = 0) := by
                        by_cases h : kk = 1
                        · exact .inl h
                        · exact .inr ⟨h, Hj0.out h⟩
                      have Hz := Lib.hid hz
                      clear hz
                      go_wp2_with fail
                      refine ⟨⟨i + 1, _, by omega, by push_cast; rfl, Fin.out ?_, Hstep.out, HBk.out, Nat.le_trans Hsz2.out Hsk.out, (HK0.out _ (by omega)).trans HXw.out⟩, by simp [intOf]; omega⟩
                      rcases Hz.out with h | ⟨h, h0⟩
                      · rw [List.take_of_length_le (by have := Hm.out; omega)]
                        simp only [knP, if_pos h]
                      · rw [h0]
                        simp [knP, h]
        · have hno : decide (1 ≤ kk ∧ kk ≤ 4) = false := by simpa using hkk
          by_cases hk1 : kk < 1
          · have hd4 : decide (kk < 1) = true := by simpa using hk1
            go_wp2_with fail
            go_ret
            refine ⟨?_, HB.out.trans (HB0.out.mono HB.out.size)⟩
            simp only [mayP, HG.out, Hdr.out, mayG, hno, Bool.false_and, Bool.and_false]
            rfl
          · have hd4 : decide (kk < 1) = false := by simpa using hk1
            have hd5 : decide (kk > 4) = true := by simp; omega
            go_wp2_with fail
            go_ret
            refine ⟨?_, HB.out.trans (HB0.out.mono HB.out.size)⟩
            simp only [mayP, HG.out, Hdr.out, mayG, hno, Bool.false_and, Bool.and_false]
            rfl
      · have hin' : i = n := by omega
        subst hin'
        have hd : decide ((i : Int) < (i : Int)) = false := by simp
        go_wp2_with fail
        go_ret
        refine ⟨?_, HB.out⟩
        have hx : mayG vars steps (fun _ => false) = true := by
          rw [HG.out, List.drop_eq_nil_of_le (by have := Hn.out; omega)]
          rfl
        simp [mayP, hx]
end
end Go.Proofs.Ytkgkkbfpkgfcaaa
