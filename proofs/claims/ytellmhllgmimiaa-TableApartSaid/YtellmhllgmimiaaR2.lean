/- The reference's Find. -/
import Derived.Test.YtellmhllgmimiaaR1
namespace Go.Proofs.Ytellmhllgmimiaa
open Go.RowKit Go.Maps
set_option linter.unusedVariables false
set_option linter.unusedSimpArgs false

def findN (T : TS) (r : R3) : Int := match idx T r with | some n => n | none => -1
section
variable {Z : Zone} {w : World} {rb : Nat} {T : TS} {vr vb : Value}
set_option maxRecDepth 100000 in
set_option maxHeartbeats 2000000 in
theorem rfind_any (h : IsR Z w rb T vr vb) (r : R3) : Calls Try.prog 32 #[.pointer (some ⟨rb, 0, none⟩), rv r] w fun e w' =>
    e = .returned (.int .i64 (findN T r)) ∧ Below w.heap.size w w' := by
  obtain ⟨x0, x1, x2⟩ := r
  simp only [rv]
  have hh := Lib.hid h
  have hlong := h.long
  clear h
  obtain ⟨l, hl⟩ : ∃ l, T.length = l := ⟨_, rfl⟩
  rw [hl] at hlong
  go_enter Try.func32, Try.ntmps32
  go_wp2_with fail
  obtain ⟨a0, a1, a2⟩ := bx1 w x0 x1 x2
  have hBa : Below w.heap.size w (w.alloc (.cells #[.int .u32 x0, .int .u32 x1, .int .u32 x2] 25)) := (Below.refl _ w).alloc (Nat.le_refl _) _
  generalize w.alloc (.cells #[.int .u32 x0, .int .u32 x1, .int .u32 x2] 25) = Wa at *
  go_loopw [5] (fun u wr => ∃ k : Nat, k ≤ l ∧ u = .int .i64 k ∧ Below w.heap.size w wr ∧ Below Wa.heap.size Wa wr ∧ ∀ j (h : j < T.length), j < k → T[j].1 ≠ (x0, x1, x2)) (fun u _ => l - (intOf u).toNat)
  case atStart => exact ⟨0, by omega, rfl, hBa, Below.refl _ _, fun j h hj => by omega⟩
  case round =>
    obtain ⟨k, hk, rfl, hBr, hBw, hne⟩ := hrel
    have a0 := cell_later hBw a0
    have a1 := cell_later hBw a1
    have a2 := cell_later hBw a2
    have hI := hh.out.below hBr
    obtain ⟨c0, _, _⟩ := hI.cells
    have hvl := hI.rows.len (P := Try.prog) Try.underlying22 3
    rw [hl] at hvl
    have HBr := Lib.hid hBr; have HBw := Lib.hid hBw; have Hne := Lib.hid hne
    clear hBr hBw hne hBa
    by_cases hlt : k < l
    · have hd : decide ((k : Int) < (l : Int)) = true := by simpa using hlt
      obtain ⟨gr, capr, hvr, _, y0, y1, y2⟩ := hI.row k (by omega)
      obtain ⟨⟨z0, z1, z2⟩, hz⟩ : ∃ z, (T[k]'(by omega)).1 = z := ⟨_, rfl⟩
      rw [hz] at y0 y1 y2
      rw [hvr, hl] at c0
      clear hI hvr
      have he := eqRow z0 z1 z2 x0 x1 x2
      have Hz := Lib.hid hz; clear hz
      cases hq : (z0 == x0 && (z1 == x1 && z2 == x2))
      · rw [hq] at he
        have Hq := Lib.hid hq; clear hq
        go_wp2_with fail
        go_region
        go_wp2_with fail
        go_roundw
        case rel =>
          refine ⟨k + 1, by omega, by push_cast; rfl, HBr.out.drew, HBw.out.drew, fun j h hj => ?_⟩
          rcases Nat.lt_or_ge j k with hjk | hjk
          · exact Hne.out j h hjk
          · have : j = k := by omega
            subst this
            rw [Hz.out]
            intro e
            have hq := Hq.out
            simp only [Prod.mk.injEq] at e
            obtain ⟨rfl, rfl, rfl⟩ := e
            simp at hq
        case measure => simp [intOf]; omega
      · rw [hq] at he
        have Hq := Lib.hid hq; clear hq
        go_wp2_with fail
        go_region
        go_wp2_with fail
        go_ret
        refine ⟨congrArg (fun b => Ending.returned (.int .i64 b)) ?_, HBr.out.drew⟩
        have hq := Hq.out
        simp only [Bool.and_eq_true, beq_iff_eq] at hq
        obtain ⟨rfl, rfl, rfl⟩ := hq
        have hi : idx T (z0, z1, z2) = some k := by
          unfold idx
          rw [List.findIdx?_eq_some_iff_getElem]
          refine ⟨by omega, by rw [Hz.out]; simp, fun j hj => ?_⟩
          have := Hne.out j (by omega) hj
          simpa using this
        simp [findN, hi]
    · have hd : decide ((k : Int) < (l : Int)) = false := by simpa using hlt
      clear hI
      go_wp2_with fail
      go_ret
      refine ⟨congrArg (fun b => Ending.returned (.int .i64 b)) ?_, HBr.out⟩
      have hi : idx T (x0, x1, x2) = none := by
        unfold idx
        rw [List.findIdx?_eq_none_iff]
        intro y hy
        obtain ⟨j, hj, rfl⟩ := List.mem_iff_getElem.1 hy
        have := Hne.out j hj (by omega)
        simpa using this
      simp [findN, hi]
end
end Go.Proofs.Ytellmhllgmimiaa
