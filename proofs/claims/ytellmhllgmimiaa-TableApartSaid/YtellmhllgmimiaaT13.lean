/- slices.BinarySearch over numbers that grow. -/
import Derived.Test.YtellmhllgmimiaaT12
namespace Go.Proofs.Ytellmhllgmimiaa
open Go.RowKit Go.Maps
set_option linter.unusedVariables false
set_option linter.unusedSimpArgs false

set_option maxRecDepth 100000 in
set_option maxHeartbeats 1000000 in
theorem less_any (a b : Int) (w : World) : Calls Try.prog 45 #[.int .i64 a, .int .i64 b] w fun e w' => e = .returned (.bool (decide (a < b))) ∧ w' = w := by
  go_enter Try.func45, Try.ntmps45
  go_wp2
  go_ret
  exact ⟨rfl, rfl⟩

/-- where a number would stand in a list that grows -/
def Stands (xs : List Nat) (t : Int) (i : Nat) : Prop := i ≤ xs.length ∧ (∀ j (h : j < xs.length), j < i → (xs[j] : Int) < t) ∧ ∀ j (h : j < xs.length), i ≤ j → t ≤ (xs[j] : Int)
def Grows (xs : List Nat) : Prop := ∀ i j (hi : i < xs.length) (hj : j < xs.length), i < j → xs[i] < xs[j]

set_option maxRecDepth 100000 in
set_option maxHeartbeats 2000000 in
theorem search_any (g cap : Nat) (xs : List Nat) (t : Int) (w : World) (hl : xs.length ≤ 1000010) (hg : Grows xs) (hc : ∀ j (h : j < xs.length), w.cell? ⟨g, j, none⟩ = some (.int .i64 (xs[j] : Nat))) :
    Calls Try.prog 26 #[.slice (some ⟨g, 0, none⟩) xs.length cap, .int .i64 t] w fun e w' => (∃ i b, Stands xs t i ∧ e = .returned (.tuple #[.int .i64 (i : Nat), .bool b])) ∧ w' = w := by
  obtain ⟨n, hn⟩ : ∃ n, xs.length = n := ⟨_, rfl⟩
  rw [hn] at hl ⊢
  go_enter Try.func26, Try.ntmps26
  go_wp2_with fail
  go_loopw [7, 8] (fun u v wr => ∃ i j : Nat, u = .int .i64 i ∧ v = .int .i64 j ∧ wr = w ∧ i ≤ j ∧ j ≤ n ∧ (∀ k (h : k < xs.length), k < i → (xs[k] : Int) < t) ∧ ∀ k (h : k < xs.length), j ≤ k → t ≤ (xs[k] : Int)) (fun u v _ => (intOf v).toNat - (intOf u).toNat)
  case atStart => exact ⟨0, n, rfl, rfl, rfl, by omega, by omega, fun k _ h => by omega, fun k h h1 => by omega⟩
  case round =>
    obtain ⟨i, j, rfl, rfl, rfl, hij, hjn, h1, h2⟩ := hrel
    by_cases hlt : i < j
    · obtain ⟨m, hm⟩ : ∃ m, (i + j) / 2 = m := ⟨_, rfl⟩
      have hm1 : i ≤ m := by omega
      have hm2 : m < j := by omega
      have hcm := hc m (by omega)
      obtain ⟨z, hz⟩ : ∃ z, xs[m]'(by omega) = z := ⟨_, rfl⟩
      rw [hz] at hcm
      have hd : decide ((i : Int) < (j : Int)) = true := by simpa using hlt
      have H1 := Lib.hid h1; have H2 := Lib.hid h2; have Hc := Lib.hid hc; have Hg := Lib.hid hg
      clear h1 h2 hc hg
      have hmc : ((i : Int) + (j : Int)) / 2 = ((m : Nat) : Int) := by omega
      go_wp2_with fail
      refine (less_any _ _ _).mono ?_
      rintro e w' ⟨rfl, rfl⟩
      by_cases hzt : (z : Int) < t
      · have hdz : decide ((z : Int) < t) = true := by simpa using hzt
        go_wp2_with fail
        go_roundw
        case rel =>
          refine ⟨m + 1, j, (by first | rfl | (rw [← hm]; push_cast; rfl)), rfl, trivial, by omega, hjn, fun k h hk => ?_, H2.out⟩
          have hg := Hg.out
          rcases Nat.lt_or_ge k m with hkm | hkm
          · have := hg k m h (by omega) hkm
            omega
          · have : k = m := by omega
            subst this
            rw [hz]; exact hzt
        case measure => simp [intOf]; omega
      · have hdz : decide ((z : Int) < t) = false := by simpa using hzt
        go_wp2_with fail
        go_roundw
        case rel =>
          refine ⟨i, m, rfl, (by first | rfl | (rw [← hm]; push_cast; rfl) | (rw [← hm]; push_cast)), trivial, by omega, by omega, H1.out, fun k h hk => ?_⟩
          have hg := Hg.out
          rcases Nat.lt_or_ge m k with hkm | hkm
          · have := hg m k (by omega) h hkm
            omega
          · have : k = m := by omega
            subst this
            rw [hz]; omega
        case measure => simp [intOf]; omega
    · have hji : j = i := by omega
      subst hji
      have hd : decide ((j : Int) < (j : Int)) = false := by simp
      have H1 := Lib.hid h1; have H2 := Lib.hid h2
      clear h1 h2
      by_cases hjn' : j < n
      · have hcm := hc j (by omega)
        obtain ⟨z, hz⟩ : ∃ z, xs[j]'(by omega) = z := ⟨_, rfl⟩
        rw [hz] at hcm
        clear hc
        go_wp2_with go_in
        all_goals
          go_ret2
          exact ⟨⟨j, _, ⟨by omega, H1.out, H2.out⟩, rfl⟩, rfl⟩
      · clear hc
        go_wp2_with go_in
        all_goals
          go_ret2
          exact ⟨⟨j, _, ⟨by omega, H1.out, H2.out⟩, rfl⟩, rfl⟩
end Go.Proofs.Ytellmhllgmimiaa
