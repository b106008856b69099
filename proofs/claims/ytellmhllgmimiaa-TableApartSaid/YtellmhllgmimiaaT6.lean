/- Does one of a row's three places hold a number? -/
import Derived.Test.YtellmhllgmimiaaT5
namespace Go.Proofs.Ytellmhllgmimiaa
open Go.RowKit Go.Maps
set_option linter.unusedVariables false

def has3 (a b c v : Int) : Bool := v == a || v == b || v == c
section
set_option maxRecDepth 100000 in
set_option maxHeartbeats 2000000 in
theorem index3 (w : World) (g : Nat) (a b c v : Int) (h0 : w.cell? ⟨g, 0, none⟩ = some (.int .u32 a)) (h1 : w.cell? ⟨g, 1, none⟩ = some (.int .u32 b)) (h2 : w.cell? ⟨g, 2, none⟩ = some (.int .u32 c)) :
    Calls Try.prog 42 #[.slice (some ⟨g, 0, none⟩) 3 3, .int .u32 v] w fun e w' => (∃ n : Int, e = .returned (.int .i64 n) ∧ decide (0 ≤ n) = has3 a b c v) ∧ w = w' := by
  go_enter Try.func42, Try.ntmps42
  go_wp2
  go_loopw [8] (fun i wr => ∃ k : Nat, k ≤ 3 ∧ i = .int .i64 k ∧ (0 < k → (v == a) = false) ∧ (1 < k → (v == b) = false) ∧ (2 < k → (v == c) = false) ∧ wr = w) (fun i _ => 3 - (intOf i).toNat)
  case atStart => exact ⟨0, by omega, rfl, by omega, by omega, by omega, rfl⟩
  case round =>
    obtain ⟨k, hk, rfl, e0, e1, e2, rfl⟩ := hrel
    have hk' : k = 0 ∨ k = 1 ∨ k = 2 ∨ k = 3 := by omega
    rcases hk' with rfl | rfl | rfl | rfl
    · clear e0 e1 e2
      by_cases hv : (v == a) = true
      · go_wp2
        go_ret
        exact ⟨⟨0, rfl, by simp [has3, hv]⟩, rfl⟩
      · have hv' : (v == a) = false := by simpa using hv
        clear hv
        go_wp2
        go_roundw
        case rel => exact ⟨1, by omega, rfl, fun _ => hv', by omega, by omega, trivial⟩
        case measure => simp [intOf]
    · have e0 := e0 (by omega)
      clear e1 e2
      by_cases hv : (v == b) = true
      · go_wp2
        go_ret
        exact ⟨⟨1, rfl, by simp [has3, hv]⟩, rfl⟩
      · have hv' : (v == b) = false := by simpa using hv
        clear hv
        go_wp2
        go_roundw
        case rel => exact ⟨2, by omega, rfl, fun _ => e0, fun _ => hv', by omega, trivial⟩
        case measure => simp [intOf]
    · have e0 := e0 (by omega)
      have e1 := e1 (by omega)
      clear e2
      by_cases hv : (v == c) = true
      · go_wp2
        go_ret
        exact ⟨⟨2, rfl, by simp [has3, hv]⟩, rfl⟩
      · have hv' : (v == c) = false := by simpa using hv
        clear hv
        go_wp2
        go_roundw
        case rel => exact ⟨3, by omega, rfl, fun _ => e0, fun _ => e1, fun _ => hv', trivial⟩
        case measure => simp [intOf]
    · have e0 := e0 (by omega)
      have e1 := e1 (by omega)
      have e2 := e2 (by omega)
      go_wp2
      go_ret
      exact ⟨⟨-1, rfl, by simp [has3, e0, e1, e2]⟩, rfl⟩

set_option maxHeartbeats 400000 in
theorem contains3 (w : World) (g : Nat) (a b c v : Int) (h0 : w.cell? ⟨g, 0, none⟩ = some (.int .u32 a)) (h1 : w.cell? ⟨g, 1, none⟩ = some (.int .u32 b)) (h2 : w.cell? ⟨g, 2, none⟩ = some (.int .u32 c)) :
    Calls Try.prog 21 #[.slice (some ⟨g, 0, none⟩) 3 3, .int .u32 v] w fun e w' => e = .returned (.bool (has3 a b c v)) ∧ w = w' := by
  have hi := Lib.hid (index3 w g a b c v h0 h1 h2)
  clear h0 h1 h2
  go_enter Try.func21, Try.ntmps21
  go_wp2_with (go_at_call 42; refine hi.out.mono ?_; rintro e w1 ⟨⟨n, rfl, hn⟩, rfl⟩; have Hn := Lib.hid hn; clear hn)
  go_ret
  exact ⟨congrArg (fun b => Ending.returned (.bool b)) Hn.out, rfl⟩
end
end Go.Proofs.Ytellmhllgmimiaa
