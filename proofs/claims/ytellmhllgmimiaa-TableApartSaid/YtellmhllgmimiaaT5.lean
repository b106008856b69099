/- Set and Clear. -/
import Derived.Test.YtellmhllgmimiaaT4
namespace Go.Proofs.Ytellmhllgmimiaa
open Go.RowKit Go.Maps
set_option linter.unusedVariables false

theorem is8_or (v b : Int) : is8 (bits .or .u8 v b) := by
  unfold bits is8
  simp only [IntKind.wrap, IntKind.bits, IntKind.signed]
  simp
  omega
theorem is8_andNot (v b : Int) : is8 (bits .andNot .u8 v b) := by
  unfold bits is8
  simp only [IntKind.wrap, IntKind.bits, IntKind.signed]
  simp
  omega

section
variable {Z : Zone} {w : World} {tb : Nat} {T : TS} {D : TabD}

set_option maxRecDepth 100000 in
set_option maxHeartbeats 2000000 in
theorem set_yes (h : IsT Z w tb T D) (n : Nat) (hn : n < T.length) (b : Int) (hb : is8 b) :
    Calls Try.prog 29 #[.pointer (some ⟨tb, 0, none⟩), .int .i64 n, .int .u8 b] w fun e w' =>
      e = .returned (.tuple #[]) ∧ IsT Z w' tb (setB T n (bits .or .u8 T[n].2 b)) D ∧ Fr Z w w' := by
  obtain ⟨gb, capb, hvb, hgb, b0, f0, hWb⟩ := h.bit n hn
  have c1 := h.c1
  rw [hvb] at c1
  have hl := h.long
  have hch := Lib.hid (change_any h n hn (bits .or .u8 T[n].2 b) (is8_or _ _))
  obtain ⟨v, hv⟩ : ∃ v, T[n].2 = v := ⟨_, rfl⟩
  rw [hv] at b0 hch ⊢
  have hin := Lib.hid (in_yes h n hn)
  obtain ⟨l, hll⟩ : ∃ l, T.length = l := ⟨_, rfl⟩
  have hn' : n < l := by omega
  have hl' : l ≤ 1000000 := by omega
  rw [hll] at c1
  clear h
  go_enter Try.func29, Try.ntmps29
  go_wp2_with (first | (go_at_call 27; refine hin.out.mono ?_; rintro e w1 ⟨rfl, rfl⟩) | (go_at_call 23; refine hch.out.mono ?_; rintro e w2 ⟨rfl, s1, s2⟩; have S1 := Lib.hid s1; have S2 := Lib.hid s2; clear s1 s2))
  go_end0
  exact ⟨rfl, S1.out, S2.out⟩

set_option maxHeartbeats 2000000 in
theorem set_no (h : IsT Z w tb T D) (n : Int) (hn : n < 0 ∨ T.length ≤ n) (b : Int) :
    Calls Try.prog 29 #[.pointer (some ⟨tb, 0, none⟩), .int .i64 n, .int .u8 b] w fun e w' =>
      e = .returned (.tuple #[]) ∧ w = w' := by
  have hin := Lib.hid (in_no h n hn)
  clear h hn
  go_enter Try.func29, Try.ntmps29
  go_wp2_with (go_at_call 27; refine hin.out.mono ?_; rintro e w1 ⟨rfl, rfl⟩)
  go_end0
  exact ⟨rfl, rfl⟩

set_option maxRecDepth 100000 in
set_option maxHeartbeats 2000000 in
theorem clear_yes (h : IsT Z w tb T D) (n : Nat) (hn : n < T.length) (b : Int) (hb : is8 b) :
    Calls Try.prog 13 #[.pointer (some ⟨tb, 0, none⟩), .int .i64 n, .int .u8 b] w fun e w' =>
      e = .returned (.tuple #[]) ∧ IsT Z w' tb (setB T n (bits .andNot .u8 T[n].2 b)) D ∧ Fr Z w w' := by
  obtain ⟨gb, capb, hvb, hgb, b0, f0, hWb⟩ := h.bit n hn
  have c1 := h.c1
  rw [hvb] at c1
  have hl := h.long
  have hch := Lib.hid (change_any h n hn (bits .andNot .u8 T[n].2 b) (is8_andNot _ _))
  obtain ⟨v, hv⟩ : ∃ v, T[n].2 = v := ⟨_, rfl⟩
  rw [hv] at b0 hch ⊢
  have hin := Lib.hid (in_yes h n hn)
  obtain ⟨l, hll⟩ : ∃ l, T.length = l := ⟨_, rfl⟩
  have hn' : n < l := by omega
  have hl' : l ≤ 1000000 := by omega
  rw [hll] at c1
  clear h
  go_enter Try.func13, Try.ntmps13
  go_wp2_with (first | (go_at_call 27; refine hin.out.mono ?_; rintro e w1 ⟨rfl, rfl⟩) | (go_at_call 23; refine hch.out.mono ?_; rintro e w2 ⟨rfl, s1, s2⟩; have S1 := Lib.hid s1; have S2 := Lib.hid s2; clear s1 s2))
  go_end0
  exact ⟨rfl, S1.out, S2.out⟩

set_option maxHeartbeats 2000000 in
theorem clear_no (h : IsT Z w tb T D) (n : Int) (hn : n < 0 ∨ T.length ≤ n) (b : Int) :
    Calls Try.prog 13 #[.pointer (some ⟨tb, 0, none⟩), .int .i64 n, .int .u8 b] w fun e w' =>
      e = .returned (.tuple #[]) ∧ w = w' := by
  have hin := Lib.hid (in_no h n hn)
  clear h hn
  go_enter Try.func13, Try.ntmps13
  go_wp2_with (go_at_call 27; refine hin.out.mono ?_; rintro e w1 ⟨rfl, rfl⟩)
  go_end0
  exact ⟨rfl, rfl⟩

end
end Go.Proofs.Ytellmhllgmimiaa
