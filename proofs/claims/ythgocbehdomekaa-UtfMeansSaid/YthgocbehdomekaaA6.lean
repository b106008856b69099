/- The reference Get returns what getL says, for every text. -/
import Derived.Test.YthgocbehdomekaaA5
import Derived.Test.YthgocbehdomekaaPure2
namespace Go.Proofs.Ythgocbehdomekaa
open Go.RowKit Plain
set_option linter.unusedVariables false

theorem getL_zero {l : List Int} (h : (getL l).2 = 0) : getL l = (0, 0) := by
  revert h
  unfold getL
  (repeat' split) <;> simp

theorem cnd_put {s : ByteArray} {r : Int} {t : List Int} (hm : mayB r = true) (hs : bl s = putL r ++ t) : cnd s (putL r).length (putL r).length = r := by
  have hk := bl_getD s
  rw [hs] at hk
  rw [may_iff] at hm
  have e0 := hk 0; have e1 := hk 1; have e2 := hk 2; have e3 := hk 3
  unfold putL at *
  by_cases c1 : r ≤ 127
  · simp only [if_pos c1] at *
    simp at e0
    simp [cnd, dig, ← e0]
  simp only [if_neg c1] at *
  by_cases c2 : r ≤ 2047
  · simp only [if_pos c2] at *
    simp at e0 e1
    simp [cnd, dig, ← e0, ← e1, md]; omega
  simp only [if_neg c2] at *
  by_cases c3 : r ≤ 65535
  · simp only [if_pos c3] at *
    simp at e0 e1 e2
    simp [cnd, dig, ← e0, ← e1, ← e2, md]; omega
  simp only [if_neg c3] at *
  simp at e0 e1 e2 e3
  simp [cnd, dig, ← e0, ← e1, ← e2, ← e3, md]; omega

theorem okN_iff {s : ByteArray} {n : Nat} : okN s n = true ↔ mayB (cnd s n n) = true ∧ putL (cnd s n n) = (bl s).take n := by
  unfold okN
  by_cases h : mayB (cnd s n n) = true
  · rw [str_beq (putL_isB h), h]; simp
  · simp [h]

theorem rget_is (s : ByteArray) (hs : s.size ≤ 9223372036854775000) (w : World) :
    Calls Try.prog 11 #[.string s] w fun e w' => e = .returned (.tuple #[.int .i64 (getL (bl s)).1, .int .i64 (getL (bl s)).2]) ∧ Below w.heap.size w w' := by
  refine rget_any s hs w (getL (bl s)) (fun n h1 h2 h3 _ h => ?_) (fun h => ?_)
  · obtain ⟨g1, g2⟩ := okN_iff.1 h
    have e : bl s = putL (cnd s n n) ++ (bl s).drop n := by rw [g2, List.take_append_drop]
    rw [e, getL_putL g1, g2, List.length_take, bl_length]
    rw [Nat.min_eq_left h3]
  · by_cases hz : (getL (bl s)).2 = 0
    · exact getL_zero hz
    · exfalso
      have hb := getL_bd (bl_isB s)
      obtain ⟨r, hr⟩ : ∃ r, (getL (bl s)).1 = r := ⟨_, rfl⟩
      obtain ⟨n, hn⟩ : ∃ n, (getL (bl s)).2 = n := ⟨_, rfl⟩
      rw [hn] at hb hz
      obtain ⟨g1, g2, t, g3⟩ := getL_some (bl_isB s) (r := r) (n := n) (by rw [← hr, ← hn]) hz
      have hlen : (putL r).length ≤ s.size := by rw [← bl_length]; omega
      have hc := cnd_put g1 g3
      have := h (putL r).length (by omega) (by omega) hlen
      have h' : okN s (putL r).length = true := okN_iff.2 (by
        rw [hc]; refine ⟨g1, ?_⟩
        rw [g3, List.take_left])
      rw [h'] at this; cases this
end Go.Proofs.Ythgocbehdomekaa
