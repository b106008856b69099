/- The reference's IRI: walked. -/
import Derived.Test.YtmgaibeibfholaaDoorP5
namespace Go.Proofs.YtmgaibeibfholaaDoor
set_option maxRecDepth 100000
open Go.RowKit Go.Shelf Plain
set_option linter.unusedVariables false

/-- is a byte in a text? -/
def inB (c : Int) (s : ByteArray) : Bool := (bl s).any fun d => d == c
theorem in_yes {s : ByteArray} {c : Int} {j : Nat} (hj : j < s.size) (h : bt s j = c) : inB c s = true := by
  unfold inB
  cases hh : (bl s).any fun d => d == c with
  | true => rfl
  | false =>
    exfalso
    have h2 : ((bl s).all fun d => !(d == c)) = true := by rw [← List.not_any_eq_all_not, hh]; rfl
    have := (all_bt s _).1 h2 j hj
    rw [h] at this; simp at this
theorem in_no {s : ByteArray} {c : Int} (h : ∀ j, j < s.size → bt s j ≠ c) : inB c s = false := by
  unfold inB
  have h2 : ((bl s).all fun d => !(d == c)) = true := (all_bt s _).2 fun j hj => by simpa using h j hj
  rw [← List.not_any_eq_all_not] at h2
  simpa using h2

set_option maxRecDepth 100000 in
set_option maxHeartbeats 1000000 in
theorem rin_any (c : Int) (s : ByteArray) (hs : s.size ≤ 9223372036854775807) (b : Bool) (hb : inB c s = b) (w : World) :
    Calls Tryd.prog 57 #[.int .u8 c, .string s] w fun e w' => e = .returned (.bool b) ∧ w = w' := by
  subst hb
  go_enter Tryd.func57, Tryd.ntmps57
  go_wp2
  go_loop [5] (fun n => ∃ k : Nat, k ≤ s.size ∧ n = .int .i64 k ∧ ∀ j, j < k → bt s j ≠ c) (fun n => s.size - (intOf n).toNat)
  case atStart => exact ⟨0, by omega, rfl, fun j hj => by omega⟩
  case round =>
    obtain ⟨k, hk, rfl, hu⟩ := hrel
    have Hu := Lib.hid hu; clear hu
    by_cases hlt : k < s.size
    · have he := bt_of hlt
      have HE := Lib.hid he; clear he
      go_wp2
      · have h1 : ((s[k].toNat : Nat) : Int) = c := by first | assumption | (simp_all; done)
        go_ret
        exact ⟨retB (in_yes hlt (by rw [← HE.out]; exact h1)).symm, rfl⟩
      · have h1 : ¬ ((s[k].toNat : Nat) : Int) = c := by first | assumption | (simp_all; done)
        refine ⟨⟨k + 1, by omega, by simp, fun j hj => ?_⟩, by simp [intOf]; omega⟩
        rcases Nat.lt_or_ge j k with h' | h'
        · exact Hu.out j h'
        · obtain rfl : j = k := by omega
          rw [← HE.out]; exact h1
    · go_wp2
      go_ret
      exact ⟨retB (in_no (fun j hj => Hu.out j (by omega))).symm, rfl⟩

def inS : ByteArray := ⟨#[60, 62, 123, 125, 124, 94]⟩
theorem inS_iff (c : Int) : inB c inS = true ↔ 60 = c ∨ 62 = c ∨ 123 = c ∨ 125 = c ∨ 124 = c ∨ 94 = c := by
  have e : bl inS = [60, 62, 123, 125, 124, 94] := by decide
  unfold inB
  rw [e]
  simp
theorem iri_step {s : ByteArray} {k : Nat} (h : ∀ j, j < k → okc (bt s j)) (hk : okc (bt s k)) : ∀ j, j < k + 1 → okc (bt s j) := fun j hj => by
  rcases Nat.lt_or_ge j k with h' | h'
  · exact h j h'
  · obtain rfl : j = k := by omega
    exact hk
theorem iri_all {s : ByteArray} {n : Nat} (h1 : 1 ≤ s.size) (h2 : s.size ≤ 1000) (hv : vlB s = true) (h : ∀ j, j < n → okc (bt s j)) (hn : s.size ≤ n) : true = iriB s := by
  unfold iriB
  rw [hv, (all_bt s _).2 (fun j hj => decide_eq_true (h j (by omega))), decide_eq_true h1, decide_eq_true h2]; rfl
theorem iri_bad {s : ByteArray} {j : Nat} (hj : j < s.size) (h : ¬ okc (bt s j)) : false = iriB s := by
  unfold iriB
  have : ((bl s).all fun c => decide (okc c)) = false := by
    rw [← Bool.not_eq_true, all_bt]
    intro hh
    exact h (of_decide_eq_true (hh j hj))
  rw [this]; simp

set_option maxRecDepth 100000 in
set_option maxHeartbeats 2000000 in
theorem riri_any (s : ByteArray) (hs : s.size ≤ 9223372036854775807) (b : Bool) (hb : iriB s = b) (w : World) :
    Calls Tryd.prog 43 #[.string s] w fun e w' => e = .returned (.bool b) ∧ Below w.heap.size w w' := by
  subst hb
  by_cases hz : 1 ≤ s.size ∧ s.size ≤ 1000
  · obtain ⟨h1, h2⟩ := hz
    have gA : decide ((s.size : Int) < 1) = false := decide_eq_false (by omega)
    have gB : decide ((1000 : Int) < s.size) = false := decide_eq_false (by omega)
    have gC : decide (1000 < s.size) = false := decide_eq_false (by omega)
    obtain ⟨v, hv⟩ : ∃ v, vlB s = v := ⟨_, rfl⟩
    have Hv := Lib.hid hv; clear hv
    go_enter Tryd.func43, Tryd.ntmps43
    cases v
    · have Hn := Lib.hid (iri_out (s := s) (fun h => by have := Hv.out; rw [h.2.2] at this; cases this))
      go_wp2_with (go_at_call 42; refine (rvalid_any s (by omega) false Hv.out _).mono ?_; rintro e w' ⟨rfl, hB⟩; have HB := Lib.hid hB; clear hB)
      go_ret
      exact ⟨retB Hn.out.symm, HB.out⟩
    · go_wp2_with fail
      refine (rvalid_any s (by omega) true Hv.out _).mono ?_
      rintro e w1 ⟨rfl, hB⟩
      have HB := Lib.hid hB; clear hB
      go_wp2_with fail
      go_loop [3] (fun n => ∃ k : Nat, k ≤ s.size ∧ n = .int .i64 k ∧ ∀ j, j < k → okc (bt s j)) (fun n => s.size - (intOf n).toNat)
      case atStart => exact ⟨0, by omega, rfl, fun j hj => by omega⟩
      case round =>
        obtain ⟨k, hk, rfl, hu⟩ := hrel
        have Hu := Lib.hid hu; clear hu
        by_cases hlt : k < s.size
        · have he := bt_of hlt
          have HE := Lib.hid he; clear he
          obtain ⟨q, hq⟩ : ∃ q, inB ((s[k].toNat : Nat) : Int) inS = q := ⟨_, rfl⟩
          have Hq := Lib.hid hq; clear hq
          have hi := inS_iff ((s[k].toNat : Nat) : Int)
          rw [Hq.out] at hi
          have Hi := Lib.hid hi; clear hi
          cases q
          all_goals
            go_wp2_with (go_at_call 57; refine (rin_any ((s[k].toNat : Nat) : Int) inS (by decide) _ Hq.out _).mono ?_; rintro e w' ⟨rfl, rfl⟩)
          all_goals first
            | (refine ⟨⟨k + 1, by omega, by simp, iri_step Hu.out ?_⟩, by simp [intOf]; omega⟩
               have := Hi.out
               rw [← HE.out]
               simp at this
               simp_all
               unfold okc
               omega)
            | (go_ret
               refine ⟨retB (iri_bad hlt ?_), HB.out⟩
               rw [← HE.out]
               intro hok
               unfold okc at hok
               (try simp only [beq_iff_eq] at *)
               first
               | omega
               | (have h' := Hi.out.1 (by simp); omega))
          all_goals
            go_ret
            refine ⟨retB (iri_bad hlt ?_), HB.out⟩
            rw [← HE.out]
            intro hok
            unfold okc at hok
            have h' := Hi.out.1 (by simp)
            omega
        · go_wp2
          go_ret
          exact ⟨retB (iri_all h1 h2 Hv.out Hu.out (by omega)), HB.out⟩
  · have Hn := Lib.hid (iri_out (s := s) (fun h => hz ⟨h.1, h.2.1⟩))
    go_enter Tryd.func43, Tryd.ntmps43
    by_cases h1 : s.size < 1
    · have gA : decide ((s.size : Int) < 1) = true := decide_eq_true (by omega)
      go_wp2_with fail
      all_goals first
        | exact (undef_bool ‹some undef = some (Value.bool _)›).elim
        | (go_ret; exact ⟨retB Hn.out.symm, Below.refl _ _⟩)
    · have gA : decide ((s.size : Int) < 1) = false := decide_eq_false (by omega)
      have gB : decide ((1000 : Int) < s.size) = true := decide_eq_true (by omega)
      go_wp2_with fail
      all_goals first
        | exact (undef_bool ‹some undef = some (Value.bool _)›).elim
        | (go_ret; exact ⟨retB Hn.out.symm, Below.refl _ _⟩)
end Go.Proofs.YtmgaibeibfholaaDoor
