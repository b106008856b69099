/- The bytes of a rune, and the rune that bytes begin with: plain Lean. -/
import Derived.Test.YthgocbehdomekaaPlain
namespace Go.Proofs.Ythgocbehdomekaa.Plain
set_option linter.unusedVariables false

/-- a text's bytes -/
def bl (s : ByteArray) : List Int := s.data.toList.map fun c => (c.toNat : Int)
theorem bl_length (s : ByteArray) : (bl s).length = s.size := by rw [bl, List.length_map, Array.length_toList]; rfl
theorem bl_getD (s : ByteArray) (k : Nat) : (bl s).getD k 0 = bt s k := by
  unfold bl bt
  by_cases h : k < s.size
  · rw [dif_pos h]
    have h' : k < s.data.toList.length := by rw [Array.length_toList]; exact h
    rw [List.getD_eq_getElem?_getD, List.getElem?_map, List.getElem?_eq_getElem h']
    rfl
  · rw [dif_neg h]
    have h' : s.data.toList.length ≤ k := by rw [Array.length_toList]; exact Nat.le_of_not_lt h
    rw [List.getD_eq_getElem?_getD, List.getElem?_map, List.getElem?_eq_none h']
    rfl
/-- is it a byte? -/
def isB (c : Int) : Prop := 0 ≤ c ∧ c ≤ 255
theorem bl_isB (s : ByteArray) : ∀ c ∈ bl s, isB c := by
  intro c hc
  unfold bl at hc
  obtain ⟨d, _, rfl⟩ := List.mem_map.1 hc
  have := d.toNat_lt
  unfold isB; omega

/-- a rune's bytes -/
def putL (r : Int) : List Int :=
  if r ≤ 127 then [r] else if r ≤ 2047 then [192 + r / 64, 128 + r % 64] else
  if r ≤ 65535 then [224 + r / 4096, 128 + r / 64 % 64, 128 + r % 64] else
  [240 + r / 262144, 128 + r / 4096 % 64, 128 + r / 64 % 64, 128 + r % 64]
theorem may_iff (r : Int) : mayB r = true ↔ 0 ≤ r ∧ r ≤ 1114111 ∧ (r < 55296 ∨ 57343 < r) := by unfold mayB; exact decide_eq_true_iff
theorem putL_isB {r : Int} (h : mayB r = true) : ∀ c ∈ putL r, isB c := by
  rw [may_iff] at h
  intro c hc
  unfold putL at hc
  unfold isB
  (repeat' split at hc) <;> simp at hc <;> omega
theorem putL_length {r : Int} : (putL r).length = (sizeN r).toNat := by
  unfold putL sizeN; (repeat' split) <;> first | rfl | omega

/-- the rune that bytes begin with, by the first byte -/
def getL (l : List Int) : Int × Int :=
  match l with
  | [] => (0, 0)
  | b0 :: t =>
    if b0 < 128 then (b0, 1) else
    if 194 ≤ b0 ∧ b0 < 224 then (match t with | b1 :: _ => if cont b1 then (b0 % 32 * 64 + b1 % 64, 2) else (0, 0) | _ => (0, 0)) else
    if 224 ≤ b0 ∧ b0 < 240 then (match t with
      | b1 :: b2 :: _ => if cont b1 ∧ cont b2 ∧ 2048 ≤ (b0 % 16 * 64 + b1 % 64) * 64 + b2 % 64 ∧ ((b0 % 16 * 64 + b1 % 64) * 64 + b2 % 64 < 55296 ∨ 57343 < (b0 % 16 * 64 + b1 % 64) * 64 + b2 % 64)
        then ((b0 % 16 * 64 + b1 % 64) * 64 + b2 % 64, 3) else (0, 0)
      | _ => (0, 0)) else
    if 240 ≤ b0 ∧ b0 < 245 then (match t with
      | b1 :: b2 :: b3 :: _ => if cont b1 ∧ cont b2 ∧ cont b3 ∧ 65536 ≤ ((b0 % 8 * 64 + b1 % 64) * 64 + b2 % 64) * 64 + b3 % 64 ∧ ((b0 % 8 * 64 + b1 % 64) * 64 + b2 % 64) * 64 + b3 % 64 ≤ 1114111
        then (((b0 % 8 * 64 + b1 % 64) * 64 + b2 % 64) * 64 + b3 % 64, 4) else (0, 0)
      | _ => (0, 0)) else (0, 0)

/-- (P1) -/
theorem getL_putL {r : Int} (h : mayB r = true) (t : List Int) : getL (putL r ++ t) = (r, ((putL r).length : Int)) := by
  rw [may_iff] at h
  unfold putL
  by_cases c1 : r ≤ 127
  · rw [if_pos c1]; simp [getL]; omega
  rw [if_neg c1]
  by_cases c2 : r ≤ 2047
  · rw [if_pos c2]
    simp only [getL, List.cons_append, List.nil_append, List.length_cons, List.length_nil]
    rw [if_neg (by omega), if_pos (by omega), if_pos (by unfold cont; omega)]
    ext <;> simp <;> omega
  rw [if_neg c2]
  by_cases c3 : r ≤ 65535
  · rw [if_pos c3]
    simp only [getL, List.cons_append, List.nil_append, List.length_cons, List.length_nil]
    have e : ((224 + r / 4096) % 16 * 64 + (128 + r / 64 % 64) % 64) * 64 + (128 + r % 64) % 64 = r := by omega
    rw [if_neg (by omega), if_neg (by omega), if_pos (by omega), e, if_pos (by unfold cont; omega)]
    rfl
  rw [if_neg c3]
  simp only [getL, List.cons_append, List.nil_append, List.length_cons, List.length_nil]
  have e : (((240 + r / 262144) % 8 * 64 + (128 + r / 4096 % 64) % 64) * 64 + (128 + r / 64 % 64) % 64) * 64 + (128 + r % 64) % 64 = r := by omega
  rw [if_neg (by omega), if_neg (by omega), if_neg (by omega), if_pos (by omega), e, if_pos (by unfold cont; omega)]
  rfl

/-- (P2) -/
theorem getL_some {l : List Int} (hl : ∀ c ∈ l, isB c) {r n : Int} (h : getL l = (r, n)) (hn : n ≠ 0) :
    mayB r = true ∧ n = (putL r).length ∧ ∃ t, l = putL r ++ t := by
  rw [may_iff]
  match l, hl, h with
  | [], _, h => simp [getL] at h; omega
  | b0 :: t, hl, h =>
    have hb0 : isB b0 := hl b0 (by simp)
    unfold isB at hb0
    simp only [getL] at h
    by_cases c1 : b0 < 128
    · rw [if_pos c1] at h
      obtain ⟨rfl, rfl⟩ := Prod.mk.inj h
      refine ⟨by omega, ?_, t, ?_⟩ <;> (unfold putL; rw [if_pos (by omega)]; rfl)
    rw [if_neg c1] at h
    by_cases c2 : 194 ≤ b0 ∧ b0 < 224
    · rw [if_pos c2] at h
      match t, hl, h with
      | [], _, h => simp at h; omega
      | b1 :: t, hl, h =>
        have hb1 : isB b1 := hl b1 (by simp)
        unfold isB at hb1
        simp only at h
        by_cases c3 : cont b1
        · rw [if_pos c3] at h
          obtain ⟨rfl, rfl⟩ := Prod.mk.inj h
          unfold cont at c3
          have e : putL (b0 % 32 * 64 + b1 % 64) = [b0, b1] := by
            unfold putL; rw [if_neg (by omega), if_pos (by omega)]; simp; omega
          rw [e]
          exact ⟨by omega, rfl, t, rfl⟩
        · rw [if_neg c3] at h; simp at h; omega
    rw [if_neg c2] at h
    by_cases c3 : 224 ≤ b0 ∧ b0 < 240
    · rw [if_pos c3] at h
      match t, hl, h with
      | [], _, h => simp at h; omega
      | [_], _, h => simp at h; omega
      | b1 :: b2 :: t, hl, h =>
        simp only at h
        split at h
        · rename_i c4
          obtain ⟨rfl, rfl⟩ := Prod.mk.inj h
          unfold cont at c4
          have e : putL ((b0 % 16 * 64 + b1 % 64) * 64 + b2 % 64) = [b0, b1, b2] := by
            unfold putL; rw [if_neg (by omega), if_neg (by omega), if_pos (by omega)]; simp; omega
          rw [e]
          exact ⟨by omega, rfl, t, rfl⟩
        · simp at h; omega
    rw [if_neg c3] at h
    by_cases c4 : 240 ≤ b0 ∧ b0 < 245
    · rw [if_pos c4] at h
      match t, hl, h with
      | [], _, h => simp at h; omega
      | [_], _, h => simp at h; omega
      | [_, _], _, h => simp at h; omega
      | b1 :: b2 :: b3 :: t, hl, h =>
        simp only at h
        split at h
        · rename_i c5
          obtain ⟨rfl, rfl⟩ := Prod.mk.inj h
          unfold cont at c5
          have e : putL (((b0 % 8 * 64 + b1 % 64) * 64 + b2 % 64) * 64 + b3 % 64) = [b0, b1, b2, b3] := by
            unfold putL; rw [if_neg (by omega), if_neg (by omega), if_neg (by omega)]; simp; omega
          rw [e]
          exact ⟨by omega, rfl, t, rfl⟩
        · simp at h; omega
    rw [if_neg c4] at h
    simp at h; omega

theorem ite_of {α : Type} {p q : Prop} [Decidable p] [Decidable q] (h : p ↔ q) (a b : α) : (if p then a else b) = (if q then a else b) := by
  by_cases hp : p
  · rw [if_pos hp, if_pos (h.1 hp)]
  · rw [if_neg hp, if_neg (fun hq => hp (h.2 hq))]
theorem all1 (p : Nat → Prop) : (∀ j, j < 1 → p j) ↔ p 0 := ⟨fun h => h 0 (by omega), fun h j hj => by
  have e : j = 0 := by omega
  rw [e]; exact h⟩
theorem all2 (p : Nat → Prop) : (∀ j, j < 2 → p j) ↔ p 0 ∧ p 1 := ⟨fun h => ⟨h 0 (by omega), h 1 (by omega)⟩, fun h j hj => by
  rcases (show j = 0 ∨ j = 1 by omega) with rfl | rfl; exact h.1; exact h.2⟩
theorem all3 (p : Nat → Prop) : (∀ j, j < 3 → p j) ↔ p 0 ∧ p 1 ∧ p 2 := ⟨fun h => ⟨h 0 (by omega), h 1 (by omega), h 2 (by omega)⟩, fun h j hj => by
  rcases (show j = 0 ∨ j = 1 ∨ j = 2 by omega) with rfl | rfl | rfl; exact h.1; exact h.2.1; exact h.2.2⟩

theorem getP_eq (s : ByteArray) : getP s = getL (bl s) := by
  have hk := bl_getD s
  have hz := bl_length s
  have hB := bl_isB s
  generalize bl s = l at hk hz hB
  unfold getP
  have e0 := hk 0; have e1 := hk 1; have e2 := hk 2; have e3 := hk 3
  generalize hb0 : bt s 0 = c0 at *
  match l, hz, e0, e1, e2, e3, hB with
  | [], hz, _, _, _, _, _ => simp at hz; rw [if_pos hz.symm]; rfl
  | b0 :: t, hz, e0, e1, e2, e3, hB =>
    obtain rfl : b0 = c0 := by simpa using e0
    have hbb : isB b0 := hB b0 (by simp)
    unfold isB at hbb
    simp only [List.length_cons] at hz
    rw [if_neg (by omega)]
    simp only [getL]
    by_cases c1 : b0 < 128
    · have hm : headM b0 = 0 := by unfold headM; rw [if_pos c1]
      have hr : headR b0 = b0 := by unfold headR; rw [if_pos c1]
      rw [hm, hr, if_neg (by omega), if_pos c1, if_pos]
      · rfl
      · exact ⟨fun j hj => by simp at hj, by rw [may_iff]; simp only [Int.toNat_zero, acc]; omega, by simp only [Int.toNat_zero, acc]; unfold sizeN; rw [if_pos c1]; rfl⟩
    rw [if_neg c1]
    by_cases c2 : 194 ≤ b0 ∧ b0 < 224
    · have hm : headM b0 = 1 := by unfold headM; rw [if_neg c1, if_pos c2]
      have hr : headR b0 = b0 % 32 := by unfold headR; rw [if_neg c1, if_pos c2]
      rw [hm, hr, if_pos c2]
      match t, hz, e1, hB with
      | [], hz, _, _ => simp at hz; rw [if_pos (by omega)]
      | b1 :: t, hz, e1, hB =>
        have hb1 : isB b1 := hB b1 (by simp)
        unfold isB at hb1
        have e1' : bt s 1 = b1 := by rw [← e1]; rfl
        simp only [List.length_cons] at hz
        rw [if_neg (by omega)]
        simp only [show Int.toNat 1 = 1 from rfl, acc, all1, Nat.zero_add, e1']
        by_cases c3 : cont b1
        · rw [if_pos c3, if_pos]
          · rfl
          · unfold cont at c3; exact ⟨c3, by rw [may_iff]; omega, by unfold sizeN; (repeat' split) <;> omega⟩
        · rw [if_neg c3, if_neg]; intro h; exact c3 h.1
    rw [if_neg c2]
    by_cases c3 : 224 ≤ b0 ∧ b0 < 240
    · have hm : headM b0 = 2 := by unfold headM; rw [if_neg c1, if_neg c2, if_pos c3]
      have hr : headR b0 = b0 % 16 := by unfold headR; rw [if_neg c1, if_neg c2, if_pos c3]
      rw [hm, hr, if_pos c3]
      match t, hz, e1, e2, hB with
      | [], hz, _, _, _ => simp at hz; rw [if_pos (by omega)]
      | [_], hz, _, _, _ => simp at hz; rw [if_pos (by omega)]
      | b1 :: b2 :: t, hz, e1, e2, hB =>
        have hb1 : isB b1 := hB b1 (by simp)
        have hb2 : isB b2 := hB b2 (by simp)
        unfold isB at hb1 hb2
        have e1' : bt s 1 = b1 := by rw [← e1]; rfl
        have e2' : bt s 2 = b2 := by rw [← e2]; rfl
        simp only [List.length_cons] at hz
        rw [if_neg (by omega)]
        simp only [show Int.toNat 2 = 2 from rfl, acc, all2, Nat.zero_add, Nat.reduceAdd, e1', e2']
        refine ite_of ?_ _ _
        rw [may_iff]
        have hsz : ∀ r : Int, sizeN r = 2 + 1 ↔ 2048 ≤ r ∧ r < 65536 := by intro r; unfold sizeN; (repeat' split) <;> omega
        rw [hsz]; unfold cont; omega
    rw [if_neg c3]
    by_cases c4 : 240 ≤ b0 ∧ b0 < 245
    · have hm : headM b0 = 3 := by unfold headM; rw [if_neg c1, if_neg c2, if_neg c3, if_pos c4]
      have hr : headR b0 = b0 % 8 := by unfold headR; rw [if_neg c1, if_neg c2, if_neg c3, if_pos c4]
      rw [hm, hr, if_pos c4]
      match t, hz, e1, e2, e3, hB with
      | [], hz, _, _, _, _ => simp at hz; rw [if_pos (by omega)]
      | [_], hz, _, _, _, _ => simp at hz; rw [if_pos (by omega)]
      | [_, _], hz, _, _, _, _ => simp at hz; rw [if_pos (by omega)]
      | b1 :: b2 :: b3 :: t, hz, e1, e2, e3, hB =>
        have hb1 : isB b1 := hB b1 (by simp)
        have hb2 : isB b2 := hB b2 (by simp)
        have hb3 : isB b3 := hB b3 (by simp)
        unfold isB at hb1 hb2 hb3
        have e1' : bt s 1 = b1 := by rw [← e1]; rfl
        have e2' : bt s 2 = b2 := by rw [← e2]; rfl
        have e3' : bt s 3 = b3 := by rw [← e3]; rfl
        simp only [List.length_cons] at hz
        rw [if_neg (by omega)]
        simp only [show Int.toNat 3 = 3 from rfl, acc, all3, Nat.zero_add, Nat.reduceAdd, e1', e2', e3']
        refine ite_of ?_ _ _
        rw [may_iff]
        have hsz : ∀ r : Int, sizeN r = 3 + 1 ↔ 65536 ≤ r := by intro r; unfold sizeN; (repeat' split) <;> omega
        rw [hsz]; unfold cont; omega
    · have hm : headM b0 = -1 := by unfold headM; rw [if_neg c1, if_neg c2, if_neg c3, if_neg c4]
      rw [hm, if_neg c4, if_pos (by omega)]
end Go.Proofs.Ythgocbehdomekaa.Plain
