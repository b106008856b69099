/- Texts as bytes, in plain words. -/
import Derived.Test.YtmgaibeibfholaaDoorRows
import Derived.Laws.BitsLemmas
import Derived.Laws.BitsAllLaws
import Derived.RowKit
import Derived.Laws.BytesArg
import Derived.Lib.Strings
namespace Go.Proofs.YtmgaibeibfholaaDoor.Plain
set_option maxRecDepth 100000

def mayB (r : Int) : Bool := decide (0 ≤ r ∧ r ≤ 1114111 ∧ (r < 55296 ∨ 57343 < r))
def sizeN (r : Int) : Int := if r < 128 then 1 else if r < 2048 then 2 else if r < 65536 then 3 else 4
def headR (c : Int) : Int := if c < 128 then c else if 194 ≤ c ∧ c < 224 then c % 32 else if 224 ≤ c ∧ c < 240 then c % 16 else if 240 ≤ c ∧ c < 245 then c % 8 else 0
def headM (c : Int) : Int := if c < 128 then 0 else if 194 ≤ c ∧ c < 224 then 1 else if 224 ≤ c ∧ c < 240 then 2 else if 240 ≤ c ∧ c < 245 then 3 else -1
def bt (s : ByteArray) (k : Nat) : Int := if h : k < s.size then (s[k].toNat : Int) else 0
theorem bt_of {s : ByteArray} {k : Nat} (h : k < s.size) : (s[k].toNat : Int) = bt s k := by simp [bt, h]
theorem bt_ge (s : ByteArray) (k : Nat) : 0 ≤ bt s k := by unfold bt; split <;> omega
theorem bt_le (s : ByteArray) (k : Nat) : bt s k ≤ 255 := by unfold bt; split; (have := UInt8.toNat_lt (s[k]); omega); omega
theorem headM_le (c : Int) : -1 ≤ headM c ∧ headM c ≤ 3 := by unfold headM; (repeat' split) <;> omega
theorem headR_bd (c : Int) (h0 : 0 ≤ c) : 0 ≤ headR c ∧ headR c ≤ 255 := by unfold headR; (repeat' split) <;> omega

def acc (s : ByteArray) (r : Int) : Nat → Int
  | 0 => r
  | k + 1 => acc s r k * 64 + bt s (k + 1) % 64
theorem acc_bd (s : ByteArray) (r : Int) (h0 : 0 ≤ r) (h : r ≤ 255) : ∀ k, k ≤ 3 → 0 ≤ acc s r k ∧ acc s r k ≤ 100000000
  | 0, _ => by simp [acc]; omega
  | 1, _ => by simp [acc]; omega
  | 2, _ => by simp [acc]; omega
  | 3, _ => by simp [acc]; omega
  | k + 4, h => by omega

/-- is the byte one that goes on? -/
def cont (c : Int) : Prop := 128 ≤ c ∧ c < 192
instance (c : Int) : Decidable (cont c) := inferInstanceAs (Decidable (_ ∧ _))

/-- the rune that bytes begin with, and how many bytes it has; (0, 0): none. -/
def getP (s : ByteArray) : Int × Int :=
  if s.size = 0 then (0, 0) else
  if headM (bt s 0) < 0 ∨ (s.size : Int) ≤ headM (bt s 0) then (0, 0) else
  if (∀ j, j < (headM (bt s 0)).toNat → cont (bt s (j + 1))) ∧ mayB (acc s (headR (bt s 0)) (headM (bt s 0)).toNat) = true ∧
      sizeN (acc s (headR (bt s 0)) (headM (bt s 0)).toNat) = headM (bt s 0) + 1
  then (acc s (headR (bt s 0)) (headM (bt s 0)).toNat, headM (bt s 0) + 1) else (0, 0)

theorem getP_none0 {s : ByteArray} (h : s.size = 0) : getP s = (0, 0) := by simp [getP, h]
theorem getP_none1 {s : ByteArray} (h : headM (bt s 0) < 0 ∨ (s.size : Int) ≤ headM (bt s 0)) : getP s = (0, 0) := by
  unfold getP; by_cases h0 : s.size = 0; · rw [if_pos h0]
  rw [if_neg h0, if_pos h]
theorem getP_none2 {s : ByteArray} {j : Nat} (hj : (j : Int) < headM (bt s 0)) (h : ¬ cont (bt s (j + 1))) : getP s = (0, 0) := by
  unfold getP; (repeat' split) <;> first | rfl | (rename_i hh; exact absurd (hh.1 j (by omega)) h)
theorem getP_none3 {s : ByteArray} (h : ¬ (mayB (acc s (headR (bt s 0)) (headM (bt s 0)).toNat) = true ∧ sizeN (acc s (headR (bt s 0)) (headM (bt s 0)).toNat) = headM (bt s 0) + 1)) : getP s = (0, 0) := by
  unfold getP; (repeat' split) <;> first | rfl | (rename_i hh; exact absurd hh.2 h)
theorem getP_some {s : ByteArray} (h0 : 0 < s.size) (h1 : 0 ≤ headM (bt s 0)) (h2 : headM (bt s 0) < s.size) (h3 : ∀ j : Nat, (j : Int) < headM (bt s 0) → cont (bt s (j + 1)))
    (h4 : mayB (acc s (headR (bt s 0)) (headM (bt s 0)).toNat) = true) (h5 : sizeN (acc s (headR (bt s 0)) (headM (bt s 0)).toNat) = headM (bt s 0) + 1) :
    getP s = (acc s (headR (bt s 0)) (headM (bt s 0)).toNat, headM (bt s 0) + 1) := by
  unfold getP; rw [if_neg (by omega), if_neg (by omega), if_pos ⟨fun j hj => h3 j (by omega), h4, h5⟩]

end Go.Proofs.YtmgaibeibfholaaDoor.Plain

namespace Go.Proofs.YtmgaibeibfholaaDoor
set_option maxRecDepth 100000
open Go.RowKit Plain

theorem nat192 : ∀ c : Fin 256, ((c.val &&& 192) != 128) = !(decide (128 ≤ c.val ∧ c.val < 192)) := by decide +kernel
theorem and192 (c : UInt8) : (bits .and .u8 (c.toNat : Int) 192 != 128) = !(decide (cont c.toNat)) := by
  have h := UInt8.toNat_lt c
  have e : bits .and .u8 (c.toNat : Int) 192 = ((c.toNat &&& 192 : Nat) : Int) := u8_and_nat c.toNat 192 (by omega) (by omega)
  rw [e]
  have := nat192 ⟨c.toNat, by omega⟩
  simp only at this
  have e2 : (((c.toNat &&& 192 : Nat) : Int) != 128) = ((c.toNat &&& 192) != 128) := by
    rw [Bool.eq_iff_iff]; simp; omega
  rw [e2, this]; congr 1; rw [decide_eq_decide]; unfold cont; omega
theorem and63 (c : UInt8) : bits .and .u8 (c.toNat : Int) 63 = (c.toNat : Int) % 64 := by
  have h := UInt8.toNat_lt c
  have e : bits .and .u8 (c.toNat : Int) 63 = ((c.toNat &&& 63 : Nat) : Int) := u8_and_nat c.toNat 63 (by omega) (by omega)
  rw [e, nat_mask6]; omega
theorem wraps_i64 (n : Int) (h₀ : 0 ≤ n) (h₁ : n < 2 ^ 63) : IntKind.i64.wrap n = n := by rw [IntKind.wrap_i64]; omega
theorem or64 (a y : Int) (h0 : 0 ≤ a) (h1 : a ≤ 100000000) (h2 : 0 ≤ y) (h3 : y < 64) : bits .or .i64 (wrap64 (a * 64)) (wrap64 y) = a * 64 + y := by
  have e1 : wrap64 (a * 64) = a * 64 := by unfold wrap64; omega
  have e2 : wrap64 y = y := by unfold wrap64; omega
  rw [e1, e2]
  have := bits_join .i64 63 (by decide) wraps_i64 6 (a * 64) y (by omega) (by omega) (by omega) h2 (by omega) (by omega)
  exact this
end Go.Proofs.YtmgaibeibfholaaDoor

namespace Go.Proofs.YtmgaibeibfholaaDoor.Plain
set_option maxRecDepth 100000
set_option linter.unusedVariables false

/-- a text's bytes -/
def bl (s : ByteArray) : List Int := s.data.toList.map fun c => (c.toNat : Int)
theorem bl_length (s : ByteArray) : (bl s).length = s.size := by rw [bl, List.length_map, Array.length_toList]; rfl
theorem bl_getD (s : ByteArray) (k : Nat) : (bl s).getD k 0 = bt s k := by
  unfold bl bt
  by_cases h : k < s.size
  · rw [dif_pos h]
    have h' : k < s.data.toList.length := by rw [Array.length_toList]; exact h
    rw [List.getD_eq_getElem?_getD, List.getElem?_map, List.getElem?_eq_getElem h']
    rfl
  · rw [dif_neg h]
    have h' : s.data.toList.length ≤ k := by rw [Array.length_toList]; exact Nat.le_of_not_lt h
    rw [List.getD_eq_getElem?_getD, List.getElem?_map, List.getElem?_eq_none h']
    rfl
/-- is it a byte? -/
def isB (c : Int) : Prop := 0 ≤ c ∧ c ≤ 255
theorem bl_isB (s : ByteArray) : ∀ c ∈ bl s, isB c := by
  intro c hc
  unfold bl at hc
  obtain ⟨d, _, rfl⟩ := List.mem_map.1 hc
  have := d.toNat_lt
  unfold isB; omega

/-- a rune's bytes -/
def putL (r : Int) : List Int :=
  if r ≤ 127 then [r] else if r ≤ 2047 then [192 + r / 64, 128 + r % 64] else
  if r ≤ 65535 then [224 + r / 4096, 128 + r / 64 % 64, 128 + r % 64] else
  [240 + r / 262144, 128 + r / 4096 % 64, 128 + r / 64 % 64, 128 + r % 64]
theorem may_iff (r : Int) : mayB r = true ↔ 0 ≤ r ∧ r ≤ 1114111 ∧ (r < 55296 ∨ 57343 < r) := by unfold mayB; exact decide_eq_true_iff
theorem putL_isB {r : Int} (h : mayB r = true) : ∀ c ∈ putL r, isB c := by
  rw [may_iff] at h
  intro c hc
  unfold putL at hc
  unfold isB
  (repeat' split at hc) <;> simp at hc <;> omega
theorem putL_length {r : Int} : (putL r).length = (sizeN r).toNat := by
  unfold putL sizeN; (repeat' split) <;> first | rfl | omega

/-- the rune that bytes begin with, by the first byte -/
def getL (l : List Int) : Int × Int :=
  match l with
  | [] => (0, 0)
  | b0 :: t =>
    if b0 < 128 then (b0, 1) else
    if 194 ≤ b0 ∧ b0 < 224 then (match t with | b1 :: _ => if cont b1 then (b0 % 32 * 64 + b1 % 64, 2) else (0, 0) | _ => (0, 0)) else
    if 224 ≤ b0 ∧ b0 < 240 then (match t with
      | b1 :: b2 :: _ => if cont b1 ∧ cont b2 ∧ 2048 ≤ (b0 % 16 * 64 + b1 % 64) * 64 + b2 % 64 ∧ ((b0 % 16 * 64 + b1 % 64) * 64 + b2 % 64 < 55296 ∨ 57343 < (b0 % 16 * 64 + b1 % 64) * 64 + b2 % 64)
        then ((b0 % 16 * 64 + b1 % 64) * 64 + b2 % 64, 3) else (0, 0)
      | _ => (0, 0)) else
    if 240 ≤ b0 ∧ b0 < 245 then (match t with
      | b1 :: b2 :: b3 :: _ => if cont b1 ∧ cont b2 ∧ cont b3 ∧ 65536 ≤ ((b0 % 8 * 64 + b1 % 64) * 64 + b2 % 64) * 64 + b3 % 64 ∧ ((b0 % 8 * 64 + b1 % 64) * 64 + b2 % 64) * 64 + b3 % 64 ≤ 1114111
        then (((b0 % 8 * 64 + b1 % 64) * 64 + b2 % 64) * 64 + b3 % 64, 4) else (0, 0)
      | _ => (0, 0)) else (0, 0)

/-- (P1) -/
theorem getL_putL {r : Int} (h : mayB r = true) (t : List Int) : getL (putL r ++ t) = (r, ((putL r).length : Int)) := by
  rw [may_iff] at h
  unfold putL
  by_cases c1 : r ≤ 127
  · rw [if_pos c1]; simp [getL]; omega
  rw [if_neg c1]
  by_cases c2 : r ≤ 2047
  · rw [if_pos c2]
    simp only [getL, List.cons_append, List.nil_append, List.length_cons, List.length_nil]
    rw [if_neg (by omega), if_pos (by omega), if_pos (by unfold cont; omega)]
    ext <;> simp <;> omega
  rw [if_neg c2]
  by_cases c3 : r ≤ 65535
  · rw [if_pos c3]
    simp only [getL, List.cons_append, List.nil_append, List.length_cons, List.length_nil]
    have e : ((224 + r / 4096) % 16 * 64 + (128 + r / 64 % 64) % 64) * 64 + (128 + r % 64) % 64 = r := by omega
    rw [if_neg (by omega), if_neg (by omega), if_pos (by omega), e, if_pos (by unfold cont; omega)]
    rfl
  rw [if_neg c3]
  simp only [getL, List.cons_append, List.nil_append, List.length_cons, List.length_nil]
  have e : (((240 + r / 262144) % 8 * 64 + (128 + r / 4096 % 64) % 64) * 64 + (128 + r / 64 % 64) % 64) * 64 + (128 + r % 64) % 64 = r := by omega
  rw [if_neg (by omega), if_neg (by omega), if_neg (by omega), if_pos (by omega), e, if_pos (by unfold cont; omega)]
  rfl

/-- (P2) -/
theorem getL_some {l : List Int} (hl : ∀ c ∈ l, isB c) {r n : Int} (h : getL l = (r, n)) (hn : n ≠ 0) :
    mayB r = true ∧ n = (putL r).length ∧ ∃ t, l = putL r ++ t := by
  rw [may_iff]
  match l, hl, h with
  | [], _, h => simp [getL] at h; omega
  | b0 :: t, hl, h =>
    have hb0 : isB b0 := hl b0 (by simp)
    unfold isB at hb0
    simp only [getL] at h
    by_cases c1 : b0 < 128
    · rw [if_pos c1] at h
      obtain ⟨rfl, rfl⟩ := Prod.mk.inj h
      refine ⟨by omega, ?_, t, ?_⟩ <;> (unfold putL; rw [if_pos (by omega)]; rfl)
    rw [if_neg c1] at h
    by_cases c2 : 194 ≤ b0 ∧ b0 < 224
    · rw [if_pos c2] at h
      match t, hl, h with
      | [], _, h => simp at h; omega
      | b1 :: t, hl, h =>
        have hb1 : isB b1 := hl b1 (by simp)
        unfold isB at hb1
        simp only at h
        by_cases c3 : cont b1
        · rw [if_pos c3] at h
          obtain ⟨rfl, rfl⟩ := Prod.mk.inj h
          unfold cont at c3
          have e : putL (b0 % 32 * 64 + b1 % 64) = [b0, b1] := by
            unfold putL; rw [if_neg (by omega), if_pos (by omega)]; simp; omega
          rw [e]
          exact ⟨by omega, rfl, t, rfl⟩
        · rw [if_neg c3] at h; simp at h; omega
    rw [if_neg c2] at h
    by_cases c3 : 224 ≤ b0 ∧ b0 < 240
    · rw [if_pos c3] at h
      match t, hl, h with
      | [], _, h => simp at h; omega
      | [_], _, h => simp at h; omega
      | b1 :: b2 :: t, hl, h =>
        simp only at h
        split at h
        · rename_i c4
          obtain ⟨rfl, rfl⟩ := Prod.mk.inj h
          unfold cont at c4
          have e : putL ((b0 % 16 * 64 + b1 % 64) * 64 + b2 % 64) = [b0, b1, b2] := by
            unfold putL; rw [if_neg (by omega), if_neg (by omega), if_pos (by omega)]; simp; omega
          rw [e]
          exact ⟨by omega, rfl, t, rfl⟩
        · simp at h; omega
    rw [if_neg c3] at h
    by_cases c4 : 240 ≤ b0 ∧ b0 < 245
    · rw [if_pos c4] at h
      match t, hl, h with
      | [], _, h => simp at h; omega
      | [_], _, h => simp at h; omega
      | [_, _], _, h => simp at h; omega
      | b1 :: b2 :: b3 :: t, hl, h =>
        simp only at h
        split at h
        · rename_i c5
          obtain ⟨rfl, rfl⟩ := Prod.mk.inj h
          unfold cont at c5
          have e : putL (((b0 % 8 * 64 + b1 % 64) * 64 + b2 % 64) * 64 + b3 % 64) = [b0, b1, b2, b3] := by
            unfold putL; rw [if_neg (by omega), if_neg (by omega), if_neg (by omega)]; simp; omega
          rw [e]
          exact ⟨by omega, rfl, t, rfl⟩
        · simp at h; omega
    rw [if_neg c4] at h
    simp at h; omega

theorem ite_of {α : Type} {p q : Prop} [Decidable p] [Decidable q] (h : p ↔ q) (a b : α) : (if p then a else b) = (if q then a else b) := by
  by_cases hp : p
  · rw [if_pos hp, if_pos (h.1 hp)]
  · rw [if_neg hp, if_neg (fun hq => hp (h.2 hq))]
theorem all1 (p : Nat → Prop) : (∀ j, j < 1 → p j) ↔ p 0 := ⟨fun h => h 0 (by omega), fun h j hj => by
  have e : j = 0 := by omega
  rw [e]; exact h⟩
theorem all2 (p : Nat → Prop) : (∀ j, j < 2 → p j) ↔ p 0 ∧ p 1 := ⟨fun h => ⟨h 0 (by omega), h 1 (by omega)⟩, fun h j hj => by
  rcases (show j = 0 ∨ j = 1 by omega) with rfl | rfl; exact h.1; exact h.2⟩
theorem all3 (p : Nat → Prop) : (∀ j, j < 3 → p j) ↔ p 0 ∧ p 1 ∧ p 2 := ⟨fun h => ⟨h 0 (by omega), h 1 (by omega), h 2 (by omega)⟩, fun h j hj => by
  rcases (show j = 0 ∨ j = 1 ∨ j = 2 by omega) with rfl | rfl | rfl; exact h.1; exact h.2.1; exact h.2.2⟩

theorem getP_eq (s : ByteArray) : getP s = getL (bl s) := by
  have hk := bl_getD s
  have hz := bl_length s
  have hB := bl_isB s
  generalize bl s = l at hk hz hB
  unfold getP
  have e0 := hk 0; have e1 := hk 1; have e2 := hk 2; have e3 := hk 3
  generalize hb0 : bt s 0 = c0 at *
  match l, hz, e0, e1, e2, e3, hB with
  | [], hz, _, _, _, _, _ => simp at hz; rw [if_pos hz.symm]; rfl
  | b0 :: t, hz, e0, e1, e2, e3, hB =>
    obtain rfl : b0 = c0 := by simpa using e0
    have hbb : isB b0 := hB b0 (by simp)
    unfold isB at hbb
    simp only [List.length_cons] at hz
    rw [if_neg (by omega)]
    simp only [getL]
    by_cases c1 : b0 < 128
    · have hm : headM b0 = 0 := by unfold headM; rw [if_pos c1]
      have hr : headR b0 = b0 := by unfold headR; rw [if_pos c1]
      rw [hm, hr, if_neg (by omega), if_pos c1, if_pos]
      · rfl
      · exact ⟨fun j hj => by simp at hj, by rw [may_iff]; simp only [Int.toNat_zero, acc]; omega, by simp only [Int.toNat_zero, acc]; unfold sizeN; rw [if_pos c1]; rfl⟩
    rw [if_neg c1]
    by_cases c2 : 194 ≤ b0 ∧ b0 < 224
    · have hm : headM b0 = 1 := by unfold headM; rw [if_neg c1, if_pos c2]
      have hr : headR b0 = b0 % 32 := by unfold headR; rw [if_neg c1, if_pos c2]
      rw [hm, hr, if_pos c2]
      match t, hz, e1, hB with
      | [], hz, _, _ => simp at hz; rw [if_pos (by omega)]
      | b1 :: t, hz, e1, hB =>
        have hb1 : isB b1 := hB b1 (by simp)
        unfold isB at hb1
        have e1' : bt s 1 = b1 := by rw [← e1]; rfl
        simp only [List.length_cons] at hz
        rw [if_neg (by omega)]
        simp only [show Int.toNat 1 = 1 from rfl, acc, all1, Nat.zero_add, e1']
        by_cases c3 : cont b1
        · rw [if_pos c3, if_pos]
          · rfl
          · unfold cont at c3; exact ⟨c3, by rw [may_iff]; omega, by unfold sizeN; (repeat' split) <;> omega⟩
        · rw [if_neg c3, if_neg]; intro h; exact c3 h.1
    rw [if_neg c2]
    by_cases c3 : 224 ≤ b0 ∧ b0 < 240
    · have hm : headM b0 = 2 := by unfold headM; rw [if_neg c1, if_neg c2, if_pos c3]
      have hr : headR b0 = b0 % 16 := by unfold headR; rw [if_neg c1, if_neg c2, if_pos c3]
      rw [hm, hr, if_pos c3]
      match t, hz, e1, e2, hB with
      | [], hz, _, _, _ => simp at hz; rw [if_pos (by omega)]
      | [_], hz, _, _, _ => simp at hz; rw [if_pos (by omega)]
      | b1 :: b2 :: t, hz, e1, e2, hB =>
        have hb1 : isB b1 := hB b1 (by simp)
        have hb2 : isB b2 := hB b2 (by simp)
        unfold isB at hb1 hb2
        have e1' : bt s 1 = b1 := by rw [← e1]; rfl
        have e2' : bt s 2 = b2 := by rw [← e2]; rfl
        simp only [List.length_cons] at hz
        rw [if_neg (by omega)]
        simp only [show Int.toNat 2 = 2 from rfl, acc, all2, Nat.zero_add, Nat.reduceAdd, e1', e2']
        refine ite_of ?_ _ _
        rw [may_iff]
        have hsz : ∀ r : Int, sizeN r = 2 + 1 ↔ 2048 ≤ r ∧ r < 65536 := by intro r; unfold sizeN; (repeat' split) <;> omega
        rw [hsz]; unfold cont; omega
    rw [if_neg c3]
    by_cases c4 : 240 ≤ b0 ∧ b0 < 245
    · have hm : headM b0 = 3 := by unfold headM; rw [if_neg c1, if_neg c2, if_neg c3, if_pos c4]
      have hr : headR b0 = b0 % 8 := by unfold headR; rw [if_neg c1, if_neg c2, if_neg c3, if_pos c4]
      rw [hm, hr, if_pos c4]
      match t, hz, e1, e2, e3, hB with
      | [], hz, _, _, _, _ => simp at hz; rw [if_pos (by omega)]
      | [_], hz, _, _, _, _ => simp at hz; rw [if_pos (by omega)]
      | [_, _], hz, _, _, _, _ => simp at hz; rw [if_pos (by omega)]
      | b1 :: b2 :: b3 :: t, hz, e1, e2, e3, hB =>
        have hb1 : isB b1 := hB b1 (by simp)
        have hb2 : isB b2 := hB b2 (by simp)
        have hb3 : isB b3 := hB b3 (by simp)
        unfold isB at hb1 hb2 hb3
        have e1' : bt s 1 = b1 := by rw [← e1]; rfl
        have e2' : bt s 2 = b2 := by rw [← e2]; rfl
        have e3' : bt s 3 = b3 := by rw [← e3]; rfl
        simp only [List.length_cons] at hz
        rw [if_neg (by omega)]
        simp only [show Int.toNat 3 = 3 from rfl, acc, all3, Nat.zero_add, Nat.reduceAdd, e1', e2', e3']
        refine ite_of ?_ _ _
        rw [may_iff]
        have hsz : ∀ r : Int, sizeN r = 3 + 1 ↔ 65536 ≤ r := by intro r; unfold sizeN; (repeat' split) <;> omega
        rw [hsz]; unfold cont; omega
    · have hm : headM b0 = -1 := by unfold headM; rw [if_neg c1, if_neg c2, if_neg c3, if_neg c4]
      rw [hm, if_neg c4, if_pos (by omega)]
end Go.Proofs.YtmgaibeibfholaaDoor.Plain

namespace Go.Proofs.YtmgaibeibfholaaDoor.Plain
set_option maxRecDepth 100000
set_option linter.unusedVariables false

theorem bl_inj {s t : ByteArray} (h : bl s = bl t) : s = t := by
  apply ByteArray.ext
  apply Array.ext'
  unfold bl at h
  have := List.map_inj_right (f := fun c : UInt8 => (c.toNat : Int)) (fun a b hab => UInt8.toNat_inj.1 (Int.ofNat.inj hab)) |>.1 h
  exact this
theorem bl_extract (s : ByteArray) (a b : Nat) : bl (s.extract a b) = ((bl s).drop a).take (b - a) := by
  unfold bl; rw [Go.Lib.extract_data, List.map_take, List.map_drop]
theorem bl_append (s t : ByteArray) : bl (s ++ t) = bl s ++ bl t := by
  unfold bl; rw [ByteArray.data_append, Array.toList_append, List.map_append]
theorem bl_str {xs : List Int} (h : ∀ c ∈ xs, isB c) : bl (strOfNums xs) = xs := by
  unfold bl; rw [strOfNums_data, List.map_map]
  conv => rhs; rw [← List.map_id xs]
  apply List.map_congr_left
  intro c hc
  have := h c hc
  unfold isB at this
  simp only [Function.comp, id]
  have e : (UInt8.ofNat c.toNat).toNat = c.toNat := by rw [UInt8.toNat_ofNat']; omega
  rw [e]; omega
theorem toList_beq (s t : ByteArray) : (s.toList == t.toList) = decide (bl s = bl t) := by
  rw [Go.Lib.toList_data, Go.Lib.toList_data]
  rw [Bool.eq_iff_iff, beq_iff_eq, decide_eq_true_iff]
  constructor
  · intro h; unfold bl; rw [h]
  · intro h; rw [bl_inj h]
theorem str_beq {xs : List Int} (h : ∀ c ∈ xs, isB c) (s : ByteArray) (n : Nat) :
    ((strOfNums xs).toList == (s.extract 0 n).toList) = decide (xs = (bl s).take n) := by
  rw [toList_beq, bl_str h, bl_extract]; rfl

theorem getL_take4 (l : List Int) (k : Nat) (h : 4 ≤ k) : getL (l.take k) = getL l := by
  match l with
  | [] => simp
  | [a] => rw [List.take_of_length_le (by simp; omega)]
  | [a, b] => rw [List.take_of_length_le (by simp; omega)]
  | [a, b, c] => rw [List.take_of_length_le (by simp; omega)]
  | a :: b :: c :: d :: t =>
    obtain ⟨j, rfl⟩ : ∃ j, k = j + 4 := ⟨k - 4, by omega⟩
    simp only [List.take_succ_cons]
    rfl
theorem getL_bd {l : List Int} (hl : ∀ c ∈ l, isB c) : 0 ≤ (getL l).2 ∧ (getL l).2 ≤ l.length ∧ (getL l).2 ≤ 4 := by
  by_cases h : (getL l).2 = 0
  · omega
  · obtain ⟨h1, h2, t, h3⟩ := getL_some hl (r := (getL l).1) (n := (getL l).2) rfl h
    have h4 := putL_length (r := (getL l).1)
    have : sizeN (getL l).1 ≤ 4 := by unfold sizeN; (repeat' split) <;> omega
    have h5 : l.length = (putL (getL l).1).length + t.length := by conv => lhs; rw [h3]
                                                                   simp
    omega

theorem drop_isB {l : List Int} (h : ∀ c ∈ l, isB c) (p : Nat) : ∀ c ∈ l.drop p, isB c := fun c hc => h c (List.mem_of_mem_drop hc)

/-- the runes of bytes from a place on, with their places -/
def rl (l : List Int) (p : Nat) : List (Nat × Int) :=
  if h : p < l.length ∧ 0 < (getL (l.drop p)).2.toNat then (p, (getL (l.drop p)).1) :: rl l (p + (getL (l.drop p)).2.toNat) else []
termination_by l.length - p
/-- where the first place is at which none is -/
def endP (l : List Int) (p : Nat) : Nat :=
  if h : p < l.length ∧ 0 < (getL (l.drop p)).2.toNat then endP l (p + (getL (l.drop p)).2.toNat) else p
termination_by l.length - p
theorem rl_stop {l : List Int} {p : Nat} (h : ¬ (p < l.length ∧ 0 < (getL (l.drop p)).2.toNat)) : rl l p = [] ∧ endP l p = p := by
  rw [rl, endP, dif_neg h, dif_neg h]; exact ⟨rfl, rfl⟩
theorem rl_go {l : List Int} {p : Nat} (h1 : p < l.length) (h2 : 0 < (getL (l.drop p)).2.toNat) :
    rl l p = (p, (getL (l.drop p)).1) :: rl l (p + (getL (l.drop p)).2.toNat) ∧ endP l p = endP l (p + (getL (l.drop p)).2.toNat) := by
  constructor
  · rw [rl, dif_pos ⟨h1, h2⟩]
  · rw [endP, dif_pos ⟨h1, h2⟩]
end Go.Proofs.YtmgaibeibfholaaDoor.Plain

