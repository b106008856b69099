/- The order of bytes is the order of runes: plain Lean. -/
import Derived.Test.YthgocbehdomekaaPure3
namespace Go.Proofs.Ythgocbehdomekaa
open Plain Go.RowKit
set_option linter.unusedVariables false

def lexLt : List Int → List Int → Bool
  | _, [] => false
  | [], _ :: _ => true
  | a :: x, b :: y => decide (a < b) || (decide (a = b) && lexLt x y)
theorem lexLt_same (p x y : List Int) : lexLt (p ++ x) (p ++ y) = lexLt x y := by
  induction p with
  | nil => rfl
  | cons a p ih => simp [lexLt, ih]
theorem bytesLess_eq : ∀ (x y : List UInt8), Op.bytesLess x y = lexLt (x.map fun c => (c.toNat : Int)) (y.map fun c => (c.toNat : Int))
  | _, [] => by simp [Op.bytesLess, lexLt]
  | [], _ :: _ => by simp [Op.bytesLess, lexLt]
  | a :: x, b :: y => by
    simp only [Op.bytesLess, lexLt, List.map_cons, bytesLess_eq x y]
    congr 1
    · rw [Bool.eq_iff_iff]; simp [UInt8.lt_iff_toNat_lt]
    · congr 1
      rw [Bool.eq_iff_iff]; simp [← UInt8.toNat_inj]; omega
theorem less_bl (s t : ByteArray) : Op.bytesLess s.toList t.toList = lexLt (bl s) (bl t) := by
  rw [bytesLess_eq, Go.Lib.toList_data, Go.Lib.toList_data]; rfl
theorem put_lt {a b : Int} (ha : mayB a = true) (hb : mayB b = true) (h : a < b) (x y : List Int) :
    lexLt (putL a ++ x) (putL b ++ y) = true ∧ lexLt (putL b ++ y) (putL a ++ x) = false := by
  rw [may_iff] at ha hb
  unfold putL
  (repeat' split) <;> simp only [List.cons_append, List.nil_append, lexLt, Bool.or_eq_true, Bool.and_eq_true, decide_eq_true_eq, Bool.or_eq_false_iff, Bool.and_eq_false_iff, decide_eq_false_iff_not] <;> omega
theorem lex_bytes : ∀ (A B : List Int), allMay A = true → allMay B = true → lexLt (bytesOf A) (bytesOf B) = lexLt A B
  | [], [], _, _ => rfl
  | a :: A, [], _, _ => by simp [lexLt, bytesOf]
  | [], b :: B, _, _ => by
    have h := putL_len4 b
    rw [bytesOf_cons]
    cases hp : putL b with
    | nil => rw [hp] at h; simp at h
    | cons c t => simp [bytesOf, lexLt]
  | a :: A, b :: B, hA, hB => by
    obtain ⟨a1, a2⟩ := (allMay_cons a A).1 hA
    obtain ⟨b1, b2⟩ := (allMay_cons b B).1 hB
    rw [bytesOf_cons, bytesOf_cons]
    rcases (show a < b ∨ a = b ∨ b < a by omega) with h | h | h
    · rw [(put_lt a1 b1 h _ _).1]; simp [lexLt, h]
    · subst h; rw [lexLt_same, lex_bytes A B a2 b2]; simp [lexLt]
    · rw [(put_lt b1 a1 h _ _).2]; simp [lexLt]; omega
/-- where two lists part -/
theorem lex_at (A B : List Int) (k : Nat) (h : A.take k = B.take k) (ha : k ≤ A.length) (hb : k ≤ B.length) : lexLt A B = lexLt (A.drop k) (B.drop k) := by
  conv => lhs; rw [← List.take_append_drop k A, ← List.take_append_drop k B, h]
  exact lexLt_same _ _ _
theorem lex_end (A B : List Int) (h : A.take B.length = B) (ha : B.length ≤ A.length) : lexLt A B = false := by
  rw [lex_at A B B.length (by rw [h, List.take_length]) ha (Nat.le_refl _), List.drop_length]
  cases A.drop B.length <;> rfl
theorem lex_short (A B : List Int) (h : A = B.take A.length) (hb : A.length < B.length) : lexLt A B = true := by
  rw [lex_at A B A.length (by rw [← h, List.take_length]) (Nat.le_refl _) (by omega), List.drop_length]
  cases hd : B.drop A.length with
  | nil => have := congrArg List.length hd; simp at this; omega
  | cons c t => rfl
theorem lex_lt (A B : List Int) (k : Nat) (h : A.take k = B.take k) (ha : k < A.length) (hb : k < B.length) : lexLt A B = (decide (A[k] < B[k]) || (decide (A[k] = B[k]) && lexLt (A.drop (k + 1)) (B.drop (k + 1)))) := by
  rw [lex_at A B k h (by omega) (by omega), ← List.getElem_cons_drop (h := ha), ← List.getElem_cons_drop (h := hb)]
  rfl
/-- a text that is well made is the text of its runes -/
theorem str_runes {s : ByteArray} (h : okL (bl s)) : strOfNums (bytesOf (rvals (rl (bl s) 0))) = s ∧ allMay (rvals (rl (bl s) 0)) = true := by
  obtain ⟨h1, h2⟩ := okL_iff (bl_isB s) h
  exact ⟨bl_inj (by rw [bl_str (bytesOf_isB h2), ← h1]), h2⟩
theorem less_runes {s t : ByteArray} (hs : okL (bl s)) (ht : okL (bl t)) : Op.bytesLess s.toList t.toList = lexLt (rvals (rl (bl s) 0)) (rvals (rl (bl t) 0)) := by
  obtain ⟨a1, a2⟩ := okL_iff (bl_isB s) hs
  obtain ⟨b1, b2⟩ := okL_iff (bl_isB t) ht
  rw [less_bl]
  conv => lhs; rw [a1, b1]
  exact lex_bytes _ _ a2 b2
end Go.Proofs.Ythgocbehdomekaa
