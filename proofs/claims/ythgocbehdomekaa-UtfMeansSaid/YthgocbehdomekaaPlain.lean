/- Plain functions for layer 1 (utf): what is a rune, its bytes, what bytes begin with. -/
namespace Go.Proofs.Ythgocbehdomekaa.Plain

def mayB (r : Int) : Bool := decide (0 ≤ r ∧ r ≤ 1114111 ∧ (r < 55296 ∨ 57343 < r))
def sizeN (r : Int) : Int := if r < 128 then 1 else if r < 2048 then 2 else if r < 65536 then 3 else 4
def headR (c : Int) : Int := if c < 128 then c else if 194 ≤ c ∧ c < 224 then c % 32 else if 224 ≤ c ∧ c < 240 then c % 16 else if 240 ≤ c ∧ c < 245 then c % 8 else 0
def headM (c : Int) : Int := if c < 128 then 0 else if 194 ≤ c ∧ c < 224 then 1 else if 224 ≤ c ∧ c < 240 then 2 else if 240 ≤ c ∧ c < 245 then 3 else -1
def bt (s : ByteArray) (k : Nat) : Int := if h : k < s.size then (s[k].toNat : Int) else 0
theorem bt_of {s : ByteArray} {k : Nat} (h : k < s.size) : (s[k].toNat : Int) = bt s k := by simp [bt, h]
theorem bt_ge (s : ByteArray) (k : Nat) : 0 ≤ bt s k := by unfold bt; split <;> omega
theorem bt_le (s : ByteArray) (k : Nat) : bt s k ≤ 255 := by unfold bt; split; (have := UInt8.toNat_lt (s[k]); omega); omega
theorem headM_le (c : Int) : -1 ≤ headM c ∧ headM c ≤ 3 := by unfold headM; (repeat' split) <;> omega
theorem headR_bd (c : Int) (h0 : 0 ≤ c) : 0 ≤ headR c ∧ headR c ≤ 255 := by unfold headR; (repeat' split) <;> omega

def acc (s : ByteArray) (r : Int) : Nat → Int
  | 0 => r
  | k + 1 => acc s r k * 64 + bt s (k + 1) % 64
theorem acc_bd (s : ByteArray) (r : Int) (h0 : 0 ≤ r) (h : r ≤ 255) : ∀ k, k ≤ 3 → 0 ≤ acc s r k ∧ acc s r k ≤ 100000000
  | 0, _ => by simp [acc]; omega
  | 1, _ => by simp [acc]; omega
  | 2, _ => by simp [acc]; omega
  | 3, _ => by simp [acc]; omega
  | k + 4, h => by omega

/-- is the byte one that goes on? -/
def cont (c : Int) : Prop := 128 ≤ c ∧ c < 192
instance (c : Int) : Decidable (cont c) := inferInstanceAs (Decidable (_ ∧ _))

/-- the rune that bytes begin with, and how many bytes it has; (0, 0): none. -/
def getP (s : ByteArray) : Int × Int :=
  if s.size = 0 then (0, 0) else
  if headM (bt s 0) < 0 ∨ (s.size : Int) ≤ headM (bt s 0) then (0, 0) else
  if (∀ j, j < (headM (bt s 0)).toNat → cont (bt s (j + 1))) ∧ mayB (acc s (headR (bt s 0)) (headM (bt s 0)).toNat) = true ∧
      sizeN (acc s (headR (bt s 0)) (headM (bt s 0)).toNat) = headM (bt s 0) + 1
  then (acc s (headR (bt s 0)) (headM (bt s 0)).toNat, headM (bt s 0) + 1) else (0, 0)

theorem getP_none0 {s : ByteArray} (h : s.size = 0) : getP s = (0, 0) := by simp [getP, h]
theorem getP_none1 {s : ByteArray} (h : headM (bt s 0) < 0 ∨ (s.size : Int) ≤ headM (bt s 0)) : getP s = (0, 0) := by
  unfold getP; by_cases h0 : s.size = 0; · rw [if_pos h0]
  rw [if_neg h0, if_pos h]
theorem getP_none2 {s : ByteArray} {j : Nat} (hj : (j : Int) < headM (bt s 0)) (h : ¬ cont (bt s (j + 1))) : getP s = (0, 0) := by
  unfold getP; (repeat' split) <;> first | rfl | (rename_i hh; exact absurd (hh.1 j (by omega)) h)
theorem getP_none3 {s : ByteArray} (h : ¬ (mayB (acc s (headR (bt s 0)) (headM (bt s 0)).toNat) = true ∧ sizeN (acc s (headR (bt s 0)) (headM (bt s 0)).toNat) = headM (bt s 0) + 1)) : getP s = (0, 0) := by
  unfold getP; (repeat' split) <;> first | rfl | (rename_i hh; exact absurd hh.2 h)
theorem getP_some {s : ByteArray} (h0 : 0 < s.size) (h1 : 0 ≤ headM (bt s 0)) (h2 : headM (bt s 0) < s.size) (h3 : ∀ j : Nat, (j : Int) < headM (bt s 0) → cont (bt s (j + 1)))
    (h4 : mayB (acc s (headR (bt s 0)) (headM (bt s 0)).toNat) = true) (h5 : sizeN (acc s (headR (bt s 0)) (headM (bt s 0)).toNat) = headM (bt s 0) + 1) :
    getP s = (acc s (headR (bt s 0)) (headM (bt s 0)).toNat, headM (bt s 0) + 1) := by
  unfold getP; rw [if_neg (by omega), if_neg (by omega), if_pos ⟨fun j hj => h3 j (by omega), h4, h5⟩]

end Go.Proofs.Ythgocbehdomekaa.Plain
