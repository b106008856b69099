/- The runes of bytes with their places: plain Lean. -/
import Derived.Test.YthgocbehdomekaaPure
import Derived.Laws.BytesArg
import Derived.Lib.Strings
namespace Go.Proofs.Ythgocbehdomekaa.Plain
set_option linter.unusedVariables false

theorem bl_inj {s t : ByteArray} (h : bl s = bl t) : s = t := by
  apply ByteArray.ext
  apply Array.ext'
  unfold bl at h
  have := List.map_inj_right (f := fun c : UInt8 => (c.toNat : Int)) (fun a b hab => UInt8.toNat_inj.1 (Int.ofNat.inj hab)) |>.1 h
  exact this
theorem bl_extract (s : ByteArray) (a b : Nat) : bl (s.extract a b) = ((bl s).drop a).take (b - a) := by
  unfold bl; rw [Go.Lib.extract_data, List.map_take, List.map_drop]
theorem bl_append (s t : ByteArray) : bl (s ++ t) = bl s ++ bl t := by
  unfold bl; rw [ByteArray.data_append, Array.toList_append, List.map_append]
theorem bl_str {xs : List Int} (h : ∀ c ∈ xs, isB c) : bl (strOfNums xs) = xs := by
  unfold bl; rw [strOfNums_data, List.map_map]
  conv => rhs; rw [← List.map_id xs]
  apply List.map_congr_left
  intro c hc
  have := h c hc
  unfold isB at this
  simp only [Function.comp, id]
  have e : (UInt8.ofNat c.toNat).toNat = c.toNat := by rw [UInt8.toNat_ofNat']; omega
  rw [e]; omega
theorem toList_beq (s t : ByteArray) : (s.toList == t.toList) = decide (bl s = bl t) := by
  rw [Go.Lib.toList_data, Go.Lib.toList_data]
  rw [Bool.eq_iff_iff, beq_iff_eq, decide_eq_true_iff]
  constructor
  · intro h; unfold bl; rw [h]
  · intro h; rw [bl_inj h]
theorem str_beq {xs : List Int} (h : ∀ c ∈ xs, isB c) (s : ByteArray) (n : Nat) :
    ((strOfNums xs).toList == (s.extract 0 n).toList) = decide (xs = (bl s).take n) := by
  rw [toList_beq, bl_str h, bl_extract]; rfl

theorem getL_take4 (l : List Int) (k : Nat) (h : 4 ≤ k) : getL (l.take k) = getL l := by
  match l with
  | [] => simp
  | [a] => rw [List.take_of_length_le (by simp; omega)]
  | [a, b] => rw [List.take_of_length_le (by simp; omega)]
  | [a, b, c] => rw [List.take_of_length_le (by simp; omega)]
  | a :: b :: c :: d :: t =>
    obtain ⟨j, rfl⟩ : ∃ j, k = j + 4 := ⟨k - 4, by omega⟩
    simp only [List.take_succ_cons]
    rfl
theorem getL_bd {l : List Int} (hl : ∀ c ∈ l, isB c) : 0 ≤ (getL l).2 ∧ (getL l).2 ≤ l.length ∧ (getL l).2 ≤ 4 := by
  by_cases h : (getL l).2 = 0
  · omega
  · obtain ⟨h1, h2, t, h3⟩ := getL_some hl (r := (getL l).1) (n := (getL l).2) rfl h
    have h4 := putL_length (r := (getL l).1)
    have : sizeN (getL l).1 ≤ 4 := by unfold sizeN; (repeat' split) <;> omega
    have h5 : l.length = (putL (getL l).1).length + t.length := by conv => lhs; rw [h3]
                                                                   simp
    omega

theorem drop_isB {l : List Int} (h : ∀ c ∈ l, isB c) (p : Nat) : ∀ c ∈ l.drop p, isB c := fun c hc => h c (List.mem_of_mem_drop hc)

/-- the runes of bytes from a place on, with their places -/
def rl (l : List Int) (p : Nat) : List (Nat × Int) :=
  if h : p < l.length ∧ 0 < (getL (l.drop p)).2.toNat then (p, (getL (l.drop p)).1) :: rl l (p + (getL (l.drop p)).2.toNat) else []
termination_by l.length - p
/-- where the first place is at which none is -/
def endP (l : List Int) (p : Nat) : Nat :=
  if h : p < l.length ∧ 0 < (getL (l.drop p)).2.toNat then endP l (p + (getL (l.drop p)).2.toNat) else p
termination_by l.length - p
theorem rl_stop {l : List Int} {p : Nat} (h : ¬ (p < l.length ∧ 0 < (getL (l.drop p)).2.toNat)) : rl l p = [] ∧ endP l p = p := by
  rw [rl, endP, dif_neg h, dif_neg h]; exact ⟨rfl, rfl⟩
theorem rl_go {l : List Int} {p : Nat} (h1 : p < l.length) (h2 : 0 < (getL (l.drop p)).2.toNat) :
    rl l p = (p, (getL (l.drop p)).1) :: rl l (p + (getL (l.drop p)).2.toNat) ∧ endP l p = endP l (p + (getL (l.drop p)).2.toNat) := by
  constructor
  · rw [rl, dif_pos ⟨h1, h2⟩]
  · rw [endP, dif_pos ⟨h1, h2⟩]
end Go.Proofs.Ythgocbehdomekaa.Plain
