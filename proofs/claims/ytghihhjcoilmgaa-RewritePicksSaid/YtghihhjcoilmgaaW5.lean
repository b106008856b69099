/- A row of digits that is counted up; the choices that digits name (plain). -/
import Derived.Test.YtghihhjcoilmgaaW3
namespace Go.Proofs.Ytghihhjcoilmgaa
set_option maxRecDepth 100000
open Go.RowKit Go.Maps
set_option linter.unusedVariables false
set_option linter.unusedSimpArgs false

/-- digits, the first the smallest -/
def odo : List Nat → List Nat → Nat
  | d :: ds, l :: ls => d + l * odo ds ls
  | _, _ => 0
def odoAll : List Nat → Nat
  | l :: ls => l * odoAll ls
  | [] => 1
def Dig (ds ls : List Nat) : Prop := ds.length = ls.length ∧ ∀ i, i < ls.length → ds.getD i 0 < ls.getD i 0
theorem Dig.cons {d l : Nat} {ds ls : List Nat} : Dig (d :: ds) (l :: ls) ↔ d < l ∧ Dig ds ls := by
  constructor
  · rintro ⟨h1, h2⟩
    refine ⟨by simpa using h2 0 (by simp), by simpa using h1, fun i hi => ?_⟩
    simpa using h2 (i + 1) (by simpa using hi)
  · rintro ⟨h0, h1, h2⟩
    refine ⟨by simp [h1], fun i hi => ?_⟩
    cases i with
    | zero => simpa using h0
    | succ i => simpa using h2 i (by simpa using hi)
theorem Dig.nil_r {ds : List Nat} (h : Dig ds []) : ds = [] := List.length_eq_zero_iff.1 h.1
theorem odo_lt : ∀ {ls ds : List Nat}, Dig ds ls → odo ds ls < odoAll ls
  | [], ds, h => by rw [h.nil_r]; simp [odo, odoAll]
  | l :: ls, [], h => by have := h.1; simp at this
  | l :: ls, d :: ds, h => by
    obtain ⟨h1, h2⟩ := Dig.cons.1 h
    have := odo_lt h2
    simp only [odo, odoAll]
    calc d + l * odo ds ls < l + l * odo ds ls := by omega
      _ = l * (odo ds ls + 1) := by rw [Nat.mul_add]; omega
      _ ≤ l * odoAll ls := Nat.mul_le_mul_left _ this
theorem odo_inj : ∀ {ls ds es : List Nat}, Dig ds ls → Dig es ls → odo ds ls = odo es ls → ds = es
  | [], ds, es, h, k, _ => by rw [h.nil_r, k.nil_r]
  | l :: ls, [], _, h, _, _ => by have := h.1; simp at this
  | l :: ls, _ :: _, [], _, h, _ => by have := h.1; simp at this
  | l :: ls, d :: ds, e :: es, h, k, he => by
    obtain ⟨h1, h2⟩ := Dig.cons.1 h
    obtain ⟨k1, k2⟩ := Dig.cons.1 k
    simp only [odo] at he
    have m1 := congrArg (· % l) he
    simp only [Nat.add_mul_mod_self_left, Nat.mod_eq_of_lt h1, Nat.mod_eq_of_lt k1] at m1
    subst m1
    have hl : 0 < l := by omega
    have := Nat.eq_of_mul_eq_mul_left hl (show l * odo ds ls = l * odo es ls by omega)
    rw [odo_inj h2 k2 this]
theorem odo_max : ∀ {ls ds : List Nat}, ds.length = ls.length → (∀ i, i < ls.length → ds.getD i 0 + 1 = ls.getD i 0) → odo ds ls + 1 = odoAll ls
  | [], ds, h, _ => by simp [List.length_eq_zero_iff.1 h, odo, odoAll]
  | l :: ls, [], h, _ => by simp at h
  | l :: ls, d :: ds, h, hm => by
    have h0 := hm 0 (by simp)
    have := odo_max (ls := ls) (ds := ds) (by simpa using h) (fun i hi => by simpa using hm (i + 1) (by simpa using hi))
    simp only [odo, odoAll, ← this, Nat.mul_add]
    simp at h0
    omega
/-- the digits after i of them went over, the next one is counted up -/
def odoUp (i : Nat) (ds : List Nat) : List Nat := (List.replicate i 0 ++ ds.drop i).set i (ds.getD i 0 + 1)
theorem odo_up : ∀ {i : Nat} {ls ds : List Nat}, ds.length = ls.length → i < ls.length → (∀ j, j < i → ds.getD j 0 + 1 = ls.getD j 0) → odo (odoUp i ds) ls = odo ds ls + 1
  | i, [], ds, _, h, _ => by simp at h
  | i, l :: ls, [], h, _, _ => by simp at h
  | 0, l :: ls, d :: ds, h, _, _ => by simp [odoUp, odo]; omega
  | i + 1, l :: ls, d :: ds, h, hi, hm => by
    have h0 := hm 0 (by omega)
    have := odo_up (i := i) (ls := ls) (ds := ds) (by simpa using h) (by simpa using hi) (fun j hj => by simpa using hm (j + 1) (by omega))
    have e : odoUp (i + 1) (d :: ds) = 0 :: odoUp i ds := by simp [odoUp, List.replicate_succ]
    rw [e]
    simp only [odo, this, Nat.mul_add]
    simp at h0
    omega
theorem odoUp_len {i : Nat} {ds : List Nat} (h : i < ds.length) : (odoUp i ds).length = ds.length := by simp [odoUp]; omega
theorem odoUp_dig {i : Nat} {ls ds : List Nat} (h : Dig ds ls) (hi : i < ls.length) (hlt : ds.getD i 0 + 1 < ls.getD i 0) : Dig (odoUp i ds) ls := by
  obtain ⟨h1, h2⟩ := h
  refine ⟨by rw [odoUp_len (by omega), h1], fun j hj => ?_⟩
  have hj2 : j < ds.length := by omega
  unfold odoUp
  rw [List.getD_eq_getElem?_getD, List.getElem?_set]
  split
  · rename_i e; subst e
    rw [if_pos (by simp; omega)]
    simpa using hlt
  · rename_i e
    by_cases hji : j < i
    · rw [List.getElem?_append_left (by simpa using hji)]
      have h0 : 0 < ls.getD j 0 := by have := h2 j hj; omega
      rw [List.getElem?_replicate, if_pos hji]
      exact h0
    · rw [List.getElem?_append_right (by simp; omega)]
      have := h2 j hj
      rw [List.getElem?_drop]
      simp only [List.length_replicate]
      rw [show i + (j - i) = j by omega, ← List.getD_eq_getElem?_getD]
      exact this

theorem odo_zero : ∀ (n : Nat) (ls : List Nat), odo (List.replicate n 0) ls = 0
  | 0, ls => by simp [odo]
  | n + 1, [] => by simp [odo, List.replicate_succ]
  | n + 1, l :: ls => by simp [odo, List.replicate_succ, odo_zero n ls]
theorem odo_over {D : List Nat} {p : Nat} (h : p < D.length) : (List.replicate p 0 ++ D.drop p).set p 0 = List.replicate (p + 1) 0 ++ D.drop (p + 1) := by
  rw [List.set_append_right _ _ (by simp), List.length_replicate, Nat.sub_self, List.drop_eq_getElem_cons h, List.set_cons_zero, List.replicate_succ', List.append_assoc]
  rfl
def lensL (LL : List (List Int)) : List Nat := LL.map List.length
theorem lensL_len (LL : List (List Int)) : (lensL LL).length = LL.length := by simp [lensL]
theorem lensL_at (LL : List (List Int)) (i : Nat) : (lensL LL).getD i 0 = (LL.getD i []).length := by
  simp only [lensL, List.getD_eq_getElem?_getD, List.getElem?_map]
  cases LL[i]? <;> rfl
/-- what digits choose -/
def chosenL (LL : List (List Int)) (D : List Nat) : List Int := (List.range LL.length).map fun i => (LL.getD i []).getD (D.getD i 0) 0
theorem chosenL_len (LL : List (List Int)) (D : List Nat) : (chosenL LL D).length = LL.length := by simp [chosenL]
theorem chosenL_at {LL : List (List Int)} (D : List Nat) {i : Nat} (h : i < LL.length) : (chosenL LL D).getD i 0 = (LL.getD i []).getD (D.getD i 0) 0 := by
  simp [chosenL, List.getD_eq_getElem?_getD, h]
theorem getD_mem {L : List Int} {k : Nat} (h : k < L.length) : L.getD k 0 ∈ L := by
  rw [List.getD_eq_getElem?_getD, List.getElem?_eq_getElem h]
  exact List.getElem_mem h
theorem choice_iff {J : Jn} {V : List Int} {A F : List Bool} {C : List CondT} {LL : List (List Int)} {X : List Int} (hl : LL.length = V.length) (hLL : ∀ i, i < V.length → ∀ x, x ∈ LL.getD i [] ↔ inL J V A F i x) (hC : ∀ c ∈ C, inC V.length c) :
    Choice J V A F C 0 X ↔ ∃ D, Dig D (lensL LL) ∧ ∀ c ∈ C, okC (chosenL LL D) c := by
  constructor
  · rintro ⟨Y, h1, _, h3, h4⟩
    have hm : ∀ i, i < V.length → Y.getD i 0 ∈ LL.getD i [] := fun i hi => (hLL i hi _).2 (h3 i (Nat.zero_le _) hi)
    refine ⟨(List.range LL.length).map fun i => (LL.getD i []).idxOf (Y.getD i 0), ⟨by simp [lensL], fun i hi => ?_⟩, fun c hc => ?_⟩
    · rw [lensL_len] at hi
      rw [lensL_at]
      have := List.idxOf_lt_length_iff.2 (hm i (by omega))
      simpa [List.getD_eq_getElem?_getD, hi] using this
    · have e : chosenL LL ((List.range LL.length).map fun i => (LL.getD i []).idxOf (Y.getD i 0)) = Y := by
        refine List.ext_getElem (by rw [chosenL_len]; omega) fun i k1 k2 => ?_
        have k3 := chosenL_at (LL := LL) ((List.range LL.length).map fun i => (LL.getD i []).idxOf (Y.getD i 0)) (i := i) (by rwa [chosenL_len] at k1)
        rw [List.getD_eq_getElem?_getD, List.getElem?_eq_getElem k1] at k3
        simp only [Option.getD_some] at k3
        rw [k3]
        have k4 : i < LL.length := by omega
        have k5 := hm i (by omega)
        have k6 : ((List.range LL.length).map fun i => (LL.getD i []).idxOf (Y.getD i 0)).getD i 0 = (LL.getD i []).idxOf (Y.getD i 0) := by simp [List.getD_eq_getElem?_getD, k4]
        rw [k6, List.getD_eq_getElem?_getD (l := LL.getD i []), List.getElem?_eq_getElem (List.idxOf_lt_length_iff.2 k5)]
        rw [Option.getD_some, List.getElem_idxOf]
        rw [List.getD_eq_getElem?_getD, List.getElem?_eq_getElem k2]
        rfl
      rw [e]
      obtain ⟨k1, k2, k3, k4⟩ := hC c hc
      exact h4 c hc (by push_cast; omega)
  · rintro ⟨D, hD, h⟩
    refine ⟨chosenL LL D, by rw [chosenL_len, hl], by simp, fun i _ hi => ?_, fun c hc _ => h c hc⟩
    refine (hLL i hi _).1 ?_
    rw [chosenL_at D (by omega)]
    exact getD_mem (by have := hD.2 i (by rw [lensL_len]; omega); rwa [lensL_at] at this)
end Go.Proofs.Ytghihhjcoilmgaa
