/- The table in plain words: rows and their bits; which rows a look fits, how often a number stands at a place. -/
import Derived.Test.YtellmhllgmimiaaMap
namespace Go.Proofs.Ytellmhllgmimiaa
set_option linter.unusedVariables false

abbrev R3 := Int × Int × Int
def R3.at (r : R3) (p : Nat) : Int := if p = 0 then r.1 else if p = 1 then r.2.1 else r.2.2
abbrev TS := List (R3 × Int)
def is32 (x : Int) : Prop := 0 ≤ x ∧ x ≤ 4294967295
def is8 (x : Int) : Prop := 0 ≤ x ∧ x ≤ 255
def rok (r : R3) : Prop := is32 r.1 ∧ is32 r.2.1 ∧ is32 r.2.2
def rv (r : R3) : Value := .agg #[.int .u32 r.1, .int .u32 r.2.1, .int .u32 r.2.2]
theorem rv_inj {r s : R3} (h : rv r = rv s) : r = s := by
  obtain ⟨a, b, c⟩ := r; obtain ⟨a', b', c'⟩ := s
  simp [rv] at h
  obtain ⟨rfl, rfl, rfl⟩ := h; rfl
def rcs (T : TS) : List Value := T.flatMap fun y => [.int .u32 y.1.1, .int .u32 y.1.2.1, .int .u32 y.1.2.2]
def bcs (T : TS) : List Value := T.map fun y => .int .u8 y.2
def ics (l : List Nat) : List Value := l.map fun (n : Nat) => .int .i64 (n : Int)
/-- a row and bits that may stand in a table -/
def yok (y : R3 × Int) : Prop := rok y.1 ∧ y.1.1 ≠ 0 ∧ y.1.2.1 ≠ 0 ∧ y.1.2.2 ≠ 0 ∧ is8 y.2

def fits (x r : R3) : Bool := (x.1 == 0 || x.1 == r.1) && (x.2.1 == 0 || x.2.1 == r.2.1) && (x.2.2 == 0 || x.2.2 == r.2.2)
/-- a look with one or two numbers -/
def look2 (x : R3) : Bool := (x.1 == 0 || x.2.1 == 0 || x.2.2 == 0) && (x.1 != 0 || x.2.1 != 0 || x.2.2 != 0)
def idx (T : TS) (r : R3) : Option Nat := T.findIdx? (fun y => y.1 == r)
def lst (T : TS) (x : R3) : List Nat := T.zipIdx.filterMap (fun y => if fits x y.1.1 then some y.2 else none)
def cnt (T : TS) (p : Nat) (x : Int) : Nat := T.countP (fun y => y.2 != 0 && R3.at y.1 p == x)
def live (T : TS) : Nat := T.countP (fun y => y.2 != 0)
def bitsOf (T : TS) (n : Nat) : Int := (T[n]?.map (·.2)).getD 0
def rowOf (T : TS) (n : Nat) : R3 := (T[n]?.map (·.1)).getD (0, 0, 0)
def setB (T : TS) (n : Nat) (b : Int) : TS := T.modify n (fun y => (y.1, b))

theorem rcs_length (T : TS) : (rcs T).length = T.length * 3 := by
  induction T with
  | nil => rfl
  | cons a l ih => simp [rcs] at ih ⊢; omega
theorem bcs_length (T : TS) : (bcs T).length = T.length * 1 := by simp [bcs]
theorem ics_length (l : List Nat) : (ics l).length = l.length * 1 := by simp [ics]
theorem rcs_get (T : TS) (j : Nat) (h : j < T.length) : (rcs T)[j * 3]? = some (.int .u32 T[j].1.1) ∧ (rcs T)[j * 3 + 1]? = some (.int .u32 T[j].1.2.1) ∧ (rcs T)[j * 3 + 2]? = some (.int .u32 T[j].1.2.2) := by
  induction T generalizing j with
  | nil => simp at h
  | cons x L ih =>
    cases j with
    | zero => simp [rcs]
    | succ j =>
      have := ih j (by simpa using h)
      simp only [rcs, List.flatMap_cons, List.cons_append, List.nil_append, Nat.add_mul, Nat.one_mul, List.getElem_cons_succ] at this ⊢
      simpa using this
theorem bcs_get (T : TS) (j : Nat) (h : j < T.length) : (bcs T)[j]? = some (.int .u8 T[j].2) := by simp [bcs, h]
theorem ics_get (l : List Nat) (j : Nat) (h : j < l.length) : (ics l)[j]? = some (.int .i64 (l[j] : Nat)) := by simp [ics, h]
theorem rcs_snoc (T : TS) (r : R3) (b : Int) : rcs (T ++ [(r, b)]) = rcs T ++ [.int .u32 r.1, .int .u32 r.2.1, .int .u32 r.2.2] := by simp [rcs]
theorem bcs_snoc (T : TS) (r : R3) (b : Int) : bcs (T ++ [(r, b)]) = bcs T ++ [.int .u8 b] := by simp [bcs]
theorem ics_snoc (l : List Nat) (n : Nat) : ics (l ++ [n]) = ics l ++ [.int .i64 n] := by simp [ics]

theorem setB_length (T : TS) (n : Nat) (b : Int) : (setB T n b).length = T.length := by simp [setB]
theorem setB_get (T : TS) (n : Nat) (b : Int) (j : Nat) (h : j < (setB T n b).length) : (setB T n b)[j] = if j = n then ((T[j]'(by simpa [setB] using h)).1, b) else T[j]'(by simpa [setB] using h) := by
  simp only [setB, List.getElem_modify]
  by_cases hj : n = j
  · subst hj; simp
  · simp [hj, Ne.symm hj]
theorem setB_rows (T : TS) (n : Nat) (b : Int) : (setB T n b).map (·.1) = T.map (·.1) := by
  apply List.ext_getElem (by simp [setB])
  intro i h1 h2
  simp only [List.getElem_map, setB_get]
  split <;> rfl
theorem rcs_rows {T T' : TS} (h : T'.map (·.1) = T.map (·.1)) : rcs T' = rcs T := by
  have : ∀ T : TS, rcs T = (T.map (·.1)).flatMap fun r => [.int .u32 r.1, .int .u32 r.2.1, .int .u32 r.2.2] := fun T => by simp [rcs, List.flatMap_map]
  rw [this, this, h]
theorem lst_rows {T T' : TS} (h : T'.map (·.1) = T.map (·.1)) (x : R3) : lst T' x = lst T x := by
  have : ∀ T : TS, lst T x = (T.map (·.1)).zipIdx.filterMap (fun y => if fits x y.1 then some y.2 else none) := fun T => by
    rw [lst, List.zipIdx_map, List.filterMap_map]; rfl
  rw [this, this, h]
theorem idx_rows {T T' : TS} (h : T'.map (·.1) = T.map (·.1)) (r : R3) : idx T' r = idx T r := by
  have : ∀ T : TS, idx T r = (T.map (·.1)).findIdx? (fun y => y == r) := fun T => by
    rw [idx, List.findIdx?_map]; rfl
  rw [this, this, h]

theorem lst_snoc (T : TS) (y : R3 × Int) (x : R3) : lst (T ++ [y]) x = lst T x ++ if fits x y.1 then [T.length] else [] := by
  simp only [lst, List.zipIdx_append, List.filterMap_append, List.zipIdx_cons, List.zipIdx_nil, List.filterMap_cons, List.filterMap_nil, Nat.zero_add]
  cases fits x y.1 <;> simp
theorem idx_snoc (T : TS) (y : R3 × Int) (r : R3) : idx (T ++ [y]) r = match idx T r with | some n => some n | none => if y.1 = r then some T.length else none := by
  unfold idx
  rw [List.findIdx?_append]
  cases T.findIdx? (fun y => y.1 == r) with
  | some n => simp
  | none => 
    by_cases h : y.1 = r
    · simp [h, List.findIdx?_cons]
    · simp [h, List.findIdx?_cons]
theorem idx_lt {T : TS} {r : R3} {n : Nat} (h : idx T r = some n) : ∃ h : n < T.length, T[n].1 = r := by
  obtain ⟨h1, h2, _⟩ := List.findIdx?_eq_some_iff_getElem.1 h
  exact ⟨h1, by simpa using h2⟩
theorem idx_none {T : TS} {r : R3} (h : idx T r = none) : ∀ y ∈ T, y.1 ≠ r := by
  have := List.findIdx?_eq_none_iff.1 h
  intro y hy e
  have := this y hy
  simp [e] at this
theorem cnt_snoc (T : TS) (y : R3 × Int) (p : Nat) (x : Int) : cnt (T ++ [y]) p x = cnt T p x + if y.2 ≠ 0 ∧ R3.at y.1 p = x then 1 else 0 := by
  simp only [cnt, List.countP_append, List.countP_cons, List.countP_nil, Nat.zero_add]
  congr 1
  by_cases h : y.2 ≠ 0 ∧ R3.at y.1 p = x
  · simp [h]
  · rw [if_neg h, if_neg]; simpa using h
theorem live_snoc (T : TS) (y : R3 × Int) : live (T ++ [y]) = live T + if y.2 ≠ 0 then 1 else 0 := by
  simp only [live, List.countP_append, List.countP_cons, List.countP_nil, Nat.zero_add]
  congr 1
  by_cases h : y.2 ≠ 0 <;> simp [h]

theorem countP_modify {α : Type} (q : α → Bool) (f : α → α) : ∀ (T : List α) (n : Nat) (h : n < T.length), (T.modify n f).countP q + (if q T[n] then 1 else 0) = T.countP q + (if q (f T[n]) then 1 else 0)
  | a :: T, 0, _ => by
    simp only [List.modify_zero_cons, List.countP_cons, List.getElem_cons_zero]; omega
  | a :: T, n + 1, h => by
    have := countP_modify q f T n (by simpa using h)
    simp only [List.modify_succ_cons, List.countP_cons, List.getElem_cons_succ]; omega
theorem cnt_set (T : TS) (n : Nat) (h : n < T.length) (b : Int) (p : Nat) (x : Int) :
    (cnt (setB T n b) p x : Int) = cnt T p x + (if R3.at T[n].1 p = x then (if b ≠ 0 then 1 else 0) - (if T[n].2 ≠ 0 then 1 else 0) else 0) := by
  have := countP_modify (fun y : R3 × Int => y.2 != 0 && R3.at y.1 p == x) (fun y => (y.1, b)) T n h
  simp only [cnt, setB]
  simp only [Bool.and_eq_true, bne_iff_ne, ne_eq, beq_iff_eq] at this
  by_cases h1 : R3.at T[n].1 p = x <;> by_cases h2 : b = 0 <;> by_cases h3 : T[n].2 = 0 <;> simp [h1, h2, h3] at this ⊢ <;> omega
theorem live_set (T : TS) (n : Nat) (h : n < T.length) (b : Int) :
    (live (setB T n b) : Int) = live T + ((if b ≠ 0 then 1 else 0) - (if T[n].2 ≠ 0 then 1 else 0)) := by
  have := countP_modify (fun y : R3 × Int => y.2 != 0) (fun y => (y.1, b)) T n h
  simp only [live, setB]
  simp only [bne_iff_ne, ne_eq] at this
  by_cases h2 : b = 0 <;> by_cases h3 : T[n].2 = 0 <;> simp [h2, h3] at this ⊢ <;> omega
theorem cnt_le (T : TS) (p : Nat) (x : Int) : cnt T p x ≤ T.length := List.countP_le_length
theorem live_le (T : TS) : live T ≤ T.length := List.countP_le_length
theorem cnt_pos {T : TS} {n : Nat} (h : n < T.length) (hb : T[n].2 ≠ 0) (p : Nat) : 0 < cnt T p (R3.at T[n].1 p) := by
  rw [cnt, List.countP_pos_iff]
  exact ⟨T[n], List.getElem_mem _, by simp [hb]⟩
end Go.Proofs.Ytellmhllgmimiaa
