/- TableGrows in plain words: what the look goes over while rows come and go. -/
import Derived.Test.YtellmhllgmimiaaG1
namespace Go.Proofs.Ytellmhllgmimiaa
open Go.RowKit Go.Maps
set_option linter.unusedVariables false
set_option linter.unusedSimpArgs false

/-- every second one from the first on, from the second on -/
def ev : List Nat → List Nat
  | [] => []
  | [a] => [a]
  | a :: _ :: l => a :: ev l
def od : List Nat → List Nat
  | [] => []
  | [_] => []
  | _ :: b :: l => b :: od l
theorem ev_len : ∀ (m : Nat) (A : List Nat), A.length = 2 * m → (ev A).length = m
  | 0, [], _ => rfl
  | m + 1, a :: b :: A, h => by
    have := ev_len m A (by simp at h; omega)
    simp [ev, this]
  | 0, _ :: _, h => by simp at h
  | m + 1, [], h => by simp at h
  | m + 1, [_], h => by simp at h; omega
theorem ev_app : ∀ (m : Nat) (A B : List Nat), A.length = 2 * m → ev (A ++ B) = ev A ++ ev B ∧ od (A ++ B) = od A ++ od B
  | 0, [], B, _ => ⟨rfl, rfl⟩
  | m + 1, a :: b :: A, B, h => by
    obtain ⟨h1, h2⟩ := ev_app m A B (by simp at h; omega)
    simp [ev, od, h1, h2]
  | 0, _ :: _, _, h => by simp at h
  | m + 1, [], _, h => by simp at h
  | m + 1, [_], _, h => by simp at h; omega
theorem od_mem : ∀ (A : List Nat) (x : Nat), x ∈ od A → x ∈ A
  | [], x, h => by simp [od] at h
  | [_], x, h => by simp [od] at h
  | a :: b :: A, x, h => by
    simp only [od, List.mem_cons] at h ⊢
    rcases h with h | h
    · exact .inr (.inl h)
    · exact .inr (.inr (od_mem A x h))
theorem ev_le : ∀ (A : List Nat), 2 * (ev A).length ≤ A.length + 1
  | [] => by simp [ev]
  | [_] => by simp [ev]
  | a :: b :: A => by have := ev_le A; simp only [ev, List.length_cons]; omega
theorem ev_get : ∀ (A : List Nat) (i : Nat), (ev A)[i]? = A[2 * i]?
  | [], i => by simp [ev]
  | [a], i => by cases i <;> simp [ev]
  | a :: b :: A, 0 => by simp [ev]
  | a :: b :: A, i + 1 => by
    have := ev_get A i
    rw [show 2 * (i + 1) = 2 * i + 1 + 1 by omega]
    simp [ev, this]

/-- what a turn puts where the look has no number -/
def growL (k : R3) (l : Int) : Int × Int × Int :=
  let l0 := if k.1 = 0 then l + 1 else l
  let l1 := if k.2.1 = 0 then l0 + 1 else l0
  (l0, l1, if k.2.2 = 0 then l1 + 1 else l1)
def growR (k r : R3) (l : Int) : R3 :=
  (if k.1 = 0 then (growL k l).1 else r.1, if k.2.1 = 0 then (growL k l).2.1 else r.2.1, if k.2.2 = 0 then (growL k l).2.2 else r.2.2)
theorem growL_b (k : R3) (l : Int) : l ≤ (growL k l).2.2 ∧ (growL k l).2.2 ≤ l + 3 := by
  simp only [growL]
  by_cases h1 : k.1 = 0 <;> by_cases h2 : k.2.1 = 0 <;> by_cases h3 : k.2.2 = 0 <;> simp only [h1, h2, h3, if_true, if_false] <;> constructor <;> omega
theorem growR_ok (k r : R3) (l : Int) (hr : rok r) (h0 : 0 ≤ l) (h1 : l + 3 ≤ 4294967295) : rok (growR k r l) := by
  obtain ⟨a, b, c⟩ := hr
  simp only [is32] at a b c
  simp only [rok, is32, growR, growL]
  by_cases h1 : k.1 = 0 <;> by_cases h2 : k.2.1 = 0 <;> by_cases h3 : k.2.2 = 0 <;> simp only [h1, h2, h3, if_true, if_false] <;> refine ⟨⟨?_, ?_⟩, ⟨?_, ?_⟩, ?_, ?_⟩ <;> omega
/-- .. a row that is none of those -/
theorem growR_new (k r s : R3) (l : Int) (hk : has0 k = true) (h0 : 1073741824 ≤ l) (hs : s.1 < 1073741824 ∧ s.2.1 < 1073741824 ∧ s.2.2 < 1073741824) : s ≠ growR k r l := by
  rintro rfl
  simp only [has0, has3, Bool.or_eq_true, beq_iff_eq] at hk
  simp only [growR, growL] at hs
  obtain ⟨a, b, c⟩ := hs
  by_cases h1 : k.1 = 0
  · rw [if_pos h1, if_pos h1] at a; omega
  · by_cases h2 : k.2.1 = 0
    · rw [if_pos h2, if_pos h2, if_neg h1] at b; omega
    · by_cases h3 : k.2.2 = 0
      · rw [if_pos h3, if_pos h3, if_neg h1, if_neg h2] at c; omega
      · omega
theorem growR_old (k r : R3) (l : Int) (hk : has0 k = false) : growR k r l = r := by
  simp only [has0, has3, Bool.or_eq_false_iff, beq_eq_false_iff_ne] at hk
  simp only [growR]
  rw [if_neg (Ne.symm hk.1.1), if_neg (Ne.symm hk.1.2), if_neg (Ne.symm hk.2)]

theorem bitsOf_set (T : TS) (n : Nat) (b : Int) (c : Nat) (hc : c < T.length) : bitsOf (setB T n b) c = if c = n then b else bitsOf T c := by
  have h1 : c < (setB T n b).length := by rw [setB_length]; exact hc
  rw [bitsOf, List.getElem?_eq_getElem h1, bitsOf, List.getElem?_eq_getElem hc, setB_get]
  by_cases h : c = n <;> simp [h]
theorem rowOf_set (T : TS) (n : Nat) (b : Int) (c : Nat) : rowOf (setB T n b) c = rowOf T c := by
  have h : ∀ T : TS, rowOf T c = ((T.map (·.1))[c]?).getD (0, 0, 0) := fun T => by simp [rowOf]
  rw [h, h, setB_rows]
theorem bitsOf_snoc (T : TS) (y : R3 × Int) (c : Nat) (h : c < T.length) : bitsOf (T ++ [y]) c = bitsOf T c := by
  simp [bitsOf, List.getElem?_append_left h]
/-- Add leaves the rows that are there -/
theorem addT_old (T : TS) (x : R3) (hx : has0 x = false) (c : Nat) (hc : c < T.length) (hb : rowOf T c = x → bitsOf T c = 2) :
    rowOf (addT T x 2) c = rowOf T c ∧ bitsOf (addT T x 2) c = bitsOf T c := by
  unfold addT
  rw [if_neg (by rw [hx]; simp)]
  cases hi : idx T x with
  | some n =>
    obtain ⟨h1, h2⟩ := idx_lt hi
    refine ⟨rowOf_set _ _ _ _, ?_⟩
    show bitsOf (setB T n (bits .or .u8 (bitsOf T n) 2)) c = _
    rw [bitsOf_set _ _ _ _ hc]
    by_cases h : c = n
    · subst h
      rw [if_pos rfl, hb (by rw [rowOf_get T c h1]; exact h2)]
      decide
    · rw [if_neg h]
  | none =>
    refine ⟨(rowOf_set _ _ _ _).trans (rowOf_snoc _ _ _ hc), ?_⟩
    show bitsOf (setB (T ++ [(x, 0)]) T.length (bits .or .u8 0 2)) c = _
    rw [bitsOf_set _ _ _ _ (by simp; omega), if_neg (by omega), bitsOf_snoc _ _ _ hc]
theorem addT_ge (T : TS) (x : R3) (b : Int) : T.length ≤ (addT T x b).length := by
  unfold addT
  split
  · exact Nat.le_refl _
  · split
    · rw [setB_length]; exact Nat.le_refl _
    · rw [setB_length]; simp
/-- a row with a zero: nothing comes -/
theorem addT_has0 (T : TS) (x : R3) (b : Int) (h : has0 x = true) : addT T x b = T := by unfold addT; rw [if_pos (.inr h)]

/-- the table, the rows that are to come, the last number, behind m turns -/
structure GSt where
  T : TS
  R : List Nat
  l : Int
def GSt.step (k : R3) (T0 : TS) (m : Nat) (s : GSt) : GSt :=
  let x := growR k (rowOf T0 (s.R.getD m 0)) s.l
  let T1 := addT s.T x 2
  if m + 1 < s.R.length then ⟨setB T1 (s.R.getD (m + 1) 0) (bits .andNot .u8 (bitsOf T1 (s.R.getD (m + 1) 0)) 2), s.R.eraseIdx (m + 1), (growL k s.l).2.2⟩ else ⟨T1, s.R, (growL k s.l).2.2⟩
def stG (k : R3) (T0 : TS) : Nat → GSt
  | 0 => ⟨T0, lst T0 k, 1073741824⟩
  | m + 1 => (stG k T0 m).step k T0 m

/-- the table that is gone through -/
structure G0 (k : R3) (T0 : TS) : Prop where
  nodup : (T0.map (·.1)).Nodup
  two : ∀ c, c < T0.length → bitsOf T0 c = 2
  small : ∀ c, c < T0.length → (rowOf T0 c).1 < 1073741824 ∧ (rowOf T0 c).2.1 < 1073741824 ∧ (rowOf T0 c).2.2 < 1073741824
  full : ∀ c, c < T0.length → has0 (rowOf T0 c) = false

structure GInv (k : R3) (T0 : TS) (m : Nat) (s : GSt) : Prop where
  R : s.R = ev ((lst T0 k).take (2 * m)) ++ (lst T0 k).drop (2 * m)
  row : ∀ c, c < T0.length → rowOf s.T c = rowOf T0 c
  bit : ∀ c, c < T0.length → bitsOf s.T c = if c ∈ od ((lst T0 k).take (2 * m)) then 0 else 2
  ge : T0.length ≤ s.T.length
  le : s.T.length ≤ T0.length + m
  l0 : 1073741824 ≤ s.l
  l1 : s.l ≤ 1073741824 + 3 * m
theorem lst_lt {T : TS} {k : R3} {c : Nat} (h : c ∈ lst T k) : c < T.length ∧ fits k (rowOf T c) = true := by
  rw [lst_eq] at h
  simpa using h
theorem lst_nodup (T : TS) (k : R3) : (lst T k).Nodup := (inc_lst k T).imp (fun h => Nat.ne_of_lt h)
theorem growR_full (k r : R3) (l : Int) (h0 : 0 < l + 1) (hr : has0 r = false) (hl : 0 ≤ l) : has0 (growR k r l) = false := by
  simp only [has0, has3, Bool.or_eq_false_iff, beq_eq_false_iff_ne] at hr ⊢
  simp only [growR, growL]
  by_cases h1 : k.1 = 0 <;> by_cases h2 : k.2.1 = 0 <;> by_cases h3 : k.2.2 = 0 <;> simp only [h1, h2, h3, if_true, if_false] <;> refine ⟨⟨?_, ?_⟩, ?_⟩ <;> first | omega | exact hr.1.1 | exact hr.1.2 | exact hr.2
theorem GInv.start (k : R3) (T0 : TS) (h : G0 k T0) : GInv k T0 0 (stG k T0 0) where
  R := by simp [stG, ev]
  row := fun _ _ => rfl
  bit := fun c hc => by simp [stG, od, h.two c hc]
  ge := Nat.le_refl _
  le := Nat.le_refl _
  l0 := Int.le_refl _
  l1 := by simp [stG]
/-- the parts of a list at 2 m -/
theorem GInv.parts {C : List Nat} {m : Nat} (hm : 2 * m < C.length) :
    (C.take (2 * m)).length = 2 * m ∧ C.drop (2 * m) = C[2 * m] :: C.drop (2 * m + 1) := ⟨by simp; omega, List.drop_eq_getElem_cons hm⟩
theorem GInv.get {k : R3} {T0 : TS} {m : Nat} {s : GSt} (h : GInv k T0 m s) (hm : 2 * m < (lst T0 k).length) : m < s.R.length ∧ s.R.getD m 0 = (lst T0 k)[2 * m] ∧
    (m + 1 < s.R.length ↔ 2 * m + 1 < (lst T0 k).length) ∧ ∀ h1 : 2 * m + 1 < (lst T0 k).length, s.R.getD (m + 1) 0 = (lst T0 k)[2 * m + 1] := by
  obtain ⟨h1, h2⟩ := GInv.parts hm
  have h3 := ev_len m _ h1
  rw [h.R]
  refine ⟨by rw [List.length_append, h3, List.length_drop]; omega, ?_, by rw [List.length_append, h3, List.length_drop]; omega, fun h4 => ?_⟩
  · rw [List.getD_eq_getElem?_getD, List.getElem?_append_right (by omega), h3, Nat.sub_self]; simp [List.getElem?_eq_getElem hm]
  · rw [List.getD_eq_getElem?_getD, List.getElem?_append_right (by omega), h3, show m + 1 - m = 1 by omega]; simp [List.getElem?_eq_getElem h4]
theorem GInv.next {k : R3} {T0 : TS} (h0 : G0 k T0) {m : Nat} {s : GSt} (h : GInv k T0 m s) (hm : 2 * m < (lst T0 k).length) : GInv k T0 (m + 1) (s.step k T0 m) := by
  obtain ⟨hR0, hR1, hR2, hR3⟩ := h.get hm
  obtain ⟨hp1, hp2⟩ := GInv.parts hm
  have hev := ev_len m _ hp1
  have hmem : (lst T0 k)[2 * m] ∈ lst T0 k := List.getElem_mem hm
  obtain ⟨hc1, hc2⟩ := lst_lt hmem
  have hl0 := h.l0
  obtain ⟨x, hx⟩ : ∃ x, growR k (rowOf T0 (s.R.getD m 0)) s.l = x := ⟨_, rfl⟩
  have hfx : has0 x = false := by rw [← hx, hR1]; exact growR_full _ _ _ (by omega) (h0.full _ hc1) (by omega)
  have hold : ∀ c, c < T0.length → rowOf (addT s.T x 2) c = rowOf s.T c ∧ bitsOf (addT s.T x 2) c = bitsOf s.T c := by
    intro c hc
    refine addT_old s.T x hfx c (Nat.lt_of_lt_of_le hc h.ge) (fun hcx => ?_)
    rw [h.row c hc] at hcx
    rw [h.bit c hc]
    by_cases hk : has0 k = true
    · exact absurd (hcx.trans hx.symm) (growR_new k _ _ _ hk h.l0 (h0.small c hc))
    · have hk' : has0 k = false := by simpa using hk
      have hm0 : m = 0 := by
        by_cases hm0 : m = 0
        · exact hm0
        · exfalso
          obtain ⟨a1, a2⟩ := lst_lt (List.getElem_mem (show 0 < (lst T0 k).length by omega))
          obtain ⟨b1, b2⟩ := lst_lt (List.getElem_mem (show 1 < (lst T0 k).length by omega))
          rw [fits_whole hk', beq_iff_eq] at a2 b2
          have h1 := (idx_iff h0.nodup k _).2 ⟨a1, a2⟩
          have h2 := (idx_iff h0.nodup k _).2 ⟨b1, b2⟩
          rw [h1] at h2
          injection h2 with h2
          have := (List.getElem_inj (lst_nodup T0 k)).1 h2
          omega
      subst hm0
      simp [od]
  have hbd := growL_b k s.l
  have hge := addT_ge s.T x 2
  have hle := addT_len s.T x 2
  have hl := h.le
  have hl1 := h.l1
  have hg := h.ge
  have htake : (lst T0 k).take (2 * (m + 1)) = (lst T0 k).take (2 * m) ++ ((lst T0 k).drop (2 * m)).take 2 := by rw [show 2 * (m + 1) = 2 * m + 2 by omega, List.take_add]
  obtain ⟨e1, e2⟩ := ev_app m _ (((lst T0 k).drop (2 * m)).take 2) hp1
  rw [← htake] at e1 e2
  unfold GSt.step
  rw [hx]
  by_cases hm1 : 2 * m + 1 < (lst T0 k).length
  · have hmem1 : (lst T0 k)[2 * m + 1] ∈ lst T0 k := List.getElem_mem hm1
    obtain ⟨hd1, hd2⟩ := lst_lt hmem1
    have hd : (lst T0 k).drop (2 * m) = (lst T0 k)[2 * m] :: (lst T0 k)[2 * m + 1] :: (lst T0 k).drop (2 * (m + 1)) := by
      rw [hp2, List.drop_eq_getElem_cons hm1]; rfl
    rw [hd] at e1 e2
    simp only [List.take_succ_cons, List.take_zero, ev, od] at e1 e2
    rw [if_pos (hR2.2 hm1), hR3 hm1]
    refine ⟨?_, ?_, ?_, ?_, ?_, ?_, ?_⟩
    · show s.R.eraseIdx (m + 1) = _
      rw [h.R, List.eraseIdx_append_of_length_le (by omega), hev, show m + 1 - m = 1 by omega, hd, e1]
      simp
    · intro c hc
      show rowOf (setB (addT s.T x 2) _ _) c = _
      rw [rowOf_set, (hold c hc).1, h.row c hc]
    · intro c hc
      show bitsOf (setB (addT s.T x 2) _ _) c = _
      rw [bitsOf_set _ _ _ _ (by omega), (hold c hc).2, (hold _ hd1).2, e2, h.bit c hc, h.bit _ hd1]
      by_cases hcd : c = (lst T0 k)[2 * m + 1]
      · rw [if_pos hcd, if_pos (show c ∈ od ((lst T0 k).take (2 * m)) ++ [(lst T0 k)[2 * m + 1]] by rw [hcd]; simp)]
        split <;> decide
      · rw [if_neg hcd]
        simp [hcd]
    · show T0.length ≤ (setB (addT s.T x 2) _ _).length
      rw [setB_length]; omega
    · show (setB (addT s.T x 2) _ _).length ≤ _
      rw [setB_length]; omega
    · show _ ≤ (growL k s.l).2.2
      omega
    · show (growL k s.l).2.2 ≤ _
      push_cast; omega
  · have hlast : (lst T0 k).length = 2 * m + 1 := by omega
    have hd : (lst T0 k).drop (2 * m) = [(lst T0 k)[2 * m]] := by
      rw [hp2, List.drop_eq_nil_of_le (by omega)]
    rw [hd] at e1 e2
    simp only [List.take_succ_cons, List.take_nil, ev, od, List.append_nil] at e1 e2
    rw [if_neg (by rw [hR2]; exact hm1)]
    refine ⟨?_, ?_, ?_, ?_, ?_, ?_, ?_⟩
    · show s.R = _
      rw [h.R, hd, e1, List.drop_eq_nil_of_le (by omega), List.append_nil]
    · intro c hc
      show rowOf (addT s.T x 2) c = _
      rw [(hold c hc).1, h.row c hc]
    · intro c hc
      show bitsOf (addT s.T x 2) c = _
      rw [(hold c hc).2, e2, h.bit c hc]
    · show T0.length ≤ (addT s.T x 2).length
      omega
    · show (addT s.T x 2).length ≤ _
      omega
    · show _ ≤ (growL k s.l).2.2
      omega
    · show (growL k s.l).2.2 ≤ _
      push_cast; omega
theorem stG_inv {k : R3} {T0 : TS} (h0 : G0 k T0) : ∀ m, 2 * m ≤ (lst T0 k).length + 1 → GInv k T0 m (stG k T0 m)
  | 0, _ => GInv.start k T0 h0
  | m + 1, h => (stG_inv h0 m (by omega)).next h0 (by omega)
theorem stG_ge (k : R3) (T0 : TS) : ∀ m, T0.length ≤ (stG k T0 m).T.length
  | 0 => Nat.le_refl _
  | m + 1 => by
    have := stG_ge k T0 m
    show _ ≤ (GSt.step k T0 m (stG k T0 m)).T.length
    unfold GSt.step
    have h2 := addT_ge (stG k T0 m).T (growR k (rowOf T0 ((stG k T0 m).R.getD m 0)) (stG k T0 m).l) 2
    simp only
    split
    · simp only [setB_length]; omega
    · simp only; omega
theorem candP_all (T : TS) (k : R3) : candP T k 0 T.length = lst T k := by
  rw [lst_eq]
  unfold candP
  apply List.filter_congr
  intro c hc
  have := List.mem_range.1 hc
  simp [this]
theorem run_ev {C : List Nat} (lv : List Nat → Nat → Bool) (ha : ∀ pre (h : 2 * pre.length < C.length), lv pre (C[2 * pre.length]'h) = true)
    (hb : ∀ (m : Nat) pre (hm : List.length pre = m + 1) (h : 2 * m + 1 < C.length), lv pre (C[2 * m + 1]'h) = false) : ∀ (n : Nat) (B pre : List Nat), B.length ≤ n → C.drop (2 * pre.length) = B → run lv B pre = pre ++ ev B
  | _, [], pre, _, _ => by simp [run, ev]
  | _, [a], pre, _, h => by
    have h1 : 2 * pre.length < C.length := by have := congrArg List.length h; simp at this; omega
    rw [List.drop_eq_getElem_cons h1] at h
    injection h with h2 h3
    have := ha pre h1
    rw [h2] at this
    simp [run, ev, this]
  | 0, a :: b :: B, pre, hn, _ => by simp at hn
  | n + 1, a :: b :: B, pre, hn, h => by
    have h1 : 2 * pre.length + 1 < C.length := by have := congrArg List.length h; simp at this; omega
    rw [List.drop_eq_getElem_cons (by omega), List.drop_eq_getElem_cons h1] at h
    injection h with h2 h3
    injection h3 with h3 h4
    have e1 := ha pre (by omega)
    rw [h2] at e1
    have e2 := hb pre.length (pre ++ [a]) (by simp) h1
    rw [h3] at e2
    rw [run, if_pos e1, run, if_neg (by rw [e2]; simp), run_ev lv ha hb n B (pre ++ [a]) (by simp at hn; omega) (by rw [List.length_append, List.length_singleton, ← h4]; rfl)]
    simp [ev]
theorem run_grows {k : R3} {T0 : TS} (h0 : G0 k T0) : ev (lst T0 k) = run (fun pre c => liveB (stG k T0 pre.length).T 2 c) (candP T0 k 0 T0.length) [] := by
  rw [candP_all, run_ev (C := lst T0 k) _ ?_ ?_ _ (lst T0 k) [] (Nat.le_refl _) (by simp), List.nil_append]
  · intro pre h
    have hi := stG_inv h0 pre.length (by omega)
    obtain ⟨h1, h2⟩ := lst_lt (List.getElem_mem h)
    unfold liveB
    rw [hi.bit _ h1, if_neg ?_]
    · decide
    · intro hm
      have hm := od_mem _ _ hm
      obtain ⟨i, hi1, hi2⟩ := List.getElem_of_mem hm
      rw [List.getElem_take] at hi2
      have := (List.getElem_inj (lst_nodup T0 k)).1 hi2
      simp at hi1
      omega
  · intro m pre hm h
    have hi := stG_inv h0 (m + 1) (by omega)
    obtain ⟨h1, h2⟩ := lst_lt (List.getElem_mem h)
    unfold liveB
    rw [hm, hi.bit _ h1, if_pos ?_]
    · decide
    · obtain ⟨hp1, hp2⟩ := GInv.parts (C := lst T0 k) (m := m) (by omega)
      obtain ⟨_, e2⟩ := ev_app m _ (((lst T0 k).drop (2 * m)).take 2) hp1
      rw [show 2 * (m + 1) = 2 * m + 2 by omega, List.take_add, e2, hp2, List.drop_eq_getElem_cons h]
      exact List.mem_append_right _ (List.mem_singleton.2 rfl)
theorem ev_at {C pre : List Nat} {x : Nat} (h : pre ++ [x] <+: ev C) : ∃ h1 : 2 * pre.length < C.length, C[2 * pre.length] = x := by
  obtain ⟨t, ht⟩ := h
  have h1 : (ev C)[pre.length]? = some x := by rw [← ht]; simp
  rw [ev_get] at h1
  obtain ⟨h2, h3⟩ := List.getElem?_eq_some_iff.1 h1
  exact ⟨h2, h3⟩
theorem g_turn {k : R3} {T0 : TS} (h0 : G0 k T0) {pre : List Nat} {x : Nat} (hp : pre ++ [x] <+: ev (lst T0 k)) :
    x < T0.length ∧ GInv k T0 pre.length (stG k T0 pre.length) ∧ (stG k T0 pre.length).R[pre.length]? = some x ∧ (∀ d, (stG k T0 pre.length).R[pre.length + 1]? = some d → d < T0.length) ∧ pre.length ≤ T0.length ∧ (stG k T0 pre.length).R.length ≤ T0.length := by
  obtain ⟨h1, h2⟩ := ev_at hp
  have hi := stG_inv h0 pre.length (by omega)
  obtain ⟨hr1, hr2, hr3, hr4⟩ := hi.get h1
  have hl := lst_len T0 k
  have hlen : (stG k T0 pre.length).R.length ≤ T0.length := by
    rw [hi.R, List.length_append, ev_len pre.length _ (GInv.parts h1).1, List.length_drop]; omega
  refine ⟨by rw [← h2]; exact (lst_lt (List.getElem_mem h1)).1, hi, ?_, fun d hd => ?_, by omega, hlen⟩
  · rw [List.getD_eq_getElem?_getD, List.getElem?_eq_getElem hr1] at hr2
    rw [List.getElem?_eq_getElem hr1]
    simp only [Option.getD_some] at hr2
    rw [hr2, h2]
  · obtain ⟨hd1, hd2⟩ := List.getElem?_eq_some_iff.1 hd
    have h3 := hr3.1 hd1
    have h4 := hr4 h3
    rw [List.getD_eq_getElem?_getD, hd, Option.getD_some] at h4
    rw [h4]
    exact (lst_lt (List.getElem_mem h3)).1
theorem ev_ge : ∀ (A : List Nat), A.length ≤ 2 * (ev A).length
  | [] => by simp
  | [_] => by simp [ev]
  | a :: b :: A => by have := ev_ge A; simp only [ev, List.length_cons]; omega
theorem g_done {k : R3} {T0 : TS} (h0 : G0 k T0) : (stG k T0 (ev (lst T0 k)).length).R.length = (ev (lst T0 k)).length ∧ (ev (lst T0 k)).length ≤ T0.length := by
  have h1 := ev_le (lst T0 k)
  have h2 := ev_ge (lst T0 k)
  have h3 := lst_len T0 k
  have hi := stG_inv h0 _ h1
  refine ⟨?_, by omega⟩
  rw [hi.R, List.take_of_length_le h2, List.drop_eq_nil_of_le h2, List.append_nil]
end Go.Proofs.Ytellmhllgmimiaa
