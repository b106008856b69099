/- Which rows a look goes over, plainly; Match's iterator, whatever the look. -/
import Derived.Test.YtellmhllgmimiaaT16
namespace Go.Proofs.Ytellmhllgmimiaa
open Go.RowKit Go.Maps
set_option linter.unusedVariables false
set_option linter.unusedSimpArgs false

theorem snoc_ind {α : Type} {P : List α → Prop} (h0 : P []) (hs : ∀ l a, P l → P (l ++ [a])) (l : List α) : P l := by
  rw [← l.reverse_reverse]
  induction l.reverse with
  | nil => exact h0
  | cons a t ih => rw [List.reverse_cons]; exact hs _ _ ih
theorem inc_ext : ∀ {l1 l2 : List Nat}, l1.Pairwise (· < ·) → l2.Pairwise (· < ·) → (∀ x, x ∈ l1 ↔ x ∈ l2) → l1 = l2
  | [], [], _, _, _ => rfl
  | [], b :: t, _, _, h => absurd ((h b).2 (by simp)) (by simp)
  | a :: s, [], _, _, h => absurd ((h a).1 (by simp)) (by simp)
  | a :: s, b :: t, h1, h2, h => by
    obtain ⟨a1, a2⟩ := List.pairwise_cons.1 h1
    obtain ⟨b1, b2⟩ := List.pairwise_cons.1 h2
    have hab : a = b := by
      have ha := (h a).1 (by simp)
      have hb := (h b).2 (by simp)
      simp only [List.mem_cons] at ha hb
      rcases ha with ha | ha
      · exact ha
      · rcases hb with hb | hb
        · exact hb.symm
        · have := a1 _ hb; have := b1 _ ha; omega
    subst hab
    rw [inc_ext a2 b2 (fun x => ?_)]
    have hx := h x
    simp only [List.mem_cons] at hx
    constructor
    · intro hs
      have := a1 _ hs
      rcases hx.1 (.inr hs) with e | e
      · omega
      · exact e
    · intro hs
      have := b1 _ hs
      rcases hx.2 (.inr hs) with e | e
      · omega
      · exact e
theorem inc_range (n : Nat) : (List.range n).Pairwise (· < ·) := List.pairwise_lt_range
theorem grows_of_inc {xs : List Nat} (h : xs.Pairwise (· < ·)) : Grows xs := fun i j hi hj hij => List.pairwise_iff_getElem.1 h i j hi hj hij

theorem rowOf_snoc (T : TS) (y : R3 × Int) (c : Nat) (h : c < T.length) : rowOf (T ++ [y]) c = rowOf T c := by
  simp [rowOf, List.getElem?_append_left h]
theorem rowOf_last (T : TS) (y : R3 × Int) : rowOf (T ++ [y]) T.length = y.1 := by simp [rowOf]
/-- the rows that a look fits -/
theorem lst_eq (x : R3) (T : TS) : lst T x = (List.range T.length).filter (fun c => fits x (rowOf T c)) := by
  refine snoc_ind (P := fun T => lst T x = (List.range T.length).filter (fun c => fits x (rowOf T c))) rfl (fun T y ih => ?_) T
  rw [lst_snoc, ih, List.length_append, List.length_singleton, List.range_succ, List.filter_append]
  congr 1
  · apply List.filter_congr
    intro c hc
    rw [rowOf_snoc T y c (List.mem_range.1 hc)]
  · simp only [List.filter_cons, List.filter_nil, rowOf_last]
theorem inc_lst (x : R3) (T : TS) : (lst T x).Pairwise (· < ·) := by
  rw [lst_eq]; exact (inc_range _).filter _
/-- the numbers that a look goes over -/
def candP (T : TS) (r : R3) (fr tu : Int) : List Nat := (List.range T.length).filter (fun c => decide (fr ≤ (c : Int)) && decide ((c : Int) < tu) && fits r (rowOf T c))
theorem lo_le (fr : Int) (c : Nat) : loOf fr ≤ (c : Int) ↔ fr ≤ (c : Int) := by unfold loOf; split <;> omega
theorem hi_lt (T : TS) (tu : Int) (c : Nat) : (c : Int) < hiOf T tu ↔ (c < T.length ∧ (c : Int) < tu) := by unfold hiOf; split <;> omega
theorem fits_whole {r s : R3} (h : has0 r = false) : fits r s = (s == r) := by
  obtain ⟨a, b, c⟩ := r
  obtain ⟨x, y, z⟩ := s
  simp only [has0, has3, Bool.or_eq_false_iff, beq_eq_false_iff_ne] at h
  have h0 : (a == 0) = false := by simpa using Ne.symm h.1.1
  have h1 : (b == 0) = false := by simpa using Ne.symm h.1.2
  have h2 : (c == 0) = false := by simpa using Ne.symm h.2
  simp only [fits, h0, h1, h2, Bool.false_or]
  rw [Bool.eq_iff_iff]
  simp only [Bool.and_eq_true, beq_iff_eq, Prod.mk.injEq]
  constructor
  · rintro ⟨⟨rfl, rfl⟩, rfl⟩; exact ⟨rfl, rfl, rfl⟩
  · rintro ⟨rfl, rfl, rfl⟩; exact ⟨⟨rfl, rfl⟩, rfl⟩
theorem rowOf_get (T : TS) (c : Nat) (h : c < T.length) : rowOf T c = T[c].1 := by simp [rowOf, h]
/-- rows are there once -/
theorem idx_iff {T : TS} (hn : (T.map (·.1)).Nodup) (r : R3) (c : Nat) : idx T r = some c ↔ c < T.length ∧ rowOf T c = r := by
  constructor
  · intro h
    obtain ⟨h1, h2⟩ := idx_lt h
    exact ⟨h1, by rw [rowOf_get T c h1]; exact h2⟩
  · rintro ⟨h1, h2⟩
    rw [rowOf_get T c h1] at h2
    cases hi : idx T r with
    | none => exact absurd h2 (idx_none hi _ (List.getElem_mem h1))
    | some d =>
      obtain ⟨d1, d2⟩ := idx_lt hi
      have : (T.map (·.1))[c]'(by simpa using h1) = (T.map (·.1))[d]'(by simpa using d1) := by simp [h2, d2]
      rw [(List.getElem_inj hn).1 this]
theorem mem_lstOf {T : TS} (hn : (T.map (·.1)).Nodup) (r : R3) (c : Nat) : c ∈ lstOf T r ↔ c < T.length ∧ fits r (rowOf T c) = true := by
  unfold lstOf
  by_cases h : has0 r = true
  · rw [if_pos h, lst_eq]; simp
  · rw [if_neg h]
    have h' : has0 r = false := by simpa using h
    rw [fits_whole h', beq_iff_eq, ← idx_iff hn]
    cases idx T r <;> simp [eq_comm]
theorem inc_lstOf (T : TS) (r : R3) : (lstOf T r).Pairwise (· < ·) := by
  unfold lstOf
  split
  · exact inc_lst r T
  · split <;> simp
theorem cand_eq {T : TS} (hn : (T.map (·.1)).Nodup) (r : R3) (fr tu : Int) : cand T r fr tu = candP T r fr tu := by
  unfold cand candP
  by_cases h : look0 r = true
  · rw [if_pos h]
    obtain ⟨a, b, c⟩ := r
    simp only [look0, Bool.and_eq_true, beq_iff_eq] at h
    obtain ⟨rfl, rfl, rfl⟩ := h
    refine inc_ext List.pairwise_lt_range' ((inc_range _).filter _) (fun x => ?_)
    have h1 := lo_le fr x
    have h2 := hi_lt T tu x
    have h3 : 0 ≤ loOf fr := by unfold loOf; split <;> omega
    simp only [List.mem_range'_1, List.mem_filter, List.mem_range, Bool.and_eq_true, decide_eq_true_eq, fits]
    simp only [beq_self_eq_true, Bool.true_or, Bool.and_true, and_true]
    omega
  · rw [if_neg h]
    refine inc_ext ((inc_lstOf T r).filter _) ((inc_range _).filter _) (fun x => ?_)
    have h1 := lo_le fr x
    have h2 := hi_lt T tu x
    simp only [List.mem_filter, List.mem_range, Bool.and_eq_true, decide_eq_true_eq, mem_lstOf hn, h1, h2]
    constructor
    · rintro ⟨⟨a, b⟩, c, d, e⟩; exact ⟨a, ⟨c, e⟩, b⟩
    · rintro ⟨a, ⟨c, e⟩, b⟩; exact ⟨⟨a, b⟩, c, a, e⟩
theorem run_static (lv : Nat → Bool) : ∀ (C pre : List Nat), run (fun _ c => lv c) C pre = pre ++ C.filter lv
  | [], pre => by simp [run]
  | c :: C, pre => by
    unfold run
    rw [run_static lv C]
    by_cases h : lv c = true
    · simp [h, List.filter_cons]
    · simp [h, List.filter_cons]
/-- what a look tells -/
def mlist (T : TS) (r : R3) (fr tu b : Int) : List Nat := (candP T r fr tu).filter (liveB T b)

theorem match1_any (n l B tb : Nat) (r : R3) (hr : rok r) (fr tu b : Int) (T : TS) (D0 : TabD) (Tof : List Nat → TS) (J Jx : List Nat → World → Prop) (ys : List Nat)
    (hys : ys = run (fun pre c => liveB (Tof pre) b c) (candP T r fr tu) [])
    (hJ : ∀ pre W W', J pre W → Below W.heap.size W W' → J pre W')
    (hB : ∀ pre W, J pre W → MBox W B tb r fr tu b)
    (hT : ∀ pre W, J pre W → ∃ Z D, IsT Z W tb (Tof pre) D) (hP : ∀ pre, T.length ≤ (Tof pre).length)
    (hY : ∀ pre x W, J pre W → pre ++ [x] <+: ys → YieldAt Fence.wide (n - 1) Try.prog l #[.int .i64 (x : Nat), rv (rowOf (Tof pre) x)] W fun e W' =>
      (e = .returned (.bool true) ∧ J (pre ++ [x]) W') ∨ (e = .returned (.bool false) ∧ Jx (pre ++ [x]) W'))
    (W : World) {Z0 : Zone} (h0 : IsT Z0 W tb T D0) (hI : J [] W)
    (hL : ∀ v g, look2 r = true → D0.mb r = some v → v.ownBlock = some g → ∀ pre W, J pre W → ∀ j (h : j < (lst T r).length), W.cell? ⟨g, j, none⟩ = some (.int .i64 ((lst T r)[j] : Nat))) :
    CallsIn Fence.wide n Try.prog 24 #[.func (.yield l) #[] #[], .pointer (some ⟨B, 0, none⟩), .pointer (some ⟨B + 2, 0, none⟩), .pointer (some ⟨B + 3, 0, none⟩), .pointer (some ⟨B + 1, 0, none⟩), .pointer (some ⟨B + 4, 0, none⟩)] W fun e W' =>
      (∃ v, e = .returned v) ∧ (J ys W' ∨ ∃ pre, pre <+: ys ∧ Jx pre W') := by
  have hlong := h0.long
  rw [← cand_eq h0.nodup] at hys
  by_cases h1 : look0 r = true
  · obtain ⟨a, b', c⟩ := r
    simp only [look0, Bool.and_eq_true, beq_iff_eq] at h1
    obtain ⟨rfl, rfl, rfl⟩ := h1
    exact match1_all n l B tb fr tu b T D0 Tof J Jx ys hys hJ hB hT hP hY W h0 hI
  · rw [cand, if_neg h1] at hys
    refine match1_lst n l B tb r fr tu b T D0 Tof J Jx ys (lstOf T r) hys (grows_of_inc (inc_lstOf T r)) ?_ hJ hB hT hP hY W h0 hI ?_
    · unfold lstOf
      split
      · have := lst_len T r; omega
      · split <;> simp
    · intro W1 hW1
      obtain ⟨x0, x1, x2⟩ := r
      by_cases h2 : has0 (x0, x1, x2) = true
      · have hl2 : look2 (x0, x1, x2) = true := by
          simp only [has0, has3, Bool.or_eq_true, beq_iff_eq] at h2
          simp only [look0, Bool.and_eq_true, beq_iff_eq, not_and] at h1
          simp only [look2, Bool.and_eq_true, Bool.or_eq_true, beq_iff_eq, bne_iff_ne, ne_eq]
          omega
        rw [lstOf, if_pos h2]
        refine (list_some (h0.below hW1) x0 x1 x2 hr hl2).mono ?_
        rintro e W2 ⟨rfl, hB2⟩
        refine ⟨hB2, ?_⟩
        cases hm : D0.mb (x0, x1, x2) with
        | none => exact .inl ⟨h0.byOk.non _ hr hl2 hm, rfl⟩
        | some v =>
          obtain ⟨hne, hsl⟩ := h0.byOk.has _ v hr hm
          rcases hsl.form with ⟨_, hz⟩ | ⟨g, cap, hv, _⟩
          · exact absurd (List.eq_nil_of_length_eq_zero hz) hne
          · subst hv
            have hc := hL _ g hl2 hm rfl
            exact .inr ⟨g, cap, rfl, fun j h => hc [] W2 (hJ _ _ _ (hJ _ _ _ hI hW1) hB2) j h, fun pre W hW j h _ => hc pre W hW j h⟩
      · have h2' : has0 (x0, x1, x2) = false := by simpa using h2
        rw [lstOf, if_neg h2]
        refine (list_one (h0.below hW1) x0 x1 x2 hr h2').mono ?_
        rintro e W2 ⟨hB2, (⟨hi, rfl⟩ | ⟨n', g, hi, rfl, hc⟩)⟩
        · rw [hi]; exact ⟨hB2, .inl ⟨rfl, rfl⟩⟩
        · rw [hi]
          refine ⟨hB2, .inr ⟨g, 1, rfl, fun j h => ?_, fun pre W hW j h h1 => ?_⟩⟩
          · have : j = 0 := by simp at h; omega
            subst this; exact hc
          · simp at h; omega
end Go.Proofs.Ytellmhllgmimiaa
