/- Texts that are well made are the bytes of their runes; joined, cut, in order: plain Lean. -/
import Derived.Test.YthgocbehdomekaaA12
namespace Go.Proofs.Ythgocbehdomekaa
open Plain Go.RowKit
set_option linter.unusedVariables false

theorem allMay_cons (r : Int) (rs : List Int) : allMay (r :: rs) = true ↔ mayB r = true ∧ allMay rs = true := by simp [allMay]
theorem bytesOf_cons (r : Int) (rs : List Int) : bytesOf (r :: rs) = putL r ++ bytesOf rs := by simp [bytesOf]
theorem bytesOf_append (a b : List Int) : bytesOf (a ++ b) = bytesOf a ++ bytesOf b := by simp [bytesOf]
theorem allMay_append (a b : List Int) : allMay (a ++ b) = (allMay a && allMay b) := by simp [allMay]

/-- the places of runes from p on -/
def places (p : Nat) : List Int → List (Nat × Int)
  | [] => []
  | r :: rs => (p, r) :: places (p + (putL r).length) rs
theorem places_length (rs : List Int) : ∀ p, (places p rs).length = rs.length := by
  induction rs with
  | nil => intro p; rfl
  | cons r rs ih => intro p; simp [places, ih]
theorem places_vals (rs : List Int) : ∀ p, rvals (places p rs) = rs := by
  induction rs with
  | nil => intro p; rfl
  | cons r rs ih => intro p; have := ih (p + (putL r).length); simp [places, rvals] at this ⊢; exact this

/-- (A) over known runes -/
theorem rl_known (rs : List Int) : ∀ (pre suf : List Int), allMay rs = true →
    rl (pre ++ (bytesOf rs ++ suf)) pre.length = places pre.length rs ++ rl (pre ++ (bytesOf rs ++ suf)) (pre.length + (bytesOf rs).length) ∧
    endP (pre ++ (bytesOf rs ++ suf)) pre.length = endP (pre ++ (bytesOf rs ++ suf)) (pre.length + (bytesOf rs).length) := by
  induction rs with
  | nil => intro pre suf _; simp [places, bytesOf]
  | cons r rs ih =>
    intro pre suf h
    obtain ⟨h1, h2⟩ := (allMay_cons r rs).1 h
    have hp := putL_len4 r
    have e : pre ++ (bytesOf (r :: rs) ++ suf) = pre ++ (putL r ++ (bytesOf rs ++ suf)) := by rw [bytesOf_cons, List.append_assoc]
    have hd : (pre ++ (putL r ++ (bytesOf rs ++ suf))).drop pre.length = putL r ++ (bytesOf rs ++ suf) := by simp
    have hg : getL ((pre ++ (putL r ++ (bytesOf rs ++ suf))).drop pre.length) = (r, ((putL r).length : Int)) := by rw [hd]; exact getL_putL h1 _
    have hgo := rl_go (l := pre ++ (putL r ++ (bytesOf rs ++ suf))) (p := pre.length) (by simp; omega) (by rw [hg]; simp; omega)
    rw [hg] at hgo
    simp only [Int.toNat_natCast] at hgo
    have hi := ih (pre ++ putL r) suf h2
    rw [List.append_assoc, List.length_append] at hi
    rw [e, hgo.1, hgo.2, hi.1, hi.2, bytesOf_cons, List.length_append]
    constructor
    · rw [places, Nat.add_assoc]; rfl
    · rw [Nat.add_assoc]

/-- (B) behind a text -/
theorem rl_shift (s t : List Int) (p : Nat) : (rl (s ++ t) (s.length + p)).length = (rl t p).length ∧ endP (s ++ t) (s.length + p) = s.length + endP t p := by
  refine rl_ind t (fun p => (rl (s ++ t) (s.length + p)).length = (rl t p).length ∧ endP (s ++ t) (s.length + p) = s.length + endP t p) (fun p h => ?_) (fun p h1 h2 ih => ?_) p
  all_goals have hd : (s ++ t).drop (s.length + p) = t.drop p := by rw [List.drop_append]; simp
  · have h' : ¬ (s.length + p < (s ++ t).length ∧ 0 < (getL ((s ++ t).drop (s.length + p))).2.toNat) := by
      rw [hd, List.length_append]; intro hh; exact h ⟨by omega, hh.2⟩
    rw [(rl_stop h).1, (rl_stop h).2, (rl_stop h').1, (rl_stop h').2]; exact ⟨rfl, rfl⟩
  · have hgo := rl_go (l := s ++ t) (p := s.length + p) (by rw [List.length_append]; omega) (by rw [hd]; exact h2)
    rw [hd] at hgo
    rw [hgo.1, hgo.2, (rl_go h1 h2).1, (rl_go h1 h2).2]
    rw [Nat.add_assoc]
    exact ⟨by simp [ih.1], ih.2⟩

/-- is it well made? -/
def okL (l : List Int) : Prop := endP l 0 = l.length
theorem okL_bytes {rs : List Int} (h : allMay rs = true) : rl (bytesOf rs) 0 = places 0 rs ∧ okL (bytesOf rs) := by
  have := rl_known rs [] [] h
  simp only [List.nil_append, List.append_nil, List.length_nil, Nat.zero_add] at this
  have hs := rl_stop (l := bytesOf rs) (p := (bytesOf rs).length) (by omega)
  rw [hs.1, hs.2, List.append_nil] at this
  exact this
theorem okL_from {l : List Int} (hl : ∀ c ∈ l, isB c) (p : Nat) : endP l p = l.length → p ≤ l.length → l.drop p = bytesOf (rvals (rl l p)) ∧ allMay (rvals (rl l p)) = true := by
  refine rl_ind l (fun p => endP l p = l.length → p ≤ l.length → l.drop p = bytesOf (rvals (rl l p)) ∧ allMay (rvals (rl l p)) = true) (fun p h he hp => ?_) (fun p h1 h2 ih he hp => ?_) p
  · rw [(rl_stop h).2] at he
    rw [(rl_stop h).1, he]
    simp [rvals, bytesOf, allMay]
  · rw [(rl_go h1 h2).2] at he
    have hz := getL_size hl p h2
    obtain ⟨i1, i2⟩ := ih he hz.2
    obtain ⟨g1, g2, t, g3⟩ := getL_some (drop_isB hl p) (r := (getL (l.drop p)).1) (n := (getL (l.drop p)).2) rfl (by omega)
    rw [(rl_go h1 h2).1]
    have e : rvals ((p, (getL (l.drop p)).1) :: rl l (p + (getL (l.drop p)).2.toNat)) = (getL (l.drop p)).1 :: rvals (rl l (p + (getL (l.drop p)).2.toNat)) := rfl
    rw [e, bytesOf_cons, ← i1, allMay_cons]
    refine ⟨?_, g1, i2⟩
    have ht : t = l.drop (p + (getL (l.drop p)).2.toNat) := by
      rw [← List.drop_drop, show (getL (l.drop p)).2.toNat = (putL (getL (l.drop p)).1).length by omega]
      have := congrArg (List.drop (putL (getL (l.drop p)).1).length) g3
      rw [List.drop_left] at this
      exact this.symm
    rw [← ht]; exact g3
theorem okL_iff {l : List Int} (hl : ∀ c ∈ l, isB c) (h : okL l) : l = bytesOf (rvals (rl l 0)) ∧ allMay (rvals (rl l 0)) = true := by
  have := okL_from hl 0 h (by omega)
  rwa [List.drop_zero] at this

/-- (J1), (J2) -/
theorem join_ok {s t : List Int} (hs : ∀ c ∈ s, isB c) (h : okL s) : (okL (s ++ t) ↔ okL t) ∧ (rl (s ++ t) 0).length = (rl s 0).length + (rl t 0).length := by
  obtain ⟨h1, h2⟩ := okL_iff hs h
  obtain ⟨rs, hrs⟩ : ∃ rs, rvals (rl s 0) = rs := ⟨_, rfl⟩
  have hlen : rs.length = (rl s 0).length := by rw [← hrs]; simp [rvals]
  rw [hrs] at h1 h2
  have hk := rl_known rs [] t h2
  simp only [List.nil_append, List.length_nil, Nat.zero_add] at hk
  rw [← h1] at hk
  have hsh := rl_shift s t 0
  rw [Nat.add_zero] at hsh
  unfold okL
  rw [hk.1, hk.2, hsh.2, List.length_append, List.length_append, places_length, hsh.1, hlen]
  exact ⟨by omega, rfl⟩

theorem getL_cont {c : Int} (t : List Int) (h : cont c) : getL (c :: t) = (0, 0) := by
  unfold cont at h
  simp only [getL]
  rw [if_neg (by omega), if_neg (by omega), if_neg (by omega), if_neg (by omega)]
theorem putL_tail {r : Int} (h : mayB r = true) (j : Nat) (h1 : 0 < j) (h2 : j < (putL r).length) : ∃ c t, (putL r).drop j = c :: t ∧ cont c := by
  rw [may_iff] at h
  unfold putL at h2 ⊢
  unfold cont
  by_cases c1 : r ≤ 127
  · rw [if_pos c1] at h2; simp at h2; omega
  rw [if_neg c1] at h2 ⊢
  by_cases c2 : r ≤ 2047
  · rw [if_pos c2] at h2 ⊢
    simp at h2
    obtain rfl : j = 1 := by omega
    exact ⟨_, _, rfl, by omega⟩
  rw [if_neg c2] at h2 ⊢
  by_cases c3 : r ≤ 65535
  · rw [if_pos c3] at h2 ⊢
    simp at h2
    rcases (show j = 1 ∨ j = 2 by omega) with rfl | rfl
    · exact ⟨_, _, rfl, by omega⟩
    · exact ⟨_, _, rfl, by omega⟩
  rw [if_neg c3] at h2 ⊢
  simp at h2
  rcases (show j = 1 ∨ j = 2 ∨ j = 3 by omega) with rfl | rfl | rfl
  · exact ⟨_, _, rfl, by omega⟩
  · exact ⟨_, _, rfl, by omega⟩
  · exact ⟨_, _, rfl, by omega⟩
theorem take_bad {r : Int} (h : mayB r = true) (j : Nat) (h1 : 0 < j) (h2 : j < (putL r).length) : ¬ okL ((putL r).take j) := by
  intro hok
  have hB : ∀ c ∈ (putL r).take j, isB c := fun c hc => putL_isB h c (List.mem_of_mem_take hc)
  obtain ⟨g1, g2⟩ := okL_iff hB hok
  cases hr : rvals (rl ((putL r).take j) 0) with
  | nil =>
    rw [hr] at g1
    have := congrArg List.length g1
    rw [List.length_take] at this
    have e0 : (bytesOf ([] : List Int)).length = 0 := rfl
    omega
  | cons u us =>
    rw [hr, bytesOf_cons] at g1
    rw [hr, allMay_cons] at g2
    have e1 : putL r = putL u ++ (bytesOf us ++ (putL r).drop j) := by
      rw [← List.append_assoc, ← g1, List.take_append_drop]
    have p1 := getL_putL h []
    have p2 := getL_putL g2.1 (bytesOf us ++ (putL r).drop j)
    rw [List.append_nil] at p1
    rw [← e1, p1] at p2
    have e2 := (Prod.mk.inj p2).2
    have e3 := congrArg List.length g1
    rw [List.length_take, List.length_append] at e3
    omega
theorem okL_nil_ne {c : Int} {t : List Int} (h : cont c) : ¬ okL (c :: t) := by
  intro hok
  unfold okL at hok
  have := rl_stop (l := c :: t) (p := 0) (by rw [List.drop_zero, getL_cont t h]; simp)
  rw [this.2] at hok
  simp at hok

/-- where a text may be cut -/
theorem places_mem (rs : List Int) : ∀ p q, (∃ x ∈ places p rs, x.1 = q) ↔ ∃ k, k < rs.length ∧ q = p + (bytesOf (rs.take k)).length := by
  induction rs with
  | nil => intro p q; simp [places]
  | cons r rs ih =>
    intro p q
    simp only [places, List.mem_cons, exists_eq_or_imp, ih]
    constructor
    · rintro (rfl | ⟨k, hk, rfl⟩)
      · exact ⟨0, by simp, by simp [bytesOf]⟩
      · exact ⟨k + 1, by simp; omega, by rw [List.take_succ_cons, bytesOf_cons, List.length_append]; omega⟩
    · rintro ⟨k, hk, rfl⟩
      cases k with
      | zero => left; simp [bytesOf]
      | succ k => right; exact ⟨k, by simpa using hk, by rw [List.take_succ_cons, bytesOf_cons, List.length_append]; omega⟩
/-- any place of known bytes lies at a rune's begin, or within one -/
theorem cut_where (rs : List Int) (q : Nat) (hq : q < (bytesOf rs).length) : ∃ k j, k < rs.length ∧ q = (bytesOf (rs.take k)).length + j ∧ ∀ (hk : k < rs.length), j < (putL rs[k]).length := by
  induction rs generalizing q with
  | nil => simp [bytesOf] at hq
  | cons r rs ih =>
    rw [bytesOf_cons, List.length_append] at hq
    by_cases h : q < (putL r).length
    · exact ⟨0, q, by simp, by simp [bytesOf], fun _ => by simpa using h⟩
    · obtain ⟨k, j, h1, h2, h3⟩ := ih (q - (putL r).length) (by omega)
      exact ⟨k + 1, j, by simp; omega, by rw [List.take_succ_cons, bytesOf_cons, List.length_append]; omega, fun hk => by simpa using h3 h1⟩

theorem bytes_mono (rs : List Int) (a b : Nat) (h : a ≤ b) : (bytesOf (rs.take a)).length ≤ (bytesOf (rs.take b)).length := by
  have e : rs.take b = rs.take a ++ (rs.take b).drop a := by
    have := List.take_append_drop a (rs.take b)
    rw [List.take_take, Nat.min_eq_left h] at this
    exact this.symm
  rw [e, bytesOf_append, List.length_append]; omega
/-- (J3) -/
theorem cut_ok {s : List Int} (hs : ∀ c ∈ s, isB c) (h : okL s) (q : Nat) (hq : q ≤ s.length) :
    (okL (s.take q) ↔ (q = s.length ∨ ∃ x ∈ rl s 0, x.1 = q)) ∧ (okL (s.drop q) ↔ (q = s.length ∨ ∃ x ∈ rl s 0, x.1 = q)) := by
  obtain ⟨h1, h2⟩ := okL_iff hs h
  obtain ⟨rs, hrs⟩ : ∃ rs, rvals (rl s 0) = rs := ⟨_, rfl⟩
  rw [hrs] at h1 h2
  subst h1
  have hpl := (okL_bytes h2).1
  rw [hpl, places_mem]
  simp only [Nat.zero_add]
  by_cases hql : q = (bytesOf rs).length
  · subst hql
    refine ⟨⟨fun _ => .inl rfl, fun _ => ?_⟩, ⟨fun _ => .inl rfl, fun _ => ?_⟩⟩
    · rw [List.take_length]; exact (okL_bytes h2).2
    · rw [List.drop_length]; unfold okL; rw [(rl_stop (by simp)).2]; rfl
  · obtain ⟨k, j, hk, rfl, hj⟩ := cut_where rs q (by omega)
    have hj := hj hk
    obtain ⟨r, hr⟩ : ∃ r, rs[k] = r := ⟨_, rfl⟩
    rw [hr] at hj
    have hsplit : rs = rs.take k ++ (r :: rs.drop (k + 1)) := by rw [← hr, List.getElem_cons_drop, List.take_append_drop]
    have hb : bytesOf rs = bytesOf (rs.take k) ++ (putL r ++ bytesOf (rs.drop (k + 1))) := by
      conv => lhs; rw [hsplit]
      rw [bytesOf_append, bytesOf_cons]
    have hm : allMay (rs.take k) = true ∧ mayB r = true ∧ allMay (rs.drop (k + 1)) = true := by
      rw [hsplit, allMay_append, Bool.and_eq_true, allMay_cons] at h2; exact h2
    have htake : (bytesOf rs).take ((bytesOf (rs.take k)).length + j) = bytesOf (rs.take k) ++ (putL r).take j := by
      rw [hb, List.take_append, List.take_of_length_le (by omega)]
      congr 1
      rw [show (bytesOf (rs.take k)).length + j - (bytesOf (rs.take k)).length = j by omega, List.take_append, show j - (putL r).length = 0 by omega]
      simp
    have hdrop : (bytesOf rs).drop ((bytesOf (rs.take k)).length + j) = (putL r).drop j ++ bytesOf (rs.drop (k + 1)) := by
      rw [hb, List.drop_append, List.drop_of_length_le (by omega)]
      rw [show (bytesOf (rs.take k)).length + j - (bytesOf (rs.take k)).length = j by omega, List.drop_append, show j - (putL r).length = 0 by omega]
      simp
    have hBt : ∀ c ∈ bytesOf (rs.take k), isB c := bytesOf_isB hm.1
    rw [htake, hdrop, (join_ok hBt (okL_bytes hm.1).2).1]
    by_cases hj0 : j = 0
    · subst hj0
      have hbeg : ((bytesOf (rs.take k)).length + 0 = (bytesOf rs).length ∨ ∃ k', k' < rs.length ∧ (bytesOf (rs.take k)).length + 0 = (bytesOf (rs.take k')).length) := .inr ⟨k, hk, rfl⟩
      refine ⟨⟨fun _ => hbeg, fun _ => ?_⟩, ⟨fun _ => hbeg, fun _ => ?_⟩⟩
      · rw [List.take_zero]; unfold okL; rw [(rl_stop (by simp)).2]; rfl
      · rw [List.drop_zero, ← bytesOf_cons]; exact (okL_bytes ((allMay_cons _ _).2 hm.2)).2
    · have hnb : ¬ ((bytesOf (rs.take k)).length + j = (bytesOf rs).length ∨ ∃ k', k' < rs.length ∧ (bytesOf (rs.take k)).length + j = (bytesOf (rs.take k')).length) := by
        rintro (e | ⟨k', hk', e⟩)
        · omega
        · rcases Nat.lt_or_ge k k' with hkk | hkk
          · have m1 := bytes_mono rs (k + 1) k' hkk
            have e2 : (bytesOf (rs.take (k + 1))).length = (bytesOf (rs.take k)).length + (putL r).length := by
              rw [List.take_succ_eq_append_getElem hk, hr, bytesOf_snoc, List.length_append]
            omega
          · have m1 := bytes_mono rs k' k hkk
            omega
      refine ⟨⟨fun h => absurd h (take_bad hm.2.1 j (by omega) hj), fun h => absurd h hnb⟩, ⟨fun h => ?_, fun h => absurd h hnb⟩⟩
      obtain ⟨c, t, hct, hcc⟩ := putL_tail hm.2.1 j (by omega) hj
      rw [hct] at h
      exact absurd h (okL_nil_ne hcc)
end Go.Proofs.Ythgocbehdomekaa
