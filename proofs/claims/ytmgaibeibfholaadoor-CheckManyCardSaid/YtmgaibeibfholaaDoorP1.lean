/- Which texts may be names, IRIs, tags, values: in plain words. -/
import Derived.Test.YtmgaibeibfholaaDoorU4
import Derived.Lib.SplitLaws
namespace Go.Proofs.YtmgaibeibfholaaDoor
set_option maxRecDepth 100000
open Go.RowKit Go.Shelf Plain
set_option linter.unusedVariables false

def letB (c : Int) : Bool := decide (65 ≤ c ∧ c ≤ 90 ∨ 97 ≤ c ∧ c ≤ 122)
def digB (c : Int) : Bool := decide (48 ≤ c ∧ c ≤ 57)
def smlB (c : Int) : Bool := decide (97 ≤ c ∧ c ≤ 122)
theorem letB_iff (c : Int) : letB c = true ↔ 65 ≤ c ∧ c ≤ 90 ∨ 97 ≤ c ∧ c ≤ 122 := decide_eq_true_iff
theorem digB_iff (c : Int) : digB c = true ↔ 48 ≤ c ∧ c ≤ 57 := decide_eq_true_iff
theorem smlB_iff (c : Int) : smlB c = true ↔ 97 ≤ c ∧ c ≤ 122 := decide_eq_true_iff

/-- letters and digits, a letter first, at most so many -/
def wordB (s : ByteArray) (m : Nat) : Bool := decide (1 ≤ s.size) && decide (s.size ≤ m) && letB (bt s 0) && (bl s).all fun c => letB c || digB c
theorem all_bt (s : ByteArray) (f : Int → Bool) : (bl s).all f = true ↔ ∀ j, j < s.size → f (bt s j) = true := by
  rw [List.all_eq_true]
  constructor
  · intro h j hj
    refine h _ ?_
    rw [← bl_getD, List.getD_eq_getElem?_getD, List.getElem?_eq_getElem (by rw [bl_length]; exact hj)]
    exact List.getElem_mem _
  · intro h c hc
    obtain ⟨j, hj, rfl⟩ := List.mem_iff_getElem.1 hc
    rw [bl_length] at hj
    have := h j hj
    rw [← bl_getD, List.getD_eq_getElem?_getD, List.getElem?_eq_getElem (by rw [bl_length]; exact hj)] at this
    exact this
theorem word_end {s : ByteArray} (h : ∀ j, j < s.size → letB (bt s j) = true ∨ (j ≠ 0 ∧ digB (bt s j) = true)) (m : Nat) :
    wordB s m = (decide (1 ≤ s.size) && decide (s.size ≤ m)) := by
  unfold wordB
  by_cases h0 : 1 ≤ s.size
  · have h1 : letB (bt s 0) = true := by
      rcases h 0 h0 with h | ⟨h, _⟩
      · exact h
      · exact absurd rfl h
    have h2 : ((bl s).all fun c => letB c || digB c) = true := (all_bt s _).2 fun j hj => by
      rcases h j hj with h | ⟨_, h⟩ <;> simp [h]
    rw [h1, h2]; simp
  · simp [h0]
theorem word_bad {s : ByteArray} {j : Nat} (hj : j < s.size) (h : letB (bt s j) = false) (h' : j = 0 ∨ digB (bt s j) = false) (m : Nat) : wordB s m = false := by
  unfold wordB
  rcases h' with rfl | h'
  · simp [h]
  · have : ((bl s).all fun c => letB c || digB c) = false := by
      rw [← Bool.not_eq_true, all_bt]
      intro hh
      have := hh j hj
      simp [h, h'] at this
    rw [this]; simp

/-- a byte, or a rune, that an IRI may have -/
def okc (c : Int) : Prop := 32 < c ∧ c ≠ 60 ∧ c ≠ 62 ∧ c ≠ 34 ∧ c ≠ 123 ∧ c ≠ 125 ∧ c ≠ 124 ∧ c ≠ 94 ∧ c ≠ 96 ∧ c ≠ 92
instance (c : Int) : Decidable (okc c) := by unfold okc; infer_instance
theorem putL_okc {r : Int} (h : mayB r = true) : (∀ c ∈ putL r, okc c) ↔ okc r := by
  rw [may_iff] at h
  unfold putL
  (repeat' split)
  · simp
  all_goals
    constructor
    · intro _; unfold okc; omega
    · intro _ c hc
      simp at hc
      unfold okc
      omega
def vlB (s : ByteArray) : Bool := decide (endP (bl s) 0 = s.size)
theorem runes_okc {l : List Int} (hl : ∀ c ∈ l, isB c) (p : Nat) : p ≤ l.length → endP l p = l.length → ((∀ x ∈ rl l p, okc x.2) ↔ ∀ c ∈ l.drop p, okc c) := by
  refine rl_ind l (fun p => p ≤ l.length → endP l p = l.length → ((∀ x ∈ rl l p, okc x.2) ↔ ∀ c ∈ l.drop p, okc c)) (fun p h hp he => ?_) (fun p h1 h2 ih hp he => ?_) p
  · rw [(rl_stop h).2] at he
    rw [(rl_stop h).1, he, List.drop_length]; simp
  · have hz := getL_size hl p h2
    rw [(rl_go h1 h2).2] at he
    rw [(rl_go h1 h2).1]
    have ih' := ih hz.2 he
    obtain ⟨m1, m2, t, m3⟩ := getL_some (drop_isB hl p) (r := (getL (l.drop p)).1) (n := (getL (l.drop p)).2) rfl (by omega)
    have ht : l.drop (p + (getL (l.drop p)).2.toNat) = t := by
      rw [← List.drop_drop, m3]
      have : (getL (putL (getL (l.drop p)).1 ++ t)).2.toNat = (putL (getL (l.drop p)).1).length := by rw [← m3]; omega
      rw [this, List.drop_left]
    rw [ht] at ih'
    rw [List.forall_mem_cons, ih']
    conv => rhs; rw [m3]
    rw [List.forall_mem_append]
    dsimp only
    rw [putL_okc m1]
theorem getL_low {c : Int} (t : List Int) (h : 0 ≤ c) (h' : c < 128) : getL (c :: t) = (c, 1) := by
  unfold getL; simp only; rw [if_pos h']
theorem ascii_end {l : List Int} (hl : ∀ c ∈ l, 0 ≤ c ∧ c < 128) (p : Nat) : p ≤ l.length → endP l p = l.length := by
  refine rl_ind l (fun p => p ≤ l.length → endP l p = l.length) (fun p h hp => ?_) (fun p h1 h2 ih hp => ?_) p
  · rw [(rl_stop h).2]
    by_cases hlt : p < l.length
    · exfalso
      apply h
      refine ⟨hlt, ?_⟩
      rw [List.drop_eq_getElem_cons hlt]
      have := hl _ (List.getElem_mem hlt)
      rw [getL_low _ this.1 this.2]; exact Nat.one_pos
    · omega
  · rw [(rl_go h1 h2).2]
    apply ih
    rw [List.drop_eq_getElem_cons h1]
    have := hl _ (List.getElem_mem h1)
    rw [getL_low _ this.1 this.2]
    simp; omega
theorem vlB_ascii {s : ByteArray} (h : ∀ c ∈ bl s, 0 ≤ c ∧ c < 128) : vlB s = true := by
  unfold vlB
  rw [decide_eq_true_iff, ascii_end h 0 (Nat.zero_le _), bl_length]

/-- may a text be an IRI's? -/
def iriB (s : ByteArray) : Bool := decide (1 ≤ s.size) && decide (s.size ≤ 1000) && vlB s && (bl s).all fun c => decide (okc c)
theorem iri_bytes (s : ByteArray) (h : vlB s = true) : ((bl s).all fun c => decide (okc c)) = ((rl (bl s) 0).all fun x => decide (okc x.2)) := by
  unfold vlB at h
  rw [decide_eq_true_iff] at h
  have := runes_okc (bl_isB s) 0 (Nat.zero_le _) (by rw [h, bl_length])
  rw [List.drop_zero] at this
  rw [Bool.eq_iff_iff, List.all_eq_true, List.all_eq_true]
  simp only [decide_eq_true_iff]
  exact this.symm
/-- may a text be a value's? -/
def valB (s : ByteArray) : Bool := decide (s.size ≤ 4000) && vlB s

/-! ### tags -/
/-- from here on: are we in the first piece; has it begun? -/
def tagR (first fresh : Bool) : List Int → Bool
  | [] => !fresh
  | c :: t => if c = 45 then !fresh && tagR false true t else (smlB c || (!first && digB c)) && tagR first false t
def tagB (s : ByteArray) : Bool := tagR true true (bl s) && decide (s.size ≤ 35)
theorem tagR_last {l : List Int} (a b : Bool) (h : l.getLast? = some 45) : tagR a b l = false := by
  induction l generalizing a b with
  | nil => simp at h
  | cons c t ih =>
    cases t with
    | nil => simp at h; subst h; simp [tagR]
    | cons d t =>
      have h' : (d :: t).getLast? = some 45 := by rw [List.getLast?_cons_cons] at h; exact h
      unfold tagR
      rw [ih _ _ h', ih _ _ h']; simp

/-- the pieces between '-' -/
def spl : List Int → List Int × List (List Int)
  | [] => ([], [])
  | c :: t => if c = 45 then ([], (spl t).1 :: (spl t).2) else (c :: (spl t).1, (spl t).2)
def gdB (first : Bool) (p : List Int) : Bool := p.all fun c => smlB c || (!first && digB c)
theorem tag_spl (l : List Int) (first fresh : Bool) :
    ((!fresh || decide ((spl l).1 ≠ [])) && gdB first (spl l).1 && (spl l).2.all fun p => decide (p ≠ []) && gdB false p) = tagR first fresh l := by
  induction l generalizing first fresh with
  | nil => cases fresh <;> simp [spl, tagR, gdB]
  | cons c t ih =>
    unfold spl tagR
    by_cases h : c = 45
    · rw [if_pos h, if_pos h]
      have := ih false true
      simp only [Bool.not_true, Bool.false_or] at this
      rw [← this]
      simp [gdB]
    · rw [if_neg h, if_neg h]
      have := ih first false
      simp only [Bool.not_false, Bool.true_or, Bool.true_and] at this
      rw [← this]
      simp [gdB, Bool.and_assoc]
def sep1 : ByteArray := ⟨#[45]⟩
theorem index_cons_ne (b : UInt8) (l : List UInt8) (h : b ≠ 45) : Lib.index (b :: l) [45] = if Lib.index l [45] == -1 then -1 else Lib.index l [45] + 1 := by
  conv => lhs; unfold Lib.index
  rw [if_neg]
  simp [List.isPrefixOf]; exact fun e => h e.symm
theorem index_cons_eq (l : List UInt8) : Lib.index (45 :: l) [45] = 0 := by
  unfold Lib.index; rw [if_pos]; simp [List.isPrefixOf]
def bI (l : List UInt8) : List Int := l.map fun c => (c.toNat : Int)
theorem splitK_cons_ne (k : Nat) (b : UInt8) (l : List UInt8) (h : b ≠ 45) : ∃ p ps, Lib.splitK [45] 0 k l = p :: ps ∧ Lib.splitK [45] 0 k (b :: l) = (b :: p) :: ps := by
  cases k with
  | zero => exact ⟨l, [], rfl, rfl⟩
  | succ k =>
    unfold Lib.splitK
    rw [index_cons_ne b l h]
    by_cases hi : Lib.index l [45] = -1
    · rw [hi]; exact ⟨l, [], by simp, by simp⟩
    · have hge := Lib.index_ge l [45]
      have e1 : (Lib.index l [45] == -1) = false := beq_eq_false_iff_ne.2 hi
      obtain ⟨n, hn⟩ : ∃ n : Nat, Lib.index l [45] = n := ⟨(Lib.index l [45]).toNat, by omega⟩
      rw [e1]
      rw [hn]
      have e2 : ((n : Int) + 1 == -1) = false := beq_eq_false_iff_ne.2 (by omega)
      have e4 : ((n : Int) + 1).toNat = n + 1 := by omega
      simp only [Bool.false_eq_true, if_false, e2, e4]
      refine ⟨_, _, rfl, ?_⟩
      simp only [Int.toNat_natCast, Nat.add_zero, List.take_succ_cons, List.length_cons, List.length_nil, Nat.zero_add]
      rw [show n + 1 + 1 = (n + 1) + 1 from rfl, List.drop_succ_cons]
theorem split_spl (l : List UInt8) : (Lib.splitK [45] 0 (Lib.count l [45]) l).map bI = (spl (bI l)).1 :: (spl (bI l)).2 := by
  induction l with
  | nil => rfl
  | cons b l ih =>
    have e : bI (b :: l) = (b.toNat : Int) :: bI l := rfl
    rw [e]
    by_cases h : b = 45
    · subst h
      rw [Lib.count_cons_eq, Nat.add_comm 1]
      unfold Lib.splitK spl
      rw [index_cons_eq]
      have e1 : (((45 : UInt8).toNat : Nat) : Int) = 45 := rfl
      have e2 : ((0 : Int) == -1) = false := rfl
      simp only [e1, e2, Bool.false_eq_true, if_false, if_true]
      rw [List.map_cons]
      have : Lib.splitK [45] 0 (Lib.count l [45]) ((45 :: l).drop ((0 : Int).toNat + [(45 : UInt8)].length)) = Lib.splitK [45] 0 (Lib.count l [45]) l := rfl
      rw [this, ih]
      rfl
    · rw [Lib.count_cons_ne b 45 l h]
      obtain ⟨p, ps, h1, h2⟩ := splitK_cons_ne (Lib.count l [45]) b l h
      rw [h1] at ih
      rw [h2, List.map_cons]
      rw [List.map_cons] at ih
      injection ih with i1 i2
      have hb : ¬ ((b.toNat : Nat) : Int) = 45 := fun hh => h (by
        have : b.toNat = (45 : UInt8).toNat := by rw [show (45 : UInt8).toNat = 45 from rfl]; omega
        exact UInt8.toNat_inj.1 this)
      unfold spl
      rw [if_neg hb, i2]
      have e3 : bI (b :: p) = (b.toNat : Int) :: bI p := rfl
      rw [e3, i1]
/-- the pieces of a text -/
def pieces (s : ByteArray) : List ByteArray := Lib.splitB sep1 0 (Lib.countB s sep1) s
theorem pieces_bl (s : ByteArray) : (pieces s).map bl = (spl (bl s)).1 :: (spl (bl s)).2 := by
  have h := split_spl s.data.toList
  have e : (pieces s).map bl = ((pieces s).map (·.data.toList)).map bI := by rw [List.map_map]; rfl
  rw [e]
  unfold pieces
  rw [Lib.splitB_data]
  exact h
/-- is the piece number i one that may be? -/
def pcB (i : Nat) (p : ByteArray) : Bool := decide (p.size ≠ 0) && gdB (decide (i = 0)) (bl p)
theorem tag_pieces (s : ByteArray) : tagB s = (decide (∀ i (h : i < (pieces s).length), pcB i ((pieces s)[i]) = true) && decide (s.size ≤ 35)) := by
  unfold tagB
  congr 1
  rw [← tag_spl (bl s) true true]
  have hp := pieces_bl s
  obtain ⟨p0, ps, hps⟩ : ∃ p0 ps, pieces s = p0 :: ps := by
    cases h : pieces s with
    | nil => rw [h] at hp; simp at hp
    | cons a b => exact ⟨a, b, rfl⟩
  rw [hps] at hp
  rw [List.map_cons] at hp
  injection hp with h1 h2
  rw [← h1, ← h2, Bool.eq_iff_iff, decide_eq_true_iff]
  have hne : ∀ p : ByteArray, (bl p ≠ []) ↔ p.size ≠ 0 := fun p => by rw [← bl_length p, Ne, Ne, List.length_eq_zero_iff]
  simp only [hps, Bool.not_true, Bool.false_or, Bool.and_eq_true, decide_eq_true_iff, List.all_eq_true, List.mem_map, forall_exists_index, and_imp, forall_apply_eq_imp_iff₂]
  constructor
  · rintro ⟨⟨a, b⟩, c⟩ i hi
    cases i with
    | zero => simp only [List.getElem_cons_zero, pcB, Bool.and_eq_true, decide_eq_true_iff]; exact ⟨(hne _).1 a, by simpa using b⟩
    | succ i =>
      simp only [List.getElem_cons_succ, pcB, Bool.and_eq_true, decide_eq_true_iff]
      have := c (ps[i]'(by simpa using hi)) (List.getElem_mem _)
      exact ⟨(hne _).1 this.1, by simpa using this.2⟩
  · intro h
    refine ⟨?_, fun p hpm => ?_⟩
    · have := h 0 (by simp)
      simp only [List.getElem_cons_zero, pcB, Bool.and_eq_true, decide_eq_true_iff] at this
      exact ⟨(hne _).2 this.1, by simpa using this.2⟩
    · obtain ⟨i, hi, rfl⟩ := List.mem_iff_getElem.1 hpm
      have := h (i + 1) (by simpa using hi)
      simp only [List.getElem_cons_succ, pcB, Bool.and_eq_true, decide_eq_true_iff] at this
      exact ⟨(hne _).2 this.1, by simpa using this.2⟩
end Go.Proofs.YtmgaibeibfholaaDoor
