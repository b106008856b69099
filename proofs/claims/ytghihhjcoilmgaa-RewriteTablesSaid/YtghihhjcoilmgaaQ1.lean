/- Who is joined with whom: the plain law of joins. -/
import Derived.Test.YtghihhjcoilmgaaRows
namespace Go.Proofs.Ytghihhjcoilmgaa
set_option maxRecDepth 100000
set_option linter.unusedVariables false
set_option linter.unusedSimpArgs false

abbrev Jn := List (Int × Int)
/-- a join of two numbers other than 0, either way round -/
def Edge (J : Jn) (a b : Int) : Prop := ∃ p ∈ J, p.1 ≠ 0 ∧ p.2 ≠ 0 ∧ (p = (a, b) ∨ p = (b, a))
inductive Conn (J : Jn) : Int → Int → Prop
  | refl (a : Int) : Conn J a a
  | step {a b c : Int} : Conn J a b → Edge J b c → Conn J a c
theorem Edge.symm {J : Jn} {a b : Int} (h : Edge J a b) : Edge J b a := by
  obtain ⟨p, hp, h1, h2, h3⟩ := h
  exact ⟨p, hp, h1, h2, h3.symm⟩
theorem Edge.ne {J : Jn} {a b : Int} (h : Edge J a b) : a ≠ 0 ∧ b ≠ 0 := by
  obtain ⟨p, hp, h1, h2, rfl | rfl⟩ := h
  · exact ⟨h1, h2⟩
  · exact ⟨h2, h1⟩
namespace Conn
variable {J K : Jn} {a b c : Int}
theorem trans (h : Conn J a b) (k : Conn J b c) : Conn J a c := by
  induction k with
  | refl => exact h
  | step _ e ih => exact ih.step e
theorem edge (e : Edge J a b) : Conn J a b := (Conn.refl a).step e
theorem symm (h : Conn J a b) : Conn J b a := by
  induction h with
  | refl => exact .refl _
  | step _ e ih => exact (edge e.symm).trans ih
theorem lift (h : Conn J a b) (hE : ∀ x y, Edge J x y → Conn K x y) : Conn K a b := by
  induction h with
  | refl => exact .refl _
  | step _ e ih => exact ih.trans (hE _ _ e)
theorem mono (h : Conn J a b) (hE : ∀ p ∈ J, p ∈ K) : Conn K a b := h.lift fun x y ⟨p, hp, h1, h2, h3⟩ => edge ⟨p, hE p hp, h1, h2, h3⟩
/-- what is joined with another number is not 0 -/
theorem ne_zero (h : Conn J a b) (hab : a ≠ b) : a ≠ 0 ∧ b ≠ 0 := by
  induction h with
  | refl => exact absurd rfl hab
  | @step b c h1 e ih =>
    by_cases hb : a = b
    · subst hb; exact e.ne
    · exact ⟨(ih hb).1, e.ne.2⟩
/-- .. and stands in a join -/
theorem mem (h : Conn J a b) (hab : a ≠ b) : ∃ p ∈ J, p.1 = b ∨ p.2 = b := by
  induction h with
  | refl => exact absurd rfl hab
  | @step b c h1 e ih =>
    obtain ⟨p, hp, _, _, rfl | rfl⟩ := e
    · exact ⟨_, hp, .inr rfl⟩
    · exact ⟨_, hp, .inl rfl⟩
theorem snoc {x y : Int} : Conn (J ++ [(x, y)]) a b ↔ Conn J a b ∨ (x ≠ 0 ∧ y ≠ 0 ∧ ((Conn J a x ∧ Conn J y b) ∨ (Conn J a y ∧ Conn J x b))) := by
  constructor
  · intro h
    induction h with
    | refl => exact .inl (.refl _)
    | @step b c h1 e ih =>
      obtain ⟨p, hp, p1, p2, p3⟩ := e
      rcases List.mem_append.1 hp with hp | hp
      · have e' : Edge J b c := ⟨p, hp, p1, p2, p3⟩
        rcases ih with ih | ⟨hx, hy, ⟨i1, i2⟩ | ⟨i1, i2⟩⟩
        · exact .inl (ih.step e')
        · exact .inr ⟨hx, hy, .inl ⟨i1, i2.step e'⟩⟩
        · exact .inr ⟨hx, hy, .inr ⟨i1, i2.step e'⟩⟩
      · rw [List.mem_singleton] at hp
        subst hp
        simp only [Prod.mk.injEq] at p3
        rcases p3 with ⟨rfl, rfl⟩ | ⟨rfl, rfl⟩
        · rcases ih with ih | ⟨hx, hy, ⟨i1, i2⟩ | ⟨i1, i2⟩⟩
          · exact .inr ⟨p1, p2, .inl ⟨ih, .refl _⟩⟩
          · exact .inr ⟨p1, p2, .inl ⟨i1, .refl _⟩⟩
          · exact .inl i1
        · rcases ih with ih | ⟨hx, hy, ⟨i1, i2⟩ | ⟨i1, i2⟩⟩
          · exact .inr ⟨p1, p2, .inr ⟨ih, .refl _⟩⟩
          · exact .inl i1
          · exact .inr ⟨p1, p2, .inr ⟨i1, .refl _⟩⟩
  · rintro (h | ⟨hx, hy, ⟨h1, h2⟩ | ⟨h1, h2⟩⟩)
    · exact h.mono fun p hp => List.mem_append_left _ hp
    · have e : Edge (J ++ [(x, y)]) x y := ⟨_, List.mem_append_right _ (List.mem_singleton.2 rfl), hx, hy, .inl rfl⟩
      exact ((h1.mono fun p hp => List.mem_append_left _ hp).step e).trans (h2.mono fun p hp => List.mem_append_left _ hp)
    · have e : Edge (J ++ [(x, y)]) y x := ⟨_, List.mem_append_right _ (List.mem_singleton.2 rfl), hx, hy, .inr rfl⟩
      exact ((h1.mono fun p hp => List.mem_append_left _ hp).step e).trans (h2.mono fun p hp => List.mem_append_left _ hp)
end Conn

/-- rising lists are known by their numbers -/
def Srt (l : List Int) : Prop := l.Pairwise (· < ·)
theorem Srt.nodup {l : List Int} (h : Srt l) : l.Nodup := h.imp fun h => by omega
theorem Srt.ext {l m : List Int} (h : Srt l) (k : Srt m) (he : ∀ x, x ∈ l ↔ x ∈ m) : l = m :=
  List.Perm.eq_of_pairwise (le := fun a b => a < b) (fun a b _ _ h1 h2 => by omega) h k ((List.perm_ext_iff_of_nodup h.nodup k.nodup).2 he)
/-- the numbers that a number is joined with, rising -/
structure IsCl (J : Jn) (a : Int) (l : List Int) : Prop where
  srt : Srt l
  mem : ∀ b, b ∈ l ↔ Conn J a b
theorem IsCl.unique {J : Jn} {a : Int} {l m : List Int} (h : IsCl J a l) (k : IsCl J a m) : l = m := h.srt.ext k.srt fun x => (h.mem x).trans (k.mem x).symm
theorem IsCl.self {J : Jn} {a : Int} {l : List Int} (h : IsCl J a l) : a ∈ l := (h.mem a).2 (.refl _)
theorem IsCl.move {J K : Jn} {a b : Int} {l : List Int} (h : IsCl J a l) (hc : ∀ x, Conn J a x ↔ Conn K b x) : IsCl K b l := ⟨h.srt, fun x => (h.mem x).trans (hc x)⟩

/-- the state of a partition: who stands for each, and the numbers of each -/
structure PInv (J : Jn) (f : Int → Option Int) (c : Int → Option (List Int)) : Prop where
  has : ∀ x r, f x = some r → Conn J x r ∧ (∀ b, Conn J x b → r ≤ b) ∧ ∃ b, b ≠ x ∧ Conn J x b
  non : ∀ x, f x = none → ∀ b, Conn J x b → b = x
  cl : ∀ r L, c r = some L → f r = some r ∧ L.Nodup ∧ ∀ b, b ∈ L ↔ Conn J r b
  cn : ∀ r, c r = none → f r ≠ some r
def findP (f : Int → Option Int) (a : Int) : Int := (f a).getD a
def listP (c : Int → Option (List Int)) (r : Int) : List Int := (c r).getD [r]
namespace PInv
variable {J K : Jn} {f : Int → Option Int} {c : Int → Option (List Int)}
theorem nil : PInv [] (fun _ => none) (fun _ => none) := by
  have hc : ∀ a b, Conn [] a b → b = a := by
    intro a b h
    induction h with
    | refl => rfl
    | step _ e _ => obtain ⟨p, hp, _⟩ := e; cases hp
  exact ⟨fun x r h => by simp at h, fun x _ b h => hc x b h, fun r L h => by simp at h, fun r _ h => by simp at h⟩
theorem move (h : PInv J f c) (hc : ∀ a b, Conn J a b ↔ Conn K a b) : PInv K f c :=
  ⟨fun x r e => by obtain ⟨h1, h2, b, h3, h4⟩ := h.has x r e; exact ⟨(hc _ _).1 h1, fun b hb => h2 b ((hc _ _).2 hb), b, h3, (hc _ _).1 h4⟩,
   fun x e b hb => h.non x e b ((hc _ _).2 hb), fun r L e => by obtain ⟨h1, h2, h3⟩ := h.cl r L e; exact ⟨h1, h2, fun b => (h3 b).trans (hc _ _)⟩, h.cn⟩
theorem find (h : PInv J f c) (a : Int) : Conn J a (findP f a) ∧ ∀ b, Conn J a b → findP f a ≤ b := by
  unfold findP
  cases e : f a with
  | none => exact ⟨.refl _, fun b hb => by rw [h.non a e b hb]; exact Int.le_refl _⟩
  | some r => exact ⟨(h.has a r e).1, (h.has a r e).2.1⟩
theorem find_eq (h : PInv J f c) {a b : Int} : findP f a = findP f b ↔ Conn J a b := by
  obtain ⟨a1, a2⟩ := h.find a
  obtain ⟨b1, b2⟩ := h.find b
  constructor
  · intro e; rw [e] at a1; exact a1.trans b1.symm
  · intro k
    have := a2 _ (k.trans b1)
    have := b2 _ (k.symm.trans a1)
    omega
theorem find_find (h : PInv J f c) (a : Int) : findP f (findP f a) = findP f a := (h.find_eq.2 (h.find a).1).symm
theorem find_zero (h : PInv J f c) : findP f 0 = 0 := by
  have := (h.find 0).1
  by_cases hz : 0 = findP f 0
  · exact hz.symm
  · exact absurd rfl (this.ne_zero hz).1
theorem f_find (h : PInv J f c) {a : Int} (hn : f a ≠ none) : f (findP f a) = some (findP f a) := by
  obtain ⟨r, e⟩ := Option.ne_none_iff_exists'.1 hn
  have hr : findP f a = r := by unfold findP; rw [e]; rfl
  obtain ⟨h1, h2, b, h3, h4⟩ := h.has a r e
  rw [hr]
  cases e2 : f r with
  | none =>
    have h5 := h.non r e2
    have := h5 a h1.symm
    have := h5 b (h1.symm.trans h4)
    omega
  | some r2 =>
    have := (h.find_eq (a := r) (b := a)).2 h1.symm
    unfold findP at this
    rw [e2, e] at this
    simpa using this
theorem list (h : PInv J f c) (a : Int) : (listP c (findP f a)).Nodup ∧ ∀ b, b ∈ listP c (findP f a) ↔ Conn J a b := by
  unfold listP
  cases e : c (findP f a) with
  | none =>
    have h1 := h.cn _ e
    have h2 : f a = none := by
      by_cases hn : f a = none
      · exact hn
      · exact absurd (h.f_find hn) h1
    have h3 : findP f a = a := by unfold findP; rw [h2]; rfl
    refine ⟨by simp, fun b => ?_⟩
    rw [h3]
    simp only [Option.getD_none, List.mem_singleton]
    exact ⟨fun e => by rw [e]; exact .refl _, h.non a h2 b⟩
  | some L =>
    obtain ⟨_, h2, h3⟩ := h.cl _ L e
    refine ⟨h2, fun b => (h3 b).trans ⟨fun k => (h.find a).1.trans k, fun k => (h.find a).1.symm.trans k⟩⟩
/-- two that are joined already, or 0: nothing turns -/
theorem still (h : PInv J f c) {a b : Int} (hs : a = 0 ∨ b = 0 ∨ Conn J a b) : PInv (J ++ [(a, b)]) f c := by
  refine h.move fun x y => ⟨fun k => k.mono fun p hp => List.mem_append_left _ hp, fun k => ?_⟩
  rcases Conn.snoc.1 k with k | ⟨ha, hb, hk⟩
  · exact k
  · rcases hs with h0 | h0 | h0
    · exact absurd h0 ha
    · exact absurd h0 hb
    · rcases hk with ⟨k1, k2⟩ | ⟨k1, k2⟩
      · exact (k1.trans h0).trans k2
      · exact (k1.trans h0.symm).trans k2
end PInv
end Go.Proofs.Ytghihhjcoilmgaa
