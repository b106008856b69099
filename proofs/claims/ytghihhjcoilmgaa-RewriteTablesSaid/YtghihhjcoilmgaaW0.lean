/- Layer 16: a partition, or none; who stands first in a clique. -/
import Derived.Test.YtghihhjcoilmgaaQS
namespace Go.Proofs.Ytghihhjcoilmgaa
set_option maxRecDepth 100000
open Go.RowKit Go.Maps
set_option linter.unusedVariables false
set_option linter.unusedSimpArgs false
attribute [local go_sem] Oper.semAt_some

/-- a partition of joins: none at all, or one in memory -/
def IsQ (w : World) (pv : Value) (J : Jn) : Prop :=
  (∀ p ∈ J, is32 p.1 ∧ is32 p.2) ∧ J.length ≤ 100 ∧ ((pv = .pointer none ∧ J = []) ∨ ∃ pb mf mc f c, pv = .pointer (some ⟨pb, 0, none⟩) ∧ IsP w pb mf mc f c ∧ PInv J f c)
/-- who stands for a number -/
def IsFst (J : Jn) (a r : Int) : Prop := Conn J a r ∧ ∀ b, Conn J a b → r ≤ b
section
variable {w w' : World} {pv : Value} {J : Jn} {a r s : Int}
theorem IsQ.below (h : IsQ w pv J) (hb : Below w.heap.size w w') : IsQ w' pv J := by
  obtain ⟨h1, h2, h3⟩ := h
  refine ⟨h1, h2, ?_⟩
  rcases h3 with h3 | ⟨pb, mf, mc, f, c, e, hP, hI⟩
  · exact .inl h3
  · exact .inr ⟨pb, mf, mc, f, c, e, hP.below hb, hI⟩
theorem IsQ.drew (h : IsQ w pv J) : IsQ w.drew pv J := h.below (Below.refl _ w).drew
theorem IsQ.nil (w : World) : IsQ w (.pointer none) [] := ⟨fun p hp => by simp at hp, by simp, .inl ⟨rfl, rfl⟩⟩
theorem IsFst.unique (h : IsFst J a r) (k : IsFst J a s) : r = s := by
  have := h.2 s k.1
  have := k.2 r h.1
  omega
theorem IsFst.zero (h : IsFst J 0 r) : r = 0 := by
  refine Classical.byContradiction fun e => ?_
  exact (h.1.ne_zero (fun e' => e e'.symm)).1 rfl
theorem IsFst.ne (h : IsFst J a r) (ha : a ≠ 0) : r ≠ 0 := by
  intro e
  have h1 := h.1
  rw [e] at h1
  exact (h1.ne_zero ha).2 rfl
theorem IsFst.again (h : IsFst J a r) : IsFst J r r := ⟨.refl _, fun b hb => h.2 b (h.1.trans hb)⟩
theorem IsFst.of_cl {L : List Int} (h : IsCl J a (r :: L)) : IsFst J a r := by
  obtain ⟨s, L', e, k1, k2⟩ := cl_first h
  injection e with e1 e2
  subst e1
  exact ⟨k1, k2⟩
theorem conn_nil {b : Int} : Conn [] a b ↔ b = a := ⟨fun h => PInv.nil.non a rfl b h, fun h => by subst h; exact .refl _⟩
theorem IsFst.is32 (h : IsFst J a r) (hJ : ∀ p ∈ J, is32 p.1 ∧ is32 p.2) (ha : is32 a) : is32 r := Conn.is32 h.1 hJ ha
theorem cl_nil (a : Int) : ClL [] a (if a = 0 then [] else [a]) := by
  constructor
  · intro h; simp [h]
  · intro h
    rw [if_neg h]
    exact ⟨by simp [Srt], fun b => by rw [conn_nil]; simp⟩
theorem findQ (h : IsQ w pv J) (ha : is32 a) : Calls Try.prog 32 #[pv, .int .u32 a] w fun e w' => (∃ r, e = .returned (.int .u32 r) ∧ is32 r ∧ IsFst J a r) ∧ w = w' := by
  obtain ⟨h1, h2, h3⟩ := h
  rcases h3 with ⟨rfl, rfl⟩ | ⟨pb, mf, mc, f, c, rfl, hP, hI⟩
  · clear h1 h2
    have Ha := Lib.hid ha
    clear ha
    go_enter Try.func32, Try.ntmps32
    go_wp2_with fail
    go_ret
    exact ⟨⟨a, rfl, Ha.out, .refl _, fun b hb => by rw [conn_nil] at hb; omega⟩, rfl⟩
  · refine (find_u hP ha).mono fun e w' ⟨e1, e2⟩ => ⟨⟨_, e1, ?_, hI.find a⟩, e2⟩
    exact IsFst.is32 (hI.find a) h1 ha
theorem cliqueQ (h : IsQ w pv J) (ha : is32 a) : Calls Try.prog 31 #[pv, .int .u32 a] w fun e w' => ∃ v L, e = .returned v ∧ OwnU w.heap.size w' v L ∧ ClL J a L ∧ Below w.heap.size w w' := by
  obtain ⟨h1, h2, h3⟩ := h
  rcases h3 with ⟨rfl, rfl⟩ | ⟨pb, mf, mc, f, c, rfl, hP, hI⟩
  · clear h1 h2
    by_cases h0 : a = 0
    · subst h0
      clear ha
      go_enter Try.func31, Try.ntmps31
      go_wp2_with fail
      go_ret
      exact ⟨_, [], rfl, World.ownsRow_nil _ _ _ _, cl_nil 0, Below.refl _ _⟩
    · have hq : (a == 0) = false := by simp [h0]
      have H0 := Lib.hid h0
      clear ha h0
      go_enter Try.func31, Try.ntmps31
      go_wp2_with fail
      go_ret
      exact ⟨_, [a], rfl, own_one w a, by have := cl_nil a; rwa [if_neg H0.out] at this, (Below.refl _ w).alloc (Nat.le_refl _) _⟩
  · exact clique_any hP hI h1 h2 ha
end
end Go.Proofs.Ytghihhjcoilmgaa
