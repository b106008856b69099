/- The order of joins does not matter: plain; two partitions side by side. -/
import Derived.Test.YtghihhjcoilmgaaQ10
namespace Go.Proofs.Ytghihhjcoilmgaa
set_option maxRecDepth 100000
open Go.RowKit Go.Maps
set_option linter.unusedVariables false
set_option linter.unusedSimpArgs false

/-- the joins gone through from a place on, swapped: i of them -/
def rotQ (J : Jn) (s i : Nat) : Jn := (List.range i).map fun t => let p := J.getD ((t + s) % J.length) (0, 0); (p.2, p.1)
theorem rotQ_succ (J : Jn) (s i : Nat) (x y : Int) (h : J.getD ((i + s) % J.length) (0, 0) = (x, y)) : rotQ J s (i + 1) = rotQ J s i ++ [(y, x)] := by
  unfold rotQ
  rw [List.range_succ, List.map_append]
  simp only [List.map_cons, List.map_nil, h]
theorem rot_back {n s j : Nat} (hj : j < n) : ∃ t, t < n ∧ (t + s) % n = j := by
  have hr : s % n < n := Nat.mod_lt _ (by omega)
  refine ⟨(j + (n - s % n)) % n, Nat.mod_lt _ (by omega), ?_⟩
  rw [Nat.mod_add_mod]
  have h1 := Nat.div_add_mod s n
  have h2 : j + (n - s % n) + s = j + n * (s / n + 1) := by rw [Nat.mul_add, Nat.mul_one]; omega
  rw [h2, Nat.add_mul_mod_self_left]
  exact Nat.mod_eq_of_lt hj
theorem rotQ_conn (J : Jn) (s : Nat) (a b : Int) : Conn J a b ↔ Conn (rotQ J s J.length) a b := by
  constructor
  · refine fun h => h.lift fun x y ⟨p, hp, h1, h2, h3⟩ => .edge ⟨(p.2, p.1), ?_, h2, h1, ?_⟩
    · obtain ⟨j, hj, rfl⟩ := List.getElem_of_mem hp
      obtain ⟨t, ht, e⟩ := rot_back (s := s) hj
      exact List.mem_map.2 ⟨t, List.mem_range.2 ht, by simp [e, hj]⟩
    · rcases h3 with h3 | h3
      · exact .inr (by rw [h3])
      · exact .inl (by rw [h3])
  · refine fun h => h.lift fun x y ⟨p, hp, h1, h2, h3⟩ => ?_
    obtain ⟨t, ht, rfl⟩ := List.mem_map.1 hp
    have htn := List.mem_range.1 ht
    have hm : (t + s) % J.length < J.length := Nat.mod_lt _ (by omega)
    refine .edge ⟨J.getD ((t + s) % J.length) (0, 0), ?_, h2, h1, ?_⟩
    · rw [List.getD_eq_getElem?_getD, List.getElem?_eq_getElem hm]; exact List.getElem_mem hm
    · rcases h3 with h3 | h3
      · simp only [Prod.mk.injEq] at h3; exact .inr (Prod.ext h3.2 h3.1)
      · simp only [Prod.mk.injEq] at h3; exact .inl (Prod.ext h3.2 h3.1)
theorem rotQ_32 {J : Jn} (hJ : ∀ p ∈ J, is32 p.1 ∧ is32 p.2) (s i : Nat) : ∀ p ∈ rotQ J s i, is32 p.1 ∧ is32 p.2 := by
  intro p hp
  obtain ⟨t, ht, rfl⟩ := List.mem_map.1 hp
  by_cases hm : (t + s) % J.length < J.length
  · have := hJ _ (List.getElem_mem hm)
    simp only [List.getD_eq_getElem?_getD, List.getElem?_eq_getElem hm, Option.getD_some]
    exact ⟨this.2, this.1⟩
  · simp only [List.getD_eq_getElem?_getD, List.getElem?_eq_none (Nat.le_of_not_lt hm), Option.getD_none]
    exact ⟨by simp [is32], by simp [is32]⟩
theorem rotQ_len (J : Jn) (s i : Nat) : (rotQ J s i).length = i := by simp [rotQ]
/-- who has a clique of its own name -/
theorem PInv.key {J : Jn} {f : Int → Option Int} {c : Int → Option (List Int)} (h : PInv J f c) (r : Int) : c r ≠ none ↔ (∀ b, Conn J r b → r ≤ b) ∧ ∃ b, b ≠ r ∧ Conn J r b := by
  constructor
  · intro hc
    obtain ⟨L, e⟩ := Option.ne_none_iff_exists'.1 hc
    obtain ⟨h1, _, _⟩ := h.cl r L e
    obtain ⟨_, k2, k3⟩ := h.has r r h1
    exact ⟨k2, k3⟩
  · rintro ⟨h1, b, h2, h3⟩ hc
    cases e : f r with
    | none => exact h2 (h.non r e b h3)
    | some r2 =>
      obtain ⟨k1, k2, _⟩ := h.has r r2 e
      have := h1 r2 k1
      have := k2 r (.refl _)
      have : r2 = r := by omega
      subst this
      exact h.cn r2 hc e
theorem keys_same {J K : Jn} {f g : Int → Option Int} {c d : Int → Option (List Int)} (h : PInv J f c) (k : PInv K g d) (hc : ∀ a b, Conn J a b ↔ Conn K a b) {ks ls : List Int} (n1 : ks.Nodup) (n2 : ls.Nodup) (k1 : ∀ x ∈ ks, is32 x) (k2 : ∀ x ∈ ls, is32 x)
    (m1 : ∀ x, is32 x → (x ∈ ks ↔ c x ≠ none)) (m2 : ∀ x, is32 x → (x ∈ ls ↔ d x ≠ none)) : ks.length = ls.length := by
  refine ((List.perm_ext_iff_of_nodup n1 n2).2 fun x => ?_).length_eq
  by_cases hx : is32 x
  · rw [m1 x hx, m2 x hx, h.key, k.key]
    constructor
    · rintro ⟨h1, b, h2, h3⟩; exact ⟨fun b hb => h1 b ((hc _ _).2 hb), b, h2, (hc _ _).1 h3⟩
    · rintro ⟨h1, b, h2, h3⟩; exact ⟨fun b hb => h1 b ((hc _ _).1 hb), b, h2, (hc _ _).2 h3⟩
  · exact ⟨fun h => absurd (k1 x h) hx, fun h => absurd (k2 x h) hx⟩
theorem find_same {J K : Jn} {f g : Int → Option Int} {c d : Int → Option (List Int)} (h : PInv J f c) (k : PInv K g d) (hc : ∀ a b, Conn J a b ↔ Conn K a b) (a : Int) : findP f a = findP g a := by
  obtain ⟨h1, h2⟩ := h.find a
  obtain ⟨k1, k2⟩ := k.find a
  have := h2 _ ((hc _ _).2 k1)
  have := k2 _ ((hc _ _).1 h1)
  omega
/-- another partition lies as it lay -/
theorem IsP.turn {w w' : World} {qb nf nc mf mc : Nat} {g : Int → Option Int} {d : Int → Option (List Int)} (h : IsP w qb nf nc g d) (hf : ∃ es k, w.heap[mf]? = some (.map es k)) (hc : ∃ es k, w.heap[mc]? = some (.map es k)) (ht : TnM w w' mf mc)
    (h1 : nf ≠ mf) (h2 : nf ≠ mc) (h3 : nc ≠ mf) (h4 : nc ≠ mc) : IsP w' qb nf nc g d := by
  obtain ⟨_, _, of⟩ := hf
  obtain ⟨_, _, oc⟩ := hc
  have e1 : qb ≠ mf := fun e => by have := h.head; rw [e, of] at this; cases this
  have e2 : qb ≠ mc := fun e => by have := h.head; rw [e, oc] at this; cases this
  obtain ⟨cv, m1, m2, m3⟩ := h.cl
  refine ⟨(ht.same qb (lt_of_heap h.head) e1 e2).trans h.head, h.ne, h.of.stay (ht.same nf h.of.lt h1 h2), cv, m1.stay (ht.same nc m1.lt h3 h4), m2, fun r L hr hL => ?_⟩
  obtain ⟨v, k1, k2⟩ := m3 r L hr hL
  exact ⟨v, k1, k2.turn ⟨_, _, of⟩ ⟨_, _, oc⟩ ht⟩
theorem IsP.objs {w : World} {pb mf mc : Nat} {f : Int → Option Int} {c : Int → Option (List Int)} (h : IsP w pb mf mc f c) : (∃ es k, w.heap[mf]? = some (.map es k)) ∧ ∃ es k, w.heap[mc]? = some (.map es k) := by
  obtain ⟨cv, m1, _⟩ := h.cl
  exact ⟨h.of.obj, m1.obj⟩
/-- where the rotated join lies -/
theorem rot_place {n : Nat} (hn : 0 < n) {m : Int} (h1 : -(n : Int) ≤ m) (h2 : m ≤ n) : ∃ s : Nat, (s : Int) = m + n + 1 ∧ ∀ i : Nat, ((i : Int) + m + n + 1).tmod n = (((i + s) % n : Nat) : Int) := by
  refine ⟨(m + n + 1).toNat, by omega, fun i => ?_⟩
  have e : (i : Int) + m + n + 1 = ((i + (m + n + 1).toNat : Nat) : Int) := by omega
  rw [e]
  rfl
end Go.Proofs.Ytghihhjcoilmgaa
