/- Two blocks that come; a join of both; the reference's clique of any number. -/
import Derived.Test.YtghihhjcoilmgaaQ15
namespace Go.Proofs.Ytghihhjcoilmgaa
set_option maxRecDepth 100000
open Go.RowKit Go.Maps
set_option linter.unusedVariables false
set_option linter.unusedSimpArgs false

theorem two_blocks (w : World) (o0 o1 : Obj) : ∀ W, W = (w.alloc o0).alloc o1 → Below w.heap.size w W ∧ W.heap.size = w.heap.size + 2 ∧ W.heap[w.heap.size]? = some o0 ∧ W.heap[w.heap.size + 1]? = some o1 := by
  rintro W rfl
  have h1 : (w.alloc o0).heap.size = w.heap.size + 1 := by simp
  refine ⟨((Below.refl _ w).alloc (Nat.le_refl _) _).alloc (by omega) _, by simp, ?_, ?_⟩
  · exact (Below.heap_alloc _ _ _ (by omega)).trans (World.alloc_heap_new w o0)
  · have := World.alloc_heap_new (w.alloc o0) o1
    rwa [h1] at this
theorem conn_still {J : Jn} {x y : Int} (hs : x = 0 ∨ y = 0 ∨ Conn J x y) (a b : Int) : Conn (J ++ [(x, y)]) a b ↔ Conn J a b := by
  refine ⟨fun k => ?_, fun k => k.mono fun p hp => List.mem_append_left _ hp⟩
  rcases Conn.snoc.1 k with k | ⟨ha, hb, hk⟩
  · exact k
  · rcases hs with h0 | h0 | h0
    · exact absurd h0 ha
    · exact absurd h0 hb
    · rcases hk with ⟨k1, k2⟩ | ⟨k1, k2⟩
      · exact (k1.trans h0).trans k2
      · exact (k1.trans h0.symm).trans k2
/-- what the reference has after a join, and the partition -/
theorem pair_step {J J' : Jn} {f : Int → Option Int} {c : Int → Option (List Int)} {x y : Int} {two : Bool} (hI : PInv (J ++ [(x, y)]) f c) (hE : Eff J) (h32 : ∀ p ∈ J, is32 p.1 ∧ is32 p.2) (hx : is32 x) (hy : is32 y)
    (h : (two = false ∧ J' = J ∧ (x = 0 ∨ y = 0 ∨ Conn J x y)) ∨ (two = true ∧ J' = J ++ [(x, y)] ∧ x ≠ 0 ∧ y ≠ 0 ∧ ¬ Conn J x y)) :
    PInv J' f c ∧ Eff J' ∧ (∀ p ∈ J', is32 p.1 ∧ is32 p.2) ∧ J'.length ≤ J.length + 1 := by
  rcases h with ⟨_, rfl, hs⟩ | ⟨_, rfl, h1, h2, h3⟩
  · exact ⟨hI.move (conn_still hs), hE, h32, by omega⟩
  · refine ⟨hI, fun p hp => ?_, fun p hp => ?_, by simp⟩
    · rcases List.mem_append.1 hp with hp | hp
      · exact hE p hp
      · rw [List.mem_singleton] at hp; subst hp
        exact ⟨h1, h2, fun e => h3 (by simp only at e; rw [e]; exact .refl _)⟩
    · rcases List.mem_append.1 hp with hp | hp
      · exact h32 p hp
      · rw [List.mem_singleton] at hp; subst hp; exact ⟨hx, hy⟩
theorem OwnJ.turn {base mf mc : Nat} {w w' : World} {v : Value} {J : Jn} (h : OwnJ base w v J) (hf : ∃ es k, w.heap[mf]? = some (.map es k)) (hc : ∃ es k, w.heap[mc]? = some (.map es k)) (ht : TnM w w' mf mc) : OwnJ base w' v J := by
  obtain ⟨_, _, hf⟩ := hf
  obtain ⟨_, _, hc⟩ := hc
  refine ⟨h.1, ?_⟩
  rcases h.2 with h1 | ⟨g, cap, cur, h1, h2, h3, h4⟩
  · exact .inl h1
  · refine .inr ⟨g, cap, cur, h1, h2, (ht.same g (lt_of_heap h3) (fun e => ?_) (fun e => ?_)).trans h3, h4⟩
    · subst e; rw [h3] at hf; cases hf
    · subst e; rw [h3] at hc; cases hc
section
variable {w : World}
theorem cliqueR_any {ja : Option Addr} {J : Jn} (h : IsJ w ja J) (jcap : Nat) (hJ : J.length ≤ 100000) (hz : ∀ p ∈ J, p.1 ≠ 0 ∧ p.2 ≠ 0) (a : Int) :
    Calls Try.prog 9 #[.slice ja J.length jcap, .int .u32 a] w fun e w' => ∃ v L, e = .returned v ∧ OwnU w.heap.size w' v L ∧ ClL J a L ∧ Below w.heap.size w w' := by
  by_cases h0 : a = 0
  · subst h0
    exact (cliqueR_zero ja J.length jcap).mono fun e w' ⟨h1, h2⟩ => by subst h2; exact ⟨_, [], h1, World.ownsRow_nil _ _ _ _, ⟨fun _ => rfl, fun h => absurd rfl h⟩, Below.refl _ _⟩
  · exact (cliqueR_u h jcap hJ hz a h0).mono fun e w' ⟨v, L, h1, h2, h3, h4⟩ => ⟨v, L, h1, h2, ⟨fun h => absurd h h0, fun _ => h3⟩, h4⟩
theorem Eff.nz {J : Jn} (h : Eff J) : ∀ p ∈ J, p.1 ≠ 0 ∧ p.2 ≠ 0 := fun p hp => ⟨(h p hp).1, (h p hp).2.1⟩
end
end Go.Proofs.Ytghihhjcoilmgaa
