/- Are two lists the same; a clique, whatever the number; the chapter's rows. -/
import Derived.Test.YtghihhjcoilmgaaQ9
namespace Go.Proofs.Ytghihhjcoilmgaa
set_option maxRecDepth 100000
open Go.RowKit Go.Maps
set_option linter.unusedVariables false
set_option linter.unusedSimpArgs false

section
variable {w : World}
theorem srt_cl {J : Jn} {a : Int} {L : List Int} (hn : L.Nodup) (hm : ∀ b, b ∈ L ↔ Conn J a b) : IsCl J a (srt L) := by
  refine ⟨?_, fun b => (List.Perm.mem_iff (srt_perm L)).trans (hm b)⟩
  have hs : (srt L).Pairwise (fun x y => decide (x ≤ y) = true) := List.pairwise_mergeSort (fun a b c h1 h2 => by simp at *; omega) (fun a b => by simp; omega) L
  have hd : (srt L).Pairwise (fun x y => x ≠ y) := (srt_perm L).nodup_iff.2 hn
  exact (hs.and hd).imp fun ⟨h1, h2⟩ => by simp at h1; omega
/-- a number's clique: none for 0, else all that it is joined with -/
def ClL (J : Jn) (x : Int) (L : List Int) : Prop := (x = 0 → L = []) ∧ (x ≠ 0 → IsCl J x L)
theorem ClL.unique {J K : Jn} {x : Int} {L M : List Int} (h : ClL J x L) (k : ClL K x M) (hc : ∀ a b, Conn J a b ↔ Conn K a b) : L = M := by
  by_cases h0 : x = 0
  · rw [h.1 h0, k.1 h0]
  · exact (h.2 h0).unique ((k.2 h0).move fun b => (hc x b).symm)
theorem ClL.len {J : Jn} {x : Int} {L : List Int} (h : ClL J x L) : L.length ≤ 2 * J.length + 1 := by
  by_cases h0 : x = 0
  · rw [h.1 h0]; simp
  · exact conn_len (h.2 h0).srt.nodup fun b hb => ((h.2 h0).mem b).1 hb
theorem clique_any {pb mf mc : Nat} {f : Int → Option Int} {c : Int → Option (List Int)} {J : Jn} (h : IsP w pb mf mc f c) (hI : PInv J f c) (hJ : ∀ p ∈ J, is32 p.1 ∧ is32 p.2) (hJl : J.length ≤ 100) {a : Int} (ha : is32 a) :
    Calls Try.prog 31 #[.pointer (some ⟨pb, 0, none⟩), .int .u32 a] w fun e w' => ∃ v L, e = .returned v ∧ OwnU w.heap.size w' v L ∧ ClL J a L ∧ Below w.heap.size w w' := by
  by_cases h0 : a = 0
  · subst h0
    exact (cliqueP_zero _ rfl).mono fun e w' ⟨h1, h2⟩ => by subst h2; exact ⟨_, [], h1, World.ownsRow_nil _ _ _ _, ⟨fun _ => rfl, fun h => absurd rfl h⟩, Below.refl _ _⟩
  · obtain ⟨nd, hm⟩ := hI.list a
    have hl := conn_len nd (fun b hb => (hm b).1 hb)
    exact (cliqueP_u h ha h0 ((hI.find a).1.is32 hJ ha) (by omega)).mono fun e w' ⟨v, h1, h2, h3⟩ => ⟨v, _, h1, h2, ⟨fun h => absurd h h0, fun _ => srt_cl nd hm⟩, h3⟩

/-! the chapter's rows -/
theorem k1_cl : IsCl [(5, 3)] 5 [3, 5] := by
  refine ⟨by simp [Srt], fun b => ⟨fun h => ?_, fun h => closed_all (by simp) (fun j hj => ?_) h⟩⟩
  · have e : Conn [(5, 3)] 5 3 := .edge ⟨(5, 3), by simp, by simp, by simp, .inl rfl⟩
    simp at h
    rcases h with rfl | rfl
    · exact e
    · exact .refl _
  · have hj0 : j = 0 := by simp at hj; omega
    subst hj0
    simp
theorem k2_cl : IsCl [(5, 3), (3, 9)] 5 [3, 5, 9] := by
  refine ⟨by simp [Srt], fun b => ⟨fun h => ?_, fun h => closed_all (by simp) (fun j hj => ?_) h⟩⟩
  · have e : Conn [(5, 3), (3, 9)] 5 3 := .edge ⟨(5, 3), by simp, by simp, by simp, .inl rfl⟩
    have e2 : Conn [(5, 3), (3, 9)] 3 9 := .edge ⟨(3, 9), by simp, by simp, by simp, .inl rfl⟩
    simp at h
    rcases h with rfl | rfl | rfl
    · exact e
    · exact .refl _
    · exact e.trans e2
  · have hj0 : j = 0 ∨ j = 1 := by simp at hj; omega
    rcases hj0 with rfl | rfl <;> simp
theorem find_cl {J : Jn} {f : Int → Option Int} {c : Int → Option (List Int)} (hI : PInv J f c) {a r : Int} {L : List Int} (h : IsCl J a (r :: L)) : findP f a = r := by
  obtain ⟨h1, h2⟩ := hI.find a
  have h3 := h2 r ((h.mem r).1 (by simp))
  rcases List.mem_cons.1 ((h.mem _).2 h1) with e | e
  · exact e
  · have := (List.pairwise_cons.1 h.srt).1 _ e
    omega
end
end Go.Proofs.Ytghihhjcoilmgaa
