/- Layer 14: bindings that come out, in plain words. -/
import Derived.Test.YtkgkkbfpkgfcaaaJ24
namespace Go.Proofs.Ytkgkkbfpkgfcaaa
set_option maxRecDepth 100000
open Go.RowKit Go.Maps
set_option linter.unusedVariables false
set_option linter.unusedSimpArgs false

theorem evs_len (T : TS) : ∀ (ss : List (StepT × Vw)) (L : List Int), ∀ b ∈ outsE (evs T ss L), b.length = L.length
  | [], L, b, hb => by
    simp only [evs, outsE, List.filterMap_cons, id_eq, List.filterMap_nil, List.mem_singleton] at hb
    rw [hb]
  | (s, v) :: t, L, b, hb => by
    unfold evs at hb
    split at hb
    · simp only [outsE, List.filterMap_flatMap, List.mem_flatMap] at hb
      obtain ⟨r, _, hb⟩ := hb
      simp only [List.filterMap_cons, id_eq] at hb
      split at hb
      · have := evs_len T t _ b hb
        rw [this, (bindP_keep _ _).1]
      · simp at hb
    · split at hb
      · exact evs_len T t L b hb
      · simp [outsE] at hb
theorem runOuts_b {T : TS} {vars : Int} {steps : List StepT} {views : List Vw} (h : PlanOK T vars steps views) : ∀ b ∈ runOuts T vars steps views, b.length ≤ 1000000 := by
  intro b hb
  unfold runOuts at hb
  split at hb
  · have h1 := evs_len T _ _ b hb
    have h2 := h.vle
    rw [h1, List.length_replicate]
    omega
  · simp at hb
theorem equal_yes {w : World} (a a' : Option Addr) (cap cap' : Nat) (L : List Int) (h : IsU w a L) (h' : IsU w a' L) (hl : L.length ≤ 1000000) :
    Calls Try.prog 12 #[.slice a L.length cap, .slice a' L.length cap'] w fun e w' => e = .returned (.bool true) ∧ Below w.heap.size w w' :=
  (equal_any a a' cap cap' L L h h' hl).mono fun e w' ⟨he, hb⟩ => ⟨by rw [he]; simp, hb⟩
theorem IsOut.u {B : Nat} {W : World} {sv : Value} {b : List Int} (h : IsOut B W sv b) : ∃ a cap, sv = .slice a b.length cap ∧ IsU W a b := by
  rcases own_cellsJ h with ⟨h1, h0⟩ | ⟨g, cap, h1, _, _, _, ⟨cur, h4, _⟩, h6⟩
  · exact ⟨none, 0, by rw [h1, h0], fun j hj => by omega⟩
  · exact ⟨_, cap, h1, fun j hj => ⟨g, 0, rfl, (Array.getElem?_eq_some_iff.1 h4).1, by rw [Nat.zero_add]; exact (h6 j _ (by simp [uvs, hj])).1⟩⟩
theorem IsOuts.at {B : Nat} {W : World} {sv : Value} {l : List OutT} (h : IsOuts B W sv l) (j : Nat) (hj : j < l.length) : ∃ g cap, sv = .slice (some ⟨g, 0, none⟩) l.length cap ∧ W.cell? ⟨g, j, none⟩ = some l[j].1 := by
  rcases own_cellsJ h.1 with ⟨h1, h0⟩ | ⟨g, cap, h1, _, _, _, _, h6⟩
  · omega
  · exact ⟨g, cap, h1, (h6 j _ (by simp [hj])).1⟩
end Go.Proofs.Ytkgkkbfpkgfcaaa
