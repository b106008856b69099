/- slices.Sort of a row of the call's own: its numbers, rising. -/
import Derived.Test.YtghihhjcoilmgaaV13
import Derived.RangeFuncBox
import Derived.RegionDies
namespace Go.Proofs.Ytghihhjcoilmgaa
set_option maxRecDepth 100000
open Go.RowKit Go.Maps Go.Sort
set_option linter.unusedVariables false
set_option linter.unusedSimpArgs false

/-- a slice of the call's own, beyond base, that holds the numbers L -/
def OwnU (base : Nat) (w : World) (v : Value) (L : List Int) : Prop := w.ownsRow base 31 1 v L.length (L.map (Value.int .u32))
def srt (L : List Int) : List Int := L.mergeSort (fun x y => decide (x ≤ y))
theorem srt_len (L : List Int) : (srt L).length = L.length := List.length_mergeSort L
theorem srt_perm (L : List Int) : (srt L).Perm L := List.mergeSort_perm L _
section
variable {w : World} {g n cap base : Nat} {d : Array Int}
theorem OwnU.isA {v : Value} {L : List Int} (h : OwnU base w v L) : (v = .slice none 0 0 ∧ L = []) ∨ ∃ g cap, v = .slice (some ⟨g, 0, none⟩) L.length cap ∧ base ≤ g ∧ IsA w g L.length cap L.toArray := by
  rcases h.2 with ⟨rfl, h0⟩ | ⟨g, cap, cur, rfl, hb, hg, hn, hc, hs, ht⟩
  · exact .inl ⟨rfl, List.eq_nil_of_length_eq_zero h0⟩
  · refine .inr ⟨g, cap, rfl, hb, by simp, hn, hc, cur, hg, by rw [hs]; omega, fun j hj => ?_⟩
    have h1 : (cur.toList.take (L.length * 1))[j]? = some (.int .u32 L[j]) := by rw [ht]; simp [hj]
    rw [List.getElem?_take_of_lt (by omega)] at h1
    rw [← Array.getElem?_toList, h1]
    simp [hj]
theorem IsA.own {L : List Int} (h : IsA w g n cap L.toArray) (hb : base ≤ g) : OwnU base w (.slice (some ⟨g, 0, none⟩) L.length cap) L := by
  obtain ⟨cur, h1, h2, h3⟩ := h.cells
  have hn : L.length = n := by simpa using h.size
  refine ⟨by simp, .inr ⟨g, cap, cur, rfl, hb, h1, by rw [hn]; exact h.le, h.lem, by rw [h2]; omega, ?_⟩⟩
  apply List.ext_getElem?
  intro j
  by_cases hj : j < n
  · rw [List.getElem?_take_of_lt (by omega), Array.getElem?_toList, h3 j hj]
    simp [show j < L.length by omega]
  · rw [List.getElem?_eq_none (by simp; omega), List.getElem?_eq_none (by simp; omega)]
theorem TnA.lower {w' : World} (h : TnA w w' g) (hb : base ≤ g) (hw : base ≤ w.heap.size) : Below base w w' := ⟨h.os, h.tape, h.output, h.size, fun i hi => h.same i (by omega) (by omega)⟩
set_option maxRecDepth 100000 in
theorem insertion_nil (w : World) : Calls Try.prog 54 #[.slice none 0 0, .int .i64 0, .int .i64 0] w fun e w' => e = .returned (.tuple #[]) ∧ w = w' := by
  go_enter Try.func54, Try.ntmps54
  go_wp2_with fail
  go_loopw [6] (fun u wr => u = .int .i64 1 ∧ wr = w) (fun _ _ => 0)
  case atStart => exact ⟨rfl, rfl⟩
  case round =>
    obtain ⟨rfl, rfl⟩ := hrel
    go_wp2_with fail
    (try simp only [Exit.inBlock, Exit.then]); refine bodyPost_end (results_none rfl _ _ _) rfl ?_
    exact ⟨rfl, rfl⟩
set_option maxRecDepth 100000 in
theorem pdq_nil (w : World) : Calls Try.prog 52 #[.slice none 0 0, .int .i64 0, .int .i64 0, .int .i64 0] w fun e w' => e = .returned (.tuple #[]) ∧ w = w' := by
  go_enter Try.func52, Try.ntmps52
  go_wp2_with fail
  go_loopg [1, 2, 3, 8, 9] (0 : Nat) (fun k s1 s2 s3 s8 s9 wr => s1 = .int .i64 0 ∧ s2 = .int .i64 0 ∧ s3 = .int .i64 0 ∧ s8 = .bool true ∧ s9 = .bool true ∧ wr = w)
  case atStart => exact ⟨rfl, rfl, rfl, rfl, rfl, rfl⟩
  case round =>
    obtain ⟨rfl, rfl, rfl, rfl, rfl, rfl⟩ := hrel
    go_wp2_with fail
    refine (insertion_nil _).mono ?_
    rintro e w' ⟨rfl, rfl⟩
    go_wp2_with fail
    (try simp only [Exit.inBlock, Exit.then]); refine bodyPost_ret (results_none rfl _ _ _) rfl ?_
    exact ⟨rfl, rfl⟩
set_option maxRecDepth 100000 in
theorem sort_nil (w : World) : Calls Try.prog 49 #[.slice none 0 0] w fun e w' => e = .returned (.tuple #[]) ∧ w = w' := by
  have hl : Calls Try.prog 53 #[.int .u64 0] w fun e w' => e = .returned (.int .i64 0) ∧ w = w' := by
    have := len_u (w := w) 0 (by omega)
    rwa [show bitsLen 0 = 0 by decide] at this
  go_enter Try.func49, Try.ntmps49
  go_wp2_with fail
  refine hl.mono ?_
  rintro e w' ⟨rfl, rfl⟩
  go_wp2_with fail
  refine (pdq_nil _).mono ?_
  rintro e w' ⟨rfl, rfl⟩
  go_wp2_with fail
  (try simp only [Exit.inBlock, Exit.then]); refine bodyPost_end (results_none rfl _ _ _) rfl ?_
  exact ⟨rfl, rfl⟩
set_option maxRecDepth 100000 in
theorem sort_u (h : IsA w g n cap d) (hn6 : n < 256) : Calls Try.prog 49 #[.slice (some ⟨g, 0, none⟩) n cap] w fun e w' => e = .returned (.tuple #[]) ∧ IsA w' g n cap (Sort.sort ltInt d) ∧ TnA w w' g := by
  have hu : IntKind.u64.wrap (n : Int) = (n : Int) := IntWalk.u64_in _ (by omega)
  have hk := bitsLen_le (x := n) hn6
  have hp := pdq_u hn6 (n + 1) 0 n (bitsLen n) d w (by omega) h (by omega) (by omega) (by omega) (.inl rfl)
  have hs : Sort.sort ltInt d = pdq ltInt d 0 n (bitsLen n) true true := by unfold Sort.sort; rw [h.size]
  rw [hs]
  have hp := Lib.hid hp
  clear h hs
  go_enter Try.func49, Try.ntmps49
  go_wp2_with fail
  refine (len_u n hn6).mono ?_
  rintro e w' ⟨rfl, rfl⟩
  go_wp2_with fail
  refine hp.out.mono ?_
  rintro e w' ⟨rfl, h1, h2⟩
  go_wp2_with fail
  (try simp only [Exit.inBlock, Exit.then]); refine bodyPost_end (results_none rfl _ _ _) rfl ?_
  exact ⟨rfl, h1, h2⟩
theorem sort_own {v : Value} {L : List Int} (h : OwnU base w v L) (hb : base ≤ w.heap.size) (hn : L.length < 256) : Calls Try.prog 49 #[v] w fun e w' => e = .returned (.tuple #[]) ∧ OwnU base w' v (srt L) ∧ Below base w w' := by
  rcases h.isA with ⟨rfl, rfl⟩ | ⟨g, cap, rfl, hg, hA⟩
  · exact (sort_nil w).mono fun e w' ⟨h1, h2⟩ => ⟨h1, by subst h2; simpa [srt] using h, by subst h2; exact Below.refl _ _⟩
  · refine (sort_u hA hn).mono fun e w' ⟨h1, h2, h3⟩ => ⟨h1, ?_, h3.lower hg hb⟩
    have h4 : Sort.sort ltInt L.toArray = (srt L).toArray := by
      have := sortInt L
      rw [← Array.toList_inj, this]
      rfl
    rw [h4] at h2
    have := h2.own hg
    rwa [srt_len] at this

end
end Go.Proofs.Ytghihhjcoilmgaa
