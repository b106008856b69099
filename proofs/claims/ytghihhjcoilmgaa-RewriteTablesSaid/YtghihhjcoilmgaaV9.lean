/- The choice of a pivot, walked. -/
import Derived.Test.YtghihhjcoilmgaaV3
namespace Go.Proofs.Ytghihhjcoilmgaa
set_option maxRecDepth 100000
open Go.RowKit Go.Maps Go.Sort
set_option linter.unusedVariables false
set_option linter.unusedSimpArgs false

def hintC : Hint → Int
  | .unknown => 0
  | .increasing => 1
  | .decreasing => 2
theorem quarter_is {a b : Nat} (hab : a < b) : ((b : Int) - (a : Int)).tdiv 4 = (((b - a) / 4 : Nat) : Int) := by
  rw [show (b : Int) - (a : Int) = ((b - a : Nat) : Int) by omega]
  rw [Int.tdiv_eq_ediv_of_nonneg (by omega)]
  omega
section
variable {w : World} {g n cap : Nat} {d : Array Int}
set_option maxRecDepth 100000 in
set_option maxHeartbeats 8000000 in
theorem choosePivot_u (h : IsA w g n cap d) (hn6 : n ≤ 1000000) (a b : Nat) (hab : a + 8 ≤ b) (hb : b ≤ n) : Calls Try.prog 57 #[.slice (some ⟨g, 0, none⟩) n cap, .int .i64 (a : Nat), .int .i64 (b : Nat)] w fun e w' => e = .returned (.tuple #[.int .i64 ((choosePivot ltInt d a b).1 : Nat), .int .i64 (hintC (choosePivot ltInt d a b).2)]) ∧ Below w.heap.size w w' := by
  have hq4 := quarter_is (a := a) (b := b) (by omega)
  obtain ⟨q, hq⟩ : ∃ q, (b - a) / 4 = q := ⟨_, rfl⟩
  rw [hq] at hq4
  have hq4w : IntKind.i64.wrap (((b : Int) - (a : Int)).tdiv 4) = (q : Int) := by rw [hq4]; exact i64w (by omega) (by omega)
  have hB0 : Below w.heap.size w (w.alloc (.cells #[.int .i64 0] 3)) := (Below.refl _ w).alloc (Nat.le_refl _) _
  have hs0 := heap_alloc_new w (.cells #[.int .i64 0] 3)
  have hne : g ≠ w.heap.size := by have := h.lt; omega
  have HA0 := Lib.hid (h.below hB0)
  have Hs0 := Lib.hid (show (w.alloc (.cells #[.int .i64 0] 3)).heap[w.heap.size]? = some (.cells #[.int .i64 ((0 : Nat) : Int)] 3 (0, 0)) from hs0)
  have HB0 := Lib.hid hB0
  have Hq := Lib.hid hq
  have hb8 : a + q * 4 ≤ b ∧ 2 ≤ q := by omega
  obtain ⟨hb8, hq2⟩ := hb8
  have hd8 : decide ((b : Int) - (a : Int) ≥ 8) = true := by simp; omega
  have hd8' : decide ((8 : Int) ≤ (b : Int) - (a : Int)) = true := by simp; omega
  have ends : ∀ (w' : World), TnA (w.alloc (.cells #[.int .i64 0] 3)) w' w.heap.size → Below w.heap.size w w' := fun w' ht =>
    ⟨ht.os.trans HB0.out.os, ht.tape.trans HB0.out.tape, ht.output.trans HB0.out.output, Nat.le_trans HB0.out.size ht.size, fun i hi => (ht.same i (Nat.lt_of_lt_of_le hi HB0.out.size) (by omega)).trans (HB0.out.block i hi)⟩
  have Ends := Lib.hid ends
  have HT0 := Lib.hid (TnA.refl (w.alloc (.cells #[.int .i64 0] 3)) w.heap.size)
  clear h hB0 hs0 hq ends
  by_cases h50 : 50 ≤ b - a
  · have hd50 : decide ((b : Int) - (a : Int) ≥ 50) = true := by simp; omega
    have hd50' : decide ((50 : Int) ≤ (b : Int) - (a : Int)) = true := by simp; omega
    obtain ⟨⟨i1, s1⟩, h1⟩ : ∃ x, medianAdjacent ltInt d (a + q) 0 = x := ⟨_, rfl⟩
    obtain ⟨l1, k1⟩ := median_lt (d := d) (a := a + q - 1) (b := a + q) (c := a + q + 1) (s := 0) (n := n) (by omega) (by omega) (by omega)
    rw [show median ltInt d (a + q - 1) (a + q) (a + q + 1) 0 = (i1, s1) from h1] at l1 k1
    obtain ⟨⟨i2, s2⟩, h2⟩ : ∃ x, medianAdjacent ltInt d (a + q * 2) s1 = x := ⟨_, rfl⟩
    obtain ⟨l2, k2⟩ := median_lt (d := d) (a := a + q * 2 - 1) (b := a + q * 2) (c := a + q * 2 + 1) (s := s1) (n := n) (by omega) (by omega) (by omega)
    rw [show median ltInt d (a + q * 2 - 1) (a + q * 2) (a + q * 2 + 1) s1 = (i2, s2) from h2] at l2 k2
    obtain ⟨⟨i3, s3⟩, h3⟩ : ∃ x, medianAdjacent ltInt d (a + q * 3) s2 = x := ⟨_, rfl⟩
    obtain ⟨l3, k3⟩ := median_lt (d := d) (a := a + q * 3 - 1) (b := a + q * 3) (c := a + q * 3 + 1) (s := s2) (n := n) (by omega) (by omega) (by omega)
    rw [show median ltInt d (a + q * 3 - 1) (a + q * 3) (a + q * 3 + 1) s2 = (i3, s3) from h3] at l3 k3
    obtain ⟨⟨p, s4⟩, h4⟩ : ∃ x, median ltInt d i1 i2 i3 s3 = x := ⟨_, rfl⟩
    have hcp : choosePivot ltInt d a b = (p, if s4 = 0 then .increasing else if s4 = 12 then .decreasing else .unknown) := by
      unfold choosePivot
      simp only [Hq.out, if_pos (show b - a ≥ 8 by omega), if_pos (show b - a ≥ 50 from h50), Nat.mul_one, h1, h2, h3, h4]
    rw [hcp]
    simp only at l1 k1 l2 k2 l3 k3
    have H1 := Lib.hid h1; have H2 := Lib.hid h2; have H3 := Lib.hid h3; have H4 := Lib.hid h4
    clear h1 h2 h3 h4 hcp
    go_enter Try.func57, Try.ntmps57
    go_wp2_with fail
    clear hq4 hq4w
    have hc := medianAdj_u HA0.out hn6 (a + q) w.heap.size 0 (by omega) (by omega) Hs0.out (by omega)
    rw [H1.out] at hc
    push_cast at hc
    refine hc.mono ?_
    rintro e w1 ⟨rfl, hs, ht⟩
    have Hs1 := Lib.hid hs; have HT1 := Lib.hid (HT0.out.trans ht); have HA1 := Lib.hid (HA0.out.stay (ht.same g HA0.out.lt hne))
    clear hs ht hc
    go_wp2_with fail
    have hc := medianAdj_u HA1.out hn6 (a + q * 2) w.heap.size s1 (by omega) (by omega) Hs1.out (by omega)
    rw [H2.out] at hc
    push_cast at hc
    refine hc.mono ?_
    rintro e w2 ⟨rfl, hs, ht⟩
    have Hs2 := Lib.hid hs; have HT2 := Lib.hid (HT1.out.trans ht); have HA2 := Lib.hid (HA1.out.stay (ht.same g HA1.out.lt hne))
    clear hs ht hc
    go_wp2_with fail
    have hc := medianAdj_u HA2.out hn6 (a + q * 3) w.heap.size s2 (by omega) (by omega) Hs2.out (by omega)
    rw [H3.out] at hc
    push_cast at hc
    refine hc.mono ?_
    rintro e w3 ⟨rfl, hs, ht⟩
    have Hs3 := Lib.hid hs; have HT3 := Lib.hid (HT2.out.trans ht); have HA3 := Lib.hid (HA2.out.stay (ht.same g HA2.out.lt hne))
    clear hs ht hc
    go_wp2_with fail
    have hc := median_u HA3.out hn6 i1 i2 i3 w.heap.size s3 (by omega) (by omega) (by omega) Hs3.out (by omega)
    rw [H4.out] at hc
    refine hc.mono ?_
    rintro e w4 ⟨rfl, hs4, ht4⟩
    have HB4 := Lib.hid (Ends.out w4 (HT3.out.trans ht4))
    have cs : w4.cell? ⟨w.heap.size, 0, none⟩ = some (.int .i64 (s4 : Nat)) := by unfold World.cell?; rw [hs4]; rfl
    clear hs4 ht4 hc
    by_cases hz : s4 = 0
    · subst hz
      go_wp2_with fail
      go_ret2
      exact ⟨rfl, HB4.out⟩
    · have hz1 : ((s4 : Int) == 0) = false := by simp; omega
      by_cases ht : s4 = 12
      · subst ht
        go_wp2_with fail
        go_ret2
        exact ⟨rfl, HB4.out⟩
      · have hz2 : ((s4 : Int) == 12) = false := by simp; omega
        go_wp2_with fail
        go_ret2
        exact ⟨by first | rfl | (simp [hz, ht, hintC]; done), HB4.out⟩
  · have hd50 : decide ((b : Int) - (a : Int) ≥ 50) = false := by simp; omega
    have hd50' : decide ((50 : Int) ≤ (b : Int) - (a : Int)) = false := by simp; omega
    obtain ⟨⟨p, s4⟩, h4⟩ : ∃ x, median ltInt d (a + q) (a + q * 2) (a + q * 3) 0 = x := ⟨_, rfl⟩
    have hcp : choosePivot ltInt d a b = (p, if s4 = 0 then .increasing else if s4 = 12 then .decreasing else .unknown) := by
      unfold choosePivot
      simp only [Hq.out, if_pos (show b - a ≥ 8 by omega), if_neg (show ¬ b - a ≥ 50 from h50), Nat.mul_one, h4]
    rw [hcp]
    have H4 := Lib.hid h4
    have HT3 := HT0
    clear h4 hcp
    go_enter Try.func57, Try.ntmps57
    go_wp2_with fail
    clear hq4 hq4w
    have hc := median_u HA0.out hn6 (a + q) (a + q * 2) (a + q * 3) w.heap.size 0 (by omega) (by omega) (by omega) Hs0.out (by omega)
    rw [H4.out] at hc
    push_cast at hc
    refine hc.mono ?_
    rintro e w4 ⟨rfl, hs4, ht4⟩
    have HB4 := Lib.hid (Ends.out w4 (HT3.out.trans ht4))
    have cs : w4.cell? ⟨w.heap.size, 0, none⟩ = some (.int .i64 (s4 : Nat)) := by unfold World.cell?; rw [hs4]; rfl
    clear hs4 ht4 hc
    by_cases hz : s4 = 0
    · subst hz
      go_wp2_with fail
      go_ret2
      exact ⟨rfl, HB4.out⟩
    · have hz1 : ((s4 : Int) == 0) = false := by simp; omega
      by_cases ht : s4 = 12
      · subst ht
        go_wp2_with fail
        go_ret2
        exact ⟨rfl, HB4.out⟩
      · have hz2 : ((s4 : Int) == 12) = false := by simp; omega
        go_wp2_with fail
        go_ret2
        exact ⟨by first | rfl | (simp [hz, ht, hintC]; done), HB4.out⟩
end
end Go.Proofs.Ytghihhjcoilmgaa
