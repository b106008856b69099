/- May a text be a language's tag: walked. -/
import Derived.Test.YtmgaibeibfholaaDoorP7
namespace Go.Proofs.YtmgaibeibfholaaDoor
set_option maxRecDepth 100000
open Go.RowKit Go.Shelf Plain
set_option linter.unusedVariables false

theorem pc_bad {s : ByteArray} {i : Nat} (hi : i < (pieces s).length) (h : pcB i ((pieces s)[i]) = false) : false = tagB s := by
  rw [tag_pieces]
  have : decide (∀ i (h : i < (pieces s).length), pcB i ((pieces s)[i]) = true) = false := decide_eq_false (fun hh => by rw [hh i hi] at h; cases h)
  rw [this]; rfl
theorem pc_all {s : ByteArray} (h : ∀ i (hi : i < (pieces s).length), pcB i ((pieces s)[i]) = true) : tagB s = decide (s.size ≤ 35) := by
  rw [tag_pieces, decide_eq_true h]; rfl

theorem pc_false {k : Nat} {p : ByteArray} {j : Nat} (hj : j < p.size) (h : (smlB (bt p j) || (!decide (k = 0) && digB (bt p j))) = false) : pcB k p = false := by
  unfold pcB gdB
  have : ((bl p).all fun c => smlB c || (!decide (k = 0) && digB c)) = false := by
    rw [← Bool.not_eq_true, all_bt]
    intro hh
    have := hh j hj
    rw [h] at this; cases this
  rw [this]; simp
theorem pc_true {k : Nat} {p : ByteArray} {n : Nat} (hz : ¬ p.size = 0) (h : ∀ i, i < n → (smlB (bt p i) || (!decide (k = 0) && digB (bt p i))) = true) (hn : p.size ≤ n) : pcB k p = true := by
  unfold pcB gdB
  rw [(all_bt p _).2 (fun i hi => h i (by omega)), decide_eq_true hz]; rfl
theorem pieces_size {s p : ByteArray} (h : p ∈ pieces s) : p.size ≤ s.size := by
  have key : ∀ k (x : ByteArray), ∀ q ∈ Lib.splitB sep1 0 k x, q.size ≤ x.size := by
    intro k
    induction k with
    | zero => intro x q hq; simp [Lib.splitB] at hq; subst hq; exact Nat.le_refl _
    | succ k ih =>
      intro x q hq
      unfold Lib.splitB at hq
      split at hq
      · simp at hq; subst hq; exact Nat.le_refl _
      · rcases List.mem_cons.1 hq with h | h
        · subst h; rw [ByteArray.size_extract]; omega
        · have := ih _ q h
          rw [ByteArray.size_extract] at this; omega
  exact key _ s p h
theorem empty_is (p : ByteArray) : p.toList.isEmpty = decide (p.size = 0) := by
  rw [Lib.toList_data, Bool.eq_iff_iff, decide_eq_true_iff, List.isEmpty_iff, ← List.length_eq_zero_iff]
  exact Iff.rfl
set_option maxRecDepth 100000 in
set_option maxHeartbeats 1000000 in
theorem tag_any (s : ByteArray) (hs : s.size < 4294967281) (b : Bool) (hb : tagB s = b) (w : World) :
    Calls Tryd.prog 54 #[.string s] w fun e w' => e = .returned (.bool b) ∧ Below w.heap.size w w' := by
  subst hb
  go_enter Tryd.func54, Tryd.ntmps54
  go_wp2_with (go_at_call 63; refine (split_any s hs _).mono ?_; rintro e w1 ⟨rfl, hw⟩; have HW := Lib.hid hw; clear hw)
  have HB : Hid (Below w.heap.size w w1) := by rw [HW.out]; exact (Below.refl _ w).alloc (Nat.le_refl _) _
  have HC : Hid (∀ j (h : j < (pieces s).length), w1.cell? ⟨w.heap.size, j, none⟩ = some (.string (pieces s)[j])) := by
    intro j h
    rw [HW.out]
    have := cells_new w ((pieces s).map Value.string) 9 j (.string (pieces s)[j]) (by simp [h])
    have e : (⟨w.heap.size, 0, none⟩ : Addr).add j = ⟨w.heap.size, j, none⟩ := by unfold Addr.add; split <;> simp_all
    rw [e] at this; exact this
  have HP : Hid (∀ j (h : j < (pieces s).length), (pieces s)[j].size ≤ s.size) := fun j h => pieces_size (List.getElem_mem _)
  have HD : Hid (∀ i (h : i < (pieces s).length), pcB i ((pieces s)[i]) = false → false = tagB s) := fun i h hh => pc_bad h hh
  have HA := Lib.hid (fun h => pc_all (s := s) h)
  have hL : (pieces s).length ≤ 4294967281 := by
    have := Lib.splitB_length_le sep1 0 (Lib.countB s sep1) s
    have := Lib.countB_le sep1 (by decide) s.size s (Nat.le_refl _)
    unfold pieces; omega
  clear HW
  generalize pieces s = L at *
  go_loop [10] (fun n => ∃ k : Nat, k ≤ L.length ∧ n = .int .i64 k ∧ ∀ i (h : i < L.length), i < k → pcB i (L[i]) = true) (fun n => L.length - (intOf n).toNat)
  case atStart => exact ⟨0, by omega, rfl, fun i _ hi => by omega⟩
  case round =>
    obtain ⟨k, hk, rfl, hu⟩ := hrel
    have Hu := Lib.hid hu; clear hu
    by_cases hlt : k < L.length
    · have hcell := HC.out k hlt
      have hps := HP.out k hlt
      have HDk := Lib.hid (HD.out k hlt)
      obtain ⟨p, hp⟩ : ∃ p, L[k] = p := ⟨_, rfl⟩
      rw [hp] at hcell hps HDk
      have Hp := Lib.hid hp; clear hp
      have heb := empty_is p
      by_cases hz : p.size = 0
      · rw [decide_eq_true hz] at heb
        have Hz := Lib.hid hz; clear hz
        go_wp2
        go_ret
        exact ⟨retB (HDk.out (by unfold pcB; rw [Hz.out]; rfl)), HB.out⟩
      · rw [decide_eq_false hz] at heb
        have Hz := Lib.hid hz; clear hz
        go_wp2
        go_loop [19] (fun n => ∃ j : Nat, j ≤ p.size ∧ n = .int .i64 j ∧ ∀ i, i < j → (smlB (bt p i) || (!decide (k = 0) && digB (bt p i))) = true) (fun n => p.size - (intOf n).toNat)
        case atStart => exact ⟨0, by omega, rfl, fun i hi => by omega⟩
        case round =>
          obtain ⟨j, hj, rfl, hv⟩ := hrel
          have Hv := Lib.hid hv; clear hv
          by_cases hlj : j < p.size
          · have he := bt_of hlj
            have HE := Lib.hid he; clear he
            obtain ⟨y, hy⟩ : ∃ y, digB ((p[j].toNat : Nat) : Int) = y := ⟨_, rfl⟩
            have Hy := Lib.hid hy; clear hy
            by_cases hk0 : k = 0
            · have hb0 : ((k : Int) == 0) = true := by simp [hk0]
              have HK := Lib.hid hk0; clear hk0
              go_wp2_with (go_at_call 62; refine (digit_any ((p[j].toNat : Nat) : Int) _ Hy.out _).mono ?_; rintro e w' ⟨rfl, rfl⟩)
              all_goals first
                | (refine ⟨⟨j + 1, by omega, by simp, fun i hi => ?_⟩, by simp [intOf]; omega⟩
                   rcases Nat.lt_or_ge i j with h' | h'
                   · exact Hv.out i h'
                   · obtain rfl : i = j := by omega
                     rw [← HE.out]
                     have hY := Hy.out
                     first
                     | (rw [(smlB_iff _).2 (by omega)]; rfl)
                     | (rw [hY, decide_eq_false HK.out]; simp))
                | (go_ret
                   refine ⟨retB (HDk.out (pc_false hlj ?_)), HB.out⟩
                   rw [← HE.out]
                   have hY := Hy.out
                   have hs : smlB ((p[j].toNat : Nat) : Int) = false := by rw [← Bool.not_eq_true, smlB_iff]; omega
                   first
                   | (rw [hs, decide_eq_true HK.out]; rfl)
                   | (rw [hs, hY]; simp))
            · have hb0 : ((k : Int) == 0) = false := beq_eq_false_iff_ne.2 (by omega)
              have HK := Lib.hid hk0; clear hk0
              cases y
              all_goals
                go_wp2_with (go_at_call 62; refine (digit_any ((p[j].toNat : Nat) : Int) _ Hy.out _).mono ?_; rintro e w' ⟨rfl, rfl⟩)
              all_goals first
                | (refine ⟨⟨j + 1, by omega, by simp, fun i hi => ?_⟩, by simp [intOf]; omega⟩
                   rcases Nat.lt_or_ge i j with h' | h'
                   · exact Hv.out i h'
                   · obtain rfl : i = j := by omega
                     rw [← HE.out]
                     have hY := Hy.out
                     first
                     | (rw [(smlB_iff _).2 (by omega)]; rfl)
                     | (rw [hY, decide_eq_false HK.out]; simp))
                | (go_ret
                   refine ⟨retB (HDk.out (pc_false hlj ?_)), HB.out⟩
                   rw [← HE.out]
                   have hY := Hy.out
                   have hs : smlB ((p[j].toNat : Nat) : Int) = false := by rw [← Bool.not_eq_true, smlB_iff]; omega
                   first
                   | (rw [hs, decide_eq_true HK.out]; rfl)
                   | (rw [hs, hY]; simp))
          · go_wp2
            refine ⟨⟨k + 1, by omega, by simp, fun i hi hik => ?_⟩, by simp [intOf]; omega⟩
            rcases Nat.lt_or_ge i k with h' | h'
            · exact Hu.out i hi h'
            · obtain rfl : i = k := by omega
              rw [Hp.out]
              exact pc_true Hz.out Hv.out (by omega)
    · go_wp2
      go_ret
      refine ⟨retB ?_, HB.out⟩
      rw [HA.out (fun i hi => Hu.out i hi (by omega))]
      congr 1; rw [eq_iff_iff]; omega
end Go.Proofs.YtmgaibeibfholaaDoor
