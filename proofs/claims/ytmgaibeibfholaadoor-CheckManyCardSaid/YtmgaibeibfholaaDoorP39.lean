/- May programs be: the law walked. -/
import Derived.Test.YtmgaibeibfholaaDoorP37
import Derived.Test.YtmgaibeibfholaaDoorP38
namespace Go.Proofs.YtmgaibeibfholaaDoor
set_option maxRecDepth 100000
open Go.RowKit Go.Shelf Go.Maps Plain
set_option linter.unusedVariables false
set_option linter.unusedSimpArgs false
attribute [local go_sem] Oper.semAt_some

theorem progV_ok : progV 0 false = .tuple #[.agg #[.bool true], .int .i64 0] := rfl
theorem progV_neg : progV 0 true = .tuple #[.agg #[.bool false], .int .i64 0] := rfl
theorem progV_bad {e : Int} (n : Bool) (h : e ≠ 0) : progV e n = .tuple #[.agg #[.bool false], .int .i64 e] := by
  unfold progV; rw [decide_eq_false h]; rfl
set_option maxRecDepth 100000 in
set_option maxHeartbeats 4000000 in
theorem programs_any (a : Option Addr) (cap : Nat) (l : List Ru) (hl : l.length ≤ cap) (hcap : cap ≤ maxLen) (hf : ∀ r ∈ l, fitRu r) (hr : ∀ r ∈ l, fitRRu r) (w : World) (hA : RusAt w a l) :
    Calls Tryd.prog 3 #[.slice a l.length cap] w fun e w' => e = .returned (.bool true) ∧ Below w.heap.size w w' := by
  have HA := Lib.hid hA
  have hll : l.length ≤ maxLen := Nat.le_trans hl hcap
  have hbm : ∀ r ∈ l, r.body.length ≤ maxLen := fun r h => (hf r h).2.2
  have HF := Lib.hid (few_any a cap l hll hbm w hA)
  have HP := Lib.hid (prog_any a cap l hl hcap hf w hA)
  have HR := Lib.hid (fun W h => rprog_any a cap l hll hr W h)
  have HN := Lib.hid (fun W h => rneg_any a cap l hll hbm W h)
  have HM := Lib.hid (fun W h => neg_any a cap l hll hbm W h)
  obtain ⟨fb, hfb⟩ : ∃ b, fewB l = b := ⟨_, rfl⟩
  obtain ⟨e0, he⟩ : ∃ b, progE l = b := ⟨_, rfl⟩
  obtain ⟨n0, hn⟩ : ∃ b, negs l = b := ⟨_, rfl⟩
  have Hfb := Lib.hid hfb; have He := Lib.hid he; have Hn := Lib.hid hn
  clear hfb he hn hA hf hr hbm
  unfold maxLen at hcap hll
  go_enter Tryd.func3, Tryd.ntmps3
  cases fb
  · go_wp2_with (first
      | (go_at_call 6; refine HF.out.mono ?_; rintro e w1 ⟨rfl, rfl⟩; rw [Hfb.out])
      | (go_at_call 7; refine (known_any _).mono ?_; rintro e w2 ⟨rfl, hB⟩; have HB := Lib.hid hB; clear hB))
    go_ret
    exact ⟨rfl, HB.out⟩
  · by_cases hz : e0 = 0
    · subst hz
      have q1 : ((0 : Int) == 0) = true := rfl
      cases n0
      · go_wp2_with (first
          | (go_at_call 6; refine HF.out.mono ?_; rintro e w1 ⟨rfl, rfl⟩; rw [Hfb.out])
          | (go_at_call 8; refine HP.out.mono ?_; rintro e w1 ⟨rfl, hB⟩; rw [He.out, Hn.out, progV_ok];
              have hbM := below_alloc (w := w1) (.cells #[.bool true] 26);
              have Hm := Lib.hid (World.alloc_heap_new w1 (.cells #[.bool true] 26)); have Hlt := Lib.hid (show w1.heap.size < (w1.alloc (.cells #[.bool true] 26)).heap.size by simp);
              have HB1 := Lib.hid (below_seq hB hbM hB.size); clear hB hbM)
          | (go_at_call 9; refine (HR.out _ (HA.out.below HB1.out)).mono ?_; rintro e w2 ⟨rfl, hB⟩; rw [He.out];
              have HB2 := Lib.hid (below_seq HB1.out hB HB1.out.size); obtain ⟨hcm, hcf⟩ := box_at ((hB.block _ Hlt.out).trans Hm.out) rfl; clear hB)
          | (go_at_call 10; refine (HN.out _ (HA.out.below HB2.out)).mono ?_; rintro e w3 ⟨rfl, rfl⟩; rw [Hn.out])
          | (go_at_call 11; refine (HM.out _ (HA.out.below HB2.out)).mono ?_; rintro e w4 ⟨rfl, hB⟩; rw [Hn.out]; have HB4 := Lib.hid (below_seq HB2.out hB HB2.out.size); clear hB)
          | (go_at_call 7; refine (known_any _).mono ?_; rintro e w5 ⟨rfl, hB⟩; have HB5 := Lib.hid (below_seq HB4.out hB HB4.out.size); clear hB))
        go_ret
        exact ⟨rfl, HB5.out⟩
      · go_wp2_with (first
          | (go_at_call 6; refine HF.out.mono ?_; rintro e w1 ⟨rfl, rfl⟩; rw [Hfb.out])
          | (go_at_call 8; refine HP.out.mono ?_; rintro e w1 ⟨rfl, hB⟩; rw [He.out, Hn.out, progV_neg];
              have hbM := below_alloc (w := w1) (.cells #[.bool false] 26);
              have Hm := Lib.hid (World.alloc_heap_new w1 (.cells #[.bool false] 26)); have Hlt := Lib.hid (show w1.heap.size < (w1.alloc (.cells #[.bool false] 26)).heap.size by simp);
              have HB1 := Lib.hid (below_seq hB hbM hB.size); clear hB hbM)
          | (go_at_call 9; refine (HR.out _ (HA.out.below HB1.out)).mono ?_; rintro e w2 ⟨rfl, hB⟩; rw [He.out];
              have HB2 := Lib.hid (below_seq HB1.out hB HB1.out.size); obtain ⟨hcm, hcf⟩ := box_at ((hB.block _ Hlt.out).trans Hm.out) rfl; clear hB)
          | (go_at_call 10; refine (HN.out _ (HA.out.below HB2.out)).mono ?_; rintro e w3 ⟨rfl, rfl⟩; rw [Hn.out])
          | (go_at_call 11; refine (HM.out _ (HA.out.below HB2.out)).mono ?_; rintro e w4 ⟨rfl, hB⟩; rw [Hn.out]; have HB4 := Lib.hid (below_seq HB2.out hB HB2.out.size); clear hB)
          | (go_at_call 7; refine (known_any _).mono ?_; rintro e w5 ⟨rfl, hB⟩; have HB5 := Lib.hid (below_seq HB4.out hB HB4.out.size); clear hB))
        go_ret
        exact ⟨rfl, HB5.out⟩
    · have q1 : (e0 == 0) = false := beq_eq_false_iff_ne.2 hz
      have q3 : (e0 == e0) = true := beq_iff_eq.2 rfl
      have Hz := Lib.hid hz; clear hz
      cases n0
      · go_wp2_with (first
          | (go_at_call 6; refine HF.out.mono ?_; rintro e w1 ⟨rfl, rfl⟩; rw [Hfb.out])
          | (go_at_call 8; refine HP.out.mono ?_; rintro e w1 ⟨rfl, hB⟩; rw [He.out, Hn.out, progV_bad _ Hz.out];
              have hbM := below_alloc (w := w1) (.cells #[.bool false] 26);
              have Hm := Lib.hid (World.alloc_heap_new w1 (.cells #[.bool false] 26)); have Hlt := Lib.hid (show w1.heap.size < (w1.alloc (.cells #[.bool false] 26)).heap.size by simp);
              have HB1 := Lib.hid (below_seq hB hbM hB.size); clear hB hbM)
          | (go_at_call 9; refine (HR.out _ (HA.out.below HB1.out)).mono ?_; rintro e w2 ⟨rfl, hB⟩; rw [He.out];
              have HB2 := Lib.hid (below_seq HB1.out hB HB1.out.size); obtain ⟨hcm, hcf⟩ := box_at ((hB.block _ Hlt.out).trans Hm.out) rfl; clear hB)
          | (go_at_call 10; refine (HN.out _ (HA.out.below HB2.out)).mono ?_; rintro e w3 ⟨rfl, rfl⟩; rw [Hn.out])
          | (go_at_call 11; refine (HM.out _ (HA.out.below HB2.out)).mono ?_; rintro e w4 ⟨rfl, hB⟩; rw [Hn.out]; have HB4 := Lib.hid (below_seq HB2.out hB HB2.out.size); clear hB)
          | (go_at_call 7; refine (known_any _).mono ?_; rintro e w5 ⟨rfl, hB⟩; have HB5 := Lib.hid (below_seq HB4.out hB HB4.out.size); clear hB))
        go_ret
        exact ⟨rfl, HB5.out⟩
      · go_wp2_with (first
          | (go_at_call 6; refine HF.out.mono ?_; rintro e w1 ⟨rfl, rfl⟩; rw [Hfb.out])
          | (go_at_call 8; refine HP.out.mono ?_; rintro e w1 ⟨rfl, hB⟩; rw [He.out, Hn.out, progV_bad _ Hz.out];
              have hbM := below_alloc (w := w1) (.cells #[.bool false] 26);
              have Hm := Lib.hid (World.alloc_heap_new w1 (.cells #[.bool false] 26)); have Hlt := Lib.hid (show w1.heap.size < (w1.alloc (.cells #[.bool false] 26)).heap.size by simp);
              have HB1 := Lib.hid (below_seq hB hbM hB.size); clear hB hbM)
          | (go_at_call 9; refine (HR.out _ (HA.out.below HB1.out)).mono ?_; rintro e w2 ⟨rfl, hB⟩; rw [He.out];
              have HB2 := Lib.hid (below_seq HB1.out hB HB1.out.size); obtain ⟨hcm, hcf⟩ := box_at ((hB.block _ Hlt.out).trans Hm.out) rfl; clear hB)
          | (go_at_call 10; refine (HN.out _ (HA.out.below HB2.out)).mono ?_; rintro e w3 ⟨rfl, rfl⟩; rw [Hn.out])
          | (go_at_call 11; refine (HM.out _ (HA.out.below HB2.out)).mono ?_; rintro e w4 ⟨rfl, hB⟩; rw [Hn.out]; have HB4 := Lib.hid (below_seq HB2.out hB HB2.out.size); clear hB)
          | (go_at_call 7; refine (known_any _).mono ?_; rintro e w5 ⟨rfl, hB⟩; have HB5 := Lib.hid (below_seq HB4.out hB HB4.out.size); clear hB))
        go_ret
        exact ⟨rfl, HB5.out⟩
end Go.Proofs.YtmgaibeibfholaaDoor
