/- Are two rules the same: walked. -/
import Derived.Test.YtmgaibeibfholaaDoorP20
namespace Go.Proofs.YtmgaibeibfholaaDoor
set_option maxRecDepth 100000
open Go.RowKit Go.Shelf Go.Maps Plain
set_option linter.unusedVariables false

def pnW (l : Pn) : Value := .agg (pnC l).toArray
theorem load_pnW {w : World} {g p : Nat} {l : Pn} (h : CellsAt w g p (pnC l)) : (loadVar 40 ⟨g, p, none⟩).run Tryd.prog w = .ok (pnW l) w := load_pn h
theorem eqPnW (a b : Pn) (d : Bool) (hd : decide (a = b) = d) (w : World) : (binOp .eql 40 (pnW a) (pnW b)).run Tryd.prog w = .ok (.bool d) w := eqPnB a b d hd w
theorem neqPnW (a b : Pn) (d : Bool) (hd : decide (a = b) = d) (w : World) : (binOp .neq 40 (pnW a) (pnW b)).run Tryd.prog w = .ok (.bool !d) w := neqPnB a b d hd w
theorem guardPnW (op : BinOp) (x y : Operand) (a b : Pn) (w : World) : (eqGuard op 40 x y (pnW a) (pnW b)).run Tryd.prog w = .ok () w := run_eqGuard_agg w op 40 x y _ _ (by kernel_rfl)
def sameRu (a b : Ru) : Bool := decide (a.head = b.head) && decide (a.body = b.body)

set_option maxRecDepth 100000 in
set_option maxHeartbeats 2000000 in
theorem same_any (a b : Ru) (ha : a.body.length ≤ maxLen) (hb : b.body.length ≤ maxLen) (w : World) (hA : BodAt w a.adr a.body) (hB : BodAt w b.adr b.body) :
    Calls Tryd.prog 16 #[ruV a, ruV b] w fun e w' => e = .returned (.bool (sameRu a b)) ∧ Below w.heap.size w w' := by
  obtain ⟨d, hd⟩ : ∃ d, decide (a.head = b.head) = d := ⟨_, rfl⟩
  have hq := eqPnW a.head b.head d hd
  have hqg := guardPnW
  have Hs := Lib.hid (show sameRu a b = (d && decide (a.body = b.body)) by rw [← hd]; rfl)
  have hszA : (ruC a).length = 13 := rfl
  have hszB : (ruC b).length = 13 := rfl
  have hA12 : (ruC a)[12]'(by rw [hszA]; omega) = .slice a.adr a.body.length a.cap := rfl
  have hB12 : (ruC b)[12]'(by rw [hszB]; omega) = .slice b.adr b.body.length b.cap := rfl
  have hb1 := below_alloc (w := w) (.cells (ruC a).toArray 46)
  have hb2 := below_alloc (w := w.alloc (.cells (ruC a).toArray 46)) (.cells (ruC b).toArray 46)
  have hb12 := Lib.hid (below_seq hb1 hb2 hb1.size)
  have Hl1 := Lib.hid (load_pnW ((CellsAt.box w (ruC a) 46).below hb2 (by simp)).head)
  have hl2 := load_pnW (CellsAt.box (w.alloc (.cells (ruC a).toArray 46)) (ruC b) 46).head
  rw [World.size_alloc] at hl2
  have Hl2 := Lib.hid hl2; clear hl2
  have HA := Lib.hid (hA.below hb12.out); have HB := Lib.hid (hB.below hb12.out)
  have Ha := Lib.hid ha; have Hb := Lib.hid hb
  clear hb1 hb2 hA hB ha hb hd
  show Calls _ _ #[.agg (ruC a).toArray, .agg (ruC b).toArray] _ _
  rw [Hs.out]
  cases d
  all_goals
    go_enter Tryd.func16, Tryd.ntmps16
    go_wp2_with (first
      | (with_reducible refine wpList_load_is rfl 40 (Operand.tmp 5) rfl ⟨w.heap.size, 0, none⟩ rfl _ Hl1.out ?_)
      | (with_reducible refine wpList_load_is rfl 40 (Operand.tmp 7) rfl ⟨w.heap.size + 1, 0, none⟩ rfl _ Hl2.out ?_)
      | (go_at_call 22; refine (eqBody_any a.adr b.adr a.cap b.cap a.body b.body Ha.out Hb.out _ HA.out HB.out).mono ?_; rintro e w2 ⟨rfl, hB⟩; have HB2 := Lib.hid hB; clear hB))
    go_ret
  · exact ⟨rfl, hb12.out⟩
  · exact ⟨rfl, below_seq hb12.out HB2.out hb12.out.size⟩

theorem same_no {a b : Ru} (h : decide (a.head = b.head) = false) : false = sameRu a b := by unfold sameRu; rw [h]; rfl
theorem same_of {a b : Ru} {c : Bool} (h : decide (a.head = b.head) = true) (h2 : c = decide (a.body = b.body)) : c = sameRu a b := by unfold sameRu; rw [h, h2]; rfl
set_option maxRecDepth 100000 in
set_option maxHeartbeats 2000000 in
theorem rsame_any (a b : Ru) (ha : a.body.length ≤ maxLen) (hb : b.body.length ≤ maxLen) (w : World) (hA : BodAt w a.adr a.body) (hB : BodAt w b.adr b.body) :
    Calls Tryd.prog 18 #[ruV a, ruV b] w fun e w' => e = .returned (.bool (sameRu a b)) ∧ Below w.heap.size w w' := by
  obtain ⟨d, hd⟩ : ∃ d, decide (a.head = b.head) = d := ⟨_, rfl⟩
  have hq := neqPnW a.head b.head d hd
  have hqg := guardPnW
  have hszA : (ruC a).length = 13 := rfl
  have hszB : (ruC b).length = 13 := rfl
  have hA12 : (ruC a)[12]'(by rw [hszA]; omega) = .slice a.adr a.body.length a.cap := rfl
  have hB12 : (ruC b)[12]'(by rw [hszB]; omega) = .slice b.adr b.body.length b.cap := rfl
  have hb1 := below_alloc (w := w) (.cells (ruC a).toArray 46)
  have hb2 := below_alloc (w := w.alloc (.cells (ruC a).toArray 46)) (.cells (ruC b).toArray 46)
  have hb12 := below_seq hb1 hb2 hb1.size
  have hcA := (CellsAt.box w (ruC a) 46).below hb2 (by simp)
  have hcB := CellsAt.box (w.alloc (.cells (ruC a).toArray 46)) (ruC b) 46
  rw [World.size_alloc] at hcB
  have Hl1 := Lib.hid (load_pnW hcA.head)
  have Hl2 := Lib.hid (load_pnW hcB.head)
  have HcA := Lib.hid hcA; have HcB := Lib.hid hcB
  have HA := Lib.hid (hA.below hb12); have HB := Lib.hid (hB.below hb12)
  have Hb12 := Lib.hid hb12
  have Hd := Lib.hid hd
  clear hb1 hb2 hA hB hd hcA hcB hb12
  unfold maxLen at ha hb
  show Calls _ _ #[.agg (ruC a).toArray, .agg (ruC b).toArray] _ _
  cases d
  · have Hn := Lib.hid (same_no Hd.out)
    go_enter Tryd.func18, Tryd.ntmps18
    go_wp2_with (first
      | (with_reducible refine wpList_load_is rfl 40 (Operand.tmp 6) rfl ⟨w.heap.size, 0, none⟩ rfl _ Hl1.out ?_)
      | (with_reducible refine wpList_load_is rfl 40 (Operand.tmp 8) rfl ⟨w.heap.size + 1, 0, none⟩ rfl _ Hl2.out ?_))
    go_ret
    exact ⟨retB Hn.out, Hb12.out⟩
  · by_cases hlen : a.body.length = b.body.length
    · have hne : (((a.body.length : Nat) : Int) == ((b.body.length : Nat) : Int)) = true := by rw [hlen]; simp
      have hne' : (((a.body.length : Nat) : Int) != ((b.body.length : Nat) : Int)) = false := by rw [hlen]; simp
      have Hlen := Lib.hid hlen; clear hlen
      go_enter Tryd.func18, Tryd.ntmps18
      go_wp2_with (first
        | (with_reducible refine wpList_load_is rfl 40 (Operand.tmp 6) rfl ⟨w.heap.size, 0, none⟩ rfl _ Hl1.out ?_)
        | (with_reducible refine wpList_load_is rfl 40 (Operand.tmp 8) rfl ⟨w.heap.size + 1, 0, none⟩ rfl _ Hl2.out ?_))
      have hz0 : ((w.alloc (.cells (ruC a).toArray 46)).alloc (.cells (ruC b).toArray 46)).heap.size = w.heap.size + 2 := by simp
      generalize (w.alloc (.cells (ruC a).toArray 46)).alloc (.cells (ruC b).toArray 46) = W0 at *
      have hlt1 : w.heap.size < W0.heap.size := by omega
      have hlt2 : w.heap.size + 1 < W0.heap.size := by omega
      clear hz0 hszA hszB hA12 hB12 hq
      have Hz1 := Lib.hid hlt1; have Hz2 := Lib.hid hlt2; clear hlt1 hlt2
      go_loopw [5] (fun u wr => ∃ k : Nat, k ≤ a.body.length ∧ u = .int .i64 k ∧ (∀ j (h1 : j < a.body.length) (h2 : j < b.body.length), j < k → a.body[j] = b.body[j]) ∧ Below W0.heap.size W0 wr) (fun u _ => a.body.length - (intOf u).toNat)
      case atStart => exact ⟨0, by omega, rfl, fun j _ _ h => by omega, Below.refl _ _⟩
      case round =>
        obtain ⟨k, hk, rfl, hall, hBw⟩ := hrel
        have Hall := Lib.hid hall; have HBw := Lib.hid hBw
        clear hall hBw
        have hcA := (HcA.out.below HBw.out Hz1.out).body
        have hcB := (HcB.out.below HBw.out Hz2.out).body
        simp only [Nat.zero_add] at hcA hcB
        by_cases hin : k < a.body.length
        · have hin2 : k < b.body.length := by have := Hlen.out; omega
          have hd : decide ((k : Int) < (a.body.length : Int)) = true := by simp; omega
          obtain ⟨g, o, hga, hg, hc⟩ := HA.out k hin
          obtain ⟨g', o', hgb, hg', hc'⟩ := HB.out k hin2
          rw [hga] at hcA; rw [hgb] at hcB
          have Hl1 : Hid (∀ W, (∃ n, W = wr.drewN n) → (loadVar 43 ⟨g, o + k * 21, none⟩).run Tryd.prog W = .ok (paW a.body[k]) W) := by
            rintro W ⟨n, rfl⟩; exact load_paW (hc.below HBw.out hg).drewN
          have Hl2 : Hid (∀ W, (∃ n, W = wr.drewN n) → (loadVar 43 ⟨g', o' + k * 21, none⟩).run Tryd.prog W = .ok (paW b.body[k]) W) := by
            rintro W ⟨n, rfl⟩; exact load_paW (hc'.below HBw.out hg').drewN
          have Hga := Lib.hid hga; have Hgb := Lib.hid hgb
          clear hc hc' hga hgb
          obtain ⟨d, hdd⟩ : ∃ d, decide (a.body[k] = b.body[k]) = d := ⟨_, rfl⟩
          have He := Lib.hid hdd
          have hq := neqPaW a.body[k] b.body[k] d hdd
          have hqg := guardPaW
          clear hdd
          cases d
          all_goals
            go_wp2_with fail
            refine wp_region_quiet_lit (by kernel_rfl) (by kernel_rfl) ?_
            repeat (first
              | (with_reducible refine wpQuiet_load_is rfl 43 (Operand.tmp 30) rfl ⟨g, o + k * 21, none⟩ rfl _ Hl1.out ?_)
              | (with_reducible refine wpQuiet_load_is rfl 43 (Operand.tmp 35) rfl ⟨g', o' + k * 21, none⟩ rfl _ Hl2.out ?_)
              | go_big_quiet_step (fail)
              | quiet_step (fail))
            refine wpQuiet_nil ?_
            intro _ hw'
            obtain ⟨nq, hw''⟩ := hw'
            subst hw''
            go_wp2_with fail
          · go_ret
            exact ⟨retB (same_of Hd.out (body_ne hin hin2 He.out)), below_seq Hb12.out (HBw.out.trans (below_drewN _ _ _)) Hb12.out.size⟩
          · refine ⟨⟨k + 1, by omega, by simp, fun j h1 h2 hjk => ?_, HBw.out.trans (below_drewN _ _ _)⟩, by simp [intOf]; omega⟩
            rcases Nat.lt_or_ge j k with h' | h'
            · exact Hall.out j h1 h2 h'
            · obtain rfl : j = k := by omega
              exact of_decide_eq_true He.out
        · have Hn := Lib.hid (same_of Hd.out (body_eq Hlen.out (fun j h1 h2 => Hall.out j h1 h2 (by omega))))
          go_wp2_with fail
          go_ret
          exact ⟨retB Hn.out, below_seq Hb12.out HBw.out Hb12.out.size⟩
    · have hne : (((a.body.length : Nat) : Int) == ((b.body.length : Nat) : Int)) = false := beq_eq_false_iff_ne.2 (by omega)
      have hne' : (((a.body.length : Nat) : Int) != ((b.body.length : Nat) : Int)) = true := by rw [bne, hne]; rfl
      have Hn := Lib.hid (same_of Hd.out (body_len hlen)); clear hlen
      go_enter Tryd.func18, Tryd.ntmps18
      go_wp2_with (first
        | (with_reducible refine wpList_load_is rfl 40 (Operand.tmp 6) rfl ⟨w.heap.size, 0, none⟩ rfl _ Hl1.out ?_)
        | (with_reducible refine wpList_load_is rfl 40 (Operand.tmp 8) rfl ⟨w.heap.size + 1, 0, none⟩ rfl _ Hl2.out ?_))
      go_ret
      exact ⟨retB Hn.out, Hb12.out⟩
end Go.Proofs.YtmgaibeibfholaaDoor
