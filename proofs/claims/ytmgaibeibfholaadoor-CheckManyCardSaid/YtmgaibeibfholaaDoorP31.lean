/- Has one of the rules a NOT: the program's, walked. -/
import Derived.Test.YtmgaibeibfholaaDoorP30
namespace Go.Proofs.YtmgaibeibfholaaDoor
set_option maxRecDepth 100000
open Go.RowKit Go.Shelf Go.Maps Plain
set_option linter.unusedVariables false
set_option linter.unusedSimpArgs false

set_option maxRecDepth 100000 in
set_option maxHeartbeats 4000000 in
theorem neg_any (a : Option Addr) (cap : Nat) (l : List Ru) (hl : l.length ≤ maxLen) (hb : ∀ r ∈ l, r.body.length ≤ maxLen) (w : World) (hA : RusAt w a l) :
    Calls Tryd.prog 11 #[.slice a l.length cap] w fun e w' => e = .returned (.bool (negs l)) ∧ Below w.heap.size w w' := by
  have HA := Lib.hid hA; have Hbl := Lib.hid hb; clear hA hb
  unfold maxLen at hl
  have Hno := Lib.hid (neg_no (l := l))
  have Hyes := Lib.hid (fun j k hj hk => neg_yes (l := l) (j := j) (k := k) hj hk)
  go_enter Tryd.func11, Tryd.ntmps11
  go_wp2_with fail
  go_loopw [9] (fun u wr => ∃ i : Nat, i ≤ l.length ∧ u = .int .i64 i ∧ (∀ j (hj : j < l.length), j < i → negR l[j] = false) ∧ Below w.heap.size w wr) (fun u _ => l.length - (intOf u).toNat)
  case atStart => exact ⟨0, by omega, rfl, fun j _ h => by omega, Below.refl _ _⟩
  case round =>
    obtain ⟨i, hi, rfl, hall, hBw⟩ := hrel
    have Hall := Lib.hid hall; have HBw := Lib.hid hBw
    clear hall hBw
    by_cases hin : i < l.length
    · have hd : decide ((i : Int) < (l.length : Int)) = true := by simp; omega
      obtain ⟨g, o, rfl, hg, hc, hbd⟩ := HA.out i hin
      have hbl := Hbl.out _ (List.getElem_mem hin)
      have Hy := Lib.hid (fun k => Hyes.out i k hin)
      obtain ⟨r, hr⟩ : ∃ r, l[i] = r := ⟨_, rfl⟩
      rw [hr] at hc hbd hbl
      have Hld := Lib.hid (load_ru (hc.below HBw.out hg))
      have Hst := Lib.hid (store_ru wr r)
      have hsz : (ruC r).length = 13 := rfl
      have h12 : (ruC r)[12]'(by rw [hsz]; omega) = .slice r.adr r.body.length r.cap := rfl
      have hB1 := HBw.out.trans ((below_alloc (w := wr) (.cells (ruC r).toArray 46)).mono HBw.out.size)
      have Hr := Lib.hid hr; have HBd := Lib.hid hbd
      have HB1 := Lib.hid hB1
      unfold maxLen at hbl
      clear hr hc hbd hB1
      go_wp2_with (first
        | (with_reducible refine wpList_load_is rfl 46 (Operand.tmp 11) rfl ⟨g, o + i * 13, none⟩ rfl (ruV r) Hld.out ?_)
        | (with_reducible refine wpList_store_is rfl 46 (Operand.tmp 4) (Operand.tmp 12) rfl ⟨wr.heap.size, 0, none⟩ rfl (ruV r) rfl _ Hst.out ?_))
      generalize wr.alloc (.cells (ruC r).toArray 46) = W1 at *
      generalize wr.heap.size = gb at *
      clear Hld Hst h12 hsz HBw
      go_loopw [16] (fun u wr => ∃ k : Nat, k ≤ r.body.length ∧ u = .int .i64 k ∧ (∀ j (hj : j < r.body.length), j < k → r.body[j].kind ≠ 2) ∧ Below w.heap.size w wr) (fun u _ => r.body.length - (intOf u).toNat)
      case atStart => exact ⟨0, by omega, rfl, fun j _ h => by omega, HB1.out⟩
      case round =>
        rename World => wx
        obtain ⟨k, hk, rfl, hall, hBw⟩ := hrel
        have Hall2 := Lib.hid hall; have HBx := Lib.hid hBw; clear hall hBw
        by_cases hin2 : k < r.body.length
        · have hd2 : decide ((k : Int) < (r.body.length : Int)) = true := by simp; omega
          obtain ⟨g', o', hadr, hg', hc'⟩ := HBd.out k hin2
          rw [hadr]
          have Hadr := Lib.hid hadr
          obtain ⟨x, hx⟩ : ∃ x, r.body[k] = x := ⟨_, rfl⟩
          rw [hx] at hc'
          have Hld := Lib.hid (load_paW (hc'.below HBx.out hg'))
          have Hst := Lib.hid (store_pa wx x)
          have hsz : (paC x).length = 21 := rfl
          have hk0 : (paC x)[0]'(by rw [hsz]; omega) = .int .i64 x.kind := rfl
          have HB2 := Lib.hid (HBx.out.trans ((below_alloc (w := wx) (.cells (paC x).toArray 43)).mono HBx.out.size))
          have Hx := Lib.hid hx
          clear hc' hx hadr
          by_cases h2 : x.kind = 2
          · have e1 : (x.kind == 2) = true := beq_iff_eq.2 h2
            have Hn := Lib.hid (show true = negs l from Hy.out k (by rw [Hr.out]; exact hin2) (by simp only [Hr.out]; rw [Hx.out]; exact h2))
            clear h2
            go_wp2_with (first
              | (with_reducible refine wpList_load_is rfl 43 (Operand.tmp 18) rfl ⟨g', o' + k * 21, none⟩ rfl (paW x) Hld.out ?_)
              | (with_reducible refine wpList_store_is rfl 43 (Operand.tmp 6) (Operand.tmp 19) rfl ⟨wx.heap.size, 0, none⟩ rfl (paW x) rfl _ Hst.out ?_))
            go_ret
            exact ⟨retB Hn.out, HB2.out⟩
          · have e1 : (x.kind == 2) = false := beq_eq_false_iff_ne.2 h2
            have H2 := Lib.hid h2; clear h2
            go_wp2_with (first
              | (with_reducible refine wpList_load_is rfl 43 (Operand.tmp 18) rfl ⟨g', o' + k * 21, none⟩ rfl (paW x) Hld.out ?_)
              | (with_reducible refine wpList_store_is rfl 43 (Operand.tmp 6) (Operand.tmp 19) rfl ⟨wx.heap.size, 0, none⟩ rfl (paW x) rfl _ Hst.out ?_))
            refine ⟨⟨k + 1, by omega, by simp, fun j hj hjk => ?_, HB2.out⟩, by simp [intOf]; omega⟩
            rcases Nat.lt_or_ge j k with h' | h'
            · exact Hall2.out j hj h'
            · obtain rfl : j = k := by omega
              rw [Hx.out]; exact H2.out
        · have hd2 : decide ((k : Int) < (r.body.length : Int)) = false := by simp; omega
          have Hn := Lib.hid (negR_no (r := r) (fun j hj => Hall2.out j hj (by omega)))
          go_wp2_with fail
          refine ⟨⟨i + 1, by omega, by simp, fun j hj hji => ?_, HBx.out⟩, by simp [intOf]; omega⟩
          rcases Nat.lt_or_ge j i with h' | h'
          · exact Hall.out j hj h'
          · obtain rfl : j = i := by omega
            rw [Hr.out]; exact Hn.out
    · have hd : decide ((i : Int) < (l.length : Int)) = false := by simp; omega
      have Hn := Lib.hid (Hno.out (fun j hj => Hall.out j hj (by omega)))
      go_wp2_with fail
      go_ret
      exact ⟨retB Hn.out, HBw.out⟩
end Go.Proofs.YtmgaibeibfholaaDoor
