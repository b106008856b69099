/- May a rule be: the reference, walked. -/
import Derived.Test.YtmgaibeibfholaaDoorP18
namespace Go.Proofs.YtmgaibeibfholaaDoor
set_option maxRecDepth 100000
open Go.RowKit Go.Shelf Go.Maps Plain
set_option linter.unusedVariables false

theorem mayRu_long {r : Ru} (h : ¬ r.body.length ≤ 64) : false = mayRu r := by unfold mayRu; rw [decide_eq_false h]; simp
theorem mayRu_bad {r : Ru} {k : Nat} (hk : k < r.body.length) (h : mayPa r.body[k] = false) : false = mayRu r := by
  unfold mayRu
  have : r.body.all mayPa = false := by
    rw [← Bool.not_eq_true, List.all_eq_true]
    intro hh
    rw [hh _ (List.getElem_mem hk)] at h; cases h
  rw [this]; simp
theorem mayRu_end {r : Ru} (h1 : r.body.length ≤ 64) (h : ∀ j (hj : j < r.body.length), mayPa r.body[j] = true) : mayPn r.head = mayRu r := by
  unfold mayRu
  have : r.body.all mayPa = true := List.all_eq_true.2 (fun x hx => by
    obtain ⟨j, hj, rfl⟩ := List.mem_iff_getElem.1 hx
    exact h j hj)
  rw [this, decide_eq_true h1]; simp
theorem below_alloc {w : World} (o : Obj) : Below w.heap.size w (w.alloc o) := (Below.refl _ w).alloc (Nat.le_refl _) o

set_option maxRecDepth 100000 in
set_option maxHeartbeats 2000000 in
theorem rru_any (r : Ru) (h : fitRRu r) (w : World) (hB : BodAt w r.adr r.body) (b : Bool) (hb : mayRu r = b) :
    Calls Tryd.prog 23 #[ruV r] w fun e w' => e = .returned (.bool b) ∧ Below w.heap.size w w' := by
  subst hb
  obtain ⟨h1, h2, h3⟩ := h
  have F1 := Lib.hid h1; have F2 := Lib.hid h2; have HBd := Lib.hid hB
  clear h1 h2 hB
  unfold maxLen at h3
  have hsz : (ruC r).length = 13 := rfl
  have h12 : (ruC r)[12]'(by rw [hsz]; omega) = .slice r.adr r.body.length r.cap := rfl
  have hbox := CellsAt.box w (ruC r) 46
  have hbl := below_alloc (w := w) (.cells (ruC r).toArray 46)
  show Calls _ _ #[.agg (ruC r).toArray] _ _
  by_cases hlen : r.body.length ≤ 64
  · have g1 : decide ((64 : Int) < (r.body.length : Int)) = false := decide_eq_false (by omega)
    have g1' : decide (64 < r.body.length) = false := decide_eq_false (by omega)
    go_enter Tryd.func23, Tryd.ntmps23
    go_wp2_with fail
    have hz0 : (w.alloc (.cells (ruC r).toArray 46)).heap.size = w.heap.size + 1 := by simp
    generalize w.alloc (.cells (ruC r).toArray 46) = W0 at *
    have HB0 := Lib.hid (HBd.out.below hbl)
    have Hbox := Lib.hid hbox; have Hbl := Lib.hid hbl; have Hz0 := Lib.hid hz0
    clear hbox hbl hz0 h12 hsz
    go_loopw [3] (fun u wr => ∃ k : Nat, k ≤ r.body.length ∧ u = .int .i64 k ∧ (∀ j (h : j < r.body.length), j < k → mayPa r.body[j] = true) ∧ Below W0.heap.size W0 wr) (fun u _ => r.body.length - (intOf u).toNat)
    case atStart => exact ⟨0, by omega, rfl, fun j _ h => by omega, Below.refl _ _⟩
    case round =>
      obtain ⟨k, hk, rfl, hall, hB⟩ := hrel
      have Hall := Lib.hid hall; have HB := Lib.hid hB
      clear hall hB
      have hlt : w.heap.size < W0.heap.size := by have := Hz0.out; omega
      have Hba := Lib.hid (Hbox.out.below HB.out hlt)
      have h12 := Hba.out.body
      simp only [Nat.zero_add] at h12
      by_cases hin : k < r.body.length
      · have hd : decide ((k : Int) < (r.body.length : Int)) = true := by simp; omega
        obtain ⟨g, o, hadr, hg, hc⟩ := HB0.out k hin
        have Hld := Lib.hid (load_pa (hc.below HB.out hg))
        have hfx := Lib.hid (F2.out _ (List.getElem_mem hin))
        have HAk := Lib.hid (mayRu_bad hin)
        rw [hadr] at h12
        clear hc
        obtain ⟨c, hc⟩ : ∃ c, mayPa r.body[k] = c := ⟨_, rfl⟩
        have Hc := Lib.hid hc; have Hadr := Lib.hid hadr
        clear hc hadr hlt
        cases c
        all_goals
          go_wp2_with (first
            | (with_reducible refine wpList_load_is rfl 43 (Operand.tmp 18) rfl ⟨g, o + k * 21, none⟩ rfl _ Hld.out ?_)
            | (go_at_call 31; refine (rpa_any r.body[k] hfx.out _ Hc.out _).mono ?_; rintro e w1 ⟨rfl, hB⟩; have HB1 := Lib.hid hB; clear hB))
        · go_ret
          exact ⟨retB (HAk.out Hc.out), below_seq Hbl.out (below_seq HB.out HB1.out HB.out.size) Hbl.out.size⟩
        · refine ⟨⟨k + 1, by omega, by simp, fun j hj hjk => ?_, below_seq HB.out HB1.out HB.out.size⟩, by simp [intOf]; omega⟩
          rcases Nat.lt_or_ge j k with h' | h'
          · exact Hall.out j hj h'
          · obtain rfl : j = k := by omega
            exact Hc.out
      · have HNk := Lib.hid (mayRu_end hlen (fun j hj => Hall.out j hj (by omega)))
        have Hld := Lib.hid (load_pn Hba.out.head)
        go_wp2_with (first
          | (with_reducible refine wpList_load_is rfl 40 (Operand.tmp 22) rfl ⟨w.heap.size, 0, none⟩ rfl _ Hld.out ?_)
          | (go_at_call 32; refine (rpn_any r.head F1.out _ HNk.out _).mono ?_; rintro e w1 ⟨rfl, hB⟩; have HB1 := Lib.hid hB; clear hB))
        go_ret
        exact ⟨rfl, below_seq Hbl.out (below_seq HB.out HB1.out HB.out.size) Hbl.out.size⟩
  · have Hn := Lib.hid (mayRu_long hlen)
    have g1 : decide ((64 : Int) < (r.body.length : Int)) = true := decide_eq_true (by omega)
    have g1' : decide (64 < r.body.length) = true := decide_eq_true (by omega)
    have Hbl := Lib.hid hbl
    clear hbl
    go_enter Tryd.func23, Tryd.ntmps23
    go_wp2_with fail
    go_ret
    exact ⟨retB Hn.out, Hbl.out⟩
end Go.Proofs.YtmgaibeibfholaaDoor
