/- Rules in memory; has one of them a NOT: walked. -/
import Derived.Test.YtmgaibeibfholaaDoorP29
namespace Go.Proofs.YtmgaibeibfholaaDoor
set_option maxRecDepth 100000
open Go.RowKit Go.Shelf Go.Maps Plain
set_option linter.unusedVariables false
set_option linter.unusedSimpArgs false

/-- rules at an address -/
def RusAt (w : World) (a : Option Addr) (l : List Ru) : Prop := ∀ j (h : j < l.length), ∃ g o, a = some ⟨g, o, none⟩ ∧ g < w.heap.size ∧ CellsAt w g (o + j * 13) (ruC l[j]) ∧ BodAt w l[j].adr l[j].body
theorem RusAt.below {w w' : World} {a : Option Addr} {l : List Ru} (h : RusAt w a l) (hB : Below w.heap.size w w') : RusAt w' a l := fun j hj => by
  obtain ⟨g, o, e, hg, hc, hb⟩ := h j hj
  exact ⟨g, o, e, Nat.lt_of_lt_of_le hg hB.size, hc.below hB hg, hb.below hB⟩
def negR (r : Ru) : Bool := r.body.any fun x => decide (x.kind = 2)
def negs (l : List Ru) : Bool := l.any negR
theorem neg_yes {l : List Ru} {j k : Nat} (hj : j < l.length) (hk : k < (l[j]).body.length) (h : (l[j]).body[k].kind = 2) : true = negs l := by
  symm; unfold negs negR
  rw [List.any_eq_true]
  exact ⟨l[j], List.getElem_mem hj, by rw [List.any_eq_true]; exact ⟨_, List.getElem_mem hk, by simp [h]⟩⟩
theorem negR_no {r : Ru} (h : ∀ k (hk : k < r.body.length), r.body[k].kind ≠ 2) : negR r = false := by
  unfold negR
  rw [← Bool.not_eq_true, List.any_eq_true]
  rintro ⟨x, hx, h2⟩
  obtain ⟨k, hk, rfl⟩ := List.mem_iff_getElem.1 hx
  exact h k hk (of_decide_eq_true h2)
theorem neg_no {l : List Ru} (h : ∀ j (hj : j < l.length), negR l[j] = false) : false = negs l := by
  symm; unfold negs
  rw [← Bool.not_eq_true, List.any_eq_true]
  rintro ⟨x, hx, h2⟩
  obtain ⟨k, hk, rfl⟩ := List.mem_iff_getElem.1 hx
  rw [h k hk] at h2; cases h2

abbrev zRu : Array Value := #[.string ⟨#[]⟩, .int .i64 0, .string ⟨#[]⟩, .string ⟨#[]⟩, .string ⟨#[]⟩, .int .i64 0, .string ⟨#[]⟩, .string ⟨#[]⟩, .string ⟨#[]⟩, .int .i64 0, .string ⟨#[]⟩, .string ⟨#[]⟩, .slice none 0 0]
theorem infoRu : (Tryd.prog.info? 46).map (·.size) = some 13 := by kernel_rfl
theorem store_ru (w : World) (x : Ru) : (storeVar 46 ⟨w.heap.size, 0, none⟩ (ruV x)).run Tryd.prog (w.alloc (.cells zRu 46)) = .ok () (w.alloc (.cells (ruC x).toArray 46)) :=
  run_storeVar_new w 46 zRu (ruC x).toArray infoRu rfl (by simp [ruC, Value.oneCell'])

set_option maxRecDepth 100000 in
set_option maxHeartbeats 4000000 in
theorem rneg_any (a : Option Addr) (cap : Nat) (l : List Ru) (hl : l.length ≤ maxLen) (hb : ∀ r ∈ l, r.body.length ≤ maxLen) (w : World) (hA : RusAt w a l) :
    Calls Tryd.prog 10 #[.slice a l.length cap] w fun e w' => e = .returned (.bool (negs l)) ∧ w = w' := by
  have HA := Lib.hid hA; have Hbl := Lib.hid hb; clear hA hb
  unfold maxLen at hl
  have Hno := Lib.hid (neg_no (l := l))
  have Hyes := Lib.hid (fun j k hj hk => neg_yes (l := l) (j := j) (k := k) hj hk)
  go_enter Tryd.func10, Tryd.ntmps10
  go_wp2_with fail
  go_loop [3] (fun u => ∃ i : Nat, i ≤ l.length ∧ u = .int .i64 i ∧ ∀ j (hj : j < l.length), j < i → negR l[j] = false) (fun u => l.length - (intOf u).toNat)
  case atStart => exact ⟨0, by omega, rfl, fun j _ h => by omega⟩
  case round =>
    obtain ⟨i, hi, rfl, hall⟩ := hrel
    have Hall := Lib.hid hall; clear hall
    by_cases hin : i < l.length
    · have hd : decide ((i : Int) < (l.length : Int)) = true := by simp; omega
      obtain ⟨g, o, rfl, hg, hc, hbd⟩ := HA.out i hin
      have hbl := Hbl.out _ (List.getElem_mem hin)
      have Hy := Lib.hid (fun k => Hyes.out i k hin)
      obtain ⟨r, hr⟩ : ∃ r, l[i] = r := ⟨_, rfl⟩
      rw [hr] at hc hbd hbl
      have hcb := hc.body
      have Hr := Lib.hid hr; have HBd := Lib.hid hbd
      unfold maxLen at hbl
      clear hr hc hbd
      go_wp2_with fail
      go_loop [4] (fun u => ∃ k : Nat, k ≤ r.body.length ∧ u = .int .i64 k ∧ ∀ j (hj : j < r.body.length), j < k → r.body[j].kind ≠ 2) (fun u => r.body.length - (intOf u).toNat)
      case atStart => exact ⟨0, by omega, rfl, fun j _ h => by omega⟩
      case round =>
        obtain ⟨k, hk, rfl, hall⟩ := hrel
        have Hall2 := Lib.hid hall; clear hall
        by_cases hin2 : k < r.body.length
        · have hd2 : decide ((k : Int) < (r.body.length : Int)) = true := by simp; omega
          obtain ⟨g', o', hadr, _, hc'⟩ := HBd.out k hin2
          have hck : w.cell? ⟨g', o' + k * 21, none⟩ = some (.int .i64 r.body[k].kind) := hc' 0 _ rfl
          rw [hadr] at hcb
          have Hadr := Lib.hid hadr
          obtain ⟨kd, hkd⟩ : ∃ kd, r.body[k].kind = kd := ⟨_, rfl⟩
          rw [hkd] at hck
          have Hkd := Lib.hid hkd
          clear hc' hkd hadr
          by_cases h2 : kd = 2
          · have e1 : (kd == 2) = true := beq_iff_eq.2 h2
            have Hn := Lib.hid (show true = negs l from Hy.out k (by rw [Hr.out]; exact hin2) (by simp only [Hr.out]; rw [Hkd.out]; exact h2))
            clear h2
            go_wp2_with fail
            go_ret
            exact ⟨retB Hn.out, rfl⟩
          · have e1 : (kd == 2) = false := beq_eq_false_iff_ne.2 h2
            have H2 := Lib.hid h2; clear h2
            go_wp2_with fail
            refine ⟨⟨k + 1, by omega, by simp, fun j hj hjk => ?_⟩, by simp [intOf]; omega⟩
            rcases Nat.lt_or_ge j k with h' | h'
            · exact Hall2.out j hj h'
            · obtain rfl : j = k := by omega
              rw [Hkd.out]; exact H2.out
        · have hd2 : decide ((k : Int) < (r.body.length : Int)) = false := by simp; omega
          have Hn := Lib.hid (negR_no (r := r) (fun j hj => Hall2.out j hj (by omega)))
          go_wp2_with fail
          refine ⟨⟨i + 1, by omega, by simp, fun j hj hji => ?_⟩, by simp [intOf]; omega⟩
          rcases Nat.lt_or_ge j i with h' | h'
          · exact Hall.out j hj h'
          · obtain rfl : j = i := by omega
            rw [Hr.out]; exact Hn.out
    · have hd : decide ((i : Int) < (l.length : Int)) = false := by simp; omega
      have Hn := Lib.hid (Hno.out (fun j hj => Hall.out j hj (by omega)))
      go_wp2_with fail
      go_ret
      exact ⟨retB Hn.out, rfl⟩
end Go.Proofs.YtmgaibeibfholaaDoor
