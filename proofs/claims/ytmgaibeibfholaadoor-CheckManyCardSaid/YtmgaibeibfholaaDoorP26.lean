/- The reference's In, Slots: walked. -/
import Derived.Test.YtmgaibeibfholaaDoorP25
namespace Go.Proofs.YtmgaibeibfholaaDoor
set_option maxRecDepth 100000
open Go.RowKit Go.Shelf Go.Maps Plain
set_option linter.unusedVariables false
set_option linter.unusedSimpArgs false

/-- names at an address -/
def StrAt (w : World) (a : Option Addr) (l : List ByteArray) : Prop := ∀ j (h : j < l.length), ∃ g o, a = some ⟨g, o, none⟩ ∧ g < w.heap.size ∧ w.cell? ⟨g, o + j, none⟩ = some (.string l[j])
theorem StrAt.below {w w' : World} {a : Option Addr} {l : List ByteArray} (h : StrAt w a l) (hB : Below w.heap.size w w') : StrAt w' a l := fun j hj => by
  obtain ⟨g, o, e, hg, hc⟩ := h j hj
  exact ⟨g, o, e, Nat.lt_of_lt_of_le hg hB.size, (hB.cell (p := ⟨g, o + j, none⟩) hg).trans hc⟩
def memB (l : List ByteArray) (s : ByteArray) : Bool := l.any fun x => decide (x = s)
theorem memB_iff {l : List ByteArray} {s : ByteArray} : memB l s = true ↔ s ∈ l := by
  unfold memB
  rw [List.any_eq_true]
  constructor
  · rintro ⟨x, hx, h⟩; rw [← of_decide_eq_true h]; exact hx
  · intro h; exact ⟨s, h, by simp⟩
theorem mem_no {l : List ByteArray} {s : ByteArray} (h : ∀ j (hj : j < l.length), decide (l[j] = s) = false) : false = memB l s := by
  symm
  rw [← Bool.not_eq_true, memB_iff]
  intro hm
  obtain ⟨j, hj, e⟩ := List.mem_iff_getElem.1 hm
  have := h j hj
  rw [e] at this; simp at this
theorem mem_yes {l : List ByteArray} {s : ByteArray} {j : Nat} (hj : j < l.length) (h : decide (l[j] = s) = true) : true = memB l s := by
  symm
  rw [memB_iff, ← of_decide_eq_true h]; exact List.getElem_mem hj
set_option maxHeartbeats 1000000 in
theorem in_any (a : Option Addr) (cap : Nat) (l : List ByteArray) (s : ByteArray) (hl : l.length ≤ maxLen) (w : World) (hA : StrAt w a l) :
    Calls Tryd.prog 25 #[.slice a l.length cap, .string s] w fun e w' => e = .returned (.bool (memB l s)) ∧ w = w' := by
  have HA := Lib.hid hA; clear hA
  unfold maxLen at hl
  go_enter Tryd.func25, Tryd.ntmps25
  go_wp2_with fail
  go_loop [5] (fun u => ∃ k : Nat, k ≤ l.length ∧ u = .int .i64 k ∧ ∀ j (hj : j < l.length), j < k → decide (l[j] = s) = false) (fun u => l.length - (intOf u).toNat)
  case atStart => exact ⟨0, by omega, rfl, fun j _ h => by omega⟩
  case round =>
    obtain ⟨k, hk, rfl, hall⟩ := hrel
    have Hall := Lib.hid hall; clear hall
    by_cases hin : k < l.length
    · have hd : decide ((k : Int) < (l.length : Int)) = true := by simp; omega
      obtain ⟨g, o, rfl, hg, hc⟩ := HA.out k hin
      obtain ⟨x, hx⟩ : ∃ x, l[k] = x := ⟨_, rfl⟩
      rw [hx] at hc
      obtain ⟨c, hcc⟩ : ∃ c, decide (x = s) = c := ⟨_, rfl⟩
      have hq := toList_beq x s
      rw [hcc] at hq
      have Hc := Lib.hid (show decide (l[k] = s) = c by rw [hx]; exact hcc)
      clear hx hcc
      cases c
      · go_wp2_with fail
        refine ⟨⟨k + 1, by omega, by simp, fun j hj hjk => ?_⟩, by simp [intOf]; omega⟩
        rcases Nat.lt_or_ge j k with h' | h'
        · exact Hall.out j hj h'
        · obtain rfl : j = k := by omega
          exact Hc.out
      · have Hn := Lib.hid (mem_yes hin Hc.out)
        go_wp2_with fail
        go_ret
        exact ⟨retB Hn.out, rfl⟩
    · have Hn := Lib.hid (mem_no (fun j hj => Hall.out j hj (by omega)))
      go_wp2_with fail
      go_ret
      exact ⟨retB Hn.out, rfl⟩

/-- a part's places, the reference's -/
def slR (l : Pa) : List So := if l.kind = 1 ∨ l.kind = 2 then l.pat.ss else [l.a, l.b]
set_option maxRecDepth 100000 in
set_option maxHeartbeats 2000000 in
theorem slots_any (x : Pa) (w : World) :
    Calls Tryd.prog 33 #[paW x] w fun e w' => e = .returned (.slice (some ⟨w.heap.size + 1, 0, none⟩) (slR x).length (slR x).length) ∧
      w' = (w.alloc (.cells (paC x).toArray 43)).alloc (.cells ((slR x).flatMap soC).toArray 37) := by
  have hsz : (paC x).length = 21 := rfl
  have hk0 : (paC x)[0]'(by rw [hsz]; omega) = .int .i64 x.kind := rfl
  have hbox := CellsAt.box w (paC x) 43
  have H1 := Lib.hid (load_so (hbox.slice 1 4 (soC x.pat.a) rfl))
  have H2 := Lib.hid (load_so (hbox.slice 5 4 (soC x.pat.b) rfl))
  have H3 := Lib.hid (load_so (hbox.slice 9 4 (soC x.pat.c) rfl))
  have H4 := Lib.hid (load_so (hbox.slice 13 4 (soC x.a) rfl))
  have H5 := Lib.hid (load_so (hbox.slice 17 4 (soC x.b) rfl))
  clear hbox
  show Calls _ _ #[.agg (paC x).toArray] _ _
  by_cases h12 : x.kind = 1 ∨ x.kind = 2
  · have Hs := Lib.hid (show slR x = x.pat.ss by unfold slR; rw [if_pos h12])
    by_cases hk : x.kind = 1
    all_goals
      first
      | (have e1 : (x.kind == 1) = true := beq_iff_eq.2 hk; clear hk h12)
      | (have e1 : (x.kind == 1) = false := beq_eq_false_iff_ne.2 hk
         have e2 : (x.kind == 2) = true := beq_iff_eq.2 (h12.resolve_left hk)
         clear hk h12)
      go_enter Tryd.func33, Tryd.ntmps33
      go_wp2_with (first
        | (with_reducible refine wpList_load_is rfl 37 (Operand.tmp 12) rfl ⟨w.heap.size, 1, none⟩ rfl _ H1.out ?_)
        | (with_reducible refine wpList_load_is rfl 37 (Operand.tmp 15) rfl ⟨w.heap.size, 5, none⟩ rfl _ H2.out ?_)
        | (with_reducible refine wpList_load_is rfl 37 (Operand.tmp 18) rfl ⟨w.heap.size, 9, none⟩ rfl _ H3.out ?_))
      go_ret
      rw [Hs.out]
      exact ⟨rfl, rfl⟩
  · have e1 : (x.kind == 1) = false := beq_eq_false_iff_ne.2 (fun h => h12 (.inl h))
    have e2 : (x.kind == 2) = false := beq_eq_false_iff_ne.2 (fun h => h12 (.inr h))
    have Hs := Lib.hid (show slR x = [x.a, x.b] by unfold slR; rw [if_neg h12])
    clear h12
    go_enter Tryd.func33, Tryd.ntmps33
    go_wp2_with (first
      | (with_reducible refine wpList_load_is rfl 37 (Operand.tmp 21) rfl ⟨w.heap.size, 13, none⟩ rfl _ H4.out ?_)
      | (with_reducible refine wpList_load_is rfl 37 (Operand.tmp 23) rfl ⟨w.heap.size, 17, none⟩ rfl _ H5.out ?_))
    go_ret
    rw [Hs.out]
    exact ⟨rfl, rfl⟩
end Go.Proofs.YtmgaibeibfholaaDoor
