/- Is a rule the same as one of a list: the closure, IndexFunc, ContainsFunc: walked. -/
import Derived.Test.YtmgaibeibfholaaDoorP31
namespace Go.Proofs.YtmgaibeibfholaaDoor
set_option maxRecDepth 100000
open Go.RowKit Go.Shelf Go.Maps Plain
set_option linter.unusedVariables false
set_option linter.unusedSimpArgs false

set_option maxRecDepth 100000 in
set_option maxHeartbeats 2000000 in
theorem same15_any (o r : Ru) (rb : Nat) (ho : o.body.length ≤ maxLen) (hr : r.body.length ≤ maxLen) (w : World) (hc : CellsAt w rb 0 (ruC r)) (hO : BodAt w o.adr o.body) (hR : BodAt w r.adr r.body) (b : Bool) (hb : sameRu o r = b) :
    Calls Tryd.prog 15 #[ruV o, .pointer (some ⟨rb, 0, none⟩)] w fun e w' => e = .returned (.bool b) ∧ Below w.heap.size w w' := by
  have hsz : (ruC o).length = 13 := rfl
  have hbl := below_alloc (w := w) (.cells (ruC o).toArray 46)
  have H1 := Lib.hid (load_ru (CellsAt.box w (ruC o) 46))
  have H2 := Lib.hid (load_ru (hc.below hbl (lt_of_cell (hc 0 _ rfl))))
  have HO := Lib.hid (hO.below hbl); have HR := Lib.hid (hR.below hbl); have Hb := Lib.hid hb
  clear hbl hc hO hR hb
  show Calls _ _ #[.agg (ruC o).toArray, .pointer (some ⟨rb, 0, none⟩)] _ _
  go_enter Tryd.func15, Tryd.ntmps15
  go_wp2_with (first
    | (with_reducible refine wpList_load_is rfl 46 (Operand.tmp 2) rfl ⟨w.heap.size, 0, none⟩ rfl (ruV o) H1.out ?_)
    | (with_reducible refine wpList_load_is rfl 46 (Operand.tmp 1) rfl ⟨rb, 0, none⟩ rfl (ruV r) H2.out ?_)
    | (go_at_call 16; refine (same_any o r ho hr _ HO.out HR.out).mono ?_; rintro e w1 ⟨rfl, hB⟩; rw [Hb.out]; have HB := Lib.hid hB; clear hB))
  go_ret
  exact ⟨rfl, below_box HB.out⟩

def hitI (l : List Ru) (r : Ru) : Int := match l.findIdx? (fun o => sameRu o r) with | some n => (n : Int) | none => -1
theorem hitI_at {l : List Ru} {r : Ru} {k : Nat} (hk : k < l.length) (h : ∀ j (hj : j < l.length), j < k → sameRu l[j] r = false) (hb : sameRu l[k] r = true) : (k : Int) = hitI l r := by
  unfold hitI
  have : l.findIdx? (fun o => sameRu o r) = some k := by
    rw [List.findIdx?_eq_some_iff_getElem]
    exact ⟨hk, hb, fun j hj => by simp [h j (by omega) hj]⟩
  rw [this]
theorem hitI_none {l : List Ru} {r : Ru} (h : ∀ j (hj : j < l.length), sameRu l[j] r = false) : -1 = hitI l r := by
  unfold hitI
  have : l.findIdx? (fun o => sameRu o r) = none := by
    rw [List.findIdx?_eq_none_iff]
    intro x hx
    obtain ⟨j, hj, rfl⟩ := List.mem_iff_getElem.1 hx
    exact h j hj
  rw [this]
def hitB (l : List Ru) (r : Ru) : Bool := l.any fun o => sameRu o r
theorem hitI_any (l : List Ru) (r : Ru) : decide (0 ≤ hitI l r) = hitB l r := by
  unfold hitI hitB
  cases h : l.findIdx? (fun o => sameRu o r) with
  | none =>
    rw [List.findIdx?_eq_none_iff] at h
    have : (l.any fun o => sameRu o r) = false := by
      rw [← Bool.not_eq_true, List.any_eq_true]
      rintro ⟨x, hx, hs⟩
      rw [h x hx] at hs; cases hs
    rw [this]; rfl
  | some n =>
    rw [List.findIdx?_eq_some_iff_getElem] at h
    obtain ⟨hn, h1, _⟩ := h
    have : (l.any fun o => sameRu o r) = true := List.any_eq_true.2 ⟨_, List.getElem_mem hn, h1⟩
    rw [this]; simp
set_option maxRecDepth 100000 in
set_option maxHeartbeats 2000000 in
theorem idxR_any (a : Option Addr) (cap : Nat) (l : List Ru) (r : Ru) (rb : Nat) (hl : l.length ≤ maxLen) (hf : ∀ x ∈ l, x.body.length ≤ maxLen) (hr : r.body.length ≤ maxLen) (w : World) (hA : RusAt w a l) (hc : CellsAt w rb 0 (ruC r)) (hR : BodAt w r.adr r.body) :
    Calls Tryd.prog 21 #[.slice a l.length cap, .func (.func 15) #[] #[.pointer (some ⟨rb, 0, none⟩)]] w fun e w' => e = .returned (.int .i64 (hitI l r)) ∧ Below w.heap.size w w' := by
  have HA := Lib.hid hA; have F := Lib.hid hf; have HC := Lib.hid hc; have HR := Lib.hid hR
  have Hrb := Lib.hid (lt_of_cell (hc 0 _ rfl))
  clear hA hf hc hR
  unfold maxLen at hl
  have HN := Lib.hid (hitI_none (l := l) (r := r))
  have HH := Lib.hid (fun k hk => hitI_at (l := l) (r := r) (k := k) hk)
  have Hr := Lib.hid hr; clear hr
  go_enter Tryd.func21, Tryd.ntmps21
  go_wp2_with fail
  go_loopw [8] (fun u wr => ∃ k : Nat, k ≤ l.length ∧ u = .int .i64 k ∧ (∀ j (h : j < l.length), j < k → sameRu l[j] r = false) ∧ Below w.heap.size w wr) (fun u _ => l.length - (intOf u).toNat)
  case atStart => exact ⟨0, by omega, rfl, fun j _ h => by omega, Below.refl _ _⟩
  case round =>
    obtain ⟨k, hk, rfl, hall, hB⟩ := hrel
    have Hall := Lib.hid hall; have HB := Lib.hid hB
    clear hall hB
    by_cases hin : k < l.length
    · have hd : decide ((k : Int) < (l.length : Int)) = true := by simp; omega
      obtain ⟨g, o, rfl, hg, hc, hbd⟩ := HA.out k hin
      have Hld := Lib.hid (load_ru (hc.below HB.out hg))
      have Hbd := Lib.hid (hbd.below HB.out)
      have Hf := Lib.hid (F.out _ (List.getElem_mem hin))
      have HHk := Lib.hid (HH.out k hin Hall.out)
      clear hc hbd
      obtain ⟨c, hc⟩ : ∃ c, sameRu l[k] r = c := ⟨_, rfl⟩
      have Hc := Lib.hid hc
      have HCw := Lib.hid (HC.out.below HB.out Hrb.out)
      have HRw := Lib.hid (HR.out.below HB.out)
      clear hc
      cases c
      all_goals
        go_wp2_with (first
          | (with_reducible refine wpList_load_is rfl 46 (Operand.tmp 14) rfl ⟨g, o + k * 13, none⟩ rfl _ Hld.out ?_)
          | (go_at_call 15; refine (same15_any l[k] r rb Hf.out Hr.out _ HCw.out Hbd.out HRw.out _ Hc.out).mono ?_; rintro e w1 ⟨rfl, hB⟩; have HB1 := Lib.hid hB; clear hB))
      · refine ⟨⟨k + 1, by omega, by simp, fun j hj hjk => ?_, below_seq HB.out HB1.out HB.out.size⟩, by simp [intOf]; omega⟩
        rcases Nat.lt_or_ge j k with h' | h'
        · exact Hall.out j hj h'
        · obtain rfl : j = k := by omega
          exact Hc.out
      · go_ret
        exact ⟨retI (HHk.out Hc.out), below_seq HB.out HB1.out HB.out.size⟩
    · have HNk := Lib.hid (HN.out (fun j hj => Hall.out j hj (by omega)))
      go_wp2_with fail
      go_ret
      exact ⟨retI HNk.out, HB.out⟩
set_option maxHeartbeats 1000000 in
theorem containsR_any (a : Option Addr) (cap : Nat) (l : List Ru) (r : Ru) (rb : Nat) (hl : l.length ≤ maxLen) (hf : ∀ x ∈ l, x.body.length ≤ maxLen) (hr : r.body.length ≤ maxLen) (w : World) (hA : RusAt w a l) (hc : CellsAt w rb 0 (ruC r)) (hR : BodAt w r.adr r.body) (b : Bool) (hb : hitB l r = b) :
    Calls Tryd.prog 14 #[.slice a l.length cap, .func (.func 15) #[] #[.pointer (some ⟨rb, 0, none⟩)]] w fun e w' => e = .returned (.bool b) ∧ Below w.heap.size w w' := by
  have H := Lib.hid (idxR_any a cap l r rb hl hf hr w hA hc hR)
  clear hA hf hc hR
  have hb2 := hitI_any l r
  rw [hb] at hb2
  obtain ⟨i, hi⟩ : ∃ i, hitI l r = i := ⟨_, rfl⟩
  rw [hi] at hb2
  have Hi := Lib.hid hi; have Hb := Lib.hid hb2; clear hi hb2 hb
  go_enter Tryd.func14, Tryd.ntmps14
  go_wp2_with (go_at_call 21; refine (H.out).mono ?_; rintro e w1 ⟨rfl, hB⟩; rw [Hi.out]; have HB := Lib.hid hB; clear hB)
  go_ret
  exact ⟨retB Hb.out, HB.out⟩
end Go.Proofs.YtmgaibeibfholaaDoor
