/- May a term be: walked, the program's and the reference's. -/
import Derived.Test.YtmgaibeibfholaaDoorP10
namespace Go.Proofs.YtmgaibeibfholaaDoor
set_option maxRecDepth 100000
open Go.RowKit Go.Shelf Go.Maps Plain
set_option linter.unusedVariables false

theorem below_box {w w1 : World} {o : Obj} (h : Below (w.alloc o).heap.size (w.alloc o) w1) : Below w.heap.size w w1 := ((Below.refl w.heap.size w).alloc (Nat.le_refl _) o).trans (h.mono (by simp))
theorem below_boxD {w w1 : World} {o : Obj} (h : Below (w.alloc o).drew.heap.size (w.alloc o).drew w1) : Below w.heap.size w w1 := (((Below.refl w.heap.size w).alloc (Nat.le_refl _) o).drew).trans (h.mono (by simp))
theorem below_seq {w w1 w2 : World} {n : Nat} (h : Below n w w1) (h2 : Below w1.heap.size w1 w2) (hn : n ≤ w1.heap.size) : Below n w w2 := h.trans (h2.mono hn)
theorem neqFn (f : Nat) (w : World) : (binOp .neq 73 (.func (.func f) #[] #[]) .nilFunc).run Tryd.prog w = .ok (.bool true) w := by rfl
theorem neqNil (w : World) : (binOp .neq 73 .nilFunc .nilFunc).run Tryd.prog w = .ok (.bool false) w := by rfl
set_option maxRecDepth 100000 in
set_option maxHeartbeats 2000000 in
theorem tmay_any (t : Tm) (h : fitT t) (hk : i64ok t.kind) (b : Bool) (hb : mayT t = b) (w : World) :
    Calls Tryd.prog 38 #[tmV t] w fun e w' => e = .returned (.bool b) ∧ Below w.heap.size w w' := by
  obtain ⟨k, s, x⟩ := t
  have Hb := Lib.hid hb; have H := Lib.hid h; have HK := Lib.hid hk
  clear hb h hk
  have hneq := neqFn
  have hnil := neqNil
  show Calls _ _ #[.agg #[.int .i64 k, .string s, .string x]] _ _
  by_cases h1 : k = 1
  · subst h1
    have Hm := Lib.hid (show (iriB s && emB x) = b from Hb.out)
    go_enter Tryd.func38, Tryd.ntmps38
    go_wp2_with fail
    go_region_with (go_at_call 41; refine (kinds_any _).mono ?_; rintro e w1 ⟨m, rfl, hl, hB⟩; have HB := Lib.hid hB; have hlk : (Instr.lookup 75 (.map (some m)) (.int .i64 1) false).run Tryd.prog w1 = .ok (.func (.func 47) #[] #[]) w1 := hl 1 HK.out; clear hl; obtain ⟨hcell, hfro⟩ := belowReads hB; have hz : w.heap.size < w1.heap.size := (by have := hB.size; simp at this; omega); clear hB)
    all_goals
      go_wp2_with (go_at_call 47; refine (kind1_any ⟨1, s, x⟩ H.out b Hm.out _).mono ?_; rintro e w2 ⟨rfl, hB⟩; have HB2 := Lib.hid hB; clear hB)
      go_ret
      exact ⟨rfl, below_seq (below_boxD HB.out) HB2.out (below_boxD HB.out).size⟩
  by_cases h2 : k = 2
  · subst h2
    have Hm := Lib.hid (show (wordB s 64 && emB x) = b from Hb.out)
    go_enter Tryd.func38, Tryd.ntmps38
    go_wp2_with fail
    go_region_with (go_at_call 41; refine (kinds_any _).mono ?_; rintro e w1 ⟨m, rfl, hl, hB⟩; have HB := Lib.hid hB; have hlk : (Instr.lookup 75 (.map (some m)) (.int .i64 2) false).run Tryd.prog w1 = .ok (.func (.func 49) #[] #[]) w1 := hl 2 HK.out; clear hl; obtain ⟨hcell, hfro⟩ := belowReads hB; have hz : w.heap.size < w1.heap.size := (by have := hB.size; simp at this; omega); clear hB)
    all_goals
      go_wp2_with (go_at_call 49; refine (kind2_any ⟨2, s, x⟩ H.out b Hm.out _).mono ?_; rintro e w2 ⟨rfl, hB⟩; have HB2 := Lib.hid hB; clear hB)
      go_ret
      exact ⟨rfl, below_seq (below_boxD HB.out) HB2.out (below_boxD HB.out).size⟩
  by_cases h3 : k = 3
  · subst h3
    have Hm := Lib.hid (show (valB s && emB x) = b from Hb.out)
    go_enter Tryd.func38, Tryd.ntmps38
    go_wp2_with fail
    go_region_with (go_at_call 41; refine (kinds_any _).mono ?_; rintro e w1 ⟨m, rfl, hl, hB⟩; have HB := Lib.hid hB; have hlk : (Instr.lookup 75 (.map (some m)) (.int .i64 3) false).run Tryd.prog w1 = .ok (.func (.func 51) #[] #[]) w1 := hl 3 HK.out; clear hl; obtain ⟨hcell, hfro⟩ := belowReads hB; have hz : w.heap.size < w1.heap.size := (by have := hB.size; simp at this; omega); clear hB)
    all_goals
      go_wp2_with (go_at_call 51; refine (kind3_any ⟨3, s, x⟩ H.out b Hm.out _).mono ?_; rintro e w2 ⟨rfl, hB⟩; have HB2 := Lib.hid hB; clear hB)
      go_ret
      exact ⟨rfl, below_seq (below_boxD HB.out) HB2.out (below_boxD HB.out).size⟩
  by_cases h4 : k = 4
  · subst h4
    have Hm := Lib.hid (show (valB s && tagB x) = b from Hb.out)
    go_enter Tryd.func38, Tryd.ntmps38
    go_wp2_with fail
    go_region_with (go_at_call 41; refine (kinds_any _).mono ?_; rintro e w1 ⟨m, rfl, hl, hB⟩; have HB := Lib.hid hB; have hlk : (Instr.lookup 75 (.map (some m)) (.int .i64 4) false).run Tryd.prog w1 = .ok (.func (.func 53) #[] #[]) w1 := hl 4 HK.out; clear hl; obtain ⟨hcell, hfro⟩ := belowReads hB; have hz : w.heap.size < w1.heap.size := (by have := hB.size; simp at this; omega); clear hB)
    all_goals
      go_wp2_with (go_at_call 53; refine (kind4_any ⟨4, s, x⟩ H.out b Hm.out _).mono ?_; rintro e w2 ⟨rfl, hB⟩; have HB2 := Lib.hid hB; clear hB)
      go_ret
      exact ⟨rfl, below_seq (below_boxD HB.out) HB2.out (below_boxD HB.out).size⟩
  by_cases h5 : k = 5
  · subst h5
    have Hm := Lib.hid (show (valB s && (iriB x && !(x.toList == xsdL))) = b from Hb.out)
    go_enter Tryd.func38, Tryd.ntmps38
    go_wp2_with fail
    go_region_with (go_at_call 41; refine (kinds_any _).mono ?_; rintro e w1 ⟨m, rfl, hl, hB⟩; have HB := Lib.hid hB; have hlk : (Instr.lookup 75 (.map (some m)) (.int .i64 5) false).run Tryd.prog w1 = .ok (.func (.func 55) #[] #[]) w1 := hl 5 HK.out; clear hl; obtain ⟨hcell, hfro⟩ := belowReads hB; have hz : w.heap.size < w1.heap.size := (by have := hB.size; simp at this; omega); clear hB)
    all_goals
      go_wp2_with (go_at_call 55; refine (kind5_any ⟨5, s, x⟩ H.out b Hm.out _).mono ?_; rintro e w2 ⟨rfl, hB⟩; have HB2 := Lib.hid hB; clear hB)
      go_ret
      exact ⟨rfl, below_seq (below_boxD HB.out) HB2.out (below_boxD HB.out).size⟩
  have hkv : kindV k = .nilFunc := by unfold kindV; rw [if_neg h1, if_neg h2, if_neg h3, if_neg h4, if_neg h5]
  have hm : false = b := by rw [← Hb.out]; unfold mayT; rw [if_neg h1, if_neg h2, if_neg h3, if_neg h4, if_neg h5]
  have HV := Lib.hid hkv; have Hm := Lib.hid hm; clear h1 h2 h3 h4 h5 hkv hm
  go_enter Tryd.func38, Tryd.ntmps38
  go_wp2_with fail
  go_region_with (go_at_call 41; refine (kinds_any _).mono ?_; rintro e w1 ⟨m, rfl, hl, hB⟩; have HB := Lib.hid hB; have hlk : (Instr.lookup 75 (.map (some m)) (.int .i64 k) false).run Tryd.prog w1 = .ok .nilFunc w1 := (by rw [← HV.out]; exact hl k HK.out); clear hl; obtain ⟨hcell, hfro⟩ := belowReads hB; have hz : w.heap.size < w1.heap.size := (by have := hB.size; simp at this; omega); clear hB)
  all_goals
    go_wp2_with fail
    go_ret
    exact ⟨retB Hm.out, below_boxD HB.out⟩
end Go.Proofs.YtmgaibeibfholaaDoor
