/- May a term be: the reference, walked. -/
import Derived.Test.YtmgaibeibfholaaDoorP11
namespace Go.Proofs.YtmgaibeibfholaaDoor
set_option maxRecDepth 100000
open Go.RowKit Go.Shelf Go.Maps Plain
set_option linter.unusedVariables false

def fitR (t : Tm) : Prop := t.text.size ≤ 9223372036854775807 ∧ t.extra.size ≤ 9223372036854775807
theorem below_pair {w w1 w2 : World} {o : Obj} (h : Below (w.alloc o).heap.size (w.alloc o) w1) (h2 : Below w1.heap.size w1 w2) : Below w.heap.size w w2 := below_seq (below_box h) h2 (below_box h).size
set_option maxRecDepth 100000 in
set_option maxHeartbeats 1000000 in
theorem rmay1_in (s x : ByteArray) (h : fitR ⟨1, s, x⟩) (hs : s.size ≤ 4000) (b : Bool) (hb : (iriB s && emB x) = b) (w : World) :
    Calls Tryd.prog 39 #[.agg #[.int .i64 1, .string s, .string x]] w fun e w' => e = .returned (.bool b) ∧ Below w.heap.size w w' := by
  obtain ⟨h1, h2⟩ := h
  dsimp only at h1 h2
  have gA : decide ((s.size : Int) ≤ 4000) = true := decide_eq_true (by omega)
  obtain ⟨v, hv⟩ : ∃ v, vlB s = v := ⟨_, rfl⟩
  have hvv : valB s = v := by rw [← hv]; unfold valB; rw [decide_eq_true hs]; rfl
  have Hv := Lib.hid hv; clear hv
  clear hvv
  have he := empty_is x
  obtain ⟨d, hd⟩ : ∃ d, emB x = d := ⟨_, rfl⟩
  rw [hd] at hb
  unfold emB at hd
  rw [hd] at he
  clear hd
  obtain ⟨c, hc⟩ : ∃ c, iriB s = c := ⟨_, rfl⟩
  rw [hc] at hb
  have Hc := Lib.hid hc; clear hc
  have Hb := Lib.hid hb; clear hb
  cases c
  all_goals
    go_enter Tryd.func39, Tryd.ntmps39
    go_wp2_with (first | (go_at_call 42; refine (rvalid_any s (by omega) _ Hv.out _).mono ?_; rintro e w1 ⟨rfl, hB⟩; have HB := Lib.hid hB; obtain ⟨hcell, hfro⟩ := belowReads hB; have hz : w.heap.size < w1.heap.size := (by have := hB.size; simp at this; omega); clear hB) | (go_at_call 43; refine (riri_any s (by omega) _ Hc.out _).mono ?_; rintro e w2 ⟨rfl, hB⟩; have HB2 := Lib.hid hB; obtain ⟨hcell2, hfro2⟩ := belowReads hB; clear hB))
    go_ret
    first
    | exact ⟨retB Hb.out, below_pair HB.out HB2.out⟩
    | exact ⟨retB Hb.out, below_box HB.out⟩
    | exact ⟨retB Hb.out, below_box HB2.out⟩
    | exact ⟨retB Hb.out, below_box (Below.refl _ _)⟩
set_option maxRecDepth 100000 in
set_option maxHeartbeats 1000000 in
theorem rmay1_out (s x : ByteArray) (h : fitR ⟨1, s, x⟩) (hs : 4000 < s.size) (b : Bool) (hb : (iriB s && emB x) = b) (w : World) :
    Calls Tryd.prog 39 #[.agg #[.int .i64 1, .string s, .string x]] w fun e w' => e = .returned (.bool b) ∧ Below w.heap.size w w' := by
  obtain ⟨h1, h2⟩ := h
  dsimp only at h1 h2
  have gA : decide ((s.size : Int) ≤ 4000) = false := decide_eq_false (by omega)
  have hvv : valB s = false := by unfold valB; rw [decide_eq_false (by omega)]; rfl
  clear hvv
  have he := empty_is x
  obtain ⟨d, hd⟩ : ∃ d, emB x = d := ⟨_, rfl⟩
  rw [hd] at hb
  unfold emB at hd
  rw [hd] at he
  clear hd
  obtain ⟨c, hc⟩ : ∃ c, iriB s = c := ⟨_, rfl⟩
  rw [hc] at hb
  have Hc := Lib.hid hc; clear hc
  have Hb := Lib.hid hb; clear hb
  cases c
  all_goals
    go_enter Tryd.func39, Tryd.ntmps39
    go_wp2_with (first | (go_at_call 43; refine (riri_any s (by omega) _ Hc.out _).mono ?_; rintro e w2 ⟨rfl, hB⟩; have HB2 := Lib.hid hB; obtain ⟨hcell2, hfro2⟩ := belowReads hB; clear hB))
    go_ret
    first
    | exact ⟨retB Hb.out, below_pair HB.out HB2.out⟩
    | exact ⟨retB Hb.out, below_box HB.out⟩
    | exact ⟨retB Hb.out, below_box HB2.out⟩
    | exact ⟨retB Hb.out, below_box (Below.refl _ _)⟩
set_option maxRecDepth 100000 in
set_option maxHeartbeats 1000000 in
theorem rmay2_in (s x : ByteArray) (h : fitR ⟨2, s, x⟩) (hs : s.size ≤ 4000) (b : Bool) (hb : (wordB s 64 && emB x) = b) (w : World) :
    Calls Tryd.prog 39 #[.agg #[.int .i64 2, .string s, .string x]] w fun e w' => e = .returned (.bool b) ∧ Below w.heap.size w w' := by
  obtain ⟨h1, h2⟩ := h
  dsimp only at h1 h2
  have gA : decide ((s.size : Int) ≤ 4000) = true := decide_eq_true (by omega)
  obtain ⟨v, hv⟩ : ∃ v, vlB s = v := ⟨_, rfl⟩
  have hvv : valB s = v := by rw [← hv]; unfold valB; rw [decide_eq_true hs]; rfl
  have Hv := Lib.hid hv; clear hv
  clear hvv
  have he := empty_is x
  obtain ⟨d, hd⟩ : ∃ d, emB x = d := ⟨_, rfl⟩
  rw [hd] at hb
  unfold emB at hd
  rw [hd] at he
  clear hd
  obtain ⟨c, hc⟩ : ∃ c, wordB s 64 = c := ⟨_, rfl⟩
  rw [hc] at hb
  have Hc := Lib.hid hc; clear hc
  have Hb := Lib.hid hb; clear hb
  cases c
  all_goals
    go_enter Tryd.func39, Tryd.ntmps39
    go_wp2_with (first | (go_at_call 42; refine (rvalid_any s (by omega) _ Hv.out _).mono ?_; rintro e w1 ⟨rfl, hB⟩; have HB := Lib.hid hB; obtain ⟨hcell, hfro⟩ := belowReads hB; have hz : w.heap.size < w1.heap.size := (by have := hB.size; simp at this; omega); clear hB) | (go_at_call 40; refine (rword_any s (by omega) 64 (by omega) _ Hc.out _).mono ?_; rintro e w2 ⟨rfl, rfl⟩))
    go_ret
    first
    | exact ⟨retB Hb.out, below_pair HB.out HB2.out⟩
    | exact ⟨retB Hb.out, below_box HB.out⟩
    | exact ⟨retB Hb.out, below_box HB2.out⟩
    | exact ⟨retB Hb.out, below_box (Below.refl _ _)⟩
set_option maxRecDepth 100000 in
set_option maxHeartbeats 1000000 in
theorem rmay2_out (s x : ByteArray) (h : fitR ⟨2, s, x⟩) (hs : 4000 < s.size) (b : Bool) (hb : (wordB s 64 && emB x) = b) (w : World) :
    Calls Tryd.prog 39 #[.agg #[.int .i64 2, .string s, .string x]] w fun e w' => e = .returned (.bool b) ∧ Below w.heap.size w w' := by
  obtain ⟨h1, h2⟩ := h
  dsimp only at h1 h2
  have gA : decide ((s.size : Int) ≤ 4000) = false := decide_eq_false (by omega)
  have hvv : valB s = false := by unfold valB; rw [decide_eq_false (by omega)]; rfl
  clear hvv
  have he := empty_is x
  obtain ⟨d, hd⟩ : ∃ d, emB x = d := ⟨_, rfl⟩
  rw [hd] at hb
  unfold emB at hd
  rw [hd] at he
  clear hd
  obtain ⟨c, hc⟩ : ∃ c, wordB s 64 = c := ⟨_, rfl⟩
  rw [hc] at hb
  have Hc := Lib.hid hc; clear hc
  have Hb := Lib.hid hb; clear hb
  cases c
  all_goals
    go_enter Tryd.func39, Tryd.ntmps39
    go_wp2_with (first | (go_at_call 40; refine (rword_any s (by omega) 64 (by omega) _ Hc.out _).mono ?_; rintro e w2 ⟨rfl, rfl⟩))
    go_ret
    first
    | exact ⟨retB Hb.out, below_pair HB.out HB2.out⟩
    | exact ⟨retB Hb.out, below_box HB.out⟩
    | exact ⟨retB Hb.out, below_box HB2.out⟩
    | exact ⟨retB Hb.out, below_box (Below.refl _ _)⟩
set_option maxRecDepth 100000 in
set_option maxHeartbeats 1000000 in
theorem rmay3_in (s x : ByteArray) (h : fitR ⟨3, s, x⟩) (hs : s.size ≤ 4000) (b : Bool) (hb : (valB s && emB x) = b) (w : World) :
    Calls Tryd.prog 39 #[.agg #[.int .i64 3, .string s, .string x]] w fun e w' => e = .returned (.bool b) ∧ Below w.heap.size w w' := by
  obtain ⟨h1, h2⟩ := h
  dsimp only at h1 h2
  have gA : decide ((s.size : Int) ≤ 4000) = true := decide_eq_true (by omega)
  obtain ⟨v, hv⟩ : ∃ v, vlB s = v := ⟨_, rfl⟩
  have hvv : valB s = v := by rw [← hv]; unfold valB; rw [decide_eq_true hs]; rfl
  have Hv := Lib.hid hv; clear hv
  rw [hvv] at hb
  clear hvv
  have he := empty_is x
  obtain ⟨d, hd⟩ : ∃ d, emB x = d := ⟨_, rfl⟩
  rw [hd] at hb
  unfold emB at hd
  rw [hd] at he
  clear hd
  have Hb := Lib.hid hb; clear hb
  cases v
  all_goals
    go_enter Tryd.func39, Tryd.ntmps39
    go_wp2_with (first | (go_at_call 42; refine (rvalid_any s (by omega) _ Hv.out _).mono ?_; rintro e w1 ⟨rfl, hB⟩; have HB := Lib.hid hB; obtain ⟨hcell, hfro⟩ := belowReads hB; have hz : w.heap.size < w1.heap.size := (by have := hB.size; simp at this; omega); clear hB))
    go_ret
    first
    | exact ⟨retB Hb.out, below_pair HB.out HB2.out⟩
    | exact ⟨retB Hb.out, below_box HB.out⟩
    | exact ⟨retB Hb.out, below_box HB2.out⟩
    | exact ⟨retB Hb.out, below_box (Below.refl _ _)⟩
set_option maxRecDepth 100000 in
set_option maxHeartbeats 1000000 in
theorem rmay3_out (s x : ByteArray) (h : fitR ⟨3, s, x⟩) (hs : 4000 < s.size) (b : Bool) (hb : (valB s && emB x) = b) (w : World) :
    Calls Tryd.prog 39 #[.agg #[.int .i64 3, .string s, .string x]] w fun e w' => e = .returned (.bool b) ∧ Below w.heap.size w w' := by
  obtain ⟨h1, h2⟩ := h
  dsimp only at h1 h2
  have gA : decide ((s.size : Int) ≤ 4000) = false := decide_eq_false (by omega)
  have hvv : valB s = false := by unfold valB; rw [decide_eq_false (by omega)]; rfl
  rw [hvv] at hb
  clear hvv
  have he := empty_is x
  obtain ⟨d, hd⟩ : ∃ d, emB x = d := ⟨_, rfl⟩
  rw [hd] at hb
  unfold emB at hd
  rw [hd] at he
  clear hd
  have Hb := Lib.hid hb; clear hb
  all_goals
    go_enter Tryd.func39, Tryd.ntmps39
    go_wp2_with fail
    go_ret
    first
    | exact ⟨retB Hb.out, below_pair HB.out HB2.out⟩
    | exact ⟨retB Hb.out, below_box HB.out⟩
    | exact ⟨retB Hb.out, below_box HB2.out⟩
    | exact ⟨retB Hb.out, below_box (Below.refl _ _)⟩
set_option maxRecDepth 100000 in
set_option maxHeartbeats 1000000 in
theorem rmay4_in (s x : ByteArray) (h : fitR ⟨4, s, x⟩) (hs : s.size ≤ 4000) (b : Bool) (hb : (valB s && tagB x) = b) (w : World) :
    Calls Tryd.prog 39 #[.agg #[.int .i64 4, .string s, .string x]] w fun e w' => e = .returned (.bool b) ∧ Below w.heap.size w w' := by
  obtain ⟨h1, h2⟩ := h
  dsimp only at h1 h2
  have gA : decide ((s.size : Int) ≤ 4000) = true := decide_eq_true (by omega)
  obtain ⟨v, hv⟩ : ∃ v, vlB s = v := ⟨_, rfl⟩
  have hvv : valB s = v := by rw [← hv]; unfold valB; rw [decide_eq_true hs]; rfl
  have Hv := Lib.hid hv; clear hv
  rw [hvv] at hb
  clear hvv
  obtain ⟨c, hc⟩ : ∃ c, tagB x = c := ⟨_, rfl⟩
  rw [hc] at hb
  have Hc := Lib.hid hc; clear hc
  have Hb := Lib.hid hb; clear hb
  cases v
  all_goals
    go_enter Tryd.func39, Tryd.ntmps39
    go_wp2_with (first | (go_at_call 42; refine (rvalid_any s (by omega) _ Hv.out _).mono ?_; rintro e w1 ⟨rfl, hB⟩; have HB := Lib.hid hB; obtain ⟨hcell, hfro⟩ := belowReads hB; have hz : w.heap.size < w1.heap.size := (by have := hB.size; simp at this; omega); clear hB) | (go_at_call 44; refine (rtag_any x (by omega) _ Hc.out _).mono ?_; rintro e w2 ⟨rfl, rfl⟩))
    go_ret
    first
    | exact ⟨retB Hb.out, below_pair HB.out HB2.out⟩
    | exact ⟨retB Hb.out, below_box HB.out⟩
    | exact ⟨retB Hb.out, below_box HB2.out⟩
    | exact ⟨retB Hb.out, below_box (Below.refl _ _)⟩
set_option maxRecDepth 100000 in
set_option maxHeartbeats 1000000 in
theorem rmay4_out (s x : ByteArray) (h : fitR ⟨4, s, x⟩) (hs : 4000 < s.size) (b : Bool) (hb : (valB s && tagB x) = b) (w : World) :
    Calls Tryd.prog 39 #[.agg #[.int .i64 4, .string s, .string x]] w fun e w' => e = .returned (.bool b) ∧ Below w.heap.size w w' := by
  obtain ⟨h1, h2⟩ := h
  dsimp only at h1 h2
  have gA : decide ((s.size : Int) ≤ 4000) = false := decide_eq_false (by omega)
  have hvv : valB s = false := by unfold valB; rw [decide_eq_false (by omega)]; rfl
  rw [hvv] at hb
  clear hvv
  have Hb := Lib.hid hb; clear hb
  all_goals
    go_enter Tryd.func39, Tryd.ntmps39
    go_wp2_with fail
    go_ret
    first
    | exact ⟨retB Hb.out, below_pair HB.out HB2.out⟩
    | exact ⟨retB Hb.out, below_box HB.out⟩
    | exact ⟨retB Hb.out, below_box HB2.out⟩
    | exact ⟨retB Hb.out, below_box (Below.refl _ _)⟩
set_option maxRecDepth 100000 in
set_option maxHeartbeats 1000000 in
theorem rmay5_in (s x : ByteArray) (h : fitR ⟨5, s, x⟩) (hs : s.size ≤ 4000) (b : Bool) (hb : (valB s && (iriB x && !(x.toList == xsdL))) = b) (w : World) :
    Calls Tryd.prog 39 #[.agg #[.int .i64 5, .string s, .string x]] w fun e w' => e = .returned (.bool b) ∧ Below w.heap.size w w' := by
  obtain ⟨h1, h2⟩ := h
  dsimp only at h1 h2
  have gA : decide ((s.size : Int) ≤ 4000) = true := decide_eq_true (by omega)
  obtain ⟨v, hv⟩ : ∃ v, vlB s = v := ⟨_, rfl⟩
  have hvv : valB s = v := by rw [← hv]; unfold valB; rw [decide_eq_true hs]; rfl
  have Hv := Lib.hid hv; clear hv
  rw [hvv] at hb
  clear hvv
  obtain ⟨c, hc⟩ : ∃ c, iriB x = c := ⟨_, rfl⟩
  rw [hc] at hb
  have Hc := Lib.hid hc; clear hc
  have Hb := Lib.hid hb; clear hb
  cases v
  all_goals cases c
  all_goals
    go_enter Tryd.func39, Tryd.ntmps39
    go_wp2_with (first | (go_at_call 42; refine (rvalid_any s (by omega) _ Hv.out _).mono ?_; rintro e w1 ⟨rfl, hB⟩; have HB := Lib.hid hB; obtain ⟨hcell, hfro⟩ := belowReads hB; have hz : w.heap.size < w1.heap.size := (by have := hB.size; simp at this; omega); clear hB) | (go_at_call 43; refine (riri_any x (by omega) _ Hc.out _).mono ?_; rintro e w2 ⟨rfl, hB⟩; have HB2 := Lib.hid hB; obtain ⟨hcell2, hfro2⟩ := belowReads hB; clear hB))
    go_ret
    first
    | exact ⟨retB Hb.out, below_pair HB.out HB2.out⟩
    | exact ⟨retB Hb.out, below_box HB.out⟩
    | exact ⟨retB Hb.out, below_box HB2.out⟩
    | exact ⟨retB Hb.out, below_box (Below.refl _ _)⟩
set_option maxRecDepth 100000 in
set_option maxHeartbeats 1000000 in
theorem rmay5_out (s x : ByteArray) (h : fitR ⟨5, s, x⟩) (hs : 4000 < s.size) (b : Bool) (hb : (valB s && (iriB x && !(x.toList == xsdL))) = b) (w : World) :
    Calls Tryd.prog 39 #[.agg #[.int .i64 5, .string s, .string x]] w fun e w' => e = .returned (.bool b) ∧ Below w.heap.size w w' := by
  obtain ⟨h1, h2⟩ := h
  dsimp only at h1 h2
  have gA : decide ((s.size : Int) ≤ 4000) = false := decide_eq_false (by omega)
  have hvv : valB s = false := by unfold valB; rw [decide_eq_false (by omega)]; rfl
  rw [hvv] at hb
  clear hvv
  have Hb := Lib.hid hb; clear hb
  all_goals
    go_enter Tryd.func39, Tryd.ntmps39
    go_wp2_with fail
    go_ret
    first
    | exact ⟨retB Hb.out, below_pair HB.out HB2.out⟩
    | exact ⟨retB Hb.out, below_box HB.out⟩
    | exact ⟨retB Hb.out, below_box HB2.out⟩
    | exact ⟨retB Hb.out, below_box (Below.refl _ _)⟩
set_option maxRecDepth 100000 in
set_option maxHeartbeats 1000000 in
theorem rmay0_in (k : Int) (s x : ByteArray) (h : fitR ⟨k, s, x⟩) (h1 : k ≠ 1) (h2 : k ≠ 2) (h3 : k ≠ 3) (h4 : k ≠ 4) (h5 : k ≠ 5) (hs : s.size ≤ 4000) (w : World) :
    Calls Tryd.prog 39 #[.agg #[.int .i64 k, .string s, .string x]] w fun e w' => e = .returned (.bool false) ∧ Below w.heap.size w w' := by
  have e1 : (k == 1) = false := beq_eq_false_iff_ne.2 h1
  have e2 : (k == 2) = false := beq_eq_false_iff_ne.2 h2
  have e3 : (k == 3) = false := beq_eq_false_iff_ne.2 h3
  have e4 : (k == 4) = false := beq_eq_false_iff_ne.2 h4
  have e5 : (k == 5) = false := beq_eq_false_iff_ne.2 h5
  clear h1 h2 h3 h4 h5
  obtain ⟨h1, h2⟩ := h
  dsimp only at h1 h2
  have gA : decide ((s.size : Int) ≤ 4000) = true := decide_eq_true (by omega)
  obtain ⟨v, hv⟩ : ∃ v, vlB s = v := ⟨_, rfl⟩
  have Hv := Lib.hid hv; clear hv
  go_enter Tryd.func39, Tryd.ntmps39
  go_wp2_with (go_at_call 42; refine (rvalid_any s (by omega) _ Hv.out _).mono ?_; rintro e w1 ⟨rfl, hB⟩; have HB := Lib.hid hB; obtain ⟨hcell, hfro⟩ := belowReads hB; have hz : w.heap.size < w1.heap.size := (by have := hB.size; simp at this; omega); clear hB)
  go_ret
  exact ⟨rfl, below_box HB.out⟩
set_option maxRecDepth 100000 in
set_option maxHeartbeats 1000000 in
theorem rmay0_out (k : Int) (s x : ByteArray) (h : fitR ⟨k, s, x⟩) (h1 : k ≠ 1) (h2 : k ≠ 2) (h3 : k ≠ 3) (h4 : k ≠ 4) (h5 : k ≠ 5) (hs : 4000 < s.size) (w : World) :
    Calls Tryd.prog 39 #[.agg #[.int .i64 k, .string s, .string x]] w fun e w' => e = .returned (.bool false) ∧ Below w.heap.size w w' := by
  have e1 : (k == 1) = false := beq_eq_false_iff_ne.2 h1
  have e2 : (k == 2) = false := beq_eq_false_iff_ne.2 h2
  have e3 : (k == 3) = false := beq_eq_false_iff_ne.2 h3
  have e4 : (k == 4) = false := beq_eq_false_iff_ne.2 h4
  have e5 : (k == 5) = false := beq_eq_false_iff_ne.2 h5
  clear h1 h2 h3 h4 h5
  obtain ⟨h1, h2⟩ := h
  dsimp only at h1 h2
  have gA : decide ((s.size : Int) ≤ 4000) = false := decide_eq_false (by omega)
  obtain ⟨v, hv⟩ : ∃ v, vlB s = v := ⟨_, rfl⟩
  have Hv := Lib.hid hv; clear hv
  go_enter Tryd.func39, Tryd.ntmps39
  go_wp2_with fail
  go_ret
  exact ⟨rfl, below_box (Below.refl _ _)⟩
theorem rtmay_any (t : Tm) (h : fitR t) (b : Bool) (hb : mayT t = b) (w : World) :
    Calls Tryd.prog 39 #[tmV t] w fun e w' => e = .returned (.bool b) ∧ Below w.heap.size w w' := by
  obtain ⟨k, s, x⟩ := t
  show Calls _ _ #[.agg #[.int .i64 k, .string s, .string x]] _ _
  by_cases hs : s.size ≤ 4000
  · by_cases h1 : k = 1
    · subst h1; exact rmay1_in s x h hs b hb w
    by_cases h2 : k = 2
    · subst h2; exact rmay2_in s x h hs b hb w
    by_cases h3 : k = 3
    · subst h3; exact rmay3_in s x h hs b hb w
    by_cases h4 : k = 4
    · subst h4; exact rmay4_in s x h hs b hb w
    by_cases h5 : k = 5
    · subst h5; exact rmay5_in s x h hs b hb w
    obtain rfl : false = b := by rw [← hb]; unfold mayT; rw [if_neg h1, if_neg h2, if_neg h3, if_neg h4, if_neg h5]
    exact rmay0_in k s x h h1 h2 h3 h4 h5 hs w
  · by_cases h1 : k = 1
    · subst h1; exact rmay1_out s x h (by omega) b hb w
    by_cases h2 : k = 2
    · subst h2; exact rmay2_out s x h (by omega) b hb w
    by_cases h3 : k = 3
    · subst h3; exact rmay3_out s x h (by omega) b hb w
    by_cases h4 : k = 4
    · subst h4; exact rmay4_out s x h (by omega) b hb w
    by_cases h5 : k = 5
    · subst h5; exact rmay5_out s x h (by omega) b hb w
    obtain rfl : false = b := by rw [← hb]; unfold mayT; rw [if_neg h1, if_neg h2, if_neg h3, if_neg h4, if_neg h5]
    exact rmay0_out k s x h h1 h2 h3 h4 h5 (by omega) w
end Go.Proofs.YtmgaibeibfholaaDoor
