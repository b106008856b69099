/- May a pattern be: walked. -/
import Derived.Test.YtmgaibeibfholaaDoorP14
namespace Go.Proofs.YtmgaibeibfholaaDoor
set_option maxRecDepth 100000
open Go.RowKit Go.Shelf Go.Maps Plain
set_option linter.unusedVariables false

def fitRS (s : So) : Prop := s.var.size ≤ 9223372036854775807 ∧ fitR s.tm
def fitRN (p : Pn) : Prop := fitRS p.a ∧ fitRS p.b ∧ fitRS p.c
def fitRL (l : Pa) : Prop := fitRN l.pat ∧ fitRS l.a ∧ fitRS l.b
set_option maxRecDepth 100000 in
set_option maxHeartbeats 1000000 in
theorem rso_any (s : So) (h : fitRS s) (b : Bool) (hb : maySo s = b) (w : World) :
    Calls Tryd.prog 36 #[soV s] w fun e w' => e = .returned (.bool b) ∧ Below w.heap.size w w' := by
  obtain ⟨v, ⟨k, t, e⟩⟩ := s
  obtain ⟨h1, h2⟩ := h
  dsimp only at h1 h2
  show Calls _ _ #[.agg #[.string v, .int .i64 k, .string t, .string e]] _ _
  have hem := empty_is v
  by_cases hz : v.size = 0
  · rw [decide_eq_true hz] at hem
    have Hb := Lib.hid (show mayT ⟨k, t, e⟩ = b by rw [← hb]; unfold maySo; rw [if_pos hz]); clear hb hz
    go_enter Tryd.func36, Tryd.ntmps36
    go_wp2_with (go_at_call 39; refine (rtmay_any ⟨k, t, e⟩ h2 _ Hb.out _).mono ?_; rintro e w1 ⟨rfl, hB⟩; have HB := Lib.hid hB; clear hB)
    go_ret
    exact ⟨rfl, below_box HB.out⟩
  · rw [decide_eq_false hz] at hem
    obtain ⟨c, hc⟩ : ∃ c, wordB v 32 = c := ⟨_, rfl⟩
    obtain ⟨d, hd⟩ : ∃ d, decide ((⟨k, t, e⟩ : Tm) = tm0) = d := ⟨_, rfl⟩
    have Hb := Lib.hid (show (d && c) = b by rw [← hb, ← hc, ← hd, Bool.and_comm]; unfold maySo; rw [if_neg hz])
    have Hc := Lib.hid hc; clear hb hz hc
    have hbuild := build35
    have hq : ∀ w, (binOp .eql 35 (.agg #[.int .i64 k, .string t, .string e]) (.agg #[.int .i64 0, .string ⟨#[]⟩, .string ⟨#[]⟩])).run Tryd.prog w = .ok (.bool d) w := eqTmB ⟨k, t, e⟩ tm0 d hd
    have HD := Lib.hid hd; clear hd
    cases d
    all_goals
      go_enter Tryd.func36, Tryd.ntmps36
      go_wp2_with (go_at_call 40; refine (rword_any v (by omega) 32 (by omega) _ Hc.out _).mono ?_; rintro e w1 ⟨rfl, rfl⟩)
      go_ret
      exact ⟨retB Hb.out, below_box (Below.refl _ _)⟩
set_option maxRecDepth 100000 in
set_option maxHeartbeats 1000000 in
theorem pn_any (p : Pn) (h : fitN p) (b : Bool) (hb : mayPn p = b) (w : World) :
    Calls Tryd.prog 26 #[pnV p] w fun e w' => e = .returned (.bool b) ∧ Below w.heap.size w w' := by
  obtain ⟨⟨v0, ⟨k0, t0, e0⟩⟩, ⟨v1, ⟨k1, t1, e1⟩⟩, ⟨v2, ⟨k2, t2, e2⟩⟩⟩ := p
  obtain ⟨h0, h1, h2⟩ := h
  dsimp only at h0 h1 h2
  obtain ⟨c0, hc0⟩ : ∃ c, maySo ⟨v0, ⟨k0, t0, e0⟩⟩ = c := ⟨_, rfl⟩
  obtain ⟨c1, hc1⟩ : ∃ c, maySo ⟨v1, ⟨k1, t1, e1⟩⟩ = c := ⟨_, rfl⟩
  obtain ⟨c2, hc2⟩ : ∃ c, maySo ⟨v2, ⟨k2, t2, e2⟩⟩ = c := ⟨_, rfl⟩
  have Hb := Lib.hid (show (c0 && (c1 && c2)) = b by rw [← hb, ← hc0, ← hc1, ← hc2]; rfl); clear hb
  have H0 := Lib.hid hc0; have H1 := Lib.hid hc1; have H2 := Lib.hid hc2; have F0 := Lib.hid h0; have F1 := Lib.hid h1; have F2 := Lib.hid h2
  clear hc0 hc1 hc2 h0 h1 h2
  show Calls _ _ #[.agg #[.string v0, .int .i64 k0, .string t0, .string e0, .string v1, .int .i64 k1, .string t1, .string e1, .string v2, .int .i64 k2, .string t2, .string e2]] _ _
  cases c0
  · go_enter Tryd.func26, Tryd.ntmps26
    go_wp2_with fail
    refine (so_any ⟨v0, ⟨k0, t0, e0⟩⟩ F0.out _ H0.out _).mono ?_
    rintro e x0 ⟨rfl, hB⟩
    have B0 := Lib.hid hB
    obtain ⟨hcell0, hfro0⟩ := belowReads hB
    have hz0 : w.heap.size < x0.heap.size := by have := hB.size; first | omega | (simp at this; omega)
    clear hB
    go_wp2_with fail
    go_ret
    exact ⟨retB Hb.out, below_box B0.out⟩
  · cases c1
    · go_enter Tryd.func26, Tryd.ntmps26
      go_wp2_with fail
      refine (so_any ⟨v0, ⟨k0, t0, e0⟩⟩ F0.out _ H0.out _).mono ?_
      rintro e x0 ⟨rfl, hB⟩
      have B0 := Lib.hid hB
      obtain ⟨hcell0, hfro0⟩ := belowReads hB
      have hz0 : w.heap.size < x0.heap.size := by have := hB.size; first | omega | (simp at this; omega)
      clear hB
      go_wp2_with fail
      refine (so_any ⟨v1, ⟨k1, t1, e1⟩⟩ F1.out _ H1.out _).mono ?_
      rintro e x1 ⟨rfl, hB⟩
      have B1 := Lib.hid hB
      obtain ⟨hcell1, hfro1⟩ := belowReads hB
      have hz1 : w.heap.size < x1.heap.size := by have := hB.size; first | omega | (simp at this; omega)
      clear hB
      go_wp2_with fail
      go_ret
      exact ⟨retB Hb.out, below_seq (below_box B0.out) B1.out (below_box B0.out).size⟩
    · cases c2
      all_goals
        go_enter Tryd.func26, Tryd.ntmps26
        go_wp2_with fail
        refine (so_any ⟨v0, ⟨k0, t0, e0⟩⟩ F0.out _ H0.out _).mono ?_
        rintro e x0 ⟨rfl, hB⟩
        have B0 := Lib.hid hB
        obtain ⟨hcell0, hfro0⟩ := belowReads hB
        have hz0 : w.heap.size < x0.heap.size := by have := hB.size; first | omega | (simp at this; omega)
        clear hB
        go_wp2_with fail
        refine (so_any ⟨v1, ⟨k1, t1, e1⟩⟩ F1.out _ H1.out _).mono ?_
        rintro e x1 ⟨rfl, hB⟩
        have B1 := Lib.hid hB
        obtain ⟨hcell1, hfro1⟩ := belowReads hB
        have hz1 : w.heap.size < x1.heap.size := by have := hB.size; first | omega | (simp at this; omega)
        clear hB
        go_wp2_with fail
        refine (so_any ⟨v2, ⟨k2, t2, e2⟩⟩ F2.out _ H2.out _).mono ?_
        rintro e x2 ⟨rfl, hB⟩
        have B2 := Lib.hid hB
        obtain ⟨hcell2, hfro2⟩ := belowReads hB
        have hz2 : w.heap.size < x2.heap.size := by have := hB.size; first | omega | (simp at this; omega)
        clear hB
        go_wp2_with fail
        go_ret
        exact ⟨retB Hb.out, below_seq (below_seq (below_box B0.out) B1.out (below_box B0.out).size) B2.out (below_seq (below_box B0.out) B1.out (below_box B0.out).size).size⟩
set_option maxRecDepth 100000 in
set_option maxHeartbeats 1000000 in
theorem rpn_any (p : Pn) (h : fitRN p) (b : Bool) (hb : mayPn p = b) (w : World) :
    Calls Tryd.prog 32 #[pnV p] w fun e w' => e = .returned (.bool b) ∧ Below w.heap.size w w' := by
  obtain ⟨⟨v0, ⟨k0, t0, e0⟩⟩, ⟨v1, ⟨k1, t1, e1⟩⟩, ⟨v2, ⟨k2, t2, e2⟩⟩⟩ := p
  obtain ⟨h0, h1, h2⟩ := h
  dsimp only at h0 h1 h2
  obtain ⟨c0, hc0⟩ : ∃ c, maySo ⟨v0, ⟨k0, t0, e0⟩⟩ = c := ⟨_, rfl⟩
  obtain ⟨c1, hc1⟩ : ∃ c, maySo ⟨v1, ⟨k1, t1, e1⟩⟩ = c := ⟨_, rfl⟩
  obtain ⟨c2, hc2⟩ : ∃ c, maySo ⟨v2, ⟨k2, t2, e2⟩⟩ = c := ⟨_, rfl⟩
  have Hb := Lib.hid (show (c0 && (c1 && c2)) = b by rw [← hb, ← hc0, ← hc1, ← hc2]; rfl); clear hb
  have H0 := Lib.hid hc0; have H1 := Lib.hid hc1; have H2 := Lib.hid hc2; have F0 := Lib.hid h0; have F1 := Lib.hid h1; have F2 := Lib.hid h2
  clear hc0 hc1 hc2 h0 h1 h2
  show Calls _ _ #[.agg #[.string v0, .int .i64 k0, .string t0, .string e0, .string v1, .int .i64 k1, .string t1, .string e1, .string v2, .int .i64 k2, .string t2, .string e2]] _ _
  cases c0
  · go_enter Tryd.func32, Tryd.ntmps32
    go_wp2_with fail
    refine (rso_any ⟨v0, ⟨k0, t0, e0⟩⟩ F0.out _ H0.out _).mono ?_
    rintro e x0 ⟨rfl, hB⟩
    have B0 := Lib.hid hB
    obtain ⟨hcell0, hfro0⟩ := belowReads hB
    have hz0 : w.heap.size < x0.heap.size := by have := hB.size; first | omega | (simp at this; omega)
    clear hB
    go_wp2_with fail
    go_ret
    exact ⟨retB Hb.out, below_box B0.out⟩
  · cases c1
    · go_enter Tryd.func32, Tryd.ntmps32
      go_wp2_with fail
      refine (rso_any ⟨v0, ⟨k0, t0, e0⟩⟩ F0.out _ H0.out _).mono ?_
      rintro e x0 ⟨rfl, hB⟩
      have B0 := Lib.hid hB
      obtain ⟨hcell0, hfro0⟩ := belowReads hB
      have hz0 : w.heap.size < x0.heap.size := by have := hB.size; first | omega | (simp at this; omega)
      clear hB
      go_wp2_with fail
      refine (rso_any ⟨v1, ⟨k1, t1, e1⟩⟩ F1.out _ H1.out _).mono ?_
      rintro e x1 ⟨rfl, hB⟩
      have B1 := Lib.hid hB
      obtain ⟨hcell1, hfro1⟩ := belowReads hB
      have hz1 : w.heap.size < x1.heap.size := by have := hB.size; first | omega | (simp at this; omega)
      clear hB
      go_wp2_with fail
      go_ret
      exact ⟨retB Hb.out, below_seq (below_box B0.out) B1.out (below_box B0.out).size⟩
    · cases c2
      all_goals
        go_enter Tryd.func32, Tryd.ntmps32
        go_wp2_with fail
        refine (rso_any ⟨v0, ⟨k0, t0, e0⟩⟩ F0.out _ H0.out _).mono ?_
        rintro e x0 ⟨rfl, hB⟩
        have B0 := Lib.hid hB
        obtain ⟨hcell0, hfro0⟩ := belowReads hB
        have hz0 : w.heap.size < x0.heap.size := by have := hB.size; first | omega | (simp at this; omega)
        clear hB
        go_wp2_with fail
        refine (rso_any ⟨v1, ⟨k1, t1, e1⟩⟩ F1.out _ H1.out _).mono ?_
        rintro e x1 ⟨rfl, hB⟩
        have B1 := Lib.hid hB
        obtain ⟨hcell1, hfro1⟩ := belowReads hB
        have hz1 : w.heap.size < x1.heap.size := by have := hB.size; first | omega | (simp at this; omega)
        clear hB
        go_wp2_with fail
        refine (rso_any ⟨v2, ⟨k2, t2, e2⟩⟩ F2.out _ H2.out _).mono ?_
        rintro e x2 ⟨rfl, hB⟩
        have B2 := Lib.hid hB
        obtain ⟨hcell2, hfro2⟩ := belowReads hB
        have hz2 : w.heap.size < x2.heap.size := by have := hB.size; first | omega | (simp at this; omega)
        clear hB
        go_wp2_with fail
        go_ret
        exact ⟨retB Hb.out, below_seq (below_seq (below_box B0.out) B1.out (below_box B0.out).size) B2.out (below_seq (below_box B0.out) B1.out (below_box B0.out).size).size⟩
end Go.Proofs.YtmgaibeibfholaaDoor
