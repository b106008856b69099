/- May a slot be: walked. -/
import Derived.Test.YtmgaibeibfholaaDoorP13
namespace Go.Proofs.YtmgaibeibfholaaDoor
set_option maxRecDepth 100000
open Go.RowKit Go.Shelf Go.Maps Plain
set_option linter.unusedVariables false

/-- may a slot, a pattern, a part be? -/
def maySo (s : So) : Bool := if s.var.size = 0 then mayT s.tm else wordB s.var 32 && decide (s.tm = tm0)
def mayPn (p : Pn) : Bool := maySo p.a && (maySo p.b && maySo p.c)
def mayPa (l : Pa) : Bool :=
  if l.kind = 1 ∨ l.kind = 2 then mayPn l.pat && (decide (l.a = so0) && decide (l.b = so0))
  else if l.kind = 3 ∨ l.kind = 4 then decide (l.pat = pn0) && (maySo l.a && maySo l.b) else false
def fitS (s : So) : Prop := s.var.size < 4294967281 ∧ fitT s.tm ∧ i64ok s.tm.kind
def fitN (p : Pn) : Prop := fitS p.a ∧ fitS p.b ∧ fitS p.c
def fitL (l : Pa) : Prop := fitN l.pat ∧ fitS l.a ∧ fitS l.b

theorem build35 (w : World) : (Instr.build 35 #[]).run Tryd.prog w = .ok (.agg #[.int .i64 0, .string ⟨#[]⟩, .string ⟨#[]⟩]) w := run_build w 35 _ _ (by kernel_rfl)
theorem build37 (w : World) : (Instr.build 37 #[]).run Tryd.prog w = .ok (.agg #[.string ⟨#[]⟩, .int .i64 0, .string ⟨#[]⟩, .string ⟨#[]⟩]) w := run_build w 37 _ _ (by kernel_rfl)
theorem build40 (w : World) : (Instr.build 40 #[]).run Tryd.prog w = .ok (.agg #[.string ⟨#[]⟩, .int .i64 0, .string ⟨#[]⟩, .string ⟨#[]⟩, .string ⟨#[]⟩, .int .i64 0, .string ⟨#[]⟩, .string ⟨#[]⟩, .string ⟨#[]⟩, .int .i64 0, .string ⟨#[]⟩, .string ⟨#[]⟩]) w := run_build w 40 _ _ (by kernel_rfl)

set_option maxRecDepth 100000 in
set_option maxHeartbeats 1000000 in
theorem so_any (s : So) (h : fitS s) (b : Bool) (hb : maySo s = b) (w : World) :
    Calls Tryd.prog 34 #[soV s] w fun e w' => e = .returned (.bool b) ∧ Below w.heap.size w w' := by
  obtain ⟨v, ⟨k, t, e⟩⟩ := s
  obtain ⟨h1, h2, h3⟩ := h
  dsimp only at h1 h2 h3
  show Calls _ _ #[.agg #[.string v, .int .i64 k, .string t, .string e]] _ _
  have hem := empty_is v
  by_cases hz : v.size = 0
  · rw [decide_eq_true hz] at hem
    have Hb := Lib.hid (show mayT ⟨k, t, e⟩ = b by rw [← hb]; unfold maySo; rw [if_pos hz]); clear hb hz
    go_enter Tryd.func34, Tryd.ntmps34
    go_wp2_with (go_at_call 38; refine (tmay_any ⟨k, t, e⟩ h2 h3 _ Hb.out _).mono ?_; rintro e w1 ⟨rfl, hB⟩; have HB := Lib.hid hB; clear hB)
    go_ret
    exact ⟨rfl, below_box HB.out⟩
  · rw [decide_eq_false hz] at hem
    obtain ⟨c, hc⟩ : ∃ c, wordB v 32 = c := ⟨_, rfl⟩
    obtain ⟨d, hd⟩ : ∃ d, decide ((⟨k, t, e⟩ : Tm) = tm0) = d := ⟨_, rfl⟩
    have Hb := Lib.hid (show (c && d) = b by rw [← hb, ← hc, ← hd]; unfold maySo; rw [if_neg hz])
    have Hc := Lib.hid hc; clear hb hz hc
    have hbuild := build35
    have hq : ∀ w, (binOp .eql 35 (.agg #[.int .i64 k, .string t, .string e]) (.agg #[.int .i64 0, .string ⟨#[]⟩, .string ⟨#[]⟩])).run Tryd.prog w = .ok (.bool d) w := eqTmB ⟨k, t, e⟩ tm0 d hd
    have HD := Lib.hid hd; clear hd
    cases c
    all_goals
      go_enter Tryd.func34, Tryd.ntmps34
      go_wp2_with (go_at_call 37; refine (name_any v (by omega) _ Hc.out _).mono ?_; rintro e w1 ⟨rfl, rfl⟩)
      go_ret
      exact ⟨retB Hb.out, below_box (Below.refl _ _)⟩
end Go.Proofs.YtmgaibeibfholaaDoor
