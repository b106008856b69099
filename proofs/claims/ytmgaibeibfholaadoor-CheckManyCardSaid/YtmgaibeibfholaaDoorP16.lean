/- May a part be: walked. -/
import Derived.Test.YtmgaibeibfholaaDoorP15
namespace Go.Proofs.YtmgaibeibfholaaDoor
set_option maxRecDepth 100000
open Go.RowKit Go.Shelf Go.Maps Plain
set_option linter.unusedVariables false

set_option maxRecDepth 100000 in
set_option maxHeartbeats 2000000 in
theorem pa1 {v0 v1 v2 v3 v4 t0 t1 t2 t3 t4 e0 e1 e2 e3 e4 : ByteArray} {k0 k1 k2 k3 k4 : Int} (F0 : Hid (fitN ⟨⟨v0, ⟨k0, t0, e0⟩⟩, ⟨v1, ⟨k1, t1, e1⟩⟩, ⟨v2, ⟨k2, t2, e2⟩⟩⟩)) (b : Bool) (hb : (mayPn ⟨⟨v0, ⟨k0, t0, e0⟩⟩, ⟨v1, ⟨k1, t1, e1⟩⟩, ⟨v2, ⟨k2, t2, e2⟩⟩⟩ && (decide ((⟨v3, ⟨k3, t3, e3⟩⟩ : So) = so0) && decide ((⟨v4, ⟨k4, t4, e4⟩⟩ : So) = so0))) = b) (w : World) :
    Calls Tryd.prog 29 #[.agg #[.int .i64 1, .string v0, .int .i64 k0, .string t0, .string e0, .string v1, .int .i64 k1, .string t1, .string e1, .string v2, .int .i64 k2, .string t2, .string e2, .string v3, .int .i64 k3, .string t3, .string e3, .string v4, .int .i64 k4, .string t4, .string e4]] w fun e w' => e = .returned (.bool b) ∧ Below w.heap.size w w' := by
  obtain ⟨c0, hc0⟩ : ∃ c, mayPn ⟨⟨v0, ⟨k0, t0, e0⟩⟩, ⟨v1, ⟨k1, t1, e1⟩⟩, ⟨v2, ⟨k2, t2, e2⟩⟩⟩ = c := ⟨_, rfl⟩
  obtain ⟨d1, hd1⟩ : ∃ c, decide ((⟨v3, ⟨k3, t3, e3⟩⟩ : So) = so0) = c := ⟨_, rfl⟩
  obtain ⟨d2, hd2⟩ : ∃ c, decide ((⟨v4, ⟨k4, t4, e4⟩⟩ : So) = so0) = c := ⟨_, rfl⟩
  rw [hc0, hd1, hd2] at hb
  have hq1 : ∀ w, (binOp .eql 37 (.agg #[.string v3, .int .i64 k3, .string t3, .string e3]) (.agg #[.string ⟨#[]⟩, .int .i64 0, .string ⟨#[]⟩, .string ⟨#[]⟩])).run Tryd.prog w = .ok (.bool d1) w := eqSoB ⟨v3, ⟨k3, t3, e3⟩⟩ so0 d1 hd1
  have hq2 : ∀ w, (binOp .eql 37 (.agg #[.string v4, .int .i64 k4, .string t4, .string e4]) (.agg #[.string ⟨#[]⟩, .int .i64 0, .string ⟨#[]⟩, .string ⟨#[]⟩])).run Tryd.prog w = .ok (.bool d2) w := eqSoB ⟨v4, ⟨k4, t4, e4⟩⟩ so0 d2 hd2
  have hbuild := build37
  have H0 := Lib.hid hc0; have Hb := Lib.hid hb
  clear hc0 hb hd1 hd2
  cases c0
  · go_enter Tryd.func29, Tryd.ntmps29
    go_wp2_with fail
    refine (pn_any ⟨⟨v0, ⟨k0, t0, e0⟩⟩, ⟨v1, ⟨k1, t1, e1⟩⟩, ⟨v2, ⟨k2, t2, e2⟩⟩⟩ F0.out _ H0.out _).mono ?_
    rintro e x0 ⟨rfl, hB⟩
    have B0 := Lib.hid hB
    obtain ⟨hcellB0, hfroB0⟩ := belowReads hB
    have hzB0 : w.heap.size < x0.heap.size := by have := hB.size; first | omega | (simp at this; omega)
    clear hB
    go_wp2_with fail
    go_ret
    exact ⟨retB Hb.out, below_box B0.out⟩
  · cases d1
    all_goals
      go_enter Tryd.func29, Tryd.ntmps29
      go_wp2_with fail
      refine (pn_any ⟨⟨v0, ⟨k0, t0, e0⟩⟩, ⟨v1, ⟨k1, t1, e1⟩⟩, ⟨v2, ⟨k2, t2, e2⟩⟩⟩ F0.out _ H0.out _).mono ?_
      rintro e x0 ⟨rfl, hB⟩
      have B0 := Lib.hid hB
      obtain ⟨hcellB0, hfroB0⟩ := belowReads hB
      have hzB0 : w.heap.size < x0.heap.size := by have := hB.size; first | omega | (simp at this; omega)
      clear hB
      go_wp2_with fail
      go_ret
      exact ⟨retB Hb.out, below_box B0.out⟩
set_option maxRecDepth 100000 in
set_option maxHeartbeats 2000000 in
theorem pa2 {v0 v1 v2 v3 v4 t0 t1 t2 t3 t4 e0 e1 e2 e3 e4 : ByteArray} {k0 k1 k2 k3 k4 : Int} (F0 : Hid (fitN ⟨⟨v0, ⟨k0, t0, e0⟩⟩, ⟨v1, ⟨k1, t1, e1⟩⟩, ⟨v2, ⟨k2, t2, e2⟩⟩⟩)) (b : Bool) (hb : (mayPn ⟨⟨v0, ⟨k0, t0, e0⟩⟩, ⟨v1, ⟨k1, t1, e1⟩⟩, ⟨v2, ⟨k2, t2, e2⟩⟩⟩ && (decide ((⟨v3, ⟨k3, t3, e3⟩⟩ : So) = so0) && decide ((⟨v4, ⟨k4, t4, e4⟩⟩ : So) = so0))) = b) (w : World) :
    Calls Tryd.prog 29 #[.agg #[.int .i64 2, .string v0, .int .i64 k0, .string t0, .string e0, .string v1, .int .i64 k1, .string t1, .string e1, .string v2, .int .i64 k2, .string t2, .string e2, .string v3, .int .i64 k3, .string t3, .string e3, .string v4, .int .i64 k4, .string t4, .string e4]] w fun e w' => e = .returned (.bool b) ∧ Below w.heap.size w w' := by
  obtain ⟨c0, hc0⟩ : ∃ c, mayPn ⟨⟨v0, ⟨k0, t0, e0⟩⟩, ⟨v1, ⟨k1, t1, e1⟩⟩, ⟨v2, ⟨k2, t2, e2⟩⟩⟩ = c := ⟨_, rfl⟩
  obtain ⟨d1, hd1⟩ : ∃ c, decide ((⟨v3, ⟨k3, t3, e3⟩⟩ : So) = so0) = c := ⟨_, rfl⟩
  obtain ⟨d2, hd2⟩ : ∃ c, decide ((⟨v4, ⟨k4, t4, e4⟩⟩ : So) = so0) = c := ⟨_, rfl⟩
  rw [hc0, hd1, hd2] at hb
  have hq1 : ∀ w, (binOp .eql 37 (.agg #[.string v3, .int .i64 k3, .string t3, .string e3]) (.agg #[.string ⟨#[]⟩, .int .i64 0, .string ⟨#[]⟩, .string ⟨#[]⟩])).run Tryd.prog w = .ok (.bool d1) w := eqSoB ⟨v3, ⟨k3, t3, e3⟩⟩ so0 d1 hd1
  have hq2 : ∀ w, (binOp .eql 37 (.agg #[.string v4, .int .i64 k4, .string t4, .string e4]) (.agg #[.string ⟨#[]⟩, .int .i64 0, .string ⟨#[]⟩, .string ⟨#[]⟩])).run Tryd.prog w = .ok (.bool d2) w := eqSoB ⟨v4, ⟨k4, t4, e4⟩⟩ so0 d2 hd2
  have hbuild := build37
  have H0 := Lib.hid hc0; have Hb := Lib.hid hb
  clear hc0 hb hd1 hd2
  cases c0
  · go_enter Tryd.func29, Tryd.ntmps29
    go_wp2_with fail
    refine (pn_any ⟨⟨v0, ⟨k0, t0, e0⟩⟩, ⟨v1, ⟨k1, t1, e1⟩⟩, ⟨v2, ⟨k2, t2, e2⟩⟩⟩ F0.out _ H0.out _).mono ?_
    rintro e x0 ⟨rfl, hB⟩
    have B0 := Lib.hid hB
    obtain ⟨hcellB0, hfroB0⟩ := belowReads hB
    have hzB0 : w.heap.size < x0.heap.size := by have := hB.size; first | omega | (simp at this; omega)
    clear hB
    go_wp2_with fail
    go_ret
    exact ⟨retB Hb.out, below_box B0.out⟩
  · cases d1
    all_goals
      go_enter Tryd.func29, Tryd.ntmps29
      go_wp2_with fail
      refine (pn_any ⟨⟨v0, ⟨k0, t0, e0⟩⟩, ⟨v1, ⟨k1, t1, e1⟩⟩, ⟨v2, ⟨k2, t2, e2⟩⟩⟩ F0.out _ H0.out _).mono ?_
      rintro e x0 ⟨rfl, hB⟩
      have B0 := Lib.hid hB
      obtain ⟨hcellB0, hfroB0⟩ := belowReads hB
      have hzB0 : w.heap.size < x0.heap.size := by have := hB.size; first | omega | (simp at this; omega)
      clear hB
      go_wp2_with fail
      go_ret
      exact ⟨retB Hb.out, below_box B0.out⟩
set_option maxRecDepth 100000 in
set_option maxHeartbeats 2000000 in
theorem pa3 {v0 v1 v2 v3 v4 t0 t1 t2 t3 t4 e0 e1 e2 e3 e4 : ByteArray} {k0 k1 k2 k3 k4 : Int} (F3 : Hid (fitS ⟨v3, ⟨k3, t3, e3⟩⟩)) (F4 : Hid (fitS ⟨v4, ⟨k4, t4, e4⟩⟩)) (b : Bool) (hb : (decide ((⟨⟨v0, ⟨k0, t0, e0⟩⟩, ⟨v1, ⟨k1, t1, e1⟩⟩, ⟨v2, ⟨k2, t2, e2⟩⟩⟩ : Pn) = pn0) && (maySo ⟨v3, ⟨k3, t3, e3⟩⟩ && maySo ⟨v4, ⟨k4, t4, e4⟩⟩)) = b) (w : World) :
    Calls Tryd.prog 29 #[.agg #[.int .i64 3, .string v0, .int .i64 k0, .string t0, .string e0, .string v1, .int .i64 k1, .string t1, .string e1, .string v2, .int .i64 k2, .string t2, .string e2, .string v3, .int .i64 k3, .string t3, .string e3, .string v4, .int .i64 k4, .string t4, .string e4]] w fun e w' => e = .returned (.bool b) ∧ Below w.heap.size w w' := by
  obtain ⟨c1, hc1⟩ : ∃ c, maySo ⟨v3, ⟨k3, t3, e3⟩⟩ = c := ⟨_, rfl⟩
  obtain ⟨c2, hc2⟩ : ∃ c, maySo ⟨v4, ⟨k4, t4, e4⟩⟩ = c := ⟨_, rfl⟩
  obtain ⟨d1, hd1⟩ : ∃ c, decide ((⟨⟨v0, ⟨k0, t0, e0⟩⟩, ⟨v1, ⟨k1, t1, e1⟩⟩, ⟨v2, ⟨k2, t2, e2⟩⟩⟩ : Pn) = pn0) = c := ⟨_, rfl⟩
  rw [hc1, hc2, hd1] at hb
  have hq1 : ∀ w, (binOp .eql 40 (.agg #[.string v0, .int .i64 k0, .string t0, .string e0, .string v1, .int .i64 k1, .string t1, .string e1, .string v2, .int .i64 k2, .string t2, .string e2]) (.agg #[.string ⟨#[]⟩, .int .i64 0, .string ⟨#[]⟩, .string ⟨#[]⟩, .string ⟨#[]⟩, .int .i64 0, .string ⟨#[]⟩, .string ⟨#[]⟩, .string ⟨#[]⟩, .int .i64 0, .string ⟨#[]⟩, .string ⟨#[]⟩])).run Tryd.prog w = .ok (.bool d1) w := eqPnB ⟨⟨v0, ⟨k0, t0, e0⟩⟩, ⟨v1, ⟨k1, t1, e1⟩⟩, ⟨v2, ⟨k2, t2, e2⟩⟩⟩ pn0 d1 hd1
  have hbuild := build40
  have H1 := Lib.hid hc1; have H2 := Lib.hid hc2; have Hb := Lib.hid hb
  clear hc1 hc2 hb hd1
  cases d1
  · go_enter Tryd.func29, Tryd.ntmps29
    go_wp2_with fail
    go_ret
    exact ⟨retB Hb.out, below_box (Below.refl _ _)⟩
  · cases c1
    · go_enter Tryd.func29, Tryd.ntmps29
      go_wp2_with fail
      refine (so_any ⟨v3, ⟨k3, t3, e3⟩⟩ F3.out _ H1.out _).mono ?_
      rintro e x0 ⟨rfl, hB⟩
      have B0 := Lib.hid hB
      obtain ⟨hcellB0, hfroB0⟩ := belowReads hB
      have hzB0 : w.heap.size < x0.heap.size := by have := hB.size; first | omega | (simp at this; omega)
      clear hB
      go_wp2_with fail
      go_ret
      exact ⟨retB Hb.out, below_box B0.out⟩
    · cases c2
      all_goals
        go_enter Tryd.func29, Tryd.ntmps29
        go_wp2_with fail
        refine (so_any ⟨v3, ⟨k3, t3, e3⟩⟩ F3.out _ H1.out _).mono ?_
        rintro e x0 ⟨rfl, hB⟩
        have B0 := Lib.hid hB
        obtain ⟨hcellB0, hfroB0⟩ := belowReads hB
        have hzB0 : w.heap.size < x0.heap.size := by have := hB.size; first | omega | (simp at this; omega)
        clear hB
        go_wp2_with fail
        refine (so_any ⟨v4, ⟨k4, t4, e4⟩⟩ F4.out _ H2.out _).mono ?_
        rintro e x1 ⟨rfl, hB⟩
        have B1 := Lib.hid hB
        obtain ⟨hcellB1, hfroB1⟩ := belowReads hB
        have hzB1 : w.heap.size < x1.heap.size := by have := hB.size; first | omega | (simp at this; omega)
        clear hB
        go_wp2_with fail
        go_ret
        exact ⟨retB Hb.out, below_seq (below_box B0.out) B1.out (below_box B0.out).size⟩
set_option maxRecDepth 100000 in
set_option maxHeartbeats 2000000 in
theorem pa4 {v0 v1 v2 v3 v4 t0 t1 t2 t3 t4 e0 e1 e2 e3 e4 : ByteArray} {k0 k1 k2 k3 k4 : Int} (F3 : Hid (fitS ⟨v3, ⟨k3, t3, e3⟩⟩)) (F4 : Hid (fitS ⟨v4, ⟨k4, t4, e4⟩⟩)) (b : Bool) (hb : (decide ((⟨⟨v0, ⟨k0, t0, e0⟩⟩, ⟨v1, ⟨k1, t1, e1⟩⟩, ⟨v2, ⟨k2, t2, e2⟩⟩⟩ : Pn) = pn0) && (maySo ⟨v3, ⟨k3, t3, e3⟩⟩ && maySo ⟨v4, ⟨k4, t4, e4⟩⟩)) = b) (w : World) :
    Calls Tryd.prog 29 #[.agg #[.int .i64 4, .string v0, .int .i64 k0, .string t0, .string e0, .string v1, .int .i64 k1, .string t1, .string e1, .string v2, .int .i64 k2, .string t2, .string e2, .string v3, .int .i64 k3, .string t3, .string e3, .string v4, .int .i64 k4, .string t4, .string e4]] w fun e w' => e = .returned (.bool b) ∧ Below w.heap.size w w' := by
  obtain ⟨c1, hc1⟩ : ∃ c, maySo ⟨v3, ⟨k3, t3, e3⟩⟩ = c := ⟨_, rfl⟩
  obtain ⟨c2, hc2⟩ : ∃ c, maySo ⟨v4, ⟨k4, t4, e4⟩⟩ = c := ⟨_, rfl⟩
  obtain ⟨d1, hd1⟩ : ∃ c, decide ((⟨⟨v0, ⟨k0, t0, e0⟩⟩, ⟨v1, ⟨k1, t1, e1⟩⟩, ⟨v2, ⟨k2, t2, e2⟩⟩⟩ : Pn) = pn0) = c := ⟨_, rfl⟩
  rw [hc1, hc2, hd1] at hb
  have hq1 : ∀ w, (binOp .eql 40 (.agg #[.string v0, .int .i64 k0, .string t0, .string e0, .string v1, .int .i64 k1, .string t1, .string e1, .string v2, .int .i64 k2, .string t2, .string e2]) (.agg #[.string ⟨#[]⟩, .int .i64 0, .string ⟨#[]⟩, .string ⟨#[]⟩, .string ⟨#[]⟩, .int .i64 0, .string ⟨#[]⟩, .string ⟨#[]⟩, .string ⟨#[]⟩, .int .i64 0, .string ⟨#[]⟩, .string ⟨#[]⟩])).run Tryd.prog w = .ok (.bool d1) w := eqPnB ⟨⟨v0, ⟨k0, t0, e0⟩⟩, ⟨v1, ⟨k1, t1, e1⟩⟩, ⟨v2, ⟨k2, t2, e2⟩⟩⟩ pn0 d1 hd1
  have hbuild := build40
  have H1 := Lib.hid hc1; have H2 := Lib.hid hc2; have Hb := Lib.hid hb
  clear hc1 hc2 hb hd1
  cases d1
  · go_enter Tryd.func29, Tryd.ntmps29
    go_wp2_with fail
    go_ret
    exact ⟨retB Hb.out, below_box (Below.refl _ _)⟩
  · cases c1
    · go_enter Tryd.func29, Tryd.ntmps29
      go_wp2_with fail
      refine (so_any ⟨v3, ⟨k3, t3, e3⟩⟩ F3.out _ H1.out _).mono ?_
      rintro e x0 ⟨rfl, hB⟩
      have B0 := Lib.hid hB
      obtain ⟨hcellB0, hfroB0⟩ := belowReads hB
      have hzB0 : w.heap.size < x0.heap.size := by have := hB.size; first | omega | (simp at this; omega)
      clear hB
      go_wp2_with fail
      go_ret
      exact ⟨retB Hb.out, below_box B0.out⟩
    · cases c2
      all_goals
        go_enter Tryd.func29, Tryd.ntmps29
        go_wp2_with fail
        refine (so_any ⟨v3, ⟨k3, t3, e3⟩⟩ F3.out _ H1.out _).mono ?_
        rintro e x0 ⟨rfl, hB⟩
        have B0 := Lib.hid hB
        obtain ⟨hcellB0, hfroB0⟩ := belowReads hB
        have hzB0 : w.heap.size < x0.heap.size := by have := hB.size; first | omega | (simp at this; omega)
        clear hB
        go_wp2_with fail
        refine (so_any ⟨v4, ⟨k4, t4, e4⟩⟩ F4.out _ H2.out _).mono ?_
        rintro e x1 ⟨rfl, hB⟩
        have B1 := Lib.hid hB
        obtain ⟨hcellB1, hfroB1⟩ := belowReads hB
        have hzB1 : w.heap.size < x1.heap.size := by have := hB.size; first | omega | (simp at this; omega)
        clear hB
        go_wp2_with fail
        go_ret
        exact ⟨retB Hb.out, below_seq (below_box B0.out) B1.out (below_box B0.out).size⟩
set_option maxRecDepth 100000 in
set_option maxHeartbeats 2000000 in
theorem pa0 (k : Int) {v0 v1 v2 v3 v4 t0 t1 t2 t3 t4 e0 e1 e2 e3 e4 : ByteArray} {k0 k1 k2 k3 k4 : Int} (h1 : k ≠ 1) (h2 : k ≠ 2) (h3 : k ≠ 3) (h4 : k ≠ 4) (w : World) :
    Calls Tryd.prog 29 #[.agg #[.int .i64 k, .string v0, .int .i64 k0, .string t0, .string e0, .string v1, .int .i64 k1, .string t1, .string e1, .string v2, .int .i64 k2, .string t2, .string e2, .string v3, .int .i64 k3, .string t3, .string e3, .string v4, .int .i64 k4, .string t4, .string e4]] w fun e w' => e = .returned (.bool false) ∧ Below w.heap.size w w' := by
  have g1 : (k == 1) = false := beq_eq_false_iff_ne.2 h1
  have g2 : (k == 2) = false := beq_eq_false_iff_ne.2 h2
  have g3 : (k == 3) = false := beq_eq_false_iff_ne.2 h3
  have g4 : (k == 4) = false := beq_eq_false_iff_ne.2 h4
  clear h1 h2 h3 h4
  go_enter Tryd.func29, Tryd.ntmps29
  go_wp2_with fail
  go_ret
  exact ⟨rfl, below_box (Below.refl _ _)⟩
theorem pa_any (l : Pa) (h : fitL l) (b : Bool) (hb : mayPa l = b) (w : World) :
    Calls Tryd.prog 29 #[paV l] w fun e w' => e = .returned (.bool b) ∧ Below w.heap.size w w' := by
  obtain ⟨k, ⟨⟨v0, ⟨k0, t0, e0⟩⟩, ⟨v1, ⟨k1, t1, e1⟩⟩, ⟨v2, ⟨k2, t2, e2⟩⟩⟩, ⟨v3, ⟨k3, t3, e3⟩⟩, ⟨v4, ⟨k4, t4, e4⟩⟩⟩ := l
  obtain ⟨h0, h3, h4⟩ := h
  dsimp only at h0 h3 h4
  show Calls _ _ #[.agg #[.int .i64 k, .string v0, .int .i64 k0, .string t0, .string e0, .string v1, .int .i64 k1, .string t1, .string e1, .string v2, .int .i64 k2, .string t2, .string e2, .string v3, .int .i64 k3, .string t3, .string e3, .string v4, .int .i64 k4, .string t4, .string e4]] _ _
  by_cases g1 : k = 1
  · subst g1; exact pa1 (Lib.hid h0) b hb w
  by_cases g2 : k = 2
  · subst g2; exact pa2 (Lib.hid h0) b hb w
  by_cases g3 : k = 3
  · subst g3; exact pa3 (Lib.hid h3) (Lib.hid h4) b hb w
  by_cases g4 : k = 4
  · subst g4; exact pa4 (Lib.hid h3) (Lib.hid h4) b hb w
  obtain rfl : false = b := by rw [← hb]; unfold mayPa; rw [if_neg (by rintro (h | h); exact g1 h; exact g2 h), if_neg (by rintro (h | h); exact g3 h; exact g4 h)]
  exact pa0 k g1 g2 g3 g4 w
set_option maxRecDepth 100000 in
set_option maxHeartbeats 2000000 in
theorem rpa1 {v0 v1 v2 v3 v4 t0 t1 t2 t3 t4 e0 e1 e2 e3 e4 : ByteArray} {k0 k1 k2 k3 k4 : Int} (F0 : Hid (fitRN ⟨⟨v0, ⟨k0, t0, e0⟩⟩, ⟨v1, ⟨k1, t1, e1⟩⟩, ⟨v2, ⟨k2, t2, e2⟩⟩⟩)) (b : Bool) (hb : (mayPn ⟨⟨v0, ⟨k0, t0, e0⟩⟩, ⟨v1, ⟨k1, t1, e1⟩⟩, ⟨v2, ⟨k2, t2, e2⟩⟩⟩ && (decide ((⟨v3, ⟨k3, t3, e3⟩⟩ : So) = so0) && decide ((⟨v4, ⟨k4, t4, e4⟩⟩ : So) = so0))) = b) (w : World) :
    Calls Tryd.prog 31 #[.agg #[.int .i64 1, .string v0, .int .i64 k0, .string t0, .string e0, .string v1, .int .i64 k1, .string t1, .string e1, .string v2, .int .i64 k2, .string t2, .string e2, .string v3, .int .i64 k3, .string t3, .string e3, .string v4, .int .i64 k4, .string t4, .string e4]] w fun e w' => e = .returned (.bool b) ∧ Below w.heap.size w w' := by
  obtain ⟨c0, hc0⟩ : ∃ c, mayPn ⟨⟨v0, ⟨k0, t0, e0⟩⟩, ⟨v1, ⟨k1, t1, e1⟩⟩, ⟨v2, ⟨k2, t2, e2⟩⟩⟩ = c := ⟨_, rfl⟩
  obtain ⟨d1, hd1⟩ : ∃ c, decide ((⟨v3, ⟨k3, t3, e3⟩⟩ : So) = so0) = c := ⟨_, rfl⟩
  obtain ⟨d2, hd2⟩ : ∃ c, decide ((⟨v4, ⟨k4, t4, e4⟩⟩ : So) = so0) = c := ⟨_, rfl⟩
  rw [hc0, hd1, hd2] at hb
  have hq1 : ∀ w, (binOp .eql 37 (.agg #[.string v3, .int .i64 k3, .string t3, .string e3]) (.agg #[.string ⟨#[]⟩, .int .i64 0, .string ⟨#[]⟩, .string ⟨#[]⟩])).run Tryd.prog w = .ok (.bool d1) w := eqSoB ⟨v3, ⟨k3, t3, e3⟩⟩ so0 d1 hd1
  have hq2 : ∀ w, (binOp .eql 37 (.agg #[.string v4, .int .i64 k4, .string t4, .string e4]) (.agg #[.string ⟨#[]⟩, .int .i64 0, .string ⟨#[]⟩, .string ⟨#[]⟩])).run Tryd.prog w = .ok (.bool d2) w := eqSoB ⟨v4, ⟨k4, t4, e4⟩⟩ so0 d2 hd2
  have hbuild := build37
  have H0 := Lib.hid hc0; have Hb := Lib.hid hb
  clear hc0 hb hd1 hd2
  cases c0
  · go_enter Tryd.func31, Tryd.ntmps31
    go_wp2_with fail
    refine (rpn_any ⟨⟨v0, ⟨k0, t0, e0⟩⟩, ⟨v1, ⟨k1, t1, e1⟩⟩, ⟨v2, ⟨k2, t2, e2⟩⟩⟩ F0.out _ H0.out _).mono ?_
    rintro e x0 ⟨rfl, hB⟩
    have B0 := Lib.hid hB
    obtain ⟨hcellB0, hfroB0⟩ := belowReads hB
    have hzB0 : w.heap.size < x0.heap.size := by have := hB.size; first | omega | (simp at this; omega)
    clear hB
    go_wp2_with fail
    go_ret
    exact ⟨retB Hb.out, below_box B0.out⟩
  · cases d1
    all_goals
      go_enter Tryd.func31, Tryd.ntmps31
      go_wp2_with fail
      refine (rpn_any ⟨⟨v0, ⟨k0, t0, e0⟩⟩, ⟨v1, ⟨k1, t1, e1⟩⟩, ⟨v2, ⟨k2, t2, e2⟩⟩⟩ F0.out _ H0.out _).mono ?_
      rintro e x0 ⟨rfl, hB⟩
      have B0 := Lib.hid hB
      obtain ⟨hcellB0, hfroB0⟩ := belowReads hB
      have hzB0 : w.heap.size < x0.heap.size := by have := hB.size; first | omega | (simp at this; omega)
      clear hB
      go_wp2_with fail
      go_ret
      exact ⟨retB Hb.out, below_box B0.out⟩
set_option maxRecDepth 100000 in
set_option maxHeartbeats 2000000 in
theorem rpa2 {v0 v1 v2 v3 v4 t0 t1 t2 t3 t4 e0 e1 e2 e3 e4 : ByteArray} {k0 k1 k2 k3 k4 : Int} (F0 : Hid (fitRN ⟨⟨v0, ⟨k0, t0, e0⟩⟩, ⟨v1, ⟨k1, t1, e1⟩⟩, ⟨v2, ⟨k2, t2, e2⟩⟩⟩)) (b : Bool) (hb : (mayPn ⟨⟨v0, ⟨k0, t0, e0⟩⟩, ⟨v1, ⟨k1, t1, e1⟩⟩, ⟨v2, ⟨k2, t2, e2⟩⟩⟩ && (decide ((⟨v3, ⟨k3, t3, e3⟩⟩ : So) = so0) && decide ((⟨v4, ⟨k4, t4, e4⟩⟩ : So) = so0))) = b) (w : World) :
    Calls Tryd.prog 31 #[.agg #[.int .i64 2, .string v0, .int .i64 k0, .string t0, .string e0, .string v1, .int .i64 k1, .string t1, .string e1, .string v2, .int .i64 k2, .string t2, .string e2, .string v3, .int .i64 k3, .string t3, .string e3, .string v4, .int .i64 k4, .string t4, .string e4]] w fun e w' => e = .returned (.bool b) ∧ Below w.heap.size w w' := by
  obtain ⟨c0, hc0⟩ : ∃ c, mayPn ⟨⟨v0, ⟨k0, t0, e0⟩⟩, ⟨v1, ⟨k1, t1, e1⟩⟩, ⟨v2, ⟨k2, t2, e2⟩⟩⟩ = c := ⟨_, rfl⟩
  obtain ⟨d1, hd1⟩ : ∃ c, decide ((⟨v3, ⟨k3, t3, e3⟩⟩ : So) = so0) = c := ⟨_, rfl⟩
  obtain ⟨d2, hd2⟩ : ∃ c, decide ((⟨v4, ⟨k4, t4, e4⟩⟩ : So) = so0) = c := ⟨_, rfl⟩
  rw [hc0, hd1, hd2] at hb
  have hq1 : ∀ w, (binOp .eql 37 (.agg #[.string v3, .int .i64 k3, .string t3, .string e3]) (.agg #[.string ⟨#[]⟩, .int .i64 0, .string ⟨#[]⟩, .string ⟨#[]⟩])).run Tryd.prog w = .ok (.bool d1) w := eqSoB ⟨v3, ⟨k3, t3, e3⟩⟩ so0 d1 hd1
  have hq2 : ∀ w, (binOp .eql 37 (.agg #[.string v4, .int .i64 k4, .string t4, .string e4]) (.agg #[.string ⟨#[]⟩, .int .i64 0, .string ⟨#[]⟩, .string ⟨#[]⟩])).run Tryd.prog w = .ok (.bool d2) w := eqSoB ⟨v4, ⟨k4, t4, e4⟩⟩ so0 d2 hd2
  have hbuild := build37
  have H0 := Lib.hid hc0; have Hb := Lib.hid hb
  clear hc0 hb hd1 hd2
  cases c0
  · go_enter Tryd.func31, Tryd.ntmps31
    go_wp2_with fail
    refine (rpn_any ⟨⟨v0, ⟨k0, t0, e0⟩⟩, ⟨v1, ⟨k1, t1, e1⟩⟩, ⟨v2, ⟨k2, t2, e2⟩⟩⟩ F0.out _ H0.out _).mono ?_
    rintro e x0 ⟨rfl, hB⟩
    have B0 := Lib.hid hB
    obtain ⟨hcellB0, hfroB0⟩ := belowReads hB
    have hzB0 : w.heap.size < x0.heap.size := by have := hB.size; first | omega | (simp at this; omega)
    clear hB
    go_wp2_with fail
    go_ret
    exact ⟨retB Hb.out, below_box B0.out⟩
  · cases d1
    all_goals
      go_enter Tryd.func31, Tryd.ntmps31
      go_wp2_with fail
      refine (rpn_any ⟨⟨v0, ⟨k0, t0, e0⟩⟩, ⟨v1, ⟨k1, t1, e1⟩⟩, ⟨v2, ⟨k2, t2, e2⟩⟩⟩ F0.out _ H0.out _).mono ?_
      rintro e x0 ⟨rfl, hB⟩
      have B0 := Lib.hid hB
      obtain ⟨hcellB0, hfroB0⟩ := belowReads hB
      have hzB0 : w.heap.size < x0.heap.size := by have := hB.size; first | omega | (simp at this; omega)
      clear hB
      go_wp2_with fail
      go_ret
      exact ⟨retB Hb.out, below_box B0.out⟩
set_option maxRecDepth 100000 in
set_option maxHeartbeats 2000000 in
theorem rpa3 {v0 v1 v2 v3 v4 t0 t1 t2 t3 t4 e0 e1 e2 e3 e4 : ByteArray} {k0 k1 k2 k3 k4 : Int} (F3 : Hid (fitRS ⟨v3, ⟨k3, t3, e3⟩⟩)) (F4 : Hid (fitRS ⟨v4, ⟨k4, t4, e4⟩⟩)) (b : Bool) (hb : (decide ((⟨⟨v0, ⟨k0, t0, e0⟩⟩, ⟨v1, ⟨k1, t1, e1⟩⟩, ⟨v2, ⟨k2, t2, e2⟩⟩⟩ : Pn) = pn0) && (maySo ⟨v3, ⟨k3, t3, e3⟩⟩ && maySo ⟨v4, ⟨k4, t4, e4⟩⟩)) = b) (w : World) :
    Calls Tryd.prog 31 #[.agg #[.int .i64 3, .string v0, .int .i64 k0, .string t0, .string e0, .string v1, .int .i64 k1, .string t1, .string e1, .string v2, .int .i64 k2, .string t2, .string e2, .string v3, .int .i64 k3, .string t3, .string e3, .string v4, .int .i64 k4, .string t4, .string e4]] w fun e w' => e = .returned (.bool b) ∧ Below w.heap.size w w' := by
  obtain ⟨c1, hc1⟩ : ∃ c, maySo ⟨v3, ⟨k3, t3, e3⟩⟩ = c := ⟨_, rfl⟩
  obtain ⟨c2, hc2⟩ : ∃ c, maySo ⟨v4, ⟨k4, t4, e4⟩⟩ = c := ⟨_, rfl⟩
  obtain ⟨d1, hd1⟩ : ∃ c, decide ((⟨⟨v0, ⟨k0, t0, e0⟩⟩, ⟨v1, ⟨k1, t1, e1⟩⟩, ⟨v2, ⟨k2, t2, e2⟩⟩⟩ : Pn) = pn0) = c := ⟨_, rfl⟩
  rw [hc1, hc2, hd1] at hb
  have hq1 : ∀ w, (binOp .eql 40 (.agg #[.string v0, .int .i64 k0, .string t0, .string e0, .string v1, .int .i64 k1, .string t1, .string e1, .string v2, .int .i64 k2, .string t2, .string e2]) (.agg #[.string ⟨#[]⟩, .int .i64 0, .string ⟨#[]⟩, .string ⟨#[]⟩, .string ⟨#[]⟩, .int .i64 0, .string ⟨#[]⟩, .string ⟨#[]⟩, .string ⟨#[]⟩, .int .i64 0, .string ⟨#[]⟩, .string ⟨#[]⟩])).run Tryd.prog w = .ok (.bool d1) w := eqPnB ⟨⟨v0, ⟨k0, t0, e0⟩⟩, ⟨v1, ⟨k1, t1, e1⟩⟩, ⟨v2, ⟨k2, t2, e2⟩⟩⟩ pn0 d1 hd1
  have hbuild := build40
  have H1 := Lib.hid hc1; have H2 := Lib.hid hc2; have Hb := Lib.hid hb
  clear hc1 hc2 hb hd1
  cases d1
  · go_enter Tryd.func31, Tryd.ntmps31
    go_wp2_with fail
    go_ret
    exact ⟨retB Hb.out, below_box (Below.refl _ _)⟩
  · cases c1
    · go_enter Tryd.func31, Tryd.ntmps31
      go_wp2_with fail
      refine (rso_any ⟨v3, ⟨k3, t3, e3⟩⟩ F3.out _ H1.out _).mono ?_
      rintro e x0 ⟨rfl, hB⟩
      have B0 := Lib.hid hB
      obtain ⟨hcellB0, hfroB0⟩ := belowReads hB
      have hzB0 : w.heap.size < x0.heap.size := by have := hB.size; first | omega | (simp at this; omega)
      clear hB
      go_wp2_with fail
      go_ret
      exact ⟨retB Hb.out, below_box B0.out⟩
    · cases c2
      all_goals
        go_enter Tryd.func31, Tryd.ntmps31
        go_wp2_with fail
        refine (rso_any ⟨v3, ⟨k3, t3, e3⟩⟩ F3.out _ H1.out _).mono ?_
        rintro e x0 ⟨rfl, hB⟩
        have B0 := Lib.hid hB
        obtain ⟨hcellB0, hfroB0⟩ := belowReads hB
        have hzB0 : w.heap.size < x0.heap.size := by have := hB.size; first | omega | (simp at this; omega)
        clear hB
        go_wp2_with fail
        refine (rso_any ⟨v4, ⟨k4, t4, e4⟩⟩ F4.out _ H2.out _).mono ?_
        rintro e x1 ⟨rfl, hB⟩
        have B1 := Lib.hid hB
        obtain ⟨hcellB1, hfroB1⟩ := belowReads hB
        have hzB1 : w.heap.size < x1.heap.size := by have := hB.size; first | omega | (simp at this; omega)
        clear hB
        go_wp2_with fail
        go_ret
        exact ⟨retB Hb.out, below_seq (below_box B0.out) B1.out (below_box B0.out).size⟩
set_option maxRecDepth 100000 in
set_option maxHeartbeats 2000000 in
theorem rpa4 {v0 v1 v2 v3 v4 t0 t1 t2 t3 t4 e0 e1 e2 e3 e4 : ByteArray} {k0 k1 k2 k3 k4 : Int} (F3 : Hid (fitRS ⟨v3, ⟨k3, t3, e3⟩⟩)) (F4 : Hid (fitRS ⟨v4, ⟨k4, t4, e4⟩⟩)) (b : Bool) (hb : (decide ((⟨⟨v0, ⟨k0, t0, e0⟩⟩, ⟨v1, ⟨k1, t1, e1⟩⟩, ⟨v2, ⟨k2, t2, e2⟩⟩⟩ : Pn) = pn0) && (maySo ⟨v3, ⟨k3, t3, e3⟩⟩ && maySo ⟨v4, ⟨k4, t4, e4⟩⟩)) = b) (w : World) :
    Calls Tryd.prog 31 #[.agg #[.int .i64 4, .string v0, .int .i64 k0, .string t0, .string e0, .string v1, .int .i64 k1, .string t1, .string e1, .string v2, .int .i64 k2, .string t2, .string e2, .string v3, .int .i64 k3, .string t3, .string e3, .string v4, .int .i64 k4, .string t4, .string e4]] w fun e w' => e = .returned (.bool b) ∧ Below w.heap.size w w' := by
  obtain ⟨c1, hc1⟩ : ∃ c, maySo ⟨v3, ⟨k3, t3, e3⟩⟩ = c := ⟨_, rfl⟩
  obtain ⟨c2, hc2⟩ : ∃ c, maySo ⟨v4, ⟨k4, t4, e4⟩⟩ = c := ⟨_, rfl⟩
  obtain ⟨d1, hd1⟩ : ∃ c, decide ((⟨⟨v0, ⟨k0, t0, e0⟩⟩, ⟨v1, ⟨k1, t1, e1⟩⟩, ⟨v2, ⟨k2, t2, e2⟩⟩⟩ : Pn) = pn0) = c := ⟨_, rfl⟩
  rw [hc1, hc2, hd1] at hb
  have hq1 : ∀ w, (binOp .eql 40 (.agg #[.string v0, .int .i64 k0, .string t0, .string e0, .string v1, .int .i64 k1, .string t1, .string e1, .string v2, .int .i64 k2, .string t2, .string e2]) (.agg #[.string ⟨#[]⟩, .int .i64 0, .string ⟨#[]⟩, .string ⟨#[]⟩, .string ⟨#[]⟩, .int .i64 0, .string ⟨#[]⟩, .string ⟨#[]⟩, .string ⟨#[]⟩, .int .i64 0, .string ⟨#[]⟩, .string ⟨#[]⟩])).run Tryd.prog w = .ok (.bool d1) w := eqPnB ⟨⟨v0, ⟨k0, t0, e0⟩⟩, ⟨v1, ⟨k1, t1, e1⟩⟩, ⟨v2, ⟨k2, t2, e2⟩⟩⟩ pn0 d1 hd1
  have hbuild := build40
  have H1 := Lib.hid hc1; have H2 := Lib.hid hc2; have Hb := Lib.hid hb
  clear hc1 hc2 hb hd1
  cases d1
  · go_enter Tryd.func31, Tryd.ntmps31
    go_wp2_with fail
    go_ret
    exact ⟨retB Hb.out, below_box (Below.refl _ _)⟩
  · cases c1
    · go_enter Tryd.func31, Tryd.ntmps31
      go_wp2_with fail
      refine (rso_any ⟨v3, ⟨k3, t3, e3⟩⟩ F3.out _ H1.out _).mono ?_
      rintro e x0 ⟨rfl, hB⟩
      have B0 := Lib.hid hB
      obtain ⟨hcellB0, hfroB0⟩ := belowReads hB
      have hzB0 : w.heap.size < x0.heap.size := by have := hB.size; first | omega | (simp at this; omega)
      clear hB
      go_wp2_with fail
      go_ret
      exact ⟨retB Hb.out, below_box B0.out⟩
    · cases c2
      all_goals
        go_enter Tryd.func31, Tryd.ntmps31
        go_wp2_with fail
        refine (rso_any ⟨v3, ⟨k3, t3, e3⟩⟩ F3.out _ H1.out _).mono ?_
        rintro e x0 ⟨rfl, hB⟩
        have B0 := Lib.hid hB
        obtain ⟨hcellB0, hfroB0⟩ := belowReads hB
        have hzB0 : w.heap.size < x0.heap.size := by have := hB.size; first | omega | (simp at this; omega)
        clear hB
        go_wp2_with fail
        refine (rso_any ⟨v4, ⟨k4, t4, e4⟩⟩ F4.out _ H2.out _).mono ?_
        rintro e x1 ⟨rfl, hB⟩
        have B1 := Lib.hid hB
        obtain ⟨hcellB1, hfroB1⟩ := belowReads hB
        have hzB1 : w.heap.size < x1.heap.size := by have := hB.size; first | omega | (simp at this; omega)
        clear hB
        go_wp2_with fail
        go_ret
        exact ⟨retB Hb.out, below_seq (below_box B0.out) B1.out (below_box B0.out).size⟩
set_option maxRecDepth 100000 in
set_option maxHeartbeats 2000000 in
theorem rpa0 (k : Int) {v0 v1 v2 v3 v4 t0 t1 t2 t3 t4 e0 e1 e2 e3 e4 : ByteArray} {k0 k1 k2 k3 k4 : Int} (h1 : k ≠ 1) (h2 : k ≠ 2) (h3 : k ≠ 3) (h4 : k ≠ 4) (w : World) :
    Calls Tryd.prog 31 #[.agg #[.int .i64 k, .string v0, .int .i64 k0, .string t0, .string e0, .string v1, .int .i64 k1, .string t1, .string e1, .string v2, .int .i64 k2, .string t2, .string e2, .string v3, .int .i64 k3, .string t3, .string e3, .string v4, .int .i64 k4, .string t4, .string e4]] w fun e w' => e = .returned (.bool false) ∧ Below w.heap.size w w' := by
  have g1 : (k == 1) = false := beq_eq_false_iff_ne.2 h1
  have g2 : (k == 2) = false := beq_eq_false_iff_ne.2 h2
  have g3 : (k == 3) = false := beq_eq_false_iff_ne.2 h3
  have g4 : (k == 4) = false := beq_eq_false_iff_ne.2 h4
  clear h1 h2 h3 h4
  go_enter Tryd.func31, Tryd.ntmps31
  go_wp2_with fail
  go_ret
  exact ⟨rfl, below_box (Below.refl _ _)⟩
theorem rpa_any (l : Pa) (h : fitRL l) (b : Bool) (hb : mayPa l = b) (w : World) :
    Calls Tryd.prog 31 #[paV l] w fun e w' => e = .returned (.bool b) ∧ Below w.heap.size w w' := by
  obtain ⟨k, ⟨⟨v0, ⟨k0, t0, e0⟩⟩, ⟨v1, ⟨k1, t1, e1⟩⟩, ⟨v2, ⟨k2, t2, e2⟩⟩⟩, ⟨v3, ⟨k3, t3, e3⟩⟩, ⟨v4, ⟨k4, t4, e4⟩⟩⟩ := l
  obtain ⟨h0, h3, h4⟩ := h
  dsimp only at h0 h3 h4
  show Calls _ _ #[.agg #[.int .i64 k, .string v0, .int .i64 k0, .string t0, .string e0, .string v1, .int .i64 k1, .string t1, .string e1, .string v2, .int .i64 k2, .string t2, .string e2, .string v3, .int .i64 k3, .string t3, .string e3, .string v4, .int .i64 k4, .string t4, .string e4]] _ _
  by_cases g1 : k = 1
  · subst g1; exact rpa1 (Lib.hid h0) b hb w
  by_cases g2 : k = 2
  · subst g2; exact rpa2 (Lib.hid h0) b hb w
  by_cases g3 : k = 3
  · subst g3; exact rpa3 (Lib.hid h3) (Lib.hid h4) b hb w
  by_cases g4 : k = 4
  · subst g4; exact rpa4 (Lib.hid h3) (Lib.hid h4) b hb w
  obtain rfl : false = b := by rw [← hb]; unfold mayPa; rw [if_neg (by rintro (h | h); exact g1 h; exact g2 h), if_neg (by rintro (h | h); exact g3 h; exact g4 h)]
  exact rpa0 k g1 g2 g3 g4 w
end Go.Proofs.YtmgaibeibfholaaDoor
