/- May a rule be: walked. -/
import Derived.Test.YtmgaibeibfholaaDoorP17
namespace Go.Proofs.YtmgaibeibfholaaDoor
set_option maxRecDepth 100000
open Go.RowKit Go.Shelf Go.Maps Plain
set_option linter.unusedVariables false

/-- a rule; its body's address and room -/
structure Ru where
  head : Pn
  body : List Pa
  adr : Option Addr
  cap : Nat
def pnC (p : Pn) : List Value := [.string p.a.var, .int .i64 p.a.tm.kind, .string p.a.tm.text, .string p.a.tm.extra, .string p.b.var, .int .i64 p.b.tm.kind, .string p.b.tm.text, .string p.b.tm.extra, .string p.c.var, .int .i64 p.c.tm.kind, .string p.c.tm.text, .string p.c.tm.extra]
def ruC (r : Ru) : List Value := [.string r.head.a.var, .int .i64 r.head.a.tm.kind, .string r.head.a.tm.text, .string r.head.a.tm.extra, .string r.head.b.var, .int .i64 r.head.b.tm.kind, .string r.head.b.tm.text, .string r.head.b.tm.extra, .string r.head.c.var, .int .i64 r.head.c.tm.kind, .string r.head.c.tm.text, .string r.head.c.tm.extra, .slice r.adr r.body.length r.cap]
def ruV (r : Ru) : Value := .agg (ruC r).toArray
def mayRu (r : Ru) : Bool := mayPn r.head && (decide (r.body.length ≤ 64) && r.body.all mayPa)
def fitRu (r : Ru) : Prop := fitN r.head ∧ (∀ x ∈ r.body, fitL x) ∧ r.body.length ≤ maxLen
def fitRRu (r : Ru) : Prop := fitRN r.head ∧ (∀ x ∈ r.body, fitRL x) ∧ r.body.length ≤ maxLen
theorem load_pn {w : World} {g p : Nat} {l : Pn} (h : CellsAt w g p (pnC l)) : (loadVar 40 ⟨g, p, none⟩).run Tryd.prog w = .ok (pnV l) w := by
  have hl : (loadCells ⟨g, p, none⟩ 12).run Tryd.prog w = .ok (pnC l).toArray w := h.load
  have a1 := Tryd.isAgg40
  have z1 := Tryd.sizeOf40
  simp [loadVar, Sem.run_bind, a1, z1, hl, pnC]
theorem CellsAt.head {w : World} {g p : Nat} {r : Ru} (h : CellsAt w g p (ruC r)) : CellsAt w g p (pnC r.head) := fun i v hv => h i v (by
  have hi : i < 12 := (List.getElem?_eq_some_iff.1 hv).1
  have e : ruC r = pnC r.head ++ [.slice r.adr r.body.length r.cap] := rfl
  rw [e, List.getElem?_append_left hi]; exact hv)
theorem CellsAt.body {w : World} {g p : Nat} {r : Ru} (h : CellsAt w g p (ruC r)) : w.cell? ⟨g, p + 12, none⟩ = some (.slice r.adr r.body.length r.cap) := h 12 _ rfl

set_option maxRecDepth 100000 in
set_option maxHeartbeats 2000000 in
theorem ru_any (r : Ru) (h : fitRu r) (w : World) (hB : BodAt w r.adr r.body) (b : Bool) (hb : mayRu r = b) :
    Calls Tryd.prog 19 #[ruV r] w fun e w' => e = .returned (.bool b) ∧ Below w.heap.size w w' := by
  obtain ⟨h1, h2, h3⟩ := h
  have F1 := Lib.hid h1; have F2 := Lib.hid h2; have HBd := Lib.hid hB
  clear h1 h2 hB
  obtain ⟨c0, hc0⟩ : ∃ c, mayPn r.head = c := ⟨_, rfl⟩
  obtain ⟨c1, hc1⟩ : ∃ c, decide (r.body.length ≤ 64) = c := ⟨_, rfl⟩
  obtain ⟨c2, hc2⟩ : ∃ c, r.body.all mayPa = c := ⟨_, rfl⟩
  have Hb := Lib.hid (show (c0 && (c1 && c2)) = b by rw [← hb, ← hc0, ← hc1, ← hc2]; rfl)
  have H0 := Lib.hid hc0; have H2 := Lib.hid hc2
  have g1 : decide ((r.body.length : Int) ≤ 64) = c1 := by rw [← hc1]; congr 1; rw [eq_iff_iff]; omega
  clear hb hc0 hc1 hc2
  have hsz : (ruC r).length = 13 := rfl
  have h12 : (ruC r)[12]'(by rw [hsz]; omega) = .slice r.adr r.body.length r.cap := rfl
  have Hld := Lib.hid (load_pn (CellsAt.box w (ruC r) 46).head)
  have HB0 := Lib.hid (HBd.out.below ((Below.refl w.heap.size w).alloc (Nat.le_refl _) (.cells (ruC r).toArray 46)))
  unfold maxLen at h3
  show Calls _ _ #[.agg (ruC r).toArray] _ _
  cases c0
  · go_enter Tryd.func19, Tryd.ntmps19
    go_wp2_with (with_reducible refine wpList_load_is rfl 40 (Operand.tmp 3) rfl ⟨w.heap.size, 0, none⟩ rfl _ Hld.out ?_)
    refine (pn_any r.head F1.out _ H0.out _).mono ?_
    rintro e w1 ⟨rfl, hB⟩
    have HB1 := Lib.hid hB
    obtain ⟨hcell, hfro⟩ := belowReads hB
    clear hB
    go_wp2_with fail
    go_ret
    exact ⟨retB Hb.out, below_box HB1.out⟩
  · cases c1
    · go_enter Tryd.func19, Tryd.ntmps19
      go_wp2_with (with_reducible refine wpList_load_is rfl 40 (Operand.tmp 3) rfl ⟨w.heap.size, 0, none⟩ rfl _ Hld.out ?_)
      refine (pn_any r.head F1.out _ H0.out _).mono ?_
      rintro e w1 ⟨rfl, hB⟩
      have HB1 := Lib.hid hB
      obtain ⟨hcell, hfro⟩ := belowReads hB
      clear hB
      go_wp2_with fail
      go_ret
      exact ⟨retB Hb.out, below_box HB1.out⟩
    · cases c2
      all_goals
        go_enter Tryd.func19, Tryd.ntmps19
        go_wp2_with (with_reducible refine wpList_load_is rfl 40 (Operand.tmp 3) rfl ⟨w.heap.size, 0, none⟩ rfl _ Hld.out ?_)
        refine (pn_any r.head F1.out _ H0.out _).mono ?_
        rintro e w1 ⟨rfl, hB⟩
        have HB1 := Lib.hid hB
        obtain ⟨hcell, hfro⟩ := belowReads hB
        clear hB
        go_wp2_with (go_at_call 27; refine (contains_any r.adr r.cap r.body (by unfold maxLen; exact h3) F2.out _ (HB0.out.below HB1.out) _ H2.out).mono ?_; rintro e w2 ⟨rfl, hB⟩; have HB2 := Lib.hid hB; clear hB)
        go_ret
        exact ⟨retB Hb.out, below_seq (below_box HB1.out) HB2.out (below_box HB1.out).size⟩
end Go.Proofs.YtmgaibeibfholaaDoor
