/- Parts and rules in memory; a body whose parts may be: walked. -/
import Derived.Test.YtmgaibeibfholaaDoorP16
import Derived.Laws.Cells
namespace Go.Proofs.YtmgaibeibfholaaDoor
set_option maxRecDepth 100000
open Go.RowKit Go.Shelf Go.Maps Plain
set_option linter.unusedVariables false

def paC (l : Pa) : List Value := [.int .i64 l.kind,
  .string l.pat.a.var, .int .i64 l.pat.a.tm.kind, .string l.pat.a.tm.text, .string l.pat.a.tm.extra, .string l.pat.b.var, .int .i64 l.pat.b.tm.kind, .string l.pat.b.tm.text, .string l.pat.b.tm.extra, .string l.pat.c.var, .int .i64 l.pat.c.tm.kind, .string l.pat.c.tm.text, .string l.pat.c.tm.extra,
  .string l.a.var, .int .i64 l.a.tm.kind, .string l.a.tm.text, .string l.a.tm.extra, .string l.b.var, .int .i64 l.b.tm.kind, .string l.b.tm.text, .string l.b.tm.extra]
/-- these cells lie there -/
def CellsAt (w : World) (g p : Nat) (cs : List Value) : Prop := ∀ i v, cs[i]? = some v → w.cell? ⟨g, p + i, none⟩ = some v
theorem CellsAt.below {w w' : World} {n g p : Nat} {cs : List Value} (h : CellsAt w g p cs) (hB : Below n w w') (hg : g < n) : CellsAt w' g p cs :=
  fun i v hv => (hB.cell (p := ⟨g, p + i, none⟩) hg).trans (h i v hv)
theorem add_off (g p k : Nat) : (⟨g, p, none⟩ : Addr).add k = ⟨g, p + k, none⟩ := by unfold Addr.add; split <;> simp_all
theorem CellsAt.load {w : World} {g p : Nat} {cs : List Value} (h : CellsAt w g p cs) : (loadCells ⟨g, p, none⟩ cs.length).run Tryd.prog w = .ok cs.toArray w :=
  run_loadCells_list (P := Tryd.prog) w ⟨g, p, none⟩ cs (fun j v hv => by rw [add_off]; exact h j v hv)
theorem load_pa {w : World} {g p : Nat} {l : Pa} (h : CellsAt w g p (paC l)) : (loadVar 43 ⟨g, p, none⟩).run Tryd.prog w = .ok (paV l) w := by
  have hl : (loadCells ⟨g, p, none⟩ 21).run Tryd.prog w = .ok (paC l).toArray w := h.load
  have a1 := Tryd.isAgg43
  have z1 := Tryd.sizeOf43
  simp [loadVar, Sem.run_bind, a1, z1, hl, paC]

section
variable {P : Program} {ops : Array Oper} {rest : List Oper} {o : Oper} {a : Act} {w : World} {Q : Exit → Act → World → Prop}
theorem wpList_load_is (hgd : o.guard = none) (ty : TypeId) (x : Operand) (ho : o.op = .load ty x) (ad : Addr) (hx : a.eval x = .pointer (some ad)) (v : Value) (hl : (loadVar ty ad).run P w = .ok v w)
    (h : wpList P ops Q rest (a.put o.dst v) w) : wpList P ops Q (o :: rest) a w := by
  refine wpList_plain hgd fun K hK => ?_
  unfold Oper.wp execOp
  simp only [ho, hx, Instr.loadAt, Instr.sureAddr, Sem.run_bind, Sem.run_pure, Result.andThen_ok, hl]
  exact hK _ _ h
end
theorem CellsAt.box (w : World) (cs : List Value) (t : TypeId) : CellsAt (w.alloc (.cells cs.toArray t)) w.heap.size 0 cs := fun i v hv => by
  have h := cells_new w cs t i v hv
  rw [add_off] at h; exact h

/-- a body that lies at an address -/
def BodAt (w : World) (a : Option Addr) (L : List Pa) : Prop := ∀ j (h : j < L.length), ∃ g o, a = some ⟨g, o, none⟩ ∧ g < w.heap.size ∧ CellsAt w g (o + j * 21) (paC L[j])
theorem BodAt.below {w w' : World} {a : Option Addr} {L : List Pa} (h : BodAt w a L) (hB : Below w.heap.size w w') : BodAt w' a L := fun j hj => by
  obtain ⟨g, o, e, hg, hc⟩ := h j hj
  exact ⟨g, o, e, Nat.lt_of_lt_of_le hg hB.size, hc.below hB hg⟩

def badI (L : List Pa) : Int := match L.findIdx? (fun x => !mayPa x) with | some n => (n : Int) | none => -1
theorem badI_at {L : List Pa} {k : Nat} (hk : k < L.length) (h : ∀ j (hj : j < L.length), j < k → mayPa L[j] = true) (hb : mayPa L[k] = false) : (k : Int) = badI L := by
  unfold badI
  have : L.findIdx? (fun x => !mayPa x) = some k := by
    rw [List.findIdx?_eq_some_iff_getElem]
    refine ⟨hk, by simp [hb], fun j hj => ?_⟩
    simp [h j (by omega) hj]
  rw [this]
theorem badI_none {L : List Pa} (h : ∀ j (hj : j < L.length), mayPa L[j] = true) : -1 = badI L := by
  unfold badI
  have : L.findIdx? (fun x => !mayPa x) = none := by
    rw [List.findIdx?_eq_none_iff]
    intro x hx
    obtain ⟨j, hj, rfl⟩ := List.mem_iff_getElem.1 hx
    simp [h j hj]
  rw [this]
theorem badI_all (L : List Pa) : decide (0 ≤ badI L) = !L.all mayPa := by
  unfold badI
  cases h : L.findIdx? (fun x => !mayPa x) with
  | none =>
    rw [List.findIdx?_eq_none_iff] at h
    have : L.all mayPa = true := List.all_eq_true.2 (fun x hx => by have := h x hx; simpa using this)
    rw [this]; rfl
  | some n =>
    rw [List.findIdx?_eq_some_iff_getElem] at h
    obtain ⟨hn, h1, _⟩ := h
    have : L.all mayPa = false := by
      rw [← Bool.not_eq_true, List.all_eq_true]
      intro hh
      have := hh _ (List.getElem_mem hn)
      rw [this] at h1; simp at h1
    rw [this]
    simp
set_option maxRecDepth 100000 in
set_option maxHeartbeats 2000000 in
theorem notpa_any (l : Pa) (h : fitL l) (b : Bool) (hb : mayPa l = b) (w : World) :
    Calls Tryd.prog 28 #[paV l] w fun e w' => e = .returned (.bool !b) ∧ Below w.heap.size w w' := by
  have Hb := Lib.hid hb; have H := Lib.hid h; clear hb h
  show Calls _ _ #[.agg (paC l).toArray] _ _
  have hsz : (paC l).length = 21 := rfl
  have hld := load_pa (CellsAt.box w (paC l) 43)
  have Hld := Lib.hid hld; clear hld
  go_enter Tryd.func28, Tryd.ntmps28
  go_wp2_with (first
    | (with_reducible refine wpList_load_is rfl 43 (Operand.tmp 1) rfl ⟨w.heap.size, 0, none⟩ rfl _ Hld.out ?_)
    | (go_at_call 29; refine (pa_any l H.out _ Hb.out _).mono ?_; rintro e w1 ⟨rfl, hB⟩; have HB := Lib.hid hB; clear hB))
  go_ret
  exact ⟨rfl, below_box HB.out⟩

set_option maxRecDepth 100000 in
set_option maxHeartbeats 2000000 in
theorem idx_any (a : Option Addr) (cap : Nat) (L : List Pa) (hL : L.length ≤ maxLen) (hf : ∀ x ∈ L, fitL x) (w : World) (hB : BodAt w a L) :
    Calls Tryd.prog 35 #[.slice a L.length cap, .func (.func 28) #[] #[]] w fun e w' => e = .returned (.int .i64 (badI L)) ∧ Below w.heap.size w w' := by
  have H := Lib.hid hB; have F := Lib.hid hf; clear hB hf
  unfold maxLen at hL
  have hnn := badI_none (L := L)
  have hat := fun k hk => badI_at (L := L) (k := k) hk
  have HN := Lib.hid hnn; have HA := Lib.hid hat; clear hnn hat
  go_enter Tryd.func35, Tryd.ntmps35
  go_wp2_with fail
  go_loopw [8] (fun u wr => ∃ k : Nat, k ≤ L.length ∧ u = .int .i64 k ∧ (∀ j (h : j < L.length), j < k → mayPa L[j] = true) ∧ Below w.heap.size w wr) (fun u _ => L.length - (intOf u).toNat)
  case atStart => exact ⟨0, by omega, rfl, fun j _ h => by omega, Below.refl _ _⟩
  case round =>
    obtain ⟨k, hk, rfl, hall, hB⟩ := hrel
    have Hall := Lib.hid hall; have HB := Lib.hid hB
    clear hall hB
    by_cases hin : k < L.length
    · have hd : decide ((k : Int) < (L.length : Int)) = true := by simp; omega
      obtain ⟨g, o, rfl, hg, hc⟩ := H.out k hin
      have Hld := Lib.hid (load_pa (hc.below HB.out hg))
      have hfx := Lib.hid (F.out _ (List.getElem_mem hin))
      have HAk := Lib.hid (HA.out k hin Hall.out)
      clear hc
      obtain ⟨c, hc⟩ : ∃ c, mayPa L[k] = c := ⟨_, rfl⟩
      have Hc := Lib.hid hc
      clear hc
      cases c
      all_goals
        go_wp2_with (first
          | (with_reducible refine wpList_load_is rfl 43 (Operand.tmp 14) rfl ⟨g, o + k * 21, none⟩ rfl _ Hld.out ?_)
          | (go_at_call 28; refine (notpa_any L[k] hfx.out _ Hc.out _).mono ?_; rintro e w1 ⟨rfl, hB⟩; have HB1 := Lib.hid hB; clear hB))
      · go_ret
        exact ⟨retI (HAk.out Hc.out), below_seq HB.out HB1.out HB.out.size⟩
      · refine ⟨⟨k + 1, by omega, by simp, fun j hj hjk => ?_, below_seq HB.out HB1.out HB.out.size⟩, by simp [intOf]; omega⟩
        rcases Nat.lt_or_ge j k with h' | h'
        · exact Hall.out j hj h'
        · obtain rfl : j = k := by omega
          exact Hc.out
    · have HNk := Lib.hid (HN.out (fun j hj => Hall.out j hj (by omega)))
      go_wp2_with fail
      go_ret
      exact ⟨retI HNk.out, HB.out⟩
set_option maxHeartbeats 1000000 in
theorem contains_any (a : Option Addr) (cap : Nat) (L : List Pa) (hL : L.length ≤ maxLen) (hf : ∀ x ∈ L, fitL x) (w : World) (hB : BodAt w a L) (b : Bool) (hb : L.all mayPa = b) :
    Calls Tryd.prog 27 #[.slice a L.length cap, .func (.func 28) #[] #[]] w fun e w' => e = .returned (.bool !b) ∧ Below w.heap.size w w' := by
  have H := Lib.hid hB; have F := Lib.hid hf; clear hB hf
  have hb2 := badI_all L
  rw [hb] at hb2
  obtain ⟨i, hi⟩ : ∃ i, badI L = i := ⟨_, rfl⟩
  rw [hi] at hb2
  have Hi := Lib.hid hi; have Hb := Lib.hid hb2; clear hi hb2 hb
  go_enter Tryd.func27, Tryd.ntmps27
  go_wp2_with (go_at_call 35; refine (idx_any a cap L hL F.out _ H.out).mono ?_; rintro e w1 ⟨rfl, hB⟩; rw [Hi.out]; have HB := Lib.hid hB; clear hB)
  go_ret
  exact ⟨retB Hb.out, HB.out⟩
end Go.Proofs.YtmgaibeibfholaaDoor
