/- Are two bodies, two rules, the same: walked. -/
import Derived.Test.YtmgaibeibfholaaDoorP19
namespace Go.Proofs.YtmgaibeibfholaaDoor
set_option maxRecDepth 100000
open Go.RowKit Go.Shelf Go.Maps Plain
set_option linter.unusedVariables false

def paW (l : Pa) : Value := .agg (paC l).toArray
theorem load_paW {w : World} {g p : Nat} {l : Pa} (h : CellsAt w g p (paC l)) : (loadVar 43 ⟨g, p, none⟩).run Tryd.prog w = .ok (paW l) w := load_pa h
theorem CellsAt.drewN {w : World} {g p n : Nat} {cs : List Value} (h : CellsAt w g p cs) : CellsAt (w.drewN n) g p cs := fun i v hv => by
  have := h i v hv
  simpa using this
section
variable {P : Program} {ops : Array Oper} {C : World → Prop} {Q : Act → Prop} {a : Act} {o : Oper} {rest : List Oper}
theorem wpQuiet_load_is (hgd : o.guard = none) (ty : TypeId) (x : Operand) (ho : o.op = .load ty x) (ad : Addr) (hx : a.eval x = .pointer (some ad)) (v : Value) (hl : ∀ w, C w → (loadVar ty ad).run P w = .ok v w)
    (h : wpQuiet P ops C Q rest (a.put o.dst v)) : wpQuiet P ops C Q (o :: rest) a := by
  refine BigFrame.wpQuiet_want (by unfold Region.wanted; rw [hgd]) fun K hK => ⟨v, fun w hw => ?_, hK _ h⟩
  unfold Oper.quietAt execOp
  simp only [ho, hx, Instr.loadAt, Instr.sureAddr, Sem.run_bind, Sem.run_pure, Result.andThen_ok, hl w hw]
  exact ⟨rfl, rfl⟩
end
theorem below_drewN (w : World) (n B : Nat) : Below B w (w.drewN n) := ⟨rfl, rfl, rfl, Nat.le_refl _, fun _ _ => rfl⟩
theorem neqPaW (a b : Pa) (d : Bool) (hd : decide (a = b) = d) (w : World) : (binOp .neq 43 (paW a) (paW b)).run Tryd.prog w = .ok (.bool !d) w := neqPaB a b d hd w
theorem guardPaW (op : BinOp) (x y : Operand) (a b : Pa) (w : World) : (eqGuard op 43 x y (paW a) (paW b)).run Tryd.prog w = .ok () w := run_eqGuard_agg w op 43 x y _ _ (by kernel_rfl)

theorem body_ne {L M : List Pa} {k : Nat} (h1 : k < L.length) (h2 : k < M.length) (h : decide (L[k] = M[k]) = false) : false = decide (L = M) := by
  symm; apply decide_eq_false
  rintro rfl
  simp at h
theorem body_len {L M : List Pa} (h : L.length ≠ M.length) : false = decide (L = M) := by
  symm; apply decide_eq_false
  rintro rfl
  exact h rfl
theorem body_eq {L M : List Pa} (hl : L.length = M.length) (h : ∀ j (h1 : j < L.length) (h2 : j < M.length), L[j] = M[j]) : true = decide (L = M) := by
  symm; apply decide_eq_true
  exact List.ext_getElem hl h

set_option maxRecDepth 100000 in
set_option maxHeartbeats 2000000 in
theorem eqBody_any (a b : Option Addr) (c c' : Nat) (L M : List Pa) (hL : L.length ≤ maxLen) (hM : M.length ≤ maxLen) (w : World) (hA : BodAt w a L) (hB : BodAt w b M) :
    Calls Tryd.prog 22 #[.slice a L.length c, .slice b M.length c'] w fun e w' => e = .returned (.bool (decide (L = M))) ∧ Below w.heap.size w w' := by
  have HA := Lib.hid hA; have HB := Lib.hid hB; clear hA hB
  unfold maxLen at hL hM
  by_cases hlen : L.length = M.length
  · have hne : (((L.length : Nat) : Int) == ((M.length : Nat) : Int)) = true := by rw [hlen]; simp
    have hne' : (((L.length : Nat) : Int) != ((M.length : Nat) : Int)) = false := by rw [hlen]; simp
    have Hlen := Lib.hid hlen; clear hlen
    go_enter Tryd.func22, Tryd.ntmps22
    go_wp2_with fail
    go_loopw [13] (fun u wr => ∃ k : Nat, k ≤ L.length ∧ u = .int .i64 k ∧ (∀ j (h1 : j < L.length) (h2 : j < M.length), j < k → L[j] = M[j]) ∧ Below w.heap.size w wr) (fun u _ => L.length - (intOf u).toNat)
    case atStart => exact ⟨0, by omega, rfl, fun j _ _ h => by omega, Below.refl _ _⟩
    case round =>
      obtain ⟨k, hk, rfl, hall, hBw⟩ := hrel
      have Hall := Lib.hid hall; have HBw := Lib.hid hBw
      clear hall hBw
      by_cases hin : k < L.length
      · have hin2 : k < M.length := by have := Hlen.out; omega
        have hd : decide ((k : Int) < (L.length : Int)) = true := by simp; omega
        obtain ⟨g, o, rfl, hg, hc⟩ := HA.out k hin
        obtain ⟨g', o', rfl, hg', hc'⟩ := HB.out k hin2
        have Hl1 : Hid (∀ W, (∃ n, W = wr.drewN n) → (loadVar 43 ⟨g, o + k * 21, none⟩).run Tryd.prog W = .ok (paW L[k]) W) := by
          rintro W ⟨n, rfl⟩; exact load_paW (hc.below HBw.out hg).drewN
        have Hl2 : Hid (∀ W, (∃ n, W = wr.drewN n) → (loadVar 43 ⟨g', o' + k * 21, none⟩).run Tryd.prog W = .ok (paW M[k]) W) := by
          rintro W ⟨n, rfl⟩; exact load_paW (hc'.below HBw.out hg').drewN
        clear hc hc'
        obtain ⟨d, hdd⟩ : ∃ d, decide (L[k] = M[k]) = d := ⟨_, rfl⟩
        have Hd := Lib.hid hdd
        have hq := neqPaW L[k] M[k] d hdd
        have hqg := guardPaW
        clear hdd
        cases d
        all_goals
          go_wp2_with fail
          refine wp_region_quiet_lit (by kernel_rfl) (by kernel_rfl) ?_
          repeat (first
            | (with_reducible refine wpQuiet_load_is rfl 43 (Operand.tmp 18) rfl ⟨g, o + k * 21, none⟩ rfl _ Hl1.out ?_)
            | (with_reducible refine wpQuiet_load_is rfl 43 (Operand.tmp 22) rfl ⟨g', o' + k * 21, none⟩ rfl _ Hl2.out ?_)
            | go_big_quiet_step (fail)
            | quiet_step (fail))
          refine wpQuiet_nil ?_
          intro _ hw'
          obtain ⟨nq, hw''⟩ := hw'
          subst hw''
          go_wp2_with fail
        · go_ret
          exact ⟨retB (body_ne hin hin2 Hd.out), HBw.out.trans (below_drewN _ _ _)⟩
        · refine ⟨⟨k + 1, by omega, by simp, fun j h1 h2 hjk => ?_, HBw.out.trans (below_drewN _ _ _)⟩, by simp [intOf]; omega⟩
          rcases Nat.lt_or_ge j k with h' | h'
          · exact Hall.out j h1 h2 h'
          · obtain rfl : j = k := by omega
            exact of_decide_eq_true Hd.out
      · have Hn := Lib.hid (body_eq Hlen.out (fun j h1 h2 => Hall.out j h1 h2 (by omega)))
        go_wp2_with fail
        go_ret
        exact ⟨retB Hn.out, HBw.out⟩
  · have hne : (((L.length : Nat) : Int) == ((M.length : Nat) : Int)) = false := beq_eq_false_iff_ne.2 (by omega)
    have hne' : (((L.length : Nat) : Int) != ((M.length : Nat) : Int)) = true := by rw [bne, hne]; rfl
    have Hn := Lib.hid (body_len hlen); clear hlen
    go_enter Tryd.func22, Tryd.ntmps22
    go_wp2_with fail
    go_ret
    exact ⟨retB Hn.out, Below.refl _ _⟩
end Go.Proofs.YtmgaibeibfholaaDoor
