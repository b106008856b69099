/- May a program be: the reference, walked. -/
import Derived.Test.YtmgaibeibfholaaDoorP34
import Derived.StillTailTactics
namespace Go.Proofs.YtmgaibeibfholaaDoor
set_option maxRecDepth 100000
open Go.RowKit Go.Shelf Go.Maps Plain
set_option linter.unusedVariables false
set_option linter.unusedSimpArgs false

section
variable {P : Program} {ops : Array Oper} {Q : Act → Prop} {a : Act} {o : Oper} {rest : List Oper} {w : World}
theorem wpStill_load_is (hgd : o.guard = none) (ty : TypeId) (x : Operand) (ho : o.op = .load ty x) (ad : Addr) (hx : a.eval x = .pointer (some ad)) (v : Value) (hl : (loadVar ty ad).run P w = .ok v w)
    (h : wpStill P ops w Q rest (a.put o.dst v)) : wpStill P ops w Q (o :: rest) a := by
  refine wpStill_step fun K hK => ?_
  rw [if_pos (by unfold Region.wanted; rw [hgd])]
  unfold Oper.still execOp
  simp only [ho, hx, Instr.loadAt, Instr.sureAddr, Sem.run_bind, Sem.run_pure, Result.andThen_ok, hl]
  exact ⟨rfl, hK _ h⟩
end
theorem CellsAt.drew {w : World} {g p : Nat} {cs : List Value} (h : CellsAt w g p cs) : CellsAt w.drew g p cs := fun i v hv => by
  have := h i v hv
  simpa using this
theorem below_drew (w : World) (B : Nat) : Below B w w.drew := ⟨rfl, rfl, rfl, Nat.le_refl _, fun _ _ => rfl⟩
theorem sameRu_comm (a b : Ru) : sameRu a b = sameRu b a := by unfold sameRu; congr 1 <;> (rw [Bool.eq_iff_iff, decide_eq_true_iff, decide_eq_true_iff]; exact eq_comm)
theorem hit_yes {l : List Ru} {i k : Nat} (hi : i < l.length) (hk : k < i) (h : sameRu l[i] (l[k]'(by omega)) = true) : hitB (l.take i) l[i] = true := by
  unfold hitB
  rw [List.any_eq_true]
  refine ⟨l[k]'(by omega), ?_, by rw [sameRu_comm]; exact h⟩
  rw [List.mem_iff_getElem]
  exact ⟨k, by rw [List.length_take]; omega, by rw [List.getElem_take]⟩
theorem hit_no {l : List Ru} {i : Nat} (hi : i < l.length) (h : ∀ k (hk : k < i), sameRu l[i] (l[k]'(by omega)) = false) : hitB (l.take i) l[i] = false := by
  unfold hitB
  rw [← Bool.not_eq_true, List.any_eq_true]
  rintro ⟨x, hx, hs⟩
  obtain ⟨k, hk, rfl⟩ := List.mem_iff_getElem.1 hx
  rw [List.length_take] at hk
  rw [List.getElem_take, sameRu_comm, h k (by omega)] at hs
  cases hs
theorem dupT_mono {l : List Ru} {i j : Nat} (h : i ≤ j) (hd : dupT l i = true) : dupT l j = true := by
  induction j with
  | zero => obtain rfl : i = 0 := by omega
            exact hd
  | succ j ih =>
    rcases Nat.lt_or_ge i (j + 1) with h' | h'
    · have := ih (by omega)
      unfold dupT; rw [this]; rfl
    · obtain rfl : i = j + 1 := by omega
      exact hd
theorem badR_split {n : Bool} {r : Ru} (h : r.body.any badP = false) (h2 : n = true → r.head.b.var.size = 0) : badR n r = false := by
  unfold badR
  rw [h, Bool.or_false]
  cases n with
  | false => rfl
  | true => unfold emB; rw [decide_eq_true (h2 rfl)]; rfl
theorem badR_notneg {r : Ru} {l : List Ru} (hr : r ∈ l) (hn : negs l = false) : badR (negs l) r = false := by
  refine badR_no (fun h => by rw [hn] at h; cases h) (fun k hk h2 => ?_)
  exfalso
  have : negs l = true := by
    unfold negs negR
    rw [List.any_eq_true]
    exact ⟨r, hr, by rw [List.any_eq_true]; exact ⟨_, List.getElem_mem hk, by simp [h2]⟩⟩
  rw [hn] at this; cases this

set_option maxRecDepth 100000 in
set_option maxHeartbeats 8000000 in
theorem rprog_any (a : Option Addr) (cap : Nat) (l : List Ru) (hl : l.length ≤ maxLen) (hf : ∀ r ∈ l, fitRRu r) (w : World) (hA : RusAt w a l) :
    Calls Tryd.prog 9 #[.slice a l.length cap] w fun e w' => e = .returned (.int .i64 (progE l)) ∧ Below w.heap.size w w' := by
  have HA := Lib.hid hA; have F := Lib.hid hf; clear hA hf
  unfold maxLen at hl
  go_enter Tryd.func9, Tryd.ntmps9
  go_wp2_with fail
  go_loopw [3] (fun u wr => ∃ i : Nat, i ≤ l.length ∧ u = .int .i64 i ∧ (∀ j (hj : j < l.length), j < i → ruleE l[j] = 0) ∧ Below w.heap.size w wr) (fun u _ => l.length - (intOf u).toNat)
  case atStart => exact ⟨0, by omega, rfl, fun j _ h => by omega, Below.refl _ _⟩
  case round =>
    obtain ⟨i, hi, rfl, hall, hBw⟩ := hrel
    have Hall := Lib.hid hall; have HBw := Lib.hid hBw
    clear hall hBw
    by_cases hin : i < l.length
    · have hd : decide ((i : Int) < (l.length : Int)) = true := by simp; omega
      obtain ⟨g, o, rfl, hg, hc, hbd⟩ := HA.out i hin
      have hfx := F.out _ (List.getElem_mem hin)
      have HP := Lib.hid (progE_first hin Hall.out)
      obtain ⟨r, hr⟩ : ∃ r, l[i] = r := ⟨_, rfl⟩
      rw [hr] at hc hbd hfx HP
      have Hld := Lib.hid (load_ru (hc.below HBw.out hg))
      have Hbd := Lib.hid (hbd.below HBw.out)
      have Hr := Lib.hid hr; have Hfx := Lib.hid hfx
      clear hc hbd hfx hr hg
      obtain ⟨e0, he⟩ : ∃ e, ruleE r = e := ⟨_, rfl⟩
      have He := Lib.hid he; clear he
      by_cases hz : e0 = 0
      · have q1 : (e0 == 0) = true := beq_iff_eq.2 hz
        have q2 : (e0 != 0) = false := by rw [bne, q1]; rfl
        have Hz := Lib.hid hz; clear hz
        go_wp2_with (first
          | (with_reducible refine wpList_load_is rfl 46 (Operand.tmp 17) rfl ⟨g, o + i * 13, none⟩ rfl (ruV r) Hld.out ?_)
          | (go_at_call 17; refine (rruleE_any r Hfx.out _ Hbd.out).mono ?_; rintro e w2 ⟨rfl, hB⟩; rw [He.out]; have HB2 := Lib.hid (below_seq HBw.out hB HBw.out.size); clear hB))
        refine ⟨⟨i + 1, by omega, by simp, fun j hj hji => ?_, HB2.out⟩, by simp [intOf]; omega⟩
        rcases Nat.lt_or_ge j i with h' | h'
        · exact Hall.out j hj h'
        · obtain rfl : j = i := by omega
          rw [Hr.out, He.out]; exact Hz.out
      · have q1 : (e0 == 0) = false := beq_eq_false_iff_ne.2 hz
        have q2 : (e0 != 0) = true := by rw [bne, q1]; rfl
        have HPe := Lib.hid (show e0 = progE l by rw [← HP.out (by rw [He.out]; exact hz), He.out])
        clear hz
        go_wp2_with (first
          | (with_reducible refine wpList_load_is rfl 46 (Operand.tmp 17) rfl ⟨g, o + i * 13, none⟩ rfl (ruV r) Hld.out ?_)
          | (go_at_call 17; refine (rruleE_any r Hfx.out _ Hbd.out).mono ?_; rintro e w2 ⟨rfl, hB⟩; rw [He.out]; have HB2 := Lib.hid (below_seq HBw.out hB HBw.out.size); clear hB))
        go_ret
        exact ⟨retI HPe.out, HB2.out⟩
    · have hd : decide ((i : Int) < (l.length : Int)) = false := by simp; omega
      have Hz := Lib.hid (show ∀ j (hj : j < l.length), ruleE l[j] = 0 from fun j hj => Hall.out j hj (by omega))
      have HAw := Lib.hid (HA.out.below HBw.out)
      have Hlm := Lib.hid (show ∀ r ∈ l, r.body.length ≤ maxLen from fun r hr => (F.out r hr).2.2)
      obtain ⟨n, hn⟩ : ∃ n, negs l = n := ⟨_, rfl⟩
      have Hn := Lib.hid hn; clear hn
      clear Hall
      cases n
      · have Hgood := Lib.hid (show ∀ j (hj : j < l.length), badR (negs l) l[j] = false from fun j hj => badR_notneg (List.getElem_mem hj) Hn.out)
        go_wp2_with (go_at_call 10; refine (rneg_any a cap l (by unfold maxLen; omega) Hlm.out _ HAw.out).mono ?_; rintro e w2 ⟨rfl, rfl⟩; rw [Hn.out])
        clear hd
        go_loopw [7] (fun u wr => ∃ i : Nat, i ≤ l.length ∧ u = .int .i64 i ∧ dupT l i = false ∧ Below w.heap.size w wr) (fun u _ => l.length - (intOf u).toNat)
        case atStart => exact ⟨0, by omega, rfl, rfl, HBw.out⟩
        case round =>
          clear hi HBw HAw
          rename World => w4
          obtain ⟨i, hi, rfl, hdup, hBw⟩ := hrel
          have Hdup := Lib.hid hdup; have HBw := Lib.hid hBw
          clear hdup hBw
          have Hpe := Lib.hid (progE_good Hz.out Hgood.out)
          by_cases hin : i < l.length
          · have hd : decide ((i : Int) < (l.length : Int)) = true := by simp; omega
            have Hds := Lib.hid (dupT_succ hin)
            have Hhy := Lib.hid (fun k hk h => hit_yes (l := l) (i := i) (k := k) hin hk h)
            have Hhn := Lib.hid (hit_no (l := l) (i := i) hin)
            obtain ⟨g, o, rfl, hg, hc, hbd⟩ := HA.out i hin
            have hbli := Hlm.out _ (List.getElem_mem hin)
            have HC := Lib.hid hc; have HBd := Lib.hid hbd; have Hg := Lib.hid hg; have Hbli := Lib.hid hbli
            clear hc hbd hg hbli
            go_wp2_with fail
            go_loopw [8] (fun u wr => ∃ k : Nat, k ≤ i ∧ u = .int .i64 k ∧ (∀ j (hj : j < i), j < k → sameRu l[i] (l[j]'(by omega)) = false) ∧ Below w.heap.size w wr) (fun u _ => i - (intOf u).toNat)
            case atStart => exact ⟨0, by omega, rfl, fun j _ h => by omega, HBw.out⟩
            case round =>
              rename World => w5
              obtain ⟨k, hk, rfl, hall, hB5⟩ := hrel
              have Hall := Lib.hid hall; have HB5 := Lib.hid hB5
              clear hall hB5
              by_cases hin2 : k < i
              · have hd2 : decide ((k : Int) < (i : Int)) = true := by simp; omega
                have hkl : k < l.length := by omega
                obtain ⟨g', o', hadr, hg', hc', hbd'⟩ := HA.out k hkl
                injection hadr with hadr
                injection hadr with ha1 ha2 _
                subst ha1; subst ha2
                have Hl1 := Lib.hid (load_ru (HC.out.below HB5.out Hg.out).drew)
                have Hl2 := Lib.hid (load_ru (hc'.below HB5.out hg').drew)
                have Hb1 := Lib.hid ((HBd.out.below HB5.out).below (below_drew w5 _))
                have Hb2 := Lib.hid ((hbd'.below HB5.out).below (below_drew w5 _))
                have Hm1 := Lib.hid (Hlm.out _ (List.getElem_mem hin)); have Hm2 := Lib.hid (Hlm.out _ (List.getElem_mem hkl))
                obtain ⟨b, hb⟩ : ∃ b, sameRu l[i] l[k] = b := ⟨_, rfl⟩
                have Hb := Lib.hid hb
                clear hc' hbd' hg' hb
                cases b
                all_goals
                  go_wp2_with fail
                  refine wp_region_still_tail 8 (by kernel_rfl) (by kernel_rfl) ?_
                  simp only [List.take_succ_cons, List.take_zero, List.drop_succ_cons, List.drop_zero]
                  change wpStill _ _ w5.drew (fun a' => wpList _ _ _ _ a' w5.drew) _ _
                  repeat (first
                    | (with_reducible refine wpStill_load_is rfl 46 (Operand.tmp 86) rfl ⟨g, o + i * 13, none⟩ rfl (ruV l[i]) Hl1.out ?_)
                    | (with_reducible refine wpStill_load_is rfl 46 (Operand.tmp 90) rfl ⟨g, o + k * 13, none⟩ rfl (ruV l[k]) Hl2.out ?_)
                    | still_step)
                  refine wpStill_nil ?_
                  go_wp2_with (go_at_call 18; refine (rsame_any l[i] l[k] Hm1.out Hm2.out _ Hb1.out Hb2.out).mono ?_; rintro e w6 ⟨rfl, hB⟩; rw [Hb.out]; have HB6 := Lib.hid (below_seq (HB5.out.trans (below_drew w5 _)) hB HB5.out.size); clear hB)
                · refine ⟨⟨k + 1, by omega, by simp, fun j hj hjk => ?_, HB6.out⟩, by simp [intOf]; omega⟩
                  rcases Nat.lt_or_ge j k with h' | h'
                  · exact Hall.out j hj h'
                  · obtain rfl : j = k := by omega
                    exact Hb.out
                · have Hp8 := Lib.hid (show 8 = progE l by rw [Hpe.out, if_pos (dupT_mono (show i + 1 ≤ l.length by omega) (by rw [Hds.out, Hhy.out k hin2 Hb.out]; simp))])
                  go_ret
                  exact ⟨retI Hp8.out, HB6.out⟩
              · have hd2 : decide ((k : Int) < (i : Int)) = false := by simp; omega
                have Hd2 := Lib.hid (show dupT l (i + 1) = false by rw [Hds.out, Hdup.out, Hhn.out (fun j hj => Hall.out j hj (by omega))]; rfl)
                go_wp2_with fail
                exact ⟨⟨i + 1, by omega, by simp, Hd2.out, HB5.out⟩, by simp [intOf]; omega⟩
          · have hd : decide ((i : Int) < (l.length : Int)) = false := by simp; omega
            have Hd8 := Lib.hid (show dupT l l.length = false by rw [← show i = l.length by omega]; exact Hdup.out)
            by_cases h1000 : 1000 < l.length
            · have Hp8 := Lib.hid (show 9 = progE l by rw [Hpe.out, if_neg (by rw [Hd8.out]; simp), if_pos h1000])
              have q1 : decide ((1000 : Int) < (l.length : Int)) = true := decide_eq_true (by omega)
              go_wp2_with fail
              go_ret
              exact ⟨retI Hp8.out, HBw.out⟩
            · have Hp8 := Lib.hid (show 0 = progE l by rw [Hpe.out, if_neg (by rw [Hd8.out]; simp), if_neg h1000])
              have q1 : decide ((1000 : Int) < (l.length : Int)) = false := decide_eq_false (by omega)
              go_wp2_with fail
              go_ret
              exact ⟨retI Hp8.out, HBw.out⟩
      · go_wp2_with (go_at_call 10; refine (rneg_any a cap l (by unfold maxLen; omega) Hlm.out _ HAw.out).mono ?_; rintro e w2 ⟨rfl, rfl⟩; rw [Hn.out])
        clear hd
        rename World => w3
        have HB3 := Lib.hid HBw.out
        go_loop [5] (fun u => ∃ i : Nat, i ≤ l.length ∧ u = .int .i64 i ∧ ∀ j (hj : j < l.length), j < i → badR (negs l) l[j] = false) (fun u => l.length - (intOf u).toNat)
        case atStart => exact ⟨0, by omega, rfl, fun j _ h => by omega⟩
        case round =>
          clear hi
          obtain ⟨i, hi, rfl, hall⟩ := hrel
          have Hall := Lib.hid hall; clear hall
          by_cases hin : i < l.length
          · have hd : decide ((i : Int) < (l.length : Int)) = true := by simp; omega
            obtain ⟨g, o, rfl, hg, hc, hbd⟩ := HAw.out i hin
            have hbl := Hlm.out _ (List.getElem_mem hin)
            have Hbad := Lib.hid (fun h => progE_bad (l := l) Hz.out hin h)
            obtain ⟨r, hr⟩ : ∃ r, l[i] = r := ⟨_, rfl⟩
            rw [hr] at hc hbd hbl Hbad
            have hcb := hc.body
            have hc4 : w3.cell? ⟨g, o + i * 13 + 4, none⟩ = some (.string r.head.b.var) := hc 4 _ rfl
            have hem := empty_is r.head.b.var
            have Hr := Lib.hid hr; have HBd := Lib.hid hbd
            unfold maxLen at hbl
            clear hr hc hbd
            by_cases hz : r.head.b.var.size = 0
            · rw [decide_eq_true hz] at hem
              have Hzh := Lib.hid hz
              clear hz
              go_wp2_with fail
              clear hem hc4
              go_loop [6] (fun u => ∃ k : Nat, k ≤ r.body.length ∧ u = .int .i64 k ∧ ∀ j (hj : j < r.body.length), j < k → r.body[j].kind = 2 → r.body[j].pat.b.var.size = 0) (fun u => r.body.length - (intOf u).toNat)
              case atStart => exact ⟨0, by omega, rfl, fun j _ h => by omega⟩
              case round =>
                obtain ⟨k, hk, rfl, hall⟩ := hrel
                have Hall2 := Lib.hid hall; clear hall
                by_cases hin2 : k < r.body.length
                · have hd2 : decide ((k : Int) < (r.body.length : Int)) = true := by simp; omega
                  obtain ⟨g', o', hadr, _, hc'⟩ := HBd.out k hin2
                  rw [hadr] at hcb
                  obtain ⟨x, hx⟩ : ∃ x, r.body[k] = x := ⟨_, rfl⟩
                  rw [hx] at hc'
                  have hck : w3.cell? ⟨g', o' + k * 21, none⟩ = some (.int .i64 x.kind) := hc' 0 _ rfl
                  have hc5 : w3.cell? ⟨g', o' + k * 21 + 1 + 4, none⟩ = some (.string x.pat.b.var) := hc' 5 _ rfl
                  have hc5' : w3.cell? ⟨g', o' + k * 21 + 5, none⟩ = some (.string x.pat.b.var) := hc' 5 _ rfl
                  have hem := empty_is x.pat.b.var
                  have Hadr := Lib.hid hadr; have Hx := Lib.hid hx
                  clear hc' hx hadr
                  by_cases h2 : x.kind = 2
                  · have e1 : (x.kind == 2) = true := beq_iff_eq.2 h2
                    by_cases hz : x.pat.b.var.size = 0
                    · rw [decide_eq_true hz] at hem
                      have Hz0' := Lib.hid hz
                      clear hz h2
                      go_wp2_with fail
                      refine ⟨⟨k + 1, by omega, by simp, fun j hj hjk hk2 => ?_⟩, by simp [intOf]; omega⟩
                      rcases Nat.lt_or_ge j k with h' | h'
                      · exact Hall2.out j hj h' hk2
                      · obtain rfl : j = k := by omega
                        rw [Hx.out]; exact Hz0'.out
                    · rw [decide_eq_false hz] at hem
                      have Hp5 := Lib.hid (Hbad.out (badR_part hin2 (by rw [Hx.out]; exact h2) (by rw [Hx.out]; exact hz)))
                      clear hz h2
                      go_wp2_with fail
                      go_ret
                      exact ⟨retI Hp5.out, HB3.out⟩
                  · have e1 : (x.kind == 2) = false := beq_eq_false_iff_ne.2 h2
                    have H2 := Lib.hid h2; clear h2
                    go_wp2_with fail
                    refine ⟨⟨k + 1, by omega, by simp, fun j hj hjk hk2 => ?_⟩, by simp [intOf]; omega⟩
                    rcases Nat.lt_or_ge j k with h' | h'
                    · exact Hall2.out j hj h' hk2
                    · obtain rfl : j = k := by omega
                      rw [Hx.out] at hk2
                      exact absurd hk2 H2.out
                · have hd2 : decide ((k : Int) < (r.body.length : Int)) = false := by simp; omega
                  have Hg := Lib.hid (badR_no (n := negs l) (r := r) (fun _ => Hzh.out) (fun k' hk' h2' => Hall2.out k' hk' (by omega) h2'))
                  go_wp2_with fail
                  refine ⟨⟨i + 1, by omega, by simp, fun j hj hji => ?_⟩, by simp [intOf]; omega⟩
                  rcases Nat.lt_or_ge j i with h' | h'
                  · exact Hall.out j hj h'
                  · obtain rfl : j = i := by omega
                    rw [Hr.out]; exact Hg.out
            · rw [decide_eq_false hz] at hem
              have Hp5 := Lib.hid (Hbad.out (badR_head Hn.out hz))
              clear hz
              go_wp2_with fail
              go_ret
              exact ⟨retI Hp5.out, HB3.out⟩
          · have hd : decide ((i : Int) < (l.length : Int)) = false := by simp; omega
            have Hgood := Lib.hid (show ∀ j (hj : j < l.length), badR (negs l) l[j] = false from fun j hj => Hall.out j hj (by omega))
            clear Hall
            go_wp2_with fail
            clear hd
            go_loopw [7] (fun u wr => ∃ i : Nat, i ≤ l.length ∧ u = .int .i64 i ∧ dupT l i = false ∧ Below w.heap.size w wr) (fun u _ => l.length - (intOf u).toNat)
            case atStart => exact ⟨0, by omega, rfl, rfl, HBw.out⟩
            case round =>
              clear hi HBw HAw
              rename World => w4
              obtain ⟨i, hi, rfl, hdup, hBw⟩ := hrel
              have Hdup := Lib.hid hdup; have HBw := Lib.hid hBw
              clear hdup hBw
              have Hpe := Lib.hid (progE_good Hz.out Hgood.out)
              by_cases hin : i < l.length
              · have hd : decide ((i : Int) < (l.length : Int)) = true := by simp; omega
                have Hds := Lib.hid (dupT_succ hin)
                have Hhy := Lib.hid (fun k hk h => hit_yes (l := l) (i := i) (k := k) hin hk h)
                have Hhn := Lib.hid (hit_no (l := l) (i := i) hin)
                obtain ⟨g, o, rfl, hg, hc, hbd⟩ := HA.out i hin
                have hbli := Hlm.out _ (List.getElem_mem hin)
                have HC := Lib.hid hc; have HBd := Lib.hid hbd; have Hg := Lib.hid hg; have Hbli := Lib.hid hbli
                clear hc hbd hg hbli
                go_wp2_with fail
                go_loopw [8] (fun u wr => ∃ k : Nat, k ≤ i ∧ u = .int .i64 k ∧ (∀ j (hj : j < i), j < k → sameRu l[i] (l[j]'(by omega)) = false) ∧ Below w.heap.size w wr) (fun u _ => i - (intOf u).toNat)
                case atStart => exact ⟨0, by omega, rfl, fun j _ h => by omega, HBw.out⟩
                case round =>
                  rename World => w5
                  obtain ⟨k, hk, rfl, hall, hB5⟩ := hrel
                  have Hall := Lib.hid hall; have HB5 := Lib.hid hB5
                  clear hall hB5
                  by_cases hin2 : k < i
                  · have hd2 : decide ((k : Int) < (i : Int)) = true := by simp; omega
                    have hkl : k < l.length := by omega
                    obtain ⟨g', o', hadr, hg', hc', hbd'⟩ := HA.out k hkl
                    injection hadr with hadr
                    injection hadr with ha1 ha2 _
                    subst ha1; subst ha2
                    have Hl1 := Lib.hid (load_ru (HC.out.below HB5.out Hg.out).drew)
                    have Hl2 := Lib.hid (load_ru (hc'.below HB5.out hg').drew)
                    have Hb1 := Lib.hid ((HBd.out.below HB5.out).below (below_drew w5 _))
                    have Hb2 := Lib.hid ((hbd'.below HB5.out).below (below_drew w5 _))
                    have Hm1 := Lib.hid (Hlm.out _ (List.getElem_mem hin)); have Hm2 := Lib.hid (Hlm.out _ (List.getElem_mem hkl))
                    obtain ⟨b, hb⟩ : ∃ b, sameRu l[i] l[k] = b := ⟨_, rfl⟩
                    have Hb := Lib.hid hb
                    clear hc' hbd' hg' hb
                    cases b
                    all_goals
                      go_wp2_with fail
                      refine wp_region_still_tail 8 (by kernel_rfl) (by kernel_rfl) ?_
                      simp only [List.take_succ_cons, List.take_zero, List.drop_succ_cons, List.drop_zero]
                      change wpStill _ _ w5.drew (fun a' => wpList _ _ _ _ a' w5.drew) _ _
                      repeat (first
                        | (with_reducible refine wpStill_load_is rfl 46 (Operand.tmp 86) rfl ⟨g, o + i * 13, none⟩ rfl (ruV l[i]) Hl1.out ?_)
                        | (with_reducible refine wpStill_load_is rfl 46 (Operand.tmp 90) rfl ⟨g, o + k * 13, none⟩ rfl (ruV l[k]) Hl2.out ?_)
                        | still_step)
                      refine wpStill_nil ?_
                      go_wp2_with (go_at_call 18; refine (rsame_any l[i] l[k] Hm1.out Hm2.out _ Hb1.out Hb2.out).mono ?_; rintro e w6 ⟨rfl, hB⟩; rw [Hb.out]; have HB6 := Lib.hid (below_seq (HB5.out.trans (below_drew w5 _)) hB HB5.out.size); clear hB)
                    · refine ⟨⟨k + 1, by omega, by simp, fun j hj hjk => ?_, HB6.out⟩, by simp [intOf]; omega⟩
                      rcases Nat.lt_or_ge j k with h' | h'
                      · exact Hall.out j hj h'
                      · obtain rfl : j = k := by omega
                        exact Hb.out
                    · have Hp8 := Lib.hid (show 8 = progE l by rw [Hpe.out, if_pos (dupT_mono (show i + 1 ≤ l.length by omega) (by rw [Hds.out, Hhy.out k hin2 Hb.out]; simp))])
                      go_ret
                      exact ⟨retI Hp8.out, HB6.out⟩
                  · have hd2 : decide ((k : Int) < (i : Int)) = false := by simp; omega
                    have Hd2 := Lib.hid (show dupT l (i + 1) = false by rw [Hds.out, Hdup.out, Hhn.out (fun j hj => Hall.out j hj (by omega))]; rfl)
                    go_wp2_with fail
                    exact ⟨⟨i + 1, by omega, by simp, Hd2.out, HB5.out⟩, by simp [intOf]; omega⟩
              · have hd : decide ((i : Int) < (l.length : Int)) = false := by simp; omega
                have Hd8 := Lib.hid (show dupT l l.length = false by rw [← show i = l.length by omega]; exact Hdup.out)
                by_cases h1000 : 1000 < l.length
                · have Hp8 := Lib.hid (show 9 = progE l by rw [Hpe.out, if_neg (by rw [Hd8.out]; simp), if_pos h1000])
                  have q1 : decide ((1000 : Int) < (l.length : Int)) = true := decide_eq_true (by omega)
                  go_wp2_with fail
                  go_ret
                  exact ⟨retI Hp8.out, HBw.out⟩
                · have Hp8 := Lib.hid (show 0 = progE l by rw [Hpe.out, if_neg (by rw [Hd8.out]; simp), if_neg h1000])
                  have q1 : decide ((1000 : Int) < (l.length : Int)) = false := decide_eq_false (by omega)
                  go_wp2_with fail
                  go_ret
                  exact ⟨retI Hp8.out, HBw.out⟩
end Go.Proofs.YtmgaibeibfholaaDoor
