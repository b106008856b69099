/- May a program be: walked. -/
import Derived.Test.YtmgaibeibfholaaDoorP33
namespace Go.Proofs.YtmgaibeibfholaaDoor
set_option maxRecDepth 100000
open Go.RowKit Go.Shelf Go.Maps Plain
set_option linter.unusedVariables false
set_option linter.unusedSimpArgs false

theorem build26 (w : World) : (Instr.build 26 #[]).run Tryd.prog w = .ok (.agg #[.bool false]) w := run_build w 26 _ _ (by kernel_rfl)
theorem build26b (b : Bool) (w : World) : (Instr.build 26 #[(0, .bool b)]).run Tryd.prog w = .ok (.agg #[.bool b]) w := run_build w 26 _ _ (by kernel_rfl)
theorem load_mode {w : World} {g : Nat} {b : Bool} (h : w.cell? ⟨g, 0, none⟩ = some (.bool b)) : (loadVar 26 ⟨g, 0, none⟩).run Tryd.prog w = .ok (.agg #[.bool b]) w := by
  have hl : (loadCells ⟨g, 0, none⟩ 1).run Tryd.prog w = .ok #[.bool b] w := run_loadCells_list (P := Tryd.prog) w ⟨g, 0, none⟩ [.bool b] (fun j v hv => by
    have hj : j = 0 := by
      have := (List.getElem?_eq_some_iff.1 hv).1
      simp at this; omega
    subst hj
    simp at hv; subst hv
    rw [add_off]; exact h)
  have a1 := Tryd.isAgg26
  have z1 := Tryd.sizeOf26
  simp [loadVar, Sem.run_bind, a1, z1, hl]
/-- what comes back -/
def progV (e : Int) (n : Bool) : Value := .tuple #[.agg #[.bool (decide (e = 0) && !n)], .int .i64 e]
set_option maxRecDepth 100000 in
set_option maxHeartbeats 8000000 in
theorem prog_any (a : Option Addr) (cap : Nat) (l : List Ru) (hl : l.length ≤ cap) (hcap : cap ≤ maxLen) (hf : ∀ r ∈ l, fitRu r) (w : World) (hA : RusAt w a l) :
    Calls Tryd.prog 8 #[.slice a l.length cap] w fun e w' => e = .returned (progV (progE l) (negs l)) ∧ Below w.heap.size w w' := by
  have HA := Lib.hid hA; have F := Lib.hid hf; clear hA hf
  unfold maxLen at hcap
  have hbl := below_alloc (w := w) (.cells #[.bool false] 26)
  have hres := World.alloc_heap_new w (.cells #[.bool false] 26)
  have hz0 : (w.alloc (.cells #[.bool false] 26)).heap.size = w.heap.size + 1 := by simp
  go_enter Tryd.func8, Tryd.ntmps8
  go_wp2_with fail
  generalize w.alloc (.cells #[.bool false] 26) = W0 at *
  have Hres := Lib.hid hres; have Hbl := Lib.hid hbl; have Hz0 := Lib.hid hz0
  clear hres hbl hz0
  have endE : ∀ (tmps : Array Value) (W : World) (b : Bool) (k : Int), tmps[2]?.getD undef = .pointer (some ⟨w.heap.size, 0, none⟩) → tmps[3]?.getD undef = .int .i64 k → W.heap[w.heap.size]? = some (.cells #[.bool b] 26 (0, 0)) →
      k = progE l → b = (decide (progE l = 0) && !negs l) → Below w.heap.size w W → Exit.noGoto (bodyPost Tryd.prog Tryd.f8 (fun e w' => e = .returned (progV (progE l) (negs l)) ∧ Below w.heap.size w w')) .ret { tmps := tmps, defers := [] } W := by
    intro tmps W b k ht2 ht3 hr hk hb hB
    rw [Exit.noGoto_ret]
    refine bodyPost_ret (v := .tuple #[.agg #[.bool b], .int .i64 k]) ?_ rfl ⟨by rw [hk, hb]; rfl, hB⟩
    have hres : Tryd.f8.results = #[.cell 2 26, .tmp 3] := rfl
    have cx := (box_at hr rfl).1
    simp only [results, hres]
    simp [go_sem, ht2, ht3, cx]
  have EndE := Lib.hid endE
  clear endE
  have keep : ∀ W, Below W0.heap.size W0 W → (W.cell? ⟨w.heap.size, 0, none⟩ = some (.bool false) ∧ W.frozen? ⟨w.heap.size, 0, none⟩ = false) ∧ (∀ b, (W.setCell ⟨w.heap.size, 0, none⟩ (.bool b)).heap[w.heap.size]? = some (.cells #[.bool b] 26 (0, 0))) ∧ ∀ b, Below w.heap.size w (W.setCell ⟨w.heap.size, 0, none⟩ (.bool b)) := fun W hW => by
    have h1 := (hW.block _ (by have := Hz0.out; omega)).trans Hres.out
    exact ⟨box_at h1 rfl, fun b => arr_set1 h1 _, fun b => (Hbl.out.trans (hW.mono Hbl.out.size)).setCell (p := ⟨w.heap.size, 0, none⟩) (Nat.le_refl _) _⟩
  have Keep := Lib.hid keep
  clear keep
  go_step3
  go_wp2_with fail
  go_loopw [15] (fun u wr => ∃ i : Nat, i ≤ l.length ∧ u = .int .i64 i ∧ (∀ j (hj : j < l.length), j < i → ruleE l[j] = 0) ∧ Below W0.heap.size W0 wr) (fun u _ => l.length - (intOf u).toNat)
  case atStart => exact ⟨0, by omega, rfl, fun j _ h => by omega, Below.refl _ _⟩
  case round =>
    obtain ⟨i, hi, rfl, hall, hBw⟩ := hrel
    have Hall := Lib.hid hall; have HBw := Lib.hid hBw
    clear hall hBw
    by_cases hin : i < l.length
    · have hd : decide ((i : Int) < (l.length : Int)) = true := by simp; omega
      obtain ⟨g, o, rfl, hg, hc, hbd⟩ := HA.out i hin
      have hfx := F.out _ (List.getElem_mem hin)
      have HP := Lib.hid (progE_first hin Hall.out)
      obtain ⟨r, hr⟩ : ∃ r, l[i] = r := ⟨_, rfl⟩
      rw [hr] at hc hbd hfx HP
      have hBx := Hbl.out.trans (HBw.out.mono Hbl.out.size)
      have hcw := hc.below hBx hg
      have hbw := hbd.below hBx
      have hB1 := below_alloc (w := wr) (.cells (ruC r).toArray 46)
      have Hld := Lib.hid (load_ru hcw)
      have Hst := Lib.hid (store_ru wr r)
      have Hld2 := Lib.hid (load_ru (CellsAt.box wr (ruC r) 46))
      have Hbd := Lib.hid (hbw.below hB1)
      have HB1 := Lib.hid (below_seq HBw.out hB1 HBw.out.size)
      have Hr := Lib.hid hr; have Hfx := Lib.hid hfx
      clear hc hbd hfx hBx hcw hbw hB1 hr hg
      obtain ⟨e0, he⟩ : ∃ e, ruleE r = e := ⟨_, rfl⟩
      have He := Lib.hid he; clear he
      by_cases hz : e0 = 0
      · have q1 : (e0 == 0) = true := beq_iff_eq.2 hz
        have q2 : (e0 != 0) = false := by rw [bne, q1]; rfl
        have Hz := Lib.hid hz; clear hz
        go_wp2_with (first
          | (with_reducible refine wpList_load_is rfl 46 (Operand.tmp 17) rfl ⟨g, o + i * 13, none⟩ rfl (ruV r) Hld.out ?_)
          | (with_reducible refine wpList_store_is rfl 46 (Operand.tmp 5) (Operand.tmp 18) rfl ⟨wr.heap.size, 0, none⟩ rfl (ruV r) rfl _ Hst.out ?_)
          | (with_reducible refine wpList_load_is rfl 46 (Operand.tmp 5) rfl ⟨wr.heap.size, 0, none⟩ rfl (ruV r) Hld2.out ?_)
          | (go_at_call 13; refine (ruleE_any r Hfx.out _ Hbd.out).mono ?_; rintro e w2 ⟨rfl, hB⟩; rw [He.out]; have HB2 := Lib.hid (below_seq HB1.out hB HB1.out.size); clear hB))
        refine ⟨⟨i + 1, by omega, by simp, fun j hj hji => ?_, HB2.out⟩, by simp [intOf]; omega⟩
        rcases Nat.lt_or_ge j i with h' | h'
        · exact Hall.out j hj h'
        · obtain rfl : j = i := by omega
          rw [Hr.out, He.out]; exact Hz.out
      · have q1 : (e0 == 0) = false := beq_eq_false_iff_ne.2 hz
        have q2 : (e0 != 0) = true := by rw [bne, q1]; rfl
        have Hz := Lib.hid hz
        have HPe := Lib.hid (show e0 = progE l by rw [← HP.out (by rw [He.out]; exact hz), He.out])
        clear hz
        have hbuild := build26
        go_wp2_with (first
          | (with_reducible refine wpList_load_is rfl 46 (Operand.tmp 17) rfl ⟨g, o + i * 13, none⟩ rfl (ruV r) Hld.out ?_)
          | (with_reducible refine wpList_store_is rfl 46 (Operand.tmp 5) (Operand.tmp 18) rfl ⟨wr.heap.size, 0, none⟩ rfl (ruV r) rfl _ Hst.out ?_)
          | (with_reducible refine wpList_load_is rfl 46 (Operand.tmp 5) rfl ⟨wr.heap.size, 0, none⟩ rfl (ruV r) Hld2.out ?_)
          | (go_at_call 13; refine (ruleE_any r Hfx.out _ Hbd.out).mono ?_; rintro e w2 ⟨rfl, hB⟩; rw [He.out]; obtain ⟨⟨d0, d1⟩, d2⟩ := Keep.out w2 (below_seq HB1.out hB HB1.out.size); have D2 := Lib.hid d2; clear hB d2))
        exact EndE.out _ _ _ _ rfl rfl (D2.out.1 _) HPe.out (by rw [← HPe.out, decide_eq_false Hz.out]; rfl) (D2.out.2 _)
    · have hd : decide ((i : Int) < (l.length : Int)) = false := by simp; omega
      have Hz := Lib.hid (show ∀ j (hj : j < l.length), ruleE l[j] = 0 from fun j hj => Hall.out j hj (by omega))
      have HAw := Lib.hid (HA.out.below (Hbl.out.trans (HBw.out.mono Hbl.out.size)))
      have Hlm := Lib.hid (show ∀ r ∈ l, r.body.length ≤ maxLen from fun r hr => (F.out r hr).2.2)
      obtain ⟨n, hn⟩ : ∃ n, negs l = n := ⟨_, rfl⟩
      have Hn := Lib.hid hn; clear hn
      clear Hall
      cases n
      · go_wp2_with (go_at_call 11; refine (neg_any a cap l (by unfold maxLen; omega) Hlm.out _ HAw.out).mono ?_; rintro e w2 ⟨rfl, hB⟩; rw [Hn.out]; have HB2 := Lib.hid (HBw.out.trans (hB.mono HBw.out.size)); clear hB)
        go_step3
        go_wp2_with fail
        clear hd
        go_loopw [8, 30] (fun u8 u30 wr => ∃ (i : Nat) (d : Bool), i ≤ l.length ∧ u30 = .int .i64 i ∧ (d = true ∧ u8 = .int .i64 8 ∨ d = false ∧ u8 = .int .i64 0) ∧ dupT l i = d ∧ (∀ j (hj : j < l.length), j < i → badR (negs l) l[j] = false) ∧ Below W0.heap.size W0 wr) (fun _ u _ => l.length - (intOf u).toNat)
        case atStart => exact ⟨0, false, by omega, rfl, .inr ⟨rfl, rfl⟩, rfl, fun j _ h => by omega, HB2.out⟩
        case round =>
          clear HBw HB2 HAw hi
          obtain ⟨i, d, hi, rfl, hu8, hdup, hall, hBw⟩ := hrel
          have Hall := Lib.hid hall; have HBw := Lib.hid hBw; have Hdup := Lib.hid hdup
          clear hall hBw hdup
          by_cases hin : i < l.length
          · have hd : decide ((i : Int) < (l.length : Int)) = true := by simp; omega
            obtain ⟨g, o, rfl, hg, hc, hbd⟩ := HA.out i hin
            have hfx := (F.out _ (List.getElem_mem hin))
            have Hbad := Lib.hid (fun h => progE_bad (l := l) Hz.out hin h)
            have Hds := Lib.hid (dupT_succ hin)
            obtain ⟨r, hr⟩ : ∃ r, l[i] = r := ⟨_, rfl⟩
            rw [hr] at hc hbd hfx Hbad Hds
            have hBx := Hbl.out.trans (HBw.out.mono Hbl.out.size)
            have hB1 := below_alloc (w := wr) (.cells (ruC r).toArray 46)
            have Hld := Lib.hid (load_ru (hc.below hBx hg))
            have Hst := Lib.hid (store_ru wr r)
            have hbox := CellsAt.box wr (ruC r) 46
            have HBd := Lib.hid ((hbd.below hBx).below hB1)
            have HA1 := Lib.hid ((HA.out.below hBx).below hB1)
            have HB1 := Lib.hid (below_seq HBw.out hB1 HBw.out.size)
            have hz1 : wr.heap.size < (wr.alloc (.cells (ruC r).toArray 46)).heap.size := by simp
            have Hr := Lib.hid hr
            have hbl : r.body.length ≤ maxLen := hfx.2.2
            unfold maxLen at hbl
            have Hbox := Lib.hid hbox
            have hsz : (ruC r).length = 13 := rfl
            have h4 : (ruC r)[4]'(by rw [hsz]; omega) = .string r.head.b.var := rfl
            have h12 : (ruC r)[12]'(by rw [hsz]; omega) = .slice r.adr r.body.length r.cap := rfl
            have hem := empty_is r.head.b.var
            have hgt := decide_eq_true (show (0 : Int) ≤ (i : Int) by omega)
            clear hc hbd hfx hBx hB1 hr hg hbox
            rcases hu8 with ⟨rfl, rfl⟩ | ⟨rfl, rfl⟩
            · go_wp2_with (first
                 | (with_reducible refine wpList_load_is rfl 46 (Operand.tmp 33) rfl ⟨g, o + i * 13, none⟩ rfl (ruV r) Hld.out ?_)
                 | (with_reducible refine wpList_store_is rfl 46 (Operand.tmp 10) (Operand.tmp 34) rfl ⟨wr.heap.size, 0, none⟩ rfl (ruV r) rfl _ Hst.out ?_))
              generalize wr.alloc (.cells (ruC r).toArray 46) = W1 at *
              generalize wr.heap.size = gb at *
              clear Hld Hst h4 h12 HBw hsz hem
              go_loopw [8, 46] (fun u8 u wx => ∃ k : Nat, u8 = .int .i64 8 ∧ k ≤ r.body.length ∧ u = .int .i64 k ∧ (∀ j (hj : j < r.body.length), j < k → r.body[j].kind = 2 → r.body[j].pat.b.var.size = 0) ∧ Below W1.heap.size W1 wx) (fun _ u _ => r.body.length - (intOf u).toNat)
              case atStart => exact ⟨0, rfl, by omega, rfl, fun j _ h => by omega, Below.refl _ _⟩
              case round =>
                rename World => wx
                obtain ⟨k, rfl, hk, rfl, hall, hBw⟩ := hrel
                have Hall2 := Lib.hid hall; have HBx := Lib.hid hBw; clear hall hBw
                by_cases hin2 : k < r.body.length
                · have hd2 : decide ((k : Int) < (r.body.length : Int)) = true := by simp; omega
                  obtain ⟨g', o', hadr, hg', hc'⟩ := HBd.out k hin2
                  rw [hadr]
                  obtain ⟨x, hx⟩ : ∃ x, r.body[k] = x := ⟨_, rfl⟩
                  rw [hx] at hc'
                  have Hld := Lib.hid (load_paW (hc'.below HBx.out hg'))
                  have Hst := Lib.hid (store_pa wx x)
                  have hsz : (paC x).length = 21 := rfl
                  have hk0 : (paC x)[0]'(by rw [hsz]; omega) = .int .i64 x.kind := rfl
                  have hk5 : (paC x)[5]'(by rw [hsz]; omega) = .string x.pat.b.var := rfl
                  have hem := empty_is x.pat.b.var
                  have HB2 := Lib.hid (below_seq HBx.out (below_alloc (w := wx) (.cells (paC x).toArray 43)) HBx.out.size)
                  have Hx := Lib.hid hx
                  clear hc' hx hadr
                  by_cases h2 : x.kind = 2
                  · have e1 : (x.kind == 2) = true := beq_iff_eq.2 h2
                    by_cases hz : x.pat.b.var.size = 0
                    · rw [decide_eq_true hz] at hem
                      have Hz0' := Lib.hid hz
                      clear hz h2
                      go_wp2_with (first
                    | (with_reducible refine wpList_load_is rfl 43 (Operand.tmp 48) rfl ⟨g', o' + k * 21, none⟩ rfl (paW x) Hld.out ?_)
                    | (with_reducible refine wpList_store_is rfl 43 (Operand.tmp 12) (Operand.tmp 49) rfl ⟨wx.heap.size, 0, none⟩ rfl (paW x) rfl _ Hst.out ?_))
                      refine ⟨⟨k + 1, rfl, by omega, by simp, fun j hj hjk hk2 => ?_, HB2.out⟩, by simp [intOf]; omega⟩
                      rcases Nat.lt_or_ge j k with h' | h'
                      · exact Hall2.out j hj h' hk2
                      · obtain rfl : j = k := by omega
                        rw [Hx.out]; exact Hz0'.out
                    · rw [decide_eq_false hz] at hem
                      have Hp5 := Lib.hid (Hbad.out (badR_part hin2 (by rw [Hx.out]; exact h2) (by rw [Hx.out]; exact hz)))
                      have hBt := below_seq HB1.out HB2.out HB1.out.size
                      obtain ⟨⟨d0, d1⟩, d2⟩ := Keep.out _ hBt
                      have D2 := Lib.hid d2
                      have hbuild := build26
                      clear d2 hBt hz h2
                      go_wp2_with (first
                    | (with_reducible refine wpList_load_is rfl 43 (Operand.tmp 48) rfl ⟨g', o' + k * 21, none⟩ rfl (paW x) Hld.out ?_)
                    | (with_reducible refine wpList_store_is rfl 43 (Operand.tmp 12) (Operand.tmp 49) rfl ⟨wx.heap.size, 0, none⟩ rfl (paW x) rfl _ Hst.out ?_))
                      exact EndE.out _ _ _ _ rfl rfl (D2.out.1 _) Hp5.out (by rw [← Hp5.out]; rfl) (D2.out.2 _)
                  · have e1 : (x.kind == 2) = false := beq_eq_false_iff_ne.2 h2
                    have H2 := Lib.hid h2; clear h2
                    go_wp2_with (first
                    | (with_reducible refine wpList_load_is rfl 43 (Operand.tmp 48) rfl ⟨g', o' + k * 21, none⟩ rfl (paW x) Hld.out ?_)
                    | (with_reducible refine wpList_store_is rfl 43 (Operand.tmp 12) (Operand.tmp 49) rfl ⟨wx.heap.size, 0, none⟩ rfl (paW x) rfl _ Hst.out ?_))
                    refine ⟨⟨k + 1, rfl, by omega, by simp, fun j hj hjk hk2 => ?_, HB2.out⟩, by simp [intOf]; omega⟩
                    rcases Nat.lt_or_ge j k with h' | h'
                    · exact Hall2.out j hj h' hk2
                    · obtain rfl : j = k := by omega
                      rw [Hx.out] at hk2
                      exact absurd hk2 H2.out
                · have hd2 : decide ((k : Int) < (r.body.length : Int)) = false := by simp; omega
                  have Hgood := Lib.hid (show ∀ j (hj : j < l.length), j < i + 1 → badR (negs l) l[j] = false from fun j hj hji => by
                    rcases Nat.lt_or_ge j i with h' | h'
                    · exact Hall.out j hj h'
                    · obtain rfl : j = i := by omega
                      rw [Hr.out]
                      exact badR_no (fun hh => by rw [Hn.out] at hh; cases hh) (fun k' hk' h2' => Hall2.out k' hk' (by omega) h2'))
                  go_wp2_with fail
                  refine ⟨⟨i + 1, true, by omega, by simp, .inl ⟨rfl, rfl⟩, by rw [Hds.out, Hdup.out]; rfl, Hgood.out, below_seq HB1.out HBx.out HB1.out.size⟩, by simp [intOf]; omega⟩
            · go_wp2_with (first
                 | (with_reducible refine wpList_load_is rfl 46 (Operand.tmp 33) rfl ⟨g, o + i * 13, none⟩ rfl (ruV r) Hld.out ?_)
                 | (with_reducible refine wpList_store_is rfl 46 (Operand.tmp 10) (Operand.tmp 34) rfl ⟨wr.heap.size, 0, none⟩ rfl (ruV r) rfl _ Hst.out ?_))
              generalize wr.alloc (.cells (ruC r).toArray 46) = W1 at *
              generalize wr.heap.size = gb at *
              clear Hld Hst h4 h12 HBw hsz hem
              go_loopw [8, 46] (fun u8 u wx => ∃ k : Nat, u8 = .int .i64 0 ∧ k ≤ r.body.length ∧ u = .int .i64 k ∧ (∀ j (hj : j < r.body.length), j < k → r.body[j].kind = 2 → r.body[j].pat.b.var.size = 0) ∧ Below W1.heap.size W1 wx) (fun _ u _ => r.body.length - (intOf u).toNat)
              case atStart => exact ⟨0, rfl, by omega, rfl, fun j _ h => by omega, Below.refl _ _⟩
              case round =>
                rename World => wx
                obtain ⟨k, rfl, hk, rfl, hall, hBw⟩ := hrel
                have Hall2 := Lib.hid hall; have HBx := Lib.hid hBw; clear hall hBw
                by_cases hin2 : k < r.body.length
                · have hd2 : decide ((k : Int) < (r.body.length : Int)) = true := by simp; omega
                  obtain ⟨g', o', hadr, hg', hc'⟩ := HBd.out k hin2
                  rw [hadr]
                  obtain ⟨x, hx⟩ : ∃ x, r.body[k] = x := ⟨_, rfl⟩
                  rw [hx] at hc'
                  have Hld := Lib.hid (load_paW (hc'.below HBx.out hg'))
                  have Hst := Lib.hid (store_pa wx x)
                  have hsz : (paC x).length = 21 := rfl
                  have hk0 : (paC x)[0]'(by rw [hsz]; omega) = .int .i64 x.kind := rfl
                  have hk5 : (paC x)[5]'(by rw [hsz]; omega) = .string x.pat.b.var := rfl
                  have hem := empty_is x.pat.b.var
                  have HB2 := Lib.hid (below_seq HBx.out (below_alloc (w := wx) (.cells (paC x).toArray 43)) HBx.out.size)
                  have Hx := Lib.hid hx
                  clear hc' hx hadr
                  by_cases h2 : x.kind = 2
                  · have e1 : (x.kind == 2) = true := beq_iff_eq.2 h2
                    by_cases hz : x.pat.b.var.size = 0
                    · rw [decide_eq_true hz] at hem
                      have Hz0' := Lib.hid hz
                      clear hz h2
                      go_wp2_with (first
                    | (with_reducible refine wpList_load_is rfl 43 (Operand.tmp 48) rfl ⟨g', o' + k * 21, none⟩ rfl (paW x) Hld.out ?_)
                    | (with_reducible refine wpList_store_is rfl 43 (Operand.tmp 12) (Operand.tmp 49) rfl ⟨wx.heap.size, 0, none⟩ rfl (paW x) rfl _ Hst.out ?_))
                      refine ⟨⟨k + 1, rfl, by omega, by simp, fun j hj hjk hk2 => ?_, HB2.out⟩, by simp [intOf]; omega⟩
                      rcases Nat.lt_or_ge j k with h' | h'
                      · exact Hall2.out j hj h' hk2
                      · obtain rfl : j = k := by omega
                        rw [Hx.out]; exact Hz0'.out
                    · rw [decide_eq_false hz] at hem
                      have Hp5 := Lib.hid (Hbad.out (badR_part hin2 (by rw [Hx.out]; exact h2) (by rw [Hx.out]; exact hz)))
                      have hBt := below_seq HB1.out HB2.out HB1.out.size
                      obtain ⟨⟨d0, d1⟩, d2⟩ := Keep.out _ hBt
                      have D2 := Lib.hid d2
                      have hbuild := build26
                      clear d2 hBt hz h2
                      go_wp2_with (first
                    | (with_reducible refine wpList_load_is rfl 43 (Operand.tmp 48) rfl ⟨g', o' + k * 21, none⟩ rfl (paW x) Hld.out ?_)
                    | (with_reducible refine wpList_store_is rfl 43 (Operand.tmp 12) (Operand.tmp 49) rfl ⟨wx.heap.size, 0, none⟩ rfl (paW x) rfl _ Hst.out ?_))
                      exact EndE.out _ _ _ _ rfl rfl (D2.out.1 _) Hp5.out (by rw [← Hp5.out]; rfl) (D2.out.2 _)
                  · have e1 : (x.kind == 2) = false := beq_eq_false_iff_ne.2 h2
                    have H2 := Lib.hid h2; clear h2
                    go_wp2_with (first
                    | (with_reducible refine wpList_load_is rfl 43 (Operand.tmp 48) rfl ⟨g', o' + k * 21, none⟩ rfl (paW x) Hld.out ?_)
                    | (with_reducible refine wpList_store_is rfl 43 (Operand.tmp 12) (Operand.tmp 49) rfl ⟨wx.heap.size, 0, none⟩ rfl (paW x) rfl _ Hst.out ?_))
                    refine ⟨⟨k + 1, rfl, by omega, by simp, fun j hj hjk hk2 => ?_, HB2.out⟩, by simp [intOf]; omega⟩
                    rcases Nat.lt_or_ge j k with h' | h'
                    · exact Hall2.out j hj h' hk2
                    · obtain rfl : j = k := by omega
                      rw [Hx.out] at hk2
                      exact absurd hk2 H2.out
                · have hd2 : decide ((k : Int) < (r.body.length : Int)) = false := by simp; omega
                  have Hgood := Lib.hid (show ∀ j (hj : j < l.length), j < i + 1 → badR (negs l) l[j] = false from fun j hj hji => by
                    rcases Nat.lt_or_ge j i with h' | h'
                    · exact Hall.out j hj h'
                    · obtain rfl : j = i := by omega
                      rw [Hr.out]
                      exact badR_no (fun hh => by rw [Hn.out] at hh; cases hh) (fun k' hk' h2' => Hall2.out k' hk' (by omega) h2'))
                  have hlen : (l.take i).length = i := by rw [List.length_take]; omega
                  have hAt : RusAt wx (some ⟨g, o, none⟩) (l.take i) := fun j hj => by
                    have hj' : j < l.length := by rw [hlen] at hj; omega
                    obtain ⟨g2, o2, e2, q1, q2, q3⟩ := (HA1.out.below HBx.out) j hj'
                    refine ⟨g2, o2, e2, q1, ?_, ?_⟩
                    · rw [List.getElem_take]; exact q2
                    · rw [List.getElem_take]; exact q3
                  obtain ⟨b, hb⟩ : ∃ b, hitB (l.take i) r = b := ⟨_, rfl⟩
                  have hcon := containsR_any (some ⟨g, o, none⟩) cap (l.take i) r gb (by rw [hlen]; unfold maxLen; omega) (fun x hx => Hlm.out x (List.mem_of_mem_take hx)) (by unfold maxLen; omega) wx hAt (Hbox.out.below HBx.out hz1) (HBd.out.below HBx.out) b hb
                  rw [hlen] at hcon
                  have Hcon := Lib.hid hcon; have Hb := Lib.hid hb
                  have hic : (i : Int) ≤ (cap : Int) := by omega
                  clear hAt hcon hb hlen
                  cases b
                  all_goals
                    go_wp2_with (go_at_call 14; refine Hcon.out.mono ?_; rintro e w2 ⟨rfl, hB⟩; have HB2 := Lib.hid (below_seq (below_seq HB1.out HBx.out HB1.out.size) hB (below_seq HB1.out HBx.out HB1.out.size).size); clear hB)
                  · refine ⟨⟨i + 1, false, by omega, by simp, .inr ⟨rfl, rfl⟩, by rw [Hds.out, Hdup.out, Hb.out]; rfl, Hgood.out, HB2.out⟩, by simp [intOf]; omega⟩
                  · refine ⟨⟨i + 1, true, by omega, by simp, .inl ⟨rfl, rfl⟩, by rw [Hds.out, Hdup.out, Hb.out]; rfl, Hgood.out, HB2.out⟩, by simp [intOf]; omega⟩
          · have hd : decide ((i : Int) < (l.length : Int)) = false := by simp; omega
            have hii : i = l.length := by omega
            have Hpe := Lib.hid (progE_good Hz.out (fun j hj => Hall.out j hj (by omega)))
            obtain ⟨⟨d0, d1⟩, d2⟩ := Keep.out wr HBw.out
            have D2 := Lib.hid d2
            have hbuild := build26
            have hbuildb := build26b
            have Hd8 := Lib.hid (show dupT l l.length = d by rw [← hii]; exact Hdup.out)
            clear d2 hii
            rcases hu8 with ⟨rfl, rfl⟩ | ⟨rfl, rfl⟩
            · have Hp8 := Lib.hid (show 8 = progE l by rw [Hpe.out, if_pos Hd8.out])
              go_wp2_with fail
              exact EndE.out _ _ _ _ rfl rfl (D2.out.1 _) Hp8.out (by rw [← Hp8.out]; rfl) (D2.out.2 _)
            · by_cases h1000 : 1000 < l.length
              · have Hp8 := Lib.hid (show 9 = progE l by rw [Hpe.out, if_neg (by rw [Hd8.out]; simp), if_pos h1000])
                have q1 : decide ((1000 : Int) < (l.length : Int)) = true := decide_eq_true (by omega)
                go_wp2_with fail
                exact EndE.out _ _ _ _ rfl rfl (D2.out.1 _) Hp8.out (by rw [← Hp8.out]; rfl) (D2.out.2 _)
              · have Hp8 := Lib.hid (show 0 = progE l by rw [Hpe.out, if_neg (by rw [Hd8.out]; simp), if_neg h1000])
                have q1 : decide ((1000 : Int) < (l.length : Int)) = false := decide_eq_false (by omega)
                go_wp2_with fail
                exact EndE.out _ _ _ _ rfl rfl (D2.out.1 _) Hp8.out (by rw [← Hp8.out, Hn.out]; rfl) (D2.out.2 _)
      · go_wp2_with (go_at_call 11; refine (neg_any a cap l (by unfold maxLen; omega) Hlm.out _ HAw.out).mono ?_; rintro e w2 ⟨rfl, hB⟩; rw [Hn.out]; have HB2 := Lib.hid (HBw.out.trans (hB.mono HBw.out.size)); clear hB)
        go_step3
        go_wp2_with fail
        clear hd
        go_loopw [8, 30] (fun u8 u30 wr => ∃ (i : Nat) (d : Bool), i ≤ l.length ∧ u30 = .int .i64 i ∧ (d = true ∧ u8 = .int .i64 8 ∨ d = false ∧ u8 = .int .i64 0) ∧ dupT l i = d ∧ (∀ j (hj : j < l.length), j < i → badR (negs l) l[j] = false) ∧ Below W0.heap.size W0 wr) (fun _ u _ => l.length - (intOf u).toNat)
        case atStart => exact ⟨0, false, by omega, rfl, .inr ⟨rfl, rfl⟩, rfl, fun j _ h => by omega, HB2.out⟩
        case round =>
          clear HBw HB2 HAw hi
          obtain ⟨i, d, hi, rfl, hu8, hdup, hall, hBw⟩ := hrel
          have Hall := Lib.hid hall; have HBw := Lib.hid hBw; have Hdup := Lib.hid hdup
          clear hall hBw hdup
          by_cases hin : i < l.length
          · have hd : decide ((i : Int) < (l.length : Int)) = true := by simp; omega
            obtain ⟨g, o, rfl, hg, hc, hbd⟩ := HA.out i hin
            have hfx := (F.out _ (List.getElem_mem hin))
            have Hbad := Lib.hid (fun h => progE_bad (l := l) Hz.out hin h)
            have Hds := Lib.hid (dupT_succ hin)
            obtain ⟨r, hr⟩ : ∃ r, l[i] = r := ⟨_, rfl⟩
            rw [hr] at hc hbd hfx Hbad Hds
            have hBx := Hbl.out.trans (HBw.out.mono Hbl.out.size)
            have hB1 := below_alloc (w := wr) (.cells (ruC r).toArray 46)
            have Hld := Lib.hid (load_ru (hc.below hBx hg))
            have Hst := Lib.hid (store_ru wr r)
            have hbox := CellsAt.box wr (ruC r) 46
            have HBd := Lib.hid ((hbd.below hBx).below hB1)
            have HA1 := Lib.hid ((HA.out.below hBx).below hB1)
            have HB1 := Lib.hid (below_seq HBw.out hB1 HBw.out.size)
            have hz1 : wr.heap.size < (wr.alloc (.cells (ruC r).toArray 46)).heap.size := by simp
            have Hr := Lib.hid hr
            have hbl : r.body.length ≤ maxLen := hfx.2.2
            unfold maxLen at hbl
            have Hbox := Lib.hid hbox
            have hsz : (ruC r).length = 13 := rfl
            have h4 : (ruC r)[4]'(by rw [hsz]; omega) = .string r.head.b.var := rfl
            have h12 : (ruC r)[12]'(by rw [hsz]; omega) = .slice r.adr r.body.length r.cap := rfl
            have hem := empty_is r.head.b.var
            have hgt := decide_eq_true (show (0 : Int) ≤ (i : Int) by omega)
            clear hc hbd hfx hBx hB1 hr hg hbox
            by_cases hz : r.head.b.var.size = 0
            · rw [decide_eq_true hz] at hem
              have Hzh := Lib.hid hz
              clear hz
              rcases hu8 with ⟨rfl, rfl⟩ | ⟨rfl, rfl⟩
              · go_wp2_with (first
                   | (with_reducible refine wpList_load_is rfl 46 (Operand.tmp 33) rfl ⟨g, o + i * 13, none⟩ rfl (ruV r) Hld.out ?_)
                   | (with_reducible refine wpList_store_is rfl 46 (Operand.tmp 10) (Operand.tmp 34) rfl ⟨wr.heap.size, 0, none⟩ rfl (ruV r) rfl _ Hst.out ?_))
                generalize wr.alloc (.cells (ruC r).toArray 46) = W1 at *
                generalize wr.heap.size = gb at *
                clear Hld Hst h4 h12 HBw hsz hem
                go_loopw [8, 46] (fun u8 u wx => ∃ k : Nat, u8 = .int .i64 8 ∧ k ≤ r.body.length ∧ u = .int .i64 k ∧ (∀ j (hj : j < r.body.length), j < k → r.body[j].kind = 2 → r.body[j].pat.b.var.size = 0) ∧ Below W1.heap.size W1 wx) (fun _ u _ => r.body.length - (intOf u).toNat)
                case atStart => exact ⟨0, rfl, by omega, rfl, fun j _ h => by omega, Below.refl _ _⟩
                case round =>
                  rename World => wx
                  obtain ⟨k, rfl, hk, rfl, hall, hBw⟩ := hrel
                  have Hall2 := Lib.hid hall; have HBx := Lib.hid hBw; clear hall hBw
                  by_cases hin2 : k < r.body.length
                  · have hd2 : decide ((k : Int) < (r.body.length : Int)) = true := by simp; omega
                    obtain ⟨g', o', hadr, hg', hc'⟩ := HBd.out k hin2
                    rw [hadr]
                    obtain ⟨x, hx⟩ : ∃ x, r.body[k] = x := ⟨_, rfl⟩
                    rw [hx] at hc'
                    have Hld := Lib.hid (load_paW (hc'.below HBx.out hg'))
                    have Hst := Lib.hid (store_pa wx x)
                    have hsz : (paC x).length = 21 := rfl
                    have hk0 : (paC x)[0]'(by rw [hsz]; omega) = .int .i64 x.kind := rfl
                    have hk5 : (paC x)[5]'(by rw [hsz]; omega) = .string x.pat.b.var := rfl
                    have hem := empty_is x.pat.b.var
                    have HB2 := Lib.hid (below_seq HBx.out (below_alloc (w := wx) (.cells (paC x).toArray 43)) HBx.out.size)
                    have Hx := Lib.hid hx
                    clear hc' hx hadr
                    by_cases h2 : x.kind = 2
                    · have e1 : (x.kind == 2) = true := beq_iff_eq.2 h2
                      by_cases hz : x.pat.b.var.size = 0
                      · rw [decide_eq_true hz] at hem
                        have Hz0' := Lib.hid hz
                        clear hz h2
                        go_wp2_with (first
                      | (with_reducible refine wpList_load_is rfl 43 (Operand.tmp 48) rfl ⟨g', o' + k * 21, none⟩ rfl (paW x) Hld.out ?_)
                      | (with_reducible refine wpList_store_is rfl 43 (Operand.tmp 12) (Operand.tmp 49) rfl ⟨wx.heap.size, 0, none⟩ rfl (paW x) rfl _ Hst.out ?_))
                        refine ⟨⟨k + 1, rfl, by omega, by simp, fun j hj hjk hk2 => ?_, HB2.out⟩, by simp [intOf]; omega⟩
                        rcases Nat.lt_or_ge j k with h' | h'
                        · exact Hall2.out j hj h' hk2
                        · obtain rfl : j = k := by omega
                          rw [Hx.out]; exact Hz0'.out
                      · rw [decide_eq_false hz] at hem
                        have Hp5 := Lib.hid (Hbad.out (badR_part hin2 (by rw [Hx.out]; exact h2) (by rw [Hx.out]; exact hz)))
                        have hBt := below_seq HB1.out HB2.out HB1.out.size
                        obtain ⟨⟨d0, d1⟩, d2⟩ := Keep.out _ hBt
                        have D2 := Lib.hid d2
                        have hbuild := build26
                        clear d2 hBt hz h2
                        go_wp2_with (first
                      | (with_reducible refine wpList_load_is rfl 43 (Operand.tmp 48) rfl ⟨g', o' + k * 21, none⟩ rfl (paW x) Hld.out ?_)
                      | (with_reducible refine wpList_store_is rfl 43 (Operand.tmp 12) (Operand.tmp 49) rfl ⟨wx.heap.size, 0, none⟩ rfl (paW x) rfl _ Hst.out ?_))
                        exact EndE.out _ _ _ _ rfl rfl (D2.out.1 _) Hp5.out (by rw [← Hp5.out]; rfl) (D2.out.2 _)
                    · have e1 : (x.kind == 2) = false := beq_eq_false_iff_ne.2 h2
                      have H2 := Lib.hid h2; clear h2
                      go_wp2_with (first
                      | (with_reducible refine wpList_load_is rfl 43 (Operand.tmp 48) rfl ⟨g', o' + k * 21, none⟩ rfl (paW x) Hld.out ?_)
                      | (with_reducible refine wpList_store_is rfl 43 (Operand.tmp 12) (Operand.tmp 49) rfl ⟨wx.heap.size, 0, none⟩ rfl (paW x) rfl _ Hst.out ?_))
                      refine ⟨⟨k + 1, rfl, by omega, by simp, fun j hj hjk hk2 => ?_, HB2.out⟩, by simp [intOf]; omega⟩
                      rcases Nat.lt_or_ge j k with h' | h'
                      · exact Hall2.out j hj h' hk2
                      · obtain rfl : j = k := by omega
                        rw [Hx.out] at hk2
                        exact absurd hk2 H2.out
                  · have hd2 : decide ((k : Int) < (r.body.length : Int)) = false := by simp; omega
                    have Hgood := Lib.hid (show ∀ j (hj : j < l.length), j < i + 1 → badR (negs l) l[j] = false from fun j hj hji => by
                      rcases Nat.lt_or_ge j i with h' | h'
                      · exact Hall.out j hj h'
                      · obtain rfl : j = i := by omega
                        rw [Hr.out]
                        exact badR_no (fun hh => Hzh.out) (fun k' hk' h2' => Hall2.out k' hk' (by omega) h2'))
                    go_wp2_with fail
                    refine ⟨⟨i + 1, true, by omega, by simp, .inl ⟨rfl, rfl⟩, by rw [Hds.out, Hdup.out]; rfl, Hgood.out, below_seq HB1.out HBx.out HB1.out.size⟩, by simp [intOf]; omega⟩
              · go_wp2_with (first
                   | (with_reducible refine wpList_load_is rfl 46 (Operand.tmp 33) rfl ⟨g, o + i * 13, none⟩ rfl (ruV r) Hld.out ?_)
                   | (with_reducible refine wpList_store_is rfl 46 (Operand.tmp 10) (Operand.tmp 34) rfl ⟨wr.heap.size, 0, none⟩ rfl (ruV r) rfl _ Hst.out ?_))
                generalize wr.alloc (.cells (ruC r).toArray 46) = W1 at *
                generalize wr.heap.size = gb at *
                clear Hld Hst h4 h12 HBw hsz hem
                go_loopw [8, 46] (fun u8 u wx => ∃ k : Nat, u8 = .int .i64 0 ∧ k ≤ r.body.length ∧ u = .int .i64 k ∧ (∀ j (hj : j < r.body.length), j < k → r.body[j].kind = 2 → r.body[j].pat.b.var.size = 0) ∧ Below W1.heap.size W1 wx) (fun _ u _ => r.body.length - (intOf u).toNat)
                case atStart => exact ⟨0, rfl, by omega, rfl, fun j _ h => by omega, Below.refl _ _⟩
                case round =>
                  rename World => wx
                  obtain ⟨k, rfl, hk, rfl, hall, hBw⟩ := hrel
                  have Hall2 := Lib.hid hall; have HBx := Lib.hid hBw; clear hall hBw
                  by_cases hin2 : k < r.body.length
                  · have hd2 : decide ((k : Int) < (r.body.length : Int)) = true := by simp; omega
                    obtain ⟨g', o', hadr, hg', hc'⟩ := HBd.out k hin2
                    rw [hadr]
                    obtain ⟨x, hx⟩ : ∃ x, r.body[k] = x := ⟨_, rfl⟩
                    rw [hx] at hc'
                    have Hld := Lib.hid (load_paW (hc'.below HBx.out hg'))
                    have Hst := Lib.hid (store_pa wx x)
                    have hsz : (paC x).length = 21 := rfl
                    have hk0 : (paC x)[0]'(by rw [hsz]; omega) = .int .i64 x.kind := rfl
                    have hk5 : (paC x)[5]'(by rw [hsz]; omega) = .string x.pat.b.var := rfl
                    have hem := empty_is x.pat.b.var
                    have HB2 := Lib.hid (below_seq HBx.out (below_alloc (w := wx) (.cells (paC x).toArray 43)) HBx.out.size)
                    have Hx := Lib.hid hx
                    clear hc' hx hadr
                    by_cases h2 : x.kind = 2
                    · have e1 : (x.kind == 2) = true := beq_iff_eq.2 h2
                      by_cases hz : x.pat.b.var.size = 0
                      · rw [decide_eq_true hz] at hem
                        have Hz0' := Lib.hid hz
                        clear hz h2
                        go_wp2_with (first
                      | (with_reducible refine wpList_load_is rfl 43 (Operand.tmp 48) rfl ⟨g', o' + k * 21, none⟩ rfl (paW x) Hld.out ?_)
                      | (with_reducible refine wpList_store_is rfl 43 (Operand.tmp 12) (Operand.tmp 49) rfl ⟨wx.heap.size, 0, none⟩ rfl (paW x) rfl _ Hst.out ?_))
                        refine ⟨⟨k + 1, rfl, by omega, by simp, fun j hj hjk hk2 => ?_, HB2.out⟩, by simp [intOf]; omega⟩
                        rcases Nat.lt_or_ge j k with h' | h'
                        · exact Hall2.out j hj h' hk2
                        · obtain rfl : j = k := by omega
                          rw [Hx.out]; exact Hz0'.out
                      · rw [decide_eq_false hz] at hem
                        have Hp5 := Lib.hid (Hbad.out (badR_part hin2 (by rw [Hx.out]; exact h2) (by rw [Hx.out]; exact hz)))
                        have hBt := below_seq HB1.out HB2.out HB1.out.size
                        obtain ⟨⟨d0, d1⟩, d2⟩ := Keep.out _ hBt
                        have D2 := Lib.hid d2
                        have hbuild := build26
                        clear d2 hBt hz h2
                        go_wp2_with (first
                      | (with_reducible refine wpList_load_is rfl 43 (Operand.tmp 48) rfl ⟨g', o' + k * 21, none⟩ rfl (paW x) Hld.out ?_)
                      | (with_reducible refine wpList_store_is rfl 43 (Operand.tmp 12) (Operand.tmp 49) rfl ⟨wx.heap.size, 0, none⟩ rfl (paW x) rfl _ Hst.out ?_))
                        exact EndE.out _ _ _ _ rfl rfl (D2.out.1 _) Hp5.out (by rw [← Hp5.out]; rfl) (D2.out.2 _)
                    · have e1 : (x.kind == 2) = false := beq_eq_false_iff_ne.2 h2
                      have H2 := Lib.hid h2; clear h2
                      go_wp2_with (first
                      | (with_reducible refine wpList_load_is rfl 43 (Operand.tmp 48) rfl ⟨g', o' + k * 21, none⟩ rfl (paW x) Hld.out ?_)
                      | (with_reducible refine wpList_store_is rfl 43 (Operand.tmp 12) (Operand.tmp 49) rfl ⟨wx.heap.size, 0, none⟩ rfl (paW x) rfl _ Hst.out ?_))
                      refine ⟨⟨k + 1, rfl, by omega, by simp, fun j hj hjk hk2 => ?_, HB2.out⟩, by simp [intOf]; omega⟩
                      rcases Nat.lt_or_ge j k with h' | h'
                      · exact Hall2.out j hj h' hk2
                      · obtain rfl : j = k := by omega
                        rw [Hx.out] at hk2
                        exact absurd hk2 H2.out
                  · have hd2 : decide ((k : Int) < (r.body.length : Int)) = false := by simp; omega
                    have Hgood := Lib.hid (show ∀ j (hj : j < l.length), j < i + 1 → badR (negs l) l[j] = false from fun j hj hji => by
                      rcases Nat.lt_or_ge j i with h' | h'
                      · exact Hall.out j hj h'
                      · obtain rfl : j = i := by omega
                        rw [Hr.out]
                        exact badR_no (fun hh => Hzh.out) (fun k' hk' h2' => Hall2.out k' hk' (by omega) h2'))
                    have hlen : (l.take i).length = i := by rw [List.length_take]; omega
                    have hAt : RusAt wx (some ⟨g, o, none⟩) (l.take i) := fun j hj => by
                      have hj' : j < l.length := by rw [hlen] at hj; omega
                      obtain ⟨g2, o2, e2, q1, q2, q3⟩ := (HA1.out.below HBx.out) j hj'
                      refine ⟨g2, o2, e2, q1, ?_, ?_⟩
                      · rw [List.getElem_take]; exact q2
                      · rw [List.getElem_take]; exact q3
                    obtain ⟨b, hb⟩ : ∃ b, hitB (l.take i) r = b := ⟨_, rfl⟩
                    have hcon := containsR_any (some ⟨g, o, none⟩) cap (l.take i) r gb (by rw [hlen]; unfold maxLen; omega) (fun x hx => Hlm.out x (List.mem_of_mem_take hx)) (by unfold maxLen; omega) wx hAt (Hbox.out.below HBx.out hz1) (HBd.out.below HBx.out) b hb
                    rw [hlen] at hcon
                    have Hcon := Lib.hid hcon; have Hb := Lib.hid hb
                    have hic : (i : Int) ≤ (cap : Int) := by omega
                    clear hAt hcon hb hlen
                    cases b
                    all_goals
                      go_wp2_with (go_at_call 14; refine Hcon.out.mono ?_; rintro e w2 ⟨rfl, hB⟩; have HB2 := Lib.hid (below_seq (below_seq HB1.out HBx.out HB1.out.size) hB (below_seq HB1.out HBx.out HB1.out.size).size); clear hB)
                    · refine ⟨⟨i + 1, false, by omega, by simp, .inr ⟨rfl, rfl⟩, by rw [Hds.out, Hdup.out, Hb.out]; rfl, Hgood.out, HB2.out⟩, by simp [intOf]; omega⟩
                    · refine ⟨⟨i + 1, true, by omega, by simp, .inl ⟨rfl, rfl⟩, by rw [Hds.out, Hdup.out, Hb.out]; rfl, Hgood.out, HB2.out⟩, by simp [intOf]; omega⟩
            · rw [decide_eq_false hz] at hem
              have Hp5 := Lib.hid (Hbad.out (badR_head Hn.out hz))
              obtain ⟨⟨d0, d1⟩, d2⟩ := Keep.out _ HB1.out
              have D2 := Lib.hid d2
              have hbuild := build26
              clear d2 hz
              rcases hu8 with ⟨rfl, rfl⟩ | ⟨rfl, rfl⟩
              all_goals
                go_wp2_with (first
                 | (with_reducible refine wpList_load_is rfl 46 (Operand.tmp 33) rfl ⟨g, o + i * 13, none⟩ rfl (ruV r) Hld.out ?_)
                 | (with_reducible refine wpList_store_is rfl 46 (Operand.tmp 10) (Operand.tmp 34) rfl ⟨wr.heap.size, 0, none⟩ rfl (ruV r) rfl _ Hst.out ?_))
                exact EndE.out _ _ _ _ rfl rfl (D2.out.1 _) Hp5.out (by rw [← Hp5.out]; rfl) (D2.out.2 _)
          · have hd : decide ((i : Int) < (l.length : Int)) = false := by simp; omega
            have hii : i = l.length := by omega
            have Hpe := Lib.hid (progE_good Hz.out (fun j hj => Hall.out j hj (by omega)))
            obtain ⟨⟨d0, d1⟩, d2⟩ := Keep.out wr HBw.out
            have D2 := Lib.hid d2
            have hbuild := build26
            have hbuildb := build26b
            have Hd8 := Lib.hid (show dupT l l.length = d by rw [← hii]; exact Hdup.out)
            clear d2 hii
            rcases hu8 with ⟨rfl, rfl⟩ | ⟨rfl, rfl⟩
            · have Hp8 := Lib.hid (show 8 = progE l by rw [Hpe.out, if_pos Hd8.out])
              go_wp2_with fail
              exact EndE.out _ _ _ _ rfl rfl (D2.out.1 _) Hp8.out (by rw [← Hp8.out]; rfl) (D2.out.2 _)
            · by_cases h1000 : 1000 < l.length
              · have Hp8 := Lib.hid (show 9 = progE l by rw [Hpe.out, if_neg (by rw [Hd8.out]; simp), if_pos h1000])
                have q1 : decide ((1000 : Int) < (l.length : Int)) = true := decide_eq_true (by omega)
                go_wp2_with fail
                exact EndE.out _ _ _ _ rfl rfl (D2.out.1 _) Hp8.out (by rw [← Hp8.out]; rfl) (D2.out.2 _)
              · have Hp8 := Lib.hid (show 0 = progE l by rw [Hpe.out, if_neg (by rw [Hd8.out]; simp), if_neg h1000])
                have q1 : decide ((1000 : Int) < (l.length : Int)) = false := decide_eq_false (by omega)
                go_wp2_with fail
                exact EndE.out _ _ _ _ rfl rfl (D2.out.1 _) Hp8.out (by rw [← Hp8.out, Hn.out]; rfl) (D2.out.2 _)
end Go.Proofs.YtmgaibeibfholaaDoor
