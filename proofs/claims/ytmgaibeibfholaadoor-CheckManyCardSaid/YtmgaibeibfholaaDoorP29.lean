/- The reference's Rule: walked. -/
import Derived.Test.YtmgaibeibfholaaDoorP28
namespace Go.Proofs.YtmgaibeibfholaaDoor
set_option maxRecDepth 100000
open Go.RowKit Go.Shelf Go.Maps Plain
set_option linter.unusedVariables false
set_option linter.unusedSimpArgs false

theorem gv1_yes {l : Pa} (h : l.kind = 1) : gv1 l = l.pat.ss.map (·.var) := by unfold gv1; rw [if_pos h]
theorem gv1_no {l : Pa} (h : l.kind ≠ 1) : gv1 l = [] := by unfold gv1; rw [if_neg h]
set_option maxRecDepth 100000 in
set_option maxHeartbeats 4000000 in
theorem rruleE_any (r : Ru) (h : fitRRu r) (w : World) (hB : BodAt w r.adr r.body) :
    Calls Tryd.prog 17 #[ruV r] w fun e w' => e = .returned (.int .i64 (ruleE r)) ∧ Below w.heap.size w w' := by
  have Hf := Lib.hid h; have HBd := Lib.hid hB
  clear h hB
  obtain ⟨c, hc⟩ : ∃ c, mayRu r = c := ⟨_, rfl⟩
  have Hc := Lib.hid hc; clear hc
  have hsz : (ruC r).length = 13 := rfl
  have hbl := below_alloc (w := w) (.cells (ruC r).toArray 46)
  have hbox := CellsAt.box w (ruC r) 46
  have Hld := Lib.hid (load_ru hbox)
  have HBd0 := Lib.hid (HBd.out.below hbl)
  have Hbox := Lib.hid hbox; have Hbl := Lib.hid hbl
  clear hbox hbl
  obtain ⟨j0, hj0, hj1, hj2, hj3⟩ := info_parts Tryd.infoStP
  have J0 := Lib.hid hj0; have J1 := Lib.hid hj1; have J2 := Lib.hid hj2; have J3 := Lib.hid hj3
  clear hj0 hj1 hj2 hj3
  have h64 : c = true → r.body.length ≤ 64 := fun hh => by
    have := Hc.out
    rw [hh] at this
    unfold mayRu at this
    simp only [Bool.and_eq_true, decide_eq_true_iff] at this
    exact this.2.1
  have H64 := Lib.hid h64; clear h64
  show Calls _ _ #[.agg (ruC r).toArray] _ _
  go_enter Tryd.func17, Tryd.ntmps17
  go_wp2_with (with_reducible refine wpList_load_is rfl 46 (Operand.tmp 1) rfl ⟨w.heap.size, 0, none⟩ rfl (ruV r) Hld.out ?_)
  refine (rru_any r Hf.out _ HBd0.out _ Hc.out).mono ?_
  rintro e w1 ⟨rfl, hB1⟩
  have hbox1 := Hbox.out.below hB1 (by simp)
  have hb1 := below_box hB1
  have hz1 : w.heap.size + 1 ≤ w1.heap.size := by have := hB1.size; simp at this; omega
  have Hbox1 := Lib.hid hbox1; have Hb1 := Lib.hid hb1; have Hz1 := Lib.hid hz1
  clear hB1 hbox1 hb1 hz1 Hld HBd0 Hbox Hbl hsz
  cases c
  · have Hn := Lib.hid (show 2 = ruleE r by unfold ruleE; rw [Hc.out]; rfl)
    go_wp2_with fail
    go_ret
    exact ⟨retI Hn.out, Hb1.out⟩
  · have hL := H64.out rfl
    go_wp2_with fail
    go_loopw [3, 4] (fun u3 u4 wr => ∃ (k : Nat) (cap : Nat) (a : Option Addr), k ≤ r.body.length ∧ u4 = .int .i64 k ∧ u3 = .slice a (givL (r.body.take k)).length cap ∧
        wr.ownsRow w1.heap.size 9 1 (.slice a (givL (r.body.take k)).length cap) (givL (r.body.take k)).length ((givL (r.body.take k)).map Value.string) ∧ Below w1.heap.size w1 wr) (fun _ u _ => r.body.length - (intOf u).toNat)
    case atStart => exact ⟨0, 0, none, by omega, rfl, rfl, World.ownsRow_nil _ _ _ _, Below.refl _ _⟩
    case round =>
      obtain ⟨k, cap, a, hk, rfl, rfl, hO, hBw⟩ := hrel
      have HO := Lib.hid hO; have HBw := Lib.hid hBw
      clear hO hBw
      have hcb := (Hbox1.out.below HBw.out (by have := Hz1.out; omega)).body
      simp only [Nat.zero_add] at hcb
      by_cases hin : k < r.body.length
      · have hd : decide ((k : Int) < (r.body.length : Int)) = true := by simp; omega
        obtain ⟨g, o, hadr, hg, hc⟩ := HBd.out k hin
        have hBx := Hb1.out.trans (HBw.out.mono Hb1.out.size)
        have hcx := hc.below hBx hg
        have Htk := Lib.hid (givL_take hin)
        have hgl : (givL (r.body.take k)).length ≤ 3 * k := by have := givL_length (r.body.take k); rw [List.length_take, Nat.min_eq_left hk] at this; exact this
        obtain ⟨x, hx⟩ : ∃ x, r.body[k] = x := ⟨_, rfl⟩
        rw [hx] at hcx Htk
        obtain ⟨G, hG⟩ : ∃ G, givL (r.body.take k) = G := ⟨_, rfl⟩
        rw [hG] at HO Htk hgl
        rw [hG]
        rw [hadr] at hcb
        have hck : wr.cell? ⟨g, o + k * 21, none⟩ = some (.int .i64 x.kind) := hcx 0 _ rfl
        have Hcx := Lib.hid hcx; have Hadr := Lib.hid hadr; have Hgw := Lib.hid hg
        clear hc hBx hcx hx hG hadr hg
        by_cases hk1 : x.kind = 1
        · have e1 : (x.kind == 1) = true := beq_iff_eq.2 hk1
          have e1' : (x.kind != 1) = false := by rw [bne, e1]; rfl
          have Hg1 := Lib.hid (gv1_yes hk1)
          clear hk1
          go_wp2_with fail
          rename World => W3
          clear hcb hck
          go_loopw [3, 5] (fun u3 u5 wr => ∃ (j : Nat) (cap : Nat) (a : Option Addr), j ≤ 3 ∧ u5 = .int .i64 j ∧ u3 = .slice a (G ++ (x.pat.ss.map (·.var)).take j).length cap ∧
              wr.ownsRow w1.heap.size 9 1 (.slice a (G ++ (x.pat.ss.map (·.var)).take j).length cap) (G ++ (x.pat.ss.map (·.var)).take j).length ((G ++ (x.pat.ss.map (·.var)).take j).map Value.string) ∧ Below w1.heap.size w1 wr) (fun _ u _ => 3 - (intOf u).toNat)
          case atStart => exact ⟨0, cap, a, by omega, rfl, by simp, by simpa using HO.out, HBw.out⟩
          case round =>
            obtain ⟨j, cap2, a2, hj, rfl, rfl, hO, hBw⟩ := hrel
            have HO2 := Lib.hid hO; have HBw2 := Lib.hid hBw
            clear hO hBw
            have hcb := (Hbox1.out.below HBw2.out (by have := Hz1.out; omega)).body
            simp only [Nat.zero_add] at hcb
            rw [Hadr.out] at hcb
            by_cases hin2 : j < 3
            · have hd2 : decide ((j : Int) < 3) = true := by simp; omega
              obtain ⟨g', o', hadr', _, hc'⟩ := HBd.out k hin
              have hcy : CellsAt wr g (o + k * 21) (paC x) := fun i v hv => by
                have h1 := Hcx.out i v hv
                have h2 := (HBw.out.cell (p := ⟨g, o + k * 21 + i, none⟩) (Nat.lt_of_lt_of_le Hgw.out Hb1.out.size))
                have h3 := (HBw2.out.cell (p := ⟨g, o + k * 21 + i, none⟩) (Nat.lt_of_lt_of_le Hgw.out Hb1.out.size))
                exact (h3.trans h2.symm).trans h1
              have hjl : j < x.pat.ss.length := hin2
              have hcv := pat_var hcy hjl
              obtain ⟨v, hv⟩ : ∃ v, (x.pat.ss[j]).var = v := ⟨_, rfl⟩
              rw [hv] at hcv
              have Hnx := Lib.hid (show G ++ (x.pat.ss.map (·.var)).take (j + 1) = (G ++ (x.pat.ss.map (·.var)).take j) ++ [v] by
                rw [List.take_succ_eq_append_getElem (by simpa using hjl), ← List.append_assoc]; simp [hv])
              obtain ⟨G2, hG2⟩ : ∃ G2, G ++ (x.pat.ss.map (·.var)).take j = G2 := ⟨_, rfl⟩
              rw [hG2] at HO2 Hnx
              rw [hG2]
              have hg2 : G2.length ≤ 3 * k + 3 := by rw [← hG2, List.length_append, List.length_take]; omega
              clear hadr' hc' hcy hv hG2
              have hnew := (CellsAt.box wr [.string v] 9).at'
              have hB1 := below_alloc (w := wr) (.cells #[.string v] 9)
              have hz1 : w1.heap.size ≤ (wr.alloc (.cells #[.string v] 9)).heap.size := by have := HBw2.out.size; simp; omega
              have HBn := Lib.hid (HBw2.out.trans (hB1.mono HBw2.out.size))
              have Hnew := Lib.hid hnew; have Hz2 := Lib.hid hz1
              have HOn := Lib.hid (HO2.out.alloc (.cells #[.string v] 9))
              clear hnew hB1 hz1
              go_wp2_with (at_builtin; refine wpList_append_own _ rfl _ _ 61 rfl w1.heap.size 9 j0 _ 1 16 Tryd.underlying61 J0.out J1.out J2.out J3.out rfl (by decide) _ _ _ rfl HOn.out ⟨wr.heap.size, 0, none⟩ 1 1 [.string v] rfl rfl Hnew.out (by simp [Value.oneCell']) (by unfold maxLen; omega) (by omega) Hz2.out ?_; intro v' w3 hown' hgrow _; obtain ⟨a', cap', rfl⟩ := row_form hown'; have Hown' := Lib.hid hown'; have Hgrow := Lib.hid hgrow; clear hown' hgrow)
              refine ⟨⟨j + 1, cap', a', by omega, by simp, by rw [Hnx.out, List.length_append]; rfl, ?_, row_below HBn.out HOn.out Hgrow.out (Nat.le_refl _) Hz2.out⟩, by simp [intOf]; omega⟩
              rw [Hnx.out, List.length_append, List.map_append]
              exact Hown'.out
            · have hd2 : decide ((j : Int) < 3) = false := by simp; omega
              have Hfull := Lib.hid (show givL (r.body.take (k + 1)) = G ++ (x.pat.ss.map (·.var)).take j by rw [Htk.out, Hg1.out, List.take_of_length_le (by simp [Pn.ss]; omega)])
              go_wp2_with fail
              exact ⟨⟨k + 1, cap2, a2, by omega, by simp, by rw [Hfull.out], by rw [Hfull.out]; exact HO2.out, HBw2.out⟩, by simp [intOf]; omega⟩
        · have e1 : (x.kind == 1) = false := beq_eq_false_iff_ne.2 hk1
          have e1' : (x.kind != 1) = true := by rw [bne, e1]; rfl
          have Hg1 := Lib.hid (show givL (r.body.take (k + 1)) = G by rw [Htk.out, gv1_no hk1, List.append_nil])
          clear hk1
          go_wp2_with fail
          exact ⟨⟨k + 1, cap, a, by omega, by simp, by rw [Hg1.out], by rw [Hg1.out]; exact HO.out, HBw.out⟩, by simp [intOf]; omega⟩
      · have hd : decide ((k : Int) < (r.body.length : Int)) = false := by simp; omega
        have hfull : givL (r.body.take k) = givL r.body := by rw [List.take_of_length_le (by omega)]
        have hO := HO.out
        rw [hfull] at hO
        rw [hfull]
        obtain ⟨G, hG⟩ : ∃ G, givL r.body = G := ⟨_, rfl⟩
        have hgl := givL_length r.body
        rw [hG] at hO hgl
        rw [hG]
        have Hst := Lib.hid (row_strs hO)
        have Hld2 := Lib.hid (load_ru (Hbox1.out.below HBw.out (by have := Hz1.out; omega)))
        have HBd2 := Lib.hid (HBd.out.below (Hb1.out.trans (HBw.out.mono Hb1.out.size)))
        have HG := Lib.hid hG
        clear hfull hO HO hG
        go_wp2_with (first
          | (with_reducible refine wpList_load_is rfl 46 (Operand.tmp 1) rfl ⟨w.heap.size, 0, none⟩ rfl (ruV r) Hld2.out ?_)
          | (go_at_call 24; refine (rvars_any r (by omega) _ HBd2.out).mono ?_; rintro e w2 ⟨v, rfl, hv, hB2⟩; obtain ⟨a2, cap2, rfl⟩ := row_form hv; have Hst2 := Lib.hid (row_strs hv); have HB2 := Lib.hid hB2; have Hst' := Lib.hid (Hst.out.below hB2); clear hv hB2))
        have hvl := varsL_length (allR r)
        have hal : (allR r).length ≤ 3 + 3 * r.body.length := by
          unfold allR
          rw [List.length_append]
          have : ∀ L : List Pa, (L.flatMap slR).length ≤ 3 * L.length := by
            intro L
            induction L with
            | nil => simp
            | cons a L ih => rw [List.flatMap_cons, List.length_append]; have := slR_length a; rw [List.length_cons]; omega
          have := this r.body
          have h3 : r.head.ss.length = 3 := rfl
          omega
        have Hyes := Lib.hid (ruleE_yes Hc.out)
        have Hno := Lib.hid (fun j hj => ruleE_no (r := r) Hc.out (j := j) hj)
        simp only [HG.out] at Hyes Hno
        generalize varsL (allR r) = V at *
        go_loop [7] (fun u => ∃ j : Nat, j ≤ V.length ∧ u = .int .i64 j ∧ ∀ i (hi : i < V.length), i < j → memB G V[i] = true) (fun u => V.length - (intOf u).toNat)
        case atStart => exact ⟨0, by omega, rfl, fun i _ h => by omega⟩
        case round =>
          obtain ⟨j, hj, rfl, hall⟩ := hrel
          have Hall := Lib.hid hall; clear hall
          by_cases hin2 : j < V.length
          · have hd2 : decide ((j : Int) < (V.length : Int)) = true := by simp; omega
            obtain ⟨g, o, rfl, _, hcv⟩ := Hst2.out j hin2
            obtain ⟨b, hb⟩ : ∃ b, memB G V[j] = b := ⟨_, rfl⟩
            have Hb := Lib.hid hb
            clear hb
            cases b
            · have Hn := Lib.hid (Hno.out j hin2 Hb.out)
              go_wp2_with (go_at_call 25; refine (in_any a cap G V[j] (by unfold maxLen; omega) _ Hst'.out).mono ?_; rintro e w2 ⟨rfl, rfl⟩; rw [Hb.out])
              go_ret
              exact ⟨retI Hn.out, below_seq (below_seq Hb1.out HBw.out Hb1.out.size) HB2.out (below_seq Hb1.out HBw.out Hb1.out.size).size⟩
            · go_wp2_with (go_at_call 25; refine (in_any a cap G V[j] (by unfold maxLen; omega) _ Hst'.out).mono ?_; rintro e w2 ⟨rfl, rfl⟩; rw [Hb.out])
              refine ⟨⟨j + 1, by omega, by simp, fun i hi hij => ?_⟩, by simp [intOf]; omega⟩
              rcases Nat.lt_or_ge i j with h' | h'
              · exact Hall.out i hi h'
              · obtain rfl : i = j := by omega
                exact Hb.out
          · have hd2 : decide ((j : Int) < (V.length : Int)) = false := by simp; omega
            have Hn := Lib.hid (Hyes.out (fun i hi => Hall.out i hi (by omega)))
            go_wp2_with fail
            go_ret
            exact ⟨retI Hn.out, below_seq (below_seq Hb1.out HBw.out Hb1.out.size) HB2.out (below_seq Hb1.out HBw.out Hb1.out.size).size⟩
end Go.Proofs.YtmgaibeibfholaaDoor
