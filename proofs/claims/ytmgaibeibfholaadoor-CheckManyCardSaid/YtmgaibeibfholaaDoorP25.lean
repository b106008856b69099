/- May a rule be, and is it safe: walked. -/
import Derived.Test.YtmgaibeibfholaaDoorP24
namespace Go.Proofs.YtmgaibeibfholaaDoor
set_option maxRecDepth 100000
open Go.RowKit Go.Shelf Go.Maps Plain
set_option linter.unusedVariables false
set_option linter.unusedSimpArgs false
attribute [local go_sem] Oper.semAt_some

/-- the world between two rounds of the first loop -/
structure GW (w W3 : World) (m : Nat) (r : Ru) (pre : List (Int × So)) (W : World) : Prop where
  k : KpC W3 W
  m : MapAt sv sok W m (gF r pre)
  b : Below w.heap.size w W
/-- .. of the second loop -/
structure GS (w V5 : World) (m D1 : Nat) (r : Ru) (pre : List (Int × So)) (W : World) : Prop where
  k : KpC V5 W
  m : MapAt sv sok W m (gF r (plS r))
  b : Below w.heap.size w W
  d : W.heap[D1]? = some (.deferred (some []))
  ok : ∀ x ∈ pre, x.2.var.size = 0 ∨ gPre r (plS r) x.2.var
theorem GS.grow {w V5 : World} {m D1 : Nat} {r : Ru} {pre : List (Int × So)} {A B : World} (h : GS w V5 m D1 r pre A) (hb : Below A.heap.size A B) : GS w V5 m D1 r pre B :=
  ⟨h.k.t (KpC.g hb), h.m.stay (hb.block _ h.m.lt), h.b.trans (hb.mono h.b.size), (hb.block _ (lt_of_heap h.d)).trans h.d, h.ok⟩
theorem GS.put {w V5 : World} {m D1 : Nat} {r : Ru} {pre : List (Int × So)} {W : World} {l : Nat} {o o' : Obj} (h : GS w V5 m D1 r pre W) (hm : m < l) (hd : D1 < l) (hw : w.heap.size ≤ l) (hl : W.heap[l]? = some o) (ho : o.isCells = false) : GS w V5 m D1 r pre (W.putObj l o') :=
  ⟨h.k.t (KpC.b W l o o' hl ho), h.m.stay (World.putObj_heap_other (by omega)), h.b.trans ((Below.refl w.heap.size W).grown (grownBy_putObj' W l o') (by have := lt_of_heap hl; omega) (fun k e => by cases e; omega)),
    (World.putObj_heap_other (by omega)).trans h.d, h.ok⟩
/-- .. where it ended -/
structure GX (w : World) (nb D1 : Nat) (r : Ru) (c : Code) (pre : List (Int × So)) (W : World) : Prop where
  c : c = .ret
  bad : ∃ x ∈ pre, x.2.var.size ≠ 0 ∧ ¬ gPre r (plS r) x.2.var
  res : W.heap[nb + 1]? = some (.cells #[.int .i64 5] 27 (0, 0))
  b : Below w.heap.size w W
  d : W.heap[D1]? = some (.deferred (some []))
theorem GX.put {w : World} {nb D1 : Nat} {r : Ru} {c : Code} {pre : List (Int × So)} {W : World} {l : Nat} {o o' : Obj} (h : GX w nb D1 r c pre W) (hn : nb + 1 < l) (hd : D1 < l) (hw : w.heap.size ≤ l) (hl : W.heap[l]? = some o) : GX w nb D1 r c pre (W.putObj l o') :=
  ⟨h.c, h.bad, (World.putObj_heap_other (by omega)).trans h.res, h.b.trans ((Below.refl w.heap.size W).grown (grownBy_putObj' W l o') (by have := lt_of_heap hl; omega) (fun k e => by cases e; omega)), (World.putObj_heap_other (by omega)).trans h.d⟩
theorem setCell_block {W : World} {g o i : Nat} {v : Value} (h : i ≠ g) : (W.setCell ⟨g, o, none⟩ v).heap[i]? = W.heap[i]? := Below.heap_setCell W ⟨g, o, none⟩ v i h
theorem build58 (w : World) : (Instr.build 58 #[(0, .bool true)]).run Tryd.prog w = .ok (.agg #[.bool true]) w := run_build w 58 _ _ (by kernel_rfl)
theorem field58 (b : Bool) (w : World) : (Instr.field 58 (.agg #[.bool b]) 0).run Tryd.prog w = .ok (.bool b) w := by kernel_rfl
theorem zero58 (w : World) : (zeroValue 58).run Tryd.prog w = .ok (.agg #[.bool false]) w := by kernel_rfl
theorem GW.grow {w W3 : World} {m : Nat} {r : Ru} {pre : List (Int × So)} {A B : World} (h : GW w W3 m r pre A) (hb : Below A.heap.size A B) : GW w W3 m r pre B :=
  ⟨h.k.t (KpC.g hb), h.m.stay (hb.block _ h.m.lt), h.b.trans (hb.mono h.b.size)⟩
theorem GW.put {w W3 : World} {m : Nat} {r : Ru} {pre : List (Int × So)} {W : World} {l : Nat} {o o' : Obj} (h : GW w W3 m r pre W) (hm : m < l) (hw : w.heap.size ≤ l) (hl : W.heap[l]? = some o) (ho : o.isCells = false) : GW w W3 m r pre (W.putObj l o') :=
  ⟨h.k.t (KpC.b W l o o' hl ho), h.m.stay (World.putObj_heap_other (by omega)), h.b.trans ((Below.refl w.heap.size W).grown (grownBy_putObj' W l o') (by have := lt_of_heap hl; omega) (fun k e => by cases e; omega))⟩
set_option maxRecDepth 100000 in
set_option maxHeartbeats 4000000 in
theorem ruleE_in (r : Ru) (h : fitRu r) (w : World) (hB : BodAt w r.adr r.body) :
    CallsIn Fence.wide 9 Tryd.prog 13 #[ruV r] w fun e W' => e = .returned (.int .i64 (ruleE r)) ∧ Below w.heap.size w W' := by
  have hfn : ∀ k, Fence.wide.fn k := fun _ => trivial
  have Hf := Lib.hid h; have HBd := Lib.hid hB
  clear h hB
  obtain ⟨c, hc⟩ : ∃ c, mayRu r = c := ⟨_, rfl⟩
  have Hc := Lib.hid hc; clear hc
  have hsz : (ruC r).length = 13 := rfl
  have hbl := below_alloc (w := w) (.cells (ruC r).toArray 46)
  have hbl2 := below_alloc (w := w.alloc (.cells (ruC r).toArray 46)) (.cells #[.int .i64 0] 27)
  have hbox := (CellsAt.box w (ruC r) 46).below hbl2 (by simp)
  have hres := World.alloc_heap_new (w.alloc (.cells (ruC r).toArray 46)) (.cells #[.int .i64 0] 27)
  rw [World.size_alloc] at hres
  have hb0 := below_seq hbl hbl2 hbl.size
  refine callsIn_of_wp_marks Tryd.func13 rfl trivial ?_ rfl
  show Code.wpIn _ _ _ _ _ { tmps := #[.agg (ruC r).toArray] ++ _, defers := [] } _
  simp only [Tryd.ntmps13, List.size_toArray, List.length_cons, List.length_nil, Nat.reduceAdd, Nat.reduceSub, Array.replicate_succ, Array.replicate_zero, List.push_toArray, List.append_toArray, List.nil_append, List.cons_append]
  have z0 : ((w.alloc (.cells (ruC r).toArray 46)).alloc (.cells #[.int .i64 0] 27)).heap.size = w.heap.size + 2 := by simp
  obtain ⟨W0, hW0⟩ : ∃ W0, (w.alloc (.cells (ruC r).toArray 46)).alloc (.cells #[.int .i64 0] 27) = W0 := ⟨_, rfl⟩
  rw [hW0] at hbox hres hb0 z0
  have HBd0 := Lib.hid (HBd.out.below hb0)
  have Hld := Lib.hid (load_ru hbox)
  have Hbox := Lib.hid hbox; have Hres := Lib.hid hres; have Hb0 := Lib.hid hb0; have Z0 := Lib.hid z0; have HW0 := Lib.hid hW0
  clear hbl hbl2 hbox hres hb0 z0 hW0
  have endE : ∀ (a : Act) (Ds : List Nat) (W : World) (k : Int), a.defers = Ds.map markOf → a.tmps[2]?.getD undef = .pointer (some ⟨w.heap.size + 1, 0, none⟩) → Ds.Nodup → (∀ D ∈ Ds, w.heap.size + 2 ≤ D ∧ W.heap[D]? = some (.deferred (some []))) →
      W.heap[w.heap.size + 1]? = some (.cells #[.int .i64 k] 27 (0, 0)) → k = ruleE r → Below w.heap.size w W → bodyPostM Fence.wide 9 Tryd.prog Tryd.f13 (fun e w' => e = .returned (.int .i64 (ruleE r)) ∧ Below w.heap.size w w') .ret a W := by
    intro a Ds W k hd ht hnd hds hr hk hb
    show LeavesInM Fence.wide 9 Tryd.prog Tryd.f13 a.tmps _ a.defers .returning W
    rw [hd]
    refine leaves_marks (w.heap.size + 1) (w.heap.size + 2) _ (by omega) (fun w' hx1 hx2 => ?_) (by omega) Ds W hnd hds hr hb
    refine ⟨.int .i64 k, ?_, by rw [hk], hx2⟩
    have hres : Tryd.f13.results = #[.cell 2 27] := rfl
    have cx := (box_at hx1 rfl).1
    simp only [results, hres]
    simp [go_sem, ht, cx]
  have EndE := Lib.hid endE
  clear endE
  gi_wp2_with (with_reducible refine wpListIn_load_is rfl 46 (Operand.tmp 1) rfl ⟨w.heap.size, 0, none⟩ rfl (ruV r) (by rw [HW0.out]; exact Hld.out) ?_)
  rw [HW0.out]
  refine (callsIn_wide.2 (ru_any r Hf.out W0 HBd0.out _ Hc.out)).mono ?_
  rintro e w1 ⟨rfl, hB1⟩
  have hlt : w.heap.size + 1 < W0.heap.size := by have := Z0.out; omega
  have hr1 := (hB1.block _ hlt).trans Hres.out
  obtain ⟨d0, d1⟩ := box_at hr1 rfl
  have Hr1 := Lib.hid hr1
  have HBx := Lib.hid (Hbox.out.below hB1 (by omega))
  have HBd1 := Lib.hid (HBd0.out.below hB1)
  have HB1 := Lib.hid (below_seq Hb0.out hB1 Hb0.out.size)
  have Hz1 := Lib.hid (show w.heap.size + 2 ≤ w1.heap.size by have := hB1.size; have := Z0.out; omega)
  clear hB1 hlt hr1 Hld Hbox Hres Hb0 HBd0 HBd Z0 HW0
  cases c
  · have Hn := Lib.hid (show 2 = ruleE r by unfold ruleE; rw [Hc.out]; rfl)
    gi_wp2_with (fail)
    exact EndE.out _ [] _ _ rfl rfl List.nodup_nil (by simp) (arr_set1 Hr1.out _) Hn.out (HB1.out.setCell (p := ⟨w.heap.size + 1, 0, none⟩) (by simp) _)
  · have hmm := @run_makeMap Tryd.prog
    have hM := MapAt.made (enc := sv) (ok := sok) w1
    have hb2 := below_alloc (w := w1) (.map #[] 0)
    have hb3 := below_alloc (w := w1.alloc (.map #[] 0)) (.cells #[.map (some w1.heap.size)] 54)
    have hset := World.alloc_heap_new (w1.alloc (.map #[] 0)) (.cells #[.map (some w1.heap.size)] 54)
    rw [World.size_alloc] at hset
    have hb23 := below_seq hb2 hb3 hb2.size
    have hM2 := hM.stay (hb3.block _ (by simp))
    have z2 : ((w1.alloc (.map #[] 0)).alloc (.cells #[.map (some w1.heap.size)] 54)).heap.size = w1.heap.size + 2 := by simp
    obtain ⟨W2, hW2⟩ : ∃ W2, (w1.alloc (.map #[] 0)).alloc (.cells #[.map (some w1.heap.size)] 54) = W2 := ⟨_, rfl⟩
    rw [hW2] at hset hb23 hM2 z2
    have Hld2 := Lib.hid (load_ru (HBx.out.below hb23 (by have := Hz1.out; omega)))
    have HBx2 := Lib.hid (HBx.out.below hb23 (by have := Hz1.out; omega))
    have HBd2 := Lib.hid (HBd1.out.below hb23)
    have Hr2 := Lib.hid ((hb23.block _ (by have := Hz1.out; omega)).trans Hr1.out)
    have HB2 := Lib.hid (below_seq HB1.out hb23 HB1.out.size)
    have HM2 := Lib.hid hM2; have Hset := Lib.hid hset; have HW2 := Lib.hid hW2; have Hz2 := Lib.hid z2
    clear hM hb2 hb3 hset hb23 hM2 hW2 z2 d0 d1
    gi_wp2_with (with_reducible refine wpListIn_load_is rfl 46 (Operand.tmp 1) rfl ⟨w.heap.size, 0, none⟩ rfl (ruV r) (by rw [HW2.out]; exact Hld2.out) ?_)
    rw [HW2.out]
    refine (callsIn_wide.2 (places_any r W2)).mono ?_
    rintro e W3 ⟨rfl, hW3⟩
    have hbx := CellsAt.box W2 (ruC r) 46
    have hb4 := below_alloc (w := W2) (.cells (ruC r).toArray 46)
    rw [← hW3] at hbx hb4
    have z3 : W3.heap.size = W2.heap.size + 1 := by rw [hW3]; simp
    have hk3 : KpC W2 W3 := KpC.g hb4
    have Hseq := Lib.hid (places_seq hbx (HBd2.out.below hb4) Hf.out.2.2 0)
    have HG0 : Hid (GW w W3 w1.heap.size r [] W3) := ⟨KpC.refl _, by rw [gF_nil]; exact HM2.out.stay (hb4.block _ (by have := Hz2.out; omega)), below_seq HB2.out hb4 HB2.out.size⟩
    have Hset3 := Lib.hid ((hb4.block _ (by have := Hz2.out; omega)).trans Hset.out)
    have Hr3 := Lib.hid ((hb4.block _ (by have := Hz1.out; have := Hz2.out; omega)).trans Hr2.out)
    have HBx3 := Lib.hid (HBx2.out.below hb4 (by have := Hz1.out; have := Hz2.out; omega))
    have HBd3 := Lib.hid (HBd2.out.below hb4)
    have Hz3 := Lib.hid z3
    clear hbx hb4 z3 hk3 Hset Hr2 HBx2 HBd2 HM2 hW3 Hld2 HBx HBd1 Hr1
    gi_wp2_with fail
    refine wpIn_rangeFunc_R rfl (enters_of Tryd.func30 (by kernel_rfl) rfl) Hseq.out (Nat.zero_le _) (Below.refl _ _) (fun _ => rfl) KpC.t (fun W l o o' _ h ho => KpC.b W l o o' h ho) (fun A B h => KpC.g h)
      (fun pre W => GW w W3 w1.heap.size r pre W) (fun _ _ _ => False) (fun pre A B h hb => h.grow hb) (fun pre W l o o' h hl ho hc => h.put (by have := Hz2.out; have := Hz3.out; omega) (by have := Hz1.out; have := Hz2.out; have := Hz3.out; omega) ho hc) (fun _ _ _ _ _ _ h _ _ _ => h)
      HG0.out (fun t x fr W => ∃ sb, fr = (((((t.setIfInBounds 14 (.int .i64 x.1)).setIfInBounds 15 (soV x.2)).setIfInBounds 4 (.int .i64 x.1)).setIfInBounds 5 (.pointer (some ⟨sb, 0, none⟩)))) ∧ CellsAt W sb 0 (soC x.2)) ?aput ?assign ?body ?done ?stop
    case aput =>
      rintro t x fr W l o o' ⟨sb, hfr, hc⟩ _ ho hoc
      exact ⟨sb, hfr, hc.kpc (KpC.b W l o o' ho hoc)⟩
    case assign =>
      intro l x W K hz hK
      obtain ⟨i, ⟨xv, ⟨xk, xt, xe⟩⟩⟩ := x
      have hcs := CellsAt.box W (soC ⟨xv, ⟨xk, xt, xe⟩⟩) 37
      have HK := Lib.hid hK; have Hcs := Lib.hid hcs
      clear hK hcs
      gi_wp2
      exact HK.out _ _ (below_alloc _) ⟨W.heap.size, rfl, Hcs.out⟩
    case body =>
      rintro l pre ⟨i, ⟨xv, ⟨xk, xt, xe⟩⟩⟩ fr W hG hpx ⟨sb, rfl, hcs⟩ hz
      have hm : (i, (⟨xv, ⟨xk, xt, xe⟩⟩ : So)) ∈ plS r := hpx.subset (by simp)
      have hmi := mem_plS hm
      have hvf := (plS_fit Hf.out hm).1
      simp only at hvf
      have c0 : W.cell? ⟨sb, 0, none⟩ = some (.string xv) := hcs 0 _ rfl
      have cset := hG.k.cell (box_at Hset3.out rfl).1
      have cb := (HBx3.out.kpc hG.k).body
      simp only [Nat.zero_add] at cb
      have HG := Lib.hid hG; have Hmi := Lib.hid hmi
      clear hG hpx hcs hz hm hmi
      simp only [List.setIfInBounds_toArray, List.set_cons_zero, List.set_cons_succ]
      have hem := empty_is xv
      by_cases hi : 0 ≤ i
      · obtain ⟨k, hk, rfl⟩ : ∃ k : Nat, k < r.body.length ∧ i = k := by
          rcases Hmi.out with h | h
          · omega
          · exact h
        obtain ⟨g, o, hadr, hg, hc⟩ := (HBd3.out.kpc HG.out.k) k hk
        have ck : W.cell? ⟨g, o + k * 21, none⟩ = some (.int .i64 (r.body[k]).kind) := hc 0 _ rfl
        rw [hadr] at cb
        have gA : decide ((0 : Int) ≤ (k : Int)) = true := decide_eq_true (by omega)
        have hL := Hf.out.2.2
        unfold maxLen at hL
        have Hadr := Lib.hid hadr
        obtain ⟨kd, hkd⟩ : ∃ kd, (r.body[k]).kind = kd := ⟨_, rfl⟩
        rw [hkd] at ck
        have Hkd := Lib.hid hkd
        clear hadr hc hkd hi
        by_cases hk1 : kd = 1
        · have e1 : (kd == 1) = true := beq_iff_eq.2 hk1
          have Hk1 := Lib.hid hk1; clear hk1
          by_cases hz : xv.size = 0
          · rw [decide_eq_true hz] at hem
            have Hsame := Lib.hid (gF_same (r := r) (pre := pre) (x := ((k : Int), (⟨xv, ⟨xk, xt, xe⟩⟩ : So))) (fun h => h.2.2 hz))
            clear hz
            gi_wp2_with fail
            exact ⟨KeepsFrom.refl _ _, KpC.refl _, HG.out.k, by rw [Hsame.out]; exact HG.out.m, HG.out.b⟩
          · rw [decide_eq_false hz] at hem
            have Hupd := Lib.hid (gF_upd (r := r) (pre := pre) (x := ((k : Int), (⟨xv, ⟨xk, xt, xe⟩⟩ : So))) (by simp) ⟨by simpa using hk, by simp [Hkd.out, Hk1.out]⟩ hz)
            obtain ⟨W', hr, hm', ht⟩ := HG.out.m.put kysS Tryd.underlying54 (x := xv) (by unfold sok maxLen; omega) (.agg #[.bool true])
            simp only [sv] at hr
            have hbuild := build58
            have Hm := Lib.hid hm'; have Ht := Lib.hid ht
            clear hm' ht hz
            gi_wp2_with fail
            exact ⟨KeepsFrom.of_grownBy Ht.out.grown (fun j e => by cases e; have := Hz2.out; have := Hz3.out; omega), KpC.turned Ht.out, HG.out.k.t (KpC.turned Ht.out), by rw [Hupd.out]; exact Hm.out, HG.out.b.trans (turned_below Ht.out (by have := Hz1.out; omega) HG.out.b.size)⟩
        · have e1 : (kd == 1) = false := beq_eq_false_iff_ne.2 hk1
          have Hsame := Lib.hid (gF_same (r := r) (pre := pre) (x := ((k : Int), (⟨xv, ⟨xk, xt, xe⟩⟩ : So))) (fun h => by
            obtain ⟨_, ⟨h1, h2⟩, _⟩ := h
            simp only [Int.toNat_natCast] at h2
            exact hk1 (by rw [← Hkd.out]; exact h2)))
          clear hk1
          gi_wp2_with fail
          exact ⟨KeepsFrom.refl _ _, KpC.refl _, HG.out.k, by rw [Hsame.out]; exact HG.out.m, HG.out.b⟩
      · have gA : decide ((0 : Int) ≤ i) = false := decide_eq_false hi
        have Hsame := Lib.hid (gF_same (r := r) (pre := pre) (x := (i, (⟨xv, ⟨xk, xt, xe⟩⟩ : So))) (fun h => hi h.1))
        clear hi
        gi_wp2_with fail
        exact ⟨KeepsFrom.refl _ _, KpC.refl _, HG.out.k, by rw [Hsame.out]; exact HG.out.m, HG.out.b⟩
    case stop => intro D c pre W _ _ hx; exact hx.elim
    case done =>
      intro D V hD hG hK
      have Hld4 := Lib.hid (load_ru (HBx3.out.kpc hG.k))
      have hb5 := below_alloc (w := V) (.cells (ruC r).toArray 46)
      have HV := Lib.hid hG; have HK := Lib.hid hK; have HD := Lib.hid hD
      have Hset4 := Lib.hid (hG.k _ _ Hset3.out rfl)
      have Hr4 := Lib.hid (hG.k _ _ Hr3.out rfl)
      have HBd4 := Lib.hid (HBd3.out.kpc hG.k)
      have Hseq2 := Lib.hid (places_seq (CellsAt.box V (ruC r) 46) (HBd4.out.below hb5) Hf.out.2.2 0)
      have hmV := hG.m.stay (hb5.block _ hG.m.lt)
      have hbV := below_seq hG.b hb5 hG.b.size
      have hKV := (hb5.block D (lt_of_heap hK)).trans hK
      have hset5 := (hb5.block _ (lt_of_heap Hset4.out)).trans Hset4.out
      have hr5 := (hb5.block _ (lt_of_heap Hr4.out)).trans Hr4.out
      have z5 : (V.alloc (.cells (ruC r).toArray 46)).heap.size = V.heap.size + 1 := by simp
      clear hG hK hD Hset3 Hr3 HBx3 HBd3 HG0 Hseq hb5
      simp only [Exit.inBlock, Exit.then]
      gi_wp2_with (with_reducible refine wpListIn_load_is rfl 46 (Operand.tmp 1) rfl ⟨w.heap.size, 0, none⟩ rfl (ruV r) Hld4.out ?_)
      refine (callsIn_wide.2 (places_any r V)).mono ?_
      rintro e V5 ⟨rfl, hV5⟩
      rw [← hV5] at hmV hbV hKV hset5 hr5 z5
      have Hseq5 : Hid (SeqZ Tryd.prog 30 #[.pointer (some ⟨V.heap.size, 0, none⟩)] (fun x : Int × So => #[.int .i64 x.1, soV x.2]) KpC (plS r) V5 0) := by rw [hV5]; exact Hseq2.out
      have HG5 : Hid (GS w V5 w1.heap.size D r [] V5) := ⟨KpC.refl _, hmV, hbV, hKV, by simp⟩
      have hmlt := HV.out.m.lt
      have hDlt := lt_of_heap HK.out
      have hwlt := HV.out.b.size
      have hrlt := lt_of_heap Hr4.out
      have Hlts := Lib.hid (show w1.heap.size < V5.heap.size ∧ D < V5.heap.size ∧ w.heap.size + 1 < V5.heap.size ∧ w.heap.size + 2 ≤ D by have := HD.out; have := Hz1.out; have := Hz2.out; have := Hz3.out; omega)
      have Hset5 := Lib.hid hset5; have Hr5 := Lib.hid hr5
      clear hmV hbV hKV hset5 hr5 z5 hV5 hmlt hDlt hwlt hrlt Hseq2 HBd4 Hld4 Hset4 Hr4 HV HK
      gi_wp2_with fail
      refine wpIn_rangeFunc_R rfl (enters_of Tryd.func30 (by kernel_rfl) rfl) Hseq5.out (Nat.zero_le _) (Below.refl _ _) (fun _ => rfl) KpC.t (fun W l o o' _ h ho => KpC.b W l o o' h ho) (fun A B h => KpC.g h)
        (fun pre W => GS w V5 w1.heap.size D r pre W) (fun c pre W => GX w w.heap.size D r c pre W) (fun pre A B h hb => h.grow hb)
        (fun pre W l o o' h hl ho hc => h.put (by have := Hlts.out.1; omega) (by have := Hlts.out.2.1; omega) (by have := Hlts.out.2.2.1; omega) ho hc)
        (fun c pre W l o o' h hl ho hc => h.put (by have := Hlts.out.2.2.1; omega) (by have := Hlts.out.2.1; omega) (by have := Hlts.out.2.2.1; omega) ho)
        HG5.out (fun t x fr W => ∃ sb, fr = (((t.setIfInBounds 38 (.int .i64 x.1)).setIfInBounds 39 (soV x.2)).setIfInBounds 7 (.pointer (some ⟨sb, 0, none⟩))) ∧ CellsAt W sb 0 (soC x.2)) ?aput ?assign ?body ?done ?stop
      case aput =>
        rintro t x fr W l o o' ⟨sb, hfr, hc⟩ _ ho hoc
        exact ⟨sb, hfr, hc.kpc (KpC.b W l o o' ho hoc)⟩
      case assign =>
        intro l x W K hz hK
        obtain ⟨i, ⟨xv, ⟨xk, xt, xe⟩⟩⟩ := x
        have hcs := CellsAt.box W (soC ⟨xv, ⟨xk, xt, xe⟩⟩) 37
        have HK := Lib.hid hK; have Hcs := Lib.hid hcs
        clear hK hcs
        gi_wp2
        exact HK.out _ _ (below_alloc _) ⟨W.heap.size, rfl, Hcs.out⟩
      case body =>
        rintro l pre ⟨i, ⟨xv, ⟨xk, xt, xe⟩⟩⟩ fr W hG hpx ⟨sb, rfl, hcs⟩ hz
        have hm : (i, (⟨xv, ⟨xk, xt, xe⟩⟩ : So)) ∈ plS r := hpx.subset (by simp)
        have hvf := (plS_fit Hf.out hm).1
        simp only at hvf
        have c0 : W.cell? ⟨sb, 0, none⟩ = some (.string xv) := hcs 0 _ rfl
        have cset := hG.k.cell (box_at Hset5.out rfl).1
        have hrs := hG.k _ _ Hr5.out rfl
        obtain ⟨q0, q1⟩ := box_at hrs rfl
        have HG := Lib.hid hG; have Hrs := Lib.hid hrs
        clear hG hpx hcs hz hm hrs
        simp only [List.setIfInBounds_toArray, List.set_cons_zero, List.set_cons_succ]
        have hem := empty_is xv
        have snoc : ∀ {pre : List (Int × So)}, (∀ x ∈ pre, x.2.var.size = 0 ∨ gPre r (plS r) x.2.var) → (xv.size = 0 ∨ gPre r (plS r) xv) → ∀ x ∈ pre ++ [(i, (⟨xv, ⟨xk, xt, xe⟩⟩ : So))], x.2.var.size = 0 ∨ gPre r (plS r) x.2.var := fun h hx y hy => by
          rcases List.mem_append.1 hy with h' | h'
          · exact h y h'
          · rw [List.mem_singleton] at h'; subst h'; exact hx
        have Snoc := Lib.hid (snoc HG.out.ok)
        clear snoc
        by_cases hz : xv.size = 0
        · rw [decide_eq_true hz] at hem
          have Hok := Lib.hid (Snoc.out (.inl hz))
          clear hz
          gi_wp2_with fail
          exact ⟨KeepsFrom.refl _ _, KpC.refl _, HG.out.k, HG.out.m, HG.out.b, HG.out.d, Hok.out⟩
        · rw [decide_eq_false hz] at hem
          have hlk := HG.out.m.look kysS Tryd.underlying54 (zero58 W) false (x := xv) (by unfold sok maxLen; omega)
          simp only [sv, Bool.false_eq_true, if_false] at hlk
          have hfd := field58
          by_cases hg : gPre r (plS r) xv
          · rw [gF_yes hg] at hlk
            have Hok := Lib.hid (Snoc.out (.inr hg))
            simp only [Option.getD_some] at hlk
            clear hz hg
            gi_wp2_with fail
            exact ⟨KeepsFrom.refl _ _, KpC.refl _, HG.out.k, HG.out.m, HG.out.b, HG.out.d, Hok.out⟩
          · rw [gF_no hg] at hlk
            simp only [Option.getD_none] at hlk
            have Hbad := Lib.hid (show ∃ x ∈ pre ++ [(i, (⟨xv, ⟨xk, xt, xe⟩⟩ : So))], x.2.var.size ≠ 0 ∧ ¬ gPre r (plS r) x.2.var from ⟨(i, ⟨xv, ⟨xk, xt, xe⟩⟩), by simp, hz, hg⟩)
            clear hz hg
            gi_wp2_with fail
            exact ⟨(KeepsOthers.setCell _ _ _).from _, rfl, Hbad.out, arr_set1 Hrs.out _, HG.out.b.setCell (p := ⟨w.heap.size + 1, 0, none⟩) (by simp) _, by
              have := HG.out.d
              exact (setCell_block (by have := Hlts.out.2.2.2; omega)).trans this⟩
      case done =>
        intro D2 Y hD2 hG hK
        have hrs := hG.k _ _ Hr5.out rfl
        obtain ⟨q0, q1⟩ := box_at hrs rfl
        have Hrs := Lib.hid hrs; have HG := Lib.hid hG; have HK := Lib.hid hK; have HD2 := Lib.hid hD2
        have Hn := Lib.hid (show 0 = ruleE r by unfold ruleE; rw [Hc.out, safe_yes hG.ok]; rfl)
        clear hrs hG hK hD2
        simp only [Exit.inBlock, Exit.then]
        gi_wp2_with fail
        refine EndE.out _ [D2, D] _ 0 rfl rfl ?_ ?_ (arr_set1 Hrs.out _) Hn.out (HG.out.b.setCell (p := ⟨w.heap.size + 1, 0, none⟩) (by simp) _)
        · have := Hlts.out.2.1; have := HD2.out
          simp; omega
        · intro E hE
          have h1 := Hlts.out; have h2 := HD2.out
          simp only [List.mem_cons, List.mem_nil_iff, or_false] at hE
          rcases hE with rfl | rfl
          · exact ⟨by omega, (setCell_block (by omega)).trans HK.out⟩
          · exact ⟨by omega, (setCell_block (by omega)).trans HG.out.d⟩
      case stop =>
        intro D2 c pre Y hD2 hpre hX hK
        obtain ⟨rfl, ⟨x, hx, h0, hn⟩, hres, hb, hd⟩ := hX
        have Hn := Lib.hid (show 5 = ruleE r by unfold ruleE; rw [Hc.out, safe_no (hpre.subset hx) h0 hn]; rfl)
        have Hres5 := Lib.hid hres; have Hb := Lib.hid hb; have Hd := Lib.hid hd; have HK := Lib.hid hK; have HD2 := Lib.hid hD2
        clear hpre hx h0 hn hres hb hd hK hD2
        gi_wp2_with fail
        refine EndE.out _ [D2, D] _ 5 rfl rfl ?_ ?_ Hres5.out Hn.out Hb.out
        · have := Hlts.out.2.1; have := HD2.out
          simp; omega
        · intro E hE
          have h1 := Hlts.out; have h2 := HD2.out
          simp only [List.mem_cons, List.mem_nil_iff, or_false] at hE
          rcases hE with rfl | rfl
          · exact ⟨by omega, HK.out⟩
          · exact ⟨by omega, Hd.out⟩
theorem ruleE_any (r : Ru) (h : fitRu r) (w : World) (hB : BodAt w r.adr r.body) :
    Calls Tryd.prog 13 #[ruV r] w fun e w' => e = .returned (.int .i64 (ruleE r)) ∧ Below w.heap.size w w' := callsIn_wide.1 (ruleE_in r h w hB)
end Go.Proofs.YtmgaibeibfholaaDoor
