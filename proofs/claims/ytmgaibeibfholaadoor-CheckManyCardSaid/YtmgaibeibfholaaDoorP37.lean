/- The chapter's rows: walked. -/
import Derived.Test.YtmgaibeibfholaaDoorP36
import Derived.Deep.RegionHeld3
import Derived.Deep.DeepCutAuto
namespace Go.Proofs.YtmgaibeibfholaaDoor
set_option maxRecDepth 100000
open Go.RowKit Go.Shelf Go.Maps Plain
set_option linter.unusedVariables false
set_option linter.unusedSimpArgs false

theorem bld35 (k : Int) (s : ByteArray) (w : World) : (Instr.build 35 #[(0, .int .i64 k), (1, .string s)]).run Tryd.prog w = .ok (.agg #[.int .i64 k, .string s, .string ⟨#[]⟩]) w := run_build w 35 _ _ (by kernel_rfl)
theorem bld37t (k : Int) (s e : ByteArray) (w : World) : (Instr.build 37 #[(1, .agg #[.int .i64 k, .string s, .string e])]).run Tryd.prog w = .ok (.agg #[.string ⟨#[]⟩, .int .i64 k, .string s, .string e]) w := run_build w 37 _ _ (by kernel_rfl)
theorem bld37v (s : ByteArray) (w : World) : (Instr.build 37 #[(0, .string s)]).run Tryd.prog w = .ok (.agg #[.string s, .int .i64 0, .string ⟨#[]⟩, .string ⟨#[]⟩]) w := run_build w 37 _ _ (by kernel_rfl)
theorem bld40 (x y : ByteArray) (w : World) : (Instr.build 40 #[(0, .agg #[.string x, .int .i64 0, .string ⟨#[]⟩, .string ⟨#[]⟩]), (1, .agg #[.string ⟨#[]⟩, .int .i64 1, .string ⟨#[104, 116, 116, 112, 58, 47, 47, 112]⟩, .string ⟨#[]⟩]), (2, .agg #[.string y, .int .i64 0, .string ⟨#[]⟩, .string ⟨#[]⟩])]).run Tryd.prog w = .ok (.agg #[.string x, .int .i64 0, .string ⟨#[]⟩, .string ⟨#[]⟩, .string ⟨#[]⟩, .int .i64 1, .string ⟨#[104, 116, 116, 112, 58, 47, 47, 112]⟩, .string ⟨#[]⟩, .string y, .int .i64 0, .string ⟨#[]⟩, .string ⟨#[]⟩]) w := run_build w 40 _ _ (by kernel_rfl)
theorem bld43 (k : Int) (x y : ByteArray) (w : World) : (Instr.build 43 #[(0, .int .i64 k), (1, .agg #[.string x, .int .i64 0, .string ⟨#[]⟩, .string ⟨#[]⟩, .string ⟨#[]⟩, .int .i64 1, .string ⟨#[104, 116, 116, 112, 58, 47, 47, 112]⟩, .string ⟨#[]⟩, .string y, .int .i64 0, .string ⟨#[]⟩, .string ⟨#[]⟩])]).run Tryd.prog w = .ok (.agg #[.int .i64 k, .string x, .int .i64 0, .string ⟨#[]⟩, .string ⟨#[]⟩, .string ⟨#[]⟩, .int .i64 1, .string ⟨#[104, 116, 116, 112, 58, 47, 47, 112]⟩, .string ⟨#[]⟩, .string y, .int .i64 0, .string ⟨#[]⟩, .string ⟨#[]⟩, .string ⟨#[]⟩, .int .i64 0, .string ⟨#[]⟩, .string ⟨#[]⟩, .string ⟨#[]⟩, .int .i64 0, .string ⟨#[]⟩, .string ⟨#[]⟩]) w := run_build w 43 _ _ (by kernel_rfl)
theorem bld46 (x y : ByteArray) (a : Option Addr) (n cap : Nat) (w : World) : (Instr.build 46 #[(0, .agg #[.string x, .int .i64 0, .string ⟨#[]⟩, .string ⟨#[]⟩, .string ⟨#[]⟩, .int .i64 1, .string ⟨#[104, 116, 116, 112, 58, 47, 47, 112]⟩, .string ⟨#[]⟩, .string y, .int .i64 0, .string ⟨#[]⟩, .string ⟨#[]⟩]), (1, .slice a n cap)]).run Tryd.prog w = .ok (.agg #[.string x, .int .i64 0, .string ⟨#[]⟩, .string ⟨#[]⟩, .string ⟨#[]⟩, .int .i64 1, .string ⟨#[104, 116, 116, 112, 58, 47, 47, 112]⟩, .string ⟨#[]⟩, .string y, .int .i64 0, .string ⟨#[]⟩, .string ⟨#[]⟩, .slice a n cap]) w := run_build w 46 _ _ (by kernel_rfl)
theorem alloc_at (w : World) (o : Obj) (i : Nat) : (w.alloc o).heap[i]? = if i = w.heap.size then some o else w.heap[i]? := by
  split
  · rename_i h; rw [h]; exact World.alloc_heap_new w o
  · rename_i h
    show (w.heap.push o)[i]? = w.heap[i]?
    rw [Array.getElem?_push, if_neg h]
theorem calls_world {P : Program} {f : FuncId} {args : Array Value} {w w' : World} {R : Ending → World → Prop} (e : w = w') (h : Calls P f args w' R) : Calls P f args w R := by subst e; exact h
theorem wpList_load_yes {P : Program} {ops : Array Oper} {rest : List Oper} {o : Oper} {a : Act} {w : World} {Q : Exit → Act → World → Prop} (hgd : Region.wanted o (yielded ops a.tmps) = true) (ty : TypeId) (x : Operand) (ho : o.op = .load ty x) (ad : Addr) (hx : a.eval x = .pointer (some ad)) (v : Value) (hl : (loadVar ty ad).run P w = .ok v w)
    (h : wpList P ops Q rest (a.put o.dst v) w) : wpList P ops Q (o :: rest) a w := by
  refine BigFrame.wpList_want hgd fun K hK => ?_
  unfold Oper.wp execOp
  simp only [ho, hx, Instr.loadAt, Instr.sureAddr, Sem.run_bind, Sem.run_pure, Result.andThen_ok, hl]
  exact hK _ _ h
theorem drew_at (w : World) (i : Nat) : w.drew.heap[i]? = w.heap[i]? := rfl
set_option maxHeartbeats 1000000 in
theorem kslot_any (s : ByteArray) (w : World) : Calls Tryd.prog 12 #[.string s] w fun e w' => e = .returned (.agg #[.string s, .int .i64 0, .string ⟨#[]⟩, .string ⟨#[]⟩]) ∧ w' = w.alloc (.cells #[.string s, .int .i64 0, .string ⟨#[]⟩, .string ⟨#[]⟩] 37) := by
  have hb := bld37v
  go_enter Tryd.func12, Tryd.ntmps12
  go_wp2_with fail
  exact bodyPost_ret (v := .agg #[.string s, .int .i64 0, .string ⟨#[]⟩, .string ⟨#[]⟩]) (by simp [results, Tryd.f12, go_sem]) rfl ⟨rfl, rfl⟩
set_option maxRecDepth 100000 in
set_option maxHeartbeats 8000000 in
theorem known_any (w : World) : Calls Tryd.prog 7 #[] w fun e w' => e = .returned (.bool true) ∧ Below w.heap.size w w' := by
  have b1 := bld35
  have b2 := bld37t
  go_enter Tryd.func7, Tryd.ntmps7
  go_upto_region 3 with fail
  have b3 := bld40
  have b4 := bld43
  have b5 := bld46
  have hbl := below_alloc (w := w) (.cells #[.string ⟨#[]⟩, .int .i64 1, .string ⟨#[104, 116, 116, 112, 58, 47, 47, 112]⟩, .string ⟨#[]⟩] 37)
  have hbx := CellsAt.box w [.string ⟨#[]⟩, .int .i64 1, .string ⟨#[104, 116, 116, 112, 58, 47, 47, 112]⟩, .string ⟨#[]⟩] 37
  have hz0 : w.heap.size < (w.alloc (.cells #[.string ⟨#[]⟩, .int .i64 1, .string ⟨#[104, 116, 116, 112, 58, 47, 47, 112]⟩, .string ⟨#[]⟩] 37)).heap.size := by simp
  generalize w.alloc (.cells #[.string ⟨#[]⟩, .int .i64 1, .string ⟨#[104, 116, 116, 112, 58, 47, 47, 112]⟩, .string ⟨#[]⟩] 37) = W0 at *
  have Hbl := Lib.hid hbl; have Hz0 := Lib.hid hz0
  have keep : ∀ W, Below W0.heap.size W0 W → W.cell? ⟨w.heap.size, 0, none⟩ = some (.string ⟨#[]⟩) ∧ W.cell? ⟨w.heap.size, 1, none⟩ = some (.int .i64 1) ∧ W.cell? ⟨w.heap.size, 2, none⟩ = some (.string ⟨#[104, 116, 116, 112, 58, 47, 47, 112]⟩) ∧ W.cell? ⟨w.heap.size, 3, none⟩ = some (.string ⟨#[]⟩) := fun W hW =>
    have h := hbx.below hW hz0
    ⟨h 0 _ rfl, h 1 _ rfl, h 2 _ rfl, h 3 _ rfl⟩
  have Keep := Lib.hid keep
  obtain ⟨q0, q1, q2, q3⟩ := keep W0 (Below.refl _ _)
  clear hbl hz0 hbx keep
  go_cut [3] from 9 to 23 (fun u3 wx => ∃ b sb : Nat, u3 = .pointer (some ⟨b, 0, none⟩) ∧ wx.heap[b]? = some (.cells (ruC (kR 121 (some ⟨sb, 0, none⟩) 1)).toArray 46 (0, 0)) ∧ wx.heap[sb]? = some (.cells (paC kb).toArray 43 (0, 0)) ∧ Below W0.heap.size W0 wx)
  case first =>
    go_region_held3 (fun w' => w'.cell? ⟨w.heap.size, 0, none⟩ = some (.string ⟨#[]⟩) ∧ w'.cell? ⟨w.heap.size, 1, none⟩ = some (.int .i64 1) ∧ w'.cell? ⟨w.heap.size, 2, none⟩ = some (.string ⟨#[104, 116, 116, 112, 58, 47, 47, 112]⟩) ∧ w'.cell? ⟨w.heap.size, 3, none⟩ = some (.string ⟨#[]⟩)) ((refine Keep.out _ ?_; repeat (first | exact Below.refl _ _ | refine Below.drew ?_ | refine Below.alloc ?_ (by first | (simp; done) | (simp; omega)) _)))
      (first | (go_at_call 12; refine (kslot_any _ _).mono ?_; rintro e w' ⟨rfl, rfl⟩))
    all_goals
      go_wp2_with fail
      go_meet
      first
      | refine ⟨_, W0.heap.size + 4, rfl, by (simp only [alloc_at, drew_at, World.size_alloc]; (repeat (first | rw [if_pos (by omega)] | rw [if_neg (by omega)])); rfl), by (simp only [alloc_at, drew_at, World.size_alloc]; (repeat (first | rw [if_pos (by omega)] | rw [if_neg (by omega)])); rfl), ?_⟩
      | refine ⟨_, W0.heap.size + 5, rfl, by (simp only [alloc_at, drew_at, World.size_alloc]; (repeat (first | rw [if_pos (by omega)] | rw [if_neg (by omega)])); rfl), by (simp only [alloc_at, drew_at, World.size_alloc]; (repeat (first | rw [if_pos (by omega)] | rw [if_neg (by omega)])); rfl), ?_⟩
      repeat (first | exact Below.refl _ _ | refine Below.drew ?_ | refine Below.alloc ?_ (by first | (simp; done) | (simp; omega)) _)
  case rest =>
    obtain ⟨b, sb, rfl, h1, h2, h3⟩ := hcut
    have H1 := Lib.hid h1; have H2 := Lib.hid h2; have H3 := Lib.hid h3
    have keep : ∀ w', Below wc.heap.size wc w' → (w'.cell? ⟨w.heap.size, 0, none⟩ = some (.string ⟨#[]⟩) ∧ w'.cell? ⟨w.heap.size, 1, none⟩ = some (.int .i64 1) ∧ w'.cell? ⟨w.heap.size, 2, none⟩ = some (.string ⟨#[104, 116, 116, 112, 58, 47, 47, 112]⟩) ∧ w'.cell? ⟨w.heap.size, 3, none⟩ = some (.string ⟨#[]⟩)) ∧ w'.cell? ⟨b, 12, none⟩ = some (.slice (some ⟨sb, 0, none⟩) 1 1) := fun w' hW => ⟨Keep.out _ (h3.trans (hW.mono h3.size)), by
      have h := (hW.block b (lt_of_heap h1)).trans h1
      unfold World.cell?; rw [h]; rfl⟩
    obtain ⟨⟨q0, q1, q2, q3⟩, q4⟩ := keep wc (Below.refl _ _)
    have Keep2 := Lib.hid keep
    clear h1 h2 h3 keep
    go_upto_region 4 with fail
    go_cut [4] from 24 to 32 (fun u4 wx => ∃ d : Nat, u4 = .pointer (some ⟨d, 0, none⟩) ∧ wx.heap[d]? = some (.cells (ruC (kR 122 (some ⟨sb, 0, none⟩) 1)).toArray 46 (0, 0)) ∧ Below wc.heap.size wc wx)
    case first =>
      go_region_held3 (fun w' => (w'.cell? ⟨w.heap.size, 0, none⟩ = some (.string ⟨#[]⟩) ∧ w'.cell? ⟨w.heap.size, 1, none⟩ = some (.int .i64 1) ∧ w'.cell? ⟨w.heap.size, 2, none⟩ = some (.string ⟨#[104, 116, 116, 112, 58, 47, 47, 112]⟩) ∧ w'.cell? ⟨w.heap.size, 3, none⟩ = some (.string ⟨#[]⟩)) ∧ w'.cell? ⟨b, 12, none⟩ = some (.slice (some ⟨sb, 0, none⟩) 1 1)) ((refine Keep2.out _ ?_; repeat (first | exact Below.refl _ _ | refine Below.drew ?_ | refine Below.alloc ?_ (by first | (simp; done) | (simp; omega)) _)))
        (first | (go_at_call 12; refine (kslot_any _ _).mono ?_; rintro e w' ⟨rfl, rfl⟩))
      all_goals
        go_wp2_with fail
        go_meet
        refine ⟨_, rfl, by (simp only [alloc_at, drew_at, World.size_alloc]; (repeat (first | rw [if_pos (by omega)] | rw [if_neg (by omega)])); rfl), ?_⟩
        repeat (first | exact Below.refl _ _ | refine Below.drew ?_ | refine Below.alloc ?_ (by first | (simp; done) | (simp; omega)) _)
    case rest =>
      obtain ⟨d, rfl, h1, h3⟩ := hcut
      have HR2 := Lib.hid h1; have HB2 := Lib.hid h3
      clear q0 q1 q2 q3 q4
      have hw4 := H3.out.trans (h3.mono H3.out.size)
      have hbod : BodAt wc (some ⟨sb, 0, none⟩) [kb] := fun j hj => by
        obtain rfl : j = 0 := by simpa using hj
        have hs := (h3.block sb (lt_of_heap H2.out)).trans H2.out
        refine ⟨sb, 0, rfl, lt_of_heap hs, fun i v hv => ?_⟩
        simp only [Nat.zero_add, Nat.zero_mul]
        unfold World.cell?
        rw [hs]
        simpa using hv
      have cells_of : ∀ {W : World} {g : Nat} {cs : List Value} {t : TypeId}, W.heap[g]? = some (.cells cs.toArray t (0, 0)) → CellsAt W g 0 cs := fun hg i v hv => by
        simp only [Nat.zero_add]
        unfold World.cell?
        rw [hg]
        simpa using hv
      have hr3 := cells_of ((h3.block b (lt_of_heap H1.out)).trans H1.out)
      have hr4 := cells_of h1
      have Hld := Lib.hid (show (loadVar 46 ⟨d, 0, none⟩).run Tryd.prog wc = .ok (.agg (ruC (kR 122 (some ⟨sb, 0, none⟩) 1)).toArray) wc from load_ru hr4)
      have hbl := below_alloc (w := wc) (.cells (ruC (kR 122 (some ⟨sb, 0, none⟩) 1)).toArray 46)
      have hbx := CellsAt.box wc (ruC (kR 122 (some ⟨sb, 0, none⟩) 1)) 46
      have hA : RusAt (wc.alloc (.cells (ruC (kR 122 (some ⟨sb, 0, none⟩) 1)).toArray 46)) (some ⟨wc.heap.size, 0, none⟩) [kR 122 (some ⟨sb, 0, none⟩) 1] := fun j hj => by
        obtain rfl : j = 0 := by simpa using hj
        exact ⟨wc.heap.size, 0, rfl, by simp, hbx, hbod.below hbl⟩
      have Hc := Lib.hid (prog_any (some ⟨wc.heap.size, 0, none⟩) 1 [kR 122 (some ⟨sb, 0, none⟩) 1] (by simp) (by decide) (fun r hr => by
        obtain rfl : r = kR 122 (some ⟨sb, 0, none⟩) 1 := by simpa using hr
        exact fit_k _ _ _) _ hA)
      have Hpv := Lib.hid (show progV (progE [kR 122 (some ⟨sb, 0, none⟩) 1]) (negs [kR 122 (some ⟨sb, 0, none⟩) 1]) = .tuple #[.agg #[.bool true], .int .i64 0] by rw [(prog_ko _ _).1, (prog_ko _ _).2]; rfl)
      have Hr3 := Lib.hid hr3; have Hr4 := Lib.hid hr4; have Hbod := Lib.hid hbod; have Hbl2 := Lib.hid hbl; have Hw4 := Lib.hid hw4
      have hsz : (ruC (kR 122 (some ⟨sb, 0, none⟩) 1)).length = 13 := rfl
      have hd : d < wc.heap.size := lt_of_heap h1
      have hb : b < wc.heap.size := lt_of_cell (hr3 0 _ rfl)
      clear h1 h3 hw4 hbod cells_of hr3 hr4 hbl hbx hA
      go_wp2_with (first
        | (with_reducible refine wpList_load_is rfl 46 (Operand.tmp 4) rfl ⟨d, 0, none⟩ rfl _ Hld.out ?_)
        | (go_at_call 8; refine calls_world (w' := wc.alloc (.cells (ruC (kR 122 (some ⟨sb, 0, none⟩) 1)).toArray 46)) (by kernel_rfl) ?_; refine Hc.out.mono ?_; rintro e w5 ⟨rfl, hB⟩; rw [Hpv.out]; 
            have HB5 := Lib.hid (below_seq Hbl2.out hB Hbl2.out.size); have hbM := below_alloc (w := w5) (.cells #[.bool true] 26);
            have Hm := Lib.hid (World.alloc_heap_new w5 (.cells #[.bool true] 26)); have Hlt := Lib.hid (show w5.heap.size < (w5.alloc (.cells #[.bool true] 26)).heap.size by simp);
            have HB6 := Lib.hid (below_seq HB5.out hbM HB5.out.size); have Hld3 := Lib.hid (load_ru (Hr3.out.below HB6.out hb));
            have HC3 := Lib.hid (ruleE_any (kR 121 (some ⟨sb, 0, none⟩) 1) (fit_k _ _ _) (w5.alloc (.cells #[.bool true] 26)) (Hbod.out.below HB6.out)); clear hB hbM Hc Hld)
        | (with_reducible refine wpList_load_is rfl 46 (Operand.tmp 3) rfl ⟨b, 0, none⟩ rfl (ruV (kR 121 (some ⟨sb, 0, none⟩) 1)) Hld3.out ?_))
      skip
      with_reducible refine HC3.out.mono ?_
      rintro e w7 ⟨rfl, hB⟩
      rw [ruleE_kr]
      have HB7 := Lib.hid (below_seq HB6.out hB HB6.out.size)
      have Hm7 := Lib.hid ((hB.block _ Hlt.out).trans Hm.out)
      have Hlt7 := Lib.hid (Nat.lt_of_lt_of_le Hlt.out hB.size)
      have Hld4 := Lib.hid (load_ru (Hr4.out.below HB7.out hd))
      have HC4 := Lib.hid (ruleE_any (kR 122 (some ⟨sb, 0, none⟩) 1) (fit_k _ _ _) w7 (Hbod.out.below HB7.out))
      clear hB HC3
      go_wp2_with (with_reducible refine wpList_load_yes (by kernel_rfl) 46 (Operand.tmp 4) rfl ⟨d, 0, none⟩ rfl (ruV (kR 122 (some ⟨sb, 0, none⟩) 1)) Hld4.out ?_)
      with_reducible refine HC4.out.mono ?_
      rintro e w8 ⟨rfl, hB⟩
      rw [ruleE_ko]
      have HB8 := Lib.hid (below_seq HB7.out hB HB7.out.size)
      have hm := (hB.block _ Hlt7.out).trans Hm7.out
      obtain ⟨hcm, -⟩ := box_at hm rfl
      clear hB hm
      go_wp2_with fail
      go_ret
      exact ⟨rfl, Hbl.out.trans ((Hw4.out.trans (HB8.out.mono Hw4.out.size)).mono Hbl.out.size)⟩
end Go.Proofs.YtmgaibeibfholaaDoor
