/- Many rules: the law walked. -/
import Derived.Test.YtmgaibeibfholaaDoorP41
namespace Go.Proofs.YtmgaibeibfholaaDoor
set_option maxRecDepth 100000
open Go.RowKit Go.Shelf Go.Maps Plain
set_option linter.unusedVariables false
set_option linter.unusedSimpArgs false
attribute [local go_sem] Oper.semAt_some

theorem bld35s (k : Int) (s : ByteArray) (w : World) : (Instr.build 35 #[(0, .int .i64 k), (1, .string s)]).run Tryd.prog w = .ok (.agg #[.int .i64 k, .string s, .string ⟨#[]⟩]) w := run_build w 35 _ _ (by kernel_rfl)
theorem bld40m (v0 v1 v2 s0 s1 s2 e0 e1 e2 : ByteArray) (k0 k1 k2 : Int) (w : World) : (Instr.build 40 #[(0, .agg #[.string v0, .int .i64 k0, .string s0, .string e0]), (1, .agg #[.string v1, .int .i64 k1, .string s1, .string e1]), (2, .agg #[.string v2, .int .i64 k2, .string s2, .string e2])]).run Tryd.prog w = .ok (.agg #[.string v0, .int .i64 k0, .string s0, .string e0, .string v1, .int .i64 k1, .string s1, .string e1, .string v2, .int .i64 k2, .string s2, .string e2]) w := run_build w 40 _ _ (by kernel_rfl)
theorem bld43m (k : Int) (v0 v1 v2 s0 s1 s2 e0 e1 e2 : ByteArray) (k0 k1 k2 : Int) (w : World) : (Instr.build 43 #[(0, .int .i64 k), (1, .agg #[.string v0, .int .i64 k0, .string s0, .string e0, .string v1, .int .i64 k1, .string s1, .string e1, .string v2, .int .i64 k2, .string s2, .string e2])]).run Tryd.prog w = .ok (.agg #[.int .i64 k, .string v0, .int .i64 k0, .string s0, .string e0, .string v1, .int .i64 k1, .string s1, .string e1, .string v2, .int .i64 k2, .string s2, .string e2, .string ⟨#[]⟩, .int .i64 0, .string ⟨#[]⟩, .string ⟨#[]⟩, .string ⟨#[]⟩, .int .i64 0, .string ⟨#[]⟩, .string ⟨#[]⟩]) w := run_build w 43 _ _ (by kernel_rfl)
theorem bld46m (v0 v1 v2 s0 s1 s2 e0 e1 e2 : ByteArray) (k0 k1 k2 : Int) (a : Option Addr) (n cap : Nat) (w : World) : (Instr.build 46 #[(0, .agg #[.string v0, .int .i64 k0, .string s0, .string e0, .string v1, .int .i64 k1, .string s1, .string e1, .string v2, .int .i64 k2, .string s2, .string e2]), (1, .slice a n cap)]).run Tryd.prog w = .ok (.agg #[.string v0, .int .i64 k0, .string s0, .string e0, .string v1, .int .i64 k1, .string s1, .string e1, .string v2, .int .i64 k2, .string s2, .string e2, .slice a n cap]) w := run_build w 46 _ _ (by kernel_rfl)
/-- the rules, with their bodies' blocks -/
def MB (w : World) (L : List Ru) : Prop := ∀ j (h : j < L.length), ∃ b, L[j] = kM j b ∧ w.heap[b]? = some (.cells (paC kbM).toArray 43 (0, 0))
theorem MB.below {w w' : World} {L : List Ru} (h : MB w L) (hB : Below w.heap.size w w') : MB w' L := fun j hj => by
  obtain ⟨b, e, hb⟩ := h j hj
  exact ⟨b, e, (hB.block b (lt_of_heap hb)).trans hb⟩
theorem MB.at {w : World} {L : List Ru} (h : MB w L) : MAt L := fun j hj => by
  obtain ⟨b, e, _⟩ := h j hj
  exact ⟨b, e⟩
theorem MB.grown {w w' : World} {L : List Ru} {base n : Nat} {v : Value} {xs : List Value} (h : MB w L) (hO : w.ownsRow base 46 13 v n xs) (hg : w.grownBy w' v.ownBlock) : MB w' L := fun j hj => by
  obtain ⟨b, e, hb⟩ := h j hj
  refine ⟨b, e, (hg.block b (lt_of_heap hb) (fun ho => ?_)).trans hb⟩
  rcases hO.2 with ⟨rfl, _⟩ | ⟨g, cap, cur, rfl, _, hgc, _⟩
  · cases ho
  · have eg : b = g := Option.some.inj ho
    subst eg
    rw [hgc] at hb
    injection hb with hb
    injection hb with _ ht _
    exact absurd ht (by decide)
theorem MB.snoc {w : World} {L : List Ru} (h : MB w L) {b : Nat} (hb : w.heap[b]? = some (.cells (paC kbM).toArray 43 (0, 0))) : MB w (L ++ [kM L.length b]) := fun j hj => by
  by_cases hl : j < L.length
  · rw [List.getElem_append_left hl]; exact h j hl
  · have : j = L.length := by simp at hj; omega
    subst this
    rw [List.getElem_append_right (Nat.le_refl _)]
    simp only [Nat.sub_self, List.getElem_cons_zero]
    exact ⟨b, rfl, hb⟩
theorem MB.bods {w : World} {L : List Ru} (h : MB w L) : ∀ j (hj : j < L.length), BodAt w L[j].adr L[j].body := fun j hj => by
  obtain ⟨b, e, hb⟩ := h j hj
  rw [e]
  intro i hi
  obtain rfl : i = 0 := by simpa [kM] using hi
  refine ⟨b, 0, rfl, lt_of_heap hb, fun i v hv => ?_⟩
  simp only [Nat.zero_add, Nat.zero_mul]
  unfold World.cell?
  rw [hb]
  simpa [kM] using hv
theorem wpList_world {P : Program} {ops : Array Oper} {rest : List Oper} {a : Act} {w w' : World} {Q : Exit → Act → World → Prop} (e : w = w') (h : wpList P ops Q rest a w') : wpList P ops Q rest a w := by subst e; exact h
set_option maxRecDepth 100000 in
set_option maxHeartbeats 4000000 in
theorem many_any (n : Int) (bn : i64ok n) (w : World) :
    Calls Tryd.prog 5 #[.int .i64 n] w fun e w' => e = .returned (.bool true) ∧ Below w.heap.size w w' := by
  go_enter Tryd.func5, Tryd.ntmps5
  by_cases h0 : n < 0
  · have d1 : decide (n < 0) = true := decide_eq_true h0
    go_wp2_with (go_at_call 7; refine (known_any _).mono ?_; rintro e w2 ⟨rfl, hB⟩; have HB := Lib.hid hB; clear hB)
    go_ret
    exact ⟨rfl, HB.out⟩
  have d1 : decide (n < 0) = false := decide_eq_false h0
  by_cases h1 : 1010 < n
  · have d2 : decide (1010 < n) = true := decide_eq_true h1
    go_wp2_with (go_at_call 7; refine (known_any _).mono ?_; rintro e w2 ⟨rfl, hB⟩; have HB := Lib.hid hB; clear hB)
    go_ret
    exact ⟨rfl, HB.out⟩
  have d2 : decide (1010 < n) = false := decide_eq_false h1
  by_cases hk : 20 < n ∧ n < 995
  · have d3 : decide (20 < n) = true := decide_eq_true hk.1
    have d4 : decide (n < 995) = true := decide_eq_true hk.2
    go_wp2_with (go_at_call 7; refine (known_any _).mono ?_; rintro e w2 ⟨rfl, hB⟩; have HB := Lib.hid hB; clear hB)
    go_ret
    exact ⟨rfl, HB.out⟩
  obtain ⟨m, rfl⟩ := Int.eq_ofNat_of_zero_le (show 0 ≤ n by omega)
  have hm : m ≤ 1010 := by omega
  have b1 := bld35s
  have b2 := bld37t
  have b3 := bld37v
  have hP := below_alloc (w := w) (.cells (soC pS).toArray 37)
  have hPx := CellsAt.box w (soC pS) 37
  have hV := below_alloc (w := w.alloc (.cells (soC pS).toArray 37)) (.cells (soC (vS 120)).toArray 37)
  have hVx := CellsAt.box (w.alloc (.cells (soC pS).toArray 37)) (soC (vS 120)) 37
  have hz : ((w.alloc (.cells (soC pS).toArray 37)).alloc (.cells (soC (vS 120)).toArray 37)).heap.size = w.heap.size + 2 := by simp
  have hP0 := hPx.below hV (by simp)
  have hPV := below_seq hP hV hP.size
  rw [World.size_alloc] at hVx
  clear hP hPx hV
  by_cases h20 : 20 < m
  · have d3 : decide (20 < (m : Int)) = true := decide_eq_true (by omega)
    have d4 : decide ((m : Int) < 995) = false := decide_eq_false (by omega)
    go_wp2_with fail
    change Code.wp _ _ _ _ ((w.alloc (.cells (soC pS).toArray 37)).alloc (.cells (soC (vS 120)).toArray 37))
    generalize (w.alloc (.cells (soC pS).toArray 37)).alloc (.cells (soC (vS 120)).toArray 37) = W0 at *
    have Hz0 := Lib.hid hz; have HV := Lib.hid hVx; have HP := Lib.hid hP0; have HPV := Lib.hid hPV
    clear hz hVx hP0 hPV hk
    obtain ⟨i0, hi0, hi1, hi2, hi3⟩ := info_parts infoRuP
    have I0 := Lib.hid hi0; have I1 := Lib.hid hi1; have I2 := Lib.hid hi2; have I3 := Lib.hid hi3
    clear hi0 hi1 hi2 hi3
    have b4 := bld40m
    have b5 := bld43m
    have b6 := bld46m
    go_loopw [5, 6] (fun u5 u6 wr => ∃ (i : Nat) (L : List Ru) (a : Option Addr) (cap : Nat), i ≤ m ∧ u6 = .int .i64 i ∧ u5 = .slice a i cap ∧ L.length = i ∧ MB wr L ∧ wr.ownsRow W0.heap.size 46 13 (.slice a i cap) i (L.flatMap ruC) ∧ Below W0.heap.size W0 wr) (fun _ u _ => m - (intOf u).toNat)
    case atStart => exact ⟨0, [], none, 0, by omega, rfl, rfl, rfl, fun j hj => absurd hj (Nat.not_lt_zero _), World.ownsRow_nil _ _ _ _, Below.refl _ _⟩
    case round =>
      obtain ⟨i, L, a, cap, hi, rfl, rfl, hL, hMB, hO, hBw⟩ := hrel
      have HL := Lib.hid hL; have HMB := Lib.hid hMB; have HO := Lib.hid hO; have HBw := Lib.hid hBw
      clear hL hMB hO hBw
      by_cases hin : i < m
      · have hd : decide ((i : Int) < (m : Int)) = true := decide_eq_true (by omega)
        have hd' : decide (i < m) = true := decide_eq_true hin
        have hcv := run_convert_bytes_arg (P := Tryd.prog) (wr.alloc (.cells #[.int .u8 (97 + (i : Int) / 676), .int .u8 (97 + (i : Int) / 26 % 26), .int .u8 (97 + (i : Int) % 26)] 5)) 38 5 Tryd.underlying38 Tryd.underlying5 wr.heap.size 0 3 3 [97 + (i : Int) / 676, 97 + (i : Int) / 26 % 26, 97 + (i : Int) % 26] rfl (fun k hk => by
          have := CellsAt.box wr [.int .u8 (97 + (i : Int) / 676), .int .u8 (97 + (i : Int) / 26 % 26), .int .u8 (97 + (i : Int) % 26)] 5
          match k, hk with
          | 0, _ => exact this 0 _ rfl
          | 1, _ => exact this 1 _ rfl
          | 2, _ => exact this 2 _ rfl) 9 Tryd.underlying9
        have hq : (⟨#[104, 116, 116, 112, 58, 47, 47, 113, 47]⟩ : ByteArray) ++ strOfNums [97 + (i : Int) / 676, 97 + (i : Int) / 26 % 26, 97 + (i : Int) % 26] = qJ i := by unfold qJ qT; push_cast; rfl
        have hB1 := below_alloc (w := wr) (.cells #[.int .u8 (97 + (i : Int) / 676), .int .u8 (97 + (i : Int) / 26 % 26), .int .u8 (97 + (i : Int) % 26)] 5)
        have hO1 := HO.out.alloc (.cells #[.int .u8 (97 + (i : Int) / 676), .int .u8 (97 + (i : Int) / 26 % 26), .int .u8 (97 + (i : Int) % 26)] 5)
        have hz1 : (wr.alloc (.cells #[.int .u8 (97 + (i : Int) / 676), .int .u8 (97 + (i : Int) / 26 % 26), .int .u8 (97 + (i : Int) % 26)] 5)).heap.size = wr.heap.size + 1 := by simp
        have HB1 := Lib.hid hB1; have HO1 := Lib.hid hO1; have Hz1 := Lib.hid hz1; have Hcv := Lib.hid hcv
        clear hB1 hO1 hz1 hcv
        obtain ⟨W1, hW1⟩ : ∃ W, W = wr.alloc (.cells #[.int .u8 (97 + (i : Int) / 676), .int .u8 (97 + (i : Int) / 26 % 26), .int .u8 (97 + (i : Int) % 26)] 5) := ⟨_, rfl⟩
        rw [← hW1] at HB1 HO1 Hz1 Hcv
        have hB2 := below_alloc (w := W1) (.cells #[.string ⟨#[]⟩, .int .i64 1, .string (qJ i), .string ⟨#[]⟩] 37)
        have hO2 := HO1.out.alloc (.cells #[.string ⟨#[]⟩, .int .i64 1, .string (qJ i), .string ⟨#[]⟩] 37)
        have hx2 := CellsAt.box W1 (soC ⟨emp, ⟨1, qJ i, emp⟩⟩) 37
        have hz2 : (W1.alloc (.cells #[.string ⟨#[]⟩, .int .i64 1, .string (qJ i), .string ⟨#[]⟩] 37)).heap.size = wr.heap.size + 2 := by simp [Hz1.out]
        change CellsAt (W1.alloc (.cells #[.string ⟨#[]⟩, .int .i64 1, .string (qJ i), .string ⟨#[]⟩] 37)) W1.heap.size 0 _ at hx2
        rw [Hz1.out] at hx2
        obtain ⟨W2, hW2⟩ : ∃ W, W = W1.alloc (.cells #[.string ⟨#[]⟩, .int .i64 1, .string (qJ i), .string ⟨#[]⟩] 37) := ⟨_, rfl⟩
        rw [← hW2] at hB2 hO2 hx2 hz2
        have hB02 := HBw.out.trans ((below_seq HB1.out hB2 HB1.out.size).mono HBw.out.size)
        have Hl4 := Lib.hid (show (loadVar 37 ⟨w.heap.size + 1, 0, none⟩).run Tryd.prog W2 = .ok (.agg #[.string ⟨#[120]⟩, .int .i64 0, .string ⟨#[]⟩, .string ⟨#[]⟩]) W2 from load_so (l := vS 120) (HV.out.below hB02 (by have := Hz0.out; omega)))
        have Hl3 := Lib.hid (show (loadVar 37 ⟨w.heap.size, 0, none⟩).run Tryd.prog W2 = .ok (.agg #[.string ⟨#[]⟩, .int .i64 1, .string ⟨#[104, 116, 116, 112, 58, 47, 47, 112]⟩, .string ⟨#[]⟩]) W2 from load_so (l := pS) (HP.out.below hB02 (by have := Hz0.out; omega)))
        have Hl7 := Lib.hid (show (loadVar 37 ⟨wr.heap.size + 1, 0, none⟩).run Tryd.prog W2 = .ok (.agg #[.string ⟨#[]⟩, .int .i64 1, .string (qJ i), .string ⟨#[]⟩]) W2 from load_so (l := ⟨emp, ⟨1, qJ i, emp⟩⟩) hx2)
        have hB3 := below_alloc (w := W2) (.cells (paC kbM).toArray 43)
        have hO3 := hO2.alloc (.cells (paC kbM).toArray 43)
        have hx3 := World.alloc_heap_new W2 (.cells (paC kbM).toArray 43)
        have hz3 : (W2.alloc (.cells (paC kbM).toArray 43)).heap.size = W2.heap.size + 1 := by simp
        obtain ⟨W3, hW3⟩ : ∃ W, W = W2.alloc (.cells (paC kbM).toArray 43) := ⟨_, rfl⟩
        rw [← hW3] at hB3 hO3 hx3 hz3
        have hB4 := below_alloc (w := W3) (.cells (ruC (kM i W2.heap.size)).toArray 46)
        have hO4 := hO3.alloc (.cells (ruC (kM i W2.heap.size)).toArray 46)
        have hx4 := (CellsAt.box W3 (ruC (kM i W2.heap.size)) 46).at'
        have hz4 : (W3.alloc (.cells (ruC (kM i W2.heap.size)).toArray 46)).heap.size = W3.heap.size + 1 := by simp
        obtain ⟨W4, hW4⟩ : ∃ W, W = W3.alloc (.cells (ruC (kM i W2.heap.size)).toArray 46) := ⟨_, rfl⟩
        rw [← hW4] at hB4 hO4 hx4 hz4
        rw [hz3] at hx4
        have hB24 := below_seq hB3 hB4 hB3.size
        have hB04 := hB02.trans (hB24.mono hB02.size)
        have hm4 := ((HMB.out.below (below_seq HB1.out hB2 HB1.out.size)).below hB24).snoc (b := W2.heap.size) ((hB4.block _ (by omega)).trans hx3)
        rw [HL.out] at hm4
        have HO4 := Lib.hid hO4; have Hx4 := Lib.hid hx4; have HB04 := Lib.hid hB04; have Hm4 := Lib.hid hm4
        have Hw1 := Lib.hid hW1; have Hw2 := Lib.hid hW2; have Hw3 := Lib.hid hW3; have Hw4 := Lib.hid hW4
        have Hz2 := Lib.hid hz2; have Hz3 := Lib.hid hz3
        have hone : ∀ u ∈ ruC (kM i W2.heap.size), u.oneCell' = true := by
          intro u hu
          simp only [ruC, List.mem_cons, List.mem_nil_iff, or_false] at hu
          rcases hu with rfl | rfl | rfl | rfl | rfl | rfl | rfl | rfl | rfl | rfl | rfl | rfl | rfl <;> rfl
        have Hone := Lib.hid hone
        have hz04 : W0.heap.size ≤ W4.heap.size := hB04.size
        have Hz04 := Lib.hid hz04
        have hcv : (convert 38 9 (.slice (some ⟨wr.heap.size, 0, none⟩) 3 3)).run Tryd.prog (wr.alloc (.cells #[.int .u8 (97 + (i : Int) / 676), .int .u8 (97 + (i : Int) / 26 % 26), .int .u8 (97 + (i : Int) % 26)] 5)) = .ok (.string (strOfNums [97 + (i : Int) / 676, 97 + (i : Int) / 26 % 26, 97 + (i : Int) % 26])) (wr.alloc (.cells #[.int .u8 (97 + (i : Int) / 676), .int .u8 (97 + (i : Int) / 26 % 26), .int .u8 (97 + (i : Int) % 26)] 5)) := by
          have := Hcv.out
          rw [hW1] at this
          exact this
        clear hB2 hO2 hx2 hz2 hB02 hB3 hO3 hx3 hz3 hB4 hO4 hx4 hz4 hB24 hB04 hm4 hone hz04 hW2 hW3 hW4
        have hl4 : wr.alloc (.cells #[.int .u8 (97 + (i : Int) / 676), .int .u8 (97 + (i : Int) / 26 % 26), .int .u8 (97 + (i : Int) % 26)] 5) = W1 := hW1.symm
        have Hl12 := Lib.hid (show ((wr.alloc (.cells #[.int .u8 (97 + (i : Int) / 676), .int .u8 (97 + (i : Int) / 26 % 26), .int .u8 (97 + (i : Int) % 26)] 5)).alloc (.cells #[.string ⟨#[]⟩, .int .i64 1, .string (qJ i), .string ⟨#[]⟩] 37)) = W2 by rw [hl4, ← Hw2.out])
        clear hl4 hW1
        go_wp2_with (first
          | (with_reducible refine wpList_world Hl12.out ?_; with_reducible refine wpList_load_is rfl 37 (Operand.tmp 4) rfl ⟨w.heap.size + 1, 0, none⟩ rfl _ Hl4.out ?_)
          | (with_reducible refine wpList_load_is rfl 37 (Operand.tmp 4) rfl ⟨w.heap.size + 1, 0, none⟩ rfl _ Hl4.out ?_)
          | (with_reducible refine wpList_load_is rfl 37 (Operand.tmp 3) rfl ⟨w.heap.size, 0, none⟩ rfl _ Hl3.out ?_)
          | (with_reducible refine wpList_load_is rfl 37 (Operand.tmp 7) rfl ⟨wr.heap.size + 1, 0, none⟩ rfl _ Hl7.out ?_)
          | (at_builtin; refine wpList_world (w' := W4) (by rw [Hw4.out, Hw3.out]; kernel_rfl) ?_; refine wpList_append_own _ rfl _ _ 22 rfl W0.heap.size 46 i0 _ 13 192 Tryd.underlying22 I0.out I1.out I2.out I3.out rfl (by decide) _ _ _ rfl HO4.out ⟨W2.heap.size + 1, 0, none⟩ 1 1 (ruC (kM i W2.heap.size)) rfl rfl Hx4.out Hone.out (by unfold maxLen; omega) (by omega) Hz04.out ?_; intro v' w5 hown' hgrow _; obtain ⟨a', cap', rfl⟩ := row_form hown'; have Hown' := Lib.hid hown'; have Hgrow := Lib.hid hgrow; clear hown' hgrow))
        refine ⟨⟨i + 1, L ++ [kM i W2.heap.size], a', cap', by omega, by push_cast; rfl, rfl, by rw [List.length_append, HL.out]; rfl, Hm4.out.grown HO4.out Hgrow.out, ?_, row_below HB04.out HO4.out Hgrow.out (Nat.le_refl _) Hz04.out⟩, by simp [intOf]; omega⟩
        have := Hown'.out
        rw [List.flatMap_append]
        simpa using this
      · have hd : decide ((i : Int) < (m : Int)) = false := decide_eq_false (by omega)
        have hd' : decide (i < m) = false := decide_eq_false hin
        obtain rfl : i = m := by omega
        have hrc := row_cap HO.out
        have hO := HO.out
        rw [← HL.out] at hO
        have hA := row_rus hO HMB.out.bods
        have hp := prog_any a cap L (by rw [HL.out]; exact hrc.1) hrc.2 (fun r hr => by
          obtain ⟨j, hj, rfl⟩ := List.mem_iff_getElem.1 hr
          obtain ⟨b, hb⟩ := HMB.out.at j hj
          rw [hb]; exact fit_kM (by rw [HL.out] at hj; omega) b) wr hA
        rw [prog_M HMB.out.at (by rw [HL.out]; omega), negs_M HMB.out.at, HL.out] at hp
        have HBr := Lib.hid (HPV.out.trans (HBw.out.mono HPV.out.size))
        clear hO hA hrc hin hi
        by_cases hbig : 1000 < i
        · rw [if_pos hbig, progV_bad _ (by decide)] at hp
          have Hp := Lib.hid hp
          have q1 : decide (1000 < (i : Int)) = true := decide_eq_true (by omega)
          have q2 : decide ((i : Int) ≤ 1000) = false := decide_eq_false (by omega)
          clear hp hbig
          go_wp2_with (first
            | (go_at_call 8; refine Hp.out.mono ?_; rintro e w2 ⟨rfl, hB⟩; have HB2 := Lib.hid (below_seq HBr.out hB HBr.out.size); have HBM := Lib.hid (below_seq HB2.out (below_alloc (w := w2) (.cells #[.bool false] 26)) HB2.out.size); clear hB)
            | (go_at_call 7; refine (known_any _).mono ?_; rintro e w3 ⟨rfl, hB⟩; have HB3 := Lib.hid (below_seq HBM.out hB HBM.out.size); clear hB))
          go_ret
          exact ⟨rfl, HB3.out⟩
        · rw [if_neg hbig, progV_ok] at hp
          have Hp := Lib.hid hp
          have q1 : decide (1000 < (i : Int)) = false := decide_eq_false (by omega)
          have q2 : decide ((i : Int) ≤ 1000) = true := decide_eq_true (by omega)
          clear hp hbig
          go_wp2_with (first
            | (go_at_call 8; refine Hp.out.mono ?_; rintro e w2 ⟨rfl, hB⟩; have HB2 := Lib.hid (below_seq HBr.out hB HBr.out.size); have HBM := Lib.hid (below_seq HB2.out (below_alloc (w := w2) (.cells #[.bool true] 26)) HB2.out.size); clear hB)
            | (go_at_call 7; refine (known_any _).mono ?_; rintro e w3 ⟨rfl, hB⟩; have HB3 := Lib.hid (below_seq HBM.out hB HBM.out.size); clear hB))
          go_ret
          exact ⟨rfl, HB3.out⟩
  · have d3 : decide (20 < (m : Int)) = false := decide_eq_false (by omega)
    go_wp2_with fail
    change Code.wp _ _ _ _ ((w.alloc (.cells (soC pS).toArray 37)).alloc (.cells (soC (vS 120)).toArray 37))
    generalize (w.alloc (.cells (soC pS).toArray 37)).alloc (.cells (soC (vS 120)).toArray 37) = W0 at *
    have Hz0 := Lib.hid hz; have HV := Lib.hid hVx; have HP := Lib.hid hP0; have HPV := Lib.hid hPV
    clear hz hVx hP0 hPV hk
    obtain ⟨i0, hi0, hi1, hi2, hi3⟩ := info_parts infoRuP
    have I0 := Lib.hid hi0; have I1 := Lib.hid hi1; have I2 := Lib.hid hi2; have I3 := Lib.hid hi3
    clear hi0 hi1 hi2 hi3
    have b4 := bld40m
    have b5 := bld43m
    have b6 := bld46m
    go_loopw [5, 6] (fun u5 u6 wr => ∃ (i : Nat) (L : List Ru) (a : Option Addr) (cap : Nat), i ≤ m ∧ u6 = .int .i64 i ∧ u5 = .slice a i cap ∧ L.length = i ∧ MB wr L ∧ wr.ownsRow W0.heap.size 46 13 (.slice a i cap) i (L.flatMap ruC) ∧ Below W0.heap.size W0 wr) (fun _ u _ => m - (intOf u).toNat)
    case atStart => exact ⟨0, [], none, 0, by omega, rfl, rfl, rfl, fun j hj => absurd hj (Nat.not_lt_zero _), World.ownsRow_nil _ _ _ _, Below.refl _ _⟩
    case round =>
      obtain ⟨i, L, a, cap, hi, rfl, rfl, hL, hMB, hO, hBw⟩ := hrel
      have HL := Lib.hid hL; have HMB := Lib.hid hMB; have HO := Lib.hid hO; have HBw := Lib.hid hBw
      clear hL hMB hO hBw
      by_cases hin : i < m
      · have hd : decide ((i : Int) < (m : Int)) = true := decide_eq_true (by omega)
        have hd' : decide (i < m) = true := decide_eq_true hin
        have hcv := run_convert_bytes_arg (P := Tryd.prog) (wr.alloc (.cells #[.int .u8 (97 + (i : Int) / 676), .int .u8 (97 + (i : Int) / 26 % 26), .int .u8 (97 + (i : Int) % 26)] 5)) 38 5 Tryd.underlying38 Tryd.underlying5 wr.heap.size 0 3 3 [97 + (i : Int) / 676, 97 + (i : Int) / 26 % 26, 97 + (i : Int) % 26] rfl (fun k hk => by
          have := CellsAt.box wr [.int .u8 (97 + (i : Int) / 676), .int .u8 (97 + (i : Int) / 26 % 26), .int .u8 (97 + (i : Int) % 26)] 5
          match k, hk with
          | 0, _ => exact this 0 _ rfl
          | 1, _ => exact this 1 _ rfl
          | 2, _ => exact this 2 _ rfl) 9 Tryd.underlying9
        have hq : (⟨#[104, 116, 116, 112, 58, 47, 47, 113, 47]⟩ : ByteArray) ++ strOfNums [97 + (i : Int) / 676, 97 + (i : Int) / 26 % 26, 97 + (i : Int) % 26] = qJ i := by unfold qJ qT; push_cast; rfl
        have hB1 := below_alloc (w := wr) (.cells #[.int .u8 (97 + (i : Int) / 676), .int .u8 (97 + (i : Int) / 26 % 26), .int .u8 (97 + (i : Int) % 26)] 5)
        have hO1 := HO.out.alloc (.cells #[.int .u8 (97 + (i : Int) / 676), .int .u8 (97 + (i : Int) / 26 % 26), .int .u8 (97 + (i : Int) % 26)] 5)
        have hz1 : (wr.alloc (.cells #[.int .u8 (97 + (i : Int) / 676), .int .u8 (97 + (i : Int) / 26 % 26), .int .u8 (97 + (i : Int) % 26)] 5)).heap.size = wr.heap.size + 1 := by simp
        have HB1 := Lib.hid hB1; have HO1 := Lib.hid hO1; have Hz1 := Lib.hid hz1; have Hcv := Lib.hid hcv
        clear hB1 hO1 hz1 hcv
        obtain ⟨W1, hW1⟩ : ∃ W, W = wr.alloc (.cells #[.int .u8 (97 + (i : Int) / 676), .int .u8 (97 + (i : Int) / 26 % 26), .int .u8 (97 + (i : Int) % 26)] 5) := ⟨_, rfl⟩
        rw [← hW1] at HB1 HO1 Hz1 Hcv
        have hB2 := below_alloc (w := W1) (.cells #[.string ⟨#[]⟩, .int .i64 1, .string (qJ i), .string ⟨#[]⟩] 37)
        have hO2 := HO1.out.alloc (.cells #[.string ⟨#[]⟩, .int .i64 1, .string (qJ i), .string ⟨#[]⟩] 37)
        have hx2 := CellsAt.box W1 (soC ⟨emp, ⟨1, qJ i, emp⟩⟩) 37
        have hz2 : (W1.alloc (.cells #[.string ⟨#[]⟩, .int .i64 1, .string (qJ i), .string ⟨#[]⟩] 37)).heap.size = wr.heap.size + 2 := by simp [Hz1.out]
        change CellsAt (W1.alloc (.cells #[.string ⟨#[]⟩, .int .i64 1, .string (qJ i), .string ⟨#[]⟩] 37)) W1.heap.size 0 _ at hx2
        rw [Hz1.out] at hx2
        obtain ⟨W2, hW2⟩ : ∃ W, W = W1.alloc (.cells #[.string ⟨#[]⟩, .int .i64 1, .string (qJ i), .string ⟨#[]⟩] 37) := ⟨_, rfl⟩
        rw [← hW2] at hB2 hO2 hx2 hz2
        have hB02 := HBw.out.trans ((below_seq HB1.out hB2 HB1.out.size).mono HBw.out.size)
        have Hl4 := Lib.hid (show (loadVar 37 ⟨w.heap.size + 1, 0, none⟩).run Tryd.prog W2 = .ok (.agg #[.string ⟨#[120]⟩, .int .i64 0, .string ⟨#[]⟩, .string ⟨#[]⟩]) W2 from load_so (l := vS 120) (HV.out.below hB02 (by have := Hz0.out; omega)))
        have Hl3 := Lib.hid (show (loadVar 37 ⟨w.heap.size, 0, none⟩).run Tryd.prog W2 = .ok (.agg #[.string ⟨#[]⟩, .int .i64 1, .string ⟨#[104, 116, 116, 112, 58, 47, 47, 112]⟩, .string ⟨#[]⟩]) W2 from load_so (l := pS) (HP.out.below hB02 (by have := Hz0.out; omega)))
        have Hl7 := Lib.hid (show (loadVar 37 ⟨wr.heap.size + 1, 0, none⟩).run Tryd.prog W2 = .ok (.agg #[.string ⟨#[]⟩, .int .i64 1, .string (qJ i), .string ⟨#[]⟩]) W2 from load_so (l := ⟨emp, ⟨1, qJ i, emp⟩⟩) hx2)
        have hB3 := below_alloc (w := W2) (.cells (paC kbM).toArray 43)
        have hO3 := hO2.alloc (.cells (paC kbM).toArray 43)
        have hx3 := World.alloc_heap_new W2 (.cells (paC kbM).toArray 43)
        have hz3 : (W2.alloc (.cells (paC kbM).toArray 43)).heap.size = W2.heap.size + 1 := by simp
        obtain ⟨W3, hW3⟩ : ∃ W, W = W2.alloc (.cells (paC kbM).toArray 43) := ⟨_, rfl⟩
        rw [← hW3] at hB3 hO3 hx3 hz3
        have hB4 := below_alloc (w := W3) (.cells (ruC (kM i W2.heap.size)).toArray 46)
        have hO4 := hO3.alloc (.cells (ruC (kM i W2.heap.size)).toArray 46)
        have hx4 := (CellsAt.box W3 (ruC (kM i W2.heap.size)) 46).at'
        have hz4 : (W3.alloc (.cells (ruC (kM i W2.heap.size)).toArray 46)).heap.size = W3.heap.size + 1 := by simp
        obtain ⟨W4, hW4⟩ : ∃ W, W = W3.alloc (.cells (ruC (kM i W2.heap.size)).toArray 46) := ⟨_, rfl⟩
        rw [← hW4] at hB4 hO4 hx4 hz4
        rw [hz3] at hx4
        have hB24 := below_seq hB3 hB4 hB3.size
        have hB04 := hB02.trans (hB24.mono hB02.size)
        have hm4 := ((HMB.out.below (below_seq HB1.out hB2 HB1.out.size)).below hB24).snoc (b := W2.heap.size) ((hB4.block _ (by omega)).trans hx3)
        rw [HL.out] at hm4
        have HO4 := Lib.hid hO4; have Hx4 := Lib.hid hx4; have HB04 := Lib.hid hB04; have Hm4 := Lib.hid hm4
        have Hw1 := Lib.hid hW1; have Hw2 := Lib.hid hW2; have Hw3 := Lib.hid hW3; have Hw4 := Lib.hid hW4
        have Hz2 := Lib.hid hz2; have Hz3 := Lib.hid hz3
        have hone : ∀ u ∈ ruC (kM i W2.heap.size), u.oneCell' = true := by
          intro u hu
          simp only [ruC, List.mem_cons, List.mem_nil_iff, or_false] at hu
          rcases hu with rfl | rfl | rfl | rfl | rfl | rfl | rfl | rfl | rfl | rfl | rfl | rfl | rfl <;> rfl
        have Hone := Lib.hid hone
        have hz04 : W0.heap.size ≤ W4.heap.size := hB04.size
        have Hz04 := Lib.hid hz04
        have hcv : (convert 38 9 (.slice (some ⟨wr.heap.size, 0, none⟩) 3 3)).run Tryd.prog (wr.alloc (.cells #[.int .u8 (97 + (i : Int) / 676), .int .u8 (97 + (i : Int) / 26 % 26), .int .u8 (97 + (i : Int) % 26)] 5)) = .ok (.string (strOfNums [97 + (i : Int) / 676, 97 + (i : Int) / 26 % 26, 97 + (i : Int) % 26])) (wr.alloc (.cells #[.int .u8 (97 + (i : Int) / 676), .int .u8 (97 + (i : Int) / 26 % 26), .int .u8 (97 + (i : Int) % 26)] 5)) := by
          have := Hcv.out
          rw [hW1] at this
          exact this
        clear hB2 hO2 hx2 hz2 hB02 hB3 hO3 hx3 hz3 hB4 hO4 hx4 hz4 hB24 hB04 hm4 hone hz04 hW2 hW3 hW4
        have hl4 : wr.alloc (.cells #[.int .u8 (97 + (i : Int) / 676), .int .u8 (97 + (i : Int) / 26 % 26), .int .u8 (97 + (i : Int) % 26)] 5) = W1 := hW1.symm
        have Hl12 := Lib.hid (show ((wr.alloc (.cells #[.int .u8 (97 + (i : Int) / 676), .int .u8 (97 + (i : Int) / 26 % 26), .int .u8 (97 + (i : Int) % 26)] 5)).alloc (.cells #[.string ⟨#[]⟩, .int .i64 1, .string (qJ i), .string ⟨#[]⟩] 37)) = W2 by rw [hl4, ← Hw2.out])
        clear hl4 hW1
        go_wp2_with (first
          | (with_reducible refine wpList_world Hl12.out ?_; with_reducible refine wpList_load_is rfl 37 (Operand.tmp 4) rfl ⟨w.heap.size + 1, 0, none⟩ rfl _ Hl4.out ?_)
          | (with_reducible refine wpList_load_is rfl 37 (Operand.tmp 4) rfl ⟨w.heap.size + 1, 0, none⟩ rfl _ Hl4.out ?_)
          | (with_reducible refine wpList_load_is rfl 37 (Operand.tmp 3) rfl ⟨w.heap.size, 0, none⟩ rfl _ Hl3.out ?_)
          | (with_reducible refine wpList_load_is rfl 37 (Operand.tmp 7) rfl ⟨wr.heap.size + 1, 0, none⟩ rfl _ Hl7.out ?_)
          | (at_builtin; refine wpList_world (w' := W4) (by rw [Hw4.out, Hw3.out]; kernel_rfl) ?_; refine wpList_append_own _ rfl _ _ 22 rfl W0.heap.size 46 i0 _ 13 192 Tryd.underlying22 I0.out I1.out I2.out I3.out rfl (by decide) _ _ _ rfl HO4.out ⟨W2.heap.size + 1, 0, none⟩ 1 1 (ruC (kM i W2.heap.size)) rfl rfl Hx4.out Hone.out (by unfold maxLen; omega) (by omega) Hz04.out ?_; intro v' w5 hown' hgrow _; obtain ⟨a', cap', rfl⟩ := row_form hown'; have Hown' := Lib.hid hown'; have Hgrow := Lib.hid hgrow; clear hown' hgrow))
        refine ⟨⟨i + 1, L ++ [kM i W2.heap.size], a', cap', by omega, by push_cast; rfl, rfl, by rw [List.length_append, HL.out]; rfl, Hm4.out.grown HO4.out Hgrow.out, ?_, row_below HB04.out HO4.out Hgrow.out (Nat.le_refl _) Hz04.out⟩, by simp [intOf]; omega⟩
        have := Hown'.out
        rw [List.flatMap_append]
        simpa using this
      · have hd : decide ((i : Int) < (m : Int)) = false := decide_eq_false (by omega)
        have hd' : decide (i < m) = false := decide_eq_false hin
        obtain rfl : i = m := by omega
        have hrc := row_cap HO.out
        have hO := HO.out
        rw [← HL.out] at hO
        have hA := row_rus hO HMB.out.bods
        have hp := prog_any a cap L (by rw [HL.out]; exact hrc.1) hrc.2 (fun r hr => by
          obtain ⟨j, hj, rfl⟩ := List.mem_iff_getElem.1 hr
          obtain ⟨b, hb⟩ := HMB.out.at j hj
          rw [hb]; exact fit_kM (by rw [HL.out] at hj; omega) b) wr hA
        rw [prog_M HMB.out.at (by rw [HL.out]; omega), negs_M HMB.out.at, HL.out] at hp
        have HBr := Lib.hid (HPV.out.trans (HBw.out.mono HPV.out.size))
        clear hO hA hrc hin hi
        by_cases hbig : 1000 < i
        · rw [if_pos hbig, progV_bad _ (by decide)] at hp
          have Hp := Lib.hid hp
          have q1 : decide (1000 < (i : Int)) = true := decide_eq_true (by omega)
          have q2 : decide ((i : Int) ≤ 1000) = false := decide_eq_false (by omega)
          clear hp hbig
          go_wp2_with (first
            | (go_at_call 8; refine Hp.out.mono ?_; rintro e w2 ⟨rfl, hB⟩; have HB2 := Lib.hid (below_seq HBr.out hB HBr.out.size); have HBM := Lib.hid (below_seq HB2.out (below_alloc (w := w2) (.cells #[.bool false] 26)) HB2.out.size); clear hB)
            | (go_at_call 7; refine (known_any _).mono ?_; rintro e w3 ⟨rfl, hB⟩; have HB3 := Lib.hid (below_seq HBM.out hB HBM.out.size); clear hB))
          go_ret
          exact ⟨rfl, HB3.out⟩
        · rw [if_neg hbig, progV_ok] at hp
          have Hp := Lib.hid hp
          have q1 : decide (1000 < (i : Int)) = false := decide_eq_false (by omega)
          have q2 : decide ((i : Int) ≤ 1000) = true := decide_eq_true (by omega)
          clear hp hbig
          go_wp2_with (first
            | (go_at_call 8; refine Hp.out.mono ?_; rintro e w2 ⟨rfl, hB⟩; have HB2 := Lib.hid (below_seq HBr.out hB HBr.out.size); have HBM := Lib.hid (below_seq HB2.out (below_alloc (w := w2) (.cells #[.bool true] 26)) HB2.out.size); clear hB)
            | (go_at_call 7; refine (known_any _).mono ?_; rintro e w3 ⟨rfl, hB⟩; have HB3 := Lib.hid (below_seq HBM.out hB HBM.out.size); clear hB))
          go_ret
          exact ⟨rfl, HB3.out⟩
end Go.Proofs.YtmgaibeibfholaaDoor
