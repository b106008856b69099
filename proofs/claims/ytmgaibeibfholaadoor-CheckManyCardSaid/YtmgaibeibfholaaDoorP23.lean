/- A rule's places, one by one: the iterator, walked. -/
import Derived.Test.YtmgaibeibfholaaDoorP22
import Derived.Deep.WholeRow
namespace Go.Proofs.YtmgaibeibfholaaDoor
set_option maxRecDepth 100000
open Go.RowKit Go.Shelf Go.Maps Plain
set_option linter.unusedVariables false
set_option linter.unusedSimpArgs false
attribute [local go_sem] Oper.semAt_some

def soC (s : So) : List Value := [.string s.var, .int .i64 s.tm.kind, .string s.tm.text, .string s.tm.extra]
def Pn.ss (p : Pn) : List So := [p.a, p.b, p.c]
/-- a part's places -/
def slS (l : Pa) : List So := if l.kind = 3 ∨ l.kind = 4 then [l.a, l.b] else l.pat.ss
def bodS (L : List Pa) : List (Int × So) := L.zipIdx.flatMap fun x => (slS x.1).map fun s => ((x.2 : Int), s)
/-- a rule's places -/
def plS (r : Ru) : List (Int × So) := (r.head.ss.map fun s => ((-1 : Int), s)) ++ bodS r.body
theorem bodS_append (A B : List Pa) : ∃ T, bodS (A ++ B) = bodS A ++ T := by
  unfold bodS
  rw [List.zipIdx_append, List.flatMap_append]
  exact ⟨_, rfl⟩
theorem bodS_take {L : List Pa} {k : Nat} (h : k < L.length) : bodS (L.take (k + 1)) = bodS (L.take k) ++ (slS L[k]).map fun s => ((k : Int), s) := by
  rw [List.take_succ_eq_append_getElem h]
  unfold bodS
  rw [List.zipIdx_append, List.flatMap_append]
  congr 1
  simp [List.zipIdx, Nat.min_eq_left (Nat.le_of_lt h)]
/-- what has been gone through -/
def preS (r : Ru) (i : Nat) (l : List So) : List (Int × So) := (r.head.ss.map fun s => ((-1 : Int), s)) ++ (bodS (r.body.take i) ++ l.map fun s => ((i : Int), s))
theorem preS_zero (r : Ru) : preS r 0 [] = r.head.ss.map fun s => ((-1 : Int), s) := by unfold preS; simp [bodS]
theorem preS_snoc (r : Ru) (i : Nat) (l : List So) (s : So) : preS r i l ++ [((i : Int), s)] = preS r i (l ++ [s]) := by unfold preS; simp
theorem preS_next {r : Ru} {i : Nat} (h : i < r.body.length) : preS r i (slS r.body[i]) = preS r (i + 1) [] := by
  unfold preS
  rw [bodS_take h]; simp
theorem preS_end (r : Ru) : preS r r.body.length [] = plS r := by unfold preS plS; simp
theorem preS_pre {r : Ru} {i : Nat} (h : i < r.body.length) {l : List So} (hl : l <+: slS r.body[i]) : preS r i l <+: plS r := by
  obtain ⟨t, ht⟩ := hl
  obtain ⟨T, hT⟩ := bodS_append (r.body.take (i + 1)) (r.body.drop (i + 1))
  rw [List.take_append_drop, bodS_take h, ← ht] at hT
  refine ⟨(t.map fun s => ((i : Int), s)) ++ T, ?_⟩
  unfold preS plS
  rw [hT]; simp
theorem head_pre (r : Ru) (k : Nat) : (r.head.ss.take k).map (fun s => ((-1 : Int), s)) <+: plS r := by
  refine List.IsPrefix.trans ?_ (List.prefix_append _ _)
  obtain ⟨t, ht⟩ := List.take_prefix k r.head.ss
  exact ⟨t.map fun s => ((-1 : Int), s), by rw [← List.map_append, ht]⟩

theorem load_so {w : World} {g p : Nat} {l : So} (h : CellsAt w g p (soC l)) : (loadVar 37 ⟨g, p, none⟩).run Tryd.prog w = .ok (soV l) w := by
  have hl : (loadCells ⟨g, p, none⟩ 4).run Tryd.prog w = .ok (soC l).toArray w := h.load
  have a1 := Tryd.isAgg37
  have z1 := Tryd.sizeOf37
  simp [loadVar, Sem.run_bind, a1, z1, hl, soC]
theorem CellsAt.slice {w : World} {g : Nat} {cs : List Value} (h : CellsAt w g 0 cs) (k n : Nat) (xs : List Value) (hx : (cs.drop k).take n = xs) : CellsAt w g k xs := fun i v hv => by
  subst hx
  rw [List.getElem?_take] at hv
  split at hv
  · rw [List.getElem?_drop] at hv
    have := h (k + i) v hv
    rwa [Nat.zero_add] at this
  · cases hv
theorem pat_cells {w : World} {g : Nat} {x : Pa} (h : CellsAt w g 0 (paC x)) : ∀ j (hj : j < x.pat.ss.length), CellsAt w g (1 + j * 4) (soC x.pat.ss[j]) := fun j hj => by
  have hj3 : j < 3 := hj
  rcases Nat.lt_succ_iff_lt_or_eq.1 hj3 with h' | h'
  · rcases Nat.lt_succ_iff_lt_or_eq.1 h' with h' | h'
    · obtain rfl : j = 0 := by omega
      exact h.slice 1 4 _ rfl
    · subst h'; exact h.slice 5 4 _ rfl
  · subst h'; exact h.slice 9 4 _ rfl
theorem two_cells {w : World} {g : Nat} {a b : So} (h : CellsAt w g 0 (soC a ++ soC b)) : ∀ j (hj : j < [a, b].length), CellsAt w g (j * 4) (soC [a, b][j]) := fun j hj => by
  have hj2 : j < 2 := hj
  rcases Nat.lt_succ_iff_lt_or_eq.1 hj2 with h' | h'
  · obtain rfl : j = 0 := by omega
    exact h.slice 0 4 _ rfl
  · subst h'; exact h.slice 4 4 _ rfl
abbrev zPa : Array Value := #[.int .i64 0, .string ⟨#[]⟩, .int .i64 0, .string ⟨#[]⟩, .string ⟨#[]⟩, .string ⟨#[]⟩, .int .i64 0, .string ⟨#[]⟩, .string ⟨#[]⟩, .string ⟨#[]⟩, .int .i64 0, .string ⟨#[]⟩, .string ⟨#[]⟩, .string ⟨#[]⟩, .int .i64 0, .string ⟨#[]⟩, .string ⟨#[]⟩, .string ⟨#[]⟩, .int .i64 0, .string ⟨#[]⟩, .string ⟨#[]⟩]
theorem infoPa : (Tryd.prog.info? 43).map (·.size) = some 21 := by kernel_rfl
theorem store_pa (w : World) (x : Pa) : (storeVar 43 ⟨w.heap.size, 0, none⟩ (paW x)).run Tryd.prog (w.alloc (.cells zPa 43)) = .ok () (w.alloc (.cells (paC x).toArray 43)) :=
  run_storeVar_new w 43 zPa (paC x).toArray infoPa rfl (by simp [paC, Value.oneCell'])
set_option maxRecDepth 100000 in
set_option maxHeartbeats 4000000 in
theorem places_seq {wt : World} {rb : Nat} {r : Ru} (hr : CellsAt wt rb 0 (ruC r)) (hB : BodAt wt r.adr r.body) (hL : r.body.length ≤ maxLen) (N0 : Nat) :
    SeqZ Tryd.prog 30 #[.pointer (some ⟨rb, 0, none⟩)] (fun x : Int × So => #[.int .i64 x.1, soV x.2]) KpC (plS r) wt N0 := by
  intro l J0 Jx W hN hW hJ0 hY h0
  have hrW := hr.below hW (lt_of_cell (hr 0 _ rfl))
  have hBW := hB.below hW
  unfold maxLen at hL
  have HJ0 := Lib.hid hJ0; have HY := Lib.hid hY; have H0 := Lib.hid h0; have HR := Lib.hid hrW; have HB := Lib.hid hBW
  clear hJ0 hY h0 hrW hBW hr hB hW hN
  have hfn : ∀ k, Fence.wide.fn k := fun _ => trivial
  refine callsIn_of_wp Tryd.func30 rfl trivial ?_ rfl
  simp only [Tryd.ntmps30, List.size_toArray, List.length_cons, List.length_nil, Nat.reduceAdd, Nat.reduceSub, Array.replicate_succ, Array.replicate_zero, List.push_toArray, List.append_toArray, List.nil_append, List.cons_append]
  have Hld := Lib.hid (load_pn HR.out.head)
  gi_wp2_with (with_reducible refine wpListIn_load_is rfl 40 (Operand.tmp 10) rfl ⟨rb, 0, none⟩ rfl _ Hld.out ?_)
  gi_loopw [12] (fun u wr => ∃ k : Nat, k ≤ 3 ∧ u = .int .i64 k ∧ J0 ((r.head.ss.take k).map fun s => ((-1 : Int), s)) wr ∧ KpC W wr) (fun u _ => 3 - (intOf u).toNat)
  case atStart => exact ⟨0, by omega, rfl, H0.out, KpC.refl _⟩
  case round =>
    obtain ⟨k, hk, rfl, hJw, hKp⟩ := hrel
    have HJw := Lib.hid hJw; have HKp := Lib.hid hKp
    clear hJw hKp
    by_cases hin : k < 3
    · have hx : ∃ x : So, (r.head.ss.take k).map (fun s => ((-1 : Int), s)) ++ [(-1, x)] = (r.head.ss.take (k + 1)).map (fun s => ((-1 : Int), s)) ∧ ∀ w, (Instr.index 40 (pnV r.head) (.int .i64 k)).run Tryd.prog w = .ok (soV x) w := by
        rcases Nat.lt_succ_iff_lt_or_eq.1 hin with h | h
        · rcases Nat.lt_succ_iff_lt_or_eq.1 h with h | h
          · obtain rfl : k = 0 := by omega
            exact ⟨r.head.a, rfl, fun w => by kernel_rfl⟩
          · subst h; exact ⟨r.head.b, rfl, fun w => by kernel_rfl⟩
        · subst h; exact ⟨r.head.c, rfl, fun w => by kernel_rfl⟩
      obtain ⟨⟨xv, ⟨xk, xt, xe⟩⟩, hx1, hix⟩ := hx
      have Hx1 := Lib.hid hx1
      clear hx1
      have hd : decide ((k : Int) < 3) = true := by simp; omega
      have hpf : (r.head.ss.take (k + 1)).map (fun s => ((-1 : Int), s)) <+: plS r := head_pre r (k + 1)
      have hbl := below_alloc (w := wr) (.cells #[.string xv, .int .i64 xk, .string xt, .string xe] 37)
      have hKw := KpC.g hbl
      obtain ⟨fn, tmps, assign, body, hy, hR⟩ := HY.out _ (-1, (⟨xv, ⟨xk, xt, xe⟩⟩ : So)) _ (HJ0.out _ _ _ HJw.out hbl) (by rw [Hx1.out]; exact hpf)
      have Hpf := Lib.hid hpf; have HKw := Lib.hid (HKp.out.t hKw); have HRn := Lib.hid hR
      clear hpf hbl hKw hR
      gi_wp2_with fail
      refine HRn.out.mono ?_
      rintro e W3 ⟨go, rfl, hgo, hst⟩
      have Hgo := Lib.hid hgo; have Hst := Lib.hid hst
      clear hgo hst hy
      cases go with
      | true =>
        gi_wp2_with fail
        go_roundw
        case rel => exact ⟨k + 1, by omega, by push_cast; rfl, by rw [← Hx1.out]; exact (Hgo.out (by trivial)).1, HKw.out.t (Hgo.out (by trivial)).2⟩
        case measure => simp [intOf]; omega
      | false =>
        gi_wp2_with fail
        (try simp only [Exit.inBlock, Exit.then]); refine bodyPost_ret (results_none rfl _ _ _) rfl ?_
        exact ⟨⟨_, rfl⟩, .inr ⟨_, Hpf.out, by rw [← Hx1.out]; exact Hst.out (by trivial)⟩⟩
    · have hd : decide ((k : Int) < 3) = false := by simp; omega
      have Hj := Lib.hid (show J0 (preS r 0 []) wr by
        rw [preS_zero]
        have := HJw.out
        rwa [List.take_of_length_le (show r.head.ss.length ≤ k by show 3 ≤ k; omega)] at this)
      have hcb := (HR.out.kpc HKp.out).body
      simp only [Nat.zero_add] at hcb
      have HB2 := Lib.hid (HB.out.kpc HKp.out)
      clear HJw
      gi_wp2_with fail
      clear hcb
      rename World => W2
      gi_loopw [23] (fun u wr => ∃ i : Nat, i ≤ r.body.length ∧ u = .int .i64 i ∧ J0 (preS r i []) wr ∧ KpC W2 wr) (fun u _ => r.body.length - (intOf u).toNat)
      case atStart => exact ⟨0, by omega, rfl, Hj.out, KpC.refl _⟩
      case round =>
        obtain ⟨i, hi, rfl, hJw, hKp⟩ := hrel
        have HJw := Lib.hid hJw; have HKp := Lib.hid hKp
        clear hJw hKp
        by_cases hin : i < r.body.length
        · have hd : decide ((i : Int) < (r.body.length : Int)) = true := by simp; omega
          obtain ⟨g, o, hadr, hg, hc⟩ := (HB2.out.kpc HKp.out) i hin
          rw [hadr]
          have Hadr := Lib.hid hadr
          obtain ⟨x, hx⟩ : ∃ x, r.body[i] = x := ⟨_, rfl⟩
          rw [hx] at hc
          have Hld := Lib.hid (load_paW hc)
          have Hx := Lib.hid hx
          clear hx hadr hc
          have hsz : (paC x).length = 21 := rfl
          have Hst := Lib.hid (store_pa wr x)
          have hk0 : (paC x)[0]'(by rw [hsz]; omega) = .int .i64 x.kind := rfl
          have hbl := below_alloc (w := wr) (.cells (paC x).toArray 43)
          have Hbox := Lib.hid (CellsAt.box wr (paC x) 43)
          by_cases hk3 : x.kind = 3 ∨ x.kind = 4
          · have Hsl := Lib.hid (show slS x = [x.a, x.b] by unfold slS; rw [if_pos hk3])
            have HlA := Lib.hid (load_so (Hbox.out.slice 13 4 (soC x.a) rfl))
            have HlB := Lib.hid (load_so (Hbox.out.slice 17 4 (soC x.b) rfl))
            have hbox2 := CellsAt.box (wr.alloc (.cells (paC x).toArray 43)) (soC x.a ++ soC x.b) 37
            rw [World.size_alloc] at hbox2
            have hbl2 := below_seq hbl (below_alloc (w := wr.alloc (.cells (paC x).toArray 43)) (.cells (soC x.a ++ soC x.b).toArray 37)) hbl.size
            have HS := Lib.hid (show ∀ j (hj : j < (slS x).length), CellsAt _ _ (j * 4) (soC (slS x)[j]) by simp only [Hsl.out]; exact two_cells hbox2)
            have HJl := Lib.hid (HJ0.out _ _ _ HJw.out hbl2)
            have HKl := Lib.hid (HKp.out.t (KpC.g hbl2))
            clear hbl hbl2 hbox2
            by_cases hk : x.kind = 3
            all_goals
              first
              | (have e3 : (x.kind == 3) = true := beq_iff_eq.2 hk; clear hk hk3)
              | (have e3 : (x.kind == 3) = false := beq_eq_false_iff_ne.2 hk
                 have e4 : (x.kind == 4) = true := beq_iff_eq.2 (hk3.resolve_left hk)
                 clear hk hk3)
              gi_wp2_with (first
                | (with_reducible refine wpListIn_load_is rfl 43 (Operand.tmp 26) rfl ⟨g, o + i * 21, none⟩ rfl _ Hld.out ?_)
                | (with_reducible refine wpListIn_store_is rfl 43 (Operand.tmp 6) (Operand.tmp 27) rfl ⟨wr.heap.size, 0, none⟩ rfl (paW x) rfl _ Hst.out ?_)
                | (with_reducible refine wpListIn_load_is rfl 37 (Operand.tmp 38) rfl ⟨wr.heap.size, 13, none⟩ rfl _ HlA.out ?_)
                | (with_reducible refine wpListIn_load_is rfl 37 (Operand.tmp 40) rfl ⟨wr.heap.size, 17, none⟩ rfl _ HlB.out ?_))
              simp only [soC, List.cons_append, List.nil_append] at HS HJl HKl
              generalize (wr.alloc (.cells (paC x).toArray 43)).alloc (.cells #[.string x.a.var, .int .i64 x.a.tm.kind, .string x.a.tm.text, .string x.a.tm.extra, .string x.b.var, .int .i64 x.b.tm.kind, .string x.b.tm.text, .string x.b.tm.extra] 37) = Wl at *
              clear Hld Hst hk0 Hbox hsz HlA HlB HJw
              generalize wr.heap.size = gb at *
              gi_loopw [45] (fun u wx => ∃ j : Nat, j ≤ 2 ∧ u = .int .i64 j ∧ J0 (preS r i ((slS x).take j)) wx ∧ KpC Wl wx) (fun u _ => 2 - (intOf u).toNat)
              case atStart => exact ⟨0, by omega, rfl, HJl.out, KpC.refl _⟩
              case round =>
                rename World => wx
                obtain ⟨j, hj, rfl, hJw, hKp⟩ := hrel
                have HJw := Lib.hid hJw; have HKp := Lib.hid hKp
                clear hJw hKp
                by_cases hjn : j < 2
                · have hd3 : decide ((j : Int) < 2) = true := by simp; omega
                  have hlen : j < (slS x).length := by rw [Hsl.out]; exact hjn
                  have hls := load_so ((HS.out j hlen).kpc HKp.out)
                  obtain ⟨s, hs⟩ : ∃ s, (slS x)[j] = s := ⟨_, rfl⟩
                  have hnx : preS r i ((slS x).take j) ++ [((i : Int), s)] = preS r i ((slS x).take (j + 1)) := by rw [preS_snoc, List.take_succ_eq_append_getElem hlen, hs]
                  rw [hs] at hls
                  obtain ⟨xv, ⟨xk, xt, xe⟩⟩ := s
                  have hpf : preS r i ((slS x).take (j + 1)) <+: plS r := preS_pre hin (by rw [Hx.out]; exact List.take_prefix _ _)
                  have hbl := below_alloc (w := wx) (.cells #[.string xv, .int .i64 xk, .string xt, .string xe] 37)
                  have hKw := KpC.g hbl
                  obtain ⟨fn, tmps, assign, body, hy, hR⟩ := HY.out _ ((i : Int), (⟨xv, ⟨xk, xt, xe⟩⟩ : So)) _ (HJ0.out _ _ _ HJw.out hbl) (by rw [hnx]; exact hpf)
                  have Hls := Lib.hid hls; have Hnx := Lib.hid hnx; have Hpf := Lib.hid hpf; have HKw := Lib.hid (HKp.out.t hKw); have HRn := Lib.hid hR
                  clear hls hnx hpf hbl hKw hR hs hlen
                  gi_wp2_with (with_reducible refine wpListIn_load_is rfl 37 (Operand.tmp 47) rfl ⟨gb + 1, j * 4, none⟩ rfl _ Hls.out ?_)
                  refine HRn.out.mono ?_
                  rintro e W3 ⟨go, rfl, hgo, hst⟩
                  have Hgo := Lib.hid hgo; have Hst := Lib.hid hst
                  clear hgo hst hy
                  cases go with
                  | true =>
                    gi_wp2_with fail
                    go_roundw
                    case rel => exact ⟨j + 1, by omega, by push_cast; rfl, by rw [← Hnx.out]; exact (Hgo.out (by trivial)).1, HKw.out.t (Hgo.out (by trivial)).2⟩
                    case measure => simp [intOf]; omega
                  | false =>
                    gi_wp2_with fail
                    (try simp only [Exit.inBlock, Exit.then]); refine bodyPost_ret (results_none rfl _ _ _) rfl ?_
                    exact ⟨⟨_, rfl⟩, .inr ⟨_, Hpf.out, by rw [← Hnx.out]; exact Hst.out (by trivial)⟩⟩
                · have hd3 : decide ((j : Int) < 2) = false := by simp; omega
                  have hfull : (slS x).take j = slS r.body[i] := by rw [Hx.out]; exact List.take_of_length_le (by rw [Hsl.out]; show 2 ≤ j; omega)
                  have Hfull := Lib.hid hfull
                  clear hfull
                  gi_wp2_with fail
                  go_roundw
                  case rel => exact ⟨i + 1, by omega, by push_cast; rfl, by rw [← preS_next hin, ← Hfull.out]; exact HJw.out, HKl.out.t HKp.out⟩
                  case measure => simp [intOf]; omega
          · have e3 : (x.kind == 3) = false := beq_eq_false_iff_ne.2 (fun h => hk3 (.inl h))
            have e4 : (x.kind == 4) = false := beq_eq_false_iff_ne.2 (fun h => hk3 (.inr h))
            have Hsl := Lib.hid (show slS x = x.pat.ss by unfold slS; rw [if_neg hk3])
            have HS := Lib.hid (show ∀ j (hj : j < (slS x).length), CellsAt _ _ (1 + j * 4) (soC (slS x)[j]) by simp only [Hsl.out]; exact pat_cells Hbox.out)
            have HJl := Lib.hid (HJ0.out _ _ _ HJw.out hbl)
            have HKl := Lib.hid (HKp.out.t (KpC.g hbl))
            clear hk3 hbl
            gi_wp2_with (first
              | (with_reducible refine wpListIn_load_is rfl 43 (Operand.tmp 26) rfl ⟨g, o + i * 21, none⟩ rfl _ Hld.out ?_)
              | (with_reducible refine wpListIn_store_is rfl 43 (Operand.tmp 6) (Operand.tmp 27) rfl ⟨wr.heap.size, 0, none⟩ rfl (paW x) rfl _ Hst.out ?_))
            generalize wr.alloc (.cells (paC x).toArray 43) = Wl at *
            clear Hld Hst hk0 Hbox hsz HJw
            generalize wr.heap.size = gb at *
            gi_loopw [45] (fun u wx => ∃ j : Nat, j ≤ 3 ∧ u = .int .i64 j ∧ J0 (preS r i ((slS x).take j)) wx ∧ KpC Wl wx) (fun u _ => 3 - (intOf u).toNat)
            case atStart => exact ⟨0, by omega, rfl, HJl.out, KpC.refl _⟩
            case round =>
              rename World => wx
              obtain ⟨j, hj, rfl, hJw, hKp⟩ := hrel
              have HJw := Lib.hid hJw; have HKp := Lib.hid hKp
              clear hJw hKp
              by_cases hjn : j < 3
              · have hd3 : decide ((j : Int) < 3) = true := by simp; omega
                have hlen : j < (slS x).length := by rw [Hsl.out]; exact hjn
                have hls := load_so ((HS.out j hlen).kpc HKp.out)
                obtain ⟨s, hs⟩ : ∃ s, (slS x)[j] = s := ⟨_, rfl⟩
                have hnx : preS r i ((slS x).take j) ++ [((i : Int), s)] = preS r i ((slS x).take (j + 1)) := by rw [preS_snoc, List.take_succ_eq_append_getElem hlen, hs]
                rw [hs] at hls
                obtain ⟨xv, ⟨xk, xt, xe⟩⟩ := s
                have hpf : preS r i ((slS x).take (j + 1)) <+: plS r := preS_pre hin (by rw [Hx.out]; exact List.take_prefix _ _)
                have hbl := below_alloc (w := wx) (.cells #[.string xv, .int .i64 xk, .string xt, .string xe] 37)
                have hKw := KpC.g hbl
                obtain ⟨fn, tmps, assign, body, hy, hR⟩ := HY.out _ ((i : Int), (⟨xv, ⟨xk, xt, xe⟩⟩ : So)) _ (HJ0.out _ _ _ HJw.out hbl) (by rw [hnx]; exact hpf)
                have Hls := Lib.hid hls; have Hnx := Lib.hid hnx; have Hpf := Lib.hid hpf; have HKw := Lib.hid (HKp.out.t hKw); have HRn := Lib.hid hR
                clear hls hnx hpf hbl hKw hR hs hlen
                gi_wp2_with (with_reducible refine wpListIn_load_is rfl 37 (Operand.tmp 47) rfl ⟨gb, 1 + j * 4, none⟩ rfl _ Hls.out ?_)
                refine HRn.out.mono ?_
                rintro e W3 ⟨go, rfl, hgo, hst⟩
                have Hgo := Lib.hid hgo; have Hst := Lib.hid hst
                clear hgo hst hy
                cases go with
                | true =>
                  gi_wp2_with fail
                  go_roundw
                  case rel => exact ⟨j + 1, by omega, by push_cast; rfl, by rw [← Hnx.out]; exact (Hgo.out (by trivial)).1, HKw.out.t (Hgo.out (by trivial)).2⟩
                  case measure => simp [intOf]; omega
                | false =>
                  gi_wp2_with fail
                  (try simp only [Exit.inBlock, Exit.then]); refine bodyPost_ret (results_none rfl _ _ _) rfl ?_
                  exact ⟨⟨_, rfl⟩, .inr ⟨_, Hpf.out, by rw [← Hnx.out]; exact Hst.out (by trivial)⟩⟩
              · have hd3 : decide ((j : Int) < 3) = false := by simp; omega
                have hfull : (slS x).take j = slS r.body[i] := by rw [Hx.out]; exact List.take_of_length_le (by rw [Hsl.out]; show 3 ≤ j; omega)
                have Hfull := Lib.hid hfull
                clear hfull
                gi_wp2_with fail
                go_roundw
                case rel => exact ⟨i + 1, by omega, by push_cast; rfl, by rw [← preS_next hin, ← Hfull.out]; exact HJw.out, HKl.out.t HKp.out⟩
                case measure => simp [intOf]; omega
        · have hd : decide ((i : Int) < (r.body.length : Int)) = false := by simp; omega
          have Hj2 := Lib.hid (show J0 (plS r) wr by
            have := HJw.out
            rwa [show i = r.body.length by omega, preS_end] at this)
          gi_wp2_with fail
          go_end0
          exact ⟨⟨_, rfl⟩, .inl Hj2.out⟩
end Go.Proofs.YtmgaibeibfholaaDoor
