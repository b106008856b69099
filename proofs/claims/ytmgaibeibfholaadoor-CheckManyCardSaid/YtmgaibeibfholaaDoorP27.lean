/- The reference's Vars: walked. -/
import Derived.Test.YtmgaibeibfholaaDoorP26
import Derived.Laws.AppendOwn
namespace Go.Proofs.YtmgaibeibfholaaDoor
set_option maxRecDepth 100000
open Go.RowKit Go.Shelf Go.Maps Plain
set_option linter.unusedVariables false
set_option linter.unusedSimpArgs false

def allR (r : Ru) : List So := r.head.ss ++ r.body.flatMap slR
def vAdd (acc : List ByteArray) (s : So) : List ByteArray := if s.var.size = 0 then acc else if memB acc s.var = true then acc else acc ++ [s.var]
def varsL (l : List So) : List ByteArray := l.foldl vAdd []
theorem varsL_snoc (l : List So) (s : So) : varsL (l ++ [s]) = vAdd (varsL l) s := by unfold varsL; rw [List.foldl_append]; rfl
theorem vAdd_length (acc : List ByteArray) (s : So) : (vAdd acc s).length ≤ acc.length + 1 := by unfold vAdd; (repeat' split) <;> simp
theorem varsL_length (l : List So) : (varsL l).length ≤ l.length := by
  unfold varsL
  have : ∀ (l : List So) (acc : List ByteArray), (l.foldl vAdd acc).length ≤ acc.length + l.length := by
    intro l
    induction l with
    | nil => intro acc; simp
    | cons a l ih => intro acc; rw [List.foldl_cons]; have := ih (vAdd acc a); have := vAdd_length acc a; simp; omega
  simpa using this l []
theorem slR_length (l : Pa) : (slR l).length ≤ 3 := by unfold slR Pn.ss; split <;> simp
theorem soS_length (l : List So) : (l.flatMap soC).length = l.length * 4 := by
  induction l with
  | nil => rfl
  | cons a l ih => rw [List.flatMap_cons, List.length_append, ih]; simp [soC]; omega
theorem soS_get {l : List So} {k : Nat} (h : k < l.length) : (l.flatMap soC)[k * 4]? = some (.string l[k].var) := by
  induction l generalizing k with
  | nil => simp at h
  | cons a l ih =>
    rw [List.flatMap_cons]
    cases k with
    | zero => rfl
    | succ k =>
      rw [List.getElem?_append_right (by simp [soC]; omega)]
      have e : (k + 1) * 4 - (soC a).length = k * 4 := by simp [soC]; omega
      rw [e, ih (by simpa using h)]
      rfl
theorem Tryd.infoSoP : (Tryd.prog.info? 37).map (fun i => (i.zero, i.size, i.bytes)) = some (some (.agg #[.string ⟨#[]⟩, .int .i64 0, .string ⟨#[]⟩, .string ⟨#[]⟩]), 4, 56) := by kernel_rfl
theorem Tryd.infoStP : (Tryd.prog.info? 9).map (fun i => (i.zero, i.size, i.bytes)) = some (some (.string ⟨#[]⟩), 1, 16) := by kernel_rfl
theorem allR_take {r : Ru} {k : Nat} (h : k < r.body.length) : r.head.ss ++ (r.body.take (k + 1)).flatMap slR = (r.head.ss ++ (r.body.take k).flatMap slR) ++ slR r.body[k] := by
  rw [List.take_succ_eq_append_getElem h, List.flatMap_append, List.append_assoc]; simp
theorem allR_end {r : Ru} {k : Nat} (h : r.body.length ≤ k) : r.head.ss ++ (r.body.take k).flatMap slR = allR r := by
  rw [List.take_of_length_le h]; rfl
theorem row_form {w : World} {base n size : Nat} {e : TypeId} {v : Value} {xs : List Value} (h : w.ownsRow base e size v n xs) : ∃ a cap, v = .slice a n cap := by
  rcases h.2 with ⟨rfl, rfl⟩ | ⟨g, cap, cur, rfl, _⟩
  · exact ⟨_, _, rfl⟩
  · exact ⟨_, _, rfl⟩
theorem row_strs {w : World} {base : Nat} {e : TypeId} {a : Option Addr} {cap : Nat} {l : List ByteArray} (h : w.ownsRow base e 1 (.slice a l.length cap) l.length (l.map Value.string)) : StrAt w a l := fun j hj => by
  rcases h.2 with ⟨he, h0⟩ | ⟨g, c, cur, he, _, hg, _⟩
  · omega
  · injection he with e1 _ _
    subst e1
    refine ⟨g, 0, rfl, lt_of_heap hg, ?_⟩
    have := h.cells (g := g) rfl j (.string l[j]) (by simp [hj])
    rw [add_off] at this
    exact this
theorem row_below {w0 w w' : World} {B base n size : Nat} {e : TypeId} {v : Value} {xs : List Value} (h : Below B w0 w) (hO : w.ownsRow base e size v n xs) (hg : w.grownBy w' v.ownBlock) (hB : B ≤ base) (hs : B ≤ w.heap.size) : Below B w0 w' :=
  h.grown hg hs (fun k hk => Nat.le_trans hB (hO.lt k hk).1)
theorem one_cells {l : List So} : ∀ u ∈ l.flatMap soC, u.oneCell' = true := by
  intro u hu
  obtain ⟨s, _, hs⟩ := List.mem_flatMap.1 hu
  simp only [soC, List.mem_cons, List.mem_nil_iff, or_false] at hs
  rcases hs with rfl | rfl | rfl | rfl <;> rfl
theorem CellsAt.at' {w : World} {g : Nat} {cs : List Value} (h : CellsAt w g 0 cs) : ∀ j u, cs[j]? = some u → w.cell? ((⟨g, 0, none⟩ : Addr).add j) = some u := fun j u hu => by
  have := h j u hu
  rw [add_off]; exact this
theorem row_base {w : World} {base base' n size : Nat} {e : TypeId} {v : Value} {xs : List Value} (h : w.ownsRow base e size v n xs) (hb : base' ≤ base) : w.ownsRow base' e size v n xs := by
  refine ⟨h.1, ?_⟩
  rcases h.2 with h | ⟨g, cap, cur, e1, h1, rest⟩
  · exact .inl h
  · exact .inr ⟨g, cap, cur, e1, Nat.le_trans hb h1, rest⟩
theorem row_cells {w : World} {base n size g cap : Nat} {e : TypeId} {xs : List Value} (h : w.ownsRow base e size (.slice (some ⟨g, 0, none⟩) n cap) n xs) : CellsAt w g 0 xs := fun i v hv => by
  have := h.cells (g := g) rfl i v hv
  rw [add_off] at this; exact this

set_option maxRecDepth 100000 in
set_option maxHeartbeats 4000000 in
theorem rvars_any (r : Ru) (hL : r.body.length ≤ 100000) (w : World) (hB : BodAt w r.adr r.body) :
    Calls Tryd.prog 24 #[ruV r] w fun e w' => ∃ v, e = .returned v ∧ w'.ownsRow w.heap.size 9 1 v (varsL (allR r)).length ((varsL (allR r)).map Value.string) ∧ Below w.heap.size w w' := by
  have hsz : (ruC r).length = 13 := rfl
  have hbl := below_alloc (w := w) (.cells (ruC r).toArray 46)
  have hbox := CellsAt.box w (ruC r) 46
  have H1 := Lib.hid (load_so (hbox.head.slice 0 4 (soC r.head.a) rfl))
  have H2 := Lib.hid (load_so (hbox.head.slice 4 4 (soC r.head.b) rfl))
  have H3 := Lib.hid (load_so (hbox.head.slice 8 4 (soC r.head.c) rfl))
  have hb2 := below_alloc (w := w.alloc (.cells (ruC r).toArray 46)) (.cells (r.head.ss.flatMap soC).toArray 37)
  have hbox2 := hbox.below hb2 (by simp)
  have hbod2 := (hB.below hbl).below hb2
  have hz2 : ((w.alloc (.cells (ruC r).toArray 46)).alloc (.cells (r.head.ss.flatMap soC).toArray 37)).heap.size = w.heap.size + 2 := by simp
  have hw2 := below_seq hbl hb2 hbl.size
  have hown : ((w.alloc (.cells (ruC r).toArray 46)).alloc (.cells (r.head.ss.flatMap soC).toArray 37)).ownsRow (w.heap.size + 1) 37 4 (.slice (some ⟨w.heap.size + 1, 0, none⟩) 3 3) 3 (r.head.ss.flatMap soC) :=
    ⟨rfl, .inr ⟨w.heap.size + 1, 3, _, rfl, Nat.le_refl _, by have := World.alloc_heap_new (w.alloc (.cells (ruC r).toArray 46)) (.cells (r.head.ss.flatMap soC).toArray 37); rwa [World.size_alloc] at this, Nat.le_refl _, by decide, rfl, rfl⟩⟩
  show Calls _ _ #[.agg (ruC r).toArray] _ _
  go_enter Tryd.func24, Tryd.ntmps24
  go_wp2_with (first
    | (with_reducible refine wpList_load_is rfl 37 (Operand.tmp 8) rfl ⟨w.heap.size, 0, none⟩ rfl _ H1.out ?_)
    | (with_reducible refine wpList_load_is rfl 37 (Operand.tmp 11) rfl ⟨w.heap.size, 4, none⟩ rfl _ H2.out ?_)
    | (with_reducible refine wpList_load_is rfl 37 (Operand.tmp 14) rfl ⟨w.heap.size, 8, none⟩ rfl _ H3.out ?_))
  change Code.wp _ _ _ _ ((w.alloc (.cells (ruC r).toArray 46)).alloc (.cells (r.head.ss.flatMap soC).toArray 37))
  generalize (w.alloc (.cells (ruC r).toArray 46)).alloc (.cells (r.head.ss.flatMap soC).toArray 37) = W2 at *
  obtain ⟨i0, hi0, hi1, hi2, hi3⟩ := info_parts Tryd.infoSoP
  obtain ⟨j0, hj0, hj1, hj2, hj3⟩ := info_parts Tryd.infoStP
  have I0 := Lib.hid hi0; have I1 := Lib.hid hi1; have I2 := Lib.hid hi2; have I3 := Lib.hid hi3
  have J0 := Lib.hid hj0; have J1 := Lib.hid hj1; have J2 := Lib.hid hj2; have J3 := Lib.hid hj3
  have Hbox := Lib.hid hbox2; have HBd := Lib.hid hB; have Hz2 := Lib.hid hz2; have Hw2 := Lib.hid hw2; have Hown := Lib.hid hown
  clear hi0 hi1 hi2 hi3 hj0 hj1 hj2 hj3 hbl hbox hb2 hbox2 hbod2 hz2 hw2 hown hB H1 H2 H3 hsz
  go_loopw [4, 5] (fun u4 u5 wr => ∃ (k : Nat) (cap : Nat) (a : Option Addr) (n : Nat), k ≤ r.body.length ∧ u5 = .int .i64 k ∧ u4 = .slice a n cap ∧ n = (r.head.ss ++ (r.body.take k).flatMap slR).length ∧ n ≤ 3 + 3 * k ∧
      wr.ownsRow (w.heap.size + 1) 37 4 (.slice a n cap) n ((r.head.ss ++ (r.body.take k).flatMap slR).flatMap soC) ∧ Below (w.heap.size + 1) W2 wr) (fun _ u _ => r.body.length - (intOf u).toNat)
  case atStart => exact ⟨0, 3, _, 3, by omega, rfl, rfl, by simp [Pn.ss], by omega, by simpa using Hown.out, Below.refl _ _⟩
  case round =>
    obtain ⟨k, cap, a, n, hk, rfl, rfl, hn, hnk, hO, hBw⟩ := hrel
    have HO := Lib.hid hO; have HBw := Lib.hid hBw; have Hn := Lib.hid hn
    clear hO hBw hn
    have hcb := (Hbox.out.below HBw.out (by omega)).body
    simp only [Nat.zero_add] at hcb
    by_cases hin : k < r.body.length
    · have hd : decide ((k : Int) < (r.body.length : Int)) = true := by simp; omega
      obtain ⟨g, o, hadr, hg, hc⟩ := HBd.out k hin
      have hBx := Hw2.out.trans (HBw.out.mono (by omega))
      have hld := load_paW (hc.below hBx hg)
      obtain ⟨x, hx⟩ : ∃ x, r.body[k] = x := ⟨_, rfl⟩
      rw [hx] at hld
      rw [hadr] at hcb
      have Hld := Lib.hid hld; have Hx := Lib.hid hx; have Hadr := Lib.hid hadr
      have Hm := Lib.hid (slR_length x)
      have hn1 : (slR x).length ≤ 3 := Hm.out
      have hnew := (CellsAt.box (wr.alloc (.cells (paC x).toArray 43)) ((slR x).flatMap soC) 37).at'
      rw [World.size_alloc] at hnew
      have HOn := Lib.hid ((HO.out.alloc (.cells (paC x).toArray 43)).alloc (.cells ((slR x).flatMap soC).toArray 37))
      have hz : w.heap.size + 1 ≤ ((wr.alloc (.cells (paC x).toArray 43)).alloc (.cells ((slR x).flatMap soC).toArray 37)).heap.size := by have := HBw.out.size; have := Hz2.out; simp; omega
      have hBn := HBw.out.trans ((below_seq (below_alloc (w := wr) (.cells (paC x).toArray 43)) (below_alloc (.cells ((slR x).flatMap soC).toArray 37)) (by simp)).mono (by have := HBw.out.size; have := Hz2.out; omega))
      have Hnew := Lib.hid hnew; have Hz := Lib.hid hz; have HBn := Lib.hid hBn
      clear hld hx hadr hc hg hnew hz hBn hBx
      go_wp2_with (first
        | (with_reducible refine wpList_load_is rfl 43 (Operand.tmp 28) rfl ⟨g, o + k * 21, none⟩ rfl _ Hld.out ?_)
        | (go_at_call 33; refine (slots_any x _).mono ?_; rintro e w2 ⟨rfl, hw2⟩; rw [hw2])
        | (at_builtin; refine wpList_append_own _ rfl _ _ 68 rfl (w.heap.size + 1) 37 i0 _ 4 56 Tryd.underlying68 I0.out I1.out I2.out I3.out rfl (by decide) _ _ _ rfl HOn.out ⟨wr.heap.size + 1, 0, none⟩ (slR x).length (slR x).length ((slR x).flatMap soC) rfl (soS_length _) Hnew.out one_cells (by unfold maxLen; omega) (by omega) Hz.out ?_; intro v' w3 hown' hgrow _; obtain ⟨a', cap', rfl⟩ := row_form hown'; have Hown' := Lib.hid hown'; have Hgrow := Lib.hid hgrow; clear hown' hgrow))
      have Htk := Lib.hid (show r.head.ss ++ (r.body.take (k + 1)).flatMap slR = (r.head.ss ++ (r.body.take k).flatMap slR) ++ slR x by rw [allR_take hin, Hx.out])
      refine ⟨⟨k + 1, cap', a', n + (slR x).length, by omega, by simp, rfl, by rw [Htk.out, List.length_append, ← Hn.out], by have := Hm.out; omega, by rw [Htk.out, List.flatMap_append]; exact Hown'.out, ?_⟩, by simp [intOf]; omega⟩
      exact row_below HBn.out HOn.out Hgrow.out (Nat.le_refl _) Hz.out
    · have hd : decide ((k : Int) < (r.body.length : Int)) = false := by simp; omega
      have hall := allR_end (r := r) (k := k) (by omega)
      have hO := HO.out
      have hn := Hn.out
      rw [hall] at hO hn
      have h3 : 3 ≤ n := by rw [hn]; unfold allR; simp [Pn.ss]
      obtain ⟨g, rfl⟩ : ∃ g, a = some ⟨g, 0, none⟩ := by
        rcases hO.2 with ⟨he, h0⟩ | ⟨g, c, cur, he, _⟩
        · omega
        · injection he with e1 _ _; exact ⟨g, e1⟩
      have hcs := row_cells hO
      have hgl := (hO.lt g rfl).2
      have Hcs := Lib.hid hcs; have Hn3 := Lib.hid hn; have Hgl := Lib.hid hgl
      clear hO hn hall hcs hgl HO Hn
      rename World => W3
      have HB3 := Lib.hid (Hw2.out.trans (HBw.out.mono (by omega)))
      clear HBw
      go_wp2_with fail
      clear hcb
      go_loopw [3, 6] (fun u3 u6 wr => ∃ (i : Nat) (cap : Nat) (a : Option Addr), i ≤ n ∧ u6 = .int .i64 i ∧ u3 = .slice a (varsL ((allR r).take i)).length cap ∧
          wr.ownsRow W3.heap.size 9 1 (.slice a (varsL ((allR r).take i)).length cap) (varsL ((allR r).take i)).length ((varsL ((allR r).take i)).map Value.string) ∧ Below W3.heap.size W3 wr) (fun _ u _ => n - (intOf u).toNat)
      case atStart => exact ⟨0, 0, none, by omega, rfl, rfl, World.ownsRow_nil _ _ _ _, Below.refl _ _⟩
      case round =>
        obtain ⟨i, cap2, a2, hi, rfl, rfl, hO, hBw⟩ := hrel
        have HO := Lib.hid hO; have HBw := Lib.hid hBw
        clear hO hBw
        by_cases hin2 : i < n
        · have hd2 : decide ((i : Int) < (n : Int)) = true := by simp; omega
          have hil : i < (allR r).length := by rw [← Hn3.out]; exact hin2
          have hc0 := (Hcs.out.below HBw.out Hgl.out) (i * 4) _ (soS_get hil)
          simp only [Nat.zero_add] at hc0
          obtain ⟨s, hs⟩ : ∃ s, (allR r)[i] = s := ⟨_, rfl⟩
          have Htk := Lib.hid (show varsL ((allR r).take (i + 1)) = vAdd (varsL ((allR r).take i)) s by rw [List.take_succ_eq_append_getElem hil, varsL_snoc, hs])
          rw [hs] at hc0
          have hvl : (varsL ((allR r).take i)).length ≤ i := Nat.le_trans (varsL_length _) (List.length_take_le _ _)
          obtain ⟨out, hout⟩ : ∃ out, varsL ((allR r).take i) = out := ⟨_, rfl⟩
          rw [hout] at Htk HO hvl
          rw [hout]
          have hem := empty_is s.var
          clear hs hil hout
          by_cases hz : s.var.size = 0
          · rw [decide_eq_true hz] at hem
            have Ha := Lib.hid (show vAdd out s = out by unfold vAdd; rw [if_pos hz])
            clear hz
            go_wp2_with fail
            refine ⟨⟨i + 1, cap2, a2, by omega, by simp, by rw [Htk.out, Ha.out], by rw [Htk.out, Ha.out]; exact HO.out, HBw.out⟩, by simp [intOf]; omega⟩
          · rw [decide_eq_false hz] at hem
            obtain ⟨c, hc⟩ : ∃ c, memB out s.var = c := ⟨_, rfl⟩
            have Hst := Lib.hid (row_strs HO.out)
            have Hc := Lib.hid hc
            cases c
            · have Ha := Lib.hid (show vAdd out s = out ++ [s.var] by unfold vAdd; rw [if_neg hz, if_neg (by rw [hc]; simp)])
              clear hz hc
              have hnew := (CellsAt.box wr [.string s.var] 9).at'
              have hB1 := below_alloc (w := wr) (.cells #[.string s.var] 9)
              have hz1 : W3.heap.size ≤ (wr.alloc (.cells #[.string s.var] 9)).heap.size := by have := HBw.out.size; simp; omega
              have HBn := Lib.hid (HBw.out.trans (hB1.mono HBw.out.size))
              have Hnew := Lib.hid hnew; have Hz1 := Lib.hid hz1
              have HOn := Lib.hid (HO.out.alloc (.cells #[.string s.var] 9))
              clear hnew hB1 hz1
              go_wp2_with (first
                | (go_at_call 25; refine (in_any a2 cap2 out s.var (by unfold maxLen; omega) _ Hst.out).mono ?_; rintro e w2 ⟨rfl, rfl⟩; rw [Hc.out])
                | (at_builtin; refine wpList_append_own _ rfl _ _ 61 rfl W3.heap.size 9 j0 _ 1 16 Tryd.underlying61 J0.out J1.out J2.out J3.out rfl (by decide) _ _ _ rfl HOn.out ⟨wr.heap.size, 0, none⟩ 1 1 [.string s.var] rfl rfl Hnew.out (by simp [Value.oneCell']) (by unfold maxLen; omega) (by omega) Hz1.out ?_; intro v' w3 hown' hgrow _; obtain ⟨a', cap', rfl⟩ := row_form hown'; have Hown' := Lib.hid hown'; have Hgrow := Lib.hid hgrow; clear hown' hgrow))
              refine ⟨⟨i + 1, cap', a', by omega, by simp, by rw [Htk.out, Ha.out, List.length_append]; rfl, ?_, row_below HBn.out HOn.out Hgrow.out (Nat.le_refl _) Hz1.out⟩, by simp [intOf]; omega⟩
              rw [Htk.out, Ha.out, List.length_append, List.map_append]
              exact Hown'.out
            · have Ha := Lib.hid (show vAdd out s = out by unfold vAdd; rw [if_neg hz, if_pos hc])
              clear hz hc
              go_wp2_with (go_at_call 25; refine (in_any a2 cap2 out s.var (by unfold maxLen; omega) _ Hst.out).mono ?_; rintro e w2 ⟨rfl, rfl⟩; rw [Hc.out])
              refine ⟨⟨i + 1, cap2, a2, by omega, by simp, by rw [Htk.out, Ha.out], by rw [Htk.out, Ha.out]; exact HO.out, HBw.out⟩, by simp [intOf]; omega⟩
        · have hd2 : decide ((i : Int) < (n : Int)) = false := by simp; omega
          have hfull : (allR r).take i = allR r := List.take_of_length_le (by rw [← Hn3.out]; omega)
          have hO := HO.out
          rw [hfull] at hO
          have Hfull := Lib.hid hfull
          have HO2 := Lib.hid hO
          clear hfull hO
          go_wp2_with fail
          go_ret
          refine ⟨_, rfl, ?_, below_seq HB3.out HBw.out HB3.out.size⟩
          rw [Hfull.out]
          exact row_base HO2.out HB3.out.size
end Go.Proofs.YtmgaibeibfholaaDoor
