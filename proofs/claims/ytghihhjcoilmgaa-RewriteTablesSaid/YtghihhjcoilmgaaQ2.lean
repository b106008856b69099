/- slices.Values and what collects: iterators over numbers. -/
import Derived.Test.YtghihhjcoilmgaaV14
import Derived.RangeFuncNested
import Derived.RangeFuncBound
import Derived.RangeFuncCalls
import Derived.RangeFuncLeaves
import Derived.RangeFuncBox
import Derived.RangeFuncFrom
import Derived.Shelf.Abstract
import Derived.Shelf.RegionOpen
import Derived.OwnWalkIn
import Derived.TacticsInMore
import Derived.LoopNIn
import Derived.LoopIn
namespace Go.Proofs.Ytghihhjcoilmgaa
set_option maxRecDepth 100000
open Go.RowKit Go.Shelf Go.Maps
set_option linter.unusedVariables false
set_option linter.unusedSimpArgs false
attribute [local go_sem] Oper.semAt_some

/-- the numbers L lie at the slice's address -/
def IsU (w : World) (a : Option Addr) (L : List Int) : Prop := ∀ j (h : j < L.length), ∃ b, a = some ⟨b, 0, none⟩ ∧ b < w.heap.size ∧ w.cell? ⟨b, j, none⟩ = some (.int .u32 L[j])
theorem IsU.low {w w' : World} {a : Option Addr} {L : List Int} (h : IsU w a L) (hs : w.heap.size ≤ w'.heap.size) (hb : ∀ i, i < w.heap.size → w'.heap[i]? = w.heap[i]?) : IsU w' a L := by
  intro j hj
  obtain ⟨b, h1, h2, h3⟩ := h j hj
  exact ⟨b, h1, Nat.lt_of_lt_of_le h2 hs, (World.cell?_of_block (w := w) (w' := w') (a := ⟨b, j, none⟩) (hb b h2)).trans h3⟩
theorem IsU.below {w w' : World} {a : Option Addr} {L : List Int} (h : IsU w a L) (hb : Below w.heap.size w w') : IsU w' a L := h.low hb.size hb.block
theorem IsU.nil (w : World) (a : Option Addr) : IsU w a [] := fun j h => by simp at h
theorem OwnU.u {base : Nat} {w : World} {v : Value} {L : List Int} (h : OwnU base w v L) : ∃ a cap, v = .slice a L.length cap ∧ L.length ≤ cap ∧ cap ≤ maxLen ∧ IsU w a L := by
  rcases h.isA with ⟨rfl, rfl⟩ | ⟨g, cap, rfl, hb, hA⟩
  · exact ⟨none, 0, rfl, by simp, by simp [maxLen], IsU.nil _ _⟩
  · exact ⟨_, cap, rfl, hA.le, hA.lem, fun j hj => ⟨g, rfl, hA.lt, by have := (hA.at hj).1; simpa [hj] using this⟩⟩
/-- what an iterator's rounds keep: what lay below B, and what walks -/
def KpB (B : Nat) (W W' : World) : Prop := (∀ i, i < B → W'.heap[i]? = W.heap[i]?) ∧ KeepsWalks W W'
theorem KpB.t {B : Nat} : ∀ {X Y Z : World}, KpB B X Y → KpB B Y Z → KpB B X Z := fun h k => ⟨fun i hi => (k.1 i hi).trans (h.1 i hi), h.2.trans k.2⟩
theorem KpB.refl (B : Nat) (W : World) : KpB B W W := ⟨fun _ _ => rfl, KeepsWalks.refl W⟩
theorem KpB.b {B n : Nat} (hB : B ≤ n) (W : World) (l : Nat) (o o' : Obj) (hn : n ≤ l) (hl : W.heap[l]? = some o) (hc : o.isCells = false) (hw : o.isWalk = false) : KpB B W (W.putObj l o') :=
  ⟨fun i hi => World.putObj_heap_other (by omega), KeepsWalks.putObj _ hl hw⟩

set_option maxRecDepth 100000 in
theorem values_any (a : Option Addr) (n cap : Nat) (w : World) :
    Calls Try.prog 44 #[.slice a n cap] w fun e w' => e = .returned (.func (.func 50) #[] #[.pointer (some ⟨w.heap.size, 0, none⟩)]) ∧ w' = w.alloc (.cells #[.slice a n cap] 23) := by
  go_enter Try.func44, Try.ntmps44
  go_wp2
  go_ret
  exact ⟨rfl, rfl⟩

set_option maxRecDepth 100000 in
set_option maxHeartbeats 2000000 in
theorem values1_in (n l vb N cap : Nat) (a : Option Addr) (L : List Int) (hN : L.length ≤ N) (hL : L.length ≤ 1000000) (B : Nat) (J Jx : List Int → World → Prop)
    (hY : ∀ pre x W, J pre W → pre.length < N → YieldAt Fence.wide (n - 1) Try.prog l #[.int .u32 x] W fun e W' =>
      (e = .returned (.bool true) ∧ J (pre ++ [x]) W' ∧ KpB B W W') ∨ (e = .returned (.bool false) ∧ Jx (pre ++ [x]) W'))
    (W : World) (hvb : W.cell? ⟨vb, 0, none⟩ = some (.slice a L.length cap)) (hU : ∀ j (h : j < L.length), ∃ b, a = some ⟨b, 0, none⟩ ∧ b < B ∧ W.cell? ⟨b, j, none⟩ = some (.int .u32 L[j])) (h0 : J [] W) :
    CallsIn Fence.wide n Try.prog 50 #[.func (.yield l) #[] #[], .pointer (some ⟨vb, 0, none⟩)] W fun e W' => (∃ v, e = .returned v) ∧
      ((∃ ys, ys = L ∧ J ys W') ∨ (∃ pre, pre <+: L ∧ Jx pre W')) := by
  have HY := Lib.hid hY; clear hY
  have HU := Lib.hid hU
  obtain ⟨k, hk⟩ : ∃ k, L.length = k := ⟨_, rfl⟩
  rw [hk] at hvb hN hL
  have Hk := Lib.hid hk
  clear hU hk
  refine callsIn_of_wp Try.func50 rfl trivial ?_ rfl
  simp only [Try.ntmps50, List.size_toArray, List.length_cons, List.length_nil, Nat.reduceAdd, Nat.reduceSub, Array.replicate_succ, Array.replicate_zero, List.push_toArray, List.append_toArray, List.nil_append, List.cons_append]
  gi_wp2
  gi_loopw [7] (fun i wr => ∃ p : Nat, p ≤ k ∧ i = .int .i64 p ∧ J (L.take p) wr ∧ KpB B W wr) (fun i _ => k - (intOf i).toNat)
  case atStart => exact ⟨0, by omega, rfl, h0, KpB.refl _ _⟩
  case round =>
    obtain ⟨p, hp, rfl, hJ, hb⟩ := hrel
    have HJ := Lib.hid hJ; have Hb := Lib.hid hb
    clear hJ hb
    by_cases hlt : p < k
    · have hd : decide ((p : Int) < (k : Int)) = true := by simp; omega
      have hlt2 : p < L.length := by rw [Hk.out]; exact hlt
      obtain ⟨b, rfl, hbB, hc⟩ := HU.out p hlt2
      have hcx : wr.cell? ⟨b, p, none⟩ = some (.int .u32 L[p]) := (World.cell?_of_block (w := W) (w' := wr) (a := ⟨b, p, none⟩) (Hb.out.1 b hbB)).trans hc
      have hlen : (L.take p).length < N := by rw [List.length_take]; omega
      have hts : L.take p ++ [L[p]] = L.take (p + 1) := by rw [List.take_succ_eq_append_getElem hlt2]
      obtain ⟨fn, tmps, assign, body, hy, hR⟩ := HY.out (L.take p) L[p] wr HJ.out hlen
      rw [hts] at hR
      obtain ⟨x, hx⟩ : ∃ x, x = L[p] := ⟨_, rfl⟩
      rw [← hx] at hcx hy
      have HR := Lib.hid hR; clear hR hc hts hx hlt2
      gi_wp2
      refine ⟨fun hh => absurd hh (by decide), ?_⟩
      refine HR.out.mono ?_
      rintro e W3 (⟨rfl, hJ3, hk3⟩ | ⟨rfl, hJx3⟩)
      · have HJ3 := Lib.hid hJ3; have Hk3 := Lib.hid hk3; clear hJ3 hk3
        gi_wp2
        go_roundw
        case rel => exact ⟨p + 1, by omega, by push_cast; rfl, HJ3.out, Hb.out.t Hk3.out⟩
        case measure => simp [intOf]; omega
      · have HJx3 := Lib.hid hJx3; clear hJx3
        gi_wp2
        refine bodyPost_ret (results_none rfl _ _ _) rfl ?_
        exact ⟨⟨_, rfl⟩, .inr ⟨_, List.take_prefix _ _, HJx3.out⟩⟩
    · have hd : decide ((p : Int) < (k : Int)) = false := by simp; omega
      gi_wp2
      go_end0
      refine ⟨⟨_, rfl⟩, .inl ⟨L, rfl, ?_⟩⟩
      have := HJ.out
      rwa [List.take_of_length_le (by rw [Hk.out]; omega)] at this

theorem values_stops (n vb N cap : Nat) (a : Option Addr) (L : List Int) (hN : L.length ≤ N) (hL : L.length ≤ 1000000) (w : World) (hvl : vb < w.heap.size) (hvb : w.cell? ⟨vb, 0, none⟩ = some (.slice a L.length cap)) (hU : IsU w a L) :
    SeqStopsK Fence.wide n Try.prog 50 #[.pointer (some ⟨vb, 0, none⟩)] (fun x : Int => #[Value.int .u32 x]) (KpB w.heap.size) (fun ys => ys = L) (fun pre => pre <+: L) N w := fun l J Jx W hW _ _ hY h0 =>
  values1_in n l vb N cap a L hN hL w.heap.size J Jx hY W ((hW.cell (p := ⟨vb, 0, none⟩) hvl).trans hvb) (fun j h => by
    obtain ⟨b, h1, h2, h3⟩ := hU j h
    exact ⟨b, h1, h2, (hW.cell (p := ⟨b, j, none⟩) h2).trans h3⟩) h0

theorem Try.info32 : (Try.prog.info? 31).map (fun i => (i.zero, i.size, i.bytes)) = some (some (.int .u32 0), 1, 4) := by kernel_rfl
theorem Boxed.kpb {B b : Nat} {W W' : World} (h : KeepsOthers W W') (hb : Below B W W') : KpB B W W' := ⟨fun i hi => hb.block i hi, h.walks⟩
set_option maxRecDepth 100000 in
set_option maxHeartbeats 2000000 in
/-- slices.AppendSeq(nil, seq): what the iterator gives -/
theorem appendSeq_in (gf : Nat) (lb : Array Value) (S : List Int → Prop) (Sp : List Int → Prop) (N : Nat) (hN : N ≤ 1000000) (w : World) (heg : ∀ args w, (callFunc gf args).run Try.prog w = .ok (.enter gf args) w)
    (hseq : SeqStopsK Fence.wide 8 Try.prog gf lb (fun x : Int => #[Value.int .u32 x]) (KpB w.heap.size) S Sp N w) :
    CallsIn Fence.wide 9 Try.prog 51 #[.slice none 0 0, .func (.func gf) #[] lb] w fun e W' => ∃ v ss, e = .returned v ∧ S ss ∧ OwnU w.heap.size W' v ss ∧ Below w.heap.size w W' := by
  have hfn : ∀ k, Fence.wide.fn k := fun _ => trivial
  obtain ⟨i0, hi, hz0, hz1, hz2⟩ := info_parts Try.info32
  have Hi := Lib.hid hi; have Hz0 := Lib.hid hz0; have Hz1 := Lib.hid hz1; have Hz2 := Lib.hid hz2
  clear hi hz0 hz1 hz2
  refine callsIn_of_wp_marks Try.func51 rfl trivial ?_ rfl
  simp only [Try.ntmps51, List.size_toArray, List.length_cons, List.length_nil, Nat.reduceAdd, Nat.reduceSub, Array.replicate_succ, Array.replicate_zero, List.push_toArray, List.append_toArray, List.nil_append, List.cons_append]
  gi_wp2
  have bO := Boxed.new w 23 (.slice none 0 0)
  generalize hw0 : w.alloc (.cells #[.slice none 0 0] 23) = w0 at *
  have z0 : w0.heap.size = w.heap.size + 1 := by rw [← hw0]; simp
  have b0 : Below w.heap.size w w0 := by rw [← hw0]; exact (Below.refl _ w).alloc (Nat.le_refl _) _
  refine wpIn_rangeFunc_ownG rfl (by decide) (gf := gf) (lb := lb) rfl trivial heg
    (hseq) KpB.t (KpB.b (by omega)) b0 (fun _ => rfl)
    (fun pre W => (∃ v, Boxed W w.heap.size 23 v ∧ W.ownsRow w.heap.size 31 1 v pre.length (pre.map (Value.int .u32)) ∧ True) ∧ Below w.heap.size w W)
    (fun _ _ _ => False)
    (OwnFrom.and (Own.from (holdsRow_own w.heap.size w.heap.size 23 31 1 (fun pre : List Int => pre.length) (fun pre : List Int => pre.map (Value.int .u32)) (fun _ _ => True)) _) (ownFrom_below (Nat.le_refl _) (by omega)))
    (fun _ _ _ _ _ hs _ _ => hs)
    ⟨⟨_, bO, World.ownsRow_nil _ _ _ _, trivial⟩, b0⟩
    (fun x => { tmps := #[.slice none 0 0, .func (.func gf) #[] lb, .pointer (some ⟨w.heap.size, 0, none⟩), undef, .slice none 0 0, .int .u32 x, .func (.func gf) #[] lb, .int .u32 x, undef, undef, undef, undef, undef], defers := [] }) ?assign ?body ?done ?stop
  case assign =>
    intro l x W K hK
    gi_wp2
    exact hK
  case body =>
    rintro l pre x W ⟨⟨v, hv, hrow, _⟩, hB⟩ hlt
    have hc := hv.cell
    have HB := Lib.hid hB; have Hr := Lib.hid hrow; have HV := Lib.hid hv; clear hB hrow hv
    gi_wp2_with (gi_at_builtin; refine wpListIn_append_own _ rfl _ _ 23 rfl w.heap.size 31 i0 (.int .u32 0) 1 4 Try.underlying23 Hi.out Hz0.out Hz1.out Hz2.out rfl (by decide) _ _ _ rfl (Hr.out.alloc _) ⟨W.heap.size, 0, none⟩ 1 1 [.int .u32 x] rfl rfl (cell_one_new _ _ _) (by simp [Value.oneCell']) (by unfold maxLen; omega) (by omega) (by have := HB.out.size; simp; omega) ?_; intro v' w1 hown' hgrow _; obtain ⟨g', cap', rfl⟩ := ownsRow_succ hown'; obtain ⟨hv1, hv2, hr2, hk2, hb2⟩ := HV.out.appended (by decide) Hr.out HB.out.size (Nat.le_refl _) hown' hgrow; have hc1 := hv1.cell; have hf1 := hv1.frozen; have HV2 := Lib.hid hv2; have HR2 := Lib.hid hr2; have HK2 := Lib.hid hk2; have HB2 := Lib.hid hb2; clear hv1 hv2 hr2 hk2 hb2 hgrow hown'; go_frame)
    refine ⟨HK2.out.from _, ⟨fun i hi => HB2.out.block i hi, HK2.out.walks⟩, ⟨⟨_, HV2.out, ?_, trivial⟩, HB.out.trans HB2.out⟩⟩
    have := HR2.out
    rw [List.length_append, List.map_append]
    exact this
  case done =>
    rintro D ys W hD hS ⟨⟨v, hv, hrow, _⟩, hB⟩ hK
    have hc := hv.cell
    have HB := Lib.hid hB; have Hr := Lib.hid hrow; clear hB hrow hv
    gi_wp2
    refine ⟨by simp, .inl ⟨_, _, rfl, run_takeDeferred hK, ?_⟩⟩
    exact ⟨_, results_tmp rfl _ _ _, v, ys, rfl, hS, ownsRow_putObj Hr.out _ hK rfl, HB.out.trans (belowK_b (w := w) (Nat.le_refl _) W D _ _ (by simp [z0] at hD; omega) hK rfl rfl)⟩
  case stop =>
    rintro D c pre W _ _ h _
    exact h.elim
section
variable {gf : Nat} {lb : Array Value} {S Sp : List Int → Prop} {N : Nat} {w : World}
set_option maxRecDepth 100000 in
theorem collect_any (hN : N ≤ 1000000) (heg : ∀ args w, (callFunc gf args).run Try.prog w = .ok (.enter gf args) w)
    (hseq : SeqStopsK Fence.wide 8 Try.prog gf lb (fun x : Int => #[Value.int .u32 x]) (KpB w.heap.size) S Sp N w) :
    Calls Try.prog 48 #[.func (.func gf) #[] lb] w fun e W' => ∃ v ss, e = .returned v ∧ S ss ∧ OwnU w.heap.size W' v ss ∧ Below w.heap.size w W' := by
  have hA := Lib.hid (callsIn_wide.1 (appendSeq_in gf lb S Sp N hN w heg hseq))
  clear hseq heg
  go_enter Try.func48, Try.ntmps48
  go_wp2_with fail
  refine hA.out.mono ?_
  rintro e w' ⟨v, ss, rfl, h1, h2, h3⟩
  have H2 := Lib.hid h2
  obtain ⟨a, cap, rfl, -⟩ := h2.u
  go_wp2_with fail
  go_ret
  exact ⟨_, ss, rfl, h1, H2.out, h3⟩
set_option maxRecDepth 100000 in
theorem sorted_any (hN : N ≤ 1000000) (heg : ∀ args w, (callFunc gf args).run Try.prog w = .ok (.enter gf args) w) (hS : ∀ ss, S ss → ss.length < 256)
    (hseq : SeqStopsK Fence.wide 8 Try.prog gf lb (fun x : Int => #[Value.int .u32 x]) (KpB w.heap.size) S Sp N w) :
    Calls Try.prog 43 #[.func (.func gf) #[] lb] w fun e W' => ∃ v ss, e = .returned v ∧ S ss ∧ OwnU w.heap.size W' v (srt ss) ∧ Below w.heap.size w W' := by
  have hA := Lib.hid (collect_any hN heg hseq)
  clear hseq heg
  go_enter Try.func43, Try.ntmps43
  go_wp2_with fail
  refine hA.out.mono ?_
  rintro e w1 ⟨v, ss, rfl, h1, h2, h3⟩
  have H2 := Lib.hid h2
  obtain ⟨a, cap, rfl, -⟩ := h2.u
  go_wp2_with fail
  refine (sort_own H2.out h3.size (hS ss h1)).mono ?_
  rintro e w2 ⟨rfl, h4, h5⟩
  go_wp2_with fail
  go_ret
  exact ⟨_, ss, rfl, h1, h4, h3.trans h5⟩
end
end Go.Proofs.Ytghihhjcoilmgaa
