/- Runes returns the runes of a text. -/
import Derived.Test.YthgocbehdomekaaA10
import Derived.RangeFuncBox
namespace Go.Proofs.Ythgocbehdomekaa
open Go.RowKit Go.Shelf Plain
set_option linter.unusedVariables false
attribute [local go_sem] Oper.semAt_some

theorem Try.info3 : (Try.prog.info? 3).map (fun i => (i.zero, i.size, i.bytes)) = some (some (.int .i64 0), 1, 8) := by kernel_rfl
def OwnI (base : Nat) (w : World) (v : Value) (xs : List Int) : Prop := w.ownsRow base 3 1 v xs.length (xs.map (Value.int .i64))
theorem KeepB.of_boxed {b : Nat} {t : TypeId} {v : Value} {W W' : World} (h : Boxed W b t v) (h' : Boxed W' b t v) : KeepB b W W' := fun u hu => by
  rw [h.cell] at hu; cases hu; exact h'.cell
def rvals (l : List (Nat × Int)) : List Int := l.map (·.2)

set_option maxRecDepth 100000 in
set_option maxHeartbeats 2000000 in
theorem lrunes_in (s : ByteArray) (hs : s.size ≤ 100000000) (w : World) :
    CallsIn Fence.wide 9 Try.prog 20 #[.string s] w fun e W' => ∃ v, e = .returned v ∧ OwnI w.heap.size W' v (rvals (rl (bl s) 0)) ∧ Below w.heap.size w W' := by
  have hfn : ∀ k, Fence.wide.fn k := fun _ => trivial
  have hL : (rl (bl s) 0).length ≤ s.size := by have := rl_length (bl_isB s) 0; rw [bl_length] at this; omega
  obtain ⟨i0, hi, hz0, hz1, hz2⟩ := info_parts Try.info3
  have Hi := Lib.hid hi; have Hz0 := Lib.hid hz0; have Hz1 := Lib.hid hz1; have Hz2 := Lib.hid hz2
  clear hi hz0 hz1 hz2
  refine callsIn_of_wp_marks Try.func20 rfl trivial ?_ rfl
  simp only [Try.ntmps20, List.size_toArray, List.length_cons, List.length_nil, Nat.reduceAdd, Nat.reduceSub, Array.replicate_succ, Array.replicate_zero, List.push_toArray, List.append_toArray, List.nil_append, List.cons_append]
  have hnf := eql_func_nil
  gi_wp2_with (gi_at_call 24; refine (callsIn_wide.2 (runes_any _ _)).mono ?_; rintro e w' ⟨rfl, rfl⟩)
  clear hnf
  have bO := Boxed.new w 45 (.slice none 0 0)
  generalize hw0 : w.alloc (.cells #[.slice none 0 0] 45) = w0 at *
  have z0 : w0.heap.size = w.heap.size + 1 := by rw [← hw0]; simp
  have b0 : Below w.heap.size w w0 := by rw [← hw0]; exact (Below.refl _ w).alloc (Nat.le_refl _) _
  have z1 : (w0.alloc (.cells #[.string s] 9)).heap.size = w.heap.size + 1 + 1 := by simp [z0]
  have bS := Boxed.new (w0.alloc (.cells #[.string s] 9)) 9 (.string s)
  rw [z1] at bS
  have hB0 : Below w.heap.size w ((w0.alloc (.cells #[.string s] 9)).alloc (.cells #[.string s] 9)) := (b0.alloc (by omega) _).alloc (by omega) _
  refine wpIn_rangeFunc_ownG rfl (by decide) (gf := 25) (lb := #[.pointer (some ⟨w.heap.size + 1 + 1, 0, none⟩)]) rfl trivial (enters_of Try.func25 (by kernel_rfl) rfl)
    (runes_stops (9 - 1) (w.heap.size + 1 + 1) s.size s hs hL _ (by simp [z0]) bS.cell) KeepB.t KeepB.b (Below.refl _ _) (fun _ => rfl)
    (fun pre W => ((∃ v, Boxed W w.heap.size 45 v ∧ W.ownsRow w.heap.size 3 1 v (rvals pre).length ((rvals pre).map (Value.int .i64)) ∧ True) ∧ Boxed W (w.heap.size + 1 + 1) 9 (.string s)) ∧ Below w.heap.size w W)
    (fun _ _ _ => False)
    (OwnFrom.and (OwnFrom.and (Own.from (holdsRow_own w.heap.size w.heap.size 45 3 1 (fun pre => (rvals pre).length) (fun pre => (rvals pre).map (Value.int .i64)) (fun _ _ => True)) _) (Own.from (boxed_own _ _ _) _)) (ownFrom_below (Nat.le_refl _) (by simp [z0]; omega)))
    (fun _ _ _ _ _ hs _ _ => hs)
    ⟨⟨⟨_, (bO.alloc _).alloc _, World.ownsRow_nil _ _ _ _, trivial⟩, bS⟩, hB0⟩
    (fun x => { tmps := #[.string s, undef, .slice none 0 0, .pointer (some ⟨w.heap.size, 0, none⟩), undef, .int .i64 x.2, .string s, .func (.func 25) #[] #[.pointer (some ⟨w.heap.size + 1, 0, none⟩)], .bool false, .string s, .func (.func 25) #[] #[.pointer (some ⟨w.heap.size + 1 + 1, 0, none⟩)], .int .i64 x.1, .int .i64 x.2, undef, undef, undef, undef, undef], defers := [] }) ?assign ?body ?done ?stop
  case assign =>
    intro l x W K hK
    gi_wp2
    exact hK
  case body =>
    rintro l pre x W ⟨⟨⟨v, hv, hrow, _⟩, hbS⟩, hB⟩ hlt
    have hc := hv.cell
    have hpl : (rvals pre).length ≤ pre.length := by simp [rvals]
    have HB := Lib.hid hB; have Hr := Lib.hid hrow; have HV := Lib.hid hv; have HS := Lib.hid hbS; clear hB hrow hv hbS
    gi_wp2_with (gi_at_builtin; refine wpListIn_append_own _ rfl _ _ 45 rfl w.heap.size 3 i0 (.int .i64 0) 1 8 Try.underlying45 Hi.out Hz0.out Hz1.out Hz2.out rfl (by decide) _ _ _ rfl (Hr.out.alloc _) ⟨W.heap.size, 0, none⟩ 1 1 [.int .i64 x.2] rfl rfl (cell_one_new _ _ _) (by simp [Value.oneCell']) (by unfold maxLen; omega) (by omega) (by have := HB.out.size; simp; omega) ?_; intro v' w1 hown' hgrow _; obtain ⟨g', cap', rfl⟩ := ownsRow_succ hown'; obtain ⟨hv1, hv2, hr2, hk2, hb2⟩ := HV.out.appended (by decide) Hr.out HB.out.size (Nat.le_refl _) hown' hgrow; have hS1 := ((HS.out.alloc _).kept hgrow (HS.out.not_row (by decide) Hr.out)).other (B' := w.heap.size) (by omega) (.slice (some ⟨g', 0, none⟩) ((rvals pre).length + 1) cap'); have hc1 := hv1.cell; have hf1 := hv1.frozen; have HV2 := Lib.hid hv2; have HR2 := Lib.hid hr2; have HK2 := Lib.hid hk2; have HB2 := Lib.hid hb2; have HS1 := Lib.hid hS1; clear hv2 hr2 hk2 hb2 hS1 hown' hgrow hv1)
    refine ⟨HK2.out.from _, KeepB.of_boxed HS.out HS1.out, ⟨⟨_, HV2.out, ?_, trivial⟩, HS1.out⟩, HB.out.trans HB2.out⟩
    have := HR2.out
    unfold rvals at this ⊢
    rw [List.map_append, List.length_append, List.map_append]
    exact this
  case done =>
    rintro D ys W hD rfl ⟨⟨⟨v, hv, hrow, _⟩, hbS⟩, hB⟩ hK
    have hc := hv.cell
    have HB := Lib.hid hB; have Hr := Lib.hid hrow; clear hB hrow hv hbS
    gi_wp2
    refine ⟨by simp, .inl ⟨_, _, rfl, run_takeDeferred hK, ?_⟩⟩
    exact ⟨_, results_tmp rfl _ _ _, v, rfl, ownsRow_putObj Hr.out _ hK rfl, HB.out.trans (belowK_b (w := w) (Nat.le_refl _) W D _ _ (by simp [z0] at hD; omega) hK rfl rfl)⟩
  case stop =>
    rintro D c pre W _ _ h _
    exact h.elim
end Go.Proofs.Ythgocbehdomekaa
