/- For every slice of rows, every plan and every slice of views the Go function rhizomelaw14.JoinRuns returns true, and its arguments read afterwards as before. No condition. -/
import Derived.Test.YtkgkkbfpkgfcaaaRows
import Derived.WalkKit
import Derived.ProofKit
import Derived.OpenShut
import Derived.ChangeOld
import Derived.Below
import Derived.Test.YtkgkkbfpkgfcaaaJ39
import Derived.Test.YtkgkkbfpkgfcaaaL15
namespace Go.Proofs.Ytkgkkbfpkgfcaaa.joinRuns
set_option maxRecDepth 100000
open Go.ChangeShapes Go.WideShapes Go.ChangeAt Go.RowKit
set_option linter.unusedVariables false

theorem own : ownKnob Try.prog.godebug = none := by kernel_rfl
set_option maxRecDepth 100000 in
theorem lifted (os : Os) (started : os.Started) (H : Type) (enc : TypeId × Value → H) :
    ReturnsInHanded {} Try.checked os 5 .any (Rows.joinRunsSpec.pre6 enc Try.prog Try.f5 Rows.joinRunsRow.domain false) (Rows.joinRunsSpec.post enc Try.prog Try.f5 false true false false) := by
  refine returnsInHanded_of_change (C := Try.checked) own started (by kernel_rfl) Try.func5
    (ChangeSpec.witness6 (enc := enc) (C := Try.checked) false ⟨#[], #[.slice none 0 0, .agg #[.int .i64 0, .int .u32 0, .int .i64 0, .int .u32 0, .int .i64 0, .int .u32 0, .slice none 0 0, .int .i64 0], .slice none 0 0], []⟩ 8 (by kernel_rfl) (by kernel_rfl) (by kernel_rfl) (by kernel_rfl)) ?_
  intro W base args ds gs before hval0 hW hcnd _
  have hval : ∀ (j : Nat) t v, Try.f5.params[j]? = some t → args[j]? = some v → Value.okWide Try.prog W .any base t v := hval0
  have hW' := hW
  obtain ⟨p, q, hA0, hV, rfl, hfz, hnd⟩ := hW
  have hA : DataW.TrodAll enc Try.prog W 0 (fun _ => true) true Try.f5.params.toList args.toList ds p := hA0
  rw [Try.params5] at hA hval
  obtain ⟨v0, vs0, d0, ds0, p0, q0, hargs, rfl, rfl, h0, r0⟩ := trodAll_cons hA
  obtain ⟨v1, vs1, d1, ds1, p1, q1, rfl, rfl, rfl, h1, r1⟩ := trodAll_cons r0
  obtain ⟨v2, vs2, d2, ds2, p2, q2, rfl, rfl, rfl, h2, r2⟩ := trodAll_cons r1
  obtain ⟨rfl, rfl, rfl⟩ := trodAll_nil r2
  obtain rfl : args = #[v0, v1, v2] := by cases args; simp_all
  obtain ⟨rfl, rfl⟩ := trodVars_none hV
  obtain ⟨a0, len0, cap0, rfl⟩ := okWide_slice Try.underlying22 (hval 0 22 v0 rfl rfl)
  obtain ⟨c1, rfl, hsz⟩ := okWide_struct Try.underlying29 (hval 1 29 v1 rfl rfl)
  obtain ⟨a2, len2, cap2, rfl⟩ := okWide_slice Try.underlying39 (hval 2 39 v2 rfl rfl)
  have k0 := h0
  have k1 := h1
  have k2 := h2
  have lt0 : ∀ x ∈ p0, x.block < W.heap.size := by obtain ⟨m, hm⟩ := k0; exact DataW.trod_lt m _ _ _ hm
  have lt2 : ∀ x ∈ p2, x.block < W.heap.size := by obtain ⟨m, hm⟩ := k2; exact DataW.trod_lt m _ _ _ hm
  have lt1 : ∀ x ∈ p1, x.block < W.heap.size := by obtain ⟨m, hm⟩ := k1; exact DataW.trod_lt m _ _ _ hm
  obtain ⟨L0, rfl, w0⟩ : ∃ L : TS, L.length = len0 ∧ IsRows4 W a0 L := by
    obtain ⟨fuel, hf⟩ := h0
    exact open_rows4 hf
  obtain ⟨e0, e1, e2, e3, e4, e5, sa, scap, vars, L1, hcs, hst, hin, hmx, -, -⟩ : ∃ (h0 h1 h2 h3 h4 h5 : Int) (a : Option Addr) (cap : Nat) (vars : Int) (L : List StepT), c1 = planC h0 h1 h2 h3 h4 h5 a L.length cap vars ∧ IsSteps W a L ∧ PlanIn L ∧ L.length ≤ maxLen ∧ is64 vars ∧ (is64 h0 ∧ is64 h2 ∧ is64 h4) ∧ is32 h1 ∧ is32 h3 ∧ is32 h5 := by
    obtain ⟨fuel, hf⟩ := h1
    obtain ⟨h0, h1, h2, h3, h4, h5, a, cap, vars, L, hcs, rest⟩ := open_plan hf
    exact ⟨h0, h1, h2, h3, h4, h5, a, cap, vars, L, Array.toList_inj.1 hcs, rest⟩
  subst hcs
  obtain ⟨L2, rfl, w2⟩ : ∃ L : List Vw, L.length = len2 ∧ IsViews W a2 L := by
    obtain ⟨fuel, hf⟩ := h2
    exact open_views hf
  clear hA0 hval0
  refine (runs_any W a0 cap0 L0 w0 e0 e1 e2 e3 e4 e5 sa scap vars L1 hst hin hmx a2 cap2 L2 w2).mono fun e W' ⟨he, bel⟩ => ?_
  subst he
  exact ⟨_, rfl, _, _, _, [], _, [], hW', trodAll_mk1 (shut_bool Try.underlying4 _), (trodAll_cons_mk (Below.trod Try.laidOut (by kernel_rfl) (of_decide_eq_true (by kernel_rfl)) k0 bel lt0) (trodAll_cons_mk (Below.trod Try.laidOut (by kernel_rfl) (of_decide_eq_true (by kernel_rfl)) k1 bel lt1) (trodAll_cons_mk (Below.trod Try.laidOut (by kernel_rfl) (of_decide_eq_true (by kernel_rfl)) k2 bel lt2) trodAll_mk0))), rfl, bel.frame _, fun h => by cases h⟩

theorem over : Rows.joinRunsRow.holds Try.pinned (OpenSpec.ofChange Rows.joinRunsSpec) :=
  OpenClaim.holds_of_wide 5 Try.f5 rfl rfl rfl rfl rfl rfl rfl ⟨rfl, rfl, rfl, rfl, rfl⟩ rfl rfl rfl rfl rfl (by kernel_rfl) Try.func5 (by kernel_rfl)
    (of_decide_eq_true (by kernel_rfl)) (by unfold Func.isWrapper; first | (rw [if_pos (by decide +kernel)]; kernel_rfl) | (rw [if_neg (by decide +kernel)]; exact ⟨rfl, rfl⟩))
    (fun os started H enc _ => lifted os started H enc)

/-- ████ THE STATEMENT ████ -/
theorem proved : Rows.JoinRunsSaid := over
end Go.Proofs.Ytkgkkbfpkgfcaaa.joinRuns
