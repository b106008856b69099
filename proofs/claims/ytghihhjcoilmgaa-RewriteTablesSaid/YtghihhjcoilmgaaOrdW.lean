/- Regions that draw their order, in a round of a loop over a function: more operations. -/
import Derived.Test.YtghihhjcoilmgaaOrdI
import Derived.RangeFuncCalls
namespace Go.Proofs.Ytghihhjcoilmgaa
set_option maxRecDepth 100000
set_option linter.unusedVariables false

section
variable {P : Program} {ops : Array Oper} {Q : Exit → Act → World → Prop} {md : Region.Mode} {S : Array Bool → World → Prop}
def simpleOp2 (o : Oper) : Bool := simpleOp o || match o.op with
  | .pick .. => true
  | .build .. => true
  | .call c => (match c.callee with | .builtin .len => true | _ => false)
  | _ => false
theorem simpleOp2_plainly {o : Oper} (hs : simpleOp2 o = true) (ρ : Operand → Value) (w : World) : Plainly ((execOp ρ o).run P w) := by
  by_cases h1 : simpleOp o = true
  · exact simpleOp_plainly h1 ρ w
  · rw [simpleOp2, Bool.or_eq_true] at hs
    replace hs := hs.resolve_left h1
    clear h1
    unfold execOp
    cases ho : o.op <;> simp only [ho] at hs ⊢
    all_goals first
      | (cases hs; done)
      | exact plainly_v _ _
      | exact plainly_u _ _
      | (simp [Plainly]; done)
      | skip
    case pick c a b => exact plainly_bind _ _ (fun _ w => by simp [Plainly]) w
    case call c =>
      split at hs
      · rename_i hc
        simp only [resolve, hc, pure_bind, invoke, builtin]
        exact plainly_v _ _
      · cases hs
theorem simpleOp2_about {o : Oper} (hs : simpleOp2 o = true) (ρ : Operand → Value) (w : World) : o.about P w ρ = none := by
  by_cases h1 : simpleOp o = true
  · exact simpleOp_about h1 ρ w
  · rw [simpleOp2, Bool.or_eq_true] at hs
    replace hs := hs.resolve_left h1
    clear h1
    refine quietOp_about ?_ ρ w
    unfold quietOp
    cases ho : o.op <;> simp only [ho] at hs ⊢
    all_goals first
      | (cases hs; done)
      | skip
    split at hs
    · rename_i hc
      rw [hc]
    · cases hs
theorem simpleOp2_defer {o : Oper} (hs : simpleOp2 o = true) : ∀ c, o.op ≠ .defer c := by
  intro c hc
  rw [simpleOp2, simpleOp, hc] at hs
  cases hs
theorem wpOpIn_of_simple2 {F : Fence} {n : Nat} {i : Nat} {K : Act → World → Prop} {a : Act} {w : World} (hs : ∀ o, ops[i]? = some o → simpleOp2 o = true) (hQ : ¬ LetsOut Q) (h : wpOp P ops Q i K a w) : wpOpIn F n P ops Q i K a w := by
  unfold wpOp at h
  unfold wpOpIn
  cases ho : ops[i]? with
  | none => simpa [ho] using h
  | some o =>
    simp only [ho] at h ⊢
    have hab : ∀ f, o.about P w a.eval = some f → F.fn f := fun f hf => by rw [simpleOp2_about (hs o ho)] at hf; cases hf
    split
    · rename_i hw
      rw [if_pos hw] at h
      have h := h.resolve_right (fun h => hQ h.2)
      refine ⟨hab, ?_⟩
      rw [Oper.semAt_eq _ _ _ (simpleOp2_defer (hs o ho))]
      have hp := simpleOp2_plainly (P := P) (hs o ho) a.eval w
      unfold Oper.wp at h
      generalize (execOp a.eval o).run P w = r at *
      cases r with
      | ok x w' => cases x <;> first | exact h | exact hp.elim
      | halt x w' => cases x <;> exact h
    · rename_i hw
      rw [if_neg hw] at h
      exact ⟨hab, h⟩
theorem wpAnyIn_of_L2 {F : Fence} {n : Nat} (hs : ∀ (i : Nat) (o : Oper), ops[i]? = some o → simpleOp2 o = true) (hQ : ¬ LetsOut Q) : ∀ (fuel : Nat) (L : Array Bool) (a : Act) (w : World), wpAnyL P md ops Q S fuel L a w → wpAnyIn F n P md ops Q fuel L a w
  | 0, _, _, _, h => h
  | fuel + 1, _, _, _, h => ⟨h.1, fun i hi => wpOpIn_mono (fun a' w' h' => wpAnyIn_of_L2 hs hQ fuel _ a' w' h'.2) (wpOpIn_of_simple2 (hs i) hQ (h.2 i hi))⟩
theorem wpIn_region_L2 {F : Fence} {n : Nat} {id : Nat} {a : Act} {w : World} (S : Array Bool → World → Prop) (m : Nat) (L0 : Array Bool) (hm : P.follows .mixedOrders = true) (hn : ops.size = m) (hL : Array.replicate m false = L0) (hs : (ops.all simpleOp2) = true)
    (h : WA P .any ops (Nrm Q) S m L0 a w.drew) : (Code.region id ops true).wpIn F n P Q a w := by
  subst hn; subst hL
  refine Code.wpIn_mono (Q := Nrm Q) (fun e a w h => ?_) (wpIn_region_any hm (wpAnyIn_of_L2 (S := S) ?_ ?_ _ _ _ _ (h (Shutd.start _ _))))
  · cases e <;> first | exact h | exact h.elim
  · intro i o hi
    exact Array.all_eq_true_iff_forall_mem.1 hs o (Array.mem_of_getElem? hi)
  · rintro ⟨a, w, h⟩; exact h
end
end Go.Proofs.Ytghihhjcoilmgaa

namespace Go.Proofs.Ytghihhjcoilmgaa
set_option maxRecDepth 100000
set_option linter.unusedVariables false

section
variable {P : Program} {ops : Array Oper} {Q : Exit → Act → World → Prop} {md : Region.Mode} {S : Array Bool → World → Prop}
def noDefer (o : Oper) : Bool := match o.op with
  | .defer _ => false
  | _ => true
theorem noDefer_spec {o : Oper} (hs : noDefer o = true) : ∀ c, o.op ≠ .defer c := by
  intro c hc
  rw [noDefer, hc] at hs
  cases hs
theorem wpOpIn_of_wide {l n : Nat} {i : Nat} {K : Act → World → Prop} {a : Act} {w : World} (hs : ∀ o, ops[i]? = some o → noDefer o = true) (hQ : ¬ LetsOut Q) (h : wpOp P ops Q i K a w) : wpOpIn (Fence.wide.inRound l) n P ops Q i K a w := by
  unfold wpOp at h
  unfold wpOpIn
  cases ho : ops[i]? with
  | none => simpa [ho] using h
  | some o =>
    simp only [ho] at h ⊢
    have hab : ∀ f, o.about P w a.eval = some f → (Fence.wide.inRound l).fn f := fun f _ => trivial
    split
    · rename_i hw
      rw [if_pos hw] at h
      have h := h.resolve_right (fun h => hQ h.2)
      refine ⟨hab, ?_⟩
      rw [Oper.semAt_eq _ _ _ (noDefer_spec (hs o ho))]
      unfold Oper.wp at h
      generalize (execOp a.eval o).run P w = r at *
      cases r with
      | ok x w' =>
        cases x with
        | enter f args =>
          refine ⟨(fun e => by cases e), CallsIn.mono (CallsIn.inRound l (callsIn_wide.2 h)) fun e w'' he => ?_⟩
          cases e <;> exact he
        | row row args =>
          refine ⟨(fun e => by cases e), fun c cs _ => ?_⟩
          obtain ⟨v, w'', r, s⟩ := h c cs
          exact ⟨v, w'', r, stepsIn_wide.2 s⟩
        | _ => first | exact h | exact h.elim
      | halt x w' => cases x <;> exact h
    · rename_i hw
      rw [if_neg hw] at h
      exact ⟨hab, h⟩
theorem wpAnyIn_of_LW {l n : Nat} (hs : ∀ (i : Nat) (o : Oper), ops[i]? = some o → noDefer o = true) (hQ : ¬ LetsOut Q) : ∀ (fuel : Nat) (L : Array Bool) (a : Act) (w : World), wpAnyL P md ops Q S fuel L a w → wpAnyIn (Fence.wide.inRound l) n P md ops Q fuel L a w
  | 0, _, _, _, h => h
  | fuel + 1, _, _, _, h => ⟨h.1, fun i hi => wpOpIn_mono (fun a' w' h' => wpAnyIn_of_LW hs hQ fuel _ a' w' h'.2) (wpOpIn_of_wide (hs i) hQ (h.2 i hi))⟩
theorem wpIn_region_LW {l n : Nat} {id : Nat} {a : Act} {w : World} (S : Array Bool → World → Prop) (m : Nat) (L0 : Array Bool) (hm : P.follows .mixedOrders = true) (hn : ops.size = m) (hL : Array.replicate m false = L0) (hs : (ops.all noDefer) = true)
    (h : WA P .any ops (Nrm Q) S m L0 a w.drew) : (Code.region id ops true).wpIn (Fence.wide.inRound l) n P Q a w := by
  subst hn; subst hL
  refine Code.wpIn_mono (Q := Nrm Q) (fun e a w h => ?_) (wpIn_region_any hm (wpAnyIn_of_LW (S := S) ?_ ?_ _ _ _ _ (h (Shutd.start _ _))))
  · cases e <;> first | exact h | exact h.elim
  · intro i o hi
    exact Array.all_eq_true_iff_forall_mem.1 hs o (Array.mem_of_getElem? hi)
  · rintro ⟨a, w, h⟩; exact h
end
end Go.Proofs.Ytghihhjcoilmgaa
