/- Regions that draw their order, inside a fence: the calculus of the text on orders, where an operation may also call, or hand over to a round. -/
import Derived.Test.YtellmhllgmimiaaOrd
namespace Go.Proofs.Ytellmhllgmimiaa
set_option linter.unusedVariables false

section
variable {F : Fence} {n : Nat} {P : Program} {ops : Array Oper} {Q : Exit → Act → World → Prop} {md : Region.Mode} {S : Array Bool → World → Prop} {C : World → Prop}

/-- it calls no function -/
def quietOp (o : Oper) : Bool :=
  match o.op with
  | .call c => match c.callee with | .builtin _ => true | _ => false
  | .defer _ => false
  | _ => true
theorem quietOp_about {o : Oper} (hs : quietOp o = true) (ρ : Operand → Value) (w : World) : o.about P w ρ = none := by
  unfold quietOp at hs
  unfold Oper.about
  cases ho : o.op <;> simp only [ho] at hs ⊢
  split at hs
  · rename_i hc
    simp only [resolve, hc, Sem.run_pure]
    rfl
  · cases hs

theorem yieldsIf_wpOpIn {i : Nat} {o : Oper} {v : Value} {a : Act} (hro : F.round = none) (hi : ops[i]? = some o) (hq : quietOp o = true) (hy : YieldsIf P ops C o v a)
    {K : Act → World → Prop} {w : World} (hS : C w) (h : K (a.put o.dst v) w) : wpOpIn F n P ops Q i K a w := by
  have hab : ∀ f, o.about P w a.eval = some f → F.fn f := fun f hf => by rw [quietOp_about hq] at hf; cases hf
  unfold wpOpIn
  simp only [hi]
  rcases hy with ⟨hw, hv⟩ | ⟨hw, rfl⟩
  · rw [if_pos hw]
    unfold Oper.wpIn
    rw [hro, Oper.semAt_none, hv w hS]
    exact ⟨hab, h⟩
  · rw [if_neg (by rw [hw]; simp)]
    exact ⟨hab, h⟩

theorem wpOpIn_putIf {j : Nat} {oi oj : Oper} {v : Value} (hro : F.round = none) (hj : ops[j]? = some oj) (hap : oi.apart ops oj = true)
    (hsi : ∀ cs b, oi.op ≠ .select cs b) (hsj : ∀ cs b, oj.op ≠ .select cs b)
    (hQ : ∀ c a w, Q (.panic c) (a.put oi.dst v) w → Q (.panic c) a w) {K : Act → World → Prop} {a : Act} {w : World}
    (hy : YieldsIf P ops C oi v a) (h : wpOpIn F n P ops Q j K (a.put oi.dst v) w) :
    wpOpIn F n P ops Q j (fun a' w' => YieldsIf P ops C oi v a' ∧ K (a'.put oi.dst v) w') a w := by
  obtain ⟨h1, h2, h3⟩ := Oper.apart_spec hap
  have stays : ∀ b : Act, YieldsIf P ops C oi v b → ∀ u, YieldsIf P ops C oi v (b.put oj.dst u) := fun b hb u =>
    hb.of_same (execOp_put oi hsi b oj.dst u h3) (wanted_put oi b oj.dst u h3)
  have hA := about_put (P := P) oj w a oi.dst v h1
  unfold wpOpIn at h ⊢
  simp only [hj] at h ⊢
  rw [wanted_put oj a oi.dst v h1, hA] at h
  by_cases hw : Region.wanted oj (yielded ops a.tmps) = true
  · rw [if_pos hw] at h ⊢
    unfold Oper.wpIn at h ⊢
    rw [hA, hro, Oper.semAt_none, execOp_put oj hsj a oi.dst v h1] at h
    rw [hro, Oper.semAt_none]
    obtain ⟨h0, h⟩ := h
    refine ⟨h0, ?_⟩
    cases hr : (execOp a.eval oj).run P w with
    | halt x w' =>
      rw [hr] at h
      cases x <;> first | exact hQ _ _ _ h | exact h
    | ok x w' =>
      rw [hr] at h
      cases x with
      | value u => exact ⟨stays a hy u, by rw [← Act.put_comm a v u h2]; exact h⟩
      | skip => exact ⟨stays a hy _, by rw [← Act.put_comm a v undef h2]; exact h⟩
      | defer d =>
        refine ⟨stays { a with defers := d :: a.defers } (hy.of_same rfl rfl) _, ?_⟩
        rw [← Act.put_comm _ v undef h2, ← Act.put_defers]
        exact h
      | enter f args =>
        refine ⟨h.1, CallsIn.mono h.2 fun e w'' he => ?_⟩
        cases e with
        | returned u => exact ⟨stays a hy u, by rw [← Act.put_comm a v u h2]; exact he⟩
        | panicked c => exact hQ _ _ _ he
        | outgrown => exact he
      | row row args => exact ⟨h.1, RowsIn.mono h.2 fun u w'' he => ⟨stays a hy u, by rw [← Act.put_comm a v u h2]; exact he⟩⟩
      | round l f tmps assign body =>
        refine ⟨h.1, RoundIn.mono h.2 fun e w'' he => ?_⟩
        cases e with
        | returned u => exact ⟨stays a hy u, by rw [← Act.put_comm a v u h2]; exact he⟩
        | panicked c => exact hQ _ _ _ he
        | outgrown => exact he
      | _ => exact h
  · rw [if_neg hw] at h ⊢
    exact ⟨h.1, stays a hy _, by rw [← Act.put_comm a v undef h2]; exact h.2⟩

def wpAnyLI (F : Fence) (n : Nat) (P : Program) (md : Region.Mode) (ops : Array Oper) (Q : Exit → Act → World → Prop) (S : Array Bool → World → Prop) : Nat → Array Bool → Act → World → Prop
  | 0, L, a, w => Region.ready md ops L = [] ∧ Q .normal a w
  | fuel + 1, L, a, w =>
    (Region.ready md ops L = [] → Q .normal a w) ∧
    ∀ i ∈ Region.ready md ops L, wpOpIn F n P ops Q i (fun a' w' => S (L.setIfInBounds i true) w' ∧ wpAnyLI F n P md ops Q S fuel (L.setIfInBounds i true) a' w') a w
theorem wpAnyIn_of_LI : ∀ (fuel : Nat) (L : Array Bool) (a : Act) (w : World), wpAnyLI F n P md ops Q S fuel L a w → wpAnyIn F n P md ops Q fuel L a w
  | 0, _, _, _, h => h
  | fuel + 1, _, _, _, h => ⟨h.1, fun i hi => wpOpIn_mono (fun a' w' h' => wpAnyIn_of_LI fuel _ a' w' h'.2) (h.2 i hi)⟩

theorem wpAnyLI_first {i : Nat} {oi : Oper} {v : Value} (hro : F.round = none) (hi : ops[i]? = some oi) (hq : quietOp oi = true) (hsel : ∀ (j : Nat) (o : Oper) cs b, ops[j]? = some o → o.op ≠ .select cs b)
    (hQ : ∀ c a w, Q (.panic c) (a.put oi.dst v) w → Q (.panic c) a w) (hdrop : ∀ L w, S (L.setIfInBounds i true) w → S L w) :
    ∀ (fuel : Nat) (L : Array Bool) (a : Act) (w : World), Shutd md ops L →
      (∀ j oj, ops[j]? = some oj → j ≠ i → L.getD j true = false → (∀ e ∈ oj.after, Region.binds md e = true → e.on ≠ i) → oi.apart ops oj = true) →
      i ∈ Region.ready md ops L → YieldsIf P ops (Cls md ops S i) oi v a → S (L.setIfInBounds i true) w →
      wpAnyLI F n P md ops Q S fuel (L.setIfInBounds i true) (a.put oi.dst v) w → wpAnyLI F n P md ops Q S (fuel + 1) L a w := by
  intro fuel
  induction fuel with
  | zero =>
    intro L a w hsh _ hr hy hS H
    refine ⟨fun h => (by rw [h] at hr; cases hr), fun j hj => ?_⟩
    by_cases hji : j = i
    · subst hji; exact yieldsIf_wpOpIn hro hi hq hy ⟨L, hsh, hdrop _ _ hS, (mem_ready.1 hr).1⟩ ⟨hS, H⟩
    · have := ready_mono hj hji
      rw [H.1] at this
      cases this
  | succ fuel ih =>
    intro L a w hsh hfree hr hy hS H
    refine ⟨fun h => (by rw [h] at hr; cases hr), fun j hj => ?_⟩
    by_cases hji : j = i
    · subst hji; exact yieldsIf_wpOpIn hro hi hq hy ⟨L, hsh, hdrop _ _ hS, (mem_ready.1 hr).1⟩ ⟨hS, H⟩
    · have h1 := H.2 j (ready_mono hj hji)
      obtain ⟨hjun, oj, hoj, hall⟩ := mem_ready.1 hj
      have hnot : ∀ e ∈ oj.after, Region.binds md e = true → e.on ≠ i := fun e he hb heq => by
        have h1 := hall e he hb
        have h0 := (mem_ready.1 hr).1
        rw [heq] at h1
        rcases Nat.lt_or_ge i L.size with h' | h'
        · simp [h'] at h0 h1; rw [h0] at h1; cases h1
        · simp [Array.getElem?_eq_none h'] at h1
      have h2 := wpOpIn_putIf hro hoj (hfree j oj hoj hji hjun hnot) (fun cs b => hsel i oi cs b hi) (fun cs b => hsel j oj cs b hoj) hQ hy h1
      have hfree' : ∀ k ok, ops[k]? = some ok → k ≠ i → (L.setIfInBounds j true).getD k true = false →
          (∀ e ∈ ok.after, Region.binds md e = true → e.on ≠ i) → oi.apart ops ok = true := fun k ok hk hki hun hno => by
        refine hfree k ok hk hki ?_ hno
        by_cases hjk : j = k
        · subst hjk; exact hjun
        · rw [getD_set_ne true hjk] at hun; exact hun
      refine wpOpIn_mono (fun a' w' h3 => ?_) h2
      have h4 := h3.2.1
      have h5 := h3.2.2
      rw [Array.setIfInBounds_comm _ _ (Ne.symm hji)] at h4 h5
      exact ⟨hdrop _ _ h4, ih (L.setIfInBounds j true) a' w' (hsh.step hj) hfree' (ready_mono hr (Ne.symm hji)) h3.1 h4 h5⟩

/-- the goal on the way through a region inside a fence -/
def WI (F : Fence) (n : Nat) (P : Program) (md : Region.Mode) (ops : Array Oper) (Q : Exit → Act → World → Prop) (S : Array Bool → World → Prop) (fuel : Nat) (L : Array Bool) (a : Act) (w : World) : Prop :=
  Shutd md ops L → wpAnyLI F n P md ops Q S fuel L a w
theorem WI.take {i : Nat} {oi : Oper} {v : Value} {fuel : Nat} {L : Array Bool} {a : Act} {w : World} (hro : F.round = none) (hi : ops[i]? = some oi) (hq : quietOp oi = true)
    (hs : Region.noSelect ops = true) (hf : Region.free md ops L i = true) (hr : (Region.ready md ops L).contains i = true)
    (hQ : ∀ c a w, Q (.panic c) (a.put oi.dst v) w → Q (.panic c) a w) (hdrop : ∀ L w, S (L.setIfInBounds i true) w → S L w)
    (hy : YieldsIf P ops (Cls md ops S i) oi v a) (hS : S (L.setIfInBounds i true) w)
    (h : WI F n P md ops Q S fuel (L.setIfInBounds i true) (a.put oi.dst v) w) : WI F n P md ops Q S (fuel + 1) L a w := fun hsh =>
  wpAnyLI_first hro hi hq (Region.noSelect_spec hs) hQ hdrop fuel L a w hsh (Region.free_spec hi hf) (by simpa using hr) hy hS (h (hsh.step (by simpa using hr)))
theorem WI.one {i : Nat} {o : Oper} {fuel : Nat} {L : Array Bool} {a : Act} {w : World} (hr : Region.ready md ops L = [i]) (ho : ops[i]? = some o) (hw : Region.wanted o (yielded ops a.tmps) = true)
    (h : ∀ K' : Act → World → Prop, (∀ a w, S (L.setIfInBounds i true) w → WI F n P md ops Q S fuel (L.setIfInBounds i true) a w → K' a w) → o.wpIn F n P a w K' Q) : WI F n P md ops Q S (fuel + 1) L a w := fun hsh => by
  have hi : i ∈ Region.ready md ops L := by rw [hr]; simp
  refine ⟨fun h0 => absurd (hr ▸ h0) (by simp), fun j hj => ?_⟩
  obtain rfl : j = i := by rw [hr] at hj; simpa using hj
  unfold wpOpIn
  simp only [ho]
  rw [if_pos hw]
  exact h _ fun a w h1 h2 => ⟨h1, h2 (hsh.step hi)⟩
/-- one alone may come up, and its guard keeps it back -/
theorem WI.skip {i : Nat} {o : Oper} {fuel : Nat} {L : Array Bool} {a : Act} {w : World} (hF : ∀ f, F.fn f) (hr : Region.ready md ops L = [i]) (ho : ops[i]? = some o) (hw : Region.wanted o (yielded ops a.tmps) = false)
    (hS : S (L.setIfInBounds i true) w) (h : WI F n P md ops Q S fuel (L.setIfInBounds i true) (a.put o.dst undef) w) : WI F n P md ops Q S (fuel + 1) L a w := fun hsh => by
  have hi : i ∈ Region.ready md ops L := by rw [hr]; simp
  refine ⟨fun h0 => absurd (hr ▸ h0) (by simp), fun j hj => ?_⟩
  obtain rfl : j = i := by rw [hr] at hj; simpa using hj
  unfold wpOpIn
  simp only [ho]
  rw [if_neg (by rw [hw]; simp)]
  exact ⟨fun f _ => hF f, hS, h (hsh.step hi)⟩
theorem WI.done {L : Array Bool} {a : Act} {w : World} (hr : Region.ready md ops L = []) (h : Q .normal a w) : ∀ fuel, WI F n P md ops Q S fuel L a w
  | 0 => fun _ => ⟨hr, h⟩
  | _ + 1 => fun _ => ⟨fun _ => h, by rw [hr]; simp⟩
theorem wpIn_region_LI {id : Nat} {a : Act} {w : World} (S : Array Bool → World → Prop) (m : Nat) (L0 : Array Bool) (hm : P.follows .mixedOrders = true) (hn : ops.size = m) (hL : Array.replicate m false = L0)
    (h : WI F n P .any ops (Nrm Q) S m L0 a w.drew) : (Code.region id ops true).wpIn F n P Q a w := by
  subst hn; subst hL
  refine Code.wpIn_mono (Q := Nrm Q) (fun e a w h => ?_) (wpIn_region_any hm (wpAnyIn_of_LI (S := S) _ _ _ _ (h (Shutd.start _ _))))
  cases e <;> first | exact h | exact h.elim
end
end Go.Proofs.Ytellmhllgmimiaa
