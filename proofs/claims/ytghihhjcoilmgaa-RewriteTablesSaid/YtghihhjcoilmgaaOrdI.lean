/- Regions that draw their order: a calculus in which what is known of the world may hang on which operations have come up. -/
import Derived.OrdersHeld
import Derived.OrdersIn
import Derived.TacticsIn
import Derived.Defers
import Derived.KernelRfl
namespace Go.Proofs.Ytghihhjcoilmgaa
set_option maxRecDepth 100000
set_option linter.unusedVariables false

/-! what a frame's writing comes to -/
theorem nA {α : Type} {xs : List α} {i : Nat} (h : i < xs.toArray.size) : xs.toArray[i] = xs[i]'(by simpa using h) := rfl
theorem nB {α : Type} {a : α} {l : List α} (h : 0 < (a :: l).length) : (a :: l)[0] = a := rfl
theorem nC {α : Type} {a : α} {l : List α} {i : Nat} (h : i + 1 < (a :: l).length) : (a :: l)[i + 1] = l[i]'(Nat.lt_of_succ_lt_succ h) := rfl
theorem nD {α : Type} {xs : List α} {i : Nat} {a : α} : xs.toArray.setIfInBounds i a = (xs.set i a).toArray := List.setIfInBounds_toArray ..
theorem nE {α : Type} {a b : α} {l : List α} : (a :: l).set 0 b = b :: l := rfl
theorem nF {α : Type} {a b : α} {l : List α} {i : Nat} : (a :: l).set (i + 1) b = a :: l.set i b := rfl

section
variable {P : Program} {ops : Array Oper} {Q : Exit → Act → World → Prop} {md : Region.Mode} {S : Array Bool → World → Prop}

def wpAnyL (P : Program) (md : Region.Mode) (ops : Array Oper) (Q : Exit → Act → World → Prop) (S : Array Bool → World → Prop) : Nat → Array Bool → Act → World → Prop
  | 0, L, a, w => Region.ready md ops L = [] ∧ Q .normal a w
  | fuel + 1, L, a, w =>
    (Region.ready md ops L = [] → Q .normal a w) ∧
    ∀ i ∈ Region.ready md ops L, wpOp P ops Q i (fun a' w' => S (L.setIfInBounds i true) w' ∧ wpAnyL P md ops Q S fuel (L.setIfInBounds i true) a' w') a w

/-- whatever has come up, what it waits for has come up -/
def Shutd (md : Region.Mode) (ops : Array Oper) (L : Array Bool) : Prop :=
  L.size = ops.size ∧ ∀ j o, ops[j]? = some o → L.getD j false = true → ∀ e ∈ o.after, Region.binds md e = true → L.getD e.on false = true

theorem Shutd.step {L : Array Bool} (h : Shutd md ops L) {i : Nat} (hi : i ∈ Region.ready md ops L) : Shutd md ops (L.setIfInBounds i true) := by
  refine ⟨by rw [Array.size_setIfInBounds]; exact h.1, fun j o hj hl e he hb => ?_⟩
  by_cases hji : i = j
  · subst hji
    obtain ⟨_, o', ho', hall⟩ := mem_ready.1 hi
    rw [hj] at ho'; injection ho' with ho'; subst ho'
    exact getD_set_true (hall e he hb)
  · have : L.getD j false = true := by rw [getD_set_ne false hji] at hl; exact hl
    exact getD_set_true (h.2 j o hj this e he hb)
theorem Shutd.start (md : Region.Mode) (ops : Array Oper) : Shutd md ops (Array.replicate ops.size false) := by
  refine ⟨by simp, fun j o hj hl => ?_⟩
  have : (Array.replicate ops.size false).getD j false = false := by
    simp only [Array.getD_eq_getD_getElem?, Array.getElem?_replicate]
    split <;> rfl
  rw [this] at hl; cases hl

/-- what waits for i has not come up where i has not -/
theorem Shutd.wait {L : Array Bool} (h : Shutd md ops L) (j i : Nat) (hw : (match ops[j]? with | some o => o.after.any (fun e => e.on == i && Region.binds md e) | none => false) = true) (hi : L.getD i true = false) : L.getD j true = false := by
  cases ho : ops[j]? with
  | none => rw [ho] at hw; cases hw
  | some o =>
    rw [ho] at hw
    simp only [Array.any_eq_true] at hw
    obtain ⟨k, hk, hw⟩ := hw
    simp only [Bool.and_eq_true, beq_iff_eq] at hw
    have hjl : j < L.size := by rw [h.1]; exact (Array.getElem?_eq_some_iff.1 ho).1
    cases hl : L.getD j true with
    | false => rfl
    | true =>
      have h1 : L.getD j false = true := by
        simp only [Array.getD_eq_getD_getElem?, Array.getElem?_eq_getElem hjl, Option.getD_some] at hl ⊢
        exact hl
      have h2 := h.2 j o ho h1 _ (Array.getElem_mem hk) hw.2
      rw [hw.1] at h2
      rcases Nat.lt_or_ge i L.size with h' | h'
      · simp only [Array.getD_eq_getD_getElem?, Array.getElem?_eq_getElem h', Option.getD_some] at hi h2
        rw [hi] at h2; cases h2
      · simp only [Array.getD_eq_getD_getElem?, Array.getElem?_eq_none h', Option.getD_none] at h2
        cases h2
theorem wpAny_of_L : ∀ (fuel : Nat) (L : Array Bool) (a : Act) (w : World), wpAnyL P md ops Q S fuel L a w → wpAny P md ops Q fuel L a w
  | 0, _, _, _, h => h
  | fuel + 1, _, _, _, h => ⟨h.1, fun i hi => wpOp_mono (fun a' w' h' => wpAny_of_L fuel _ a' w' h'.2) (h.2 i hi)⟩

/-- the worlds in which i may come up -/
def Cls (md : Region.Mode) (ops : Array Oper) (S : Array Bool → World → Prop) (i : Nat) (w : World) : Prop := ∃ L, Shutd md ops L ∧ S L w ∧ L.getD i true = false

theorem wpAnyL_first {i : Nat} {oi : Oper} {v : Value} (hi : ops[i]? = some oi) (hsel : ∀ (j : Nat) (o : Oper) cs b, ops[j]? = some o → o.op ≠ .select cs b)
    (hQ : ∀ c a w, Q (.panic c) (a.put oi.dst v) w → Q (.panic c) a w) (hdrop : ∀ L w, S (L.setIfInBounds i true) w → S L w) :
    ∀ (fuel : Nat) (L : Array Bool) (a : Act) (w : World), Shutd md ops L →
      (∀ j oj, ops[j]? = some oj → j ≠ i → L.getD j true = false → (∀ e ∈ oj.after, Region.binds md e = true → e.on ≠ i) → oi.apart ops oj = true) →
      i ∈ Region.ready md ops L → YieldsIf P ops (Cls md ops S i) oi v a → S (L.setIfInBounds i true) w →
      wpAnyL P md ops Q S fuel (L.setIfInBounds i true) (a.put oi.dst v) w → wpAnyL P md ops Q S (fuel + 1) L a w := by
  intro fuel
  induction fuel with
  | zero =>
    intro L a w hsh _ hr hy hS H
    refine ⟨fun h => (by rw [h] at hr; cases hr), fun j hj => ?_⟩
    by_cases hji : j = i
    · subst hji; exact hy.wpOp hi ⟨L, hsh, hdrop _ _ hS, (mem_ready.1 hr).1⟩ ⟨hS, H⟩
    · have := ready_mono hj hji
      rw [H.1] at this
      cases this
  | succ fuel ih =>
    intro L a w hsh hfree hr hy hS H
    refine ⟨fun h => (by rw [h] at hr; cases hr), fun j hj => ?_⟩
    by_cases hji : j = i
    · subst hji; exact hy.wpOp hi ⟨L, hsh, hdrop _ _ hS, (mem_ready.1 hr).1⟩ ⟨hS, H⟩
    · have h1 := H.2 j (ready_mono hj hji)
      obtain ⟨hjun, oj, hoj, hall⟩ := mem_ready.1 hj
      have hnot : ∀ e ∈ oj.after, Region.binds md e = true → e.on ≠ i := fun e he hb heq => by
        have h1 := hall e he hb
        have h0 := (mem_ready.1 hr).1
        rw [heq] at h1
        rcases Nat.lt_or_ge i L.size with h' | h'
        · simp [h'] at h0 h1; rw [h0] at h1; cases h1
        · simp [Array.getElem?_eq_none h'] at h1
      have h2 := wpOp_putIf hoj (hfree j oj hoj hji hjun hnot) (fun cs b => hsel i oi cs b hi) (fun cs b => hsel j oj cs b hoj) hQ hy h1
      have hfree' : ∀ k ok, ops[k]? = some ok → k ≠ i → (L.setIfInBounds j true).getD k true = false →
          (∀ e ∈ ok.after, Region.binds md e = true → e.on ≠ i) → oi.apart ops ok = true := fun k ok hk hki hun hno => by
        refine hfree k ok hk hki ?_ hno
        by_cases hjk : j = k
        · subst hjk; exact hjun
        · rw [getD_set_ne true hjk] at hun; exact hun
      refine wpOp_mono (fun a' w' h3 => ?_) h2
      have h4 := h3.2.1
      have h5 := h3.2.2
      rw [Array.setIfInBounds_comm _ _ (Ne.symm hji)] at h4 h5
      exact ⟨hdrop _ _ h4, ih (L.setIfInBounds j true) a' w' (hsh.step hj) hfree' (ready_mono hr (Ne.symm hji)) h3.1 h4 h5⟩

/-- the goal on the way through a region -/
def WA (P : Program) (md : Region.Mode) (ops : Array Oper) (Q : Exit → Act → World → Prop) (S : Array Bool → World → Prop) (fuel : Nat) (L : Array Bool) (a : Act) (w : World) : Prop :=
  Shutd md ops L → wpAnyL P md ops Q S fuel L a w

/-- number i is taken first -/
theorem WA.take {i : Nat} {oi : Oper} {v : Value} {fuel : Nat} {L : Array Bool} {a : Act} {w : World} (hi : ops[i]? = some oi)
    (hs : Region.noSelect ops = true) (hf : Region.free md ops L i = true) (hr : (Region.ready md ops L).contains i = true)
    (hQ : ∀ c a w, Q (.panic c) (a.put oi.dst v) w → Q (.panic c) a w) (hdrop : ∀ L w, S (L.setIfInBounds i true) w → S L w)
    (hy : YieldsIf P ops (Cls md ops S i) oi v a) (hS : S (L.setIfInBounds i true) w)
    (h : WA P md ops Q S fuel (L.setIfInBounds i true) (a.put oi.dst v) w) : WA P md ops Q S (fuel + 1) L a w := fun hsh =>
  wpAnyL_first hi (Region.noSelect_spec hs) hQ hdrop fuel L a w hsh (Region.free_spec hi hf) (by simpa using hr) hy hS (h (hsh.step (by simpa using hr)))

/-- as take, what is always alike given -/
theorem WA.tk {i : Nat} {oi : Oper} {v : Value} {fuel : Nat} {L : Array Bool} {a : Act} {w : World} (hi : ops[i]? = some oi) (hdrop : ∀ L w, S (L.setIfInBounds i true) w → S L w)
    (hy : YieldsIf P ops (Cls md ops S i) oi v a) (hS : S (L.setIfInBounds i true) w) (h : WA P md ops Q S fuel (L.setIfInBounds i true) (a.put oi.dst v) w)
    (hs : Region.noSelect ops = true := by kernel_rfl) (hf : Region.free md ops L i = true := by kernel_rfl) (hr : (Region.ready md ops L).contains i = true := by kernel_rfl)
    (hQ : ∀ c a w, Q (.panic c) (a.put oi.dst v) w → Q (.panic c) a w := by exact fun _ _ _ h => h) : WA P md ops Q S (fuel + 1) L a w :=
  WA.take hi hs hf hr hQ hdrop hy hS h

/-- whichever may come up comes up -/
theorem WA.all {rs : List Nat} {fuel : Nat} {L : Array Bool} {a : Act} {w : World} (hr : Region.ready md ops L = rs) (hne : rs ≠ [])
    (h : ∀ i ∈ rs, wpOp P ops Q i (fun a' w' => S (L.setIfInBounds i true) w' ∧ WA P md ops Q S fuel (L.setIfInBounds i true) a' w') a w) : WA P md ops Q S (fuel + 1) L a w := fun hsh =>
  ⟨fun h0 => absurd (hr ▸ h0) hne, fun i hi => wpOp_mono (fun a' w' h' => ⟨h'.1, h'.2 (hsh.step hi)⟩) (h i (hr ▸ hi))⟩
/-- one alone may come up -/
theorem WA.one {i : Nat} {o : Oper} {fuel : Nat} {L : Array Bool} {a : Act} {w : World} (hr : Region.ready md ops L = [i]) (ho : ops[i]? = some o) (hw : Region.wanted o (yielded ops a.tmps) = true)
    (h : ∀ K' : Act → World → Prop, (∀ a w, S (L.setIfInBounds i true) w → WA P md ops Q S fuel (L.setIfInBounds i true) a w → K' a w) → o.wp P a w K' Q) : WA P md ops Q S (fuel + 1) L a w :=
  WA.all hr (by simp) (fun j hj => by
    obtain rfl : j = i := by simpa using hj
    unfold wpOp
    simp only [ho, hw, if_true]
    exact .inl (h _ fun _ _ h1 h2 => ⟨h1, h2⟩))
/-- one operation that is wanted -/
theorem wpOp_go {i : Nat} {o : Oper} {K : Act → World → Prop} {a : Act} {w : World} (ho : ops[i]? = some o) (hw : Region.wanted o (yielded ops a.tmps) = true)
    (h : ∀ K' : Act → World → Prop, (∀ a w, K a w → K' a w) → o.wp P a w K' Q) : wpOp P ops Q i K a w := by
  unfold wpOp
  simp only [ho, hw, if_true]
  exact .inl (h K fun _ _ h => h)
theorem WA.done {L : Array Bool} {a : Act} {w : World} (hr : Region.ready md ops L = []) (h : Q .normal a w) : ∀ fuel, WA P md ops Q S fuel L a w
  | 0 => fun _ => ⟨hr, h⟩
  | _ + 1 => fun _ => ⟨fun _ => h, by rw [hr]; simp⟩
theorem wp_region_L {id : Nat} {a : Act} {w : World} (S : Array Bool → World → Prop) (n : Nat) (L0 : Array Bool) (hm : P.follows .mixedOrders = true) (hn : ops.size = n) (hL : Array.replicate n false = L0)
    (h : WA P .any ops Q S n L0 a w.drew) : (Code.region id ops true).wp P Q a w := by
  subst hn; subst hL
  exact wp_region_any hm (wpAny_of_L _ _ _ _ (h (Shutd.start _ _)))

/-- .. where the region does not panic -/
def Nrm (Q : Exit → Act → World → Prop) : Exit → Act → World → Prop
  | .normal, a, w => Q .normal a w
  | _, _, _ => False
theorem Nrm.normal {Q : Exit → Act → World → Prop} {a : Act} {w : World} (h : Q .normal a w) : Nrm Q .normal a w := h
theorem wp_region_LN {id : Nat} {a : Act} {w : World} (S : Array Bool → World → Prop) (n : Nat) (L0 : Array Bool) (hm : P.follows .mixedOrders = true) (hn : ops.size = n) (hL : Array.replicate n false = L0)
    (h : WA P .any ops (Nrm Q) S n L0 a w.drew) : (Code.region id ops true).wp P Q a w :=
  Code.wp_mono (Q := Nrm Q) (fun e a w h => by cases e <;> first | exact h | exact h.elim) (wp_region_L S n L0 hm hn hL h)

/-! ### in a round of a loop over a function -/
/-- it neither calls a Go function nor defers, spawns or speaks with others -/
def simpleOp (o : Oper) : Bool :=
  match o.op with
  | .move _ | .assign _ | .nilCheck _ | .load .. | .store .. | .fieldAddr .. | .indexAddr .. | .extract .. | .buildSlice .. | .alloc _ | .box .. | .mapEntry .. | .entryStore .. | .mapUpdate .. | .binOp .. | .unOp .. => true
  | .call c => match c.callee with | .builtin .append => true | _ => false
  | _ => false

/-- what an operation comes to that is a value or nothing -/
def Plainly (r : Result Next) : Prop := match r with
  | .ok (.value _) _ | .ok .skip _ | .halt _ _ => True
  | _ => False
theorem plainly_v (s : Sem Value) (w : World) : Plainly ((do pure (Next.value (← s)) : Sem Next).run P w) := by
  simp only [Sem.run_bind]
  cases s.run P w <;> simp [Result.andThen, Plainly]
theorem plainly_u (s : Sem Unit) (w : World) : Plainly ((do s; pure Next.skip : Sem Next).run P w) := by
  simp only [Sem.run_bind]
  cases s.run P w <;> simp [Result.andThen, Plainly]
theorem plainly_bind {α : Type} (s : Sem α) (f : α → Sem Next) (h : ∀ a w, Plainly ((f a).run P w)) (w : World) : Plainly ((s >>= f).run P w) := by
  simp only [Sem.run_bind]
  cases s.run P w
  · exact h _ _
  · trivial
theorem plainly_panic (w : World) : Plainly ((runtimePanic .nilDeref : Sem Next).run P w) := by
  simp [runtimePanic, Plainly, Result.andThen, go_sem]
theorem simpleOp_plainly {o : Oper} (hs : simpleOp o = true) (ρ : Operand → Value) (w : World) : Plainly ((execOp ρ o).run P w) := by
  unfold simpleOp at hs
  unfold execOp
  cases ho : o.op <;> simp only [ho] at hs ⊢
  all_goals first
    | (cases hs; done)
    | exact plainly_v _ _
    | exact plainly_u _ _
    | (simp [Plainly]; done)
    | skip
  case nilCheck =>
    split
    · exact plainly_panic _
    · exact plainly_panic _
    · exact plainly_panic _
    · split
      · exact plainly_panic _
      · refine plainly_bind _ _ (fun a w => plainly_bind _ _ (fun b w => ?_) w) w
        split
        · refine plainly_bind _ _ (fun _ w => ?_) w
          trivial
        · trivial
      · trivial
    · trivial
  case call c =>
    split at hs
    · rename_i hc
      simp only [resolve, hc, pure_bind, invoke, builtin]
      exact plainly_v _ _
    · cases hs

theorem simpleOp_about {o : Oper} (hs : simpleOp o = true) (ρ : Operand → Value) (w : World) : o.about P w ρ = none := by
  unfold simpleOp at hs
  unfold Oper.about
  cases ho : o.op <;> simp only [ho] at hs ⊢
  split at hs
  · rename_i hc
    simp only [resolve, hc, Sem.run_pure]
    rfl
  · cases hs
theorem simpleOp_defer {o : Oper} (hs : simpleOp o = true) : ∀ c, o.op ≠ .defer c := by
  intro c hc
  rw [simpleOp, hc] at hs
  cases hs

theorem wpOpIn_of_simple {F : Fence} {n : Nat} {i : Nat} {K : Act → World → Prop} {a : Act} {w : World} (hs : ∀ o, ops[i]? = some o → simpleOp o = true) (hQ : ¬ LetsOut Q) (h : wpOp P ops Q i K a w) : wpOpIn F n P ops Q i K a w := by
  unfold wpOp at h
  unfold wpOpIn
  cases ho : ops[i]? with
  | none => simpa [ho] using h
  | some o =>
    simp only [ho] at h ⊢
    have hab : ∀ f, o.about P w a.eval = some f → F.fn f := fun f hf => by rw [simpleOp_about (hs o ho)] at hf; cases hf
    split
    · rename_i hw
      rw [if_pos hw] at h
      have h := h.resolve_right (fun h => hQ h.2)
      refine ⟨hab, ?_⟩
      rw [Oper.semAt_eq _ _ _ (simpleOp_defer (hs o ho))]
      have hp := simpleOp_plainly (P := P) (hs o ho) a.eval w
      unfold Oper.wp at h
      generalize (execOp a.eval o).run P w = r at *
      cases r with
      | ok x w' => cases x <;> first | exact h | exact hp.elim
      | halt x w' => cases x <;> exact h
    · rename_i hw
      rw [if_neg hw] at h
      exact ⟨hab, h⟩

theorem wpAnyIn_of_L {F : Fence} {n : Nat} (hs : ∀ (i : Nat) (o : Oper), ops[i]? = some o → simpleOp o = true) (hQ : ¬ LetsOut Q) : ∀ (fuel : Nat) (L : Array Bool) (a : Act) (w : World), wpAnyL P md ops Q S fuel L a w → wpAnyIn F n P md ops Q fuel L a w
  | 0, _, _, _, h => h
  | fuel + 1, _, _, _, h => ⟨h.1, fun i hi => wpOpIn_mono (fun a' w' h' => wpAnyIn_of_L hs hQ fuel _ a' w' h'.2) (wpOpIn_of_simple (hs i) hQ (h.2 i hi))⟩

theorem wpIn_region_L {F : Fence} {n : Nat} {id : Nat} {a : Act} {w : World} (S : Array Bool → World → Prop) (m : Nat) (L0 : Array Bool) (hm : P.follows .mixedOrders = true) (hn : ops.size = m) (hL : Array.replicate m false = L0) (hs : (ops.all simpleOp) = true)
    (h : WA P .any ops (Nrm Q) S m L0 a w.drew) : (Code.region id ops true).wpIn F n P Q a w := by
  subst hn; subst hL
  refine Code.wpIn_mono (Q := Nrm Q) (fun e a w h => ?_) (wpIn_region_any hm (wpAnyIn_of_L (S := S) ?_ ?_ _ _ _ _ (h (Shutd.start _ _))))
  · cases e <;> first | exact h | exact h.elim
  · intro i o hi
    exact Array.all_eq_true_iff_forall_mem.1 hs o (Array.mem_of_getElem? hi)
  · rintro ⟨a, w, h⟩; exact h
end
end Go.Proofs.Ytghihhjcoilmgaa

namespace Go.Proofs.Ytghihhjcoilmgaa
set_option maxRecDepth 100000
set_option linter.unusedVariables false

section
variable {F : Fence} {n : Nat} {P : Program} {ops : Array Oper} {Q : Exit → Act → World → Prop} {md : Region.Mode} {S : Array Bool → World → Prop} {C : World → Prop}

/-- it calls no function -/
def quietOp (o : Oper) : Bool :=
  match o.op with
  | .call c => match c.callee with | .builtin _ => true | _ => false
  | .defer _ => false
  | _ => true
theorem quietOp_about {o : Oper} (hs : quietOp o = true) (ρ : Operand → Value) (w : World) : o.about P w ρ = none := by
  unfold quietOp at hs
  unfold Oper.about
  cases ho : o.op <;> simp only [ho] at hs ⊢
  split at hs
  · rename_i hc
    simp only [resolve, hc, Sem.run_pure]
    rfl
  · cases hs

theorem yieldsIf_wpOpIn {i : Nat} {o : Oper} {v : Value} {a : Act} (hro : F.round = none) (hi : ops[i]? = some o) (hq : quietOp o = true) (hy : YieldsIf P ops C o v a)
    {K : Act → World → Prop} {w : World} (hS : C w) (h : K (a.put o.dst v) w) : wpOpIn F n P ops Q i K a w := by
  have hab : ∀ f, o.about P w a.eval = some f → F.fn f := fun f hf => by rw [quietOp_about hq] at hf; cases hf
  unfold wpOpIn
  simp only [hi]
  rcases hy with ⟨hw, hv⟩ | ⟨hw, rfl⟩
  · rw [if_pos hw]
    unfold Oper.wpIn
    rw [hro, Oper.semAt_none, hv w hS]
    exact ⟨hab, h⟩
  · rw [if_neg (by rw [hw]; simp)]
    exact ⟨hab, h⟩

theorem wpOpIn_putIf {j : Nat} {oi oj : Oper} {v : Value} (hro : F.round = none) (hj : ops[j]? = some oj) (hap : oi.apart ops oj = true)
    (hsi : ∀ cs b, oi.op ≠ .select cs b) (hsj : ∀ cs b, oj.op ≠ .select cs b)
    (hQ : ∀ c a w, Q (.panic c) (a.put oi.dst v) w → Q (.panic c) a w) {K : Act → World → Prop} {a : Act} {w : World}
    (hy : YieldsIf P ops C oi v a) (h : wpOpIn F n P ops Q j K (a.put oi.dst v) w) :
    wpOpIn F n P ops Q j (fun a' w' => YieldsIf P ops C oi v a' ∧ K (a'.put oi.dst v) w') a w := by
  obtain ⟨h1, h2, h3⟩ := Oper.apart_spec hap
  have stays : ∀ b : Act, YieldsIf P ops C oi v b → ∀ u, YieldsIf P ops C oi v (b.put oj.dst u) := fun b hb u =>
    hb.of_same (execOp_put oi hsi b oj.dst u h3) (wanted_put oi b oj.dst u h3)
  have hA := about_put (P := P) oj w a oi.dst v h1
  unfold wpOpIn at h ⊢
  simp only [hj] at h ⊢
  rw [wanted_put oj a oi.dst v h1, hA] at h
  by_cases hw : Region.wanted oj (yielded ops a.tmps) = true
  · rw [if_pos hw] at h ⊢
    unfold Oper.wpIn at h ⊢
    rw [hA, hro, Oper.semAt_none, execOp_put oj hsj a oi.dst v h1] at h
    rw [hro, Oper.semAt_none]
    obtain ⟨h0, h⟩ := h
    refine ⟨h0, ?_⟩
    cases hr : (execOp a.eval oj).run P w with
    | halt x w' =>
      rw [hr] at h
      cases x <;> first | exact hQ _ _ _ h | exact h
    | ok x w' =>
      rw [hr] at h
      cases x with
      | value u => exact ⟨stays a hy u, by rw [← Act.put_comm a v u h2]; exact h⟩
      | skip => exact ⟨stays a hy _, by rw [← Act.put_comm a v undef h2]; exact h⟩
      | defer d =>
        refine ⟨stays { a with defers := d :: a.defers } (hy.of_same rfl rfl) _, ?_⟩
        rw [← Act.put_comm _ v undef h2, ← Act.put_defers]
        exact h
      | enter f args =>
        refine ⟨h.1, CallsIn.mono h.2 fun e w'' he => ?_⟩
        cases e with
        | returned u => exact ⟨stays a hy u, by rw [← Act.put_comm a v u h2]; exact he⟩
        | panicked c => exact hQ _ _ _ he
        | outgrown => exact he
      | row row args => exact ⟨h.1, RowsIn.mono h.2 fun u w'' he => ⟨stays a hy u, by rw [← Act.put_comm a v u h2]; exact he⟩⟩
      | round l f tmps assign body =>
        refine ⟨h.1, RoundIn.mono h.2 fun e w'' he => ?_⟩
        cases e with
        | returned u => exact ⟨stays a hy u, by rw [← Act.put_comm a v u h2]; exact he⟩
        | panicked c => exact hQ _ _ _ he
        | outgrown => exact he
      | _ => exact h
  · rw [if_neg hw] at h ⊢
    exact ⟨h.1, stays a hy _, by rw [← Act.put_comm a v undef h2]; exact h.2⟩

def wpAnyLI (F : Fence) (n : Nat) (P : Program) (md : Region.Mode) (ops : Array Oper) (Q : Exit → Act → World → Prop) (S : Array Bool → World → Prop) : Nat → Array Bool → Act → World → Prop
  | 0, L, a, w => Region.ready md ops L = [] ∧ Q .normal a w
  | fuel + 1, L, a, w =>
    (Region.ready md ops L = [] → Q .normal a w) ∧
    ∀ i ∈ Region.ready md ops L, wpOpIn F n P ops Q i (fun a' w' => S (L.setIfInBounds i true) w' ∧ wpAnyLI F n P md ops Q S fuel (L.setIfInBounds i true) a' w') a w
theorem wpAnyIn_of_LI : ∀ (fuel : Nat) (L : Array Bool) (a : Act) (w : World), wpAnyLI F n P md ops Q S fuel L a w → wpAnyIn F n P md ops Q fuel L a w
  | 0, _, _, _, h => h
  | fuel + 1, _, _, _, h => ⟨h.1, fun i hi => wpOpIn_mono (fun a' w' h' => wpAnyIn_of_LI fuel _ a' w' h'.2) (h.2 i hi)⟩

theorem wpAnyLI_first {i : Nat} {oi : Oper} {v : Value} (hro : F.round = none) (hi : ops[i]? = some oi) (hq : quietOp oi = true) (hsel : ∀ (j : Nat) (o : Oper) cs b, ops[j]? = some o → o.op ≠ .select cs b)
    (hQ : ∀ c a w, Q (.panic c) (a.put oi.dst v) w → Q (.panic c) a w) (hdrop : ∀ L w, S (L.setIfInBounds i true) w → S L w) :
    ∀ (fuel : Nat) (L : Array Bool) (a : Act) (w : World), Shutd md ops L →
      (∀ j oj, ops[j]? = some oj → j ≠ i → L.getD j true = false → (∀ e ∈ oj.after, Region.binds md e = true → e.on ≠ i) → oi.apart ops oj = true) →
      i ∈ Region.ready md ops L → YieldsIf P ops (Cls md ops S i) oi v a → S (L.setIfInBounds i true) w →
      wpAnyLI F n P md ops Q S fuel (L.setIfInBounds i true) (a.put oi.dst v) w → wpAnyLI F n P md ops Q S (fuel + 1) L a w := by
  intro fuel
  induction fuel with
  | zero =>
    intro L a w hsh _ hr hy hS H
    refine ⟨fun h => (by rw [h] at hr; cases hr), fun j hj => ?_⟩
    by_cases hji : j = i
    · subst hji; exact yieldsIf_wpOpIn hro hi hq hy ⟨L, hsh, hdrop _ _ hS, (mem_ready.1 hr).1⟩ ⟨hS, H⟩
    · have := ready_mono hj hji
      rw [H.1] at this
      cases this
  | succ fuel ih =>
    intro L a w hsh hfree hr hy hS H
    refine ⟨fun h => (by rw [h] at hr; cases hr), fun j hj => ?_⟩
    by_cases hji : j = i
    · subst hji; exact yieldsIf_wpOpIn hro hi hq hy ⟨L, hsh, hdrop _ _ hS, (mem_ready.1 hr).1⟩ ⟨hS, H⟩
    · have h1 := H.2 j (ready_mono hj hji)
      obtain ⟨hjun, oj, hoj, hall⟩ := mem_ready.1 hj
      have hnot : ∀ e ∈ oj.after, Region.binds md e = true → e.on ≠ i := fun e he hb heq => by
        have h1 := hall e he hb
        have h0 := (mem_ready.1 hr).1
        rw [heq] at h1
        rcases Nat.lt_or_ge i L.size with h' | h'
        · simp [h'] at h0 h1; rw [h0] at h1; cases h1
        · simp [Array.getElem?_eq_none h'] at h1
      have h2 := wpOpIn_putIf hro hoj (hfree j oj hoj hji hjun hnot) (fun cs b => hsel i oi cs b hi) (fun cs b => hsel j oj cs b hoj) hQ hy h1
      have hfree' : ∀ k ok, ops[k]? = some ok → k ≠ i → (L.setIfInBounds j true).getD k true = false →
          (∀ e ∈ ok.after, Region.binds md e = true → e.on ≠ i) → oi.apart ops ok = true := fun k ok hk hki hun hno => by
        refine hfree k ok hk hki ?_ hno
        by_cases hjk : j = k
        · subst hjk; exact hjun
        · rw [getD_set_ne true hjk] at hun; exact hun
      refine wpOpIn_mono (fun a' w' h3 => ?_) h2
      have h4 := h3.2.1
      have h5 := h3.2.2
      rw [Array.setIfInBounds_comm _ _ (Ne.symm hji)] at h4 h5
      exact ⟨hdrop _ _ h4, ih (L.setIfInBounds j true) a' w' (hsh.step hj) hfree' (ready_mono hr (Ne.symm hji)) h3.1 h4 h5⟩

/-- the goal on the way through a region inside a fence -/
def WI (F : Fence) (n : Nat) (P : Program) (md : Region.Mode) (ops : Array Oper) (Q : Exit → Act → World → Prop) (S : Array Bool → World → Prop) (fuel : Nat) (L : Array Bool) (a : Act) (w : World) : Prop :=
  Shutd md ops L → wpAnyLI F n P md ops Q S fuel L a w
theorem WI.take {i : Nat} {oi : Oper} {v : Value} {fuel : Nat} {L : Array Bool} {a : Act} {w : World} (hro : F.round = none) (hi : ops[i]? = some oi) (hq : quietOp oi = true)
    (hs : Region.noSelect ops = true) (hf : Region.free md ops L i = true) (hr : (Region.ready md ops L).contains i = true)
    (hQ : ∀ c a w, Q (.panic c) (a.put oi.dst v) w → Q (.panic c) a w) (hdrop : ∀ L w, S (L.setIfInBounds i true) w → S L w)
    (hy : YieldsIf P ops (Cls md ops S i) oi v a) (hS : S (L.setIfInBounds i true) w)
    (h : WI F n P md ops Q S fuel (L.setIfInBounds i true) (a.put oi.dst v) w) : WI F n P md ops Q S (fuel + 1) L a w := fun hsh =>
  wpAnyLI_first hro hi hq (Region.noSelect_spec hs) hQ hdrop fuel L a w hsh (Region.free_spec hi hf) (by simpa using hr) hy hS (h (hsh.step (by simpa using hr)))
theorem WI.one {i : Nat} {o : Oper} {fuel : Nat} {L : Array Bool} {a : Act} {w : World} (hr : Region.ready md ops L = [i]) (ho : ops[i]? = some o) (hw : Region.wanted o (yielded ops a.tmps) = true)
    (h : ∀ K' : Act → World → Prop, (∀ a w, S (L.setIfInBounds i true) w → WI F n P md ops Q S fuel (L.setIfInBounds i true) a w → K' a w) → o.wpIn F n P a w K' Q) : WI F n P md ops Q S (fuel + 1) L a w := fun hsh => by
  have hi : i ∈ Region.ready md ops L := by rw [hr]; simp
  refine ⟨fun h0 => absurd (hr ▸ h0) (by simp), fun j hj => ?_⟩
  obtain rfl : j = i := by rw [hr] at hj; simpa using hj
  unfold wpOpIn
  simp only [ho]
  rw [if_pos hw]
  exact h _ fun a w h1 h2 => ⟨h1, h2 (hsh.step hi)⟩
/-- one alone may come up, and its guard keeps it back -/
theorem WI.skip {i : Nat} {o : Oper} {fuel : Nat} {L : Array Bool} {a : Act} {w : World} (hF : ∀ f, F.fn f) (hr : Region.ready md ops L = [i]) (ho : ops[i]? = some o) (hw : Region.wanted o (yielded ops a.tmps) = false)
    (hS : S (L.setIfInBounds i true) w) (h : WI F n P md ops Q S fuel (L.setIfInBounds i true) (a.put o.dst undef) w) : WI F n P md ops Q S (fuel + 1) L a w := fun hsh => by
  have hi : i ∈ Region.ready md ops L := by rw [hr]; simp
  refine ⟨fun h0 => absurd (hr ▸ h0) (by simp), fun j hj => ?_⟩
  obtain rfl : j = i := by rw [hr] at hj; simpa using hj
  unfold wpOpIn
  simp only [ho]
  rw [if_neg (by rw [hw]; simp)]
  exact ⟨fun f _ => hF f, hS, h (hsh.step hi)⟩
theorem WI.done {L : Array Bool} {a : Act} {w : World} (hr : Region.ready md ops L = []) (h : Q .normal a w) : ∀ fuel, WI F n P md ops Q S fuel L a w
  | 0 => fun _ => ⟨hr, h⟩
  | _ + 1 => fun _ => ⟨fun _ => h, by rw [hr]; simp⟩
theorem wpIn_region_LI {id : Nat} {a : Act} {w : World} (S : Array Bool → World → Prop) (m : Nat) (L0 : Array Bool) (hm : P.follows .mixedOrders = true) (hn : ops.size = m) (hL : Array.replicate m false = L0)
    (h : WI F n P .any ops (Nrm Q) S m L0 a w.drew) : (Code.region id ops true).wpIn F n P Q a w := by
  subst hn; subst hL
  refine Code.wpIn_mono (Q := Nrm Q) (fun e a w h => ?_) (wpIn_region_any hm (wpAnyIn_of_LI (S := S) _ _ _ _ (h (Shutd.start _ _))))
  cases e <;> first | exact h | exact h.elim
end
end Go.Proofs.Ytghihhjcoilmgaa
