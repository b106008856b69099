/- A table, its copy, and the references of both: what each leaves of the others. -/
import Derived.Test.YtellmhllgmimiaaC3
namespace Go.Proofs.Ytellmhllgmimiaa
open Go.RowKit Go.Maps
set_option linter.unusedVariables false
set_option linter.unusedSimpArgs false

section
variable {F G : Nat → Nat → Prop} {V : Zone} {w w' : World} {tb rb : Nat} {T TR : TS} {A B : Zone} {D : TabD} {vr vb : Value}
theorem StF.foreign (h : StF F G w tb rb T TR A B D vr vb) (hf : Fr V w w') (h1 : ∀ i j, A.R i j → ¬ V.W i j) (h2 : ∀ i j, B.W i j → ¬ V.W i j) : StF F G w' tb rb T TR A B D vr vb :=
  ⟨h.t.stay hf h1, h.r.stay hf (fun i j _ => h2 i j), h.ab, fun i j hr => ⟨(h.al i j hr).1, Nat.lt_of_lt_of_le (h.al i j hr).2 hf.size⟩, h.aw, fun i j hr => ⟨(h.bl i j hr).1, Nat.lt_of_lt_of_le (h.bl i j hr).2 hf.size⟩, fun i j hr => Nat.lt_of_lt_of_le (h.fl i j hr) hf.size, fun i j hr => Nat.lt_of_lt_of_le (h.gl i j hr) hf.size⟩
theorem Sl.re {Z Z' : Zone} {e size n : Nat} {v : Value} {xs : List Value} (h : Sl Z w e size v n xs) (hW : ∀ g, v.ownBlock = some g → ∀ j, Z'.W g j) : Sl Z' w e size v n xs := by
  refine ⟨h.1, ?_⟩
  rcases h.2 with h' | ⟨g, cap, cur, rfl, hg, h1, h2, h3, h4, h5, h6⟩
  · exact .inl h'
  · exact .inr ⟨g, cap, cur, rfl, hg, h1, h2, h3, h4, fun j _ _ => hW g rfl j, fun j _ => Z'.sub _ _ (hW g rfl j)⟩
end
theorem wp_copy_Sl0 {Z : Zone} {w : World} {P : Program} {e size n : Nat} {v : Value} {xs : List Value} {o : Oper} {a : Act} {K : Act → World → Prop} {Q : Exit → Act → World → Prop} (s x : Operand) (t : TypeId)
    (hop : o.op = .call { callee := .builtin .append, args := #[s, x], argTypes := #[t, t] }) (hs : a.eval s = .slice none 0 0) (hx : a.eval x = v) (h : Sl Z w e size v n xs) (hv0 : n = 0 → v = .slice none 0 0) (hZ : Z.opn w.heap.size)
    (i : TypeInfo) (z : Value) (bytes : Nat) (ht : P.underlying t = some (.slice e)) (hi : P.info? e = some i) (hz : i.zero = some z)
    (hsize : i.size = size) (hby : i.bytes = bytes) (hzs : z.cells.size = size) (hsz : 0 < size) (h1 : ∀ u ∈ xs, u.oneCell' = true)
    (h63 : n ≤ maxLen) (hbytes : n * bytes ≤ 140737488355328)
    (hK : ∀ v' w', Sl Z w' e size v' n xs → Below w.heap.size w w' → (∀ g, v'.ownBlock = some g → w.heap.size ≤ g) → (n = 0 → v' = .slice none 0 0) → (∃ ad c, v' = .slice ad n c) → K (a.put o.dst v') w') :
    o.wp P a w K Q := by
  by_cases hn : n = 0
  · subst hn
    have hv := hv0 rfl
    have hxs : xs = [] := List.eq_nil_of_length_eq_zero (by rw [h.1]; simp)
    subst hv; subst hxs
    unfold Oper.wp execOp
    simp only [hop, resolve, invoke, builtin, Sem.run_bind, Sem.run_pure, Result.andThen_ok, List.map_toArray, List.map_cons, List.map_nil, hs, hx, run_append_nils _ w ht hi]
    exact hK _ _ (Sl.nil _ _ _ _) (Below.refl _ _) (fun g hg => by simp [Value.ownBlock] at hg) (fun _ => rfl) ⟨_, _, rfl⟩
  · exact wp_copy_Sl s x t hop hs hx h hv0 hZ i z bytes ht hi hz hsize hby hzs hsz h1 h63 hbytes (fun v' w' a b c => hK v' w' a b c (fun e => absurd e hn) (by
      rcases a.form with ⟨_, e⟩ | ⟨g, cap, e, _⟩
      · exact absurd e hn
      · exact ⟨_, _, e⟩))
/-- the reference's copy: block b, and what came from N1 to N2 -/
def Zone.pick (b N1 N2 : Nat) : Zone where
  W i _ := i = b ∨ (N1 ≤ i ∧ i < N2)
  R i _ := i = b ∨ (N1 ≤ i ∧ i < N2)
  M _ := False
  sub _ _ h := h
/-- the reference's copy, when both its lists have been laid -/
theorem v_copied {Z1 Z2 : Zone} {wr X1 X3 : World} {b : Nat} {T : TS} {v1 v2 : Value} (hlen : T.length ≤ 1000000) (hoks : ∀ y ∈ T, yok y) (hb : b < wr.heap.size) (ho : wr.heap[b]? = some (.cells #[.slice none 0 0, .slice none 0 0] 44 (0, 0)))
    (p1 : Sl Z1 X1 25 3 v1 T.length (rcs T)) (p2 : Below wr.heap.size wr X1) (p3 : ∀ g, v1.ownBlock = some g → wr.heap.size ≤ g)
    (q1 : Sl Z2 X3 32 1 v2 T.length (bcs T)) (q2 : Below X1.heap.size (X1.setCell ⟨b, 0, none⟩ v1) X3) (q3 : ∀ g, v2.ownBlock = some g → X1.heap.size ≤ g)
    (hn : T = [] → v1 = .slice none 0 0 ∧ v2 = .slice none 0 0) :
    IsR (Zone.pick b wr.heap.size X3.heap.size) (X3.setCell ⟨b, 1, none⟩ v2) b T v1 v2 ∧ Fr (Zone.one b) wr (X3.setCell ⟨b, 1, none⟩ v2) := by
  have hs1 := p2.size
  have hs3 := q2.size
  rw [World.size_setCell] at hs3
  have ho1 : (X1.setCell ⟨b, 0, none⟩ v1).heap[b]? = some (.cells #[v1, .slice none 0 0] 44 (0, 0)) := set_heap ((p2.block b hb).trans ho) 0 v1
  have ho3 : (X3.setCell ⟨b, 1, none⟩ v2).heap[b]? = some (.cells #[v1, v2] 44 (0, 0)) := set_heap ((q2.block b (by omega)).trans ho1) 1 v2
  refine ⟨{ obj := ho3, own := fun j => .inl rfl, rows := ?_, rowsW := fun g hg j => ?_, bits := ?_, bitsW := fun g hg j => ?_, oks := hoks, long := hlen, nil0 := hn }, ?_⟩
  · refine (p1.stayB (fun g hg => ?_)).re (fun g hg j => .inr ⟨p3 g hg, ?_⟩)
    · have hg1 := (p1.lt g hg).1
      have hgb := p3 g hg
      refine (Below.heap_setCell X3 _ _ g (fun e => ?_)).trans ((q2.block g hg1).trans (Below.heap_setCell X1 _ _ g (fun e => ?_)))
      · have e : g = b := e
        omega
      · have e : g = b := e
        omega
    · have := (p1.lt g hg).1; omega
  · exact .inr ⟨p3 g hg, by have := (p1.lt g hg).1; omega⟩
  · refine (q1.stayB (fun g hg => ?_)).re (fun g hg j => .inr ⟨by have := q3 g hg; omega, (q1.lt g hg).1⟩)
    have hgb := q3 g hg
    exact Below.heap_setCell X3 _ _ g (fun e => by have e : g = b := e; omega)
  · exact .inr ⟨by have := q3 g hg; omega, (q1.lt g hg).1⟩
  · exact ((((Fr.of_below (Z := Zone.one b) p2).setCell (a := ⟨b, 0, none⟩) (show b = b from rfl)).then_below (by rw [World.size_setCell]; exact q2)).setCell (a := ⟨b, 1, none⟩) (show b = b from rfl))
/-- below n0, and block b -/
def belowAnd (n0 b : Nat) (i _ : Nat) : Prop := i < n0 ∨ i = b
def justB (b : Nat) (i _ : Nat) : Prop := i = b
theorem StsF.start {n0 : Nat} {w1 : World} {D : TabD} {tb : Nat} (hI : IsT (Zone.from n0) w1 tb [] D) (hn : n0 ≤ w1.heap.size) :
    ∀ W0 Wv, W0 = w1.alloc (.cells #[.slice none 0 0, .slice none 0 0] 44) → Wv = W0.alloc (.cells #[.slice none 0 0, .slice none 0 0] 44) →
    StsF (belowAnd n0 W0.heap.size) (justB W0.heap.size) Wv tb w1.heap.size [] [] ∧ IsR (Zone.one W0.heap.size) Wv W0.heap.size [] (.slice none 0 0) (.slice none 0 0) ∧ Below w1.heap.size w1 Wv ∧ n0 ≤ W0.heap.size := by
  rintro W0 Wv rfl rfl
  have hz := World.size_alloc w1 (.cells #[.slice none 0 0, .slice none 0 0] 44)
  obtain ⟨W0, hW0⟩ : ∃ W0, w1.alloc (.cells #[.slice none 0 0, .slice none 0 0] 44) = W0 := ⟨_, rfl⟩
  rw [hW0] at hz ⊢
  have hz2 := World.size_alloc W0 (.cells #[.slice none 0 0, .slice none 0 0] 44)
  have hb0 : Below w1.heap.size w1 W0 := by rw [← hW0]; exact (Below.refl _ w1).alloc (Nat.le_refl _) _
  have hb2 : Below W0.heap.size W0 (W0.alloc (.cells #[.slice none 0 0, .slice none 0 0] 44)) := (Below.refl _ W0).alloc (Nat.le_refl _) _
  have hr0 : IsR (Zone.one w1.heap.size) W0 w1.heap.size [] (.slice none 0 0) (.slice none 0 0) := by rw [← hW0]; exact isR_nil (fun _ => rfl)
  refine ⟨⟨(Zone.from n0).cut w1.heap.size, Zone.one w1.heap.size, D, _, _, ((hI.cut (Nat.le_refl _)).below hb0).below hb2, hr0.below hb2, ?_, ?_, ?_, ?_, ?_, ?_⟩, isR_nil (fun _ => rfl), hb0.trans (hb2.mono (by omega)), by omega⟩
  · rintro i j ⟨_, h1⟩ h2
    exact Nat.ne_of_lt h1 h2
  · rintro i j ⟨h1, h2⟩
    exact ⟨fun h => by have : i = _ := h; omega, by omega⟩
  · rintro i j ⟨h1, h2⟩ h3
    have h1 : n0 ≤ i := h1
    rcases h3 with h3 | h3 <;> omega
  · rintro i j h1
    have h1 : i = _ := h1
    exact ⟨fun h3 => by rcases h3 with h3 | h3 <;> omega, by omega⟩
  · rintro i j (h1 | h1) <;> omega
  · rintro i j h1
    have h1 : i = _ := h1
    omega
theorem off_below {n0 : Nat} {F : Nat → Nat → Prop} {w w' : World} (h : Fr (Zone.off F) w w') (hn : n0 ≤ w.heap.size) (hF : ∀ i j, i < n0 → F i j) : Below n0 w w' :=
  h.below hn (fun i j hw => by
    by_cases hi : i < n0
    · exact absurd (hF i j hi) hw
    · omega)
/-- the copy's zone, cut off -/
abbrev copyA (S : Nat → Nat → Prop) (N N' : Nat) : Zone := (Zone.copyZ S N).cut N'
def Fa (n0 : Nat) (Ao C : Zone) (i j : Nat) : Prop := i < n0 ∨ Ao.R i j ∨ C.W i j
def Ga (Ao C : Zone) (i j : Nat) : Prop := Ao.W i j ∨ C.W i j
section
variable {n0 b N1 N2 : Nat} {w wc w' : World} {tb rb ob : Nat} {T TR : TS} {A B : Zone} {D Do : TabD} {vr vb : Value}
/-- the table and its reference, behind the copy -/
theorem StF.apart (h : StF (belowAnd n0 b) (justB b) w tb rb T TR A B D vr vb) (hb : n0 ≤ b) (hf : Fr (Zone.one b) w wc) (hN : w.heap.size ≤ N1 ∧ N1 ≤ N2 ∧ N2 ≤ wc.heap.size) (hb' : Below wc.heap.size wc w') (hbc : b < wc.heap.size) :
    StF (Fa n0 (copyA (LC D (lst T)) wc.heap.size w'.heap.size) (Zone.pick b N1 N2)) (Ga (copyA (LC D (lst T)) wc.heap.size w'.heap.size) (Zone.pick b N1 N2)) w' tb rb T TR (A.less (LC D (lst T))) B D vr vb := by
  have hl := h.al
  have hsz := hf.size
  have hsz' := hb'.size
  have hc : StF (belowAnd n0 b) (justB b) wc tb rb T TR A B D vr vb := h.foreign hf (fun i j hr hv => (hl i j hr).1 hv) (fun i j hr hv => (h.bl i j hr).1 (.inr hv))
  have hw := hc.below hb'
  have hS : ∀ i j, LC D (lst T) i j → A.R i j := by
    rintro i j ⟨x, v, hx, hv, ho, hj⟩
    exact sl_reads (h.t.byOk.has x v hx hv).2 ho (by omega)
  refine ⟨hw.t.less (fun i j hs => hs), hw.r, h.ab, fun i j hr => ⟨?_, (hw.al i j hr).2⟩, fun i j hr => ?_, fun i j hr => ⟨?_, (hw.bl i j hr).2⟩, fun i j hF => ?_, fun i j hG => ?_⟩
  · have h1 := (hl i j hr).2
    have h2 : i ≠ b := (hl i j hr).1
    rintro (⟨h3, _⟩ | h3)
    · have h3 : wc.heap.size ≤ i := h3
      omega
    · rcases h3 with h3 | h3 <;> omega
  · have h1 := (hl i j (A.sub i j hr.1)).2
    have h2 : i ≠ b := (hl i j (A.sub i j hr.1)).1
    have h0 : ¬ (i < n0 ∨ i = b) := h.aw i j hr.1
    rintro (h3 | ⟨h3, _⟩ | h3)
    · exact h0 (.inl h3)
    · rcases h3 with h3 | h3
      · omega
      · exact hr.2 h3
    · rcases h3 with h3 | h3 <;> omega
  · have h1 := (h.bl i j hr).2
    have h0 : ¬ (i < n0 ∨ i = b) := (h.bl i j hr).1
    rintro (h3 | ⟨h3, _⟩ | h3)
    · exact h0 (.inl h3)
    · rcases h3 with h3 | h3
      · omega
      · exact h.ab i j (hS i j h3) hr
    · rcases h3 with h3 | h3 <;> omega
  · rcases hF with h3 | ⟨_, h3⟩ | h3
    · omega
    · exact h3
    · rcases h3 with h3 | h3 <;> omega
  · rcases hG with ⟨_, h3⟩ | h3
    · exact h3
    · rcases h3 with h3 | h3 <;> omega
end
section
variable {n0 : Nat} {w : World} {tb rb ob ub : Nat} {T TR T0 T0' : TS} {A B Ao C : Zone} {D Do : TabD} {vr vb v1 v2 : Value}
/-- .. the copy and its reference, with those two beside -/
theorem StF.other (h : StF (Fa n0 Ao C) (Ga Ao C) w tb rb T TR A B D vr vb) (ht : IsT Ao w ob T0 Do) (hr : IsR C w ub T0' v1 v2) (hab : ∀ i j, Ao.R i j → ¬ C.W i j) (hl : ∀ i j, Ao.R i j → i < w.heap.size) (hc : ∀ i j, C.W i j → i < w.heap.size ∧ n0 ≤ i) (ha : ∀ i j, Ao.W i j → n0 ≤ i) (hn : n0 ≤ w.heap.size) :
    StF (fun i j => i < n0 ∨ A.R i j ∨ B.W i j) (fun _ _ => False) w ob ub T0 T0' Ao C Do v1 v2 := by
  refine ⟨ht, hr, hab, fun i j hr => ⟨fun h => h, hl i j hr⟩, fun i j hw => ?_, fun i j hw => ⟨?_, (hc i j hw).1⟩, fun i j hF => ?_, fun i j h => h.elim⟩
  · have h1 := ha i j hw
    rintro (h2 | h2 | h2)
    · omega
    · exact (h.al i j h2).1 (.inl hw)
    · exact (h.bl i j h2).1 (.inr (.inl (Ao.sub i j hw)))
  · have h1 := (hc i j hw).2
    rintro (h2 | h2 | h2)
    · omega
    · exact (h.al i j h2).1 (.inr hw)
    · exact (h.bl i j h2).1 (.inr (.inr hw))
  · rcases hF with h2 | h2 | h2
    · omega
    · exact (h.al i j h2).2
    · exact (h.bl i j h2).2
end
end Go.Proofs.Ytellmhllgmimiaa
