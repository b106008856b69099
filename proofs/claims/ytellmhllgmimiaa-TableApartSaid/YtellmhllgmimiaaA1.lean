/- A table and the reference's, side by side, with cells F of others that are not written, and G that the table does not read. -/
import Derived.Test.YtellmhllgmimiaaS6
namespace Go.Proofs.Ytellmhllgmimiaa
open Go.RowKit Go.Maps
set_option linter.unusedVariables false
set_option linter.unusedSimpArgs false

/-- all but these -/
def Zone.off (F : Nat → Nat → Prop) : Zone where
  W i j := ¬ F i j
  R _ _ := True
  M _ := True
  sub _ _ _ := trivial
structure StF (F G : Nat → Nat → Prop) (w : World) (tb rb : Nat) (T TR : TS) (A B : Zone) (D : TabD) (vr vb : Value) : Prop where
  t : IsT A w tb T D
  r : IsR B w rb TR vr vb
  ab : ∀ i j, A.R i j → ¬ B.W i j
  al : ∀ i j, A.R i j → ¬ G i j ∧ i < w.heap.size
  aw : ∀ i j, A.W i j → ¬ F i j
  bl : ∀ i j, B.W i j → ¬ F i j ∧ i < w.heap.size
  fl : ∀ i j, F i j → i < w.heap.size
  gl : ∀ i j, G i j → i < w.heap.size
def StsF (F G : Nat → Nat → Prop) (w : World) (tb rb : Nat) (T TR : TS) : Prop := ∃ A B D vr vb, StF F G w tb rb T TR A B D vr vb

section
variable {F G : Nat → Nat → Prop} {w w' : World} {tb rb : Nat} {T TR T' : TS} {A B : Zone} {D D' : TabD} {vr vb vr' vb' : Value}
theorem StF.below (h : StF F G w tb rb T TR A B D vr vb) (hb : Below w.heap.size w w') : StF F G w' tb rb T TR A B D vr vb :=
  ⟨h.t.below hb, h.r.below hb, h.ab, fun i j hr => ⟨(h.al i j hr).1, Nat.lt_of_lt_of_le (h.al i j hr).2 hb.size⟩, h.aw, fun i j hr => ⟨(h.bl i j hr).1, Nat.lt_of_lt_of_le (h.bl i j hr).2 hb.size⟩, fun i j hf => Nat.lt_of_lt_of_le (h.fl i j hf) hb.size, fun i j hf => Nat.lt_of_lt_of_le (h.gl i j hf) hb.size⟩
theorem StsF.below (h : StsF F G w tb rb T TR) (hb : Below w.heap.size w w') : StsF F G w' tb rb T TR := by
  obtain ⟨A, B, D, vr, vb, h⟩ := h
  exact ⟨A, B, D, vr, vb, h.below hb⟩
/-- as the elder form has it -/
theorem StF.st (h : StF F G w tb rb T TR A B D vr vb) : St 0 w tb rb T TR A B D vr vb :=
  ⟨h.t, h.r, h.ab, fun i j hr => ⟨Nat.zero_le _, (h.al i j hr).2⟩, fun i j hr => ⟨Nat.zero_le _, (h.bl i j hr).2⟩, Nat.zero_le _⟩
theorem StF.turnT (h : StF F G w tb rb T TR A B D vr vb) (ht : IsT (A.up w.heap.size) w' tb T' D') (hf : Fr (A.up w.heap.size) w w') : StsF F G w' tb rb T' TR ∧ Fr (Zone.off F) w w' := by
  refine ⟨⟨(A.up w.heap.size).cut w'.heap.size, B, D', vr, vb, ht.cut (Nat.le_refl _), h.r.stay hf ?_, ?_, ?_, ?_, fun i j hr => ⟨(h.bl i j hr).1, Nat.lt_of_lt_of_le (h.bl i j hr).2 hf.size⟩, fun i j hr => Nat.lt_of_lt_of_le (h.fl i j hr) hf.size, fun i j hr => Nat.lt_of_lt_of_le (h.gl i j hr) hf.size⟩, hf.mono ?_ (fun _ _ _ => trivial)⟩
  · rintro i j hi hw (h1 | h1)
    · exact h.ab i j (A.sub i j h1) hw
    · omega
  · rintro i j ⟨h1 | h1, _⟩ hw
    · exact h.ab i j h1 hw
    · have := (h.bl i j hw).2; omega
  · rintro i j ⟨h1 | h1, h2⟩
    · exact ⟨(h.al i j h1).1, h2⟩
    · exact ⟨fun hg => by have := h.gl i j hg; omega, h2⟩
  · rintro i j ⟨h1 | h1, h2⟩
    · exact h.aw i j h1
    · exact fun hg => by have := h.fl i j hg; omega
  · rintro i j hi (h1 | h1)
    · exact h.aw i j h1
    · omega
theorem StF.turnR (h : StF F G w tb rb T TR A B D vr vb) (ht : IsR (B.up w.heap.size) w' rb T' vr' vb') (hf : Fr (B.up w.heap.size) w w') : StsF F G w' tb rb T T' ∧ Fr (Zone.off F) w w' := by
  have hd : ∀ i j, A.R i j → ¬ (B.up w.heap.size).W i j := by
    rintro i j hr (h1 | h1)
    · exact h.ab i j hr h1
    · have := (h.al i j hr).2; omega
  refine ⟨⟨A, (B.up w.heap.size).cut w'.heap.size, D, vr', vb', h.t.stay hf hd, ht.cut (Nat.le_refl _), ?_, fun i j hr => ⟨(h.al i j hr).1, Nat.lt_of_lt_of_le (h.al i j hr).2 hf.size⟩, h.aw, ?_, fun i j hr => Nat.lt_of_lt_of_le (h.fl i j hr) hf.size, fun i j hr => Nat.lt_of_lt_of_le (h.gl i j hr) hf.size⟩, hf.mono ?_ (fun _ _ _ => trivial)⟩
  · rintro i j hr ⟨h1, _⟩
    exact hd i j hr h1
  · rintro i j ⟨h1 | h1, h2⟩
    · exact ⟨(h.bl i j h1).1, h2⟩
    · exact ⟨fun hg => by have := h.fl i j hg; omega, h2⟩
  · rintro i j hi (h1 | h1)
    · exact (h.bl i j h1).1
    · omega
end
theorem StF.box {F G : Nat → Nat → Prop} {w W w2 : World} {tb rb : Nat} {T TR : TS} {A B : Zone} {D : TabD} {vr vb : Value} (h : StF F G w tb rb T TR A B D vr vb) (hz : W.heap.size = w.heap.size + 1) (hf : Fr (A.up W.heap.size) W w2) : w2.heap[w.heap.size]? = W.heap[w.heap.size]? := by
  refine hf.block _ (by omega) ?_
  rintro j (h1 | h1)
  · have := (h.al _ _ (A.sub _ _ h1)).2; omega
  · omega

end Go.Proofs.Ytellmhllgmimiaa
