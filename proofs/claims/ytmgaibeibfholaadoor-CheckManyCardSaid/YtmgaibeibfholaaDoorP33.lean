/- May a program be: in plain words. -/
import Derived.Test.YtmgaibeibfholaaDoorP32
namespace Go.Proofs.YtmgaibeibfholaaDoor
set_option maxRecDepth 100000
open Go.RowKit Go.Shelf Go.Maps Plain
set_option linter.unusedVariables false
set_option linter.unusedSimpArgs false

/-- a part that may not be in a program with a NOT -/
def badP (x : Pa) : Bool := decide (x.kind = 2) && !emB x.pat.b.var
def badR (n : Bool) (r : Ru) : Bool := (n && !emB r.head.b.var) || r.body.any badP
def dupT (l : List Ru) : Nat → Bool
  | 0 => false
  | i + 1 => dupT l i || (match l[i]? with | some r => hitB (l.take i) r | none => false)
/-- what a program is told -/
def progE (l : List Ru) : Int :=
  match l.find? (fun r => !decide (ruleE r = 0)) with
  | some r => ruleE r
  | none => if l.any (badR (negs l)) = true then 5 else if dupT l l.length = true then 8 else if 1000 < l.length then 9 else 0
theorem dupT_succ {l : List Ru} {i : Nat} (h : i < l.length) : dupT l (i + 1) = (dupT l i || hitB (l.take i) l[i]) := by
  show (dupT l i || _) = _
  rw [List.getElem?_eq_getElem h]
theorem progE_first {l : List Ru} {k : Nat} (hk : k < l.length) (h : ∀ j (hj : j < l.length), j < k → ruleE l[j] = 0) (hb : ruleE l[k] ≠ 0) : ruleE l[k] = progE l := by
  unfold progE
  have : l.find? (fun r => !decide (ruleE r = 0)) = some l[k] := by
    rw [List.find?_eq_some_iff_getElem]
    refine ⟨by simp [hb], k, hk, rfl, fun j hj => ?_⟩
    simp [h j (by omega) hj]
  rw [this]
theorem progE_none {l : List Ru} (h : ∀ j (hj : j < l.length), ruleE l[j] = 0) : progE l = if l.any (badR (negs l)) = true then 5 else if dupT l l.length = true then 8 else if 1000 < l.length then 9 else 0 := by
  unfold progE
  have : l.find? (fun r => !decide (ruleE r = 0)) = none := by
    rw [List.find?_eq_none]
    intro x hx
    obtain ⟨j, hj, rfl⟩ := List.mem_iff_getElem.1 hx
    simp [h j hj]
  rw [this]
theorem progE_bad {l : List Ru} (h : ∀ j (hj : j < l.length), ruleE l[j] = 0) {k : Nat} (hk : k < l.length) (hb : badR (negs l) l[k] = true) : 5 = progE l := by
  rw [progE_none h, if_pos (List.any_eq_true.2 ⟨_, List.getElem_mem hk, hb⟩)]
theorem progE_good {l : List Ru} (h : ∀ j (hj : j < l.length), ruleE l[j] = 0) (hb : ∀ j (hj : j < l.length), badR (negs l) l[j] = false) : progE l = if dupT l l.length = true then 8 else if 1000 < l.length then 9 else 0 := by
  rw [progE_none h, if_neg]
  rw [List.any_eq_true]
  rintro ⟨x, hx, hs⟩
  obtain ⟨j, hj, rfl⟩ := List.mem_iff_getElem.1 hx
  rw [hb j hj] at hs; cases hs
theorem badR_head {n : Bool} {r : Ru} (h1 : n = true) (h2 : r.head.b.var.size ≠ 0) : badR n r = true := by
  unfold badR emB
  rw [h1, decide_eq_false h2]; rfl
theorem badR_part {n : Bool} {r : Ru} {k : Nat} (hk : k < r.body.length) (h1 : r.body[k].kind = 2) (h2 : r.body[k].pat.b.var.size ≠ 0) : badR n r = true := by
  unfold badR
  rw [show (r.body.any badP) = true from List.any_eq_true.2 ⟨_, List.getElem_mem hk, by unfold badP emB; rw [decide_eq_true h1, decide_eq_false h2]; rfl⟩]
  simp
theorem badR_no {n : Bool} {r : Ru} (h1 : n = true → r.head.b.var.size = 0) (h2 : ∀ k (hk : k < r.body.length), r.body[k].kind = 2 → r.body[k].pat.b.var.size = 0) : badR n r = false := by
  unfold badR
  have e1 : (n && !emB r.head.b.var) = false := by
    cases n with
    | false => rfl
    | true => unfold emB; rw [decide_eq_true (h1 rfl)]; rfl
  have e2 : r.body.any badP = false := by
    rw [← Bool.not_eq_true, List.any_eq_true]
    rintro ⟨x, hx, hs⟩
    obtain ⟨j, hj, rfl⟩ := List.mem_iff_getElem.1 hx
    unfold badP emB at hs
    simp only [Bool.and_eq_true, decide_eq_true_iff, Bool.not_eq_true'] at hs
    have := h2 j hj hs.1
    rw [decide_eq_true this] at hs
    exact absurd hs.2 (by simp)
  rw [e1, e2]; rfl
end Go.Proofs.YtmgaibeibfholaaDoor
