/- Layer 14: a binding is copied; the walk's list takes one in. -/
import Derived.Test.YtkgkkbfpkgfcaaaJ30
import Derived.Laws.AppendOwnNone
namespace Go.Proofs.Ytkgkkbfpkgfcaaa
set_option maxRecDepth 100000
open Go.RowKit Go.Maps
set_option linter.unusedVariables false
set_option linter.unusedSimpArgs false

theorem Try.infoU32 : (Try.prog.info? 23).map (fun i => (i.zero, i.size, i.bytes)) = some (some (.int .u32 0), 1, 4) := by kernel_rfl
theorem uvs_one (L : List Int) : ∀ u ∈ (uvs L).toList, u.oneCell' = true := by
  intro u hu
  unfold uvs at hu
  simp only [List.mem_map, List.toList_toArray] at hu
  obtain ⟨x, _, rfl⟩ := hu
  rfl
/-- append([]uint32(nil), x...) -/
theorem run_clone {w : World} {B : Nat} {sv : Value} {b : List Int} (h : IsOut B w sv b) (hl : b.length ≤ 1000000) (ty : TypeId) :
    ∃ v' w', (Builtin.append_ #[51, 51] ty #[.slice none 0 0, sv]).run Try.prog w = .ok v' w' ∧ IsOut w.heap.size w' v' b ∧ Below w.heap.size w w' := by
  obtain ⟨iu, hiu, hz0, hz1, hz2⟩ := info_parts Try.infoU32
  rcases own_cellsJ h with ⟨rfl, hn⟩ | ⟨g, cap, rfl, _, _, _, _, hc⟩
  · refine ⟨.slice none 0 0, w, run_append_owned_none w w.heap.size _ _ 23 iu 1 Try.underlying51 hiu _ 0 [] (World.ownsRow_nil _ _ _ _), ?_, Below.refl _ _⟩
    have hb : b = [] := List.eq_nil_of_length_eq_zero hn
    subst hb
    exact World.ownsRow_nil _ _ _ _
  · obtain ⟨v', w', hr, h2, h3, h4, h5⟩ := run_append_own_at w w.heap.size 51 ty 23 iu (.int .u32 0) 1 4 Try.underlying51 hiu hz0 hz1 hz2 rfl (by decide) (.slice none 0 0) 0 [] (World.ownsRow_nil _ _ _ _) ⟨g, 0, none⟩ b.length cap (uvs b).toList (by rw [h.1])
      (fun j u hj => by rw [show (⟨g, 0, none⟩ : Addr).add j = ⟨g, j, none⟩ by unfold Addr.add; split <;> simp_all]; exact (hc j u hj).1) (uvs_one b) (by unfold maxLen; omega) (by omega) (Nat.le_refl _)
    refine ⟨v', w', hr, ?_, ⟨h3.os, h3.tape, h3.output, h3.size, fun i hi => h3.block i hi (by simp [Value.ownBlock])⟩⟩
    rw [Nat.zero_add, List.nil_append] at h2
    exact h2
theorem jwp_clone {w : World} {o : Oper} {a : Act} {K : Act → World → Prop} {Q : Exit → Act → World → Prop} (s x : Operand)
    (ho : o.op = .call { callee := .builtin .append, args := #[s, x], argTypes := #[51, 51] }) {B : Nat} {sv : Value} {b : List Int} (h : IsOut B w sv b) (hl : b.length ≤ 1000000)
    (hs : a.eval s = .slice none 0 0) (hx : a.eval x = sv) (hK : ∀ v' w', IsOut w.heap.size w' v' b → Below w.heap.size w w' → K (a.put o.dst v') w') : o.wp Try.prog a w K Q := by
  obtain ⟨v', w', hr, h2, h3⟩ := run_clone h hl o.type
  unfold Oper.wp execOp
  simp only [ho, resolve, invoke, builtin, Sem.run_bind, Sem.run_pure, Result.andThen_ok, List.map_toArray, List.map_cons, List.map_nil, hs, hx, hr]
  exact hK v' w' h2 h3
theorem wpList_clone {w : World} {ops : Array Oper} {rest : List Oper} {o : Oper} {a : Act} {Q : Exit → Act → World → Prop} (hgd : o.guard = none) (s x : Operand)
    (ho : o.op = .call { callee := .builtin .append, args := #[s, x], argTypes := #[51, 51] }) {B : Nat} {sv : Value} {b : List Int} (h : IsOut B w sv b) (hl : b.length ≤ 1000000)
    (hs : a.eval s = .slice none 0 0) (hx : a.eval x = sv) (hK : ∀ v' w', IsOut w.heap.size w' v' b → Below w.heap.size w w' → wpList Try.prog ops Q rest (a.put o.dst v') w') : wpList Try.prog ops Q (o :: rest) a w := by
  refine wpList_plain hgd fun K hK' => ?_
  exact jwp_clone s x ho h hl hs hx (fun v' w' h2 h3 => hK' _ _ (hK v' w' h2 h3))
theorem GW.c {E : GoE} {w : World} {ov : Value} {acc : List OutT} {k : Nat} (h : GW E w ov acc k) : w.cell? ⟨E.gb, 0, none⟩ = some (.slice E.ra E.T.length E.rcap) ∧ w.cell? ⟨E.gb, 7, none⟩ = some (.slice E.sa E.steps.length E.cap) ∧ w.cell? ⟨E.gb, 9, none⟩ = some (.slice E.va E.views.length E.vcap) ∧ w.cell? ⟨E.gb, 10, none⟩ = some ov ∧ w.cell? ⟨E.gb, 11, none⟩ = some (.int .i64 (k : Nat)) ∧ w.cell? ⟨E.gb, 12, none⟩ = some (.int .i64 (-1)) ∧ w.cell? ⟨E.gb, 13, none⟩ = some (.bool false) ∧ ∀ j, w.frozen? ⟨E.gb, j, none⟩ = false := by
  have hf : ∀ j, w.frozen? ⟨E.gb, j, none⟩ = false := fun j => by unfold World.frozen?; rw [h.gc]; simp
  unfold World.cell?
  rw [h.gc]
  exact ⟨rfl, rfl, rfl, rfl, rfl, rfl, rfl, hf⟩
theorem GW.push {E : GoE} {w w1 w4 : World} {ov sv v' : Value} {acc : List OutT} {k : Nat} {b : List Int} (h : GW E w ov acc k) (hB1 : Below w.heap.size w w1) (hio : IsOut w.heap.size w1 sv b)
    (hg : (w1.alloc (.cells #[sv] 51)).grownBy w4 ov.ownBlock) (hown : w4.ownsRow E.wt.heap.size 51 1 v' (acc.length + 1) (acc.map (·.1) ++ [sv])) (hw : v'.ownBlock = ov.ownBlock ∨ v'.ownBlock = some (w1.alloc (.cells #[sv] 51)).heap.size) :
    GW E (w4.setCell ⟨E.gb, 10, none⟩ v') v' (acc ++ [(sv, b)]) k ∧ GTurn E w (w4.setCell ⟨E.gb, 10, none⟩ v') ov v' := by
  have hB2 : Below w1.heap.size w1 (w1.alloc (.cells #[sv] 51)) := (Below.refl _ w1).alloc (Nat.le_refl _) _
  have hB := hB1.trans (hB2.mono hB1.size)
  have hgb := (Array.getElem?_eq_some_iff.1 h.gc).1
  have hs1 := hB1.size
  have hs2 := hB2.size
  have hs3 := hg.size
  have hgn : ov.ownBlock ≠ some E.gb := own_ne h.oo.1 h.gc (by decide)
  have hg4 : w4.heap[E.gb]? = some (.cells (E.cells ov k) 55 (0, 0)) := (hg.block E.gb (by omega) (fun e => hgn e.symm)).trans ((hB.block _ hgb).trans h.gc)
  have hset : ∀ i, i ≠ E.gb → (w4.setCell ⟨E.gb, 10, none⟩ v').heap[i]? = w4.heap[i]? := fun i hi => Below.heap_setCell w4 _ _ i hi
  have hsame : ∀ i, i < w.heap.size → i ≠ E.gb → ov.ownBlock ≠ some i → (w4.setCell ⟨E.gb, 10, none⟩ v').heap[i]? = w.heap[i]? := fun i hi h1 h2 => (hset i h1).trans ((hg.block i (by omega) (fun e => h2 e.symm)).trans (hB.block i hi))
  have hgn' : v'.ownBlock ≠ some E.gb := own_ne hown hg4 (by decide)
  have ht : GTurn E w (w4.setCell ⟨E.gb, 10, none⟩ v') ov v' := ⟨hg.os.trans hB.os, hg.tape.trans hB.tape, hg.output.trans hB.output, by rw [World.size_setCell]; omega, hsame, by
    rcases hw with e | e
    · exact .inl e
    · refine .inr (fun g hgv => ?_)
      rw [e] at hgv; injection hgv with hgv; omega⟩
  refine ⟨⟨fun i hi => ?_, by have := h.lows; rw [World.size_setCell]; omega, h.gN, ?_, ?_, ?_⟩, ht⟩
  · have h1 := h.lows
    have h2 := h.gN
    refine (hsame i (by omega) (by omega) (fun e => ?_)).trans (h.low i hi)
    have := (own_ltJ h.oo.1 i e).1
    omega
  · rw [blk_set hg4]
    rfl
  · rw [List.length_append, List.map_append]
    exact jown_blk hown (fun g hgv => hset g (fun e => hgn' (by rw [hgv, e])))
  · intro y hy
    rw [List.mem_append, List.mem_singleton] at hy
    rcases hy with hy | rfl
    · exact ht.keep h (h.oo.2 y hy)
    · refine jown_blk (own_mono hio h.lows) (fun i hi => ?_)
      obtain ⟨h5, cur, fz, hc⟩ := own_ltJ hio i hi
      have hl := (Array.getElem?_eq_some_iff.1 hc).1
      refine (hset i (fun e => by omega)).trans ((hg.block i (by omega) (fun e => ?_)).trans (hB2.block i hl))
      have := own_lt h.oo.1 e.symm
      omega
/-- the rows from a place on that a step looks at -/
def goodAt (T : TS) (L : List Int) (s : StepT) (fr tu b : Int) (c : Nat) : Bool := decide (fr ≤ (c : Int)) && decide ((c : Int) < tu) && fits (lookP L s) (rowOf T c) && liveB T b c
def rowsOn (T : TS) (L : List Int) (s : StepT) (fr tu b : Int) (i : Nat) : List R3 := ((List.range' i (T.length - i)).filter (goodAt T L s fr tu b)).map (rowOf T)
theorem mlist_eq2 (T : TS) (L : List Int) (s : StepT) (fr tu b : Int) : mlist T (lookP L s) fr tu b = (List.range' 0 T.length).filter (goodAt T L s fr tu b) := by
  unfold mlist candP
  rw [List.filter_filter, List.range_eq_range']
  congr 1
  funext c
  unfold goodAt
  rw [Bool.and_comm]
theorem rowsOn_zero (T : TS) (L : List Int) (s : StepT) (fr tu b : Int) : stepRows T L s fr tu b = rowsOn T L s fr tu b 0 := by
  unfold stepRows rowsOn
  rw [mlist_eq2, Nat.sub_zero]
theorem rowsOn_end {T : TS} {L : List Int} {s : StepT} {fr tu b : Int} {i : Nat} (h : T.length ≤ i) : rowsOn T L s fr tu b i = [] := by
  unfold rowsOn
  rw [show T.length - i = 0 by omega]
  rfl
theorem rowsOn_in {T : TS} {L : List Int} {s : StepT} {fr tu b : Int} {i : Nat} (h : i < T.length) (hg : goodAt T L s fr tu b i = true) : rowsOn T L s fr tu b i = rowOf T i :: rowsOn T L s fr tu b (i + 1) := by
  unfold rowsOn
  rw [show T.length - i = (T.length - (i + 1)) + 1 by omega, List.range'_succ, List.filter_cons_of_pos hg, List.map_cons]
theorem rowsOn_out {T : TS} {L : List Int} {s : StepT} {fr tu b : Int} {i : Nat} (h : i < T.length) (hg : goodAt T L s fr tu b i = false) : rowsOn T L s fr tu b i = rowsOn T L s fr tu b (i + 1) := by
  unfold rowsOn
  rw [show T.length - i = (T.length - (i + 1)) + 1 by omega, List.range'_succ, List.filter_cons_of_neg (by simp [hg])]
/-- no row up to here fits -/
def noneTo (T : TS) (L : List Int) (s : StepT) (fr tu b : Int) (i : Nat) : Prop := ∀ j, j < i → goodAt T L s fr tu b j = false
theorem mlist_none {T : TS} {L : List Int} {s : StepT} {fr tu b : Int} (h : noneTo T L s fr tu b T.length) : mlist T (lookP L s) fr tu b = [] := by
  rw [mlist_eq2, List.filter_eq_nil_iff]
  intro a ha
  rw [List.mem_range'_1] at ha
  simp [h a (by omega)]
theorem mlist_some {T : TS} {L : List Int} {s : StepT} {fr tu b : Int} {i : Nat} (hi : i < T.length) (h : goodAt T L s fr tu b i = true) : mlist T (lookP L s) fr tu b ≠ [] := by
  rw [mlist_eq2]
  intro e
  rw [List.filter_eq_nil_iff] at e
  exact e i (by rw [List.mem_range'_1]; omega) h
theorem stepE_end (E : GoE) (m : Nat) (b : List Int) : stepE E E.steps.length m b = [some b] := by
  unfold stepE
  rw [List.drop_length, List.zip_nil_left, evs_out]
theorem stepE_match {E : GoE} {step : Nat} (h : step < E.steps.length) (m : Nat) (b : List Int) (hk : E.steps[step].kind = 1) :
    stepE E step m b = (stepRows E.T b E.steps[step] (viewAt E.d E.views m).1 (viewAt E.d E.views m).2.1 (viewAt E.d E.views m).2.2).flatMap (fun r => none :: (if (bindP (prs E.steps[step] r) b).1 then stepE E (step + 1) (m + 1) (bindP (prs E.steps[step] r) b).2 else [])) := by
  unfold stepE
  rw [List.drop_eq_getElem_cons h, extV_cons, if_pos hk, List.zip_cons_cons, evs, if_pos hk]
theorem stepE_hold {E : GoE} {step : Nat} (h : step < E.steps.length) (m : Nat) (b : List Int) (hk : E.steps[step].kind ≠ 1) (hh : holdsP E.T b E.steps[step] = true) : stepE E step m b = stepE E (step + 1) m b := by
  unfold stepE
  rw [List.drop_eq_getElem_cons h, extV_cons, if_neg hk, List.zip_cons_cons, evs, if_neg hk, if_pos hh]
theorem stepE_not {E : GoE} {step : Nat} (h : step < E.steps.length) (m : Nat) (b : List Int) (hk : E.steps[step].kind ≠ 1) (hh : holdsP E.T b E.steps[step] = false) : stepE E step m b = [] := by
  unfold stepE
  rw [List.drop_eq_getElem_cons h, extV_cons, if_neg hk, List.zip_cons_cons, evs, if_neg hk, if_neg (by simp [hh])]
end Go.Proofs.Ytkgkkbfpkgfcaaa
