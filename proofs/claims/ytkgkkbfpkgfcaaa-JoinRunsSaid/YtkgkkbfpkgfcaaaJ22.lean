/- Layer 14: small, known. -/
import Derived.Test.YtkgkkbfpkgfcaaaJ20
namespace Go.Proofs.Ytkgkkbfpkgfcaaa
set_option maxRecDepth 100000
open Go.RowKit Go.Maps
set_option linter.unusedVariables false
set_option linter.unusedSimpArgs false

def matchesP (l : List StepT) : Nat := l.countP (fun s => s.kind == 1)
def smallP (steps : List StepT) (nl nv : Nat) (vars : Int) : Bool := decide (steps.length ≤ 8) && decide (matchesP steps ≤ 3) && decide (nl ≤ 30) && decide (vars ≤ 20) && decide (nv ≤ 10)
theorem matchesP_snoc (l : List StepT) (i : Nat) (h : i < l.length) : matchesP (l.take (i + 1)) = matchesP (l.take i) + if l[i].kind = 1 then 1 else 0 := by
  unfold matchesP
  rw [List.take_add_one, List.getElem?_eq_getElem h, Option.toList_some, List.countP_append]
  by_cases hk : l[i].kind = 1 <;> simp [hk]
theorem matchesP_le (l : List StepT) : matchesP l ≤ l.length := List.countP_le_length
section
variable {w : World}
set_option maxRecDepth 100000 in
set_option maxHeartbeats 4000000 in
theorem small_any (h0 h1 h2 h3 h4 h5 : Int) (sa la va : Option Addr) (cap lcap vcap nl nv : Nat) (vars : Int) (steps : List StepT) (hst : IsSteps w sa steps) (hn : steps.length ≤ maxLen) :
    Calls Try.prog 6 #[.agg (planC h0 h1 h2 h3 h4 h5 sa steps.length cap vars), .slice la nl lcap, .slice va nv vcap] w fun e w' => e = .returned (.bool (smallP steps nl nv vars)) ∧ Below w.heap.size w w' := by
  obtain ⟨n, hnn⟩ : ∃ n, steps.length = n := ⟨_, rfl⟩
  unfold maxLen at hn
  rw [hnn] at hn ⊢
  have hbA : Below w.heap.size w (w.alloc (.cells (planC h0 h1 h2 h3 h4 h5 sa n cap vars) 29)) := (Below.refl _ w).alloc (Nat.le_refl _) _
  have hx := World.alloc_heap_new w (.cells (planC h0 h1 h2 h3 h4 h5 sa n cap vars) 29)
  have Hst := Lib.hid hst; have Hn := Lib.hid hnn
  unfold planC at hbA hx ⊢
  obtain ⟨W, hW⟩ : ∃ W, w.alloc (.cells #[.int .i64 h0, .int .u32 h1, .int .i64 h2, .int .u32 h3, .int .i64 h4, .int .u32 h5, .slice sa n cap, .int .i64 vars] 29) = W := ⟨_, rfl⟩
  have HW := Lib.hid hW
  rw [hW] at hbA hx
  obtain ⟨a6, a7⟩ : W.cell? ⟨w.heap.size, 6, none⟩ = some (.slice sa n cap) ∧ W.cell? ⟨w.heap.size, 7, none⟩ = some (.int .i64 vars) := by unfold World.cell?; rw [hx]; exact ⟨rfl, rfl⟩
  have HbA := Lib.hid hbA
  clear hst hnn hbA hx hW
  go_enter Try.func6, Try.ntmps6
  go_wp2_with fail
  rw [HW.out]
  go_loopw [7, 8] (fun u7 u8 wr => ∃ k : Nat, k ≤ n ∧ u8 = .int .i64 k ∧ u7 = .int .i64 (matchesP (steps.take k) : Nat) ∧ wr = W) (fun _ u _ => n - (intOf u).toNat)
  case atStart => exact ⟨0, by omega, rfl, rfl, rfl⟩
  case round =>
    obtain ⟨k, hk, rfl, rfl, hw⟩ := hrel
    subst hw
    have hml := matchesP_le (steps.take k)
    rw [List.length_take] at hml
    obtain ⟨m, hm⟩ : ∃ m, matchesP (steps.take k) = m := ⟨_, rfl⟩
    rw [hm] at hml ⊢
    have Hm := Lib.hid hm
    have hm2 : m ≤ n := by have := Hn.out; omega
    have hm3 : m ≤ k := by omega
    clear hm hml
    by_cases hkl : k < n
    · have hd : decide ((k : Int) < (n : Int)) = true := by simp; omega
      obtain ⟨sb, so, rfl, hs⟩ := Hst.out k (by have := Hn.out; omega)
      have hsn := matchesP_snoc steps k (by have := Hn.out; omega)
      obtain ⟨s, hsi⟩ : ∃ s : StepT, steps[k]'(by have := Hn.out; omega) = s := ⟨_, rfl⟩
      rw [hsi] at hs hsn
      have e0 := (hs.below HbA.out).c0
      have Hsn := Lib.hid hsn
      clear hs hsi hsn
      by_cases hk1 : s.kind = 1
      · have hd1 : (s.kind == 1) = true := by simpa using hk1
        have Hk1 := Lib.hid hk1
        clear hk1
        go_wp2_with fail
        refine ⟨⟨k + 1, by omega, by push_cast; rfl, ?_, by first | rfl | trivial⟩, by simp [intOf]; omega⟩
        rw [Hsn.out, if_pos Hk1.out, Hm.out]; push_cast; rfl
      · have hd1 : (s.kind == 1) = false := by simpa using hk1
        have Hk1 := Lib.hid hk1
        clear hk1
        go_wp2_with fail
        refine ⟨⟨k + 1, by omega, by push_cast; rfl, ?_, by first | rfl | trivial⟩, by simp [intOf]; omega⟩
        rw [Hsn.out, if_neg Hk1.out, Hm.out]; rfl
    · have hkl' : k = n := by omega
      have hd : decide ((k : Int) < (n : Int)) = false := by simp; omega
      have hmm : matchesP steps = m := by rw [← Hm.out, hkl', ← Hn.out, List.take_length]
      have Hmm := Lib.hid hmm
      clear hkl' hmm
      have hp : ∀ q, (decide (n ≤ 8) && decide (m ≤ 3) && decide (nl ≤ 30) && decide (vars ≤ 20) && decide (nv ≤ 10)) = q → smallP steps nl nv vars = q := by
        intro q hq
        unfold smallP
        rw [Hn.out, Hmm.out]
        exact hq
      have Hp := Lib.hid hp
      clear hp
      by_cases q1 : n ≤ 8
      · have d1 : decide ((n : Int) ≤ 8) = true := by simp; omega
        by_cases q2 : m ≤ 3
        · have d2 : decide ((m : Int) ≤ 3) = true := by simp; omega
          by_cases q3 : nl ≤ 30
          · have d3 : decide ((nl : Int) ≤ 30) = true := by simp; omega
            by_cases q4 : vars ≤ 20
            · have d4 : decide (vars ≤ 20) = true := by simpa using q4
              by_cases q5 : nv ≤ 10
              · have d5 : decide ((nv : Int) ≤ 10) = true := by simp; omega
                go_wp2_with fail
                go_ret
                exact ⟨by rw [Hp.out true (by simp [q1, q2, q3, q4, q5])]; rfl, HbA.out⟩
              · have d5 : decide ((nv : Int) ≤ 10) = false := by simp; omega
                go_wp2_with fail
                go_ret
                exact ⟨by rw [Hp.out false (by simp [q1, q2, q3, q4, q5]; try omega)]; rfl, HbA.out⟩
            · have d4 : decide (vars ≤ 20) = false := by simpa using q4
              go_wp2_with fail
              go_ret
              exact ⟨by rw [Hp.out false (by simp [q1, q2, q3, q4]; try omega)]; rfl, HbA.out⟩
          · have d3 : decide ((nl : Int) ≤ 30) = false := by simp; omega
            go_wp2_with fail
            go_ret
            exact ⟨by rw [Hp.out false (by simp [q1, q2, q3]; try omega)]; rfl, HbA.out⟩
        · have d2 : decide ((m : Int) ≤ 3) = false := by simp; omega
          go_wp2_with fail
          go_ret
          exact ⟨by rw [Hp.out false (by simp [q1, q2]; try omega)]; rfl, HbA.out⟩
      · have d1 : decide ((n : Int) ≤ 8) = false := by simp; omega
        go_wp2_with fail
        go_ret
        exact ⟨by rw [Hp.out false (by simp [q1]; try omega)]; rfl, HbA.out⟩
end
end Go.Proofs.Ytkgkkbfpkgfcaaa

namespace Go.Proofs.Ytkgkkbfpkgfcaaa
set_option maxRecDepth 100000
open Go.RowKit Go.Maps
set_option linter.unusedVariables false
set_option linter.unusedSimpArgs false

def kT : TS := addT (addT [] (1, 2, 3) 1) (3, 2, 1) 1
def kSteps : List StepT := [⟨1, (0, 0), (-1, 2), (1, 0), (0, 0), (0, 0)⟩, ⟨1, (1, 0), (-1, 2), (0, 0), (0, 0), (0, 0)⟩]
theorem kT_len : kT.length = 2 := by kernel_rfl
theorem k_may : mayP 2 kSteps = true := by kernel_rfl
theorem k_evs : runEvs kT 2 kSteps [] = [none, none, some [1, 3], none, none, some [3, 1]] := by kernel_rfl
theorem k_outs : runOuts kT 2 kSteps [] = [[1, 3], [3, 1]] := by unfold runOuts; rw [k_may, k_evs]; rfl
theorem k_ok : PlanOK kT 2 kSteps [] where
  n := by decide
  nv := by decide
  vle := by decide
  s64 := fun s hs => by
    simp only [kSteps, List.mem_cons, List.not_mem_nil, or_false] at hs
    rcases hs with rfl | rfl <;> (simp only [is64S, is64]; omega)
  i32 := fun s hs => by
    simp only [kSteps, List.mem_cons, List.not_mem_nil, or_false] at hs
    rcases hs with rfl | rfl <;> (simp only [is32]; omega)
  looks := by rw [k_evs]; decide
theorem IsOut.at {B : Nat} {W : World} {sv : Value} {b : List Int} (h : IsOut B W sv b) (hb : 0 < b.length) : ∃ g cap, sv = .slice (some ⟨g, 0, none⟩) b.length cap ∧ ∀ (j : Nat) (hj : j < b.length), W.cell? ⟨g, j, none⟩ = some (.int .u32 b[j]) := by
  rcases own_cellsJ h with ⟨_, h0⟩ | ⟨g, cap, h1, _, _, _, _, h6⟩
  · omega
  · exact ⟨g, cap, h1, fun j hj => (h6 j _ (by simp [uvs, hj])).1⟩
set_option maxRecDepth 100000 in
set_option maxHeartbeats 4000000 in
theorem known14_any (w : World) : Calls Try.prog 8 #[] w fun e w' => e = .returned (.bool true) ∧ Below w.heap.size w w' := by
  obtain ⟨Z, hZd⟩ : ∃ Z : Zone, Z = Zone.from w.heap.size := ⟨_, rfl⟩
  have hZ : Z.opn w.heap.size := by subst hZd; exact fun i j h => h
  have hM : ∀ i, w.heap.size ≤ i → Z.M i := by subst hZd; exact fun i h => h
  have hZ0 : ∀ i j, Z.W i j → w.heap.size ≤ i := by subst hZd; exact fun i j h => h
  have hZ' : ∀ W : World, w.heap.size ≤ W.heap.size → Z.opn W.heap.size := fun W h => hZ.mono h
  have HZ0 := Lib.hid hZ0; have HZ' := Lib.hid hZ'
  clear hZd hZ0 hZ'
  go_enter Try.func8, Try.ntmps8
  go_wp2_with fail
  refine (new_any hZ hM).mono ?_
  rintro e w1 ⟨rfl, hI, hB, -⟩
  have HI := Lib.hid hI; have HB := Lib.hid hB
  obtain ⟨tb, htb⟩ : ∃ tb, w.heap.size + 2 = tb := ⟨_, rfl⟩
  rw [htb] at HI ⊢
  clear hI hB htb hZ hM
  go_wp2_with fail
  refine (add_any HI.out (HZ'.out _ HB.out.size) (1, 2, 3) 1 (by simp [rok, is32]) (by simp)).mono ?_
  rintro e w2 ⟨rfl, ⟨D2, hI2⟩, hf2⟩
  have HI2 := Lib.hid hI2; have HB2 := Lib.hid (HB.out.trans (hf2.below HB.out.size HZ0.out))
  clear hI2 hf2
  go_wp2_with fail
  refine (add_any HI2.out (HZ'.out _ HB2.out.size) (3, 2, 1) 1 (by simp [rok, is32]) (by decide)).mono ?_
  rintro e w3 ⟨rfl, ⟨D3, hI3⟩, hf3⟩
  have HI3 := Lib.hid hI3; have HB3 := Lib.hid (HB2.out.trans (hf3.below HB2.out.size HZ0.out))
  clear hI3 hf3
  go_wp2_with fail
  obtain ⟨W, hW⟩ : ∃ W, (((w3.alloc (.cells #[.int .i64 (-1), .int .u32 2] 25)).alloc (.cells #[.int .i64 0, .int .u32 0] 25)).alloc (.cells #[.int .i64 1, .int .u32 0] 25)) = W := ⟨_, rfl⟩
  obtain ⟨o, ho⟩ : ∃ o : Array Value, #[.int .i64 1, .int .i64 0, .int .u32 0, .int .i64 (-1), .int .u32 2, .int .i64 1, .int .u32 0, .int .i64 0, .int .u32 0, .int .i64 0, .int .u32 0, .int .i64 1, .int .i64 1, .int .u32 0, .int .i64 (-1), .int .u32 2, .int .i64 0, .int .u32 0, .int .i64 0, .int .u32 0, .int .i64 0, .int .u32 0] = o := ⟨_, rfl⟩
  have hz : W.heap.size = w3.heap.size + 1 + 1 + 1 := by rw [← hW]; simp [World.size_alloc]
  have hbW : Below w3.heap.size w3 W := by rw [← hW]; exact (((Below.refl _ w3).alloc (Nat.le_refl _) _).alloc (by rw [World.size_alloc]; omega) _).alloc (by rw [World.size_alloc, World.size_alloc]; omega) _
  have hbo := World.alloc_heap_new W (.cells o 35)
  have hb2 : Below W.heap.size W (W.alloc (.cells o 35)) := (Below.refl _ W).alloc (Nat.le_refl _) _
  have hst : IsSteps (W.alloc (.cells o 35)) (some ⟨w3.heap.size + 1 + 1 + 1, 0, none⟩) kSteps := by
    rw [← hz]
    have hlt : W.heap.size < (W.alloc (.cells o 35)).heap.size := by rw [World.size_alloc]; omega
    have hc : ∀ j, (W.alloc (.cells o 35)).cell? ⟨W.heap.size, j, none⟩ = o[j]? := by
      intro j
      unfold World.cell?
      rw [hbo]
      rfl
    intro i hi
    refine ⟨W.heap.size, 0, rfl, ?_⟩
    have hi2 : i = 0 ∨ i = 1 := by simp [kSteps] at hi; omega
    rcases hi2 with rfl | rfl <;> exact ⟨hlt, by rw [hc, ← ho]; rfl, by rw [hc, ← ho]; rfl, by rw [hc, ← ho]; rfl, by rw [hc, ← ho]; rfl, by rw [hc, ← ho]; rfl, by rw [hc, ← ho]; rfl, by rw [hc, ← ho]; rfl, by rw [hc, ← ho]; rfl, by rw [hc, ← ho]; rfl, by rw [hc, ← ho]; rfl, by rw [hc, ← ho]; rfl⟩
  rw [ho, hW]
  have HBW := Lib.hid (HB3.out.trans ((hbW.trans (hb2.mono hbW.size)).mono HB3.out.size))
  have hI := HI3.out.below (hbW.trans (hb2.mono hbW.size))
  refine (Steps_any hI 0 0 0 0 0 0 (some ⟨w3.heap.size + 1 + 1 + 1, 0, none⟩) none 2 0 2 100 kSteps [] hst (fun i hi => by simp at hi) k_ok (by show (runOuts kT 2 kSteps []).length ≤ _; rw [k_outs]; decide) (by decide) (by show (looksE (runEvs kT 2 kSteps []) : Int) ≤ _; rw [k_evs]; decide)).mono ?_
  rintro e w4 ⟨sv, l, k, rfl, hl, hk, ⟨hio, hys⟩, hb4⟩
  have hl' : l.map (·.2) = [[1, 3], [3, 1]] := hl.trans k_outs
  have hk' : k = 4 := (hk k_may).trans (by show looksE (runEvs kT 2 kSteps []) = 4; rw [k_evs]; rfl)
  subst hk'
  obtain ⟨⟨v0, b0⟩, ⟨v1, b1⟩, rfl⟩ : ∃ y0 y1 : OutT, l = [y0, y1] := by
    match l, hl' with
    | [y0, y1], _ => exact ⟨y0, y1, rfl⟩
    | [], h => simp at h
    | [_], h => simp at h
    | _ :: _ :: _ :: _, h => simp at h
  simp only [List.map_cons, List.map_nil, List.cons.injEq, and_true] at hl'
  obtain ⟨rfl, rfl⟩ := hl'
  obtain ⟨g0, q0, hv0, h0⟩ := (hys (v0, [1, 3]) (by simp)).at (by simp)
  obtain ⟨g1, q1, hv1, h1⟩ := (hys (v1, [3, 1]) (by simp)).at (by simp)
  simp only at hv0 hv1 h0 h1
  subst hv0 hv1
  have a00 := h0 0 (by simp); have a01 := h0 1 (by simp); have a10 := h1 0 (by simp); have a11 := h1 1 (by simp)
  simp only [List.getElem_cons_zero, List.getElem_cons_succ] at a00 a01 a10 a11
  rcases own_cellsJ hio with ⟨_, h⟩ | ⟨g, cap, rfl, _, _, _, _, h6⟩
  · simp at h
  have e0 := (h6 0 _ rfl).1; have e1 := (h6 1 _ rfl).1
  simp only [List.length_cons, List.length_nil, Nat.reduceAdd] at e0 e1 ⊢
  have HB4 := Lib.hid (HBW.out.trans (hb4.mono HBW.out.size))
  clear h0 h1 h6 hys hio hl hk hb4 hI hst hbo hb2 hbW hz ho hW
  go_wp2_with fail
  go_ret
  exact ⟨rfl, HB4.out⟩
end Go.Proofs.Ytkgkkbfpkgfcaaa
