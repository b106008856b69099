/- The partition in memory: New, Find, list, Len, Copy, Clique. -/
import Derived.Test.YtghihhjcoilmgaaQ6
namespace Go.Proofs.Ytghihhjcoilmgaa
set_option maxRecDepth 100000
open Go.RowKit Go.Maps Go.Shelf
open Go.ChangeMaps Go.MapKept
set_option linter.unusedVariables false
set_option linter.unusedSimpArgs false

/-- the partition at pb: its two maps at mf and mc -/
structure IsP (w : World) (pb mf mc : Nat) (f : Int → Option Int) (c : Int → Option (List Int)) : Prop where
  head : w.heap[pb]? = some (.cells #[.map (some mf), .map (some mc)] 90 (0, 0))
  ne : mf ≠ mc
  of : MapAt uv is32 w mf (fun x => (f x).map uv)
  cl : ∃ cv : Int → Option Value, MapAt uv is32 w mc cv ∧ (∀ r, is32 r → c r = none → cv r = none) ∧ ∀ r L, is32 r → c r = some L → ∃ v, cv r = some v ∧ OwnU 0 w v L
theorem lt_of_heap {w : World} {i : Nat} {o : Obj} (h : w.heap[i]? = some o) : i < w.heap.size := (Array.getElem?_eq_some_iff.1 h).1
theorem OwnU.stay {b : Nat} {w w' : World} {v : Value} {L : List Int} (h : OwnU b w v L) (hs : ∀ (i : Nat) cur, w.heap[i]? = some (Obj.cells cur 31 (0, 0)) → w'.heap[i]? = w.heap[i]?) : OwnU b w' v L := by
  refine ⟨h.1, ?_⟩
  rcases h.2 with h1 | ⟨g, cap, cur, h1, h2, h3, h4⟩
  · exact .inl h1
  · exact .inr ⟨g, cap, cur, h1, h2, (hs g cur h3).trans h3, h4⟩
namespace IsP
variable {w w' : World} {pb mf mc : Nat} {f : Int → Option Int} {c : Int → Option (List Int)}
theorem below (h : IsP w pb mf mc f c) (hb : Below w.heap.size w w') : IsP w' pb mf mc f c := by
  obtain ⟨cv, h1, h2, h3⟩ := h.cl
  refine ⟨(hb.block pb (lt_of_heap h.head)).trans h.head, h.ne, h.of.stay (hb.block mf h.of.lt), cv, h1.stay (hb.block mc h1.lt), h2, fun r L hr hc => ?_⟩
  obtain ⟨v, e1, e2⟩ := h3 r L hr hc
  exact ⟨v, e1, e2.below rfl hb⟩
theorem cells (h : IsP w pb mf mc f c) : w.cell? ⟨pb, 0, none⟩ = some (.map (some mf)) ∧ w.cell? ⟨pb, 1, none⟩ = some (.map (some mc)) := by
  unfold World.cell?
  rw [h.head]
  exact ⟨rfl, rfl⟩
end IsP
theorem Try.zeroU32 (w : World) : (zeroValue 31).run Try.prog w = .ok (.int .u32 0) w := by kernel_rfl
theorem Try.zeroSU (w : World) : (zeroValue 23).run Try.prog w = .ok (.slice none 0 0) w := by kernel_rfl
section
variable {w : World} {pb mf mc : Nat} {f : Int → Option Int} {c : Int → Option (List Int)}
set_option maxRecDepth 100000 in
theorem find_u (h : IsP w pb mf mc f c) {a : Int} (ha : is32 a) : Calls Try.prog 32 #[.pointer (some ⟨pb, 0, none⟩), .int .u32 a] w fun e w' => e = .returned (.int .u32 (findP f a)) ∧ w = w' := by
  have hl := h.of.look kysU Try.underlying87 (Try.zeroU32 w) true ha
  obtain ⟨c0, _⟩ := h.cells
  simp only [uv] at hl
  unfold findP
  clear h
  cases hf : f a
  · rw [hf] at hl
    simp only [Option.map_none, Option.getD_none, Option.isSome_none, if_true] at hl
    go_enter Try.func32, Try.ntmps32
    go_wp2_with fail
    go_ret
    exact ⟨rfl, rfl⟩
  · rw [hf] at hl
    simp only [Option.map_some, Option.getD_some, Option.isSome_some, if_true] at hl
    go_enter Try.func32, Try.ntmps32
    go_wp2_with fail
    go_ret
    exact ⟨rfl, rfl⟩
set_option maxRecDepth 100000 in
theorem list_u (h : IsP w pb mf mc f c) {a : Int} (ha : is32 a) : Calls Try.prog 41 #[.pointer (some ⟨pb, 0, none⟩), .int .u32 a] w fun e w' => ∃ v, e = .returned v ∧ OwnU 0 w' v (listP c a) ∧ Below w.heap.size w w' := by
  obtain ⟨cv, h1, h2, h3⟩ := h.cl
  have hl := h1.look kysU Try.underlying88 (Try.zeroSU w) true ha
  obtain ⟨_, c1⟩ := h.cells
  simp only [uv] at hl
  unfold listP
  cases hf : c a
  · rw [h2 a ha hf] at hl
    simp only [Option.getD_none, Option.isSome_none, if_true] at hl
    clear h h1 h2 h3 hf
    go_enter Try.func41, Try.ntmps41
    go_wp2_with fail
    go_ret
    exact ⟨_, rfl, (own_one w a).mono (Nat.zero_le _), (Below.refl _ w).alloc (Nat.le_refl _) _⟩
  · obtain ⟨v, e1, e2⟩ := h3 a _ ha hf
    obtain ⟨sa, cap, rfl, _⟩ := e2.u
    rw [e1] at hl
    simp only [Option.getD_some, Option.isSome_some, if_true] at hl
    have E2 := Lib.hid e2
    clear h h1 h2 h3 hf e1 e2
    go_enter Try.func41, Try.ntmps41
    go_wp2_with fail
    go_ret
    exact ⟨_, rfl, E2.out, Below.refl _ _⟩
set_option maxRecDepth 100000 in
theorem cliqueP_zero (v : Value) (hv : v = .pointer (some ⟨pb, 0, none⟩)) : Calls Try.prog 31 #[v, .int .u32 0] w fun e w' => e = .returned (.slice none 0 0) ∧ w = w' := by
  subst hv
  go_enter Try.func31, Try.ntmps31
  go_wp2_with fail
  go_ret
  exact ⟨rfl, rfl⟩
set_option maxRecDepth 100000 in
theorem cliqueP_u (h : IsP w pb mf mc f c) {a : Int} (ha : is32 a) (h0 : a ≠ 0) (hf : is32 (findP f a)) (hl : (listP c (findP f a)).length < 256) : Calls Try.prog 31 #[.pointer (some ⟨pb, 0, none⟩), .int .u32 a] w fun e w' =>
    ∃ v, e = .returned v ∧ OwnU w.heap.size w' v (srt (listP c (findP f a))) ∧ Below w.heap.size w w' := by
  have hq : (a == 0) = false := by simp [h0]
  have hc1 := Lib.hid (find_u h ha)
  have hc2 := Lib.hid (list_u h hf)
  obtain ⟨r, hr⟩ : ∃ r, findP f a = r := ⟨_, rfl⟩
  rw [hr] at hc1 hc2 hl ⊢
  clear h h0 hr
  go_enter Try.func31, Try.ntmps31
  go_wp2_with fail
  refine hc1.out.mono ?_
  rintro e w1 ⟨rfl, rfl⟩
  go_wp2_with fail
  refine hc2.out.mono ?_
  rintro e w2 ⟨v, rfl, hO, hB⟩
  obtain ⟨sa, cap, rfl, _, _, hU⟩ := hO.u
  obtain ⟨L, hL⟩ : ∃ L, listP c r = L := ⟨_, rfl⟩
  rw [hL] at hl hU ⊢
  have HU := Lib.hid hU; have HB := Lib.hid hB
  obtain ⟨k, hk⟩ : ∃ k, L.length = k := ⟨_, rfl⟩
  rw [hk]
  have HLe := Lib.hid hL
  clear hU hO hB hL
  go_wp2_with fail
  refine (values_any sa k cap w2).mono ?_
  rintro e w3 ⟨rfl, hw3⟩
  have hB3 : Below w2.heap.size w2 w3 := by rw [hw3]; exact (Below.refl _ w2).alloc (Nat.le_refl _) _
  have hs3 : w3.heap.size = w2.heap.size + 1 := by rw [hw3]; simp
  have hc3 : w3.cell? ⟨w2.heap.size, 0, none⟩ = some (.slice sa L.length cap) := by
    rw [hw3, hk]
    exact (Boxed.new w2 23 (.slice sa k cap)).cell
  have hst := values_stops 8 w2.heap.size L.length cap sa L (Nat.le_refl _) (by omega) w3 (by omega) hc3 (HU.out.below hB3)
  have hso := sorted_any (gf := 50) (lb := #[.pointer (some ⟨w2.heap.size, 0, none⟩)]) (by omega) (enters_of Try.func50 (by kernel_rfl) rfl) (fun ss (e : ss = L) => by rw [e]; exact hl) hst
  have HSo := Lib.hid hso; have HB3 := Lib.hid (HB.out.trans (hB3.mono HB.out.size))
  clear hw3 hB3 hs3 hc3 hst hso hk
  go_wp2_with fail
  refine HSo.out.mono ?_
  rintro e w4 ⟨v, ss, rfl, rfl, hO4, hB4⟩
  have HO4 := Lib.hid hO4; have HB4 := Lib.hid hB4
  obtain ⟨sa4, cap4, rfl, _⟩ := hO4.u
  clear hO4 hB4
  go_wp2_with fail
  go_ret
  rw [HLe.out]
  exact ⟨_, rfl, HO4.out.mono HB3.out.size, HB3.out.trans (HB4.out.mono HB3.out.size)⟩
set_option maxRecDepth 100000 in
theorem newP_u (w : World) : Calls Try.prog 24 #[] w fun e w' => ∃ pb mf mc, e = .returned (.pointer (some ⟨pb, 0, none⟩)) ∧ IsP w' pb mf mc (fun _ => none) (fun _ => none) ∧ w.heap.size ≤ mf ∧ w.heap.size ≤ mc ∧ w.heap.size ≤ pb ∧ Below w.heap.size w w' := by
  have hmk : ∀ (t : TypeId) (w : World), (Instr.makeMap t none).run Try.prog w = .ok (.map (some w.heap.size)) (w.alloc (.map #[] 0)) := fun _ _ => rfl
  go_enter Try.func24, Try.ntmps24
  go_wp2_with fail
  go_ret
  have hb1 : Below w.heap.size w (w.alloc (.map #[] 0)) := (Below.refl _ w).alloc (Nat.le_refl _) _
  have hm1 : MapAt uv is32 (w.alloc (.map #[] 0)) w.heap.size (fun _ => none) := MapAt.made w
  have hz1 : (w.alloc (.map #[] 0)).heap.size = w.heap.size + 1 := by simp
  generalize w.alloc (.map #[] 0) = w1 at *
  have hb2 : Below w1.heap.size w1 (w1.alloc (.map #[] 0)) := (Below.refl _ w1).alloc (Nat.le_refl _) _
  have hm2 : MapAt uv is32 (w1.alloc (.map #[] 0)) w1.heap.size (fun _ => none) := MapAt.made w1
  have hz2 : (w1.alloc (.map #[] 0)).heap.size = w1.heap.size + 1 := by simp
  generalize w1.alloc (.map #[] 0) = w2 at *
  have hb3 : Below w2.heap.size w2 (w2.alloc (.cells #[.map (some w.heap.size), .map (some (w.heap.size + 1))] 90)) := (Below.refl _ w2).alloc (Nat.le_refl _) _
  have hh := World.alloc_heap_new w2 (.cells #[.map (some w.heap.size), .map (some (w.heap.size + 1))] 90)
  generalize w2.alloc (.cells #[.map (some w.heap.size), .map (some (w.heap.size + 1))] 90) = w3 at *
  refine ⟨w2.heap.size, w.heap.size, w.heap.size + 1, by first | rfl | simp [hz1, hz2], ⟨hh, by omega, ?_, fun _ => none, ?_, fun _ _ _ => rfl, fun r L _ h => by cases h⟩, Nat.le_refl _, by omega, by omega, (hb1.trans (hb2.mono hb1.size)).trans (hb3.mono (by omega))⟩
  · exact hm1.stay ((hb3.block _ (by omega)).trans (hb2.block _ (by omega)))
  · rw [← hz1]; exact hm2.stay (hb3.block _ (by omega))
end
end Go.Proofs.Ytghihhjcoilmgaa
