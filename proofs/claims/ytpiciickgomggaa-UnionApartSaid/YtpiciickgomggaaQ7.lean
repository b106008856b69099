/- The partition in memory: New, Find, list, Len, Copy, Clique. -/
import Derived.Test.YtpiciickgomggaaQ6
namespace Go.Proofs.Ytpiciickgomggaa
set_option maxRecDepth 100000
open Go.RowKit Go.Maps Go.Shelf
open Go.ChangeMaps Go.MapKept
set_option linter.unusedVariables false
set_option linter.unusedSimpArgs false

/-- the partition at pb: its two maps at mf and mc -/
structure IsP (w : World) (pb mf mc : Nat) (f : Int → Option Int) (c : Int → Option (List Int)) : Prop where
  head : w.heap[pb]? = some (.cells #[.map (some mf), .map (some mc)] 48 (0, 0))
  ne : mf ≠ mc
  of : MapAt uv is32 w mf (fun x => (f x).map uv)
  cl : ∃ cv : Int → Option Value, MapAt uv is32 w mc cv ∧ (∀ r, is32 r → c r = none → cv r = none) ∧ ∀ r L, is32 r → c r = some L → ∃ v, cv r = some v ∧ OwnU 0 w v L
theorem lt_of_heap {w : World} {i : Nat} {o : Obj} (h : w.heap[i]? = some o) : i < w.heap.size := (Array.getElem?_eq_some_iff.1 h).1
theorem OwnU.stay {b : Nat} {w w' : World} {v : Value} {L : List Int} (h : OwnU b w v L) (hs : ∀ (i : Nat) cur, w.heap[i]? = some (Obj.cells cur 26 (0, 0)) → w'.heap[i]? = w.heap[i]?) : OwnU b w' v L := by
  refine ⟨h.1, ?_⟩
  rcases h.2 with h1 | ⟨g, cap, cur, h1, h2, h3, h4⟩
  · exact .inl h1
  · exact .inr ⟨g, cap, cur, h1, h2, (hs g cur h3).trans h3, h4⟩
namespace IsP
variable {w w' : World} {pb mf mc : Nat} {f : Int → Option Int} {c : Int → Option (List Int)}
theorem below (h : IsP w pb mf mc f c) (hb : Below w.heap.size w w') : IsP w' pb mf mc f c := by
  obtain ⟨cv, h1, h2, h3⟩ := h.cl
  refine ⟨(hb.block pb (lt_of_heap h.head)).trans h.head, h.ne, h.of.stay (hb.block mf h.of.lt), cv, h1.stay (hb.block mc h1.lt), h2, fun r L hr hc => ?_⟩
  obtain ⟨v, e1, e2⟩ := h3 r L hr hc
  exact ⟨v, e1, e2.below rfl hb⟩
theorem cells (h : IsP w pb mf mc f c) : w.cell? ⟨pb, 0, none⟩ = some (.map (some mf)) ∧ w.cell? ⟨pb, 1, none⟩ = some (.map (some mc)) := by
  unfold World.cell?
  rw [h.head]
  exact ⟨rfl, rfl⟩
end IsP
theorem Try.zeroU32 (w : World) : (zeroValue 26).run Try.prog w = .ok (.int .u32 0) w := by kernel_rfl
theorem Try.zeroSU (w : World) : (zeroValue 32).run Try.prog w = .ok (.slice none 0 0) w := by kernel_rfl
section
variable {w : World} {pb mf mc : Nat} {f : Int → Option Int} {c : Int → Option (List Int)}
set_option maxRecDepth 100000 in
theorem find_u (h : IsP w pb mf mc f c) {a : Int} (ha : is32 a) : Calls Try.prog 9 #[.pointer (some ⟨pb, 0, none⟩), .int .u32 a] w fun e w' => e = .returned (.int .u32 (findP f a)) ∧ w = w' := by
  have hl := h.of.look kysU Try.underlying45 (Try.zeroU32 w) true ha
  obtain ⟨c0, _⟩ := h.cells
  simp only [uv] at hl
  unfold findP
  clear h
  cases hf : f a
  · rw [hf] at hl
    simp only [Option.map_none, Option.getD_none, Option.isSome_none, if_true] at hl
    go_enter Try.func9, Try.ntmps9
    go_wp2_with fail
    go_ret
    exact ⟨rfl, rfl⟩
  · rw [hf] at hl
    simp only [Option.map_some, Option.getD_some, Option.isSome_some, if_true] at hl
    go_enter Try.func9, Try.ntmps9
    go_wp2_with fail
    go_ret
    exact ⟨rfl, rfl⟩
set_option maxRecDepth 100000 in
theorem list_u (h : IsP w pb mf mc f c) {a : Int} (ha : is32 a) : Calls Try.prog 18 #[.pointer (some ⟨pb, 0, none⟩), .int .u32 a] w fun e w' => ∃ v, e = .returned v ∧ OwnU 0 w' v (listP c a) ∧ Below w.heap.size w w' := by
  obtain ⟨cv, h1, h2, h3⟩ := h.cl
  have hl := h1.look kysU Try.underlying46 (Try.zeroSU w) true ha
  obtain ⟨_, c1⟩ := h.cells
  simp only [uv] at hl
  unfold listP
  cases hf : c a
  · rw [h2 a ha hf] at hl
    simp only [Option.getD_none, Option.isSome_none, if_true] at hl
    clear h h1 h2 h3 hf
    go_enter Try.func18, Try.ntmps18
    go_wp2_with fail
    go_ret
    exact ⟨_, rfl, (own_one w a).mono (Nat.zero_le _), (Below.refl _ w).alloc (Nat.le_refl _) _⟩
  · obtain ⟨v, e1, e2⟩ := h3 a _ ha hf
    obtain ⟨sa, cap, rfl, _⟩ := e2.u
    rw [e1] at hl
    simp only [Option.getD_some, Option.isSome_some, if_true] at hl
    have E2 := Lib.hid e2
    clear h h1 h2 h3 hf e1 e2
    go_enter Try.func18, Try.ntmps18
    go_wp2_with fail
    go_ret
    exact ⟨_, rfl, E2.out, Below.refl _ _⟩
set_option maxRecDepth 100000 in
theorem lenP_u (h : IsP w pb mf mc f c) : Calls Try.prog 12 #[.pointer (some ⟨pb, 0, none⟩)] w fun e w' => (∃ ks : List Int, ks.Nodup ∧ (∀ x ∈ ks, is32 x) ∧ (∀ x, is32 x → (x ∈ ks ↔ c x ≠ none)) ∧ e = .returned (.int .i64 ks.length)) ∧ w = w' := by
  obtain ⟨cv, h1, h2, h3⟩ := h.cl
  obtain ⟨_, c1⟩ := h.cells
  obtain ⟨ks, k1, k2, k3, k4⟩ := h1.len kysU Try.underlying46 3
  have k3' : ∀ x, is32 x → (x ∈ ks ↔ c x ≠ none) := fun x hx => by
    rw [k3 x hx]
    cases hc : c x with
    | none => simp [h2 x hx hc]
    | some L => obtain ⟨v, e1, _⟩ := h3 x L hx hc; simp [e1]
  have H1 := Lib.hid k1; have H2 := Lib.hid k2; have H3 := Lib.hid k3'
  clear h h1 h2 h3 k1 k2 k3 k3'
  go_enter Try.func12, Try.ntmps12
  go_wp2_with fail
  go_ret
  exact ⟨⟨ks, H1.out, H2.out, H3.out, rfl⟩, rfl⟩
set_option maxRecDepth 100000 in
theorem cliqueP_zero (v : Value) (hv : v = .pointer (some ⟨pb, 0, none⟩)) : Calls Try.prog 11 #[v, .int .u32 0] w fun e w' => e = .returned (.slice none 0 0) ∧ w = w' := by
  subst hv
  go_enter Try.func11, Try.ntmps11
  go_wp2_with fail
  go_ret
  exact ⟨rfl, rfl⟩
set_option maxRecDepth 100000 in
theorem cliqueP_u (h : IsP w pb mf mc f c) {a : Int} (ha : is32 a) (h0 : a ≠ 0) (hf : is32 (findP f a)) (hl : (listP c (findP f a)).length < 256) : Calls Try.prog 11 #[.pointer (some ⟨pb, 0, none⟩), .int .u32 a] w fun e w' =>
    ∃ v, e = .returned v ∧ OwnU w.heap.size w' v (srt (listP c (findP f a))) ∧ Below w.heap.size w w' := by
  have hq : (a == 0) = false := by simp [h0]
  have hc1 := Lib.hid (find_u h ha)
  have hc2 := Lib.hid (list_u h hf)
  obtain ⟨r, hr⟩ : ∃ r, findP f a = r := ⟨_, rfl⟩
  rw [hr] at hc1 hc2 hl ⊢
  clear h h0 hr
  go_enter Try.func11, Try.ntmps11
  go_wp2_with fail
  refine hc1.out.mono ?_
  rintro e w1 ⟨rfl, rfl⟩
  go_wp2_with fail
  refine hc2.out.mono ?_
  rintro e w2 ⟨v, rfl, hO, hB⟩
  obtain ⟨sa, cap, rfl, _, _, hU⟩ := hO.u
  obtain ⟨L, hL⟩ : ∃ L, listP c r = L := ⟨_, rfl⟩
  rw [hL] at hl hU ⊢
  have HU := Lib.hid hU; have HB := Lib.hid hB
  obtain ⟨k, hk⟩ : ∃ k, L.length = k := ⟨_, rfl⟩
  rw [hk]
  have HLe := Lib.hid hL
  clear hU hO hB hL
  go_wp2_with fail
  refine (values_any sa k cap w2).mono ?_
  rintro e w3 ⟨rfl, hw3⟩
  have hB3 : Below w2.heap.size w2 w3 := by rw [hw3]; exact (Below.refl _ w2).alloc (Nat.le_refl _) _
  have hs3 : w3.heap.size = w2.heap.size + 1 := by rw [hw3]; simp
  have hc3 : w3.cell? ⟨w2.heap.size, 0, none⟩ = some (.slice sa L.length cap) := by
    rw [hw3, hk]
    exact (Boxed.new w2 32 (.slice sa k cap)).cell
  have hst := values_stops 8 w2.heap.size L.length cap sa L (Nat.le_refl _) (by omega) w3 (by omega) hc3 (HU.out.below hB3)
  have hso := sorted_any (gf := 30) (lb := #[.pointer (some ⟨w2.heap.size, 0, none⟩)]) (by omega) (enters_of Try.func30 (by kernel_rfl) rfl) (fun ss (e : ss = L) => by rw [e]; exact hl) hst
  have HSo := Lib.hid hso; have HB3 := Lib.hid (HB.out.trans (hB3.mono HB.out.size))
  clear hw3 hB3 hs3 hc3 hst hso hk
  go_wp2_with fail
  refine HSo.out.mono ?_
  rintro e w4 ⟨v, ss, rfl, rfl, hO4, hB4⟩
  have HO4 := Lib.hid hO4; have HB4 := Lib.hid hB4
  obtain ⟨sa4, cap4, rfl, _⟩ := hO4.u
  clear hO4 hB4
  go_wp2_with fail
  go_ret
  rw [HLe.out]
  exact ⟨_, rfl, HO4.out.mono HB3.out.size, HB3.out.trans (HB4.out.mono HB3.out.size)⟩
set_option maxRecDepth 100000 in
theorem newP_u (w : World) : Calls Try.prog 7 #[] w fun e w' => ∃ pb mf mc, e = .returned (.pointer (some ⟨pb, 0, none⟩)) ∧ IsP w' pb mf mc (fun _ => none) (fun _ => none) ∧ w.heap.size ≤ mf ∧ w.heap.size ≤ mc ∧ w.heap.size ≤ pb ∧ Below w.heap.size w w' := by
  have hmk : ∀ (t : TypeId) (w : World), (Instr.makeMap t none).run Try.prog w = .ok (.map (some w.heap.size)) (w.alloc (.map #[] 0)) := fun _ _ => rfl
  go_enter Try.func7, Try.ntmps7
  go_wp2_with fail
  go_ret
  have hb1 : Below w.heap.size w (w.alloc (.map #[] 0)) := (Below.refl _ w).alloc (Nat.le_refl _) _
  have hm1 : MapAt uv is32 (w.alloc (.map #[] 0)) w.heap.size (fun _ => none) := MapAt.made w
  have hz1 : (w.alloc (.map #[] 0)).heap.size = w.heap.size + 1 := by simp
  generalize w.alloc (.map #[] 0) = w1 at *
  have hb2 : Below w1.heap.size w1 (w1.alloc (.map #[] 0)) := (Below.refl _ w1).alloc (Nat.le_refl _) _
  have hm2 : MapAt uv is32 (w1.alloc (.map #[] 0)) w1.heap.size (fun _ => none) := MapAt.made w1
  have hz2 : (w1.alloc (.map #[] 0)).heap.size = w1.heap.size + 1 := by simp
  generalize w1.alloc (.map #[] 0) = w2 at *
  have hb3 : Below w2.heap.size w2 (w2.alloc (.cells #[.map (some w.heap.size), .map (some (w.heap.size + 1))] 48)) := (Below.refl _ w2).alloc (Nat.le_refl _) _
  have hh := World.alloc_heap_new w2 (.cells #[.map (some w.heap.size), .map (some (w.heap.size + 1))] 48)
  generalize w2.alloc (.cells #[.map (some w.heap.size), .map (some (w.heap.size + 1))] 48) = w3 at *
  refine ⟨w2.heap.size, w.heap.size, w.heap.size + 1, by first | rfl | simp [hz1, hz2], ⟨hh, by omega, ?_, fun _ => none, ?_, fun _ _ _ => rfl, fun r L _ h => by cases h⟩, Nat.le_refl _, by omega, by omega, (hb1.trans (hb2.mono hb1.size)).trans (hb3.mono (by omega))⟩
  · exact hm1.stay ((hb3.block _ (by omega)).trans (hb2.block _ (by omega)))
  · rw [← hz1]; exact hm2.stay (hb3.block _ (by omega))
set_option maxRecDepth 100000 in
set_option maxHeartbeats 2000000 in
theorem copyP_u (h : IsP w pb mf mc f c) : Calls Try.prog 16 #[.pointer (some ⟨pb, 0, none⟩)] w fun e w' => ∃ pb' mf' mc', e = .returned (.pointer (some ⟨pb', 0, none⟩)) ∧ IsP w' pb' mf' mc' f c ∧ w.heap.size ≤ mf' ∧ w.heap.size ≤ mc' ∧ w.heap.size ≤ pb' ∧ Below w.heap.size w w' := by
  obtain ⟨c0, c1⟩ := h.cells
  have hq := run_eql_map_nil_sl (P := Try.prog) w 45 _ _ (some mf) Try.underlying45
  have H := Lib.hid h
  clear h
  go_enter Try.func16, Try.ntmps16
  go_wp2_with fail
  obtain ⟨cv, m1, m2, m3⟩ := H.out.cl
  have HM1 := Lib.hid m1; have HM2 := Lib.hid m2; have HM3 := Lib.hid m3; have HOf := Lib.hid H.out.of
  clear hq m1 m2 m3
  have c0 : w.drew.cell? ⟨pb, 0, none⟩ = some (.map (some mf)) := c0
  have c1 : w.drew.cell? ⟨pb, 1, none⟩ = some (.map (some mc)) := c1
  obtain ⟨SC, hSe⟩ : ∃ S : Array Bool → World → Prop, S = fun _ w' => Below w.drew.heap.size w.drew w' := ⟨_, rfl⟩
  have hdrop : ∀ i : Nat, ∀ L w', SC (L.setIfInBounds i true) w' → SC L w' := by
    intro i L w' h; rw [hSe] at h ⊢; exact h
  have hS : ∀ L, SC L w.drew := by intro L; rw [hSe]; exact Below.refl _ _
  have hSo : ∀ {L w'}, SC L w' → Below w.drew.heap.size w.drew w' := by intro L w' h; rw [hSe] at h; exact h
  have hSi : ∀ {w'}, Below w.drew.heap.size w.drew w' → ∀ L, SC L w' := by intro w' h L; rw [hSe]; exact h
  clear hSe
  refine wp_region_LN SC 13 #[false, false, false, false, false, false, false, false, false, false, false, false, false] (by kernel_rfl) (by kernel_rfl) rfl ?_
  obtain ⟨X1, hX1⟩ : ∃ X1, X1 = w.drew := ⟨_, rfl⟩
  rw [← hX1] at c0 c1 hSo hS hSi ⊢
  have HX1 := Lib.hid hX1
  clear hX1
  refine WA.take (i := 0) (v := .pointer (some ⟨pb, 0, none⟩)) rfl (by kernel_rfl) (by kernel_rfl) (by kernel_rfl) (fun _ _ _ h => h) (hdrop 0) (Or.inl ⟨by rfl, ?_⟩) (hS _) ?_
  · rintro w' ⟨L, hL, hSw, hun⟩
    go_simp
  simp only [List.getElem_toArray, List.getElem_cons_zero, List.getElem_cons_succ, Act.put, List.setIfInBounds_toArray, List.set_cons_zero, List.set_cons_succ]
  refine WA.take (i := 1) (v := .pointer (some ⟨pb, 0, none⟩)) rfl (by kernel_rfl) (by kernel_rfl) (by kernel_rfl) (fun _ _ _ h => h) (hdrop 1) (Or.inl ⟨by rfl, ?_⟩) (hS _) ?_
  · rintro w' ⟨L, hL, hSw, hun⟩
    go_simp
  simp only [List.getElem_toArray, List.getElem_cons_zero, List.getElem_cons_succ, Act.put, List.setIfInBounds_toArray, List.set_cons_zero, List.set_cons_succ]
  refine WA.take (i := 2) (v := .pointer (some ⟨pb, 0, none⟩)) rfl (by kernel_rfl) (by kernel_rfl) (by kernel_rfl) (fun _ _ _ h => h) (hdrop 2) (Or.inl ⟨by rfl, ?_⟩) (hS _) ?_
  · rintro w' ⟨L, hL, hSw, hun⟩
    go_simp
  simp only [List.getElem_toArray, List.getElem_cons_zero, List.getElem_cons_succ, Act.put, List.setIfInBounds_toArray, List.set_cons_zero, List.set_cons_succ]
  refine WA.take (i := 3) (v := .map (some mf)) rfl (by kernel_rfl) (by kernel_rfl) (by kernel_rfl) (fun _ _ _ h => h) (hdrop 3) (Or.inl ⟨by rfl, ?_⟩) (hS _) ?_
  · rintro w' ⟨L, hL, hSw, hun⟩
    have hbw := hSo hSw
    have c0 := cell_later hbw c0
    clear hbw
    go_simp
  simp only [List.getElem_toArray, List.getElem_cons_zero, List.getElem_cons_succ, Act.put, List.setIfInBounds_toArray, List.set_cons_zero, List.set_cons_succ]
  refine WA.take (i := 5) (v := .pointer (some ⟨pb, 0, none⟩)) rfl (by kernel_rfl) (by kernel_rfl) (by kernel_rfl) (fun _ _ _ h => h) (hdrop 5) (Or.inl ⟨by rfl, ?_⟩) (hS _) ?_
  · rintro w' ⟨L, hL, hSw, hun⟩
    go_simp
  simp only [List.getElem_toArray, List.getElem_cons_zero, List.getElem_cons_succ, Act.put, List.setIfInBounds_toArray, List.set_cons_zero, List.set_cons_succ]
  refine WA.take (i := 6) (v := .pointer (some ⟨pb, 0, none⟩)) rfl (by kernel_rfl) (by kernel_rfl) (by kernel_rfl) (fun _ _ _ h => h) (hdrop 6) (Or.inl ⟨by rfl, ?_⟩) (hS _) ?_
  · rintro w' ⟨L, hL, hSw, hun⟩
    go_simp
  simp only [List.getElem_toArray, List.getElem_cons_zero, List.getElem_cons_succ, Act.put, List.setIfInBounds_toArray, List.set_cons_zero, List.set_cons_succ]
  refine WA.take (i := 7) (v := .pointer (some ⟨pb, 1, none⟩)) rfl (by kernel_rfl) (by kernel_rfl) (by kernel_rfl) (fun _ _ _ h => h) (hdrop 7) (Or.inl ⟨by rfl, ?_⟩) (hS _) ?_
  · rintro w' ⟨L, hL, hSw, hun⟩
    go_simp
  simp only [List.getElem_toArray, List.getElem_cons_zero, List.getElem_cons_succ, Act.put, List.setIfInBounds_toArray, List.set_cons_zero, List.set_cons_succ]
  refine WA.take (i := 8) (v := .map (some mc)) rfl (by kernel_rfl) (by kernel_rfl) (by kernel_rfl) (fun _ _ _ h => h) (hdrop 8) (Or.inl ⟨by rfl, ?_⟩) (hS _) ?_
  · rintro w' ⟨L, hL, hSw, hun⟩
    have hbw := hSo hSw
    have c1 := cell_later hbw c1
    clear hbw
    go_simp
  simp only [List.getElem_toArray, List.getElem_cons_zero, List.getElem_cons_succ, Act.put, List.setIfInBounds_toArray, List.set_cons_zero, List.set_cons_succ]
  refine WA.one (i := 4) (by kernel_rfl) rfl (by rfl) (fun K hK => ?_)
  go_simp
  refine (clone_of (w := X1) (b := mf) (f := fun x => (f x).map uv) (by rw [HX1.out]; exact HOf.out.stay rfl)).mono ?_
  rintro e w4 ⟨rfl, h41, h42, h43⟩
  have H41 := Lib.hid h41; have H42 := Lib.hid h42; have H43 := Lib.hid h43
  clear h41 h42 h43
  refine hK _ _ (hSi H42.out _) ?_
  clear hK
  try simp only [List.getElem_toArray, List.getElem_cons_zero, List.getElem_cons_succ, Act.put, List.setIfInBounds_toArray, List.set_cons_zero, List.set_cons_succ]
  refine WA.one (i := 9) (by kernel_rfl) rfl (by rfl) (fun K hK => ?_)
  go_simp
  refine (clone_cl (w := w4) (b := mc) (f := cv) ((show MapAt uv is32 X1 mc cv by rw [HX1.out]; exact HM1.out.stay rfl).stay (H42.out.block mc (by rw [HX1.out]; exact HM1.out.lt)))).mono ?_
  rintro e w5 ⟨rfl, h51, h52, h53⟩
  have H51 := Lib.hid h51; have H52 := Lib.hid h52; have H53 := Lib.hid h53
  clear h51 h52 h53
  refine hK _ _ (hSi (H42.out.trans (H52.out.mono H42.out.size)) _) ?_
  clear hK
  try simp only [List.getElem_toArray, List.getElem_cons_zero, List.getElem_cons_succ, Act.put, List.setIfInBounds_toArray, List.set_cons_zero, List.set_cons_succ]
  refine WA.take (i := 10) (v := .agg #[.map (some X1.heap.size), .map (some w4.heap.size)]) rfl (by kernel_rfl) (by kernel_rfl) (by kernel_rfl) (fun _ _ _ h => h) (hdrop 10) (Or.inl ⟨by rfl, ?_⟩) (hSi (H42.out.trans (H52.out.mono H42.out.size)) _) ?_
  · rintro w' ⟨L, hL, hSw, hun⟩
    go_simp
  simp only [List.getElem_toArray, List.getElem_cons_zero, List.getElem_cons_succ, Act.put, List.setIfInBounds_toArray, List.set_cons_zero, List.set_cons_succ]
  refine WA.one (i := 11) (by kernel_rfl) rfl (by rfl) (fun K hK => ?_)
  go_simp
  have H61 := Lib.hid (World.alloc_heap_new w5 (.cells #[.map (some X1.heap.size), .map (some w4.heap.size)] 48))
  have H62 := Lib.hid ((Below.refl _ w5).alloc (Nat.le_refl w5.heap.size) (.cells #[.map (some X1.heap.size), .map (some w4.heap.size)] 48))
  refine hK _ _ (hSi ((H42.out.trans (H52.out.mono H42.out.size)).trans (H62.out.mono (Nat.le_trans H42.out.size H52.out.size))) _) ?_
  clear hK
  try simp only [List.getElem_toArray, List.getElem_cons_zero, List.getElem_cons_succ, Act.put, List.setIfInBounds_toArray, List.set_cons_zero, List.set_cons_succ]
  refine WA.take (i := 12) (v := .pointer (some ⟨w5.heap.size, 0, none⟩)) rfl (by kernel_rfl) (by kernel_rfl) (by kernel_rfl) (fun _ _ _ h => h) (hdrop 12) (Or.inl ⟨by rfl, ?_⟩) (hSi ((H42.out.trans (H52.out.mono H42.out.size)).trans (H62.out.mono (Nat.le_trans H42.out.size H52.out.size))) _) ?_
  · rintro w' ⟨L, hL, hSw, hun⟩
    go_simp
  simp only [List.getElem_toArray, List.getElem_cons_zero, List.getElem_cons_succ, Act.put, List.setIfInBounds_toArray, List.set_cons_zero, List.set_cons_succ]
  refine WA.done (by kernel_rfl) ?_ _
  refine Nrm.normal ?_
  clear hSo hS hSi hdrop c0 c1
  clear SC
  go_wp2_with fail
  go_ret
  have hx : X1.heap.size = w.heap.size := by rw [HX1.out]; rfl
  have h43 := H43.out
  have h53 := H53.out
  have hB : Below w.heap.size w X1 := by rw [HX1.out]; exact (Below.refl _ w).drew
  have hB2 : Below w.heap.size w w5 := by
    have := H42.out.trans (H52.out.mono H42.out.size)
    rw [hx] at this
    exact hB.trans this
  have hB3 := hB2.trans (H62.out.mono hB2.size)
  refine ⟨w5.heap.size, X1.heap.size, w4.heap.size, rfl, ⟨H61.out, by omega, ?_, cv, ?_, HM2.out, fun r L hr hc => ?_⟩, by omega, by omega, by omega, hB3⟩
  · exact H41.out.stay ((H62.out.block _ (by omega)).trans (H52.out.block _ (by omega)))
  · exact H51.out.stay (H62.out.block _ (by omega))
  · obtain ⟨v, e1, e2⟩ := HM3.out r L hr hc
    exact ⟨v, e1, e2.below rfl hB3⟩
end
end Go.Proofs.Ytpiciickgomggaa
