/- Count. -/
import Derived.Test.YtellmhllgmimiaaT18
namespace Go.Proofs.Ytellmhllgmimiaa
open Go.RowKit Go.Maps
attribute [local go_sem] Oper.semAt_some
set_option linter.unusedVariables false
set_option linter.unusedSimpArgs false

section
variable {Z : Zone} {w : World} {tb : Nat} {T : TS} {D : TabD}
set_option maxRecDepth 100000 in
set_option maxHeartbeats 4000000 in
theorem count_in (h : IsT Z w tb T D) (x0 x1 x2 : Int) (hr : rok (x0, x1, x2)) :
    CallsIn Fence.wide 9 Try.prog 16 #[.pointer (some ⟨tb, 0, none⟩), rv (x0, x1, x2)] w fun e w' => e = .returned (.int .i64 (mlist T (x0, x1, x2) 0 T.length 255).length) ∧ Below w.heap.size w w' := by
  have hh := Lib.hid h
  have hlt := h.lt
  have hlong := h.long
  have hln := fun w' hb => Lib.hid (len_any (h.below (w' := w') hb))
  clear h
  simp only [rv]
  have hfn : ∀ k, Fence.wide.fn k := fun _ => trivial
  refine callsIn_of_wp_marks Try.func16 rfl trivial ?_ rfl
  simp only [Try.ntmps16, List.size_toArray, List.length_cons, List.length_nil, Nat.reduceAdd, Nat.reduceSub, Array.replicate_succ, Array.replicate_zero, List.push_toArray, List.append_toArray, List.nil_append, List.cons_append]
  gi_wp2_with fail
  -- REGION 2
  obtain ⟨r0, r1, r2⟩ := bx1 w x0 x1 x2
  have hBa : Below w.heap.size w (w.alloc (.cells #[.int .u32 x0, .int .u32 x1, .int .u32 x2] 25)) := (Below.refl _ w).alloc (Nat.le_refl _) _
  have hza : (w.alloc (.cells #[.int .u32 x0, .int .u32 x1, .int .u32 x2] 25)).heap.size = w.heap.size + 1 := World.size_alloc _ _
  generalize w.alloc (.cells #[.int .u32 x0, .int .u32 x1, .int .u32 x2] 25) = Wa at *
  obtain ⟨n0, n1⟩ := cell_new1 Wa (.int .i64 0) 3
  have hBb : Below Wa.heap.size Wa (Wa.alloc (.cells #[.int .i64 0] 3)) := (Below.refl _ Wa).alloc (Nat.le_refl _) _
  have hzb : (Wa.alloc (.cells #[.int .i64 0] 3)).heap.size = w.heap.size + 1 + 1 := by rw [World.size_alloc, hza]
  generalize Wa.alloc (.cells #[.int .i64 0] 3) = Wb at *
  rw [hza] at n0 n1
  have r0 : Wb.drew.cell? ⟨w.heap.size, 0, none⟩ = _ := cell_later hBb.drew r0
  have r1 : Wb.drew.cell? ⟨w.heap.size, 1, none⟩ = _ := cell_later hBb.drew r1
  have r2 : Wb.drew.cell? ⟨w.heap.size, 2, none⟩ = _ := cell_later hBb.drew r2
  have n0 : Wb.drew.cell? ⟨w.heap.size + 1, 0, none⟩ = _ := n0
  have n1 : Wb.drew.frozen? ⟨w.heap.size + 1, 0, none⟩ = _ := n1
  have hB1 : Below w.heap.size w Wb.drew := (hBa.trans (hBb.mono (by omega))).drew
  have hz1 : Wb.drew.heap.size = w.heap.size + 1 + 1 := hzb
  have Hz1 := Lib.hid hz1
  clear hBa hBb hza hzb hz1
  obtain ⟨S2, hSe⟩ : ∃ S : Array Bool → World → Prop, S = fun L w' => L.getD 4 true = false → w' = Wb.drew := ⟨_, rfl⟩
  have hdrop : ∀ i, i ≠ 4 → ∀ L w', S2 (L.setIfInBounds i true) w' → S2 L w' := by
    intro i hi L w'
    rw [hSe]
    intro h hl
    exact h (by rw [getD_set_ne true hi]; exact hl)
  have hS : ∀ L, S2 L Wb.drew := by intro L; rw [hSe]; exact fun _ => rfl
  have hSo : ∀ {L w'}, S2 L w' → L.getD 4 true = false → w' = Wb.drew := by intro L w' h hl; rw [hSe] at h; exact h hl
  have hSd : ∀ (L : Array Bool) X, L.getD 4 true = true → S2 L X := by
    intro L X h; rw [hSe]; intro h1; rw [h] at h1; cases h1
  clear hSe
  refine wpIn_region_LI S2 5 #[false, false, false, false, false] (by kernel_rfl) (by kernel_rfl) rfl ?_
  generalize Wb.drew = W1 at *
  refine WI.take (i := 0) (v := .pointer (some ⟨tb, 0, none⟩)) rfl rfl rfl (by kernel_rfl) (by kernel_rfl) (by kernel_rfl) (fun _ _ _ h => h) (hdrop 0 (by decide)) (Or.inl ⟨by rfl, ?_⟩) (hS _) ?_
  · rintro w' ⟨L, hL, hSw, hun⟩
    go_simp
  simp only [List.getElem_toArray, List.getElem_cons_zero, List.getElem_cons_succ, Act.put, List.setIfInBounds_toArray, List.set_cons_zero, List.set_cons_succ]
  refine WI.take (i := 1) (v := .agg #[.int .u32 x0, .int .u32 x1, .int .u32 x2]) rfl rfl rfl (by kernel_rfl) (by kernel_rfl) (by kernel_rfl) (fun _ _ _ h => h) (hdrop 1 (by decide)) (Or.inl ⟨by rfl, ?_⟩) (hS _) ?_
  · rintro w' ⟨L, hL, hSw, hun⟩
    obtain rfl := hSo hSw (hL.wait 4 1 (by kernel_rfl) hun)
    go_simp
  simp only [List.getElem_toArray, List.getElem_cons_zero, List.getElem_cons_succ, Act.put, List.setIfInBounds_toArray, List.set_cons_zero, List.set_cons_succ]
  refine WI.take (i := 2) (v := .pointer (some ⟨tb, 0, none⟩)) rfl rfl rfl (by kernel_rfl) (by kernel_rfl) (by kernel_rfl) (fun _ _ _ h => h) (hdrop 2 (by decide)) (Or.inl ⟨by rfl, ?_⟩) (hS _) ?_
  · rintro w' ⟨L, hL, hSw, hun⟩
    go_simp
  simp only [List.getElem_toArray, List.getElem_cons_zero, List.getElem_cons_succ, Act.put, List.setIfInBounds_toArray, List.set_cons_zero, List.set_cons_succ]
  refine WI.one (i := 3) (by kernel_rfl) rfl (by rfl) (fun K hK => ?_)
  unfold Oper.wpIn
  go_simp
  refine (callsIn_wide.2 (hln _ hB1).out).mono ?_
  rintro e w' ⟨rfl, rfl⟩
  refine hK _ _ (hS _) ?_
  clear hK
  simp only [List.getElem_toArray, List.getElem_cons_zero, List.getElem_cons_succ, Act.put, List.setIfInBounds_toArray, List.set_cons_zero, List.set_cons_succ]
  refine WI.one (i := 4) (by kernel_rfl) rfl (by rfl) (fun K hK => ?_)
  unfold Oper.wpIn
  go_simp
  refine (callsIn_wide.2 (match_any _ tb (x0, x1, x2) 0 T.length 255)).mono ?_
  rintro e W2 ⟨rfl, hB2, hz2, hm2⟩
  refine hK _ _ (hSd _ _ (by rfl)) ?_
  clear hK
  simp only [List.getElem_toArray, List.getElem_cons_zero, List.getElem_cons_succ, Act.put, List.setIfInBounds_toArray, List.set_cons_zero, List.set_cons_succ]
  refine WI.done (by kernel_rfl) ?_ _
  refine Nrm.normal ?_
  have hz1 := Hz1.out
  rw [hz1] at hm2 hz2 hB2 ⊢
  have n2 := cell_later (by rw [hz1]; exact hB2) n0
  have n3 : W2.frozen? ⟨w.heap.size + 1, 0, none⟩ = false := (World.frozen?_of_block (w := W1) (a := ⟨w.heap.size + 1, 0, none⟩) (hB2.block _ (by simp))).trans n1
  have hB3 := hB1.trans (hB2.mono (by omega))
  have hlt2 : ∀ i, MKeep w.heap.size (w.heap.size + 1 + 1) i → i < W2.heap.size := by
    intro i hi
    rcases hi with h | h <;> omega
  have Hm2 := Lib.hid hm2
  clear hz1 hS hSd hSo hdrop n0 n1 r0 r1 r2 hm2 hln Hz1 hB1 hB2
  gi_wp2_with fail
  refine wpIn_rangeFunc_two (fun t x => (t.setIfInBounds 11 (.int .i64 (x : Nat))).setIfInBounds 12 (rv (rowOf T x))) rfl (by decide) (gf := 24) (lb := #[.pointer (some ⟨w.heap.size + 1 + 1, 0, none⟩), .pointer (some ⟨w.heap.size + 1 + 1 + 2, 0, none⟩), .pointer (some ⟨w.heap.size + 1 + 1 + 3, 0, none⟩), .pointer (some ⟨w.heap.size + 1 + 1 + 1, 0, none⟩), .pointer (some ⟨w.heap.size + 1 + 1 + 4, 0, none⟩)]) rfl trivial (enters_of Try.func24 (by kernel_rfl) rfl)
    (match1_stops (9 - 1) (w.heap.size + 1 + 1) tb (x0, x1, x2) hr 0 T.length 255 hh.out (fun i hi => hB3.block i hi) (by omega) Hm2.out (by omega)) KeepS.t (fun W l o o' hl _ _ _ => KeepS.put hlt2 W l o o' hl) (Below.refl _ _)
    (fun pre W => (W.cell? ⟨w.heap.size + 1, 0, none⟩ = some (.int .i64 pre.length) ∧ W.frozen? ⟨w.heap.size + 1, 0, none⟩ = false) ∧ Below w.heap.size w W)
    (fun _ _ _ => False)
    (OwnFrom.and (Own.from (fun s A B row hs hg hr => ⟨cell_kept hs.1 hg hr, (frozen_kept hs.1 hg hr).trans hs.2⟩) _) (ownFrom_below (Nat.le_refl _) (by omega)))
    (fun _ _ _ _ _ hs _ _ => hs)
    ⟨⟨n2, n3⟩, hB3⟩
    ?assign ?body ?done ?stop
  case assign =>
    intro l x W K hK
    gi_wp2
    exact hK
  case body =>
    rintro l pre x W ⟨⟨hc, hf⟩, hB⟩ hlen
    have HB := Lib.hid hB; clear hB
    obtain ⟨m, hm⟩ : ∃ m, pre.length = m := ⟨_, rfl⟩
    rw [hm] at hc hlen
    have hlen' : m < 1000000 := by omega
    gi_wp2
    refine ⟨KeepsOthers.setCell _ _ _, KeepS.set _ _ _ ?_, ⟨by rw [List.length_append, hm]; exact World.cell?_setCell_same' _ _ _ (by rw [hc]; rfl), by rw [World.frozen?_setCell]; exact hf⟩, HB.out.setCell (p := ⟨w.heap.size + 1, 0, none⟩) (by simp) _⟩
    simp only [MKeep]; omega
  case done =>
    rintro DD ys W hD rfl ⟨⟨hc, _⟩, hB⟩ hK
    have HB := Lib.hid hB; clear hB
    gi_wp2
    refine ⟨by simp, .inl ⟨_, _, rfl, run_takeDeferred hK, ?_⟩⟩
    exact ⟨_, results_tmp rfl _ _ _, rfl, HB.out.trans (belowK_b (w := w) (Nat.le_refl _) W DD _ _ (by omega) hK rfl rfl)⟩
  case stop =>
    rintro D c pre W _ _ h _
    exact h.elim
end
end Go.Proofs.Ytellmhllgmimiaa
