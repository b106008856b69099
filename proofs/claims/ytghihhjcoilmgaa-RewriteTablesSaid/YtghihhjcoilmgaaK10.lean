/- Add, where the row is new. -/
import Derived.Test.YtghihhjcoilmgaaKL
import Derived.Deep.CutRange
namespace Go.Proofs.Ytghihhjcoilmgaa.T
set_option maxRecDepth 100000
open Go.RowKit Go.Maps
attribute [local go_sem] Oper.semAt_some
set_option linter.unusedVariables false
set_option linter.unusedSimpArgs false

section
variable {Z : Zone} {w : World} {tb : Nat} {T : TS} {D : TabD}

set_option maxRecDepth 100000 in
set_option maxHeartbeats 8000000 in
theorem add_new_in (h : IsT Z w tb T D) (hZ : Z.opn w.heap.size) (x0 x1 x2 : Int) (b : Int) (hb : b ≠ 0) (hr : has3 x0 x1 x2 0 = false) (hro : rok (x0, x1, x2)) (hn : idx T (x0, x1, x2) = none) (hlen : T.length + 1 ≤ 1000000) :
    CallsIn Fence.wide 9 Try.prog 18 #[.pointer (some ⟨tb, 0, none⟩), rv (x0, x1, x2), .int .u8 b] w fun e w' =>
      e = .returned (.tuple #[.int .i64 T.length, .bool true]) ∧ (∃ D', IsT Z w' tb (setB (T ++ [((x0, x1, x2), 0)]) T.length (bits .or .u8 0 b)) D') ∧ Fr Z w w' := by
  have hth := fun w' hb => Lib.hid (there_any (h.below (w' := w') hb))
  -- the zone without the three boxes
  obtain ⟨Y, hY⟩ : ∃ Y, Y = Z.gap w.heap.size (w.heap.size + 3) := ⟨_, rfl⟩
  have hYo : Y.opn (w.heap.size + 3) := by rw [hY]; exact Zone.gap_opn _ _ _
  have hback : ∀ w' T' D', IsT Y w' tb T' D' → IsT Z w' tb T' D' := by
    intro w' T' D' h; rw [hY] at h; exact h.back (by omega) hZ
  have hfr : ∀ w', Fr Y w w' → Fr Z w w' := by
    intro w' h; rw [hY] at h; exact h.back (by omega) hZ
  have hbt : ∀ A B i, Fr Y A B → w.heap.size ≤ i → i < w.heap.size + 3 → i < A.heap.size → B.heap[i]? = A.heap[i]? := by
    intro A B i h h1 h2 h3; rw [hY] at h; exact h.between h1 h2 h3
  have hgap := h.gap (N' := w.heap.size + 3) (Nat.le_refl w.heap.size)
  rw [← hY] at hgap
  have hIs := fun w' hb => Lib.hid (hgap.below (w' := w') hb)
  have hlt := h.lt
  clear h hgap hY
  have hb1 : (b == 0) = false := by simpa using hb
  simp only [rv]
  refine callsIn_of_wp_marks Try.func18 rfl trivial ?_ rfl
  refine wpIn_wide.2 ?_
  simp only [Try.ntmps18, List.size_toArray, List.length_cons, List.length_nil, Nat.reduceAdd, Nat.reduceSub, Array.replicate_succ, Array.replicate_zero, List.push_toArray, List.append_toArray, List.nil_append, List.cons_append]
  have hb0 : Below w.heap.size w ((w.alloc (.cells #[.pointer (some ⟨tb, 0, none⟩)] 49)).alloc (.cells #[.int .u32 x0, .int .u32 x1, .int .u32 x2] 37)) := ((Below.refl _ w).alloc (Nat.le_refl _) _).alloc (by simp) _
  go_wp2_with fail
  refine (hth _ hb0).out.mono ?_
  rintro e w' ⟨rfl, rfl⟩
  have hX := bx2 w (.pointer (some ⟨tb, 0, none⟩)) 49 37 x0 x1 x2
  clear hth
  generalize hW : ((w.alloc (.cells #[.pointer (some ⟨tb, 0, none⟩)] 49)).alloc (.cells #[.int .u32 x0, .int .u32 x1, .int .u32 x2] 37)) = W at *
  clear hW
  have cc := Lib.hid (contains3 _ _ x0 x1 x2 0 hX.r0 hX.r1 hX.r2)
  rw [hr] at cc
  have hW := (hIs W hb0).out
  have ca := hX.c
  have c2 := hW.c2
  have r0 := hX.r0
  have r1 := hX.r1
  have r2 := hX.r2
  have hq : ∀ w', Below W.heap.size W w' → (Instr.lookup 77 (.map (some D.bf)) (.agg #[.int .u32 x0, .int .u32 x1, .int .u32 x2]) true).run Try.prog w' = .ok (.tuple #[.int .i64 0, .bool false]) w' := by
    intro w' hb
    have := (hW.below hb).find.look kysR Try.underlying77 (Try.zeroInt _) true hro
    simp only [idxF, hn] at this
    exact this
  go_wp2_with (go_at_call 35; refine cc.out.mono ?_; rintro e w' ⟨rfl, rfl⟩)
  -- REGION 3
  obtain ⟨S, hSe⟩ : ∃ S : Array Bool → World → Prop, S = fun L w' => Below W.heap.size W w' := ⟨_, rfl⟩
  have hdrop : ∀ i, i ≠ 100 → ∀ L w', S (L.setIfInBounds i true) w' → S L w' := by
    intro i _ L w'
    rw [hSe]; exact id
  have hbx : ∀ L w', S L w' → w'.cell? ⟨w.heap.size, 0, none⟩ = some (.pointer (some ⟨tb, 0, none⟩)) ∧ w'.cell? ⟨tb, 2, none⟩ = some (.map (some D.bf)) ∧ w'.cell? ⟨w.heap.size + 1, 0, none⟩ = some (.int .u32 x0) ∧ w'.cell? ⟨w.heap.size + 1, 1, none⟩ = some (.int .u32 x1) ∧ w'.cell? ⟨w.heap.size + 1, 2, none⟩ = some (.int .u32 x2) ∧
      (Instr.lookup 77 (.map (some D.bf)) (.agg #[.int .u32 x0, .int .u32 x1, .int .u32 x2]) true).run Try.prog w' = .ok (.tuple #[.int .i64 0, .bool false]) w' := by
    intro L w' h
    rw [hSe] at h
    exact ⟨cell_later h ca, cell_later h c2, cell_later h r0, cell_later h r1, cell_later h r2, hq w' h⟩
  have hS : ∀ L, S L W.drew := by
    intro L
    rw [hSe]; exact (Below.refl _ _).drew
  have hS2 : ∀ L o, S L (W.drew.alloc o) := by
    intro L o
    rw [hSe]; exact (Below.refl _ _).drew.alloc (Nat.le_refl _) _
  have hS3 : ∀ L o, S L (W.alloc o).drew := by
    intro L o
    rw [hSe]; exact ((Below.refl _ _).alloc (Nat.le_refl _) _).drew
  have hx := hX.size
  clear hSe hq ca c2 r0 r1 r2 cc
  refine wp_region_LN S 12 #[false, false, false, false, false, false, false, false, false, false, false, false] (by kernel_rfl) (by kernel_rfl) rfl ?_
  refine WA.tk (i := 0) (v := .pointer (some ⟨tb, 0, none⟩)) rfl (hdrop 0 (by decide)) (Or.inl ⟨by rfl, ?_⟩) (hS _) ?_
  · rintro w' ⟨L, hL, hSw, hun⟩
    obtain ⟨q1, q2, q3, q4, q5, q6⟩ := hbx _ _ hSw
    go_simp
  simp only [nA, nB, nC, Act.put, nD, nE, nF]
  refine WA.tk (i := 1) (v := .pointer (some ⟨tb, 0, none⟩)) rfl (hdrop 1 (by decide)) (Or.inl ⟨by rfl, ?_⟩) (hS _) ?_
  · rintro w' ⟨L, hL, hSw, hun⟩
    go_simp
  simp only [nA, nB, nC, Act.put, nD, nE, nF]
  refine WA.tk (i := 2) (v := .pointer (some ⟨tb, 2, none⟩)) rfl (hdrop 2 (by decide)) (Or.inl ⟨by rfl, ?_⟩) (hS _) ?_
  · rintro w' ⟨L, hL, hSw, hun⟩
    go_simp
  simp only [nA, nB, nC, Act.put, nD, nE, nF]
  refine WA.tk (i := 3) (v := .map (some D.bf)) rfl (hdrop 3 (by decide)) (Or.inl ⟨by rfl, ?_⟩) (hS _) ?_
  · rintro w' ⟨L, hL, hSw, hun⟩
    obtain ⟨q1, q2, q3, q4, q5, q6⟩ := hbx _ _ hSw
    go_simp
  simp only [nA, nB, nC, Act.put, nD, nE, nF]
  refine WA.tk (i := 4) (v := .agg #[.int .u32 x0, .int .u32 x1, .int .u32 x2]) rfl (hdrop 4 (by decide)) (Or.inl ⟨by rfl, ?_⟩) (hS _) ?_
  · rintro w' ⟨L, hL, hSw, hun⟩
    obtain ⟨q1, q2, q3, q4, q5, q6⟩ := hbx _ _ hSw
    go_simp
  simp only [nA, nB, nC, Act.put, nD, nE, nF]
  refine WA.tk (i := 5) (v := .tuple #[.int .i64 0, .bool false]) rfl (hdrop 5 (by decide)) (Or.inl ⟨by rfl, ?_⟩) (hS _) ?_
  · rintro w' ⟨L, hL, hSw, hun⟩
    obtain ⟨q1, q2, q3, q4, q5, q6⟩ := hbx _ _ hSw
    go_simp
  simp only [nA, nB, nC, Act.put, nD, nE, nF]
  refine WA.tk (i := 6) (v := .tuple #[.int .i64 0, .bool false]) rfl (hdrop 6 (by decide)) (Or.inl ⟨by rfl, ?_⟩) (hS _) ?_
  · rintro w' ⟨L, hL, hSw, hun⟩
    go_simp
  simp only [nA, nB, nC, Act.put, nD, nE, nF]
  refine WA.tk (i := 7) (v := .int .i64 0) rfl (hdrop 7 (by decide)) (Or.inl ⟨by rfl, ?_⟩) (hS _) ?_
  · rintro w' ⟨L, hL, hSw, hun⟩
    go_simp
  simp only [nA, nB, nC, Act.put, nD, nE, nF]
  refine WA.tk (i := 8) (v := .bool false) rfl (hdrop 8 (by decide)) (Or.inl ⟨by rfl, ?_⟩) (hS _) ?_
  · rintro w' ⟨L, hL, hSw, hun⟩
    go_simp
  simp only [nA, nB, nC, Act.put, nD, nE, nF]
  refine WA.one (i := 9) (by kernel_rfl) rfl (by rfl) (fun K hK => ?_)
  go_simp
  refine hK _ _ (by first | exact hS2 _ _ | exact hS3 _ _) ?_
  clear hK
  try simp only [nA, nB, nC, Act.put, nD, nE, nF]
  refine WA.one (i := 10) (by kernel_rfl) rfl (by rfl) (fun K hK => ?_)
  go_simp
  refine hK _ _ ((by first | exact hS2 _ _ | exact hS3 _ _)) ?_
  clear hK
  try simp only [nA, nB, nC, Act.put, nD, nE, nF]
  refine WA.tk (i := 11) (v := .bool false) rfl (hdrop 11 (by decide)) (Or.inl ⟨by rfl, ?_⟩) ((by first | exact hS2 _ _ | exact hS3 _ _)) ?_
  · rintro w' ⟨L, hL, hSw, hun⟩
    go_simp
  simp only [nA, nB, nC, Act.put, nD, nE, nF]
  refine WA.done (by kernel_rfl) ?_ _
  clear hS hS2 hS3 hbx hdrop
  refine Nrm.normal ?_
  have hB3 : Below W.heap.size W (W.alloc (.cells #[.int .i64 0] 3)).drew := ((Below.refl _ _).alloc (Nat.le_refl _) _).drew
  have n3 : (W.alloc (.cells #[.int .i64 0] 3)).drew.heap[W.heap.size]? = some (.cells #[.int .i64 0] 3 (0, 0)) := heap_alloc_new W _
  have z3 : (W.alloc (.cells #[.int .i64 0] 3)).drew.heap.size = W.heap.size + 1 := World.size_alloc _ _
  generalize hW3 : (W.alloc (.cells #[.int .i64 0] 3)).drew = W3 at *
  clear hW3
  rw [hx] at n3 z3
  have a3 := cell_later hB3 hX.c
  have hI3 := hW.below hB3
  have nc3 : W3.cell? ⟨w.heap.size + 2, 0, none⟩ = some (.int .i64 0) := by unfold World.cell?; rw [n3]; rfl
  have nf3 : W3.frozen? ⟨w.heap.size + 2, 0, none⟩ = false := by unfold World.frozen?; rw [n3]; rfl
  have c0 := hI3.c0
  have rr0 := cell_later hB3 hX.r0
  have rr1 := cell_later hB3 hX.r1
  have rr2 := cell_later hB3 hX.r2
  obtain ⟨l, hl⟩ : ∃ l, T.length = l := ⟨_, rfl⟩
  have hvl := hI3.rows.len Try.underlying39 3 W3
  rw [hl] at hvl
  have hll : l ≤ 1000000 := by omega
  go_wp2_with fail
  -- REGION 6
  have hB4 : Below w.heap.size w (W3.setCell ⟨w.heap.size + 2, 0, none⟩ (.int .i64 l)) := (hb0.trans (hB3.mono (by omega))).setCell (p := ⟨w.heap.size + 2, 0, none⟩) (by simp) _
  have n4 : (W3.setCell ⟨w.heap.size + 2, 0, none⟩ (.int .i64 l)).heap[w.heap.size + 2]? = some (.cells #[.int .i64 l] 3 (0, 0)) := heap_setCell_at n3 0 _
  have o4 : ∀ i, i ≠ w.heap.size + 2 → (W3.setCell ⟨w.heap.size + 2, 0, none⟩ (.int .i64 l)).heap[i]? = W3.heap[i]? := fun i hi => Below.heap_setCell W3 _ _ i hi
  have z4 : (W3.setCell ⟨w.heap.size + 2, 0, none⟩ (.int .i64 l)).heap.size = w.heap.size + 2 + 1 := by rw [World.size_setCell]; exact z3
  generalize hW4 : W3.setCell ⟨w.heap.size + 2, 0, none⟩ (.int .i64 l) = W4 at *
  clear hW4 hvl c0
  have cel : ∀ b j, b ≠ w.heap.size + 2 → W4.cell? ⟨b, j, none⟩ = W3.cell? ⟨b, j, none⟩ := fun b j hb => World.cell?_of_block (w := W3) (a := ⟨b, j, none⟩) (o4 b hb)
  have a4 := (cel w.heap.size 0 (by omega)).trans a3
  have q0 := (cel (w.heap.size + 1) 0 (by omega)).trans rr0
  have q1 := (cel (w.heap.size + 1) 1 (by omega)).trans rr1
  have q2 := (cel (w.heap.size + 1) 2 (by omega)).trans rr2
  have nc4 : W4.cell? ⟨w.heap.size + 2, 0, none⟩ = some (.int .i64 l) := by unfold World.cell?; rw [n4]; rfl
  clear cel rr0 rr1 rr2 nc3 nf3 n3 z3 o4 a3 hI3 hB3
  have hI4 := (hIs W4 hB4).out
  have hI4d := (hIs W4.drew hB4.drew).out
  have c24 := hI4.c2
  obtain ⟨W5, hrun, hm5, ht5⟩ := hI4d.find.put kysR Try.underlying77 hro (.int .i64 l)
  have hrun' : (Instr.mapUpdate 77 (.map (some D.bf)) (.agg #[.int .u32 x0, .int .u32 x1, .int .u32 x2]) (.int .i64 l)).run Try.prog W4.drew = .ok () W5 := hrun
  clear hrun
  obtain ⟨S6, hSe⟩ : ∃ S : Array Bool → World → Prop, S = fun L w' => (L.getD 6 true = false → w' = W4.drew) ∧ (L.getD 6 true = true → w' = W5) := ⟨_, rfl⟩
  have hdrop : ∀ i, i ≠ 6 → ∀ L w', S6 (L.setIfInBounds i true) w' → S6 L w' := by
    intro i hi L w'
    rw [hSe]
    intro h
    exact ⟨fun hl => h.1 (by rw [getD_set_ne true hi]; exact hl), fun hl => h.2 (by rw [getD_set_ne true hi]; exact hl)⟩
  have hph : ∀ L w', S6 L w' → L.getD 6 true = false → w' = W4.drew := by
    intro L w' h hl
    rw [hSe] at h; exact h.1 hl
  have hS : ∀ L, L.getD 6 true = false → S6 L W4.drew := by
    intro L hl
    rw [hSe]; exact ⟨fun _ => rfl, fun h => by rw [hl] at h; cases h⟩
  have hS5 : ∀ L, L.getD 6 true = true → S6 L W5 := by
    intro L hl
    rw [hSe]; exact ⟨fun h => (by rw [hl] at h; cases h), fun _ => rfl⟩
  clear hSe
  refine wp_region_LN S6 7 #[false, false, false, false, false, false, false] (by kernel_rfl) (by kernel_rfl) rfl ?_
  refine WA.tk (i := 0) (v := .pointer (some ⟨tb, 0, none⟩)) rfl (hdrop 0 (by decide)) (Or.inl ⟨by rfl, ?_⟩) (hS _ (by rfl)) ?_
  · rintro w' ⟨L, hL, hSw, hun⟩
    obtain rfl := hph _ _ hSw (hL.wait 6 0 (by kernel_rfl) hun)
    go_simp
  simp only [nA, nB, nC, Act.put, nD, nE, nF]
  refine WA.tk (i := 1) (v := .pointer (some ⟨tb, 0, none⟩)) rfl (hdrop 1 (by decide)) (Or.inl ⟨by rfl, ?_⟩) (hS _ (by rfl)) ?_
  · rintro w' ⟨L, hL, hSw, hun⟩
    go_simp
  simp only [nA, nB, nC, Act.put, nD, nE, nF]
  refine WA.tk (i := 2) (v := .pointer (some ⟨tb, 2, none⟩)) rfl (hdrop 2 (by decide)) (Or.inl ⟨by rfl, ?_⟩) (hS _ (by rfl)) ?_
  · rintro w' ⟨L, hL, hSw, hun⟩
    go_simp
  simp only [nA, nB, nC, Act.put, nD, nE, nF]
  refine WA.tk (i := 3) (v := .map (some D.bf)) rfl (hdrop 3 (by decide)) (Or.inl ⟨by rfl, ?_⟩) (hS _ (by rfl)) ?_
  · rintro w' ⟨L, hL, hSw, hun⟩
    obtain rfl := hph _ _ hSw (hL.wait 6 3 (by kernel_rfl) hun)
    go_simp
  simp only [nA, nB, nC, Act.put, nD, nE, nF]
  refine WA.tk (i := 4) (v := .agg #[.int .u32 x0, .int .u32 x1, .int .u32 x2]) rfl (hdrop 4 (by decide)) (Or.inl ⟨by rfl, ?_⟩) (hS _ (by rfl)) ?_
  · rintro w' ⟨L, hL, hSw, hun⟩
    obtain rfl := hph _ _ hSw (hL.wait 6 4 (by kernel_rfl) hun)
    go_simp
  simp only [nA, nB, nC, Act.put, nD, nE, nF]
  refine WA.tk (i := 5) (v := .int .i64 (l : Int)) rfl (hdrop 5 (by decide)) (Or.inl ⟨by rfl, ?_⟩) (hS _ (by rfl)) ?_
  · rintro w' ⟨L, hL, hSw, hun⟩
    obtain rfl := hph _ _ hSw (hL.wait 6 5 (by kernel_rfl) hun)
    go_simp
  simp only [nA, nB, nC, Act.put, nD, nE, nF]
  refine WA.one (i := 6) (by kernel_rfl) rfl (by rfl) (fun K hK => ?_)
  go_simp
  refine hK _ _ (hS5 _ (by rfl)) ?_
  clear hK
  try simp only [nA, nB, nC, Act.put, nD, nE, nF]
  refine WA.done (by kernel_rfl) ?_ _
  refine Nrm.normal ?_
  clear hS hS5 hph hdrop S6 S
  -- REGION 7
  have hI5 := Lib.hid (hI4d.turnF ht5 hm5)
  obtain ⟨⟨esf, csf, hbf⟩, o5⟩ := turned_heap ht5
  have hne5 : ∀ i cur e fz, W4.heap[i]? = some (.cells cur e fz) → i ≠ D.bf := fun i cur e fz hi e1 => by
    subst e1; rw [show W4.drew.heap = W4.heap from rfl, hi] at hbf; cases hbf
  have box4 : ∀ i, i < 3 → ∃ cur e fz, W4.heap[w.heap.size + i]? = some (.cells cur e fz) := by
    intro i hi
    have h1 : ∀ {a : Addr} {v : Value}, W4.cell? a = some v → ∃ cur e fz, W4.heap[a.block]? = some (.cells cur e fz) := by
      intro a v ha
      unfold World.cell? at ha
      cases ho : W4.heap[a.block]? with
      | none => rw [ho] at ha; cases ha
      | some o =>
        rw [ho] at ha
        cases o <;> first | exact ⟨_, _, _, rfl⟩ | cases ha
    have : i = 0 ∨ i = 1 ∨ i = 2 := by omega
    rcases this with rfl | rfl | rfl
    · exact h1 a4
    · exact h1 q0
    · exact h1 nc4
  have cel5 : ∀ i j, i < 3 → W5.cell? ⟨w.heap.size + i, j, none⟩ = W4.cell? ⟨w.heap.size + i, j, none⟩ := by
    intro i j hi
    obtain ⟨cur, e, fz, h1⟩ := box4 i hi
    exact World.cell?_of_block (w := W4) (a := ⟨w.heap.size + i, j, none⟩) (o5 _ (hne5 _ _ _ _ h1))
  have a5 := (cel5 0 0 (by omega)).trans a4
  have b0 := (cel5 1 0 (by omega)).trans q0
  have b1 := (cel5 1 1 (by omega)).trans q1
  have b2 := (cel5 1 2 (by omega)).trans q2
  have n5 := (cel5 2 0 (by omega)).trans nc4
  have F5 := Lib.hid ((Fr.of_below (Z := Y) hB4.drew).trans (Fr.turned ht5 ⟨0, hI4d.findW.1 0⟩ hI4d.findW.2))
  have z5 : W5.heap.size = w.heap.size + 2 + 1 := by
    obtain ⟨es, c, es', c', _, e5⟩ := ht5
    rw [e5]; simp [ChangeMaps.setBlock]; exact z4
  clear cel5 box4 hne5 hbf o5 hm5 ht5 hI4 hI4d c24 a4 q0 q1 q2 nc4 n4 z4 hB4
  go_wp2_with fail
  have F5' := F5
  go_cut [] from 44 to 62 (fun wx => ∃ vr vb, IsG Y wx tb (T ++ [((x0, x1, x2), 0)]) (upd (idxF T) (x0, x1, x2) (some (.int .i64 l))) (lst T) (live T) (cntF T) { D with vr := vr, vb := vb } ∧ Fr Y W5 wx ∧ w.heap.size + 3 ≤ wx.heap.size)
  case first =>
    obtain ⟨i0, hi0, hz0, hz1, hz2⟩ := info_parts Try.infoRow
    obtain ⟨i1, hi1, hw0, hw1, hw2⟩ := info_parts Try.infoBits
    have c50 := hI5.out.c0
    have c51 := hI5.out.c1
    simp only [Nat.add_zero] at a5
    -- what lay there lies there, but for the blocks of the rows and of the bits
    obtain ⟨S7, hSe⟩ : ∃ S : Array Bool → World → Prop, S = fun L w' => (∀ i, i < W5.heap.size → i ≠ tb → some i ≠ D.vr.ownBlock → some i ≠ D.vb.ownBlock → w'.heap[i]? = W5.heap[i]?) ∧ (L.getD 17 true = false → w'.cell? ⟨tb, 0, none⟩ = some D.vr) ∧ (L.getD 20 true = false → w'.cell? ⟨tb, 1, none⟩ = some D.vb) := ⟨_, rfl⟩
    have hIw := (hIs w (Below.refl _ w)).out
    have hob : ∀ i, w.heap.size ≤ i → i ≠ tb ∧ some i ≠ D.vr.ownBlock ∧ some i ≠ D.vb.ownBlock := by
      intro i hi
      have h1 := hIw.lt
      exact ⟨by omega, fun e => by have := (hIw.rows.lt i e.symm).1; omega, fun e => by have := (hIw.bits.lt i e.symm).1; omega⟩
    have hdrop : ∀ i, (i ≠ 17 ∧ i ≠ 20) → ∀ L w', S7 (L.setIfInBounds i true) w' → S7 L w' := by
      intro i hi L w'
      rw [hSe]
      rintro ⟨h1, h2, h3⟩
      exact ⟨h1, fun hl => h2 (by rw [getD_set_ne true hi.1]; exact hl), fun hl => h3 (by rw [getD_set_ne true hi.2]; exact hl)⟩
    have hS : ∀ L, S7 L W5.drew := by
      intro L
      rw [hSe]; exact ⟨fun _ _ _ _ _ => rfl, fun _ => c50, fun _ => c51⟩
    have hbx : ∀ L w', S7 L w' → w'.cell? ⟨w.heap.size, 0, none⟩ = some (.pointer (some ⟨tb, 0, none⟩)) ∧ w'.cell? ⟨w.heap.size + 1, 0, none⟩ = some (.int .u32 x0) ∧ w'.cell? ⟨w.heap.size + 1, 1, none⟩ = some (.int .u32 x1) ∧ w'.cell? ⟨w.heap.size + 1, 2, none⟩ = some (.int .u32 x2) := by
      intro L w' h
      rw [hSe] at h
      have hk : ∀ i, w.heap.size ≤ i → i < W5.heap.size → ∀ j, w'.cell? ⟨i, j, none⟩ = W5.cell? ⟨i, j, none⟩ := fun i h1 h2 j => World.cell?_of_block (w := W5) (a := ⟨i, j, none⟩) (h.1 i h2 (hob i h1).1 (hob i h1).2.1 (hob i h1).2.2)
      exact ⟨(hk _ (by omega) (by omega) 0).trans a5, (hk _ (by omega) (by omega) 0).trans b0, (hk _ (by omega) (by omega) 1).trans b1, (hk _ (by omega) (by omega) 2).trans b2⟩
    have ht0 : ∀ L w', S7 L w' → L.getD 17 true = false → w'.cell? ⟨tb, 0, none⟩ = some D.vr := by
      intro L w' h hl
      rw [hSe] at h; exact h.2.1 hl
    have ht1 : ∀ L w', S7 L w' → L.getD 20 true = false → w'.cell? ⟨tb, 1, none⟩ = some D.vb := by
      intro L w' h hl
      rw [hSe] at h; exact h.2.2 hl
    refine wp_region_LN S7 21 #[false, false, false, false, false, false, false, false, false, false, false, false, false, false, false, false, false, false, false, false, false] (by kernel_rfl) (by kernel_rfl) rfl ?_
    refine WA.tk (i := 0) (v := .pointer (some ⟨tb, 0, none⟩)) rfl (hdrop 0 (by decide)) (Or.inl ⟨by rfl, ?_⟩) (hS _) ?_
    · rintro w' ⟨L, hL, hSw, hun⟩
      obtain ⟨p1, p2, p3, p4⟩ := hbx _ _ hSw
      go_simp
    simp only [nA, nB, nC, Act.put, nD, nE, nF]
    refine WA.tk (i := 1) (v := .pointer (some ⟨tb, 0, none⟩)) rfl (hdrop 1 (by decide)) (Or.inl ⟨by rfl, ?_⟩) (hS _) ?_
    · rintro w' ⟨L, hL, hSw, hun⟩
      obtain ⟨p1, p2, p3, p4⟩ := hbx _ _ hSw
      go_simp
    simp only [nA, nB, nC, Act.put, nD, nE, nF]
    refine WA.tk (i := 2) (v := .pointer (some ⟨tb, 0, none⟩)) rfl (hdrop 2 (by decide)) (Or.inl ⟨by rfl, ?_⟩) (hS _) ?_
    · rintro w' ⟨L, hL, hSw, hun⟩
      obtain ⟨p1, p2, p3, p4⟩ := hbx _ _ hSw
      go_simp
    simp only [nA, nB, nC, Act.put, nD, nE, nF]
    refine WA.tk (i := 3) (v := .pointer (some ⟨tb, 0, none⟩)) rfl (hdrop 3 (by decide)) (Or.inl ⟨by rfl, ?_⟩) (hS _) ?_
    · rintro w' ⟨L, hL, hSw, hun⟩
      go_simp
    simp only [nA, nB, nC, Act.put, nD, nE, nF]
    refine WA.tk (i := 4) (v := .pointer (some ⟨tb, 0, none⟩)) rfl (hdrop 4 (by decide)) (Or.inl ⟨by rfl, ?_⟩) (hS _) ?_
    · rintro w' ⟨L, hL, hSw, hun⟩
      go_simp
    simp only [nA, nB, nC, Act.put, nD, nE, nF]
    refine WA.tk (i := 5) (v := D.vr) rfl (hdrop 5 (by decide)) (Or.inl ⟨by rfl, ?_⟩) (hS _) ?_
    · rintro w' ⟨L, hL, hSw, hun⟩
      have p1 := ht0 _ _ hSw (hL.wait 17 8 (by kernel_rfl) (hL.wait 8 5 (by kernel_rfl) hun))
      go_simp
    simp only [nA, nB, nC, Act.put, nD, nE, nF]
    refine WA.tk (i := 6) (v := .agg #[.int .u32 x0, .int .u32 x1, .int .u32 x2]) rfl (hdrop 6 (by decide)) (Or.inl ⟨by rfl, ?_⟩) (hS _) ?_
    · rintro w' ⟨L, hL, hSw, hun⟩
      obtain ⟨p1, p2, p3, p4⟩ := hbx _ _ hSw
      go_simp
    simp only [nA, nB, nC, Act.put, nD, nE, nF]
    refine WA.tk (i := 9) (v := .pointer (some ⟨tb, 0, none⟩)) rfl (hdrop 9 (by decide)) (Or.inl ⟨by rfl, ?_⟩) (hS _) ?_
    · rintro w' ⟨L, hL, hSw, hun⟩
      obtain ⟨p1, p2, p3, p4⟩ := hbx _ _ hSw
      go_simp
    simp only [nA, nB, nC, Act.put, nD, nE, nF]
    refine WA.tk (i := 10) (v := .pointer (some ⟨tb, 0, none⟩)) rfl (hdrop 10 (by decide)) (Or.inl ⟨by rfl, ?_⟩) (hS _) ?_
    · rintro w' ⟨L, hL, hSw, hun⟩
      go_simp
    simp only [nA, nB, nC, Act.put, nD, nE, nF]
    refine WA.tk (i := 11) (v := .pointer (some ⟨tb, 1, none⟩)) rfl (hdrop 11 (by decide)) (Or.inl ⟨by rfl, ?_⟩) (hS _) ?_
    · rintro w' ⟨L, hL, hSw, hun⟩
      go_simp
    simp only [nA, nB, nC, Act.put, nD, nE, nF]
    refine WA.tk (i := 12) (v := D.vb) rfl (hdrop 12 (by decide)) (Or.inl ⟨by rfl, ?_⟩) (hS _) ?_
    · rintro w' ⟨L, hL, hSw, hun⟩
      have p1 := ht1 _ _ hSw (hL.wait 20 14 (by kernel_rfl) (hL.wait 14 12 (by kernel_rfl) hun))
      go_simp
    simp only [nA, nB, nC, Act.put, nD, nE, nF]
    have htb : some tb ≠ D.vr.ownBlock ∧ some tb ≠ D.vb.ownBlock := by
      refine ⟨fun e => ?_, fun e => ?_⟩
      · obtain ⟨_, c, z, hg⟩ := hI5.out.rows.lt tb e.symm
        rw [hI5.out.obj] at hg; injection hg with hg; injection hg with _ hg; revert hg; decide
      · obtain ⟨_, c, z, hg⟩ := hI5.out.bits.lt tb e.symm
        rw [hI5.out.obj] at hg; injection hg with hg; injection hg with _ hg; revert hg; decide
    have hSa : ∀ (L : Array Bool) (X : World), (∀ i, i < W5.heap.size → X.heap[i]? = W5.heap[i]?) → W5.heap.size ≤ X.heap.size → S7 L X := by
      intro L X h1 h2
      rw [hSe]
      refine ⟨fun i hi _ _ _ => h1 i hi, fun _ => ?_, fun _ => ?_⟩
      · exact (World.cell?_of_block (w := W5) (a := ⟨tb, 0, none⟩) (h1 tb hI5.out.lt)).trans c50
      · exact (World.cell?_of_block (w := W5) (a := ⟨tb, 1, none⟩) (h1 tb hI5.out.lt)).trans c51
    have hSb : ∀ (L : Array Bool) (X : World), (∀ i, i < W5.heap.size → some i ≠ D.vr.ownBlock → some i ≠ D.vb.ownBlock → X.heap[i]? = W5.heap[i]?) → S7 L X := by
      intro L X h1
      rw [hSe]
      have h2 := h1 tb hI5.out.lt htb.1 htb.2
      exact ⟨fun i hi _ h3 h4 => h1 i hi h3 h4, fun _ => (World.cell?_of_block (w := W5) (a := ⟨tb, 0, none⟩) h2).trans c50, fun _ => (World.cell?_of_block (w := W5) (a := ⟨tb, 1, none⟩) h2).trans c51⟩
    have hSc : ∀ (L : Array Bool) (X : World), (∀ i, i < W5.heap.size → i ≠ tb → some i ≠ D.vr.ownBlock → some i ≠ D.vb.ownBlock → X.heap[i]? = W5.heap[i]?) → L.getD 17 true = true → (L.getD 20 true = false → X.cell? ⟨tb, 1, none⟩ = some D.vb) → S7 L X := by
      intro L X h1 hl h2
      rw [hSe]
      exact ⟨h1, fun h => (by rw [hl] at h; cases h), h2⟩
    have hnn : ∀ z ∈ T, z.1 ≠ (x0, x1, x2) := idx_none hn
    have hyok : yok ((x0, x1, x2), 0) := by
      have h0 : x0 ≠ 0 ∧ x1 ≠ 0 ∧ x2 ≠ 0 := by
        simp only [has3, Bool.or_eq_false_iff, beq_eq_false_iff_ne] at hr
        exact ⟨Ne.symm hr.1.1, Ne.symm hr.1.2, Ne.symm hr.2⟩
      exact ⟨hro, h0.1, h0.2.1, h0.2.2, by unfold is8; omega⟩
    have f50 := hI5.out.frozen 0
    have f51 := hI5.out.frozen 1
    have Z5 := Lib.hid z5
    have Hyok := Lib.hid hyok; have Hnn := Lib.hid hnn
    clear hSe ht0 ht1 hbx hob hIw z5 hyok hnn
    have hne : ∀ g, D.vb.ownBlock = some g → D.vb.ownBlock ≠ D.vr.ownBlock := by
      intro g hg e
      obtain ⟨_, c, z, h1⟩ := hI5.out.bits.lt g hg
      obtain ⟨_, c', z', h2⟩ := hI5.out.rows.lt g (by rw [← e]; exact hg)
      rw [h1] at h2; injection h2 with h2; injection h2 with _ h2; revert h2; decide
    have hge : ∀ i, W5.heap.size ≤ i → some i ≠ D.vr.ownBlock := fun i hi e => by have := (hI5.out.rows.lt i e.symm).1; omega
    refine WA.all (rs := [7, 13]) (by kernel_rfl) (by simp) ?_
    intro i hi
    rcases (show i = 7 ∨ i = 13 by simpa using hi) with rfl | rfl
    · -- 7 first
      refine wpOp_go rfl (by rfl) (fun K hK => ?_)
      go_simp
      have hBX0 : Below W5.heap.size W5 (W5.alloc (.cells #[.int .u32 x0, .int .u32 x1, .int .u32 x2] 37)).drew := ((Below.refl _ _).alloc (Nat.le_refl _) _).drew
      have nX0 : (W5.alloc (.cells #[.int .u32 x0, .int .u32 x1, .int .u32 x2] 37)).drew.heap[W5.heap.size]? = some (.cells #[.int .u32 x0, .int .u32 x1, .int .u32 x2] 37 (0, 0)) := heap_alloc_new W5 _
      have zX0 : (W5.alloc (.cells #[.int .u32 x0, .int .u32 x1, .int .u32 x2] 37)).drew.heap.size = W5.heap.size + 1 := World.size_alloc _ _
      generalize (W5.alloc (.cells #[.int .u32 x0, .int .u32 x1, .int .u32 x2] 37)).drew = X0 at *
      have ZX0 := Lib.hid zX0
      clear zX0
      refine hK _ _ ⟨hSa _ X0 (fun i hi => hBX0.block i hi) hBX0.size, ?_⟩
      clear hK
      try simp only [nA, nB, nC, Act.put, nD, nE, nF]
      refine WA.all (rs := [8, 13]) (by kernel_rfl) (by simp) ?_
      intro i hi
      rcases (show i = 8 ∨ i = 13 by simpa using hi) with rfl | rfl
      · -- 7, 8, 13
        have hB7 := hBX0
        have nrow := nX0
        refine wpOp_go rfl (by rfl) (fun K hK => ?_)
        refine wp_append_Sl (.tmp 49) (.tmp 51) 39 (by rfl) (by rfl) (hI5.out.rows.below hB7) (hYo.mono (by have := Z5.out; have := hB7.size; omega)) i0 _ 12 Try.underlying39 hi0 hz0 hz1 hz2 rfl (by decide) ⟨W5.heap.size, 0, none⟩ 1 1 [.int .u32 x0, .int .u32 x1, .int .u32 x2] (by rfl) rfl (cells_blk nrow) (by simp [Value.oneCell']) (by decide) (by unfold maxLen; omega) (by omega) ?_
        intro vr X2 r1 r2 r3 r4
        obtain ⟨g1, cap1, rfl⟩ := r1.succ (by decide)
        refine hK _ _ ⟨hSb _ X2 (fun i hi h1 h2 => (r3.block i (Nat.lt_of_lt_of_le hi hB7.size) h1).trans (hB7.block i hi)), ?_⟩
        clear hK
        try simp only [nA, nB, nC, Act.put, nD, nE, nF]
        refine WA.all (rs := [13]) (by kernel_rfl) (by simp) ?_
        intro i hi
        obtain rfl : i = 13 := by simpa using hi
        refine wpOp_go rfl (by rfl) (fun K hK => ?_)
        go_simp
        have hBY2 : Below X2.heap.size X2 (X2.alloc (.cells #[.int .u8 0] 56)) := ((Below.refl _ _).alloc (Nat.le_refl _) _)
        have nY2 : (X2.alloc (.cells #[.int .u8 0] 56)).heap[X2.heap.size]? = some (.cells #[.int .u8 0] 56 (0, 0)) := heap_alloc_new X2 _
        have zY2 : (X2.alloc (.cells #[.int .u8 0] 56)).heap.size = X2.heap.size + 1 := World.size_alloc _ _
        generalize (X2.alloc (.cells #[.int .u8 0] 56)) = Y2 at *
        have ZY2 := Lib.hid zY2
        clear zY2
        have hBY := hBY2
        have nbits := nY2
        refine hK _ _ ⟨hSb _ Y2 (fun i hi h1 h2 => (hBY.block i (Nat.lt_of_lt_of_le hi (Nat.le_trans hB7.size r3.size))).trans ((r3.block i (Nat.lt_of_lt_of_le hi hB7.size) h1).trans (hB7.block i hi))), ?_⟩
        clear hK
        try simp only [nA, nB, nC, Act.put, nD, nE, nF]
        refine WA.all (rs := [14]) (by kernel_rfl) (by simp) ?_
        intro i hi
        obtain rfl : i = 14 := by simpa using hi
        have sb : Sl Y Y2 56 1 D.vb T.length (bcs T) := ((hI5.out.bits.below hB7).stayB (fun g hg => r3.block g (Nat.lt_of_lt_of_le (hI5.out.bits.lt g hg).1 hB7.size) (by rw [← hg]; exact hne g hg))).below hBY
        refine wpOp_go rfl (by rfl) (fun K hK => ?_)
        refine wp_append_Sl (.tmp 56) (.tmp 57) 48 (by rfl) (by rfl) sb (hYo.mono (by have := Z5.out; have := hB7.size; have := r3.size; have := hBY.size; omega)) i1 _ 1 Try.underlying48 hi1 hw0 hw1 hw2 rfl (by decide) ⟨X2.heap.size, 0, none⟩ 1 1 [.int .u8 0] (by rfl) rfl (cells_blk nbits) (by simp [Value.oneCell']) (by decide) (by unfold maxLen; omega) (by omega) ?_
        intro vb X3 b1 b2 b3 b4
        obtain ⟨g2, cap2, rfl⟩ := b1.succ (by decide)
        have k3 : ∀ i, i < W5.heap.size → some i ≠ D.vr.ownBlock → some i ≠ D.vb.ownBlock → X3.heap[i]? = W5.heap[i]? := by
          intro i hi h1 h2
          have s1 := hB7.size; have s2 := r3.size; have s3 := hBY.size
          exact (b3.block i (by omega) h2).trans ((hBY.block i (by omega)).trans ((r3.block i (by omega) h1).trans (hB7.block i hi)))
        have c30 := (World.cell?_of_block (w := W5) (a := ⟨tb, 0, none⟩) (k3 tb hI5.out.lt htb.1 htb.2)).trans c50
        have c31 := (World.cell?_of_block (w := W5) (a := ⟨tb, 1, none⟩) (k3 tb hI5.out.lt htb.1 htb.2)).trans c51
        have f30 := (World.frozen?_of_block (w := W5) (a := ⟨tb, 0, none⟩) (k3 tb hI5.out.lt htb.1 htb.2)).trans f50
        have f31 := (World.frozen?_of_block (w := W5) (a := ⟨tb, 1, none⟩) (k3 tb hI5.out.lt htb.1 htb.2)).trans f51
        refine hK _ _ ⟨hSb _ X3 k3, ?_⟩
        clear hK
        try simp only [nA, nB, nC, Act.put, nD, nE, nF]
        refine WA.tk (i := 15) (v := .pointer (some ⟨tb, 0, none⟩)) rfl (hdrop 15 (by decide)) (Or.inl ⟨by rfl, ?_⟩) (hSb _ X3 k3) ?_
        · rintro w' ⟨L, hL, hSw, hun⟩
          go_simp
        simp only [nA, nB, nC, Act.put, nD, nE, nF]
        refine WA.tk (i := 16) (v := .pointer (some ⟨tb, 0, none⟩)) rfl (hdrop 16 (by decide)) (Or.inl ⟨by rfl, ?_⟩) (hSb _ X3 k3) ?_
        · rintro w' ⟨L, hL, hSw, hun⟩
          go_simp
        simp only [nA, nB, nC, Act.put, nD, nE, nF]
        have hend := push_end hI5.out ((x0, x1, x2), 0) Hyok.out Hnn.out (by omega) hB7 (hYo.mono (by have := Z5.out; have := hB7.size; omega)) r1 r2 r3 r4 hBY b1 b2 b3 b4
        have hsz : w.heap.size + 3 ≤ X3.heap.size := by
          have := Z5.out; have := hB7.size; have := r3.size; have := hBY.size; have := b3.size
          omega
        have hend := Lib.hid hend
        clear r1 r2 r3 r4 b1 b2 b3 b4
        rw [hl] at hend
        refine WA.one (i := 17) (by kernel_rfl) rfl (by rfl) (fun K hK => ?_)
        go_simp
        have k4 : ∀ i, i < W5.heap.size → i ≠ tb → some i ≠ D.vr.ownBlock → some i ≠ D.vb.ownBlock → (X3.setCell ⟨tb, 0, none⟩ (.slice (some ⟨g1, 0, none⟩) (l + 1) cap1)).heap[i]? = W5.heap[i]? := fun i h1 h2 h3 h4 => (Below.heap_setCell _ _ _ i h2).trans (k3 i h1 h3 h4)
        have c41 : (X3.setCell ⟨tb, 0, none⟩ (.slice (some ⟨g1, 0, none⟩) (l + 1) cap1)).cell? ⟨tb, 1, none⟩ = some D.vb := by
          exact (World.cell?_setCell_other (w := X3) (a := ⟨tb, 0, none⟩) (b := ⟨tb, 1, none⟩) _ (by simp)).trans c31
        have f41 : (X3.setCell ⟨tb, 0, none⟩ (.slice (some ⟨g1, 0, none⟩) (l + 1) cap1)).frozen? ⟨tb, 1, none⟩ = false := by
          rw [World.frozen?_setCell]; exact f31
        refine hK _ _ (hSc _ _ k4 (by rfl) (fun _ => c41)) ?_
        clear hK
        try simp only [nA, nB, nC, Act.put, nD, nE, nF]
        refine WA.tk (i := 18) (v := .pointer (some ⟨tb, 0, none⟩)) rfl (hdrop 18 (by decide)) (Or.inl ⟨by rfl, ?_⟩) (hSc _ _ k4 (by rfl) (fun _ => c41)) ?_
        · rintro w' ⟨L, hL, hSw, hun⟩
          go_simp
        simp only [nA, nB, nC, Act.put, nD, nE, nF]
        refine WA.tk (i := 19) (v := .pointer (some ⟨tb, 1, none⟩)) rfl (hdrop 19 (by decide)) (Or.inl ⟨by rfl, ?_⟩) (hSc _ _ k4 (by rfl) (fun _ => c41)) ?_
        · rintro w' ⟨L, hL, hSw, hun⟩
          go_simp
        simp only [nA, nB, nC, Act.put, nD, nE, nF]
        have hsz4 : w.heap.size + 3 ≤ (X3.setCell ⟨tb, 0, none⟩ (.slice (some ⟨g1, 0, none⟩) (l + 1) cap1)).heap.size := by rw [World.size_setCell]; exact hsz
        generalize X3.setCell ⟨tb, 0, none⟩ (.slice (some ⟨g1, 0, none⟩) (l + 1) cap1) = X4 at *
        refine WA.one (i := 20) (by kernel_rfl) rfl (by rfl) (fun K hK => ?_)
        go_simp
        have k5 : ∀ i, i < W5.heap.size → i ≠ tb → some i ≠ D.vr.ownBlock → some i ≠ D.vb.ownBlock → (X4.setCell ⟨tb, 1, none⟩ (.slice (some ⟨g2, 0, none⟩) (l + 1) cap2)).heap[i]? = W5.heap[i]? := fun i h1 h2 h3 h4 => (Below.heap_setCell _ _ _ i h2).trans (k4 i h1 h2 h3 h4)
        refine hK _ _ (hSc _ _ k5 (by rfl) (fun h => by cases h)) ?_
        clear hK
        refine WA.done (by kernel_rfl) ?_ _
        refine Nrm.normal ?_
        go_step
        go_step
        go_meet
        exact ⟨_, _, hend.out.1, hend.out.2, by rw [World.size_setCell]; exact hsz4⟩
      · -- 7, 13, 8
        refine wpOp_go rfl (by rfl) (fun K hK => ?_)
        go_simp
        have hBX : Below X0.heap.size X0 (X0.alloc (.cells #[.int .u8 0] 56)) := ((Below.refl _ _).alloc (Nat.le_refl _) _)
        have nX : (X0.alloc (.cells #[.int .u8 0] 56)).heap[X0.heap.size]? = some (.cells #[.int .u8 0] 56 (0, 0)) := heap_alloc_new X0 _
        have zX : (X0.alloc (.cells #[.int .u8 0] 56)).heap.size = X0.heap.size + 1 := World.size_alloc _ _
        generalize (X0.alloc (.cells #[.int .u8 0] 56)) = X at *
        have ZX := Lib.hid zX
        clear zX
        have hB7 : Below W5.heap.size W5 X := hBX0.trans (hBX.mono hBX0.size)
        have nfst := (hBX.block W5.heap.size (by have := ZX0.out; omega)).trans nX0
        have nrow := nfst
        have nb := nX
        refine hK _ _ ⟨hSa _ X (fun i hi => hB7.block i hi) hB7.size, ?_⟩
        clear hK
        try simp only [nA, nB, nC, Act.put, nD, nE, nF]
        refine WA.all (rs := [8]) (by kernel_rfl) (by simp) ?_
        intro i hi
        obtain rfl : i = 8 := by simpa using hi
        refine wpOp_go rfl (by rfl) (fun K hK => ?_)
        refine wp_append_Sl (.tmp 49) (.tmp 51) 39 (by rfl) (by rfl) (hI5.out.rows.below hB7) (hYo.mono (by have := Z5.out; have := hB7.size; omega)) i0 _ 12 Try.underlying39 hi0 hz0 hz1 hz2 rfl (by decide) ⟨W5.heap.size, 0, none⟩ 1 1 [.int .u32 x0, .int .u32 x1, .int .u32 x2] (by rfl) rfl (cells_blk nrow) (by simp [Value.oneCell']) (by decide) (by unfold maxLen; omega) (by omega) ?_
        intro vr X2 r1 r2 r3 r4
        obtain ⟨g1, cap1, rfl⟩ := r1.succ (by decide)
        have hBY : Below X2.heap.size X2 X2 := Below.refl _ _
        have nbits := (r3.block X0.heap.size (by have := ZX0.out; have := ZX.out; omega) (hge _ (by have := ZX0.out; omega))).trans nb
        refine hK _ _ ⟨hSb _ X2 (fun i hi h1 h2 => (r3.block i (Nat.lt_of_lt_of_le hi hB7.size) h1).trans (hB7.block i hi)), ?_⟩
        clear hK
        try simp only [nA, nB, nC, Act.put, nD, nE, nF]
        refine WA.all (rs := [14]) (by kernel_rfl) (by simp) ?_
        intro i hi
        obtain rfl : i = 14 := by simpa using hi
        have sb : Sl Y X2 56 1 D.vb T.length (bcs T) := ((hI5.out.bits.below hB7).stayB (fun g hg => r3.block g (Nat.lt_of_lt_of_le (hI5.out.bits.lt g hg).1 hB7.size) (by rw [← hg]; exact hne g hg))).below hBY
        refine wpOp_go rfl (by rfl) (fun K hK => ?_)
        refine wp_append_Sl (.tmp 56) (.tmp 57) 48 (by rfl) (by rfl) sb (hYo.mono (by have := Z5.out; have := hB7.size; have := r3.size; have := hBY.size; omega)) i1 _ 1 Try.underlying48 hi1 hw0 hw1 hw2 rfl (by decide) ⟨X0.heap.size, 0, none⟩ 1 1 [.int .u8 0] (by rfl) rfl (cells_blk nbits) (by simp [Value.oneCell']) (by decide) (by unfold maxLen; omega) (by omega) ?_
        intro vb X3 b1 b2 b3 b4
        obtain ⟨g2, cap2, rfl⟩ := b1.succ (by decide)
        have k3 : ∀ i, i < W5.heap.size → some i ≠ D.vr.ownBlock → some i ≠ D.vb.ownBlock → X3.heap[i]? = W5.heap[i]? := by
          intro i hi h1 h2
          have s1 := hB7.size; have s2 := r3.size; have s3 := hBY.size
          exact (b3.block i (by omega) h2).trans ((hBY.block i (by omega)).trans ((r3.block i (by omega) h1).trans (hB7.block i hi)))
        have c30 := (World.cell?_of_block (w := W5) (a := ⟨tb, 0, none⟩) (k3 tb hI5.out.lt htb.1 htb.2)).trans c50
        have c31 := (World.cell?_of_block (w := W5) (a := ⟨tb, 1, none⟩) (k3 tb hI5.out.lt htb.1 htb.2)).trans c51
        have f30 := (World.frozen?_of_block (w := W5) (a := ⟨tb, 0, none⟩) (k3 tb hI5.out.lt htb.1 htb.2)).trans f50
        have f31 := (World.frozen?_of_block (w := W5) (a := ⟨tb, 1, none⟩) (k3 tb hI5.out.lt htb.1 htb.2)).trans f51
        refine hK _ _ ⟨hSb _ X3 k3, ?_⟩
        clear hK
        try simp only [nA, nB, nC, Act.put, nD, nE, nF]
        refine WA.tk (i := 15) (v := .pointer (some ⟨tb, 0, none⟩)) rfl (hdrop 15 (by decide)) (Or.inl ⟨by rfl, ?_⟩) (hSb _ X3 k3) ?_
        · rintro w' ⟨L, hL, hSw, hun⟩
          go_simp
        simp only [nA, nB, nC, Act.put, nD, nE, nF]
        refine WA.tk (i := 16) (v := .pointer (some ⟨tb, 0, none⟩)) rfl (hdrop 16 (by decide)) (Or.inl ⟨by rfl, ?_⟩) (hSb _ X3 k3) ?_
        · rintro w' ⟨L, hL, hSw, hun⟩
          go_simp
        simp only [nA, nB, nC, Act.put, nD, nE, nF]
        have hend := push_end hI5.out ((x0, x1, x2), 0) Hyok.out Hnn.out (by omega) hB7 (hYo.mono (by have := Z5.out; have := hB7.size; omega)) r1 r2 r3 r4 hBY b1 b2 b3 b4
        have hsz : w.heap.size + 3 ≤ X3.heap.size := by
          have := Z5.out; have := hB7.size; have := r3.size; have := hBY.size; have := b3.size
          omega
        have hend := Lib.hid hend
        clear r1 r2 r3 r4 b1 b2 b3 b4
        rw [hl] at hend
        refine WA.one (i := 17) (by kernel_rfl) rfl (by rfl) (fun K hK => ?_)
        go_simp
        have k4 : ∀ i, i < W5.heap.size → i ≠ tb → some i ≠ D.vr.ownBlock → some i ≠ D.vb.ownBlock → (X3.setCell ⟨tb, 0, none⟩ (.slice (some ⟨g1, 0, none⟩) (l + 1) cap1)).heap[i]? = W5.heap[i]? := fun i h1 h2 h3 h4 => (Below.heap_setCell _ _ _ i h2).trans (k3 i h1 h3 h4)
        have c41 : (X3.setCell ⟨tb, 0, none⟩ (.slice (some ⟨g1, 0, none⟩) (l + 1) cap1)).cell? ⟨tb, 1, none⟩ = some D.vb := by
          exact (World.cell?_setCell_other (w := X3) (a := ⟨tb, 0, none⟩) (b := ⟨tb, 1, none⟩) _ (by simp)).trans c31
        have f41 : (X3.setCell ⟨tb, 0, none⟩ (.slice (some ⟨g1, 0, none⟩) (l + 1) cap1)).frozen? ⟨tb, 1, none⟩ = false := by
          rw [World.frozen?_setCell]; exact f31
        refine hK _ _ (hSc _ _ k4 (by rfl) (fun _ => c41)) ?_
        clear hK
        try simp only [nA, nB, nC, Act.put, nD, nE, nF]
        refine WA.tk (i := 18) (v := .pointer (some ⟨tb, 0, none⟩)) rfl (hdrop 18 (by decide)) (Or.inl ⟨by rfl, ?_⟩) (hSc _ _ k4 (by rfl) (fun _ => c41)) ?_
        · rintro w' ⟨L, hL, hSw, hun⟩
          go_simp
        simp only [nA, nB, nC, Act.put, nD, nE, nF]
        refine WA.tk (i := 19) (v := .pointer (some ⟨tb, 1, none⟩)) rfl (hdrop 19 (by decide)) (Or.inl ⟨by rfl, ?_⟩) (hSc _ _ k4 (by rfl) (fun _ => c41)) ?_
        · rintro w' ⟨L, hL, hSw, hun⟩
          go_simp
        simp only [nA, nB, nC, Act.put, nD, nE, nF]
        have hsz4 : w.heap.size + 3 ≤ (X3.setCell ⟨tb, 0, none⟩ (.slice (some ⟨g1, 0, none⟩) (l + 1) cap1)).heap.size := by rw [World.size_setCell]; exact hsz
        generalize X3.setCell ⟨tb, 0, none⟩ (.slice (some ⟨g1, 0, none⟩) (l + 1) cap1) = X4 at *
        refine WA.one (i := 20) (by kernel_rfl) rfl (by rfl) (fun K hK => ?_)
        go_simp
        have k5 : ∀ i, i < W5.heap.size → i ≠ tb → some i ≠ D.vr.ownBlock → some i ≠ D.vb.ownBlock → (X4.setCell ⟨tb, 1, none⟩ (.slice (some ⟨g2, 0, none⟩) (l + 1) cap2)).heap[i]? = W5.heap[i]? := fun i h1 h2 h3 h4 => (Below.heap_setCell _ _ _ i h2).trans (k4 i h1 h2 h3 h4)
        refine hK _ _ (hSc _ _ k5 (by rfl) (fun h => by cases h)) ?_
        clear hK
        refine WA.done (by kernel_rfl) ?_ _
        refine Nrm.normal ?_
        go_step
        go_step
        go_meet
        exact ⟨_, _, hend.out.1, hend.out.2, by rw [World.size_setCell]; exact hsz4⟩
    · -- 13, 7, 8
      refine wpOp_go rfl (by rfl) (fun K hK => ?_)
      go_simp
      have hBX0 : Below W5.heap.size W5 (W5.alloc (.cells #[.int .u8 0] 56)).drew := ((Below.refl _ _).alloc (Nat.le_refl _) _).drew
      have nX0 : (W5.alloc (.cells #[.int .u8 0] 56)).drew.heap[W5.heap.size]? = some (.cells #[.int .u8 0] 56 (0, 0)) := heap_alloc_new W5 _
      have zX0 : (W5.alloc (.cells #[.int .u8 0] 56)).drew.heap.size = W5.heap.size + 1 := World.size_alloc _ _
      generalize (W5.alloc (.cells #[.int .u8 0] 56)).drew = X0 at *
      have ZX0 := Lib.hid zX0
      clear zX0
      refine hK _ _ ⟨hSa _ X0 (fun i hi => hBX0.block i hi) hBX0.size, ?_⟩
      clear hK
      try simp only [nA, nB, nC, Act.put, nD, nE, nF]
      refine WA.all (rs := [7]) (by kernel_rfl) (by simp) ?_
      intro i hi
      obtain rfl : i = 7 := by simpa using hi
      refine wpOp_go rfl (by rfl) (fun K hK => ?_)
      go_simp
      have hBX : Below X0.heap.size X0 (X0.alloc (.cells #[.int .u32 x0, .int .u32 x1, .int .u32 x2] 37)) := ((Below.refl _ _).alloc (Nat.le_refl _) _)
      have nX : (X0.alloc (.cells #[.int .u32 x0, .int .u32 x1, .int .u32 x2] 37)).heap[X0.heap.size]? = some (.cells #[.int .u32 x0, .int .u32 x1, .int .u32 x2] 37 (0, 0)) := heap_alloc_new X0 _
      have zX : (X0.alloc (.cells #[.int .u32 x0, .int .u32 x1, .int .u32 x2] 37)).heap.size = X0.heap.size + 1 := World.size_alloc _ _
      generalize (X0.alloc (.cells #[.int .u32 x0, .int .u32 x1, .int .u32 x2] 37)) = X at *
      have ZX := Lib.hid zX
      clear zX
      have hB7 : Below W5.heap.size W5 X := hBX0.trans (hBX.mono hBX0.size)
      have nfst := (hBX.block W5.heap.size (by have := ZX0.out; omega)).trans nX0
      have nrow := nX
      have nb := nfst
      refine hK _ _ ⟨hSa _ X (fun i hi => hB7.block i hi) hB7.size, ?_⟩
      clear hK
      try simp only [nA, nB, nC, Act.put, nD, nE, nF]
      refine WA.all (rs := [8]) (by kernel_rfl) (by simp) ?_
      intro i hi
      obtain rfl : i = 8 := by simpa using hi
      refine wpOp_go rfl (by rfl) (fun K hK => ?_)
      refine wp_append_Sl (.tmp 49) (.tmp 51) 39 (by rfl) (by rfl) (hI5.out.rows.below hB7) (hYo.mono (by have := Z5.out; have := hB7.size; omega)) i0 _ 12 Try.underlying39 hi0 hz0 hz1 hz2 rfl (by decide) ⟨X0.heap.size, 0, none⟩ 1 1 [.int .u32 x0, .int .u32 x1, .int .u32 x2] (by rfl) rfl (cells_blk nrow) (by simp [Value.oneCell']) (by decide) (by unfold maxLen; omega) (by omega) ?_
      intro vr X2 r1 r2 r3 r4
      obtain ⟨g1, cap1, rfl⟩ := r1.succ (by decide)
      have hBY : Below X2.heap.size X2 X2 := Below.refl _ _
      have nbits := (r3.block W5.heap.size (by have := ZX0.out; have := ZX.out; omega) (hge _ (by have := ZX0.out; omega))).trans nb
      refine hK _ _ ⟨hSb _ X2 (fun i hi h1 h2 => (r3.block i (Nat.lt_of_lt_of_le hi hB7.size) h1).trans (hB7.block i hi)), ?_⟩
      clear hK
      try simp only [nA, nB, nC, Act.put, nD, nE, nF]
      refine WA.all (rs := [14]) (by kernel_rfl) (by simp) ?_
      intro i hi
      obtain rfl : i = 14 := by simpa using hi
      have sb : Sl Y X2 56 1 D.vb T.length (bcs T) := ((hI5.out.bits.below hB7).stayB (fun g hg => r3.block g (Nat.lt_of_lt_of_le (hI5.out.bits.lt g hg).1 hB7.size) (by rw [← hg]; exact hne g hg))).below hBY
      refine wpOp_go rfl (by rfl) (fun K hK => ?_)
      refine wp_append_Sl (.tmp 56) (.tmp 57) 48 (by rfl) (by rfl) sb (hYo.mono (by have := Z5.out; have := hB7.size; have := r3.size; have := hBY.size; omega)) i1 _ 1 Try.underlying48 hi1 hw0 hw1 hw2 rfl (by decide) ⟨W5.heap.size, 0, none⟩ 1 1 [.int .u8 0] (by rfl) rfl (cells_blk nbits) (by simp [Value.oneCell']) (by decide) (by unfold maxLen; omega) (by omega) ?_
      intro vb X3 b1 b2 b3 b4
      obtain ⟨g2, cap2, rfl⟩ := b1.succ (by decide)
      have k3 : ∀ i, i < W5.heap.size → some i ≠ D.vr.ownBlock → some i ≠ D.vb.ownBlock → X3.heap[i]? = W5.heap[i]? := by
        intro i hi h1 h2
        have s1 := hB7.size; have s2 := r3.size; have s3 := hBY.size
        exact (b3.block i (by omega) h2).trans ((hBY.block i (by omega)).trans ((r3.block i (by omega) h1).trans (hB7.block i hi)))
      have c30 := (World.cell?_of_block (w := W5) (a := ⟨tb, 0, none⟩) (k3 tb hI5.out.lt htb.1 htb.2)).trans c50
      have c31 := (World.cell?_of_block (w := W5) (a := ⟨tb, 1, none⟩) (k3 tb hI5.out.lt htb.1 htb.2)).trans c51
      have f30 := (World.frozen?_of_block (w := W5) (a := ⟨tb, 0, none⟩) (k3 tb hI5.out.lt htb.1 htb.2)).trans f50
      have f31 := (World.frozen?_of_block (w := W5) (a := ⟨tb, 1, none⟩) (k3 tb hI5.out.lt htb.1 htb.2)).trans f51
      refine hK _ _ ⟨hSb _ X3 k3, ?_⟩
      clear hK
      try simp only [nA, nB, nC, Act.put, nD, nE, nF]
      refine WA.tk (i := 15) (v := .pointer (some ⟨tb, 0, none⟩)) rfl (hdrop 15 (by decide)) (Or.inl ⟨by rfl, ?_⟩) (hSb _ X3 k3) ?_
      · rintro w' ⟨L, hL, hSw, hun⟩
        go_simp
      simp only [nA, nB, nC, Act.put, nD, nE, nF]
      refine WA.tk (i := 16) (v := .pointer (some ⟨tb, 0, none⟩)) rfl (hdrop 16 (by decide)) (Or.inl ⟨by rfl, ?_⟩) (hSb _ X3 k3) ?_
      · rintro w' ⟨L, hL, hSw, hun⟩
        go_simp
      simp only [nA, nB, nC, Act.put, nD, nE, nF]
      have hend := push_end hI5.out ((x0, x1, x2), 0) Hyok.out Hnn.out (by omega) hB7 (hYo.mono (by have := Z5.out; have := hB7.size; omega)) r1 r2 r3 r4 hBY b1 b2 b3 b4
      have hsz : w.heap.size + 3 ≤ X3.heap.size := by
        have := Z5.out; have := hB7.size; have := r3.size; have := hBY.size; have := b3.size
        omega
      have hend := Lib.hid hend
      clear r1 r2 r3 r4 b1 b2 b3 b4
      rw [hl] at hend
      refine WA.one (i := 17) (by kernel_rfl) rfl (by rfl) (fun K hK => ?_)
      go_simp
      have k4 : ∀ i, i < W5.heap.size → i ≠ tb → some i ≠ D.vr.ownBlock → some i ≠ D.vb.ownBlock → (X3.setCell ⟨tb, 0, none⟩ (.slice (some ⟨g1, 0, none⟩) (l + 1) cap1)).heap[i]? = W5.heap[i]? := fun i h1 h2 h3 h4 => (Below.heap_setCell _ _ _ i h2).trans (k3 i h1 h3 h4)
      have c41 : (X3.setCell ⟨tb, 0, none⟩ (.slice (some ⟨g1, 0, none⟩) (l + 1) cap1)).cell? ⟨tb, 1, none⟩ = some D.vb := by
        exact (World.cell?_setCell_other (w := X3) (a := ⟨tb, 0, none⟩) (b := ⟨tb, 1, none⟩) _ (by simp)).trans c31
      have f41 : (X3.setCell ⟨tb, 0, none⟩ (.slice (some ⟨g1, 0, none⟩) (l + 1) cap1)).frozen? ⟨tb, 1, none⟩ = false := by
        rw [World.frozen?_setCell]; exact f31
      refine hK _ _ (hSc _ _ k4 (by rfl) (fun _ => c41)) ?_
      clear hK
      try simp only [nA, nB, nC, Act.put, nD, nE, nF]
      refine WA.tk (i := 18) (v := .pointer (some ⟨tb, 0, none⟩)) rfl (hdrop 18 (by decide)) (Or.inl ⟨by rfl, ?_⟩) (hSc _ _ k4 (by rfl) (fun _ => c41)) ?_
      · rintro w' ⟨L, hL, hSw, hun⟩
        go_simp
      simp only [nA, nB, nC, Act.put, nD, nE, nF]
      refine WA.tk (i := 19) (v := .pointer (some ⟨tb, 1, none⟩)) rfl (hdrop 19 (by decide)) (Or.inl ⟨by rfl, ?_⟩) (hSc _ _ k4 (by rfl) (fun _ => c41)) ?_
      · rintro w' ⟨L, hL, hSw, hun⟩
        go_simp
      simp only [nA, nB, nC, Act.put, nD, nE, nF]
      have hsz4 : w.heap.size + 3 ≤ (X3.setCell ⟨tb, 0, none⟩ (.slice (some ⟨g1, 0, none⟩) (l + 1) cap1)).heap.size := by rw [World.size_setCell]; exact hsz
      generalize X3.setCell ⟨tb, 0, none⟩ (.slice (some ⟨g1, 0, none⟩) (l + 1) cap1) = X4 at *
      refine WA.one (i := 20) (by kernel_rfl) rfl (by rfl) (fun K hK => ?_)
      go_simp
      have k5 : ∀ i, i < W5.heap.size → i ≠ tb → some i ≠ D.vr.ownBlock → some i ≠ D.vb.ownBlock → (X4.setCell ⟨tb, 1, none⟩ (.slice (some ⟨g2, 0, none⟩) (l + 1) cap2)).heap[i]? = W5.heap[i]? := fun i h1 h2 h3 h4 => (Below.heap_setCell _ _ _ i h2).trans (k4 i h1 h2 h3 h4)
      refine hK _ _ (hSc _ _ k5 (by rfl) (fun h => by cases h)) ?_
      clear hK
      refine WA.done (by kernel_rfl) ?_ _
      refine Nrm.normal ?_
      go_step
      go_step
      go_meet
      exact ⟨_, _, hend.out.1, hend.out.2, by rw [World.size_setCell]; exact hsz4⟩
  case rest =>
    obtain ⟨vr, vb, hI7, F7, z7⟩ := hcut
    have kb : ∀ i j, i < 3 → wc.cell? ⟨w.heap.size + i, j, none⟩ = W5.cell? ⟨w.heap.size + i, j, none⟩ := fun i j hi =>
      World.cell?_of_block (w := W5) (a := ⟨w.heap.size + i, j, none⟩) (hbt W5 wc (w.heap.size + i) F7 (by omega) (by omega) (by omega))
    have a7 := (kb 0 0 (by omega)).trans a5
    have e0 := (kb 1 0 (by omega)).trans b0
    have e1 := (kb 1 1 (by omega)).trans b1
    have e2 := (kb 1 2 (by omega)).trans b2
    have n7 := (kb 2 0 (by omega)).trans n5
    simp only [Nat.add_zero] at a7
    have F7 := Lib.hid (F5.out.trans F7)
    obtain ⟨D7, hD7⟩ : ∃ D7, { D with vr := vr, vb := vb } = D7 := ⟨_, rfl⟩
    rw [hD7] at hI7
    clear a5 b0 b1 b2 n5 kb hI5 F5 F5' z5 hD7
    -- the zone without the looks' box
    obtain ⟨Q, hQ⟩ : ∃ Q, Q = Y.gap wc.heap.size (wc.heap.size + 1) := ⟨_, rfl⟩
    have hQo : Q.opn (wc.heap.size + 1) := by rw [hQ]; exact Zone.gap_opn _ _ _
    have hI8 : IsG Q wc tb (T ++ [((x0, x1, x2), 0)]) (upd (idxF T) (x0, x1, x2) (some (.int .i64 l))) (lst T) (live T) (cntF T) D7 := by rw [hQ]; exact hI7.gap (Nat.le_refl _)
    have hQb : ∀ w' T' D', IsT Q w' tb T' D' → IsT Y w' tb T' D' := by
      intro w' T' D' h; rw [hQ] at h; exact h.back (by omega) (hYo.mono z7)
    have hQf : ∀ A B, Fr Q A B → Fr Y A B := by
      intro A B h; rw [hQ] at h; exact h.back (by omega) (hYo.mono z7)
    have hQk : ∀ A B i, Fr Q A B → w.heap.size ≤ i → i < w.heap.size + 3 → i < A.heap.size → B.heap[i]? = A.heap[i]? := fun A B i h => hbt A B i (hQf A B h)
    have hQg : ∀ A B, Fr Q A B → wc.heap.size < A.heap.size → B.heap[wc.heap.size]? = A.heap[wc.heap.size]? := by
      intro A B h h1; rw [hQ] at h; exact h.between (Nat.le_refl _) (by omega) h1
    have hQM : ∀ i, Q.M i → i < wc.heap.size := by
      intro i h; rw [hQ] at h; exact h.2
    clear hQ hI7 hbt
    go_wp2_with (go_at_call 36; refine (looks_any x0 x1 x2 _).mono ?_; rintro e w' ⟨rfl, rfl⟩)
    have B8 : Below wc.heap.size wc (wc.alloc (.cells #[.int .u32 x0, .int .u32 x1, .int .u32 x2] 37)) := (Below.refl _ wc).alloc (Nat.le_refl _) _
    have b8 : (wc.alloc (.cells #[.int .u32 x0, .int .u32 x1, .int .u32 x2] 37)).heap[wc.heap.size]? = some (.cells #[.int .u32 x0, .int .u32 x1, .int .u32 x2] 37 (0, 0)) := heap_alloc_new wc _
    have z8 : (wc.alloc (.cells #[.int .u32 x0, .int .u32 x1, .int .u32 x2] 37)).heap.size = wc.heap.size + 1 := World.size_alloc _ _
    generalize wc.alloc (.cells #[.int .u32 x0, .int .u32 x1, .int .u32 x2] 37) = W8 at *
    have a8 := cell_later B8 a7
    have n8 := cell_later B8 n7
    have i8 := hI8.below B8
    have hm8 : D7.bf < W8.heap.size ∧ D7.bb < W8.heap.size ∧ ∀ p, p < 3 → D7.ba p < W8.heap.size := ⟨i8.find.lt, i8.by_.lt, fun p hp => (i8.at_ p hp).lt⟩
    have bx8 : W8.cell? ⟨wc.heap.size, 0, none⟩ = some (.int .u32 x0) ∧ W8.cell? ⟨wc.heap.size, 1, none⟩ = some (.int .u32 x1) ∧ W8.cell? ⟨wc.heap.size, 2, none⟩ = some (.int .u32 x2) := by
      unfold World.cell?; rw [b8]; exact ⟨rfl, rfl, rfl⟩
    have hQo8 : Q.opn W8.heap.size := hQo.mono (by omega)
    have hQk8 : ∀ W j i, Fr Q W8 W → i < 3 → W.cell? ⟨w.heap.size + i, j, none⟩ = W8.cell? ⟨w.heap.size + i, j, none⟩ := fun W j i h hi => World.cell?_of_block (w := W8) (a := ⟨w.heap.size + i, j, none⟩) (hQk W8 W (w.heap.size + i) h (by omega) (by omega) (by omega))
    have hKk : ∀ A B, Fr Q W8 A → Fr Q A B → KeepR wc.heap.size A B := fun A B hA h => KeepR.of_block (hQg A B h (by have := hA.size; omega))
    have hKs : ∀ A B, Fr Q A B → KeepsFrom W8.heap.size A B := fun A B h => h.keeps (fun i hi => by have := hQM i hi; omega)
    have hr3 : x0 ≠ 0 ∧ x1 ≠ 0 ∧ x2 ≠ 0 := by
      simp only [has3, Bool.or_eq_false_iff, beq_eq_false_iff_ne] at hr
      exact ⟨Ne.symm hr.1.1, Ne.symm hr.1.2, Ne.symm hr.2⟩
    refine (wpIn_wide (n := 9)).1 ?_
    refine wpIn_rangeFunc_row (q := 10) rfl (by decide) (gf := 46) (lb := #[.pointer (some ⟨wc.heap.size, 0, none⟩)]) rfl trivial (enters_of Try.func46 (by kernel_rfl) rfl)
      (looks_stops (9 - 1) wc.heap.size x0 x1 x2 W8 (by omega) bx8.1 bx8.2.1 bx8.2.2) KeepR.t (KeepR.b) (Below.refl _ _)
      (fun pre W => (∃ mb, IsG Q W tb (T ++ [((x0, x1, x2), 0)]) (upd (idxF T) (x0, x1, x2) (some (.int .i64 l))) (fun y => lst T y ++ came (x0, x1, x2) l pre y) (live T) (cntF T) { D7 with mb := mb }) ∧ Fr Q W8 W)
      (fun pre A B row hs hg hr => ⟨hs.1.imp fun mb h => h.grown hg hr hm8, hs.2.grown hg (fun r e => (hr r e).1)⟩)
      ⟨⟨D7.mb, by simp only [came_nil, List.append_nil]; exact i8⟩, Fr.refl _ _⟩ ?assign ?body ?done
    case assign =>
      rintro ln pre x W K ⟨⟨mb, hIw⟩, hFw⟩ hK
      have HI := Lib.hid hIw; have HF := Lib.hid hFw
      clear hIw hFw
      obtain ⟨⟨y0, y1, y2⟩, hy⟩ : ∃ y, msk (x0, x1, x2) (x.val + 1) = y := ⟨_, rfl⟩
      simp only [RowAx, hy, rv] at hK
      simp only [hy]
      simp only [rv]
      have HK := Lib.hid hK; clear hK
      gi_wp2
      have BA : Below W.heap.size W (W.alloc (.cells #[.int .u32 y0, .int .u32 y1, .int .u32 y2] 37)) := (Below.refl _ W).alloc (Nat.le_refl _) _
      exact HK.out _ _ (hKs W _ (.of_below BA)) (hKk W _ HF.out (.of_below BA)) ⟨⟨mb, HI.out.below BA⟩, HF.out.alloc _⟩ ⟨W.heap.size, HF.out.size, rfl, heap_alloc_new W _⟩
    case body =>
      rintro ln pre x W bx hln ⟨⟨mb, hIw⟩, hFw⟩ hbxl hbx hlen6
      obtain ⟨⟨y0, y1, y2⟩, hy⟩ : ∃ y, msk (x0, x1, x2) (x.val + 1) = y := ⟨_, rfl⟩
      have hyk : rok (y0, y1, y2) := by rw [← hy]; exact msk_rok hro _
      have hyl : look2 (y0, y1, y2) = true := by rw [← hy]; exact msk_look hr3.1 hr3.2.1 hr3.2.2 x
      have hcs := came_snoc (x0, x1, x2) l pre x (lst T)
      rw [hy] at hcs
      simp only [hy] at hbx ⊢
      simp only [rv]
      obtain ⟨D9, hD9⟩ : ∃ D9, { D7 with mb := mb } = D9 := ⟨_, rfl⟩
      have d9 : ∀ m, { D9 with mb := m } = { D7 with mb := m } := fun m => by rw [← hD9]
      rw [hD9] at hIw
      clear hD9
      have hIw9 := hIw.below (Below.refl _ W).drew
      have hFw9 : Fr Q W8 W.drew := hFw.drew
      have hbx9 : W.drew.heap[bx]? = some (.cells #[.int .u32 y0, .int .u32 y1, .int .u32 y2] 37 (0, 0)) := hbx
      have HK1 := Lib.hid (show KeepsFrom W8.heap.size W W.drew ∧ KeepR wc.heap.size W W.drew from ⟨hKs W _ (.of_below (Below.refl _ W).drew), hKk W _ hFw (.of_below (Below.refl _ W).drew)⟩)
      gi_wp2_with fail
      obtain ⟨S10, hSe⟩ : ∃ S : Array Bool → World → Prop, S = fun L w' => L.getD 9 true = false → ∀ i, i < W.drew.heap.size → i ≠ D9.bb → w'.heap[i]? = W.drew.heap[i]? := ⟨_, rfl⟩
      refine wpIn_region_L S10 12 #[false, false, false, false, false, false, false, false, false, false, false, false] (by kernel_rfl) (by kernel_rfl) rfl (by kernel_rfl) ?_
      generalize W.drew = W9 at *
      clear hIw hFw hbx
      have hnb : ∀ {i : Nat} {c : Array Value} {e : TypeId} {z : Nat × Nat}, W9.heap[i]? = some (.cells c e z) → i ≠ D9.bb := by
        intro i c e z hi e1
        obtain ⟨es, c', hm⟩ := hIw9.by_.heap
        rw [e1, hm] at hi; injection hi with hi; cases hi
      have hcb : ∀ {ad : Addr} {v : Value}, W9.cell? ad = some v → ad.block < W9.heap.size ∧ ad.block ≠ D9.bb := by
        intro ad v hc
        refine ⟨World.block_lt_of_cell? W9 ad hc, fun e => ?_⟩
        obtain ⟨es, c', hm⟩ := hIw9.by_.heap
        unfold World.cell? at hc; rw [e, hm] at hc; cases hc
      have a9 := (hQk8 W9 0 0 hFw9 (by omega)).trans a8
      simp only [Nat.add_zero] at a9
      have n9 := (hQk8 W9 0 2 hFw9 (by omega)).trans n8
      have c39 := hIw9.c3
      have x9 : W9.cell? ⟨bx, 0, none⟩ = some (.int .u32 y0) ∧ W9.cell? ⟨bx, 1, none⟩ = some (.int .u32 y1) ∧ W9.cell? ⟨bx, 2, none⟩ = some (.int .u32 y2) := by
        unfold World.cell?; rw [hbx9]; exact ⟨rfl, rfl, rfl⟩
      have hdrop : ∀ i, i ≠ 9 → ∀ L w', S10 (L.setIfInBounds i true) w' → S10 L w' := by
        intro i hi L w'
        rw [hSe]
        intro h hl
        exact h (by rw [getD_set_ne true hi]; exact hl)
      have hS : ∀ L, S10 L W9 := by
        intro L; rw [hSe]; exact fun _ _ _ _ => rfl
      have hSk : ∀ (L : Array Bool) X, (∀ i, i < W9.heap.size → i ≠ D9.bb → X.heap[i]? = W9.heap[i]?) → S10 L X := by
        intro L X h; rw [hSe]; exact fun _ => h
      have hSd : ∀ (L : Array Bool) X, L.getD 9 true = true → S10 L X := by
        intro L X h; rw [hSe]; intro h1; rw [h] at h1; cases h1
      have hst : ∀ L w', S10 L w' → L.getD 9 true = false → ∀ ad v, W9.cell? ad = some v → w'.cell? ad = some v := by
        intro L w' h hl ad v hc
        rw [hSe] at h
        exact (World.cell?_of_block (w := W9) (a := ad) (h hl _ (hcb hc).1 (hcb hc).2)).trans hc
      clear hSe
      refine WA.tk (i := 0) (v := .pointer (some ⟨tb, 0, none⟩)) rfl (hdrop 0 (by decide)) (Or.inl ⟨by rfl, ?_⟩) (hS _) ?_
      · rintro w' ⟨L, hL, hSw, hun⟩
        have hs := hst _ _ hSw (hL.wait 9 8 (by kernel_rfl) (hL.wait 8 7 (by kernel_rfl) (hL.wait 7 3 (by kernel_rfl) (hL.wait 3 2 (by kernel_rfl) (hL.wait 2 1 (by kernel_rfl) (hL.wait 1 0 (by kernel_rfl) hun)))))); have p0 := hs _ _ a9; have p1 := hs _ _ n9; have p2 := hs _ _ c39; have p3 := hs _ _ x9.1; have p4 := hs _ _ x9.2.1; have p5 := hs _ _ x9.2.2; clear hs
        go_simp
      simp only [nA, nB, nC, Act.put, nD, nE, nF]
      refine WA.tk (i := 1) (v := .pointer (some ⟨tb, 0, none⟩)) rfl (hdrop 1 (by decide)) (Or.inl ⟨by rfl, ?_⟩) (hS _) ?_
      · rintro w' ⟨L, hL, hSw, hun⟩
        go_simp
      simp only [nA, nB, nC, Act.put, nD, nE, nF]
      refine WA.tk (i := 2) (v := .pointer (some ⟨tb, 3, none⟩)) rfl (hdrop 2 (by decide)) (Or.inl ⟨by rfl, ?_⟩) (hS _) ?_
      · rintro w' ⟨L, hL, hSw, hun⟩
        go_simp
      simp only [nA, nB, nC, Act.put, nD, nE, nF]
      refine WA.tk (i := 3) (v := .map (some D9.bb)) rfl (hdrop 3 (by decide)) (Or.inl ⟨by rfl, ?_⟩) (hS _) ?_
      · rintro w' ⟨L, hL, hSw, hun⟩
        have hs := hst _ _ hSw (hL.wait 9 8 (by kernel_rfl) (hL.wait 8 7 (by kernel_rfl) (hL.wait 7 3 (by kernel_rfl) hun))); have p0 := hs _ _ a9; have p1 := hs _ _ n9; have p2 := hs _ _ c39; have p3 := hs _ _ x9.1; have p4 := hs _ _ x9.2.1; have p5 := hs _ _ x9.2.2; clear hs
        go_simp
      simp only [nA, nB, nC, Act.put, nD, nE, nF]
      refine WA.tk (i := 4) (v := .agg #[.int .u32 y0, .int .u32 y1, .int .u32 y2]) rfl (hdrop 4 (by decide)) (Or.inl ⟨by rfl, ?_⟩) (hS _) ?_
      · rintro w' ⟨L, hL, hSw, hun⟩
        have hs := hst _ _ hSw (hL.wait 9 8 (by kernel_rfl) (hL.wait 8 7 (by kernel_rfl) (hL.wait 7 4 (by kernel_rfl) hun))); have p0 := hs _ _ a9; have p1 := hs _ _ n9; have p2 := hs _ _ c39; have p3 := hs _ _ x9.1; have p4 := hs _ _ x9.2.1; have p5 := hs _ _ x9.2.2; clear hs
        go_simp
      simp only [nA, nB, nC, Act.put, nD, nE, nF]
      refine WA.tk (i := 5) (v := .int .i64 (l : Int)) rfl (hdrop 5 (by decide)) (Or.inl ⟨by rfl, ?_⟩) (hS _) ?_
      · rintro w' ⟨L, hL, hSw, hun⟩
        have hs := hst _ _ hSw (hL.wait 9 6 (by kernel_rfl) (hL.wait 6 5 (by kernel_rfl) hun)); have p0 := hs _ _ a9; have p1 := hs _ _ n9; have p2 := hs _ _ c39; have p3 := hs _ _ x9.1; have p4 := hs _ _ x9.2.1; have p5 := hs _ _ x9.2.2; clear hs
        go_simp
      simp only [nA, nB, nC, Act.put, nD, nE, nF]
      obtain ⟨i3, hi3, hv0, hv1, hv2⟩ := info_parts Try.infoInt
      have hbb9 : D9.bb < W9.heap.size := hIw9.by_.lt
      refine WA.all (rs := [6]) (by kernel_rfl) (by simp) ?_
      intro i hi
      obtain rfl : i = 6 := by simpa using hi
      refine wpOp_go rfl (by rfl) (fun K hK => ?_)
      go_simp
      have hBX0 : Below W9.heap.size W9 (W9.alloc (.cells #[.int .i64 l] 3)) := (Below.refl _ _).alloc (Nat.le_refl _) _
      have nX0 : (W9.alloc (.cells #[.int .i64 l] 3)).heap[W9.heap.size]? = some (.cells #[.int .i64 l] 3 (0, 0)) := heap_alloc_new W9 _
      have zX0 : (W9.alloc (.cells #[.int .i64 l] 3)).heap.size = W9.heap.size + 1 := World.size_alloc _ _
      generalize (W9.alloc (.cells #[.int .i64 l] 3)) = X0 at *
      have ZX0 := Lib.hid zX0
      clear zX0
      refine hK _ _ ⟨hSk _ X0 (fun i hi _ => hBX0.block i hi), ?_⟩
      clear hK
      try simp only [nA, nB, nC, Act.put, nD, nE, nF]
      refine WA.all (rs := [7]) (by kernel_rfl) (by simp) ?_
      intro i hi
      obtain rfl : i = 7 := by simpa using hi
      refine wpOp_go rfl (by rfl) (fun K hK => ?_)
      refine wp_mapEntry (.tmp 69) (.tmp 70) 78 37 73 (by rfl) kysR Try.underlying78 (Try.zeroInts _) (by rfl) (hIw9.by_.stay (hBX0.block _ hbb9)) hyk (by rfl) ?_
      intro X born hE hT
      obtain ⟨hTm, hTo⟩ := turned_heap hT
      have hXs : W9.heap.size ≤ X.heap.size := Nat.le_trans hBX0.size hT.grown.size
      have hX : ∀ i, i < W9.heap.size → i ≠ D9.bb → X.heap[i]? = W9.heap[i]? := fun i h1 h2 => (hTo i h2).trans (hBX0.block i h1)
      have hXf : Fr Q W9 X := (Fr.of_below hBX0).trans (.turned hT ⟨0, hIw9.byW.1 0⟩ hIw9.byW.2)
      have hXm : ∃ es c, X.heap[D9.bb]? = some (.map es c) := by obtain ⟨es, c, h, _⟩ := hE; exact ⟨es, c, h⟩
      have nbits := (hTo W9.heap.size (by omega)).trans nX0
      refine hK _ _ ⟨hSk _ X hX, ?_⟩
      clear hK
      try simp only [nA, nB, nC, Act.put, nD, nE, nF]
      refine WA.tk (i := 8) (v := (D9.mb (y0, y1, y2)).getD nilS) rfl (hdrop 8 (by decide)) (Or.inl ⟨by rfl, ?_⟩) (hSk _ X hX) ?_
      · rintro w' ⟨L, hL, hSw, hun⟩
        go_simp
      simp only [nA, nB, nC, Act.put, nD, nE, nF]
      refine WA.tk (i := 10) (v := .int .i64 born) rfl (hdrop 10 (by decide)) (Or.inl ⟨by rfl, ?_⟩) (hSk _ X hX) ?_
      · rintro w' ⟨L, hL, hSw, hun⟩
        go_simp
      simp only [nA, nB, nC, Act.put, nD, nE, nF]
      refine WA.all (rs := [9]) (by kernel_rfl) (by simp) ?_
      intro i hi
      obtain rfl : i = 9 := by simpa using hi
      have hbk := hIw9.byOk.list0 hyk hyl
      have hsl : Sl Q X 3 1 ((D9.mb (y0, y1, y2)).getD nilS) (lst T (y0, y1, y2) ++ came (x0, x1, x2) l pre (y0, y1, y2)).length (ics (lst T (y0, y1, y2) ++ came (x0, x1, x2) l pre (y0, y1, y2))) :=
        hbk.stayB (fun g hg => by obtain ⟨hlt, c, z, hc⟩ := hbk.lt g hg; exact hX g hlt (hnb hc))
      have hll6 : (lst T (y0, y1, y2) ++ came (x0, x1, x2) l pre (y0, y1, y2)).length ≤ 1000006 := by
        have := lst_len T (y0, y1, y2); have := came_len (x0, x1, x2) l pre (y0, y1, y2)
        rw [List.length_append]; omega
      refine wpOp_go rfl (by rfl) (fun K hK => ?_)
      refine wp_append_Sl (.tmp 71) (.tmp 73) 73 (by rfl) (by rfl) hsl (hQo8.mono (Nat.le_trans hFw9.size hXs)) i3 _ 8 Try.underlying73 hi3 hv0 hv1 hv2 rfl (by decide) ⟨W9.heap.size, 0, none⟩ 1 1 [.int .i64 l] (by rfl) rfl (cells_blk nbits) (by simp [Value.oneCell']) (by decide) (by unfold maxLen; omega) (by omega) ?_
      intro v' X2 r1 r2 r3 r4
      have hbX : D9.bb < X.heap.size := Nat.lt_of_lt_of_le hIw9.by_.lt hXs
      have hE2 := hE.stay (r3.block D9.bb hbX (fun e => by
        obtain ⟨hlt, c, z, hc⟩ := hbk.lt _ e.symm
        exact hnb hc rfl))
      refine hK _ _ ⟨hSd _ _ (by rfl), ?_⟩
      clear hK
      try simp only [nA, nB, nC, Act.put, nD, nE, nF]
      refine WA.all (rs := [11]) (by kernel_rfl) (by simp) ?_
      intro i hi
      obtain rfl : i = 11 := by simpa using hi
      refine wpOp_go rfl (by rfl) (fun K hK => ?_)
      refine wp_entryStore (.tmp 69) (.tmp 76) (.tmp 75) 78 37 73 (by rfl) kysR (by rfl) (by rfl) (by rfl) hE2 hyk ?_
      intro X3 s1 s2
      rw [upd_upd] at s1
      obtain ⟨hL1, hL2⟩ := hIw9.listed hyk hyl l hX hXf hXm (hQo8.mono (Nat.le_trans hFw9.size hXs)) r1 r2 r3 r4 s1 s2
      rw [← hcs, d9] at hL1
      refine hK _ _ ⟨hSd _ _ (by rfl), ?_⟩
      clear hK
      refine WA.done (by kernel_rfl) ?_ _
      refine Nrm.normal ?_
      exact ⟨HK1.out.1.trans (hKs _ _ hL2), KeepR.t HK1.out.2 (hKk _ _ hFw9 hL2), ⟨_, hL1⟩, hFw9.trans hL2⟩
    case done =>
      rintro DD ys W hDD rfl ⟨⟨mb, hIw⟩, hFw⟩ hdef
      replace hIw := hIw.come (x0, x1, x2) l hro hr3.1 hr3.2.1 hr3.2.2 hl hn
      obtain ⟨D9, hD9⟩ : ∃ D9, { D7 with mb := mb } = D9 := ⟨_, rfl⟩
      have hm9 : D9.bf < W8.heap.size ∧ D9.bb < W8.heap.size ∧ ∀ p, p < 3 → D9.ba p < W8.heap.size := by rw [← hD9]; exact hm8
      rw [hD9] at hIw
      clear hD9 hm8
      obtain ⟨T', hT'⟩ : ∃ T', T ++ [((x0, x1, x2), (0 : Int))] = T' := ⟨_, rfl⟩
      have hl' : T'.length = l + 1 := by rw [← hT', List.length_append, hl]; rfl
      have hv0 : T'[l]'(by omega) = ((x0, x1, x2), 0) := by subst hT'; subst hl; simp
      have hIw9 : IsT Q W tb T' D9 := by rw [← hT']; exact hIw
      replace hIw9 : IsT Q W.drew tb T' D9 := hIw9.below (Below.refl _ W).drew
      have HT' := Lib.hid hT'
      clear hT'
      have hFw9 : Fr Q W8 W.drew := hFw.drew
      have hdef9 : W.drew.heap[DD]? = some (.deferred (some [])) := hdef
      clear hIw hFw hdef hI8 i8
      go_wp2_with fail
      have a9 := (hQk8 W.drew 0 0 hFw9 (by omega)).trans a8
      simp only [Nat.add_zero] at a9
      have n9 := (hQk8 W.drew 0 2 hFw9 (by omega)).trans n8
      have hnl : l < T'.length := by omega
      obtain ⟨gb, capb, hvb, hgb, b3, f3, hWb⟩ := hIw9.bit l hnl
      have c3 := hIw9.c1
      rw [hvb, hl'] at c3
      rw [hv0] at b3
      obtain ⟨l1, hl1⟩ : ∃ l1, l1 = l + 1 := ⟨_, rfl⟩
      have hl1a : l < l1 := by omega
      have hl1b : l1 ≤ 1000001 := by omega
      rw [← hl1] at c3
      have hch := Lib.hid (change_any hIw9 l hnl (bits .or .u8 0 b) (is8_or _ _))
      rw [hv0] at hch
      clear hl1 hnl hv0 hl'
      have H9 := Lib.hid hIw9; have HF9 := Lib.hid hFw9; have Hdef9 := Lib.hid hdef9
      clear hIw9 hFw9 hdef9 hvb
      have hB4 : W.drew.cell? ⟨w.heap.size, 0, none⟩ = some (.pointer (some ⟨tb, 0, none⟩)) ∧ W.drew.cell? ⟨w.heap.size + 2, 0, none⟩ = some (.int .i64 (l : Int)) := ⟨a9, n9⟩
      have hC4 : W.drew.cell? ⟨tb, 1, none⟩ = some (.slice (some ⟨gb, 0, none⟩) l1 capb) ∧ W.drew.cell? ⟨gb, l, none⟩ = some (.int .u8 0) := ⟨c3, b3⟩
      obtain ⟨S, hSe⟩ : ∃ S : Array Bool → World → Prop, S = fun L w' => (w'.cell? ⟨w.heap.size, 0, none⟩ = some (.pointer (some ⟨tb, 0, none⟩)) ∧ w'.cell? ⟨w.heap.size + 2, 0, none⟩ = some (.int .i64 (l : Int))) ∧ (L.getD 12 true = false → w'.cell? ⟨tb, 1, none⟩ = some (.slice (some ⟨gb, 0, none⟩) l1 capb) ∧ w'.cell? ⟨gb, l, none⟩ = some (.int .u8 0)) := ⟨_, rfl⟩
      have hdrop : ∀ i, i ≠ 12 → ∀ L w', S (L.setIfInBounds i true) w' → S L w' := by
        intro i hi L w'
        rw [hSe]
        intro h
        exact ⟨h.1, fun hl => h.2 (by rw [getD_set_ne true hi]; exact hl)⟩
      have hS : ∀ L, L.getD 12 true = false → S L W.drew := by
        intro L hl
        rw [hSe]
        exact ⟨hB4, fun _ => hC4⟩
      have hbx : ∀ L w', S L w' → w'.cell? ⟨w.heap.size, 0, none⟩ = some (.pointer (some ⟨tb, 0, none⟩)) ∧ w'.cell? ⟨w.heap.size + 2, 0, none⟩ = some (.int .i64 (l : Int)) := by
        intro L w' h
        rw [hSe] at h; exact h.1
      have hbit : ∀ L w', S L w' → L.getD 12 true = false → w'.cell? ⟨tb, 1, none⟩ = some (.slice (some ⟨gb, 0, none⟩) l1 capb) ∧ w'.cell? ⟨gb, l, none⟩ = some (.int .u8 0) := by
        intro L w' h hl
        rw [hSe] at h; exact h.2 hl
      have hS1 : ∀ w1 : World, (w1.cell? ⟨w.heap.size, 0, none⟩ = some (.pointer (some ⟨tb, 0, none⟩)) ∧ w1.cell? ⟨w.heap.size + 2, 0, none⟩ = some (.int .i64 (l : Int))) → ∀ L, L.getD 12 true = true → S L w1 := by
        intro w1 h1 L hl
        rw [hSe]
        exact ⟨h1, fun h => by rw [hl] at h; cases h⟩
      clear hSe
      refine wp_region_LN S 15 #[false, false, false, false, false, false, false, false, false, false, false, false, false, false, false] (by kernel_rfl) (by kernel_rfl) rfl ?_
      generalize W.drew = W9 at *
      refine WA.tk (i := 0) (v := .int .i64 (l : Int)) rfl (hdrop 0 (by decide)) (Or.inl ⟨by rfl, ?_⟩) (hS _ (by rfl)) ?_
      · rintro w' ⟨L, hL, hSw, hun⟩
        obtain ⟨q1, q2⟩ := hbx _ _ hSw
        go_simp
      simp only [nA, nB, nC, Act.put, nD, nE, nF]
      refine WA.tk (i := 1) (v := .pointer (some ⟨tb, 0, none⟩)) rfl (hdrop 1 (by decide)) (Or.inl ⟨by rfl, ?_⟩) (hS _ (by rfl)) ?_
      · rintro w' ⟨L, hL, hSw, hun⟩
        obtain ⟨q1, q2⟩ := hbx _ _ hSw
        go_simp
      simp only [nA, nB, nC, Act.put, nD, nE, nF]
      refine WA.tk (i := 2) (v := .int .i64 (l : Int)) rfl (hdrop 2 (by decide)) (Or.inl ⟨by rfl, ?_⟩) (hS _ (by rfl)) ?_
      · rintro w' ⟨L, hL, hSw, hun⟩
        obtain ⟨q1, q2⟩ := hbx _ _ hSw
        go_simp
      simp only [nA, nB, nC, Act.put, nD, nE, nF]
      refine WA.tk (i := 3) (v := .pointer (some ⟨tb, 0, none⟩)) rfl (hdrop 3 (by decide)) (Or.inl ⟨by rfl, ?_⟩) (hS _ (by rfl)) ?_
      · rintro w' ⟨L, hL, hSw, hun⟩
        obtain ⟨q1, q2⟩ := hbx _ _ hSw
        go_simp
      simp only [nA, nB, nC, Act.put, nD, nE, nF]
      refine WA.tk (i := 4) (v := .pointer (some ⟨tb, 0, none⟩)) rfl (hdrop 4 (by decide)) (Or.inl ⟨by rfl, ?_⟩) (hS _ (by rfl)) ?_
      · rintro w' ⟨L, hL, hSw, hun⟩
        go_simp
      simp only [nA, nB, nC, Act.put, nD, nE, nF]
      refine WA.tk (i := 5) (v := .pointer (some ⟨tb, 1, none⟩)) rfl (hdrop 5 (by decide)) (Or.inl ⟨by rfl, ?_⟩) (hS _ (by rfl)) ?_
      · rintro w' ⟨L, hL, hSw, hun⟩
        go_simp
      simp only [nA, nB, nC, Act.put, nD, nE, nF]
      refine WA.tk (i := 6) (v := .slice (some ⟨gb, 0, none⟩) l1 capb) rfl (hdrop 6 (by decide)) (Or.inl ⟨by rfl, ?_⟩) (hS _ (by rfl)) ?_
      · rintro w' ⟨L, hL, hSw, hun⟩
        obtain ⟨q1, q2⟩ := hbit _ _ hSw (hL.wait 12 11 (by kernel_rfl) (hL.wait 11 9 (by kernel_rfl) (hL.wait 9 8 (by kernel_rfl) (hL.wait 8 6 (by kernel_rfl) hun))))
        go_simp
      simp only [nA, nB, nC, Act.put, nD, nE, nF]
      refine WA.tk (i := 7) (v := .int .i64 (l : Int)) rfl (hdrop 7 (by decide)) (Or.inl ⟨by rfl, ?_⟩) (hS _ (by rfl)) ?_
      · rintro w' ⟨L, hL, hSw, hun⟩
        obtain ⟨q1, q2⟩ := hbx _ _ hSw
        go_simp
      simp only [nA, nB, nC, Act.put, nD, nE, nF]
      refine WA.tk (i := 8) (v := .pointer (some ⟨gb, l, none⟩)) rfl (hdrop 8 (by decide)) (Or.inl ⟨by rfl, ?_⟩) (hS _ (by rfl)) ?_
      · rintro w' ⟨L, hL, hSw, hun⟩
        go_simp
      simp only [nA, nB, nC, Act.put, nD, nE, nF]
      refine WA.tk (i := 9) (v := .int .u8 0) rfl (hdrop 9 (by decide)) (Or.inl ⟨by rfl, ?_⟩) (hS _ (by rfl)) ?_
      · rintro w' ⟨L, hL, hSw, hun⟩
        obtain ⟨q1, q2⟩ := hbit _ _ hSw (hL.wait 12 11 (by kernel_rfl) (hL.wait 11 9 (by kernel_rfl) hun))
        go_simp
      simp only [nA, nB, nC, Act.put, nD, nE, nF]
      refine WA.tk (i := 10) (v := .int .u8 b) rfl (hdrop 10 (by decide)) (Or.inl ⟨by rfl, ?_⟩) (hS _ (by rfl)) ?_
      · rintro w' ⟨L, hL, hSw, hun⟩
        go_simp
      simp only [nA, nB, nC, Act.put, nD, nE, nF]
      refine WA.tk (i := 11) (v := .int .u8 (bits .or .u8 0 b)) rfl (hdrop 11 (by decide)) (Or.inl ⟨by rfl, ?_⟩) (hS _ (by rfl)) ?_
      · rintro w' ⟨L, hL, hSw, hun⟩
        go_simp
      simp only [nA, nB, nC, Act.put, nD, nE, nF]
      clear hS hbit hbx
      refine WA.one (i := 12) (by kernel_rfl) rfl (by rfl) (fun K hK => ?_)
      go_simp
      refine hch.out.mono ?_
      rintro e w1 ⟨rfl, s1, s2⟩
      have k1 : w1.cell? ⟨w.heap.size, 0, none⟩ = some (.pointer (some ⟨tb, 0, none⟩)) := (hQk8 w1 0 0 (HF9.out.trans s2) (by omega)).trans a8
      have k2 : w1.cell? ⟨w.heap.size + 2, 0, none⟩ = some (.int .i64 l) := (hQk8 w1 0 2 (HF9.out.trans s2) (by omega)).trans n8
      have hd1 : w1.heap[DD]? = some (.deferred (some [])) := (s2.oth DD _ Hdef9.out rfl).resolve_left (fun hm => by have := hQM _ hm; omega)
      have Hd1 := Lib.hid hd1
      have S1 := Lib.hid s1
      have S2 := Lib.hid (HF9.out.trans s2)
      clear s1 s2 hd1
      have hS := hS1 w1 ⟨k1, k2⟩
      clear hS1
      refine hK _ _ (hS _ (by rfl)) ?_
      clear hK
      try simp only [nA, nB, nC, Act.put, nD, nE, nF]
      refine WA.tk (i := 13) (v := .int .i64 (l : Int)) rfl (hdrop 13 (by decide)) (Or.inl ⟨by rfl, ?_⟩) (hS _ (by rfl)) ?_
      · rintro w' ⟨L, hL, hSw, hun⟩
        go_simp
      simp only [nA, nB, nC, Act.put, nD, nE, nF]
      refine WA.tk (i := 14) (v := .bool true) rfl (hdrop 14 (by decide)) (Or.inl ⟨by rfl, ?_⟩) (hS _ (by rfl)) ?_
      · rintro w' ⟨L, hL, hSw, hun⟩
        go_simp
      simp only [nA, nB, nC, Act.put, nD, nE, nF]
      refine WA.done (by kernel_rfl) ?_ _
      refine Nrm.normal ?_
      go_wp2_with fail
      refine ⟨by simp, .inl ⟨_, _, rfl, run_takeDeferred Hd1.out, ?_⟩⟩
      have hgr := grownBy_putObj' w1 DD (.deferred none)
      have hgr1 : ∀ r, some DD = some r → W8.heap.size ≤ r ∧ ∃ o : Obj, w1.heap[r]? = some o ∧ o.isCells = false := by
        intro r e
        injection e with e; subst e
        exact ⟨hDD, _, Hd1.out, rfl⟩
      have g1 := S1.out.grown hgr hgr1 hm9
      have g2 := S2.out.grown hgr (fun r e => (hgr1 r e).1)
      have g3 : Fr Y w W8 := F7.out.trans (.of_below B8)
      rw [HT'.out]
      exact ⟨_, results_tmp2 rfl _ _ _, rfl, ⟨D9, hback _ _ _ (hQb _ _ _ g1)⟩, hfr _ (g3.trans (hQf _ _ g2))⟩
end
end Go.Proofs.Ytghihhjcoilmgaa.T
