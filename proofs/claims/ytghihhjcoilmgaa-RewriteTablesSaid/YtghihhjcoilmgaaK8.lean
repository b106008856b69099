/- Add, where there is nothing to add, and where the row is there. -/
import Derived.Test.YtghihhjcoilmgaaK7
import Derived.Test.YtghihhjcoilmgaaOrdI
namespace Go.Proofs.Ytghihhjcoilmgaa.T
set_option maxRecDepth 100000
open Go.RowKit Go.Maps
set_option linter.unusedVariables false
set_option linter.unusedSimpArgs false

theorem cell_new1 (W : World) (v : Value) (t : TypeId) : (W.alloc (.cells #[v] t)).cell? ⟨W.heap.size, 0, none⟩ = some v ∧ (W.alloc (.cells #[v] t)).frozen? ⟨W.heap.size, 0, none⟩ = false := by
  have hh := heap_alloc_new W (.cells #[v] t)
  constructor
  · unfold World.cell?; rw [hh]; rfl
  · unfold World.frozen?; rw [hh]; rfl
/-- behind the boxes of a pointer and of a row -/
structure Bx2 (w W : World) (p : Value) (x0 x1 x2 : Int) : Prop where
  below : Below w.heap.size w W
  size : W.heap.size = w.heap.size + 2
  c : W.cell? ⟨w.heap.size, 0, none⟩ = some p
  r0 : W.cell? ⟨w.heap.size + 1, 0, none⟩ = some (.int .u32 x0)
  r1 : W.cell? ⟨w.heap.size + 1, 1, none⟩ = some (.int .u32 x1)
  r2 : W.cell? ⟨w.heap.size + 1, 2, none⟩ = some (.int .u32 x2)
theorem bx2 (w : World) (p : Value) (t u : TypeId) (x0 x1 x2 : Int) : Bx2 w ((w.alloc (.cells #[p] t)).alloc (.cells #[.int .u32 x0, .int .u32 x1, .int .u32 x2] u)) p x0 x1 x2 := by
  have hh := heap_alloc_new (w.alloc (.cells #[p] t)) (.cells #[.int .u32 x0, .int .u32 x1, .int .u32 x2] u)
  rw [World.size_alloc] at hh
  have h0 : ((w.alloc (.cells #[p] t)).alloc (.cells #[.int .u32 x0, .int .u32 x1, .int .u32 x2] u)).heap[w.heap.size]? = some (.cells #[p] t) :=
    (Below.heap_alloc _ _ _ (by simp)).trans (heap_alloc_new w _)
  refine ⟨((Below.refl _ w).alloc (Nat.le_refl _) _).alloc (by simp) _, by simp, ?_, ?_, ?_, ?_⟩
  · unfold World.cell?; rw [h0]; rfl
  all_goals (unfold World.cell?; rw [hh]; rfl)

section
variable {Z : Zone} {w : World} {tb : Nat} {T : TS} {D : TabD}

set_option maxRecDepth 100000 in
set_option maxHeartbeats 2000000 in
theorem add_zero (h : IsT Z w tb T D) (r : R3) (b : Int) (hb : b = 0) :
    Calls Try.prog 18 #[.pointer (some ⟨tb, 0, none⟩), rv r, .int .u8 b] w fun e w' =>
      e = .returned (.tuple #[.int .i64 (-1), .bool false]) ∧ Below w.heap.size w w' := by
  have hth := fun w' hb => Lib.hid (there_any (h.below (w' := w') hb))
  clear h
  obtain ⟨x0, x1, x2⟩ := r
  subst hb
  simp only [rv]
  go_enter Try.func18, Try.ntmps18
  have hb0 : Below w.heap.size w ((w.alloc (.cells #[.pointer (some ⟨tb, 0, none⟩)] 49)).alloc (.cells #[.int .u32 x0, .int .u32 x1, .int .u32 x2] 37)) := ((Below.refl _ w).alloc (Nat.le_refl _) _).alloc (by simp) _
  go_wp2_with (go_at_call 34; refine (hth _ hb0).out.mono ?_; rintro e w' ⟨rfl, rfl⟩)
  go_ret2
  exact ⟨rfl, hb0⟩

set_option maxRecDepth 100000 in
set_option maxHeartbeats 2000000 in
theorem add_has0 (h : IsT Z w tb T D) (x0 x1 x2 : Int) (b : Int) (hb : b ≠ 0) (hr : has3 x0 x1 x2 0 = true) :
    Calls Try.prog 18 #[.pointer (some ⟨tb, 0, none⟩), rv (x0, x1, x2), .int .u8 b] w fun e w' =>
      e = .returned (.tuple #[.int .i64 (-1), .bool false]) ∧ Below w.heap.size w w' := by
  have hth := fun w' hb => Lib.hid (there_any (h.below (w' := w') hb))
  clear h
  have hb1 : (b == 0) = false := by simpa using hb
  simp only [rv]
  go_enter Try.func18, Try.ntmps18
  have hb0 : Below w.heap.size w ((w.alloc (.cells #[.pointer (some ⟨tb, 0, none⟩)] 49)).alloc (.cells #[.int .u32 x0, .int .u32 x1, .int .u32 x2] 37)) := ((Below.refl _ w).alloc (Nat.le_refl _) _).alloc (by simp) _
  go_wp2_with fail
  refine (hth _ hb0).out.mono ?_
  rintro e w' ⟨rfl, rfl⟩
  have hX := bx2 w (.pointer (some ⟨tb, 0, none⟩)) 49 37 x0 x1 x2
  clear hth
  generalize hW : ((w.alloc (.cells #[.pointer (some ⟨tb, 0, none⟩)] 49)).alloc (.cells #[.int .u32 x0, .int .u32 x1, .int .u32 x2] 37)) = W at *
  have cc := Lib.hid (contains3 _ _ x0 x1 x2 0 hX.r0 hX.r1 hX.r2)
  rw [hr] at cc
  have ca := hX.c
  go_wp2_with (go_at_call 35; refine cc.out.mono ?_; rintro e w' ⟨rfl, rfl⟩)
  go_ret2
  exact ⟨rfl, hb0⟩

set_option maxRecDepth 100000 in
set_option maxHeartbeats 2000000 in
theorem add_old (h : IsT Z w tb T D) (hZ : Z.opn w.heap.size) (x0 x1 x2 : Int) (b : Int) (hb : b ≠ 0) (hr : has3 x0 x1 x2 0 = false) (hro : rok (x0, x1, x2)) (n : Nat) (hn : idx T (x0, x1, x2) = some n) :
    Calls Try.prog 18 #[.pointer (some ⟨tb, 0, none⟩), rv (x0, x1, x2), .int .u8 b] w fun e w' =>
      e = .returned (.tuple #[.int .i64 n, .bool (bitsOf T n == 0)]) ∧ IsT Z w' tb (setB T n (bits .or .u8 (bitsOf T n) b)) D ∧ Fr Z w w' := by
  obtain ⟨hnl, hnr⟩ := idx_lt hn
  have hv : T[n].2 = bitsOf T n := by simp [bitsOf, hnl]
  obtain ⟨v, hvv⟩ : ∃ v, bitsOf T n = v := ⟨_, rfl⟩
  rw [hvv] at hv ⊢
  have hth := fun w' hb => Lib.hid (there_any (h.below (w' := w') hb))
  have hIs := fun w' hb => Lib.hid (h.below (w' := w') hb)
  have hlt := h.lt
  have hl := h.long
  clear h
  have hb1 : (b == 0) = false := by simpa using hb
  simp only [rv]
  go_enter Try.func18, Try.ntmps18
  have hb0 : Below w.heap.size w ((w.alloc (.cells #[.pointer (some ⟨tb, 0, none⟩)] 49)).alloc (.cells #[.int .u32 x0, .int .u32 x1, .int .u32 x2] 37)) := ((Below.refl _ w).alloc (Nat.le_refl _) _).alloc (by simp) _
  go_wp2_with fail
  refine (hth _ hb0).out.mono ?_
  rintro e w' ⟨rfl, rfl⟩
  have hX := bx2 w (.pointer (some ⟨tb, 0, none⟩)) 49 37 x0 x1 x2
  clear hth
  generalize hW : ((w.alloc (.cells #[.pointer (some ⟨tb, 0, none⟩)] 49)).alloc (.cells #[.int .u32 x0, .int .u32 x1, .int .u32 x2] 37)) = W at *
  have cc := Lib.hid (contains3 _ _ x0 x1 x2 0 hX.r0 hX.r1 hX.r2)
  rw [hr] at cc
  have hW := (hIs W hb0).out
  have ca := hX.c
  have c2 := hW.c2
  have r0 := hX.r0
  have r1 := hX.r1
  have r2 := hX.r2
  have hne : W.heap.size ≠ tb := by have := hb0.size; omega
  have hq : ∀ w', Below W.heap.size W w' → (Instr.lookup 77 (.map (some D.bf)) (.agg #[.int .u32 x0, .int .u32 x1, .int .u32 x2]) true).run Try.prog w' = .ok (.tuple #[.int .i64 n, .bool true]) w' := by
    intro w' hb
    have := (hW.below hb).find.look kysR Try.underlying77 (Try.zeroInt _) true hro
    simp only [idxF, hn] at this
    exact this
  have hq1 := hq W.drew (Below.refl _ _).drew
  have hq2 := hq (W.alloc (.cells #[.int .i64 0] 3)).drew ((Below.refl _ _).alloc (Nat.le_refl _) _).drew
  have hq3 := hq (W.alloc (.cells #[.int .i64 n] 3)).drew ((Below.refl _ _).alloc (Nat.le_refl _) _).drew
  have ka : ∀ o, (W.alloc o).cell? ⟨w.heap.size, 0, none⟩ = _ := fun o => cell_later ((Below.refl _ _).alloc (Nat.le_refl _) o) ca
  have k2 : ∀ o, (W.alloc o).cell? ⟨tb, 2, none⟩ = _ := fun o => cell_later ((Below.refl _ _).alloc (Nat.le_refl _) o) c2
  have k3 : ∀ o, (W.alloc o).cell? ⟨w.heap.size + 1, 0, none⟩ = _ := fun o => cell_later ((Below.refl _ _).alloc (Nat.le_refl _) o) r0
  have k4 : ∀ o, (W.alloc o).cell? ⟨w.heap.size + 1, 1, none⟩ = _ := fun o => cell_later ((Below.refl _ _).alloc (Nat.le_refl _) o) r1
  have k5 : ∀ o, (W.alloc o).cell? ⟨w.heap.size + 1, 2, none⟩ = _ := fun o => cell_later ((Below.refl _ _).alloc (Nat.le_refl _) o) r2
  have hltW : tb < W.heap.size := hW.lt
  have hl0 : w.heap.size < W.heap.size := by have := hX.size; omega
  have hl1 : w.heap.size + 1 < W.heap.size := by have := hX.size; omega
  have hz : W.heap.size = w.heap.size + 2 := hX.size
  clear hq
  go_wp2_with (go_at_call 35; refine cc.out.mono ?_; rintro e w' ⟨rfl, rfl⟩)
  go_region
  all_goals
    go_wp2_with fail
    have hB3 : Below W.heap.size W (W.alloc (.cells #[.int .i64 n] 3)).drew := ((Below.refl _ _).alloc (Nat.le_refl _) _).drew
    have n3 : (W.alloc (.cells #[.int .i64 n] 3)).drew.cell? ⟨W.heap.size, 0, none⟩ = some (.int .i64 n) := (cell_new1 W (.int .i64 n) 3).1
    have z3 : (W.alloc (.cells #[.int .i64 n] 3)).drew.heap.size = W.heap.size + 1 := World.size_alloc _ _
    clear hq1 hq2 hq3 ka k2 k3 k4 k5 c2 r0 r1 r2
    generalize hW3 : (W.alloc (.cells #[.int .i64 n] 3)).drew = W3 at *
    clear hW3
    have a3 := cell_later hB3 ca
    have hI3 := hW.below hB3
    obtain ⟨gb, capb, hvb, hgb, b3, f3, hWb⟩ := hI3.bit n hnl
    have c3 := hI3.c1
    rw [hvb] at c3
    rw [hv] at b3
    have hbb := hb0.size
    have hch := Lib.hid (change_any (((hIs _ (Below.refl _ w)).out.gap (N' := W3.heap.size) (Nat.le_refl _)).below (hb0.trans ((hB3.drew).mono (by omega)))) n hnl (bits .or .u8 v b) (is8_or _ _))
    rw [hv] at hch
    have hFrB : Fr Z w W3.drew := .of_below (hb0.trans ((hB3.drew).mono (by omega)))
    obtain ⟨l, hll⟩ : ∃ l, T.length = l := ⟨_, rfl⟩
    have hnl' : n < l := by omega
    have hl' : l ≤ 1000000 := by omega
    rw [hll] at c3
    rw [hz] at n3
    have Hz := Lib.hid hz; have Hz3 := Lib.hid z3; have Hbb := Lib.hid hbb
    clear hz z3 hbb
    clear hX hW hI3 hIs hvb hv hvv cc hn hr hro hb
    have hB4 : W3.drew.cell? ⟨w.heap.size, 0, none⟩ = some (.pointer (some ⟨tb, 0, none⟩)) ∧ W3.drew.cell? ⟨w.heap.size + 2, 0, none⟩ = some (.int .i64 (n : Int)) := ⟨a3, n3⟩
    have hC4 : W3.drew.cell? ⟨tb, 1, none⟩ = some (.slice (some ⟨gb, 0, none⟩) l capb) ∧ W3.drew.cell? ⟨gb, n, none⟩ = some (.int .u8 v) := ⟨c3, b3⟩
    obtain ⟨S, hSe⟩ : ∃ S : Array Bool → World → Prop, S = fun L w' => (w'.cell? ⟨w.heap.size, 0, none⟩ = some (.pointer (some ⟨tb, 0, none⟩)) ∧ w'.cell? ⟨w.heap.size + 2, 0, none⟩ = some (.int .i64 (n : Int))) ∧ (L.getD 12 true = false → w'.cell? ⟨tb, 1, none⟩ = some (.slice (some ⟨gb, 0, none⟩) l capb) ∧ w'.cell? ⟨gb, n, none⟩ = some (.int .u8 v)) := ⟨_, rfl⟩
    have hdrop : ∀ i, i ≠ 12 → ∀ L w', S (L.setIfInBounds i true) w' → S L w' := by
      intro i hi L w'
      rw [hSe]
      intro h
      exact ⟨h.1, fun hl => h.2 (by rw [getD_set_ne true hi]; exact hl)⟩
    have hS : ∀ L, L.getD 12 true = false → S L W3.drew := by
      intro L hl
      rw [hSe]
      exact ⟨hB4, fun _ => hC4⟩
    have hbx : ∀ L w', S L w' → w'.cell? ⟨w.heap.size, 0, none⟩ = some (.pointer (some ⟨tb, 0, none⟩)) ∧ w'.cell? ⟨w.heap.size + 2, 0, none⟩ = some (.int .i64 (n : Int)) := by
      intro L w' h
      rw [hSe] at h; exact h.1
    have hbit : ∀ L w', S L w' → L.getD 12 true = false → w'.cell? ⟨tb, 1, none⟩ = some (.slice (some ⟨gb, 0, none⟩) l capb) ∧ w'.cell? ⟨gb, n, none⟩ = some (.int .u8 v) := by
      intro L w' h hl
      rw [hSe] at h; exact h.2 hl
    refine wp_region_L S 15 #[false, false, false, false, false, false, false, false, false, false, false, false, false, false, false] (by kernel_rfl) (by kernel_rfl) rfl ?_
    refine WA.tk (i := 0) (v := .int .i64 (n : Int)) rfl (hdrop 0 (by decide)) (Or.inl ⟨by rfl, ?_⟩) (hS _ (by rfl)) ?_
    · rintro w' ⟨L, hL, hSw, hun⟩
      obtain ⟨q1, q2⟩ := hbx _ _ hSw
      go_simp
    simp only [nA, nB, nC, Act.put, nD, nE, nF]
    refine WA.tk (i := 1) (v := .pointer (some ⟨tb, 0, none⟩)) rfl (hdrop 1 (by decide)) (Or.inl ⟨by rfl, ?_⟩) (hS _ (by rfl)) ?_
    · rintro w' ⟨L, hL, hSw, hun⟩
      obtain ⟨q1, q2⟩ := hbx _ _ hSw
      go_simp
    simp only [nA, nB, nC, Act.put, nD, nE, nF]
    refine WA.tk (i := 2) (v := .int .i64 (n : Int)) rfl (hdrop 2 (by decide)) (Or.inl ⟨by rfl, ?_⟩) (hS _ (by rfl)) ?_
    · rintro w' ⟨L, hL, hSw, hun⟩
      obtain ⟨q1, q2⟩ := hbx _ _ hSw
      go_simp
    simp only [nA, nB, nC, Act.put, nD, nE, nF]
    refine WA.tk (i := 3) (v := .pointer (some ⟨tb, 0, none⟩)) rfl (hdrop 3 (by decide)) (Or.inl ⟨by rfl, ?_⟩) (hS _ (by rfl)) ?_
    · rintro w' ⟨L, hL, hSw, hun⟩
      obtain ⟨q1, q2⟩ := hbx _ _ hSw
      go_simp
    simp only [nA, nB, nC, Act.put, nD, nE, nF]
    refine WA.tk (i := 4) (v := .pointer (some ⟨tb, 0, none⟩)) rfl (hdrop 4 (by decide)) (Or.inl ⟨by rfl, ?_⟩) (hS _ (by rfl)) ?_
    · rintro w' ⟨L, hL, hSw, hun⟩
      go_simp
    simp only [nA, nB, nC, Act.put, nD, nE, nF]
    refine WA.tk (i := 5) (v := .pointer (some ⟨tb, 1, none⟩)) rfl (hdrop 5 (by decide)) (Or.inl ⟨by rfl, ?_⟩) (hS _ (by rfl)) ?_
    · rintro w' ⟨L, hL, hSw, hun⟩
      go_simp
    simp only [nA, nB, nC, Act.put, nD, nE, nF]
    refine WA.tk (i := 6) (v := .slice (some ⟨gb, 0, none⟩) l capb) rfl (hdrop 6 (by decide)) (Or.inl ⟨by rfl, ?_⟩) (hS _ (by rfl)) ?_
    · rintro w' ⟨L, hL, hSw, hun⟩
      obtain ⟨q1, q2⟩ := hbit _ _ hSw (hL.wait 12 11 (by kernel_rfl) (hL.wait 11 9 (by kernel_rfl) (hL.wait 9 8 (by kernel_rfl) (hL.wait 8 6 (by kernel_rfl) hun))))
      go_simp
    simp only [nA, nB, nC, Act.put, nD, nE, nF]
    refine WA.tk (i := 7) (v := .int .i64 (n : Int)) rfl (hdrop 7 (by decide)) (Or.inl ⟨by rfl, ?_⟩) (hS _ (by rfl)) ?_
    · rintro w' ⟨L, hL, hSw, hun⟩
      obtain ⟨q1, q2⟩ := hbx _ _ hSw
      go_simp
    simp only [nA, nB, nC, Act.put, nD, nE, nF]
    refine WA.tk (i := 8) (v := .pointer (some ⟨gb, n, none⟩)) rfl (hdrop 8 (by decide)) (Or.inl ⟨by rfl, ?_⟩) (hS _ (by rfl)) ?_
    · rintro w' ⟨L, hL, hSw, hun⟩
      go_simp
    simp only [nA, nB, nC, Act.put, nD, nE, nF]
    refine WA.tk (i := 9) (v := .int .u8 v) rfl (hdrop 9 (by decide)) (Or.inl ⟨by rfl, ?_⟩) (hS _ (by rfl)) ?_
    · rintro w' ⟨L, hL, hSw, hun⟩
      obtain ⟨q1, q2⟩ := hbit _ _ hSw (hL.wait 12 11 (by kernel_rfl) (hL.wait 11 9 (by kernel_rfl) hun))
      go_simp
    simp only [nA, nB, nC, Act.put, nD, nE, nF]
    refine WA.tk (i := 10) (v := .int .u8 b) rfl (hdrop 10 (by decide)) (Or.inl ⟨by rfl, ?_⟩) (hS _ (by rfl)) ?_
    · rintro w' ⟨L, hL, hSw, hun⟩
      go_simp
    simp only [nA, nB, nC, Act.put, nD, nE, nF]
    refine WA.tk (i := 11) (v := .int .u8 (bits .or .u8 v b)) rfl (hdrop 11 (by decide)) (Or.inl ⟨by rfl, ?_⟩) (hS _ (by rfl)) ?_
    · rintro w' ⟨L, hL, hSw, hun⟩
      go_simp
    simp only [nA, nB, nC, Act.put, nD, nE, nF]
    have hS1 : ∀ w1 : World, (w1.cell? ⟨w.heap.size, 0, none⟩ = some (.pointer (some ⟨tb, 0, none⟩)) ∧ w1.cell? ⟨w.heap.size + 2, 0, none⟩ = some (.int .i64 (n : Int))) → ∀ L, L.getD 12 true = true → S L w1 := by
      intro w1 h1 L hl
      rw [hSe]
      exact ⟨h1, fun h => by rw [hl] at h; cases h⟩
    clear hS hbit hbx hSe
    refine WA.one (i := 12) (by kernel_rfl) rfl (by rfl) (fun K hK => ?_)
    go_simp
    refine hch.out.mono ?_
    rintro e w1 ⟨rfl, s1, s2⟩
    have hz := Hz.out; have z3 := Hz3.out; have hbb := Hbb.out
    have S1 := Lib.hid (s1.back (by omega) hZ)
    have S2 := Lib.hid (hFrB.trans ((s2.back (by omega) hZ)))
    have k1 : w1.cell? ⟨w.heap.size, 0, none⟩ = some (.pointer (some ⟨tb, 0, none⟩)) := (World.cell?_of_block (w := W3.drew) (a := ⟨w.heap.size, 0, none⟩) (s2.between (Nat.le_refl _) (by simp <;> omega) (by simp <;> omega))).trans a3
    have k2 : w1.cell? ⟨w.heap.size + 2, 0, none⟩ = some (.int .i64 n) := (World.cell?_of_block (w := W3.drew) (a := ⟨w.heap.size + 2, 0, none⟩) (s2.between (by simp <;> omega) (by simp <;> omega) (by simp <;> omega))).trans n3
    clear s1 s2 hz z3 hbb
    have hS := hS1 w1 ⟨k1, k2⟩
    clear hS1
    refine hK _ _ (hS _ (by rfl)) ?_
    clear hK
    try simp only [nA, nB, nC, Act.put, nD, nE, nF]
    refine WA.tk (i := 13) (v := .int .i64 (n : Int)) rfl (hdrop 13 (by decide)) (Or.inl ⟨by rfl, ?_⟩) (hS _ (by rfl)) ?_
    · rintro w' ⟨L, hL, hSw, hun⟩
      go_simp
    simp only [nA, nB, nC, Act.put, nD, nE, nF]
    refine WA.tk (i := 14) (v := .bool (v == 0)) rfl (hdrop 14 (by decide)) (Or.inl ⟨by rfl, ?_⟩) (hS _ (by rfl)) ?_
    · rintro w' ⟨L, hL, hSw, hun⟩
      go_simp
    simp only [nA, nB, nC, Act.put, nD, nE, nF]
    refine WA.done (by kernel_rfl) ?_ _
    go_wp2
    go_ret2
    exact ⟨rfl, S1.out, S2.out⟩
end
end Go.Proofs.Ytghihhjcoilmgaa.T
