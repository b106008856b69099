/- Layer 14: open. -/
import Derived.Test.YtkgkkbfpkgfcaaaJ8
import Derived.Test.YtkgkkbfpkgfcaaaS2
namespace Go.Proofs.Ytkgkkbfpkgfcaaa
set_option maxRecDepth 100000
open Go.RowKit Go.Maps
attribute [local go_sem] Oper.semAt_some
set_option linter.unusedVariables false
set_option linter.unusedSimpArgs false

/-- the cells of rows -/
def rws (l : List R3) : List Value := l.flatMap fun y => [.int .u32 y.1, .int .u32 y.2.1, .int .u32 y.2.2]
theorem rws_snoc (l : List R3) (y : R3) : rws (l ++ [y]) = rws l ++ [.int .u32 y.1, .int .u32 y.2.1, .int .u32 y.2.2] := by simp [rws]
/-- which variables a step binds -/
def ownStep (L : List Int) (own : List Nat) (x : Pl) : List Nat := if 0 ≤ x.1 ∧ L.getD x.1.toNat 0 = 0 ∧ x.1.toNat ∉ own then own ++ [x.1.toNat] else own
def ownOf (L : List Int) (s : StepT) : List Nat := [s.r0, s.r1, s.r2].foldl (ownStep L) []
def stepRows (T : TS) (L : List Int) (s : StepT) (fr tu b : Int) : List R3 := (mlist T (lookP L s) fr tu b).map (rowOf T)
/-- a step lies in the slice at the address -/
structure IsStep (w : World) (sb so i : Nat) (s : StepT) : Prop where
  lt : sb < w.heap.size
  c0 : w.cell? ⟨sb, so + i * 11, none⟩ = some (.int .i64 s.kind)
  c1 : w.cell? ⟨sb, so + i * 11 + 1, none⟩ = some (.int .i64 s.r0.1)
  c2 : w.cell? ⟨sb, so + i * 11 + 2, none⟩ = some (.int .u32 s.r0.2)
  c3 : w.cell? ⟨sb, so + i * 11 + 3, none⟩ = some (.int .i64 s.r1.1)
  c4 : w.cell? ⟨sb, so + i * 11 + 4, none⟩ = some (.int .u32 s.r1.2)
  c5 : w.cell? ⟨sb, so + i * 11 + 5, none⟩ = some (.int .i64 s.r2.1)
  c6 : w.cell? ⟨sb, so + i * 11 + 6, none⟩ = some (.int .u32 s.r2.2)
  c7 : w.cell? ⟨sb, so + i * 11 + 7, none⟩ = some (.int .i64 s.a.1)
  c8 : w.cell? ⟨sb, so + i * 11 + 8, none⟩ = some (.int .u32 s.a.2)
  c9 : w.cell? ⟨sb, so + i * 11 + 9, none⟩ = some (.int .i64 s.b.1)
  c10 : w.cell? ⟨sb, so + i * 11 + 10, none⟩ = some (.int .u32 s.b.2)
/-- a view lies there -/
structure IsView (w : World) (vb vo i : Nat) (fr tu b : Int) : Prop where
  lt : vb < w.heap.size
  c0 : w.cell? ⟨vb, vo + i * 3, none⟩ = some (.int .i64 fr)
  c1 : w.cell? ⟨vb, vo + i * 3 + 1, none⟩ = some (.int .i64 tu)
  c2 : w.cell? ⟨vb, vo + i * 3 + 2, none⟩ = some (.int .u8 b)
theorem ownStep_neg {L : List Int} {own : List Nat} {v i : Int} (h : v < 0) : ownStep L own (v, i) = own := by unfold ownStep; rw [if_neg (fun h' => by have := h'.1; simp at this; omega)]
theorem ownStep_new {L : List Int} {own : List Nat} {k : Nat} {i : Int} (hk : k < L.length) (h : L[k] = 0) (hn : k ∉ own) : ownStep L own ((k : Int), i) = own ++ [k] := by unfold ownStep; rw [if_pos ⟨by simp, by simp [hk, h], by simpa using hn⟩]; simp
theorem ownStep_in {L : List Int} {own : List Nat} {k : Nat} {i : Int} (hn : k ∈ own) : ownStep L own ((k : Int), i) = own := by unfold ownStep; rw [if_neg (fun h' => h'.2.2 (by simpa using hn))]
theorem ownStep_old {L : List Int} {own : List Nat} {k : Nat} {i : Int} (hk : k < L.length) (h : L[k] ≠ 0) : ownStep L own ((k : Int), i) = own := by unfold ownStep; rw [if_neg (fun h' => h (by have := h'.2.1; simpa [hk] using this))]
theorem ownStep_len (L : List Int) (own : List Nat) (x : Pl) : (ownStep L own x).length ≤ own.length + 1 := by unfold ownStep; split <;> simp
theorem IsI.below {w w' : World} {a : Option Addr} {L : List Nat} (h : IsI w a L) (hb : Below w.heap.size w w') : IsI w' a L := by
  intro j hj
  obtain ⟨b, off, h1, h2, h3⟩ := h j hj
  exact ⟨b, off, h1, Nat.lt_of_lt_of_le h2 hb.size, cell_later hb h3⟩
theorem own_ne {W : World} {base e size n : Nat} {v : Value} {xs : List Value} (h : W.ownsRow base e size v n xs) {b : Nat} {cur : Array Value} {t : TypeId} {fz : Nat × Nat} (hb : W.heap[b]? = some (.cells cur t fz)) (ht : t ≠ e) : v.ownBlock ≠ some b := by
  intro hv
  rcases h.2 with ⟨rfl, _⟩ | ⟨g, cap, cur', rfl, _, hg, _⟩
  · cases hv
  · obtain rfl : g = b := by simpa [Value.ownBlock] using hv
    rw [hg] at hb; injection hb with hb; injection hb with _ h2; exact ht h2.symm
theorem own_ltJ {w : World} {B e size n : Nat} {v : Value} {xs : List Value} (h : w.ownsRow B e size v n xs) (g : Nat) (hg : v.ownBlock = some g) : B ≤ g ∧ ∃ cur fz, w.heap[g]? = some (.cells cur e fz) := by
  rcases h.2 with ⟨rfl, _⟩ | ⟨g', cap, cur, rfl, hb, h1, _⟩
  · cases hg
  · obtain rfl : g' = g := by simpa [Value.ownBlock] using hg
    exact ⟨hb, cur, _, h1⟩
theorem jown_blk {w w' : World} {B e size n : Nat} {v : Value} {xs : List Value} (h : w.ownsRow B e size v n xs) (hb : ∀ g, v.ownBlock = some g → w'.heap[g]? = w.heap[g]?) : w'.ownsRow B e size v n xs := by
  refine ⟨h.1, ?_⟩
  rcases h.2 with h' | ⟨g, cap, cur, rfl, h1, h2, h3⟩
  · exact .inl h'
  · exact .inr ⟨g, cap, cur, rfl, h1, (hb g rfl).trans h2, h3⟩
theorem jown_slice {w : World} {B e size n : Nat} {v : Value} {xs : List Value} (h : w.ownsRow B e size v n xs) (hn : 0 < n) : ∃ g cap, v = .slice (some ⟨g, 0, none⟩) n cap := by
  rcases h.2 with ⟨_, h0⟩ | ⟨g, cap, cur, rfl, _⟩
  · omega
  · exact ⟨g, cap, rfl⟩
theorem lev_cell {W : World} {b : Nat} {x y z : Value} {t : TypeId} (h : W.heap[b]? = some (.cells #[x, y, z] t (0, 0))) : W.cell? ⟨b, 2, none⟩ = some z ∧ W.frozen? ⟨b, 2, none⟩ = false := by
  unfold World.cell? World.frozen?
  rw [h]
  exact ⟨rfl, by simp⟩
theorem lev_cell1 {W : World} {b : Nat} {x y z : Value} {t : TypeId} (h : W.heap[b]? = some (.cells #[x, y, z] t (0, 0))) : W.cell? ⟨b, 1, none⟩ = some y ∧ W.frozen? ⟨b, 1, none⟩ = false := by
  unfold World.cell? World.frozen?
  rw [h]
  exact ⟨rfl, by simp⟩
theorem own_keepC {w w' : World} {B e size n : Nat} {v : Value} {xs : List Value} (h : w.ownsRow B e size v n xs) (hb : ∀ (i : Nat) (cur : Array Value) (t : TypeId) (fz : Nat × Nat), w.heap[i]? = some (.cells cur t fz) → w'.heap[i]? = some (.cells cur t fz)) : w'.ownsRow B e size v n xs :=
  jown_blk h (fun g hg => by
    obtain ⟨_, cur, fz, h1⟩ := own_ltJ h g hg
    exact (hb _ _ _ _ h1).trans h1.symm)
theorem own_anyJ {w : World} {B e size n : Nat} {v : Value} {xs : List Value} (h : w.ownsRow B e size v n xs) : ∃ a c, v = .slice a n c := by
  rcases h.2 with ⟨rfl, h0⟩ | ⟨g, cap, cur, rfl, _⟩
  · exact ⟨none, 0, by rw [h0]⟩
  · exact ⟨_, cap, rfl⟩
theorem own_formB {w : World} {base : Nat} {v : Value} {L : List Nat} (h : w.ownsRow base 3 1 v L.length (ics L)) : ∃ ao cap, v = .slice ao L.length cap ∧ IsI w ao L := by
  rcases h.2 with ⟨rfl, h0⟩ | ⟨g, cap, cur, rfl, hb, hg, h1, h2, h3, h4⟩
  · exact ⟨none, 0, by rw [h0], fun j hj => by omega⟩
  · refine ⟨some ⟨g, 0, none⟩, cap, rfl, fun j hj => ⟨g, 0, rfl, (Array.getElem?_eq_some_iff.1 hg).1, ?_⟩⟩
    have := h.cells (g := g) rfl j _ (ics_get L j hj)
    rw [show (⟨g, 0, none⟩ : Addr).add j = ⟨g, j, none⟩ by unfold Addr.add; split <;> simp_all] at this
    rw [Nat.zero_add]
    exact this
section
variable {Z : Zone} {w : World} {tb : Nat} {T : TS} {D : TabD}
set_option maxRecDepth 100000 in
set_option maxHeartbeats 8000000 in
theorem open_any {wb vb : Nat} {L : List Int} (ht : IsT Z w tb T D) (h : WkV w wb vb L) (hlen : L.length ≤ 1000000) (hp : w.cell? ⟨wb, 0, none⟩ = some (.pointer (some ⟨tb, 0, none⟩))) (s : StepT) (i n cap sb so va vo vcap : Nat)
    (hst : w.cell? ⟨wb, 7, none⟩ = some (.slice (some ⟨sb, so, none⟩) n cap)) (hi : i < n) (hn : n ≤ 1000000) (hstep : IsStep w sb so i s) (hv : w.cell? ⟨wb, 9, none⟩ = some (.slice (some ⟨va, vo, none⟩) n vcap)) (fr tu bt : Int) (hview : IsView w va vo i fr tu bt)
    (hs : s.r0.1 < L.length ∧ s.r1.1 < L.length ∧ s.r2.1 < L.length) (hr : rok (lookP L s)) :
    CallsIn Fence.wide 9 Try.prog 33 #[.pointer (some ⟨wb, 0, none⟩), .int .i64 (i : Nat)] w fun e w' => ∃ rs os, e = .returned (.agg #[.int .i64 (i : Nat), rs, os]) ∧ Below w.heap.size w w' ∧
      w'.ownsRow w.heap.size 58 3 rs (stepRows T L s fr tu bt).length (rws (stepRows T L s fr tu bt)) ∧ w'.ownsRow w.heap.size 3 1 os (ownOf L s).length (ics (ownOf L s)) := by
  obtain ⟨kk, ⟨a0, i0⟩, ⟨a1, i1⟩, ⟨a2, i2⟩, ⟨a3, i3⟩, ⟨a4, i4⟩⟩ := s
  have H := Lib.hid h; have Ht := Lib.hid ht; have Hr := Lib.hid hr; have Hlen := Lib.hid hlen
  have Hs0 := Lib.hid hs.1; have Hs1 := Lib.hid hs.2.1; have Hs2 := Lib.hid hs.2.2
  have hlt := ht.lt
  have hlong := ht.long
  obtain ⟨hsl, e0, e1, e2, e3, e4, e5, e6, e7, e8, e9, e10⟩ := hstep
  obtain ⟨hvl, f0, f1, f2⟩ := hview
  simp only at e0 e1 e2 e3 e4 e5 e6 e7 e8 e9 e10
  clear h ht hr hs hlen
  have hfn : ∀ k, Fence.wide.fn k := fun _ => trivial
  have hbA : Below w.heap.size w (w.alloc (.cells #[.int .i64 0, .slice none 0 0, .slice none 0 0] 102)) := (Below.refl _ w).alloc (Nat.le_refl _) _
  have hzA : (w.alloc (.cells #[.int .i64 0, .slice none 0 0, .slice none 0 0] 102)).heap.size = w.heap.size + 1 := World.size_alloc _ _
  have HbA := Lib.hid hbA; have HzA := Lib.hid hzA; have HbX := Lib.hid (World.alloc_heap_new w (.cells #[.int .i64 0, .slice none 0 0, .slice none 0 0] 102))
  clear hbA hzA
  refine callsIn_of_wp_marks Try.func33 rfl trivial ?_ rfl
  refine wpIn_wide.2 ?_
  simp only [Try.ntmps33, List.size_toArray, List.length_cons, List.length_nil, Nat.reduceAdd, Nat.reduceSub, Array.replicate_succ, Array.replicate_zero, List.push_toArray, List.append_toArray, List.nil_append, List.cons_append]
  go_wp2_with fail
  generalize hW : w.alloc (.cells #[.int .i64 0, .slice none 0 0, .slice none 0 0] 102) = W at *
  clear hW
  go_cut [5, 6] from 12 to 26 (fun u5 u6 wx => ∃ b5 b6 : Nat, u5 = .pointer (some ⟨b5, 0, none⟩) ∧ u6 = .pointer (some ⟨b6, 0, none⟩) ∧ b5 ≠ b6 ∧ W.heap.size ≤ b5 ∧ W.heap.size ≤ b6 ∧ wx.heap[b5]? = some (.cells #[.int .i64 kk, .int .i64 a0, .int .u32 i0, .int .i64 a1, .int .u32 i1, .int .i64 a2, .int .u32 i2, .int .i64 a3, .int .u32 i3, .int .i64 a4, .int .u32 i4] 35 (0, 0)) ∧ wx.heap[b6]? = some (.cells #[.int .i64 fr, .int .i64 tu, .int .u8 bt] 42 (0, 0)) ∧ Below W.heap.size W wx)
  case first =>
    have HBW := Lib.hid HbA.out
    have hst : W.drew.cell? ⟨wb, 7, none⟩ = _ := cell_later HbA.out.drew hst
    have hv : W.drew.cell? ⟨wb, 9, none⟩ = _ := cell_later HbA.out.drew hv
    have e0 : W.drew.cell? ⟨sb, so + i * 11, none⟩ = _ := cell_later HbA.out.drew e0
    have e1 : W.drew.cell? ⟨sb, so + i * 11 + 1, none⟩ = _ := cell_later HbA.out.drew e1
    have e2 : W.drew.cell? ⟨sb, so + i * 11 + 2, none⟩ = _ := cell_later HbA.out.drew e2
    have e3 : W.drew.cell? ⟨sb, so + i * 11 + 3, none⟩ = _ := cell_later HbA.out.drew e3
    have e4 : W.drew.cell? ⟨sb, so + i * 11 + 4, none⟩ = _ := cell_later HbA.out.drew e4
    have e5 : W.drew.cell? ⟨sb, so + i * 11 + 5, none⟩ = _ := cell_later HbA.out.drew e5
    have e6 : W.drew.cell? ⟨sb, so + i * 11 + 6, none⟩ = _ := cell_later HbA.out.drew e6
    have e7 : W.drew.cell? ⟨sb, so + i * 11 + 7, none⟩ = _ := cell_later HbA.out.drew e7
    have e8 : W.drew.cell? ⟨sb, so + i * 11 + 8, none⟩ = _ := cell_later HbA.out.drew e8
    have e9 : W.drew.cell? ⟨sb, so + i * 11 + 9, none⟩ = _ := cell_later HbA.out.drew e9
    have e10 : W.drew.cell? ⟨sb, so + i * 11 + 10, none⟩ = _ := cell_later HbA.out.drew e10
    have f0 : W.drew.cell? ⟨va, vo + i * 3, none⟩ = _ := cell_later HbA.out.drew f0
    have f1 : W.drew.cell? ⟨va, vo + i * 3 + 1, none⟩ = _ := cell_later HbA.out.drew f1
    have f2 : W.drew.cell? ⟨va, vo + i * 3 + 2, none⟩ = _ := cell_later HbA.out.drew f2
    obtain ⟨S1, hSe⟩ : ∃ S : Array Bool → World → Prop, S = fun _ w' => Below W.drew.heap.size W.drew w' := ⟨_, rfl⟩
    have hdrop : ∀ i : Nat, ∀ L w', S1 (L.setIfInBounds i true) w' → S1 L w' := by
      intro i L w' h; rw [hSe] at h ⊢; exact h
    have hS : ∀ L, S1 L W.drew := by intro L; rw [hSe]; exact Below.refl _ _
    have hSo : ∀ {L w'}, S1 L w' → Below W.drew.heap.size W.drew w' := by intro L w' h; rw [hSe] at h; exact h
    have hSi : ∀ {w'}, Below W.drew.heap.size W.drew w' → ∀ L, S1 L w' := by intro w' h L; rw [hSe]; exact h
    clear hSe
    refine wp_region_LN S1 19 #[false, false, false, false, false, false, false, false, false, false, false, false, false, false, false, false, false, false, false] (by kernel_rfl) (by kernel_rfl) rfl ?_
    have HD := Lib.hid (show W.drew.heap.size = W.heap.size from rfl)
    have B0 := Lib.hid (show Below W.heap.size W W.drew from (Below.refl _ W).drew)
    obtain ⟨X, hX⟩ : ∃ X, X = W.drew := ⟨_, rfl⟩
    rw [← hX] at hst hv e0 e1 e2 e3 e4 e5 e6 e7 e8 e9 e10 f0 f1 f2 hSo hSi hS HD B0 ⊢
    clear hX
    refine WA.take (i := 0) (v := .pointer (some ⟨wb, 0, none⟩)) rfl (by kernel_rfl) (by kernel_rfl) (by kernel_rfl) (fun _ _ _ h => h) (hdrop 0) (Or.inl ⟨by rfl, ?_⟩) (hS _) ?_
    · rintro w' ⟨L, hL, hSw, hun⟩
      go_simp
    simp only [List.getElem_toArray, List.getElem_cons_zero, List.getElem_cons_succ, Act.put, List.setIfInBounds_toArray, List.set_cons_zero, List.set_cons_succ]
    refine WA.take (i := 1) (v := .pointer (some ⟨wb, 0, none⟩)) rfl (by kernel_rfl) (by kernel_rfl) (by kernel_rfl) (fun _ _ _ h => h) (hdrop 1) (Or.inl ⟨by rfl, ?_⟩) (hS _) ?_
    · rintro w' ⟨L, hL, hSw, hun⟩
      go_simp
    simp only [List.getElem_toArray, List.getElem_cons_zero, List.getElem_cons_succ, Act.put, List.setIfInBounds_toArray, List.set_cons_zero, List.set_cons_succ]
    refine WA.take (i := 2) (v := .pointer (some ⟨wb, 1, none⟩)) rfl (by kernel_rfl) (by kernel_rfl) (by kernel_rfl) (fun _ _ _ h => h) (hdrop 2) (Or.inl ⟨by rfl, ?_⟩) (hS _) ?_
    · rintro w' ⟨L, hL, hSw, hun⟩
      go_simp
    simp only [List.getElem_toArray, List.getElem_cons_zero, List.getElem_cons_succ, Act.put, List.setIfInBounds_toArray, List.set_cons_zero, List.set_cons_succ]
    refine WA.take (i := 3) (v := .pointer (some ⟨wb, 7, none⟩)) rfl (by kernel_rfl) (by kernel_rfl) (by kernel_rfl) (fun _ _ _ h => h) (hdrop 3) (Or.inl ⟨by rfl, ?_⟩) (hS _) ?_
    · rintro w' ⟨L, hL, hSw, hun⟩
      go_simp
    simp only [List.getElem_toArray, List.getElem_cons_zero, List.getElem_cons_succ, Act.put, List.setIfInBounds_toArray, List.set_cons_zero, List.set_cons_succ]
    refine WA.take (i := 4) (v := .slice (some ⟨sb, so, none⟩) n cap) rfl (by kernel_rfl) (by kernel_rfl) (by kernel_rfl) (fun _ _ _ h => h) (hdrop 4) (Or.inl ⟨by rfl, ?_⟩) (hS _) ?_
    · rintro w' ⟨L, hL, hSw, hun⟩
      have hbw := hSo hSw
      have hst := cell_later hbw hst
      clear hbw
      go_simp
    simp only [List.getElem_toArray, List.getElem_cons_zero, List.getElem_cons_succ, Act.put, List.setIfInBounds_toArray, List.set_cons_zero, List.set_cons_succ]
    refine WA.take (i := 5) (v := .int .i64 (i : Nat)) rfl (by kernel_rfl) (by kernel_rfl) (by kernel_rfl) (fun _ _ _ h => h) (hdrop 5) (Or.inl ⟨by rfl, ?_⟩) (hS _) ?_
    · rintro w' ⟨L, hL, hSw, hun⟩
      go_simp
    simp only [List.getElem_toArray, List.getElem_cons_zero, List.getElem_cons_succ, Act.put, List.setIfInBounds_toArray, List.set_cons_zero, List.set_cons_succ]
    refine WA.take (i := 6) (v := .pointer (some ⟨sb, so + i * 11, none⟩)) rfl (by kernel_rfl) (by kernel_rfl) (by kernel_rfl) (fun _ _ _ h => h) (hdrop 6) (Or.inl ⟨by rfl, ?_⟩) (hS _) ?_
    · rintro w' ⟨L, hL, hSw, hun⟩
      go_simp
    simp only [List.getElem_toArray, List.getElem_cons_zero, List.getElem_cons_succ, Act.put, List.setIfInBounds_toArray, List.set_cons_zero, List.set_cons_succ]
    refine WA.take (i := 7) (v := .agg #[.int .i64 kk, .int .i64 a0, .int .u32 i0, .int .i64 a1, .int .u32 i1, .int .i64 a2, .int .u32 i2, .int .i64 a3, .int .u32 i3, .int .i64 a4, .int .u32 i4]) rfl (by kernel_rfl) (by kernel_rfl) (by kernel_rfl) (fun _ _ _ h => h) (hdrop 7) (Or.inl ⟨by rfl, ?_⟩) (hS _) ?_
    · rintro w' ⟨L, hL, hSw, hun⟩
      have hbw := hSo hSw
      have e0 := cell_later hbw e0
      have e1 := cell_later hbw e1
      have e2 := cell_later hbw e2
      have e3 := cell_later hbw e3
      have e4 := cell_later hbw e4
      have e5 := cell_later hbw e5
      have e6 := cell_later hbw e6
      have e7 := cell_later hbw e7
      have e8 := cell_later hbw e8
      have e9 := cell_later hbw e9
      have e10 := cell_later hbw e10
      clear hbw
      go_simp
    simp only [List.getElem_toArray, List.getElem_cons_zero, List.getElem_cons_succ, Act.put, List.setIfInBounds_toArray, List.set_cons_zero, List.set_cons_succ]
    refine WA.take (i := 8) (v := .pointer (some ⟨wb, 0, none⟩)) rfl (by kernel_rfl) (by kernel_rfl) (by kernel_rfl) (fun _ _ _ h => h) (hdrop 8) (Or.inl ⟨by rfl, ?_⟩) (hS _) ?_
    · rintro w' ⟨L, hL, hSw, hun⟩
      go_simp
    simp only [List.getElem_toArray, List.getElem_cons_zero, List.getElem_cons_succ, Act.put, List.setIfInBounds_toArray, List.set_cons_zero, List.set_cons_succ]
    refine WA.take (i := 9) (v := .pointer (some ⟨wb, 0, none⟩)) rfl (by kernel_rfl) (by kernel_rfl) (by kernel_rfl) (fun _ _ _ h => h) (hdrop 9) (Or.inl ⟨by rfl, ?_⟩) (hS _) ?_
    · rintro w' ⟨L, hL, hSw, hun⟩
      go_simp
    simp only [List.getElem_toArray, List.getElem_cons_zero, List.getElem_cons_succ, Act.put, List.setIfInBounds_toArray, List.set_cons_zero, List.set_cons_succ]
    refine WA.take (i := 10) (v := .pointer (some ⟨wb, 9, none⟩)) rfl (by kernel_rfl) (by kernel_rfl) (by kernel_rfl) (fun _ _ _ h => h) (hdrop 10) (Or.inl ⟨by rfl, ?_⟩) (hS _) ?_
    · rintro w' ⟨L, hL, hSw, hun⟩
      go_simp
    simp only [List.getElem_toArray, List.getElem_cons_zero, List.getElem_cons_succ, Act.put, List.setIfInBounds_toArray, List.set_cons_zero, List.set_cons_succ]
    refine WA.take (i := 11) (v := .slice (some ⟨va, vo, none⟩) n vcap) rfl (by kernel_rfl) (by kernel_rfl) (by kernel_rfl) (fun _ _ _ h => h) (hdrop 11) (Or.inl ⟨by rfl, ?_⟩) (hS _) ?_
    · rintro w' ⟨L, hL, hSw, hun⟩
      have hbw := hSo hSw
      have hv := cell_later hbw hv
      clear hbw
      go_simp
    simp only [List.getElem_toArray, List.getElem_cons_zero, List.getElem_cons_succ, Act.put, List.setIfInBounds_toArray, List.set_cons_zero, List.set_cons_succ]
    refine WA.take (i := 12) (v := .int .i64 (i : Nat)) rfl (by kernel_rfl) (by kernel_rfl) (by kernel_rfl) (fun _ _ _ h => h) (hdrop 12) (Or.inl ⟨by rfl, ?_⟩) (hS _) ?_
    · rintro w' ⟨L, hL, hSw, hun⟩
      go_simp
    simp only [List.getElem_toArray, List.getElem_cons_zero, List.getElem_cons_succ, Act.put, List.setIfInBounds_toArray, List.set_cons_zero, List.set_cons_succ]
    refine WA.take (i := 13) (v := .pointer (some ⟨va, vo + i * 3, none⟩)) rfl (by kernel_rfl) (by kernel_rfl) (by kernel_rfl) (fun _ _ _ h => h) (hdrop 13) (Or.inl ⟨by rfl, ?_⟩) (hS _) ?_
    · rintro w' ⟨L, hL, hSw, hun⟩
      go_simp
    simp only [List.getElem_toArray, List.getElem_cons_zero, List.getElem_cons_succ, Act.put, List.setIfInBounds_toArray, List.set_cons_zero, List.set_cons_succ]
    refine WA.take (i := 14) (v := .agg #[.int .i64 fr, .int .i64 tu, .int .u8 bt]) rfl (by kernel_rfl) (by kernel_rfl) (by kernel_rfl) (fun _ _ _ h => h) (hdrop 14) (Or.inl ⟨by rfl, ?_⟩) (hS _) ?_
    · rintro w' ⟨L, hL, hSw, hun⟩
      have hbw := hSo hSw
      have f0 := cell_later hbw f0
      have f1 := cell_later hbw f1
      have f2 := cell_later hbw f2
      clear hbw
      go_simp
    simp only [List.getElem_toArray, List.getElem_cons_zero, List.getElem_cons_succ, Act.put, List.setIfInBounds_toArray, List.set_cons_zero, List.set_cons_succ]
    refine WA.all (rs := [15, 16]) (by kernel_rfl) (by simp) ?_
    intro i hi
    rcases (show i = 15 ∨ i = 16 by simpa using hi) with rfl | rfl
    · refine wpOp_go rfl (by rfl) (fun K hK => ?_)
      go_simp
      obtain ⟨hBt, hzt, h1, h2⟩ := two_blocks X (.cells #[.int .i64 0, .int .i64 0, .int .u32 0, .int .i64 0, .int .u32 0, .int .i64 0, .int .u32 0, .int .i64 0, .int .u32 0, .int .i64 0, .int .u32 0] 35) (.cells #[.int .i64 0, .int .i64 0, .int .u8 0] 42) _ rfl
      have hB1 : Below X.heap.size X (X.alloc (.cells #[.int .i64 0, .int .i64 0, .int .u32 0, .int .i64 0, .int .u32 0, .int .i64 0, .int .u32 0, .int .i64 0, .int .u32 0, .int .i64 0, .int .u32 0] 35)) := (Below.refl _ X).alloc (Nat.le_refl _) _
      refine hK _ _ ⟨hSi hB1 _, ?_⟩
      clear hK hi
      try simp only [List.getElem_toArray, List.getElem_cons_zero, List.getElem_cons_succ, Act.put, List.setIfInBounds_toArray, List.set_cons_zero, List.set_cons_succ]
      refine WA.one (i := 16) (by kernel_rfl) rfl (by rfl) (fun K hK => ?_)
      go_simp
      refine hK _ _ (hSi hBt _) ?_
      clear hK
      try simp only [List.getElem_toArray, List.getElem_cons_zero, List.getElem_cons_succ, Act.put, List.setIfInBounds_toArray, List.set_cons_zero, List.set_cons_succ]
      refine WA.one (i := 17) (by kernel_rfl) rfl (by rfl) (fun K hK => ?_)
      go_simp
      refine hK _ _ (hSi (two_blocks X (.cells #[.int .i64 kk, .int .i64 a0, .int .u32 i0, .int .i64 a1, .int .u32 i1, .int .i64 a2, .int .u32 i2, .int .i64 a3, .int .u32 i3, .int .i64 a4, .int .u32 i4] 35) (.cells #[.int .i64 0, .int .i64 0, .int .u8 0] 42) _ rfl).1 _) ?_
      clear hK
      try simp only [List.getElem_toArray, List.getElem_cons_zero, List.getElem_cons_succ, Act.put, List.setIfInBounds_toArray, List.set_cons_zero, List.set_cons_succ]
      refine WA.one (i := 18) (by kernel_rfl) rfl (by rfl) (fun K hK => ?_)
      go_simp
      obtain ⟨hBu, hzu, g1, g2⟩ := two_blocks X (.cells #[.int .i64 kk, .int .i64 a0, .int .u32 i0, .int .i64 a1, .int .u32 i1, .int .i64 a2, .int .u32 i2, .int .i64 a3, .int .u32 i3, .int .i64 a4, .int .u32 i4] 35) (.cells #[.int .i64 fr, .int .i64 tu, .int .u8 bt] 42) _ rfl
      refine hK _ _ (hSi hBu _) ?_
      clear hK
      try simp only [List.getElem_toArray, List.getElem_cons_zero, List.getElem_cons_succ, Act.put, List.setIfInBounds_toArray, List.set_cons_zero, List.set_cons_succ]
      obtain ⟨Y, hY⟩ : ∃ Y, Y = (X.alloc (.cells #[.int .i64 kk, .int .i64 a0, .int .u32 i0, .int .i64 a1, .int .u32 i1, .int .i64 a2, .int .u32 i2, .int .i64 a3, .int .u32 i3, .int .i64 a4, .int .u32 i4] 35)).alloc (.cells #[.int .i64 fr, .int .i64 tu, .int .u8 bt] 42) := ⟨_, rfl⟩
      rw [← hY] at hBu hzu g1 g2 ⊢
      clear hY
      refine WA.done (by kernel_rfl) ?_ _
      refine Nrm.normal ?_
      clear hSo hSi hS hdrop
      clear S1
      go_wp2_with fail
      go_meet
      exact ⟨X.heap.size, X.heap.size + 1, rfl, rfl, by omega, by have := B0.out.size; omega, by have := B0.out.size; omega, g1, g2, B0.out.trans (hBu.mono B0.out.size)⟩
      skip
    · refine wpOp_go rfl (by rfl) (fun K hK => ?_)
      go_simp
      obtain ⟨hBt, hzt, h1, h2⟩ := two_blocks X (.cells #[.int .i64 0, .int .i64 0, .int .u8 0] 42) (.cells #[.int .i64 0, .int .i64 0, .int .u32 0, .int .i64 0, .int .u32 0, .int .i64 0, .int .u32 0, .int .i64 0, .int .u32 0, .int .i64 0, .int .u32 0] 35) _ rfl
      have hB1 : Below X.heap.size X (X.alloc (.cells #[.int .i64 0, .int .i64 0, .int .u8 0] 42)) := (Below.refl _ X).alloc (Nat.le_refl _) _
      refine hK _ _ ⟨hSi hB1 _, ?_⟩
      clear hK hi
      try simp only [List.getElem_toArray, List.getElem_cons_zero, List.getElem_cons_succ, Act.put, List.setIfInBounds_toArray, List.set_cons_zero, List.set_cons_succ]
      refine WA.one (i := 15) (by kernel_rfl) rfl (by rfl) (fun K hK => ?_)
      go_simp
      refine hK _ _ (hSi hBt _) ?_
      clear hK
      try simp only [List.getElem_toArray, List.getElem_cons_zero, List.getElem_cons_succ, Act.put, List.setIfInBounds_toArray, List.set_cons_zero, List.set_cons_succ]
      refine WA.one (i := 17) (by kernel_rfl) rfl (by rfl) (fun K hK => ?_)
      go_simp
      refine hK _ _ (hSi (two_blocks X (.cells #[.int .i64 0, .int .i64 0, .int .u8 0] 42) (.cells #[.int .i64 kk, .int .i64 a0, .int .u32 i0, .int .i64 a1, .int .u32 i1, .int .i64 a2, .int .u32 i2, .int .i64 a3, .int .u32 i3, .int .i64 a4, .int .u32 i4] 35) _ rfl).1 _) ?_
      clear hK
      try simp only [List.getElem_toArray, List.getElem_cons_zero, List.getElem_cons_succ, Act.put, List.setIfInBounds_toArray, List.set_cons_zero, List.set_cons_succ]
      refine WA.one (i := 18) (by kernel_rfl) rfl (by rfl) (fun K hK => ?_)
      go_simp
      obtain ⟨hBu, hzu, g1, g2⟩ := two_blocks X (.cells #[.int .i64 fr, .int .i64 tu, .int .u8 bt] 42) (.cells #[.int .i64 kk, .int .i64 a0, .int .u32 i0, .int .i64 a1, .int .u32 i1, .int .i64 a2, .int .u32 i2, .int .i64 a3, .int .u32 i3, .int .i64 a4, .int .u32 i4] 35) _ rfl
      refine hK _ _ (hSi hBu _) ?_
      clear hK
      try simp only [List.getElem_toArray, List.getElem_cons_zero, List.getElem_cons_succ, Act.put, List.setIfInBounds_toArray, List.set_cons_zero, List.set_cons_succ]
      obtain ⟨Y, hY⟩ : ∃ Y, Y = (X.alloc (.cells #[.int .i64 fr, .int .i64 tu, .int .u8 bt] 42)).alloc (.cells #[.int .i64 kk, .int .i64 a0, .int .u32 i0, .int .i64 a1, .int .u32 i1, .int .i64 a2, .int .u32 i2, .int .i64 a3, .int .u32 i3, .int .i64 a4, .int .u32 i4] 35) := ⟨_, rfl⟩
      rw [← hY] at hBu hzu g1 g2 ⊢
      clear hY
      refine WA.done (by kernel_rfl) ?_ _
      refine Nrm.normal ?_
      clear hSo hSi hS hdrop
      clear S1
      go_wp2_with fail
      go_meet
      exact ⟨X.heap.size + 1, X.heap.size, rfl, rfl, by omega, by have := B0.out.size; omega, by have := B0.out.size; omega, g2, g1, B0.out.trans (hBu.mono B0.out.size)⟩
      skip
  case rest =>
    obtain ⟨b5, b6, rfl, rfl, h56, hg5, hg6, h5, h6, hB1⟩ := hcut
    have hB2 : Below w.heap.size w wc := HbA.out.trans (hB1.mono (by have := HzA.out; omega))
    have hbx : wc.heap[w.heap.size]? = some (.cells #[.int .i64 0, .slice none 0 0, .slice none 0 0] 102 (0, 0)) := (hB1.block _ (by have := HzA.out; omega)).trans HbX.out
    have hB3 : Below wc.heap.size wc (wc.alloc (.cells #[.int .i64 (i : Nat), .slice none 0 0, .slice none 0 0] 102)) := (Below.refl _ wc).alloc (Nat.le_refl _) _
    have hb7 := World.alloc_heap_new wc (.cells #[.int .i64 (i : Nat), .slice none 0 0, .slice none 0 0] 102)
    have hn5 := (hB3.block _ (Array.getElem?_eq_some_iff.1 h5).1).trans h5
    have hn6 := (hB3.block _ (Array.getElem?_eq_some_iff.1 h6).1).trans h6
    have hnx := (hB3.block _ (Array.getElem?_eq_some_iff.1 hbx).1).trans hbx
    obtain ⟨d1, d2, d3, d4, d5, d6⟩ : (wc.alloc (.cells #[.int .i64 (i : Nat), .slice none 0 0, .slice none 0 0] 102)).cell? ⟨b5, 1, none⟩ = some (.int .i64 a0) ∧ (wc.alloc (.cells #[.int .i64 (i : Nat), .slice none 0 0, .slice none 0 0] 102)).cell? ⟨b5, 2, none⟩ = some (.int .u32 i0) ∧ (wc.alloc (.cells #[.int .i64 (i : Nat), .slice none 0 0, .slice none 0 0] 102)).cell? ⟨b5, 3, none⟩ = some (.int .i64 a1) ∧ (wc.alloc (.cells #[.int .i64 (i : Nat), .slice none 0 0, .slice none 0 0] 102)).cell? ⟨b5, 4, none⟩ = some (.int .u32 i1) ∧ (wc.alloc (.cells #[.int .i64 (i : Nat), .slice none 0 0, .slice none 0 0] 102)).cell? ⟨b5, 5, none⟩ = some (.int .i64 a2) ∧ (wc.alloc (.cells #[.int .i64 (i : Nat), .slice none 0 0, .slice none 0 0] 102)).cell? ⟨b5, 6, none⟩ = some (.int .u32 i2) := by
      unfold World.cell?; rw [hn5]; exact ⟨rfl, rfl, rfl, rfl, rfl, rfl⟩
    have HB3 := Lib.hid (hB2.trans (hB3.mono hB2.size))
    have Hn5 := Lib.hid hn5; have Hn6 := Lib.hid hn6; have Hnx := Lib.hid hnx; have Hn7 := Lib.hid hb7
    have Hz7 := Lib.hid (show w.heap.size < b5 ∧ w.heap.size < b6 ∧ b5 < wc.heap.size ∧ b6 < wc.heap.size from ⟨by have := HzA.out; omega, by have := HzA.out; omega, (Array.getElem?_eq_some_iff.1 h5).1, (Array.getElem?_eq_some_iff.1 h6).1⟩)
    have Hz8 := Lib.hid (show (wc.alloc (.cells #[.int .i64 (i : Nat), .slice none 0 0, .slice none 0 0] 102)).heap.size = wc.heap.size + 1 from World.size_alloc _ _)
    clear hB1 hB2 hB3 h5 h6 hbx hn5 hn6 hnx hb7 hst hv e0 e1 e2 e3 e4 e5 e6 e7 e8 e9 e10 f0 f1 f2 hg5 hg6
    obtain ⟨ii, hii, hzz0, hzz1, hzz2⟩ := info_parts Try.infoInt
    have Hi := Lib.hid hii; have Hj0 := Lib.hid hzz0; have Hj1 := Lib.hid hzz1; have Hj2 := Lib.hid hzz2
    clear hii hzz0 hzz1 hzz2
    go_wp2_with fail
    obtain ⟨W3, hW3⟩ : ∃ W3, W3 = wc.alloc (.cells #[.int .i64 (i : Nat), .slice none 0 0, .slice none 0 0] 102) := ⟨_, rfl⟩
    obtain ⟨b7, hb7⟩ : ∃ b7, b7 = wc.heap.size := ⟨_, rfl⟩
    rw [← hW3] at HB3 Hn5 Hn6 Hnx Hn7 Hz8 ⊢
    rw [← hb7] at Hn7 Hz7 Hz8 ⊢
    clear hW3 hb7 d1 d2 d3 d4 d5 d6
    go_loopw [31] (fun u wr => ∃ (k : Nat) (own : List Nat) (ov : Value), k ≤ 3 ∧ u = .int .i64 k ∧ own = (([(a0, i0), (a1, i1), (a2, i2)] : List Pl).take k).foldl (ownStep L) [] ∧ own.length ≤ k ∧ Below w.heap.size w wr ∧ W3.heap.size ≤ wr.heap.size ∧
      wr.heap[w.heap.size]? = some (.cells #[.int .i64 0, .slice none 0 0, .slice none 0 0] 102 (0, 0)) ∧ wr.heap[b5]? = some (.cells #[.int .i64 kk, .int .i64 a0, .int .u32 i0, .int .i64 a1, .int .u32 i1, .int .i64 a2, .int .u32 i2, .int .i64 a3, .int .u32 i3, .int .i64 a4, .int .u32 i4] 35 (0, 0)) ∧ wr.heap[b6]? = some (.cells #[.int .i64 fr, .int .i64 tu, .int .u8 bt] 42 (0, 0)) ∧ wr.heap[b7]? = some (.cells #[.int .i64 (i : Nat), .slice none 0 0, ov] 102 (0, 0)) ∧ wr.ownsRow w.heap.size 3 1 ov own.length (ics own)) (fun u _ => 3 - (intOf u).toNat)
    case atStart => exact ⟨0, [], _, by omega, rfl, rfl, by simp, HB3.out, Nat.le_refl _, Hnx.out, Hn5.out, Hn6.out, Hn7.out, World.ownsRow_nil _ _ _ _⟩
    case round =>
      obtain ⟨k, own, ov, hk, rfl, hown, hol, hB, hsz, hx, h5, h6, h7, hor⟩ := hrel
      obtain ⟨oa, ocap, rfl, hoc⟩ := own_formB hor
      have HB := Lib.hid hB; have Hsz := Lib.hid hsz; have Hx := Lib.hid hx; have H5 := Lib.hid h5; have H6 := Lib.hid h6; have H7 := Lib.hid h7; have Hor := Lib.hid hor; have Hown := Lib.hid hown
      clear hB hsz hx h5 h6 h7 hor hown
      by_cases hk3 : k < 3
      · have hd : decide ((k : Int) < 3) = true := by simp; omega
        obtain ⟨v, iv, hpl, hvl, hix⟩ : ∃ v iv : Int, ([(a0, i0), (a1, i1), (a2, i2)] : List Pl)[k]? = some (v, iv) ∧ v < L.length ∧ (Instr.index 26 (.agg #[.int .i64 a0, .int .u32 i0, .int .i64 a1, .int .u32 i1, .int .i64 a2, .int .u32 i2]) (.int .i64 (k : Int))).run Try.prog wr = .ok (.agg #[.int .i64 v, .int .u32 iv]) wr := by
          rcases (show k = 0 ∨ k = 1 ∨ k = 2 by omega) with rfl | rfl | rfl
          · exact ⟨a0, i0, rfl, Hs0.out, (idx_pl a0 i0 a1 i1 a2 i2 wr).1⟩
          · exact ⟨a1, i1, rfl, Hs1.out, (idx_pl a0 i0 a1 i1 a2 i2 wr).2.1⟩
          · exact ⟨a2, i2, rfl, Hs2.out, (idx_pl a0 i0 a1 i1 a2 i2 wr).2.2⟩
        have hnx : (([(a0, i0), (a1, i1), (a2, i2)] : List Pl).take (k + 1)).foldl (ownStep L) [] = ownStep L own (v, iv) := by
          rw [List.take_add_one, hpl, List.foldl_append, Hown.out]; rfl
        have Hnx := Lib.hid hnx
        have hbn : Below wr.heap.size wr (wr.alloc (.cells #[.int .i64 v, .int .u32 iv] 25)) := (Below.refl _ wr).alloc (Nat.le_refl _) _
        have hbn0 := World.alloc_heap_new wr (.cells #[.int .i64 v, .int .u32 iv] 25)
        clear hnx hpl
        go_wp2_with fail
        obtain ⟨W9, hW9⟩ : ∃ W9, W9 = wr.alloc (.cells #[.int .i64 v, .int .u32 iv] 25) := ⟨_, rfl⟩
        obtain ⟨b9, hb9⟩ : ∃ b9, b9 = wr.heap.size := ⟨_, rfl⟩
        rw [← hW9] at hbn hbn0 ⊢
        rw [← hb9] at hbn0 ⊢
        obtain ⟨on, hon⟩ : ∃ on, own.length = on := ⟨_, rfl⟩
        obtain ⟨ln, hln⟩ : ∃ ln, L.length = ln := ⟨_, rfl⟩
        have Hon := Lib.hid hon; have Hln := Lib.hid hln
        have hlen := Hlen.out
        rw [hln] at hvl hlen
        have hor := Hor.out
        rw [hon] at H7 hor hol
        have Hvl := Lib.hid hvl
        have hbX : Below wr.heap.size wr W9.drew := hbn.drew
        have c10 : W9.drew.cell? ⟨wb, 10, none⟩ = some (.slice (some ⟨vb, 0, none⟩) ln ln) := by rw [← hln]; exact cell_later (HB.out.trans (hbX.mono HB.out.size)) H.out.c
        have cb : W9.drew.cell? ⟨b9, 0, none⟩ = some (.int .i64 v) := by show W9.cell? _ = _; unfold World.cell?; rw [hbn0]; rfl
        have c72 : W9.drew.cell? ⟨b7, 2, none⟩ = some (.slice oa on ocap) := cell_later hbX (by unfold World.cell?; rw [H7.out]; rfl)
        obtain ⟨X, hX⟩ : ∃ X, X = W9.drew := ⟨_, rfl⟩
        have hoX := IsI.below hoc hbX
        have horX : W9.drew.ownsRow w.heap.size 3 1 (.slice oa on ocap) own.length (ics own) := by
          rw [← hon]; exact own_below Hor.out hbX
        rw [← hX] at hbX c10 cb c72 hoX horX
        have hz9 : X.heap.size = wr.heap.size + 1 := by rw [hX]; show W9.heap.size = _; rw [hW9, World.size_alloc]
        have HbX9 := Lib.hid hbX; have HoI := Lib.hid hoX; have Hor9 := Lib.hid horX; have HX := Lib.hid hX
        have Kc9 := Lib.hid (show ∀ (i : Nat) (cur : Array Value) (t : TypeId) (fz : Nat × Nat), wr.heap[i]? = some (.cells cur t fz) → X.heap[i]? = some (.cells cur t fz) from fun i cur t fz h => (hbX.block i (Array.getElem?_eq_some_iff.1 h).1).trans h)
        have Hz9 := Lib.hid hz9; have Hb9 := Lib.hid hb9
        clear hor hln hvl hon hoc hbn hbn0 hbX hX hW9 hoX horX hz9 hb9
        by_cases hv : v < 0
        · have hd0 : decide (v ≥ 0) = false := by simp; omega
          obtain ⟨S6, hSe⟩ : ∃ S : Array Bool → World → Prop, S = fun _ w' => w' = X := ⟨_, rfl⟩
          have hdrop : ∀ i : Nat, i ≠ 1000 → ∀ L w', S6 (L.setIfInBounds i true) w' → S6 L w' := by
            intro i _ L w' h; rw [hSe] at h ⊢; exact h
          have hS : ∀ L, S6 L X := by intro L; rw [hSe]
          have hSo : ∀ {L w'}, S6 L w' → w' = X := by intro L w' h; rw [hSe] at h; exact h
          clear hSe
          refine wp_region_LN S6 22 #[false, false, false, false, false, false, false, false, false, false, false, false, false, false, false, false, false, false, false, false, false, false] (by kernel_rfl) (by kernel_rfl) rfl ?_
          rw [← HX.out]
          refine WA.take (i := 0) (v := .pointer (some ⟨b9, 0, none⟩)) rfl (by kernel_rfl) (by kernel_rfl) (by kernel_rfl) (fun _ _ _ h => h) (hdrop 0 (by decide)) (Or.inl ⟨by rfl, ?_⟩) (hS _) ?_
          · rintro w' ⟨L, hL, hSw, hun⟩
            go_simp
          simp only [List.getElem_toArray, List.getElem_cons_zero, List.getElem_cons_succ, Act.put, List.setIfInBounds_toArray, List.set_cons_zero, List.set_cons_succ]
          refine WA.take (i := 1) (v := .int .i64 v) rfl (by kernel_rfl) (by kernel_rfl) (by kernel_rfl) (fun _ _ _ h => h) (hdrop 1 (by decide)) (Or.inl ⟨by rfl, ?_⟩) (hS _) ?_
          · rintro w' ⟨L, hL, hSw, hun⟩
            obtain rfl := hSo hSw 
            go_simp
          simp only [List.getElem_toArray, List.getElem_cons_zero, List.getElem_cons_succ, Act.put, List.setIfInBounds_toArray, List.set_cons_zero, List.set_cons_succ]
          refine WA.take (i := 2) (v := .bool false) rfl (by kernel_rfl) (by kernel_rfl) (by kernel_rfl) (fun _ _ _ h => h) (hdrop 2 (by decide)) (Or.inl ⟨by rfl, ?_⟩) (hS _) ?_
          · rintro w' ⟨L, hL, hSw, hun⟩
            go_simp
          simp only [List.getElem_toArray, List.getElem_cons_zero, List.getElem_cons_succ, Act.put, List.setIfInBounds_toArray, List.set_cons_zero, List.set_cons_succ]
          refine WA.take (i := 3) (v := .bool false) rfl (by kernel_rfl) (by kernel_rfl) (by kernel_rfl) (fun _ _ _ h => h) (hdrop 3 (by decide)) (Or.inl ⟨by rfl, ?_⟩) (hS _) ?_
          · rintro w' ⟨L, hL, hSw, hun⟩
            go_simp
          simp only [List.getElem_toArray, List.getElem_cons_zero, List.getElem_cons_succ, Act.put, List.setIfInBounds_toArray, List.set_cons_zero, List.set_cons_succ]
          refine WA.take (i := 4) (v := undef) rfl (by kernel_rfl) (by kernel_rfl) (by kernel_rfl) (fun _ _ _ h => h) (hdrop 4 (by decide)) (Or.inr ⟨by rfl, rfl⟩) (hS _) ?_
          simp only [List.getElem_toArray, List.getElem_cons_zero, List.getElem_cons_succ, Act.put, List.setIfInBounds_toArray, List.set_cons_zero, List.set_cons_succ]
          refine WA.take (i := 5) (v := undef) rfl (by kernel_rfl) (by kernel_rfl) (by kernel_rfl) (fun _ _ _ h => h) (hdrop 5 (by decide)) (Or.inr ⟨by rfl, rfl⟩) (hS _) ?_
          simp only [List.getElem_toArray, List.getElem_cons_zero, List.getElem_cons_succ, Act.put, List.setIfInBounds_toArray, List.set_cons_zero, List.set_cons_succ]
          refine WA.take (i := 6) (v := undef) rfl (by kernel_rfl) (by kernel_rfl) (by kernel_rfl) (fun _ _ _ h => h) (hdrop 6 (by decide)) (Or.inr ⟨by rfl, rfl⟩) (hS _) ?_
          simp only [List.getElem_toArray, List.getElem_cons_zero, List.getElem_cons_succ, Act.put, List.setIfInBounds_toArray, List.set_cons_zero, List.set_cons_succ]
          refine WA.take (i := 7) (v := undef) rfl (by kernel_rfl) (by kernel_rfl) (by kernel_rfl) (fun _ _ _ h => h) (hdrop 7 (by decide)) (Or.inr ⟨by rfl, rfl⟩) (hS _) ?_
          simp only [List.getElem_toArray, List.getElem_cons_zero, List.getElem_cons_succ, Act.put, List.setIfInBounds_toArray, List.set_cons_zero, List.set_cons_succ]
          refine WA.take (i := 8) (v := undef) rfl (by kernel_rfl) (by kernel_rfl) (by kernel_rfl) (fun _ _ _ h => h) (hdrop 8 (by decide)) (Or.inr ⟨by rfl, rfl⟩) (hS _) ?_
          simp only [List.getElem_toArray, List.getElem_cons_zero, List.getElem_cons_succ, Act.put, List.setIfInBounds_toArray, List.set_cons_zero, List.set_cons_succ]
          refine WA.take (i := 9) (v := undef) rfl (by kernel_rfl) (by kernel_rfl) (by kernel_rfl) (fun _ _ _ h => h) (hdrop 9 (by decide)) (Or.inr ⟨by rfl, rfl⟩) (hS _) ?_
          simp only [List.getElem_toArray, List.getElem_cons_zero, List.getElem_cons_succ, Act.put, List.setIfInBounds_toArray, List.set_cons_zero, List.set_cons_succ]
          refine WA.take (i := 10) (v := undef) rfl (by kernel_rfl) (by kernel_rfl) (by kernel_rfl) (fun _ _ _ h => h) (hdrop 10 (by decide)) (Or.inr ⟨by rfl, rfl⟩) (hS _) ?_
          simp only [List.getElem_toArray, List.getElem_cons_zero, List.getElem_cons_succ, Act.put, List.setIfInBounds_toArray, List.set_cons_zero, List.set_cons_succ]
          refine WA.take (i := 11) (v := undef) rfl (by kernel_rfl) (by kernel_rfl) (by kernel_rfl) (fun _ _ _ h => h) (hdrop 11 (by decide)) (Or.inr ⟨by rfl, rfl⟩) (hS _) ?_
          simp only [List.getElem_toArray, List.getElem_cons_zero, List.getElem_cons_succ, Act.put, List.setIfInBounds_toArray, List.set_cons_zero, List.set_cons_succ]
          refine WA.take (i := 12) (v := undef) rfl (by kernel_rfl) (by kernel_rfl) (by kernel_rfl) (fun _ _ _ h => h) (hdrop 12 (by decide)) (Or.inr ⟨by rfl, rfl⟩) (hS _) ?_
          simp only [List.getElem_toArray, List.getElem_cons_zero, List.getElem_cons_succ, Act.put, List.setIfInBounds_toArray, List.set_cons_zero, List.set_cons_succ]
          refine WA.take (i := 13) (v := .bool false) rfl (by kernel_rfl) (by kernel_rfl) (by kernel_rfl) (fun _ _ _ h => h) (hdrop 13 (by decide)) (Or.inl ⟨by rfl, ?_⟩) (hS _) ?_
          · rintro w' ⟨L, hL, hSw, hun⟩
            go_simp
          simp only [List.getElem_toArray, List.getElem_cons_zero, List.getElem_cons_succ, Act.put, List.setIfInBounds_toArray, List.set_cons_zero, List.set_cons_succ]
          refine WA.take (i := 14) (v := .bool false) rfl (by kernel_rfl) (by kernel_rfl) (by kernel_rfl) (fun _ _ _ h => h) (hdrop 14 (by decide)) (Or.inl ⟨by rfl, ?_⟩) (hS _) ?_
          · rintro w' ⟨L, hL, hSw, hun⟩
            go_simp
          simp only [List.getElem_toArray, List.getElem_cons_zero, List.getElem_cons_succ, Act.put, List.setIfInBounds_toArray, List.set_cons_zero, List.set_cons_succ]
          refine WA.take (i := 15) (v := undef) rfl (by kernel_rfl) (by kernel_rfl) (by kernel_rfl) (fun _ _ _ h => h) (hdrop 15 (by decide)) (Or.inr ⟨by rfl, rfl⟩) (hS _) ?_
          simp only [List.getElem_toArray, List.getElem_cons_zero, List.getElem_cons_succ, Act.put, List.setIfInBounds_toArray, List.set_cons_zero, List.set_cons_succ]
          refine WA.take (i := 16) (v := undef) rfl (by kernel_rfl) (by kernel_rfl) (by kernel_rfl) (fun _ _ _ h => h) (hdrop 16 (by decide)) (Or.inr ⟨by rfl, rfl⟩) (hS _) ?_
          simp only [List.getElem_toArray, List.getElem_cons_zero, List.getElem_cons_succ, Act.put, List.setIfInBounds_toArray, List.set_cons_zero, List.set_cons_succ]
          refine WA.take (i := 17) (v := undef) rfl (by kernel_rfl) (by kernel_rfl) (by kernel_rfl) (fun _ _ _ h => h) (hdrop 17 (by decide)) (Or.inr ⟨by rfl, rfl⟩) (hS _) ?_
          simp only [List.getElem_toArray, List.getElem_cons_zero, List.getElem_cons_succ, Act.put, List.setIfInBounds_toArray, List.set_cons_zero, List.set_cons_succ]
          refine WA.take (i := 18) (v := undef) rfl (by kernel_rfl) (by kernel_rfl) (by kernel_rfl) (fun _ _ _ h => h) (hdrop 18 (by decide)) (Or.inr ⟨by rfl, rfl⟩) (hS _) ?_
          simp only [List.getElem_toArray, List.getElem_cons_zero, List.getElem_cons_succ, Act.put, List.setIfInBounds_toArray, List.set_cons_zero, List.set_cons_succ]
          refine WA.skip (i := 19) (by kernel_rfl) rfl (by rfl) (hS _) ?_
          simp only [List.getElem_toArray, List.getElem_cons_zero, List.getElem_cons_succ, Act.put, List.setIfInBounds_toArray, List.set_cons_zero, List.set_cons_succ]
          refine WA.take (i := 20) (v := undef) rfl (by kernel_rfl) (by kernel_rfl) (by kernel_rfl) (fun _ _ _ h => h) (hdrop 20 (by decide)) (Or.inr ⟨by rfl, rfl⟩) (hS _) ?_
          simp only [List.getElem_toArray, List.getElem_cons_zero, List.getElem_cons_succ, Act.put, List.setIfInBounds_toArray, List.set_cons_zero, List.set_cons_succ]
          refine WA.take (i := 21) (v := .bool false) rfl (by kernel_rfl) (by kernel_rfl) (by kernel_rfl) (fun _ _ _ h => h) (hdrop 21 (by decide)) (Or.inl ⟨by rfl, ?_⟩) (hS _) ?_
          · rintro w' ⟨L, hL, hSw, hun⟩
            go_simp
          simp only [List.getElem_toArray, List.getElem_cons_zero, List.getElem_cons_succ, Act.put, List.setIfInBounds_toArray, List.set_cons_zero, List.set_cons_succ]
          refine WA.done (by kernel_rfl) ?_ _
          refine Nrm.normal ?_
          clear hSo hS hdrop
          clear S6
          go_wp2_with fail
          have hB9 := HB.out.trans (HbX9.out.mono HB.out.size)
          refine ⟨⟨k + 1, own, .slice oa on ocap, by omega, by push_cast; rfl, ?_, by have := Hon.out; omega, hB9, Nat.le_trans Hsz.out HbX9.out.size, Kc9.out _ _ _ _ Hx.out, Kc9.out _ _ _ _ H5.out, Kc9.out _ _ _ _ H6.out, Kc9.out _ _ _ _ H7.out, Hor9.out⟩, by simp [intOf]; omega⟩
          rw [Hnx.out]
          exact (ownStep_neg hv).symm
        · obtain ⟨m, rfl⟩ : ∃ m : Nat, v = m := ⟨v.toNat, by omega⟩
          have hd0 : decide ((m : Int) ≥ 0) = true := by simp
          have hml : m < ln := by have := Hvl.out; omega
          have hmL : m < L.length := by have := Hln.out; omega
          obtain ⟨u, hu⟩ : ∃ u, L[m] = u := ⟨_, rfl⟩
          have cv : X.cell? ⟨vb, m, none⟩ = some (.int .u32 u) := by rw [← hu]; exact cell_later (HB.out.trans (HbX9.out.mono HB.out.size)) (H.out.v m hmL)
          have Hu := Lib.hid hu; have HmL := Lib.hid hmL
          clear hu
          by_cases hu0 : u = 0
          · have hdu : (u == 0) = true := by simpa using hu0
            obtain ⟨S6, hSe⟩ : ∃ S : Array Bool → World → Prop, S = fun _ w' => w' = X := ⟨_, rfl⟩
            have hdrop : ∀ i : Nat, i ≠ 1000 → ∀ L w', S6 (L.setIfInBounds i true) w' → S6 L w' := by
              intro i _ L w' h; rw [hSe] at h ⊢; exact h
            have hS : ∀ L, S6 L X := by intro L; rw [hSe]
            have hSo : ∀ {L w'}, S6 L w' → w' = X := by intro L w' h; rw [hSe] at h; exact h
            clear hSe
            refine wp_region_LN S6 22 #[false, false, false, false, false, false, false, false, false, false, false, false, false, false, false, false, false, false, false, false, false, false] (by kernel_rfl) (by kernel_rfl) rfl ?_
            rw [← HX.out]
            refine WA.take (i := 0) (v := .pointer (some ⟨b9, 0, none⟩)) rfl (by kernel_rfl) (by kernel_rfl) (by kernel_rfl) (fun _ _ _ h => h) (hdrop 0 (by decide)) (Or.inl ⟨by rfl, ?_⟩) (hS _) ?_
            · rintro w' ⟨L, hL, hSw, hun⟩
              go_simp
            simp only [List.getElem_toArray, List.getElem_cons_zero, List.getElem_cons_succ, Act.put, List.setIfInBounds_toArray, List.set_cons_zero, List.set_cons_succ]
            refine WA.take (i := 1) (v := .int .i64 (m : Nat)) rfl (by kernel_rfl) (by kernel_rfl) (by kernel_rfl) (fun _ _ _ h => h) (hdrop 1 (by decide)) (Or.inl ⟨by rfl, ?_⟩) (hS _) ?_
            · rintro w' ⟨L, hL, hSw, hun⟩
              obtain rfl := hSo hSw 
              go_simp
            simp only [List.getElem_toArray, List.getElem_cons_zero, List.getElem_cons_succ, Act.put, List.setIfInBounds_toArray, List.set_cons_zero, List.set_cons_succ]
            refine WA.take (i := 2) (v := .bool true) rfl (by kernel_rfl) (by kernel_rfl) (by kernel_rfl) (fun _ _ _ h => h) (hdrop 2 (by decide)) (Or.inl ⟨by rfl, ?_⟩) (hS _) ?_
            · rintro w' ⟨L, hL, hSw, hun⟩
              go_simp
            simp only [List.getElem_toArray, List.getElem_cons_zero, List.getElem_cons_succ, Act.put, List.setIfInBounds_toArray, List.set_cons_zero, List.set_cons_succ]
            refine WA.take (i := 3) (v := .bool true) rfl (by kernel_rfl) (by kernel_rfl) (by kernel_rfl) (fun _ _ _ h => h) (hdrop 3 (by decide)) (Or.inl ⟨by rfl, ?_⟩) (hS _) ?_
            · rintro w' ⟨L, hL, hSw, hun⟩
              go_simp
            simp only [List.getElem_toArray, List.getElem_cons_zero, List.getElem_cons_succ, Act.put, List.setIfInBounds_toArray, List.set_cons_zero, List.set_cons_succ]
            refine WA.take (i := 4) (v := .pointer (some ⟨wb, 0, none⟩)) rfl (by kernel_rfl) (by kernel_rfl) (by kernel_rfl) (fun _ _ _ h => h) (hdrop 4 (by decide)) (Or.inl ⟨by rfl, ?_⟩) (hS _) ?_
            · rintro w' ⟨L, hL, hSw, hun⟩
              go_simp
            simp only [List.getElem_toArray, List.getElem_cons_zero, List.getElem_cons_succ, Act.put, List.setIfInBounds_toArray, List.set_cons_zero, List.set_cons_succ]
            refine WA.take (i := 5) (v := .pointer (some ⟨wb, 0, none⟩)) rfl (by kernel_rfl) (by kernel_rfl) (by kernel_rfl) (fun _ _ _ h => h) (hdrop 5 (by decide)) (Or.inl ⟨by rfl, ?_⟩) (hS _) ?_
            · rintro w' ⟨L, hL, hSw, hun⟩
              go_simp
            simp only [List.getElem_toArray, List.getElem_cons_zero, List.getElem_cons_succ, Act.put, List.setIfInBounds_toArray, List.set_cons_zero, List.set_cons_succ]
            refine WA.take (i := 6) (v := .pointer (some ⟨wb, 10, none⟩)) rfl (by kernel_rfl) (by kernel_rfl) (by kernel_rfl) (fun _ _ _ h => h) (hdrop 6 (by decide)) (Or.inl ⟨by rfl, ?_⟩) (hS _) ?_
            · rintro w' ⟨L, hL, hSw, hun⟩
              go_simp
            simp only [List.getElem_toArray, List.getElem_cons_zero, List.getElem_cons_succ, Act.put, List.setIfInBounds_toArray, List.set_cons_zero, List.set_cons_succ]
            refine WA.take (i := 7) (v := .slice (some ⟨vb, 0, none⟩) ln ln) rfl (by kernel_rfl) (by kernel_rfl) (by kernel_rfl) (fun _ _ _ h => h) (hdrop 7 (by decide)) (Or.inl ⟨by rfl, ?_⟩) (hS _) ?_
            · rintro w' ⟨L, hL, hSw, hun⟩
              obtain rfl := hSo hSw 
              go_simp
            simp only [List.getElem_toArray, List.getElem_cons_zero, List.getElem_cons_succ, Act.put, List.setIfInBounds_toArray, List.set_cons_zero, List.set_cons_succ]
            refine WA.take (i := 8) (v := .pointer (some ⟨b9, 0, none⟩)) rfl (by kernel_rfl) (by kernel_rfl) (by kernel_rfl) (fun _ _ _ h => h) (hdrop 8 (by decide)) (Or.inl ⟨by rfl, ?_⟩) (hS _) ?_
            · rintro w' ⟨L, hL, hSw, hun⟩
              go_simp
            simp only [List.getElem_toArray, List.getElem_cons_zero, List.getElem_cons_succ, Act.put, List.setIfInBounds_toArray, List.set_cons_zero, List.set_cons_succ]
            refine WA.take (i := 9) (v := .int .i64 (m : Nat)) rfl (by kernel_rfl) (by kernel_rfl) (by kernel_rfl) (fun _ _ _ h => h) (hdrop 9 (by decide)) (Or.inl ⟨by rfl, ?_⟩) (hS _) ?_
            · rintro w' ⟨L, hL, hSw, hun⟩
              obtain rfl := hSo hSw 
              go_simp
            simp only [List.getElem_toArray, List.getElem_cons_zero, List.getElem_cons_succ, Act.put, List.setIfInBounds_toArray, List.set_cons_zero, List.set_cons_succ]
            refine WA.take (i := 10) (v := .pointer (some ⟨vb, m, none⟩)) rfl (by kernel_rfl) (by kernel_rfl) (by kernel_rfl) (fun _ _ _ h => h) (hdrop 10 (by decide)) (Or.inl ⟨by rfl, ?_⟩) (hS _) ?_
            · rintro w' ⟨L, hL, hSw, hun⟩
              go_simp
            simp only [List.getElem_toArray, List.getElem_cons_zero, List.getElem_cons_succ, Act.put, List.setIfInBounds_toArray, List.set_cons_zero, List.set_cons_succ]
            refine WA.take (i := 11) (v := .int .u32 u) rfl (by kernel_rfl) (by kernel_rfl) (by kernel_rfl) (fun _ _ _ h => h) (hdrop 11 (by decide)) (Or.inl ⟨by rfl, ?_⟩) (hS _) ?_
            · rintro w' ⟨L, hL, hSw, hun⟩
              obtain rfl := hSo hSw 
              go_simp
            simp only [List.getElem_toArray, List.getElem_cons_zero, List.getElem_cons_succ, Act.put, List.setIfInBounds_toArray, List.set_cons_zero, List.set_cons_succ]
            refine WA.take (i := 12) (v := .bool true) rfl (by kernel_rfl) (by kernel_rfl) (by kernel_rfl) (fun _ _ _ h => h) (hdrop 12 (by decide)) (Or.inl ⟨by rfl, ?_⟩) (hS _) ?_
            · rintro w' ⟨L, hL, hSw, hun⟩
              go_simp
            simp only [List.getElem_toArray, List.getElem_cons_zero, List.getElem_cons_succ, Act.put, List.setIfInBounds_toArray, List.set_cons_zero, List.set_cons_succ]
            refine WA.take (i := 13) (v := .bool true) rfl (by kernel_rfl) (by kernel_rfl) (by kernel_rfl) (fun _ _ _ h => h) (hdrop 13 (by decide)) (Or.inl ⟨by rfl, ?_⟩) (hS _) ?_
            · rintro w' ⟨L, hL, hSw, hun⟩
              go_simp
            simp only [List.getElem_toArray, List.getElem_cons_zero, List.getElem_cons_succ, Act.put, List.setIfInBounds_toArray, List.set_cons_zero, List.set_cons_succ]
            refine WA.take (i := 14) (v := .bool true) rfl (by kernel_rfl) (by kernel_rfl) (by kernel_rfl) (fun _ _ _ h => h) (hdrop 14 (by decide)) (Or.inl ⟨by rfl, ?_⟩) (hS _) ?_
            · rintro w' ⟨L, hL, hSw, hun⟩
              go_simp
            simp only [List.getElem_toArray, List.getElem_cons_zero, List.getElem_cons_succ, Act.put, List.setIfInBounds_toArray, List.set_cons_zero, List.set_cons_succ]
            refine WA.take (i := 15) (v := .pointer (some ⟨b7, 2, none⟩)) rfl (by kernel_rfl) (by kernel_rfl) (by kernel_rfl) (fun _ _ _ h => h) (hdrop 15 (by decide)) (Or.inl ⟨by rfl, ?_⟩) (hS _) ?_
            · rintro w' ⟨L, hL, hSw, hun⟩
              go_simp
            simp only [List.getElem_toArray, List.getElem_cons_zero, List.getElem_cons_succ, Act.put, List.setIfInBounds_toArray, List.set_cons_zero, List.set_cons_succ]
            refine WA.take (i := 16) (v := .slice oa on ocap) rfl (by kernel_rfl) (by kernel_rfl) (by kernel_rfl) (fun _ _ _ h => h) (hdrop 16 (by decide)) (Or.inl ⟨by rfl, ?_⟩) (hS _) ?_
            · rintro w' ⟨L, hL, hSw, hun⟩
              obtain rfl := hSo hSw 
              go_simp
            simp only [List.getElem_toArray, List.getElem_cons_zero, List.getElem_cons_succ, Act.put, List.setIfInBounds_toArray, List.set_cons_zero, List.set_cons_succ]
            refine WA.take (i := 17) (v := .pointer (some ⟨b9, 0, none⟩)) rfl (by kernel_rfl) (by kernel_rfl) (by kernel_rfl) (fun _ _ _ h => h) (hdrop 17 (by decide)) (Or.inl ⟨by rfl, ?_⟩) (hS _) ?_
            · rintro w' ⟨L, hL, hSw, hun⟩
              go_simp
            simp only [List.getElem_toArray, List.getElem_cons_zero, List.getElem_cons_succ, Act.put, List.setIfInBounds_toArray, List.set_cons_zero, List.set_cons_succ]
            refine WA.take (i := 18) (v := .int .i64 (m : Nat)) rfl (by kernel_rfl) (by kernel_rfl) (by kernel_rfl) (fun _ _ _ h => h) (hdrop 18 (by decide)) (Or.inl ⟨by rfl, ?_⟩) (hS _) ?_
            · rintro w' ⟨L, hL, hSw, hun⟩
              obtain rfl := hSo hSw 
              go_simp
            simp only [List.getElem_toArray, List.getElem_cons_zero, List.getElem_cons_succ, Act.put, List.setIfInBounds_toArray, List.set_cons_zero, List.set_cons_succ]
            refine WA.one (i := 19) (by kernel_rfl) rfl (by rfl) (fun K hK => ?_)
            go_simp
            rw [← Hon.out]
            refine (contains_int oa ocap own (HoI.out) (by have := Hon.out; omega) m).mono ?_
            rintro e w' ⟨rfl, hw'⟩
            rw [← hw']
            clear hw'
            obtain ⟨q, hq⟩ : ∃ q, decide (m ∈ own) = q := ⟨_, rfl⟩
            rw [hq, Hon.out]
            have Hq := Lib.hid hq
            clear hq
            refine hK _ _ (hS _) ?_
            clear hK
            try simp only [List.getElem_toArray, List.getElem_cons_zero, List.getElem_cons_succ, Act.put, List.setIfInBounds_toArray, List.set_cons_zero, List.set_cons_succ]
            refine WA.take (i := 20) (v := .bool (!q)) rfl (by kernel_rfl) (by kernel_rfl) (by kernel_rfl) (fun _ _ _ h => h) (hdrop 20 (by decide)) (Or.inl ⟨by rfl, ?_⟩) (hS _) ?_
            · rintro w' ⟨L, hL, hSw, hun⟩
              go_simp
            simp only [List.getElem_toArray, List.getElem_cons_zero, List.getElem_cons_succ, Act.put, List.setIfInBounds_toArray, List.set_cons_zero, List.set_cons_succ]
            refine WA.take (i := 21) (v := .bool (!q)) rfl (by kernel_rfl) (by kernel_rfl) (by kernel_rfl) (fun _ _ _ h => h) (hdrop 21 (by decide)) (Or.inl ⟨by rfl, ?_⟩) (hS _) ?_
            · rintro w' ⟨L, hL, hSw, hun⟩
              go_simp
            simp only [List.getElem_toArray, List.getElem_cons_zero, List.getElem_cons_succ, Act.put, List.setIfInBounds_toArray, List.set_cons_zero, List.set_cons_succ]
            refine WA.done (by kernel_rfl) ?_ _
            refine Nrm.normal ?_
            clear hSo hS hdrop
            clear S6
            cases q with
            | true =>
              go_wp2_with fail
              have hB9 := HB.out.trans (HbX9.out.mono HB.out.size)
              refine ⟨⟨k + 1, own, .slice oa on ocap, by omega, by push_cast; rfl, ?_, by have := Hon.out; omega, hB9, Nat.le_trans Hsz.out HbX9.out.size, Kc9.out _ _ _ _ Hx.out, Kc9.out _ _ _ _ H5.out, Kc9.out _ _ _ _ H6.out, Kc9.out _ _ _ _ H7.out, Hor9.out⟩, by simp [intOf]; omega⟩
              rw [Hnx.out]
              exact (ownStep_in (by simpa using Hq.out)).symm
            | false =>
              have hmo : m ∉ own := by simpa using Hq.out
              have hA := (Below.refl X.heap.size X).alloc (Nat.le_refl _) (.cells #[.int .i64 (m : Nat)] 3)
              have hrA := own_below Hor9.out hA
              rw [Hon.out] at hrA
              have HrA := Lib.hid hrA; have HA := Lib.hid hA
              clear hrA hA
              have hBX := HB.out.trans (HbX9.out.mono HB.out.size)
              have hXs : w.heap.size ≤ X.heap.size := hBX.size
              have HXs := Lib.hid hXs; have HBX := Lib.hid hBX
              have Kg := Lib.hid (show ∀ (i : Nat) (cur : Array Value) (t : TypeId) (fz : Nat × Nat), t ≠ 3 → ∀ w4 : World, (X.alloc (.cells #[.int .i64 (m : Nat)] 3)).grownBy w4 (Value.slice oa on ocap).ownBlock → X.heap[i]? = some (.cells cur t fz) → w4.heap[i]? = some (.cells cur t fz) from fun i cur t fz ht w4 hg h => (hg.block i (Nat.lt_of_lt_of_le (Array.getElem?_eq_some_iff.1 h).1 HA.out.size) (fun e => own_ne HrA.out ((HA.out.block i (Array.getElem?_eq_some_iff.1 h).1).trans h) ht e.symm)).trans ((HA.out.block i (Array.getElem?_eq_some_iff.1 h).1).trans h))
              clear hBX hXs cv c10
              go_wp2_with (at_builtin; go_loud (refine wpList_append_own_at _ rfl _ _ 92 rfl w.heap.size 3 ii (.int .i64 0) 1 8 Try.underlying92 Hi.out Hj0.out Hj1.out Hj2.out rfl (by decide) _ _ _ rfl HrA.out ⟨X.heap.size, 0, none⟩ 1 1 [.int .i64 (m : Nat)] rfl rfl (cells_blk (World.alloc_heap_new _ _)) (by simp [Value.oneCell']) (by unfold maxLen; omega) (by omega) (by have := HXs.out; simp; omega) ?_); intro v' w4 hown' hgrow _ hwh; obtain ⟨g', cap', rfl⟩ := jown_slice hown' (Nat.succ_pos _); obtain ⟨vn, hvn⟩ : ∃ vn : Value, vn = .slice (some ⟨g', 0, none⟩) (on + 1) cap' := ⟨_, rfl⟩; rw [← hvn] at hown'; have Hvn := Lib.hid hvn; have Hown' := Lib.hid hown'; have Hgrow := Lib.hid hgrow; obtain ⟨c74, f74⟩ := lev_cell (Kg.out _ _ _ _ (by decide) w4 hgrow (Kc9.out _ _ _ _ H7.out)); clear hown' hgrow hwh hvn)
              rw [← Hvn.out]
              have K4 := fun i cur t fz ht h => Kg.out i cur t fz ht w4 Hgrow.out (Kc9.out i cur t fz h)
              have h74 := K4 _ _ _ _ (by decide) H7.out
              have hs7 := blk_set h74 2 vn
              have hne7 : ∀ (i : Nat) (cur : Array Value) (t : TypeId) (fz : Nat × Nat), t ≠ 102 → w4.heap[i]? = some (.cells cur t fz) → (w4.setCell ⟨b7, 2, none⟩ vn).heap[i]? = some (.cells cur t fz) := fun i cur t fz ht h => (Below.heap_setCell _ _ _ i (fun e => by subst e; rw [h74] at h; injection h with h; injection h with _ h _; exact ht h.symm)).trans h
              have hx7 : (w4.setCell ⟨b7, 2, none⟩ vn).heap[w.heap.size]? = some (.cells #[.int .i64 0, .slice none 0 0, .slice none 0 0] 102 (0, 0)) := (Below.heap_setCell _ _ _ _ (by have := Hz7.out; simp; omega)).trans (K4 _ _ _ _ (by decide) Hx.out)
              have hB4 : Below w.heap.size w w4 := ((HBX.out.trans (HA.out.mono HBX.out.size))).grown Hgrow.out (Nat.le_trans HBX.out.size HA.out.size) (fun j hj => (HrA.out.lt j hj).1)
              have hwz : W3.heap.size ≤ w4.heap.size := Nat.le_trans Hsz.out (Nat.le_trans HbX9.out.size (Nat.le_trans HA.out.size Hgrow.out.size))
              refine ⟨⟨k + 1, own ++ [m], vn, by omega, by push_cast; rfl, ?_, by rw [List.length_append, List.length_singleton]; have := Hon.out; omega, hB4.setCell (p := ⟨b7, 2, none⟩) (by have := Hz7.out; simp; omega) _, by rw [World.size_setCell]; exact hwz, hx7, hne7 _ _ 35 _ (by decide) (K4 _ _ _ _ (by decide) H5.out), hne7 _ _ 42 _ (by decide) (K4 _ _ _ _ (by decide) H6.out), hs7, ?_⟩, by simp [intOf]; omega⟩
              · rw [Hnx.out]
                exact (ownStep_new HmL.out (Hu.out.trans hu0) hmo).symm
              · rw [List.length_append, List.length_singleton, ics_snoc, Hon.out]
                exact jown_blk Hown'.out (fun g hg => Below.heap_setCell _ _ _ g (fun e => own_ne Hown'.out h74 (by decide) (by rw [hg, e])))
          · have hdu : (u == 0) = false := by simpa using hu0
            obtain ⟨S6, hSe⟩ : ∃ S : Array Bool → World → Prop, S = fun _ w' => w' = X := ⟨_, rfl⟩
            have hdrop : ∀ i : Nat, i ≠ 1000 → ∀ L w', S6 (L.setIfInBounds i true) w' → S6 L w' := by
              intro i _ L w' h; rw [hSe] at h ⊢; exact h
            have hS : ∀ L, S6 L X := by intro L; rw [hSe]
            have hSo : ∀ {L w'}, S6 L w' → w' = X := by intro L w' h; rw [hSe] at h; exact h
            clear hSe
            refine wp_region_LN S6 22 #[false, false, false, false, false, false, false, false, false, false, false, false, false, false, false, false, false, false, false, false, false, false] (by kernel_rfl) (by kernel_rfl) rfl ?_
            rw [← HX.out]
            refine WA.take (i := 0) (v := .pointer (some ⟨b9, 0, none⟩)) rfl (by kernel_rfl) (by kernel_rfl) (by kernel_rfl) (fun _ _ _ h => h) (hdrop 0 (by decide)) (Or.inl ⟨by rfl, ?_⟩) (hS _) ?_
            · rintro w' ⟨L, hL, hSw, hun⟩
              go_simp
            simp only [List.getElem_toArray, List.getElem_cons_zero, List.getElem_cons_succ, Act.put, List.setIfInBounds_toArray, List.set_cons_zero, List.set_cons_succ]
            refine WA.take (i := 1) (v := .int .i64 (m : Nat)) rfl (by kernel_rfl) (by kernel_rfl) (by kernel_rfl) (fun _ _ _ h => h) (hdrop 1 (by decide)) (Or.inl ⟨by rfl, ?_⟩) (hS _) ?_
            · rintro w' ⟨L, hL, hSw, hun⟩
              obtain rfl := hSo hSw 
              go_simp
            simp only [List.getElem_toArray, List.getElem_cons_zero, List.getElem_cons_succ, Act.put, List.setIfInBounds_toArray, List.set_cons_zero, List.set_cons_succ]
            refine WA.take (i := 2) (v := .bool true) rfl (by kernel_rfl) (by kernel_rfl) (by kernel_rfl) (fun _ _ _ h => h) (hdrop 2 (by decide)) (Or.inl ⟨by rfl, ?_⟩) (hS _) ?_
            · rintro w' ⟨L, hL, hSw, hun⟩
              go_simp
            simp only [List.getElem_toArray, List.getElem_cons_zero, List.getElem_cons_succ, Act.put, List.setIfInBounds_toArray, List.set_cons_zero, List.set_cons_succ]
            refine WA.take (i := 3) (v := .bool true) rfl (by kernel_rfl) (by kernel_rfl) (by kernel_rfl) (fun _ _ _ h => h) (hdrop 3 (by decide)) (Or.inl ⟨by rfl, ?_⟩) (hS _) ?_
            · rintro w' ⟨L, hL, hSw, hun⟩
              go_simp
            simp only [List.getElem_toArray, List.getElem_cons_zero, List.getElem_cons_succ, Act.put, List.setIfInBounds_toArray, List.set_cons_zero, List.set_cons_succ]
            refine WA.take (i := 4) (v := .pointer (some ⟨wb, 0, none⟩)) rfl (by kernel_rfl) (by kernel_rfl) (by kernel_rfl) (fun _ _ _ h => h) (hdrop 4 (by decide)) (Or.inl ⟨by rfl, ?_⟩) (hS _) ?_
            · rintro w' ⟨L, hL, hSw, hun⟩
              go_simp
            simp only [List.getElem_toArray, List.getElem_cons_zero, List.getElem_cons_succ, Act.put, List.setIfInBounds_toArray, List.set_cons_zero, List.set_cons_succ]
            refine WA.take (i := 5) (v := .pointer (some ⟨wb, 0, none⟩)) rfl (by kernel_rfl) (by kernel_rfl) (by kernel_rfl) (fun _ _ _ h => h) (hdrop 5 (by decide)) (Or.inl ⟨by rfl, ?_⟩) (hS _) ?_
            · rintro w' ⟨L, hL, hSw, hun⟩
              go_simp
            simp only [List.getElem_toArray, List.getElem_cons_zero, List.getElem_cons_succ, Act.put, List.setIfInBounds_toArray, List.set_cons_zero, List.set_cons_succ]
            refine WA.take (i := 6) (v := .pointer (some ⟨wb, 10, none⟩)) rfl (by kernel_rfl) (by kernel_rfl) (by kernel_rfl) (fun _ _ _ h => h) (hdrop 6 (by decide)) (Or.inl ⟨by rfl, ?_⟩) (hS _) ?_
            · rintro w' ⟨L, hL, hSw, hun⟩
              go_simp
            simp only [List.getElem_toArray, List.getElem_cons_zero, List.getElem_cons_succ, Act.put, List.setIfInBounds_toArray, List.set_cons_zero, List.set_cons_succ]
            refine WA.take (i := 7) (v := .slice (some ⟨vb, 0, none⟩) ln ln) rfl (by kernel_rfl) (by kernel_rfl) (by kernel_rfl) (fun _ _ _ h => h) (hdrop 7 (by decide)) (Or.inl ⟨by rfl, ?_⟩) (hS _) ?_
            · rintro w' ⟨L, hL, hSw, hun⟩
              obtain rfl := hSo hSw 
              go_simp
            simp only [List.getElem_toArray, List.getElem_cons_zero, List.getElem_cons_succ, Act.put, List.setIfInBounds_toArray, List.set_cons_zero, List.set_cons_succ]
            refine WA.take (i := 8) (v := .pointer (some ⟨b9, 0, none⟩)) rfl (by kernel_rfl) (by kernel_rfl) (by kernel_rfl) (fun _ _ _ h => h) (hdrop 8 (by decide)) (Or.inl ⟨by rfl, ?_⟩) (hS _) ?_
            · rintro w' ⟨L, hL, hSw, hun⟩
              go_simp
            simp only [List.getElem_toArray, List.getElem_cons_zero, List.getElem_cons_succ, Act.put, List.setIfInBounds_toArray, List.set_cons_zero, List.set_cons_succ]
            refine WA.take (i := 9) (v := .int .i64 (m : Nat)) rfl (by kernel_rfl) (by kernel_rfl) (by kernel_rfl) (fun _ _ _ h => h) (hdrop 9 (by decide)) (Or.inl ⟨by rfl, ?_⟩) (hS _) ?_
            · rintro w' ⟨L, hL, hSw, hun⟩
              obtain rfl := hSo hSw 
              go_simp
            simp only [List.getElem_toArray, List.getElem_cons_zero, List.getElem_cons_succ, Act.put, List.setIfInBounds_toArray, List.set_cons_zero, List.set_cons_succ]
            refine WA.take (i := 10) (v := .pointer (some ⟨vb, m, none⟩)) rfl (by kernel_rfl) (by kernel_rfl) (by kernel_rfl) (fun _ _ _ h => h) (hdrop 10 (by decide)) (Or.inl ⟨by rfl, ?_⟩) (hS _) ?_
            · rintro w' ⟨L, hL, hSw, hun⟩
              go_simp
            simp only [List.getElem_toArray, List.getElem_cons_zero, List.getElem_cons_succ, Act.put, List.setIfInBounds_toArray, List.set_cons_zero, List.set_cons_succ]
            refine WA.take (i := 11) (v := .int .u32 u) rfl (by kernel_rfl) (by kernel_rfl) (by kernel_rfl) (fun _ _ _ h => h) (hdrop 11 (by decide)) (Or.inl ⟨by rfl, ?_⟩) (hS _) ?_
            · rintro w' ⟨L, hL, hSw, hun⟩
              obtain rfl := hSo hSw 
              go_simp
            simp only [List.getElem_toArray, List.getElem_cons_zero, List.getElem_cons_succ, Act.put, List.setIfInBounds_toArray, List.set_cons_zero, List.set_cons_succ]
            refine WA.take (i := 12) (v := .bool false) rfl (by kernel_rfl) (by kernel_rfl) (by kernel_rfl) (fun _ _ _ h => h) (hdrop 12 (by decide)) (Or.inl ⟨by rfl, ?_⟩) (hS _) ?_
            · rintro w' ⟨L, hL, hSw, hun⟩
              go_simp
            simp only [List.getElem_toArray, List.getElem_cons_zero, List.getElem_cons_succ, Act.put, List.setIfInBounds_toArray, List.set_cons_zero, List.set_cons_succ]
            refine WA.take (i := 13) (v := .bool false) rfl (by kernel_rfl) (by kernel_rfl) (by kernel_rfl) (fun _ _ _ h => h) (hdrop 13 (by decide)) (Or.inl ⟨by rfl, ?_⟩) (hS _) ?_
            · rintro w' ⟨L, hL, hSw, hun⟩
              go_simp
            simp only [List.getElem_toArray, List.getElem_cons_zero, List.getElem_cons_succ, Act.put, List.setIfInBounds_toArray, List.set_cons_zero, List.set_cons_succ]
            refine WA.take (i := 14) (v := .bool false) rfl (by kernel_rfl) (by kernel_rfl) (by kernel_rfl) (fun _ _ _ h => h) (hdrop 14 (by decide)) (Or.inl ⟨by rfl, ?_⟩) (hS _) ?_
            · rintro w' ⟨L, hL, hSw, hun⟩
              go_simp
            simp only [List.getElem_toArray, List.getElem_cons_zero, List.getElem_cons_succ, Act.put, List.setIfInBounds_toArray, List.set_cons_zero, List.set_cons_succ]
            refine WA.take (i := 15) (v := undef) rfl (by kernel_rfl) (by kernel_rfl) (by kernel_rfl) (fun _ _ _ h => h) (hdrop 15 (by decide)) (Or.inr ⟨by rfl, rfl⟩) (hS _) ?_
            simp only [List.getElem_toArray, List.getElem_cons_zero, List.getElem_cons_succ, Act.put, List.setIfInBounds_toArray, List.set_cons_zero, List.set_cons_succ]
            refine WA.take (i := 16) (v := undef) rfl (by kernel_rfl) (by kernel_rfl) (by kernel_rfl) (fun _ _ _ h => h) (hdrop 16 (by decide)) (Or.inr ⟨by rfl, rfl⟩) (hS _) ?_
            simp only [List.getElem_toArray, List.getElem_cons_zero, List.getElem_cons_succ, Act.put, List.setIfInBounds_toArray, List.set_cons_zero, List.set_cons_succ]
            refine WA.take (i := 17) (v := undef) rfl (by kernel_rfl) (by kernel_rfl) (by kernel_rfl) (fun _ _ _ h => h) (hdrop 17 (by decide)) (Or.inr ⟨by rfl, rfl⟩) (hS _) ?_
            simp only [List.getElem_toArray, List.getElem_cons_zero, List.getElem_cons_succ, Act.put, List.setIfInBounds_toArray, List.set_cons_zero, List.set_cons_succ]
            refine WA.take (i := 18) (v := undef) rfl (by kernel_rfl) (by kernel_rfl) (by kernel_rfl) (fun _ _ _ h => h) (hdrop 18 (by decide)) (Or.inr ⟨by rfl, rfl⟩) (hS _) ?_
            simp only [List.getElem_toArray, List.getElem_cons_zero, List.getElem_cons_succ, Act.put, List.setIfInBounds_toArray, List.set_cons_zero, List.set_cons_succ]
            refine WA.skip (i := 19) (by kernel_rfl) rfl (by rfl) (hS _) ?_
            simp only [List.getElem_toArray, List.getElem_cons_zero, List.getElem_cons_succ, Act.put, List.setIfInBounds_toArray, List.set_cons_zero, List.set_cons_succ]
            refine WA.take (i := 20) (v := undef) rfl (by kernel_rfl) (by kernel_rfl) (by kernel_rfl) (fun _ _ _ h => h) (hdrop 20 (by decide)) (Or.inr ⟨by rfl, rfl⟩) (hS _) ?_
            simp only [List.getElem_toArray, List.getElem_cons_zero, List.getElem_cons_succ, Act.put, List.setIfInBounds_toArray, List.set_cons_zero, List.set_cons_succ]
            refine WA.take (i := 21) (v := .bool false) rfl (by kernel_rfl) (by kernel_rfl) (by kernel_rfl) (fun _ _ _ h => h) (hdrop 21 (by decide)) (Or.inl ⟨by rfl, ?_⟩) (hS _) ?_
            · rintro w' ⟨L, hL, hSw, hun⟩
              go_simp
            simp only [List.getElem_toArray, List.getElem_cons_zero, List.getElem_cons_succ, Act.put, List.setIfInBounds_toArray, List.set_cons_zero, List.set_cons_succ]
            refine WA.done (by kernel_rfl) ?_ _
            refine Nrm.normal ?_
            clear hSo hS hdrop
            clear S6
            go_wp2_with fail
            have hB9 := HB.out.trans (HbX9.out.mono HB.out.size)
            refine ⟨⟨k + 1, own, .slice oa on ocap, by omega, by push_cast; rfl, ?_, by have := Hon.out; omega, hB9, Nat.le_trans Hsz.out HbX9.out.size, Kc9.out _ _ _ _ Hx.out, Kc9.out _ _ _ _ H5.out, Kc9.out _ _ _ _ H6.out, Kc9.out _ _ _ _ H7.out, Hor9.out⟩, by simp [intOf]; omega⟩
            rw [Hnx.out]
            exact (ownStep_old HmL.out (fun e => hu0 (Hu.out.symm.trans e))).symm
      · have hk' : k = 3 := by omega
        subst hk'
        have hd : decide (((3 : Nat) : Int) < 3) = false := by simp
        go_wp2_with fail
        have hown3 : own = ownOf L ⟨kk, (a0, i0), (a1, i1), (a2, i2), (a3, i3), (a4, i4)⟩ := Hown.out
        obtain ⟨on, hon⟩ : ∃ on, own.length = on := ⟨_, rfl⟩
        have Hon := Lib.hid hon
        have hor := Hor.out
        rw [hon] at H7 hol hor
        obtain ⟨c71, c72, c73, c74, c75, c76⟩ : wr.drew.cell? ⟨b5, 1, none⟩ = some (.int .i64 a0) ∧ wr.drew.cell? ⟨b5, 2, none⟩ = some (.int .u32 i0) ∧ wr.drew.cell? ⟨b5, 3, none⟩ = some (.int .i64 a1) ∧ wr.drew.cell? ⟨b5, 4, none⟩ = some (.int .u32 i1) ∧ wr.drew.cell? ⟨b5, 5, none⟩ = some (.int .i64 a2) ∧ wr.drew.cell? ⟨b5, 6, none⟩ = some (.int .u32 i2) := by
          show wr.cell? _ = _ ∧ wr.cell? _ = _ ∧ wr.cell? _ = _ ∧ wr.cell? _ = _ ∧ wr.cell? _ = _ ∧ wr.cell? _ = _
          unfold World.cell?; rw [H5.out]; exact ⟨rfl, rfl, rfl, rfl, rfl, rfl⟩
        obtain ⟨c60, c61, c62⟩ : wr.drew.cell? ⟨b6, 0, none⟩ = some (.int .i64 fr) ∧ wr.drew.cell? ⟨b6, 1, none⟩ = some (.int .i64 tu) ∧ wr.drew.cell? ⟨b6, 2, none⟩ = some (.int .u8 bt) := by
          show wr.cell? _ = _ ∧ wr.cell? _ = _ ∧ wr.cell? _ = _
          unfold World.cell?; rw [H6.out]; exact ⟨rfl, rfl, rfl⟩
        have HBd := Lib.hid (show Below w.heap.size w wr.drew from HB.out.drew)
        have cp : wr.drew.cell? ⟨wb, 0, none⟩ = some (.pointer (some ⟨tb, 0, none⟩)) := cell_later HBd.out hp
        have HBX := Lib.hid (show Below wr.heap.size wr wr.drew from (Below.refl _ wr).drew)
        obtain ⟨S9, hSe⟩ : ∃ S : Array Bool → World → Prop, S = fun L w' => L.getD 14 true = false → Below wr.drew.heap.size wr.drew w' := ⟨_, rfl⟩
        have hdrop : ∀ i, i ≠ 14 → ∀ L w', S9 (L.setIfInBounds i true) w' → S9 L w' := by
          intro i hi L w'
          rw [hSe]
          intro h hl
          exact h (by rw [getD_set_ne true hi]; exact hl)
        have hS : ∀ L, S9 L wr.drew := by intro L; rw [hSe]; exact fun _ => Below.refl _ _
        have hSo : ∀ {L w'}, S9 L w' → L.getD 14 true = false → Below wr.drew.heap.size wr.drew w' := by intro L w' h hl; rw [hSe] at h; exact h hl
        have hSi : ∀ {w'}, Below wr.drew.heap.size wr.drew w' → ∀ L, S9 L w' := by intro w' h L; rw [hSe]; exact fun _ => h
        have hSd : ∀ (L : Array Bool) X, L.getD 14 true = true → S9 L X := by
          intro L X h; rw [hSe]; intro h1; rw [h] at h1; cases h1
        clear hSe
        refine wp_region_LN S9 15 #[false, false, false, false, false, false, false, false, false, false, false, false, false, false, false] (by kernel_rfl) (by kernel_rfl) rfl ?_
        obtain ⟨X, hX⟩ : ∃ X, X = wr.drew := ⟨_, rfl⟩
        rw [← hX] at c71 c72 c73 c74 c75 c76 c60 c61 c62 cp HBd HBX hSo hSi hS ⊢
        clear hX hon
        refine WA.take (i := 0) (v := .pointer (some ⟨wb, 0, none⟩)) rfl (by kernel_rfl) (by kernel_rfl) (by kernel_rfl) (fun _ _ _ h => h) (hdrop 0 (by decide)) (Or.inl ⟨by rfl, ?_⟩) (hS _) ?_
        · rintro w' ⟨L, hL, hSw, hun⟩
          go_simp
        simp only [List.getElem_toArray, List.getElem_cons_zero, List.getElem_cons_succ, Act.put, List.setIfInBounds_toArray, List.set_cons_zero, List.set_cons_succ]
        refine WA.take (i := 1) (v := .pointer (some ⟨wb, 0, none⟩)) rfl (by kernel_rfl) (by kernel_rfl) (by kernel_rfl) (fun _ _ _ h => h) (hdrop 1 (by decide)) (Or.inl ⟨by rfl, ?_⟩) (hS _) ?_
        · rintro w' ⟨L, hL, hSw, hun⟩
          go_simp
        simp only [List.getElem_toArray, List.getElem_cons_zero, List.getElem_cons_succ, Act.put, List.setIfInBounds_toArray, List.set_cons_zero, List.set_cons_succ]
        refine WA.take (i := 2) (v := .pointer (some ⟨wb, 0, none⟩)) rfl (by kernel_rfl) (by kernel_rfl) (by kernel_rfl) (fun _ _ _ h => h) (hdrop 2 (by decide)) (Or.inl ⟨by rfl, ?_⟩) (hS _) ?_
        · rintro w' ⟨L, hL, hSw, hun⟩
          go_simp
        simp only [List.getElem_toArray, List.getElem_cons_zero, List.getElem_cons_succ, Act.put, List.setIfInBounds_toArray, List.set_cons_zero, List.set_cons_succ]
        refine WA.take (i := 3) (v := .pointer (some ⟨tb, 0, none⟩)) rfl (by kernel_rfl) (by kernel_rfl) (by kernel_rfl) (fun _ _ _ h => h) (hdrop 3 (by decide)) (Or.inl ⟨by rfl, ?_⟩) (hS _) ?_
        · rintro w' ⟨L, hL, hSw, hun⟩
          have hbw := hSo hSw (hL.wait 14 3 (by kernel_rfl) hun)
          have cp := cell_later hbw cp
          clear hbw
          go_simp
        simp only [List.getElem_toArray, List.getElem_cons_zero, List.getElem_cons_succ, Act.put, List.setIfInBounds_toArray, List.set_cons_zero, List.set_cons_succ]
        refine WA.take (i := 4) (v := .pointer (some ⟨wb, 0, none⟩)) rfl (by kernel_rfl) (by kernel_rfl) (by kernel_rfl) (fun _ _ _ h => h) (hdrop 4 (by decide)) (Or.inl ⟨by rfl, ?_⟩) (hS _) ?_
        · rintro w' ⟨L, hL, hSw, hun⟩
          go_simp
        simp only [List.getElem_toArray, List.getElem_cons_zero, List.getElem_cons_succ, Act.put, List.setIfInBounds_toArray, List.set_cons_zero, List.set_cons_succ]
        refine WA.take (i := 5) (v := .pointer (some ⟨b5, 1, none⟩)) rfl (by kernel_rfl) (by kernel_rfl) (by kernel_rfl) (fun _ _ _ h => h) (hdrop 5 (by decide)) (Or.inl ⟨by rfl, ?_⟩) (hS _) ?_
        · rintro w' ⟨L, hL, hSw, hun⟩
          go_simp
        simp only [List.getElem_toArray, List.getElem_cons_zero, List.getElem_cons_succ, Act.put, List.setIfInBounds_toArray, List.set_cons_zero, List.set_cons_succ]
        refine WA.take (i := 6) (v := .agg #[.int .i64 a0, .int .u32 i0, .int .i64 a1, .int .u32 i1, .int .i64 a2, .int .u32 i2]) rfl (by kernel_rfl) (by kernel_rfl) (by kernel_rfl) (fun _ _ _ h => h) (hdrop 6 (by decide)) (Or.inl ⟨by rfl, ?_⟩) (hS _) ?_
        · rintro w' ⟨L, hL, hSw, hun⟩
          have hbw := hSo hSw (hL.wait 14 7 (by kernel_rfl) (hL.wait 7 6 (by kernel_rfl) hun))
          have c71 := cell_later hbw c71
          have c72 := cell_later hbw c72
          have c73 := cell_later hbw c73
          have c74 := cell_later hbw c74
          have c75 := cell_later hbw c75
          have c76 := cell_later hbw c76
          clear hbw
          go_simp
        simp only [List.getElem_toArray, List.getElem_cons_zero, List.getElem_cons_succ, Act.put, List.setIfInBounds_toArray, List.set_cons_zero, List.set_cons_succ]
        refine WA.take (i := 8) (v := .pointer (some ⟨b6, 0, none⟩)) rfl (by kernel_rfl) (by kernel_rfl) (by kernel_rfl) (fun _ _ _ h => h) (hdrop 8 (by decide)) (Or.inl ⟨by rfl, ?_⟩) (hS _) ?_
        · rintro w' ⟨L, hL, hSw, hun⟩
          go_simp
        simp only [List.getElem_toArray, List.getElem_cons_zero, List.getElem_cons_succ, Act.put, List.setIfInBounds_toArray, List.set_cons_zero, List.set_cons_succ]
        refine WA.take (i := 9) (v := .int .i64 fr) rfl (by kernel_rfl) (by kernel_rfl) (by kernel_rfl) (fun _ _ _ h => h) (hdrop 9 (by decide)) (Or.inl ⟨by rfl, ?_⟩) (hS _) ?_
        · rintro w' ⟨L, hL, hSw, hun⟩
          have hbw := hSo hSw (hL.wait 14 9 (by kernel_rfl) hun)
          have c60 := cell_later hbw c60
          clear hbw
          go_simp
        simp only [List.getElem_toArray, List.getElem_cons_zero, List.getElem_cons_succ, Act.put, List.setIfInBounds_toArray, List.set_cons_zero, List.set_cons_succ]
        refine WA.take (i := 10) (v := .pointer (some ⟨b6, 1, none⟩)) rfl (by kernel_rfl) (by kernel_rfl) (by kernel_rfl) (fun _ _ _ h => h) (hdrop 10 (by decide)) (Or.inl ⟨by rfl, ?_⟩) (hS _) ?_
        · rintro w' ⟨L, hL, hSw, hun⟩
          go_simp
        simp only [List.getElem_toArray, List.getElem_cons_zero, List.getElem_cons_succ, Act.put, List.setIfInBounds_toArray, List.set_cons_zero, List.set_cons_succ]
        refine WA.take (i := 11) (v := .int .i64 tu) rfl (by kernel_rfl) (by kernel_rfl) (by kernel_rfl) (fun _ _ _ h => h) (hdrop 11 (by decide)) (Or.inl ⟨by rfl, ?_⟩) (hS _) ?_
        · rintro w' ⟨L, hL, hSw, hun⟩
          have hbw := hSo hSw (hL.wait 14 11 (by kernel_rfl) hun)
          have c61 := cell_later hbw c61
          clear hbw
          go_simp
        simp only [List.getElem_toArray, List.getElem_cons_zero, List.getElem_cons_succ, Act.put, List.setIfInBounds_toArray, List.set_cons_zero, List.set_cons_succ]
        refine WA.take (i := 12) (v := .pointer (some ⟨b6, 2, none⟩)) rfl (by kernel_rfl) (by kernel_rfl) (by kernel_rfl) (fun _ _ _ h => h) (hdrop 12 (by decide)) (Or.inl ⟨by rfl, ?_⟩) (hS _) ?_
        · rintro w' ⟨L, hL, hSw, hun⟩
          go_simp
        simp only [List.getElem_toArray, List.getElem_cons_zero, List.getElem_cons_succ, Act.put, List.setIfInBounds_toArray, List.set_cons_zero, List.set_cons_succ]
        refine WA.take (i := 13) (v := .int .u8 bt) rfl (by kernel_rfl) (by kernel_rfl) (by kernel_rfl) (fun _ _ _ h => h) (hdrop 13 (by decide)) (Or.inl ⟨by rfl, ?_⟩) (hS _) ?_
        · rintro w' ⟨L, hL, hSw, hun⟩
          have hbw := hSo hSw (hL.wait 14 13 (by kernel_rfl) hun)
          have c62 := cell_later hbw c62
          clear hbw
          go_simp
        simp only [List.getElem_toArray, List.getElem_cons_zero, List.getElem_cons_succ, Act.put, List.setIfInBounds_toArray, List.set_cons_zero, List.set_cons_succ]
        refine WA.one (i := 7) (by kernel_rfl) rfl (by rfl) (fun K hK => ?_)
        go_simp
        refine (look_any (H.out.below HBd.out) Hlen.out ⟨kk, (a0, i0), (a1, i1), (a2, i2), (a3, i3), (a4, i4)⟩ ⟨Hs0.out, Hs1.out, Hs2.out⟩).mono ?_
        rintro e w2 ⟨rfl, hB2⟩
        obtain ⟨⟨x0, x1, x2⟩, hu⟩ : ∃ u, lookP L ⟨kk, (a0, i0), (a1, i1), (a2, i2), (a3, i3), (a4, i4)⟩ = u := ⟨_, rfl⟩
        rw [hu] at Hr ⊢
        have Hlk := Lib.hid hu; have HB1 := Lib.hid hB2
        clear hu hB2
        refine hK _ _ (hSi HB1.out _) ?_
        clear hK
        try simp only [List.getElem_toArray, List.getElem_cons_zero, List.getElem_cons_succ, Act.put, List.setIfInBounds_toArray, List.set_cons_zero, List.set_cons_succ]
        refine WA.one (i := 14) (by kernel_rfl) rfl (by rfl) (fun K hK => ?_)
        go_simp
        refine (match_any _ tb (x0, x1, x2) fr tu bt).mono ?_
        rintro e W2 ⟨rfl, hB3, hz3, hm3⟩
        refine hK _ _ (hSd _ _ (by rfl)) ?_
        clear hK
        try simp only [List.getElem_toArray, List.getElem_cons_zero, List.getElem_cons_succ, Act.put, List.setIfInBounds_toArray, List.set_cons_zero, List.set_cons_succ]
        refine WA.done (by kernel_rfl) ?_ _
        refine Nrm.normal ?_
        clear hSo hSi hS hSd hdrop c71 c72 c73 c74 c75 c76 c60 c61 c62 cp
        clear S9
        have Hm := Lib.hid hm3
        have hbw := HBX.out.trans ((HB1.out.mono HBX.out.size).trans (hB3.mono (Nat.le_trans HBX.out.size HB1.out.size)))
        have HBW := Lib.hid (HB.out.trans (hbw.mono HB.out.size))
        have h7W := (hbw.block _ (Array.getElem?_eq_some_iff.1 H7.out).1).trans H7.out
        have hxW := (hbw.block _ (Array.getElem?_eq_some_iff.1 Hx.out).1).trans Hx.out
        have horW := own_below Hor.out hbw
        rw [Hon.out] at horW
        obtain ⟨B, hb⟩ : ∃ B, w2.heap.size = B := ⟨_, rfl⟩
        rw [hb] at Hm hz3 ⊢
        obtain ⟨N2, hN2⟩ : ∃ N2, W2.heap.size = N2 := ⟨_, rfl⟩
        have hBb : b7 < B := by have := HB1.out.size; have := HBX.out.size; have := Hsz.out; have := Hz8.out; omega
        have hwb : w.heap.size < b7 := by have := Hz7.out; omega
        have HBb := Lib.hid (show w.heap.size < b7 ∧ b7 < B ∧ N2 = B + 5 from ⟨hwb, hBb, by omega⟩)
        have Hx2 := Lib.hid (show ∀ i, i < w.heap.size → W2.heap[i]? = w.heap[i]? from fun i hi => HBW.out.block i hi)
        have HN2 := Lib.hid hN2
        have hlt2 : ∀ i, MKeep w.heap.size B i → i < N2 ∧ i ≠ b7 := by
          intro i hi
          rcases hi with h | h <;> omega
        have Hlt2 := Lib.hid hlt2
        obtain ⟨ir, hir, hq0, hq1, hq2⟩ := info_parts Try.infoRow
        have Hir := Lib.hid hir; have Hq0 := Lib.hid hq0; have Hq1 := Lib.hid hq1; have Hq2 := Lib.hid hq2
        have HL0 := Lib.hid hown3
        have Hh7 := Lib.hid h7W; have Hhx := Lib.hid hxW; have HhO := Lib.hid horW
        clear hm3 hB3 hz3 hb hBb hwb hlt2 hN2 hir hq0 hq1 hq2 hbw hown3 h7W hxW horW hor Hown
        clear Hn5 Hn6 Hnx Hn7 Hi Hj0 Hj1 Hj2 H5 H6
        go_wp2_with fail
        refine (wpIn_wide (n := 9)).1 ?_
        refine wpIn_rangeFunc_nr (fun t x bx => ((t.setIfInBounds 79 (.int .i64 (x : Nat))).setIfInBounds 80 (rv (rowOf T x))).setIfInBounds 11 (.pointer (some ⟨bx, 0, none⟩))) rfl (by decide) (gf := 43) (lb := #[.pointer (some ⟨B, 0, none⟩), .pointer (some ⟨B + 2, 0, none⟩), .pointer (some ⟨B + 3, 0, none⟩), .pointer (some ⟨B + 1, 0, none⟩), .pointer (some ⟨B + 4, 0, none⟩)]) rfl trivial (enters_of Try.func43 (by kernel_rfl) rfl)
          (match1_stops (9 - 1) B tb (x0, x1, x2) Hr.out fr tu bt Ht.out (fun i hi => Hx2.out i hi) (by have := HBb.out; have := HN2.out; omega) Hm.out (by have := HBb.out; have := HN2.out; omega)) KeepS.t (fun W l o o' hl _ _ _ => KeepS.put (fun i hi => by have := Hlt2.out i hi; have := HN2.out; omega) W l o o' hl) (Below.refl _ _)
          (fun pre W => (∃ rs, W.heap[b7]? = some (.cells #[.int .i64 (i : Nat), rs, .slice oa on ocap] 102 (0, 0)) ∧ W.ownsRow N2 58 3 rs pre.length (rws (pre.map (rowOf T)))) ∧ W.ownsRow w.heap.size 3 1 (.slice oa on ocap) on (ics own) ∧
            W.heap[w.heap.size]? = some (.cells #[.int .i64 0, .slice none 0 0, .slice none 0 0] 102 (0, 0)) ∧ Below w.heap.size w W ∧ N2 ≤ W.heap.size)
          (fun c pre W => ¬ pre <+: mlist T (x0, x1, x2) fr tu bt)
          (by
            rintro pre W W' row ⟨⟨rs, h1, h2⟩, h3, h4, h5, h6⟩ hg hr
            have hk := fun (i : Nat) (cur : Array Value) (t : TypeId) (fz : Nat × Nat) (h : W.heap[i]? = some (.cells cur t fz)) => (grownBy_keeps_cells hg (fun r e => (hr r e).2) h rfl).trans h
            exact ⟨⟨rs, hk _ _ _ _ h1, own_keepC h2 hk⟩, own_keepC h3 hk, hk _ _ _ _ h4, h5.grown hg (Nat.le_trans (Nat.le_refl _) h5.size) (fun r e => by have := (hr r e).1; have := HBb.out; have := HN2.out; omega), Nat.le_trans h6 hg.size⟩)
          (fun _ _ _ _ _ hs _ _ => hs)
          ⟨⟨_, Hh7.out, World.ownsRow_nil _ _ _ _⟩, HhO.out, Hhx.out, HBW.out, by have := HN2.out; omega⟩
          ?assign ?body ?done (fun c pre W hp hn => hn hp)
        case assign =>
          rintro lnn pre x W K ⟨⟨rs, h1, h2⟩, h3, h4, h5, h6⟩ hK
          obtain ⟨⟨y0, y1, y2⟩, hy⟩ : ∃ y, rowOf T x = y := ⟨_, rfl⟩
          simp only [NRAx, hy, rv] at hK
          simp only [hy]
          simp only [rv]
          have HK := Lib.hid hK; have K1 := Lib.hid h1; have K2 := Lib.hid h2; have K3 := Lib.hid h3; have K4 := Lib.hid h4; have K5 := Lib.hid h5; have K6 := Lib.hid h6
          clear hK h1 h2 h3 h4 h5 h6
          gi_wp2
          have BA : Below W.heap.size W (W.alloc (.cells #[.int .u32 y0, .int .u32 y1, .int .u32 y2] 58)) := (Below.refl _ W).alloc (Nat.le_refl _) _
          exact HK.out _ _ ⟨BA.size, fun k o _ h _ => (BA.block k (Array.getElem?_eq_some_iff.1 h).1).trans h⟩ (KeepS.below BA (fun i hi => by have := Hlt2.out i hi; have := K6.out; omega)) ⟨⟨rs, (BA.block _ (Array.getElem?_eq_some_iff.1 K1.out).1).trans K1.out, own_below K2.out BA⟩, own_below K3.out BA, (BA.block _ (Array.getElem?_eq_some_iff.1 K4.out).1).trans K4.out, K5.out.trans (BA.mono K5.out.size), Nat.le_trans K6.out BA.size⟩ ⟨W.heap.size, by have := K6.out; have := HN2.out; omega, rfl, World.alloc_heap_new W _⟩
        case body =>
          rintro lnn pre x W bx ⟨⟨rs, h1, h2⟩, h3, h4, h5, h6⟩ hbxl hbx hlen
          obtain ⟨⟨y0, y1, y2⟩, hy⟩ : ∃ y, rowOf T x = y := ⟨_, rfl⟩
          simp only [hy] at hbx ⊢
          simp only [rv]
          obtain ⟨m, hm⟩ : ∃ m, pre.length = m := ⟨_, rfl⟩
          rw [hm] at h2 hlen
          obtain ⟨ra, rcap, rfl⟩ := own_anyJ h2
          obtain ⟨z0, z1, z2⟩ : W.cell? ⟨bx, 0, none⟩ = some (.int .u32 y0) ∧ W.cell? ⟨bx, 1, none⟩ = some (.int .u32 y1) ∧ W.cell? ⟨bx, 2, none⟩ = some (.int .u32 y2) := by
            unfold World.cell?; rw [hbx]; exact ⟨rfl, rfl, rfl⟩
          have c71 : W.cell? ⟨b7, 1, none⟩ = some (.slice ra m rcap) := by unfold World.cell?; rw [h1]; rfl
          have hmT : m < 1000000 := by omega
          have hA := (Below.refl W.heap.size W).alloc (Nat.le_refl _) (.cells #[.int .u32 y0, .int .u32 y1, .int .u32 y2] 58)
          have HA := Lib.hid hA
          have HrA := Lib.hid (own_below h2 hA)
          have Kg := Lib.hid (show ∀ (i : Nat) (cur : Array Value) (t : TypeId) (fz : Nat × Nat), t ≠ 58 → ∀ w4 : World, (W.alloc (.cells #[.int .u32 y0, .int .u32 y1, .int .u32 y2] 58)).grownBy w4 (Value.slice ra m rcap).ownBlock → W.heap[i]? = some (.cells cur t fz) → w4.heap[i]? = some (.cells cur t fz) from fun i cur t fz ht w4 hg h => (hg.block i (Nat.lt_of_lt_of_le (Array.getElem?_eq_some_iff.1 h).1 hA.size) (fun e => own_ne HrA.out ((hA.block i (Array.getElem?_eq_some_iff.1 h).1).trans h) ht e.symm)).trans ((hA.block i (Array.getElem?_eq_some_iff.1 h).1).trans h))
          have K1 := Lib.hid h1; have K2 := Lib.hid h2; have K3 := Lib.hid h3; have K4 := Lib.hid h4; have K5 := Lib.hid h5; have K6 := Lib.hid h6; have Hm' := Lib.hid hm; have Hy := Lib.hid hy
          clear h1 h2 h3 h4 h5 h6 hbx hm hA hy
          gi_wp2_with (gi_at_builtin; refine wpListIn_append_own _ rfl _ _ 68 rfl N2 58 ir (.agg #[.int .u32 0, .int .u32 0, .int .u32 0]) 3 12 Try.underlying68 Hir.out Hq0.out Hq1.out Hq2.out rfl (by decide) _ _ _ rfl HrA.out ⟨W.heap.size, 0, none⟩ 1 1 [.int .u32 y0, .int .u32 y1, .int .u32 y2] rfl rfl (cells_blk (World.alloc_heap_new _ _)) (by simp [Value.oneCell']) (by unfold maxLen; omega) (by omega) (by have := K6.out; simp; omega) ?_; intro v' w4 hown' hgrow _; obtain ⟨g', cap', rfl⟩ := jown_slice hown' (Nat.succ_pos _); obtain ⟨vn, hvn⟩ : ∃ vn : Value, vn = .slice (some ⟨g', 0, none⟩) (m + 1) cap' := ⟨_, rfl⟩; rw [← hvn] at hown'; have Hvn := Lib.hid hvn; have Hown' := Lib.hid hown'; have Hgrow := Lib.hid hgrow; obtain ⟨c74, f74⟩ := lev_cell1 (Kg.out _ _ _ _ (by decide) w4 hgrow K1.out); clear hown' hgrow hvn)
          rw [← Hvn.out]
          have h74 := Kg.out _ _ _ _ (by decide) w4 Hgrow.out K1.out
          have hsl := (HA.out.size)
          have hoth : ∀ i, i < W.heap.size → i ≠ b7 → (Value.slice ra m rcap).ownBlock ≠ some i → (w4.setCell ⟨b7, 1, none⟩ vn).heap[i]? = W.heap[i]? := fun i hi h7 ho => (Below.heap_setCell _ _ _ i h7).trans ((Hgrow.out.block i (Nat.lt_of_lt_of_le hi HA.out.size) (fun e => ho e.symm)).trans (HA.out.block i hi))
          have hob : ∀ i, (Value.slice ra m rcap).ownBlock = some i → N2 ≤ i := fun i hi => (K2.out.lt i hi).1
          have hB4 : Below w.heap.size w w4 := ((K5.out.trans (HA.out.mono K5.out.size))).grown Hgrow.out (Nat.le_trans K5.out.size HA.out.size) (fun j hj => by have := hob j hj; have := HBb.out; omega)
          refine ⟨?_, ?_, ⟨vn, blk_set h74 1 vn, ?_⟩, ?_, ?_, hB4.setCell (p := ⟨b7, 1, none⟩) (by have := HBb.out; simp; omega) _, ?_⟩
          · refine ⟨by rw [World.size_setCell]; exact Nat.le_trans HA.out.size Hgrow.out.size, fun k o _ ho hc => (hoth k (Array.getElem?_eq_some_iff.1 ho).1 ?_ ?_).trans ho⟩
            · rintro rfl
              rw [K1.out] at ho; injection ho with ho; subst ho; cases hc
            · intro e
              obtain ⟨_, cur, fz, hh⟩ := own_ltJ K2.out k e
              rw [hh] at ho; injection ho with ho; subst ho; cases hc
          · exact fun i hi => hoth i (by have := Hlt2.out i hi; have := K6.out; omega) (Hlt2.out i hi).2 (fun e => by have := hob i e; have := Hlt2.out i hi; omega)
          · rw [List.length_append, List.length_singleton, Hm'.out, List.map_append, List.map_singleton, rws_snoc, Hy.out]
            exact jown_blk Hown'.out (fun g hg => Below.heap_setCell _ _ _ g (fun e => own_ne Hown'.out h74 (by decide) (by rw [hg, e])))
          · refine jown_blk K3.out (fun g hg => ?_)
            obtain ⟨_, cur, fz, hh⟩ := own_ltJ K3.out g hg
            refine hoth g (Array.getElem?_eq_some_iff.1 hh).1 ?_ ?_
            · rintro rfl
              rw [K1.out] at hh; injection hh with hh; injection hh with _ hh _; exact absurd hh (by decide)
            · intro e
              obtain ⟨_, cur', fz', hh'⟩ := own_ltJ K2.out g e
              rw [hh'] at hh; injection hh with hh; injection hh with _ hh _; exact absurd hh (by decide)
          · exact (hoth _ (by have := HBb.out; have := K6.out; omega) (by have := HBb.out; omega) (fun e => by have := hob _ e; have := HBb.out; omega)).trans K4.out
          · rw [World.size_setCell]
            exact Nat.le_trans K6.out (Nat.le_trans HA.out.size Hgrow.out.size)
        case done =>
          rintro DD ys W hDD hys ⟨⟨rs, h1, h2⟩, h3, h4, h5, h6⟩ hdef
          obtain ⟨ym, hym⟩ : ∃ ym, ys.length = ym := ⟨_, rfl⟩
          rw [hym] at h2
          obtain ⟨ra, rcap, rfl⟩ := own_anyJ h2
          obtain ⟨c70, c71, c72⟩ : W.cell? ⟨b7, 0, none⟩ = some (.int .i64 (i : Nat)) ∧ W.cell? ⟨b7, 1, none⟩ = some (.slice ra ym rcap) ∧ W.cell? ⟨b7, 2, none⟩ = some (.slice oa on ocap) := by unfold World.cell?; rw [h1]; exact ⟨rfl, rfl, rfl⟩
          obtain ⟨g0, g1, g2⟩ : W.cell? ⟨w.heap.size, 0, none⟩ = some (.int .i64 0) ∧ W.cell? ⟨w.heap.size, 1, none⟩ = some (.slice none 0 0) ∧ W.cell? ⟨w.heap.size, 2, none⟩ = some (.slice none 0 0) := by unfold World.cell?; rw [h4]; exact ⟨rfl, rfl, rfl⟩
          have ff : ∀ j, W.frozen? ⟨w.heap.size, j, none⟩ = false := fun j => by unfold World.frozen?; rw [h4]; simp
          have ff0 := ff 0; have ff1 := ff 1; have ff2 := ff 2
          have K1 := Lib.hid h1; have K2 := Lib.hid h2; have K3 := Lib.hid h3; have K4 := Lib.hid h4; have K5 := Lib.hid h5; have K6 := Lib.hid h6
          have HD := Lib.hid hdef
          have HDw := Lib.hid (show DD ≠ w.heap.size ∧ w.heap.size ≤ DD by have := HBb.out; have := HN2.out; omega)
          have Hys := Lib.hid hys; have Hym := Lib.hid hym
          clear h1 h2 h3 h4 h5 h6 hdef hDD hys hym ff
          go_wp2_with fail
          have hyf := blk_set (blk_set (blk_set K4.out 0 (.int .i64 (i : Nat))) 1 (.slice ra ym rcap)) 2 (.slice oa on ocap)
          obtain ⟨Wz, hWz⟩ : ∃ Wz, Wz = (((W.setCell ⟨w.heap.size, 0, none⟩ (.int .i64 (i : Nat))).setCell ⟨w.heap.size, 1, none⟩ (.slice ra ym rcap)).setCell ⟨w.heap.size, 2, none⟩ (.slice oa on ocap)) := ⟨_, rfl⟩
          have hoth : ∀ i, i ≠ w.heap.size → Wz.heap[i]? = W.heap[i]? := fun i hi => by rw [hWz]; exact (Below.heap_setCell _ _ _ i hi).trans ((Below.heap_setCell _ _ _ i hi).trans (Below.heap_setCell _ _ _ i hi))
          have hBz : Below w.heap.size w Wz := by rw [hWz]; exact ((K5.out.setCell (p := ⟨w.heap.size, 0, none⟩) (by simp) _).setCell (p := ⟨w.heap.size, 1, none⟩) (by simp) _).setCell (p := ⟨w.heap.size, 2, none⟩) (by simp) _
          rw [← hWz] at hyf ⊢
          clear hWz
          have hd1 : Wz.heap[DD]? = some (.deferred (some [])) := (hoth DD HDw.out.1).trans HD.out
          refine ⟨by simp, .inl ⟨_, _, rfl, run_takeDeferred hd1, ?_⟩⟩
          have hp1 : ∀ i, i ≠ DD → (Wz.putObj DD (.deferred none)).heap[i]? = Wz.heap[i]? := fun i hi => World.putObj_heap_other hi
          have hBf : Below w.heap.size w (Wz.putObj DD (.deferred none)) := hBz.trans (belowK_b (w := w) (Nat.le_refl _) _ DD _ _ HDw.out.2 hd1 rfl rfl)
          have hcl : ∀ (i : Nat) (cur : Array Value) (t : TypeId) (fz : Nat × Nat), t ≠ 102 → W.heap[i]? = some (.cells cur t fz) → (Wz.putObj DD (.deferred none)).heap[i]? = some (.cells cur t fz) := fun i cur t fz ht h =>
            (hp1 i (fun e => by subst e; rw [HD.out] at h; cases h)).trans ((hoth i (fun e => by subst e; rw [K4.out] at h; injection h with h; injection h with _ h _; exact ht h.symm)).trans h)
          have hyf2 := (hp1 _ (Ne.symm HDw.out.1)).trans hyf
          have ho1 : (Wz.putObj DD (.deferred none)).ownsRow w.heap.size 58 3 (.slice ra ym rcap) ym (rws (ys.map (rowOf T))) := own_mono (jown_blk K2.out (fun g hg => by
            obtain ⟨_, cur, fz, hh⟩ := own_ltJ K2.out g hg
            exact (hcl _ _ _ _ (by decide) hh).trans hh.symm)) (by have := HBb.out; omega)
          have ho2 : (Wz.putObj DD (.deferred none)).ownsRow w.heap.size 3 1 (.slice oa on ocap) on (ics own) := jown_blk K3.out (fun g hg => by
            obtain ⟨_, cur, fz, hh⟩ := own_ltJ K3.out g hg
            exact (hcl _ _ _ _ (by decide) hh).trans hh.symm)
          generalize (Wz.putObj DD (.deferred none)) = Wf at *
          obtain ⟨q0, q1, q2⟩ : Wf.cell? ⟨w.heap.size, 0, none⟩ = some (.int .i64 (i : Nat)) ∧ Wf.cell? ⟨w.heap.size, 1, none⟩ = some (.slice ra ym rcap) ∧ Wf.cell? ⟨w.heap.size, 2, none⟩ = some (.slice oa on ocap) := by unfold World.cell?; rw [hyf2]; exact ⟨rfl, rfl, rfl⟩
          refine ⟨.agg #[.int .i64 (i : Nat), .slice ra ym rcap, .slice oa on ocap], ?_, ⟨_, _, rfl, hBf, ?_, ?_⟩⟩
          · have hres : Try.f33.results = #[.cell 4 102] := rfl
            simp only [results, hres]
            clear ho1 ho2 hyf hyf2 hcl hoth hp1
            go_simp
          · have e1 : stepRows T L ⟨kk, (a0, i0), (a1, i1), (a2, i2), (a3, i3), (a4, i4)⟩ fr tu bt = ys.map (rowOf T) := by unfold stepRows; rw [Hlk.out, Hys.out]
            rw [e1, List.length_map, Hym.out]
            exact ho1
          · rw [← HL0.out, Hon.out]
            exact ho2
end
end Go.Proofs.Ytkgkkbfpkgfcaaa
