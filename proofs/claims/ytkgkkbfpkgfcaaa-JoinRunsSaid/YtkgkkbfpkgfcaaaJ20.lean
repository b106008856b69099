/- Layer 14: the law's begin: a table of rows, the reference's, and the rows. -/
import Derived.Test.YtkgkkbfpkgfcaaaJ19
namespace Go.Proofs.Ytkgkkbfpkgfcaaa
set_option maxRecDepth 100000
open Go.RowKit Go.Maps
set_option linter.unusedVariables false
set_option linter.unusedSimpArgs false

theorem addT_len (T : TS) (r : R3) (b : Int) : (addT T r b).length ≤ T.length + 1 := by
  unfold addT
  split
  · omega
  · split
    all_goals first | omega | (rw [setB_length]; omega) | (rw [setB_length]; simp)
theorem isR_nil {Z : Zone} {w : World} (hw : ∀ j, Z.W w.heap.size j) : IsR Z (w.alloc (.cells #[.slice none 0 0, .slice none 0 0] 71)) w.heap.size [] (.slice none 0 0) (.slice none 0 0) where
  obj := World.alloc_heap_new w _
  own := hw
  rows := Sl.nil _ _ _ _
  rowsW := fun g hg => by simp [Value.ownBlock] at hg
  bits := Sl.nil _ _ _ _
  bitsW := fun g hg => by simp [Value.ownBlock] at hg
  oks := by simp
  long := by simp
  nil0 := fun _ => ⟨rfl, rfl⟩
def Zone.from (n0 : Nat) : Zone where
  W i _ := n0 ≤ i
  R i _ := n0 ≤ i
  M i := n0 ≤ i
  sub _ _ h := h
def Zone.one (n : Nat) : Zone where
  W i _ := i = n
  R i _ := i = n
  M _ := False
  sub _ _ h := h
theorem Sts.start {n0 : Nat} {w1 : World} {D : TabD} {tb : Nat} (hI : IsT (Zone.from n0) w1 tb [] D) (hn : n0 ≤ w1.heap.size) :
    Sts n0 (w1.alloc (.cells #[.slice none 0 0, .slice none 0 0] 71)) tb w1.heap.size [] [] := by
  have hz := World.size_alloc w1 (.cells #[.slice none 0 0, .slice none 0 0] 71)
  refine ⟨(Zone.from n0).cut w1.heap.size, Zone.one w1.heap.size, D, _, _, (hI.cut (Nat.le_refl _)).below ((Below.refl _ w1).alloc (Nat.le_refl _) _), isR_nil (fun _ => rfl), ?_, ?_, ?_, by omega⟩
  · rintro i j ⟨_, h1⟩ h2
    exact Nat.ne_of_lt h1 h2
  · rintro i j ⟨h1, h2⟩
    exact ⟨h1, by omega⟩
  · rintro i j h1
    exact ⟨by rw [show i = _ from h1]; exact hn, by rw [show i = _ from h1]; omega⟩
/-- rows with bits that come in -/
structure IsRow4 (w : World) (b o : Nat) (y : R3 × Int) : Prop where
  lt : b < w.heap.size
  c0 : w.cell? ⟨b, o, none⟩ = some (.int .u32 y.1.1)
  c1 : w.cell? ⟨b, o + 1, none⟩ = some (.int .u32 y.1.2.1)
  c2 : w.cell? ⟨b, o + 2, none⟩ = some (.int .u32 y.1.2.2)
  c3 : w.cell? ⟨b, o + 3, none⟩ = some (.int .u8 y.2)
  r : rok y.1
  b8 : is8 y.2
def IsRows4 (w : World) (a : Option Addr) (l : TS) : Prop := ∀ i (h : i < l.length), ∃ b o, a = some ⟨b, o, none⟩ ∧ IsRow4 w b (o + i * 4) l[i]
theorem IsRow4.below {w w' : World} {b o : Nat} {y : R3 × Int} (h : IsRow4 w b o y) (hb : Below w.heap.size w w') : IsRow4 w' b o y :=
  ⟨Nat.lt_of_lt_of_le h.lt hb.size, cell_later hb h.c0, cell_later hb h.c1, cell_later hb h.c2, cell_later hb h.c3, h.r, h.b8⟩
theorem IsRows4.below {w w' : World} {a : Option Addr} {l : TS} (h : IsRows4 w a l) (hb : Below w.heap.size w w') : IsRows4 w' a l := fun i hi => by
  obtain ⟨b, o, h1, h2⟩ := h i hi
  exact ⟨b, o, h1, h2.below hb⟩
/-- the table of rows -/
def tabOf (l : TS) : TS := l.foldl (fun T y => addT T y.1 y.2) []
theorem tabOf_len (l : TS) : (tabOf l).length ≤ l.length := by
  have h : ∀ (l T : TS), (l.foldl (fun T y => addT T y.1 y.2) T).length ≤ T.length + l.length := by
    intro l
    induction l with
    | nil => intro T; simp
    | cons y l ih =>
      intro T
      have := ih (addT T y.1 y.2)
      have := addT_len T y.1 y.2
      simp only [List.foldl_cons, List.length_cons]
      omega
  have := h l []
  simpa [tabOf] using this
theorem tabOf_snoc (l : TS) (i : Nat) (h : i < l.length) : tabOf (l.take (i + 1)) = addT (tabOf (l.take i)) l[i].1 l[i].2 := by
  unfold tabOf
  rw [List.take_add_one, List.getElem?_eq_getElem h, Option.toList_some, List.foldl_append]
  rfl
def r4s (T : TS) : List Value := T.flatMap fun y => [.int .u32 y.1.1, .int .u32 y.1.2.1, .int .u32 y.1.2.2, .int .u8 y.2]
theorem r4s_snoc (T : TS) (y : R3 × Int) : r4s (T ++ [y]) = r4s T ++ [.int .u32 y.1.1, .int .u32 y.1.2.1, .int .u32 y.1.2.2, .int .u8 y.2] := by simp [r4s]
theorem Try.infoRow4 : (Try.prog.info? 73).map (fun i => (i.zero, i.size, i.bytes)) = some (some (.agg #[.int .u32 0, .int .u32 0, .int .u32 0, .int .u8 0]), 4, 16) := by kernel_rfl
set_option maxRecDepth 100000 in
set_option maxHeartbeats 4000000 in
theorem begin14_any (w : World) (la : Option Addr) (cap : Nat) (l : TS) (hl : IsRows4 w la l) (hlen : l.length ≤ 1000) :
    Calls Try.prog 9 #[.slice la l.length cap] w fun e w' => ∃ (tb : Nat) (v : Value) (Z : Zone) (D : TabD), e = .returned (.tuple #[.pointer (some ⟨tb, 0, none⟩), v]) ∧ IsT Z w' tb (tabOf l) D ∧
      w'.ownsRow w.heap.size 73 4 v (tabOf l).length (r4s (tabOf l)) ∧ Below w.heap.size w w' := by
  obtain ⟨n, hn⟩ : ∃ n, l.length = n := ⟨_, rfl⟩
  rw [hn] at hlen ⊢
  have Hl := Lib.hid hl; have Hn := Lib.hid hn
  clear hl hn
  go_enter Try.func9, Try.ntmps9
  go_wp2_with fail
  refine (new_any (Z := Zone.from w.heap.size) (fun i j h => h) (fun i h => h)).mono ?_
  rintro e w1 ⟨rfl, hI, hB, -⟩
  have HI := Lib.hid hI; have HB := Lib.hid hB
  clear hI hB
  go_wp2_with fail
  have HS0 := Lib.hid (Sts.start HI.out HB.out.size)
  have HB0 := Lib.hid (HB.out.trans (((Below.refl _ w1).alloc (Nat.le_refl _) (.cells #[.slice none 0 0, .slice none 0 0] 71)).mono HB.out.size))
  obtain ⟨tb, htb⟩ : ∃ tb, w.heap.size + 2 = tb := ⟨_, rfl⟩
  generalize hW0 : w1.alloc (.cells #[.slice none 0 0, .slice none 0 0] 71) = W0 at *
  obtain ⟨rb, hrb⟩ : ∃ rb, w1.heap.size = rb := ⟨_, rfl⟩
  rw [htb, hrb] at HS0
  rw [htb, hrb]
  clear hW0 htb hrb
  go_wp2_with fail
  go_loopw [6] (fun u wr => ∃ k : Nat, k ≤ n ∧ u = .int .i64 k ∧ Below w.heap.size w wr ∧ Sts w.heap.size wr tb rb (tabOf (l.take k)) (tabOf (l.take k))) (fun u _ => n - (intOf u).toNat)
  case atStart => exact ⟨0, by omega, rfl, HB0.out, HS0.out⟩
  case round =>
    obtain ⟨k, hk, rfl, hBr, hSt⟩ := hrel
    have HBr := Lib.hid hBr; have HSt := Lib.hid hSt
    clear hBr hSt
    by_cases hkl : k < n
    · have hd2 : decide ((k : Int) < (n : Int)) = true := by simp; omega
      obtain ⟨b, off, rfl, hy4⟩ := Hl.out.below HBr.out k (by have := Hn.out; omega)
      obtain ⟨⟨⟨x0, x1, x2⟩, bt⟩, hy⟩ : ∃ y : R3 × Int, l[k]'(by have := Hn.out; omega) = y := ⟨_, rfl⟩
      have hsn := tabOf_snoc l k (by have := Hn.out; omega)
      rw [hy] at hy4 hsn
      obtain ⟨_, c0, c1, c2, c3, hro, hb8⟩ := hy4
      simp only at c0 c1 c2 c3 hro hb8 hsn
      have hTl := tabOf_len (l.take k)
      have Hro := Lib.hid hro; have Hsn := Lib.hid hsn
      have hTl2 : (tabOf (l.take k)).length + 1 ≤ 1000000 := by rw [List.length_take] at hTl; omega
      have HTl := Lib.hid hTl2
      obtain ⟨T, hT⟩ : ∃ T, tabOf (l.take k) = T := ⟨_, rfl⟩
      rw [hT] at HSt Hsn HTl
      have Hy := Lib.hid hy
      clear hy hro hb8 hsn hTl hTl2 hT
      go_wp2_with fail
      have HBn := Lib.hid (show Below w.heap.size w wr.drew from HBr.out.drew)
      have HSn := Lib.hid (show Sts w.heap.size wr.drew tb rb T T from HSt.out.below (Below.refl _ wr).drew)
      have c0 : wr.drew.cell? ⟨b, off + k * 4, none⟩ = _ := c0
      have c1 : wr.drew.cell? ⟨b, off + k * 4 + 1, none⟩ = _ := c1
      have c2 : wr.drew.cell? ⟨b, off + k * 4 + 2, none⟩ = _ := c2
      have c3 : wr.drew.cell? ⟨b, off + k * 4 + 3, none⟩ = _ := c3
      obtain ⟨S5, hSe⟩ : ∃ S : Array Bool → World → Prop, S = fun L w' => L.getD 11 true = false → w' = wr.drew := ⟨_, rfl⟩
      have hdrop : ∀ i, i ≠ 11 → ∀ L w', S5 (L.setIfInBounds i true) w' → S5 L w' := by
        intro i hi L w'
        rw [hSe]
        intro h hl
        exact h (by rw [getD_set_ne true hi]; exact hl)
      have hS : ∀ L, S5 L wr.drew := by intro L; rw [hSe]; exact fun _ => rfl
      have hSo : ∀ {L w'}, S5 L w' → L.getD 11 true = false → w' = wr.drew := by intro L w' h hl; rw [hSe] at h; exact h hl
      have hSd : ∀ (L : Array Bool) X, L.getD 11 true = true → S5 L X := by
        intro L X h; rw [hSe]; intro h1; rw [h] at h1; cases h1
      clear hSe
      refine wp_region_LN S5 12 #[false, false, false, false, false, false, false, false, false, false, false, false] (by kernel_rfl) (by kernel_rfl) rfl ?_
      obtain ⟨X_, hX⟩ : ∃ X_, X_ = wr.drew := ⟨_, rfl⟩
      rw [← hX] at c0 c1 c2 c3 hSo hS HBn HSn ⊢
      clear hX
      refine WA.take (i := 0) (v := .pointer (some ⟨tb, 0, none⟩)) rfl (by kernel_rfl) (by kernel_rfl) (by kernel_rfl) (fun _ _ _ h => h) (hdrop 0 (by decide)) (Or.inl ⟨by rfl, ?_⟩) (hS _) ?_
      · rintro w' ⟨L, hL, hSw, hun⟩
        go_simp
      simp only [List.getElem_toArray, List.getElem_cons_zero, List.getElem_cons_succ, Act.put, List.setIfInBounds_toArray, List.set_cons_zero, List.set_cons_succ]
      refine WA.take (i := 1) (v := .slice (some ⟨b, off, none⟩) n cap) rfl (by kernel_rfl) (by kernel_rfl) (by kernel_rfl) (fun _ _ _ h => h) (hdrop 1 (by decide)) (Or.inl ⟨by rfl, ?_⟩) (hS _) ?_
      · rintro w' ⟨L, hL, hSw, hun⟩
        go_simp
      simp only [List.getElem_toArray, List.getElem_cons_zero, List.getElem_cons_succ, Act.put, List.setIfInBounds_toArray, List.set_cons_zero, List.set_cons_succ]
      refine WA.take (i := 2) (v := .int .i64 (k : Nat)) rfl (by kernel_rfl) (by kernel_rfl) (by kernel_rfl) (fun _ _ _ h => h) (hdrop 2 (by decide)) (Or.inl ⟨by rfl, ?_⟩) (hS _) ?_
      · rintro w' ⟨L, hL, hSw, hun⟩
        go_simp
      simp only [List.getElem_toArray, List.getElem_cons_zero, List.getElem_cons_succ, Act.put, List.setIfInBounds_toArray, List.set_cons_zero, List.set_cons_succ]
      refine WA.take (i := 3) (v := .pointer (some ⟨b, off + k * 4, none⟩)) rfl (by kernel_rfl) (by kernel_rfl) (by kernel_rfl) (fun _ _ _ h => h) (hdrop 3 (by decide)) (Or.inl ⟨by rfl, ?_⟩) (hS _) ?_
      · rintro w' ⟨L, hL, hSw, hun⟩
        go_simp
      simp only [List.getElem_toArray, List.getElem_cons_zero, List.getElem_cons_succ, Act.put, List.setIfInBounds_toArray, List.set_cons_zero, List.set_cons_succ]
      refine WA.take (i := 4) (v := .pointer (some ⟨b, off + k * 4, none⟩)) rfl (by kernel_rfl) (by kernel_rfl) (by kernel_rfl) (fun _ _ _ h => h) (hdrop 4 (by decide)) (Or.inl ⟨by rfl, ?_⟩) (hS _) ?_
      · rintro w' ⟨L, hL, hSw, hun⟩
        go_simp
      simp only [List.getElem_toArray, List.getElem_cons_zero, List.getElem_cons_succ, Act.put, List.setIfInBounds_toArray, List.set_cons_zero, List.set_cons_succ]
      refine WA.take (i := 5) (v := .agg #[.int .u32 x0, .int .u32 x1, .int .u32 x2]) rfl (by kernel_rfl) (by kernel_rfl) (by kernel_rfl) (fun _ _ _ h => h) (hdrop 5 (by decide)) (Or.inl ⟨by rfl, ?_⟩) (hS _) ?_
      · rintro w' ⟨L, hL, hSw, hun⟩
        obtain rfl := hSo hSw (hL.wait 11 5 (by kernel_rfl) hun)
        go_simp
      simp only [List.getElem_toArray, List.getElem_cons_zero, List.getElem_cons_succ, Act.put, List.setIfInBounds_toArray, List.set_cons_zero, List.set_cons_succ]
      refine WA.take (i := 6) (v := .slice (some ⟨b, off, none⟩) n cap) rfl (by kernel_rfl) (by kernel_rfl) (by kernel_rfl) (fun _ _ _ h => h) (hdrop 6 (by decide)) (Or.inl ⟨by rfl, ?_⟩) (hS _) ?_
      · rintro w' ⟨L, hL, hSw, hun⟩
        go_simp
      simp only [List.getElem_toArray, List.getElem_cons_zero, List.getElem_cons_succ, Act.put, List.setIfInBounds_toArray, List.set_cons_zero, List.set_cons_succ]
      refine WA.take (i := 7) (v := .int .i64 (k : Nat)) rfl (by kernel_rfl) (by kernel_rfl) (by kernel_rfl) (fun _ _ _ h => h) (hdrop 7 (by decide)) (Or.inl ⟨by rfl, ?_⟩) (hS _) ?_
      · rintro w' ⟨L, hL, hSw, hun⟩
        go_simp
      simp only [List.getElem_toArray, List.getElem_cons_zero, List.getElem_cons_succ, Act.put, List.setIfInBounds_toArray, List.set_cons_zero, List.set_cons_succ]
      refine WA.take (i := 8) (v := .pointer (some ⟨b, off + k * 4, none⟩)) rfl (by kernel_rfl) (by kernel_rfl) (by kernel_rfl) (fun _ _ _ h => h) (hdrop 8 (by decide)) (Or.inl ⟨by rfl, ?_⟩) (hS _) ?_
      · rintro w' ⟨L, hL, hSw, hun⟩
        go_simp
      simp only [List.getElem_toArray, List.getElem_cons_zero, List.getElem_cons_succ, Act.put, List.setIfInBounds_toArray, List.set_cons_zero, List.set_cons_succ]
      refine WA.take (i := 9) (v := .pointer (some ⟨b, off + k * 4 + 3, none⟩)) rfl (by kernel_rfl) (by kernel_rfl) (by kernel_rfl) (fun _ _ _ h => h) (hdrop 9 (by decide)) (Or.inl ⟨by rfl, ?_⟩) (hS _) ?_
      · rintro w' ⟨L, hL, hSw, hun⟩
        go_simp
      simp only [List.getElem_toArray, List.getElem_cons_zero, List.getElem_cons_succ, Act.put, List.setIfInBounds_toArray, List.set_cons_zero, List.set_cons_succ]
      refine WA.take (i := 10) (v := .int .u8 bt) rfl (by kernel_rfl) (by kernel_rfl) (by kernel_rfl) (fun _ _ _ h => h) (hdrop 10 (by decide)) (Or.inl ⟨by rfl, ?_⟩) (hS _) ?_
      · rintro w' ⟨L, hL, hSw, hun⟩
        obtain rfl := hSo hSw (hL.wait 11 10 (by kernel_rfl) hun)
        go_simp
      simp only [List.getElem_toArray, List.getElem_cons_zero, List.getElem_cons_succ, Act.put, List.setIfInBounds_toArray, List.set_cons_zero, List.set_cons_succ]
      refine WA.one (i := 11) (by kernel_rfl) rfl (by rfl) (fun K hK => ?_)
      go_simp
      obtain ⟨A, B, D, vr, vb, hst⟩ := HSn.out
      refine (add_any (hst.t.up X_.heap.size) (Zone.up_opn _ _) (x0, x1, x2) bt Hro.out HTl.out).mono ?_
      rintro e w2 ⟨rfl, ⟨D2, t2⟩, f2⟩
      obtain ⟨hS2, hB2⟩ := hst.turnT t2 f2
      have HS2 := Lib.hid hS2; have HB2 := Lib.hid (HBn.out.trans hB2)
      obtain ⟨b, off, hab, hy4⟩ := Hl.out.below HB2.out k (by have := Hn.out; omega)
      injection hab with hab
      injection hab with hab1 hab2
      subst hab1 hab2
      have hy : l[k]'(by have := Hn.out; omega) = ((x0, x1, x2), bt) := Hy.out
      rw [hy] at hy4
      obtain ⟨_, c0, c1, c2, c3, _, _⟩ := hy4
      simp only at c0 c1 c2 c3
      clear hS2 hB2 t2 f2 hst hy
      refine hK _ _ (hSd _ _ (by rfl)) ?_
      clear hK
      try simp only [List.getElem_toArray, List.getElem_cons_zero, List.getElem_cons_succ, Act.put, List.setIfInBounds_toArray, List.set_cons_zero, List.set_cons_succ]
      refine WA.done (by kernel_rfl) ?_ _
      refine Nrm.normal ?_
      clear hSo hS hdrop hSd HBn HSn
      clear S5
      go_wp2_with fail
      have HBn := Lib.hid (show Below w.heap.size w w2.drew from HB2.out.drew)
      have HSn := Lib.hid (show Sts w.heap.size w2.drew tb rb (addT T (x0, x1, x2) bt) T from by obtain ⟨A, B, D, vr, vb, h⟩ := HS2.out; exact ⟨A, B, D, vr, vb, h.below (Below.refl _ w2).drew⟩)
      have c0 : w2.drew.cell? ⟨b, off + k * 4, none⟩ = _ := c0
      have c1 : w2.drew.cell? ⟨b, off + k * 4 + 1, none⟩ = _ := c1
      have c2 : w2.drew.cell? ⟨b, off + k * 4 + 2, none⟩ = _ := c2
      have c3 : w2.drew.cell? ⟨b, off + k * 4 + 3, none⟩ = _ := c3
      obtain ⟨S6, hSe⟩ : ∃ S : Array Bool → World → Prop, S = fun L w' => L.getD 11 true = false → w' = w2.drew := ⟨_, rfl⟩
      have hdrop : ∀ i, i ≠ 11 → ∀ L w', S6 (L.setIfInBounds i true) w' → S6 L w' := by
        intro i hi L w'
        rw [hSe]
        intro h hl
        exact h (by rw [getD_set_ne true hi]; exact hl)
      have hS : ∀ L, S6 L w2.drew := by intro L; rw [hSe]; exact fun _ => rfl
      have hSo : ∀ {L w'}, S6 L w' → L.getD 11 true = false → w' = w2.drew := by intro L w' h hl; rw [hSe] at h; exact h hl
      have hSd : ∀ (L : Array Bool) X, L.getD 11 true = true → S6 L X := by
        intro L X h; rw [hSe]; intro h1; rw [h] at h1; cases h1
      clear hSe
      refine wp_region_LN S6 12 #[false, false, false, false, false, false, false, false, false, false, false, false] (by kernel_rfl) (by kernel_rfl) rfl ?_
      obtain ⟨X_, hX⟩ : ∃ X_, X_ = w2.drew := ⟨_, rfl⟩
      rw [← hX] at c0 c1 c2 c3 hSo hS HBn HSn ⊢
      clear hX
      refine WA.take (i := 0) (v := .pointer (some ⟨rb, 0, none⟩)) rfl (by kernel_rfl) (by kernel_rfl) (by kernel_rfl) (fun _ _ _ h => h) (hdrop 0 (by decide)) (Or.inl ⟨by rfl, ?_⟩) (hS _) ?_
      · rintro w' ⟨L, hL, hSw, hun⟩
        go_simp
      simp only [List.getElem_toArray, List.getElem_cons_zero, List.getElem_cons_succ, Act.put, List.setIfInBounds_toArray, List.set_cons_zero, List.set_cons_succ]
      refine WA.take (i := 1) (v := .slice (some ⟨b, off, none⟩) n cap) rfl (by kernel_rfl) (by kernel_rfl) (by kernel_rfl) (fun _ _ _ h => h) (hdrop 1 (by decide)) (Or.inl ⟨by rfl, ?_⟩) (hS _) ?_
      · rintro w' ⟨L, hL, hSw, hun⟩
        go_simp
      simp only [List.getElem_toArray, List.getElem_cons_zero, List.getElem_cons_succ, Act.put, List.setIfInBounds_toArray, List.set_cons_zero, List.set_cons_succ]
      refine WA.take (i := 2) (v := .int .i64 (k : Nat)) rfl (by kernel_rfl) (by kernel_rfl) (by kernel_rfl) (fun _ _ _ h => h) (hdrop 2 (by decide)) (Or.inl ⟨by rfl, ?_⟩) (hS _) ?_
      · rintro w' ⟨L, hL, hSw, hun⟩
        go_simp
      simp only [List.getElem_toArray, List.getElem_cons_zero, List.getElem_cons_succ, Act.put, List.setIfInBounds_toArray, List.set_cons_zero, List.set_cons_succ]
      refine WA.take (i := 3) (v := .pointer (some ⟨b, off + k * 4, none⟩)) rfl (by kernel_rfl) (by kernel_rfl) (by kernel_rfl) (fun _ _ _ h => h) (hdrop 3 (by decide)) (Or.inl ⟨by rfl, ?_⟩) (hS _) ?_
      · rintro w' ⟨L, hL, hSw, hun⟩
        go_simp
      simp only [List.getElem_toArray, List.getElem_cons_zero, List.getElem_cons_succ, Act.put, List.setIfInBounds_toArray, List.set_cons_zero, List.set_cons_succ]
      refine WA.take (i := 4) (v := .pointer (some ⟨b, off + k * 4, none⟩)) rfl (by kernel_rfl) (by kernel_rfl) (by kernel_rfl) (fun _ _ _ h => h) (hdrop 4 (by decide)) (Or.inl ⟨by rfl, ?_⟩) (hS _) ?_
      · rintro w' ⟨L, hL, hSw, hun⟩
        go_simp
      simp only [List.getElem_toArray, List.getElem_cons_zero, List.getElem_cons_succ, Act.put, List.setIfInBounds_toArray, List.set_cons_zero, List.set_cons_succ]
      refine WA.take (i := 5) (v := .agg #[.int .u32 x0, .int .u32 x1, .int .u32 x2]) rfl (by kernel_rfl) (by kernel_rfl) (by kernel_rfl) (fun _ _ _ h => h) (hdrop 5 (by decide)) (Or.inl ⟨by rfl, ?_⟩) (hS _) ?_
      · rintro w' ⟨L, hL, hSw, hun⟩
        obtain rfl := hSo hSw (hL.wait 11 5 (by kernel_rfl) hun)
        go_simp
      simp only [List.getElem_toArray, List.getElem_cons_zero, List.getElem_cons_succ, Act.put, List.setIfInBounds_toArray, List.set_cons_zero, List.set_cons_succ]
      refine WA.take (i := 6) (v := .slice (some ⟨b, off, none⟩) n cap) rfl (by kernel_rfl) (by kernel_rfl) (by kernel_rfl) (fun _ _ _ h => h) (hdrop 6 (by decide)) (Or.inl ⟨by rfl, ?_⟩) (hS _) ?_
      · rintro w' ⟨L, hL, hSw, hun⟩
        go_simp
      simp only [List.getElem_toArray, List.getElem_cons_zero, List.getElem_cons_succ, Act.put, List.setIfInBounds_toArray, List.set_cons_zero, List.set_cons_succ]
      refine WA.take (i := 7) (v := .int .i64 (k : Nat)) rfl (by kernel_rfl) (by kernel_rfl) (by kernel_rfl) (fun _ _ _ h => h) (hdrop 7 (by decide)) (Or.inl ⟨by rfl, ?_⟩) (hS _) ?_
      · rintro w' ⟨L, hL, hSw, hun⟩
        go_simp
      simp only [List.getElem_toArray, List.getElem_cons_zero, List.getElem_cons_succ, Act.put, List.setIfInBounds_toArray, List.set_cons_zero, List.set_cons_succ]
      refine WA.take (i := 8) (v := .pointer (some ⟨b, off + k * 4, none⟩)) rfl (by kernel_rfl) (by kernel_rfl) (by kernel_rfl) (fun _ _ _ h => h) (hdrop 8 (by decide)) (Or.inl ⟨by rfl, ?_⟩) (hS _) ?_
      · rintro w' ⟨L, hL, hSw, hun⟩
        go_simp
      simp only [List.getElem_toArray, List.getElem_cons_zero, List.getElem_cons_succ, Act.put, List.setIfInBounds_toArray, List.set_cons_zero, List.set_cons_succ]
      refine WA.take (i := 9) (v := .pointer (some ⟨b, off + k * 4 + 3, none⟩)) rfl (by kernel_rfl) (by kernel_rfl) (by kernel_rfl) (fun _ _ _ h => h) (hdrop 9 (by decide)) (Or.inl ⟨by rfl, ?_⟩) (hS _) ?_
      · rintro w' ⟨L, hL, hSw, hun⟩
        go_simp
      simp only [List.getElem_toArray, List.getElem_cons_zero, List.getElem_cons_succ, Act.put, List.setIfInBounds_toArray, List.set_cons_zero, List.set_cons_succ]
      refine WA.take (i := 10) (v := .int .u8 bt) rfl (by kernel_rfl) (by kernel_rfl) (by kernel_rfl) (fun _ _ _ h => h) (hdrop 10 (by decide)) (Or.inl ⟨by rfl, ?_⟩) (hS _) ?_
      · rintro w' ⟨L, hL, hSw, hun⟩
        obtain rfl := hSo hSw (hL.wait 11 10 (by kernel_rfl) hun)
        go_simp
      simp only [List.getElem_toArray, List.getElem_cons_zero, List.getElem_cons_succ, Act.put, List.setIfInBounds_toArray, List.set_cons_zero, List.set_cons_succ]
      refine WA.one (i := 11) (by kernel_rfl) rfl (by rfl) (fun K hK => ?_)
      go_simp
      obtain ⟨A, B, D, vr, vb, hst⟩ := HSn.out
      refine (radd_any (hst.r.up X_.heap.size) (Zone.up_opn _ _) (x0, x1, x2) Hro.out bt HTl.out).mono ?_
      rintro e w3 ⟨rfl, ⟨vr2, vb2, t2⟩, f2⟩
      obtain ⟨hS3, hB3⟩ := hst.turnR t2 f2
      have HS3 := Lib.hid hS3; have HB3 := Lib.hid (HBn.out.trans hB3)
      clear hS3 hB3 t2 f2 hst
      refine hK _ _ (hSd _ _ (by rfl)) ?_
      clear hK
      try simp only [List.getElem_toArray, List.getElem_cons_zero, List.getElem_cons_succ, Act.put, List.setIfInBounds_toArray, List.set_cons_zero, List.set_cons_succ]
      refine WA.done (by kernel_rfl) ?_ _
      refine Nrm.normal ?_
      clear hSo hS hdrop hSd HBn HSn c0 c1 c2 c3
      clear S6
      go_wp2_with fail
      refine ⟨⟨k + 1, by omega, by push_cast; rfl, HB3.out, ?_⟩, by simp [intOf]; omega⟩
      rw [Hsn.out]
      exact HS3.out
    · have hkl' : k = n := by omega
      have hd2 : decide ((k : Int) < (n : Int)) = false := by simp; omega
      have Hkl := Lib.hid hkl'
      clear hkl'
      have hTT : tabOf (l.take k) = tabOf l := by rw [Hkl.out, ← Hn.out, List.take_length]
      have hTl := tabOf_len l
      rw [Hn.out] at hTl
      rw [hTT] at HSt
      obtain ⟨T, hT⟩ : ∃ T, tabOf l = T := ⟨_, rfl⟩
      rw [hT] at HSt hTl
      obtain ⟨tl, htl⟩ : ∃ tl, T.length = tl := ⟨_, rfl⟩
      rw [htl] at hTl
      have Htl := Lib.hid htl; have HTeq := Lib.hid hT
      clear hTT hT htl
      obtain ⟨A, B, D, vr, vb, hst⟩ := HSt.out
      have Hst := Lib.hid hst
      clear hst
      go_wp2_with fail
      obtain ⟨V2, hV2⟩ : ∃ V2, V2 = wr := ⟨_, rfl⟩
      rw [← hV2] at HBr Hst ⊢
      clear hV2
      go_loopw [7, 8] (fun u7 u8 wx => ∃ j : Nat, j ≤ tl ∧ u8 = .int .i64 j ∧ Below V2.heap.size V2 wx ∧ wx.ownsRow V2.heap.size 73 4 u7 j (r4s (T.take j))) (fun _ u8 _ => tl - (intOf u8).toNat)
      case atStart => exact ⟨0, Nat.zero_le _, rfl, Below.refl _ _, World.ownsRow_nil _ _ _ _⟩
      case round =>
        obtain ⟨j, hj, rfl, hBj, hown⟩ := hrel
        have hst2 := Hst.out.below hBj
        obtain ⟨d0, d1, _⟩ := hst2.r.cells
        obtain ⟨a7, q7, rfl⟩ := own_anyJ hown
        by_cases hjl : j < tl
        · have hd : decide ((j : Int) < (tl : Int)) = true := by simp; omega
          obtain ⟨gr, capr, hvr, hgr, y0, y1, y2⟩ := hst2.r.row j (by have := Htl.out; omega)
          obtain ⟨gb, capb, hvb, hgb, y3, _⟩ := hst2.r.bit j (by have := Htl.out; omega)
          rw [hvr, Htl.out] at d0
          rw [hvb, Htl.out] at d1
          obtain ⟨⟨⟨x0, x1, x2⟩, bt⟩, hy⟩ : ∃ y : R3 × Int, T[j]'(by have := Htl.out; omega) = y := ⟨_, rfl⟩
          rw [hy] at y0 y1 y2 y3
          simp only at y0 y1 y2 y3
          obtain ⟨ir, hir, hz0, hz1, hz2⟩ := info_parts Try.infoRow4
          have Hi := Lib.hid hir; have Hj0 := Lib.hid hz0; have Hj1 := Lib.hid hz1; have Hj2 := Lib.hid hz2
          have HBj := Lib.hid hBj; have Hown := Lib.hid hown; have Hy := Lib.hid hy
          clear hir hz0 hz1 hz2 hBj hown hy hvr hvb hst2
          go_wp2_with fail
          have d0 : wr.drew.cell? ⟨rb, 0, none⟩ = _ := d0
          have d1 : wr.drew.cell? ⟨rb, 1, none⟩ = _ := d1
          have y0 : wr.drew.cell? ⟨gr, j * 3, none⟩ = _ := y0
          have y1 : wr.drew.cell? ⟨gr, j * 3 + 1, none⟩ = _ := y1
          have y2 : wr.drew.cell? ⟨gr, j * 3 + 2, none⟩ = _ := y2
          have y3 : wr.drew.cell? ⟨gb, j, none⟩ = _ := y3
          obtain ⟨S11, hSe⟩ : ∃ S : Array Bool → World → Prop, S = fun L w' => L.getD 17 true = false → Below wr.drew.heap.size wr.drew w' := ⟨_, rfl⟩
          have hdrop : ∀ i, i ≠ 17 → ∀ L w', S11 (L.setIfInBounds i true) w' → S11 L w' := by
            intro i hi L w'
            rw [hSe]
            intro h hl
            exact h (by rw [getD_set_ne true hi]; exact hl)
          have hS : ∀ L, S11 L wr.drew := by intro L; rw [hSe]; exact fun _ => Below.refl _ _
          have hSo : ∀ {L w'}, S11 L w' → L.getD 17 true = false → Below wr.drew.heap.size wr.drew w' := by intro L w' h hl; rw [hSe] at h; exact h hl
          have hSi : ∀ {w'}, Below wr.drew.heap.size wr.drew w' → ∀ L, S11 L w' := by intro w' h L; rw [hSe]; exact fun _ => h
          have hSd : ∀ (L : Array Bool) X, L.getD 17 true = true → S11 L X := by
            intro L X h; rw [hSe]; intro h1; rw [h] at h1; cases h1
          clear hSe
          refine wp_region_LN S11 19 #[false, false, false, false, false, false, false, false, false, false, false, false, false, false, false, false, false, false, false] (by kernel_rfl) (by kernel_rfl) rfl ?_
          have HBd := Lib.hid (show Below V2.heap.size V2 wr.drew from HBj.out.drew)
          have HOd := Lib.hid (own_below Hown.out (Below.refl _ wr).drew)
          obtain ⟨X_, hX⟩ : ∃ X_, X_ = wr.drew := ⟨_, rfl⟩
          rw [← hX] at d0 d1 y0 y1 y2 y3 HBd HOd hSo hSi hS ⊢
          clear hX
          refine WA.take (i := 0) (v := .slice a7 j q7) rfl (by kernel_rfl) (by kernel_rfl) (by kernel_rfl) (fun _ _ _ h => h) (hdrop 0 (by decide)) (Or.inl ⟨by rfl, ?_⟩) (hS _) ?_
          · rintro w' ⟨L, hL, hSw, hun⟩
            go_simp
          simp only [List.getElem_toArray, List.getElem_cons_zero, List.getElem_cons_succ, Act.put, List.setIfInBounds_toArray, List.set_cons_zero, List.set_cons_succ]
          refine WA.take (i := 1) (v := .pointer (some ⟨rb, 0, none⟩)) rfl (by kernel_rfl) (by kernel_rfl) (by kernel_rfl) (fun _ _ _ h => h) (hdrop 1 (by decide)) (Or.inl ⟨by rfl, ?_⟩) (hS _) ?_
          · rintro w' ⟨L, hL, hSw, hun⟩
            go_simp
          simp only [List.getElem_toArray, List.getElem_cons_zero, List.getElem_cons_succ, Act.put, List.setIfInBounds_toArray, List.set_cons_zero, List.set_cons_succ]
          refine WA.take (i := 2) (v := .pointer (some ⟨rb, 0, none⟩)) rfl (by kernel_rfl) (by kernel_rfl) (by kernel_rfl) (fun _ _ _ h => h) (hdrop 2 (by decide)) (Or.inl ⟨by rfl, ?_⟩) (hS _) ?_
          · rintro w' ⟨L, hL, hSw, hun⟩
            go_simp
          simp only [List.getElem_toArray, List.getElem_cons_zero, List.getElem_cons_succ, Act.put, List.setIfInBounds_toArray, List.set_cons_zero, List.set_cons_succ]
          refine WA.take (i := 3) (v := .pointer (some ⟨rb, 0, none⟩)) rfl (by kernel_rfl) (by kernel_rfl) (by kernel_rfl) (fun _ _ _ h => h) (hdrop 3 (by decide)) (Or.inl ⟨by rfl, ?_⟩) (hS _) ?_
          · rintro w' ⟨L, hL, hSw, hun⟩
            go_simp
          simp only [List.getElem_toArray, List.getElem_cons_zero, List.getElem_cons_succ, Act.put, List.setIfInBounds_toArray, List.set_cons_zero, List.set_cons_succ]
          refine WA.take (i := 4) (v := .slice (some ⟨gr, 0, none⟩) tl capr) rfl (by kernel_rfl) (by kernel_rfl) (by kernel_rfl) (fun _ _ _ h => h) (hdrop 4 (by decide)) (Or.inl ⟨by rfl, ?_⟩) (hS _) ?_
          · rintro w' ⟨L, hL, hSw, hun⟩
            have hbw := hSo hSw (hL.wait 17 16 (by kernel_rfl) (hL.wait 16 15 (by kernel_rfl) (hL.wait 15 7 (by kernel_rfl) (hL.wait 7 6 (by kernel_rfl) (hL.wait 6 4 (by kernel_rfl) hun)))))
            have d0 := cell_later hbw d0
            clear hbw
            go_simp
          simp only [List.getElem_toArray, List.getElem_cons_zero, List.getElem_cons_succ, Act.put, List.setIfInBounds_toArray, List.set_cons_zero, List.set_cons_succ]
          refine WA.take (i := 5) (v := .int .i64 (j : Nat)) rfl (by kernel_rfl) (by kernel_rfl) (by kernel_rfl) (fun _ _ _ h => h) (hdrop 5 (by decide)) (Or.inl ⟨by rfl, ?_⟩) (hS _) ?_
          · rintro w' ⟨L, hL, hSw, hun⟩
            go_simp
          simp only [List.getElem_toArray, List.getElem_cons_zero, List.getElem_cons_succ, Act.put, List.setIfInBounds_toArray, List.set_cons_zero, List.set_cons_succ]
          refine WA.take (i := 6) (v := .pointer (some ⟨gr, j * 3, none⟩)) rfl (by kernel_rfl) (by kernel_rfl) (by kernel_rfl) (fun _ _ _ h => h) (hdrop 6 (by decide)) (Or.inl ⟨by rfl, ?_⟩) (hS _) ?_
          · rintro w' ⟨L, hL, hSw, hun⟩
            go_simp
          simp only [List.getElem_toArray, List.getElem_cons_zero, List.getElem_cons_succ, Act.put, List.setIfInBounds_toArray, List.set_cons_zero, List.set_cons_succ]
          refine WA.take (i := 7) (v := .agg #[.int .u32 x0, .int .u32 x1, .int .u32 x2]) rfl (by kernel_rfl) (by kernel_rfl) (by kernel_rfl) (fun _ _ _ h => h) (hdrop 7 (by decide)) (Or.inl ⟨by rfl, ?_⟩) (hS _) ?_
          · rintro w' ⟨L, hL, hSw, hun⟩
            have hbw := hSo hSw (hL.wait 17 16 (by kernel_rfl) (hL.wait 16 15 (by kernel_rfl) (hL.wait 15 7 (by kernel_rfl) hun)))
            have y0 := cell_later hbw y0
            have y1 := cell_later hbw y1
            have y2 := cell_later hbw y2
            clear hbw
            go_simp
          simp only [List.getElem_toArray, List.getElem_cons_zero, List.getElem_cons_succ, Act.put, List.setIfInBounds_toArray, List.set_cons_zero, List.set_cons_succ]
          refine WA.take (i := 8) (v := .pointer (some ⟨rb, 0, none⟩)) rfl (by kernel_rfl) (by kernel_rfl) (by kernel_rfl) (fun _ _ _ h => h) (hdrop 8 (by decide)) (Or.inl ⟨by rfl, ?_⟩) (hS _) ?_
          · rintro w' ⟨L, hL, hSw, hun⟩
            go_simp
          simp only [List.getElem_toArray, List.getElem_cons_zero, List.getElem_cons_succ, Act.put, List.setIfInBounds_toArray, List.set_cons_zero, List.set_cons_succ]
          refine WA.take (i := 9) (v := .pointer (some ⟨rb, 0, none⟩)) rfl (by kernel_rfl) (by kernel_rfl) (by kernel_rfl) (fun _ _ _ h => h) (hdrop 9 (by decide)) (Or.inl ⟨by rfl, ?_⟩) (hS _) ?_
          · rintro w' ⟨L, hL, hSw, hun⟩
            go_simp
          simp only [List.getElem_toArray, List.getElem_cons_zero, List.getElem_cons_succ, Act.put, List.setIfInBounds_toArray, List.set_cons_zero, List.set_cons_succ]
          refine WA.take (i := 10) (v := .pointer (some ⟨rb, 1, none⟩)) rfl (by kernel_rfl) (by kernel_rfl) (by kernel_rfl) (fun _ _ _ h => h) (hdrop 10 (by decide)) (Or.inl ⟨by rfl, ?_⟩) (hS _) ?_
          · rintro w' ⟨L, hL, hSw, hun⟩
            go_simp
          simp only [List.getElem_toArray, List.getElem_cons_zero, List.getElem_cons_succ, Act.put, List.setIfInBounds_toArray, List.set_cons_zero, List.set_cons_succ]
          refine WA.take (i := 11) (v := .slice (some ⟨gb, 0, none⟩) tl capb) rfl (by kernel_rfl) (by kernel_rfl) (by kernel_rfl) (fun _ _ _ h => h) (hdrop 11 (by decide)) (Or.inl ⟨by rfl, ?_⟩) (hS _) ?_
          · rintro w' ⟨L, hL, hSw, hun⟩
            have hbw := hSo hSw (hL.wait 17 16 (by kernel_rfl) (hL.wait 16 15 (by kernel_rfl) (hL.wait 15 14 (by kernel_rfl) (hL.wait 14 13 (by kernel_rfl) (hL.wait 13 11 (by kernel_rfl) hun)))))
            have d1 := cell_later hbw d1
            clear hbw
            go_simp
          simp only [List.getElem_toArray, List.getElem_cons_zero, List.getElem_cons_succ, Act.put, List.setIfInBounds_toArray, List.set_cons_zero, List.set_cons_succ]
          refine WA.take (i := 12) (v := .int .i64 (j : Nat)) rfl (by kernel_rfl) (by kernel_rfl) (by kernel_rfl) (fun _ _ _ h => h) (hdrop 12 (by decide)) (Or.inl ⟨by rfl, ?_⟩) (hS _) ?_
          · rintro w' ⟨L, hL, hSw, hun⟩
            go_simp
          simp only [List.getElem_toArray, List.getElem_cons_zero, List.getElem_cons_succ, Act.put, List.setIfInBounds_toArray, List.set_cons_zero, List.set_cons_succ]
          refine WA.take (i := 13) (v := .pointer (some ⟨gb, j, none⟩)) rfl (by kernel_rfl) (by kernel_rfl) (by kernel_rfl) (fun _ _ _ h => h) (hdrop 13 (by decide)) (Or.inl ⟨by rfl, ?_⟩) (hS _) ?_
          · rintro w' ⟨L, hL, hSw, hun⟩
            go_simp
          simp only [List.getElem_toArray, List.getElem_cons_zero, List.getElem_cons_succ, Act.put, List.setIfInBounds_toArray, List.set_cons_zero, List.set_cons_succ]
          refine WA.take (i := 14) (v := .int .u8 bt) rfl (by kernel_rfl) (by kernel_rfl) (by kernel_rfl) (fun _ _ _ h => h) (hdrop 14 (by decide)) (Or.inl ⟨by rfl, ?_⟩) (hS _) ?_
          · rintro w' ⟨L, hL, hSw, hun⟩
            have hbw := hSo hSw (hL.wait 17 16 (by kernel_rfl) (hL.wait 16 15 (by kernel_rfl) (hL.wait 15 14 (by kernel_rfl) hun)))
            have y3 := cell_later hbw y3
            clear hbw
            go_simp
          simp only [List.getElem_toArray, List.getElem_cons_zero, List.getElem_cons_succ, Act.put, List.setIfInBounds_toArray, List.set_cons_zero, List.set_cons_succ]
          refine WA.take (i := 15) (v := .agg #[.int .u32 x0, .int .u32 x1, .int .u32 x2, .int .u8 bt]) rfl (by kernel_rfl) (by kernel_rfl) (by kernel_rfl) (fun _ _ _ h => h) (hdrop 15 (by decide)) (Or.inl ⟨by rfl, ?_⟩) (hS _) ?_
          · rintro w' ⟨L, hL, hSw, hun⟩
            go_simp
          simp only [List.getElem_toArray, List.getElem_cons_zero, List.getElem_cons_succ, Act.put, List.setIfInBounds_toArray, List.set_cons_zero, List.set_cons_succ]
          refine WA.one (i := 16) (by kernel_rfl) rfl (by rfl) (fun K hK => ?_)
          go_simp
          have hA := (Below.refl X_.heap.size X_).alloc (Nat.le_refl _) (.cells #[.int .u32 x0, .int .u32 x1, .int .u32 x2, .int .u8 bt] 73)
          have HA := Lib.hid hA
          refine hK _ _ (hSi hA _) ?_
          clear hK
          try simp only [List.getElem_toArray, List.getElem_cons_zero, List.getElem_cons_succ, Act.put, List.setIfInBounds_toArray, List.set_cons_zero, List.set_cons_succ]
          clear hA
          refine WA.one (i := 17) (by kernel_rfl) rfl (by rfl) (fun K hK => ?_)
          have HrA := Lib.hid (own_below HOd.out HA.out)
          refine jwp_append_own (.tmp 51) (.tmp 67) 22 (by rfl) V2.heap.size 73 ir (.agg #[.int .u32 0, .int .u32 0, .int .u32 0, .int .u8 0]) 4 16 Try.underlying22 Hi.out Hj0.out Hj1.out Hj2.out rfl (by decide) (.slice a7 j q7) j (r4s (T.take j)) (by rfl) HrA.out ⟨X_.heap.size, 0, none⟩ 1 1 [.int .u32 x0, .int .u32 x1, .int .u32 x2, .int .u8 bt] (by rfl) rfl (cells_blk (World.alloc_heap_new _ _)) (by simp [Value.oneCell']) (by unfold maxLen; omega) (by omega) (by have := HBd.out.size; have := HA.out.size; omega) ?_
          intro v' w4 hown' hgrow _ hwh
          obtain ⟨g', cap', rfl⟩ := jown_slice hown' (Nat.succ_pos _)
          have Hown' := Lib.hid hown'; have Hgrow := Lib.hid hgrow
          refine hK _ _ (hSd _ _ (by rfl)) ?_
          clear hK hown' hgrow hwh
          try simp only [List.getElem_toArray, List.getElem_cons_zero, List.getElem_cons_succ, Act.put, List.setIfInBounds_toArray, List.set_cons_zero, List.set_cons_succ]
          refine WA.take (i := 18) (v := .slice (some ⟨g', 0, none⟩) (j + 1) cap') rfl (by kernel_rfl) (by kernel_rfl) (by kernel_rfl) (fun _ _ _ h => h) (hdrop 18 (by decide)) (Or.inl ⟨by rfl, ?_⟩) (hSd _ _ (by rfl)) ?_
          · rintro w' ⟨L, hL, hSw, hun⟩
            go_simp
          simp only [List.getElem_toArray, List.getElem_cons_zero, List.getElem_cons_succ, Act.put, List.setIfInBounds_toArray, List.set_cons_zero, List.set_cons_succ]
          refine WA.done (by kernel_rfl) ?_ _
          refine Nrm.normal ?_
          clear hSo hSi hS hSd hdrop d0 d1 y0 y1 y2 y3
          clear S11
          go_wp2_with fail
          refine ⟨⟨j + 1, by omega, by push_cast; rfl, (HBd.out.trans (HA.out.mono HBd.out.size)).grown Hgrow.out (Nat.le_trans HBd.out.size HA.out.size) (fun g hg => (own_ltJ HrA.out g hg).1), ?_⟩, by simp [intOf]; omega⟩
          have h := Hown'.out
          rw [List.take_add_one, List.getElem?_eq_getElem (show j < T.length by have := Htl.out; omega), Hy.out, Option.toList_some, r4s_snoc]
          exact h
        · have hjl' : j = tl := by omega
          have hd : decide ((j : Int) < (tl : Int)) = false := by simp; omega
          have HBj := Lib.hid hBj; have Hown := Lib.hid hown; have Hjl := Lib.hid hjl'
          obtain ⟨ar, cr, hvr⟩ : ∃ a c, vr = .slice a tl c := by
            rcases hst2.r.rows.form with ⟨h1, h2⟩ | ⟨g, cap, h1, _⟩
            · exact ⟨none, 0, by rw [h1, ← Htl.out, h2]⟩
            · exact ⟨_, cap, by rw [h1, Htl.out]⟩
          rw [hvr] at d0
          have Ht2 := Lib.hid hst2.t
          clear hBj hown hjl' hst2 hvr
          go_wp2_with fail
          go_ret2
          refine ⟨tb, _, A, D, rfl, by rw [HTeq.out]; exact Ht2.out, ?_, HBr.out.trans (HBj.out.mono HBr.out.size)⟩
          have h := own_mono Hown.out HBr.out.size
          rw [Hjl.out] at h ⊢
          rw [← Htl.out, List.take_length] at h
          rw [HTeq.out, ← Htl.out]
          exact h
end Go.Proofs.Ytkgkkbfpkgfcaaa
