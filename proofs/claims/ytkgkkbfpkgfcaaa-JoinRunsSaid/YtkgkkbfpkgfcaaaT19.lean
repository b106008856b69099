/- Which rows a look goes over, plainly; Match's iterator, whatever the look. -/
import Derived.Test.YtkgkkbfpkgfcaaaT16
namespace Go.Proofs.Ytkgkkbfpkgfcaaa
set_option maxRecDepth 100000
open Go.RowKit Go.Maps
set_option linter.unusedVariables false
set_option linter.unusedSimpArgs false

theorem snoc_ind {α : Type} {P : List α → Prop} (h0 : P []) (hs : ∀ l a, P l → P (l ++ [a])) (l : List α) : P l := by
  rw [← l.reverse_reverse]
  induction l.reverse with
  | nil => exact h0
  | cons a t ih => rw [List.reverse_cons]; exact hs _ _ ih
theorem inc_ext : ∀ {l1 l2 : List Nat}, l1.Pairwise (· < ·) → l2.Pairwise (· < ·) → (∀ x, x ∈ l1 ↔ x ∈ l2) → l1 = l2
  | [], [], _, _, _ => rfl
  | [], b :: t, _, _, h => absurd ((h b).2 (by simp)) (by simp)
  | a :: s, [], _, _, h => absurd ((h a).1 (by simp)) (by simp)
  | a :: s, b :: t, h1, h2, h => by
    obtain ⟨a1, a2⟩ := List.pairwise_cons.1 h1
    obtain ⟨b1, b2⟩ := List.pairwise_cons.1 h2
    have hab : a = b := by
      have ha := (h a).1 (by simp)
      have hb := (h b).2 (by simp)
      simp only [List.mem_cons] at ha hb
      rcases ha with ha | ha
      · exact ha
      · rcases hb with hb | hb
        · exact hb.symm
        · have := a1 _ hb; have := b1 _ ha; omega
    subst hab
    rw [inc_ext a2 b2 (fun x => ?_)]
    have hx := h x
    simp only [List.mem_cons] at hx
    constructor
    · intro hs
      have := a1 _ hs
      rcases hx.1 (.inr hs) with e | e
      · omega
      · exact e
    · intro hs
      have := b1 _ hs
      rcases hx.2 (.inr hs) with e | e
      · omega
      · exact e
theorem inc_range (n : Nat) : (List.range n).Pairwise (· < ·) := List.pairwise_lt_range
theorem grows_of_inc {xs : List Nat} (h : xs.Pairwise (· < ·)) : Grows xs := fun i j hi hj hij => List.pairwise_iff_getElem.1 h i j hi hj hij

theorem rowOf_snoc (T : TS) (y : R3 × Int) (c : Nat) (h : c < T.length) : rowOf (T ++ [y]) c = rowOf T c := by
  simp [rowOf, List.getElem?_append_left h]
theorem rowOf_last (T : TS) (y : R3 × Int) : rowOf (T ++ [y]) T.length = y.1 := by simp [rowOf]
/-- the rows that a look fits -/
theorem lst_eq (x : R3) (T : TS) : lst T x = (List.range T.length).filter (fun c => fits x (rowOf T c)) := by
  refine snoc_ind (P := fun T => lst T x = (List.range T.length).filter (fun c => fits x (rowOf T c))) rfl (fun T y ih => ?_) T
  rw [lst_snoc, ih, List.length_append, List.length_singleton, List.range_succ, List.filter_append]
  congr 1
  · apply List.filter_congr
    intro c hc
    rw [rowOf_snoc T y c (List.mem_range.1 hc)]
  · simp only [List.filter_cons, List.filter_nil, rowOf_last]
theorem inc_lst (x : R3) (T : TS) : (lst T x).Pairwise (· < ·) := by
  rw [lst_eq]; exact (inc_range _).filter _
/-- the numbers that a look goes over -/
def candP (T : TS) (r : R3) (fr tu : Int) : List Nat := (List.range T.length).filter (fun c => decide (fr ≤ (c : Int)) && decide ((c : Int) < tu) && fits r (rowOf T c))
theorem lo_le (fr : Int) (c : Nat) : loOf fr ≤ (c : Int) ↔ fr ≤ (c : Int) := by unfold loOf; split <;> omega
theorem hi_lt (T : TS) (tu : Int) (c : Nat) : (c : Int) < hiOf T tu ↔ (c < T.length ∧ (c : Int) < tu) := by unfold hiOf; split <;> omega
theorem fits_whole {r s : R3} (h : has0 r = false) : fits r s = (s == r) := by
  obtain ⟨a, b, c⟩ := r
  obtain ⟨x, y, z⟩ := s
  simp only [has0, has3, Bool.or_eq_false_iff, beq_eq_false_iff_ne] at h
  have h0 : (a == 0) = false := by simpa using Ne.symm h.1.1
  have h1 : (b == 0) = false := by simpa using Ne.symm h.1.2
  have h2 : (c == 0) = false := by simpa using Ne.symm h.2
  simp only [fits, h0, h1, h2, Bool.false_or]
  rw [Bool.eq_iff_iff]
  simp only [Bool.and_eq_true, beq_iff_eq, Prod.mk.injEq]
  constructor
  · rintro ⟨⟨rfl, rfl⟩, rfl⟩; exact ⟨rfl, rfl, rfl⟩
  · rintro ⟨rfl, rfl, rfl⟩; exact ⟨⟨rfl, rfl⟩, rfl⟩
theorem rowOf_get (T : TS) (c : Nat) (h : c < T.length) : rowOf T c = T[c].1 := by simp [rowOf, h]
/-- rows are there once -/
theorem idx_iff {T : TS} (hn : (T.map (·.1)).Nodup) (r : R3) (c : Nat) : idx T r = some c ↔ c < T.length ∧ rowOf T c = r := by
  constructor
  · intro h
    obtain ⟨h1, h2⟩ := idx_lt h
    exact ⟨h1, by rw [rowOf_get T c h1]; exact h2⟩
  · rintro ⟨h1, h2⟩
    rw [rowOf_get T c h1] at h2
    cases hi : idx T r with
    | none => exact absurd h2 (idx_none hi _ (List.getElem_mem h1))
    | some d =>
      obtain ⟨d1, d2⟩ := idx_lt hi
      have : (T.map (·.1))[c]'(by simpa using h1) = (T.map (·.1))[d]'(by simpa using d1) := by simp [h2, d2]
      rw [(List.getElem_inj hn).1 this]
theorem mem_lstOf {T : TS} (hn : (T.map (·.1)).Nodup) (r : R3) (c : Nat) : c ∈ lstOf T r ↔ c < T.length ∧ fits r (rowOf T c) = true := by
  unfold lstOf
  by_cases h : has0 r = true
  · rw [if_pos h, lst_eq]; simp
  · rw [if_neg h]
    have h' : has0 r = false := by simpa using h
    rw [fits_whole h', beq_iff_eq, ← idx_iff hn]
    cases idx T r <;> simp [eq_comm]
theorem inc_lstOf (T : TS) (r : R3) : (lstOf T r).Pairwise (· < ·) := by
  unfold lstOf
  split
  · exact inc_lst r T
  · split <;> simp
theorem cand_eq {T : TS} (hn : (T.map (·.1)).Nodup) (r : R3) (fr tu : Int) : cand T r fr tu = candP T r fr tu := by
  unfold cand candP
  by_cases h : look0 r = true
  · rw [if_pos h]
    obtain ⟨a, b, c⟩ := r
    simp only [look0, Bool.and_eq_true, beq_iff_eq] at h
    obtain ⟨rfl, rfl, rfl⟩ := h
    refine inc_ext List.pairwise_lt_range' ((inc_range _).filter _) (fun x => ?_)
    have h1 := lo_le fr x
    have h2 := hi_lt T tu x
    have h3 : 0 ≤ loOf fr := by unfold loOf; split <;> omega
    simp only [List.mem_range'_1, List.mem_filter, List.mem_range, Bool.and_eq_true, decide_eq_true_eq, fits]
    simp only [beq_self_eq_true, Bool.true_or, Bool.and_true, and_true]
    omega
  · rw [if_neg h]
    refine inc_ext ((inc_lstOf T r).filter _) ((inc_range _).filter _) (fun x => ?_)
    have h1 := lo_le fr x
    have h2 := hi_lt T tu x
    simp only [List.mem_filter, List.mem_range, Bool.and_eq_true, decide_eq_true_eq, mem_lstOf hn, h1, h2]
    constructor
    · rintro ⟨⟨a, b⟩, c, d, e⟩; exact ⟨a, ⟨c, e⟩, b⟩
    · rintro ⟨a, ⟨c, e⟩, b⟩; exact ⟨⟨a, b⟩, c, a, e⟩
theorem run_static (lv : Nat → Bool) : ∀ (C pre : List Nat), run (fun _ c => lv c) C pre = pre ++ C.filter lv
  | [], pre => by simp [run]
  | c :: C, pre => by
    unfold run
    rw [run_static lv C]
    by_cases h : lv c = true
    · simp [h, List.filter_cons]
    · simp [h, List.filter_cons]
/-- what a look tells -/
def mlist (T : TS) (r : R3) (fr tu b : Int) : List Nat := (candP T r fr tu).filter (liveB T b)

theorem match1_any (n l B tb : Nat) (r : R3) (hr : rok r) (fr tu b : Int) (T : TS) (D0 : TabD) (Tof : List Nat → TS) (J Jx : List Nat → World → Prop) (ys : List Nat)
    (hys : ys = run (fun pre c => liveB (Tof pre) b c) (candP T r fr tu) [])
    (hJ : ∀ pre W W', J pre W → Below W.heap.size W W' → J pre W')
    (hB : ∀ pre W, J pre W → MBox W B tb r fr tu b)
    (hT : ∀ pre W, J pre W → ∃ Z D, IsT Z W tb (Tof pre) D) (hP : ∀ pre, T.length ≤ (Tof pre).length)
    (hY : ∀ pre x W, J pre W → pre ++ [x] <+: ys → YieldAt Fence.wide (n - 1) Try.prog l #[.int .i64 (x : Nat), rv (rowOf (Tof pre) x)] W fun e W' =>
      (e = .returned (.bool true) ∧ J (pre ++ [x]) W') ∨ (e = .returned (.bool false) ∧ Jx (pre ++ [x]) W'))
    (W : World) {Z0 : Zone} (h0 : IsT Z0 W tb T D0) (hI : J [] W)
    (hL : ∀ v g, look2 r = true → D0.mb r = some v → v.ownBlock = some g → ∀ pre W, J pre W → ∀ j (h : j < (lst T r).length), W.cell? ⟨g, j, none⟩ = some (.int .i64 ((lst T r)[j] : Nat))) :
    CallsIn Fence.wide n Try.prog 43 #[.func (.yield l) #[] #[], .pointer (some ⟨B, 0, none⟩), .pointer (some ⟨B + 2, 0, none⟩), .pointer (some ⟨B + 3, 0, none⟩), .pointer (some ⟨B + 1, 0, none⟩), .pointer (some ⟨B + 4, 0, none⟩)] W fun e W' =>
      (∃ v, e = .returned v) ∧ (J ys W' ∨ ∃ pre, pre <+: ys ∧ Jx pre W') := by
  have hlong := h0.long
  rw [← cand_eq h0.nodup] at hys
  by_cases h1 : look0 r = true
  · obtain ⟨a, b', c⟩ := r
    simp only [look0, Bool.and_eq_true, beq_iff_eq] at h1
    obtain ⟨rfl, rfl, rfl⟩ := h1
    exact match1_all n l B tb fr tu b T D0 Tof J Jx ys hys hJ hB hT hP hY W h0 hI
  · rw [cand, if_neg h1] at hys
    refine match1_lst n l B tb r fr tu b T D0 Tof J Jx ys (lstOf T r) hys (grows_of_inc (inc_lstOf T r)) ?_ hJ hB hT hP hY W h0 hI ?_
    · unfold lstOf
      split
      · have := lst_len T r; omega
      · split <;> simp
    · intro W1 hW1
      obtain ⟨x0, x1, x2⟩ := r
      by_cases h2 : has0 (x0, x1, x2) = true
      · have hl2 : look2 (x0, x1, x2) = true := by
          simp only [has0, has3, Bool.or_eq_true, beq_iff_eq] at h2
          simp only [look0, Bool.and_eq_true, beq_iff_eq, not_and] at h1
          simp only [look2, Bool.and_eq_true, Bool.or_eq_true, beq_iff_eq, bne_iff_ne, ne_eq]
          omega
        rw [lstOf, if_pos h2]
        refine (list_some (h0.below hW1) x0 x1 x2 hr hl2).mono ?_
        rintro e W2 ⟨rfl, hB2⟩
        refine ⟨hB2, ?_⟩
        cases hm : D0.mb (x0, x1, x2) with
        | none => exact .inl ⟨h0.byOk.non _ hr hl2 hm, rfl⟩
        | some v =>
          obtain ⟨hne, hsl⟩ := h0.byOk.has _ v hr hm
          rcases hsl.form with ⟨_, hz⟩ | ⟨g, cap, hv, _⟩
          · exact absurd (List.eq_nil_of_length_eq_zero hz) hne
          · subst hv
            have hc := hL _ g hl2 hm rfl
            exact .inr ⟨g, cap, rfl, fun j h => hc [] W2 (hJ _ _ _ (hJ _ _ _ hI hW1) hB2) j h, fun pre W hW j h _ => hc pre W hW j h⟩
      · have h2' : has0 (x0, x1, x2) = false := by simpa using h2
        rw [lstOf, if_neg h2]
        refine (list_one (h0.below hW1) x0 x1 x2 hr h2').mono ?_
        rintro e W2 ⟨hB2, (⟨hi, rfl⟩ | ⟨n', g, hi, rfl, hc⟩)⟩
        · rw [hi]; exact ⟨hB2, .inl ⟨rfl, rfl⟩⟩
        · rw [hi]
          refine ⟨hB2, .inr ⟨g, 1, rfl, fun j h => ?_, fun pre W hW j h h1 => ?_⟩⟩
          · have : j = 0 := by simp at h; omega
            subst this; exact hc
          · simp at h; omega
end Go.Proofs.Ytkgkkbfpkgfcaaa

namespace Go.Proofs.Ytkgkkbfpkgfcaaa
set_option maxRecDepth 100000
open Go.RowKit Go.Maps
set_option linter.unusedVariables false
set_option linter.unusedSimpArgs false

section
variable {Z : Zone} {w w' : World} {tb : Nat} {T : TS} {ff : R3 → Option Value} {ls : R3 → List Nat} {L : Int} {fa : Nat → Int → Option Value} {D : TabD}
theorem IsG.blocks (h : IsG Z w tb T ff ls L fa D) (hb : ∀ i, i < w.heap.size → w'.heap[i]? = w.heap[i]?) : IsG Z w' tb T ff ls L fa D := by
  have hblk : ∀ i o, w.heap[i]? = some o → w'.heap[i]? = w.heap[i]? := fun i o hi => hb i (Array.getElem?_eq_some_iff.1 hi).1
  have hm : ∀ {κ : Type} {enc : κ → Value} {ok : κ → Prop} {b : Nat} {f : κ → Option Value}, MapAt enc ok w b f → MapAt enc ok w' b f := by
    intro κ enc ok b f hm
    obtain ⟨es, c, hb⟩ := hm.heap
    exact hm.stay (hblk _ _ hb)
  exact { h with
    obj := (hblk _ _ h.obj).trans h.obj
    rows := h.rows.stayB (fun g hg => hb g (h.rows.lt g hg).1)
    bits := h.bits.stayB (fun g hg => hb g (h.bits.lt g hg).1)
    find := hm h.find
    by_ := hm h.by_
    byOk := h.byOk.stayB (fun g cur fz hg => hblk _ _ hg)
    at_ := fun p hp => hm (h.at_ p hp) }
end

/-- these blocks are as they were -/
def KeepS (P : Nat → Prop) (A B : World) : Prop := ∀ i, P i → B.heap[i]? = A.heap[i]?
theorem KeepS.t {P : Nat → Prop} : ∀ {A B C : World}, KeepS P A B → KeepS P B C → KeepS P A C := fun h k i hi => (k i hi).trans (h i hi)
theorem KeepS.refl (P : Nat → Prop) (A : World) : KeepS P A A := fun _ _ => rfl
theorem KeepS.put {P : Nat → Prop} {B : Nat} (hP : ∀ i, P i → i < B) (W : World) (l : Nat) (o o' : Obj) (hl : B ≤ l) : KeepS P W (W.putObj l o') := fun i hi =>
  World.putObj_heap_other (by have := hP i hi; omega)
theorem KeepS.set {P : Nat → Prop} (W : World) (a : Addr) (v : Value) (h : ¬ P a.block) : KeepS P W (W.setCell a v) := fun i hi =>
  Below.heap_setCell W a v i (fun e => h (e ▸ hi))
theorem KeepS.below {P : Nat → Prop} {n : Nat} {A B : World} (h : Below n A B) (hP : ∀ i, P i → i < n) : KeepS P A B := fun i hi => h.block i (hP i hi)
/-- what Match's iterator reads: the table's world and its own boxes -/
def MKeep (N B : Nat) (i : Nat) : Prop := i < N ∨ (B ≤ i ∧ i < B + 5)
theorem MBox.keep {A W : World} {N B tb : Nat} {r : R3} {fr tu b : Int} (h : MBox A B tb r fr tu b) (k : KeepS (MKeep N B) A W) : MBox W B tb r fr tu b := by
  have hc : ∀ d j, d < 5 → W.cell? ⟨B + d, j, none⟩ = A.cell? ⟨B + d, j, none⟩ := fun d j hd => World.cell?_of_block (w := A) (a := ⟨B + d, j, none⟩) (k (B + d) (.inr ⟨by omega, by omega⟩))
  exact ⟨(hc 0 0 (by omega)).trans h.c, (hc 1 0 (by omega)).trans h.r0, (hc 1 1 (by omega)).trans h.r1, (hc 1 2 (by omega)).trans h.r2, (hc 2 0 (by omega)).trans h.f, (hc 3 0 (by omega)).trans h.t, (hc 4 0 (by omega)).trans h.b⟩

theorem match1_stops (n B tb : Nat) (r : R3) (hr : rok r) (fr tu b : Int) {T : TS} {D : TabD} {Z : Zone} {wt w0 : World} (ht : IsT Z wt tb T D) (hk : ∀ i, i < wt.heap.size → w0.heap[i]? = wt.heap[i]?)
    (hsz : wt.heap.size ≤ w0.heap.size) (hb : MBox w0 B tb r fr tu b) (hB5 : B + 5 ≤ w0.heap.size) :
    SeqStopsK Fence.wide n Try.prog 43 #[.pointer (some ⟨B, 0, none⟩), .pointer (some ⟨B + 2, 0, none⟩), .pointer (some ⟨B + 3, 0, none⟩), .pointer (some ⟨B + 1, 0, none⟩), .pointer (some ⟨B + 4, 0, none⟩)]
      (fun x : Nat => #[.int .i64 (x : Nat), rv (rowOf T x)]) (KeepS (MKeep wt.heap.size B)) (fun ys => ys = mlist T r fr tu b) (fun pre => pre <+: mlist T r fr tu b) T.length w0 := by
  intro l J Jx W hW hA _ hY hI
  have hP : ∀ i, MKeep wt.heap.size B i → i < w0.heap.size := by
    intro i hi
    rcases hi with h | h <;> omega
  have hrun : mlist T r fr tu b = run (fun _ c => liveB T b c) (candP T r fr tu) [] := by rw [run_static]; rfl
  have hlen : (mlist T r fr tu b).length ≤ T.length := by
    unfold mlist candP
    exact Nat.le_trans (List.length_filter_le _ _) (Nat.le_trans (List.length_filter_le _ _) (by simp))
  have hkW : ∀ {W' : World}, KeepS (MKeep wt.heap.size B) w0 W' → ∀ i, i < wt.heap.size → W'.heap[i]? = wt.heap[i]? := fun k i hi => (k i (.inl hi)).trans (hk i hi)
  have hlt : ∀ {W' : World}, KeepS (MKeep wt.heap.size B) w0 W' → ∀ i, MKeep wt.heap.size B i → i < W'.heap.size := by
    intro W' k i hi
    have h1 := k i hi
    rw [Array.getElem?_eq_getElem (hP i hi)] at h1
    exact (Array.getElem?_eq_some_iff.1 h1).1
  have hkB : ∀ {W1 W' : World}, KeepS (MKeep wt.heap.size B) w0 W1 → Below W1.heap.size W1 W' → KeepS (MKeep wt.heap.size B) w0 W' := fun k hb i hi => (hb.block i (hlt k i hi)).trans (k i hi)
  refine (match1_any n l B tb r hr fr tu b T D (fun _ => T) (fun pre W' => J pre W' ∧ KeepS (MKeep wt.heap.size B) w0 W') Jx _ hrun ?_ ?_ ?_ ?_ ?_ W (ht.blocks (hkW (KeepS.below hW hP))) ⟨hI, KeepS.below hW hP⟩ ?_).mono ?_
  · rintro pre W1 W' ⟨hj, hk1⟩ hb'
    exact ⟨hA pre W1 _ none hj ⟨hb'.os, hb'.tape, hb'.output, hb'.size, fun k hk _ => hb'.block k hk⟩ (fun r e => by cases e), hkB hk1 hb'⟩
  · exact fun pre W1 h => hb.keep h.2
  · exact fun pre W1 h => ⟨Z, D, ht.blocks (hkW h.2)⟩
  · exact fun _ => Nat.le_refl _
  · rintro pre x W1 ⟨hj, hk1⟩ hp
    have h1 := hp.length_le
    rw [List.length_append, List.length_singleton] at h1
    refine (hY pre x W1 hj (by omega)).mono ?_
    rintro e W' (⟨rfl, h2, h3⟩ | ⟨rfl, h2⟩)
    · exact .inl ⟨rfl, h2, hk1.t h3⟩
    · exact .inr ⟨rfl, h2⟩
  · intro v g hl hm hg pre W1 h j hj
    obtain ⟨_, hsl⟩ := ht.byOk.has r v hr hm
    have hc := hsl.cells hg j _ (ics_get _ _ hj)
    exact (World.cell?_of_block (w := wt) (a := ⟨g, j, none⟩) (hkW h.2 g (hsl.lt g hg).1)).trans hc
  · rintro e W' ⟨hv, (h | ⟨pre, hp, hj⟩)⟩
    · exact ⟨hv, .inl ⟨_, rfl, h.1⟩⟩
    · exact ⟨hv, .inr ⟨pre, hp, hj⟩⟩

theorem five (w : World) (o0 o1 o2 o3 o4 : Obj) : ∀ W, W = ((((w.alloc o0).alloc o1).alloc o2).alloc o3).alloc o4 → Below w.heap.size w W ∧ W.heap.size = w.heap.size + 5 ∧
    W.heap[w.heap.size]? = some o0 ∧ W.heap[w.heap.size + 1]? = some o1 ∧ W.heap[w.heap.size + 2]? = some o2 ∧ W.heap[w.heap.size + 3]? = some o3 ∧ W.heap[w.heap.size + 4]? = some o4 := by
  rintro W rfl
  have s1 := World.size_alloc w o0
  have s2 := World.size_alloc (w.alloc o0) o1
  have s3 := World.size_alloc ((w.alloc o0).alloc o1) o2
  have s4 := World.size_alloc (((w.alloc o0).alloc o1).alloc o2) o3
  have s5 := World.size_alloc ((((w.alloc o0).alloc o1).alloc o2).alloc o3) o4
  refine ⟨((((Below.refl _ w).alloc (Nat.le_refl _) _).alloc (by omega) _).alloc (by omega) _).alloc (by omega) _ |>.alloc (by omega) _, by omega, ?_, ?_, ?_, ?_, ?_⟩
  · rw [Below.heap_alloc _ _ _ (by omega), Below.heap_alloc _ _ _ (by omega), Below.heap_alloc _ _ _ (by omega), Below.heap_alloc _ _ _ (by omega)]
    exact World.alloc_heap_new w o0
  · rw [Below.heap_alloc _ _ _ (by omega), Below.heap_alloc _ _ _ (by omega), Below.heap_alloc _ _ _ (by omega), ← s1]
    exact World.alloc_heap_new _ o1
  · rw [Below.heap_alloc _ _ _ (by omega), Below.heap_alloc _ _ _ (by omega), show w.heap.size + 2 = ((w.alloc o0).alloc o1).heap.size by omega]
    exact World.alloc_heap_new _ o2
  · rw [Below.heap_alloc _ _ _ (by omega), show w.heap.size + 3 = (((w.alloc o0).alloc o1).alloc o2).heap.size by omega]
    exact World.alloc_heap_new _ o3
  · rw [show w.heap.size + 4 = ((((w.alloc o0).alloc o1).alloc o2).alloc o3).heap.size by omega]
    exact World.alloc_heap_new _ o4
set_option maxRecDepth 100000 in
set_option maxHeartbeats 1000000 in
theorem match_any (w : World) (tb : Nat) (r : R3) (fr tu b : Int) :
    Calls Try.prog 39 #[.pointer (some ⟨tb, 0, none⟩), rv r, .int .i64 fr, .int .i64 tu, .int .u8 b] w fun e w' =>
      e = .returned (.func (.func 43) #[] #[.pointer (some ⟨w.heap.size, 0, none⟩), .pointer (some ⟨w.heap.size + 2, 0, none⟩), .pointer (some ⟨w.heap.size + 3, 0, none⟩), .pointer (some ⟨w.heap.size + 1, 0, none⟩), .pointer (some ⟨w.heap.size + 4, 0, none⟩)]) ∧
      Below w.heap.size w w' ∧ w'.heap.size = w.heap.size + 5 ∧ MBox w' w.heap.size tb r fr tu b := by
  obtain ⟨x0, x1, x2⟩ := r
  simp only [rv]
  go_enter Try.func39, Try.ntmps39
  go_wp2
  go_ret
  obtain ⟨h1, h2, h3, h4, h5, h6, h7⟩ := five w (.cells #[.pointer (some ⟨tb, 0, none⟩)] 36) (.cells #[.int .u32 x0, .int .u32 x1, .int .u32 x2] 58) (.cells #[.int .i64 fr] 3) (.cells #[.int .i64 tu] 3) (.cells #[.int .u8 b] 40) _ rfl
  refine ⟨rfl, h1, h2, ?_⟩
  constructor
  all_goals
    unfold World.cell?
    first
      | rw [h3]; rfl
      | rw [h4]; rfl
      | rw [h5]; rfl
      | rw [h6]; rfl
      | rw [h7]; rfl

/-- a range over a function of two values; f: what the round's variables make of the frame -/
theorem wpIn_rangeFunc_two {F : Fence} {n : Nat} {P : Program} {w : World} {α : Type} (f : Array Value → α → Array Value) {g : Operand} {p q : Nat} {assign body : Code} {Q : Exit → Act → World → Prop} {a : Act}
    (hro : F.round = none) (h1 : 1 ≤ n) {gf : Nat} {lb : Array Value} (hg : a.eval g = .func (.func gf) #[] lb) (hFg : F.fn gf) (eg : ∀ args w, (callFunc gf args).run P w = .ok (.enter gf args) w)
    {u v : α → Value} {Kp : World → World → Prop} {S Sp : List α → Prop} {N : Nat} {w0 : World} (hseq : SeqStopsK F (n - 1) P gf lb (fun x => #[u x, v x]) Kp S Sp N w0)
    (hKt : ∀ {A B C : World}, Kp A B → Kp B C → Kp A C) (hKb : ∀ (W : World) (l : Nat) (o o' : Obj), w.heap.size ≤ l → W.heap[l]? = some o → o.isCells = false → o.isWalk = false → Kp W (W.putObj l o')) (hb0 : Below w0.heap.size w0 w)
    (I : List α → World → Prop) (Ix : Code → List α → World → Prop) (hI : OwnFrom w.heap.size I) (hIx : ∀ c, OwnFrom w.heap.size (Ix c)) (h0 : I [] w)
    (hassign : ∀ (l : Nat) (x : α) (W : World) (K : Act → World → Prop), K { tmps := f a.tmps x, defers := [] } W →
      assign.wpIn (F.inRound l) (n - 1 - 1) P (Exit.then K (fun _ _ _ => False)) { tmps := (a.tmps.setIfInBounds p (u x)).setIfInBounds q (v x), defers := [] } W)
    (hbody : ∀ (l : Nat) (pre : List α) (x : α) (W : World), I pre W → pre.length < N → body.wpIn (F.inRound l) (n - 1 - 1) P (ownPostK Kp I Ix (pre ++ [x]) W) { tmps := f a.tmps x, defers := [] } W)
    (hdone : ∀ (D : Nat) (xs : List α) (W : World), w.heap.size ≤ D → S xs → I xs W → W.heap[D]? = some (.deferred (some [])) → Q .normal { a with defers := { target := .collected D, args := #[] } :: a.defers } W)
    (hstop : ∀ (D : Nat) (c : Code) (pre : List α) (W : World), w.heap.size ≤ D → Sp pre → Ix c pre W → W.heap[D]? = some (.deferred (some [])) → c.wpIn F n P Q { a with defers := { target := .collected D, args := #[] } :: a.defers } W) :
    (Code.rangeFunc g #[p, q] assign body).wpIn F n P Q a w :=
  wpIn_rangeFunc_ownF hro h1 hg hFg eg hseq hKt hKb hb0 (fun _ => rfl) I Ix hI hIx h0 (fun x => { tmps := f a.tmps x, defers := [] })
    (fun l x W K hK => by
      have e : (#[p, q].zip #[u x, v x]).foldl (fun t (p, v) => t.setIfInBounds p v) a.tmps = (a.tmps.setIfInBounds p (u x)).setIfInBounds q (v x) := by simp
      rw [e]
      exact hassign l x W K hK)
    hbody hdone hstop
end Go.Proofs.Ytkgkkbfpkgfcaaa

namespace Go.Proofs.Ytkgkkbfpkgfcaaa
set_option maxRecDepth 100000
open Go.RowKit Go.Maps
attribute [local go_sem] Oper.semAt_some
set_option linter.unusedVariables false
set_option linter.unusedSimpArgs false

section
variable {Z : Zone} {w : World} {tb : Nat} {T : TS} {D : TabD}
end
end Go.Proofs.Ytkgkkbfpkgfcaaa
