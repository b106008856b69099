/- Layer 14: begin, walked. -/
import Derived.Test.YtkgkkbfpkgfcaaaJ9
namespace Go.Proofs.Ytkgkkbfpkgfcaaa
set_option maxRecDepth 100000
open Go.RowKit Go.Maps
set_option linter.unusedVariables false
set_option linter.unusedSimpArgs false

/-- a view: from, to, bits -/
abbrev Vw := Int × Int × Int
def vcs (l : List Vw) : List Value := l.flatMap fun y => [.int .i64 y.1, .int .i64 y.2.1, .int .u8 y.2.2]
theorem vcs_snoc (l : List Vw) (y : Vw) : vcs (l ++ [y]) = vcs l ++ [.int .i64 y.1, .int .i64 y.2.1, .int .u8 y.2.2] := by simp [vcs]
theorem vcs_len (l : List Vw) : (vcs l).length = l.length * 3 := by
  induction l with
  | nil => rfl
  | cons y l ih => simp [vcs] at ih ⊢; omega
/-- each step's view -/
def extV (d : Vw) : List StepT → List Vw → List Vw
  | [], _ => []
  | s :: t, vs => if s.kind = 1 then vs.headD d :: extV d t vs.tail else d :: extV d t vs
theorem jwp_append_own {P : Program} {w : World} {o : Oper} {a : Act} {K : Act → World → Prop} {Q : Exit → Act → World → Prop} (s x : Operand) (t : TypeId)
    (ho : o.op = .call { callee := .builtin .append, args := #[s, x], argTypes := #[t, t] })
    (base : Nat) (e : TypeId) (i : TypeInfo) (z : Value) (size bytes : Nat) (ht : P.underlying t = some (.slice e)) (hi : P.info? e = some i) (hz : i.zero = some z)
    (hsize : i.size = size) (hby : i.bytes = bytes) (hzs : z.cells.size = size) (hsz : 0 < size)
    (v : Value) (n : Nat) (xs : List Value) (hs : a.eval s = v) (hown : w.ownsRow base e size v n xs)
    (ad : Addr) (m c : Nat) (news : List Value) (hx : a.eval x = .slice (some ad) m c) (hl : news.length = m * size) (hnews : ∀ j u, news[j]? = some u → w.cell? (ad.add j) = some u) (h1 : ∀ u ∈ news, u.oneCell' = true)
    (h63 : n + m ≤ maxLen) (hbytes : (n + m) * bytes ≤ 140737488355328) (hbase : base ≤ w.heap.size)
    (h : ∀ v' w', w'.ownsRow base e size v' (n + m) (xs ++ news) → w.grownBy w' v.ownBlock → (v' = .slice none 0 0 ↔ v = .slice none 0 0 ∧ m = 0) → (v'.ownBlock = v.ownBlock ∨ v'.ownBlock = some w.heap.size) → K (a.put o.dst v') w') :
    o.wp P a w K Q := by
  obtain ⟨v', w', hr, h2, h3, h4, h5⟩ := run_append_own_at (P := P) w base t o.type e i z size bytes ht hi hz hsize hby hzs hsz v n xs hown ad m c news hl hnews h1 h63 hbytes hbase
  unfold Oper.wp execOp
  simp only [ho, resolve, invoke, builtin, Sem.run_bind, Sem.run_pure, Result.andThen_ok, List.map_toArray, List.map_cons, List.map_nil, hs, hx, hr]
  exact h v' w' h2 h3 h4 h5
def IsSteps (w : World) (sa : Option Addr) (l : List StepT) : Prop := ∀ i (h : i < l.length), ∃ sb so, sa = some ⟨sb, so, none⟩ ∧ IsStep w sb so i l[i]
def IsViews (w : World) (va : Option Addr) (l : List Vw) : Prop := ∀ i (h : i < l.length), ∃ b o, va = some ⟨b, o, none⟩ ∧ IsView w b o i l[i].1 l[i].2.1 l[i].2.2
theorem IsStep.below {w w' : World} {sb so i : Nat} {s : StepT} (h : IsStep w sb so i s) (hb : Below w.heap.size w w') : IsStep w' sb so i s :=
  ⟨Nat.lt_of_lt_of_le h.lt hb.size, cell_later hb h.c0, cell_later hb h.c1, cell_later hb h.c2, cell_later hb h.c3, cell_later hb h.c4, cell_later hb h.c5, cell_later hb h.c6, cell_later hb h.c7, cell_later hb h.c8, cell_later hb h.c9, cell_later hb h.c10⟩
theorem IsView.below {w w' : World} {sb so i : Nat} {a b c : Int} (h : IsView w sb so i a b c) (hb : Below w.heap.size w w') : IsView w' sb so i a b c :=
  ⟨Nat.lt_of_lt_of_le h.lt hb.size, cell_later hb h.c0, cell_later hb h.c1, cell_later hb h.c2⟩
theorem IsSteps.below {w w' : World} {sa : Option Addr} {l : List StepT} (h : IsSteps w sa l) (hb : Below w.heap.size w w') : IsSteps w' sa l := fun i hi => by
  obtain ⟨sb, so, h1, h2⟩ := h i hi
  exact ⟨sb, so, h1, h2.below hb⟩
theorem IsViews.below {w w' : World} {sa : Option Addr} {l : List Vw} (h : IsViews w sa l) (hb : Below w.heap.size w w') : IsViews w' sa l := fun i hi => by
  obtain ⟨sb, so, h1, h2⟩ := h i hi
  exact ⟨sb, so, h1, h2.below hb⟩
theorem Try.infoView : (Try.prog.info? 42).map (fun i => (i.zero, i.size, i.bytes)) = some (some (.agg #[.int .i64 0, .int .i64 0, .int .u8 0]), 3, 24) := by kernel_rfl
theorem run_mkU (w : World) (n : Nat) (h : n ≤ 1000000) : (Instr.makeSlice 51 (.int .i64 (n : Int)) (.int .i64 (n : Int))).run Try.prog w = .ok (.slice (some ⟨w.heap.size, 0, none⟩) n n) (w.alloc (.cells (uvs (List.replicate n 0)) 23)) := by
  obtain ⟨i, hi, hz, hs, hb⟩ := info_parts Try.info32
  have hr := run_make (P := Try.prog) w 51 23 i (.int .u32 0) Try.underlying51 hi hz .i64 .i64 n n (by omega) (Int.le_refl _) (by rw [hb]; omega) (by omega)
  rw [Int.toNat_natCast, hs, Nat.mul_one] at hr
  rw [hr]
  have e : madeCells (Value.int .u32 0).cells n = uvs (List.replicate n 0) := by
    refine Array.ext (by simp [size_madeCells, uvs]) (fun j h1 h2 => ?_)
    simp [madeCells, uvs, Value.cells, Nat.mod_one]
  rw [e]
section
variable {Z : Zone} {w : World} {tb : Nat} {T : TS} {D : TabD}
set_option maxRecDepth 100000 in
set_option maxHeartbeats 8000000 in
theorem begin_any (ht : IsT Z w tb T D) (h0 h1 h2 h3 h4 h5 : Int) (sa : Option Addr) (cap vars : Nat) (steps : List StepT) (hst : IsSteps w sa steps) (hn : steps.length ≤ 1000000) (hvars : vars ≤ 1000000) (va : Option Addr) (vcap : Nat) (views : List Vw) (hvw : IsViews w va views) (hnv : views.length ≤ 1000000) :
    Calls Try.prog 19 #[.pointer (some ⟨tb, 0, none⟩), .agg #[.int .i64 h0, .int .u32 h1, .int .i64 h2, .int .u32 h3, .int .i64 h4, .int .u32 h5, .slice sa steps.length cap, .int .i64 (vars : Nat)], .slice va views.length vcap] w fun e w' => ∃ (wb vb : Nat) (v : Value), e = .returned (.pointer (some ⟨wb, 0, none⟩)) ∧ Below w.heap.size w w' ∧ w.heap.size ≤ wb ∧ w.heap.size ≤ vb ∧ wb ≠ vb ∧
      w'.heap[wb]? = some (.cells #[.pointer (some ⟨tb, 0, none⟩), .int .i64 h0, .int .u32 h1, .int .i64 h2, .int .u32 h3, .int .i64 h4, .int .u32 h5, .slice sa steps.length cap, .int .i64 (vars : Nat), v, .slice (some ⟨vb, 0, none⟩) vars vars, .int .i64 (0 : Int)] 79 (0, 0)) ∧ w'.heap[vb]? = some (.cells (uvs (List.replicate vars 0)) 23 (0, 0)) ∧
      w'.ownsRow w.heap.size 42 3 v steps.length (vcs (extV (0, (T.length : Int), 3) steps views)) := by
  have Ht := Lib.hid ht; have Hst := Lib.hid hst; have Hvw := Lib.hid hvw
  have hlong := ht.long
  obtain ⟨n, hnn⟩ : ∃ n, steps.length = n := ⟨_, rfl⟩
  obtain ⟨nv, hnv'⟩ : ∃ nv, views.length = nv := ⟨_, rfl⟩
  obtain ⟨lt, hlt'⟩ : ∃ lt, T.length = lt := ⟨_, rfl⟩
  rw [hnn] at hn ⊢
  rw [hnv'] at hnv ⊢
  rw [hlt'] at hlong ⊢
  have Hn := Lib.hid hnn; have Hnv := Lib.hid hnv'; have Hlt := Lib.hid hlt'
  clear ht hst hvw hnn hnv' hlt'
  obtain ⟨iv, hiv, hzz0, hzz1, hzz2⟩ := info_parts Try.infoView
  have Hi := Lib.hid hiv; have Hj0 := Lib.hid hzz0; have Hj1 := Lib.hid hzz1; have Hj2 := Lib.hid hzz2
  clear hiv hzz0 hzz1 hzz2
  have hbA : Below w.heap.size w (w.alloc (.cells #[.int .i64 h0, .int .u32 h1, .int .i64 h2, .int .u32 h3, .int .i64 h4, .int .u32 h5, .slice sa n cap, .int .i64 (vars : Nat)] 29)) := (Below.refl _ w).alloc (Nat.le_refl _) _
  have hzA : (w.alloc (.cells #[.int .i64 h0, .int .u32 h1, .int .i64 h2, .int .u32 h3, .int .i64 h4, .int .u32 h5, .slice sa n cap, .int .i64 (vars : Nat)] 29)).heap.size = w.heap.size + 1 := World.size_alloc _ _
  have HbA := Lib.hid hbA; have HzA := Lib.hid hzA; have HbX := Lib.hid (World.alloc_heap_new w (.cells #[.int .i64 h0, .int .u32 h1, .int .i64 h2, .int .u32 h3, .int .i64 h4, .int .u32 h5, .slice sa n cap, .int .i64 (vars : Nat)] 29))
  clear hbA hzA
  go_enter Try.func19, Try.ntmps19
  go_wp2_with fail
  generalize hW : w.alloc (.cells #[.int .i64 h0, .int .u32 h1, .int .i64 h2, .int .u32 h3, .int .i64 h4, .int .u32 h5, .slice sa n cap, .int .i64 (vars : Nat)] 29) = W at *
  clear hW
  obtain ⟨a0, a1, a2, a3, a4, a5, a6, a7⟩ : W.drew.cell? ⟨w.heap.size, 0, none⟩ = some (.int .i64 h0) ∧ W.drew.cell? ⟨w.heap.size, 1, none⟩ = some (.int .u32 h1) ∧ W.drew.cell? ⟨w.heap.size, 2, none⟩ = some (.int .i64 h2) ∧ W.drew.cell? ⟨w.heap.size, 3, none⟩ = some (.int .u32 h3) ∧ W.drew.cell? ⟨w.heap.size, 4, none⟩ = some (.int .i64 h4) ∧ W.drew.cell? ⟨w.heap.size, 5, none⟩ = some (.int .u32 h5) ∧ W.drew.cell? ⟨w.heap.size, 6, none⟩ = some (.slice sa n cap) ∧ W.drew.cell? ⟨w.heap.size, 7, none⟩ = some (.int .i64 (vars : Nat)) := by
    show W.cell? _ = _ ∧ W.cell? _ = _ ∧ W.cell? _ = _ ∧ W.cell? _ = _ ∧ W.cell? _ = _ ∧ W.cell? _ = _ ∧ W.cell? _ = _ ∧ W.cell? _ = _
    unfold World.cell?; rw [HbX.out]; exact ⟨rfl, rfl, rfl, rfl, rfl, rfl, rfl, rfl⟩
  have hmk := run_mkU
  have HBd := Lib.hid (show Below w.heap.size w W.drew from HbA.out.drew)
  have Hzd := Lib.hid (show W.drew.heap.size = w.heap.size + 1 from HzA.out)
  have HbXd := Lib.hid (show W.drew.heap[w.heap.size]? = _ from HbX.out)
  obtain ⟨S1, hSe⟩ : ∃ S : Array Bool → World → Prop, S = fun _ w' => Below W.drew.heap.size W.drew w' := ⟨_, rfl⟩
  have hdrop : ∀ i : Nat, ∀ L w', S1 (L.setIfInBounds i true) w' → S1 L w' := by
    intro i L w' h; rw [hSe] at h ⊢; exact h
  have hS : ∀ L, S1 L W.drew := by intro L; rw [hSe]; exact Below.refl _ _
  have hSo : ∀ {L w'}, S1 L w' → Below W.drew.heap.size W.drew w' := by intro L w' h; rw [hSe] at h; exact h
  have hSi : ∀ {w'}, Below W.drew.heap.size W.drew w' → ∀ L, S1 L w' := by intro w' h L; rw [hSe]; exact h
  clear hSe
  refine wp_region_LN S1 8 #[false, false, false, false, false, false, false, false] (by kernel_rfl) (by kernel_rfl) rfl ?_
  obtain ⟨X, hX⟩ : ∃ X, X = W.drew := ⟨_, rfl⟩
  rw [← hX] at HbXd a0 a1 a2 a3 a4 a5 a6 a7 HBd Hzd hSo hSi hS ⊢
  clear hX
  refine WA.take (i := 0) (v := .pointer (some ⟨tb, 0, none⟩)) rfl (by kernel_rfl) (by kernel_rfl) (by kernel_rfl) (fun _ _ _ h => h) (hdrop 0) (Or.inl ⟨by rfl, ?_⟩) (hS _) ?_
  · rintro w' ⟨L, hL, hSw, hun⟩
    go_simp
  simp only [List.getElem_toArray, List.getElem_cons_zero, List.getElem_cons_succ, Act.put, List.setIfInBounds_toArray, List.set_cons_zero, List.set_cons_succ]
  refine WA.take (i := 1) (v := .agg #[.int .i64 h0, .int .u32 h1, .int .i64 h2, .int .u32 h3, .int .i64 h4, .int .u32 h5, .slice sa n cap, .int .i64 (vars : Nat)]) rfl (by kernel_rfl) (by kernel_rfl) (by kernel_rfl) (fun _ _ _ h => h) (hdrop 1) (Or.inl ⟨by rfl, ?_⟩) (hS _) ?_
  · rintro w' ⟨L, hL, hSw, hun⟩
    have hbw := hSo hSw
    have a0 := cell_later hbw a0
    have a1 := cell_later hbw a1
    have a2 := cell_later hbw a2
    have a3 := cell_later hbw a3
    have a4 := cell_later hbw a4
    have a5 := cell_later hbw a5
    have a6 := cell_later hbw a6
    have a7 := cell_later hbw a7
    clear hbw
    go_simp
  simp only [List.getElem_toArray, List.getElem_cons_zero, List.getElem_cons_succ, Act.put, List.setIfInBounds_toArray, List.set_cons_zero, List.set_cons_succ]
  refine WA.take (i := 2) (v := .pointer (some ⟨w.heap.size, 7, none⟩)) rfl (by kernel_rfl) (by kernel_rfl) (by kernel_rfl) (fun _ _ _ h => h) (hdrop 2) (Or.inl ⟨by rfl, ?_⟩) (hS _) ?_
  · rintro w' ⟨L, hL, hSw, hun⟩
    go_simp
  simp only [List.getElem_toArray, List.getElem_cons_zero, List.getElem_cons_succ, Act.put, List.setIfInBounds_toArray, List.set_cons_zero, List.set_cons_succ]
  refine WA.take (i := 3) (v := .int .i64 (vars : Nat)) rfl (by kernel_rfl) (by kernel_rfl) (by kernel_rfl) (fun _ _ _ h => h) (hdrop 3) (Or.inl ⟨by rfl, ?_⟩) (hS _) ?_
  · rintro w' ⟨L, hL, hSw, hun⟩
    have hbw := hSo hSw
    have a7 := cell_later hbw a7
    clear hbw
    go_simp
  simp only [List.getElem_toArray, List.getElem_cons_zero, List.getElem_cons_succ, Act.put, List.setIfInBounds_toArray, List.set_cons_zero, List.set_cons_succ]
  refine WA.one (i := 4) (by kernel_rfl) rfl (by rfl) (fun K hK => ?_)
  go_simp
  have hB1 : Below X.heap.size X (X.alloc (.cells (uvs (List.replicate vars 0)) 23)) := (Below.refl _ X).alloc (Nat.le_refl _) _
  refine hK _ _ (hSi hB1 _) ?_
  clear hK
  try simp only [List.getElem_toArray, List.getElem_cons_zero, List.getElem_cons_succ, Act.put, List.setIfInBounds_toArray, List.set_cons_zero, List.set_cons_succ]
  refine WA.take (i := 5) (v := .agg #[.pointer (some ⟨tb, 0, none⟩), .int .i64 h0, .int .u32 h1, .int .i64 h2, .int .u32 h3, .int .i64 h4, .int .u32 h5, .slice sa n cap, .int .i64 (vars : Nat), .slice none 0 0, .slice (some ⟨X.heap.size, 0, none⟩) vars vars, .int .i64 0]) rfl (by kernel_rfl) (by kernel_rfl) (by kernel_rfl) (fun _ _ _ h => h) (hdrop 5) (Or.inl ⟨by rfl, ?_⟩) (hSi hB1 _) ?_
  · rintro w' ⟨L, hL, hSw, hun⟩
    go_simp
  simp only [List.getElem_toArray, List.getElem_cons_zero, List.getElem_cons_succ, Act.put, List.setIfInBounds_toArray, List.set_cons_zero, List.set_cons_succ]
  refine WA.one (i := 6) (by kernel_rfl) rfl (by rfl) (fun K hK => ?_)
  go_simp
  obtain ⟨hB2, hz2, g1, g2⟩ := two_blocks X (.cells (uvs (List.replicate vars 0)) 23) (.cells #[.pointer (some ⟨tb, 0, none⟩), .int .i64 h0, .int .u32 h1, .int .i64 h2, .int .u32 h3, .int .i64 h4, .int .u32 h5, .slice sa n cap, .int .i64 (vars : Nat), .slice none 0 0, .slice (some ⟨X.heap.size, 0, none⟩) vars vars, .int .i64 0] 79) _ rfl
  refine hK _ _ (hSi hB2 _) ?_
  clear hK
  try simp only [List.getElem_toArray, List.getElem_cons_zero, List.getElem_cons_succ, Act.put, List.setIfInBounds_toArray, List.set_cons_zero, List.set_cons_succ]
  refine WA.take (i := 7) (v := .pointer (some ⟨X.heap.size + 1, 0, none⟩)) rfl (by kernel_rfl) (by kernel_rfl) (by kernel_rfl) (fun _ _ _ h => h) (hdrop 7) (Or.inl ⟨by rfl, ?_⟩) (hSi hB2 _) ?_
  · rintro w' ⟨L, hL, hSw, hun⟩
    go_simp
  simp only [List.getElem_toArray, List.getElem_cons_zero, List.getElem_cons_succ, Act.put, List.setIfInBounds_toArray, List.set_cons_zero, List.set_cons_succ]
  refine WA.done (by kernel_rfl) ?_ _
  refine Nrm.normal ?_
  clear hSo hSi hS hdrop hmk a0 a1 a2 a3 a4 a5 a6 a7
  clear S1
  obtain ⟨Y, hY⟩ : ∃ Y, Y = (X.alloc (.cells (uvs (List.replicate vars 0)) 23)).alloc (.cells #[.pointer (some ⟨tb, 0, none⟩), .int .i64 h0, .int .u32 h1, .int .i64 h2, .int .u32 h3, .int .i64 h4, .int .u32 h5, .slice sa n cap, .int .i64 (vars : Nat), .slice none 0 0, .slice (some ⟨X.heap.size, 0, none⟩) vars vars, .int .i64 0] 79) := ⟨_, rfl⟩
  obtain ⟨vb, hvb⟩ : ∃ vb, vb = X.heap.size := ⟨_, rfl⟩
  obtain ⟨wb, hwb⟩ : ∃ wb, wb = X.heap.size + 1 := ⟨_, rfl⟩
  rw [← hY] at hB2 hz2 g1 g2 ⊢
  rw [← hwb] at g2 ⊢
  rw [← hvb] at g1 g2
  have hzd := Hzd.out
  have hle : w.heap.size < vb ∧ vb < wb ∧ wb < Y.heap.size := by omega
  have hBY := HBd.out.trans (hB2.mono HBd.out.size)
  have hbx := (hB2.block w.heap.size (by omega)).trans (show X.heap[w.heap.size]? = _ from HbXd.out)
  clear hY hB2 hz2 hvb hwb hB1 hzd Hzd HbXd
  -- begun
  have HBY := Lib.hid hBY; have HW0 := Lib.hid g2; have HV0 := Lib.hid g1; have Hle := Lib.hid hle
  obtain ⟨a6, a7⟩ : Y.cell? ⟨w.heap.size, 6, none⟩ = some (.slice sa n cap) ∧ Y.cell? ⟨w.heap.size, 7, none⟩ = some (.int .i64 (vars : Nat)) := by unfold World.cell?; rw [hbx]; exact ⟨rfl, rfl⟩
  clear hBY g1 g2 hle hbx
  go_wp2_with fail
  clear a6 a7
  obtain ⟨d, hd⟩ : ∃ d : Vw, d = (0, (lt : Int), 3) := ⟨_, rfl⟩
  have Hd := Lib.hid hd
  clear hd
  go_loopw [8, 22] (fun u8 u22 wr => ∃ (i k : Nat) (acc : List Vw) (v : Value), i ≤ n ∧ k ≤ i ∧ u22 = .int .i64 i ∧ u8 = .int .i64 k ∧ acc.length = i ∧ extV d steps views = acc ++ extV d (steps.drop i) (views.drop k) ∧ Below w.heap.size w wr ∧ Y.heap.size ≤ wr.heap.size ∧
    wr.heap[wb]? = some (.cells #[.pointer (some ⟨tb, 0, none⟩), .int .i64 h0, .int .u32 h1, .int .i64 h2, .int .u32 h3, .int .i64 h4, .int .u32 h5, .slice sa n cap, .int .i64 (vars : Nat), v, .slice (some ⟨vb, 0, none⟩) vars vars, .int .i64 (0 : Int)] 79 (0, 0)) ∧ wr.heap[vb]? = some (.cells (uvs (List.replicate vars 0)) 23 (0, 0)) ∧ wr.ownsRow w.heap.size 42 3 v i (vcs acc)) (fun _ u _ => n - (intOf u).toNat)
  case atStart => exact ⟨0, 0, [], _, by omega, by omega, rfl, rfl, rfl, by simp, HBY.out, Nat.le_refl _, HW0.out, HV0.out, World.ownsRow_nil _ _ _ _⟩
  case round =>
    obtain ⟨i, k, acc, v, hi, hk, rfl, rfl, hacc, hext, hB, hsz, hw, hv, hor⟩ := hrel
    have HB := Lib.hid hB; have Hsz := Lib.hid hsz; have HW := Lib.hid hw; have HV := Lib.hid hv; have Hor := Lib.hid hor; have Hacc := Lib.hid hacc; have Hext := Lib.hid hext
    clear hB hsz hw hv hor hacc hext
    by_cases hin : i < n
    · have hd : decide ((i : Int) < (n : Int)) = true := by simp; omega
      obtain ⟨sb, so, rfl, hs⟩ := Hst.out i (by have := Hn.out; omega)
      obtain ⟨⟨kk, ⟨a0, i0⟩, ⟨a1, i1⟩, ⟨a2, i2⟩, ⟨a3, i3⟩, ⟨a4, i4⟩⟩, hsi⟩ : ∃ s : StepT, steps[i]'(by have := Hn.out; omega) = s := ⟨_, rfl⟩
      rw [hsi] at hs
      obtain ⟨hsl, e0, e1, e2, e3, e4, e5, e6, e7, e8, e9, e10⟩ := hs.below HB.out
      simp only at e0 e1 e2 e3 e4 e5 e6 e7 e8 e9 e10
      have hdr : steps.drop i = ⟨kk, (a0, i0), (a1, i1), (a2, i2), (a3, i3), (a4, i4)⟩ :: steps.drop (i + 1) := by rw [← hsi]; exact List.drop_eq_getElem_cons _
      have Hdr := Lib.hid hdr
      have hB1 : Below wr.heap.size wr (wr.alloc (.cells #[.int .i64 kk, .int .i64 a0, .int .u32 i0, .int .i64 a1, .int .u32 i1, .int .i64 a2, .int .u32 i2, .int .i64 a3, .int .u32 i3, .int .i64 a4, .int .u32 i4] 35)) := (Below.refl _ wr).alloc (Nat.le_refl _) _
      have hz1 : (wr.alloc (.cells #[.int .i64 kk, .int .i64 a0, .int .u32 i0, .int .i64 a1, .int .u32 i1, .int .i64 a2, .int .u32 i2, .int .i64 a3, .int .u32 i3, .int .i64 a4, .int .u32 i4] 35)).heap.size = wr.heap.size + 1 := World.size_alloc _ _
      have hb1 := World.alloc_heap_new wr (.cells #[.int .i64 kk, .int .i64 a0, .int .u32 i0, .int .i64 a1, .int .u32 i1, .int .i64 a2, .int .u32 i2, .int .i64 a3, .int .u32 i3, .int .i64 a4, .int .u32 i4] 35)
      clear hs hsi hdr
      go_wp2_with fail
      clear e0 e1 e2 e3 e4 e5 e6 e7 e8 e9 e10
      generalize wr.alloc (.cells #[.int .i64 kk, .int .i64 a0, .int .u32 i0, .int .i64 a1, .int .u32 i1, .int .i64 a2, .int .u32 i2, .int .i64 a3, .int .u32 i3, .int .i64 a4, .int .u32 i4] 35) = W1 at *
      have HB1 := Lib.hid (HB.out.trans (hB1.mono HB.out.size))
      refine (all_any (Ht.out.below HB1.out)).mono ?_
      rintro e w2 ⟨rfl, hB2⟩
      rw [Hlt.out]
      have hB3 : Below w2.heap.size w2 (w2.alloc (.cells #[.int .i64 0, .int .i64 lt, .int .u8 3] 42)) := (Below.refl _ w2).alloc (Nat.le_refl _) _
      have hb3 := World.alloc_heap_new w2 (.cells #[.int .i64 0, .int .i64 lt, .int .u8 3] 42)
      have hz2 := hB2.size
      have Hz := Lib.hid (show wr.heap.size < w2.heap.size by omega)
      have hst2 : (w2.alloc (.cells #[.int .i64 0, .int .i64 lt, .int .u8 3] 42)).heap[wr.heap.size]? = some (.cells #[.int .i64 kk, .int .i64 a0, .int .u32 i0, .int .i64 a1, .int .u32 i1, .int .i64 a2, .int .u32 i2, .int .i64 a3, .int .u32 i3, .int .i64 a4, .int .u32 i4] 35 (0, 0)) := (hB3.block _ (by omega)).trans ((hB2.block _ (by omega)).trans hb1)
      have ck : (w2.alloc (.cells #[.int .i64 0, .int .i64 lt, .int .u8 3] 42)).cell? ⟨wr.heap.size, 0, none⟩ = some (.int .i64 kk) := by unfold World.cell?; rw [hst2]; rfl
      have HBr2 := Lib.hid (hB1.trans (hB2.mono (by omega)))
      have Hb3 := Lib.hid hb3
      have HB3 := Lib.hid hB3
      have HBw2 := Lib.hid (HB1.out.trans (hB2.mono HB1.out.size))
      have HBw3 := Lib.hid (HB1.out.trans ((hB2.mono HB1.out.size).trans (hB3.mono (Nat.le_trans HB1.out.size hB2.size))))
      clear hB1 hz1 hb1 hB2 hB3 hb3 hst2 hz2
      go_upto_if 30 with fail
      go_cut [8] from 31 to 40 (fun u8 wx => ∃ (k' : Nat) (fr tu bt : Int), u8 = .int .i64 k' ∧ k' ≤ k + 1 ∧ wx.heap[w2.heap.size]? = some (.cells #[.int .i64 fr, .int .i64 tu, .int .u8 bt] 42 (0, 0)) ∧ Below w2.heap.size w2 wx ∧ extV d (⟨kk, (a0, i0), (a1, i1), (a2, i2), (a3, i3), (a4, i4)⟩ :: steps.drop (i + 1)) (views.drop k) = (fr, tu, bt) :: extV d (steps.drop (i + 1)) (views.drop k'))
      case first =>
        by_cases hk1 : kk = 1
        · subst hk1
          by_cases hkv : k < nv
          · have hdk : decide ((k : Int) < (nv : Int)) = true := by simp; omega
            obtain ⟨vb', vo, rfl, hv⟩ := Hvw.out k (by have := Hnv.out; omega)
            obtain ⟨⟨fr, tu, bt⟩, hvk⟩ : ∃ v : Vw, views[k]'(by have := Hnv.out; omega) = v := ⟨_, rfl⟩
            rw [hvk] at hv
            obtain ⟨hvl, f0, f1, f2⟩ := hv.below HBw3.out
            simp only at f0 f1 f2
            have hdv : views.drop k = (fr, tu, bt) :: views.drop (k + 1) := by rw [← hvk]; exact List.drop_eq_getElem_cons _
            have Hdv := Lib.hid hdv
            clear hv hvk hdv
            go_wp2_with fail
            go_meet
            refine ⟨k + 1, fr, tu, bt, by push_cast; rfl, by omega, (World.alloc_heap_new w2 (.cells #[.int .i64 fr, .int .i64 tu, .int .u8 bt] 42)), (Below.refl _ w2).alloc (Nat.le_refl _) _, ?_⟩
            rw [Hdv.out]
            simp [extV, Hdv.out]
          · have hdk : decide ((k : Int) < (nv : Int)) = false := by simp; omega
            go_wp2_with fail
            go_meet
            refine ⟨k + 1, 0, lt, 3, by push_cast; rfl, by omega, Hb3.out, HB3.out, ?_⟩
            rw [← Hd.out, List.drop_eq_nil_of_le (show views.length ≤ k by have := Hnv.out; omega), List.drop_eq_nil_of_le (show views.length ≤ k + 1 by have := Hnv.out; omega)]
            simp [extV]
        · have hdk : (kk == 1) = false := by simpa using hk1
          go_wp2_with fail
          go_meet
          refine ⟨k, 0, lt, 3, rfl, by omega, Hb3.out, HB3.out, ?_⟩
          rw [← Hd.out]
          simp [extV, hk1]
      case rest =>
        obtain ⟨k', fr, tu, bt, rfl, hk', hbx, hBx, hex⟩ := hcut
        have HX := Lib.hid hBx; have Hbx := Lib.hid hbx; have Hex := Lib.hid hex
        clear hBx hbx hex ck
        obtain ⟨va2, vc2, rfl⟩ := own_anyJ Hor.out
        have HBr := Lib.hid (show Below wr.heap.size wr wc.drew from (HBr2.out.trans (HX.out.mono HBr2.out.size)).drew)
        have HBw := Lib.hid (show Below w.heap.size w wc.drew from (HBw2.out.trans (HX.out.mono HBw2.out.size)).drew)
        have c9 : wc.drew.cell? ⟨wb, 9, none⟩ = some (.slice va2 i vc2) := cell_later HBr.out (by unfold World.cell?; rw [HW.out]; rfl)
        obtain ⟨b0, b1, b2⟩ : wc.drew.cell? ⟨w2.heap.size, 0, none⟩ = some (.int .i64 fr) ∧ wc.drew.cell? ⟨w2.heap.size, 1, none⟩ = some (.int .i64 tu) ∧ wc.drew.cell? ⟨w2.heap.size, 2, none⟩ = some (.int .u8 bt) := by
          show wc.cell? _ = _ ∧ wc.cell? _ = _ ∧ wc.cell? _ = _
          unfold World.cell?; rw [Hbx.out]; exact ⟨rfl, rfl, rfl⟩
        go_wp2_with fail
        obtain ⟨S11, hSe⟩ : ∃ S : Array Bool → World → Prop, S = fun L w' => L.getD 7 true = false → Below wc.drew.heap.size wc.drew w' := ⟨_, rfl⟩
        have hdrop : ∀ i, i ≠ 7 → ∀ L w', S11 (L.setIfInBounds i true) w' → S11 L w' := by
          intro i hi L w'
          rw [hSe]
          intro h hl
          exact h (by rw [getD_set_ne true hi]; exact hl)
        have hS : ∀ L, S11 L wc.drew := by intro L; rw [hSe]; exact fun _ => Below.refl _ _
        have hSo : ∀ {L w'}, S11 L w' → L.getD 7 true = false → Below wc.drew.heap.size wc.drew w' := by intro L w' h hl; rw [hSe] at h; exact h hl
        have hSi : ∀ {w'}, Below wc.drew.heap.size wc.drew w' → ∀ L, S11 L w' := by intro w' h L; rw [hSe]; exact fun _ => h
        have hSd : ∀ (L : Array Bool) X, L.getD 7 true = true → S11 L X := by
          intro L X h; rw [hSe]; intro h1; rw [h] at h1; cases h1
        clear hSe
        refine wp_region_LN S11 11 #[false, false, false, false, false, false, false, false, false, false, false] (by kernel_rfl) (by kernel_rfl) rfl ?_
        obtain ⟨X_, hX⟩ : ∃ X_, X_ = wc.drew := ⟨_, rfl⟩
        rw [← hX] at c9 b0 b1 b2 HBr HBw hSo hSi hS ⊢
        clear hX
        refine WA.take (i := 0) (v := .pointer (some ⟨wb, 0, none⟩)) rfl (by kernel_rfl) (by kernel_rfl) (by kernel_rfl) (fun _ _ _ h => h) (hdrop 0 (by decide)) (Or.inl ⟨by rfl, ?_⟩) (hS _) ?_
        · rintro w' ⟨L, hL, hSw, hun⟩
          go_simp
        simp only [List.getElem_toArray, List.getElem_cons_zero, List.getElem_cons_succ, Act.put, List.setIfInBounds_toArray, List.set_cons_zero, List.set_cons_succ]
        refine WA.take (i := 1) (v := .pointer (some ⟨wb, 0, none⟩)) rfl (by kernel_rfl) (by kernel_rfl) (by kernel_rfl) (fun _ _ _ h => h) (hdrop 1 (by decide)) (Or.inl ⟨by rfl, ?_⟩) (hS _) ?_
        · rintro w' ⟨L, hL, hSw, hun⟩
          go_simp
        simp only [List.getElem_toArray, List.getElem_cons_zero, List.getElem_cons_succ, Act.put, List.setIfInBounds_toArray, List.set_cons_zero, List.set_cons_succ]
        refine WA.take (i := 2) (v := .pointer (some ⟨wb, 0, none⟩)) rfl (by kernel_rfl) (by kernel_rfl) (by kernel_rfl) (fun _ _ _ h => h) (hdrop 2 (by decide)) (Or.inl ⟨by rfl, ?_⟩) (hS _) ?_
        · rintro w' ⟨L, hL, hSw, hun⟩
          go_simp
        simp only [List.getElem_toArray, List.getElem_cons_zero, List.getElem_cons_succ, Act.put, List.setIfInBounds_toArray, List.set_cons_zero, List.set_cons_succ]
        refine WA.take (i := 3) (v := .pointer (some ⟨wb, 9, none⟩)) rfl (by kernel_rfl) (by kernel_rfl) (by kernel_rfl) (fun _ _ _ h => h) (hdrop 3 (by decide)) (Or.inl ⟨by rfl, ?_⟩) (hS _) ?_
        · rintro w' ⟨L, hL, hSw, hun⟩
          go_simp
        simp only [List.getElem_toArray, List.getElem_cons_zero, List.getElem_cons_succ, Act.put, List.setIfInBounds_toArray, List.set_cons_zero, List.set_cons_succ]
        refine WA.take (i := 4) (v := .slice va2 i vc2) rfl (by kernel_rfl) (by kernel_rfl) (by kernel_rfl) (fun _ _ _ h => h) (hdrop 4 (by decide)) (Or.inl ⟨by rfl, ?_⟩) (hS _) ?_
        · rintro w' ⟨L, hL, hSw, hun⟩
          have hbw := hSo hSw (hL.wait 7 4 (by kernel_rfl) hun)
          have c9 := cell_later hbw c9
          clear hbw
          go_simp
        simp only [List.getElem_toArray, List.getElem_cons_zero, List.getElem_cons_succ, Act.put, List.setIfInBounds_toArray, List.set_cons_zero, List.set_cons_succ]
        refine WA.take (i := 5) (v := .agg #[.int .i64 fr, .int .i64 tu, .int .u8 bt]) rfl (by kernel_rfl) (by kernel_rfl) (by kernel_rfl) (fun _ _ _ h => h) (hdrop 5 (by decide)) (Or.inl ⟨by rfl, ?_⟩) (hS _) ?_
        · rintro w' ⟨L, hL, hSw, hun⟩
          have hbw := hSo hSw (hL.wait 7 6 (by kernel_rfl) (hL.wait 6 5 (by kernel_rfl) hun))
          have b0 := cell_later hbw b0
          have b1 := cell_later hbw b1
          have b2 := cell_later hbw b2
          clear hbw
          go_simp
        simp only [List.getElem_toArray, List.getElem_cons_zero, List.getElem_cons_succ, Act.put, List.setIfInBounds_toArray, List.set_cons_zero, List.set_cons_succ]
        refine WA.one (i := 6) (by kernel_rfl) rfl (by rfl) (fun K hK => ?_)
        go_simp
        have hA := (Below.refl X_.heap.size X_).alloc (Nat.le_refl _) (.cells #[.int .i64 fr, .int .i64 tu, .int .u8 bt] 42)
        have HA := Lib.hid hA
        refine hK _ _ (hSi hA _) ?_
        clear hK
        try simp only [List.getElem_toArray, List.getElem_cons_zero, List.getElem_cons_succ, Act.put, List.setIfInBounds_toArray, List.set_cons_zero, List.set_cons_succ]
        clear hA
        refine WA.one (i := 7) (by kernel_rfl) rfl (by rfl) (fun K hK => ?_)
        have HrA := Lib.hid (own_below (own_below Hor.out HBr.out) HA.out)
        refine jwp_append_own (.tmp 45) (.tmp 47) 39 (by rfl) w.heap.size 42 iv (.agg #[.int .i64 0, .int .i64 0, .int .u8 0]) 3 24 Try.underlying39 Hi.out Hj0.out Hj1.out Hj2.out rfl (by decide) (.slice va2 i vc2) i (vcs acc) (by rfl) HrA.out ⟨X_.heap.size, 0, none⟩ 1 1 [.int .i64 fr, .int .i64 tu, .int .u8 bt] (by rfl) rfl (cells_blk (World.alloc_heap_new _ _)) (by simp [Value.oneCell']) (by unfold maxLen; omega) (by omega) (by have := HBw.out.size; have := HA.out.size; omega) ?_
        intro v' w4 hown' hgrow _ hwh
        obtain ⟨g', cap', rfl⟩ := jown_slice hown' (Nat.succ_pos _)
        have Hown' := Lib.hid hown'; have Hgrow := Lib.hid hgrow
        refine hK _ _ (hSd _ _ (by rfl)) ?_
        clear hK hown' hgrow hwh
        try simp only [List.getElem_toArray, List.getElem_cons_zero, List.getElem_cons_succ, Act.put, List.setIfInBounds_toArray, List.set_cons_zero, List.set_cons_succ]
        refine WA.take (i := 8) (v := .pointer (some ⟨wb, 0, none⟩)) rfl (by kernel_rfl) (by kernel_rfl) (by kernel_rfl) (fun _ _ _ h => h) (hdrop 8 (by decide)) (Or.inl ⟨by rfl, ?_⟩) (hSd _ _ (by rfl)) ?_
        · rintro w' ⟨L, hL, hSw, hun⟩
          go_simp
        simp only [List.getElem_toArray, List.getElem_cons_zero, List.getElem_cons_succ, Act.put, List.setIfInBounds_toArray, List.set_cons_zero, List.set_cons_succ]
        refine WA.take (i := 9) (v := .pointer (some ⟨wb, 9, none⟩)) rfl (by kernel_rfl) (by kernel_rfl) (by kernel_rfl) (fun _ _ _ h => h) (hdrop 9 (by decide)) (Or.inl ⟨by rfl, ?_⟩) (hSd _ _ (by rfl)) ?_
        · rintro w' ⟨L, hL, hSw, hun⟩
          go_simp
        simp only [List.getElem_toArray, List.getElem_cons_zero, List.getElem_cons_succ, Act.put, List.setIfInBounds_toArray, List.set_cons_zero, List.set_cons_succ]
        have Kg : ∀ (i : Nat) (cur : Array Value) (t : TypeId) (fz : Nat × Nat), t ≠ 42 → wr.heap[i]? = some (.cells cur t fz) → w4.heap[i]? = some (.cells cur t fz) := fun i cur t fz ht h =>
          (Hgrow.out.block i (Nat.lt_of_lt_of_le (Array.getElem?_eq_some_iff.1 h).1 (Nat.le_trans HBr.out.size HA.out.size)) (fun e => own_ne HrA.out (((HBr.out.trans (HA.out.mono HBr.out.size)).block i (Array.getElem?_eq_some_iff.1 h).1).trans h) ht e.symm)).trans (((HBr.out.trans (HA.out.mono HBr.out.size)).block i (Array.getElem?_eq_some_iff.1 h).1).trans h)
        have h4w := Kg _ _ _ _ (by decide) HW.out
        have h4v := Kg _ _ _ _ (by decide) HV.out
        have hB4 : Below w.heap.size w w4 := (HBw.out.trans (HA.out.mono HBw.out.size)).grown Hgrow.out (Nat.le_trans HBw.out.size HA.out.size) (fun j hj => (HrA.out.lt j hj).1)
        have hszf : Y.heap.size ≤ w4.heap.size := Nat.le_trans Hsz.out (Nat.le_trans HBr.out.size (Nat.le_trans HA.out.size Hgrow.out.size))
        obtain ⟨c49, f49⟩ : w4.cell? ⟨wb, 9, none⟩ = some (.slice va2 i vc2) ∧ w4.frozen? ⟨wb, 9, none⟩ = false := by unfold World.cell? World.frozen?; rw [h4w]; exact ⟨rfl, by simp⟩
        have HB4 := Lib.hid hB4; have Hszf := Lib.hid hszf; have H4w := Lib.hid h4w; have H4v := Lib.hid h4v
        clear Kg h4w h4v hB4 hszf
        refine WA.one (i := 10) (by kernel_rfl) rfl (by rfl) (fun K hK => ?_)
        go_simp
        refine hK _ _ (hSd _ _ (by rfl)) ?_
        clear hK
        try simp only [List.getElem_toArray, List.getElem_cons_zero, List.getElem_cons_succ, Act.put, List.setIfInBounds_toArray, List.set_cons_zero, List.set_cons_succ]
        refine WA.done (by kernel_rfl) ?_ _
        refine Nrm.normal ?_
        clear hSo hSi hS hSd hdrop c9 b0 b1 b2 c49 f49
        clear S11
        go_wp2_with fail
        obtain ⟨vn, hvn⟩ : ∃ vn : Value, vn = .slice (some ⟨g', 0, none⟩) (i + 1) cap' := ⟨_, rfl⟩
        rw [← hvn] at Hown' ⊢
        have h4w := H4w.out
        have hszf := Hszf.out
        have hsw := blk_set h4w 9 vn
        have hsv : (w4.setCell ⟨wb, 9, none⟩ vn).heap[vb]? = some (.cells (uvs (List.replicate vars 0)) 23 (0, 0)) := (Below.heap_setCell _ _ _ _ (by have := Hle.out; simp; omega)).trans H4v.out
        have hBf : Below w.heap.size w (w4.setCell ⟨wb, 9, none⟩ vn) := HB4.out.setCell (p := ⟨wb, 9, none⟩) (by have := Hle.out; simp; omega) _
        refine ⟨⟨i + 1, k', acc ++ [(fr, tu, bt)], vn, by omega, by omega, by push_cast; rfl, rfl, by rw [List.length_append, Hacc.out]; rfl, ?_, hBf, ?_, hsw, hsv, ?_⟩, by simp [intOf]; omega⟩
        · rw [Hext.out, Hdr.out, Hex.out, List.append_assoc]; rfl
        · rw [World.size_setCell]; exact hszf
        · rw [vcs_snoc]
          exact jown_blk Hown'.out (fun g hg => Below.heap_setCell _ _ _ g (fun e => own_ne Hown'.out h4w (by decide) (by rw [hg, e])))
    · have hin' : i = n := by omega
      subst hin'
      have hd : decide ((i : Int) < (i : Int)) = false := by simp
      go_wp2_with fail
      go_ret
      have hx : extV d steps views = acc := by
        rw [Hext.out, List.drop_eq_nil_of_le (by have := Hn.out; omega)]
        simp [extV]
      refine ⟨wb, vb, v, rfl, HB.out, by have := Hle.out; omega, by have := Hle.out; omega, by have := Hle.out; omega, HW.out, HV.out, ?_⟩
      rw [← Hd.out, hx]
      exact Hor.out
end
end Go.Proofs.Ytkgkkbfpkgfcaaa
