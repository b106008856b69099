/- The table's small questions: is it there, is there such a row, how many. -/
import Derived.Test.YtghihhjcoilmgaaKTab
import Derived.WalkKit
import Derived.WalkMore
namespace Go.Proofs.Ytghihhjcoilmgaa.T
set_option maxRecDepth 100000
open Go.RowKit Go.Maps
set_option linter.unusedVariables false

theorem equalIn_map_nil {P : Program} (w : World) (d : Nat) (t k e : TypeId) (p : Nat) (h : P.underlying t = some (.map k e)) :
    (Op.equalIn (d + 1) t (.map (some p)) (.map none)).run P w = .ok false w := by
  simp [Op.equalIn, run_underlying h]
theorem neq_map_nil {P : Program} (w : World) (t k e : TypeId) (p : Nat) (h : P.underlying t = some (.map k e)) :
    (binOp .neq t (.map (some p)) (.map none)).run P w = .ok (.bool true) w := by
  simp only [binOp]
  simp [show Op.equal t (.map (some p)) (.map none) = Op.equalIn (9999 + 1) t (.map (some p)) (.map none) from rfl, equalIn_map_nil w 9999 t k e p h]

section
variable {Z : Zone} {w : World} {tb : Nat} {T : TS} {D : TabD}

set_option maxHeartbeats 400000 in
theorem there_any (h : IsT Z w tb T D) : Calls Try.prog 34 #[.pointer (some ⟨tb, 0, none⟩)] w fun e w' => e = .returned (.bool true) ∧ w = w' := by
  have c2 := h.c2
  have hq := neq_map_nil (P := Try.prog) w 77 _ _ D.bf Try.underlying77
  clear h
  go_enter Try.func34, Try.ntmps34
  go_wp2
  go_ret
  exact ⟨rfl, rfl⟩

set_option maxHeartbeats 400000 in
theorem len_any (h : IsT Z w tb T D) : Calls Try.prog 22 #[.pointer (some ⟨tb, 0, none⟩)] w fun e w' => e = .returned (.int .i64 T.length) ∧ w = w' := by
  have c0 := h.c0
  obtain ⟨l, hl⟩ : ∃ l, T.length = l := ⟨_, rfl⟩
  have hs := h.rows.form
  rw [hl] at hs ⊢
  clear h
  rcases hs with ⟨hv, hn⟩ | ⟨g, cap, hv, _, _, _⟩
  all_goals
    rw [hv] at c0
    clear hv
    go_enter Try.func22, Try.ntmps22
    go_wp2
    go_ret
    first | exact ⟨rfl, rfl⟩ | (rw [hn]; exact ⟨rfl, rfl⟩)

end
end Go.Proofs.Ytghihhjcoilmgaa.T

namespace Go.Proofs.Ytghihhjcoilmgaa.T
set_option maxRecDepth 100000
open Go.RowKit Go.Maps
set_option linter.unusedVariables false

section
variable {Z : Zone} {w : World} {tb : Nat} {T : TS} {D : TabD}

set_option maxHeartbeats 400000 in
theorem in_yes (h : IsT Z w tb T D) (n : Nat) (hn : n < T.length) : Calls Try.prog 40 #[.pointer (some ⟨tb, 0, none⟩), .int .i64 n] w fun e w' => e = .returned (.bool true) ∧ w = w' := by
  have c0 := h.c0
  have hl := h.long
  have hth := Lib.hid (there_any h)
  obtain ⟨l, hll⟩ : ∃ l, T.length = l := ⟨_, rfl⟩
  have hs := h.rows.form
  rw [hll] at hs hn hl
  clear h hll
  rcases hs with ⟨hv, hn0⟩ | ⟨g, cap, hv, _, _, _⟩
  · omega
  · rw [hv] at c0
    clear hv
    go_enter Try.func40, Try.ntmps40
    go_wp2_with (go_at_call 34; refine hth.out.mono ?_; rintro e w' ⟨rfl, rfl⟩)
    go_ret
    exact ⟨rfl, rfl⟩

set_option maxHeartbeats 400000 in
theorem in_no (h : IsT Z w tb T D) (n : Int) (hn : n < 0 ∨ T.length ≤ n) : Calls Try.prog 40 #[.pointer (some ⟨tb, 0, none⟩), .int .i64 n] w fun e w' => e = .returned (.bool false) ∧ w = w' := by
  have c0 := h.c0
  have hl := h.long
  have hth := Lib.hid (there_any h)
  obtain ⟨l, hll⟩ : ∃ l, T.length = l := ⟨_, rfl⟩
  have hs := h.rows.form
  rw [hll] at hs hn hl
  clear h hll
  rcases hs with ⟨hv, hn0⟩ | ⟨g, cap, hv, _, _, _⟩ <;> rcases hn with hn | hn
  all_goals
    rw [hv] at c0
    clear hv
    go_enter Try.func40, Try.ntmps40
    go_wp2_with (go_at_call 34; refine hth.out.mono ?_; rintro e w' ⟨rfl, rfl⟩)
    all_goals (go_ret; first | exact ⟨rfl, rfl⟩ | exact ⟨congrArg (fun b => Ending.returned (.bool b)) (decide_eq_false (p := n < (0 : Int)) (by omega)), rfl⟩ | exact ⟨congrArg (fun b => Ending.returned (.bool b)) (decide_eq_false (p := n < (l : Int)) (by omega)), rfl⟩)

theorem IsG.row {ff : R3 → Option Value} {ls : R3 → List Nat} {L : Int} {fa : Nat → Int → Option Value} (h : IsG Z w tb T ff ls L fa D) (n : Nat) (hn : n < T.length) : ∃ g cap, D.vr = .slice (some ⟨g, 0, none⟩) T.length cap ∧ g < w.heap.size ∧
    w.cell? ⟨g, n * 3, none⟩ = some (.int .u32 T[n].1.1) ∧ w.cell? ⟨g, n * 3 + 1, none⟩ = some (.int .u32 T[n].1.2.1) ∧ w.cell? ⟨g, n * 3 + 2, none⟩ = some (.int .u32 T[n].1.2.2) := by
  rcases h.rows.form with ⟨_, h0⟩ | ⟨g, cap, hv, _, _, hg⟩
  · omega
  · obtain ⟨h1, h2, h3⟩ := rcs_get T n hn
    exact ⟨g, cap, hv, hg, h.rows.cells (by rw [hv]; rfl) _ _ h1, h.rows.cells (by rw [hv]; rfl) _ _ h2, h.rows.cells (by rw [hv]; rfl) _ _ h3⟩
theorem IsG.bit {ff : R3 → Option Value} {ls : R3 → List Nat} {L : Int} {fa : Nat → Int → Option Value} (h : IsG Z w tb T ff ls L fa D) (n : Nat) (hn : n < T.length) : ∃ g cap, D.vb = .slice (some ⟨g, 0, none⟩) T.length cap ∧ g < w.heap.size ∧
    w.cell? ⟨g, n, none⟩ = some (.int .u8 T[n].2) ∧ w.frozen? ⟨g, n, none⟩ = false ∧ Z.W g n := by
  rcases h.bits.form with ⟨_, h0⟩ | ⟨g, cap, hv, _, _, hg⟩
  · omega
  · exact ⟨g, cap, hv, hg, h.bits.cells (by rw [hv]; rfl) _ _ (bcs_get T n hn), h.bits.frozen (by rw [hv]; rfl) _, h.bitsW g (by rw [hv]; rfl) n⟩

theorem Try.sizeRow : (Try.prog.info? 37).map (·.size) = some 3 := by kernel_rfl
theorem load_row (w : World) (g : Nat) (a b c : Int) (fr : Nat × Nat) (t : TypeId) (hg : w.heap[g]? = some (.cells #[.int .u32 a, .int .u32 b, .int .u32 c] t fr)) :
    (loadVar 37 ⟨g, 0, none⟩).run Try.prog w = .ok (rv (a, b, c)) w :=
  run_loadVar_row _ _ _ _ _ _ _ hg Try.underlying37 rfl Try.sizeRow

set_option maxHeartbeats 1000000 in
theorem get_yes (h : IsT Z w tb T D) (n : Nat) (hn : n < T.length) : Calls Try.prog 23 #[.pointer (some ⟨tb, 0, none⟩), .int .i64 n] w fun e w' =>
    e = .returned (.tuple #[rv T[n].1, .int .u8 T[n].2]) ∧ Below w.heap.size w w' := by
  have c0 := h.c0
  have c1 := h.c1
  have hl := h.long
  obtain ⟨gr, capr, hr, hgr, r0, r1, r2⟩ := h.row n hn
  obtain ⟨gb, capb, hb, hgb, b0, _, _⟩ := h.bit n hn
  rw [hr] at c0
  rw [hb] at c1
  have hlt := h.lt
  have hin := fun w' hb => Lib.hid (in_yes (h.below (w' := w') hb) n hn)
  obtain ⟨y, hy⟩ : ∃ y, T[n] = y := ⟨_, rfl⟩
  obtain ⟨⟨y1, y2, y3⟩, y4⟩ := y
  simp only [hy] at r0 r1 r2 b0 ⊢
  obtain ⟨l, hll⟩ : ∃ l, T.length = l := ⟨_, rfl⟩
  rw [hll] at c0 c1 hn hl
  clear h hll hr hb hy
  go_enter Try.func23, Try.ntmps23
  have hb0 : Below w.heap.size w (w.alloc (.cells #[.int .u32 0, .int .u32 0, .int .u32 0] 37)) := (Below.refl _ w).alloc (Nat.le_refl _) _
  go_wp2_with (go_at_call 40; refine (hin _ hb0).out.mono ?_; rintro e w' ⟨rfl, rfl⟩)
  have n1 := World.new_ne w _ c0
  have n2 := World.new_ne w _ r0
  have n3 := World.new_ne w _ b0
  clear hin
  go_region_held3 (fun w' => w'.cell? ⟨tb, 0, none⟩ = some (.slice (some ⟨gr, 0, none⟩) l capr) ∧ w'.cell? ⟨tb, 1, none⟩ = some (.slice (some ⟨gb, 0, none⟩) l capb) ∧ w'.cell? ⟨gr, n * 3, none⟩ = some (.int .u32 y1) ∧ w'.cell? ⟨gr, n * 3 + 1, none⟩ = some (.int .u32 y2) ∧ w'.cell? ⟨gr, n * 3 + 2, none⟩ = some (.int .u32 y3) ∧ w'.cell? ⟨gb, n, none⟩ = some (.int .u8 y4)) (go_keep) (fail)
  all_goals go_wp2
  all_goals
    refine bodyPost_ret (v := .tuple #[rv (y1, y2, y3), .int .u8 y4]) ?_ rfl ⟨rfl, ((Below.refl _ w).alloc (Nat.le_refl _) _).drew⟩
    rw [results_cell_tmp rfl]
    show ((asAddr (.pointer (some ⟨w.heap.size, 0, none⟩))).run _ _).andThen _ = _
    simp only [asAddr, Sem.run_pure, Result.andThen_ok]
    rw [load_row (World.drew (w.alloc (.cells #[.int .u32 y1, .int .u32 y2, .int .u32 y3] 37))) w.heap.size y1 y2 y3 (0, 0) 37 (heap_alloc_new w _)]
    rfl

set_option maxHeartbeats 1000000 in
theorem get_no (h : IsT Z w tb T D) (n : Int) (hn : n < 0 ∨ T.length ≤ n) : Calls Try.prog 23 #[.pointer (some ⟨tb, 0, none⟩), .int .i64 n] w fun e w' =>
    e = .returned (.tuple #[rv (0, 0, 0), .int .u8 0]) ∧ Below w.heap.size w w' := by
  have hin := fun w' hb => Lib.hid (in_no (h.below (w' := w') hb) n hn)
  clear h hn
  go_enter Try.func23, Try.ntmps23
  have hb0 : Below w.heap.size w (w.alloc (.cells #[.int .u32 0, .int .u32 0, .int .u32 0] 37)) := (Below.refl _ w).alloc (Nat.le_refl _) _
  go_wp2_with (go_at_call 40; refine (hin _ hb0).out.mono ?_; rintro e w' ⟨rfl, rfl⟩)
  refine bodyPost_ret (v := .tuple #[rv (0, 0, 0), .int .u8 0]) ?_ rfl ⟨rfl, ((Below.refl _ w).alloc (Nat.le_refl _) _)⟩
  rw [results_cell_tmp rfl]
  show ((asAddr (.pointer (some ⟨w.heap.size, 0, none⟩))).run _ _).andThen _ = _
  simp only [asAddr, Sem.run_pure, Result.andThen_ok]
  rw [load_row (w.alloc (.cells #[.int .u32 0, .int .u32 0, .int .u32 0] 37)) w.heap.size 0 0 0 (0, 0) 37 (heap_alloc_new w _)]
  rfl

theorem Try.zeroInt (w : World) : (zeroValue 3).run Try.prog w = .ok (.int .i64 0) w := by kernel_rfl

end
end Go.Proofs.Ytghihhjcoilmgaa.T

namespace Go.Proofs.Ytghihhjcoilmgaa.T
set_option maxRecDepth 100000
open Go.Maps
set_option linter.unusedVariables false

section
variable {κ : Type} [DecidableEq κ] {enc : κ → Value} {ok : κ → Prop} {P : Program} (w : World) {ops : Array Oper} {rest : List Oper} {o : Oper} {a : Act} {Q : Exit → Act → World → Prop}

theorem wpList_mapUpdate_raw (hg : o.guard = none) (m x v : Operand) (t : TypeId) (hop : o.op = Op.mapUpdate t m x v)
    (k e : TypeId) (K : Kys P k enc ok) (ht : P.underlying t = some (.map k e)) (b : Nat) (f : κ → Option Value)
    (hm : a.eval m = .map (some b)) (hmap : MapAt enc ok w b f) (y : κ) (hy : ok y) (val : Value) (hx : a.eval x = enc y) (hv : a.eval v = val)
    (hK : ∀ w', MapAt enc ok w' b (upd f y (some val)) → w.mapTurned w' b → wpList P ops Q rest (a.put o.dst undef) w') :
    wpList P ops Q (o :: rest) a w := by
  refine wpList_plain hg fun K' hK' => ?_
  obtain ⟨w', hrun, r1, r2⟩ := hmap.put K ht hy val
  unfold Oper.wp
  simp [execOp, hop, hm, hx, hv, hrun, Result.andThen]
  exact hK' _ _ (hK w' r1 r2)

theorem wpList_delete_raw (hg : o.guard = none) (m x : Operand) (t k : TypeId) (hop : o.op = Op.call { callee := Callee.builtin Builtin.delete, args := #[m, x], argTypes := #[t, k] })
    (e : TypeId) (K : Kys P k enc ok) (ht : P.underlying t = some (.map k e)) (b : Nat) (f : κ → Option Value)
    (hm : a.eval m = .map (some b)) (hmap : MapAt enc ok w b f) (y : κ) (hy : ok y) (hx : a.eval x = enc y)
    (hK : ∀ w', MapAt enc ok w' b (upd f y none) → w.mapTurned w' b → wpList P ops Q rest (a.put o.dst (.tuple #[])) w') :
    wpList P ops Q (o :: rest) a w := by
  refine wpList_plain hg fun K' hK' => ?_
  obtain ⟨w', hrun, r1, r2⟩ := hmap.del K ht hy o.type
  unfold Oper.wp
  simp [execOp, hop, resolve, invoke, builtin, hm, hx, hrun, Result.andThen]
  exact hK' _ _ (hK w' r1 r2)
end
end Go.Proofs.Ytghihhjcoilmgaa.T

namespace Go.Proofs.Ytghihhjcoilmgaa.T
set_option maxRecDepth 100000
open Go.RowKit Go.Maps
set_option linter.unusedVariables false

section
variable {Z : Zone} {w w' : World} {tb : Nat} {T : TS} {ff : R3 → Option Value} {ls : R3 → List Nat} {L : Int} {fa : Nat → Int → Option Value} {D : TabD}

theorem turned_heap {b : Nat} (h : w.mapTurned w' b) : (∃ es c, w.heap[b]? = some (.map es c)) ∧ ∀ i, i ≠ b → w'.heap[i]? = w.heap[i]? := by
  obtain ⟨es, clock, es', clock', hb, rfl⟩ := h
  exact ⟨⟨es, clock, hb⟩, fun i hi => ChangeMaps.heap_setBlock_other hb _ hi⟩

/-- the parts that are no maps -/
theorem IsG.noMap (h : IsG Z w tb T ff ls L fa D) {b : Nat} (hb : ∃ es c, w.heap[b]? = some (.map es c)) (hg : ∀ i, i ≠ b → w'.heap[i]? = w.heap[i]?) :
    w'.heap[tb]? = some (.cells (D.cells L) 82 (0, 0)) ∧ Sl Z w' 37 3 D.vr T.length (rcs T) ∧ Sl Z w' 56 1 D.vb T.length (bcs T) ∧ ByG Z w' ls D.mb := by
  obtain ⟨es, c, hb⟩ := hb
  have hne : ∀ i cur e fz, w.heap[i]? = some (.cells cur e fz) → i ≠ b := fun i cur e fz hi e1 => by
    subst e1; rw [hb] at hi; injection hi with hi; cases hi
  refine ⟨(hg _ (hne _ _ _ _ h.obj)).trans h.obj, h.rows.stayB (fun g hv => ?_), h.bits.stayB (fun g hv => ?_), h.byOk.stayB (fun g cur fz hi => hg _ (hne _ _ _ _ hi))⟩
  · obtain ⟨_, cur, fz, h1⟩ := h.rows.lt g hv; exact hg _ (hne _ _ _ _ h1)
  · obtain ⟨_, cur, fz, h1⟩ := h.bits.lt g hv; exact hg _ (hne _ _ _ _ h1)

theorem IsG.turnA (h : IsG Z w tb T ff ls L fa D) {p : Nat} (hp : p < 3) (ht : w.mapTurned w' (D.ba p)) {g : Int → Option Value} (hm : MapAt uv is32 w' (D.ba p) g) :
    IsG Z w' tb T ff ls L (fun q => if q = p then g else fa q) D := by
  obtain ⟨hb, hg⟩ := turned_heap ht
  obtain ⟨h1, h2, h3, h4⟩ := h.noMap hb hg
  exact { h with
    obj := h1
    rows := h2
    bits := h3
    byOk := h4
    find := h.find.stay (hg _ (h.ne2 p hp).1)
    by_ := h.by_.stay (hg _ (h.ne2 p hp).2)
    at_ := fun q hq => by
      by_cases hqp : q = p
      · subst hqp; rw [if_pos rfl]; exact hm
      · rw [if_neg hqp]; exact (h.at_ q hq).stay (hg _ (h.ne3 q p hq hp hqp)) }
theorem IsG.congr (h : IsG Z w tb T ff ls L fa D) {fb : Nat → Int → Option Value} (hf : ∀ p, p < 3 → ∀ x, is32 x → fb p x = fa p x) : IsG Z w tb T ff ls L fb D :=
  { h with at_ := fun p hp => (h.at_ p hp).congr (hf p hp) }

theorem cells_set7 (D : TabD) (L L' : Int) : (D.cells L).setIfInBounds 7 (.int .i64 L') = D.cells L' := rfl
theorem heap_setCell_at {cur : Array Value} {t : TypeId} {fz : Nat × Nat} {b : Nat} (hb : w.heap[b]? = some (.cells cur t fz)) (j : Nat) (v : Value) : (w.setCell ⟨b, j, none⟩ v).heap[b]? = some (.cells (cur.setIfInBounds j v) t fz) := by
  obtain ⟨hlt, hk⟩ := Array.getElem?_eq_some_iff.1 hb
  show (w.heap.modify b _)[b]? = _
  rw [Array.getElem?_eq_getElem (by rw [Array.size_modify]; exact hlt), Array.getElem_modify_self, hk]
  simp

/-- a block of cells is turned: the parts that lie elsewhere -/
theorem IsG.maps (h : IsG Z w tb T ff ls L fa D) {b : Nat} (hb : ∃ cur t fz, w.heap[b]? = some (.cells cur t fz)) (hg : ∀ i, i < w.heap.size → i ≠ b → w'.heap[i]? = w.heap[i]?) :
    MapAt rv rok w' D.bf ff ∧ MapAt rv rok w' D.bb D.mb ∧ ∀ p, p < 3 → MapAt uv is32 w' (D.ba p) (fa p) := by
  obtain ⟨cur, t, fz, hb⟩ := hb
  have hm : ∀ {κ : Type} {enc : κ → Value} {ok : κ → Prop} {m : Nat} {f : κ → Option Value}, MapAt enc ok w m f → MapAt enc ok w' m f := by
    intro κ enc ok m f hm
    obtain ⟨es, c, hb'⟩ := hm.heap
    exact hm.stay (hg _ (Array.getElem?_eq_some_iff.1 hb').1 (fun e => by subst e; rw [hb] at hb'; injection hb' with hb'; cases hb'))
  exact ⟨hm h.find, hm h.by_, fun p hp => hm (h.at_ p hp)⟩

theorem IsG.setLive (h : IsG Z w tb T ff ls L fa D) (L' : Int) : IsG Z (w.setCell ⟨tb, 7, none⟩ (.int .i64 L')) tb T ff ls L' fa D := by
  have hg : ∀ i, i ≠ tb → (w.setCell ⟨tb, 7, none⟩ (.int .i64 L')).heap[i]? = w.heap[i]? := fun i hi => Below.heap_setCell w _ _ i hi
  obtain ⟨h1, h2, h3⟩ := h.maps (w' := w.setCell ⟨tb, 7, none⟩ (.int .i64 L')) ⟨_, _, _, h.obj⟩ (fun i _ hi => hg i hi)
  have hty : ∀ {e : TypeId} {i : Nat} {cur : Array Value} {fz : Nat × Nat}, e ≠ 82 → w.heap[i]? = some (.cells cur e fz) → i ≠ tb := fun he hi e1 => by
    subst e1; rw [h.obj] at hi; injection hi with hi; injection hi with _ hi; exact he hi.symm
  exact { h with
    obj := by rw [heap_setCell_at h.obj]; rfl
    rows := h.rows.stayB (fun g hv => by obtain ⟨_, cur, fz, h1⟩ := h.rows.lt g hv; exact hg _ (hty (by decide) h1))
    bits := h.bits.stayB (fun g hv => by obtain ⟨_, cur, fz, h1⟩ := h.bits.lt g hv; exact hg _ (hty (by decide) h1))
    byOk := h.byOk.stayB (fun g cur fz hi => hg _ (hty (by decide) hi))
    find := h1
    by_ := h2
    at_ := h3 }

theorem bcs_set (T : TS) (n : Nat) (b : Int) : bcs (setB T n b) = (bcs T).set n (.int .u8 b) := by
  apply List.ext_getElem (by simp [bcs, setB])
  intro i h1 h2
  simp only [bcs, List.getElem_map, List.getElem_set, setB_get]
  by_cases hi : i = n
  · subst hi; simp
  · simp [hi, Ne.symm hi]
theorem yok_set {T : TS} (h : ∀ y ∈ T, yok y) (n : Nat) {b : Int} (hb : is8 b) : ∀ y ∈ setB T n b, yok y := by
  intro y hy
  obtain ⟨i, hi, rfl⟩ := List.getElem_of_mem hy
  have hi' : i < T.length := by simpa [setB] using hi
  rw [setB_get]
  split
  · obtain ⟨h1, h2, h3, h4, _⟩ := h _ (List.getElem_mem hi'); exact ⟨h1, h2, h3, h4, hb⟩
  · exact h _ (List.getElem_mem hi')

theorem IsG.congrS (h : IsG Z w tb T ff ls L fa D) {ff' : R3 → Option Value} {ls' : R3 → List Nat} (h1 : ∀ r, rok r → ff' r = ff r) (h2 : ∀ x, rok x → ls' x = ls x) : IsG Z w tb T ff' ls' L fa D :=
  { h with
    find := h.find.congr h1
    byOk := ⟨h.byOk.look, fun x hx hl hn => by rw [h2 x hx]; exact h.byOk.non x hx hl hn, fun x v hx hv => by rw [h2 x hx]; exact h.byOk.has x v hx hv, h.byOk.apart⟩ }

/-- the bits of a row are set -/
theorem IsG.setBit (h : IsG Z w tb T ff ls L fa D) (n : Nat) (hn : n < T.length) {g cap : Nat} (hv : D.vb = .slice (some ⟨g, 0, none⟩) T.length cap) (b : Int) (hb : is8 b) :
    IsG Z (w.setCell ⟨g, n, none⟩ (.int .u8 b)) tb (setB T n b) ff ls L fa D := by
  obtain ⟨_, cur0, fz0, hgb⟩ := h.bits.lt g (by rw [hv]; rfl)
  have hg : ∀ i, i ≠ g → (w.setCell ⟨g, n, none⟩ (.int .u8 b)).heap[i]? = w.heap[i]? := fun i hi => Below.heap_setCell w _ _ i hi
  obtain ⟨h1, h2, h3⟩ := h.maps (w' := w.setCell ⟨g, n, none⟩ (.int .u8 b)) ⟨_, _, _, hgb⟩ (fun i _ hi => hg i hi)
  have hty : ∀ {e : TypeId} {i : Nat} {cur : Array Value} {fz : Nat × Nat}, e ≠ 56 → w.heap[i]? = some (.cells cur e fz) → i ≠ g := fun he hi e1 => by
    subst e1; rw [hgb] at hi; injection hi with hi; injection hi with _ hi; exact he hi.symm
  have hrw := setB_rows T n b
  refine { h with
    obj := (hg _ (hty (by decide) h.obj)).trans h.obj
    rows := by
      rw [setB_length, rcs_rows hrw]
      exact h.rows.stayB (fun g hv => by obtain ⟨_, cur, fz, h1⟩ := h.rows.lt g hv; exact hg _ (hty (by decide) h1))
    bits := ?_
    byOk := h.byOk.stayB (fun g cur fz hi => hg _ (hty (by decide) hi))
    find := h1
    by_ := h2
    at_ := h3
    oks := yok_set h.oks n hb
    nodup := by rw [hrw]; exact h.nodup
    long := by rw [setB_length]; exact h.long }
  rw [setB_length]
  have hbits := h.bits
  refine ⟨bcs_length _ |>.trans (by rw [setB_length]), ?_⟩
  rcases hbits.2 with ⟨e1, e2⟩ | ⟨g', cap', cur, e1, hgg, k1, k2, k3, k4, k5, k6⟩
  · omega
  · have : g' = g := by rw [hv] at e1; injection e1 with e1; injection e1 with e1; injection e1 with e1; exact e1.symm
    subst this
    refine .inr ⟨g', cap', _, e1, heap_setCell_at hgg n _, k1, k2, by simpa using k3, ?_, k5, k6⟩
    rw [Array.toList_setIfInBounds, List.take_set, k4, bcs_set]

end
end Go.Proofs.Ytghihhjcoilmgaa.T

namespace Go.Proofs.Ytghihhjcoilmgaa.T
set_option maxRecDepth 100000
open Go.RowKit Go.Maps
set_option linter.unusedVariables false

def cget : Option Value → Int
  | some (.int _ c) => c
  | _ => 0
def bump (f : Int → Option Value) (x d : Int) : Int → Option Value := upd f x (if cget (f x) + d = 0 then none else some (.int .i64 (cget (f x) + d)))

theorem index0 (w : World) (a b c : Int) : (Instr.index 37 (.agg #[.int .u32 a, .int .u32 b, .int .u32 c]) (.int .i64 0)).run Try.prog w = .ok (.int .u32 a) w := by rfl
theorem index1 (w : World) (a b c : Int) : (Instr.index 37 (.agg #[.int .u32 a, .int .u32 b, .int .u32 c]) (.int .i64 1)).run Try.prog w = .ok (.int .u32 b) w := by rfl
theorem index2 (w : World) (a b c : Int) : (Instr.index 37 (.agg #[.int .u32 a, .int .u32 b, .int .u32 c]) (.int .i64 2)).run Try.prog w = .ok (.int .u32 c) w := by rfl

section
variable {Z : Zone} {w : World} {tb : Nat} {T : TS} {ff : R3 → Option Value} {ls : R3 → List Nat} {L : Int} {fa : Nat → Int → Option Value} {D : TabD}

theorem R3.at_ok {r : R3} (h : rok r) (p : Nat) : is32 (R3.at r p) := by
  obtain ⟨h1, h2, h3⟩ := h
  unfold R3.at
  split
  · exact h1
  · split
    · exact h2
    · exact h3

def bumpTo (fa : Nat → Int → Option Value) (r : R3) (d : Int) (k : Nat) : Nat → Int → Option Value := fun p => if p < k then bump (fa p) (R3.at r p) d else fa p

set_option maxRecDepth 100000 in
set_option maxHeartbeats 2000000 in
theorem count_any (h : IsG Z w tb T ff ls L fa D) (n : Nat) (hn : n < T.length) (d : Int) (hd : d = 1 ∨ d = -1) (hL : 0 ≤ L ∧ L ≤ 1000000)
    (hfa : ∀ p, p < 3 → ∃ c : Int, fa p (R3.at T[n].1 p) = (if c = 0 then none else some (.int .i64 c)) ∧ 0 ≤ c ∧ c ≤ 1000000) :
    Calls Try.prog 47 #[.pointer (some ⟨tb, 0, none⟩), .int .i64 n, .int .i64 d] w fun e w' =>
      e = .returned (.tuple #[]) ∧ IsG Z w' tb T ff ls (L + d) (bumpTo fa T[n].1 d 3) D ∧ Fr Z w w' := by
  have c7 := h.c7
  have f7 := h.frozen 7
  have hG := Lib.hid (h.setLive (L + d))
  have hF := Lib.hid ((Fr.refl Z w).setCell (a := ⟨tb, 7, none⟩) (v := .int .i64 (L + d)) (h.own 7))
  obtain ⟨r, hr⟩ : ∃ r, T[n].1 = r := ⟨_, rfl⟩
  have hrok : rok r := by rw [← hr]; exact (h.oks _ (List.getElem_mem hn)).1
  rw [hr] at hfa ⊢
  obtain ⟨gr, capr, hvr, hgr, r0, r1, r2⟩ := h.row n hn
  rw [hr] at r0 r1 r2
  have c0 := h.c0
  rw [hvr] at c0
  have hne : gr ≠ tb := fun e => by
    obtain ⟨_, cur, fz, h1⟩ := h.rows.lt gr (by rw [hvr]; rfl)
    subst e; rw [h.obj] at h1; injection h1 with h1; injection h1 with _ h1; revert h1; decide
  have r0' := (World.cell?_setCell_far w ⟨tb, 7, none⟩ ⟨gr, n * 3, none⟩ (.int .i64 (L + d)) (Ne.symm hne)).trans r0
  have r1' := (World.cell?_setCell_far w ⟨tb, 7, none⟩ ⟨gr, n * 3 + 1, none⟩ (.int .i64 (L + d)) (Ne.symm hne)).trans r1
  have r2' := (World.cell?_setCell_far w ⟨tb, 7, none⟩ ⟨gr, n * 3 + 2, none⟩ (.int .i64 (L + d)) (Ne.symm hne)).trans r2
  have c0' : (w.setCell ⟨tb, 7, none⟩ (.int .i64 (L + d))).cell? ⟨tb, 0, none⟩ = some (.slice (some ⟨gr, 0, none⟩) T.length capr) := (hvr ▸ hG.out.c0)
  have hl := h.long
  obtain ⟨l, hll⟩ : ∃ l, T.length = l := ⟨_, rfl⟩
  have hn' : n < l := by omega
  have hl' : l ≤ 1000000 := by omega
  rw [hll] at c0 c0'
  have Hfa := Lib.hid hfa; have Hrok := Lib.hid hrok
  clear hfa hrok hvr hgr h hr hne hl hll hn
  obtain ⟨x0, x1, x2⟩ := r
  go_enter Try.func47, Try.ntmps47
  have hw : wrap64 (L + d) = L + d := by unfold wrap64; omega
  go_wp2
  go_loopw [23] (fun i wr => ∃ k : Nat, k ≤ 3 ∧ i = .int .i64 k ∧ IsG Z wr tb T ff ls (L + d) (bumpTo fa (x0, x1, x2) d k) D ∧ Fr Z w wr) (fun i _ => 3 - (intOf i).toNat)
  case atStart => exact ⟨0, by omega, rfl, hG.out.congr (fun p _ x _ => by simp [bumpTo]), hF.out⟩
  case round =>
    obtain ⟨k, hk, rfl, hGk, hFk⟩ := hrel
    have HG := Lib.hid hGk; have HF := Lib.hid hFk
    clear hG hF hGk hFk c0 c0' c7 f7 r0 r1 r2 r0' r1' r2' hn' hl' hw
    by_cases hk3 : k < 3
    · obtain ⟨x, hx⟩ : ∃ x, R3.at (x0, x1, x2) k = x := ⟨_, rfl⟩
      have hxo : is32 x := hx ▸ R3.at_ok Hrok.out k
      obtain ⟨c, hc, hc0, hc1⟩ := Hfa.out k hk3
      rw [hx] at hc
      obtain ⟨e, he⟩ : ∃ e, c + d = e := ⟨_, rfl⟩
      have hwe : wrap64 (c + d) = e := by unfold wrap64; omega
      have hcg : cget (fa k x) = c := by rw [hc]; by_cases h0 : c = 0 <;> simp [h0, cget]
      have hat : MapAt uv is32 wr (D.ba k) (fa k) := by
        have := HG.out.at_ k hk3
        simpa [bumpTo] using this
      have hca := HG.out.ca k hk3
      have hlook : (Instr.lookup 79 (.map (some (D.ba k))) (uv x) false).run Try.prog wr = .ok (.int .i64 c) wr := by
        have := hat.look kysU Try.underlying79 (Try.zeroInt _) false hxo
        rw [this, hc]
        by_cases h0 : c = 0 <;> simp [h0]
      have step : ∀ w1, MapAt uv is32 w1 (D.ba k) (upd (fa k) x (some (.int .i64 e))) → wr.mapTurned w1 (D.ba k) →
          IsG Z w1 tb T ff ls (L + d) (fun q => if q = k then upd (fa k) x (some (.int .i64 e)) else bumpTo fa (x0, x1, x2) d k q) D ∧ Fr Z w w1 ∧ (Instr.lookup 79 (.map (some (D.ba k))) (uv x) false).run Try.prog w1 = .ok (.int .i64 e) w1 := by
        intro w1 hm1 ht1
        refine ⟨HG.out.turnA hk3 ht1 hm1, HF.out.trans (Fr.turned ht1 ⟨0, (HG.out.atW k hk3).1 0⟩ (HG.out.atW k hk3).2), ?_⟩
        have := hm1.look kysU Try.underlying79 (Try.zeroInt _) false hxo
        rw [this, upd_same]; rfl
      have Step := Lib.hid step
      have Hat := Lib.hid hat
      clear hat step
      simp only [uv] at hlook
      have hcong1 : ∀ g : Int → Option Value, (∀ y, g y = bump (fa k) x d y) → ∀ p, p < 3 → ∀ y, is32 y → bumpTo fa (x0, x1, x2) d (k + 1) p y = (fun q => if q = k then g else bumpTo fa (x0, x1, x2) d k q) p y := by
        intro g hg p hp y hy
        by_cases hpk : p = k
        · subst hpk
          simp only [bumpTo, if_pos (Nat.lt_succ_self _), hx, if_true, hg]
        · have : p < k + 1 ↔ p < k := by omega
          simp only [bumpTo, this, if_neg hpk]
      have hbump : ∀ y, bump (fa k) x d y = upd (fa k) x (if e = 0 then none else some (.int .i64 e)) y := by
        intro y; rw [bump, hcg, he]
      have Hc1 := Lib.hid hcong1; have Hb := Lib.hid hbump
      clear hcong1 hbump hc hcg
      by_cases hz : e = 0
      · subst hz
        have hk' : k = 0 ∨ k = 1 ∨ k = 2 := by omega
        have i0 := fun w => index0 w x0 x1 x2
        have i1 := fun w => index1 w x0 x1 x2
        have i2 := fun w => index2 w x0 x1 x2
        rcases hk' with rfl | rfl | rfl
        all_goals
          first | (have hx' : x0 = x := hx; clear hx; subst hx') | (have hx' : x1 = x := hx; clear hx; subst hx') | (have hx' : x2 = x := hx; clear hx; subst hx')
          go_wp2_with (first | (at_mapUpdate; refine wpList_mapUpdate_raw _ rfl _ _ _ 79 rfl 31 3 kysU Try.underlying79 _ _ rfl Hat.out _ hxo _ rfl rfl ?_; intro w1 hm1 ht1; obtain ⟨s1, s2, s3⟩ := Step.out w1 hm1 ht1; have S2 := Lib.hid s2; have ca1 := s1.ca _ hk3; simp only [uv] at s3; have Hm1 := Lib.hid hm1; have Ht1 := Lib.hid ht1; clear s1 s2 hm1 ht1) | (at_delete; refine wpList_delete_raw _ rfl _ _ 79 31 rfl 3 kysU Try.underlying79 _ _ rfl Hm1.out _ hxo rfl ?_; intro w2 hm2 ht2; have Hm2 := Lib.hid hm2; have Ht2 := Lib.hid (Ht1.out.trans ht2); have S3 := Lib.hid (HF.out.trans (Fr.turned (Ht1.out.trans ht2) ⟨0, (HG.out.atW _ hk3).1 0⟩ (HG.out.atW _ hk3).2)); clear hm2 ht2))
          go_roundw
          case rel =>
            refine ⟨_, hk3, rfl, (HG.out.turnA hk3 Ht2.out Hm2.out).congr (Hc1.out _ (fun y => ?_)), S3.out⟩
            rw [Hb.out, if_pos rfl]
            simp only [upd]
            split <;> rfl
          case measure => simp [intOf]
      · have hz' : (e == 0) = false := by simpa using hz
        have hk' : k = 0 ∨ k = 1 ∨ k = 2 := by omega
        have i0 := fun w => index0 w x0 x1 x2
        have i1 := fun w => index1 w x0 x1 x2
        have i2 := fun w => index2 w x0 x1 x2
        rcases hk' with rfl | rfl | rfl
        all_goals
          first | (have hx' : x0 = x := hx; clear hx; subst hx') | (have hx' : x1 = x := hx; clear hx; subst hx') | (have hx' : x2 = x := hx; clear hx; subst hx')
          go_wp2_with (first | (at_mapUpdate; refine wpList_mapUpdate_raw _ rfl _ _ _ 79 rfl 31 3 kysU Try.underlying79 _ _ rfl Hat.out _ hxo _ rfl rfl ?_; intro w1 hm1 ht1; obtain ⟨s1, s2, s3⟩ := Step.out w1 hm1 ht1; have S2 := Lib.hid s2; have ca1 := s1.ca _ hk3; simp only [uv] at s3; have Hm1 := Lib.hid hm1; have Ht1 := Lib.hid ht1; clear s1 s2 hm1 ht1))
          go_roundw
          case rel =>
            refine ⟨_, hk3, rfl, (HG.out.turnA hk3 Ht1.out Hm1.out).congr (Hc1.out _ (fun y => ?_)), S2.out⟩
            rw [Hb.out, if_neg hz]
            rfl
          case measure => simp [intOf]
    · have : k = 3 := by omega
      subst this
      go_wp2
      go_end0
      exact ⟨rfl, HG.out, HF.out⟩

/-- what change leaves of the counts -/
theorem bump_cnt {T : TS} {n : Nat} (hn : n < T.length) (b : Int) (hl : T.length ≤ 1000000) (d : Int) (hd : (if b ≠ 0 then (1 : Int) else 0) - (if T[n].2 ≠ 0 then 1 else 0) = d) (p : Nat) (x : Int) :
    bump (cntF T p) (R3.at T[n].1 p) d x = cntF (setB T n b) p x := by
  have hs := cnt_set T n hn b p
  have hcg : ∀ y, cget (cntF T p y) = cnt T p y := fun y => by
    unfold cntF; by_cases h : cnt T p y = 0 <;> simp [h, cget]
  rw [bump, hcg]
  by_cases hx : x = R3.at T[n].1 p
  · subst hx
    rw [upd_same]
    have := hs (R3.at T[n].1 p)
    rw [if_pos rfl, hd] at this
    unfold cntF
    by_cases h0 : cnt (setB T n b) p (R3.at T[n].1 p) = 0
    · rw [if_pos (by omega), if_pos h0]
    · rw [if_neg (by omega), if_neg h0, this]
  · rw [upd_ne _ _ hx]
    have := hs x
    rw [if_neg (Ne.symm hx)] at this
    have e : cnt (setB T n b) p x = cnt T p x := by omega
    simp only [cntF, e]
theorem cntF_form (T : TS) (p : Nat) (x : Int) (hl : T.length ≤ 1000000) : ∃ c : Int, cntF T p x = (if c = 0 then none else some (.int .i64 c)) ∧ 0 ≤ c ∧ c ≤ 1000000 := by
  refine ⟨cnt T p x, ?_, by omega, ?_⟩
  · unfold cntF; by_cases h : cnt T p x = 0 <;> simp [h]
  · have := cnt_le T p x; omega

set_option maxRecDepth 100000 in
set_option maxHeartbeats 2000000 in
theorem change_any (h : IsT Z w tb T D) (n : Nat) (hn : n < T.length) (b : Int) (hb : is8 b) :
    Calls Try.prog 37 #[.pointer (some ⟨tb, 0, none⟩), .int .i64 n, .int .u8 b] w fun e w' =>
      e = .returned (.bool (T[n].2 == 0)) ∧ IsT Z w' tb (setB T n b) D ∧ Fr Z w w' := by
  obtain ⟨gb, capb, hvb, hgb, b0, f0, hWb⟩ := h.bit n hn
  have c1 := h.c1
  rw [hvb] at c1
  have hl := h.long
  have hG := Lib.hid (h.setBit n hn hvb b hb)
  have hF := Lib.hid ((Fr.refl Z w).setCell (a := ⟨gb, n, none⟩) (v := .int .u8 b) hWb)
  obtain ⟨v, hv⟩ : ∃ v, T[n].2 = v := ⟨_, rfl⟩
  have hset : (setB T n b)[n]'(by rw [setB_length]; exact hn) = (T[n].1, b) := by rw [setB_get, if_pos rfl]
  have hlv := live_set T n hn b
  have hll := live_le T
  have hll' := live_le (setB T n b)
  rw [setB_length] at hll'
  have hrowsF : ∀ r, rok r → idxF (setB T n b) r = idxF T r := fun r _ => by rw [idxF, idxF, idx_rows (setB_rows T n b)]
  have hrowsL : ∀ x, rok x → lst (setB T n b) x = lst T x := fun x _ => lst_rows (setB_rows T n b) x
  have hcount : ∀ d : Int, (d = 1 ∨ d = -1) → (if b ≠ 0 then (1 : Int) else 0) - (if v ≠ 0 then 1 else 0) = d →
      Calls Try.prog 47 #[.pointer (some ⟨tb, 0, none⟩), .int .i64 n, .int .i64 d] (w.setCell ⟨gb, n, none⟩ (.int .u8 b)) fun e w' =>
        e = .returned (.tuple #[]) ∧ IsT Z w' tb (setB T n b) D ∧ Fr Z w w' := by
    intro d hd he
    have := count_any hG.out n (by rw [setB_length]; exact hn) d hd (by omega) (fun p hp => cntF_form T p _ hl)
    refine this.mono ?_
    rintro e w' ⟨h1, h2, h3⟩
    refine ⟨h1, ?_, hF.out.trans h3⟩
    rw [hv, he] at hlv
    rw [← hlv] at h2
    refine (h2.congrS hrowsF hrowsL).congr (fun p hp x _ => ?_)
    simp only [bumpTo, if_pos hp, hset]
    exact (bump_cnt hn b hl d (by rw [hv]; exact he) p x).symm
  have hsame : (if b ≠ 0 then (1 : Int) else 0) - (if v ≠ 0 then 1 else 0) = 0 → IsT Z (w.setCell ⟨gb, n, none⟩ (.int .u8 b)) tb (setB T n b) D := by
    intro he
    rw [hv, he, Int.add_zero] at hlv
    have h2 := hG.out
    rw [← hlv] at h2
    refine (h2.congrS hrowsF hrowsL).congr (fun p hp x _ => ?_)
    have hs := cnt_set T n hn b p x
    rw [hv, he] at hs
    have e : cnt (setB T n b) p x = cnt T p x := by split at hs <;> omega
    simp only [cntF, e]
  rw [hv] at b0 ⊢
  have Hc := Lib.hid hcount; have Hs := Lib.hid hsame
  clear hcount hsame hlv hll hll' hset hv hG h
  by_cases hv0 : v = 0
  · subst hv0
    by_cases hb0 : b = 0
    · subst hb0
      have hS := Lib.hid (Hs.out (by simp))
      go_enter Try.func37, Try.ntmps37
      go_wp2
      go_ret
      exact ⟨rfl, hS.out, hF.out⟩
    · have hC := Lib.hid (Hc.out 1 (.inl rfl) (by simp [hb0]))
      have hb1 : (b != 0) = true := by simpa using hb0
      have hb2 : (b == 0) = false := by simpa using hb0
      go_enter Try.func37, Try.ntmps37
      go_wp2_with (go_at_call 47; refine hC.out.mono ?_; rintro e w1 ⟨rfl, s1, s2⟩; have S1 := Lib.hid s1; have S2 := Lib.hid s2; clear s1 s2)
      go_ret
      exact ⟨rfl, S1.out, S2.out⟩
  · have hv1 : (v != 0) = true := by simpa using hv0
    have hv2 : (v == 0) = false := by simpa using hv0
    by_cases hb0 : b = 0
    · subst hb0
      have hC := Lib.hid (Hc.out (-1) (.inr rfl) (by simp [hv0]))
      go_enter Try.func37, Try.ntmps37
      go_wp2_with (go_at_call 47; refine hC.out.mono ?_; rintro e w1 ⟨rfl, s1, s2⟩; have S1 := Lib.hid s1; have S2 := Lib.hid s2; clear s1 s2)
      go_ret
      exact ⟨by rw [hv2]; rfl, S1.out, S2.out⟩
    · have hS := Lib.hid (Hs.out (by simp [hv0, hb0]))
      have hb1 : (b != 0) = true := by simpa using hb0
      have hb2 : (b == 0) = false := by simpa using hb0
      go_enter Try.func37, Try.ntmps37
      go_wp2
      go_ret
      exact ⟨by rw [hv2]; rfl, hS.out, hF.out⟩
end
end Go.Proofs.Ytghihhjcoilmgaa.T

namespace Go.Proofs.Ytghihhjcoilmgaa.T
set_option maxRecDepth 100000
open Go.RowKit Go.Maps
set_option linter.unusedVariables false

theorem is8_or (v b : Int) : is8 (bits .or .u8 v b) := by
  unfold bits is8
  simp only [IntKind.wrap, IntKind.bits, IntKind.signed]
  simp
  omega
theorem is8_andNot (v b : Int) : is8 (bits .andNot .u8 v b) := by
  unfold bits is8
  simp only [IntKind.wrap, IntKind.bits, IntKind.signed]
  simp
  omega

section
variable {Z : Zone} {w : World} {tb : Nat} {T : TS} {D : TabD}

set_option maxRecDepth 100000 in
set_option maxHeartbeats 2000000 in
theorem clear_yes (h : IsT Z w tb T D) (n : Nat) (hn : n < T.length) (b : Int) (hb : is8 b) :
    Calls Try.prog 39 #[.pointer (some ⟨tb, 0, none⟩), .int .i64 n, .int .u8 b] w fun e w' =>
      e = .returned (.tuple #[]) ∧ IsT Z w' tb (setB T n (bits .andNot .u8 T[n].2 b)) D ∧ Fr Z w w' := by
  obtain ⟨gb, capb, hvb, hgb, b0, f0, hWb⟩ := h.bit n hn
  have c1 := h.c1
  rw [hvb] at c1
  have hl := h.long
  have hch := Lib.hid (change_any h n hn (bits .andNot .u8 T[n].2 b) (is8_andNot _ _))
  obtain ⟨v, hv⟩ : ∃ v, T[n].2 = v := ⟨_, rfl⟩
  rw [hv] at b0 hch ⊢
  have hin := Lib.hid (in_yes h n hn)
  obtain ⟨l, hll⟩ : ∃ l, T.length = l := ⟨_, rfl⟩
  have hn' : n < l := by omega
  have hl' : l ≤ 1000000 := by omega
  rw [hll] at c1
  clear h
  go_enter Try.func39, Try.ntmps39
  go_wp2_with (first | (go_at_call 40; refine hin.out.mono ?_; rintro e w1 ⟨rfl, rfl⟩) | (go_at_call 37; refine hch.out.mono ?_; rintro e w2 ⟨rfl, s1, s2⟩; have S1 := Lib.hid s1; have S2 := Lib.hid s2; clear s1 s2))
  go_end0
  exact ⟨rfl, S1.out, S2.out⟩

set_option maxHeartbeats 2000000 in
theorem clear_no (h : IsT Z w tb T D) (n : Int) (hn : n < 0 ∨ T.length ≤ n) (b : Int) :
    Calls Try.prog 39 #[.pointer (some ⟨tb, 0, none⟩), .int .i64 n, .int .u8 b] w fun e w' =>
      e = .returned (.tuple #[]) ∧ w = w' := by
  have hin := Lib.hid (in_no h n hn)
  clear h hn
  go_enter Try.func39, Try.ntmps39
  go_wp2_with (go_at_call 40; refine hin.out.mono ?_; rintro e w1 ⟨rfl, rfl⟩)
  go_end0
  exact ⟨rfl, rfl⟩

end
end Go.Proofs.Ytghihhjcoilmgaa.T

namespace Go.Proofs.Ytghihhjcoilmgaa.T
set_option maxRecDepth 100000
open Go.RowKit Go.Maps
set_option linter.unusedVariables false

def has3 (a b c v : Int) : Bool := v == a || v == b || v == c
section
set_option maxRecDepth 100000 in
set_option maxHeartbeats 2000000 in
theorem index3 (w : World) (g : Nat) (a b c v : Int) (h0 : w.cell? ⟨g, 0, none⟩ = some (.int .u32 a)) (h1 : w.cell? ⟨g, 1, none⟩ = some (.int .u32 b)) (h2 : w.cell? ⟨g, 2, none⟩ = some (.int .u32 c)) :
    Calls Try.prog 45 #[.slice (some ⟨g, 0, none⟩) 3 3, .int .u32 v] w fun e w' => (∃ n : Int, e = .returned (.int .i64 n) ∧ decide (0 ≤ n) = has3 a b c v) ∧ w = w' := by
  go_enter Try.func45, Try.ntmps45
  go_wp2
  go_loopw [8] (fun i wr => ∃ k : Nat, k ≤ 3 ∧ i = .int .i64 k ∧ (0 < k → (v == a) = false) ∧ (1 < k → (v == b) = false) ∧ (2 < k → (v == c) = false) ∧ wr = w) (fun i _ => 3 - (intOf i).toNat)
  case atStart => exact ⟨0, by omega, rfl, by omega, by omega, by omega, rfl⟩
  case round =>
    obtain ⟨k, hk, rfl, e0, e1, e2, rfl⟩ := hrel
    have hk' : k = 0 ∨ k = 1 ∨ k = 2 ∨ k = 3 := by omega
    rcases hk' with rfl | rfl | rfl | rfl
    · clear e0 e1 e2
      by_cases hv : (v == a) = true
      · go_wp2
        go_ret
        exact ⟨⟨0, rfl, by simp [has3, hv]⟩, rfl⟩
      · have hv' : (v == a) = false := by simpa using hv
        clear hv
        go_wp2
        go_roundw
        case rel => exact ⟨1, by omega, rfl, fun _ => hv', by omega, by omega, trivial⟩
        case measure => simp [intOf]
    · have e0 := e0 (by omega)
      clear e1 e2
      by_cases hv : (v == b) = true
      · go_wp2
        go_ret
        exact ⟨⟨1, rfl, by simp [has3, hv]⟩, rfl⟩
      · have hv' : (v == b) = false := by simpa using hv
        clear hv
        go_wp2
        go_roundw
        case rel => exact ⟨2, by omega, rfl, fun _ => e0, fun _ => hv', by omega, trivial⟩
        case measure => simp [intOf]
    · have e0 := e0 (by omega)
      have e1 := e1 (by omega)
      clear e2
      by_cases hv : (v == c) = true
      · go_wp2
        go_ret
        exact ⟨⟨2, rfl, by simp [has3, hv]⟩, rfl⟩
      · have hv' : (v == c) = false := by simpa using hv
        clear hv
        go_wp2
        go_roundw
        case rel => exact ⟨3, by omega, rfl, fun _ => e0, fun _ => e1, fun _ => hv', trivial⟩
        case measure => simp [intOf]
    · have e0 := e0 (by omega)
      have e1 := e1 (by omega)
      have e2 := e2 (by omega)
      go_wp2
      go_ret
      exact ⟨⟨-1, rfl, by simp [has3, e0, e1, e2]⟩, rfl⟩

set_option maxHeartbeats 400000 in
theorem contains3 (w : World) (g : Nat) (a b c v : Int) (h0 : w.cell? ⟨g, 0, none⟩ = some (.int .u32 a)) (h1 : w.cell? ⟨g, 1, none⟩ = some (.int .u32 b)) (h2 : w.cell? ⟨g, 2, none⟩ = some (.int .u32 c)) :
    Calls Try.prog 35 #[.slice (some ⟨g, 0, none⟩) 3 3, .int .u32 v] w fun e w' => e = .returned (.bool (has3 a b c v)) ∧ w = w' := by
  have hi := Lib.hid (index3 w g a b c v h0 h1 h2)
  clear h0 h1 h2
  go_enter Try.func35, Try.ntmps35
  go_wp2_with (go_at_call 45; refine hi.out.mono ?_; rintro e w1 ⟨⟨n, rfl, hn⟩, rfl⟩; have Hn := Lib.hid hn; clear hn)
  go_ret
  exact ⟨congrArg (fun b => Ending.returned (.bool b)) Hn.out, rfl⟩
end
end Go.Proofs.Ytghihhjcoilmgaa.T
