/- The reference's table: a list of rows and their bits. -/
import Derived.Test.YtghihhjcoilmgaaK14
import Derived.ChangeKeysEq
namespace Go.Proofs.Ytghihhjcoilmgaa.T
set_option maxRecDepth 100000
open Go.RowKit Go.Maps
set_option linter.unusedVariables false
set_option linter.unusedSimpArgs false

structure IsR (Z : Zone) (w : World) (rb : Nat) (T : TS) (vr vb : Value) : Prop where
  obj : w.heap[rb]? = some (.cells #[vr, vb] 53 (0, 0))
  own : ∀ j, Z.W rb j
  rows : Sl Z w 37 3 vr T.length (rcs T)
  rowsW : Whole Z vr
  bits : Sl Z w 56 1 vb T.length (bcs T)
  bitsW : Whole Z vb
  oks : ∀ y ∈ T, yok y
  long : T.length ≤ 1000000
  nil0 : T = [] → vr = .slice none 0 0 ∧ vb = .slice none 0 0

section
variable {Z V : Zone} {w w' : World} {rb : Nat} {T : TS} {vr vb : Value}
theorem IsR.lt (h : IsR Z w rb T vr vb) : rb < w.heap.size := (Array.getElem?_eq_some_iff.1 h.obj).1
theorem IsR.blocks (h : IsR Z w rb T vr vb) (hb : ∀ i, i < w.heap.size → w'.heap[i]? = w.heap[i]?) : IsR Z w' rb T vr vb :=
  { h with
    obj := (hb _ h.lt).trans h.obj
    rows := h.rows.stayB (fun g hg => hb g (h.rows.lt g hg).1)
    bits := h.bits.stayB (fun g hg => hb g (h.bits.lt g hg).1) }
theorem IsR.below (h : IsR Z w rb T vr vb) (hb : Below w.heap.size w w') : IsR Z w' rb T vr vb := h.blocks (fun i hi => hb.block i hi)
theorem IsR.stay (h : IsR Z w rb T vr vb) (hf : Fr V w w') (hd : ∀ i j, i < w.heap.size → Z.W i j → ¬ V.W i j) : IsR Z w' rb T vr vb :=
  { h with
    obj := (block_of hf h.obj (fun j => hd _ _ h.lt (h.own j))).trans h.obj
    rows := h.rows.stay hf (fun g j hg _ => hd g j (h.rows.lt g hg).1 (h.rowsW g hg j))
    bits := h.bits.stay hf (fun g j hg _ => hd g j (h.bits.lt g hg).1 (h.bitsW g hg j)) }
theorem IsR.cells (h : IsR Z w rb T vr vb) : w.cell? ⟨rb, 0, none⟩ = some vr ∧ w.cell? ⟨rb, 1, none⟩ = some vb ∧ ∀ j, w.frozen? ⟨rb, j, none⟩ = false := by
  unfold World.cell? World.frozen?
  simp only [h.obj]
  exact ⟨rfl, rfl, fun j => by simp⟩
theorem IsR.row (h : IsR Z w rb T vr vb) (n : Nat) (hn : n < T.length) : ∃ g cap, vr = .slice (some ⟨g, 0, none⟩) T.length cap ∧ g < w.heap.size ∧
    w.cell? ⟨g, n * 3, none⟩ = some (.int .u32 T[n].1.1) ∧ w.cell? ⟨g, n * 3 + 1, none⟩ = some (.int .u32 T[n].1.2.1) ∧ w.cell? ⟨g, n * 3 + 2, none⟩ = some (.int .u32 T[n].1.2.2) := by
  rcases h.rows.form with ⟨_, h0⟩ | ⟨g, cap, hv, _, _, hg⟩
  · omega
  · obtain ⟨h1, h2, h3⟩ := rcs_get T n hn
    exact ⟨g, cap, hv, hg, h.rows.cells (by rw [hv]; rfl) _ _ h1, h.rows.cells (by rw [hv]; rfl) _ _ h2, h.rows.cells (by rw [hv]; rfl) _ _ h3⟩
theorem IsR.bit (h : IsR Z w rb T vr vb) (n : Nat) (hn : n < T.length) : ∃ g cap, vb = .slice (some ⟨g, 0, none⟩) T.length cap ∧ g < w.heap.size ∧
    w.cell? ⟨g, n, none⟩ = some (.int .u8 T[n].2) ∧ w.frozen? ⟨g, n, none⟩ = false ∧ Z.W g n := by
  rcases h.bits.form with ⟨_, h0⟩ | ⟨g, cap, hv, _, _, hg⟩
  · omega
  · exact ⟨g, cap, hv, hg, h.bits.cells (by rw [hv]; rfl) _ _ (bcs_get T n hn), h.bits.frozen (by rw [hv]; rfl) _, h.bitsW g (by rw [hv]; rfl) n⟩

end
end Go.Proofs.Ytghihhjcoilmgaa.T

namespace Go.Proofs.Ytghihhjcoilmgaa.T
set_option maxRecDepth 100000
open Go.RowKit Go.Maps
set_option linter.unusedVariables false
set_option linter.unusedSimpArgs false

def findN (T : TS) (r : R3) : Int := match idx T r with | some n => n | none => -1
section
variable {Z : Zone} {w : World} {rb : Nat} {T : TS} {vr vb : Value}
set_option maxRecDepth 100000 in
set_option maxHeartbeats 2000000 in
theorem rfind_any (h : IsR Z w rb T vr vb) (r : R3) : Calls Try.prog 38 #[.pointer (some ⟨rb, 0, none⟩), rv r] w fun e w' =>
    e = .returned (.int .i64 (findN T r)) ∧ Below w.heap.size w w' := by
  obtain ⟨x0, x1, x2⟩ := r
  simp only [rv]
  have hh := Lib.hid h
  have hlong := h.long
  clear h
  obtain ⟨l, hl⟩ : ∃ l, T.length = l := ⟨_, rfl⟩
  rw [hl] at hlong
  go_enter Try.func38, Try.ntmps38
  go_wp2_with fail
  obtain ⟨a0, a1, a2⟩ := bx1 w x0 x1 x2
  have hBa : Below w.heap.size w (w.alloc (.cells #[.int .u32 x0, .int .u32 x1, .int .u32 x2] 37)) := (Below.refl _ w).alloc (Nat.le_refl _) _
  generalize w.alloc (.cells #[.int .u32 x0, .int .u32 x1, .int .u32 x2] 37) = Wa at *
  go_loopw [5] (fun u wr => ∃ k : Nat, k ≤ l ∧ u = .int .i64 k ∧ Below w.heap.size w wr ∧ Below Wa.heap.size Wa wr ∧ ∀ j (h : j < T.length), j < k → T[j].1 ≠ (x0, x1, x2)) (fun u _ => l - (intOf u).toNat)
  case atStart => exact ⟨0, by omega, rfl, hBa, Below.refl _ _, fun j h hj => by omega⟩
  case round =>
    obtain ⟨k, hk, rfl, hBr, hBw, hne⟩ := hrel
    have a0 := cell_later hBw a0
    have a1 := cell_later hBw a1
    have a2 := cell_later hBw a2
    have hI := hh.out.below hBr
    obtain ⟨c0, _, _⟩ := hI.cells
    have hvl := hI.rows.len (P := Try.prog) Try.underlying39 3
    rw [hl] at hvl
    have HBr := Lib.hid hBr; have HBw := Lib.hid hBw; have Hne := Lib.hid hne
    clear hBr hBw hne hBa
    by_cases hlt : k < l
    · have hd : decide ((k : Int) < (l : Int)) = true := by simpa using hlt
      obtain ⟨gr, capr, hvr, _, y0, y1, y2⟩ := hI.row k (by omega)
      obtain ⟨⟨z0, z1, z2⟩, hz⟩ : ∃ z, (T[k]'(by omega)).1 = z := ⟨_, rfl⟩
      rw [hz] at y0 y1 y2
      rw [hvr, hl] at c0
      clear hI hvr
      have he := eqRow z0 z1 z2 x0 x1 x2
      have Hz := Lib.hid hz; clear hz
      cases hq : (z0 == x0 && (z1 == x1 && z2 == x2))
      · rw [hq] at he
        have Hq := Lib.hid hq; clear hq
        go_wp2_with fail
        go_region
        go_wp2_with fail
        go_roundw
        case rel =>
          refine ⟨k + 1, by omega, by push_cast; rfl, HBr.out.drew, HBw.out.drew, fun j h hj => ?_⟩
          rcases Nat.lt_or_ge j k with hjk | hjk
          · exact Hne.out j h hjk
          · have : j = k := by omega
            subst this
            rw [Hz.out]
            intro e
            have hq := Hq.out
            simp only [Prod.mk.injEq] at e
            obtain ⟨rfl, rfl, rfl⟩ := e
            simp at hq
        case measure => simp [intOf]; omega
      · rw [hq] at he
        have Hq := Lib.hid hq; clear hq
        go_wp2_with fail
        go_region
        go_wp2_with fail
        go_ret
        refine ⟨congrArg (fun b => Ending.returned (.int .i64 b)) ?_, HBr.out.drew⟩
        have hq := Hq.out
        simp only [Bool.and_eq_true, beq_iff_eq] at hq
        obtain ⟨rfl, rfl, rfl⟩ := hq
        have hi : idx T (z0, z1, z2) = some k := by
          unfold idx
          rw [List.findIdx?_eq_some_iff_getElem]
          refine ⟨by omega, by rw [Hz.out]; simp, fun j hj => ?_⟩
          have := Hne.out j (by omega) hj
          simpa using this
        simp [findN, hi]
    · have hd : decide ((k : Int) < (l : Int)) = false := by simpa using hlt
      clear hI
      go_wp2_with fail
      go_ret
      refine ⟨congrArg (fun b => Ending.returned (.int .i64 b)) ?_, HBr.out⟩
      have hi : idx T (x0, x1, x2) = none := by
        unfold idx
        rw [List.findIdx?_eq_none_iff]
        intro y hy
        obtain ⟨j, hj, rfl⟩ := List.mem_iff_getElem.1 hy
        have := Hne.out j hj (by omega)
        simpa using this
      simp [findN, hi]
end
end Go.Proofs.Ytghihhjcoilmgaa.T

namespace Go.Proofs.Ytghihhjcoilmgaa.T
set_option maxRecDepth 100000
open Go.RowKit Go.Maps
set_option linter.unusedVariables false
set_option linter.unusedSimpArgs false

theorem own_below {w w' : World} {B e size n : Nat} {v : Value} {xs : List Value} (h : w.ownsRow B e size v n xs) (hb : Below w.heap.size w w') : w'.ownsRow B e size v n xs := by
  refine ⟨h.1, ?_⟩
  rcases h.2 with h' | ⟨g, cap, cur, rfl, hb1, hg, rest⟩
  · exact .inl h'
  · exact .inr ⟨g, cap, cur, rfl, hb1, (hb.block g (Array.getElem?_eq_some_iff.1 hg).1).trans hg, rest⟩
theorem own_mono {w : World} {B B' e size n : Nat} {v : Value} {xs : List Value} (h : w.ownsRow B e size v n xs) (hb : B' ≤ B) : w.ownsRow B' e size v n xs := by
  refine ⟨h.1, ?_⟩
  rcases h.2 with h' | ⟨g, cap, cur, rfl, hb1, rest⟩
  · exact .inl h'
  · exact .inr ⟨g, cap, cur, rfl, Nat.le_trans hb hb1, rest⟩
/-- one alone may come up, and its guard keeps it back -/
theorem WA.skip {P : Program} {md : Region.Mode} {ops : Array Oper} {Q : Exit → Act → World → Prop} {S : Array Bool → World → Prop} {i : Nat} {o : Oper} {fuel : Nat} {L : Array Bool} {a : Act} {w : World} (hr : Region.ready md ops L = [i]) (ho : ops[i]? = some o) (hw : Region.wanted o (yielded ops a.tmps) = false)
    (hS : S (L.setIfInBounds i true) w) (h : WA P md ops Q S fuel (L.setIfInBounds i true) (a.put o.dst undef) w) : WA P md ops Q S (fuel + 1) L a w :=
  WA.all hr (by simp) (fun j hj => by
    obtain rfl : j = i := by simpa using hj
    unfold wpOp
    simp only [ho]
    rw [if_neg (by rw [hw]; simp)]
    exact ⟨hS, h⟩)
theorem run_append_nils {P : Program} {t e : TypeId} {i : TypeInfo} (ty : TypeId) (w : World) (ht : P.underlying t = some (.slice e)) (hi : P.info? e = some i) :
    (Builtin.append_ #[t, t] ty #[.slice none 0 0, .slice none 0 0]).run P w = .ok (.slice none 0 0) w := by
  simp [Builtin.append_, run_underlying ht, run_sizeOf w hi, Builtin.lenOf, Builtin.firstCells, Result.andThen]
/-- a copy by append to a slice that is not there -/
theorem wp_copy_Sl {Z : Zone} {w : World} {P : Program} {e size n : Nat} {v : Value} {xs : List Value} {o : Oper} {a : Act} {K : Act → World → Prop} {Q : Exit → Act → World → Prop} (s x : Operand) (t : TypeId)
    (hop : o.op = .call { callee := .builtin .append, args := #[s, x], argTypes := #[t, t] }) (hs : a.eval s = .slice none 0 0) (hx : a.eval x = v) (h : Sl Z w e size v n xs) (hv0 : n = 0 → v = .slice none 0 0) (hZ : Z.opn w.heap.size)
    (i : TypeInfo) (z : Value) (bytes : Nat) (ht : P.underlying t = some (.slice e)) (hi : P.info? e = some i) (hz : i.zero = some z)
    (hsize : i.size = size) (hby : i.bytes = bytes) (hzs : z.cells.size = size) (hsz : 0 < size) (h1 : ∀ u ∈ xs, u.oneCell' = true)
    (h63 : n ≤ maxLen) (hbytes : n * bytes ≤ 140737488355328)
    (hK : ∀ v' w', Sl Z w' e size v' n xs → Below w.heap.size w w' → (∀ g, v'.ownBlock = some g → w.heap.size ≤ g) → K (a.put o.dst v') w') :
    o.wp P a w K Q := by
  by_cases hn : n = 0
  · subst hn
    have hv := hv0 rfl
    have hxs : xs = [] := List.eq_nil_of_length_eq_zero (by rw [h.1]; simp)
    subst hv; subst hxs
    unfold Oper.wp execOp
    simp only [hop, resolve, invoke, builtin, Sem.run_bind, Sem.run_pure, Result.andThen_ok, List.map_toArray, List.map_cons, List.map_nil, hs, hx, run_append_nils _ w ht hi]
    exact hK _ _ (Sl.nil _ _ _ _) (Below.refl _ _) (fun g hg => by simp [Value.ownBlock] at hg)
  · rcases h.form with ⟨_, h0⟩ | ⟨g, cap, hv, _⟩
    · exact absurd h0 hn
    · subst hv
      refine wp_append_Sl s x t hop hs (Sl.nil Z w e size) hZ i z bytes ht hi hz hsize hby hzs hsz ⟨g, 0, none⟩ n cap xs hx h.1 (fun j u hj => ?_) h1 (Nat.pos_of_ne_zero hn) (by omega) (by simpa using hbytes) ?_
      · have := h.cells (g := g) rfl j u hj
        rw [show (⟨g, 0, none⟩ : Addr).add j = ⟨g, j, none⟩ by unfold Addr.add; split <;> simp_all]
        exact this
      · intro v' w' k1 _ _ k4
        rcases k4 with ⟨_, g', hg'⟩ | ⟨k5, k6⟩
        · simp [Value.ownBlock] at hg'
        · rw [Nat.zero_add, List.nil_append] at k1
          exact hK v' w' k1 k6 (fun g hg => by rw [k5] at hg; injection hg with hg; omega)
theorem own_nil0 (w : World) (base e size : Nat) : w.ownsRow base e size (.slice none 0 0) 0 [] := World.ownsRow_nil _ _ _ _

section
variable {Z : Zone} {w : World} {rb : Nat} {T : TS} {vr vb : Value}
end
end Go.Proofs.Ytghihhjcoilmgaa.T
