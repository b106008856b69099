/- A row that comes: what the table is behind it. -/
import Derived.Test.YtghihhjcoilmgaaK8
namespace Go.Proofs.Ytghihhjcoilmgaa.T
set_option maxRecDepth 100000
open Go.RowKit Go.Maps
set_option linter.unusedVariables false
set_option linter.unusedSimpArgs false

theorem Try.infoRow : (Try.prog.info? 37).map (fun i => (i.zero, i.size, i.bytes)) = some (some (.agg #[.int .u32 0, .int .u32 0, .int .u32 0]), 3, 12) := by kernel_rfl
theorem Try.infoBits : (Try.prog.info? 56).map (fun i => (i.zero, i.size, i.bytes)) = some (some (.int .u8 0), 1, 1) := by kernel_rfl
theorem Try.infoInt : (Try.prog.info? 3).map (fun i => (i.zero, i.size, i.bytes)) = some (some (.int .i64 0), 1, 8) := by kernel_rfl

/-- the cells of a block that is known whole -/
theorem cells_blk {w : World} {H : Nat} {cs : List Value} {t : TypeId} {fz : Nat × Nat} (h : w.heap[H]? = some (.cells cs.toArray t fz)) : ∀ j u, cs[j]? = some u → w.cell? ((⟨H, 0, none⟩ : Addr).add j) = some u := by
  intro j u hj
  have e : (⟨H, 0, none⟩ : Addr).add j = ⟨H, j, none⟩ := by unfold Addr.add; split <;> simp_all
  rw [e]
  unfold World.cell?
  rw [h]
  simpa using hj

section
variable {Z : Zone} {w w' : World} {tb : Nat} {T : TS} {ff : R3 → Option Value} {ls : R3 → List Nat} {L : Int} {fa : Nat → Int → Option Value} {D : TabD}

theorem Sl.len {P : Program} {e size n : Nat} {v : Value} {xs : List Value} (h : Sl Z w e size v n xs) {t : TypeId} (ht : P.underlying t = some (.slice e)) (ty : TypeId) (w' : World) : (Builtin.len_ #[t] ty #[v]).run P w' = .ok (.int .i64 n) w' := by
  rcases h.form with ⟨rfl, rfl⟩ | ⟨g, cap, rfl, _⟩
  · simp [Builtin.len_, run_underlying ht, goInt, Result.andThen]
  · simp [Builtin.len_, run_underlying ht, goInt, Result.andThen]
theorem Sl.succ {e size n m : Nat} {v : Value} {xs : List Value} (h : Sl Z w e size v (n + m) xs) (hm : 0 < m) : ∃ g cap, v = .slice (some ⟨g, 0, none⟩) (n + m) cap := by
  rcases h.form with ⟨_, h0⟩ | ⟨g, cap, hv, _⟩
  · omega
  · exact ⟨g, cap, hv⟩
/-- append at an operation -/
theorem wp_append_Sl {P : Program} {e size n : Nat} {v : Value} {xs : List Value} {o : Oper} {a : Act} {K : Act → World → Prop} {Q : Exit → Act → World → Prop} (s x : Operand) (t : TypeId)
    (hop : o.op = .call { callee := .builtin .append, args := #[s, x], argTypes := #[t, t] }) (hs : a.eval s = v) (h : Sl Z w e size v n xs) (hZ : Z.opn w.heap.size)
    (i : TypeInfo) (z : Value) (bytes : Nat) (ht : P.underlying t = some (.slice e)) (hi : P.info? e = some i) (hz : i.zero = some z)
    (hsize : i.size = size) (hby : i.bytes = bytes) (hzs : z.cells.size = size) (hsz : 0 < size)
    (ad : Addr) (m c : Nat) (news : List Value) (hx : a.eval x = .slice (some ad) m c) (hl : news.length = m * size) (hnews : ∀ j u, news[j]? = some u → w.cell? (ad.add j) = some u) (h1 : ∀ u ∈ news, u.oneCell' = true)
    (hm : 0 < m) (h63 : n + m ≤ maxLen) (hbytes : (n + m) * bytes ≤ 140737488355328)
    (hK : ∀ v' w', Sl Z w' e size v' (n + m) (xs ++ news) → Fr Z w w' → w.grownBy w' v.ownBlock → ((v'.ownBlock = v.ownBlock ∧ ∃ g, v.ownBlock = some g) ∨ v'.ownBlock = some w.heap.size ∧ Below w.heap.size w w') → K (a.put o.dst v') w') :
    o.wp P a w K Q := by
  obtain ⟨v', w', hr, k1, k2, k3, k4⟩ := h.append hZ t o.type i z bytes ht hi hz hsize hby hzs hsz ad m c news hl hnews h1 hm h63 hbytes
  unfold Oper.wp execOp
  simp only [hop, resolve, invoke, builtin, Sem.run_bind, Sem.run_pure, Result.andThen_ok, List.map_toArray, List.map_cons, List.map_nil, hs, hx, hr]
  exact hK v' w' k1 k2 k3 k4
/-- find's map is turned -/
theorem IsG.turnF (h : IsG Z w tb T ff ls L fa D) (ht : w.mapTurned w' D.bf) {g : R3 → Option Value} (hm : MapAt rv rok w' D.bf g) : IsG Z w' tb T g ls L fa D := by
  obtain ⟨hb, hg⟩ := turned_heap ht
  obtain ⟨h1, h2, h3, h4⟩ := h.noMap hb hg
  exact { h with
    obj := h1
    rows := h2
    bits := h3
    byOk := h4
    find := hm
    by_ := h.by_.stay (hg _ (Ne.symm h.ne1))
    at_ := fun q hq => (h.at_ q hq).stay (hg _ (Ne.symm (h.ne2 q hq).1)) }

/-- rows and bits have grown -/
theorem IsG.pushed (h : IsG Z w tb T ff ls L fa D) (y : R3 × Int) (hy : yok y) (hn : ∀ z ∈ T, z.1 ≠ y.1) (hl : T.length + 1 ≤ 1000000) {vr vb : Value}
    (hr : Sl Z w' 37 3 vr (T.length + 1) (rcs T ++ [.int .u32 y.1.1, .int .u32 y.1.2.1, .int .u32 y.1.2.2])) (hrW : Whole Z vr)
    (hb : Sl Z w' 56 1 vb (T.length + 1) (bcs T ++ [.int .u8 y.2])) (hbW : Whole Z vb)
    (hobj : w'.heap[tb]? = some (.cells (TabD.cells { D with vr := vr, vb := vb } L) 82 (0, 0)))
    (hmap : ∀ (i : Nat) es c, w.heap[i]? = some (.map es c) → w'.heap[i]? = w.heap[i]?)
    (hlist : ∀ (g : Nat) cur fz, w.heap[g]? = some (.cells cur 3 fz) → w'.heap[g]? = w.heap[g]?) :
    IsG Z w' tb (T ++ [y]) ff ls L fa { D with vr := vr, vb := vb } := by
  have hm : ∀ {κ : Type} {enc : κ → Value} {ok : κ → Prop} {b : Nat} {f : κ → Option Value}, MapAt enc ok w b f → MapAt enc ok w' b f := by
    intro κ enc ok b f hm
    obtain ⟨es, c, hb⟩ := hm.heap
    exact hm.stay (hmap _ _ _ hb)
  refine { obj := hobj, own := h.own, rows := ?_, rowsW := hrW, bits := ?_, bitsW := hbW, find := hm h.find, by_ := hm h.by_, byOk := h.byOk.stayB hlist, at_ := fun p hp => hm (h.at_ p hp), findW := h.findW, byW := h.byW, atW := h.atW, ne1 := h.ne1, ne2 := h.ne2, ne3 := h.ne3, oks := ?_, nodup := ?_, long := ?_ }
  · obtain ⟨r, b⟩ := y
    rw [rcs_snoc, List.length_append, List.length_singleton]
    exact hr
  · obtain ⟨r, b⟩ := y
    rw [bcs_snoc, List.length_append, List.length_singleton]
    exact hb
  · intro z hz
    rcases List.mem_append.1 hz with hz | hz
    · exact h.oks z hz
    · obtain rfl : z = y := by simpa using hz
      exact hy
  · rw [List.map_append, List.map_singleton]
    refine List.nodup_append.2 ⟨h.nodup, by simp, ?_⟩
    intro a ha b hb e
    obtain ⟨z, hz, rfl⟩ := List.mem_map.1 ha
    obtain rfl : b = y.1 := by simpa using hb
    exact hn z hz e
  · rw [List.length_append, List.length_singleton]; exact hl

/-- one list has grown, in its own block or in a new one -/
theorem ByG.step {mb : R3 → Option Value} (h : ByG Z w ls mb) (x : R3) (hx : rok x) (hl : look2 x = true) (n : Nat) {v' : Value}
    (hv : Sl Z w' 3 1 v' ((ls x).length + 1) (ics (ls x) ++ [.int .i64 n]))
    (hoth : ∀ y v, rok y → y ≠ x → mb y = some v → ∀ g, v.ownBlock = some g → w'.heap[g]? = w.heap[g]?)
    (hap : ∀ y v, rok y → y ≠ x → mb y = some v → v.ownBlock ≠ v'.ownBlock) :
    ByG Z w' (fun y => if y = x then ls x ++ [n] else ls y) (upd mb x (some v')) := by
  refine ⟨?_, ?_, ?_, ?_⟩
  · intro y hy hn
    by_cases hyx : y = x
    · subst hyx; exact hl
    · rw [upd_ne _ _ hyx] at hn; exact h.look y hy hn
  · intro y hy hly hn
    by_cases hyx : y = x
    · subst hyx; rw [upd_same] at hn; cases hn
    · rw [upd_ne _ _ hyx] at hn; rw [if_neg hyx]; exact h.non y hy hly hn
  · intro y v hy hn
    by_cases hyx : y = x
    · subst hyx
      rw [upd_same] at hn
      injection hn with hn; subst hn
      rw [if_pos rfl]
      refine ⟨by simp, ?_⟩
      rw [ics_snoc, List.length_append, List.length_singleton]
      exact hv
    · rw [upd_ne _ _ hyx] at hn
      rw [if_neg hyx]
      obtain ⟨h1, h2⟩ := h.has y v hy hn
      exact ⟨h1, h2.stayB (fun g hg => hoth y v hy hyx hn g hg)⟩
  · intro y z v u hy hz hv1 hu1 hne
    by_cases hyx : y = x
    · subst hyx
      rw [upd_same] at hv1; injection hv1 with hv1; subst hv1
      rw [upd_ne _ _ (Ne.symm hne)] at hu1
      exact fun e => hap z u hz (Ne.symm hne) hu1 e.symm
    · rw [upd_ne _ _ hyx] at hv1
      by_cases hzx : z = x
      · subst hzx
        rw [upd_same] at hu1; injection hu1 with hu1; subst hu1
        exact hap y v hy hyx hv1
      · rw [upd_ne _ _ hzx] at hu1
        exact h.apart y z v u hy hz hv1 hu1 hne

/-- both slices have grown and are stored -/
theorem push_end (h : IsG Z w tb T ff ls L fa D) (y : R3 × Int) (hy : yok y) (hn : ∀ z ∈ T, z.1 ≠ y.1) (hl : T.length + 1 ≤ 1000000) {X X2 X3 : World} {vr vb : Value}
    (hX : Below w.heap.size w X) (hZ : Z.opn X.heap.size)
    (r1 : Sl Z X2 37 3 vr (T.length + 1) (rcs T ++ [.int .u32 y.1.1, .int .u32 y.1.2.1, .int .u32 y.1.2.2])) (r2 : Fr Z X X2) (r3 : X.grownBy X2 D.vr.ownBlock)
    (r4 : (vr.ownBlock = D.vr.ownBlock ∧ ∃ g, D.vr.ownBlock = some g) ∨ vr.ownBlock = some X.heap.size ∧ Below X.heap.size X X2)
    {Y2 : World} (hY : Below X2.heap.size X2 Y2)
    (b1 : Sl Z X3 56 1 vb (T.length + 1) (bcs T ++ [.int .u8 y.2])) (b2 : Fr Z Y2 X3) (b3 : Y2.grownBy X3 D.vb.ownBlock)
    (b4 : (vb.ownBlock = D.vb.ownBlock ∧ ∃ g, D.vb.ownBlock = some g) ∨ vb.ownBlock = some Y2.heap.size ∧ Below Y2.heap.size Y2 X3) :
    IsG Z ((X3.setCell ⟨tb, 0, none⟩ vr).setCell ⟨tb, 1, none⟩ vb) tb (T ++ [y]) ff ls L fa { D with vr := vr, vb := vb } ∧ Fr Z w ((X3.setCell ⟨tb, 0, none⟩ vr).setCell ⟨tb, 1, none⟩ vb) := by
  have hty : ∀ {e e' : TypeId} {i k : Nat} {c c' : Array Value} {z z' : Nat × Nat}, w.heap[i]? = some (.cells c e z) → w.heap[k]? = some (.cells c' e' z') → e ≠ e' → i ≠ k := by
    intro e e' i k c c' z z' h1 h2 he hik
    subst hik; rw [h1] at h2; injection h2 with h2; injection h2 with _ h2; exact he h2
  have hrl : ∀ g, D.vr.ownBlock = some g → g < w.heap.size ∧ ∃ c z, w.heap[g]? = some (.cells c 37 z) := fun g hg => h.rows.lt g hg
  have hbl : ∀ g, D.vb.ownBlock = some g → g < w.heap.size ∧ ∃ c z, w.heap[g]? = some (.cells c 56 z) := fun g hg => h.bits.lt g hg
  have hkeep : ∀ i, i < w.heap.size → some i ≠ D.vr.ownBlock → some i ≠ D.vb.ownBlock → X3.heap[i]? = w.heap[i]? := by
    intro i hi h1 h2
    have e1 := hX.block i hi
    have hiX : i < X.heap.size := Nat.lt_of_lt_of_le hi hX.size
    have e2 := r3.block i hiX h1
    have hi2 : i < X2.heap.size := Nat.lt_of_lt_of_le hiX r3.size
    have e3 := hY.block i hi2
    have e4 := b3.block i (Nat.lt_of_lt_of_le hi2 hY.size) h2
    exact e4.trans (e3.trans (e2.trans e1))
  have htb1 : some tb ≠ D.vr.ownBlock := fun e => by
    obtain ⟨_, c, z, hg⟩ := hrl tb e.symm
    exact hty h.obj hg (by decide) rfl
  have htb2 : some tb ≠ D.vb.ownBlock := fun e => by
    obtain ⟨_, c, z, hg⟩ := hbl tb e.symm
    exact hty h.obj hg (by decide) rfl
  have htb : X3.heap[tb]? = some (.cells (D.cells L) 82 (0, 0)) := (hkeep tb h.lt htb1 htb2).trans h.obj
  have hset : ∀ i, i ≠ tb → ((X3.setCell ⟨tb, 0, none⟩ vr).setCell ⟨tb, 1, none⟩ vb).heap[i]? = X3.heap[i]? := fun i hi =>
    (Below.heap_setCell _ _ _ i hi).trans (Below.heap_setCell _ _ _ i hi)
  have hvr : ∀ g, vr.ownBlock = some g → g ≠ tb ∧ some g ≠ D.vb.ownBlock ∧ (∀ j, Z.W g j) := by
    intro g hg
    rcases r4 with ⟨h1, _⟩ | ⟨h1, _⟩
    · rw [hg] at h1
      obtain ⟨_, c, z, hc⟩ := hrl g h1.symm
      refine ⟨fun e => htb1 (by rw [← e, h1]), fun e => ?_, fun j => h.rowsW g h1.symm j⟩
      obtain ⟨_, c', z', hc'⟩ := hbl g e.symm
      exact hty hc hc' (by decide) rfl
    · rw [hg] at h1
      injection h1 with h1
      have := h.lt; have := hX.size
      exact ⟨by omega, fun e => by have := (hbl g e.symm).1; omega, fun j => hZ g j (by omega)⟩
  have hvb : ∀ g, vb.ownBlock = some g → g ≠ tb ∧ (∀ j, Z.W g j) := by
    intro g hg
    rcases b4 with ⟨h1, _⟩ | ⟨h1, _⟩
    · rw [hg] at h1
      exact ⟨fun e => htb2 (by rw [← e, h1]), fun j => h.bitsW g h1.symm j⟩
    · rw [hg] at h1
      injection h1 with h1
      have := h.lt; have := hX.size; have := r3.size; have := hY.size
      exact ⟨by omega, fun j => hZ g j (by omega)⟩
  refine ⟨h.pushed y hy hn hl ?_ (fun g hg j => (hvr g hg).2.2 j) ?_ (fun g hg j => (hvb g hg).2 j) ?_ ?_ ?_, ?_⟩
  · have s1 := r1.below hY
    have s2 : Sl Z X3 37 3 vr (T.length + 1) _ := s1.stayB (fun g hg => b3.block g (s1.lt g hg).1 (hvr g hg).2.1)
    exact s2.stayB (fun g hg => hset g (hvr g hg).1)
  · exact b1.stayB (fun g hg => hset g (hvb g hg).1)
  · rw [heap_setCell_at (heap_setCell_at htb 0 vr) 1 vb]
    rfl
  · intro i es c hi
    have hlt := (Array.getElem?_eq_some_iff.1 hi).1
    have n1 : i ≠ tb := fun e => by subst e; rw [h.obj] at hi; injection hi with hi; cases hi
    refine (hset i n1).trans (hkeep i hlt (fun e => ?_) (fun e => ?_))
    · obtain ⟨_, c', z', hc'⟩ := hrl i e.symm
      rw [hi] at hc'; injection hc' with hc'; cases hc'
    · obtain ⟨_, c', z', hc'⟩ := hbl i e.symm
      rw [hi] at hc'; injection hc' with hc'; cases hc'
  · intro g cur fz hi
    have hlt := (Array.getElem?_eq_some_iff.1 hi).1
    refine (hset g (hty hi h.obj (by decide))).trans (hkeep g hlt (fun e => ?_) (fun e => ?_))
    · obtain ⟨_, c', z', hc'⟩ := hrl g e.symm
      exact hty hi hc' (by decide) rfl
    · obtain ⟨_, c', z', hc'⟩ := hbl g e.symm
      exact hty hi hc' (by decide) rfl
  · have f1 : Fr Z w X3 := (((Fr.of_below hX).trans r2).trans (.of_below hY)).trans b2
    exact (f1.setCell (a := ⟨tb, 0, none⟩) (h.own 0)).setCell (a := ⟨tb, 1, none⟩) (h.own 1)
end
end Go.Proofs.Ytghihhjcoilmgaa.T
