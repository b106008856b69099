/- Join: plain, and the append of two clipped lists. -/
import Derived.Test.YtghihhjcoilmgaaQ7
namespace Go.Proofs.Ytghihhjcoilmgaa
set_option maxRecDepth 100000
open Go.RowKit Go.Maps
set_option linter.unusedVariables false
set_option linter.unusedSimpArgs false

def joinF (f : Int → Option Int) (all : List Int) (r : Int) : Int → Option Int := fun n => if n ∈ all then some r else f n
def joinC (c : Int → Option (List Int)) (x y : Int) (all : List Int) (r : Int) : Int → Option (List Int) := upd (upd (upd c x none) y none) r (some all)
theorem PInv.join {J : Jn} {f : Int → Option Int} {c : Int → Option (List Int)} (h : PInv J f c) {a b : Int} (ha : a ≠ 0) (hb : b ≠ 0) (hn : ¬ Conn J a b) {all : List Int} (hp : all.Perm (listP c (findP f a) ++ listP c (findP f b))) {r : Int} (hr : r = min (findP f a) (findP f b)) :
    PInv (J ++ [(a, b)]) (joinF f all r) (joinC c (findP f a) (findP f b) all r) := by
  obtain ⟨x, hx⟩ : ∃ x, findP f a = x := ⟨_, rfl⟩
  obtain ⟨y, hy⟩ : ∃ y, findP f b = y := ⟨_, rfl⟩
  have fa := h.find a
  have fb := h.find b
  obtain ⟨ndX, mX⟩ := h.list a
  obtain ⟨ndY, mY⟩ := h.list b
  rw [hx] at hp hr fa ndX mX
  rw [hy] at hp hr fb ndY mY
  rw [hx, hy]
  have hxy : x ≠ y := fun e => hn (h.find_eq.1 (by rw [hx, hy, e]))
  have hall : ∀ n, n ∈ all ↔ Conn J a n ∨ Conn J b n := fun n => by rw [hp.mem_iff, List.mem_append, mX, mY]
  have hnd : all.Nodup := by
    refine hp.nodup_iff.2 (List.nodup_append.2 ⟨ndX, ndY, fun u hu v hv e => ?_⟩)
    subst e
    exact hn (((mX u).1 hu).trans ((mY u).1 hv).symm)
  have hin : ∀ n v, n ∈ all → (Conn (J ++ [(a, b)]) n v ↔ v ∈ all) := by
    intro n v hna
    rw [Conn.snoc, hall]
    rcases (hall n).1 hna with h1 | h1
    · constructor
      · rintro (k | ⟨_, _, ⟨k1, k2⟩ | ⟨k1, k2⟩⟩)
        · exact .inl (h1.trans k)
        · exact .inr k2
        · exact .inl k2
      · rintro (k | k)
        · exact .inl (h1.symm.trans k)
        · exact .inr ⟨ha, hb, .inl ⟨h1.symm, k⟩⟩
    · constructor
      · rintro (k | ⟨_, _, ⟨k1, k2⟩ | ⟨k1, k2⟩⟩)
        · exact .inr (h1.trans k)
        · exact .inr k2
        · exact .inl k2
      · rintro (k | k)
        · exact .inr ⟨ha, hb, .inr ⟨h1.symm, k⟩⟩
        · exact .inl (h1.symm.trans k)
  have hout : ∀ n v, n ∉ all → (Conn (J ++ [(a, b)]) n v ↔ Conn J n v) := by
    intro n v hna
    rw [hall] at hna
    rw [Conn.snoc]
    constructor
    · rintro (k | ⟨_, _, ⟨k1, k2⟩ | ⟨k1, k2⟩⟩)
      · exact k
      · exact absurd (.inl k1.symm) hna
      · exact absurd (.inr k1.symm) hna
    · exact .inl
  have hxa : x ∈ all := (hall x).2 (.inl fa.1)
  have hya : y ∈ all := (hall y).2 (.inr fb.1)
  have hra : r ∈ all := by
    rcases Int.le_total x y with hle | hle
    · rw [hr, Int.min_eq_left hle]; exact hxa
    · rw [hr, Int.min_eq_right hle]; exact hya
  have hrx : r ≤ x := by rw [hr]; exact Int.min_le_left _ _
  have hry : r ≤ y := by rw [hr]; exact Int.min_le_right _ _
  refine ⟨fun n r0 e => ?_, fun n e v hv => ?_, fun r0 L e => ?_, fun r0 e => ?_⟩
  · unfold joinF at e
    by_cases hna : n ∈ all
    · rw [if_pos hna] at e
      injection e with e
      subst e
      refine ⟨(hin n r hna).2 hra, fun v hv => ?_, ?_⟩
      · rcases (hall v).1 ((hin n v hna).1 hv) with k | k
        · exact Int.le_trans hrx (fa.2 v k)
        · exact Int.le_trans hry (fb.2 v k)
      · by_cases hnx : x = n
        · exact ⟨y, fun e => hxy (hnx.trans e.symm), (hin n y hna).2 hya⟩
        · exact ⟨x, hnx, (hin n x hna).2 hxa⟩
    · rw [if_neg hna] at e
      obtain ⟨h1, h2, v, h3, h4⟩ := h.has n r0 e
      exact ⟨(hout n r0 hna).2 h1, fun v hv => h2 v ((hout n v hna).1 hv), v, h3, (hout n v hna).2 h4⟩
  · unfold joinF at e
    by_cases hna : n ∈ all
    · rw [if_pos hna] at e; cases e
    · rw [if_neg hna] at e
      exact h.non n e v ((hout n v hna).1 hv)
  · unfold joinC at e
    by_cases hr0 : r0 = r
    · subst hr0
      rw [upd_same] at e
      injection e with e
      subst e
      exact ⟨by unfold joinF; rw [if_pos hra], hnd, fun v => (hin _ v hra).symm⟩
    · rw [upd_ne _ _ hr0] at e
      by_cases hy0 : r0 = y
      · subst hy0; rw [upd_same] at e; cases e
      · rw [upd_ne _ _ hy0] at e
        by_cases hx0 : r0 = x
        · subst hx0; rw [upd_same] at e; cases e
        · rw [upd_ne _ _ hx0] at e
          obtain ⟨h1, h2, h3⟩ := h.cl r0 L e
          have hf : findP f r0 = r0 := by unfold findP; rw [h1]; rfl
          have hna : r0 ∉ all := fun hm => by
            rcases (hall r0).1 hm with k | k
            · exact hx0 (by rw [← hf, ← hx]; exact (h.find_eq.2 k).symm)
            · exact hy0 (by rw [← hf, ← hy]; exact (h.find_eq.2 k).symm)
          exact ⟨by unfold joinF; rw [if_neg hna]; exact h1, h2, fun v => (h3 v).trans (hout r0 v hna).symm⟩
  · unfold joinC at e
    by_cases hr0 : r0 = r
    · subst hr0; rw [upd_same] at e; cases e
    · rw [upd_ne _ _ hr0] at e
      unfold joinF
      by_cases hna : r0 ∈ all
      · rw [if_pos hna]; intro e2; injection e2 with e2; exact hr0 e2.symm
      · rw [if_neg hna]
        have n1 : r0 ≠ y := fun e => hna (by rw [e]; exact hya)
        have n2 : r0 ≠ x := fun e => hna (by rw [e]; exact hxa)
        rw [upd_ne _ _ n1, upd_ne _ _ n2] at e
        exact h.cn r0 e
/-- who stands for the two, joined -/
theorem joinF_find {f : Int → Option Int} {all : List Int} {r n : Int} (h : n ∈ all) : findP (joinF f all r) n = r := by unfold findP joinF; rw [if_pos h]; rfl

/-- the append of a list to one without room -/
theorem run_clipped {w : World} {sa sb : Option Addr} {L M : List Int} {cap : Nat} (hL : IsU w sa L) (hM : IsU w sb M) (h1 : 0 < L.length) (h2 : 0 < M.length) (hl : L.length ≤ 1000000) (hm : M.length ≤ 1000000) (ty : TypeId) :
    ∃ v' w', (Builtin.append_ #[23, 23] ty #[.slice sa L.length L.length, .slice sb M.length cap]).run Try.prog w = .ok v' w' ∧ OwnU w.heap.size w' v' (L ++ M) ∧ Below w.heap.size w w' := by
  obtain ⟨iu, hiu, hz0, hz1, hz2⟩ := info_parts Try.info32
  obtain ⟨g, rfl, _, _⟩ := hL 0 h1
  obtain ⟨k, rfl, _, _⟩ := hM 0 h2
  have cs : ∀ {b : Nat} {N : List Int}, IsU w (some ⟨b, 0, none⟩) N → ∀ j u, (N.map (Value.int .u32))[j]? = some u → w.cell? ((⟨b, 0, none⟩ : Addr).add j) = some u := by
    intro b N hN j u hj
    rw [List.getElem?_map] at hj
    obtain ⟨x, hx, rfl⟩ := Option.map_eq_some_iff.1 hj
    obtain ⟨hjl, hx⟩ := List.getElem?_eq_some_iff.1 hx
    obtain ⟨b', e, _, hc⟩ := hN j hjl
    obtain rfl : b = b' := by simpa using e
    rw [add_is, hc, hx]
  have hr := run_append_grow (P := Try.prog) w 23 ty 31 iu (.int .u32 0) Try.underlying23 hiu hz0 ⟨g, 0, none⟩ L.length L.length (L.map (Value.int .u32)) (by rw [hz1]; simp) (cs hL) ⟨k, 0, none⟩ M.length cap (M.map (Value.int .u32)) (by rw [hz1]; simp) (cs hM) (by omega) (by omega)
    (by rw [hz2]; exact growslice_fits (by omega) (by omega))
  have hge := grownCap_ge w (L.length + M.length) L.length 31
  have hcm := grownCap_le_maxLen w (L.length + M.length) L.length 31 (by simp [maxLen]; omega)
  refine ⟨_, _, hr, ?_, ?_⟩
  · refine ⟨by simp, .inr ⟨w.heap.size, grownCap w (L.length + M.length) L.length 31, _, by rw [List.length_append], Nat.le_refl _, heap_alloc_new w.drew _, by rw [List.length_append]; exact hge, hcm, ?_, ?_⟩⟩
    · simp only [Array.size_append, List.size_toArray, List.length_map, size_zeroCells, Value.cells]
      simp
      omega
    · simp only [Array.toList_append, List.append_assoc, List.map_append]
      rw [← List.append_assoc, show (L ++ M).length * 1 = (L.map (Value.int .u32) ++ M.map (Value.int .u32)).length by simp]
      exact List.take_left
  · exact ((Below.refl _ w).drew).alloc (Nat.le_refl _) _
theorem wpList_clipped {w : World} {ops : Array Oper} {rest : List Oper} {o : Oper} {a : Act} {Q : Exit → Act → World → Prop} (hgd : o.guard = none) (s x : Operand)
    (ho : o.op = .call { callee := .builtin .append, args := #[s, x], argTypes := #[23, 23] }) {sa sb : Option Addr} {L M : List Int} {cap : Nat} (hL : IsU w sa L) (hM : IsU w sb M) (h1 : 0 < L.length) (h2 : 0 < M.length) (hl : L.length ≤ 1000000) (hm : M.length ≤ 1000000)
    (hs : a.eval s = .slice sa L.length L.length) (hx : a.eval x = .slice sb M.length cap) (hK : ∀ v' w', OwnU w.heap.size w' v' (L ++ M) → Below w.heap.size w w' → wpList Try.prog ops Q rest (a.put o.dst v') w') : wpList Try.prog ops Q (o :: rest) a w := by
  refine wpList_plain hgd fun K hK' => ?_
  obtain ⟨v', w', hr, h2, h3⟩ := run_clipped hL hM h1 h2 hl hm (cap := cap) o.type
  unfold Oper.wp execOp
  simp only [ho, resolve, invoke, builtin, Sem.run_bind, Sem.run_pure, Result.andThen_ok, List.map_toArray, List.map_cons, List.map_nil, hs, hx, hr]
  exact hK' _ _ (hK v' w' h2 h3)
set_option maxRecDepth 100000 in
theorem clip_u (sa : Option Addr) (n cap : Nat) (w : World) (hc : n ≤ cap) (hn : n ≤ 1000000) (h1 : ∀ j, j < n → ∃ g, sa = some ⟨g, 0, none⟩) (h0 : 0 < n) : Calls Try.prog 42 #[.slice sa n cap] w fun e w' => e = .returned (.slice sa n n) ∧ w' = w := by
  obtain ⟨g, rfl⟩ := h1 0 h0
  go_enter Try.func42, Try.ntmps42
  go_wp2_with fail
  go_ret
  exact ⟨rfl, rfl⟩
end Go.Proofs.Ytghihhjcoilmgaa
