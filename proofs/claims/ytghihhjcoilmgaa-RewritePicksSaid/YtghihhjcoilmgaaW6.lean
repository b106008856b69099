/- The reference's Pick, walked. -/
import Derived.Test.YtghihhjcoilmgaaW4
import Derived.Test.YtghihhjcoilmgaaW5
import Derived.Deep.DeepCutAuto
namespace Go.Proofs.Ytghihhjcoilmgaa
set_option maxRecDepth 100000
open Go.RowKit Go.Maps
set_option linter.unusedVariables false
set_option linter.unusedSimpArgs false
attribute [local go_sem] Oper.semAt_some

theorem Try.infoIntP : (Try.prog.info? 3).map (fun i => (i.zero, i.size, i.bytes)) = some (some (.int .i64 0), 1, 8) := by kernel_rfl
theorem Try.infoSlP : (Try.prog.info? 23).map (fun i => (i.zero, i.size, i.bytes)) = some (some (.slice none 0 0), 1, 24) := by kernel_rfl
def digs (D : List Nat) : Array Value := (D.map fun d => Value.int .i64 (d : Nat)).toArray
theorem run_mkD (w : World) (n : Nat) (h : n ≤ 1000000) : (Instr.makeSlice 73 (.int .i64 (n : Int)) (.int .i64 (n : Int))).run Try.prog w = .ok (.slice (some ⟨w.heap.size, 0, none⟩) n n) (w.alloc (.cells (digs (List.replicate n 0)) 3)) := by
  obtain ⟨i, hi, hz, hs, hb⟩ := info_parts Try.infoIntP
  have hr := run_make (P := Try.prog) w 73 3 i (.int .i64 0) Try.underlying73 hi hz .i64 .i64 n n (by omega) (Int.le_refl _) (by rw [hb]; omega) (by omega)
  rw [Int.toNat_natCast, hs, Nat.mul_one] at hr
  rw [hr]
  have e : madeCells (Value.int .i64 0).cells n = digs (List.replicate n 0) := by
    refine Array.ext (by simp [size_madeCells, digs]) (fun j h1 h2 => ?_)
    simp [madeCells, digs, Value.cells, Nat.mod_one]
  rw [e]
theorem digs_cell {w : World} {b : Nat} {D : List Nat} {fz : Nat × Nat} (h : w.heap[b]? = some (.cells (digs D) 3 fz)) {j : Nat} (hj : j < D.length) : w.cell? ⟨b, j, none⟩ = some (.int .i64 ((D.getD j 0 : Nat) : Int)) := by
  unfold World.cell?
  rw [h]
  simp only [digs]
  simp [List.getD_eq_getElem?_getD, hj]
theorem digs_set (D : List Nat) (k x : Nat) : (digs D).setIfInBounds k (.int .i64 (x : Nat)) = digs (D.set k x) := by
  simp [digs, List.map_set]
theorem getD_set_same {L : List Nat} {p x : Nat} (h : p < L.length) : (L.set p x).getD p 0 = x := by simp [List.getD_eq_getElem?_getD, h]
/-- a slice of slices of the call's own -/
def OwnLL (base : Nat) (w : World) (v : Value) (LL : List (List Int)) : Prop :=
  ∃ vs : List Value, w.ownsRow base 23 1 v LL.length vs ∧ ∀ j (h : j < LL.length), ∃ u, vs[j]? = some u ∧ OwnU base w u LL[j]
theorem OwnLL.nil (base : Nat) (w : World) : OwnLL base w (.slice none 0 0) [] := ⟨[], World.ownsRow_nil _ _ _ _, fun j h => by simp at h⟩
theorem OwnLL.below {base : Nat} {w w' : World} {v : Value} {LL : List (List Int)} (h : OwnLL base w v LL) (hb : Below w.heap.size w w') : OwnLL base w' v LL := by
  obtain ⟨vs, h1, h2⟩ := h
  refine ⟨vs, h1.kept (row := none) ⟨hb.os, hb.tape, hb.output, hb.size, fun k hk _ => hb.block k hk⟩ (by cases hv : v.ownBlock <;> simp), fun j hj => ?_⟩
  obtain ⟨u, e, k⟩ := h2 j hj
  exact ⟨u, e, k.below rfl hb⟩
theorem OwnLL.alloc' {base : Nat} {w : World} {v : Value} {LL : List (List Int)} (h : OwnLL base w v LL) (o : Obj) : OwnLL base (w.alloc o) v LL := h.below ((Below.refl _ w).alloc (Nat.le_refl _) o)
theorem chosen_snoc {J : Jn} {V : List Int} {A F : List Bool} {LL : List (List Int)} {L : List Int} {i : Nat} (hl : LL.length = i) (h : ∀ j, j < i → LL.getD j [] ≠ [] ∧ ∀ x, x ∈ LL.getD j [] ↔ inL J V A F j x) (hne : L ≠ []) (hL : ∀ x, x ∈ L ↔ inL J V A F i x) :
    ∀ j, j < i + 1 → (LL ++ [L]).getD j [] ≠ [] ∧ ∀ x, x ∈ (LL ++ [L]).getD j [] ↔ inL J V A F j x := by
  intro j hj
  rcases Nat.lt_succ_iff_lt_or_eq.1 hj with h1 | rfl
  · have e : (LL ++ [L]).getD j [] = LL.getD j [] := by simp [List.getD_eq_getElem?_getD, List.getElem?_append_left (show j < LL.length by omega)]
    rw [e]; exact h j h1
  · have e : (LL ++ [L]).getD j [] = L := by rw [← hl]; simp [List.getD_eq_getElem?_getD]
    rw [e]; exact ⟨hne, hL⟩
theorem OwnLL.bod {base b : Nat} {w w' : World} {v : Value} {LL : List (List Int)} (h : OwnLL base w v LL) (t : BodB w w' b) {D : List Nat} {fz : Nat × Nat} (hb : w.heap[b]? = some (.cells (digs D) 3 fz)) : OwnLL base w' v LL := by
  obtain ⟨vs, h1, h2⟩ := h
  have g : ∀ {e : TypeId} {n : Nat} {u : Value} {xs : List Value}, e ≠ 3 → w.ownsRow base e 1 u n xs → w'.ownsRow base e 1 u n xs := by
    rintro e n u xs he ⟨k1, k2⟩
    refine ⟨k1, ?_⟩
    rcases k2 with k2 | ⟨g, cap, cur, k2, k3, k4, k5⟩
    · exact .inl k2
    · refine .inr ⟨g, cap, cur, k2, k3, (t.same g (lt_of_heap k4) fun e1 => ?_).trans k4, k5⟩
      subst e1
      rw [k4] at hb
      injection hb with hb
      injection hb with _ hb
      exact he hb
  refine ⟨vs, g (by decide) h1, fun j hj => ?_⟩
  obtain ⟨u, e, k⟩ := h2 j hj
  exact ⟨u, e, g (by decide) k⟩
theorem OwnLL.app {base : Nat} {w w' : World} {v v' u : Value} {LL : List (List Int)} {L : List Int} (h : OwnLL base w v LL) (hu : OwnU base w u L) {vs : List Value} (hvs : w.ownsRow base 23 1 v LL.length vs) (he : ∀ j (h : j < LL.length), ∃ u, vs[j]? = some u ∧ OwnU base w u LL[j])
    (hown : w'.ownsRow base 23 1 v' (LL.length + 1) (vs ++ [u])) (hg : w.grownBy w' v.ownBlock) : OwnLL base w' v' (LL ++ [L]) := by
  have g : ∀ {u : Value} {L : List Int}, OwnU base w u L → OwnU base w' u L := by
    rintro u L ⟨k1, k2⟩
    refine ⟨k1, ?_⟩
    rcases k2 with k2 | ⟨g, cap, cur, k2, k3, k4, k5⟩
    · exact .inl k2
    · refine .inr ⟨g, cap, cur, k2, k3, (hg.block g (lt_of_heap k4) fun e1 => ?_).trans k4, k5⟩
      rcases hvs.2 with ⟨rfl, _⟩ | ⟨g', cap', cur', rfl, _, q, _⟩
      · simp [Value.ownBlock] at e1
      · simp only [Value.ownBlock, Option.some.injEq] at e1
        subst e1
        rw [k4] at q
        injection q with q
        injection q with _ q
        exact absurd q (by decide)
  refine ⟨vs ++ [u], by simpa using hown, fun j hj => ?_⟩
  have hl : vs.length = LL.length := by simpa using hvs.1
  rcases Nat.lt_or_ge j LL.length with h1 | h1
  · obtain ⟨u1, e, k⟩ := he j h1
    exact ⟨u1, by rw [List.getElem?_append_left (by omega)]; exact e, by rw [List.getElem_append_left h1]; exact g k⟩
  · have e : j = LL.length := by simp at hj; omega
    subst e
    exact ⟨u, by rw [← hl]; simp, by simpa using g hu⟩
theorem OwnLL.form {base : Nat} {w : World} {v : Value} {LL : List (List Int)} (h : OwnLL base w v LL) : ∃ la cap, v = .slice la LL.length cap ∧ LL.length ≤ cap ∧ cap ≤ maxLen := by
  obtain ⟨vs, h1, h2⟩ := h
  rcases h1.2 with ⟨rfl, h3⟩ | ⟨g, cap, cur, rfl, _, _, h4, h5, _⟩
  · exact ⟨none, 0, by rw [h3], by omega, by simp [maxLen]⟩
  · exact ⟨_, cap, rfl, h4, h5⟩
theorem OwnLL.at {base n cap : Nat} {w : World} {la : Option Addr} {LL : List (List Int)} (h : OwnLL base w (.slice la n cap) LL) {p k : Nat} (hp : p < LL.length) (hk : k < (LL.getD p []).length) :
    ∃ lb g c, la = some ⟨lb, 0, none⟩ ∧ w.cell? ⟨lb, p, none⟩ = some (.slice (some ⟨g, 0, none⟩) (LL.getD p []).length c) ∧ (LL.getD p []).length ≤ maxLen ∧ w.cell? ⟨g, k, none⟩ = some (.int .u32 ((LL.getD p []).getD k 0)) := by
  obtain ⟨vs, h1, h2⟩ := h
  rcases h1.2 with ⟨h3, h4⟩ | ⟨lb, cp, cur, e, _⟩
  · omega
  · injection e with e1 e2 e3
    subst e1 e2 e3
    obtain ⟨u, hu, ho⟩ := h2 p hp
    have c1 := World.ownsRow.cells h1 (g := lb) rfl p u hu
    have e4 : LL.getD p [] = LL[p] := by simp [List.getD_eq_getElem?_getD, hp]
    rw [e4] at hk ⊢
    obtain ⟨a, c, rfl, q1, q2, hU⟩ := ho.u
    obtain ⟨g, rfl, _, c2⟩ := hU k hk
    refine ⟨lb, g, c, rfl, ?_, by omega, ?_⟩
    · rw [add_is] at c1; first | exact c1 | (rw [Nat.zero_add] at c1; exact c1)
    · simpa [List.getD_eq_getElem?_getD, hk] using c2
def okB (X : List Int) (c : CondT) : Bool := (X.getD c.1.toNat 0 != X.getD c.2.1.toNat 0) == c.2.2
theorem okB_iff (X : List Int) (c : CondT) : okB X c = true ↔ okC X c := by
  unfold okB okC
  obtain ⟨a, b, u⟩ := c
  by_cases e : X.getD a.toNat 0 = X.getD b.toNat 0 <;> cases u <;> simp [e]
section
variable {w : World} {ja va fa ca : Option Addr} {V : List Int} {F : List Bool} {C : List CondT} {J : Jn} {vcap fcap ccap : Nat}
set_option maxRecDepth 100000 in
set_option maxHeartbeats 16000000 in
theorem pickR_any (hJ : IsJ w ja J) (jcap : Nat) (hJl : J.length ≤ 100) (hJz : ∀ p ∈ J, p.1 ≠ 0 ∧ p.2 ≠ 0) (hV : IsAt (Value.int .u32) w va V) (hF : IsAt Value.bool w fa F) (hC : IsC w ca C) (hV0 : ∀ x ∈ V, x ≠ 0) (hVl : V.length ≤ 1000) (hCl : C.length ≤ 1000) (hFl : F.length ≤ maxLen) :
    Calls Try.prog 11 #[.slice ja J.length jcap, .slice va V.length vcap, .slice fa F.length fcap, .slice ca C.length ccap] w (Says (PickP J V F C) w) := by
  obtain ⟨n, hn⟩ : ∃ n, V.length = n := ⟨_, rfl⟩
  obtain ⟨m, hm⟩ : ∃ m, C.length = m := ⟨_, rfl⟩
  obtain ⟨fl, hfl⟩ : ∃ fl, F.length = fl := ⟨_, rfl⟩
  obtain ⟨jn, hjn⟩ : ∃ jn, J.length = jn := ⟨_, rfl⟩
  have HJ := Lib.hid hJ; have HV := Lib.hid hV; have HF := Lib.hid hF; have HC := Lib.hid hC; have HV0 := Lib.hid hV0; have HJz := Lib.hid hJz; have Hn := Lib.hid hn; have Hm := Lib.hid hm; have Hfl := Lib.hid hfl; have Hjn := Lib.hid hjn
  rw [hn] at hVl ⊢
  rw [hm] at hCl ⊢
  rw [hfl] at hFl ⊢
  rw [hjn] at hJl ⊢
  clear hJ hV hF hC hV0 hJz hn hm hfl hjn
  simp only [maxLen] at hFl
  go_enter Try.func11, Try.ntmps11
  go_wp2_with fail
  go_loopg [9] m (fun k u wr => ∃ i : Nat, i + k = m ∧ u = .int .i64 i ∧ (∀ j (h : j < C.length), j < i → inC n C[j]) ∧ w = wr)
  case atStart => exact ⟨0, by omega, rfl, fun j _ h => by omega, rfl⟩
  case round =>
    obtain ⟨i, hi, rfl, hin, rfl⟩ := hrel
    have Hin := Lib.hid hin
    clear hin
    by_cases hil : i < m
    · have hd : decide ((i : Int) < (m : Int)) = true := by simp; omega
      have hiC : i < C.length := by have := Hm.out; omega
      obtain ⟨x, hx⟩ : ∃ x, C[i] = x := ⟨_, rfl⟩
      obtain ⟨b, off, rfl, hbl, k1, k2, k3⟩ := HC.out i hiC
      rw [hx] at k1 k2
      obtain ⟨xa, xc, xu⟩ := x
      simp only at k1 k2
      have Hx := Lib.hid hx
      clear hx hbl k3
      have bad : ¬ inC n (xa, xc, xu) → ¬ PickP J V F C := fun h k => h (by rw [← Hx.out, ← Hn.out]; exact k.1 _ (List.getElem_mem hiC))
      have Bad := Lib.hid bad
      clear bad
      by_cases ha0 : xa < 0
      · have h1 : decide (xa < 0) = true := by simp; omega
        go_wp2_with fail
        go_ret
        exact ⟨false, rfl, ⟨(fun h => by cases h), fun h => absurd h (Bad.out fun h => by have := h.1; omega)⟩, Below.refl _ _⟩
      · have h1 : decide (xa < 0) = false := by simp; omega
        by_cases hc0 : xc < 0
        · have h2 : decide (xc < 0) = true := by simp; omega
          go_wp2_with fail
          go_ret
          exact ⟨false, rfl, ⟨(fun h => by cases h), fun h => absurd h (Bad.out fun h => by have := h.2.2.1; simp only at this; omega)⟩, Below.refl _ _⟩
        · have h2 : decide (xc < 0) = false := by simp; omega
          by_cases han : xa ≥ (n : Int)
          · have h3 : decide (xa ≥ (n : Int)) = true := by simp; omega
            have h3' : decide ((n : Int) ≤ xa) = true := by simp; omega
            go_wp2_with fail
            go_ret
            exact ⟨false, rfl, ⟨(fun h => by cases h), fun h => absurd h (Bad.out fun h => by have := h.2.1; simp only at this; omega)⟩, Below.refl _ _⟩
          · have h3 : decide (xa ≥ (n : Int)) = false := by simp; omega
            have h3' : decide ((n : Int) ≤ xa) = false := by simp; omega
            by_cases hcn : xc ≥ (n : Int)
            · have h4 : decide (xc ≥ (n : Int)) = true := by simp; omega
              have h4' : decide ((n : Int) ≤ xc) = true := by simp; omega
              go_wp2_with fail
              go_ret
              exact ⟨false, rfl, ⟨(fun h => by cases h), fun h => absurd h (Bad.out fun h => by have := h.2.2.2; simp only at this; omega)⟩, Below.refl _ _⟩
            · have h4 : decide (xc ≥ (n : Int)) = false := by simp; omega
              have h4' : decide ((n : Int) ≤ xc) = false := by simp; omega
              go_wp2_with fail
              go_roundg (m - (i + 1))
              case measure => omega
              case rel => exact ⟨i + 1, by omega, by push_cast; rfl, fun j hj h => (by
                rcases Nat.lt_succ_iff_lt_or_eq.1 h with h | rfl
                · exact Hin.out j hj h
                · rw [Hx.out]; exact ⟨by simp only; omega, by simp only; omega, by simp only; omega, by simp only; omega⟩), rfl⟩
    · have hd : decide ((i : Int) < (m : Int)) = false := by simp; omega
      have hC2 : ∀ c ∈ C, inC n c := fun c hc => by
        obtain ⟨j, hj, rfl⟩ := List.getElem_of_mem hc
        exact Hin.out j hj (by have := Hm.out; omega)
      have HC2 := Lib.hid hC2
      clear hC2 Hin
      obtain ⟨i0, hi0, hz0, hz1, hz2⟩ := info_parts Try.infoSlP
      have Hi := Lib.hid hi0; have Hz0 := Lib.hid hz0; have Hz1 := Lib.hid hz1; have Hz2 := Lib.hid hz2
      clear hi0 hz0 hz1 hz2
      go_wp2_with fail
      go_loopg [10, 11] n (fun k u10 u11 wr => ∃ (i : Nat) (LL : List (List Int)), i + k = n ∧ u11 = .int .i64 i ∧ LL.length = i ∧ OwnLL w.heap.size wr u10 LL ∧ (∀ j, j < i → LL.getD j [] ≠ [] ∧ ∀ x, x ∈ LL.getD j [] ↔ inL J V (askedL C n) F j x) ∧ Below w.heap.size w wr)
      case atStart => exact ⟨0, [], by omega, rfl, rfl, OwnLL.nil _ _, fun j h => by omega, Below.refl _ _⟩
      case round =>
        clear hil hd hi
        obtain ⟨i, LL, hi, rfl, hLl, hO, hLL, hB⟩ := hrel
        have HLl := Lib.hid hLl; have HO := Lib.hid hO; have HLL := Lib.hid hLL; have HB := Lib.hid hB
        clear hLl hO hLL hB
        by_cases hin : i < n
        · have hd : decide ((i : Int) < (n : Int)) = true := by simp; omega
          obtain ⟨vb, voff, rfl, hvl, c1⟩ := HV.out.low HB.out i (by rw [Hn.out]; exact hin)
          obtain ⟨v, hvi⟩ : ∃ v, V[i]'(by rw [Hn.out]; exact hin) = v := ⟨_, rfl⟩
          have hv0 : v ≠ 0 := by rw [← hvi]; exact HV0.out _ (List.getElem_mem _)
          have hvD : V.getD i 0 = v := by rw [← hvi]; simp [List.getD_eq_getElem?_getD, Hn.out, hin]
          rw [hvi] at c1
          have Hvi := Lib.hid hvi; have Hv0 := Lib.hid hv0; have HvD := Lib.hid hvD
          clear hvi hv0 hvD hvl
          obtain ⟨la, lcap, rfl, hl1, hl2⟩ := HO.out.form
          rw [HLl.out] at hl1 HO ⊢
          have Hl1 := Lib.hid hl1; have Hl2 := Lib.hid hl2
          clear hl1 hl2
          go_upto_region 11 with fail
          have hBa : Below wr.heap.size wr (wr.alloc (.cells #[.int .u32 v] 31)) := (Below.refl _ wr).alloc (Nat.le_refl _) _
          have hown := own_one wr v
          obtain ⟨ws, hws⟩ : ∃ ws, wr.heap.size = ws := ⟨_, rfl⟩
          obtain ⟨w10, hw10⟩ : ∃ w10, wr.alloc (.cells #[.int .u32 v] 31) = w10 := ⟨_, rfl⟩
          rw [hw10] at hBa hown ⊢
          rw [hws] at hown ⊢
          have hB10 : Below w.heap.size w w10 := HB.out.trans (hBa.mono HB.out.size)
          have c1 := cell_keep hBa c1
          have HBa := Lib.hid hBa; have Hown := Lib.hid hown; have HB10 := Lib.hid hB10; have Hws := Lib.hid hws
          clear hBa hown hB10 hw10 hws
          have one : ∀ wx, w10 = wx → F.getD i false = true → ∃ L0, OwnU w.heap.size wx (.slice (some ⟨ws, 0, none⟩) 1 1) L0 ∧ L0 ≠ [] ∧ L0.length ≤ maxLen ∧ (∀ x, x ∈ L0 ↔ if F.getD i false = false then Conn J v x else x = v) ∧ Below wr.heap.size wr wx := by
            rintro wx rfl hf
            refine ⟨[v], Hown.out.mono (by rw [← Hws.out]; exact HB.out.size), by simp, by simp [maxLen], fun x => ?_, HBa.out⟩
            rw [hf]; simp
          have One := Lib.hid one
          clear one
          obtain ⟨bz, hbz⟩ : ∃ bz, bz = decide (F.getD i false = false) := ⟨_, rfl⟩
          have Hbz := Lib.hid hbz
          clear hbz
          go_cut [82] (fun s82 wx => s82 = .bool bz ∧ w10 = wx)
          case first =>
            by_cases hkF : i < fl
            · have hdF : decide ((i : Int) ≥ (fl : Int)) = false := by simp; omega
              have hdF' : decide ((fl : Int) ≤ (i : Int)) = false := by simp; omega
              have hdN : decide (fl ≤ i) = false := by simp; omega
              obtain ⟨fb, foff, rfl, hfbl, c2⟩ := HF.out.low HB10.out i (by rw [Hfl.out]; exact hkF)
              obtain ⟨fk, hfk⟩ : ∃ fk, F[i]'(by rw [Hfl.out]; exact hkF) = fk := ⟨_, rfl⟩
              rw [hfk] at c2
              have hfD : F.getD i false = fk := by rw [← hfk]; simp [List.getD_eq_getElem?_getD, Hfl.out, hkF]
              have hb := Lib.hid (show bz = !fk by rw [Hbz.out, hfD]; cases fk <;> simp)
              clear hfk hfD hfbl
              cases fk <;>
                (go_wp2_with fail
                 go_meet
                 case rel => exact ⟨by rw [hb.out]; first | rfl | simp [hdN], rfl⟩)
            · have hdF : decide ((i : Int) ≥ (fl : Int)) = true := by simp; omega
              have hdF' : decide ((fl : Int) ≤ (i : Int)) = true := by simp; omega
              have hdN : decide (fl ≤ i) = true := by simp; omega
              have hb := Lib.hid (show bz = true by rw [Hbz.out]; simp [List.getD_eq_getElem?_getD, List.getElem?_eq_none (show F.length ≤ i by have := Hfl.out; omega)])
              go_wp2_with fail
              go_meet
              case rel => exact ⟨by rw [hb.out], rfl⟩
          case rest =>
          obtain ⟨rfl, rfl⟩ := hcut
          go_upto_if 82 with fail
          go_cut [12] (fun s12 wx => ∃ L0, OwnU w.heap.size wx s12 L0 ∧ L0 ≠ [] ∧ L0.length ≤ maxLen ∧ (∀ x, x ∈ L0 ↔ if F.getD i false = false then Conn J v x else x = v) ∧ Below wr.heap.size wr wx)
          case first =>
            cases bz with
            | false =>
              have HfD := Lib.hid (show F.getD i false = true by
                have h1 := of_decide_eq_false Hbz.out.symm
                cases h : F.getD i false with
                | true => rfl
                | false => exact absurd h h1)
              go_wp2_with fail
              go_meet
              case rel => exact One.out _ rfl HfD.out
            | true =>
              have HfD := Lib.hid (of_decide_eq_true Hbz.out.symm)
              have hcl0 := cliqueR_any (w := w10) (HJ.out.below HB10.out) jcap (by rw [Hjn.out]; omega) HJz.out v
              rw [Hjn.out] at hcl0
              have Hcl0 := Lib.hid hcl0
              clear hcl0
              go_wp2_with fail
              refine Hcl0.out.mono ?_
              rintro e wq ⟨v2, L2, rfl, hO2, hL2, hB2⟩
              obtain ⟨s2, cap2, rfl, q1, q2, _⟩ := hO2.u
              have hcl := hL2.2 Hv0.out
              have hne : L2 ≠ [] := fun e => by have := (hcl.mem v).2 (.refl _); rw [e] at this; simp at this
              obtain ⟨vb2, voff2, e2, _, c1⟩ := HV.out.low (HB10.out.trans (hB2.mono HB10.out.size)) i (by rw [Hn.out]; exact hin)
              injection e2 with e2
              injection e2 with e21 e22 _
              subst e21 e22
              rw [Hvi.out] at c1
              have hv0 : (v == 0) = false := by simp; exact Hv0.out
              have HO2 := Lib.hid (hO2.mono HB10.out.size); have Hcl := Lib.hid hcl; have Hne := Lib.hid hne; have HB2 := Lib.hid hB2
              have Hq := Lib.hid q1; have Hq2 := Lib.hid q2
              clear hO2 hL2 hB2 hcl hne q1 q2
              go_wp2_with fail
              go_meet
              case rel => exact ⟨L2, HO2.out, Hne.out, by have := Hq.out; have := Hq2.out; omega, fun x => by rw [if_pos HfD.out]; exact Hcl.out.mem x, HBa.out.trans (HB2.out.mono HBa.out.size)⟩
          case rest =>
            rename World => wc
            obtain ⟨L0, hO0, hne0, hl0, hL0, hBc⟩ := hcut
            obtain ⟨s0, cap0, rfl, _, _, _⟩ := hO0.u
            obtain ⟨ln, hln⟩ : ∃ ln, L0.length = ln := ⟨_, rfl⟩
            have hBcw := HB.out.trans (hBc.mono HB.out.size)
            have HO0 := Lib.hid hO0; have Hne0 := Lib.hid hne0; have HL0 := Lib.hid hL0; have HBcw := Lib.hid hBcw; have HOc := Lib.hid (HO.out.below hBc); have Hln := Lib.hid hln
            rw [hln] at hl0 ⊢
            simp only [maxLen] at hl0
            clear hO0 hne0 hL0 hBc hBcw hln One Hown c1
            obtain ⟨g1, rfl⟩ : ∃ g1, g1 = gk := ⟨_, rfl⟩
            go_wp2_with fail
            go_loopg [13, 14] m (fun k u13 u14 w2 => ∃ q : Nat, q + k = m ∧ u14 = .int .i64 q ∧ u13 = .bool ((plcs (C.take q)).contains (i : Int)) ∧ wc = w2)
            case atStart => exact ⟨0, by omega, rfl, rfl, rfl⟩
            case round =>
              obtain ⟨q, hq, rfl, rfl, rfl⟩ := hrel
              by_cases hqm : q < m
              · have hd2 : decide ((q : Int) < (m : Int)) = true := by simp; omega
                have hqC : q < C.length := by have := Hm.out; omega
                obtain ⟨x, hx⟩ : ∃ x, C[q] = x := ⟨_, rfl⟩
                obtain ⟨b, off, rfl, hbl, k1, k2, k3⟩ := HC.out.below HBcw.out q hqC
                rw [hx] at k1 k2
                obtain ⟨xa, xc, xu⟩ := x
                simp only at k1 k2
                have htk : plcs (C.take (q + 1)) = plcs (C.take q) ++ [xa] ++ [xc] := by
                  rw [List.take_succ_eq_append_getElem hqC, hx, plcs_snoc]
                obtain ⟨sp, hsp⟩ : ∃ sp, (plcs (C.take q)).contains (i : Int) = sp := ⟨_, rfl⟩
                have htk2 : (plcs (C.take (q + 1))).contains (i : Int) = (sp || (i : Int) == xa || (i : Int) == xc) := by
                  rw [htk, ← hsp, Bool.eq_iff_iff]; simp [or_assoc]
                have Htk := Lib.hid htk2
                rw [hsp]
                clear htk htk2 hsp hx hbl k3
                have fin : ∀ z : Bool, (sp || (i : Int) == xa || (i : Int) == xc) = z → Value.bool z = .bool ((plcs (C.take (q + 1))).contains (i : Int)) := fun z hz => by rw [Htk.out, hz]
                have Fin := Lib.hid fin
                clear fin
                cases sp with
                | true =>
                  go_wp2_with fail
                  go_roundg (m - (q + 1))
                  case measure => omega
                  case rel => exact ⟨q + 1, by omega, by push_cast; rfl, Fin.out _ (by simp), rfl⟩
                | false =>
                  by_cases e1 : xa = (i : Int)
                  · have h1 : (xa == (i : Int)) = true := by simp [e1]
                    go_wp2_with fail
                    go_roundg (m - (q + 1))
                    case measure => omega
                    case rel => exact ⟨q + 1, by omega, by push_cast; rfl, Fin.out _ (by simp [e1]), rfl⟩
                  · have h1 : (xa == (i : Int)) = false := by simp [e1]
                    have h1' : ((i : Int) == xa) = false := by simp; omega
                    by_cases e2 : xc = (i : Int)
                    · have h2 : (xc == (i : Int)) = true := by simp [e2]
                      go_wp2_with fail
                      go_roundg (m - (q + 1))
                      case measure => omega
                      case rel => exact ⟨q + 1, by omega, by push_cast; rfl, Fin.out _ (by simp [e2]), rfl⟩
                    · have h2 : (xc == (i : Int)) = false := by simp [e2]
                      have h2' : ((i : Int) == xc) = false := by simp; omega
                      go_wp2_with fail
                      go_roundg (m - (q + 1))
                      case measure => omega
                      case rel => exact ⟨q + 1, by omega, by push_cast; rfl, Fin.out _ (by rw [h1', h2']; rfl), rfl⟩
              · have hd2 : decide ((q : Int) < (m : Int)) = false := by simp; omega
                have hask : (plcs (C.take q)).contains (i : Int) = (askedL C n).getD i false := by
                  rw [List.take_of_length_le (by have := Hm.out; omega)]
                  simp [askedL, markL, List.getD_eq_getElem?_getD, hin]
                rw [hask]
                obtain ⟨sp, hsp⟩ : ∃ sp, (askedL C n).getD i false = sp := ⟨_, rfl⟩
                rw [hsp]
                have Hsp := Lib.hid hsp
                clear hask hsp
                obtain ⟨vs, hvs, hve⟩ := HOc.out
                rw [HLl.out] at hvs
                have Hvs := Lib.hid hvs; have Hve := Lib.hid hve
                clear hvs hve
                cases sp with
                | true =>
                  have hl00 : ((ln : Int) == 0) = false := by
                    have := List.length_pos_iff.2 Hne0.out
                    have := Hln.out
                    simp; omega
                  go_wp2_with (at_builtin; refine wpList_append_own_at _ rfl _ _ 75 rfl w.heap.size 23 i0 (.slice none 0 0) 1 24 Try.underlying75 Hi.out Hz0.out Hz1.out Hz2.out rfl (by decide) _ _ _ rfl (World.ownsRow.alloc Hvs.out _) ⟨wc.heap.size, 0, none⟩ 1 1 [.slice s0 ln cap0] rfl rfl (cell_one_new _ _ _) (by simp [Value.oneCell']) (by simp only [maxLen]; omega) (by omega) (by have := HBcw.out.size; simp; omega) ?_; intro v1 w1 hown1 hgrow1 _ _; have Hown1 := Lib.hid hown1; have Hgrow1 := Lib.hid hgrow1; clear hown1 hgrow1; go_frame)
                  go_roundg (n - (i + 1))
                  case measure => omega
                  case rel =>
                    refine ⟨i + 1, LL ++ [L0], by omega, by push_cast; rfl, by rw [List.length_append, HLl.out]; rfl, ?_, ?_, (HBcw.out.alloc HBcw.out.size _).grown Hgrow1.out (by have := HBcw.out.size; simp; omega) (fun k e => (Hvs.out.lt k e).1)⟩
                    · refine OwnLL.app (HOc.out.alloc' _) (World.ownsRow.alloc (by have := HO0.out; rwa [Hln.out] at this) _) (by rw [HLl.out]; exact World.ownsRow.alloc Hvs.out _) (fun j hj => ?_) (by rw [HLl.out]; exact Hown1.out) Hgrow1.out
                      obtain ⟨u, e, k⟩ := Hve.out j hj
                      exact ⟨u, e, World.ownsRow.alloc k _⟩
                    · refine chosen_snoc HLl.out HLL.out Hne0.out fun x => ?_
                      rw [HL0.out]
                      unfold inL
                      rw [HvD.out, Hsp.out]
                      have hv0 := Hv0.out
                      cases h : F.getD i false <;> simp [hv0]
                | false =>
                  obtain ⟨vb2, voff2, e2, _, c1⟩ := HV.out.low HBcw.out i (by rw [Hn.out]; exact hin)
                  injection e2 with e2
                  injection e2 with e21 e22 _
                  subst e21 e22
                  rw [Hvi.out] at c1
                  go_upto_region 22 with fail
                  have hBa : Below wc.heap.size wc (wc.alloc (.cells #[.int .u32 v] 31)) := (Below.refl _ wc).alloc (Nat.le_refl _) _
                  have hown := own_one wc v
                  obtain ⟨cs, hcs⟩ : ∃ cs, wc.heap.size = cs := ⟨_, rfl⟩
                  generalize wc.alloc (.cells #[.int .u32 v] 31) = w21 at *
                  rw [hcs] at hown ⊢
                  have HBcx := Lib.hid (HBcw.out.trans (hBa.mono HBcw.out.size)); have Hown := Lib.hid hown; have HOx := Lib.hid (HOc.out.below hBa); have Hcs := Lib.hid hcs
                  clear hBa hown hcs Hvs Hve c1
                  obtain ⟨vs, hvs, hve⟩ := HOx.out
                  rw [HLl.out] at hvs
                  have Hvs := Lib.hid hvs; have Hve := Lib.hid hve
                  clear hvs hve
                  go_wp2_with (at_builtin; refine wpList_append_own_at _ rfl _ _ 75 rfl w.heap.size 23 i0 (.slice none 0 0) 1 24 Try.underlying75 Hi.out Hz0.out Hz1.out Hz2.out rfl (by decide) _ _ _ rfl (World.ownsRow.alloc Hvs.out _) ⟨w21.heap.size, 0, none⟩ 1 1 [.slice (some ⟨cs, 0, none⟩) 1 1] rfl rfl (cell_one_new _ _ _) (by simp [Value.oneCell']) (by simp only [maxLen]; omega) (by omega) (by have := HBcx.out.size; simp; omega) ?_; intro v1 w1 hown1 hgrow1 _ _; have Hown1 := Lib.hid hown1; have Hgrow1 := Lib.hid hgrow1; clear hown1 hgrow1; go_frame)
                  go_roundg (n - (i + 1))
                  case measure => omega
                  case rel =>
                    have hO1 : OwnU w.heap.size w21 (.slice (some ⟨cs, 0, none⟩) 1 1) [v] := Hown.out.mono (by rw [← Hcs.out]; exact HBcw.out.size)
                    refine ⟨i + 1, LL ++ [[v]], by omega, by push_cast; rfl, by rw [List.length_append, HLl.out]; rfl, ?_, ?_, (HBcx.out.alloc HBcx.out.size _).grown Hgrow1.out (by have := HBcx.out.size; simp; omega) (fun k e => (Hvs.out.lt k e).1)⟩
                    · refine OwnLL.app (HOx.out.alloc' _) (World.ownsRow.alloc hO1 _) (by rw [HLl.out]; exact World.ownsRow.alloc Hvs.out _) (fun j hj => ?_) (by rw [HLl.out]; exact Hown1.out) Hgrow1.out
                      obtain ⟨u, e, k⟩ := Hve.out j hj
                      exact ⟨u, e, World.ownsRow.alloc k _⟩
                    · refine chosen_snoc HLl.out HLL.out (by simp) fun x => ?_
                      unfold inL
                      rw [if_neg (by rw [Hsp.out]; simp), HvD.out]
                      simp
        · have hd : decide ((i : Int) < (n : Int)) = false := by simp; omega
          obtain rfl : n = i := by omega
          have hmk := fun W => run_mkD W n (by omega)
          obtain ⟨la, lcap, rfl, hl1, hl2⟩ := HO.out.form
          rw [HLl.out] at hl1 HO ⊢
          have hch := choice_iff (X := List.replicate V.length 0) (A := askedL C V.length) (by rw [HLl.out, Hn.out]) (by rw [Hn.out]; exact fun j hj => (HLL.out j hj).2) (by rw [Hn.out]; exact HC2.out)
          have hPick : PickP J V F C ↔ ∃ D, Dig D (lensL LL) ∧ ∀ c ∈ C, okC (chosenL LL D) c := by
            rw [← hch]
            exact ⟨fun h => h.2, fun h => ⟨by rw [Hn.out]; exact HC2.out, h⟩⟩
          have HP := Lib.hid hPick
          clear hch hPick hl1 hl2 hd
          go_upto_region 26 with fail
          have hBa : Below wr.heap.size wr (wr.alloc (.cells (digs (List.replicate n 0)) 3)) := (Below.refl _ wr).alloc (Nat.le_refl _) _
          have hnew := World.alloc_heap_new wr (.cells (digs (List.replicate n 0)) 3)
          obtain ⟨gb, hgb⟩ : ∃ gb, wr.heap.size = gb := ⟨_, rfl⟩
          generalize wr.alloc (.cells (digs (List.replicate n 0)) 3) = w0 at *
          rw [hgb] at hnew ⊢
          have hB0 := HB.out.trans (hBa.mono HB.out.size)
          have HB0 := Lib.hid hB0; have HO0 := Lib.hid (HO.out.below hBa); have HN0 := Lib.hid hnew; have Hwg := Lib.hid (show w.heap.size ≤ gb by rw [← hgb]; exact HB.out.size)
          clear hBa hnew hgb hB0 hmk HO HB
          have hdl0 : Dig (List.replicate n 0) (lensL LL) := by
            refine ⟨by rw [lensL_len, HLl.out]; simp, fun j hj => ?_⟩
            rw [lensL_len, HLl.out] at hj
            rw [lensL_at]
            have := List.length_pos_iff.2 (HLL.out j hj).1
            simpa [List.getD_eq_getElem?_getD, hj] using this
          have hd00 : odo (List.replicate n 0) (lensL LL) = 0 := odo_zero _ _
          have Hdl0 := Lib.hid hdl0; have Hd00 := Lib.hid hd00
          clear hdl0 hd00
          go_loopg [16] (odoAll (lensL LL)) (fun k u16 wm => ∃ D : List Nat, odo D (lensL LL) + k = odoAll (lensL LL) ∧ Dig D (lensL LL) ∧ wm.heap[gb]? = some (.cells (digs D) 3 (0, 0)) ∧ (∀ E, Dig E (lensL LL) → odo E (lensL LL) < odo D (lensL LL) → ¬ ∀ c ∈ C, okC (chosenL LL E) c) ∧ BodB w0 wm gb)
          case atStart => exact ⟨List.replicate n 0, by rw [Hd00.out]; omega, Hdl0.out, HN0.out, fun E hE h => by rw [Hd00.out] at h; omega, BodB.refl _ _⟩
          case round =>
            rename World => wm
            obtain ⟨D, hDk, hD, hDg, hbad, hTm⟩ := hrel
            have HD := Lib.hid hD; have HDg := Lib.hid hDg; have Hbad := Lib.hid hbad; have HTm := Lib.hid hTm; have HDk := Lib.hid hDk
            have hDl : D.length = n := by rw [hD.1, lensL_len, HLl.out]
            have HDl := Lib.hid hDl
            have HOm := Lib.hid (HO0.out.bod hTm HN0.out)
            have HBm := Lib.hid (HB0.out.trans (hTm.lower HB0.out.size Hwg.out))
            clear hDk hD hDg hbad hTm hDl
            obtain ⟨g1, rfl⟩ : ∃ g1, g1 = gk := ⟨_, rfl⟩
            go_wp2_with fail
            go_loopg [16, 17] m (fun k u16 u17 w2 => ∃ q : Nat, q + k = m ∧ u17 = .int .i64 q ∧ u16 = .bool ((C.take q).all (okB (chosenL LL D))) ∧ Below wm.heap.size wm w2)
            case atStart => exact ⟨0, by omega, rfl, rfl, Below.refl _ _⟩
            case round =>
              rename World => w2
              obtain ⟨q, hq, rfl, rfl, hB2⟩ := hrel
              have HB2 := Lib.hid hB2
              clear hB2
              by_cases hqm : q < m
              · have hd2 : decide ((q : Int) < (m : Int)) = true := by simp; omega
                have hqC : q < C.length := by have := Hm.out; omega
                obtain ⟨x, hx⟩ : ∃ x, C[q] = x := ⟨_, rfl⟩
                obtain ⟨b, off, rfl, hbl, k1, k2, k3⟩ := HC.out.below (HBm.out.trans (HB2.out.mono HBm.out.size)) q hqC
                have hxc := HC2.out C[q] (List.getElem_mem hqC)
                rw [hx] at k1 k2 k3 hxc
                obtain ⟨xa, xc, xu⟩ := x
                obtain ⟨h1, h2, h3, h4⟩ := hxc
                simp only at k1 k2 k3 h1 h2 h3 h4
                obtain ⟨pa, rfl⟩ : ∃ pa : Nat, xa = pa := ⟨xa.toNat, by omega⟩
                obtain ⟨pc, rfl⟩ : ∃ pc : Nat, xc = pc := ⟨xc.toNat, by omega⟩
                have hpa : pa < n := by omega
                have hpc : pc < n := by omega
                obtain ⟨da, hda⟩ : ∃ da, D.getD pa 0 = da := ⟨_, rfl⟩
                obtain ⟨dc, hdc⟩ : ∃ dc, D.getD pc 0 = dc := ⟨_, rfl⟩
                have hla := HD.out.2 pa (by rw [lensL_len, HLl.out]; exact hpa)
                have hlc := HD.out.2 pc (by rw [lensL_len, HLl.out]; exact hpc)
                rw [lensL_at, hda] at hla
                rw [lensL_at, hdc] at hlc
                have hO2 := HOm.out.below HB2.out
                obtain ⟨lb, ga, ca_, rfl, cla, mla, va_⟩ := hO2.at (p := pa) (by rw [HLl.out]; exact hpa) hla
                obtain ⟨lb', gc, cc_, e, clc, mlc, vc_⟩ := hO2.at (p := pc) (by rw [HLl.out]; exact hpc) hlc
                obtain rfl : lb = lb' := by simpa using e
                have hdg2 := (HB2.out.block gb (lt_of_heap HDg.out)).trans HDg.out
                have cda := digs_cell hdg2 (j := pa) (by rw [HDl.out]; exact hpa)
                have cdc := digs_cell hdg2 (j := pc) (by rw [HDl.out]; exact hpc)
                rw [hda] at cda
                rw [hdc] at cdc
                obtain ⟨za, hza⟩ : ∃ za, (LL.getD pa []).getD da 0 = za := ⟨_, rfl⟩
                obtain ⟨zc, hzc⟩ : ∃ zc, (LL.getD pc []).getD dc 0 = zc := ⟨_, rfl⟩
                rw [hza] at va_
                rw [hzc] at vc_
                have hok : okB (chosenL LL D) ((pa : Int), (pc : Int), xu) = ((za != zc) == xu) := by
                  show (((chosenL LL D).getD pa 0 != (chosenL LL D).getD pc 0) == xu) = _
                  rw [chosenL_at D (by rw [HLl.out]; exact hpa), chosenL_at D (by rw [HLl.out]; exact hpc), hda, hdc, hza, hzc]
                obtain ⟨na_, hna_⟩ : ∃ na_, (LL.getD pa []).length = na_ := ⟨_, rfl⟩
                obtain ⟨nc_, hnc_⟩ : ∃ nc_, (LL.getD pc []).length = nc_ := ⟨_, rfl⟩
                rw [hna_] at hla cla mla
                rw [hnc_] at hlc clc mlc
                simp only [maxLen] at mla mlc
                have htk : (C.take (q + 1)).all (okB (chosenL LL D)) = ((C.take q).all (okB (chosenL LL D)) && ((za != zc) == xu)) := by
                  rw [List.take_succ_eq_append_getElem hqC, hx, List.all_append, ← hok]
                  simp
                obtain ⟨g0, hg0⟩ : ∃ g0, (C.take q).all (okB (chosenL LL D)) = g0 := ⟨_, rfl⟩
                rw [hg0] at htk ⊢
                have Htk := Lib.hid htk
                clear htk hg0 hok hza hzc hna_ hnc_ hda hdc hO2 hdg2 e hx hbl h1 h2 h3 h4
                go_wp2_with fail
                have k1 : w2.drew.cell? ⟨b, off + q * 3, none⟩ = some (.int .i64 (pa : Int)) := k1
                have k2 : w2.drew.cell? ⟨b, off + q * 3 + 1, none⟩ = some (.int .i64 (pc : Int)) := k2
                have k3 : w2.drew.cell? ⟨b, off + q * 3 + 2, none⟩ = some (.bool xu) := k3
                have cla : w2.drew.cell? ⟨lb, pa, none⟩ = some (.slice (some ⟨ga, 0, none⟩) na_ ca_) := cla
                have clc : w2.drew.cell? ⟨lb, pc, none⟩ = some (.slice (some ⟨gc, 0, none⟩) nc_ cc_) := clc
                have cda : w2.drew.cell? ⟨gb, pa, none⟩ = some (.int .i64 ((da : Nat) : Int)) := cda
                have cdc : w2.drew.cell? ⟨gb, pc, none⟩ = some (.int .i64 ((dc : Nat) : Int)) := cdc
                have va_ : w2.drew.cell? ⟨ga, da, none⟩ = some (.int .u32 za) := va_
                have vc_ : w2.drew.cell? ⟨gc, dc, none⟩ = some (.int .u32 zc) := vc_
                obtain ⟨S30, hSe⟩ : ∃ S : Array Bool → World → Prop, S = fun _ w' => Below w2.drew.heap.size w2.drew w' := ⟨_, rfl⟩
                have hdrop : ∀ i : Nat, ∀ L w', S30 (L.setIfInBounds i true) w' → S30 L w' := by
                  intro i L w' h; rw [hSe] at h ⊢; exact h
                have hS : ∀ L, S30 L w2.drew := by intro L; rw [hSe]; exact Below.refl _ _
                have hSo : ∀ {L w'}, S30 L w' → Below w2.drew.heap.size w2.drew w' := by intro L w' h; rw [hSe] at h; exact h
                have hSi : ∀ {w'}, Below w2.drew.heap.size w2.drew w' → ∀ L, S30 L w' := by intro w' h L; rw [hSe]; exact h
                clear hSe
                refine wp_region_LN S30 38 #[false, false, false, false, false, false, false, false, false, false, false, false, false, false, false, false, false, false, false, false, false, false, false, false, false, false, false, false, false, false, false, false, false, false, false, false, false, false] (by kernel_rfl) (by kernel_rfl) rfl ?_
                obtain ⟨X30, hX30⟩ : ∃ X30, X30 = w2.drew := ⟨_, rfl⟩
                rw [← hX30] at k1 k2 k3 cla clc cda cdc va_ vc_ hSo hS hSi ⊢
                have HX30 := Lib.hid hX30
                clear hX30
                refine WA.take (i := 0) (v := .slice (some ⟨lb, 0, none⟩) n lcap) rfl (by kernel_rfl) (by kernel_rfl) (by kernel_rfl) (fun _ _ _ h => h) (hdrop 0) (Or.inl ⟨by rfl, ?_⟩) (hS _) ?_
                · rintro w' ⟨L, hL, hSw, hun⟩
                  go_simp
                simp only [List.getElem_toArray, List.getElem_cons_zero, List.getElem_cons_succ, Act.put, List.setIfInBounds_toArray, List.set_cons_zero, List.set_cons_succ]
                refine WA.take (i := 1) (v := .slice (some ⟨b, off, none⟩) m ccap) rfl (by kernel_rfl) (by kernel_rfl) (by kernel_rfl) (fun _ _ _ h => h) (hdrop 1) (Or.inl ⟨by rfl, ?_⟩) (hS _) ?_
                · rintro w' ⟨L, hL, hSw, hun⟩
                  go_simp
                simp only [List.getElem_toArray, List.getElem_cons_zero, List.getElem_cons_succ, Act.put, List.setIfInBounds_toArray, List.set_cons_zero, List.set_cons_succ]
                refine WA.take (i := 2) (v := .int .i64 ((q : Nat) : Int)) rfl (by kernel_rfl) (by kernel_rfl) (by kernel_rfl) (fun _ _ _ h => h) (hdrop 2) (Or.inl ⟨by rfl, ?_⟩) (hS _) ?_
                · rintro w' ⟨L, hL, hSw, hun⟩
                  go_simp
                simp only [List.getElem_toArray, List.getElem_cons_zero, List.getElem_cons_succ, Act.put, List.setIfInBounds_toArray, List.set_cons_zero, List.set_cons_succ]
                refine WA.take (i := 3) (v := .pointer (some ⟨b, off + q * 3, none⟩)) rfl (by kernel_rfl) (by kernel_rfl) (by kernel_rfl) (fun _ _ _ h => h) (hdrop 3) (Or.inl ⟨by rfl, ?_⟩) (hS _) ?_
                · rintro w' ⟨L, hL, hSw, hun⟩
                  go_simp
                simp only [List.getElem_toArray, List.getElem_cons_zero, List.getElem_cons_succ, Act.put, List.setIfInBounds_toArray, List.set_cons_zero, List.set_cons_succ]
                refine WA.take (i := 4) (v := .pointer (some ⟨b, off + q * 3, none⟩)) rfl (by kernel_rfl) (by kernel_rfl) (by kernel_rfl) (fun _ _ _ h => h) (hdrop 4) (Or.inl ⟨by rfl, ?_⟩) (hS _) ?_
                · rintro w' ⟨L, hL, hSw, hun⟩
                  go_simp
                simp only [List.getElem_toArray, List.getElem_cons_zero, List.getElem_cons_succ, Act.put, List.setIfInBounds_toArray, List.set_cons_zero, List.set_cons_succ]
                refine WA.take (i := 5) (v := .int .i64 (pa : Int)) rfl (by kernel_rfl) (by kernel_rfl) (by kernel_rfl) (fun _ _ _ h => h) (hdrop 5) (Or.inl ⟨by rfl, ?_⟩) (hS _) ?_
                · rintro w' ⟨L, hL, hSw, hun⟩
                  have hbw := hSo hSw
                  have k1 := cell_later hbw k1
                  clear hbw
                  go_simp
                simp only [List.getElem_toArray, List.getElem_cons_zero, List.getElem_cons_succ, Act.put, List.setIfInBounds_toArray, List.set_cons_zero, List.set_cons_succ]
                refine WA.take (i := 6) (v := .pointer (some ⟨lb, pa, none⟩)) rfl (by kernel_rfl) (by kernel_rfl) (by kernel_rfl) (fun _ _ _ h => h) (hdrop 6) (Or.inl ⟨by rfl, ?_⟩) (hS _) ?_
                · rintro w' ⟨L, hL, hSw, hun⟩
                  go_simp
                simp only [List.getElem_toArray, List.getElem_cons_zero, List.getElem_cons_succ, Act.put, List.setIfInBounds_toArray, List.set_cons_zero, List.set_cons_succ]
                refine WA.take (i := 7) (v := .slice (some ⟨ga, 0, none⟩) na_ ca_) rfl (by kernel_rfl) (by kernel_rfl) (by kernel_rfl) (fun _ _ _ h => h) (hdrop 7) (Or.inl ⟨by rfl, ?_⟩) (hS _) ?_
                · rintro w' ⟨L, hL, hSw, hun⟩
                  have hbw := hSo hSw
                  have cla := cell_later hbw cla
                  clear hbw
                  go_simp
                simp only [List.getElem_toArray, List.getElem_cons_zero, List.getElem_cons_succ, Act.put, List.setIfInBounds_toArray, List.set_cons_zero, List.set_cons_succ]
                refine WA.take (i := 8) (v := .slice (some ⟨gb, 0, none⟩) n n) rfl (by kernel_rfl) (by kernel_rfl) (by kernel_rfl) (fun _ _ _ h => h) (hdrop 8) (Or.inl ⟨by rfl, ?_⟩) (hS _) ?_
                · rintro w' ⟨L, hL, hSw, hun⟩
                  go_simp
                simp only [List.getElem_toArray, List.getElem_cons_zero, List.getElem_cons_succ, Act.put, List.setIfInBounds_toArray, List.set_cons_zero, List.set_cons_succ]
                refine WA.take (i := 9) (v := .slice (some ⟨b, off, none⟩) m ccap) rfl (by kernel_rfl) (by kernel_rfl) (by kernel_rfl) (fun _ _ _ h => h) (hdrop 9) (Or.inl ⟨by rfl, ?_⟩) (hS _) ?_
                · rintro w' ⟨L, hL, hSw, hun⟩
                  go_simp
                simp only [List.getElem_toArray, List.getElem_cons_zero, List.getElem_cons_succ, Act.put, List.setIfInBounds_toArray, List.set_cons_zero, List.set_cons_succ]
                refine WA.take (i := 10) (v := .int .i64 ((q : Nat) : Int)) rfl (by kernel_rfl) (by kernel_rfl) (by kernel_rfl) (fun _ _ _ h => h) (hdrop 10) (Or.inl ⟨by rfl, ?_⟩) (hS _) ?_
                · rintro w' ⟨L, hL, hSw, hun⟩
                  go_simp
                simp only [List.getElem_toArray, List.getElem_cons_zero, List.getElem_cons_succ, Act.put, List.setIfInBounds_toArray, List.set_cons_zero, List.set_cons_succ]
                refine WA.take (i := 11) (v := .pointer (some ⟨b, off + q * 3, none⟩)) rfl (by kernel_rfl) (by kernel_rfl) (by kernel_rfl) (fun _ _ _ h => h) (hdrop 11) (Or.inl ⟨by rfl, ?_⟩) (hS _) ?_
                · rintro w' ⟨L, hL, hSw, hun⟩
                  go_simp
                simp only [List.getElem_toArray, List.getElem_cons_zero, List.getElem_cons_succ, Act.put, List.setIfInBounds_toArray, List.set_cons_zero, List.set_cons_succ]
                refine WA.take (i := 12) (v := .pointer (some ⟨b, off + q * 3, none⟩)) rfl (by kernel_rfl) (by kernel_rfl) (by kernel_rfl) (fun _ _ _ h => h) (hdrop 12) (Or.inl ⟨by rfl, ?_⟩) (hS _) ?_
                · rintro w' ⟨L, hL, hSw, hun⟩
                  go_simp
                simp only [List.getElem_toArray, List.getElem_cons_zero, List.getElem_cons_succ, Act.put, List.setIfInBounds_toArray, List.set_cons_zero, List.set_cons_succ]
                refine WA.take (i := 13) (v := .int .i64 (pa : Int)) rfl (by kernel_rfl) (by kernel_rfl) (by kernel_rfl) (fun _ _ _ h => h) (hdrop 13) (Or.inl ⟨by rfl, ?_⟩) (hS _) ?_
                · rintro w' ⟨L, hL, hSw, hun⟩
                  have hbw := hSo hSw
                  have k1 := cell_later hbw k1
                  clear hbw
                  go_simp
                simp only [List.getElem_toArray, List.getElem_cons_zero, List.getElem_cons_succ, Act.put, List.setIfInBounds_toArray, List.set_cons_zero, List.set_cons_succ]
                refine WA.take (i := 14) (v := .pointer (some ⟨gb, pa, none⟩)) rfl (by kernel_rfl) (by kernel_rfl) (by kernel_rfl) (fun _ _ _ h => h) (hdrop 14) (Or.inl ⟨by rfl, ?_⟩) (hS _) ?_
                · rintro w' ⟨L, hL, hSw, hun⟩
                  go_simp
                simp only [List.getElem_toArray, List.getElem_cons_zero, List.getElem_cons_succ, Act.put, List.setIfInBounds_toArray, List.set_cons_zero, List.set_cons_succ]
                refine WA.take (i := 15) (v := .int .i64 ((da : Nat) : Int)) rfl (by kernel_rfl) (by kernel_rfl) (by kernel_rfl) (fun _ _ _ h => h) (hdrop 15) (Or.inl ⟨by rfl, ?_⟩) (hS _) ?_
                · rintro w' ⟨L, hL, hSw, hun⟩
                  have hbw := hSo hSw
                  have cda := cell_later hbw cda
                  clear hbw
                  go_simp
                simp only [List.getElem_toArray, List.getElem_cons_zero, List.getElem_cons_succ, Act.put, List.setIfInBounds_toArray, List.set_cons_zero, List.set_cons_succ]
                refine WA.take (i := 16) (v := .pointer (some ⟨ga, da, none⟩)) rfl (by kernel_rfl) (by kernel_rfl) (by kernel_rfl) (fun _ _ _ h => h) (hdrop 16) (Or.inl ⟨by rfl, ?_⟩) (hS _) ?_
                · rintro w' ⟨L, hL, hSw, hun⟩
                  go_simp
                simp only [List.getElem_toArray, List.getElem_cons_zero, List.getElem_cons_succ, Act.put, List.setIfInBounds_toArray, List.set_cons_zero, List.set_cons_succ]
                refine WA.take (i := 17) (v := .int .u32 za) rfl (by kernel_rfl) (by kernel_rfl) (by kernel_rfl) (fun _ _ _ h => h) (hdrop 17) (Or.inl ⟨by rfl, ?_⟩) (hS _) ?_
                · rintro w' ⟨L, hL, hSw, hun⟩
                  have hbw := hSo hSw
                  have va_ := cell_later hbw va_
                  clear hbw
                  go_simp
                simp only [List.getElem_toArray, List.getElem_cons_zero, List.getElem_cons_succ, Act.put, List.setIfInBounds_toArray, List.set_cons_zero, List.set_cons_succ]
                refine WA.take (i := 18) (v := .slice (some ⟨lb, 0, none⟩) n lcap) rfl (by kernel_rfl) (by kernel_rfl) (by kernel_rfl) (fun _ _ _ h => h) (hdrop 18) (Or.inl ⟨by rfl, ?_⟩) (hS _) ?_
                · rintro w' ⟨L, hL, hSw, hun⟩
                  go_simp
                simp only [List.getElem_toArray, List.getElem_cons_zero, List.getElem_cons_succ, Act.put, List.setIfInBounds_toArray, List.set_cons_zero, List.set_cons_succ]
                refine WA.take (i := 19) (v := .slice (some ⟨b, off, none⟩) m ccap) rfl (by kernel_rfl) (by kernel_rfl) (by kernel_rfl) (fun _ _ _ h => h) (hdrop 19) (Or.inl ⟨by rfl, ?_⟩) (hS _) ?_
                · rintro w' ⟨L, hL, hSw, hun⟩
                  go_simp
                simp only [List.getElem_toArray, List.getElem_cons_zero, List.getElem_cons_succ, Act.put, List.setIfInBounds_toArray, List.set_cons_zero, List.set_cons_succ]
                refine WA.take (i := 20) (v := .int .i64 ((q : Nat) : Int)) rfl (by kernel_rfl) (by kernel_rfl) (by kernel_rfl) (fun _ _ _ h => h) (hdrop 20) (Or.inl ⟨by rfl, ?_⟩) (hS _) ?_
                · rintro w' ⟨L, hL, hSw, hun⟩
                  go_simp
                simp only [List.getElem_toArray, List.getElem_cons_zero, List.getElem_cons_succ, Act.put, List.setIfInBounds_toArray, List.set_cons_zero, List.set_cons_succ]
                refine WA.take (i := 21) (v := .pointer (some ⟨b, off + q * 3, none⟩)) rfl (by kernel_rfl) (by kernel_rfl) (by kernel_rfl) (fun _ _ _ h => h) (hdrop 21) (Or.inl ⟨by rfl, ?_⟩) (hS _) ?_
                · rintro w' ⟨L, hL, hSw, hun⟩
                  go_simp
                simp only [List.getElem_toArray, List.getElem_cons_zero, List.getElem_cons_succ, Act.put, List.setIfInBounds_toArray, List.set_cons_zero, List.set_cons_succ]
                refine WA.take (i := 22) (v := .pointer (some ⟨b, off + q * 3 + 1, none⟩)) rfl (by kernel_rfl) (by kernel_rfl) (by kernel_rfl) (fun _ _ _ h => h) (hdrop 22) (Or.inl ⟨by rfl, ?_⟩) (hS _) ?_
                · rintro w' ⟨L, hL, hSw, hun⟩
                  go_simp
                simp only [List.getElem_toArray, List.getElem_cons_zero, List.getElem_cons_succ, Act.put, List.setIfInBounds_toArray, List.set_cons_zero, List.set_cons_succ]
                refine WA.take (i := 23) (v := .int .i64 (pc : Int)) rfl (by kernel_rfl) (by kernel_rfl) (by kernel_rfl) (fun _ _ _ h => h) (hdrop 23) (Or.inl ⟨by rfl, ?_⟩) (hS _) ?_
                · rintro w' ⟨L, hL, hSw, hun⟩
                  have hbw := hSo hSw
                  have k2 := cell_later hbw k2
                  clear hbw
                  go_simp
                simp only [List.getElem_toArray, List.getElem_cons_zero, List.getElem_cons_succ, Act.put, List.setIfInBounds_toArray, List.set_cons_zero, List.set_cons_succ]
                refine WA.take (i := 24) (v := .pointer (some ⟨lb, pc, none⟩)) rfl (by kernel_rfl) (by kernel_rfl) (by kernel_rfl) (fun _ _ _ h => h) (hdrop 24) (Or.inl ⟨by rfl, ?_⟩) (hS _) ?_
                · rintro w' ⟨L, hL, hSw, hun⟩
                  go_simp
                simp only [List.getElem_toArray, List.getElem_cons_zero, List.getElem_cons_succ, Act.put, List.setIfInBounds_toArray, List.set_cons_zero, List.set_cons_succ]
                refine WA.take (i := 25) (v := .slice (some ⟨gc, 0, none⟩) nc_ cc_) rfl (by kernel_rfl) (by kernel_rfl) (by kernel_rfl) (fun _ _ _ h => h) (hdrop 25) (Or.inl ⟨by rfl, ?_⟩) (hS _) ?_
                · rintro w' ⟨L, hL, hSw, hun⟩
                  have hbw := hSo hSw
                  have clc := cell_later hbw clc
                  clear hbw
                  go_simp
                simp only [List.getElem_toArray, List.getElem_cons_zero, List.getElem_cons_succ, Act.put, List.setIfInBounds_toArray, List.set_cons_zero, List.set_cons_succ]
                refine WA.take (i := 26) (v := .slice (some ⟨gb, 0, none⟩) n n) rfl (by kernel_rfl) (by kernel_rfl) (by kernel_rfl) (fun _ _ _ h => h) (hdrop 26) (Or.inl ⟨by rfl, ?_⟩) (hS _) ?_
                · rintro w' ⟨L, hL, hSw, hun⟩
                  go_simp
                simp only [List.getElem_toArray, List.getElem_cons_zero, List.getElem_cons_succ, Act.put, List.setIfInBounds_toArray, List.set_cons_zero, List.set_cons_succ]
                refine WA.take (i := 27) (v := .slice (some ⟨b, off, none⟩) m ccap) rfl (by kernel_rfl) (by kernel_rfl) (by kernel_rfl) (fun _ _ _ h => h) (hdrop 27) (Or.inl ⟨by rfl, ?_⟩) (hS _) ?_
                · rintro w' ⟨L, hL, hSw, hun⟩
                  go_simp
                simp only [List.getElem_toArray, List.getElem_cons_zero, List.getElem_cons_succ, Act.put, List.setIfInBounds_toArray, List.set_cons_zero, List.set_cons_succ]
                refine WA.take (i := 28) (v := .int .i64 ((q : Nat) : Int)) rfl (by kernel_rfl) (by kernel_rfl) (by kernel_rfl) (fun _ _ _ h => h) (hdrop 28) (Or.inl ⟨by rfl, ?_⟩) (hS _) ?_
                · rintro w' ⟨L, hL, hSw, hun⟩
                  go_simp
                simp only [List.getElem_toArray, List.getElem_cons_zero, List.getElem_cons_succ, Act.put, List.setIfInBounds_toArray, List.set_cons_zero, List.set_cons_succ]
                refine WA.take (i := 29) (v := .pointer (some ⟨b, off + q * 3, none⟩)) rfl (by kernel_rfl) (by kernel_rfl) (by kernel_rfl) (fun _ _ _ h => h) (hdrop 29) (Or.inl ⟨by rfl, ?_⟩) (hS _) ?_
                · rintro w' ⟨L, hL, hSw, hun⟩
                  go_simp
                simp only [List.getElem_toArray, List.getElem_cons_zero, List.getElem_cons_succ, Act.put, List.setIfInBounds_toArray, List.set_cons_zero, List.set_cons_succ]
                refine WA.take (i := 30) (v := .pointer (some ⟨b, off + q * 3 + 1, none⟩)) rfl (by kernel_rfl) (by kernel_rfl) (by kernel_rfl) (fun _ _ _ h => h) (hdrop 30) (Or.inl ⟨by rfl, ?_⟩) (hS _) ?_
                · rintro w' ⟨L, hL, hSw, hun⟩
                  go_simp
                simp only [List.getElem_toArray, List.getElem_cons_zero, List.getElem_cons_succ, Act.put, List.setIfInBounds_toArray, List.set_cons_zero, List.set_cons_succ]
                refine WA.take (i := 31) (v := .int .i64 (pc : Int)) rfl (by kernel_rfl) (by kernel_rfl) (by kernel_rfl) (fun _ _ _ h => h) (hdrop 31) (Or.inl ⟨by rfl, ?_⟩) (hS _) ?_
                · rintro w' ⟨L, hL, hSw, hun⟩
                  have hbw := hSo hSw
                  have k2 := cell_later hbw k2
                  clear hbw
                  go_simp
                simp only [List.getElem_toArray, List.getElem_cons_zero, List.getElem_cons_succ, Act.put, List.setIfInBounds_toArray, List.set_cons_zero, List.set_cons_succ]
                refine WA.take (i := 32) (v := .pointer (some ⟨gb, pc, none⟩)) rfl (by kernel_rfl) (by kernel_rfl) (by kernel_rfl) (fun _ _ _ h => h) (hdrop 32) (Or.inl ⟨by rfl, ?_⟩) (hS _) ?_
                · rintro w' ⟨L, hL, hSw, hun⟩
                  go_simp
                simp only [List.getElem_toArray, List.getElem_cons_zero, List.getElem_cons_succ, Act.put, List.setIfInBounds_toArray, List.set_cons_zero, List.set_cons_succ]
                refine WA.take (i := 33) (v := .int .i64 ((dc : Nat) : Int)) rfl (by kernel_rfl) (by kernel_rfl) (by kernel_rfl) (fun _ _ _ h => h) (hdrop 33) (Or.inl ⟨by rfl, ?_⟩) (hS _) ?_
                · rintro w' ⟨L, hL, hSw, hun⟩
                  have hbw := hSo hSw
                  have cdc := cell_later hbw cdc
                  clear hbw
                  go_simp
                simp only [List.getElem_toArray, List.getElem_cons_zero, List.getElem_cons_succ, Act.put, List.setIfInBounds_toArray, List.set_cons_zero, List.set_cons_succ]
                refine WA.take (i := 34) (v := .pointer (some ⟨gc, dc, none⟩)) rfl (by kernel_rfl) (by kernel_rfl) (by kernel_rfl) (fun _ _ _ h => h) (hdrop 34) (Or.inl ⟨by rfl, ?_⟩) (hS _) ?_
                · rintro w' ⟨L, hL, hSw, hun⟩
                  go_simp
                simp only [List.getElem_toArray, List.getElem_cons_zero, List.getElem_cons_succ, Act.put, List.setIfInBounds_toArray, List.set_cons_zero, List.set_cons_succ]
                refine WA.take (i := 35) (v := .int .u32 zc) rfl (by kernel_rfl) (by kernel_rfl) (by kernel_rfl) (fun _ _ _ h => h) (hdrop 35) (Or.inl ⟨by rfl, ?_⟩) (hS _) ?_
                · rintro w' ⟨L, hL, hSw, hun⟩
                  have hbw := hSo hSw
                  have vc_ := cell_later hbw vc_
                  clear hbw
                  go_simp
                simp only [List.getElem_toArray, List.getElem_cons_zero, List.getElem_cons_succ, Act.put, List.setIfInBounds_toArray, List.set_cons_zero, List.set_cons_succ]
                refine WA.take (i := 36) (v := .int .u32 za) rfl (by kernel_rfl) (by kernel_rfl) (by kernel_rfl) (fun _ _ _ h => h) (hdrop 36) (Or.inl ⟨by rfl, ?_⟩) (hS _) ?_
                · rintro w' ⟨L, hL, hSw, hun⟩
                  go_simp
                simp only [List.getElem_toArray, List.getElem_cons_zero, List.getElem_cons_succ, Act.put, List.setIfInBounds_toArray, List.set_cons_zero, List.set_cons_succ]
                refine WA.take (i := 37) (v := .int .u32 zc) rfl (by kernel_rfl) (by kernel_rfl) (by kernel_rfl) (fun _ _ _ h => h) (hdrop 37) (Or.inl ⟨by rfl, ?_⟩) (hS _) ?_
                · rintro w' ⟨L, hL, hSw, hun⟩
                  go_simp
                simp only [List.getElem_toArray, List.getElem_cons_zero, List.getElem_cons_succ, Act.put, List.setIfInBounds_toArray, List.set_cons_zero, List.set_cons_succ]
                refine WA.done (by kernel_rfl) ?_ _
                refine Nrm.normal ?_
                clear hSo hS hSi hdrop k1 k2 cla clc cda cdc va_ vc_
                clear S30
                have HB3 := Lib.hid (show Below wm.heap.size wm X30 by rw [HX30.out]; exact HB2.out.drew)
                cases g0 with
                | false =>
                  go_wp2_with fail
                  go_roundg (m - (q + 1))
                  case measure => omega
                  case rel => exact ⟨q + 1, by omega, by push_cast; rfl, by rw [Htk.out]; rfl, HB3.out⟩
                | true =>
                  obtain ⟨b1, hb1⟩ : ∃ b1, (za != zc) = b1 := ⟨_, rfl⟩
                  obtain ⟨b2, hb2⟩ : ∃ b2, (b1 == xu) = b2 := ⟨_, rfl⟩
                  have Hb := Lib.hid (show ((za != zc) == xu) = b2 by rw [hb1, hb2])
                  go_wp2_with fail
                  go_roundg (m - (q + 1))
                  case measure => omega
                  case rel => exact ⟨q + 1, by omega, by push_cast; rfl, by rw [Htk.out, Hb.out]; rfl, HB3.out⟩
              · have hd2 : decide ((q : Int) < (m : Int)) = false := by simp; omega
                rw [List.take_of_length_le (show C.length ≤ q by have := Hm.out; omega)]
                have hall : (C.all (okB (chosenL LL D)) = true) ↔ ∀ c ∈ C, okC (chosenL LL D) c := by
                  rw [List.all_eq_true]
                  exact ⟨fun h c hc => (okB_iff _ _).1 (h c hc), fun h c hc => (okB_iff _ _).2 (h c hc)⟩
                obtain ⟨g0, hg0⟩ : ∃ g0, C.all (okB (chosenL LL D)) = g0 := ⟨_, rfl⟩
                rw [hg0] at hall ⊢
                have Hall := Lib.hid hall; have HBq := Lib.hid (HBm.out.trans (HB2.out.mono HBm.out.size))
                clear hall hg0
                cases g0 with
                | true =>
                  go_wp2_with fail
                  go_ret
                  exact ⟨true, rfl, ⟨fun _ => HP.out.2 ⟨D, HD.out, Hall.out.1 (by trivial)⟩, fun _ => rfl⟩, HBq.out⟩
                | false =>
                  have hnot : ¬ ∀ c ∈ C, okC (chosenL LL D) c := fun h => by have := Hall.out.2 h; cases this
                  have hbd : ∀ E, Dig E (lensL LL) → odo E (lensL LL) < odo D (lensL LL) + 1 → ¬ ∀ c ∈ C, okC (chosenL LL E) c := fun E hE h => by
                    rcases Nat.lt_succ_iff_lt_or_eq.1 h with h | h
                    · exact Hbad.out E hE h
                    · rw [odo_inj hE HD.out h]; exact hnot
                  have Hbd := Lib.hid hbd
                  have hdg2 := (HB2.out.block gb (lt_of_heap HDg.out)).trans HDg.out
                  have Hdg2 := Lib.hid hdg2; have HTq := Lib.hid (HTm.out.trans (BodB.below HB2.out)); have HOq := Lib.hid (HOm.out.below HB2.out)
                  clear hbd hnot hdg2 Hall hd2
                  go_wp2_with fail
                  go_loopg [20] n (fun k u20 w3 => ∃ p : Nat, p + k = n ∧ u20 = .int .i64 p ∧ w3.heap[gb]? = some (.cells (digs (List.replicate p 0 ++ D.drop p)) 3 (0, 0)) ∧ (∀ j, j < p → D.getD j 0 + 1 = (lensL LL).getD j 0) ∧ BodB w2 w3 gb)
                  case atStart => exact ⟨0, by omega, rfl, by simpa using Hdg2.out, fun j h => by omega, BodB.refl _ _⟩
                  case round =>
                    rename World => w3
                    obtain ⟨p, hp, rfl, hpg, hover, hT3⟩ := hrel
                    have Hpg := Lib.hid hpg; have Hover := Lib.hid hover; have HT3 := Lib.hid hT3
                    clear hpg hover hT3
                    by_cases hpn : p < n
                    · have hd3 : decide ((p : Int) < (n : Int)) = true := by simp; omega
                      obtain ⟨d, hd⟩ : ∃ d, D.getD p 0 = d := ⟨_, rfl⟩
                      have hlp := HD.out.2 p (by rw [lensL_len, HLl.out]; exact hpn)
                      rw [lensL_at, hd] at hlp
                      have hEl : (List.replicate p 0 ++ D.drop p).length = n := by simp [HDl.out]; omega
                      have hEp : (List.replicate p 0 ++ D.drop p).getD p 0 = d := by
                        rw [List.getD_eq_getElem?_getD, List.getElem?_append_right (by simp), List.getElem?_drop]
                        simp only [List.length_replicate, Nat.sub_self, Nat.add_zero]
                        rw [← List.getD_eq_getElem?_getD]; exact hd
                      have cp := digs_cell Hpg.out (j := p) (by rw [hEl]; exact hpn)
                      rw [hEp] at cp
                      have fp := arr_frozen Hpg.out p
                      obtain ⟨lp, hlpe⟩ : ∃ lp, (LL.getD p []).length = lp := ⟨_, rfl⟩
                      have hlL : (lensL LL).getD p 0 = lp := by rw [lensL_at, hlpe]
                      have hdig := arr_set Hpg.out p (.int .i64 ((d : Int) + 1))
                      have hnx : (digs (List.replicate p 0 ++ D.drop p)).setIfInBounds p (.int .i64 ((d : Int) + 1)) = digs ((List.replicate p 0 ++ D.drop p).set p (d + 1)) := by
                        rw [← digs_set]; push_cast; rfl
                      rw [hnx] at hdig
                      have hT4 : BodB w2 (w3.setCell ⟨gb, p, none⟩ (.int .i64 ((d : Int) + 1))) gb := HT3.out.set _
                      obtain ⟨lb, gp, cq, rfl, clp, mlp, _⟩ := (HOq.out.bod hT4 Hdg2.out).at (p := p) (by rw [HLl.out]; exact hpn) hlp
                      rw [hlpe] at hlp clp mlp
                      simp only [maxLen] at mlp
                      have cp4 := digs_cell hdig (j := p) (by rw [List.length_set, hEl]; exact hpn)
                      rw [getD_set_same (by rw [hEl]; exact hpn)] at cp4
                      have hup : (List.replicate p 0 ++ D.drop p).set p (d + 1) = odoUp p D := by rw [← hd]; rfl
                      have Hdig := Lib.hid hdig; have HT4 := Lib.hid hT4; have Hup := Lib.hid hup; have HlL := Lib.hid hlL; have Hd := Lib.hid hd; have HEl := Lib.hid hEl
                      clear hdig hnx hEp hup hlL hd hlpe hT4
                      go_upto_region 37 with fail
                      clear cp fp
                      generalize w3.setCell ⟨gb, p, none⟩ (.int .i64 ((d : Int) + 1)) = w4 at *
                      by_cases hlt : d + 1 < lp
                      · have hd4 : decide ((d : Int) + 1 < (lp : Int)) = true := by simp; omega
                        have cp4 : w4.drew.cell? ⟨gb, p, none⟩ = some (.int .i64 ((d + 1 : Nat) : Int)) := cp4
                        have clp : w4.drew.cell? ⟨lb, p, none⟩ = some (.slice (some ⟨gp, 0, none⟩) lp cq) := clp
                        obtain ⟨S37, hSe⟩ : ∃ S : Array Bool → World → Prop, S = fun _ w' => Below w4.drew.heap.size w4.drew w' := ⟨_, rfl⟩
                        have hdrop : ∀ i : Nat, ∀ L w', S37 (L.setIfInBounds i true) w' → S37 L w' := by
                          intro i L w' h; rw [hSe] at h ⊢; exact h
                        have hS : ∀ L, S37 L w4.drew := by intro L; rw [hSe]; exact Below.refl _ _
                        have hSo : ∀ {L w'}, S37 L w' → Below w4.drew.heap.size w4.drew w' := by intro L w' h; rw [hSe] at h; exact h
                        have hSi : ∀ {w'}, Below w4.drew.heap.size w4.drew w' → ∀ L, S37 L w' := by intro w' h L; rw [hSe]; exact h
                        clear hSe
                        refine wp_region_LN S37 10 #[false, false, false, false, false, false, false, false, false, false] (by kernel_rfl) (by kernel_rfl) rfl ?_
                        obtain ⟨X37, hX37⟩ : ∃ X37, X37 = w4.drew := ⟨_, rfl⟩
                        rw [← hX37] at cp4 clp hSo hS hSi ⊢
                        have HX37 := Lib.hid hX37
                        clear hX37
                        refine WA.take (i := 0) (v := .slice (some ⟨gb, 0, none⟩) n n) rfl (by kernel_rfl) (by kernel_rfl) (by kernel_rfl) (fun _ _ _ h => h) (hdrop 0) (Or.inl ⟨by rfl, ?_⟩) (hS _) ?_
                        · rintro w' ⟨L, hL, hSw, hun⟩
                          go_simp
                        simp only [List.getElem_toArray, List.getElem_cons_zero, List.getElem_cons_succ, Act.put, List.setIfInBounds_toArray, List.set_cons_zero, List.set_cons_succ]
                        refine WA.take (i := 1) (v := .int .i64 ((p : Nat) : Int)) rfl (by kernel_rfl) (by kernel_rfl) (by kernel_rfl) (fun _ _ _ h => h) (hdrop 1) (Or.inl ⟨by rfl, ?_⟩) (hS _) ?_
                        · rintro w' ⟨L, hL, hSw, hun⟩
                          go_simp
                        simp only [List.getElem_toArray, List.getElem_cons_zero, List.getElem_cons_succ, Act.put, List.setIfInBounds_toArray, List.set_cons_zero, List.set_cons_succ]
                        refine WA.take (i := 2) (v := .pointer (some ⟨gb, p, none⟩)) rfl (by kernel_rfl) (by kernel_rfl) (by kernel_rfl) (fun _ _ _ h => h) (hdrop 2) (Or.inl ⟨by rfl, ?_⟩) (hS _) ?_
                        · rintro w' ⟨L, hL, hSw, hun⟩
                          go_simp
                        simp only [List.getElem_toArray, List.getElem_cons_zero, List.getElem_cons_succ, Act.put, List.setIfInBounds_toArray, List.set_cons_zero, List.set_cons_succ]
                        refine WA.take (i := 3) (v := .int .i64 ((d + 1 : Nat) : Int)) rfl (by kernel_rfl) (by kernel_rfl) (by kernel_rfl) (fun _ _ _ h => h) (hdrop 3) (Or.inl ⟨by rfl, ?_⟩) (hS _) ?_
                        · rintro w' ⟨L, hL, hSw, hun⟩
                          have hbw := hSo hSw
                          have cp4 := cell_later hbw cp4
                          clear hbw
                          go_simp
                        simp only [List.getElem_toArray, List.getElem_cons_zero, List.getElem_cons_succ, Act.put, List.setIfInBounds_toArray, List.set_cons_zero, List.set_cons_succ]
                        refine WA.take (i := 4) (v := .slice (some ⟨lb, 0, none⟩) n lcap) rfl (by kernel_rfl) (by kernel_rfl) (by kernel_rfl) (fun _ _ _ h => h) (hdrop 4) (Or.inl ⟨by rfl, ?_⟩) (hS _) ?_
                        · rintro w' ⟨L, hL, hSw, hun⟩
                          go_simp
                        simp only [List.getElem_toArray, List.getElem_cons_zero, List.getElem_cons_succ, Act.put, List.setIfInBounds_toArray, List.set_cons_zero, List.set_cons_succ]
                        refine WA.take (i := 5) (v := .int .i64 ((p : Nat) : Int)) rfl (by kernel_rfl) (by kernel_rfl) (by kernel_rfl) (fun _ _ _ h => h) (hdrop 5) (Or.inl ⟨by rfl, ?_⟩) (hS _) ?_
                        · rintro w' ⟨L, hL, hSw, hun⟩
                          go_simp
                        simp only [List.getElem_toArray, List.getElem_cons_zero, List.getElem_cons_succ, Act.put, List.setIfInBounds_toArray, List.set_cons_zero, List.set_cons_succ]
                        refine WA.take (i := 6) (v := .pointer (some ⟨lb, p, none⟩)) rfl (by kernel_rfl) (by kernel_rfl) (by kernel_rfl) (fun _ _ _ h => h) (hdrop 6) (Or.inl ⟨by rfl, ?_⟩) (hS _) ?_
                        · rintro w' ⟨L, hL, hSw, hun⟩
                          go_simp
                        simp only [List.getElem_toArray, List.getElem_cons_zero, List.getElem_cons_succ, Act.put, List.setIfInBounds_toArray, List.set_cons_zero, List.set_cons_succ]
                        refine WA.take (i := 7) (v := .slice (some ⟨gp, 0, none⟩) lp cq) rfl (by kernel_rfl) (by kernel_rfl) (by kernel_rfl) (fun _ _ _ h => h) (hdrop 7) (Or.inl ⟨by rfl, ?_⟩) (hS _) ?_
                        · rintro w' ⟨L, hL, hSw, hun⟩
                          have hbw := hSo hSw
                          have clp := cell_later hbw clp
                          clear hbw
                          go_simp
                        simp only [List.getElem_toArray, List.getElem_cons_zero, List.getElem_cons_succ, Act.put, List.setIfInBounds_toArray, List.set_cons_zero, List.set_cons_succ]
                        refine WA.take (i := 8) (v := .int .i64 ((lp : Nat) : Int)) rfl (by kernel_rfl) (by kernel_rfl) (by kernel_rfl) (fun _ _ _ h => h) (hdrop 8) (Or.inl ⟨by rfl, ?_⟩) (hS _) ?_
                        · rintro w' ⟨L, hL, hSw, hun⟩
                          go_simp
                        simp only [List.getElem_toArray, List.getElem_cons_zero, List.getElem_cons_succ, Act.put, List.setIfInBounds_toArray, List.set_cons_zero, List.set_cons_succ]
                        refine WA.take (i := 9) (v := .bool true) rfl (by kernel_rfl) (by kernel_rfl) (by kernel_rfl) (fun _ _ _ h => h) (hdrop 9) (Or.inl ⟨by rfl, ?_⟩) (hS _) ?_
                        · rintro w' ⟨L, hL, hSw, hun⟩
                          go_simp
                        simp only [List.getElem_toArray, List.getElem_cons_zero, List.getElem_cons_succ, Act.put, List.setIfInBounds_toArray, List.set_cons_zero, List.set_cons_succ]
                        refine WA.done (by kernel_rfl) ?_ _
                        refine Nrm.normal ?_
                        clear hSo hS hSi hdrop cp4 clp
                        clear S37
                        have HT5 := Lib.hid (show BodB w0 X37 gb by rw [HX37.out]; exact HTq.out.trans (HT4.out.trans (BodB.below (Below.refl _ _).drew)))
                        have Hdig5 := Lib.hid (show X37.heap[gb]? = some (.cells (digs (odoUp p D)) 3 (0, 0)) by rw [← Hup.out, HX37.out]; exact Hdig.out)
                        have hpq : ((p : Int) == (n : Int)) = false := by simp; omega
                        have hov := odo_up (i := p) (ls := lensL LL) (ds := D) HD.out.1 (by rw [lensL_len, HLl.out]; exact hpn) Hover.out
                        have hod := odoUp_dig HD.out (i := p) (by rw [lensL_len, HLl.out]; exact hpn) (by rw [Hd.out, HlL.out]; exact hlt)
                        have hlo := odo_lt HD.out
                        have Hov := Lib.hid hov; have Hod := Lib.hid hod; have Hlo := Lib.hid hlo
                        clear hov hod hlo
                        go_wp2_with fail
                        go_roundg (odoAll (lensL LL) - odo (odoUp p D) (lensL LL))
                        case measure => have := Hov.out; have := HDk.out; have := Hlo.out; omega
                        case rel =>
                          have hl5 := odo_lt Hod.out
                          exact ⟨odoUp p D, by omega, Hod.out, Hdig5.out, fun E hE h => Hbd.out E hE (by rw [Hov.out] at h; exact h), HT5.out⟩
                      · have hd4 : decide ((d : Int) + 1 < (lp : Int)) = false := by simp; omega
                        have cp4 : w4.drew.cell? ⟨gb, p, none⟩ = some (.int .i64 ((d + 1 : Nat) : Int)) := cp4
                        have clp : w4.drew.cell? ⟨lb, p, none⟩ = some (.slice (some ⟨gp, 0, none⟩) lp cq) := clp
                        obtain ⟨S37, hSe⟩ : ∃ S : Array Bool → World → Prop, S = fun _ w' => Below w4.drew.heap.size w4.drew w' := ⟨_, rfl⟩
                        have hdrop : ∀ i : Nat, ∀ L w', S37 (L.setIfInBounds i true) w' → S37 L w' := by
                          intro i L w' h; rw [hSe] at h ⊢; exact h
                        have hS : ∀ L, S37 L w4.drew := by intro L; rw [hSe]; exact Below.refl _ _
                        have hSo : ∀ {L w'}, S37 L w' → Below w4.drew.heap.size w4.drew w' := by intro L w' h; rw [hSe] at h; exact h
                        have hSi : ∀ {w'}, Below w4.drew.heap.size w4.drew w' → ∀ L, S37 L w' := by intro w' h L; rw [hSe]; exact h
                        clear hSe
                        refine wp_region_LN S37 10 #[false, false, false, false, false, false, false, false, false, false] (by kernel_rfl) (by kernel_rfl) rfl ?_
                        obtain ⟨X37, hX37⟩ : ∃ X37, X37 = w4.drew := ⟨_, rfl⟩
                        rw [← hX37] at cp4 clp hSo hS hSi ⊢
                        have HX37 := Lib.hid hX37
                        clear hX37
                        refine WA.take (i := 0) (v := .slice (some ⟨gb, 0, none⟩) n n) rfl (by kernel_rfl) (by kernel_rfl) (by kernel_rfl) (fun _ _ _ h => h) (hdrop 0) (Or.inl ⟨by rfl, ?_⟩) (hS _) ?_
                        · rintro w' ⟨L, hL, hSw, hun⟩
                          go_simp
                        simp only [List.getElem_toArray, List.getElem_cons_zero, List.getElem_cons_succ, Act.put, List.setIfInBounds_toArray, List.set_cons_zero, List.set_cons_succ]
                        refine WA.take (i := 1) (v := .int .i64 ((p : Nat) : Int)) rfl (by kernel_rfl) (by kernel_rfl) (by kernel_rfl) (fun _ _ _ h => h) (hdrop 1) (Or.inl ⟨by rfl, ?_⟩) (hS _) ?_
                        · rintro w' ⟨L, hL, hSw, hun⟩
                          go_simp
                        simp only [List.getElem_toArray, List.getElem_cons_zero, List.getElem_cons_succ, Act.put, List.setIfInBounds_toArray, List.set_cons_zero, List.set_cons_succ]
                        refine WA.take (i := 2) (v := .pointer (some ⟨gb, p, none⟩)) rfl (by kernel_rfl) (by kernel_rfl) (by kernel_rfl) (fun _ _ _ h => h) (hdrop 2) (Or.inl ⟨by rfl, ?_⟩) (hS _) ?_
                        · rintro w' ⟨L, hL, hSw, hun⟩
                          go_simp
                        simp only [List.getElem_toArray, List.getElem_cons_zero, List.getElem_cons_succ, Act.put, List.setIfInBounds_toArray, List.set_cons_zero, List.set_cons_succ]
                        refine WA.take (i := 3) (v := .int .i64 ((d + 1 : Nat) : Int)) rfl (by kernel_rfl) (by kernel_rfl) (by kernel_rfl) (fun _ _ _ h => h) (hdrop 3) (Or.inl ⟨by rfl, ?_⟩) (hS _) ?_
                        · rintro w' ⟨L, hL, hSw, hun⟩
                          have hbw := hSo hSw
                          have cp4 := cell_later hbw cp4
                          clear hbw
                          go_simp
                        simp only [List.getElem_toArray, List.getElem_cons_zero, List.getElem_cons_succ, Act.put, List.setIfInBounds_toArray, List.set_cons_zero, List.set_cons_succ]
                        refine WA.take (i := 4) (v := .slice (some ⟨lb, 0, none⟩) n lcap) rfl (by kernel_rfl) (by kernel_rfl) (by kernel_rfl) (fun _ _ _ h => h) (hdrop 4) (Or.inl ⟨by rfl, ?_⟩) (hS _) ?_
                        · rintro w' ⟨L, hL, hSw, hun⟩
                          go_simp
                        simp only [List.getElem_toArray, List.getElem_cons_zero, List.getElem_cons_succ, Act.put, List.setIfInBounds_toArray, List.set_cons_zero, List.set_cons_succ]
                        refine WA.take (i := 5) (v := .int .i64 ((p : Nat) : Int)) rfl (by kernel_rfl) (by kernel_rfl) (by kernel_rfl) (fun _ _ _ h => h) (hdrop 5) (Or.inl ⟨by rfl, ?_⟩) (hS _) ?_
                        · rintro w' ⟨L, hL, hSw, hun⟩
                          go_simp
                        simp only [List.getElem_toArray, List.getElem_cons_zero, List.getElem_cons_succ, Act.put, List.setIfInBounds_toArray, List.set_cons_zero, List.set_cons_succ]
                        refine WA.take (i := 6) (v := .pointer (some ⟨lb, p, none⟩)) rfl (by kernel_rfl) (by kernel_rfl) (by kernel_rfl) (fun _ _ _ h => h) (hdrop 6) (Or.inl ⟨by rfl, ?_⟩) (hS _) ?_
                        · rintro w' ⟨L, hL, hSw, hun⟩
                          go_simp
                        simp only [List.getElem_toArray, List.getElem_cons_zero, List.getElem_cons_succ, Act.put, List.setIfInBounds_toArray, List.set_cons_zero, List.set_cons_succ]
                        refine WA.take (i := 7) (v := .slice (some ⟨gp, 0, none⟩) lp cq) rfl (by kernel_rfl) (by kernel_rfl) (by kernel_rfl) (fun _ _ _ h => h) (hdrop 7) (Or.inl ⟨by rfl, ?_⟩) (hS _) ?_
                        · rintro w' ⟨L, hL, hSw, hun⟩
                          have hbw := hSo hSw
                          have clp := cell_later hbw clp
                          clear hbw
                          go_simp
                        simp only [List.getElem_toArray, List.getElem_cons_zero, List.getElem_cons_succ, Act.put, List.setIfInBounds_toArray, List.set_cons_zero, List.set_cons_succ]
                        refine WA.take (i := 8) (v := .int .i64 ((lp : Nat) : Int)) rfl (by kernel_rfl) (by kernel_rfl) (by kernel_rfl) (fun _ _ _ h => h) (hdrop 8) (Or.inl ⟨by rfl, ?_⟩) (hS _) ?_
                        · rintro w' ⟨L, hL, hSw, hun⟩
                          go_simp
                        simp only [List.getElem_toArray, List.getElem_cons_zero, List.getElem_cons_succ, Act.put, List.setIfInBounds_toArray, List.set_cons_zero, List.set_cons_succ]
                        refine WA.take (i := 9) (v := .bool false) rfl (by kernel_rfl) (by kernel_rfl) (by kernel_rfl) (fun _ _ _ h => h) (hdrop 9) (Or.inl ⟨by rfl, ?_⟩) (hS _) ?_
                        · rintro w' ⟨L, hL, hSw, hun⟩
                          go_simp
                        simp only [List.getElem_toArray, List.getElem_cons_zero, List.getElem_cons_succ, Act.put, List.setIfInBounds_toArray, List.set_cons_zero, List.set_cons_succ]
                        refine WA.done (by kernel_rfl) ?_ _
                        refine Nrm.normal ?_
                        clear hSo hS hSi hdrop cp4 clp
                        clear S37
                        have hdig5 : X37.heap[gb]? = some (.cells (digs ((List.replicate p 0 ++ D.drop p).set p (d + 1))) 3 (0, 0)) := by rw [HX37.out]; exact Hdig.out
                        have cp5 := digs_cell hdig5 (j := p) (by rw [List.length_set, HEl.out]; exact hpn)
                        have fp5 := arr_frozen hdig5 p
                        have hdig6 := arr_set hdig5 p (.int .i64 0)
                        rw [show (Value.int .i64 0) = .int .i64 ((0 : Nat) : Int) from rfl, digs_set, List.set_set, odo_over (by rw [HDl.out]; exact hpn)] at hdig6
                        have HT5 := Lib.hid (show BodB w2 X37 gb by rw [HX37.out]; exact HT4.out.trans (BodB.below (Below.refl _ _).drew))
                        have Hdig6 := Lib.hid hdig6
                        clear hdig5 hdig6
                        go_wp2_with fail
                        go_roundg (n - (p + 1))
                        case measure => omega
                        case rel => exact ⟨p + 1, by omega, by push_cast; rfl, Hdig6.out, fun j hj => (by
                          rcases Nat.lt_succ_iff_lt_or_eq.1 hj with h | rfl
                          · exact Hover.out j h
                          · rw [Hd.out, HlL.out]; omega), HT5.out.set _⟩
                    · have hd3 : decide ((p : Int) < (n : Int)) = false := by simp; omega
                      obtain rfl : n = p := by omega
                      have hpq : ((n : Int) == (n : Int)) = true := by simp
                      have hmx := odo_max (ls := lensL LL) (ds := D) HD.out.1 (by rw [lensL_len, HLl.out]; exact Hover.out)
                      have Hmx := Lib.hid hmx
                      clear hmx
                      go_wp2_with fail
                      go_ret
                      refine ⟨false, rfl, ⟨(fun h => by cases h), fun h => ?_⟩, HBq.out.trans (HT3.out.lower HBq.out.size Hwg.out)⟩
                      obtain ⟨E, hE, hok⟩ := HP.out.1 h
                      exact absurd hok (Hbd.out E hE (by rw [Hmx.out]; exact odo_lt hE))
end
end Go.Proofs.Ytghihhjcoilmgaa
