/- Pick's choose: is there a choice from a place on. -/
import Derived.Test.YtghihhjcoilmgaaW2
import Derived.Sort.CutIn
namespace Go.Proofs.Ytghihhjcoilmgaa
set_option maxRecDepth 100000
open Go.RowKit Go.Maps
set_option linter.unusedVariables false
set_option linter.unusedSimpArgs false
attribute [local go_sem] Oper.semAt_some

/-! plain -/
/-- what may be chosen at a place -/
def inL (J : Jn) (V : List Int) (A F : List Bool) (i : Nat) (x : Int) : Prop :=
  if A.getD i false = true ∧ F.getD i false = false then V.getD i 0 ≠ 0 ∧ Conn J (V.getD i 0) x else x = V.getD i 0
/-- there is a choice from place k on, behind what is chosen -/
def Choice (J : Jn) (V : List Int) (A F : List Bool) (C : List CondT) (k : Nat) (X : List Int) : Prop :=
  ∃ Y : List Int, Y.length = V.length ∧ Y.take k = X.take k ∧ (∀ i, k ≤ i → i < V.length → inL J V A F i (Y.getD i 0)) ∧ ∀ c ∈ C, (k : Int) ≤ max c.1 c.2.1 → okC Y c
theorem getD_take {X Y : List Int} {m i : Nat} (h : Y.take m = X.take m) (hi : i < m) : Y.getD i 0 = X.getD i 0 := by
  have h1 : (Y.take m)[i]? = (X.take m)[i]? := by rw [h]
  rw [List.getElem?_take, List.getElem?_take, if_pos hi, if_pos hi] at h1
  simp [List.getD_eq_getElem?_getD, h1]
theorem okC_take {X Y : List Int} {m n : Nat} (h : Y.take m = X.take m) {c : CondT} (hc : inC n c) (hm : max c.1 c.2.1 < m) : okC Y c ↔ okC X c := by
  obtain ⟨h1, h2, h3, h4⟩ := hc
  unfold okC
  rw [getD_take h (show c.1.toNat < m by omega), getD_take h (show c.2.1.toNat < m by omega)]
theorem Choice.all {J : Jn} {V : List Int} {A F : List Bool} {C : List CondT} {X : List Int} (hX : X.length = V.length) (hC : ∀ c ∈ C, inC V.length c) : Choice J V A F C V.length X :=
  ⟨X, hX, rfl, fun i h1 h2 => by omega, fun c hc hm => by obtain ⟨h1, h2, h3, h4⟩ := hC c hc; omega⟩
/-- one place further -/
theorem Choice.step {J : Jn} {V : List Int} {A F : List Bool} {C : List CondT} {k : Nat} {X : List Int} (hk : k < V.length) (hX : X.length = V.length) (hC : ∀ c ∈ C, inC V.length c) :
    Choice J V A F C k X ↔ ∃ x, inL J V A F k x ∧ (∀ c ∈ C, max c.1 c.2.1 = k → okC (X.set k x) c) ∧ Choice J V A F C (k + 1) (X.set k x) := by
  have htk : ∀ x, (X.set k x).take (k + 1) = X.take k ++ [x] := fun x => by
    rw [List.take_succ_eq_append_getElem (by simp; omega)]
    simp [List.take_set]
    rw [List.set_eq_of_length_le (by simp [Nat.min_le_left])]
  constructor
  · rintro ⟨Y, h1, h2, h3, h4⟩
    have hkY : k < Y.length := by omega
    have hYk : Y.take (k + 1) = (X.set k (Y.getD k 0)).take (k + 1) := by
      rw [htk, List.take_succ_eq_append_getElem hkY, h2]
      simp [List.getD_eq_getElem?_getD, hkY]
    refine ⟨Y.getD k 0, h3 k (Nat.le_refl _) hk, fun c hc hm => ?_, Y, h1, hYk, fun i hi hn => h3 i (by omega) hn, fun c hc hm => h4 c hc (by push_cast at hm; omega)⟩
    exact (okC_take (m := k + 1) hYk (hC c hc) (by push_cast; omega)).1 (h4 c hc (by omega))
  · rintro ⟨x, hx, hh, Y, h1, h2, h3, h4⟩
    have hYt : Y.take k = X.take k := by
      have := congrArg (List.take k) h2
      rw [htk, List.take_take, List.take_append_of_le_length (by simp; omega), List.take_take] at this
      rwa [Nat.min_eq_left (by omega), Nat.min_self] at this
    have hYx : Y.getD k 0 = x := by
      rw [getD_take h2 (show k < k + 1 by omega)]
      simp [List.getD_eq_getElem?_getD, show k < X.length by omega]
    refine ⟨Y, h1, hYt, fun i hi hn => ?_, fun c hc hm => ?_⟩
    · rcases Nat.eq_or_lt_of_le hi with e | e
      · subst e; rw [hYx]; exact hx
      · exact h3 i (by omega) hn
    · by_cases e : max c.1 c.2.1 = k
      · exact (okC_take (m := k + 1) h2 (hC c hc) (by push_cast; omega)).2 (hh c hc e)
      · exact h4 c hc (by push_cast; omega)
theorem Choice.congr {J : Jn} {V : List Int} {A F : List Bool} {C : List CondT} {k : Nat} {X Z : List Int} (h : X.take k = Z.take k) : Choice J V A F C k X ↔ Choice J V A F C k Z := by
  unfold Choice; rw [h]
theorem set_take {X Z : List Int} {k : Nat} (h : Z.take k = X.take k) (hX : k < X.length) (hZ : k < Z.length) (x : Int) : (Z.set k x).take (k + 1) = (X.set k x).take (k + 1) := by
  have htk : ∀ (X : List Int), k < X.length → (X.set k x).take (k + 1) = X.take k ++ [x] := fun X hX => by
    rw [List.take_succ_eq_append_getElem (by simp; omega)]
    simp [List.take_set]
    rw [List.set_eq_of_length_le (by simp [Nat.min_le_left])]
  rw [htk _ hX, htk _ hZ, h]
theorem ints_set (X : List Int) (k : Nat) (x : Int) : (ints X).setIfInBounds k (.int .u32 x) = ints (X.set k x) := by
  simp [ints, List.map_set]
def bools (L : List Bool) : Array Value := (L.map Value.bool).toArray
theorem bools_cell {w : World} {b : Nat} {A : List Bool} {fz : Nat × Nat} (h : w.heap[b]? = some (.cells (bools A) 4 fz)) {j : Nat} (hj : j < A.length) : w.cell? ⟨b, j, none⟩ = some (.bool (A.getD j false)) := by
  unfold World.cell?
  rw [h]
  simp only [bools]
  simp [List.getD_eq_getElem?_getD, hj]
/-! memory -/
theorem BodB.trans {A B D : World} {b : Nat} (h : BodB A B b) (k : BodB B D b) : BodB A D b :=
  ⟨k.os.trans h.os, k.tape.trans h.tape, k.output.trans h.output, Nat.le_trans h.size k.size, fun i hi hn => (k.same i (Nat.lt_of_lt_of_le hi h.size) hn).trans (h.same i hi hn)⟩
theorem BodB.refl (A : World) (b : Nat) : BodB A A b := BodB.below (Below.refl _ A)
theorem BodB.lower {A B : World} {b n : Nat} (h : BodB A B b) (hn : n ≤ A.heap.size) (hb : n ≤ b) : Below n A B := ⟨h.os, h.tape, h.output, h.size, fun i hi => h.same i (by omega) (by omega)⟩
theorem arr_set {W : World} {b : Nat} {cur : Array Value} {t : TypeId} {fz : Nat × Nat} (h : W.heap[b]? = some (.cells cur t fz)) (k : Nat) (u : Value) : (W.setCell ⟨b, k, none⟩ u).heap[b]? = some (.cells (cur.setIfInBounds k u) t fz) := by
  obtain ⟨hlt, hk⟩ := Array.getElem?_eq_some_iff.1 h
  show (W.heap.modify b _)[b]? = _
  rw [Array.getElem?_eq_getElem (by rw [Array.size_modify]; exact hlt), Array.getElem_modify_self, hk]
  rfl
theorem arr_frozen {W : World} {b : Nat} {cur : Array Value} {t : TypeId} (h : W.heap[b]? = some (.cells cur t (0, 0))) (k : Nat) : W.frozen? ⟨b, k, none⟩ = false := by
  unfold World.frozen?
  rw [h]
  simp
theorem OwnU.bod {base b : Nat} {w w' : World} {v : Value} {L : List Int} (h : OwnU base w v L) (t : BodB w w' b) (hb : b < base) : OwnU base w' v L := by
  refine ⟨h.1, ?_⟩
  rcases h.2 with h1 | ⟨g, cap, cur, h1, h2, h3, h4⟩
  · exact .inl h1
  · exact .inr ⟨g, cap, cur, h1, h2, (t.same g (lt_of_heap h3) (by omega)).trans h3, h4⟩
/-- Pick's variables -/
structure ChM (pv : Value) (va fa ca : Option Addr) (V : List Int) (A F : List Bool) (C : List CondT) (vcap fcap ccap bp bv bf bc ba ab bx xb bh bk : Nat) (W : World) : Prop where
  p : W.heap[bp]? = some (.cells #[pv] 27 (0, 0))
  v : W.heap[bv]? = some (.cells #[.slice va V.length vcap] 23 (0, 0))
  f : W.heap[bf]? = some (.cells #[.slice fa F.length fcap] 24 (0, 0))
  c : W.heap[bc]? = some (.cells #[.slice ca C.length ccap] 25 (0, 0))
  a : W.heap[ba]? = some (.cells #[.slice (some ⟨ab, 0, none⟩) V.length V.length] 24 (0, 0))
  ac : W.heap[ab]? = some (.cells (bools A) 4 (0, 0))
  x : W.heap[bx]? = some (.cells #[.slice (some ⟨xb, 0, none⟩) V.length V.length] 23 (0, 0))
  h : W.heap[bh]? = some (.cells #[.func (.func 29) #[] #[.pointer (some ⟨bc, 0, none⟩), .pointer (some ⟨bx, 0, none⟩)]] 74 (0, 0))
  k : W.heap[bk]? = some (.cells #[.func (.func 30) #[] #[.pointer (some ⟨bv, 0, none⟩), .pointer (some ⟨ba, 0, none⟩), .pointer (some ⟨bf, 0, none⟩), .pointer (some ⟨bp, 0, none⟩), .pointer (some ⟨bx, 0, none⟩), .pointer (some ⟨bh, 0, none⟩), .pointer (some ⟨bk, 0, none⟩)]] 74 (0, 0))
  ne : (bp ≠ xb ∧ bv ≠ xb ∧ bf ≠ xb ∧ bc ≠ xb) ∧ ba ≠ xb ∧ ab ≠ xb ∧ bx ≠ xb ∧ bh ≠ xb ∧ bk ≠ xb
theorem ChM.turn {pv : Value} {va fa ca : Option Addr} {V : List Int} {A F : List Bool} {C : List CondT} {vcap fcap ccap bp bv bf bc ba ab bx xb bh bk : Nat} {W W' : World} (m : ChM pv va fa ca V A F C vcap fcap ccap bp bv bf bc ba ab bx xb bh bk W) (t : BodB W W' xb) : ChM pv va fa ca V A F C vcap fcap ccap bp bv bf bc ba ab bx xb bh bk W' := by
  have s : ∀ {i o}, W.heap[i]? = some o → i ≠ xb → W'.heap[i]? = some o := fun {i o} h hn => (t.same i (lt_of_heap h) hn).trans h
  obtain ⟨⟨n1, n2, n3, n4⟩, n5, n6, n7, n8, n9⟩ := m.ne
  exact ⟨s m.p n1, s m.v n2, s m.f n3, s m.c n4, s m.a n5, s m.ac n6, s m.x n7, s m.h n8, s m.k n9, m.ne⟩
section
variable {w0 : World} {pv : Value} {va fa ca : Option Addr} {V : List Int} {A F : List Bool} {C : List CondT} {J : Jn} {vcap fcap ccap bp bv bf bc ba ab bx xb bh bk : Nat}
set_option maxRecDepth 100000 in
set_option maxHeartbeats 16000000 in
theorem choose_any (hQ : IsQ w0 pv J) (hV : IsAt (Value.int .u32) w0 va V) (hF : IsAt Value.bool w0 fa F) (hC : IsC w0 ca C) (hin : ∀ c ∈ C, inC V.length c) (h32 : ∀ x ∈ V, is32 x) (hA : A.length = V.length) (hVl : V.length ≤ 1000) (hCl : C.length ≤ 1000) (hFl : F.length ≤ maxLen) (hx0 : w0.heap.size ≤ xb) :
    ∀ (d k : Nat) (X : List Int) (W : World), k + d = V.length → X.length = V.length → ChM pv va fa ca V A F C vcap fcap ccap bp bv bf bc ba ab bx xb bh bk W → W.heap[xb]? = some (.cells (ints X) 31 (0, 0)) → Below w0.heap.size w0 W →
      Calls Try.prog 30 #[.int .i64 (k : Nat), .pointer (some ⟨bv, 0, none⟩), .pointer (some ⟨ba, 0, none⟩), .pointer (some ⟨bf, 0, none⟩), .pointer (some ⟨bp, 0, none⟩), .pointer (some ⟨bx, 0, none⟩), .pointer (some ⟨bh, 0, none⟩), .pointer (some ⟨bk, 0, none⟩)] W fun e W' =>
        ∃ b X', e = .returned (.bool b) ∧ X'.length = V.length ∧ X'.take k = X.take k ∧ W'.heap[xb]? = some (.cells (ints X') 31 (0, 0)) ∧ BodB W W' xb ∧ (b = true ↔ Choice J V A F C k X) := by
  obtain ⟨N, hN⟩ : ∃ N, V.length = N := ⟨_, rfl⟩
  have HQ := Lib.hid hQ; have HV := Lib.hid hV; have HF := Lib.hid hF; have HC := Lib.hid hC; have Hin := Lib.hid hin; have H32 := Lib.hid h32; have HA := Lib.hid hA; have HN := Lib.hid hN
  clear hQ hV hF hC hin h32 hA
  rw [hN] at hVl
  intro d
  induction d with
  | zero =>
    intro k X W hk hX hM hXb hB0
    obtain rfl : k = N := by omega
    have cv := (box_at hM.v rfl).1
    rw [hN] at cv
    have hq : ((k : Int) == (k : Int)) = true := by simp
    have Hch := Lib.hid (show Choice J V A F C k X by rw [← hN]; exact Choice.all hX Hin.out)
    have HX := Lib.hid hX; have HXb := Lib.hid hXb
    clear hX hM hXb hB0 hN hk
    go_enter Try.func30, Try.ntmps30
    go_wp2_with fail
    go_ret
    exact ⟨true, X, rfl, HX.out, rfl, HXb.out, BodB.refl _ _, ⟨fun _ => Hch.out, fun _ => rfl⟩⟩
  | succ d ih =>
    intro k X W hk hX hM hXb hB0
    have cv := (box_at hM.v rfl).1
    rw [hN] at cv hk hX
    have hkN : k < N := by omega
    have hq : ((k : Int) == (N : Int)) = false := by simp; omega
    obtain ⟨vb, voff, rfl, hvl, c1⟩ := HV.out.low hB0 k (by rw [hN]; exact hkN)
    obtain ⟨vk, hvk⟩ : ∃ vk, V[k]'(by rw [hN]; exact hkN) = vk := ⟨_, rfl⟩
    rw [hvk] at c1
    have hvD : V.getD k 0 = vk := by rw [← hvk]; simp [List.getD_eq_getElem?_getD, hN, hkN]
    have hv32 : is32 vk := by rw [← hvk]; exact H32.out _ (List.getElem_mem _)
    have hih := @ih
    have HX := Lib.hid hX; have HM := Lib.hid hM; have HXb := Lib.hid hXb; have HB0 := Lib.hid hB0; have HvD := Lib.hid hvD; have Hv32 := Lib.hid hv32; have Hih := Lib.hid hih; have Hk := Lib.hid hk
    clear hX hM hXb hB0 hvk hvD hv32 hih ih hk hvl
    have HN' := Lib.hid hN
    clear hN
    go_enter Try.func30, Try.ntmps30
    go_upto_region 4 with fail
    have hBa : Below W.heap.size W (W.alloc (.cells #[.int .u32 vk] 31)) := (Below.refl _ W).alloc (Nat.le_refl _) _
    have hown := own_one W vk
    generalize W.alloc (.cells #[.int .u32 vk] 31) = W3 at *
    have hM3 := HM.out.turn (BodB.below hBa (ib := xb))
    have hlx := lt_of_heap HXb.out
    have ca := (box_at hM3.a rfl).1
    rw [HN'.out] at ca
    have cab := bools_cell hM3.ac (j := k) (by have := HA.out; have := HN'.out; omega)
    have cf := (box_at hM3.f rfl).1
    have cp := (box_at hM3.p rfl).1
    have cv := (box_at hM3.v rfl).1
    rw [HN'.out] at cv
    have hB3 := HB0.out.trans (hBa.mono HB0.out.size)
    have c1 := cell_keep hBa c1
    obtain ⟨fl, hfl⟩ : ∃ fl, F.length = fl := ⟨_, rfl⟩
    rw [hfl] at cf hFl
    simp only [maxLen] at hFl
    obtain ⟨a, ha⟩ : ∃ a, A.getD k false = a := ⟨_, rfl⟩
    rw [ha] at cab
    have HB3 := Lib.hid hB3; have Hown := Lib.hid hown; have HBa := Lib.hid hBa; have HM3 := Lib.hid hM3; have Ha := Lib.hid ha; have Hfl := Lib.hid hfl
    obtain ⟨wsz, hwsz⟩ : ∃ wsz, W.heap.size = wsz := ⟨_, rfl⟩
    rw [hwsz] at hlx Hown ⊢
    have Hwsz := Lib.hid hwsz
    clear hB3 hown hBa hM3 ha hfl hwsz
    have one : ∀ wx, W3 = wx → (A.getD k false = true ∧ F.getD k false = false → False) → ∃ L, OwnU wsz wx (.slice (some ⟨wsz, 0, none⟩) 1 1) L ∧ L.length ≤ 1000 ∧ (∀ x, x ∈ L ↔ inL J V A F k x) ∧ Below W.heap.size W wx := by
      rintro wx rfl hno
      refine ⟨[vk], Hown.out, by simp, fun x => ?_, HBa.out⟩
      unfold inL
      rw [if_neg hno, List.mem_singleton, HvD.out]
    have One := Lib.hid one
    clear one
    obtain ⟨bz, hbz⟩ : ∃ bz, bz = decide (A.getD k false = true ∧ F.getD k false = false) := ⟨_, rfl⟩
    have Hbz := Lib.hid hbz
    clear hbz
    go_cut [38] from 22 to 64 (fun s38 wx => s38 = .bool bz ∧ wx = W3)
    case first =>
      cases a with
      | false =>
        have hb := Lib.hid (show bz = false by rw [Hbz.out, Ha.out]; simp)
        go_wp2_with fail
        go_meet
        exact ⟨by rw [hb.out], rfl⟩
      | true =>
        by_cases hkF : k < fl
        · have hdF : decide ((k : Int) ≥ (fl : Int)) = false := by simp; omega
          have hdF' : decide ((fl : Int) ≤ (k : Int)) = false := by simp; omega
          have hdN : decide (fl ≤ k) = false := by simp; omega
          obtain ⟨fb, foff, rfl, hfbl, c2⟩ := HF.out.low HB3.out k (by rw [Hfl.out]; exact hkF)
          obtain ⟨fk, hfk⟩ : ∃ fk, F[k]'(by rw [Hfl.out]; exact hkF) = fk := ⟨_, rfl⟩
          rw [hfk] at c2
          have hfD : F.getD k false = fk := by rw [← hfk]; simp [List.getD_eq_getElem?_getD, Hfl.out, hkF]
          have hb := Lib.hid (show bz = !fk by rw [Hbz.out, Ha.out, hfD]; cases fk <;> simp)
          clear hfk hfD hfbl
          cases fk <;>
            (go_wp2_with fail
             go_meet
             exact ⟨by rw [hb.out]; first | rfl | simp [hdN], rfl⟩)
        · have hdF : decide ((k : Int) ≥ (fl : Int)) = true := by simp; omega
          have hdF' : decide ((fl : Int) ≤ (k : Int)) = true := by simp; omega
          have hb := Lib.hid (show bz = true by rw [Hbz.out, Ha.out]; simp [List.getD_eq_getElem?_getD, List.getElem?_eq_none (show F.length ≤ k by have := Hfl.out; omega)])
          go_wp2_with fail
          go_meet
          exact ⟨by rw [hb.out], rfl⟩
    case rest =>
    rename World => w3c
    obtain ⟨rfl, rfl⟩ := hcut
    go_upto_if 38 with fail
    go_cut [10] from 10 to 64 (fun s10 wx => ∃ L, OwnU wsz wx s10 L ∧ L.length ≤ 1000 ∧ (∀ x, x ∈ L ↔ inL J V A F k x) ∧ Below W.heap.size W wx)
    case first =>
      cases bz with
      | false =>
        have hno := of_decide_eq_false Hbz.out.symm
        have Hno := Lib.hid hno
        clear hno
        go_wp2_with fail
        go_meet
        exact One.out _ rfl Hno.out
      | true =>
        have hyes := of_decide_eq_true Hbz.out.symm
        have HfD := Lib.hid hyes.2
        have Ha := Lib.hid hyes.1
        clear hyes
        go_wp2_with fail
        have cp : w3c.drew.cell? ⟨bp, 0, none⟩ = some (pv) := cp
        have cv : w3c.drew.cell? ⟨bv, 0, none⟩ = some (.slice (some ⟨vb, voff, none⟩) N vcap) := cv
        have c1 : w3c.drew.cell? ⟨vb, voff + k, none⟩ = some (.int .u32 vk) := c1
        obtain ⟨S5, hSe⟩ : ∃ S : Array Bool → World → Prop, S = fun _ w' => Below w3c.drew.heap.size w3c.drew w' := ⟨_, rfl⟩
        have hdrop : ∀ i : Nat, ∀ L w', S5 (L.setIfInBounds i true) w' → S5 L w' := by
          intro i L w' h; rw [hSe] at h ⊢; exact h
        have hS : ∀ L, S5 L w3c.drew := by intro L; rw [hSe]; exact Below.refl _ _
        have hSo : ∀ {L w'}, S5 L w' → Below w3c.drew.heap.size w3c.drew w' := by intro L w' h; rw [hSe] at h; exact h
        have hSi : ∀ {w'}, Below w3c.drew.heap.size w3c.drew w' → ∀ L, S5 L w' := by intro w' h L; rw [hSe]; exact h
        clear hSe
        refine wp_region_LN S5 7 #[false, false, false, false, false, false, false] (by kernel_rfl) (by kernel_rfl) rfl ?_
        obtain ⟨X5, hX5⟩ : ∃ X5, X5 = w3c.drew := ⟨_, rfl⟩
        rw [← hX5] at cp cv c1 hSo hS hSi ⊢
        have HX5 := Lib.hid hX5
        clear hX5
        refine WA.take (i := 0) (v := pv) rfl (by kernel_rfl) (by kernel_rfl) (by kernel_rfl) (fun _ _ _ h => h) (hdrop 0) (Or.inl ⟨by rfl, ?_⟩) (hS _) ?_
        · rintro w' ⟨L, hL, hSw, hun⟩
          have hbw := hSo hSw
          have cp := cell_later hbw cp
          clear hbw
          go_simp
        simp only [List.getElem_toArray, List.getElem_cons_zero, List.getElem_cons_succ, Act.put, List.setIfInBounds_toArray, List.set_cons_zero, List.set_cons_succ]
        refine WA.take (i := 1) (v := .slice (some ⟨vb, voff, none⟩) N vcap) rfl (by kernel_rfl) (by kernel_rfl) (by kernel_rfl) (fun _ _ _ h => h) (hdrop 1) (Or.inl ⟨by rfl, ?_⟩) (hS _) ?_
        · rintro w' ⟨L, hL, hSw, hun⟩
          have hbw := hSo hSw
          have cv := cell_later hbw cv
          clear hbw
          go_simp
        simp only [List.getElem_toArray, List.getElem_cons_zero, List.getElem_cons_succ, Act.put, List.setIfInBounds_toArray, List.set_cons_zero, List.set_cons_succ]
        refine WA.take (i := 2) (v := .int .i64 ((k : Nat) : Int)) rfl (by kernel_rfl) (by kernel_rfl) (by kernel_rfl) (fun _ _ _ h => h) (hdrop 2) (Or.inl ⟨by rfl, ?_⟩) (hS _) ?_
        · rintro w' ⟨L, hL, hSw, hun⟩
          go_simp
        simp only [List.getElem_toArray, List.getElem_cons_zero, List.getElem_cons_succ, Act.put, List.setIfInBounds_toArray, List.set_cons_zero, List.set_cons_succ]
        refine WA.take (i := 3) (v := .pointer (some ⟨vb, voff + k, none⟩)) rfl (by kernel_rfl) (by kernel_rfl) (by kernel_rfl) (fun _ _ _ h => h) (hdrop 3) (Or.inl ⟨by rfl, ?_⟩) (hS _) ?_
        · rintro w' ⟨L, hL, hSw, hun⟩
          go_simp
        simp only [List.getElem_toArray, List.getElem_cons_zero, List.getElem_cons_succ, Act.put, List.setIfInBounds_toArray, List.set_cons_zero, List.set_cons_succ]
        refine WA.take (i := 4) (v := .int .u32 vk) rfl (by kernel_rfl) (by kernel_rfl) (by kernel_rfl) (fun _ _ _ h => h) (hdrop 4) (Or.inl ⟨by rfl, ?_⟩) (hS _) ?_
        · rintro w' ⟨L, hL, hSw, hun⟩
          have hbw := hSo hSw
          have c1 := cell_later hbw c1
          clear hbw
          go_simp
        simp only [List.getElem_toArray, List.getElem_cons_zero, List.getElem_cons_succ, Act.put, List.setIfInBounds_toArray, List.set_cons_zero, List.set_cons_succ]
        refine WA.one (i := 5) (by kernel_rfl) rfl (by rfl) (fun K hK => ?_)
        go_simp
        refine (cliqueQ (w := X5) (by rw [HX5.out]; exact HQ.out.below HB3.out.drew) Hv32.out).mono ?_
        rintro e w5 ⟨v5, L, rfl, hO_, hL_, hB_⟩
        have HO5 := Lib.hid hO_; have HL5 := Lib.hid hL_; have HB5 := Lib.hid hB_
        obtain ⟨s5, cap5, rfl, _⟩ := hO_.u
        clear hO_ hL_ hB_
        refine hK _ _ (hSi HB5.out _) ?_
        clear hK
        try simp only [List.getElem_toArray, List.getElem_cons_zero, List.getElem_cons_succ, Act.put, List.setIfInBounds_toArray, List.set_cons_zero, List.set_cons_succ]
        refine WA.take (i := 6) (v := .slice s5 L.length cap5) rfl (by kernel_rfl) (by kernel_rfl) (by kernel_rfl) (fun _ _ _ h => h) (hdrop 6) (Or.inl ⟨by rfl, ?_⟩) (hSi HB5.out _) ?_
        · rintro w' ⟨L, hL, hSw, hun⟩
          go_simp
        simp only [List.getElem_toArray, List.getElem_cons_zero, List.getElem_cons_succ, Act.put, List.setIfInBounds_toArray, List.set_cons_zero, List.set_cons_succ]
        refine WA.done (by kernel_rfl) ?_ _
        refine Nrm.normal ?_
        clear hSo hS hSi hdrop cp cv c1
        clear S5
        go_wp2_with fail
        go_meet
        have hb5 : Below W.heap.size W w5 := by
          have h1 : Below W.heap.size W X5 := by rw [HX5.out]; exact HBa.out.drew
          exact h1.trans (HB5.out.mono h1.size)
        refine ⟨L, HO5.out.mono (by rw [← Hwsz.out, HX5.out]; exact HBa.out.size), by have := HL5.out.len; have := HQ.out.2.1; omega, fun x => ?_, hb5⟩
        unfold inL
        rw [if_pos ⟨Ha.out, HfD.out⟩, HvD.out]
        constructor
        · intro hx
          by_cases h0 : vk = 0
          · rw [HL5.out.1 h0] at hx; cases hx
          · exact ⟨h0, ((HL5.out.2 h0).mem x).1 hx⟩
        · rintro ⟨h0, hx⟩
          exact ((HL5.out.2 h0).mem x).2 hx
    case rest =>
      rename World => wc
      obtain ⟨L, hO, hLl, hL, hBc⟩ := hcut
      clear ca cab cf cp cv c1
      obtain ⟨s10, cap10, rfl, _, _, _⟩ := hO.u
      obtain ⟨ln, hln⟩ : ∃ ln, L.length = ln := ⟨_, rfl⟩
      have hMc := HM.out.turn (BodB.below hBc (ib := xb))
      have hXc := (hBc.block xb (lt_of_heap HXb.out)).trans HXb.out
      have HMc := Lib.hid hMc; have HXc := Lib.hid hXc; have HO := Lib.hid hO; have HL := Lib.hid hL; have Hln := Lib.hid hln; have HBc := Lib.hid hBc
      have HB0c := Lib.hid (HB0.out.trans (hBc.mono HB0.out.size))
      rw [hln] at hLl ⊢
      clear hMc hXc hO hL hln hBc HM3 HBa Hown HB3 One
      have step := Choice.step (J := J) (V := V) (A := A) (F := F) (C := C) (k := k) (X := X) (by rw [HN'.out]; exact hkN) (by rw [HN'.out]; exact HX.out) Hin.out
      have Hstep := Lib.hid step
      clear step
      go_wp2_with fail
      go_loopw [47] (fun u wr => ∃ (i : Nat) (Z : List Int), i ≤ ln ∧ u = .int .i64 i ∧ Z.length = N ∧ Z.take k = X.take k ∧ wr.heap[xb]? = some (.cells (ints Z) 31 (0, 0)) ∧ BodB wc wr xb ∧
          (∀ j (h : j < L.length), j < i → ¬ ((∀ c ∈ C, max c.1 c.2.1 = k → okC (X.set k L[j]) c) ∧ Choice J V A F C (k + 1) (X.set k L[j])))) (fun u _ => ln - (intOf u).toNat)
      case atStart => exact ⟨0, X, by omega, rfl, HX.out, rfl, HXc.out, BodB.refl _ _, fun j _ h => by omega⟩
      case round =>
        obtain ⟨i, Z, hi, rfl, hZ, hZt, hZx, hT, hall⟩ := hrel
        have HZ := Lib.hid hZ; have HZt := Lib.hid hZt; have HZx := Lib.hid hZx; have HT := Lib.hid hT; have Hall := Lib.hid hall
        clear hZ hZt hZx hT hall
        by_cases hil : i < ln
        · have hdi : decide ((i : Int) < (ln : Int)) = true := by simp; omega
          have hiL : i < L.length := by rw [Hln.out]; exact hil
          obtain ⟨g10, rfl, _, cg⟩ := (HO.out.bod HT.out hlx).at' i hiL
          obtain ⟨x, hx⟩ : ∃ x, L[i] = x := ⟨_, rfl⟩
          rw [hx] at cg
          have hMr := HMc.out.turn HT.out
          have cx := (box_at hMr.x rfl).1
          rw [HN'.out] at cx
          have hfz := arr_frozen HZx.out k
          have hcx := chosen_cell HZx.out (j := k) (by have := HZ.out; omega)
          have hT9 : BodB wr (wr.setCell ⟨xb, k, none⟩ (.int .u32 x)) xb := (BodB.refl wr xb).set (j := k) (.int .u32 x)
          have hZ9 : (wr.setCell ⟨xb, k, none⟩ (.int .u32 x)).heap[xb]? = some (.cells (ints (Z.set k x)) 31 (0, 0)) := by
            rw [← ints_set]; exact arr_set HZx.out k _
          have HMr := Lib.hid hMr; have HT9 := Lib.hid hT9; have HZ9 := Lib.hid hZ9; have Hx := Lib.hid hx
          clear hMr hT9 hZ9 hx
          go_upto_region 10 with fail
          generalize wr.setCell ⟨xb, k, none⟩ (.int .u32 x) = W9 at *
          have hM9 := HMr.out.turn HT9.out
          have ch := (box_at hM9.h rfl).1
          have hBc9 : Below w0.heap.size wr W9 := HT9.out.lower (by have := HB0c.out.size; have := HT.out.size; omega) hx0
          have hB09 : Below w0.heap.size w0 W9 := HB0c.out.trans ((HT.out.lower HB0c.out.size hx0).trans hBc9)
          have hho := holds_any (k := k) (X := Z.set k x) (HC.out.below hB09) hM9.c hM9.x HZ9.out (by rw [List.length_set, HZ.out, HN'.out]) Hin.out (by omega) (by rw [HN'.out]; omega)
          have HM9 := Lib.hid hM9; have HB09 := Lib.hid hB09; have Hho := Lib.hid hho
          clear hM9 hBc9 hB09 hho cx hfz hcx cg
          go_wp2_with fail
          refine Hho.out.mono ?_
          rintro e w10 ⟨b1, rfl, hb1, hB10⟩
          have hM10 := HM9.out.turn (BodB.below hB10 (ib := xb))
          have ck := (box_at hM10.k rfl).1
          have hZ10 := (hB10.block xb (lt_of_heap HZ9.out)).trans HZ9.out
          have hT10 : BodB wc w10 xb := (HT.out.trans HT9.out).trans (BodB.below hB10)
          have hst := set_take (x := x) HZt.out (by have := HX.out; omega) (by have := HZ.out; omega)
          have HM10 := Lib.hid hM10; have HZ10 := Lib.hid hZ10; have HT10 := Lib.hid hT10; have Hb1 := Lib.hid hb1; have HB10 := Lib.hid hB10; have Hst := Lib.hid hst
          clear hM10 hZ10 hT10 hb1 hB10 hst ch
          cases b1 with
          | false =>
            go_wp2_with fail
            go_roundw
            case rel =>
              refine ⟨i + 1, Z.set k x, by omega, by push_cast; rfl, by rw [List.length_set]; exact HZ.out, ?_, HZ10.out, HT10.out, fun j hj h => ?_⟩
              · rw [List.take_set, List.set_eq_of_length_le (by simp [Nat.min_le_left])]; exact HZt.out
              · rcases Nat.lt_succ_iff_lt_or_eq.1 h with h | rfl
                · exact Hall.out j hj h
                · rintro ⟨h1, _⟩
                  rw [Hx.out] at h1
                  have := Hb1.out.2 fun c hc hm => (okC_take (m := k + 1) Hst.out (Hin.out c hc) (by push_cast; omega)).2 (h1 c hc hm)
                  cases this
            case measure => simp [intOf]; omega
          | true =>
            have hk1 : ((k : Int) + 1) = ((k + 1 : Nat) : Int) := by push_cast; rfl
            have hih := Hih.out (k + 1) (Z.set k x) w10 (by have := Hk.out; have := HN'.out; omega) (by rw [List.length_set, HZ.out, HN'.out]) HM10.out HZ10.out (HB09.out.trans (HB10.out.mono HB09.out.size))
            rw [← hk1] at hih
            have Hih2 := Lib.hid hih
            clear hih hk1
            go_wp2_with fail
            refine Hih2.out.mono ?_
            rintro e w11 ⟨b2, X2, rfl, h1, h2, h3, h4, h5⟩
            have hX2t : X2.take k = X.take k := by
              have h6 := congrArg (List.take k) h2
              rw [List.take_take, List.take_take, Nat.min_eq_left (by omega)] at h6
              rw [h6, List.take_set, List.set_eq_of_length_le (by simp [Nat.min_le_left])]
              exact HZt.out
            have H1 := Lib.hid h1; have H3 := Lib.hid h3; have H4 := Lib.hid (HT10.out.trans h4); have H5 := Lib.hid h5; have H6 := Lib.hid hX2t
            clear h1 h2 h3 h4 h5 hX2t
            cases b2 with
            | false =>
              go_wp2_with fail
              go_roundw
              case rel =>
                refine ⟨i + 1, X2, by omega, by push_cast; rfl, by rw [← HN'.out]; exact H1.out, H6.out, H3.out, H4.out, fun j hj h => ?_⟩
                rcases Nat.lt_succ_iff_lt_or_eq.1 h with h | rfl
                · exact Hall.out j hj h
                · rintro ⟨_, h1⟩
                  rw [Hx.out] at h1
                  have := H5.out.2 ((Choice.congr Hst.out).2 h1)
                  cases this
              case measure => simp [intOf]; omega
            | true =>
              go_wp2_with fail
              go_ret
              refine ⟨true, X2, rfl, H1.out, H6.out, H3.out, (BodB.below HBc.out).trans H4.out, ⟨fun _ => ?_, fun _ => rfl⟩⟩
              refine Hstep.out.2 ⟨x, (HL.out x).1 (by rw [← Hx.out]; exact List.getElem_mem _), fun c hc hm => ?_, (Choice.congr Hst.out).1 (H5.out.1 (by trivial))⟩
              exact (okC_take (m := k + 1) Hst.out (Hin.out c hc) (by push_cast; omega)).1 (Hb1.out.1 (by trivial) c hc hm)
        · have hdi : decide ((i : Int) < (ln : Int)) = false := by simp; omega
          go_wp2_with fail
          go_ret
          refine ⟨false, Z, rfl, by rw [HN'.out]; exact HZ.out, HZt.out, HZx.out, (BodB.below HBc.out).trans HT.out, ⟨(fun h => by cases h), fun h => ?_⟩⟩
          obtain ⟨x, h1, h2, h3⟩ := Hstep.out.1 h
          obtain ⟨j, hj, rfl⟩ := List.getElem_of_mem ((HL.out x).2 h1)
          exact absurd ⟨h2, h3⟩ (Hall.out j hj (by have := Hln.out; omega))
end
end Go.Proofs.Ytghihhjcoilmgaa
