/- Pick, walked. -/
import Derived.Test.YtghihhjcoilmgaaW3
import Derived.Laws.EntriesVeiled
namespace Go.Proofs.Ytghihhjcoilmgaa
set_option maxRecDepth 100000
open Go.RowKit Go.Maps
set_option linter.unusedVariables false
set_option linter.unusedSimpArgs false
attribute [local go_sem] Oper.semAt_some

theorem Try.infoBoolP : (Try.prog.info? 4).map (fun i => (i.zero, i.size, i.bytes)) = some (some (.bool false), 1, 1) := by kernel_rfl
theorem run_mkN (w : World) (n : Nat) (h : n ≤ 1000000) : (Instr.makeSlice 23 (.int .i64 (n : Int)) (.int .i64 (n : Int))).run Try.prog w = .ok (.slice (some ⟨w.heap.size, 0, none⟩) n n) (w.alloc (.cells (ints (List.replicate n 0)) 31)) := by
  obtain ⟨i, hi, hz, hs, hb⟩ := info_parts Try.info32
  have hr := run_make (P := Try.prog) w 23 31 i (.int .u32 0) Try.underlying23 hi hz .i64 .i64 n n (by omega) (Int.le_refl _) (by rw [hb]; omega) (by omega)
  rw [Int.toNat_natCast, hs, Nat.mul_one] at hr
  rw [hr]
  have e : madeCells (Value.int .u32 0).cells n = ints (List.replicate n 0) := by
    refine Array.ext (by simp [size_madeCells, ints]) (fun j h1 h2 => ?_)
    simp [madeCells, ints, Value.cells, Nat.mod_one]
  rw [e]
theorem run_mkL (w : World) (n : Nat) (h : n ≤ 1000000) : (Instr.makeSlice 24 (.int .i64 (n : Int)) (.int .i64 (n : Int))).run Try.prog w = .ok (.slice (some ⟨w.heap.size, 0, none⟩) n n) (w.alloc (.cells (bools (List.replicate n false)) 4)) := by
  obtain ⟨i, hi, hz, hs, hb⟩ := info_parts Try.infoBoolP
  have hr := run_make (P := Try.prog) w 24 4 i (.bool false) Try.underlying24 hi hz .i64 .i64 n n (by omega) (Int.le_refl _) (by rw [hb]; omega) (by omega)
  rw [Int.toNat_natCast, hs, Nat.mul_one] at hr
  rw [hr]
  have e : madeCells (Value.bool false).cells n = bools (List.replicate n false) := by
    refine Array.ext (by simp [size_madeCells, bools]) (fun j h1 h2 => ?_)
    simp [madeCells, bools, Value.cells, Nat.mod_one]
  rw [e]
theorem four_blocks (w : World) (o0 o1 o2 o3 : Obj) : ∀ W, W = (((w.alloc o0).alloc o1).alloc o2).alloc o3 → Below w.heap.size w W ∧ W.heap.size = w.heap.size + 4 ∧ W.heap[w.heap.size]? = some o0 ∧ W.heap[w.heap.size + 1]? = some o1 ∧ W.heap[w.heap.size + 2]? = some o2 ∧ W.heap[w.heap.size + 3]? = some o3 := by
  rintro W rfl
  obtain ⟨a1, a2, a3, a4⟩ := two_blocks w o0 o1 _ rfl
  obtain ⟨b1, b2, b3, b4⟩ := two_blocks ((w.alloc o0).alloc o1) o2 o3 _ rfl
  rw [a2] at b2 b3 b4
  exact ⟨a1.trans (b1.mono a1.size), by omega, (b1.block _ (lt_of_heap a3)).trans a3, (b1.block _ (lt_of_heap a4)).trans a4, b3, b4⟩
theorem bools_set (A : List Bool) (k : Nat) : (bools A).setIfInBounds k (.bool true) = bools (A.set k true) := by
  simp [bools, List.map_set]
/-- the places that conditions speak of -/
def plcs (C : List CondT) : List Int := C.flatMap fun c => [c.1, c.2.1]
def markL (P : List Int) (n : Nat) : List Bool := (List.range n).map fun p : Nat => P.contains (p : Int)
def askedL (C : List CondT) (n : Nat) : List Bool := markL (plcs C) n
theorem markL_len (P : List Int) (n : Nat) : (markL P n).length = n := by simp [markL]
theorem markL_nil (n : Nat) : List.replicate n false = markL [] n := by
  refine List.ext_getElem (by simp [markL]) fun i h1 h2 => ?_
  simp [markL]
theorem markL_set {P : List Int} {n x : Nat} (h : x < n) : (markL P n).set x true = markL (P ++ [(x : Int)]) n := by
  refine List.ext_getElem (by simp [markL]) fun i h1 h2 => ?_
  rw [List.getElem_set]
  simp only [markL, List.getElem_map, List.getElem_range]
  by_cases e : x = i
  · subst e; simp
  · rw [if_neg e]
    have : ¬ (i : Int) = (x : Int) := by omega
    simp [this]
theorem plcs_snoc (C : List CondT) (c : CondT) : plcs (C ++ [c]) = plcs C ++ [c.1] ++ [c.2.1] := by simp [plcs]
/-- what Pick says -/
def PickP (J : Jn) (V : List Int) (F : List Bool) (C : List CondT) : Prop := (∀ c ∈ C, inC V.length c) ∧ Choice J V (askedL C V.length) F C 0 (List.replicate V.length 0)
theorem BodB.far {A B : World} {b n : Nat} (h : BodB A B b) (hn : n ≤ A.heap.size) (hb : n ≤ b) : Below n A B := h.lower hn hb
/-- a function says whether -/
def Says (P : Prop) (w : World) (e : Ending) (w' : World) : Prop := ∃ b, e = .returned (.bool b) ∧ (b = true ↔ P) ∧ Below w.heap.size w w'
section
variable {w : World} {p : Option Addr} {va fa ca : Option Addr} {V : List Int} {F : List Bool} {C : List CondT} {J : Jn} {vcap fcap ccap : Nat}
set_option maxRecDepth 100000 in
set_option maxHeartbeats 16000000 in
theorem pick_any (hQ : IsQ w (.pointer p) J) (hV : IsAt (Value.int .u32) w va V) (hF : IsAt Value.bool w fa F) (hC : IsC w ca C) (h32 : ∀ x ∈ V, is32 x) (hVl : V.length ≤ 1000) (hCl : C.length ≤ 1000) (hFl : F.length ≤ maxLen) :
    Calls Try.prog 10 #[.pointer p, .slice va V.length vcap, .slice fa F.length fcap, .slice ca C.length ccap] w (Says (PickP J V F C) w) := by
  obtain ⟨n, hn⟩ : ∃ n, V.length = n := ⟨_, rfl⟩
  obtain ⟨m, hm⟩ : ∃ m, C.length = m := ⟨_, rfl⟩
  obtain ⟨fl, hfl⟩ : ∃ fl, F.length = fl := ⟨_, rfl⟩
  obtain ⟨q1, q2, q3, q4, q5, q6⟩ := four_blocks w (.cells #[.pointer p] 27) (.cells #[.slice va n vcap] 23) (.cells #[.slice fa fl fcap] 24) (.cells #[.slice ca m ccap] 25) _ rfl
  have HQ := Lib.hid hQ; have HV := Lib.hid hV; have HF := Lib.hid hF; have HC := Lib.hid hC; have H32 := Lib.hid h32; have Hn := Lib.hid hn; have Hm := Lib.hid hm; have Hfl := Lib.hid hfl; have HFl := Lib.hid hFl
  have Q1 := Lib.hid q1; have Q2 := Lib.hid q2; have Q3 := Lib.hid q3; have Q4 := Lib.hid q4; have Q5 := Lib.hid q5; have Q6 := Lib.hid q6
  rw [hn] at hVl ⊢
  rw [hm] at hCl ⊢
  rw [hfl] at ⊢
  clear hQ hV hF hC h32 hn hm hfl q1 q2 q3 q4 q5 q6 hFl
  go_enter Try.func10, Try.ntmps10
  go_upto_region 1 with fail
  generalize (((w.alloc (.cells #[.pointer p] 27)).alloc (.cells #[.slice va n vcap] 23)).alloc (.cells #[.slice fa fl fcap] 24)).alloc (.cells #[.slice ca m ccap] 25) = W1 at *
  have cv := (box_at Q4.out rfl).1
  have hmk := fun W => run_mkL W n (by omega)
  obtain ⟨r1, r2, r3, r4⟩ := two_blocks W1 (.cells (bools (List.replicate n false)) 4) (.cells #[.slice (some ⟨W1.heap.size, 0, none⟩) n n] 24) _ rfl
  have R1 := Lib.hid r1; have R2 := Lib.hid r2; have R3 := Lib.hid r3; have R4 := Lib.hid r4
  clear r1 r2 r3 r4
  go_upto_region 2 with fail
  have hms : W1.heap.size = w.heap.size + 4 := Q2.out
  obtain ⟨z, hz⟩ : ∃ z, w.heap.size = z := ⟨_, rfl⟩
  rw [hms] at R1 R2 R3 R4 ⊢
  rw [hz] at R1 R2 R3 R4 ⊢
  generalize (W1.alloc (.cells (bools (List.replicate n false)) 4)).alloc (.cells #[.slice (some ⟨z + 4, 0, none⟩) n n] 24) = W2 at *
  have hb2 : Below w.heap.size w W2 := Q1.out.trans (R1.out.mono (by omega))
  have hp2 := (R1.out.block _ (by have := lt_of_heap Q3.out; omega)).trans Q3.out
  have hv2 := (R1.out.block _ (by have := lt_of_heap Q4.out; omega)).trans Q4.out
  have hf2 := (R1.out.block _ (by have := lt_of_heap Q5.out; omega)).trans Q5.out
  have hc2 := (R1.out.block _ (by have := lt_of_heap Q6.out; omega)).trans Q6.out
  rw [hz] at hp2 hv2 hf2 hc2
  have ha2 := R4.out
  have hab := R3.out
  have hs2 := R2.out
  rw [markL_nil] at hab
  have HB2 := Lib.hid hb2; have HP2 := Lib.hid hp2; have HV2 := Lib.hid hv2; have HF2 := Lib.hid hf2; have HC2 := Lib.hid hc2; have HA2 := Lib.hid ha2; have HAB := Lib.hid hab; have Hz := Lib.hid hz; have HS2 := Lib.hid hs2
  clear hb2 hp2 hv2 hf2 hc2 ha2 hab hz hms hmk cv hs2 R1 R2 R3 R4 Q1 Q2 Q3 Q4 Q5 Q6
  have cc := (box_at HC2.out rfl).1
  go_wp2_with fail
  go_loopw [22] (fun u wr => ∃ i : Nat, i ≤ m ∧ u = .int .i64 i ∧ wr.heap[z + 4]? = some (.cells (bools (markL (plcs (C.take i)) n)) 4 (0, 0)) ∧ (∀ j (h : j < C.length), j < i → inC n C[j]) ∧ BodB W2 wr (z + 4)) (fun u _ => m - (intOf u).toNat)
  case atStart => exact ⟨0, by omega, rfl, HAB.out, fun j _ h => by omega, BodB.refl _ _⟩
  case round =>
    obtain ⟨i, hi, rfl, hm, hin, hT⟩ := hrel
    have HM := Lib.hid hm; have Hin := Lib.hid hin; have HT := Lib.hid hT
    clear hm hin hT cc
    by_cases hil : i < m
    · have hd : decide ((i : Int) < (m : Int)) = true := by simp; omega
      have hiC : i < C.length := by have := Hm.out; omega
      obtain ⟨x, hx⟩ : ∃ x, C[i] = x := ⟨_, rfl⟩
      have hBw : Below w.heap.size w wr := HB2.out.trans (HT.out.lower HB2.out.size (by have := Hz.out; omega))
      obtain ⟨b, off, rfl, hbl, k1, k2, k3⟩ := HC.out.below hBw i hiC
      rw [hx] at k1 k2 k3
      obtain ⟨xa, xc, xu⟩ := x
      simp only at k1 k2 k3
      have Hx := Lib.hid hx; have HBw := Lib.hid hBw
      clear hx hbl hBw
      go_upto_region 5 with fail
      obtain ⟨nb, hnb⟩ : ∃ nb, wr.heap.size = nb := ⟨_, rfl⟩
      have hBa : Below wr.heap.size wr (wr.alloc (.cells #[.int .i64 xa, .int .i64 xc, .bool xu] 67)) := (Below.refl _ wr).alloc (Nat.le_refl _) _
      have hnew := World.alloc_heap_new wr (.cells #[.int .i64 xa, .int .i64 xc, .bool xu] 67)
      generalize wr.alloc (.cells #[.int .i64 xa, .int .i64 xc, .bool xu] 67) = V1 at *
      rw [hnb] at hnew ⊢
      have d0 : V1.cell? ⟨nb, 0, none⟩ = some (.int .i64 xa) := by unfold World.cell?; rw [hnew]; rfl
      have d1 : V1.cell? ⟨nb, 1, none⟩ = some (.int .i64 xc) := by unfold World.cell?; rw [hnew]; rfl
      have Hnb := Lib.hid hnb; have HBa := Lib.hid hBa
      clear hnb hBa hnew k1 k2 k3
      go_wp2_with fail
      obtain ⟨vb1, hvb1⟩ : ∃ v, V1.heap.size = v := ⟨_, rfl⟩
      have hBb : Below V1.heap.size V1 (V1.alloc (.cells #[.int .i64 xa, .int .i64 xc] 3)) := (Below.refl _ V1).alloc (Nat.le_refl _) _
      have hnew := World.alloc_heap_new V1 (.cells #[.int .i64 xa, .int .i64 xc] 3)
      generalize V1.alloc (.cells #[.int .i64 xa, .int .i64 xc] 3) = V2 at *
      rw [hvb1] at hnew ⊢
      have hT2 : BodB wr V2 (z + 4) := BodB.below (HBa.out.trans (hBb.mono HBa.out.size))
      have hlz : z + 4 < wr.heap.size := lt_of_heap HM.out
      have hM2 := ((HBa.out.trans (hBb.mono HBa.out.size)).block _ hlz).trans HM.out
      have hne : vb1 ≠ z + 4 := by have := HBa.out.size; omega
      have HT2 := Lib.hid hT2; have HM2 := Lib.hid hM2; have HN2 := Lib.hid hnew; have Hne := Lib.hid hne
      clear hBb hT2 hM2 hnew hne hvb1 d0 d1 hlz
      go_loopw [32] (fun u w2 => ∃ k : Nat, k ≤ 2 ∧ u = .int .i64 k ∧ w2.heap[z + 4]? = some (.cells (bools (markL (plcs (C.take i) ++ [xa, xc].take k) n)) 4 (0, 0)) ∧ (0 < k → 0 ≤ xa ∧ xa < n) ∧ (1 < k → 0 ≤ xc ∧ xc < n) ∧ BodB V2 w2 (z + 4)) (fun u _ => 2 - (intOf u).toNat)
      case atStart => exact ⟨0, by omega, rfl, by simpa using HM2.out, by simp, by simp, BodB.refl _ _⟩
      case round =>
        rename World => wk
        obtain ⟨k, hk, rfl, hmk, ha, hc, hT⟩ := hrel
        have HMk := Lib.hid hmk; have Hka := Lib.hid ha; have Hkc := Lib.hid hc; have HTk := Lib.hid hT
        have hTw := HT.out.trans (HT2.out.trans hT)
        have HTw := Lib.hid hTw
        clear hmk ha hc hT hTw
        have hBk : Below w.heap.size w wk := HB2.out.trans (HTw.out.lower HB2.out.size (by have := Hz.out; omega))
        have HBk := Lib.hid hBk
        clear hBk
        by_cases hk2 : k < 2
        · have hd2 : decide ((k : Int) < 2) = true := by simp; omega
          obtain ⟨x, hx⟩ : ∃ x, [xa, xc][k]? = some x := ⟨_, List.getElem?_eq_getElem (by simpa using hk2)⟩
          have ck : wk.cell? ⟨vb1, k, none⟩ = some (.int .i64 x) := by
            unfold World.cell?
            rw [(HTk.out.same vb1 (lt_of_heap HN2.out) Hne.out).trans HN2.out]
            have : k = 0 ∨ k = 1 := by omega
            rcases this with rfl | rfl <;> simpa using hx
          have cv := (box_at ((HTw.out.same _ (lt_of_heap HV2.out) (by omega)).trans HV2.out) rfl).1
          have hbad : ¬ (0 ≤ x ∧ x < n) → ¬ PickP J V F C := fun h hp => by
            have h1 := hp.1 _ (List.getElem_mem hiC)
            rw [Hx.out, Hn.out] at h1
            obtain ⟨h2, h3, h4, h5⟩ := h1
            have : k = 0 ∨ k = 1 := by omega
            rcases this with rfl | rfl
            · simp at hx; subst hx; exact h ⟨h2, h3⟩
            · simp at hx; subst hx; exact h ⟨h4, h5⟩
          have hxk : [xa, xc].take (k + 1) = [xa, xc].take k ++ [x] := by
            obtain ⟨h1, h2⟩ := List.getElem?_eq_some_iff.1 hx
            rw [List.take_succ_eq_append_getElem h1, h2]
          have hxc : (0 < k + 1 → 0 ≤ x ∧ x < n → 0 ≤ xa ∧ xa < n) ∧ (1 < k + 1 → 0 ≤ x ∧ x < n → 0 ≤ xc ∧ xc < n) := by
            have : k = 0 ∨ k = 1 := by omega
            rcases this with rfl | rfl
            · simp at hx; subst hx; exact ⟨fun _ h => h, by simp⟩
            · simp at hx; subst hx; exact ⟨fun _ _ => Hka.out (by omega), fun _ h => h⟩
          have Hbad := Lib.hid hbad; have Hxk := Lib.hid hxk; have Hxc := Lib.hid hxc
          clear hbad hxk hxc hx
          by_cases hx0 : x < 0
          · have h1 : decide (x < 0) = true := by simp; omega
            go_wp2_with fail
            go_ret
            exact ⟨false, rfl, ⟨(fun h => by cases h), fun h => absurd h (Hbad.out (by omega))⟩, HBk.out⟩
          · have h1 : decide (x < 0) = false := by simp; omega
            by_cases hxn : x ≥ (n : Int)
            · have h3 : decide (x ≥ (n : Int)) = true := by simp; omega
              have h3' : decide ((n : Int) ≤ x) = true := by simp; omega
              go_wp2_with fail
              go_ret
              exact ⟨false, rfl, ⟨(fun h => by cases h), fun h => absurd h (Hbad.out (by omega))⟩, HBk.out⟩
            · have h3 : decide (x ≥ (n : Int)) = false := by simp; omega
              have h3' : decide ((n : Int) ≤ x) = false := by simp; omega
              obtain ⟨y, rfl⟩ : ∃ y : Nat, x = y := ⟨x.toNat, by omega⟩
              have hyn : y < n := by omega
              have ca := (box_at ((HTw.out.same _ (lt_of_heap HA2.out) (by omega)).trans HA2.out) rfl).1
              have fz := arr_frozen HMk.out y
              have cy := bools_cell HMk.out (j := y) (by rw [markL_len]; exact hyn)
              go_wp2_with fail
              go_roundw
              case rel => exact ⟨k + 1, by omega, by push_cast; rfl, by rw [Hxk.out, ← List.append_assoc, ← markL_set hyn, ← bools_set]; exact arr_set HMk.out y _, fun h => Hxc.out.1 h ⟨by omega, by omega⟩, fun h => Hxc.out.2 h ⟨by omega, by omega⟩, HTk.out.set _⟩
              case measure => simp [intOf]; omega
        · have hd2 : decide ((k : Int) < 2) = false := by simp; omega
          obtain rfl : k = 2 := by omega
          go_wp2_with fail
          go_roundw
          case rel => exact ⟨i + 1, by have := Hm.out; omega, by push_cast; rfl, by
            rw [List.take_succ_eq_append_getElem hiC, Hx.out, plcs_snoc, List.append_assoc]
            exact HMk.out, fun j hj h => (by
              rcases Nat.lt_succ_iff_lt_or_eq.1 h with h | rfl
              · exact Hin.out j hj h
              · rw [Hx.out]; exact ⟨(Hka.out (by omega)).1, (Hka.out (by omega)).2, (Hkc.out (by omega)).1, (Hkc.out (by omega)).2⟩), HTw.out⟩
          case measure => simp [intOf]; omega
    · have hd : decide ((i : Int) < (m : Int)) = false := by simp; omega
      obtain rfl : i = m := by omega
      have hC2 : ∀ c ∈ C, inC n c := fun c hc => by
        obtain ⟨j, hj, rfl⟩ := List.getElem_of_mem hc
        exact Hin.out j hj (by have := Hm.out; omega)
      have hms := HM.out
      rw [List.take_of_length_le (by rw [Hm.out]; exact Nat.le_refl _)] at hms
      have hBw : Below w.heap.size w wr := HB2.out.trans (HT.out.lower HB2.out.size (by have := Hz.out; omega))
      have cv := (box_at ((HT.out.same _ (lt_of_heap HV2.out) (by omega)).trans HV2.out) rfl).1
      have hmk := fun W => run_mkN W n (by omega)
      have HC2' := Lib.hid hC2; have HMs := Lib.hid hms; have HBw := Lib.hid hBw
      clear hC2 hms hBw Hin HM
      go_wp2_with fail
      obtain ⟨s1, s2, s3, s4, s5, s6⟩ := four_blocks wr (.cells (ints (List.replicate n 0)) 31) (.cells #[.slice (some ⟨wr.heap.size, 0, none⟩) n n] 23)
        (.cells #[.func (.func 29) #[] #[.pointer (some ⟨z + 3, 0, none⟩), .pointer (some ⟨wr.heap.size + 1, 0, none⟩)]] 74)
        (.cells #[.func (.func 30) #[] #[.pointer (some ⟨z + 1, 0, none⟩), .pointer (some ⟨z + 5, 0, none⟩), .pointer (some ⟨z + 2, 0, none⟩), .pointer (some ⟨z, 0, none⟩), .pointer (some ⟨wr.heap.size + 1, 0, none⟩), .pointer (some ⟨wr.heap.size + 2, 0, none⟩), .pointer (some ⟨wr.heap.size + 3, 0, none⟩)]] 74) _ rfl
      have hlz := lt_of_heap HMs.out
      have hza : z + 5 < wr.heap.size := by have h1 := lt_of_heap HA2.out; have h2 := HT.out.size; omega
      have st : ∀ {W4 : World} {b : Nat} {o : Obj}, Below wr.heap.size wr W4 → W2.heap[b]? = some o → b ≠ z + 4 → W4.heap[b]? = some o := fun {W4 b o} hb4 h hne => (hb4.block b (lt_of_heap ((HT.out.same b (lt_of_heap h) hne).trans h))).trans ((HT.out.same b (lt_of_heap h) hne).trans h)
      have hch := choose_any (A := askedL C n) (vcap := vcap) (fcap := fcap) (ccap := ccap) (bp := z) (bv := z + 1) (bf := z + 2) (bc := z + 3) (ba := z + 5) (ab := z + 4) (bx := wr.heap.size + 1) (xb := wr.heap.size) (bh := wr.heap.size + 2) (bk := wr.heap.size + 3) HQ.out HV.out HF.out HC.out (by rw [Hn.out]; exact HC2'.out) H32.out (by rw [askedL, markL_len, Hn.out]) (by rw [Hn.out]; omega) (by rw [Hm.out]; omega) HFl.out HBw.out.size n 0 (List.replicate n 0) _ (by rw [Hn.out]; omega) (by simp [Hn.out])
        ⟨st s1 HP2.out (by omega), by rw [Hn.out]; exact st s1 HV2.out (by omega), by rw [Hfl.out]; exact st s1 HF2.out (by omega), by rw [Hm.out]; exact st s1 HC2.out (by omega), by rw [Hn.out]; exact st s1 HA2.out (by omega), (s1.block _ hlz).trans HMs.out, by rw [Hn.out]; exact s4, s5, s6, ⟨by omega, by omega, by omega, by omega⟩, by omega, by omega, by omega, by omega, by omega⟩ s3 (HBw.out.trans (s1.mono HBw.out.size))
      rw [show (((0 : Nat) : Int)) = 0 from rfl] at hch
      have Hch := Lib.hid hch; have S1 := Lib.hid s1
      clear hch s1 s2 s3 s4 s5 s6 st cv hmk
      refine Hch.out.mono ?_
      rintro e w5 ⟨b, X', rfl, _, _, _, h4, h5⟩
      have H4 := Lib.hid h4; have H5 := Lib.hid h5
      clear h4 h5
      go_wp2_with fail
      go_ret
      refine ⟨b, rfl, H5.out.trans ⟨fun h => ⟨by rw [Hn.out]; exact HC2'.out, by rw [Hn.out]; exact h⟩, fun h => by have := h.2; rwa [Hn.out] at this⟩, ?_⟩
      have hb6 := HBw.out.trans (S1.out.mono HBw.out.size)
      exact hb6.trans (H4.out.lower hb6.size HBw.out.size)
end
end Go.Proofs.Ytghihhjcoilmgaa
