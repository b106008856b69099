/- Join, walked. -/
import Derived.Test.YtghihhjcoilmgaaQ8
namespace Go.Proofs.Ytghihhjcoilmgaa
set_option maxRecDepth 100000
open Go.RowKit Go.Maps Go.Shelf
open Go.ChangeMaps Go.MapKept
set_option linter.unusedVariables false
set_option linter.unusedSimpArgs false

/-- nothing but two maps has turned -/
structure TnM (w w' : World) (mf mc : Nat) : Prop where
  os : w'.os = w.os
  tape : w'.tape = w.tape
  output : w'.output = w.output
  size : w.heap.size ≤ w'.heap.size
  same : ∀ i, i < w.heap.size → i ≠ mf → i ≠ mc → w'.heap[i]? = w.heap[i]?
namespace TnM
variable {a b d : World} {mf mc : Nat}
theorem refl (w : World) (mf mc : Nat) : TnM w w mf mc := ⟨rfl, rfl, rfl, Nat.le_refl _, fun _ _ _ _ => rfl⟩
theorem below (h : Below a.heap.size a b) : TnM a b mf mc := ⟨h.os, h.tape, h.output, h.size, fun i hi _ _ => h.block i hi⟩
theorem trans (h : TnM a b mf mc) (k : TnM b d mf mc) : TnM a d mf mc :=
  ⟨k.os.trans h.os, k.tape.trans h.tape, k.output.trans h.output, Nat.le_trans h.size k.size, fun i hi h1 h2 => (k.same i (Nat.lt_of_lt_of_le hi h.size) h1 h2).trans (h.same i hi h1 h2)⟩
theorem turnF (h : a.mapTurned b mf) : TnM a b mf mc := by
  obtain ⟨es, clock, es', clock', hb, rfl⟩ := h
  exact ⟨rfl, rfl, rfl, by simp [setBlock], fun i _ hi _ => ChangeMaps.heap_setBlock_other hb _ hi⟩
theorem turnC (h : a.mapTurned b mc) : TnM a b mf mc := by
  obtain ⟨es, clock, es', clock', hb, rfl⟩ := h
  exact ⟨rfl, rfl, rfl, by simp [setBlock], fun i _ _ hi => ChangeMaps.heap_setBlock_other hb _ hi⟩
theorem lower {n : Nat} (h : TnM a b mf mc) (h1 : n ≤ mf) (h2 : n ≤ mc) (hn : n ≤ a.heap.size) : Below n a b := ⟨h.os, h.tape, h.output, h.size, fun i hi => h.same i (by omega) (by omega) (by omega)⟩
end TnM
theorem OwnU.turn {base mf mc : Nat} {w w' : World} {v : Value} {L : List Int} (h : OwnU base w v L) (hf : ∃ es k, w.heap[mf]? = some (.map es k)) (hc : ∃ es k, w.heap[mc]? = some (.map es k)) (ht : TnM w w' mf mc) : OwnU base w' v L := by
  obtain ⟨_, _, hf⟩ := hf
  obtain ⟨_, _, hc⟩ := hc
  refine h.stay fun i cur hi => ht.same i (lt_of_heap hi) (fun e => ?_) (fun e => ?_)
  · subst e; rw [hi] at hf; cases hf
  · subst e; rw [hi] at hc; cases hc
theorem MapAt.obj {κ : Type} {enc : κ → Value} {ok : κ → Prop} {w : World} {b : Nat} {f : κ → Option Value} (h : MapAt enc ok w b f) : ∃ es k, w.heap[b]? = some (.map es k) := by
  obtain ⟨es, k, h, _⟩ := h; exact ⟨es, k, h⟩
theorem Conn.is32 {J : Jn} {a b : Int} (h : Conn J a b) (hJ : ∀ p ∈ J, is32 p.1 ∧ is32 p.2) (ha : is32 a) : is32 b := by
  by_cases hab : a = b
  · rw [← hab]; exact ha
  · obtain ⟨p, hp, rfl | rfl⟩ := h.mem hab
    · exact (hJ p hp).1
    · exact (hJ p hp).2
/-- the first k of the list stand for r by now -/
theorem joinF_step (f : Int → Option Int) (all : List Int) (r : Int) (k : Nat) (hk : k < all.length) (y : Int) : upd (fun n => (joinF f (all.take k) r n).map uv) all[k] (some (.int .u32 r)) y = (joinF f (all.take (k + 1)) r y).map uv := by
  unfold upd joinF
  rw [List.take_succ_eq_append_getElem hk]
  by_cases h1 : y = all[k]
  · rw [if_pos h1, if_pos (List.mem_append_right _ (by rw [h1]; exact List.mem_singleton.2 rfl))]; rfl
  · rw [if_neg h1]
    show Option.map uv (if y ∈ all.take k then some r else f y) = _
    by_cases h2 : y ∈ all.take k
    · rw [if_pos h2, if_pos (List.mem_append_left _ h2)]
    · rw [if_neg h2, if_neg (fun h => by
        rcases List.mem_append.1 h with h | h
        · exact h2 h
        · exact h1 (List.mem_singleton.1 h))]

theorem OwnU.at' {b : Nat} {w : World} {s : Option Addr} {n cap : Nat} {L : List Int} (h : OwnU b w (.slice s n cap) L) : IsU w s L := by
  obtain ⟨a, c, e, _, _, hU⟩ := h.u
  injection e with e1 e2 e3
  rw [e1]
  exact hU
section
variable {w : World} {pb mf mc : Nat} {f : Int → Option Int} {c : Int → Option (List Int)} {J : Jn}
set_option maxRecDepth 100000 in
set_option maxHeartbeats 8000000 in
/-- the part behind the lists: long and short stand there -/
theorem joinP_u (h : IsP w pb mf mc f c) (hI : PInv J f c) (hJ : ∀ p ∈ J, is32 p.1 ∧ is32 p.2) (hJl : J.length ≤ 1000) {a b : Int} (ha : is32 a) (hb : is32 b) :
    Calls Try.prog 25 #[.pointer (some ⟨pb, 0, none⟩), .int .u32 a, .int .u32 b] w fun e w' => ∃ r two f' c', e = .returned (.tuple #[.int .u32 r, .bool two]) ∧ IsP w' pb mf mc f' c' ∧ PInv (J ++ [(a, b)]) f' c' ∧ TnM w w' mf mc ∧
      (((a = 0 ∨ b = 0) ∧ r = 0 ∧ two = false) ∨ (a ≠ 0 ∧ b ≠ 0 ∧ r = findP f' a ∧ (two = true ↔ ¬ Conn J a b))) := by
  obtain ⟨c0, c1⟩ := h.cells
  have hq := run_eql_map_nil_sl (P := Try.prog) w 87 _ _ (some mf) Try.underlying87
  have H := Lib.hid h; have HI := Lib.hid hI; have HJ := Lib.hid hJ
  clear h hI hJ
  by_cases ha0 : a = 0
  · subst ha0
    have hz : ((0 : Int) == 0) = true := rfl
    go_enter Try.func25, Try.ntmps25
    go_wp2_with fail
    go_ret2
    exact ⟨_, _, f, c, rfl, H.out, HI.out.still (.inl rfl), TnM.refl _ _ _, .inl ⟨.inl trivial, rfl, rfl⟩⟩
  · have hza : (a == 0) = false := by simp [ha0]
    by_cases hb0 : b = 0
    · subst hb0
      have hz : ((0 : Int) == 0) = true := rfl
      go_enter Try.func25, Try.ntmps25
      go_wp2_with fail
      go_ret2
      exact ⟨_, _, f, c, rfl, H.out, HI.out.still (.inr (.inl rfl)), TnM.refl _ _ _, .inl ⟨.inr trivial, rfl, rfl⟩⟩
    · have hzb : (b == 0) = false := by simp [hb0]
      have hc1 := Lib.hid (find_u H.out ha)
      have hc2 := Lib.hid (find_u H.out hb)
      obtain ⟨x, hx⟩ : ∃ x, findP f a = x := ⟨_, rfl⟩
      obtain ⟨y, hy⟩ : ∃ y, findP f b = y := ⟨_, rfl⟩
      have x32 : is32 x := by rw [← hx]; exact (HI.out.find a).1.is32 HJ.out ha
      have y32 : is32 y := by rw [← hy]; exact (HI.out.find b).1.is32 HJ.out hb
      have X32 := Lib.hid x32; have Y32 := Lib.hid y32
      rw [hx] at hc1
      rw [hy] at hc2
      have Hx := Lib.hid hx; have Hy := Lib.hid hy; have Ha0 := Lib.hid ha0; have Hb0 := Lib.hid hb0
      clear hx hy x32 y32 ha0 hb0
      go_enter Try.func25, Try.ntmps25
      go_wp2_with fail
      refine hc1.out.mono ?_
      rintro e w1 ⟨rfl, rfl⟩
      go_wp2_with fail
      refine hc2.out.mono ?_
      rintro e w1 ⟨rfl, rfl⟩
      by_cases hxy : x = y
      · subst hxy
        have hxx : (x == x) = true := by simp
        go_wp2_with fail
        go_ret2
        have hcn : Conn J a b := HI.out.find_eq.1 (by rw [Hx.out, Hy.out])
        exact ⟨_, _, f, c, rfl, H.out, HI.out.still (.inr (.inr hcn)), TnM.refl _ _ _, .inr ⟨Ha0.out, Hb0.out, Hx.out.symm, by simp [hcn]⟩⟩
      · have hxx : (x == y) = false := by simp [hxy]
        have Hxy := Lib.hid hxy
        clear hxy hq
        have hne : pb ≠ mf ∧ pb ≠ mc := by
          obtain ⟨cv, m1, _⟩ := H.out.cl
          obtain ⟨_, _, o1⟩ := H.out.of.obj
          obtain ⟨_, _, o2⟩ := m1.obj
          exact ⟨fun e => (by have := H.out.head; rw [e, o1] at this; cases this), fun e => (by have := H.out.head; rw [e, o2] at this; cases this)⟩
        have Hne := Lib.hid hne
        clear hne
        have hh : ∀ W, TnM w W mf mc → W.cell? ⟨pb, 0, none⟩ = some (.map (some mf)) ∧ W.cell? ⟨pb, 1, none⟩ = some (.map (some mc)) := by
          intro W ht
          have e3 := (ht.same pb (lt_of_heap H.out.head) Hne.out.1 Hne.out.2).trans H.out.head
          unfold World.cell?
          rw [e3]
          exact ⟨rfl, rfl⟩
        have Hh := Lib.hid hh
        have hl1 := Lib.hid (list_u H.out X32.out)
        obtain ⟨ndX, mX⟩ := HI.out.list a
        obtain ⟨ndY, mY⟩ := HI.out.list b
        rw [Hx.out] at ndX mX
        rw [Hy.out] at ndY mY
        obtain ⟨X, hX⟩ : ∃ X, listP c x = X := ⟨_, rfl⟩
        obtain ⟨Y, hY⟩ : ∃ Y, listP c y = Y := ⟨_, rfl⟩
        rw [hX] at hl1 ndX mX
        rw [hY] at ndY mY
        have lX := conn_len ndX (fun b hb => (mX b).1 hb)
        have lY := conn_len ndY (fun b hb => (mY b).1 hb)
        have pX : 0 < X.length := List.length_pos_of_mem ((mX a).2 (.refl _))
        have pY : 0 < Y.length := List.length_pos_of_mem ((mY b).2 (.refl _))
        have hl2 := fun (W : World) (hW : Below w.heap.size w W) => list_u (H.out.below hW) Y32.out
        rw [hY] at hl2
        have Hl2 := Lib.hid hl2
        have MX := Lib.hid mX; have MY := Lib.hid mY; have HX := Lib.hid hX; have HY := Lib.hid hY
        clear hh hX hY ndX ndY mX mY hl2 c0 c1
        go_wp2_with fail
        refine hl1.out.mono ?_
        rintro e w1 ⟨v1, rfl, hO1, hB1⟩
        obtain ⟨s1, cap1, rfl, hc1', _, hU1⟩ := hO1.u
        have HU1 := Lib.hid hU1; have HB1 := Lib.hid hB1
        clear hO1 hU1 hB1
        go_wp2_with fail
        refine (Hl2.out w1 HB1.out).mono ?_
        rintro e w2 ⟨v2, rfl, hO2, hB2⟩
        obtain ⟨s2, cap2, rfl, hc2', _, hU2⟩ := hO2.u
        have HU2 := Lib.hid hU2; have HB2 := Lib.hid (HB1.out.trans (hB2.mono HB1.out.size)); have HU1 := Lib.hid (HU1.out.below hB2)
        clear hO2 hU2 hB2 HB1 hl1 Hl2
        go_upto_if 53 with fail
        go_cut [10, 11] from 16 (fun s10 s11 wc => ∃ (la sa : Option Addr) (lc sc : Nat) (Lg Sh : List Int), s10 = .slice la Lg.length lc ∧ s11 = .slice sa Sh.length sc ∧ wc = w2 ∧ IsU wc la Lg ∧ IsU wc sa Sh ∧ Lg.length ≤ lc ∧ (Lg ++ Sh).Perm (X ++ Y) ∧ 0 < Lg.length ∧ 0 < Sh.length ∧ Lg.length ≤ 2 * J.length + 1 ∧ Sh.length ≤ 2 * J.length + 1)
        case first =>
          by_cases hlt : X.length < Y.length
          · have hd : decide ((X.length : Int) < (Y.length : Int)) = true := by simp; omega
            go_wp2_with fail
            go_meet
            exact ⟨s2, s1, cap2, cap1, Y, X, rfl, rfl, rfl, HU2.out, HU1.out, hc2', List.perm_append_comm, pY, pX, lY, lX⟩
          · have hd : decide ((X.length : Int) < (Y.length : Int)) = false := by simp; omega
            go_wp2_with fail
            go_meet
            exact ⟨s1, s2, cap1, cap2, X, Y, rfl, rfl, rfl, HU1.out, HU2.out, hc1', List.Perm.refl _, pX, pY, lX, lY⟩
        case rest =>
          obtain ⟨la, sa, lc, sc, Lg, Sh, rfl, rfl, rfl, hUL, hUS, hlc, hperm, pL, pS, lL, lS⟩ := hcut
          have HUL := Lib.hid hUL; have HUS := Lib.hid hUS; have HPm := Lib.hid hperm
          clear hUL hUS hperm HU1 HU2
          have hcl := clip_u la Lg.length lc wc hlc (by omega) (fun j hj => by obtain ⟨g, e, _⟩ := HUL.out j hj; exact ⟨g, e⟩) pL
          go_wp2_with fail
          refine hcl.mono ?_
          rintro e w3 ⟨rfl, rfl⟩
          obtain ⟨cv, m1, m2, m3⟩ := H.out.cl
          have HM0 := Lib.hid m1; have HM2 := Lib.hid m2; have HM3 := Lib.hid m3
          clear m1 m2 m3
          go_upto_region 12 with (first
            | (at_builtin; refine wpList_clipped rfl (.tmp 57) (.tmp 58) rfl HUL.out HUS.out pL pS (by omega) (by omega) rfl rfl ?_; intro v4 w4 hO4 hB4; obtain ⟨s4, cap4, rfl, _⟩ := hO4.u; have HO4 := Lib.hid (hO4.mono (Nat.zero_le _)); have HB4 := Lib.hid (HB2.out.trans (hB4.mono HB2.out.size)); have HT4 := Lib.hid (TnM.below (mf := mf) (mc := mc) HB4.out); have HM4 := Lib.hid (HM0.out.stay (HB4.out.block mc HM0.out.lt)); have HF4 := Lib.hid (H.out.of.stay (HB4.out.block mf H.out.of.lt)); have c4 := (Hh.out w4 HT4.out).2; clear hO4 hB4)
            | (at_delete; refine wpList_delete_raw _ rfl _ _ 88 31 rfl 23 kysU Try.underlying88 mc cv rfl HM4.out x X32.out rfl ?_; intro w5 hm5 ht5; have HM5 := Lib.hid hm5; have HT5 := Lib.hid (HT4.out.trans (TnM.turnC ht5)); have HF5 := Lib.hid (HF4.out.stay ((turned_heap ht5).2 mf H.out.ne)); have HO5 := Lib.hid (HO4.out.turn HF4.out.obj HM4.out.obj (TnM.turnC ht5)); have c5 := (Hh.out w5 HT5.out).2; clear hm5 ht5)
            | (at_delete; refine wpList_delete_raw _ rfl _ _ 88 31 rfl 23 kysU Try.underlying88 mc _ rfl HM5.out y Y32.out rfl ?_; intro w6 hm6 ht6; have HM6 := Lib.hid hm6; have HT6 := Lib.hid (HT5.out.trans (TnM.turnC ht6)); have HF6 := Lib.hid (HF5.out.stay ((turned_heap ht6).2 mf H.out.ne)); have HO6 := Lib.hid (HO5.out.turn HF5.out.obj HM5.out.obj (TnM.turnC ht6)); have c6 := (Hh.out w6 HT6.out).2; clear hm6 ht6; go_frame))
          obtain ⟨r, hr⟩ : ∃ r, r = min x y := ⟨_, rfl⟩
          have hr2 : r = x ∨ r = y := by rcases Int.le_total x y with hle | hle <;> simp [hr, hle] <;> omega
          have r32 : is32 r := by rcases hr2 with e | e <;> rw [e]
                                  · exact X32.out
                                  · exact Y32.out
          have Hr := Lib.hid hr; have R32 := Lib.hid r32
          clear hr hr2 r32
          go_cut [13] from 16 (fun s13 wx => s13 = .int .u32 r ∧ wx = w6)
          case first =>
            go_wp2_with fail
            all_goals
              go_meet
              refine ⟨?_, rfl⟩
              rw [Hr.out]
              congr 1
              omega
          case rest =>
            obtain ⟨rfl, rfl⟩ := hcut
            have hmem : ∀ z ∈ Lg ++ Sh, is32 z := fun z hz => by
              rcases List.mem_append.1 ((HPm.out.mem_iff).1 hz) with h | h
              · exact ((MX.out z).1 h).is32 HJ.out ha
              · exact ((MY.out z).1 h).is32 HJ.out hb
            have Hmem := Lib.hid hmem
            clear hmem c4 c5
            obtain ⟨all, hall⟩ : ∃ all, Lg ++ Sh = all := ⟨_, rfl⟩
            obtain ⟨n, hn⟩ : ∃ n, Lg.length + Sh.length = n := ⟨_, rfl⟩
            have hn2 : all.length = n := by rw [← hall, ← hn, List.length_append]
            rw [hall] at HO6 Hmem HPm
            rw [hn2] at HO6
            rw [hn]
            have hnl : n ≤ 5000 := by omega
            have Hn := Lib.hid hn2
            clear hall hn hn2 HO4 HO5 HF4 HF5 HM4 HM5 HUL HUS
            go_upto_region 14 with (at_mapUpdate; refine wpList_mapUpdate_raw _ rfl _ _ _ 88 rfl 31 23 kysU Try.underlying88 mc _ rfl HM6.out r R32.out _ rfl rfl ?_; intro w7 hm7 ht7; have HM7 := Lib.hid hm7; have HT7 := Lib.hid (HT6.out.trans (TnM.turnC ht7)); have HF7 := Lib.hid (HF6.out.stay ((turned_heap ht7).2 mf H.out.ne)); have HO7 := Lib.hid (HO6.out.turn HF6.out.obj HM6.out.obj (TnM.turnC ht7)); clear hm7 ht7; go_frame)
            clear c6
            go_wp2_with fail
            go_loopw [81] (fun u wr => ∃ k : Nat, k ≤ n ∧ u = .int .i64 k ∧ MapAt uv is32 wr mf (fun z => (joinF f (all.take k) r z).map uv) ∧ TnM w7 wr mf mc ∧ wr.heap[mc]? = w7.heap[mc]?) (fun u _ => n - (intOf u).toNat)
            case atStart => exact ⟨0, by omega, rfl, HF7.out.congr (fun z _ => by simp [joinF]), TnM.refl _ _ _, rfl⟩
            case round =>
              obtain ⟨k, hk, rfl, hM, hT, hC⟩ := hrel
              have HM := Lib.hid hM; have HT := Lib.hid hT; have HC := Lib.hid hC
              have HO := Lib.hid (HO7.out.turn HF7.out.obj HM7.out.obj hT)
              clear hM hT hC
              by_cases hkn : k < n
              · have hd : decide ((k : Int) < (n : Int)) = true := by simp; omega
                have hka : k < all.length := by rw [Hn.out]; exact hkn
                obtain ⟨g, rfl, _, cg⟩ := HO.out.at' k hka
                obtain ⟨z, hz⟩ : ∃ z, all[k] = z := ⟨_, rfl⟩
                rw [hz] at cg
                have z32 := Lib.hid (Hmem.out z (by rw [← hz]; exact List.getElem_mem _))
                have Hst := Lib.hid (joinF_step f all r k hka)
                rw [hz] at Hst
                have cc := (Hh.out _ (HT7.out.trans HT.out)).1
                clear hz
                go_wp2_with (at_mapUpdate; refine wpList_mapUpdate_raw _ rfl _ _ _ 87 rfl 31 31 kysU Try.underlying87 mf _ rfl HM.out z z32.out _ rfl rfl ?_; intro w8 hm8 ht8; have HM8 := Lib.hid (hm8.congr (fun q _ => (Hst.out q).symm)); have HT8 := Lib.hid (HT.out.trans (TnM.turnF ht8)); have HC8 := Lib.hid (((turned_heap ht8).2 mc (Ne.symm H.out.ne)).trans HC.out); clear hm8 ht8; go_frame)
                go_roundw
                case rel => exact ⟨k + 1, by omega, by push_cast; rfl, HM8.out, HT8.out, HC8.out⟩
                case measure => simp [intOf]; omega
              · have hd : decide ((k : Int) < (n : Int)) = false := by simp; omega
                have hkn2 : k = n := by omega
                go_wp2_with fail
                go_ret2
                have hcn : ¬ Conn J a b := fun h => Hxy.out (by rw [← Hx.out, ← Hy.out]; exact HI.out.find_eq.2 h)
                have hTa := HT7.out.trans HT.out
                have hP := PInv.join HI.out Ha0.out Hb0.out hcn (all := all) (by rw [Hx.out, Hy.out, HX.out, HY.out]; exact HPm.out) (r := r) (by rw [Hx.out, Hy.out]; exact Hr.out)
                rw [Hx.out, Hy.out] at hP
                have haa : a ∈ all := HPm.out.mem_iff.2 (List.mem_append_left _ ((MX.out a).2 (.refl _)))
                refine ⟨r, true, joinF f all r, joinC c x y all r, rfl, ⟨(hTa.same pb (lt_of_heap H.out.head) Hne.out.1 Hne.out.2).trans H.out.head, H.out.ne, ?_, upd (upd (upd cv x none) y none) r (some (.slice s4 n cap4)), HM7.out.stay HC.out, fun r0 h32 h0 => ?_, fun r0 L h32 h0 => ?_⟩, hP, hTa, .inr ⟨Ha0.out, Hb0.out, (joinF_find haa).symm, by simp [hcn]⟩⟩
                · have := HM.out
                  rwa [List.take_of_length_le (by rw [Hn.out]; omega)] at this
                · unfold joinC upd at h0
                  unfold upd
                  by_cases e1 : r0 = r
                  · rw [if_pos e1] at h0; cases h0
                  · rw [if_neg e1] at h0 ⊢
                    by_cases e2 : r0 = y
                    · rw [if_pos e2]
                    · rw [if_neg e2] at h0 ⊢
                      by_cases e3 : r0 = x
                      · rw [if_pos e3]
                      · rw [if_neg e3] at h0 ⊢
                        exact HM2.out r0 h32 h0
                · unfold joinC upd at h0
                  unfold upd
                  by_cases e1 : r0 = r
                  · rw [if_pos e1] at h0 ⊢
                    injection h0 with h0
                    subst h0
                    exact ⟨_, rfl, HO.out⟩
                  · rw [if_neg e1] at h0 ⊢
                    by_cases e2 : r0 = y
                    · rw [if_pos e2] at h0; cases h0
                    · rw [if_neg e2] at h0 ⊢
                      by_cases e3 : r0 = x
                      · rw [if_pos e3] at h0; cases h0
                      · rw [if_neg e3] at h0 ⊢
                        obtain ⟨v, k1, k2⟩ := HM3.out r0 L h32 h0
                        exact ⟨v, k1, k2.turn H.out.of.obj HM0.out.obj hTa⟩
end
end Go.Proofs.Ytghihhjcoilmgaa
