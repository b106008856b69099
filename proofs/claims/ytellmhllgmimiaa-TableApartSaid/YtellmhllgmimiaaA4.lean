/- TableApart. -/
import Derived.Test.YtellmhllgmimiaaA3
namespace Go.Proofs.Ytellmhllgmimiaa
open Go.RowKit Go.Maps
set_option linter.unusedVariables false
set_option linter.unusedSimpArgs false

set_option maxRecDepth 100000 in
set_option maxHeartbeats 8000000 in
theorem apart_any (a a' a'' : Option Addr) (cap cap' cap'' : Nat) (L LA LB : List ActT) (w : World) (ha : IsActs w a L) (ha' : IsActs w a' LA) (ha'' : IsActs w a'' LB) :
    Calls Try.prog 6 #[.slice a L.length cap, .slice a' LA.length cap', .slice a'' LB.length cap''] w fun e w' => e = .returned (.bool true) ∧ Below w.heap.size w w' := by
  have HA := Lib.hid ha; have HA' := Lib.hid ha'; have HA'' := Lib.hid ha''
  obtain ⟨l, hl⟩ : ∃ l, L.length = l := ⟨_, rfl⟩
  obtain ⟨l', hl'⟩ : ∃ l, LA.length = l := ⟨_, rfl⟩
  obtain ⟨l'', hl''⟩ : ∃ l, LB.length = l := ⟨_, rfl⟩
  rw [hl, hl', hl'']
  have Hl := Lib.hid hl; have Hl' := Lib.hid hl'; have Hl'' := Lib.hid hl''
  clear ha ha' ha'' hl hl' hl''
  go_enter Try.func6, Try.ntmps6
  by_cases h1 : 50 < l
  · have hd1 : decide ((l : Int) > 50) = true := by simp; omega
    go_wp2_with fail
    refine (known_any w).mono ?_
    rintro e w1 ⟨rfl, hB⟩
    have HB := Lib.hid hB
    clear hB
    go_wp2_with fail
    go_ret
    exact ⟨rfl, HB.out⟩
  have hd1 : decide ((l : Int) > 50) = false := by simp; omega
  by_cases h2 : 50 < l'
  · have hd2 : decide ((l' : Int) > 50) = true := by simp; omega
    go_wp2_with fail
    refine (known_any w).mono ?_
    rintro e w1 ⟨rfl, hB⟩
    have HB := Lib.hid hB
    clear hB
    go_wp2_with fail
    go_ret
    exact ⟨rfl, HB.out⟩
  have hd2 : decide ((l' : Int) > 50) = false := by simp; omega
  by_cases h3 : 50 < l''
  · have hd3 : decide ((l'' : Int) > 50) = true := by simp; omega
    go_wp2_with fail
    refine (known_any w).mono ?_
    rintro e w1 ⟨rfl, hB⟩
    have HB := Lib.hid hB
    clear hB
    go_wp2_with fail
    go_ret
    exact ⟨rfl, HB.out⟩
  have hd3 : decide ((l'' : Int) > 50) = false := by simp; omega
  go_wp2_with fail
  refine (new_any (Z := Zone.from w.heap.size) (fun i j h => h) (fun i h => h)).mono ?_
  rintro e w1 ⟨rfl, hI, hB, -⟩
  have HI := Lib.hid hI; have HB := Lib.hid hB
  clear hI hB
  go_wp2_with fail
  obtain ⟨W0, hW0⟩ : ∃ W0, W0 = w1.alloc (.cells #[.slice none 0 0, .slice none 0 0] 44) := ⟨_, rfl⟩
  obtain ⟨Wv, hWv⟩ : ∃ Wv, Wv = W0.alloc (.cells #[.slice none 0 0, .slice none 0 0] 44) := ⟨_, rfl⟩
  obtain ⟨hS0, hV0, hB0, hn0⟩ := StsF.start HI.out HB.out.size W0 Wv hW0 hWv
  have HBv := Lib.hid (HB.out.trans (hB0.mono HB.out.size))
  have HV := Lib.hid hV0
  obtain ⟨tb, htb⟩ : ∃ tb, w.heap.size + 2 = tb := ⟨_, rfl⟩
  obtain ⟨rb, hrb⟩ : ∃ rb, w1.heap.size = rb := ⟨_, rfl⟩
  have hubl : W0.heap.size < Wv.heap.size := by rw [hWv, World.size_alloc]; omega
  have hz0 : W0.heap.size = w1.heap.size + 1 := by rw [hW0, World.size_alloc]
  rw [← hW0, ← hWv]
  rw [hz0] at hS0 HV hubl hn0
  obtain ⟨ub, hub⟩ : ∃ ub, w1.heap.size + 1 = ub := ⟨_, rfl⟩
  rw [hub] at hS0 HV hubl hn0 ⊢
  rw [htb, hrb] at hS0
  rw [htb, hrb]
  have HS0 := Lib.hid hS0; have Hub := Lib.hid (And.intro hn0 hubl)
  have Hn0 := Lib.hid (show w.heap.size ≤ Wv.heap.size by have := HBv.out.size; exact this)
  clear hz0 hS0 hV0 hB0 hn0 hW0 hWv htb hrb hub hubl
  go_wp2_with fail
  go_loopw [10] (fun u wr => ∃ k : Nat, k ≤ l ∧ u = .int .i64 k ∧ Fr (Zone.off (belowAnd w.heap.size ub)) Wv wr ∧ ∃ T : TS, StsF (belowAnd w.heap.size ub) (justB ub) wr tb rb T T ∧ T.length ≤ 0 + k) (fun u _ => l - (intOf u).toNat)
  case atStart => exact ⟨0, by omega, rfl, Fr.refl _ _, [], HS0.out, by simp⟩
  case round =>
    obtain ⟨k, hk, rfl, hFr, T, hSt, hT⟩ := hrel
    have HFr := Lib.hid hFr; have HSt := Lib.hid hSt; have HT := Lib.hid hT
    have HBr := Lib.hid ((HBv.out).trans (off_below hFr Hn0.out (fun i j h => .inl h)))
    clear hFr hSt hT
    by_cases hkl : k < l
    · have hd2 : decide ((k : Int) < (l : Int)) = true := by simp; omega
      obtain ⟨ba, off, rfl, _, c0, c1, c2, c3, c4, c5, c6, hro, hb8⟩ := HA.out.below HBr.out k (by have := Hl.out; omega)
      obtain ⟨⟨kind, ⟨x0, x1, x2⟩, b, n, tu⟩, hy⟩ : ∃ y : ActT, L[k]'(by have := Hl.out; omega) = y := ⟨_, rfl⟩
      rw [hy] at c0 c1 c2 c3 c4 c5 c6 hro hb8
      clear hy
      go_wp2_with fail
      refine (do_anyF HSt.out kind (x0, x1, x2) hro b n tu hb8 (by have := HT.out; omega)).mono ?_
      obtain ⟨T2, hT2⟩ : ∃ T2, doT T kind (x0, x1, x2) b n = T2 := ⟨_, rfl⟩
      have HT2 := Lib.hid (show T2.length ≤ 0 + (k + 1) by rw [← hT2]; have := doT_len T kind (x0, x1, x2) b n; have := HT.out; omega)
      rw [hT2]
      rintro e w2 ⟨rfl, hS2, hB2⟩
      have HS2 := Lib.hid hS2; have HB2 := Lib.hid (HFr.out.trans hB2)
      clear hS2 hB2 hT2 hro hb8 c0 c1 c2 c3 c4 c5 c6
      go_wp2_with fail
      exact ⟨⟨k + 1, by omega, by push_cast; rfl, HB2.out, T2, HS2.out, HT2.out⟩, by simp [intOf]; omega⟩
    · have hkl' : k = l := by omega
      subst hkl'
      have hd2 : decide ((k : Int) < (k : Int)) = false := by simp
      obtain ⟨A, B, D, vr, vb, hst⟩ := HSt.out
      have hTl : T.length ≤ 50 := by have := HT.out; omega
      obtain ⟨c0, c1, _⟩ := hst.r.cells
      have hV := HV.out.stay HFr.out (fun i j _ hi h => h (.inr hi))
      have hsz := HFr.out.size
      have hubw : ub < wr.heap.size := by have := Hub.out.2; omega
      have hrub : rb ≠ ub := fun e => (hst.bl rb 0 (hst.r.own 0)).1 (.inr e)
      have hvo := hV.obj
      obtain ⟨i0, hi0, hz0, hz1, hz2⟩ := info_parts Try.infoRow
      obtain ⟨i1, hi1, hw0, hw1, hw2⟩ := info_parts Try.infoBits
      have Hi0 := Lib.hid hi0; have Hz0 := Lib.hid hz0; have Hz1 := Lib.hid hz1; have Hz2 := Lib.hid hz2
      have Hi1 := Lib.hid hi1; have Hw0 := Lib.hid hw0; have Hw1 := Lib.hid hw1; have Hw2 := Lib.hid hw2
      have HST := Lib.hid hst; have Hvo := Lib.hid hvo; have Hrub := Lib.hid hrub; have Hubw := Lib.hid hubw
      clear hst hV hvo hi0 hz0 hz1 hz2 hi1 hw0 hw1 hw2 hsz
      go_upto_region 11 with (at_builtin; refine wpList_plain rfl fun _ hK => ?_; refine wp_copy_Sl0 (.const (.slice none 0 0)) (.tmp 51) 22 (by rfl) (by rfl) (by rfl) (HST.out.r.rows.up wr.heap.size) (fun e => (HST.out.r.nil0 (List.eq_nil_of_length_eq_zero e)).1) (Zone.up_opn _ _) i0 _ 12 Try.underlying22 Hi0.out Hz0.out Hz1.out Hz2.out rfl (by decide) (rcs_one T) (by unfold maxLen; omega) (by omega) ?_; intro v1 X1 p1 p2 p3 p4 p5; obtain ⟨a1, k1, rfl⟩ := p5; refine hK _ _ ?_; clear hK; have cu : X1.cell? ⟨ub, 0, none⟩ = some (.slice none 0 0) := (by unfold World.cell?; rw [p2.block ub hubw, Hvo.out]; rfl); have fu : X1.frozen? ⟨ub, 0, none⟩ = false := (by unfold World.frozen?; rw [p2.block ub hubw, Hvo.out]; simp); have P1 := Lib.hid p1; have P2 := Lib.hid p2; have P3 := Lib.hid p3; have P4 := Lib.hid p4; clear p1 p2 p3 p4)
      obtain ⟨X2, hX2⟩ : ∃ X2, X2 = X1.setCell ⟨ub, 0, none⟩ (.slice a1 T.length k1) := ⟨_, rfl⟩
      have hf2 : Fr (Zone.one ub) wr X2 := by rw [hX2]; exact (Fr.of_below P2.out).setCell (a := ⟨ub, 0, none⟩) (show ub = ub from rfl)
      have hu2 : X2.heap[ub]? = some (.cells #[.slice a1 T.length k1, .slice none 0 0] 44 (0, 0)) := by rw [hX2]; exact set_heap ((P2.out.block ub hubw).trans Hvo.out) 0 _
      have hst2 := HST.out.foreign hf2 (fun i j hr hv => (HST.out.al i j hr).1 hv) (fun i j hr hv => (HST.out.bl i j hr).1 (.inr hv))
      have c1' := hst2.r.cells.2.1
      have cu1 : X2.cell? ⟨ub, 1, none⟩ = some (.slice none 0 0) := by unfold World.cell?; rw [hu2]; rfl
      rw [← hX2]
      have hz2 : X2.heap.size = X1.heap.size := by rw [hX2, World.size_setCell]
      have HX2 := Lib.hid hX2; have HST2 := Lib.hid hst2; have Hu2 := Lib.hid hu2; have Hz2' := Lib.hid hz2
      have hub2 := (Array.getElem?_eq_some_iff.1 hu2).1
      clear hX2 hf2 hu2 hst2 c0 c1 hz2
      go_wp2_with (at_builtin; refine wpList_plain rfl fun _ hK => ?_; refine wp_copy_Sl0 (.const (.slice none 0 0)) (.tmp 59) 42 (by rfl) (by rfl) (by rfl) (HST2.out.r.bits.up X2.heap.size) (fun e => (HST2.out.r.nil0 (List.eq_nil_of_length_eq_zero e)).2) (Zone.up_opn _ _) i1 _ 1 Try.underlying42 Hi1.out Hw0.out Hw1.out Hw2.out rfl (by decide) (bcs_one T) (by unfold maxLen; omega) (by omega) ?_; intro v2 X3 q1 q2 q3 q4 q5; obtain ⟨a2, k2, rfl⟩ := q5; refine hK _ _ ?_; clear hK; have cv : X3.cell? ⟨ub, 1, none⟩ = some (.slice none 0 0) := (by unfold World.cell?; rw [q2.block ub hub2, Hu2.out]; rfl); have fv : X3.frozen? ⟨ub, 1, none⟩ = false := (by unfold World.frozen?; rw [q2.block ub hub2, Hu2.out]; simp); have Q1 := Lib.hid q1; have Q2 := Lib.hid q2; have Q3 := Lib.hid q3; have Q4 := Lib.hid q4; clear q1 q2 q3 q4)
      have q2 := Q2.out
      have q3 := Q3.out
      rw [Hz2'.out, HX2.out] at q2
      rw [Hz2'.out] at q3
      obtain ⟨hv4, hf4⟩ := v_copied HST.out.r.long HST.out.r.oks hubw Hvo.out P1.out P2.out P3.out Q1.out q2 q3 (fun e => ⟨P4.out (by rw [e]; rfl), Q4.out (by rw [e]; rfl)⟩)
      obtain ⟨X4, hX4⟩ : ∃ X4, X4 = X3.setCell ⟨ub, 1, none⟩ (.slice a2 T.length k2) := ⟨_, rfl⟩
      have hz4 : X3.heap.size = X4.heap.size := by rw [hX4, World.size_setCell]
      rw [← hX4] at hv4 hf4 ⊢
      rw [hz4] at hv4
      have hst4 := HST.out.foreign hf4 (fun i j hr hv => (HST.out.al i j hr).1 hv) (fun i j hr hv => (HST.out.bl i j hr).1 (.inr hv))
      have HV4 := Lib.hid hv4; have HF4 := Lib.hid hf4; have HST4 := Lib.hid hst4
      have HB4 := Lib.hid (HBr.out.trans (hf4.below (B := w.heap.size) HBr.out.size (fun i j hi => by have hi : i = ub := hi; have := Hub.out.1; omega)))
      have hs4 := P2.out.size
      have hs42 := Q2.out.size
      have Hsz4 := Lib.hid (show wr.heap.size ≤ X4.heap.size by have := Hz2'.out; omega)
      clear q2 q3 hv4 hf4 hst4 hX4 hz4 c1' cu1 cu fu cv fv hs4 hs42
      refine (copy_any HST4.out.t).mono ?_
      rintro e w5 ⟨ob, Do, rfl, tO, b5⟩
      have hap := HST.out.apart Hub.out.1 HF4.out ⟨Nat.le_refl _, Hsz4.out, Nat.le_refl _⟩ b5 (by have := Hsz4.out; omega)
      have tO5 : IsT (copyA (LC D (lst T)) X4.heap.size w5.heap.size) w5 ob T Do := tO.cut (Nat.le_refl w5.heap.size)
      have rV5 := HV4.out.below b5
      have hS : ∀ i j, LC D (lst T) i j → A.R i j := by
        rintro i j ⟨x, v, hx, hv, ho, hj⟩
        exact sl_reads (HST.out.t.byOk.has x v hx hv).2 ho (by omega)
      have hs5 := b5.size
      have hsw := HBr.out.size
      have hsz4 := Hsz4.out
      have hub1 := Hub.out.1
      have habC : ∀ i j, (copyA (LC D (lst T)) X4.heap.size w5.heap.size).R i j → ¬ (Zone.pick ub wr.heap.size X4.heap.size).W i j := by
        rintro i j ⟨h1, h2⟩ h3
        rcases h1 with h1 | h1
        · rcases h3 with h3 | h3 <;> omega
        · have h4 := HST.out.al i j (hS i j h1)
          have h5 : i ≠ ub := h4.1
          rcases h3 with h3 | h3 <;> omega
      have hlA : ∀ i j, (copyA (LC D (lst T)) X4.heap.size w5.heap.size).R i j → i < w5.heap.size := fun i j h => h.2
      have hcC : ∀ i j, (Zone.pick ub wr.heap.size X4.heap.size).W i j → i < w5.heap.size ∧ w.heap.size ≤ i := by
        rintro i j (h | h) <;> omega
      have haA : ∀ i j, (copyA (LC D (lst T)) X4.heap.size w5.heap.size).W i j → w.heap.size ≤ i := by
        rintro i j ⟨h1, h2⟩
        have h1 : X4.heap.size ≤ i := h1
        omega
      generalize copyA (LC D (lst T)) X4.heap.size w5.heap.size = Ao at *
      generalize Zone.pick ub wr.heap.size X4.heap.size = C at *
      have HSt5 := Lib.hid (show StsF (Fa w.heap.size Ao C) (Ga Ao C) w5 tb rb T T from ⟨_, _, _, _, _, hap⟩)
      have HtO := Lib.hid tO5; have HrV := Lib.hid rV5; have HabC := Lib.hid habC; have HlA := Lib.hid hlA; have HcC := Lib.hid hcC; have HaA := Lib.hid haA
      have HB5 := Lib.hid (HB4.out.trans (b5.mono (by omega)))
      have Hn5 := Lib.hid (show w.heap.size ≤ w5.heap.size by omega)
      obtain ⟨TC, hTC⟩ : ∃ TC, TC = T := ⟨_, rfl⟩
      rw [← hTC] at HtO HrV
      have HTC := Lib.hid (show TC.length ≤ 50 by rw [hTC]; exact hTl)
      clear hTC
      clear hap tO tO5 rV5 hS hs5 hsw hsz4 hub1 habC hlA hcC haA b5
      go_wp2_with fail
      go_loopw [12] (fun u wr => ∃ k : Nat, k ≤ l' ∧ u = .int .i64 k ∧ Fr (Zone.off (Fa w.heap.size Ao C)) w5 wr ∧ ∃ T : TS, StsF (Fa w.heap.size Ao C) (Ga Ao C) wr tb rb T T ∧ T.length ≤ 50 + k) (fun u _ => l' - (intOf u).toNat)
      case atStart => exact ⟨0, by omega, rfl, Fr.refl _ _, T, HSt5.out, by omega⟩
      case round =>
        obtain ⟨k, hk, rfl, hFr, T, hSt, hT⟩ := hrel
        have HFr := Lib.hid hFr; have HSt := Lib.hid hSt; have HT := Lib.hid hT
        have HBr := Lib.hid ((HB5.out).trans (off_below hFr Hn5.out (fun i j h => .inl h)))
        clear hFr hSt hT
        by_cases hkl : k < l'
        · have hd2 : decide ((k : Int) < (l' : Int)) = true := by simp; omega
          obtain ⟨ba, off, rfl, _, c0, c1, c2, c3, c4, c5, c6, hro, hb8⟩ := HA'.out.below HBr.out k (by have := Hl'.out; omega)
          obtain ⟨⟨kind, ⟨x0, x1, x2⟩, b, n, tu⟩, hy⟩ : ∃ y : ActT, LA[k]'(by have := Hl'.out; omega) = y := ⟨_, rfl⟩
          rw [hy] at c0 c1 c2 c3 c4 c5 c6 hro hb8
          clear hy
          go_wp2_with fail
          refine (do_anyF HSt.out kind (x0, x1, x2) hro b n tu hb8 (by have := HT.out; omega)).mono ?_
          obtain ⟨T2, hT2⟩ : ∃ T2, doT T kind (x0, x1, x2) b n = T2 := ⟨_, rfl⟩
          have HT2 := Lib.hid (show T2.length ≤ 50 + (k + 1) by rw [← hT2]; have := doT_len T kind (x0, x1, x2) b n; have := HT.out; omega)
          rw [hT2]
          rintro e w2 ⟨rfl, hS2, hB2⟩
          have HS2 := Lib.hid hS2; have HB2 := Lib.hid (HFr.out.trans hB2)
          clear hS2 hB2 hT2 hro hb8 c0 c1 c2 c3 c4 c5 c6
          go_wp2_with fail
          exact ⟨⟨k + 1, by omega, by push_cast; rfl, HB2.out, T2, HS2.out, HT2.out⟩, by simp [intOf]; omega⟩
        · have hkl' : k = l' := by omega
          subst hkl'
          have hd2 : decide ((k : Int) < (k : Int)) = false := by simp
          obtain ⟨A2, B2, D2, vr2, vb2, hst2⟩ := HSt.out
          have tO6 := HtO.out.stay HFr.out (fun i j hr h => h (.inr (.inl hr)))
          have rV6 := HrV.out.stay HFr.out (fun i j _ hw h => h (.inr (.inr hw)))
          have hsz6 := HFr.out.size
          have ho := hst2.other tO6 rV6 HabC.out (fun i j h => Nat.lt_of_lt_of_le (HlA.out i j h) hsz6) (fun i j h => ⟨Nat.lt_of_lt_of_le (HcC.out i j h).1 hsz6, (HcC.out i j h).2⟩) HaA.out (by have := Hn5.out; omega)
          obtain ⟨w6, hw6⟩ : ∃ W, W = wr := ⟨_, rfl⟩
          have HB6 := HBr
          have Hn6 := Lib.hid (show w.heap.size ≤ wr.heap.size by have := Hn5.out; omega)
          rw [← hw6] at hst2 ho HB6 Hn6 ⊢
          have HSt6 := Lib.hid (show StsF (fun i j => i < w.heap.size ∨ A2.R i j ∨ B2.W i j) (fun _ _ => False) w6 ob ub TC TC from ⟨_, _, _, _, _, ho⟩)
          have Hst2 := Lib.hid hst2
          clear hst2 tO6 rV6 hsz6 ho hw6
          go_wp2_with fail
          go_loopw [13] (fun u wr => ∃ k : Nat, k ≤ l'' ∧ u = .int .i64 k ∧ Fr (Zone.off (fun i j => i < w.heap.size ∨ A2.R i j ∨ B2.W i j)) w6 wr ∧ ∃ T : TS, StsF (fun i j => i < w.heap.size ∨ A2.R i j ∨ B2.W i j) (fun _ _ => False) wr ob ub T T ∧ T.length ≤ 50 + k) (fun u _ => l'' - (intOf u).toNat)
          case atStart => exact ⟨0, by omega, rfl, Fr.refl _ _, TC, HSt6.out, by have := HTC.out; omega⟩
          case round =>
            obtain ⟨k, hk, rfl, hFr, T, hSt, hT⟩ := hrel
            have HFr := Lib.hid hFr; have HSt := Lib.hid hSt; have HT := Lib.hid hT
            have HBr := Lib.hid ((HB6.out).trans (off_below hFr Hn6.out (fun i j h => .inl h)))
            clear hFr hSt hT
            by_cases hkl : k < l''
            · have hd2 : decide ((k : Int) < (l'' : Int)) = true := by simp; omega
              obtain ⟨ba, off, rfl, _, c0, c1, c2, c3, c4, c5, c6, hro, hb8⟩ := HA''.out.below HBr.out k (by have := Hl''.out; omega)
              obtain ⟨⟨kind, ⟨x0, x1, x2⟩, b, n, tu⟩, hy⟩ : ∃ y : ActT, LB[k]'(by have := Hl''.out; omega) = y := ⟨_, rfl⟩
              rw [hy] at c0 c1 c2 c3 c4 c5 c6 hro hb8
              clear hy
              go_wp2_with fail
              refine (do_anyF HSt.out kind (x0, x1, x2) hro b n tu hb8 (by have := HT.out; omega)).mono ?_
              obtain ⟨T2, hT2⟩ : ∃ T2, doT T kind (x0, x1, x2) b n = T2 := ⟨_, rfl⟩
              have HT2 := Lib.hid (show T2.length ≤ 50 + (k + 1) by rw [← hT2]; have := doT_len T kind (x0, x1, x2) b n; have := HT.out; omega)
              rw [hT2]
              rintro e w2 ⟨rfl, hS2, hB2⟩
              have HS2 := Lib.hid hS2; have HB2 := Lib.hid (HFr.out.trans hB2)
              clear hS2 hB2 hT2 hro hb8 c0 c1 c2 c3 c4 c5 c6
              go_wp2_with fail
              exact ⟨⟨k + 1, by omega, by push_cast; rfl, HB2.out, T2, HS2.out, HT2.out⟩, by simp [intOf]; omega⟩
            · have hkl' : k = l'' := by omega
              subst hkl'
              have hd2 : decide ((k : Int) < (k : Int)) = false := by simp
              obtain ⟨A3, B3, D3, vr3, vb3, hst3⟩ := HSt.out
              have H7 := Lib.hid (Hst2.out.foreign HFr.out (fun i j hr h => h (.inr (.inl hr))) (fun i j hw h => h (.inr (.inr hw))))
              have Hst3 := Lib.hid hst3
              clear hst3
              go_wp2_with fail
              refine (same_any ⟨_, _, _, _, _, H7.out.st⟩).mono ?_
              rintro e w8 ⟨rfl, hB8⟩
              have HB8 := Lib.hid (HBr.out.trans (hB8.mono HBr.out.size))
              have Hst8 := Lib.hid (Hst3.out.below hB8)
              clear hB8
              go_wp2_with fail
              refine (same_any ⟨_, _, _, _, _, Hst8.out.st⟩).mono ?_
              rintro e w9 ⟨rfl, hB9⟩
              have HB9 := Lib.hid (HB8.out.trans (hB9.mono HB8.out.size))
              clear hB9
              go_wp2_with fail
              refine (known_any w9).mono ?_
              rintro e wz ⟨rfl, hBz⟩
              have HBz := Lib.hid (HB9.out.trans (hBz.mono HB9.out.size))
              clear hBz
              go_wp2_with fail
              go_ret
              exact ⟨rfl, HBz.out⟩
end Go.Proofs.Ytellmhllgmimiaa
