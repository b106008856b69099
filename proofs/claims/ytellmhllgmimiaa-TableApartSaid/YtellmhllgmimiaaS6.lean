/- TableLooks. -/
import Derived.Test.YtellmhllgmimiaaS5
namespace Go.Proofs.Ytellmhllgmimiaa
open Go.RowKit Go.Maps
set_option linter.unusedVariables false
set_option linter.unusedSimpArgs false

theorem wrap_pred (n : Nat) (h : n ≤ 1000000) : IntKind.i64.wrap ((n : Int) - 1) = (n : Int) - 1 := by
  rw [IntKind.wrap_i64]; omega
theorem below_drew (w : World) : Below w.heap.size w w.drew := (Below.refl _ _).drew
theorem rok_put {x0 x1 x2 : Int} (h : rok (x0, x1, x2)) : rok (0, x1, x2) ∧ rok (x0, 0, x2) ∧ rok (x0, x1, 0) := by
  obtain ⟨h0, h1, h2⟩ := h
  simp only [rok, is32] at *
  omega
/-- a row in a box of its own -/
structure Bx (w : World) (bx : Nat) (y0 y1 y2 : Int) : Prop where
  c0 : w.cell? ⟨bx, 0, none⟩ = some (.int .u32 y0)
  c1 : w.cell? ⟨bx, 1, none⟩ = some (.int .u32 y1)
  c2 : w.cell? ⟨bx, 2, none⟩ = some (.int .u32 y2)
  f : ∀ j, w.frozen? ⟨bx, j, none⟩ = false
theorem Bx.new (w : World) (x0 x1 x2 : Int) : Bx (w.alloc (.cells #[.int .u32 x0, .int .u32 x1, .int .u32 x2] 25)) w.heap.size x0 x1 x2 := by
  obtain ⟨h0, h1, h2⟩ := bx1 w x0 x1 x2
  refine ⟨h0, h1, h2, fun j => ?_⟩
  unfold World.frozen?
  rw [show (w.alloc (.cells #[.int .u32 x0, .int .u32 x1, .int .u32 x2] 25)).heap[w.heap.size]? = _ from World.alloc_heap_new w _]
  simp
theorem Bx.set0 {w : World} {bx : Nat} {y0 y1 y2 : Int} (h : Bx w bx y0 y1 y2) (z : Int) : Bx (w.setCell ⟨bx, 0, none⟩ (.int .u32 z)) bx z y1 y2 :=
  ⟨World.cell?_setCell_same' _ _ _ (by rw [h.c0]; rfl), (World.cell?_setCell_other _ _ _ _ (by simp)).trans h.c1, (World.cell?_setCell_other _ _ _ _ (by simp)).trans h.c2, fun j => by rw [World.frozen?_setCell]; exact h.f j⟩
theorem Bx.set1 {w : World} {bx : Nat} {y0 y1 y2 : Int} (h : Bx w bx y0 y1 y2) (z : Int) : Bx (w.setCell ⟨bx, 1, none⟩ (.int .u32 z)) bx y0 z y2 :=
  ⟨(World.cell?_setCell_other _ _ _ _ (by simp)).trans h.c0, World.cell?_setCell_same' _ _ _ (by rw [h.c1]; rfl), (World.cell?_setCell_other _ _ _ _ (by simp)).trans h.c2, fun j => by rw [World.frozen?_setCell]; exact h.f j⟩
theorem Bx.set2 {w : World} {bx : Nat} {y0 y1 y2 : Int} (h : Bx w bx y0 y1 y2) (z : Int) : Bx (w.setCell ⟨bx, 2, none⟩ (.int .u32 z)) bx y0 y1 z :=
  ⟨(World.cell?_setCell_other _ _ _ _ (by simp)).trans h.c0, (World.cell?_setCell_other _ _ _ _ (by simp)).trans h.c1, World.cell?_setCell_same' _ _ _ (by rw [h.c2]; rfl), fun j => by rw [World.frozen?_setCell]; exact h.f j⟩
set_option maxRecDepth 100000 in
set_option maxHeartbeats 4000000 in
theorem looks_plays (a : Option Addr) (cap : Nat) (L : List ActT) (x0 x1 x2 : Int) (hro : rok (x0, x1, x2)) (w : World) (ha : IsActs w a L) :
    Calls Try.prog 4 #[.slice a L.length cap, rv (x0, x1, x2)] w fun e w' => e = .returned (.bool true) ∧ Below w.heap.size w w' := by
  have HA := Lib.hid ha; have Hro0 := Lib.hid hro
  obtain ⟨l, hl⟩ : ∃ l, L.length = l := ⟨_, rfl⟩
  rw [hl]
  have Hl := Lib.hid hl
  simp only [rv]
  clear ha hl hro
  go_enter Try.func4, Try.ntmps4
  by_cases hlen : 60 < l
  · have hd : decide ((l : Int) > 60) = true := by simp; omega
    go_wp2_with fail
    obtain ⟨l0, l1, l2⟩ := bx1 w x0 x1 x2
    have HBL := Lib.hid ((Below.refl _ w).alloc (Nat.le_refl _) (.cells #[.int .u32 x0, .int .u32 x1, .int .u32 x2] 25))
    generalize hWl : w.alloc (.cells #[.int .u32 x0, .int .u32 x1, .int .u32 x2] 25) = Wl at *
    obtain ⟨lb, hlb⟩ : ∃ lb, w.heap.size = lb := ⟨_, rfl⟩
    rw [hlb] at l0 l1 l2 ⊢
    have HAl := Lib.hid (HA.out.below HBL.out)
    have Hlb := Lib.hid hlb
    clear hWl hlb
    refine (known_any Wl).mono ?_
    rintro e w1 ⟨rfl, hB⟩
    have HB := Lib.hid (HBL.out.trans (hB.mono HBL.out.size))
    clear hB
    go_wp2_with fail
    go_ret
    exact ⟨rfl, HB.out⟩
  · have hd : decide ((l : Int) > 60) = false := by simp; omega
    go_wp2_with fail
    obtain ⟨l0, l1, l2⟩ := bx1 w x0 x1 x2
    have HBL := Lib.hid ((Below.refl _ w).alloc (Nat.le_refl _) (.cells #[.int .u32 x0, .int .u32 x1, .int .u32 x2] 25))
    generalize hWl : w.alloc (.cells #[.int .u32 x0, .int .u32 x1, .int .u32 x2] 25) = Wl at *
    obtain ⟨lb, hlb⟩ : ∃ lb, w.heap.size = lb := ⟨_, rfl⟩
    rw [hlb] at l0 l1 l2 ⊢
    have HAl := Lib.hid (HA.out.below HBL.out)
    have Hlb := Lib.hid hlb
    clear hWl hlb
    refine (new_any (Z := Zone.from Wl.heap.size) (fun i j h => h) (fun i h => h)).mono ?_
    rintro e w1 ⟨rfl, hI, hB, -⟩
    have HI := Lib.hid hI; have HB := Lib.hid hB
    clear hI hB
    go_wp2_with fail
    have HS0 := Lib.hid (Sts.start HI.out HB.out.size)
    have HB0 := Lib.hid (HB.out.trans (((Below.refl _ w1).alloc (Nat.le_refl _) (.cells #[.slice none 0 0, .slice none 0 0] 44)).mono HB.out.size))
    obtain ⟨tb, htb⟩ : ∃ tb, Wl.heap.size + 2 = tb := ⟨_, rfl⟩
    generalize hW0 : w1.alloc (.cells #[.slice none 0 0, .slice none 0 0] 44) = W0 at *
    obtain ⟨rb, hrb⟩ : ∃ rb, w1.heap.size = rb := ⟨_, rfl⟩
    rw [htb, hrb] at HS0
    rw [htb, hrb]
    clear hW0 htb hrb
    go_wp2_with fail
    go_loopw [7] (fun u wr => ∃ k : Nat, k ≤ l ∧ u = .int .i64 k ∧ Below Wl.heap.size Wl wr ∧ ∃ T : TS, Sts Wl.heap.size wr tb rb T T ∧ T.length ≤ k) (fun u _ => l - (intOf u).toNat)
    case atStart => exact ⟨0, by omega, rfl, HB0.out, [], HS0.out, by simp⟩
    case round =>
      obtain ⟨k, hk, rfl, hBr, T, hSt, hT⟩ := hrel
      have HBr := Lib.hid hBr; have HSt := Lib.hid hSt; have HT := Lib.hid hT
      clear hSt hT
      by_cases hkl : k < l
      · have hd2 : decide ((k : Int) < (l : Int)) = true := by simp; omega
        obtain ⟨ba, off, rfl, _, c0, c1, c2, c3, c4, c5, c6, hro, hb8⟩ := HAl.out.below HBr.out k (by have := Hl.out; omega)
        obtain ⟨⟨kind, ⟨z0, z1, z2⟩, b, n, tu⟩, hy⟩ : ∃ y : ActT, L[k]'(by have := Hl.out; omega) = y := ⟨_, rfl⟩
        rw [hy] at c0 c1 c2 c3 c4 c5 c6 hro hb8
        clear hy hBr
        go_wp2_with fail
        refine (do_any HSt.out kind (z0, z1, z2) hro b n tu hb8 (by have := HT.out; omega)).mono ?_
        obtain ⟨T2, hT2⟩ : ∃ T2, doT T kind (z0, z1, z2) b n = T2 := ⟨_, rfl⟩
        have HT2 := Lib.hid (show T2.length ≤ k + 1 by rw [← hT2]; have := doT_len T kind (z0, z1, z2) b n; have := HT.out; omega)
        rw [hT2]
        rintro e w2 ⟨rfl, hS2, hB2⟩
        have HS2 := Lib.hid hS2; have HB2 := Lib.hid (HBr.out.trans hB2)
        clear hS2 hB2 hT2 hro hb8 c0 c1 c2 c3 c4 c5 c6
        go_wp2_with fail
        exact ⟨⟨k + 1, by omega, by push_cast; rfl, HB2.out, T2, HS2.out, HT2.out⟩, by simp [intOf]; omega⟩
      · have hkl' : k = l := by omega
        subst hkl'
        have hd2 : decide ((k : Int) < (k : Int)) = false := by simp
        have l0 := cell_later hBr l0
        have l1 := cell_later hBr l1
        have l2 := cell_later hBr l2
        obtain ⟨A, B, D, vr, vb, hst⟩ := HSt.out
        obtain ⟨lt, hlt⟩ : ∃ lt, T.length = lt := ⟨_, rfl⟩
        obtain ⟨c0, _, _⟩ := hst.r.cells
        have hvl := hst.r.rows.len (P := Try.prog) Try.underlying22 3
        rw [hlt] at hvl
        have hltk : lt ≤ k := by rw [← hlt]; exact HT.out
        have Hlt := Lib.hid hlt; have HS := Lib.hid hst
        clear hBr hst hlt
        go_wp2_with fail
        obtain ⟨Wo, hWo⟩ : ∃ Wo, wr = Wo := ⟨_, rfl⟩
        rw [hWo] at c0 HBr HS l0 l1 l2 ⊢
        clear hWo HSt
        go_loopw [8] (fun u w2 => ∃ m : Nat, m ≤ 8 ∧ u = .int .i64 m ∧ Below Wo.heap.size Wo w2) (fun u _ => 8 - (intOf u).toNat)
        case atStart => exact ⟨0, by omega, rfl, Below.refl _ _⟩
        case round =>
          obtain ⟨m, hm, rfl, hBw⟩ := hrel
          have l0 := cell_later hBw l0
          have l1 := cell_later hBw l1
          have l2 := cell_later hBw l2
          have c0 := cell_later hBw c0
          have HBw := Lib.hid hBw
          have HSw := Lib.hid (HS.out.below hBw)
          clear hBw
          by_cases hm8 : m < 8
          · have hd3 : decide ((m : Int) < 8) = true := by simp; omega
            go_wp2_with fail
            have hbx := Bx.new wr x0 x1 x2
            have hzx := World.size_alloc wr (.cells #[.int .u32 x0, .int .u32 x1, .int .u32 x2] 25)
            have hBx : Below wr.heap.size wr (wr.alloc (.cells #[.int .u32 x0, .int .u32 x1, .int .u32 x2] 25)) := (Below.refl _ _).alloc (Nat.le_refl _) _
            generalize wr.alloc (.cells #[.int .u32 x0, .int .u32 x1, .int .u32 x2] 25) = Wx at *
            obtain ⟨bx, hbe⟩ : ∃ bx, wr.heap.size = bx := ⟨_, rfl⟩
            rw [hbe] at hbx ⊢
            have HBx := Lib.hid hBx; have Hbe := Lib.hid hbe; have Hbx := Lib.hid hbx
            clear hzx hBx hbe hbx
            obtain ⟨Wm, hWm⟩ : ∃ Wm, wr = Wm := ⟨_, rfl⟩
            rw [hWm] at HBx Hbe HBw HSw c0
            clear hWm l0 l1 l2
            go_loopw [10] (fun u w2 => ∃ i : Nat, i ≤ 3 ∧ u = .int .i64 i ∧ ∃ y0 y1 y2 : Int, rok (y0, y1, y2) ∧ Bx w2 bx y0 y1 y2 ∧ Below Wm.heap.size Wm w2) (fun u _ => 3 - (intOf u).toNat)
            case atStart => exact ⟨0, by omega, rfl, x0, x1, x2, Hro0.out, Hbx.out, HBx.out⟩
            case round =>
              obtain ⟨i, hi, rfl, y0, y1, y2, hro, hbx, hB2⟩ := hrel
              have hi' : i = 0 ∨ i = 1 ∨ i = 2 ∨ i = 3 := by omega
              have Hbv := Lib.hid hbx
              obtain ⟨e0, e1, e2, ef⟩ := hbx
              have ef0 := ef 0
              have ef1 := ef 1
              have ef2 := ef 2
              have Hro := Lib.hid hro; have HB2 := Lib.hid hB2
              clear hro hB2 ef
              rcases hi' with rfl | rfl | rfl | rfl
              · go_wp2_with fail
                · exact ⟨⟨1, by omega, rfl, 0, y1, y2, (rok_put Hro.out).1, Hbv.out.set0 0, HB2.out.setCell (p := ⟨bx, 0, none⟩) (by have := Hbe.out; simp; omega) _⟩, by simp [intOf]⟩
                · exact ⟨⟨1, by omega, rfl, y0, y1, y2, Hro.out, Hbv.out, HB2.out⟩, by simp [intOf]⟩
              · go_wp2_with fail
                · exact ⟨⟨2, by omega, rfl, y0, 0, y2, (rok_put Hro.out).2.1, Hbv.out.set1 0, HB2.out.setCell (p := ⟨bx, 1, none⟩) (by have := Hbe.out; simp; omega) _⟩, by simp [intOf]⟩
                · exact ⟨⟨2, by omega, rfl, y0, y1, y2, Hro.out, Hbv.out, HB2.out⟩, by simp [intOf]⟩
              · go_wp2_with fail
                · exact ⟨⟨3, by omega, rfl, y0, y1, 0, (rok_put Hro.out).2.2, Hbv.out.set2 0, HB2.out.setCell (p := ⟨bx, 2, none⟩) (by have := Hbe.out; simp; omega) _⟩, by simp [intOf]⟩
                · exact ⟨⟨3, by omega, rfl, y0, y1, y2, Hro.out, Hbv.out, HB2.out⟩, by simp [intOf]⟩
              · obtain ⟨W2, hW2⟩ : ∃ W2, wr = W2 := ⟨_, rfl⟩
                rw [hW2] at e0 e1 e2 ef0 ef1 ef2 HB2 Hbv ⊢
                have HSx := Lib.hid (HSw.out.below HB2.out)
                have c0 := cell_later HB2.out c0
                obtain ⟨N, hN⟩ : ∃ N, (mlist T (y0, y1, y2) 0 lt 255).length = N := ⟨_, rfl⟩
                have HN := Lib.hid hN
                have HN' := Lib.hid (show (mlist T (y0, y1, y2) 0 T.length 255).length = N by rw [Hlt.out]; exact hN)
                clear hN hW2 ef0 ef1 ef2
                go_wp2_with fail
                have x0' : W2.drew.cell? ⟨bx, 0, none⟩ = _ := e0
                have x1' : W2.drew.cell? ⟨bx, 1, none⟩ = _ := e1
                have x2' : W2.drew.cell? ⟨bx, 2, none⟩ = _ := e2
                have c0' : W2.drew.cell? ⟨rb, 0, none⟩ = _ := c0
                obtain ⟨S18, hSe⟩ : ∃ S : Array Bool → World → Prop, S = fun _ w' => Below W2.drew.heap.size W2.drew w' := ⟨_, rfl⟩
                have hdrop : ∀ i : Nat, ∀ L w', S18 (L.setIfInBounds i true) w' → S18 L w' := by
                  intro i L w' h; rw [hSe] at h ⊢; exact h
                have hS : ∀ L, S18 L W2.drew := by intro L; rw [hSe]; exact Below.refl _ _
                have hSo : ∀ {L w'}, S18 L w' → Below W2.drew.heap.size W2.drew w' := by intro L w' h; rw [hSe] at h; exact h
                have hSi : ∀ {w'}, Below W2.drew.heap.size W2.drew w' → ∀ L, S18 L w' := by intro w' h L; rw [hSe]; exact h
                clear hSe
                refine wp_region_LN S18 10 #[false, false, false, false, false, false, false, false, false, false] (by kernel_rfl) (by kernel_rfl) rfl ?_
                refine WA.take (i := 0) (v := .pointer (some ⟨rb, 0, none⟩)) rfl (by kernel_rfl) (by kernel_rfl) (by kernel_rfl) (fun _ _ _ h => h) (hdrop 0) (Or.inl ⟨by rfl, ?_⟩) (hS _) ?_
                · rintro w' ⟨L, hL, hSw, hun⟩
                  go_simp
                simp only [List.getElem_toArray, List.getElem_cons_zero, List.getElem_cons_succ, Act.put, List.setIfInBounds_toArray, List.set_cons_zero, List.set_cons_succ]
                refine WA.take (i := 1) (v := .agg #[.int .u32 y0, .int .u32 y1, .int .u32 y2]) rfl (by kernel_rfl) (by kernel_rfl) (by kernel_rfl) (fun _ _ _ h => h) (hdrop 1) (Or.inl ⟨by rfl, ?_⟩) (hS _) ?_
                · rintro w' ⟨L, hL, hSw, hun⟩
                  have hbw := hSo hSw
                  have x0' := cell_later hbw x0'
                  have x1' := cell_later hbw x1'
                  have x2' := cell_later hbw x2'
                  clear hbw
                  go_simp
                simp only [List.getElem_toArray, List.getElem_cons_zero, List.getElem_cons_succ, Act.put, List.setIfInBounds_toArray, List.set_cons_zero, List.set_cons_succ]
                refine WA.take (i := 2) (v := .pointer (some ⟨rb, 0, none⟩)) rfl (by kernel_rfl) (by kernel_rfl) (by kernel_rfl) (fun _ _ _ h => h) (hdrop 2) (Or.inl ⟨by rfl, ?_⟩) (hS _) ?_
                · rintro w' ⟨L, hL, hSw, hun⟩
                  go_simp
                simp only [List.getElem_toArray, List.getElem_cons_zero, List.getElem_cons_succ, Act.put, List.setIfInBounds_toArray, List.set_cons_zero, List.set_cons_succ]
                refine WA.take (i := 3) (v := .pointer (some ⟨rb, 0, none⟩)) rfl (by kernel_rfl) (by kernel_rfl) (by kernel_rfl) (fun _ _ _ h => h) (hdrop 3) (Or.inl ⟨by rfl, ?_⟩) (hS _) ?_
                · rintro w' ⟨L, hL, hSw, hun⟩
                  go_simp
                simp only [List.getElem_toArray, List.getElem_cons_zero, List.getElem_cons_succ, Act.put, List.setIfInBounds_toArray, List.set_cons_zero, List.set_cons_succ]
                refine WA.take (i := 4) (v := .pointer (some ⟨rb, 0, none⟩)) rfl (by kernel_rfl) (by kernel_rfl) (by kernel_rfl) (fun _ _ _ h => h) (hdrop 4) (Or.inl ⟨by rfl, ?_⟩) (hS _) ?_
                · rintro w' ⟨L, hL, hSw, hun⟩
                  go_simp
                simp only [List.getElem_toArray, List.getElem_cons_zero, List.getElem_cons_succ, Act.put, List.setIfInBounds_toArray, List.set_cons_zero, List.set_cons_succ]
                refine WA.take (i := 5) (v := vr) rfl (by kernel_rfl) (by kernel_rfl) (by kernel_rfl) (fun _ _ _ h => h) (hdrop 5) (Or.inl ⟨by rfl, ?_⟩) (hS _) ?_
                · rintro w' ⟨L, hL, hSw, hun⟩
                  have hbw := hSo hSw
                  have c0' := cell_later hbw c0'
                  clear hbw
                  go_simp
                simp only [List.getElem_toArray, List.getElem_cons_zero, List.getElem_cons_succ, Act.put, List.setIfInBounds_toArray, List.set_cons_zero, List.set_cons_succ]
                refine WA.take (i := 6) (v := .int .i64 (lt : Int)) rfl (by kernel_rfl) (by kernel_rfl) (by kernel_rfl) (fun _ _ _ h => h) (hdrop 6) (Or.inl ⟨by rfl, ?_⟩) (hS _) ?_
                · rintro w' ⟨L, hL, hSw, hun⟩
                  go_simp
                simp only [List.getElem_toArray, List.getElem_cons_zero, List.getElem_cons_succ, Act.put, List.setIfInBounds_toArray, List.set_cons_zero, List.set_cons_succ]
                refine WA.one (i := 7) (by kernel_rfl) rfl (by rfl) (fun K hK => ?_)
                go_simp
                refine (rmatch_any (HSx.out.below (Below.refl _ _).drew).r (y0, y1, y2) 0 lt 255).mono ?_
                rintro e w1 ⟨⟨v, rfl, hown⟩, hB1⟩
                obtain ⟨ao, cap, rfl, -⟩ := own_form hown
                clear hown
                rw [HN.out]
                have HB1 := Lib.hid hB1
                refine hK _ _ (hSi hB1 _) ?_
                clear hK
                try simp only [List.getElem_toArray, List.getElem_cons_zero, List.getElem_cons_succ, Act.put, List.setIfInBounds_toArray, List.set_cons_zero, List.set_cons_succ]
                clear hB1
                refine WA.take (i := 8) (v := .int .i64 (N : Int)) rfl (by kernel_rfl) (by kernel_rfl) (by kernel_rfl) (fun _ _ _ h => h) (hdrop 8) (Or.inl ⟨by rfl, ?_⟩) (hSi HB1.out _) ?_
                · rintro w' ⟨L, hL, hSw, hun⟩
                  go_simp
                simp only [List.getElem_toArray, List.getElem_cons_zero, List.getElem_cons_succ, Act.put, List.setIfInBounds_toArray, List.set_cons_zero, List.set_cons_succ]
                refine WA.take (i := 9) (v := .int .i64 (N : Int)) rfl (by kernel_rfl) (by kernel_rfl) (by kernel_rfl) (fun _ _ _ h => h) (hdrop 9) (Or.inl ⟨by rfl, ?_⟩) (hSi HB1.out _) ?_
                · rintro w' ⟨L, hL, hSw, hun⟩
                  go_simp
                simp only [List.getElem_toArray, List.getElem_cons_zero, List.getElem_cons_succ, Act.put, List.setIfInBounds_toArray, List.set_cons_zero, List.set_cons_succ]
                refine WA.done (by kernel_rfl) ?_ _
                refine Nrm.normal ?_
                go_wp2_with fail
                have hB2w : Below W2.heap.size W2 w1.drew := ((below_drew W2).trans HB1.out).drew
                have HSy := Lib.hid (HSx.out.below hB2w)
                have x0' : w1.drew.cell? ⟨bx, 0, none⟩ = _ := cell_later hB2w e0
                have x1' : w1.drew.cell? ⟨bx, 1, none⟩ = _ := cell_later hB2w e1
                have x2' : w1.drew.cell? ⟨bx, 2, none⟩ = _ := cell_later hB2w e2
                have c0' : w1.drew.cell? ⟨rb, 0, none⟩ = _ := cell_later hB2w c0
                have HB2w := Lib.hid hB2w
                clear hB2w HB1 hdrop hS hSo hSi
                obtain ⟨S19, hSe⟩ : ∃ S : Array Bool → World → Prop, S = fun _ w' => Below w1.drew.heap.size w1.drew w' := ⟨_, rfl⟩
                have hdrop : ∀ i : Nat, ∀ L w', S19 (L.setIfInBounds i true) w' → S19 L w' := by
                  intro i L w' h; rw [hSe] at h ⊢; exact h
                have hS : ∀ L, S19 L w1.drew := by intro L; rw [hSe]; exact Below.refl _ _
                have hSo : ∀ {L w'}, S19 L w' → Below w1.drew.heap.size w1.drew w' := by intro L w' h; rw [hSe] at h; exact h
                have hSi : ∀ {w'}, Below w1.drew.heap.size w1.drew w' → ∀ L, S19 L w' := by intro w' h L; rw [hSe]; exact h
                clear hSe
                refine wp_region_LN S19 30 #[false, false, false, false, false, false, false, false, false, false, false, false, false, false, false, false, false, false, false, false, false, false, false, false, false, false, false, false, false, false] (by kernel_rfl) (by kernel_rfl) rfl ?_
                refine WA.take (i := 0) (v := .pointer (some ⟨tb, 0, none⟩)) rfl (by kernel_rfl) (by kernel_rfl) (by kernel_rfl) (fun _ _ _ h => h) (hdrop 0) (Or.inl ⟨by rfl, ?_⟩) (hS _) ?_
                · rintro w' ⟨L, hL, hSw, hun⟩
                  go_simp
                simp only [List.getElem_toArray, List.getElem_cons_zero, List.getElem_cons_succ, Act.put, List.setIfInBounds_toArray, List.set_cons_zero, List.set_cons_succ]
                refine WA.take (i := 1) (v := .agg #[.int .u32 y0, .int .u32 y1, .int .u32 y2]) rfl (by kernel_rfl) (by kernel_rfl) (by kernel_rfl) (fun _ _ _ h => h) (hdrop 1) (Or.inl ⟨by rfl, ?_⟩) (hS _) ?_
                · rintro w' ⟨L, hL, hSw, hun⟩
                  have hbw := hSo hSw
                  have x0' := cell_later hbw x0'
                  have x1' := cell_later hbw x1'
                  have x2' := cell_later hbw x2'
                  clear hbw
                  go_simp
                simp only [List.getElem_toArray, List.getElem_cons_zero, List.getElem_cons_succ, Act.put, List.setIfInBounds_toArray, List.set_cons_zero, List.set_cons_succ]
                refine WA.take (i := 3) (v := .int .i64 (N : Int)) rfl (by kernel_rfl) (by kernel_rfl) (by kernel_rfl) (fun _ _ _ h => h) (hdrop 3) (Or.inl ⟨by rfl, ?_⟩) (hS _) ?_
                · rintro w' ⟨L, hL, hSw, hun⟩
                  go_simp
                simp only [List.getElem_toArray, List.getElem_cons_zero, List.getElem_cons_succ, Act.put, List.setIfInBounds_toArray, List.set_cons_zero, List.set_cons_succ]
                refine WA.one (i := 2) (by kernel_rfl) rfl (by rfl) (fun K hK => ?_)
                go_simp
                refine (callsIn_wide.1 (count_in HSy.out.t y0 y1 y2 Hro.out)).mono ?_
                rw [HN'.out]
                rintro e w3 ⟨rfl, hB3⟩
                have HB3 := Lib.hid hB3
                have HS3 := Lib.hid (HSy.out.below hB3)
                refine hK _ _ (hSi hB3 _) ?_
                clear hK
                try simp only [List.getElem_toArray, List.getElem_cons_zero, List.getElem_cons_succ, Act.put, List.setIfInBounds_toArray, List.set_cons_zero, List.set_cons_succ]
                clear hB3
                refine WA.take (i := 4) (v := .bool false) rfl (by kernel_rfl) (by kernel_rfl) (by kernel_rfl) (fun _ _ _ h => h) (hdrop 4) (Or.inl ⟨by rfl, ?_⟩) (hSi HB3.out _) ?_
                · rintro w' ⟨L, hL, hSw, hun⟩
                  go_simp
                simp only [List.getElem_toArray, List.getElem_cons_zero, List.getElem_cons_succ, Act.put, List.setIfInBounds_toArray, List.set_cons_zero, List.set_cons_succ]
                refine WA.take (i := 5) (v := .bool false) rfl (by kernel_rfl) (by kernel_rfl) (by kernel_rfl) (fun _ _ _ h => h) (hdrop 5) (Or.inl ⟨by rfl, ?_⟩) (hSi HB3.out _) ?_
                · rintro w' ⟨L, hL, hSw, hun⟩
                  go_simp
                simp only [List.getElem_toArray, List.getElem_cons_zero, List.getElem_cons_succ, Act.put, List.setIfInBounds_toArray, List.set_cons_zero, List.set_cons_succ]
                refine WA.take (i := 6) (v := .pointer (some ⟨tb, 0, none⟩)) rfl (by kernel_rfl) (by kernel_rfl) (by kernel_rfl) (fun _ _ _ h => h) (hdrop 6) (Or.inl ⟨by rfl, ?_⟩) (hSi HB3.out _) ?_
                · rintro w' ⟨L, hL, hSw, hun⟩
                  go_simp
                simp only [List.getElem_toArray, List.getElem_cons_zero, List.getElem_cons_succ, Act.put, List.setIfInBounds_toArray, List.set_cons_zero, List.set_cons_succ]
                refine WA.take (i := 7) (v := .pointer (some ⟨rb, 0, none⟩)) rfl (by kernel_rfl) (by kernel_rfl) (by kernel_rfl) (fun _ _ _ h => h) (hdrop 7) (Or.inl ⟨by rfl, ?_⟩) (hSi HB3.out _) ?_
                · rintro w' ⟨L, hL, hSw, hun⟩
                  go_simp
                simp only [List.getElem_toArray, List.getElem_cons_zero, List.getElem_cons_succ, Act.put, List.setIfInBounds_toArray, List.set_cons_zero, List.set_cons_succ]
                refine WA.take (i := 8) (v := .agg #[.int .u32 y0, .int .u32 y1, .int .u32 y2]) rfl (by kernel_rfl) (by kernel_rfl) (by kernel_rfl) (fun _ _ _ h => h) (hdrop 8) (Or.inl ⟨by rfl, ?_⟩) (hSi HB3.out _) ?_
                · rintro w' ⟨L, hL, hSw, hun⟩
                  have hbw := hSo hSw
                  have x0' := cell_later hbw x0'
                  have x1' := cell_later hbw x1'
                  have x2' := cell_later hbw x2'
                  clear hbw
                  go_simp
                simp only [List.getElem_toArray, List.getElem_cons_zero, List.getElem_cons_succ, Act.put, List.setIfInBounds_toArray, List.set_cons_zero, List.set_cons_succ]
                refine WA.take (i := 9) (v := .pointer (some ⟨rb, 0, none⟩)) rfl (by kernel_rfl) (by kernel_rfl) (by kernel_rfl) (fun _ _ _ h => h) (hdrop 9) (Or.inl ⟨by rfl, ?_⟩) (hSi HB3.out _) ?_
                · rintro w' ⟨L, hL, hSw, hun⟩
                  go_simp
                simp only [List.getElem_toArray, List.getElem_cons_zero, List.getElem_cons_succ, Act.put, List.setIfInBounds_toArray, List.set_cons_zero, List.set_cons_succ]
                refine WA.take (i := 10) (v := .pointer (some ⟨rb, 0, none⟩)) rfl (by kernel_rfl) (by kernel_rfl) (by kernel_rfl) (fun _ _ _ h => h) (hdrop 10) (Or.inl ⟨by rfl, ?_⟩) (hSi HB3.out _) ?_
                · rintro w' ⟨L, hL, hSw, hun⟩
                  go_simp
                simp only [List.getElem_toArray, List.getElem_cons_zero, List.getElem_cons_succ, Act.put, List.setIfInBounds_toArray, List.set_cons_zero, List.set_cons_succ]
                refine WA.take (i := 11) (v := .pointer (some ⟨rb, 0, none⟩)) rfl (by kernel_rfl) (by kernel_rfl) (by kernel_rfl) (fun _ _ _ h => h) (hdrop 11) (Or.inl ⟨by rfl, ?_⟩) (hSi HB3.out _) ?_
                · rintro w' ⟨L, hL, hSw, hun⟩
                  go_simp
                simp only [List.getElem_toArray, List.getElem_cons_zero, List.getElem_cons_succ, Act.put, List.setIfInBounds_toArray, List.set_cons_zero, List.set_cons_succ]
                refine WA.take (i := 12) (v := vr) rfl (by kernel_rfl) (by kernel_rfl) (by kernel_rfl) (fun _ _ _ h => h) (hdrop 12) (Or.inl ⟨by rfl, ?_⟩) (hSi HB3.out _) ?_
                · rintro w' ⟨L, hL, hSw, hun⟩
                  have hbw := hSo hSw
                  have c0' := cell_later hbw c0'
                  clear hbw
                  go_simp
                simp only [List.getElem_toArray, List.getElem_cons_zero, List.getElem_cons_succ, Act.put, List.setIfInBounds_toArray, List.set_cons_zero, List.set_cons_succ]
                refine WA.take (i := 13) (v := .int .i64 (lt : Int)) rfl (by kernel_rfl) (by kernel_rfl) (by kernel_rfl) (fun _ _ _ h => h) (hdrop 13) (Or.inl ⟨by rfl, ?_⟩) (hSi HB3.out _) ?_
                · rintro w' ⟨L, hL, hSw, hun⟩
                  go_simp
                simp only [List.getElem_toArray, List.getElem_cons_zero, List.getElem_cons_succ, Act.put, List.setIfInBounds_toArray, List.set_cons_zero, List.set_cons_succ]
                refine WA.one (i := 14) (by kernel_rfl) rfl (by rfl) (fun K hK => ?_)
                go_simp
                refine (callsIn_wide.1 (matches_in ⟨_, _, _, _, _, HS3.out⟩ y0 y1 y2 Hro.out 0 lt 255)).mono ?_
                rintro e w4 ⟨rfl, hB4⟩
                have HB4 := Lib.hid (HB3.out.trans (hB4.mono HB3.out.size))
                have HS4 := Lib.hid (HS3.out.below hB4)
                refine hK _ _ (hSi HB4.out _) ?_
                clear hK
                try simp only [List.getElem_toArray, List.getElem_cons_zero, List.getElem_cons_succ, Act.put, List.setIfInBounds_toArray, List.set_cons_zero, List.set_cons_succ]
                clear hB4
                refine WA.take (i := 15) (v := .bool false) rfl (by kernel_rfl) (by kernel_rfl) (by kernel_rfl) (fun _ _ _ h => h) (hdrop 15) (Or.inl ⟨by rfl, ?_⟩) (hSi HB4.out _) ?_
                · rintro w' ⟨L, hL, hSw, hun⟩
                  go_simp
                simp only [List.getElem_toArray, List.getElem_cons_zero, List.getElem_cons_succ, Act.put, List.setIfInBounds_toArray, List.set_cons_zero, List.set_cons_succ]
                refine WA.take (i := 16) (v := .bool false) rfl (by kernel_rfl) (by kernel_rfl) (by kernel_rfl) (fun _ _ _ h => h) (hdrop 16) (Or.inl ⟨by rfl, ?_⟩) (hSi HB4.out _) ?_
                · rintro w' ⟨L, hL, hSw, hun⟩
                  go_simp
                simp only [List.getElem_toArray, List.getElem_cons_zero, List.getElem_cons_succ, Act.put, List.setIfInBounds_toArray, List.set_cons_zero, List.set_cons_succ]
                refine WA.take (i := 17) (v := .bool false) rfl (by kernel_rfl) (by kernel_rfl) (by kernel_rfl) (fun _ _ _ h => h) (hdrop 17) (Or.inl ⟨by rfl, ?_⟩) (hSi HB4.out _) ?_
                · rintro w' ⟨L, hL, hSw, hun⟩
                  go_simp
                simp only [List.getElem_toArray, List.getElem_cons_zero, List.getElem_cons_succ, Act.put, List.setIfInBounds_toArray, List.set_cons_zero, List.set_cons_succ]
                refine WA.take (i := 18) (v := .pointer (some ⟨tb, 0, none⟩)) rfl (by kernel_rfl) (by kernel_rfl) (by kernel_rfl) (fun _ _ _ h => h) (hdrop 18) (Or.inl ⟨by rfl, ?_⟩) (hSi HB4.out _) ?_
                · rintro w' ⟨L, hL, hSw, hun⟩
                  go_simp
                simp only [List.getElem_toArray, List.getElem_cons_zero, List.getElem_cons_succ, Act.put, List.setIfInBounds_toArray, List.set_cons_zero, List.set_cons_succ]
                refine WA.take (i := 19) (v := .pointer (some ⟨rb, 0, none⟩)) rfl (by kernel_rfl) (by kernel_rfl) (by kernel_rfl) (fun _ _ _ h => h) (hdrop 19) (Or.inl ⟨by rfl, ?_⟩) (hSi HB4.out _) ?_
                · rintro w' ⟨L, hL, hSw, hun⟩
                  go_simp
                simp only [List.getElem_toArray, List.getElem_cons_zero, List.getElem_cons_succ, Act.put, List.setIfInBounds_toArray, List.set_cons_zero, List.set_cons_succ]
                refine WA.take (i := 20) (v := .agg #[.int .u32 y0, .int .u32 y1, .int .u32 y2]) rfl (by kernel_rfl) (by kernel_rfl) (by kernel_rfl) (fun _ _ _ h => h) (hdrop 20) (Or.inl ⟨by rfl, ?_⟩) (hSi HB4.out _) ?_
                · rintro w' ⟨L, hL, hSw, hun⟩
                  have hbw := hSo hSw
                  have x0' := cell_later hbw x0'
                  have x1' := cell_later hbw x1'
                  have x2' := cell_later hbw x2'
                  clear hbw
                  go_simp
                simp only [List.getElem_toArray, List.getElem_cons_zero, List.getElem_cons_succ, Act.put, List.setIfInBounds_toArray, List.set_cons_zero, List.set_cons_succ]
                refine WA.take (i := 21) (v := .pointer (some ⟨rb, 0, none⟩)) rfl (by kernel_rfl) (by kernel_rfl) (by kernel_rfl) (fun _ _ _ h => h) (hdrop 21) (Or.inl ⟨by rfl, ?_⟩) (hSi HB4.out _) ?_
                · rintro w' ⟨L, hL, hSw, hun⟩
                  go_simp
                simp only [List.getElem_toArray, List.getElem_cons_zero, List.getElem_cons_succ, Act.put, List.setIfInBounds_toArray, List.set_cons_zero, List.set_cons_succ]
                refine WA.take (i := 22) (v := .pointer (some ⟨rb, 0, none⟩)) rfl (by kernel_rfl) (by kernel_rfl) (by kernel_rfl) (fun _ _ _ h => h) (hdrop 22) (Or.inl ⟨by rfl, ?_⟩) (hSi HB4.out _) ?_
                · rintro w' ⟨L, hL, hSw, hun⟩
                  go_simp
                simp only [List.getElem_toArray, List.getElem_cons_zero, List.getElem_cons_succ, Act.put, List.setIfInBounds_toArray, List.set_cons_zero, List.set_cons_succ]
                refine WA.take (i := 23) (v := .pointer (some ⟨rb, 0, none⟩)) rfl (by kernel_rfl) (by kernel_rfl) (by kernel_rfl) (fun _ _ _ h => h) (hdrop 23) (Or.inl ⟨by rfl, ?_⟩) (hSi HB4.out _) ?_
                · rintro w' ⟨L, hL, hSw, hun⟩
                  go_simp
                simp only [List.getElem_toArray, List.getElem_cons_zero, List.getElem_cons_succ, Act.put, List.setIfInBounds_toArray, List.set_cons_zero, List.set_cons_succ]
                refine WA.take (i := 24) (v := vr) rfl (by kernel_rfl) (by kernel_rfl) (by kernel_rfl) (fun _ _ _ h => h) (hdrop 24) (Or.inl ⟨by rfl, ?_⟩) (hSi HB4.out _) ?_
                · rintro w' ⟨L, hL, hSw, hun⟩
                  have hbw := hSo hSw
                  have c0' := cell_later hbw c0'
                  clear hbw
                  go_simp
                simp only [List.getElem_toArray, List.getElem_cons_zero, List.getElem_cons_succ, Act.put, List.setIfInBounds_toArray, List.set_cons_zero, List.set_cons_succ]
                refine WA.take (i := 25) (v := .int .i64 (lt : Int)) rfl (by kernel_rfl) (by kernel_rfl) (by kernel_rfl) (fun _ _ _ h => h) (hdrop 25) (Or.inl ⟨by rfl, ?_⟩) (hSi HB4.out _) ?_
                · rintro w' ⟨L, hL, hSw, hun⟩
                  go_simp
                simp only [List.getElem_toArray, List.getElem_cons_zero, List.getElem_cons_succ, Act.put, List.setIfInBounds_toArray, List.set_cons_zero, List.set_cons_succ]
                refine WA.take (i := 26) (v := .int .i64 ((lt : Int) - 1)) rfl (by kernel_rfl) (by kernel_rfl) (by kernel_rfl) (fun _ _ _ h => h) (hdrop 26) (Or.inl ⟨by rfl, ?_⟩) (hSi HB4.out _) ?_
                · rintro w' ⟨L, hL, hSw, hun⟩
                  go_simp
                  exact wrap_pred lt (by omega)
                simp only [List.getElem_toArray, List.getElem_cons_zero, List.getElem_cons_succ, Act.put, List.setIfInBounds_toArray, List.set_cons_zero, List.set_cons_succ]
                refine WA.one (i := 27) (by kernel_rfl) rfl (by rfl) (fun K hK => ?_)
                go_simp
                refine (callsIn_wide.1 (matches_in ⟨_, _, _, _, _, HS4.out⟩ y0 y1 y2 Hro.out 1 ((lt : Int) - 1) 2)).mono ?_
                rintro e w5 ⟨rfl, hB5⟩
                have HB5 := Lib.hid (HB4.out.trans (hB5.mono HB4.out.size))
                refine hK _ _ (hSi HB5.out _) ?_
                clear hK
                try simp only [List.getElem_toArray, List.getElem_cons_zero, List.getElem_cons_succ, Act.put, List.setIfInBounds_toArray, List.set_cons_zero, List.set_cons_succ]
                clear hB5
                refine WA.take (i := 28) (v := .bool false) rfl (by kernel_rfl) (by kernel_rfl) (by kernel_rfl) (fun _ _ _ h => h) (hdrop 28) (Or.inl ⟨by rfl, ?_⟩) (hSi HB5.out _) ?_
                · rintro w' ⟨L, hL, hSw, hun⟩
                  go_simp
                simp only [List.getElem_toArray, List.getElem_cons_zero, List.getElem_cons_succ, Act.put, List.setIfInBounds_toArray, List.set_cons_zero, List.set_cons_succ]
                refine WA.take (i := 29) (v := .bool false) rfl (by kernel_rfl) (by kernel_rfl) (by kernel_rfl) (fun _ _ _ h => h) (hdrop 29) (Or.inl ⟨by rfl, ?_⟩) (hSi HB5.out _) ?_
                · rintro w' ⟨L, hL, hSw, hun⟩
                  go_simp
                simp only [List.getElem_toArray, List.getElem_cons_zero, List.getElem_cons_succ, Act.put, List.setIfInBounds_toArray, List.set_cons_zero, List.set_cons_succ]
                refine WA.done (by kernel_rfl) ?_ _
                refine Nrm.normal ?_
                go_wp2_with fail
                have hx := HBw.out.trans ((HB2.out.mono HBw.out.size).trans ((HB2w.out.trans (HB5.out.mono HB2w.out.size)).mono (Nat.le_trans HBw.out.size HB2.out.size)))
                exact ⟨⟨m + 1, by omega, by push_cast; rfl, hx⟩, by simp [intOf]; omega⟩
          · have hm8' : m = 8 := by omega
            subst hm8'
            clear l0 l1 l2 c0
            go_wp2_with fail
            refine (known_any wr).mono ?_
            rintro e w3 ⟨rfl, hB3⟩
            have HB3 := Lib.hid (hB3.mono HBw.out.size)
            clear hB3
            go_wp2_with fail
            go_ret
            refine ⟨rfl, ?_⟩
            have h1 := HBw.out.trans HB3.out
            have h2 := HBr.out.trans (h1.mono HBr.out.size)
            exact HBL.out.trans (h2.mono HBL.out.size)
end Go.Proofs.Ytellmhllgmimiaa
