/- The chapter's rows of layer 16. -/
import Derived.Test.YtghihhjcoilmgaaW4
import Derived.Test.YtghihhjcoilmgaaW7
namespace Go.Proofs.Ytghihhjcoilmgaa
set_option maxRecDepth 100000
open Go.RowKit Go.Maps
set_option linter.unusedVariables false
set_option linter.unusedSimpArgs false
attribute [local go_sem] Oper.semAt_some

theorem k3_cl : IsCl [(3, 5)] 5 [3, 5] := by
  refine ⟨by simp [Srt], fun b => ⟨fun h => ?_, fun h => closed_all (by simp) (fun j hj => ?_) h⟩⟩
  · have e : Conn [(3, 5)] 3 5 := .edge ⟨(3, 5), by simp, by simp, by simp, .inl rfl⟩
    simp at h
    rcases h with rfl | rfl
    · exact e.symm
    · exact .refl _
  · have hj0 : j = 0 := by simp at hj; omega
    subst hj0
    simp
theorem k3_one : IsCl [(3, 5)] 1 [1] := by
  refine ⟨by simp [Srt], fun b => ⟨fun h => ?_, fun h => closed_all (by simp) (fun j hj => ?_) h⟩⟩
  · simp at h
    subst h
    exact .refl _
  · have hj0 : j = 0 := by simp at hj; omega
    subst hj0
    simp
def kC : List CondT := [(0, 1, true)]
theorem kC_in : ∀ c ∈ kC, inC 2 c := by simp [kC, inC]
theorem kC_asked : askedL kC 2 = [true, true] := by decide
theorem k3_pick : PickP [(3, 5)] [3, 3] [] kC := by
  refine ⟨kC_in, [3, 5], rfl, rfl, fun i _ hi => ?_, fun c hc _ => ?_⟩
  · have e : Conn [(3, 5)] 3 5 := .edge ⟨(3, 5), by simp, by simp, by simp, .inl rfl⟩
    have hi2 : i = 0 ∨ i = 1 := by simp at hi; omega
    show inL _ _ (askedL kC 2) _ _ _
    rw [kC_asked]
    rcases hi2 with rfl | rfl
    · simp [inL]; exact .refl _
    · simp [inL]; exact e
  · simp only [kC, List.mem_singleton] at hc
    subst hc
    simp [okC]
theorem k0_pick : ¬ PickP [] [3, 3] [] kC := by
  rintro ⟨_, Y, h1, _, h3, h4⟩
  have e0 := h3 0 (by omega) (by simp)
  have e1 := h3 1 (by omega) (by simp)
  have h5 := h4 (0, 1, true) (by simp [kC]) (by show (0 : Int) ≤ max 0 1; decide)
  have ha : askedL kC ([3, 3] : List Int).length = [true, true] := kC_asked
  rw [ha] at e0 e1
  simp [inL] at e0 e1
  rw [conn_nil] at e0 e1
  apply h5
  simp [e0, e1]
theorem two_at (w : World) (x y : Int) : ∀ W, W = w.alloc (.cells #[.int .u32 x, .int .u32 y] 31) → IsAt (Value.int .u32) W (some ⟨w.heap.size, 0, none⟩) [x, y] ∧ Below w.heap.size w W := by
  rintro W rfl
  have hn := World.alloc_heap_new w (.cells #[.int .u32 x, .int .u32 y] 31)
  refine ⟨fun j hj => ⟨w.heap.size, 0, rfl, by simp, ?_⟩, (Below.refl _ w).alloc (Nat.le_refl _) _⟩
  have hj2 : j = 0 ∨ j = 1 := by simp at hj; omega
  unfold World.cell?
  rw [hn]
  rcases hj2 with rfl | rfl <;> rfl
theorem kC_at (w : World) : ∀ W, W = w.alloc (.cells #[.int .i64 0, .int .i64 1, .bool true] 67) → IsC W (some ⟨w.heap.size, 0, none⟩) kC ∧ Below w.heap.size w W := by
  rintro W rfl
  have hn := World.alloc_heap_new w (.cells #[.int .i64 0, .int .i64 1, .bool true] 67)
  refine ⟨fun j hj => ?_, (Below.refl _ w).alloc (Nat.le_refl _) _⟩
  have hj0 : j = 0 := by simp [kC] at hj; omega
  subst hj0
  refine ⟨w.heap.size, 0, rfl, by simp, ?_, ?_, ?_⟩ <;> (unfold World.cell?; rw [hn]; rfl)
theorem isQ_of {w : World} {pb mf mc : Nat} {f : Int → Option Int} {c : Int → Option (List Int)} {J : Jn} (h : IsP w pb mf mc f c) (hI : PInv J f c) (hJ : ∀ p ∈ J, is32 p.1 ∧ is32 p.2) (hl : J.length ≤ 100) : IsQ w (.pointer (some ⟨pb, 0, none⟩)) J :=
  ⟨hJ, hl, .inr ⟨pb, mf, mc, f, c, rfl, h, hI⟩⟩
set_option maxRecDepth 100000 in
set_option maxHeartbeats 4000000 in
theorem known_any (w : World) : Calls Try.prog 7 #[] w fun e w' => e = .returned (.bool true) ∧ Below w.heap.size w w' := by
  have he := eqRw_same 3 1 3
  go_enter Try.func7, Try.ntmps7
  go_wp2_with fail
  refine (newP_u w).mono ?_
  rintro e w1 ⟨pb, mf, mc, rfl, hP1, m1, m2, m3, hB1⟩
  have HP1 := Lib.hid hP1; have HB1 := Lib.hid hB1
  clear hP1 hB1
  have hj1 := joinP_u HP1.out PInv.nil (by simp) (by simp) (a := 3) (b := 5) (by simp [is32]) (by simp [is32])
  go_wp2_with fail
  refine hj1.mono ?_
  rintro e w2 ⟨r, two, f1, c1, rfl, hP2, hI2, hT2, hr⟩
  have hB2 := HB1.out.trans ((hT2.lower (n := w.heap.size) m1 m2 HB1.out.size))
  obtain ⟨hC3, hB3⟩ := kC_at w2 _ rfl
  have hQ2 : IsQ w2 (.pointer (some ⟨pb, 0, none⟩)) [(3, 5)] := isQ_of hP2 hI2 (by simp [is32]) (by simp)
  have hQ3 := hQ2.below hB3
  have HB3 := Lib.hid (hB2.trans (hB3.mono hB2.size)); have HQ3 := Lib.hid hQ3; have HC3 := Lib.hid hC3
  clear hP2 hI2 hT2 hr hj1 hQ2 hQ3 hB3 hC3 hB2
  go_upto_region 4 with fail
  obtain ⟨z2, hz2⟩ : ∃ z, w2.heap.size = z := ⟨_, rfl⟩
  rw [hz2] at HC3 ⊢
  clear hz2
  generalize w2.alloc (.cells #[.int .i64 0, .int .i64 1, .bool true] 67) = w3 at *
  go_wp2_with fail
  refine (own_any HQ3.out (by simp [is32]) (by simp [is32]) (by simp [is32])).mono ?_
  rintro e w4 ⟨x, y, z, rfl, ⟨hx, hy, hz⟩, hB4⟩
  obtain rfl := hx.unique (IsFst.of_cl k3_cl)
  obtain rfl := hy.unique (IsFst.of_cl k3_one)
  obtain rfl := hz.unique ((IsFst.of_cl k3_cl).again)
  have HB4 := Lib.hid (HB3.out.trans (hB4.mono HB3.out.size)); have HQ4 := Lib.hid (HQ3.out.below hB4); have HC4 := Lib.hid (HC3.out.below hB4)
  clear hx hy hz hB4
  obtain ⟨hV5, hB5⟩ := two_at w4 3 3 _ rfl
  have hp5 := pick_any (vcap := 2) (fcap := 0) (ccap := 1) (HQ4.out.below hB5) hV5 (F := []) (fa := none) (fun j hj => by simp at hj) (HC4.out.below hB5) (by simp [is32]) (by simp) (by simp [kC]) (by simp [maxLen])
  have HB5 := Lib.hid (HB4.out.trans (hB5.mono HB4.out.size)); have HC5 := Lib.hid (HC4.out.below hB5); have Hp5 := Lib.hid hp5
  clear hV5 hB5 hp5
  go_wp2_with fail
  refine Hp5.out.mono ?_
  rintro e w6 ⟨b, rfl, hb, hB6⟩
  obtain rfl : b = true := hb.2 k3_pick
  have HB6 := Lib.hid (HB5.out.trans (hB6.mono HB5.out.size)); have HC6 := Lib.hid (HC5.out.below hB6)
  clear hb hB6
  go_wp2_with fail
  refine (newP_u w6).mono ?_
  rintro e w7 ⟨pb2, mf2, mc2, rfl, hP7, _, _, _, hB7⟩
  have HB7 := Lib.hid (HB6.out.trans (hB7.mono HB6.out.size)); have HC7 := Lib.hid (HC6.out.below hB7)
  have HQ7 := Lib.hid (isQ_of hP7 PInv.nil (by simp) (by simp))
  clear hP7 hB7
  obtain ⟨hV8, hB8⟩ := two_at w7 3 3 _ rfl
  have hp8 := pick_any (vcap := 2) (fcap := 0) (ccap := 1) (HQ7.out.below hB8) hV8 (F := []) (fa := none) (fun j hj => by simp at hj) (HC7.out.below hB8) (by simp [is32]) (by simp) (by simp [kC]) (by simp [maxLen])
  have HB8 := Lib.hid (HB7.out.trans (hB8.mono HB7.out.size)); have Hp8 := Lib.hid hp8
  clear hV8 hB8 hp8
  go_wp2_with fail
  refine Hp8.out.mono ?_
  rintro e w9 ⟨b, rfl, hb, hB9⟩
  obtain rfl : b = false := by
    cases b with
    | false => rfl
    | true => exact absurd (hb.1 rfl) k0_pick
  have HB9 := Lib.hid (HB8.out.trans (hB9.mono HB8.out.size))
  clear hb hB9
  go_wp2_with fail
  go_ret
  exact ⟨rfl, HB9.out⟩
end Go.Proofs.Ytghihhjcoilmgaa
