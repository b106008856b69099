/- All: its iterator goes over the cliques of the copy. -/
import Derived.Test.YtpiciickgomggaaQ13
import Derived.Test.YtpiciickgomggaaQ11
namespace Go.Proofs.Ytpiciickgomggaa
set_option maxRecDepth 100000
open Go.RowKit Go.Maps Go.Shelf
set_option linter.unusedVariables false
set_option linter.unusedSimpArgs false
attribute [local go_sem] Oper.semAt_some

/-- who has a clique of its own name -/
def IsKey (J : Jn) (r : Int) : Prop := (∀ b, Conn J r b → r ≤ b) ∧ ∃ b, b ≠ r ∧ Conn J r b
theorem IsKey.nums {J : Jn} {r : Int} (h : IsKey J r) : r ∈ nums J := by
  obtain ⟨_, b, hb, hc⟩ := h
  rcases List.mem_cons.1 hc.symm.nums with e | e
  · exact absurd e.symm hb
  · exact e
theorem nums_32 {J : Jn} (hJ : ∀ p ∈ J, is32 p.1 ∧ is32 p.2) {x : Int} (h : x ∈ nums J) : is32 x := by
  rcases List.mem_append.1 h with h | h
  · obtain ⟨p, hp, rfl⟩ := List.mem_map.1 h; exact (hJ p hp).1
  · obtain ⟨p, hp, rfl⟩ := List.mem_map.1 h; exact (hJ p hp).2
theorem srt_srt {L : List Int} (hn : L.Nodup) : Srt (srt L) := by
  have hs : (srt L).Pairwise (fun x y => decide (x ≤ y) = true) := List.pairwise_mergeSort (fun a b c h1 h2 => by simp at *; omega) (fun a b => by simp; omega) L
  have hd : (srt L).Pairwise (fun x y => x ≠ y) := (srt_perm L).nodup_iff.2 hn
  exact (hs.and hd).imp fun ⟨h1, h2⟩ => by simp at h1; omega
theorem IsP.low {w w' : World} {pb mf mc : Nat} {f : Int → Option Int} {c : Int → Option (List Int)} (h : IsP w pb mf mc f c) (hb : ∀ i, i < w.heap.size → w'.heap[i]? = w.heap[i]?) : IsP w' pb mf mc f c := by
  obtain ⟨cv, h1, h2, h3⟩ := h.cl
  refine ⟨(hb pb (lt_of_heap h.head)).trans h.head, h.ne, h.of.stay (hb mf h.of.lt), cv, h1.stay (hb mc h1.lt), h2, fun r L hr hc => ?_⟩
  obtain ⟨v, e1, e2⟩ := h3 r L hr hc
  exact ⟨v, e1, e2.stay fun i cur hi => hb i (lt_of_heap hi)⟩
/-- what a body keeps that turns one box of its own: what lay below B, and whatever cells there are -/
def KpI (B ib : Nat) (W W' : World) : Prop := W.heap.size ≤ W'.heap.size ∧ ∀ (i : Nat) (o : Obj), W.heap[i]? = some o → i ≠ ib → (i < B ∨ o.isCells = true) → W'.heap[i]? = some o
theorem KpI.refl (B ib : Nat) (W : World) : KpI B ib W W := ⟨Nat.le_refl _, fun _ _ h _ _ => h⟩
theorem KpI.t {B ib : Nat} : ∀ {X Y Z : World}, KpI B ib X Y → KpI B ib Y Z → KpI B ib X Z := fun h k => ⟨Nat.le_trans h.1 k.1, fun i o ho hi hc => k.2 i o (h.2 i o ho hi hc) hi hc⟩
theorem KpI.b {B ib n : Nat} (hB : B ≤ n) (W : World) (l : Nat) (o o' : Obj) (hn : n ≤ l) (hl : W.heap[l]? = some o) (hc : o.isCells = false) : KpI B ib W (W.putObj l o') := by
  refine ⟨by simp [World.putObj], fun i o2 ho hi h => ?_⟩
  rw [World.putObj_heap_other (fun e => ?_)]
  · exact ho
  · subst e
    rw [ho] at hl
    injection hl with hl
    subst hl
    rcases h with h | h
    · omega
    · rw [hc] at h; cases h
theorem KpI.below {B ib : Nat} {W W' : World} (h : Below W.heap.size W W') : KpI B ib W W' := ⟨h.size, fun i o ho _ _ => (h.block i (lt_of_heap ho)).trans ho⟩
theorem KpI.low {B ib : Nat} {W W' : World} (h : KpI B ib W W') (hib : B ≤ ib) (hB : B ≤ W.heap.size) : ∀ i, i < B → W'.heap[i]? = W.heap[i]? := fun i hi => by
  have hlt : i < W.heap.size := by omega
  rw [h.2 i _ (Array.getElem?_eq_getElem hlt) (by omega) (.inl hi)]
  exact (Array.getElem?_eq_getElem hlt).symm
theorem OwnU.kpi {base B ib : Nat} {W W' : World} {v : Value} {L : List Int} (h : OwnU base W v L) (k : KpI B ib W W') (hib : ib < base) : OwnU base W' v L := by
  refine ⟨h.1, ?_⟩
  rcases h.2 with h1 | ⟨g, cap, cur, h1, h2, h3, h4⟩
  · exact .inl h1
  · exact .inr ⟨g, cap, cur, h1, h2, k.2 g _ h3 (by omega) (.inr rfl), h4⟩
set_option maxRecDepth 100000 in
theorem allP_u {w : World} {pb mf mc : Nat} {f : Int → Option Int} {c : Int → Option (List Int)} (h : IsP w pb mf mc f c) :
    Calls Try.prog 17 #[.pointer (some ⟨pb, 0, none⟩)] w fun e w' => ∃ vb qb nf nc, e = .returned (.func (.func 26) #[] #[.pointer (some ⟨vb, 0, none⟩)]) ∧
      w'.heap[vb]? = some (.cells #[.pointer (some ⟨qb, 0, none⟩)] 24 (0, 0)) ∧ IsP w' qb nf nc f c ∧ Below w.heap.size w w' := by
  have Hc := Lib.hid (copyP_u h)
  clear h
  go_enter Try.func17, Try.ntmps17
  go_wp2_with fail
  refine Hc.out.mono ?_
  rintro e w1 ⟨qb, nf, nc, rfl, hP, _, _, _, hB⟩
  have HP := Lib.hid hP; have HB := Lib.hid hB
  clear hP hB
  go_wp2_with fail
  go_ret
  have hB2 : Below w1.heap.size w1 (w1.alloc (.cells #[.pointer (some ⟨qb, 0, none⟩)] 24)) := (Below.refl _ w1).alloc (Nat.le_refl _) _
  exact ⟨w1.heap.size, qb, nf, nc, rfl, World.alloc_heap_new _ _, HP.out.below hB2, HB.out.trans (hB2.mono HB.out.size)⟩

set_option maxRecDepth 100000 in
set_option maxHeartbeats 4000000 in
theorem all1_seq {wt : World} {vb pb mf mc : Nat} {f : Int → Option Int} {c : Int → Option (List Int)} {J : Jn} (hbx : wt.heap[vb]? = some (.cells #[.pointer (some ⟨pb, 0, none⟩)] 24 (0, 0)))
    (hP : IsP wt pb mf mc f c) (hI : PInv J f c) (hJ : ∀ p ∈ J, is32 p.1 ∧ is32 p.2) (hJl : J.length ≤ 100) {K : List Int} (hK : Srt K) (hKm : ∀ x, x ∈ K ↔ IsKey J x) (ib : Nat) (hib : wt.heap.size ≤ ib) :
    SeqY Try.prog 26 #[.pointer (some ⟨vb, 0, none⟩)] (fun x : Int × Value => #[.int .u32 x.1, x.2]) (KpI wt.heap.size ib)
      (fun pre x W => pre.map (·.1) ++ [x.1] <+: K ∧ ∃ L, OwnU 0 W x.2 L ∧ ClL J x.1 L) (fun xs => xs.map (·.1) = K) wt (ib + 1) := by
  intro l J0 W hN hW hJ0 hY h0
  have HP := Lib.hid hP; have HI := Lib.hid hI; have HJ := Lib.hid hJ; have HK := Lib.hid hK; have HKm := Lib.hid hKm; have HW := Lib.hid hW; have HJ0 := Lib.hid hJ0; have HY := Lib.hid hY; have H0 := Lib.hid h0
  have cells : ∀ V : World, (∀ i, i < wt.heap.size → V.heap[i]? = wt.heap[i]?) → V.cell? ⟨vb, 0, none⟩ = some (.pointer (some ⟨pb, 0, none⟩)) ∧ V.cell? ⟨pb, 1, none⟩ = some (.map (some mc)) := fun V hV => by
    refine ⟨?_, (hP.low hV).cells.2⟩
    unfold World.cell?
    rw [(hV vb (lt_of_heap hbx)).trans hbx]
    rfl
  have Cells := Lib.hid cells
  obtain ⟨c0, c1⟩ := cells W hW.block
  obtain ⟨cv, m1, m2, m3⟩ := hP.cl
  have HM := Lib.hid (m1.stay (hW.block mc m1.lt))
  have hcv : ∀ x, is32 x → (cv x ≠ none ↔ x ∈ K) := fun x hx => by
    rw [hKm]
    show _ ↔ (_ ∧ _)
    rw [← hI.key]
    cases hc : c x with
    | none => simp [m2 x hx hc]
    | some L => obtain ⟨v, e1, _⟩ := m3 x L hx hc; simp [e1]
  have Hcv := Lib.hid hcv
  have hKl : K.length ≤ 200 := by
    have := List.Nodup.length_le_of_subset hK.nodup (l₂ := nums J) (fun x hx => ((hKm x).1 hx).nums)
    rw [nums_len] at this
    omega
  have hK32 : ∀ x ∈ K, is32 x ∧ x ≠ 0 := fun x hx => by
    have h1 := (hKm x).1 hx
    refine ⟨nums_32 hJ h1.nums, ?_⟩
    obtain ⟨_, b, hb, hc⟩ := h1
    exact (hc.ne_zero (Ne.symm hb)).1
  have HK32 := Lib.hid hK32
  clear hP hI hJ hK hKm hW hJ0 hY h0 cells m1 m2 m3 hcv hK32 hbx
  have hfn : ∀ k, Fence.wide.fn k := fun _ => trivial
  refine callsIn_of_wp Try.func26 rfl trivial ?_ rfl
  simp only [Try.ntmps26, List.size_toArray, List.length_cons, List.length_nil, Nat.reduceAdd, Nat.reduceSub, Array.replicate_succ, Array.replicate_zero, List.push_toArray, List.append_toArray, List.nil_append, List.cons_append]
  gi_wp2_with (gi_at_call 27; refine (callsIn_wide.2 (keys_any mc W)).mono ?_; rintro e w1 ⟨rfl, rfl⟩)
  have hb1 : Below W.heap.size W (W.alloc (.cells #[.map (some mc)] 46)) := (Below.refl _ W).alloc (Nat.le_refl _) _
  have hz1 : (W.alloc (.cells #[.map (some mc)] 46)).heap.size = W.heap.size + 1 := by simp
  have hst := keys_stops 8 W.heap.size mc 250 cv (fun ys hn hy => by
    have := List.Nodup.length_le_of_subset hn (l₂ := K) (fun x hx => (Hcv.out x (hy x hx).1).1 (hy x hx).2)
    omega) (W.alloc (.cells #[.map (some mc)] 46)) (by omega) (Boxed.new W 46 (.map (some mc))).cell (HM.out.stay (hb1.block mc HM.out.lt))
  have hsl : ∀ ss : List Int, (ss.Nodup ∧ (∀ x ∈ ss, is32 x) ∧ ∀ x, is32 x → (x ∈ ss ↔ cv x ≠ none)) → srt ss = K := fun ss ⟨h1, h2, h3⟩ => by
    refine (srt_srt h1).ext HK.out fun x => ?_
    rw [(srt_perm ss).mem_iff]
    constructor
    · intro hx; exact (Hcv.out x (h2 x hx)).1 ((h3 x (h2 x hx)).1 hx)
    · intro hx; exact (h3 x (HK32.out x hx).1).2 ((Hcv.out x (HK32.out x hx).1).2 hx)
  have hso := sorted_any (gf := 32) (lb := #[.pointer (some ⟨W.heap.size, 0, none⟩)]) (by omega) (enters_of Try.func32 (by kernel_rfl) rfl) (fun ss hs => by
    have := hsl ss hs
    rw [← srt_len ss, this]; omega) hst
  refine (callsIn_wide.2 hso).mono ?_
  rintro e w2 ⟨v, ss, rfl, hss, hO, hB⟩
  rw [hsl ss hss] at hO
  have hlow2 : ∀ i, i < wt.heap.size → w2.heap[i]? = wt.heap[i]? := fun i hi => by
    have h1 := HW.out.size
    exact (hB.block i (by omega)).trans ((hb1.block i (by omega)).trans (HW.out.block i hi))
  have hBW : Below W.heap.size W w2 := hb1.trans (hB.mono (by omega))
  rw [hz1] at hO
  have hj2 := HJ0.out [] W w2 H0.out hBW
  obtain ⟨sa, cap, rfl, _, _, _⟩ := hO.u
  obtain ⟨n, hn⟩ : ∃ n, K.length = n := ⟨_, rfl⟩
  rw [hn] at hO hKl ⊢
  have HO := Lib.hid hO; have Hlow2 := Lib.hid hlow2; have Hj2 := Lib.hid hj2; have Hn := Lib.hid hn
  have hsz2 : W.heap.size ≤ w2.heap.size := hBW.size
  have hwt2 := HW.out.size
  clear hst hsl hso hss hO hB hlow2 hBW hj2 hn hb1 c0 c1
  gi_wp2
  gi_loopw [14] (fun u wr => ∃ (k : Nat) (pre : List (Int × Value)), k ≤ n ∧ u = .int .i64 k ∧ pre.map (·.1) = K.take k ∧ J0 pre wr ∧ KpI wt.heap.size ib w2 wr) (fun u _ => n - (intOf u).toNat)
  case atStart => exact ⟨0, [], by omega, rfl, rfl, Hj2.out, KpI.refl _ _ _⟩
  case round =>
    obtain ⟨k, pre, hk, rfl, hpre, hJw, hKp⟩ := hrel
    have HPre := Lib.hid hpre; have HJw := Lib.hid hJw; have HKp := Lib.hid hKp
    clear hpre hJw hKp
    by_cases hkn : k < n
    · have hd : decide ((k : Int) < (n : Int)) = true := by simp; omega
      have hkK : k < K.length := by rw [Hn.out]; exact hkn
      have hOr := HO.out.kpi HKp.out (by omega)
      obtain ⟨g, rfl, _, cg⟩ := hOr.at' k hkK
      have hlowr : ∀ i, i < wt.heap.size → wr.heap[i]? = wt.heap[i]? := fun i hi => (HKp.out.low hib (by omega) i hi).trans (Hlow2.out i hi)
      obtain ⟨c0, c1⟩ := Cells.out wr hlowr
      obtain ⟨r, hr⟩ : ∃ r, K[k] = r := ⟨_, rfl⟩
      rw [hr] at cg
      have hrK : r ∈ K := by rw [← hr]; exact List.getElem_mem _
      have hpx : pre.map (·.1) ++ [r] = K.take (k + 1) := by rw [HPre.out, List.take_succ_eq_append_getElem hkK, hr]
      have hq := clique_any (HP.out.low hlowr) HI.out HJ.out hJl (HK32.out r hrK).1
      have Hq := Lib.hid hq; have HrK := Lib.hid hrK; have Hpx := Lib.hid hpx
      clear hOr hlowr hr hrK hpx hq
      gi_wp2_with (gi_at_call 11; refine (callsIn_wide.2 Hq.out).mono ?_; rintro e w4 ⟨v4, L4, rfl, hO4, hL4, hB4⟩; obtain ⟨s4, cap4, rfl, _⟩ := hO4.u; obtain ⟨fn, tmps, assign, body, hy, hR⟩ := HY.out pre (r, .slice s4 L4.length cap4) w4 (HJ0.out pre wr w4 HJw.out hB4) ⟨⟨K.drop (k + 1), by rw [Hpx.out, List.take_append_drop]⟩, L4, hO4.mono (Nat.zero_le _), hL4⟩; have HR := Lib.hid hR; have HB4 := Lib.hid hB4; clear hR hO4 hL4 hB4)
      refine HR.out.mono ?_
      rintro e W3 ⟨rfl, hJ3, hk3⟩
      have HJ3 := Lib.hid hJ3
      have Hk3 := Lib.hid (HKp.out.t ((KpI.below HB4.out).t hk3))
      clear hJ3 hk3
      gi_wp2
      go_roundw
      case rel => exact ⟨k + 1, _, by omega, by push_cast; rfl, by rw [List.map_append]; exact Hpx.out, HJ3.out, Hk3.out⟩
      case measure => simp [intOf]; omega
    · have hd : decide ((k : Int) < (n : Int)) = false := by simp; omega
      gi_wp2
      go_end0
      refine ⟨⟨_, rfl⟩, pre, ?_, HJw.out⟩
      rw [HPre.out]
      exact List.take_of_length_le (by rw [Hn.out]; omega)
end Go.Proofs.Ytpiciickgomggaa
