/- UnionApart's parts: what stays where boxes and others' maps turn; All's iterator where a number's box came between. -/
import Derived.Test.YtpiciickgomggaaQ17
namespace Go.Proofs.Ytpiciickgomggaa
set_option maxRecDepth 100000
open Go.RowKit Go.Maps Go.Shelf
set_option linter.unusedVariables false
set_option linter.unusedSimpArgs false
attribute [local go_sem] Oper.semAt_some

section
variable {w w' : World} {pb mf mc : Nat} {f : Int → Option Int} {c : Int → Option (List Int)}
/-- a partition where its head, its maps and all rows of numbers stay -/
theorem IsP.obj (h : IsP w pb mf mc f c) (hs : ∀ (i : Nat) (o : Obj), w.heap[i]? = some o → (i = pb ∨ i = mf ∨ i = mc ∨ ∃ cur, o = Obj.cells cur 26 (0, 0)) → w'.heap[i]? = some o) : IsP w' pb mf mc f c := by
  obtain ⟨cv, m1, m2, m3⟩ := h.cl
  obtain ⟨⟨_, _, of⟩, ⟨_, _, oc⟩⟩ := h.objs
  refine ⟨hs pb _ h.head (.inl rfl), h.ne, h.of.stay ((hs mf _ of (.inr (.inl rfl))).trans of.symm), cv, m1.stay ((hs mc _ oc (.inr (.inr (.inl rfl)))).trans oc.symm), m2, fun r L hr hL => ?_⟩
  obtain ⟨v, k1, k2⟩ := m3 r L hr hL
  exact ⟨v, k1, k2.stay fun i cur hi => (hs i _ hi (.inr (.inr (.inr ⟨cur, rfl⟩)))).trans hi.symm⟩
/-- where one box alone turns -/
theorem IsP.but (h : IsP w pb mf mc f c) {b t : Nat} {v : Value} (hb : Boxed w b t v) (h1 : t ≠ 48) (h2 : t ≠ 26) (hs : ∀ i, i < w.heap.size → i ≠ b → w'.heap[i]? = w.heap[i]?) : IsP w' pb mf mc f c := by
  obtain ⟨⟨_, _, of⟩, ⟨_, _, oc⟩⟩ := h.objs
  have hb' : w.heap[b]? = some (.cells #[v] t (0, 0)) := hb
  refine h.obj fun i o ho hi => (hs i (lt_of_heap ho) ?_).trans ho
  rintro rfl
  rw [hb'] at ho
  injection ho with ho
  subst ho
  rcases hi with rfl | rfl | rfl | ⟨cur, e⟩
  · have := h.head; rw [hb'] at this; injection this with this; injection this with _ e _; exact h1 e
  · rw [hb'] at of; cases of
  · rw [hb'] at oc; cases oc
  · injection e with _ e _; exact h2 e
/-- where what lies below B stays, and all cells but one box of an int -/
theorem IsP.kpi (h : IsP w pb mf mc f c) {B ib : Nat} {v : Value} (k : KpI B ib w w') (h1 : pb < B) (h2 : mf < B) (h3 : mc < B) (hib : B ≤ ib) (hb : Boxed w ib 3 v) : IsP w' pb mf mc f c := by
  have hb' : w.heap[ib]? = some (.cells #[v] 3 (0, 0)) := hb
  refine h.obj fun i o ho hi => ?_
  rcases hi with rfl | rfl | rfl | ⟨cur, rfl⟩
  · exact k.2 _ _ ho (by omega) (.inl h1)
  · exact k.2 _ _ ho (by omega) (.inl h2)
  · exact k.2 _ _ ho (by omega) (.inl h3)
  · refine k.2 _ _ ho ?_ (.inr rfl)
    rintro rfl
    rw [hb'] at ho
    injection ho with ho
    injection ho with _ e _
    exact absurd e (by decide)
theorem OwnJ.obj {base : Nat} {v : Value} {J : Jn} (h : OwnJ base w v J) (hs : ∀ (i : Nat) cur, w.heap[i]? = some (Obj.cells cur 29 (0, 0)) → w'.heap[i]? = w.heap[i]?) : OwnJ base w' v J := by
  refine ⟨h.1, ?_⟩
  rcases h.2 with h1 | ⟨g, cap, cur, h1, h2, h3, h4⟩
  · exact .inl h1
  · exact .inr ⟨g, cap, cur, h1, h2, (hs g cur h3).trans h3, h4⟩
theorem OwnJ.but {base : Nat} {v : Value} {J : Jn} (h : OwnJ base w v J) {b t : Nat} {u : Value} (hb : Boxed w b t u) (h1 : t ≠ 29) (hs : ∀ i, i < w.heap.size → i ≠ b → w'.heap[i]? = w.heap[i]?) : OwnJ base w' v J := by
  have hb' : w.heap[b]? = some (.cells #[u] t (0, 0)) := hb
  refine h.obj fun i cur hi => hs i (lt_of_heap hi) ?_
  rintro rfl
  rw [hb'] at hi
  injection hi with hi
  injection hi with _ e _
  exact h1 e
/-- cells stay where a partition's maps turn -/
theorem TnM.cells (ht : TnM w w' mf mc) (h : IsP w pb mf mc f c) {i : Nat} {cur : Array Value} {t : TypeId} {fz : Nat × Nat} (hi : w.heap[i]? = some (.cells cur t fz)) : w'.heap[i]? = some (.cells cur t fz) := by
  obtain ⟨⟨_, _, of⟩, ⟨_, _, oc⟩⟩ := h.objs
  refine (ht.same i (lt_of_heap hi) ?_ ?_).trans hi
  · rintro rfl; rw [of] at hi; cases hi
  · rintro rfl; rw [oc] at hi; cases hi
theorem box_set {b : Nat} {v : Value} : ∀ i, i < w.heap.size → i ≠ b → (w.setCell ⟨b, 0, none⟩ v).heap[i]? = w.heap[i]? := fun i _ h => Below.heap_setCell w ⟨b, 0, none⟩ v i h
/-- the keys of a partition, rising -/
theorem PInv.keysL {J : Jn} (hI : PInv J f c) (hJ : ∀ p ∈ J, is32 p.1 ∧ is32 p.2) {ks : List Int} (h1 : ks.Nodup) (h2 : ∀ x ∈ ks, is32 x) (h3 : ∀ x, is32 x → (x ∈ ks ↔ c x ≠ none)) : Srt (srt ks) ∧ (srt ks).length = ks.length ∧ ∀ x, x ∈ srt ks ↔ IsKey J x := by
  refine ⟨srt_srt h1, srt_len ks, fun x => ?_⟩
  rw [(srt_perm ks).mem_iff]
  constructor
  · intro hx; exact (hI.key x).1 ((h3 x (h2 x hx)).1 hx)
  · intro hx; exact (h3 x (nums_32 hJ hx.nums)).2 ((hI.key x).2 hx)
end
set_option maxRecDepth 100000 in
theorem allP_u2 {w : World} {pb mf mc : Nat} {f : Int → Option Int} {c : Int → Option (List Int)} (h : IsP w pb mf mc f c) :
    Calls Try.prog 17 #[.pointer (some ⟨pb, 0, none⟩)] w fun e w' => ∃ vb qb nf nc, e = .returned (.func (.func 26) #[] #[.pointer (some ⟨vb, 0, none⟩)]) ∧
      w'.heap[vb]? = some (.cells #[.pointer (some ⟨qb, 0, none⟩)] 24 (0, 0)) ∧ IsP w' qb nf nc f c ∧ w.heap.size ≤ nf ∧ w.heap.size ≤ nc ∧ Below w.heap.size w w' := by
  have Hc := Lib.hid (copyP_u h)
  clear h
  go_enter Try.func17, Try.ntmps17
  go_wp2_with fail
  refine Hc.out.mono ?_
  rintro e w1 ⟨qb, nf, nc, rfl, hP, n1, n2, _, hB⟩
  have HP := Lib.hid hP; have HB := Lib.hid hB
  clear hP hB
  go_wp2_with fail
  go_ret
  have hB2 : Below w1.heap.size w1 (w1.alloc (.cells #[.pointer (some ⟨qb, 0, none⟩)] 24)) := (Below.refl _ w1).alloc (Nat.le_refl _) _
  exact ⟨w1.heap.size, qb, nf, nc, rfl, World.alloc_heap_new _ _, HP.out.below hB2, n1, n2, HB.out.trans (hB2.mono HB.out.size)⟩

set_option maxRecDepth 100000 in
set_option maxHeartbeats 4000000 in
theorem all1_seq2 {wt : World} {vb pb mf mc B ib : Nat} {ibv : Value} {f : Int → Option Int} {c : Int → Option (List Int)} {J : Jn} (hbx : wt.heap[vb]? = some (.cells #[.pointer (some ⟨pb, 0, none⟩)] 24 (0, 0)))
    (hP : IsP wt pb mf mc f c) (hI : PInv J f c) (hJ : ∀ p ∈ J, is32 p.1 ∧ is32 p.2) (hJl : J.length ≤ 100) {K : List Int} (hK : Srt K) (hKm : ∀ x, x ∈ K ↔ IsKey J x) (hib : B ≤ ib) (hlt : vb < B ∧ pb < B ∧ mf < B ∧ mc < B) (hbi : Boxed wt ib 3 ibv) :
    SeqY Try.prog 26 #[.pointer (some ⟨vb, 0, none⟩)] (fun x : Int × Value => #[.int .u32 x.1, x.2]) (KpI B ib)
      (fun pre x W => pre.map (·.1) ++ [x.1] <+: K ∧ ∃ L, OwnU 0 W x.2 L ∧ ClL J x.1 L) (fun xs => xs.map (·.1) = K) wt (ib + 1) := by
  intro l J0 W hN hW hJ0 hY h0
  have HP := Lib.hid hP; have HI := Lib.hid hI; have HJ := Lib.hid hJ; have HK := Lib.hid hK; have HKm := Lib.hid hKm; have HW := Lib.hid hW; have HJ0 := Lib.hid hJ0; have HY := Lib.hid hY; have H0 := Lib.hid h0
  have cells : ∀ V : World, V.heap[vb]? = wt.heap[vb]? → IsP V pb mf mc f c → V.cell? ⟨vb, 0, none⟩ = some (.pointer (some ⟨pb, 0, none⟩)) ∧ V.cell? ⟨pb, 1, none⟩ = some (.map (some mc)) := fun V hV hp => by
    refine ⟨?_, hp.cells.2⟩
    unfold World.cell?
    rw [hV.trans hbx]
    rfl
  have Cells := Lib.hid cells
  obtain ⟨c0, c1⟩ := cells W (hW.block vb (lt_of_heap hbx)) (hP.below hW)
  have Hbx := Lib.hid hbx; have Hlt := Lib.hid hlt; have Hbi := Lib.hid hbi
  obtain ⟨cv, m1, m2, m3⟩ := hP.cl
  have HM := Lib.hid (m1.stay (hW.block mc m1.lt))
  have hcv : ∀ x, is32 x → (cv x ≠ none ↔ x ∈ K) := fun x hx => by
    rw [hKm]
    show _ ↔ (_ ∧ _)
    rw [← hI.key]
    cases hc : c x with
    | none => simp [m2 x hx hc]
    | some L => obtain ⟨v, e1, _⟩ := m3 x L hx hc; simp [e1]
  have Hcv := Lib.hid hcv
  have hKl : K.length ≤ 200 := by
    have := List.Nodup.length_le_of_subset hK.nodup (l₂ := nums J) (fun x hx => ((hKm x).1 hx).nums)
    rw [nums_len] at this
    omega
  have hK32 : ∀ x ∈ K, is32 x ∧ x ≠ 0 := fun x hx => by
    have h1 := (hKm x).1 hx
    refine ⟨nums_32 hJ h1.nums, ?_⟩
    obtain ⟨_, b, hb, hc⟩ := h1
    exact (hc.ne_zero (Ne.symm hb)).1
  have HK32 := Lib.hid hK32
  clear hP hI hJ hK hKm hW hJ0 hY h0 cells m1 m2 m3 hcv hK32 hbx hlt hbi
  have hfn : ∀ k, Fence.wide.fn k := fun _ => trivial
  refine callsIn_of_wp Try.func26 rfl trivial ?_ rfl
  simp only [Try.ntmps26, List.size_toArray, List.length_cons, List.length_nil, Nat.reduceAdd, Nat.reduceSub, Array.replicate_succ, Array.replicate_zero, List.push_toArray, List.append_toArray, List.nil_append, List.cons_append]
  gi_wp2_with (gi_at_call 27; refine (callsIn_wide.2 (keys_any mc W)).mono ?_; rintro e w1 ⟨rfl, rfl⟩)
  have hb1 : Below W.heap.size W (W.alloc (.cells #[.map (some mc)] 46)) := (Below.refl _ W).alloc (Nat.le_refl _) _
  have hz1 : (W.alloc (.cells #[.map (some mc)] 46)).heap.size = W.heap.size + 1 := by simp
  have hst := keys_stops 8 W.heap.size mc 250 cv (fun ys hn hy => by
    have := List.Nodup.length_le_of_subset hn (l₂ := K) (fun x hx => (Hcv.out x (hy x hx).1).1 (hy x hx).2)
    omega) (W.alloc (.cells #[.map (some mc)] 46)) (by omega) (Boxed.new W 46 (.map (some mc))).cell (HM.out.stay (hb1.block mc HM.out.lt))
  have hsl : ∀ ss : List Int, (ss.Nodup ∧ (∀ x ∈ ss, is32 x) ∧ ∀ x, is32 x → (x ∈ ss ↔ cv x ≠ none)) → srt ss = K := fun ss ⟨h1, h2, h3⟩ => by
    refine (srt_srt h1).ext HK.out fun x => ?_
    rw [(srt_perm ss).mem_iff]
    constructor
    · intro hx; exact (Hcv.out x (h2 x hx)).1 ((h3 x (h2 x hx)).1 hx)
    · intro hx; exact (h3 x (HK32.out x hx).1).2 ((Hcv.out x (HK32.out x hx).1).2 hx)
  have hso := sorted_any (gf := 32) (lb := #[.pointer (some ⟨W.heap.size, 0, none⟩)]) (by omega) (enters_of Try.func32 (by kernel_rfl) rfl) (fun ss hs => by
    have := hsl ss hs
    rw [← srt_len ss, this]; omega) hst
  refine (callsIn_wide.2 hso).mono ?_
  rintro e w2 ⟨v, ss, rfl, hss, hO, hB⟩
  rw [hsl ss hss] at hO
  have hBW : Below W.heap.size W w2 := hb1.trans (hB.mono (by omega))
  have hlow2 : Below wt.heap.size wt w2 := HW.out.trans (hBW.mono HW.out.size)
  rw [hz1] at hO
  have hj2 := HJ0.out [] W w2 H0.out hBW
  obtain ⟨sa, cap, rfl, _, _, _⟩ := hO.u
  obtain ⟨n, hn⟩ : ∃ n, K.length = n := ⟨_, rfl⟩
  rw [hn] at hO hKl ⊢
  have HO := Lib.hid hO; have Hlow2 := Lib.hid hlow2; have Hj2 := Lib.hid hj2; have Hn := Lib.hid hn
  have hsz2 : W.heap.size ≤ w2.heap.size := hBW.size
  clear hst hsl hso hss hO hB hlow2 hBW hj2 hn hb1 c0 c1
  gi_wp2
  gi_loopw [14] (fun u wr => ∃ (k : Nat) (pre : List (Int × Value)), k ≤ n ∧ u = .int .i64 k ∧ pre.map (·.1) = K.take k ∧ J0 pre wr ∧ KpI B ib w2 wr) (fun u _ => n - (intOf u).toNat)
  case atStart => exact ⟨0, [], by omega, rfl, rfl, Hj2.out, KpI.refl _ _ _⟩
  case round =>
    obtain ⟨k, pre, hk, rfl, hpre, hJw, hKp⟩ := hrel
    have HPre := Lib.hid hpre; have HJw := Lib.hid hJw; have HKp := Lib.hid hKp
    clear hpre hJw hKp
    by_cases hkn : k < n
    · have hd : decide ((k : Int) < (n : Int)) = true := by simp; omega
      have hkK : k < K.length := by rw [Hn.out]; exact hkn
      have hOr := HO.out.kpi HKp.out (by omega)
      obtain ⟨g, rfl, _, cg⟩ := hOr.at' k hkK
      have hPr : IsP wr pb mf mc f c := (HP.out.below Hlow2.out).kpi HKp.out Hlt.out.2.1 Hlt.out.2.2.1 Hlt.out.2.2.2 hib ((Hlow2.out.block ib (lt_of_heap Hbi.out)).trans Hbi.out)
      have hvr : wr.heap[vb]? = wt.heap[vb]? := by
        have h2 := (Hlow2.out.block vb (lt_of_heap Hbx.out)).trans Hbx.out
        exact (HKp.out.2 vb _ h2 (by have := Hlt.out.1; omega) (.inl Hlt.out.1)).trans Hbx.out.symm
      obtain ⟨c0, c1⟩ := Cells.out wr hvr hPr
      obtain ⟨r, hr⟩ : ∃ r, K[k] = r := ⟨_, rfl⟩
      rw [hr] at cg
      have hrK : r ∈ K := by rw [← hr]; exact List.getElem_mem _
      have hpx : pre.map (·.1) ++ [r] = K.take (k + 1) := by rw [HPre.out, List.take_succ_eq_append_getElem hkK, hr]
      have hq := clique_any hPr HI.out HJ.out hJl (HK32.out r hrK).1
      have Hq := Lib.hid hq; have HrK := Lib.hid hrK; have Hpx := Lib.hid hpx
      clear hOr hPr hvr hr hrK hpx hq
      gi_wp2_with (gi_at_call 11; refine (callsIn_wide.2 Hq.out).mono ?_; rintro e w4 ⟨v4, L4, rfl, hO4, hL4, hB4⟩; obtain ⟨s4, cap4, rfl, _⟩ := hO4.u; obtain ⟨fn, tmps, assign, body, hy, hR⟩ := HY.out pre (r, .slice s4 L4.length cap4) w4 (HJ0.out pre wr w4 HJw.out hB4) ⟨⟨K.drop (k + 1), by rw [Hpx.out, List.take_append_drop]⟩, L4, hO4.mono (Nat.zero_le _), hL4⟩; have HR := Lib.hid hR; have HB4 := Lib.hid hB4; clear hR hO4 hL4 hB4)
      refine HR.out.mono ?_
      rintro e W3 ⟨rfl, hJ3, hk3⟩
      have HJ3 := Lib.hid hJ3
      have Hk3 := Lib.hid (HKp.out.t ((KpI.below HB4.out).t hk3))
      clear hJ3 hk3
      gi_wp2
      go_roundw
      case rel => exact ⟨k + 1, _, by omega, by push_cast; rfl, by rw [List.map_append]; exact Hpx.out, HJ3.out, Hk3.out⟩
      case measure => simp [intOf]; omega
    · have hd : decide ((k : Int) < (n : Int)) = false := by simp; omega
      gi_wp2
      go_end0
      refine ⟨⟨_, rfl⟩, pre, ?_, HJw.out⟩
      rw [HPre.out]
      exact List.take_of_length_le (by rw [Hn.out]; omega)
end Go.Proofs.Ytpiciickgomggaa
