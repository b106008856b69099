/- Do a partition and a row of joins have the same cliques: walked. -/
import Derived.Test.YtpiciickgomggaaQ15
import Derived.Deep.LoopGhost
import Derived.Sort.CutIn
namespace Go.Proofs.Ytpiciickgomggaa
set_option maxRecDepth 100000
open Go.RowKit Go.Maps
set_option linter.unusedVariables false
set_option linter.unusedSimpArgs false
attribute [local go_sem] Oper.semAt_some

theorem two_blocks (w : World) (o0 o1 : Obj) : ∀ W, W = (w.alloc o0).alloc o1 → Below w.heap.size w W ∧ W.heap.size = w.heap.size + 2 ∧ W.heap[w.heap.size]? = some o0 ∧ W.heap[w.heap.size + 1]? = some o1 := by
  rintro W rfl
  have h1 : (w.alloc o0).heap.size = w.heap.size + 1 := by simp
  refine ⟨((Below.refl _ w).alloc (Nat.le_refl _) _).alloc (by omega) _, by simp, ?_, ?_⟩
  · exact (Below.heap_alloc _ _ _ (by omega)).trans (World.alloc_heap_new w o0)
  · have := World.alloc_heap_new (w.alloc o0) o1
    rwa [h1] at this
/-- a frame of which five slots are known -/
theorem frame_fix (T : Array Value) (ds : List Deferred) (f3 f4 f8 f11 f12 : Value) (h : T = #[T.toList[0]?.getD undef, T.toList[1]?.getD undef, T.toList[2]?.getD undef, f3, f4, T.toList[5]?.getD undef, T.toList[6]?.getD undef, T.toList[7]?.getD undef, f8, T.toList[9]?.getD undef, T.toList[10]?.getD undef, f11, f12, T.toList[13]?.getD undef, T.toList[14]?.getD undef, T.toList[15]?.getD undef, T.toList[16]?.getD undef, T.toList[17]?.getD undef, T.toList[18]?.getD undef, T.toList[19]?.getD undef, T.toList[20]?.getD undef, T.toList[21]?.getD undef, T.toList[22]?.getD undef, T.toList[23]?.getD undef, T.toList[24]?.getD undef, T.toList[25]?.getD undef, T.toList[26]?.getD undef, T.toList[27]?.getD undef, T.toList[28]?.getD undef, T.toList[29]?.getD undef, T.toList[30]?.getD undef, T.toList[31]?.getD undef, T.toList[32]?.getD undef, T.toList[33]?.getD undef, T.toList[34]?.getD undef, T.toList[35]?.getD undef, T.toList[36]?.getD undef, T.toList[37]?.getD undef, T.toList[38]?.getD undef, T.toList[39]?.getD undef, T.toList[40]?.getD undef, T.toList[41]?.getD undef, T.toList[42]?.getD undef, T.toList[43]?.getD undef, T.toList[44]?.getD undef, T.toList[45]?.getD undef, T.toList[46]?.getD undef, T.toList[47]?.getD undef, T.toList[48]?.getD undef, T.toList[49]?.getD undef, T.toList[50]?.getD undef, T.toList[51]?.getD undef, T.toList[52]?.getD undef, T.toList[53]?.getD undef, T.toList[54]?.getD undef, T.toList[55]?.getD undef, T.toList[56]?.getD undef, T.toList[57]?.getD undef, T.toList[58]?.getD undef, T.toList[59]?.getD undef, T.toList[60]?.getD undef, T.toList[61]?.getD undef, T.toList[62]?.getD undef, T.toList[63]?.getD undef, T.toList[64]?.getD undef, T.toList[65]?.getD undef, T.toList[66]?.getD undef, T.toList[67]?.getD undef, T.toList[68]?.getD undef, T.toList[69]?.getD undef, T.toList[70]?.getD undef, T.toList[71]?.getD undef, T.toList[72]?.getD undef, T.toList[73]?.getD undef, T.toList[74]?.getD undef, T.toList[75]?.getD undef, T.toList[76]?.getD undef, T.toList[77]?.getD undef, T.toList[78]?.getD undef, T.toList[79]?.getD undef, T.toList[80]?.getD undef, T.toList[81]?.getD undef, T.toList[82]?.getD undef, T.toList[83]?.getD undef, T.toList[84]?.getD undef, T.toList[85]?.getD undef, T.toList[86]?.getD undef, T.toList[87]?.getD undef, T.toList[88]?.getD undef, T.toList[89]?.getD undef, T.toList[90]?.getD undef, T.toList[91]?.getD undef, T.toList[92]?.getD undef, T.toList[93]?.getD undef, T.toList[94]?.getD undef, T.toList[95]?.getD undef, T.toList[96]?.getD undef, T.toList[97]?.getD undef, T.toList[98]?.getD undef, T.toList[99]?.getD undef, T.toList[100]?.getD undef, T.toList[101]?.getD undef, T.toList[102]?.getD undef, T.toList[103]?.getD undef, T.toList[104]?.getD undef, T.toList[105]?.getD undef, T.toList[106]?.getD undef, T.toList[107]?.getD undef, T.toList[108]?.getD undef, T.toList[109]?.getD undef, T.toList[110]?.getD undef, T.toList[111]?.getD undef, T.toList[112]?.getD undef, T.toList[113]?.getD undef, T.toList[114]?.getD undef, T.toList[115]?.getD undef, T.toList[116]?.getD undef, T.toList[117]?.getD undef, T.toList[118]?.getD undef, T.toList[119]?.getD undef, T.toList[120]?.getD undef, T.toList[121]?.getD undef, T.toList[122]?.getD undef, T.toList[123]?.getD undef, T.toList[124]?.getD undef, T.toList[125]?.getD undef, T.toList[126]?.getD undef, T.toList[127]?.getD undef, T.toList[128]?.getD undef, T.toList[129]?.getD undef, T.toList[130]?.getD undef, T.toList[131]?.getD undef, T.toList[132]?.getD undef]) : ∃ s : Nat → Value, ({ tmps := T, defers := ds } : Act) = { tmps := #[s 0, s 1, s 2, f3, f4, s 5, s 6, s 7, f8, s 9, s 10, f11, f12, s 13, s 14, s 15, s 16, s 17, s 18, s 19, s 20, s 21, s 22, s 23, s 24, s 25, s 26, s 27, s 28, s 29, s 30, s 31, s 32, s 33, s 34, s 35, s 36, s 37, s 38, s 39, s 40, s 41, s 42, s 43, s 44, s 45, s 46, s 47, s 48, s 49, s 50, s 51, s 52, s 53, s 54, s 55, s 56, s 57, s 58, s 59, s 60, s 61, s 62, s 63, s 64, s 65, s 66, s 67, s 68, s 69, s 70, s 71, s 72, s 73, s 74, s 75, s 76, s 77, s 78, s 79, s 80, s 81, s 82, s 83, s 84, s 85, s 86, s 87, s 88, s 89, s 90, s 91, s 92, s 93, s 94, s 95, s 96, s 97, s 98, s 99, s 100, s 101, s 102, s 103, s 104, s 105, s 106, s 107, s 108, s 109, s 110, s 111, s 112, s 113, s 114, s 115, s 116, s 117, s 118, s 119, s 120, s 121, s 122, s 123, s 124, s 125, s 126, s 127, s 128, s 129, s 130, s 131, s 132], defers := ds } :=
  ⟨fun i => T.toList[i]?.getD undef, congrArg (fun t => Act.mk t ds) h⟩
set_option maxRecDepth 100000 in
set_option maxHeartbeats 40000000 in
theorem same_u {w : World} {pb mf mc : Nat} {f : Int → Option Int} {c : Int → Option (List Int)} {J : Jn} {v : Value} (h : IsP w pb mf mc f c) (hv : OwnJ 0 w v J) (hI : PInv J f c) (hE : Eff J) (hJ : ∀ p ∈ J, is32 p.1 ∧ is32 p.2) (hJl : J.length ≤ 100) :
    Calls Try.prog 15 #[.pointer (some ⟨pb, 0, none⟩), v] w fun e w' => e = .returned (.bool true) ∧ Below w.heap.size w w' := by
  obtain ⟨ja, jcap, rfl, hIJ⟩ := hv.j
  obtain ⟨n, hn⟩ : ∃ n, J.length = n := ⟨_, rfl⟩
  obtain ⟨hA1, hA2, hA3, hA4⟩ := two_blocks w (.cells #[.slice ja n jcap] 36) (.cells #[.bool false] 4) _ rfl
  have H := Lib.hid h; have HI := Lib.hid hI; have HE := Lib.hid hE; have HJ := Lib.hid hJ; have HIJ := Lib.hid hIJ; have Hn := Lib.hid hn
  have HA1 := Lib.hid hA1; have HA2 := Lib.hid hA2; have HA3 := Lib.hid hA3; have HA4 := Lib.hid hA4
  have hz : ∀ p ∈ J, p.1 ≠ 0 ∧ p.2 ≠ 0 := fun p hp => ⟨(hE p hp).1, (hE p hp).2.1⟩
  have Hz := Lib.hid hz
  rw [hn] at hJl ⊢
  clear h hI hE hJ hIJ hn hA1 hA2 hA3 hA4 hv hz
  refine (callsIn_wide (n := 9)).1 ?_
  refine callsIn_of_wp_marks Try.func15 rfl trivial ?_ rfl
  refine wpIn_wide.2 ?_
  simp only [Try.ntmps15, List.size_toArray, List.length_cons, List.length_nil, Nat.reduceAdd, Nat.reduceSub, Array.replicate_succ, Array.replicate_zero, List.push_toArray, List.append_toArray, List.nil_append, List.cons_append]
  go_wp2_with fail
  generalize (w.alloc (.cells #[.slice ja n jcap] 36)).alloc (.cells #[.bool false] 4) = W2 at *
  have endE : ∀ (a : Act) (Ds : List Nat) (W : World), a.defers = Ds.map markOf → a.tmps[4]?.getD undef = .pointer (some ⟨w.heap.size + 1, 0, none⟩) → Ds.Nodup → (∀ D ∈ Ds, w.heap.size + 2 ≤ D ∧ W.heap[D]? = some (.deferred (some []))) →
      W.heap[w.heap.size + 1]? = some (.cells #[.bool true] 4 (0, 0)) → Below w.heap.size w W → bodyPostM Fence.wide 9 Try.prog Try.f15 (fun e w' => e = .returned (.bool true) ∧ Below w.heap.size w w') .ret a W := by
    intro a Ds W hd ht hnd hds hr hb
    show LeavesInM Fence.wide 9 Try.prog Try.f15 a.tmps _ a.defers .returning W
    rw [hd]
    refine leaves_marks (w.heap.size + 1) (w.heap.size + 2) (by omega) (fun w' hx1 hx2 => ?_) (by omega) Ds W hnd hds hr hb
    refine ⟨.bool true, ?_, rfl, hx2⟩
    have hres : Try.f15.results = #[.cell 4 4] := rfl
    have cx := (box_at hx1 rfl).1
    simp only [results, hres]
    simp [go_sem, ht, cx]
  have EndE := Lib.hid endE
  clear endE
  have c3s : ∀ V : World, Below W2.heap.size W2 V → V.cell? ⟨w.heap.size, 0, none⟩ = some (.slice ja n jcap) := fun V hV => (box_at ((hV.block _ (lt_of_heap HA3.out)).trans HA3.out) rfl).1
  have C3 := Lib.hid c3s
  clear c3s
  go_loopw [5, 6] (fun u5 u6 wr => ∃ (i : Nat) (all : List Int), i ≤ n ∧ u6 = .int .i64 i ∧ OwnU W2.heap.size wr u5 all ∧ Srt all ∧ (∀ x ∈ all, x ∈ nums J) ∧ (∀ j (h : j < J.length), j < i → J[j].1 ∈ all ∧ J[j].2 ∈ all) ∧ Below W2.heap.size W2 wr) (fun _ u _ => n - (intOf u).toNat)
  case atStart => exact ⟨0, [], by omega, rfl, World.ownsRow_nil _ _ _ _, by simp [Srt], by simp, fun j _ h => by omega, Below.refl _ _⟩
  case round =>
    rename World => w3
    obtain ⟨i, all, hi, rfl, hO, hS, hnm, hall, hB⟩ := hrel
    have HO := Lib.hid hO; have HS := Lib.hid hS; have Hnm := Lib.hid hnm; have Hall := Lib.hid hall; have HB := Lib.hid hB
    have c3 := C3.out w3 hB
    clear hO hS hnm hall hB
    by_cases hin : i < n
    · have hd : decide ((i : Int) < (n : Int)) = true := by simp; omega
      have hiJ : i < J.length := by have := Hn.out; omega
      obtain ⟨x, hx⟩ : ∃ x, J[i].1 = x := ⟨_, rfl⟩
      obtain ⟨y, hy⟩ : ∃ y, J[i].2 = y := ⟨_, rfl⟩
      have Hx := Lib.hid hx; have Hy := Lib.hid hy
      clear hx hy
      go_wp2_with fail
      go_loopw [5, 7] (fun u5 u7 wx => ∃ (k : Nat) (al : List Int), k ≤ 2 ∧ u7 = .int .i64 k ∧ OwnU W2.heap.size wx u5 al ∧ Srt al ∧ (∀ x ∈ al, x ∈ nums J) ∧ (∀ j (h : j < J.length), j < i → J[j].1 ∈ al ∧ J[j].2 ∈ al) ∧ (0 < k → x ∈ al) ∧ (1 < k → y ∈ al) ∧ Below W2.heap.size W2 wx) (fun _ u _ => 2 - (intOf u).toNat)
      case atStart => exact ⟨0, all, by omega, rfl, HO.out, HS.out, Hnm.out, Hall.out, fun h => by omega, fun h => by omega, HB.out⟩
      case round =>
        rename World => w4
        obtain ⟨k, al, hk, rfl, hO, hS, hnm, hall, hk0, hk1, hB⟩ := hrel
        have hlen := List.Nodup.length_le_of_subset hS.nodup (l₂ := nums J) hnm
        rw [nums_len, Hn.out] at hlen
        have HO1 := Lib.hid hO; have HS1 := Lib.hid hS; have Hnm1 := Lib.hid hnm; have Hall1 := Lib.hid hall; have Hk0 := Lib.hid hk0; have Hk1 := Lib.hid hk1; have HB1 := Lib.hid hB
        have c4 := C3.out w4 hB
        clear hO hS hnm hall hk0 hk1 hB
        by_cases hk2 : k < 2
        · have hd2 : decide ((k : Int) < 2) = true := by simp; omega
          obtain ⟨b, off, rfl, _, e1, e2⟩ := HIJ.out.below (HA1.out.trans (HB1.out.mono HA1.out.size)) i hiJ
          have hcz : ∃ z, z ∈ nums J ∧ w4.cell? ⟨b, off + i * 2 + k, none⟩ = some (.int .u32 z) ∧ (k = 0 → z = x) ∧ (k = 1 → z = y) := by
            rcases (show k = 0 ∨ k = 1 by omega) with e | e <;> subst e
            · exact ⟨_, List.mem_append_left _ (List.mem_map.2 ⟨_, List.getElem_mem hiJ, rfl⟩), e1, fun _ => Hx.out, fun h => by omega⟩
            · exact ⟨_, List.mem_append_right _ (List.mem_map.2 ⟨_, List.getElem_mem hiJ, rfl⟩), e2, fun h => by omega, fun _ => Hy.out⟩
          obtain ⟨z, hzn, cz, hz0, hz1⟩ := hcz
          obtain ⟨a5, cap5, rfl, _, _, hU⟩ := HO1.out.u
          have HU := Lib.hid hU; have Hzn := Lib.hid hzn; have Hz0 := Lib.hid hz0; have Hz1 := Lib.hid hz1
          clear hU hzn hz0 hz1 e1 e2
          by_cases hm : z ∈ al
          · have hc := in_u HU.out cap5 (by omega) z
            rw [decide_eq_true hm] at hc
            have Hm := Lib.hid hm
            clear hm
            go_wp2_with fail
            refine hc.mono ?_
            rintro e w5 ⟨rfl, rfl⟩
            go_wp2_with fail
            go_roundw
            case rel => exact ⟨k + 1, al, by omega, by push_cast; rfl, HO1.out, HS1.out, Hnm1.out, Hall1.out, fun _ => (by
              by_cases e : k = 0
              · rw [← Hz0.out e]; exact Hm.out
              · exact Hk0.out (by omega)), fun h => (by
              by_cases e : k = 1
              · rw [← Hz1.out e]; exact Hm.out
              · exact Hk1.out (by omega)), HB1.out⟩
            case measure => simp [intOf]; omega
          · have hc := in_u HU.out cap5 (by omega) z
            rw [decide_eq_false hm] at hc
            have hcp := put_u HU.out cap5 (by omega) z
            have Hp := Lib.hid (putGo_srt HS1.out hm)
            have Hcp := Lib.hid hcp
            clear hm hcp
            go_wp2_with fail
            refine hc.mono ?_
            rintro e w5 ⟨rfl, rfl⟩
            go_wp2_with fail
            refine Hcp.out.mono ?_
            rintro e w6 ⟨v6, rfl, hO6, hB6⟩
            have HO6 := Lib.hid (hO6.mono HB1.out.size); have HB6 := Lib.hid (HB1.out.trans (hB6.mono HB1.out.size))
            obtain ⟨a6, cap6, rfl, _⟩ := hO6.u
            clear hO6 hB6
            go_wp2_with fail
            go_roundw
            case rel => exact ⟨k + 1, putGo z false al, by omega, by push_cast; rfl, HO6.out, Hp.out, fun q hq => (by
                rcases (putGo_mem al).1 hq with h | rfl
                · exact Hnm1.out q h
                · exact Hzn.out), fun j hj h => ⟨(putGo_mem al).2 (.inl (Hall1.out j hj h).1), (putGo_mem al).2 (.inl (Hall1.out j hj h).2)⟩, fun _ => (by
              by_cases e : k = 0
              · rw [← Hz0.out e]; exact (putGo_mem al).2 (.inr rfl)
              · exact (putGo_mem al).2 (.inl (Hk0.out (by omega)))), fun h => (by
              by_cases e : k = 1
              · rw [← Hz1.out e]; exact (putGo_mem al).2 (.inr rfl)
              · exact (putGo_mem al).2 (.inl (Hk1.out (by omega)))), HB6.out⟩
            case measure => simp [intOf]; omega
        · have hd2 : decide ((k : Int) < 2) = false := by simp; omega
          go_wp2_with fail
          go_roundw
          case rel => exact ⟨i + 1, al, by omega, by push_cast; rfl, HO1.out, HS1.out, Hnm1.out, fun j hj h => (by
            rcases Nat.lt_succ_iff_lt_or_eq.1 h with h | rfl
            · exact Hall1.out j hj h
            · rw [Hx.out, Hy.out]; exact ⟨Hk0.out (by omega), Hk1.out (by omega)⟩), HB1.out⟩
          case measure => simp [intOf]; omega
    · have hd : decide ((i : Int) < (n : Int)) = false := by simp; omega
      have hall : ∀ x, x ∈ all ↔ x ∈ nums J := fun x => ⟨Hnm.out x, fun hx => by
        have hln := Hn.out
        rcases List.mem_append.1 hx with hx | hx
        · obtain ⟨p, hp, rfl⟩ := List.mem_map.1 hx
          obtain ⟨j, hj, rfl⟩ := List.getElem_of_mem hp
          exact (Hall.out j hj (by omega)).1
        · obtain ⟨p, hp, rfl⟩ := List.mem_map.1 hx
          obtain ⟨j, hj, rfl⟩ := List.getElem_of_mem hp
          exact (Hall.out j hj (by omega)).2⟩
      have HA := Lib.hid hall
      clear hall
      obtain ⟨s5, cap5, rfl, _, _, hU5⟩ := HO.out.u
      obtain ⟨m, hm⟩ : ∃ m, all.length = m := ⟨_, rfl⟩
      rw [hm]
      have hml : m ≤ 2 * n := by
        have := List.Nodup.length_le_of_subset HS.out.nodup (l₂ := nums J) Hnm.out
        rw [nums_len, Hn.out] at this
        omega
      have HU5 := Lib.hid hU5; have Hm := Lib.hid hm
      have Hbw := Lib.hid (HA1.out.trans (HB.out.mono HA1.out.size))
      have hB3 : Below w3.heap.size w3 (w3.alloc (.cells #[.slice none 0 0] 32)) := (Below.refl _ w3).alloc (Nat.le_refl _) _
      have hX3 := Boxed.new w3 32 (.slice none 0 0)
      have HB3 := Lib.hid hB3; have HX3 := Lib.hid hX3
      have hcl : ∀ V : World, Below w.heap.size w V → ∀ a, a ≠ 0 → Calls Try.prog 14 #[.slice ja n jcap, .int .u32 a] V fun e w' => ∃ v L, e = .returned v ∧ OwnU V.heap.size w' v L ∧ IsCl J a L ∧ Below V.heap.size V w' := fun V hV a ha => by
        have := cliqueR_u (HIJ.out.below hV) jcap (by have := Hn.out; omega) Hz.out a ha
        rwa [Hn.out] at this
      have HCL := Lib.hid hcl
      clear hU5 hm hB3 hX3 hcl
      go_wp2_with fail
      generalize w3.alloc (.cells #[.slice none 0 0] 32) = W3 at *
      obtain ⟨b8, hb8⟩ : ∃ b8, w3.heap.size = b8 := ⟨_, rfl⟩
      rw [hb8]
      rw [hb8] at HX3 HB3
      have Hb8 := Lib.hid hb8
      clear hb8
      go_loopw [9] (fun u9 wr => ∃ (i : Nat) (F : List Int) (vF : Value), i ≤ m ∧ u9 = .int .i64 i ∧ Boxed wr b8 32 vF ∧ OwnU b8 wr vF F ∧ Srt F ∧ (∀ x, x ∈ F ↔ x ∈ all.take i ∧ IsKey J x) ∧ Below b8 w3 wr) (fun u _ => m - (intOf u).toNat)
      case atStart => exact ⟨0, [], _, by omega, rfl, HX3.out, World.ownsRow_nil _ _ _ _, by simp [Srt], by simp, HB3.out⟩
      case round =>
        rename World => w10
        obtain ⟨i, F, vF, hi, rfl, hbx, hO, hS, hF, hB⟩ := hrel
        have HBx := Lib.hid hbx; have HOF := Lib.hid hO; have HSF := Lib.hid hS; have HF := Lib.hid hF; have HB10 := Lib.hid hB
        have hb10 : Below w.heap.size w w10 := Hbw.out.trans (hB.mono (by rw [← Hb8.out]; exact Hbw.out.size))
        have Hb10 := Lib.hid hb10
        have c3 := C3.out w10 (HB.out.trans (hB.mono (by rw [← Hb8.out]; exact HB.out.size)))
        clear hbx hO hS hF hB hb10
        by_cases him : i < m
        · have hd : decide ((i : Int) < (m : Int)) = true := by simp; omega
          have him2 : i < all.length := by rw [Hm.out]; exact him
          have hU10 := HU5.out.below (show Below w3.heap.size w3 w10 by rw [Hb8.out]; exact HB10.out)
          obtain ⟨g5, rfl, _, ca⟩ := hU10 i him2
          obtain ⟨a, ha⟩ : ∃ a, all[i] = a := ⟨_, rfl⟩
          rw [ha] at ca
          have han : a ∈ nums J := (HA.out a).1 (by rw [← ha]; exact List.getElem_mem _)
          obtain ⟨ha0, hao⟩ := HE.out.other han
          have Ha := Lib.hid ha; have Han := Lib.hid han; have Ha0 := Lib.hid ha0; have Hao := Lib.hid hao; have HU10 := Lib.hid hU10
          clear ha han ha0 hao hU10
          go_wp2_with fail
          have caK := ca
          have c3 : w10.drew.cell? ⟨w.heap.size, 0, none⟩ = some (.slice ja n jcap) := c3
          have ca : w10.drew.cell? ⟨g5, i, none⟩ = some (.int .u32 a) := ca
          obtain ⟨S14, hSe⟩ : ∃ S : Array Bool → World → Prop, S = fun _ w' => Below w10.drew.heap.size w10.drew w' := ⟨_, rfl⟩
          have hdrop : ∀ i : Nat, ∀ L w', S14 (L.setIfInBounds i true) w' → S14 L w' := by
            intro i L w' h; rw [hSe] at h ⊢; exact h
          have hS : ∀ L, S14 L w10.drew := by intro L; rw [hSe]; exact Below.refl _ _
          have hSo : ∀ {L w'}, S14 L w' → Below w10.drew.heap.size w10.drew w' := by intro L w' h; rw [hSe] at h; exact h
          have hSi : ∀ {w'}, Below w10.drew.heap.size w10.drew w' → ∀ L, S14 L w' := by intro w' h L; rw [hSe]; exact h
          clear hSe
          refine wp_region_LN S14 7 #[false, false, false, false, false, false, false] (by kernel_rfl) (by kernel_rfl) rfl ?_
          obtain ⟨X14, hX14⟩ : ∃ X14, X14 = w10.drew := ⟨_, rfl⟩
          rw [← hX14] at c3 ca hSo hS hSi ⊢
          have HX14 := Lib.hid hX14
          clear hX14
          refine WA.take (i := 0) (v := .slice ja n jcap) rfl (by kernel_rfl) (by kernel_rfl) (by kernel_rfl) (fun _ _ _ h => h) (hdrop 0) (Or.inl ⟨by rfl, ?_⟩) (hS _) ?_
          · rintro w' ⟨L, hL, hSw, hun⟩
            have hbw := hSo hSw
            have c3 := cell_later hbw c3
            clear hbw
            go_simp
          simp only [List.getElem_toArray, List.getElem_cons_zero, List.getElem_cons_succ, Act.put, List.setIfInBounds_toArray, List.set_cons_zero, List.set_cons_succ]
          refine WA.take (i := 1) (v := .slice (some ⟨g5, 0, none⟩) m cap5) rfl (by kernel_rfl) (by kernel_rfl) (by kernel_rfl) (fun _ _ _ h => h) (hdrop 1) (Or.inl ⟨by rfl, ?_⟩) (hS _) ?_
          · rintro w' ⟨L, hL, hSw, hun⟩
            go_simp
          simp only [List.getElem_toArray, List.getElem_cons_zero, List.getElem_cons_succ, Act.put, List.setIfInBounds_toArray, List.set_cons_zero, List.set_cons_succ]
          refine WA.take (i := 2) (v := .int .i64 ((i : Nat) : Int)) rfl (by kernel_rfl) (by kernel_rfl) (by kernel_rfl) (fun _ _ _ h => h) (hdrop 2) (Or.inl ⟨by rfl, ?_⟩) (hS _) ?_
          · rintro w' ⟨L, hL, hSw, hun⟩
            go_simp
          simp only [List.getElem_toArray, List.getElem_cons_zero, List.getElem_cons_succ, Act.put, List.setIfInBounds_toArray, List.set_cons_zero, List.set_cons_succ]
          refine WA.take (i := 3) (v := .pointer (some ⟨g5, i, none⟩)) rfl (by kernel_rfl) (by kernel_rfl) (by kernel_rfl) (fun _ _ _ h => h) (hdrop 3) (Or.inl ⟨by rfl, ?_⟩) (hS _) ?_
          · rintro w' ⟨L, hL, hSw, hun⟩
            go_simp
          simp only [List.getElem_toArray, List.getElem_cons_zero, List.getElem_cons_succ, Act.put, List.setIfInBounds_toArray, List.set_cons_zero, List.set_cons_succ]
          refine WA.take (i := 4) (v := .int .u32 a) rfl (by kernel_rfl) (by kernel_rfl) (by kernel_rfl) (fun _ _ _ h => h) (hdrop 4) (Or.inl ⟨by rfl, ?_⟩) (hS _) ?_
          · rintro w' ⟨L, hL, hSw, hun⟩
            have hbw := hSo hSw
            have ca := cell_later hbw ca
            clear hbw
            go_simp
          simp only [List.getElem_toArray, List.getElem_cons_zero, List.getElem_cons_succ, Act.put, List.setIfInBounds_toArray, List.set_cons_zero, List.set_cons_succ]
          refine WA.one (i := 5) (by kernel_rfl) rfl (by rfl) (fun K hK => ?_)
          go_simp
          refine (HCL.out X14 (by rw [HX14.out]; exact Hb10.out.drew) a Ha0.out).mono ?_
          rintro e w11 ⟨v10, L, rfl, hO_, hI_, hB_⟩
          obtain ⟨s10, cap10, rfl, _, _, hU_⟩ := hO_.u
          have HU10b := Lib.hid hU_; have HL10 := Lib.hid hI_; have HB11 := Lib.hid hB_
          clear hO_ hI_ hB_ hU_
          refine hK _ _ (hSi HB11.out _) ?_
          clear hK
          try simp only [List.getElem_toArray, List.getElem_cons_zero, List.getElem_cons_succ, Act.put, List.setIfInBounds_toArray, List.set_cons_zero, List.set_cons_succ]
          refine WA.take (i := 6) (v := .slice s10 L.length cap10) rfl (by kernel_rfl) (by kernel_rfl) (by kernel_rfl) (fun _ _ _ h => h) (hdrop 6) (Or.inl ⟨by rfl, ?_⟩) (hSi HB11.out _) ?_
          · rintro w' ⟨L, hL, hSw, hun⟩
            go_simp
          simp only [List.getElem_toArray, List.getElem_cons_zero, List.getElem_cons_succ, Act.put, List.setIfInBounds_toArray, List.set_cons_zero, List.set_cons_succ]
          refine WA.done (by kernel_rfl) ?_ _
          refine Nrm.normal ?_
          clear hSo hS hSi hdrop c3 ca
          have ca := caK
          clear S14
          obtain ⟨r, L', hLe, hr1, hr2⟩ := cl_first HL10.out
          have hL1 : 0 < L.length := List.length_pos_of_mem HL10.out.self
          obtain ⟨g10, rfl, _, c10⟩ := HU10b.out 0 hL1
          have hLr : L[0] = r := by simp [hLe]
          rw [hLr] at c10
          have hb11 : Below w10.heap.size w10 w11 := by
            have h1 : Below w10.heap.size w10 X14 := by rw [HX14.out]; exact (Below.refl _ _).drew
            exact h1.trans (HB11.out.mono h1.size)
          have Hb11 := Lib.hid hb11
          have ca := cell_keep hb11 ca
          have hfr : findP f a = r := find_cl HI.out (show IsCl J a (r :: L') by rw [← hLe]; exact HL10.out)
          have a32 := nums_32 HJ.out Han.out
          have HLe := Lib.hid hLe; have Hr1 := Lib.hid hr1; have Hr2 := Lib.hid hr2; have Hfr := Lib.hid hfr; have A32 := Lib.hid a32
          have HP11 := Lib.hid (H.out.below ((Hb10.out.trans (hb11.mono Hb10.out.size)).drew))
          clear hLe hr1 hr2 hLr hb11 hfr a32
          go_wp2_with fail
          have caK := ca
          have c10K := c10
          have ca : w11.drew.cell? ⟨g5, i, none⟩ = some (.int .u32 a) := ca
          have c10 : w11.drew.cell? ⟨g10, 0, none⟩ = some (.int .u32 r) := c10
          obtain ⟨S15, hSe⟩ : ∃ S : Array Bool → World → Prop, S = fun _ w' => Below w11.drew.heap.size w11.drew w' := ⟨_, rfl⟩
          have hdrop : ∀ i : Nat, ∀ L w', S15 (L.setIfInBounds i true) w' → S15 L w' := by
            intro i L w' h; rw [hSe] at h ⊢; exact h
          have hS : ∀ L, S15 L w11.drew := by intro L; rw [hSe]; exact Below.refl _ _
          have hSo : ∀ {L w'}, S15 L w' → Below w11.drew.heap.size w11.drew w' := by intro L w' h; rw [hSe] at h; exact h
          have hSi : ∀ {w'}, Below w11.drew.heap.size w11.drew w' → ∀ L, S15 L w' := by intro w' h L; rw [hSe]; exact h
          clear hSe
          refine wp_region_LN S15 21 #[false, false, false, false, false, false, false, false, false, false, false, false, false, false, false, false, false, false, false, false, false] (by kernel_rfl) (by kernel_rfl) rfl ?_
          obtain ⟨X15, hX15⟩ : ∃ X15, X15 = w11.drew := ⟨_, rfl⟩
          rw [← hX15] at ca c10 hSo hS hSi ⊢
          have HX15 := Lib.hid hX15
          clear hX15
          refine WA.take (i := 0) (v := .pointer (some ⟨pb, 0, none⟩)) rfl (by kernel_rfl) (by kernel_rfl) (by kernel_rfl) (fun _ _ _ h => h) (hdrop 0) (Or.inl ⟨by rfl, ?_⟩) (hS _) ?_
          · rintro w' ⟨L, hL, hSw, hun⟩
            go_simp
          simp only [List.getElem_toArray, List.getElem_cons_zero, List.getElem_cons_succ, Act.put, List.setIfInBounds_toArray, List.set_cons_zero, List.set_cons_succ]
          refine WA.take (i := 1) (v := .slice (some ⟨g5, 0, none⟩) m cap5) rfl (by kernel_rfl) (by kernel_rfl) (by kernel_rfl) (fun _ _ _ h => h) (hdrop 1) (Or.inl ⟨by rfl, ?_⟩) (hS _) ?_
          · rintro w' ⟨L, hL, hSw, hun⟩
            go_simp
          simp only [List.getElem_toArray, List.getElem_cons_zero, List.getElem_cons_succ, Act.put, List.setIfInBounds_toArray, List.set_cons_zero, List.set_cons_succ]
          refine WA.take (i := 2) (v := .int .i64 ((i : Nat) : Int)) rfl (by kernel_rfl) (by kernel_rfl) (by kernel_rfl) (fun _ _ _ h => h) (hdrop 2) (Or.inl ⟨by rfl, ?_⟩) (hS _) ?_
          · rintro w' ⟨L, hL, hSw, hun⟩
            go_simp
          simp only [List.getElem_toArray, List.getElem_cons_zero, List.getElem_cons_succ, Act.put, List.setIfInBounds_toArray, List.set_cons_zero, List.set_cons_succ]
          refine WA.take (i := 3) (v := .pointer (some ⟨g5, i, none⟩)) rfl (by kernel_rfl) (by kernel_rfl) (by kernel_rfl) (fun _ _ _ h => h) (hdrop 3) (Or.inl ⟨by rfl, ?_⟩) (hS _) ?_
          · rintro w' ⟨L, hL, hSw, hun⟩
            go_simp
          simp only [List.getElem_toArray, List.getElem_cons_zero, List.getElem_cons_succ, Act.put, List.setIfInBounds_toArray, List.set_cons_zero, List.set_cons_succ]
          refine WA.take (i := 4) (v := .int .u32 a) rfl (by kernel_rfl) (by kernel_rfl) (by kernel_rfl) (fun _ _ _ h => h) (hdrop 4) (Or.inl ⟨by rfl, ?_⟩) (hS _) ?_
          · rintro w' ⟨L, hL, hSw, hun⟩
            have hbw := hSo hSw
            have ca := cell_later hbw ca
            clear hbw
            go_simp
          simp only [List.getElem_toArray, List.getElem_cons_zero, List.getElem_cons_succ, Act.put, List.setIfInBounds_toArray, List.set_cons_zero, List.set_cons_succ]
          refine WA.take (i := 6) (v := .slice (some ⟨g10, 0, none⟩) L.length cap10) rfl (by kernel_rfl) (by kernel_rfl) (by kernel_rfl) (fun _ _ _ h => h) (hdrop 6) (Or.inl ⟨by rfl, ?_⟩) (hS _) ?_
          · rintro w' ⟨L, hL, hSw, hun⟩
            go_simp
          simp only [List.getElem_toArray, List.getElem_cons_zero, List.getElem_cons_succ, Act.put, List.setIfInBounds_toArray, List.set_cons_zero, List.set_cons_succ]
          refine WA.one (i := 5) (by kernel_rfl) rfl (by rfl) (fun K hK => ?_)
          go_simp
          refine (clique_any (w := X15) (by rw [HX15.out]; exact HP11.out) HI.out HJ.out (by have := Hn.out; omega) A32.out).mono ?_
          rintro e w12 ⟨v12, L2, rfl, hO_, hL_, hB_⟩
          obtain ⟨s12, cap12, rfl, _, _, hU_⟩ := hO_.u
          have HU12 := Lib.hid hU_; have HL12 := Lib.hid hL_; have HB12 := Lib.hid hB_
          clear hO_ hL_ hB_ hU_
          refine hK _ _ (hSi HB12.out _) ?_
          clear hK
          try simp only [List.getElem_toArray, List.getElem_cons_zero, List.getElem_cons_succ, Act.put, List.setIfInBounds_toArray, List.set_cons_zero, List.set_cons_succ]
          refine WA.one (i := 7) (by kernel_rfl) rfl (by rfl) (fun K hK => ?_)
          go_simp
          have hLL : L2 = L := (HL12.out.2 Ha0.out).unique HL10.out
          refine (equal_u s12 (some ⟨g10, 0, none⟩) cap12 cap10 L2 L HU12.out ((show IsU X15 _ L by rw [HX15.out]; exact HU10b.out.drew).below HB12.out) (by have := HL12.out.len; have := Hn.out; omega)).mono ?_
          rintro e w14 ⟨rfl, hB_⟩
          have HB14 := Lib.hid hB_
          rw [decide_eq_true hLL]
          clear hB_ hLL
          refine hK _ _ (hSi (HB12.out.trans (HB14.out.mono HB12.out.size)) _) ?_
          clear hK
          try simp only [List.getElem_toArray, List.getElem_cons_zero, List.getElem_cons_succ, Act.put, List.setIfInBounds_toArray, List.set_cons_zero, List.set_cons_succ]
          refine WA.take (i := 8) (v := .bool false) rfl (by kernel_rfl) (by kernel_rfl) (by kernel_rfl) (fun _ _ _ h => h) (hdrop 8) (Or.inl ⟨by rfl, ?_⟩) (hSi (HB12.out.trans (HB14.out.mono HB12.out.size)) _) ?_
          · rintro w' ⟨L, hL, hSw, hun⟩
            go_simp
          simp only [List.getElem_toArray, List.getElem_cons_zero, List.getElem_cons_succ, Act.put, List.setIfInBounds_toArray, List.set_cons_zero, List.set_cons_succ]
          refine WA.take (i := 9) (v := .bool false) rfl (by kernel_rfl) (by kernel_rfl) (by kernel_rfl) (fun _ _ _ h => h) (hdrop 9) (Or.inl ⟨by rfl, ?_⟩) (hSi (HB12.out.trans (HB14.out.mono HB12.out.size)) _) ?_
          · rintro w' ⟨L, hL, hSw, hun⟩
            go_simp
          simp only [List.getElem_toArray, List.getElem_cons_zero, List.getElem_cons_succ, Act.put, List.setIfInBounds_toArray, List.set_cons_zero, List.set_cons_succ]
          refine WA.take (i := 10) (v := .pointer (some ⟨pb, 0, none⟩)) rfl (by kernel_rfl) (by kernel_rfl) (by kernel_rfl) (fun _ _ _ h => h) (hdrop 10) (Or.inl ⟨by rfl, ?_⟩) (hSi (HB12.out.trans (HB14.out.mono HB12.out.size)) _) ?_
          · rintro w' ⟨L, hL, hSw, hun⟩
            go_simp
          simp only [List.getElem_toArray, List.getElem_cons_zero, List.getElem_cons_succ, Act.put, List.setIfInBounds_toArray, List.set_cons_zero, List.set_cons_succ]
          refine WA.take (i := 11) (v := .slice (some ⟨g5, 0, none⟩) m cap5) rfl (by kernel_rfl) (by kernel_rfl) (by kernel_rfl) (fun _ _ _ h => h) (hdrop 11) (Or.inl ⟨by rfl, ?_⟩) (hSi (HB12.out.trans (HB14.out.mono HB12.out.size)) _) ?_
          · rintro w' ⟨L, hL, hSw, hun⟩
            go_simp
          simp only [List.getElem_toArray, List.getElem_cons_zero, List.getElem_cons_succ, Act.put, List.setIfInBounds_toArray, List.set_cons_zero, List.set_cons_succ]
          refine WA.take (i := 12) (v := .int .i64 ((i : Nat) : Int)) rfl (by kernel_rfl) (by kernel_rfl) (by kernel_rfl) (fun _ _ _ h => h) (hdrop 12) (Or.inl ⟨by rfl, ?_⟩) (hSi (HB12.out.trans (HB14.out.mono HB12.out.size)) _) ?_
          · rintro w' ⟨L, hL, hSw, hun⟩
            go_simp
          simp only [List.getElem_toArray, List.getElem_cons_zero, List.getElem_cons_succ, Act.put, List.setIfInBounds_toArray, List.set_cons_zero, List.set_cons_succ]
          refine WA.take (i := 13) (v := .pointer (some ⟨g5, i, none⟩)) rfl (by kernel_rfl) (by kernel_rfl) (by kernel_rfl) (fun _ _ _ h => h) (hdrop 13) (Or.inl ⟨by rfl, ?_⟩) (hSi (HB12.out.trans (HB14.out.mono HB12.out.size)) _) ?_
          · rintro w' ⟨L, hL, hSw, hun⟩
            go_simp
          simp only [List.getElem_toArray, List.getElem_cons_zero, List.getElem_cons_succ, Act.put, List.setIfInBounds_toArray, List.set_cons_zero, List.set_cons_succ]
          refine WA.take (i := 14) (v := .int .u32 a) rfl (by kernel_rfl) (by kernel_rfl) (by kernel_rfl) (fun _ _ _ h => h) (hdrop 14) (Or.inl ⟨by rfl, ?_⟩) (hSi (HB12.out.trans (HB14.out.mono HB12.out.size)) _) ?_
          · rintro w' ⟨L, hL, hSw, hun⟩
            have hbw := hSo hSw
            have ca := cell_later hbw ca
            clear hbw
            go_simp
          simp only [List.getElem_toArray, List.getElem_cons_zero, List.getElem_cons_succ, Act.put, List.setIfInBounds_toArray, List.set_cons_zero, List.set_cons_succ]
          refine WA.take (i := 16) (v := .slice (some ⟨g10, 0, none⟩) L.length cap10) rfl (by kernel_rfl) (by kernel_rfl) (by kernel_rfl) (fun _ _ _ h => h) (hdrop 16) (Or.inl ⟨by rfl, ?_⟩) (hSi (HB12.out.trans (HB14.out.mono HB12.out.size)) _) ?_
          · rintro w' ⟨L, hL, hSw, hun⟩
            go_simp
          simp only [List.getElem_toArray, List.getElem_cons_zero, List.getElem_cons_succ, Act.put, List.setIfInBounds_toArray, List.set_cons_zero, List.set_cons_succ]
          refine WA.take (i := 17) (v := .pointer (some ⟨g10, 0, none⟩)) rfl (by kernel_rfl) (by kernel_rfl) (by kernel_rfl) (fun _ _ _ h => h) (hdrop 17) (Or.inl ⟨by rfl, ?_⟩) (hSi (HB12.out.trans (HB14.out.mono HB12.out.size)) _) ?_
          · rintro w' ⟨L, hL, hSw, hun⟩
            go_simp
          simp only [List.getElem_toArray, List.getElem_cons_zero, List.getElem_cons_succ, Act.put, List.setIfInBounds_toArray, List.set_cons_zero, List.set_cons_succ]
          refine WA.take (i := 18) (v := .int .u32 r) rfl (by kernel_rfl) (by kernel_rfl) (by kernel_rfl) (fun _ _ _ h => h) (hdrop 18) (Or.inl ⟨by rfl, ?_⟩) (hSi (HB12.out.trans (HB14.out.mono HB12.out.size)) _) ?_
          · rintro w' ⟨L, hL, hSw, hun⟩
            have hbw := hSo hSw
            have c10 := cell_later hbw c10
            clear hbw
            go_simp
          simp only [List.getElem_toArray, List.getElem_cons_zero, List.getElem_cons_succ, Act.put, List.setIfInBounds_toArray, List.set_cons_zero, List.set_cons_succ]
          refine WA.one (i := 15) (by kernel_rfl) rfl (by rfl) (fun K hK => ?_)
          go_simp
          refine (find_u (w := w14) ((show IsP X15 pb mf mc f c by rw [HX15.out]; exact HP11.out).below (HB12.out.trans (HB14.out.mono HB12.out.size))) A32.out).mono ?_
          rintro e w_ ⟨rfl, hw_⟩
          subst hw_
          rw [Hfr.out]
          refine hK _ _ (hSi (HB12.out.trans (HB14.out.mono HB12.out.size)) _) ?_
          clear hK
          try simp only [List.getElem_toArray, List.getElem_cons_zero, List.getElem_cons_succ, Act.put, List.setIfInBounds_toArray, List.set_cons_zero, List.set_cons_succ]
          refine WA.take (i := 19) (v := .bool false) rfl (by kernel_rfl) (by kernel_rfl) (by kernel_rfl) (fun _ _ _ h => h) (hdrop 19) (Or.inl ⟨by rfl, ?_⟩) (hSi (HB12.out.trans (HB14.out.mono HB12.out.size)) _) ?_
          · rintro w' ⟨L, hL, hSw, hun⟩
            go_simp
          simp only [List.getElem_toArray, List.getElem_cons_zero, List.getElem_cons_succ, Act.put, List.setIfInBounds_toArray, List.set_cons_zero, List.set_cons_succ]
          refine WA.take (i := 20) (v := .bool false) rfl (by kernel_rfl) (by kernel_rfl) (by kernel_rfl) (fun _ _ _ h => h) (hdrop 20) (Or.inl ⟨by rfl, ?_⟩) (hSi (HB12.out.trans (HB14.out.mono HB12.out.size)) _) ?_
          · rintro w' ⟨L, hL, hSw, hun⟩
            go_simp
          simp only [List.getElem_toArray, List.getElem_cons_zero, List.getElem_cons_succ, Act.put, List.setIfInBounds_toArray, List.set_cons_zero, List.set_cons_succ]
          refine WA.done (by kernel_rfl) ?_ _
          refine Nrm.normal ?_
          clear hSo hS hSi hdrop ca c10
          have ca := caK
          have c10 := c10K
          clear S15
          have hb12 : Below w11.heap.size w11 w14 := by
            have h1 : Below w11.heap.size w11 X15 := by rw [HX15.out]; exact (Below.refl _ _).drew
            exact h1.trans ((HB12.out.trans (HB14.out.mono HB12.out.size)).mono h1.size)
          have Hb12 := Lib.hid hb12
          have ca := cell_keep hb12 ca
          have c10 := cell_keep hb12 c10
          clear hb12
          obtain ⟨bb, hbb⟩ : ∃ bb, (r == a) = bb := ⟨_, rfl⟩
          go_wp2_with fail
          have ca : w14.drew.cell? ⟨g5, i, none⟩ = some (.int .u32 a) := ca
          have c10 : w14.drew.cell? ⟨g10, 0, none⟩ = some (.int .u32 r) := c10
          obtain ⟨S17, hSe⟩ : ∃ S : Array Bool → World → Prop, S = fun _ w' => Below w14.drew.heap.size w14.drew w' := ⟨_, rfl⟩
          have hdrop : ∀ i : Nat, ∀ L w', S17 (L.setIfInBounds i true) w' → S17 L w' := by
            intro i L w' h; rw [hSe] at h ⊢; exact h
          have hS : ∀ L, S17 L w14.drew := by intro L; rw [hSe]; exact Below.refl _ _
          have hSo : ∀ {L w'}, S17 L w' → Below w14.drew.heap.size w14.drew w' := by intro L w' h; rw [hSe] at h; exact h
          have hSi : ∀ {w'}, Below w14.drew.heap.size w14.drew w' → ∀ L, S17 L w' := by intro w' h L; rw [hSe]; exact h
          clear hSe
          refine wp_region_LN S17 8 #[false, false, false, false, false, false, false, false] (by kernel_rfl) (by kernel_rfl) rfl ?_
          obtain ⟨X17, hX17⟩ : ∃ X17, X17 = w14.drew := ⟨_, rfl⟩
          rw [← hX17] at ca c10 hSo hS hSi ⊢
          have HX17 := Lib.hid hX17
          clear hX17
          refine WA.take (i := 0) (v := .slice (some ⟨g10, 0, none⟩) L.length cap10) rfl (by kernel_rfl) (by kernel_rfl) (by kernel_rfl) (fun _ _ _ h => h) (hdrop 0) (Or.inl ⟨by rfl, ?_⟩) (hS _) ?_
          · rintro w' ⟨L, hL, hSw, hun⟩
            go_simp
          simp only [List.getElem_toArray, List.getElem_cons_zero, List.getElem_cons_succ, Act.put, List.setIfInBounds_toArray, List.set_cons_zero, List.set_cons_succ]
          refine WA.take (i := 1) (v := .pointer (some ⟨g10, 0, none⟩)) rfl (by kernel_rfl) (by kernel_rfl) (by kernel_rfl) (fun _ _ _ h => h) (hdrop 1) (Or.inl ⟨by rfl, ?_⟩) (hS _) ?_
          · rintro w' ⟨L, hL, hSw, hun⟩
            go_simp
          simp only [List.getElem_toArray, List.getElem_cons_zero, List.getElem_cons_succ, Act.put, List.setIfInBounds_toArray, List.set_cons_zero, List.set_cons_succ]
          refine WA.take (i := 2) (v := .int .u32 r) rfl (by kernel_rfl) (by kernel_rfl) (by kernel_rfl) (fun _ _ _ h => h) (hdrop 2) (Or.inl ⟨by rfl, ?_⟩) (hS _) ?_
          · rintro w' ⟨L, hL, hSw, hun⟩
            have hbw := hSo hSw
            have c10 := cell_later hbw c10
            clear hbw
            go_simp
          simp only [List.getElem_toArray, List.getElem_cons_zero, List.getElem_cons_succ, Act.put, List.setIfInBounds_toArray, List.set_cons_zero, List.set_cons_succ]
          refine WA.take (i := 3) (v := .slice (some ⟨g5, 0, none⟩) m cap5) rfl (by kernel_rfl) (by kernel_rfl) (by kernel_rfl) (fun _ _ _ h => h) (hdrop 3) (Or.inl ⟨by rfl, ?_⟩) (hS _) ?_
          · rintro w' ⟨L, hL, hSw, hun⟩
            go_simp
          simp only [List.getElem_toArray, List.getElem_cons_zero, List.getElem_cons_succ, Act.put, List.setIfInBounds_toArray, List.set_cons_zero, List.set_cons_succ]
          refine WA.take (i := 4) (v := .int .i64 ((i : Nat) : Int)) rfl (by kernel_rfl) (by kernel_rfl) (by kernel_rfl) (fun _ _ _ h => h) (hdrop 4) (Or.inl ⟨by rfl, ?_⟩) (hS _) ?_
          · rintro w' ⟨L, hL, hSw, hun⟩
            go_simp
          simp only [List.getElem_toArray, List.getElem_cons_zero, List.getElem_cons_succ, Act.put, List.setIfInBounds_toArray, List.set_cons_zero, List.set_cons_succ]
          refine WA.take (i := 5) (v := .pointer (some ⟨g5, i, none⟩)) rfl (by kernel_rfl) (by kernel_rfl) (by kernel_rfl) (fun _ _ _ h => h) (hdrop 5) (Or.inl ⟨by rfl, ?_⟩) (hS _) ?_
          · rintro w' ⟨L, hL, hSw, hun⟩
            go_simp
          simp only [List.getElem_toArray, List.getElem_cons_zero, List.getElem_cons_succ, Act.put, List.setIfInBounds_toArray, List.set_cons_zero, List.set_cons_succ]
          refine WA.take (i := 6) (v := .int .u32 a) rfl (by kernel_rfl) (by kernel_rfl) (by kernel_rfl) (fun _ _ _ h => h) (hdrop 6) (Or.inl ⟨by rfl, ?_⟩) (hS _) ?_
          · rintro w' ⟨L, hL, hSw, hun⟩
            have hbw := hSo hSw
            have ca := cell_later hbw ca
            clear hbw
            go_simp
          simp only [List.getElem_toArray, List.getElem_cons_zero, List.getElem_cons_succ, Act.put, List.setIfInBounds_toArray, List.set_cons_zero, List.set_cons_succ]
          refine WA.take (i := 7) (v := .bool bb) rfl (by kernel_rfl) (by kernel_rfl) (by kernel_rfl) (fun _ _ _ h => h) (hdrop 7) (Or.inl ⟨by rfl, ?_⟩) (hS _) ?_
          · rintro w' ⟨L, hL, hSw, hun⟩
            go_simp
          simp only [List.getElem_toArray, List.getElem_cons_zero, List.getElem_cons_succ, Act.put, List.setIfInBounds_toArray, List.set_cons_zero, List.set_cons_succ]
          refine WA.done (by kernel_rfl) ?_ _
          refine Nrm.normal ?_
          clear hSo hS hSi hdrop c10
          clear S17
          have hb17 : Below w10.heap.size w10 X17 := by
            have h1 : Below w14.heap.size w14 X17 := by rw [HX17.out]; exact (Below.refl _ _).drew
            have h2 := Hb11.out.trans (Hb12.out.mono Hb11.out.size)
            exact h2.trans (h1.mono h2.size)
          have HBx17 := Lib.hid (show Boxed X17 b8 32 vF from (hb17.block b8 HBx.out.lt).trans HBx.out)
          have HO17 := Lib.hid (HOF.out.below rfl hb17)
          have hb8l := HBx.out.lt
          have HB17 := Lib.hid (HB10.out.trans (hb17.mono (Nat.le_of_lt hb8l)))
          have htk : all.take (i + 1) = all.take i ++ [a] := by rw [List.take_succ_eq_append_getElem him2, Ha.out]
          have hkey := key_first Hao.out Hr1.out Hr2.out
          have Htk := Lib.hid htk; have Hkey := Lib.hid hkey
          clear hb17 htk hkey c3
          cases bb with
          | false =>
            have hra : r ≠ a := by simpa using hbb
            have Hra := Lib.hid hra
            clear hra hbb
            go_wp2_with fail
            go_roundw
            case rel => exact ⟨i + 1, F, vF, by omega, by push_cast; rfl, HBx17.out, HO17.out, HSF.out, fun x => (by
              rw [HF.out x, Htk.out, List.mem_append, List.mem_singleton]
              constructor
              · rintro ⟨h1, h2⟩; exact ⟨.inl h1, h2⟩
              · rintro ⟨h1 | rfl, h2⟩
                · exact ⟨h1, h2⟩
                · exact absurd (Hkey.out.1 h2) Hra.out), HB17.out⟩
            case measure => simp [intOf]; omega
          | true =>
            have hra : r = a := by simpa using hbb
            have hlt : ∀ x ∈ F, x < a := fun x hx => by
              have := srt_take HS.out him2 x ((HF.out x).1 hx).1
              rwa [Ha.out] at this
            have HSn := Lib.hid (srt_snoc HSF.out hlt)
            have hF2 : ∀ x, x ∈ F ++ [a] ↔ x ∈ all.take (i + 1) ∧ IsKey J x := fun x => by
              rw [Htk.out, List.mem_append, List.mem_append, List.mem_singleton, HF.out x]
              constructor
              · rintro (⟨h1, h2⟩ | rfl)
                · exact ⟨.inl h1, h2⟩
                · exact ⟨.inr rfl, Hkey.out.2 hra⟩
              · rintro ⟨h1 | rfl, h2⟩
                · exact .inl ⟨h1, h2⟩
                · exact .inr rfl
            have HF2 := Lib.hid hF2
            have hFl : F.length ≤ 1000 := by
              have := List.Nodup.length_le_of_subset HSF.out.nodup (l₂ := nums J) (fun x hx => ((HF.out x).1 hx).2.nums)
              rw [nums_len, Hn.out] at this
              omega
            obtain ⟨i0, hi0, hz0, hz1, hz2⟩ := info_parts Try.info32
            have Hi := Lib.hid hi0; have Hz0 := Lib.hid hz0; have Hz1 := Lib.hid hz1; have Hz2 := Lib.hid hz2
            obtain ⟨sF, capF, rfl, _, _, _⟩ := HO17.out.u
            clear hra hbb hlt hF2 hi0 hz0 hz1 hz2
            have cb := HBx17.out.cell
            go_wp2_with fail
            have cb : X17.drew.cell? ⟨b8, 0, none⟩ = some (.slice sF F.length capF) := cb
            have ca : X17.drew.cell? ⟨g5, i, none⟩ = some (.int .u32 a) := ca
            obtain ⟨S18, hSe⟩ : ∃ S : Array Bool → World → Prop, S = fun L w' => L.getD 6 true = false → Below X17.drew.heap.size X17.drew w' := ⟨_, rfl⟩
            have hdrop : ∀ i, i ≠ 6 → ∀ L w', S18 (L.setIfInBounds i true) w' → S18 L w' := by
              intro i hi L w'
              rw [hSe]
              intro h hl
              exact h (by rw [getD_set_ne true hi]; exact hl)
            have hS : ∀ L, S18 L X17.drew := by intro L; rw [hSe]; exact fun _ => Below.refl _ _
            have hSo : ∀ {L w'}, S18 L w' → L.getD 6 true = false → Below X17.drew.heap.size X17.drew w' := by intro L w' h hl; rw [hSe] at h; exact h hl
            have hSi : ∀ {w'}, Below X17.drew.heap.size X17.drew w' → ∀ L, S18 L w' := by intro w' h L; rw [hSe]; exact fun _ => h
            have hSd : ∀ (L : Array Bool) X, L.getD 6 true = true → S18 L X := by
              intro L X h; rw [hSe]; intro h1; rw [h] at h1; cases h1
            clear hSe
            refine wp_region_LN S18 8 #[false, false, false, false, false, false, false, false] (by kernel_rfl) (by kernel_rfl) rfl ?_
            obtain ⟨X18, hX18⟩ : ∃ X18, X18 = X17.drew := ⟨_, rfl⟩
            rw [← hX18] at cb ca hSo hSi hS ⊢
            have HX18 := Lib.hid hX18
            clear hX18
            refine WA.take (i := 0) (v := .slice sF F.length capF) rfl (by kernel_rfl) (by kernel_rfl) (by kernel_rfl) (fun _ _ _ h => h) (hdrop 0 (by decide)) (Or.inl ⟨by rfl, ?_⟩) (hS _) ?_
            · rintro w' ⟨L, hL, hSw, hun⟩
              have hbw := hSo hSw (hL.wait 6 0 (by kernel_rfl) hun)
              have cb := cell_later hbw cb
              clear hbw
              go_simp
            simp only [List.getElem_toArray, List.getElem_cons_zero, List.getElem_cons_succ, Act.put, List.setIfInBounds_toArray, List.set_cons_zero, List.set_cons_succ]
            refine WA.take (i := 1) (v := .slice (some ⟨g5, 0, none⟩) m cap5) rfl (by kernel_rfl) (by kernel_rfl) (by kernel_rfl) (fun _ _ _ h => h) (hdrop 1 (by decide)) (Or.inl ⟨by rfl, ?_⟩) (hS _) ?_
            · rintro w' ⟨L, hL, hSw, hun⟩
              go_simp
            simp only [List.getElem_toArray, List.getElem_cons_zero, List.getElem_cons_succ, Act.put, List.setIfInBounds_toArray, List.set_cons_zero, List.set_cons_succ]
            refine WA.take (i := 2) (v := .int .i64 ((i : Nat) : Int)) rfl (by kernel_rfl) (by kernel_rfl) (by kernel_rfl) (fun _ _ _ h => h) (hdrop 2 (by decide)) (Or.inl ⟨by rfl, ?_⟩) (hS _) ?_
            · rintro w' ⟨L, hL, hSw, hun⟩
              go_simp
            simp only [List.getElem_toArray, List.getElem_cons_zero, List.getElem_cons_succ, Act.put, List.setIfInBounds_toArray, List.set_cons_zero, List.set_cons_succ]
            refine WA.take (i := 3) (v := .pointer (some ⟨g5, i, none⟩)) rfl (by kernel_rfl) (by kernel_rfl) (by kernel_rfl) (fun _ _ _ h => h) (hdrop 3 (by decide)) (Or.inl ⟨by rfl, ?_⟩) (hS _) ?_
            · rintro w' ⟨L, hL, hSw, hun⟩
              go_simp
            simp only [List.getElem_toArray, List.getElem_cons_zero, List.getElem_cons_succ, Act.put, List.setIfInBounds_toArray, List.set_cons_zero, List.set_cons_succ]
            refine WA.take (i := 4) (v := .int .u32 a) rfl (by kernel_rfl) (by kernel_rfl) (by kernel_rfl) (fun _ _ _ h => h) (hdrop 4 (by decide)) (Or.inl ⟨by rfl, ?_⟩) (hS _) ?_
            · rintro w' ⟨L, hL, hSw, hun⟩
              have hbw := hSo hSw (hL.wait 6 5 (by kernel_rfl) (hL.wait 5 4 (by kernel_rfl) hun))
              have ca := cell_later hbw ca
              clear hbw
              go_simp
            simp only [List.getElem_toArray, List.getElem_cons_zero, List.getElem_cons_succ, Act.put, List.setIfInBounds_toArray, List.set_cons_zero, List.set_cons_succ]
            refine WA.one (i := 5) (by kernel_rfl) rfl (by rfl) (fun K hK => ?_)
            go_simp
            have hA := (Below.refl X18.heap.size X18).alloc (Nat.le_refl _) (.cells #[.int .u32 a] 26)
            have HAl := Lib.hid hA
            refine hK _ _ (hSi HAl.out _) ?_
            clear hK
            try simp only [List.getElem_toArray, List.getElem_cons_zero, List.getElem_cons_succ, Act.put, List.setIfInBounds_toArray, List.set_cons_zero, List.set_cons_succ]
            clear hA
            refine WA.one (i := 6) (by kernel_rfl) rfl (by rfl) (fun K hK => ?_)
            have HO18 := Lib.hid (show OwnU b8 X18 (.slice sF F.length capF) F by rw [HX18.out]; exact HO17.out)
            have HBx18 := Lib.hid (show Boxed X18 b8 32 (.slice sF F.length capF) by rw [HX18.out]; exact HBx17.out)
            have hsz18 : b8 ≤ X18.heap.size := Nat.le_of_lt HBx18.out.lt
            refine jwp_append_own (.tmp 84) (.tmp 89) 32 (by rfl) b8 26 i0 (.int .u32 0) 1 4 Try.underlying32 Hi.out Hz0.out Hz1.out Hz2.out rfl (by decide) (.slice sF F.length capF) F.length (F.map (Value.int .u32)) (by rfl) (World.ownsRow.alloc HO18.out _) ⟨X18.heap.size, 0, none⟩ 1 1 [.int .u32 a] (by rfl) rfl (cell_one_new _ _ _) (by simp [Value.oneCell']) (by simp only [maxLen]; omega) (by omega) (by simp; omega) ?_
            intro v' w19 hown' hgrow _ _
            obtain ⟨g', cap', rfl⟩ := ownsRow_succ hown'
            obtain ⟨hv1, hv2, hr2, hk2, hb2⟩ := HBx18.out.appended (by decide) HO18.out hsz18 (Nat.le_refl _) hown' hgrow
            have HBxn := Lib.hid hv2; have HOn := Lib.hid (show OwnU b8 _ _ (F ++ [a]) from own_app hr2); have HBn0 := Lib.hid hb2
            have hc19 := hv1.cell
            have hf19 := hv1.frozen
            refine hK _ _ (hSd _ _ (by rfl)) ?_
            clear hK hown' hgrow hv1 hv2 hr2 hk2 hb2
            try simp only [List.getElem_toArray, List.getElem_cons_zero, List.getElem_cons_succ, Act.put, List.setIfInBounds_toArray, List.set_cons_zero, List.set_cons_succ]
            refine WA.one (i := 7) (by kernel_rfl) rfl (by rfl) (fun K hK => ?_)
            go_simp
            refine hK _ _ (hSd _ _ (by rfl)) ?_
            clear hK
            try simp only [List.getElem_toArray, List.getElem_cons_zero, List.getElem_cons_succ, Act.put, List.setIfInBounds_toArray, List.set_cons_zero, List.set_cons_succ]
            refine WA.done (by kernel_rfl) ?_ _
            refine Nrm.normal ?_
            clear hSo hSi hS hSd hdrop cb ca hc19 hf19
            clear S18
            have HBn := Lib.hid (show Below b8 X17 _ from (show Below b8 X17 X18 by rw [HX18.out]; exact (Below.refl _ _).drew).trans HBn0.out)
            go_wp2_with fail
            go_roundw
            case rel => exact ⟨i + 1, F ++ [a], _, by omega, by push_cast; rfl, HBxn.out, HOn.out, HSn.out, HF2.out, HB17.out.trans (HBn.out.mono (by have := HB17.out.size; omega))⟩
            case measure => simp [intOf]; omega
        · have hd : decide ((i : Int) < (m : Int)) = false := by simp; omega
          have hFk : ∀ x, x ∈ F ↔ IsKey J x := fun x => by
            rw [HF.out x, List.take_of_length_le (by rw [Hm.out]; omega), HA.out]
            exact ⟨fun h => h.2, fun h => ⟨h.nums, h⟩⟩
          have hFl : F.length ≤ 1000 := by
            have := List.Nodup.length_le_of_subset HSF.out.nodup (l₂ := nums J) (fun x hx => ((hFk x).1 hx).nums)
            rw [nums_len, Hn.out] at this
            omega
          have HFk := Lib.hid hFk
          have HP10 := Lib.hid (H.out.below Hb10.out.drew)
          obtain ⟨sF, capF, rfl, _, _, _⟩ := HOF.out.u
          have cb := HBx.out.cell
          obtain ⟨q, hq⟩ : ∃ q, F.length = q := ⟨_, rfl⟩
          rw [hq] at cb hFl
          have Hq := Lib.hid hq
          clear hFk c3 hq
          go_wp2_with fail
          have cb : w10.drew.cell? ⟨b8, 0, none⟩ = some (.slice sF q capF) := cb
          obtain ⟨S19, hSe⟩ : ∃ S : Array Bool → World → Prop, S = fun _ w' => Below w10.drew.heap.size w10.drew w' := ⟨_, rfl⟩
          have hdrop : ∀ i : Nat, ∀ L w', S19 (L.setIfInBounds i true) w' → S19 L w' := by
            intro i L w' h; rw [hSe] at h ⊢; exact h
          have hS : ∀ L, S19 L w10.drew := by intro L; rw [hSe]; exact Below.refl _ _
          have hSo : ∀ {L w'}, S19 L w' → Below w10.drew.heap.size w10.drew w' := by intro L w' h; rw [hSe] at h; exact h
          have hSi : ∀ {w'}, Below w10.drew.heap.size w10.drew w' → ∀ L, S19 L w' := by intro w' h L; rw [hSe]; exact h
          clear hSe
          refine wp_region_LN S19 5 #[false, false, false, false, false] (by kernel_rfl) (by kernel_rfl) rfl ?_
          obtain ⟨X19, hX19⟩ : ∃ X19, X19 = w10.drew := ⟨_, rfl⟩
          rw [← hX19] at cb hSo hS hSi ⊢
          have HX19 := Lib.hid hX19
          clear hX19
          refine WA.take (i := 0) (v := .pointer (some ⟨pb, 0, none⟩)) rfl (by kernel_rfl) (by kernel_rfl) (by kernel_rfl) (fun _ _ _ h => h) (hdrop 0) (Or.inl ⟨by rfl, ?_⟩) (hS _) ?_
          · rintro w' ⟨L, hL, hSw, hun⟩
            go_simp
          simp only [List.getElem_toArray, List.getElem_cons_zero, List.getElem_cons_succ, Act.put, List.setIfInBounds_toArray, List.set_cons_zero, List.set_cons_succ]
          refine WA.take (i := 2) (v := .slice sF q capF) rfl (by kernel_rfl) (by kernel_rfl) (by kernel_rfl) (fun _ _ _ h => h) (hdrop 2) (Or.inl ⟨by rfl, ?_⟩) (hS _) ?_
          · rintro w' ⟨L, hL, hSw, hun⟩
            have hbw := hSo hSw
            have cb := cell_later hbw cb
            clear hbw
            go_simp
          simp only [List.getElem_toArray, List.getElem_cons_zero, List.getElem_cons_succ, Act.put, List.setIfInBounds_toArray, List.set_cons_zero, List.set_cons_succ]
          refine WA.take (i := 3) (v := .int .i64 ((q : Nat) : Int)) rfl (by kernel_rfl) (by kernel_rfl) (by kernel_rfl) (fun _ _ _ h => h) (hdrop 3) (Or.inl ⟨by rfl, ?_⟩) (hS _) ?_
          · rintro w' ⟨L, hL, hSw, hun⟩
            go_simp
          simp only [List.getElem_toArray, List.getElem_cons_zero, List.getElem_cons_succ, Act.put, List.setIfInBounds_toArray, List.set_cons_zero, List.set_cons_succ]
          refine WA.one (i := 1) (by kernel_rfl) rfl (by rfl) (fun K hK => ?_)
          go_simp
          refine (lenP_u (w := X19) (by rw [HX19.out]; exact HP10.out)).mono ?_
          rintro e w_ ⟨⟨ks, a1, a2, a3, rfl⟩, hw_⟩
          subst hw_
          have hkl : ks.length = q := by
            rw [← Hq.out]
            refine ((List.perm_ext_iff_of_nodup a1 HSF.out.nodup).2 fun x => ?_).length_eq
            by_cases hx : is32 x
            · rw [a3 x hx, HFk.out x, HI.out.key]; rfl
            · exact ⟨fun h => absurd (a2 x h) hx, fun h => absurd (nums_32 HJ.out ((HFk.out x).1 h).nums) hx⟩
          rw [hkl]
          clear a1 a2 a3 hkl
          refine hK _ _ (hS _) ?_
          clear hK
          try simp only [List.getElem_toArray, List.getElem_cons_zero, List.getElem_cons_succ, Act.put, List.setIfInBounds_toArray, List.set_cons_zero, List.set_cons_succ]
          refine WA.take (i := 4) (v := .bool false) rfl (by kernel_rfl) (by kernel_rfl) (by kernel_rfl) (fun _ _ _ h => h) (hdrop 4) (Or.inl ⟨by rfl, ?_⟩) (hS _) ?_
          · rintro w' ⟨L, hL, hSw, hun⟩
            go_simp
          simp only [List.getElem_toArray, List.getElem_cons_zero, List.getElem_cons_succ, Act.put, List.setIfInBounds_toArray, List.set_cons_zero, List.set_cons_succ]
          refine WA.done (by kernel_rfl) ?_ _
          refine Nrm.normal ?_
          clear hSo hS hSi hdrop cb
          clear S19
          have hb17 : Below w10.heap.size w10 X19 := by rw [HX19.out]; exact (Below.refl _ _).drew
          have HP17 := Lib.hid (H.out.below (Hb10.out.trans (hb17.mono Hb10.out.size)))
          have HBx17 := Lib.hid (show Boxed X19 b8 32 (.slice sF F.length capF) from (hb17.block b8 HBx.out.lt).trans HBx.out)
          have HO17 := Lib.hid (HOF.out.below rfl hb17)
          have Hb17 := Lib.hid (Hb10.out.trans (hb17.mono Hb10.out.size))
          have hx10 : Below W2.heap.size W2 w10 := HB.out.trans (HB10.out.mono (by rw [← Hb8.out]; exact HB.out.size))
          have HbX := Lib.hid (hx10.trans (hb17.mono hx10.size))
          clear hx10
          clear hb17
          go_wp2_with fail
          refine (allP_u HP17.out).mono ?_
          rintro e w20 ⟨vb, qb, nf, nc, rfl, hvb, hQ, hB20⟩
          have hnilf : ∀ (lb : Array Value) (w : World), (binOp .eql 42 (.func (.func 26) #[] lb) .nilFunc).run Try.prog w = .ok (.bool false) w := fun _ _ => rfl
          have Hvb := Lib.hid hvb; have HQ := Lib.hid hQ
          have Hb20 := Lib.hid (Hb17.out.trans (hB20.mono Hb17.out.size))
          have HBx20 := Lib.hid (show Boxed w20 b8 32 (.slice sF F.length capF) from (hB20.block b8 HBx17.out.lt).trans HBx17.out)
          have HU20 := Lib.hid (HO17.out.at'.below hB20)
          have HbW := Lib.hid (HbX.out.trans (hB20.mono HbX.out.size))
          clear hvb hQ hB20
          go_wp2_with fail
          clear hnilf
          rw [Hq.out] at HBx20
          have Hgt := Lib.hid (show w.heap.size + 1 < w20.heap.size ∧ b8 < w20.heap.size from ⟨by have h1 := (HA2.out); have h2 := HB.out.size; have h3 := Hb20.out.size; have h4 := HBx20.out.lt; have := Hb8.out; omega, HBx20.out.lt⟩)
          have Hres20 := Lib.hid (show w20.heap[w.heap.size + 1]? = some (.cells #[.bool false] 4 (0, 0)) from (HbW.out.block _ (lt_of_heap HA4.out)).trans HA4.out)
          have Hc320 := Lib.hid (C3.out w20 HbW.out)
          refine wp_loop_ghost_k (fun (nn : Nat) (a : Act) (W : World) => ∃ (turn : Nat) (Ds : List Nat), turn ≤ 2 ∧ nn = 2 - turn ∧ TurnB w20 Ds W ∧ ∃ s : Nat → Value, a = { tmps := #[s 0, s 1, s 2, .pointer (some ⟨w.heap.size, 0, none⟩), .pointer (some ⟨w.heap.size + 1, 0, none⟩), s 5, s 6, s 7, .pointer (some ⟨b8, 0, none⟩), s 9, s 10, .func (.func 26) #[] #[.pointer (some ⟨vb, 0, none⟩)], .int .i64 (turn : Nat), s 13, s 14, s 15, s 16, s 17, s 18, s 19, s 20, s 21, s 22, s 23, s 24, s 25, s 26, s 27, s 28, s 29, s 30, s 31, s 32, s 33, s 34, s 35, s 36, s 37, s 38, s 39, s 40, s 41, s 42, s 43, s 44, s 45, s 46, s 47, s 48, s 49, s 50, s 51, s 52, s 53, s 54, s 55, s 56, s 57, s 58, s 59, s 60, s 61, s 62, s 63, s 64, s 65, s 66, s 67, s 68, s 69, s 70, s 71, s 72, s 73, s 74, s 75, s 76, s 77, s 78, s 79, s 80, s 81, s 82, s 83, s 84, s 85, s 86, s 87, s 88, s 89, s 90, s 91, s 92, s 93, s 94, s 95, s 96, s 97, s 98, s 99, s 100, s 101, s 102, s 103, s 104, s 105, s 106, s 107, s 108, s 109, s 110, s 111, s 112, s 113, s 114, s 115, s 116, s 117, s 118, s 119, s 120, s 121, s 122, s 123, s 124, s 125, s 126, s 127, s 128, s 129, s 130, s 131, s 132], defers := Ds.map markOf }) 2 ⟨0, [], by omega, rfl, ⟨Below.refl _ _, List.nodup_nil, fun D hD => by simp at hD⟩, frame_fix _ _ _ _ _ _ _ (by kernel_rfl)⟩ ?_
          rintro nn a W ⟨turn, Ds, hturn, hnn, hTI, s, rfl⟩ J_ K_ hJ_ hK_
          have HTI := Lib.hid hTI; have Hnn := Lib.hid hnn; have HJ_ := Lib.hid hJ_
          clear hTI hnn hJ_
          by_cases ht2 : turn < 2
          · have hd11 : decide ((turn : Int) < 2) = true := by simp; omega
            obtain ⟨hBa, hba⟩ : Below W.heap.size W (W.alloc (.cells #[.int .i64 0] 3)) ∧ (W.alloc (.cells #[.int .i64 0] 3)).heap[W.heap.size]? = some (.cells #[.int .i64 0] 3 (0, 0)) := ⟨(Below.refl _ W).alloc (Nat.le_refl _) _, World.alloc_heap_new _ _⟩
            have hza : (W.alloc (.cells #[.int .i64 0] 3)).heap.size = W.heap.size + 1 := World.size_alloc _ _
            have HBa := Lib.hid hBa; have Hba := Lib.hid hba; have Hza := Lib.hid hza
            clear hBa hba hza
            go_upto_block 8 with fail
            obtain ⟨ib, hib⟩ : ∃ ib, W.heap.size = ib := ⟨_, rfl⟩
            obtain ⟨W0, hW0⟩ : ∃ W0, W0 = W.alloc (.cells #[.int .i64 0] 3) := ⟨_, rfl⟩
            rw [← hW0] at HBa Hba Hza ⊢
            rw [hib] at Hba Hza ⊢
            have Hib := Lib.hid hib
            clear hW0 hib
            refine (wpIn_wide (n := 9)).1 ?_
            have hfn : ∀ k, Fence.wide.fn k := fun _ => trivial
            have Hib6 := Lib.hid (show w20.heap.size ≤ ib by rw [← Hib.out]; exact HTI.out.b.size)
            have hW0b : Below w20.heap.size w20 W0 := HTI.out.b.trans (HBa.out.mono HTI.out.b.size)
            have HW0b := Lib.hid hW0b
            have hseq := all1_seq Hvb.out HQ.out HI.out HJ.out (by have := Hn.out; omega) HSF.out HFk.out ib Hib6.out
            have Hseq := Lib.hid hseq
            clear hseq hW0b
            refine wpIn_block (wpIn_rangeFunc_Y (w := W0) (wt := w20) rfl (enters_of Try.func26 (by kernel_rfl) rfl) Hseq.out (by have := Hza.out; omega) HW0b.out (fun _ => rfl) KpI.t
              (fun V l o o' hl ho hc => KpI.b (by have := HW0b.out.size; exact this) V l o o' hl ho hc)
              (fun pre x V l o o' hy hl ho hc => ⟨hy.1, by obtain ⟨L, h1, h2⟩ := hy.2; exact ⟨L, h1.stay (fun i cur hi => World.putObj_heap_other (fun e => by subst e; rw [ho] at hi; injection hi with hi; subst hi; cases hc)), h2⟩⟩)
              (fun pre V => RunB W0 ib (pre.length : Nat) V) (fun pre A B h hg => h.grow hg) (fun pre V l o o' h hw hl hc => h.put hw o')
              ⟨Nat.le_refl _, rfl, rfl, rfl, fun i _ _ => rfl, by have := Hza.out; omega, Hba.out⟩
              (fun t x => (((t.setIfInBounds 105 (.int .u32 x.1)).setIfInBounds 106 x.2).setIfInBounds 14 (.int .u32 x.1)).setIfInBounds 15 x.2) ?assign ?body ?fin)
            case assign =>
              rintro lnn pre ⟨r, rv⟩ V K ⟨_, L, hO, _⟩ hK
              obtain ⟨sr, cr, hrv, _⟩ := hO.u
              simp only at hrv
              subst hrv
              have HK := Lib.hid hK
              clear hK hO
              gi_wp2
              exact HK.out
            case body =>
              rintro lnn pre ⟨r, rv⟩ V hR ⟨hpx, L, hO, hL⟩ hV2
              obtain ⟨sr, cr, hrv, _, _, hUr⟩ := hO.u
              simp only at hrv hpx hL
              subst hrv
              have hFr := prefix_at hpx
              obtain ⟨pl, hpl⟩ : ∃ pl, pre.length = pl := ⟨_, rfl⟩
              rw [hpl] at hFr
              obtain ⟨hplF, hFr2⟩ := List.getElem?_eq_some_iff.1 hFr
              have hrk := (HFk.out r).1 (List.mem_of_getElem? hFr)
              have r0 := (HE.out.other hrk.nums).1
              have hTV : Below w20.heap.size w20 V := by
                have h1 := HW0b.out
                exact ⟨hR.os.trans h1.os, hR.tape.trans h1.tape, hR.output.trans h1.output, by have := hR.size; have := h1.size; omega, fun i hi => (hR.low i (by have := h1.size; omega) (by have := Hib6.out; omega)).trans (h1.block i hi)⟩
              have hcI := box_at hR.box rfl
              rw [hpl] at hcI
              obtain ⟨cI, fI⟩ := hcI
              have c8 : V.cell? ⟨b8, 0, none⟩ = some (.slice sF q capF) := (box_at ((hTV.block b8 Hgt.out.2).trans HBx20.out) rfl).1
              have c3 : V.cell? ⟨w.heap.size, 0, none⟩ = some (.slice ja n jcap) := cell_keep hTV Hc320.out
              obtain ⟨gF, rfl, _, cF⟩ := HU20.out.below hTV pl hplF
              rw [hFr2] at cF
              have hplq : pl < q := by rw [← Hq.out]; exact hplF
              have hdp : decide ((pl : Int) ≥ (q : Int)) = false := by simp; omega
              have hrr : (r != r) = false := by simp
              obtain ⟨ln, hln⟩ : ∃ ln, L.length = ln := ⟨_, rfl⟩
              have hVw : Below w.heap.size w V := Hb20.out.trans (hTV.mono Hb20.out.size)
              have HR := Lib.hid hR; have HUr := Lib.hid hUr; have HLr := Lib.hid (hL.2 r0); have Hln := Lib.hid hln; have HVw := Lib.hid hVw; have R0 := Lib.hid r0; have Hpl := Lib.hid hpl
              have hLlen := hL.len
              rw [Hn.out, hln] at hLlen
              rw [hln]
              clear hR hUr hpl hpx hFr hFr2 hrk r0 hTV hO hL hln hVw
              gi_wp2_with fail
              refine (CallsIn.inRound lnn (callsIn_wide.2 (HCL.out V HVw.out r R0.out))).mono ?_
              rintro e w31 ⟨v31, L2, rfl, hO, hI, hB⟩
              obtain ⟨s31, cap31, rfl, _, _, hU31⟩ := hO.u
              have hLL : L = L2 := HLr.out.unique hI
              have heq := equal_u sr s31 cr cap31 L L2 (HUr.out.below hB) hU31 (by have := Hln.out; omega)
              rw [decide_eq_true hLL, Hln.out] at heq
              have Heq := Lib.hid heq; have HB31 := Lib.hid hB
              clear hO hI hB hU31 hLL heq
              gi_wp2_with fail
              refine (CallsIn.inRound lnn (callsIn_wide.2 Heq.out)).mono ?_
              rintro e w32 ⟨rfl, hB32⟩
              have HB32 := Lib.hid (HB31.out.trans (hB32.mono HB31.out.size))
              have hR32 := HR.out.grow HB32.out
              obtain ⟨cI2, fI2⟩ := box_at hR32.box rfl
              rw [Hpl.out] at cI2
              have HR32 := Lib.hid hR32
              clear hB32 hR32 cI fI
              gi_wp2_with fail
              have hst := HR.out.step ((BodB.below HB32.out).set (j := 0) (.int .i64 ((pl : Int) + 1))) (m := (pl : Int) + 1) (Boxed.set _ HR32.out.box) w20.heap.size
              refine ⟨hst.1, hst.2.1, ?_⟩
              show RunB W0 ib (((pre ++ [(r, Value.slice sr ln cr)]).length : Nat) : Int) _
              rw [List.length_append, List.length_singleton, Hpl.out]
              push_cast
              exact hst.2.2
            case fin =>
              rintro D1 pre V hD hp hR hdef
              obtain ⟨pl, hpl⟩ : ∃ pl, pre.length = pl := ⟨_, rfl⟩
              have hplq : pl = q := by rw [← Hq.out, ← hpl, ← hp, List.length_map]
              have hT2 := HTI.out.step HBa.out (by rw [Hib.out]; exact Nat.le_refl _) hR hD hdef
              obtain ⟨cI, fI⟩ := box_at hR.box rfl
              rw [hpl, hplq] at cI
              have c8 : V.cell? ⟨b8, 0, none⟩ = some (.slice sF q capF) := (box_at ((hT2.b.block b8 Hgt.out.2).trans HBx20.out) rfl).1
              have hdn : ((q : Int) != (q : Int)) = false := by simp
              have HT3 := Lib.hid hT2
              clear hD hdef hp hR hT2 hpl hplq
              go_wp2_with fail
              refine Handed.intro (2 - (turn + 1)) (by have := Hnn.out; omega) (HJ_.out _ _ _ ⟨turn + 1, D1 :: Ds, by omega, rfl, HT3.out, frame_fix _ _ _ _ _ _ _ (by kernel_rfl)⟩)
          · have ht2' : turn = 2 := by omega
            subst ht2'
            have hd11 : decide ((2 : Int) < 2) = false := by decide
            have hrW := (HTI.out.b.block _ Hgt.out.1).trans Hres20.out
            obtain ⟨cR, fR⟩ := box_at hrW rfl
            have HrW := Lib.hid hrW
            clear hrW
            go_wp2_with fail
            refine EndE.out _ Ds _ rfl rfl HTI.out.nd (fun D hD => ⟨by have := (HTI.out.ds D hD).1; have := Hgt.out.1; omega, ?_⟩) (Boxed.set (.bool true) HrW.out) ((Hb20.out.trans (HTI.out.b.mono Hb20.out.size)).setCell (p := ⟨w.heap.size + 1, 0, none⟩) (by simp) _)
            exact (Below.heap_setCell W ⟨w.heap.size + 1, 0, none⟩ _ D (by have := (HTI.out.ds D hD).1; have := Hgt.out.1; simp; omega)).trans (HTI.out.ds D hD).2
end Go.Proofs.Ytpiciickgomggaa
