/- Match's iterator over one of the lists. -/
import Derived.Test.YtkgkkbfpkgfcaaaT15
namespace Go.Proofs.Ytkgkkbfpkgfcaaa
set_option maxRecDepth 100000
open Go.RowKit Go.Maps
attribute [local go_sem] Oper.semAt_some
set_option linter.unusedVariables false
set_option linter.unusedSimpArgs false

set_option maxRecDepth 100000 in
set_option maxHeartbeats 1000000 in
theorem search_nil (t : Int) (w : World) :
    Calls Try.prog 45 #[.slice none 0 0, .int .i64 t] w fun e w' => e = .returned (.tuple #[.int .i64 0, .bool false]) ∧ w' = w := by
  go_enter Try.func45, Try.ntmps45
  go_wp2_with fail
  go_loopw [7, 8] (fun u v wr => u = .int .i64 0 ∧ v = .int .i64 0 ∧ wr = w) (fun u v _ => 0)
  case atStart => exact ⟨rfl, rfl, rfl⟩
  case round =>
    obtain ⟨rfl, rfl, rfl⟩ := hrel
    go_wp2_with go_in
    all_goals
      go_ret2
      exact ⟨rfl, rfl⟩

theorem drop_filter {xs : List Nat} {i : Nat} (hi : i < xs.length) (t : Int) : (xs.drop i).filter (fun c : Nat => decide ((c : Int) < t)) = if (xs[i] : Int) < t then xs[i] :: (xs.drop (i + 1)).filter (fun c : Nat => decide ((c : Int) < t)) else (xs.drop (i + 1)).filter (fun c : Nat => decide ((c : Int) < t)) := by
  rw [List.drop_eq_getElem_cons hi, List.filter_cons]
  simp
theorem drop_none {xs : List Nat} (hg : Grows xs) {i : Nat} (hi : i < xs.length) (t : Int) (h : t ≤ (xs[i] : Int)) : (xs.drop i).filter (fun c : Nat => decide ((c : Int) < t)) = [] := by
  rw [List.filter_eq_nil_iff]
  intro c hc
  obtain ⟨j, hj, rfl⟩ := List.mem_iff_getElem.1 hc
  simp only [List.length_drop] at hj
  simp only [List.getElem_drop, decide_eq_true_eq]
  rcases Nat.eq_zero_or_pos j with rfl | h0
  · simpa using h
  · have := hg i (i + j) hi (by omega) (by omega)
    omega
theorem stands_filter {xs : List Nat} {lo t : Int} {i : Nat} (h : Stands xs lo i) : (xs.drop i).filter (fun c : Nat => decide ((c : Int) < t)) = xs.filter (fun c : Nat => decide (lo ≤ (c : Int)) && decide ((c : Int) < t)) := by
  obtain ⟨h0, h1, h2⟩ := h
  conv => rhs; rw [← List.take_append_drop i xs, List.filter_append]
  rw [show (xs.take i).filter (fun c : Nat => decide (lo ≤ (c : Int)) && decide ((c : Int) < t)) = [] from ?_, List.nil_append]
  · apply List.filter_congr
    intro c hc
    obtain ⟨j, hj, rfl⟩ := List.mem_iff_getElem.1 hc
    simp only [List.length_drop] at hj
    have := h2 (i + j) (by omega) (by omega)
    simp only [List.getElem_drop]
    simp [this]
  · rw [List.filter_eq_nil_iff]
    intro c hc
    obtain ⟨j, hj, rfl⟩ := List.mem_iff_getElem.1 hc
    simp only [List.length_take] at hj
    have := h1 j (by omega) (by omega)
    simp only [List.getElem_take, Bool.and_eq_true, decide_eq_true_eq, not_and]
    omega

set_option maxRecDepth 100000 in
set_option maxHeartbeats 4000000 in
theorem match1_lst (n l B tb : Nat) (r : R3) (fr tu b : Int) (T : TS) (D0 : TabD) (Tof : List Nat → TS) (J Jx : List Nat → World → Prop) (ys xs : List Nat)
    (hys : ys = run (fun pre c => liveB (Tof pre) b c) (xs.filter (fun c : Nat => decide (loOf fr ≤ (c : Int)) && decide ((c : Int) < hiOf T tu))) [])
    (hg : Grows xs) (hxl : xs.length ≤ 1000010)
    (hJ : ∀ pre W W', J pre W → Below W.heap.size W W' → J pre W')
    (hB : ∀ pre W, J pre W → MBox W B tb r fr tu b)
    (hT : ∀ pre W, J pre W → ∃ Z D, IsT Z W tb (Tof pre) D) (hP : ∀ pre, T.length ≤ (Tof pre).length)
    (hY : ∀ pre x W, J pre W → pre ++ [x] <+: ys → YieldAt Fence.wide (n - 1) Try.prog l #[.int .i64 (x : Nat), rv (rowOf (Tof pre) x)] W fun e W' =>
      (e = .returned (.bool true) ∧ J (pre ++ [x]) W') ∨ (e = .returned (.bool false) ∧ Jx (pre ++ [x]) W'))
    (W : World) {Z0 : Zone} (h0 : IsT Z0 W tb T D0) (hI : J [] W)
    (hlist : ∀ W1, Below W.heap.size W W1 → Calls Try.prog 44 #[.pointer (some ⟨tb, 0, none⟩), rv r] W1 fun e W2 => Below W1.heap.size W1 W2 ∧
      ((xs = [] ∧ e = .returned (.tuple #[.slice none 0 0, .bool true])) ∨ ∃ g cap, e = .returned (.tuple #[.slice (some ⟨g, 0, none⟩) xs.length cap, .bool true]) ∧ (∀ j (h : j < xs.length), W2.cell? ⟨g, j, none⟩ = some (.int .i64 (xs[j] : Nat))) ∧
        ∀ pre W, J pre W → ∀ j (h : j < xs.length), 1 ≤ j → W.cell? ⟨g, j, none⟩ = some (.int .i64 (xs[j] : Nat)))) :
    CallsIn Fence.wide n Try.prog 43 #[.func (.yield l) #[] #[], .pointer (some ⟨B, 0, none⟩), .pointer (some ⟨B + 2, 0, none⟩), .pointer (some ⟨B + 3, 0, none⟩), .pointer (some ⟨B + 1, 0, none⟩), .pointer (some ⟨B + 4, 0, none⟩)] W fun e W' =>
      (∃ v, e = .returned v) ∧ (J ys W' ∨ ∃ pre, pre <+: ys ∧ Jx pre W') := by
  obtain ⟨⟨q0, q1, q2⟩, rfl⟩ : ∃ q, r = q := ⟨_, rfl⟩
  obtain ⟨f', hf'⟩ : ∃ f' : Nat, loOf fr = f' := ⟨(loOf fr).toNat, by unfold loOf; split <;> omega⟩
  obtain ⟨t', ht'⟩ : ∃ t', hiOf T tu = t' := ⟨_, rfl⟩
  obtain ⟨len, hlen⟩ : ∃ len, T.length = len := ⟨_, rfl⟩
  have hmax : ∀ (ts : Array TypeId) (ty : TypeId) (w : World), (Builtin.max_ ts ty #[.int .i64 0, .int .i64 fr]).run Try.prog w = .ok (.int .i64 (f' : Int)) w := by
    intro ts ty w; rw [run_max_int2, ← hf']; rfl
  have hmin : ∀ (ts : Array TypeId) (ty : TypeId) (w : World), (Builtin.min_ ts ty #[.int .i64 tu, .int .i64 len]).run Try.prog w = .ok (.int .i64 t') w := by
    intro ts ty w; rw [run_min_int2, ← ht', ← hlen]; rfl
  have HY := Lib.hid hY; have HJ := Lib.hid hJ; have HT := Lib.hid hT; have HP := Lib.hid hP; have HI := Lib.hid hI; have HB := Lib.hid hB; have Hys := Lib.hid hys
  have hb0 := hB _ _ hI
  have c0 := hb0.c; have cf := hb0.f; have ct := hb0.t; have r0 := hb0.r0; have r1 := hb0.r1; have r2 := hb0.r2
  have hth := Lib.hid (there_any h0)
  have Hlist := Lib.hid hlist; have Hg := Lib.hid hg
  have hvl := h0.rows.len (P := Try.prog) Try.underlying68 3
  rw [hlen] at hvl
  have hc0 := h0.c0
  clear hlist hg hY hJ hT hP hI hB hys hb0 h0
  refine callsIn_of_wp Try.func43 rfl trivial ?_ rfl
  simp only [Try.ntmps43, List.size_toArray, List.length_cons, List.length_nil, Nat.reduceAdd, Nat.reduceSub, Array.replicate_succ, Array.replicate_zero, List.push_toArray, List.append_toArray, List.nil_append, List.cons_append]
  have hfn : ∀ k, Fence.wide.fn k := fun _ => trivial
  gi_wp2_with (refine ⟨fun hh => absurd hh (by decide), ?_⟩; gi_at_call 26; refine (callsIn_wide.2 hth.out).mono ?_; rintro e w' ⟨rfl, rfl⟩)
  -- REGION 1
  obtain ⟨S1, hSe⟩ : ∃ S : Array Bool → World → Prop, S = fun _ w' => w' = W.drew := ⟨_, rfl⟩
  have hdrop : ∀ i : Nat, i ≠ 1000 → ∀ L w', S1 (L.setIfInBounds i true) w' → S1 L w' := by
    intro i _ L w' h; rw [hSe] at h ⊢; exact h
  have hS : ∀ L, S1 L W.drew := by intro L; rw [hSe]
  have hSo : ∀ {L w'}, S1 L w' → w' = W.drew := by intro L w' h; rw [hSe] at h; exact h
  clear hSe
  refine wpIn_region_LI S1 11 #[false, false, false, false, false, false, false, false, false, false, false] (by kernel_rfl) (by kernel_rfl) rfl ?_
  refine WI.take (i := 0) (v := .int .i64 fr) rfl rfl rfl (by kernel_rfl) (by kernel_rfl) (by kernel_rfl) (fun _ _ _ h => h) (hdrop 0 (by decide)) (Or.inl ⟨by rfl, ?_⟩) (hS _) ?_
  · rintro w' ⟨L, hL, hSw, hun⟩
    obtain rfl := hSo hSw
    go_simp
  simp only [List.getElem_toArray, List.getElem_cons_zero, List.getElem_cons_succ, Act.put, List.setIfInBounds_toArray, List.set_cons_zero, List.set_cons_succ]
  refine WI.take (i := 1) (v := .int .i64 (f' : Int)) rfl rfl rfl (by kernel_rfl) (by kernel_rfl) (by kernel_rfl) (fun _ _ _ h => h) (hdrop 1 (by decide)) (Or.inl ⟨by rfl, ?_⟩) (hS _) ?_
  · rintro w' ⟨L, hL, hSw, hun⟩
    obtain rfl := hSo hSw
    go_simp
  simp only [List.getElem_toArray, List.getElem_cons_zero, List.getElem_cons_succ, Act.put, List.setIfInBounds_toArray, List.set_cons_zero, List.set_cons_succ]
  refine WI.take (i := 2) (v := .int .i64 tu) rfl rfl rfl (by kernel_rfl) (by kernel_rfl) (by kernel_rfl) (fun _ _ _ h => h) (hdrop 2 (by decide)) (Or.inl ⟨by rfl, ?_⟩) (hS _) ?_
  · rintro w' ⟨L, hL, hSw, hun⟩
    obtain rfl := hSo hSw
    go_simp
  simp only [List.getElem_toArray, List.getElem_cons_zero, List.getElem_cons_succ, Act.put, List.setIfInBounds_toArray, List.set_cons_zero, List.set_cons_succ]
  refine WI.take (i := 3) (v := .pointer (some ⟨tb, 0, none⟩)) rfl rfl rfl (by kernel_rfl) (by kernel_rfl) (by kernel_rfl) (fun _ _ _ h => h) (hdrop 3 (by decide)) (Or.inl ⟨by rfl, ?_⟩) (hS _) ?_
  · rintro w' ⟨L, hL, hSw, hun⟩
    obtain rfl := hSo hSw
    go_simp
  simp only [List.getElem_toArray, List.getElem_cons_zero, List.getElem_cons_succ, Act.put, List.setIfInBounds_toArray, List.set_cons_zero, List.set_cons_succ]
  refine WI.take (i := 4) (v := .pointer (some ⟨tb, 0, none⟩)) rfl rfl rfl (by kernel_rfl) (by kernel_rfl) (by kernel_rfl) (fun _ _ _ h => h) (hdrop 4 (by decide)) (Or.inl ⟨by rfl, ?_⟩) (hS _) ?_
  · rintro w' ⟨L, hL, hSw, hun⟩
    obtain rfl := hSo hSw
    go_simp
  simp only [List.getElem_toArray, List.getElem_cons_zero, List.getElem_cons_succ, Act.put, List.setIfInBounds_toArray, List.set_cons_zero, List.set_cons_succ]
  refine WI.take (i := 5) (v := .pointer (some ⟨tb, 0, none⟩)) rfl rfl rfl (by kernel_rfl) (by kernel_rfl) (by kernel_rfl) (fun _ _ _ h => h) (hdrop 5 (by decide)) (Or.inl ⟨by rfl, ?_⟩) (hS _) ?_
  · rintro w' ⟨L, hL, hSw, hun⟩
    obtain rfl := hSo hSw
    go_simp
  simp only [List.getElem_toArray, List.getElem_cons_zero, List.getElem_cons_succ, Act.put, List.setIfInBounds_toArray, List.set_cons_zero, List.set_cons_succ]
  refine WI.take (i := 6) (v := D0.vr) rfl rfl rfl (by kernel_rfl) (by kernel_rfl) (by kernel_rfl) (fun _ _ _ h => h) (hdrop 6 (by decide)) (Or.inl ⟨by rfl, ?_⟩) (hS _) ?_
  · rintro w' ⟨L, hL, hSw, hun⟩
    obtain rfl := hSo hSw
    go_simp
  simp only [List.getElem_toArray, List.getElem_cons_zero, List.getElem_cons_succ, Act.put, List.setIfInBounds_toArray, List.set_cons_zero, List.set_cons_succ]
  refine WI.take (i := 7) (v := .int .i64 len) rfl rfl rfl (by kernel_rfl) (by kernel_rfl) (by kernel_rfl) (fun _ _ _ h => h) (hdrop 7 (by decide)) (Or.inl ⟨by rfl, ?_⟩) (hS _) ?_
  · rintro w' ⟨L, hL, hSw, hun⟩
    obtain rfl := hSo hSw
    go_simp
  simp only [List.getElem_toArray, List.getElem_cons_zero, List.getElem_cons_succ, Act.put, List.setIfInBounds_toArray, List.set_cons_zero, List.set_cons_succ]
  refine WI.take (i := 8) (v := .int .i64 t') rfl rfl rfl (by kernel_rfl) (by kernel_rfl) (by kernel_rfl) (fun _ _ _ h => h) (hdrop 8 (by decide)) (Or.inl ⟨by rfl, ?_⟩) (hS _) ?_
  · rintro w' ⟨L, hL, hSw, hun⟩
    obtain rfl := hSo hSw
    go_simp
  simp only [List.getElem_toArray, List.getElem_cons_zero, List.getElem_cons_succ, Act.put, List.setIfInBounds_toArray, List.set_cons_zero, List.set_cons_succ]
  refine WI.take (i := 9) (v := .int .i64 (f' : Int)) rfl rfl rfl (by kernel_rfl) (by kernel_rfl) (by kernel_rfl) (fun _ _ _ h => h) (hdrop 9 (by decide)) (Or.inl ⟨by rfl, ?_⟩) (hS _) ?_
  · rintro w' ⟨L, hL, hSw, hun⟩
    obtain rfl := hSo hSw
    go_simp
  simp only [List.getElem_toArray, List.getElem_cons_zero, List.getElem_cons_succ, Act.put, List.setIfInBounds_toArray, List.set_cons_zero, List.set_cons_succ]
  refine WI.take (i := 10) (v := .int .i64 t') rfl rfl rfl (by kernel_rfl) (by kernel_rfl) (by kernel_rfl) (fun _ _ _ h => h) (hdrop 10 (by decide)) (Or.inl ⟨by rfl, ?_⟩) (hS _) ?_
  · rintro w' ⟨L, hL, hSw, hun⟩
    obtain rfl := hSo hSw
    go_simp
  simp only [List.getElem_toArray, List.getElem_cons_zero, List.getElem_cons_succ, Act.put, List.setIfInBounds_toArray, List.set_cons_zero, List.set_cons_succ]
  refine WI.done (by kernel_rfl) ?_ _
  clear hS hSo hdrop S1 hmax hmin
  refine Nrm.normal ?_
  have c0 : W.drew.cell? ⟨B, 0, none⟩ = some (.pointer (some ⟨tb, 0, none⟩)) := c0
  have r0 : W.drew.cell? ⟨B + 1, 0, none⟩ = _ := r0
  have r1 : W.drew.cell? ⟨B + 1, 1, none⟩ = _ := r1
  have r2 : W.drew.cell? ⟨B + 1, 2, none⟩ = _ := r2
  have hHI := Lib.hid (HJ.out _ _ _ HI.out (Below.refl _ W).drew)
  have hBW1 := (Below.refl W.heap.size W).drew
  clear hvl hc0 cf ct HI hth
  generalize W.drew = W1 at *
  have hBW := Lib.hid hBW1
  clear hBW1
  gi_wp2_with (refine ⟨fun hh => absurd hh (by decide), ?_⟩; gi_at_call 44; refine (callsIn_wide.2 (Hlist.out _ hBW.out)).mono ?_; rintro e W2 ⟨hB2, (⟨hnil, rfl⟩ | ⟨g, cap, rfl, hcs, hcJ⟩)⟩)
  · have hJ2 := Lib.hid (HJ.out _ _ _ hHI.out hB2)
    clear hHI c0 r0 r1 r2 hB2
    gi_wp2_with (refine ⟨fun hh => absurd hh (by decide), ?_⟩; gi_at_call 45; refine (callsIn_wide.2 (search_nil _ _)).mono ?_; rintro e W3 ⟨rfl, rfl⟩)
    gi_loopw [12] (fun u wr => u = .int .i64 0 ∧ wr = W3) (fun u _ => 0)
    case atStart => exact ⟨rfl, rfl⟩
    case round =>
      obtain ⟨rfl, rfl⟩ := hrel
      gi_wp2
      go_end0
      have hy : ys = [] := by rw [Hys.out, hnil]; rfl
      rw [hy]
      exact ⟨⟨_, rfl⟩, .inl hJ2.out⟩
  · have hJ2 := Lib.hid (HJ.out _ _ _ hHI.out hB2)
    have HcJ := Lib.hid hcJ; have Hcs := Lib.hid hcs
    clear hHI c0 r0 r1 r2 hB2 hcJ hcs
    gi_wp2_with (refine ⟨fun hh => absurd hh (by decide), ?_⟩; gi_at_call 45; refine (callsIn_wide.2 (search_any _ _ _ _ _ hxl Hg.out Hcs.out)).mono ?_; rintro e W3 ⟨⟨i0, b0, hst, rfl⟩, rfl⟩)
    obtain ⟨nn, hnn⟩ : ∃ nn, xs.length = nn := ⟨_, rfl⟩
    rw [hnn] at hxl
    have hstart : run (fun pre c => liveB (Tof pre) b c) ((xs.drop i0).filter (fun c : Nat => decide ((c : Int) < t'))) [] = ys := by
      rw [Hys.out, stands_filter hst, hf', ht']
    have hi0 : i0 ≤ nn := by have := hst.1; omega
    have Hst := Lib.hid hstart
    clear hstart hst
    rw [hnn]
    gi_loopw [12] (fun u wr => ∃ (pre : List Nat) (i : Nat), u = .int .i64 i ∧ i ≤ nn ∧ J pre wr ∧ (∀ j (h : j < xs.length), i ≤ j → wr.cell? ⟨g, j, none⟩ = some (.int .i64 (xs[j] : Nat))) ∧ run (fun pre c => liveB (Tof pre) b c) ((xs.drop i).filter (fun c : Nat => decide ((c : Int) < t'))) pre = ys) (fun u _ => nn - (intOf u).toNat)
    case atStart => exact ⟨[], i0, rfl, hi0, hJ2.out, fun j h _ => Hcs.out j h, Hst.out⟩
    case round =>
      obtain ⟨pre, i, rfl, hin, hJ3, hcw, hrun⟩ := hrel
      have Hcw := Lib.hid hcw
      by_cases hlt : i < nn
      · have hd : decide ((i : Int) < (nn : Int)) = true := by simpa using hlt
        have hci := hcw i (by omega) (Nat.le_refl _)
        obtain ⟨c, hc⟩ : ∃ c, xs[i]'(by omega) = c := ⟨_, rfl⟩
        rw [hc] at hci
        clear hcw
        by_cases hlt2 : (c : Int) < t'
        · have hd2 : decide ((c : Int) < t') = true := by simpa using hlt2
          have hcl : c < (Tof pre).length := by
            have := HP.out pre
            unfold hiOf at ht'
            split at ht' <;> omega
          obtain ⟨Z, D, hI3⟩ := HT.out _ _ hJ3
          have hb3 := HB.out _ _ hJ3
          have c3 := hb3.c; have cb3 := hb3.b
          obtain ⟨gb, capb, hvb, _, b3, _, _⟩ := hI3.bit c hcl
          obtain ⟨gr, capr, hvr, _, y0, y1, y2⟩ := hI3.row c hcl
          have tb0 := hI3.c0
          have tb1 := hI3.c1
          have hlong := hI3.long
          rw [hvr] at tb0
          rw [hvb] at tb1
          have hrw : rowOf (Tof pre) c = (Tof pre)[c].1 := by simp [rowOf, hcl]
          have hbt : bitsOf (Tof pre) c = (Tof pre)[c].2 := by simp [bitsOf, hcl]
          obtain ⟨v, hv⟩ : ∃ v, (Tof pre)[c].2 = v := ⟨_, rfl⟩
          obtain ⟨⟨x0, x1, x2⟩, hx⟩ : ∃ x, (Tof pre)[c].1 = x := ⟨_, rfl⟩
          obtain ⟨l1, hl1⟩ : ∃ l1, (Tof pre).length = l1 := ⟨_, rfl⟩
          rw [hv] at b3 hbt
          rw [hx] at y0 y1 y2 hrw
          rw [hl1] at tb0 tb1 hcl hlong
          have hi' : i < xs.length := by omega
          rw [drop_filter hi', hc, if_pos hlt2] at hrun
          simp only [run] at hrun
          have hJ4 := Lib.hid (HJ.out _ _ _ hJ3 (Below.refl _ wr).drew)
          have hcw4 : ∀ j (h : j < xs.length), i ≤ j → wr.drew.cell? ⟨g, j, none⟩ = some (.int .i64 (xs[j] : Nat)) := Hcw.out
          have Hcw4 := Lib.hid hcw4
          have Hrun := Lib.hid hrun; have Hhx := Lib.hid hrw; have Hi := Lib.hid hi'; have Hc := Lib.hid hc
          clear hI3 hJ3 hb3 hvb hvr hv hx hl1 hrun hrw hi' hc Hcw hcw4
          gi_wp2_with fail
          have c3 : wr.drew.cell? ⟨B, 0, none⟩ = _ := c3
          have cb3 : wr.drew.cell? ⟨B + 4, 0, none⟩ = _ := cb3
          have b3 : wr.drew.cell? ⟨gb, c, none⟩ = _ := b3
          have y0 : wr.drew.cell? ⟨gr, c * 3, none⟩ = _ := y0
          have y1 : wr.drew.cell? ⟨gr, c * 3 + 1, none⟩ = _ := y1
          have y2 : wr.drew.cell? ⟨gr, c * 3 + 2, none⟩ = _ := y2
          have tb0 : wr.drew.cell? ⟨tb, 0, none⟩ = _ := tb0
          have tb1 : wr.drew.cell? ⟨tb, 1, none⟩ = _ := tb1
          have hci : wr.drew.cell? ⟨g, i, none⟩ = _ := hci
          obtain ⟨S7, hSe⟩ : ∃ S : Array Bool → World → Prop, S = fun L w' => L.getD 29 true = false → w' = wr.drew := ⟨_, rfl⟩
          have hdrop : ∀ i, i ≠ 29 → ∀ L w', S7 (L.setIfInBounds i true) w' → S7 L w' := by
            intro i hi L w'
            rw [hSe]
            intro h hl
            exact h (by rw [getD_set_ne true hi]; exact hl)
          have hS : ∀ L, S7 L wr.drew := by intro L; rw [hSe]; exact fun _ => rfl
          have hSo : ∀ {L w'}, S7 L w' → L.getD 29 true = false → w' = wr.drew := by intro L w' h hl; rw [hSe] at h; exact h hl
          have hSd : ∀ (L : Array Bool) X, L.getD 29 true = true → S7 L X := by
            intro L X h; rw [hSe]; intro h1; rw [h] at h1; cases h1
          clear hSe
          refine wpIn_region_LI S7 32 #[false, false, false, false, false, false, false, false, false, false, false, false, false, false, false, false, false, false, false, false, false, false, false, false, false, false, false, false, false, false, false, false] (by kernel_rfl) (by kernel_rfl) rfl ?_
          generalize wr.drew = W9 at *
          refine WI.take (i := 0) (v := .pointer (some ⟨tb, 0, none⟩)) rfl rfl rfl (by kernel_rfl) (by kernel_rfl) (by kernel_rfl) (fun _ _ _ h => h) (hdrop 0 (by decide)) (Or.inl ⟨by rfl, ?_⟩) (hS _) ?_
          · rintro w' ⟨L, hL, hSw, hun⟩
            obtain rfl := hSo hSw (hL.wait 29 14 (by kernel_rfl) (hL.wait 14 13 (by kernel_rfl) (hL.wait 13 12 (by kernel_rfl) (hL.wait 12 11 (by kernel_rfl) (hL.wait 11 9 (by kernel_rfl) (hL.wait 9 8 (by kernel_rfl) (hL.wait 8 3 (by kernel_rfl) (hL.wait 3 2 (by kernel_rfl) (hL.wait 2 1 (by kernel_rfl) (hL.wait 1 0 (by kernel_rfl) hun))))))))))
            go_simp
          simp only [List.getElem_toArray, List.getElem_cons_zero, List.getElem_cons_succ, Act.put, List.setIfInBounds_toArray, List.set_cons_zero, List.set_cons_succ]
          refine WI.take (i := 1) (v := .pointer (some ⟨tb, 0, none⟩)) rfl rfl rfl (by kernel_rfl) (by kernel_rfl) (by kernel_rfl) (fun _ _ _ h => h) (hdrop 1 (by decide)) (Or.inl ⟨by rfl, ?_⟩) (hS _) ?_
          · rintro w' ⟨L, hL, hSw, hun⟩
            go_simp
          simp only [List.getElem_toArray, List.getElem_cons_zero, List.getElem_cons_succ, Act.put, List.setIfInBounds_toArray, List.set_cons_zero, List.set_cons_succ]
          refine WI.take (i := 2) (v := .pointer (some ⟨tb, 1, none⟩)) rfl rfl rfl (by kernel_rfl) (by kernel_rfl) (by kernel_rfl) (fun _ _ _ h => h) (hdrop 2 (by decide)) (Or.inl ⟨by rfl, ?_⟩) (hS _) ?_
          · rintro w' ⟨L, hL, hSw, hun⟩
            go_simp
          simp only [List.getElem_toArray, List.getElem_cons_zero, List.getElem_cons_succ, Act.put, List.setIfInBounds_toArray, List.set_cons_zero, List.set_cons_succ]
          refine WI.take (i := 3) (v := .slice (some ⟨gb, 0, none⟩) l1 capb) rfl rfl rfl (by kernel_rfl) (by kernel_rfl) (by kernel_rfl) (fun _ _ _ h => h) (hdrop 3 (by decide)) (Or.inl ⟨by rfl, ?_⟩) (hS _) ?_
          · rintro w' ⟨L, hL, hSw, hun⟩
            obtain rfl := hSo hSw (hL.wait 29 14 (by kernel_rfl) (hL.wait 14 13 (by kernel_rfl) (hL.wait 13 12 (by kernel_rfl) (hL.wait 12 11 (by kernel_rfl) (hL.wait 11 9 (by kernel_rfl) (hL.wait 9 8 (by kernel_rfl) (hL.wait 8 3 (by kernel_rfl) hun)))))))
            go_simp
          simp only [List.getElem_toArray, List.getElem_cons_zero, List.getElem_cons_succ, Act.put, List.setIfInBounds_toArray, List.set_cons_zero, List.set_cons_succ]
          refine WI.take (i := 4) (v := .slice (some ⟨g, 0, none⟩) nn cap) rfl rfl rfl (by kernel_rfl) (by kernel_rfl) (by kernel_rfl) (fun _ _ _ h => h) (hdrop 4 (by decide)) (Or.inl ⟨by rfl, ?_⟩) (hS _) ?_
          · rintro w' ⟨L, hL, hSw, hun⟩
            go_simp
          simp only [List.getElem_toArray, List.getElem_cons_zero, List.getElem_cons_succ, Act.put, List.setIfInBounds_toArray, List.set_cons_zero, List.set_cons_succ]
          refine WI.take (i := 5) (v := .int .i64 (i : Int)) rfl rfl rfl (by kernel_rfl) (by kernel_rfl) (by kernel_rfl) (fun _ _ _ h => h) (hdrop 5 (by decide)) (Or.inl ⟨by rfl, ?_⟩) (hS _) ?_
          · rintro w' ⟨L, hL, hSw, hun⟩
            go_simp
          simp only [List.getElem_toArray, List.getElem_cons_zero, List.getElem_cons_succ, Act.put, List.setIfInBounds_toArray, List.set_cons_zero, List.set_cons_succ]
          refine WI.take (i := 6) (v := .pointer (some ⟨g, i, none⟩)) rfl rfl rfl (by kernel_rfl) (by kernel_rfl) (by kernel_rfl) (fun _ _ _ h => h) (hdrop 6 (by decide)) (Or.inl ⟨by rfl, ?_⟩) (hS _) ?_
          · rintro w' ⟨L, hL, hSw, hun⟩
            go_simp
          simp only [List.getElem_toArray, List.getElem_cons_zero, List.getElem_cons_succ, Act.put, List.setIfInBounds_toArray, List.set_cons_zero, List.set_cons_succ]
          refine WI.take (i := 7) (v := .int .i64 (c : Int)) rfl rfl rfl (by kernel_rfl) (by kernel_rfl) (by kernel_rfl) (fun _ _ _ h => h) (hdrop 7 (by decide)) (Or.inl ⟨by rfl, ?_⟩) (hS _) ?_
          · rintro w' ⟨L, hL, hSw, hun⟩
            obtain rfl := hSo hSw (hL.wait 29 14 (by kernel_rfl) (hL.wait 14 13 (by kernel_rfl) (hL.wait 13 12 (by kernel_rfl) (hL.wait 12 11 (by kernel_rfl) (hL.wait 11 9 (by kernel_rfl) (hL.wait 9 8 (by kernel_rfl) (hL.wait 8 7 (by kernel_rfl) hun)))))))
            go_simp
          simp only [List.getElem_toArray, List.getElem_cons_zero, List.getElem_cons_succ, Act.put, List.setIfInBounds_toArray, List.set_cons_zero, List.set_cons_succ]
          refine WI.take (i := 8) (v := .pointer (some ⟨gb, c, none⟩)) rfl rfl rfl (by kernel_rfl) (by kernel_rfl) (by kernel_rfl) (fun _ _ _ h => h) (hdrop 8 (by decide)) (Or.inl ⟨by rfl, ?_⟩) (hS _) ?_
          · rintro w' ⟨L, hL, hSw, hun⟩
            go_simp
          simp only [List.getElem_toArray, List.getElem_cons_zero, List.getElem_cons_succ, Act.put, List.setIfInBounds_toArray, List.set_cons_zero, List.set_cons_succ]
          refine WI.take (i := 9) (v := .int .u8 v) rfl rfl rfl (by kernel_rfl) (by kernel_rfl) (by kernel_rfl) (fun _ _ _ h => h) (hdrop 9 (by decide)) (Or.inl ⟨by rfl, ?_⟩) (hS _) ?_
          · rintro w' ⟨L, hL, hSw, hun⟩
            obtain rfl := hSo hSw (hL.wait 29 14 (by kernel_rfl) (hL.wait 14 13 (by kernel_rfl) (hL.wait 13 12 (by kernel_rfl) (hL.wait 12 11 (by kernel_rfl) (hL.wait 11 9 (by kernel_rfl) hun)))))
            go_simp
          simp only [List.getElem_toArray, List.getElem_cons_zero, List.getElem_cons_succ, Act.put, List.setIfInBounds_toArray, List.set_cons_zero, List.set_cons_succ]
          refine WI.take (i := 10) (v := .int .u8 b) rfl rfl rfl (by kernel_rfl) (by kernel_rfl) (by kernel_rfl) (fun _ _ _ h => h) (hdrop 10 (by decide)) (Or.inl ⟨by rfl, ?_⟩) (hS _) ?_
          · rintro w' ⟨L, hL, hSw, hun⟩
            obtain rfl := hSo hSw (hL.wait 29 14 (by kernel_rfl) (hL.wait 14 13 (by kernel_rfl) (hL.wait 13 12 (by kernel_rfl) (hL.wait 12 11 (by kernel_rfl) (hL.wait 11 10 (by kernel_rfl) hun)))))
            go_simp
          simp only [List.getElem_toArray, List.getElem_cons_zero, List.getElem_cons_succ, Act.put, List.setIfInBounds_toArray, List.set_cons_zero, List.set_cons_succ]
          refine WI.take (i := 11) (v := .int .u8 (bits .and .u8 v b)) rfl rfl rfl (by kernel_rfl) (by kernel_rfl) (by kernel_rfl) (fun _ _ _ h => h) (hdrop 11 (by decide)) (Or.inl ⟨by rfl, ?_⟩) (hS _) ?_
          · rintro w' ⟨L, hL, hSw, hun⟩
            go_simp
          simp only [List.getElem_toArray, List.getElem_cons_zero, List.getElem_cons_succ, Act.put, List.setIfInBounds_toArray, List.set_cons_zero, List.set_cons_succ]
          cases hlv : bits .and .u8 v b != 0
          · -- it is out
            refine WI.take (i := 12) (v := .bool false) rfl rfl rfl (by kernel_rfl) (by kernel_rfl) (by kernel_rfl) (fun _ _ _ h => h) (hdrop 12 (by decide)) (Or.inl ⟨by rfl, ?_⟩) (hS _) ?_
            · rintro w' ⟨L, hL, hSw, hun⟩
              go_simp
            simp only [List.getElem_toArray, List.getElem_cons_zero, List.getElem_cons_succ, Act.put, List.setIfInBounds_toArray, List.set_cons_zero, List.set_cons_succ]
            refine WI.take (i := 13) (v := .bool false) rfl rfl rfl (by kernel_rfl) (by kernel_rfl) (by kernel_rfl) (fun _ _ _ h => h) (hdrop 13 (by decide)) (Or.inl ⟨by rfl, ?_⟩) (hS _) ?_
            · rintro w' ⟨L, hL, hSw, hun⟩
              go_simp
            simp only [List.getElem_toArray, List.getElem_cons_zero, List.getElem_cons_succ, Act.put, List.setIfInBounds_toArray, List.set_cons_zero, List.set_cons_succ]
            refine WI.take (i := 14) (v := undef) rfl rfl rfl (by kernel_rfl) (by kernel_rfl) (by kernel_rfl) (fun _ _ _ h => h) (hdrop 14 (by decide)) (Or.inr ⟨by rfl, rfl⟩) (hS _) ?_
            simp only [List.getElem_toArray, List.getElem_cons_zero, List.getElem_cons_succ, Act.put, List.setIfInBounds_toArray, List.set_cons_zero, List.set_cons_succ]
            refine WI.take (i := 15) (v := undef) rfl rfl rfl (by kernel_rfl) (by kernel_rfl) (by kernel_rfl) (fun _ _ _ h => h) (hdrop 15 (by decide)) (Or.inr ⟨by rfl, rfl⟩) (hS _) ?_
            simp only [List.getElem_toArray, List.getElem_cons_zero, List.getElem_cons_succ, Act.put, List.setIfInBounds_toArray, List.set_cons_zero, List.set_cons_succ]
            refine WI.take (i := 16) (v := undef) rfl rfl rfl (by kernel_rfl) (by kernel_rfl) (by kernel_rfl) (fun _ _ _ h => h) (hdrop 16 (by decide)) (Or.inr ⟨by rfl, rfl⟩) (hS _) ?_
            simp only [List.getElem_toArray, List.getElem_cons_zero, List.getElem_cons_succ, Act.put, List.setIfInBounds_toArray, List.set_cons_zero, List.set_cons_succ]
            refine WI.take (i := 17) (v := undef) rfl rfl rfl (by kernel_rfl) (by kernel_rfl) (by kernel_rfl) (fun _ _ _ h => h) (hdrop 17 (by decide)) (Or.inr ⟨by rfl, rfl⟩) (hS _) ?_
            simp only [List.getElem_toArray, List.getElem_cons_zero, List.getElem_cons_succ, Act.put, List.setIfInBounds_toArray, List.set_cons_zero, List.set_cons_succ]
            refine WI.take (i := 18) (v := undef) rfl rfl rfl (by kernel_rfl) (by kernel_rfl) (by kernel_rfl) (fun _ _ _ h => h) (hdrop 18 (by decide)) (Or.inr ⟨by rfl, rfl⟩) (hS _) ?_
            simp only [List.getElem_toArray, List.getElem_cons_zero, List.getElem_cons_succ, Act.put, List.setIfInBounds_toArray, List.set_cons_zero, List.set_cons_succ]
            refine WI.take (i := 19) (v := undef) rfl rfl rfl (by kernel_rfl) (by kernel_rfl) (by kernel_rfl) (fun _ _ _ h => h) (hdrop 19 (by decide)) (Or.inr ⟨by rfl, rfl⟩) (hS _) ?_
            simp only [List.getElem_toArray, List.getElem_cons_zero, List.getElem_cons_succ, Act.put, List.setIfInBounds_toArray, List.set_cons_zero, List.set_cons_succ]
            refine WI.take (i := 20) (v := undef) rfl rfl rfl (by kernel_rfl) (by kernel_rfl) (by kernel_rfl) (fun _ _ _ h => h) (hdrop 20 (by decide)) (Or.inr ⟨by rfl, rfl⟩) (hS _) ?_
            simp only [List.getElem_toArray, List.getElem_cons_zero, List.getElem_cons_succ, Act.put, List.setIfInBounds_toArray, List.set_cons_zero, List.set_cons_succ]
            refine WI.take (i := 21) (v := undef) rfl rfl rfl (by kernel_rfl) (by kernel_rfl) (by kernel_rfl) (fun _ _ _ h => h) (hdrop 21 (by decide)) (Or.inr ⟨by rfl, rfl⟩) (hS _) ?_
            simp only [List.getElem_toArray, List.getElem_cons_zero, List.getElem_cons_succ, Act.put, List.setIfInBounds_toArray, List.set_cons_zero, List.set_cons_succ]
            refine WI.take (i := 22) (v := undef) rfl rfl rfl (by kernel_rfl) (by kernel_rfl) (by kernel_rfl) (fun _ _ _ h => h) (hdrop 22 (by decide)) (Or.inr ⟨by rfl, rfl⟩) (hS _) ?_
            simp only [List.getElem_toArray, List.getElem_cons_zero, List.getElem_cons_succ, Act.put, List.setIfInBounds_toArray, List.set_cons_zero, List.set_cons_succ]
            refine WI.take (i := 23) (v := undef) rfl rfl rfl (by kernel_rfl) (by kernel_rfl) (by kernel_rfl) (fun _ _ _ h => h) (hdrop 23 (by decide)) (Or.inr ⟨by rfl, rfl⟩) (hS _) ?_
            simp only [List.getElem_toArray, List.getElem_cons_zero, List.getElem_cons_succ, Act.put, List.setIfInBounds_toArray, List.set_cons_zero, List.set_cons_succ]
            refine WI.take (i := 24) (v := undef) rfl rfl rfl (by kernel_rfl) (by kernel_rfl) (by kernel_rfl) (fun _ _ _ h => h) (hdrop 24 (by decide)) (Or.inr ⟨by rfl, rfl⟩) (hS _) ?_
            simp only [List.getElem_toArray, List.getElem_cons_zero, List.getElem_cons_succ, Act.put, List.setIfInBounds_toArray, List.set_cons_zero, List.set_cons_succ]
            refine WI.take (i := 25) (v := undef) rfl rfl rfl (by kernel_rfl) (by kernel_rfl) (by kernel_rfl) (fun _ _ _ h => h) (hdrop 25 (by decide)) (Or.inr ⟨by rfl, rfl⟩) (hS _) ?_
            simp only [List.getElem_toArray, List.getElem_cons_zero, List.getElem_cons_succ, Act.put, List.setIfInBounds_toArray, List.set_cons_zero, List.set_cons_succ]
            refine WI.take (i := 26) (v := undef) rfl rfl rfl (by kernel_rfl) (by kernel_rfl) (by kernel_rfl) (fun _ _ _ h => h) (hdrop 26 (by decide)) (Or.inr ⟨by rfl, rfl⟩) (hS _) ?_
            simp only [List.getElem_toArray, List.getElem_cons_zero, List.getElem_cons_succ, Act.put, List.setIfInBounds_toArray, List.set_cons_zero, List.set_cons_succ]
            refine WI.take (i := 27) (v := undef) rfl rfl rfl (by kernel_rfl) (by kernel_rfl) (by kernel_rfl) (fun _ _ _ h => h) (hdrop 27 (by decide)) (Or.inr ⟨by rfl, rfl⟩) (hS _) ?_
            simp only [List.getElem_toArray, List.getElem_cons_zero, List.getElem_cons_succ, Act.put, List.setIfInBounds_toArray, List.set_cons_zero, List.set_cons_succ]
            refine WI.take (i := 28) (v := undef) rfl rfl rfl (by kernel_rfl) (by kernel_rfl) (by kernel_rfl) (fun _ _ _ h => h) (hdrop 28 (by decide)) (Or.inr ⟨by rfl, rfl⟩) (hS _) ?_
            simp only [List.getElem_toArray, List.getElem_cons_zero, List.getElem_cons_succ, Act.put, List.setIfInBounds_toArray, List.set_cons_zero, List.set_cons_succ]
            refine WI.skip (i := 29) hfn (by kernel_rfl) rfl (by rfl) (hS _) ?_
            simp only [List.getElem_toArray, List.getElem_cons_zero, List.getElem_cons_succ, Act.put, List.setIfInBounds_toArray, List.set_cons_zero, List.set_cons_succ]
            refine WI.take (i := 30) (v := undef) rfl rfl rfl (by kernel_rfl) (by kernel_rfl) (by kernel_rfl) (fun _ _ _ h => h) (hdrop 30 (by decide)) (Or.inr ⟨by rfl, rfl⟩) (hS _) ?_
            simp only [List.getElem_toArray, List.getElem_cons_zero, List.getElem_cons_succ, Act.put, List.setIfInBounds_toArray, List.set_cons_zero, List.set_cons_succ]
            refine WI.take (i := 31) (v := .bool false) rfl rfl rfl (by kernel_rfl) (by kernel_rfl) (by kernel_rfl) (fun _ _ _ h => h) (hdrop 31 (by decide)) (Or.inl ⟨by rfl, ?_⟩) (hS _) ?_
            · rintro w' ⟨L, hL, hSw, hun⟩
              go_simp
            simp only [List.getElem_toArray, List.getElem_cons_zero, List.getElem_cons_succ, Act.put, List.setIfInBounds_toArray, List.set_cons_zero, List.set_cons_succ]
            refine WI.done (by kernel_rfl) ?_ _
            refine Nrm.normal ?_
            gi_wp2
            go_roundw
            case rel =>
              have hlive : ¬ liveB (Tof pre) b c = true := by unfold liveB; rw [hbt, hlv]; simp
              have hr1 := Hrun.out
              rw [if_neg hlive] at hr1
              exact ⟨pre, i + 1, by push_cast; rfl, by omega, hJ4.out, fun j h hj => Hcw4.out j h (by omega), hr1⟩
            case measure => simp [intOf]; omega
          · -- it goes to yield
            refine WI.take (i := 12) (v := .bool true) rfl rfl rfl (by kernel_rfl) (by kernel_rfl) (by kernel_rfl) (fun _ _ _ h => h) (hdrop 12 (by decide)) (Or.inl ⟨by rfl, ?_⟩) (hS _) ?_
            · rintro w' ⟨L, hL, hSw, hun⟩
              go_simp
            simp only [List.getElem_toArray, List.getElem_cons_zero, List.getElem_cons_succ, Act.put, List.setIfInBounds_toArray, List.set_cons_zero, List.set_cons_succ]
            refine WI.take (i := 13) (v := .bool true) rfl rfl rfl (by kernel_rfl) (by kernel_rfl) (by kernel_rfl) (fun _ _ _ h => h) (hdrop 13 (by decide)) (Or.inl ⟨by rfl, ?_⟩) (hS _) ?_
            · rintro w' ⟨L, hL, hSw, hun⟩
              go_simp
            simp only [List.getElem_toArray, List.getElem_cons_zero, List.getElem_cons_succ, Act.put, List.setIfInBounds_toArray, List.set_cons_zero, List.set_cons_succ]
            refine WI.take (i := 14) (v := .func (.yield l) #[] #[]) rfl rfl rfl (by kernel_rfl) (by kernel_rfl) (by kernel_rfl) (fun _ _ _ h => h) (hdrop 14 (by decide)) (Or.inl ⟨by rfl, ?_⟩) (hS _) ?_
            · rintro w' ⟨L, hL, hSw, hun⟩
              go_simp
            simp only [List.getElem_toArray, List.getElem_cons_zero, List.getElem_cons_succ, Act.put, List.setIfInBounds_toArray, List.set_cons_zero, List.set_cons_succ]
            refine WI.take (i := 15) (v := .slice (some ⟨g, 0, none⟩) nn cap) rfl rfl rfl (by kernel_rfl) (by kernel_rfl) (by kernel_rfl) (fun _ _ _ h => h) (hdrop 15 (by decide)) (Or.inl ⟨by rfl, ?_⟩) (hS _) ?_
            · rintro w' ⟨L, hL, hSw, hun⟩
              go_simp
            simp only [List.getElem_toArray, List.getElem_cons_zero, List.getElem_cons_succ, Act.put, List.setIfInBounds_toArray, List.set_cons_zero, List.set_cons_succ]
            refine WI.take (i := 16) (v := .int .i64 (i : Int)) rfl rfl rfl (by kernel_rfl) (by kernel_rfl) (by kernel_rfl) (fun _ _ _ h => h) (hdrop 16 (by decide)) (Or.inl ⟨by rfl, ?_⟩) (hS _) ?_
            · rintro w' ⟨L, hL, hSw, hun⟩
              go_simp
            simp only [List.getElem_toArray, List.getElem_cons_zero, List.getElem_cons_succ, Act.put, List.setIfInBounds_toArray, List.set_cons_zero, List.set_cons_succ]
            refine WI.take (i := 17) (v := .pointer (some ⟨g, i, none⟩)) rfl rfl rfl (by kernel_rfl) (by kernel_rfl) (by kernel_rfl) (fun _ _ _ h => h) (hdrop 17 (by decide)) (Or.inl ⟨by rfl, ?_⟩) (hS _) ?_
            · rintro w' ⟨L, hL, hSw, hun⟩
              go_simp
            simp only [List.getElem_toArray, List.getElem_cons_zero, List.getElem_cons_succ, Act.put, List.setIfInBounds_toArray, List.set_cons_zero, List.set_cons_succ]
            refine WI.take (i := 18) (v := .int .i64 (c : Int)) rfl rfl rfl (by kernel_rfl) (by kernel_rfl) (by kernel_rfl) (fun _ _ _ h => h) (hdrop 18 (by decide)) (Or.inl ⟨by rfl, ?_⟩) (hS _) ?_
            · rintro w' ⟨L, hL, hSw, hun⟩
              obtain rfl := hSo hSw (hL.wait 29 18 (by kernel_rfl) hun)
              go_simp
            simp only [List.getElem_toArray, List.getElem_cons_zero, List.getElem_cons_succ, Act.put, List.setIfInBounds_toArray, List.set_cons_zero, List.set_cons_succ]
            refine WI.take (i := 19) (v := .pointer (some ⟨tb, 0, none⟩)) rfl rfl rfl (by kernel_rfl) (by kernel_rfl) (by kernel_rfl) (fun _ _ _ h => h) (hdrop 19 (by decide)) (Or.inl ⟨by rfl, ?_⟩) (hS _) ?_
            · rintro w' ⟨L, hL, hSw, hun⟩
              obtain rfl := hSo hSw (hL.wait 29 28 (by kernel_rfl) (hL.wait 28 27 (by kernel_rfl) (hL.wait 27 22 (by kernel_rfl) (hL.wait 22 21 (by kernel_rfl) (hL.wait 21 20 (by kernel_rfl) (hL.wait 20 19 (by kernel_rfl) hun))))))
              go_simp
            simp only [List.getElem_toArray, List.getElem_cons_zero, List.getElem_cons_succ, Act.put, List.setIfInBounds_toArray, List.set_cons_zero, List.set_cons_succ]
            refine WI.take (i := 20) (v := .pointer (some ⟨tb, 0, none⟩)) rfl rfl rfl (by kernel_rfl) (by kernel_rfl) (by kernel_rfl) (fun _ _ _ h => h) (hdrop 20 (by decide)) (Or.inl ⟨by rfl, ?_⟩) (hS _) ?_
            · rintro w' ⟨L, hL, hSw, hun⟩
              go_simp
            simp only [List.getElem_toArray, List.getElem_cons_zero, List.getElem_cons_succ, Act.put, List.setIfInBounds_toArray, List.set_cons_zero, List.set_cons_succ]
            refine WI.take (i := 21) (v := .pointer (some ⟨tb, 0, none⟩)) rfl rfl rfl (by kernel_rfl) (by kernel_rfl) (by kernel_rfl) (fun _ _ _ h => h) (hdrop 21 (by decide)) (Or.inl ⟨by rfl, ?_⟩) (hS _) ?_
            · rintro w' ⟨L, hL, hSw, hun⟩
              go_simp
            simp only [List.getElem_toArray, List.getElem_cons_zero, List.getElem_cons_succ, Act.put, List.setIfInBounds_toArray, List.set_cons_zero, List.set_cons_succ]
            refine WI.take (i := 22) (v := .slice (some ⟨gr, 0, none⟩) l1 capr) rfl rfl rfl (by kernel_rfl) (by kernel_rfl) (by kernel_rfl) (fun _ _ _ h => h) (hdrop 22 (by decide)) (Or.inl ⟨by rfl, ?_⟩) (hS _) ?_
            · rintro w' ⟨L, hL, hSw, hun⟩
              obtain rfl := hSo hSw (hL.wait 29 28 (by kernel_rfl) (hL.wait 28 27 (by kernel_rfl) (hL.wait 27 22 (by kernel_rfl) hun)))
              go_simp
            simp only [List.getElem_toArray, List.getElem_cons_zero, List.getElem_cons_succ, Act.put, List.setIfInBounds_toArray, List.set_cons_zero, List.set_cons_succ]
            refine WI.take (i := 23) (v := .slice (some ⟨g, 0, none⟩) nn cap) rfl rfl rfl (by kernel_rfl) (by kernel_rfl) (by kernel_rfl) (fun _ _ _ h => h) (hdrop 23 (by decide)) (Or.inl ⟨by rfl, ?_⟩) (hS _) ?_
            · rintro w' ⟨L, hL, hSw, hun⟩
              go_simp
            simp only [List.getElem_toArray, List.getElem_cons_zero, List.getElem_cons_succ, Act.put, List.setIfInBounds_toArray, List.set_cons_zero, List.set_cons_succ]
            refine WI.take (i := 24) (v := .int .i64 (i : Int)) rfl rfl rfl (by kernel_rfl) (by kernel_rfl) (by kernel_rfl) (fun _ _ _ h => h) (hdrop 24 (by decide)) (Or.inl ⟨by rfl, ?_⟩) (hS _) ?_
            · rintro w' ⟨L, hL, hSw, hun⟩
              go_simp
            simp only [List.getElem_toArray, List.getElem_cons_zero, List.getElem_cons_succ, Act.put, List.setIfInBounds_toArray, List.set_cons_zero, List.set_cons_succ]
            refine WI.take (i := 25) (v := .pointer (some ⟨g, i, none⟩)) rfl rfl rfl (by kernel_rfl) (by kernel_rfl) (by kernel_rfl) (fun _ _ _ h => h) (hdrop 25 (by decide)) (Or.inl ⟨by rfl, ?_⟩) (hS _) ?_
            · rintro w' ⟨L, hL, hSw, hun⟩
              go_simp
            simp only [List.getElem_toArray, List.getElem_cons_zero, List.getElem_cons_succ, Act.put, List.setIfInBounds_toArray, List.set_cons_zero, List.set_cons_succ]
            refine WI.take (i := 26) (v := .int .i64 (c : Int)) rfl rfl rfl (by kernel_rfl) (by kernel_rfl) (by kernel_rfl) (fun _ _ _ h => h) (hdrop 26 (by decide)) (Or.inl ⟨by rfl, ?_⟩) (hS _) ?_
            · rintro w' ⟨L, hL, hSw, hun⟩
              obtain rfl := hSo hSw (hL.wait 29 28 (by kernel_rfl) (hL.wait 28 27 (by kernel_rfl) (hL.wait 27 26 (by kernel_rfl) hun)))
              go_simp
            simp only [List.getElem_toArray, List.getElem_cons_zero, List.getElem_cons_succ, Act.put, List.setIfInBounds_toArray, List.set_cons_zero, List.set_cons_succ]
            refine WI.take (i := 27) (v := .pointer (some ⟨gr, c * 3, none⟩)) rfl rfl rfl (by kernel_rfl) (by kernel_rfl) (by kernel_rfl) (fun _ _ _ h => h) (hdrop 27 (by decide)) (Or.inl ⟨by rfl, ?_⟩) (hS _) ?_
            · rintro w' ⟨L, hL, hSw, hun⟩
              go_simp
            simp only [List.getElem_toArray, List.getElem_cons_zero, List.getElem_cons_succ, Act.put, List.setIfInBounds_toArray, List.set_cons_zero, List.set_cons_succ]
            refine WI.take (i := 28) (v := .agg #[.int .u32 x0, .int .u32 x1, .int .u32 x2]) rfl rfl rfl (by kernel_rfl) (by kernel_rfl) (by kernel_rfl) (fun _ _ _ h => h) (hdrop 28 (by decide)) (Or.inl ⟨by rfl, ?_⟩) (hS _) ?_
            · rintro w' ⟨L, hL, hSw, hun⟩
              obtain rfl := hSo hSw (hL.wait 29 28 (by kernel_rfl) hun)
              go_simp
            simp only [List.getElem_toArray, List.getElem_cons_zero, List.getElem_cons_succ, Act.put, List.setIfInBounds_toArray, List.set_cons_zero, List.set_cons_succ]
            have hlive : liveB (Tof pre) b c = true := by unfold liveB; rw [hbt]; exact hlv
            have hr1 := Hrun.out
            rw [if_pos hlive] at hr1
            have hYY := HY.out pre c _ hJ4.out (by rw [← hr1]; exact run_prefix _ _ _)
            rw [Hhx.out] at hYY
            simp only [rv] at hYY
            obtain ⟨fn, tmps, assign, body, hy, hR⟩ := hYY
            have HR := Lib.hid hR; clear hR
            refine WI.one (i := 29) (by kernel_rfl) rfl (by rfl) (fun K hK => ?_)
            unfold Oper.wpIn
            go_simp
            refine ⟨fun hh => absurd hh (by decide), ?_⟩
            refine HR.out.mono ?_
            rintro e W4 (⟨rfl, hJ5⟩ | ⟨rfl, hJx⟩)
            · have HJ5 := Lib.hid hJ5; clear hJ5
              refine hK _ _ (hSd _ _ (by rfl)) ?_
              clear hK
              simp only [List.getElem_toArray, List.getElem_cons_zero, List.getElem_cons_succ, Act.put, List.setIfInBounds_toArray, List.set_cons_zero, List.set_cons_succ]
              refine WI.take (i := 30) (v := .bool false) rfl rfl rfl (by kernel_rfl) (by kernel_rfl) (by kernel_rfl) (fun _ _ _ h => h) (hdrop 30 (by decide)) (Or.inl ⟨by rfl, ?_⟩) (hSd _ _ (by rfl)) ?_
              · rintro w' ⟨L, hL, hSw, hun⟩
                go_simp
              simp only [List.getElem_toArray, List.getElem_cons_zero, List.getElem_cons_succ, Act.put, List.setIfInBounds_toArray, List.set_cons_zero, List.set_cons_succ]
              refine WI.take (i := 31) (v := .bool false) rfl rfl rfl (by kernel_rfl) (by kernel_rfl) (by kernel_rfl) (fun _ _ _ h => h) (hdrop 31 (by decide)) (Or.inl ⟨by rfl, ?_⟩) (hSd _ _ (by rfl)) ?_
              · rintro w' ⟨L, hL, hSw, hun⟩
                go_simp
              simp only [List.getElem_toArray, List.getElem_cons_zero, List.getElem_cons_succ, Act.put, List.setIfInBounds_toArray, List.set_cons_zero, List.set_cons_succ]
              refine WI.done (by kernel_rfl) ?_ _
              refine Nrm.normal ?_
              gi_wp2
              go_roundw
              case rel => exact ⟨pre ++ [c], i + 1, by push_cast; rfl, by omega, HJ5.out, fun j h hj => HcJ.out _ _ HJ5.out j h (by omega), hr1⟩
              case measure => simp [intOf]; omega
            · have HJx := Lib.hid hJx; clear hJx
              refine hK _ _ (hSd _ _ (by rfl)) ?_
              clear hK
              simp only [List.getElem_toArray, List.getElem_cons_zero, List.getElem_cons_succ, Act.put, List.setIfInBounds_toArray, List.set_cons_zero, List.set_cons_succ]
              refine WI.take (i := 30) (v := .bool true) rfl rfl rfl (by kernel_rfl) (by kernel_rfl) (by kernel_rfl) (fun _ _ _ h => h) (hdrop 30 (by decide)) (Or.inl ⟨by rfl, ?_⟩) (hSd _ _ (by rfl)) ?_
              · rintro w' ⟨L, hL, hSw, hun⟩
                go_simp
              simp only [List.getElem_toArray, List.getElem_cons_zero, List.getElem_cons_succ, Act.put, List.setIfInBounds_toArray, List.set_cons_zero, List.set_cons_succ]
              refine WI.take (i := 31) (v := .bool true) rfl rfl rfl (by kernel_rfl) (by kernel_rfl) (by kernel_rfl) (fun _ _ _ h => h) (hdrop 31 (by decide)) (Or.inl ⟨by rfl, ?_⟩) (hSd _ _ (by rfl)) ?_
              · rintro w' ⟨L, hL, hSw, hun⟩
                go_simp
              simp only [List.getElem_toArray, List.getElem_cons_zero, List.getElem_cons_succ, Act.put, List.setIfInBounds_toArray, List.set_cons_zero, List.set_cons_succ]
              refine WI.done (by kernel_rfl) ?_ _
              refine Nrm.normal ?_
              gi_wp2
              refine bodyPost_ret (results_none rfl _ _ _) rfl ?_
              exact ⟨⟨_, rfl⟩, .inr ⟨pre ++ [c], by rw [← hr1]; exact run_prefix _ _ _, HJx.out⟩⟩
        · have hd2 : decide ((c : Int) < t') = false := by simpa using hlt2
          rw [drop_none Hg.out (by omega) t' (by rw [hc]; omega)] at hrun
          have hrun : pre = ys := hrun
          subst hrun
          have HJ3 := Lib.hid hJ3
          clear hJ3 hc
          gi_wp2
          go_end0
          exact ⟨⟨_, rfl⟩, .inl HJ3.out⟩
      · have hd : decide ((i : Int) < (nn : Int)) = false := by simpa using hlt
        rw [List.drop_eq_nil_of_le (by omega)] at hrun
        have hrun : pre = ys := hrun
        subst hrun
        have HJ3 := Lib.hid hJ3
        clear hJ3 hcw
        gi_wp2
        go_end0
        exact ⟨⟨_, rfl⟩, .inl HJ3.out⟩
end Go.Proofs.Ytkgkkbfpkgfcaaa
