/- May a text be an IRI's: walked. -/
import Derived.Test.YtmgaibeibfholaaDoorP4
namespace Go.Proofs.YtmgaibeibfholaaDoor
set_option maxRecDepth 100000
open Go.RowKit Go.Shelf Plain
set_option linter.unusedVariables false
attribute [local go_sem] Oper.semAt_some

theorem iri_yes {s : ByteArray} (h1 : 1 ≤ s.size) (h2 : s.size ≤ 1000) (hv : vlB s = true) (h : ∀ x ∈ rl (bl s) 0, okc x.2) : iriB s = true := by
  unfold iriB
  rw [hv, iri_bytes s hv, List.all_eq_true.2 (fun x hx => decide_eq_true (h x hx)), decide_eq_true h1, decide_eq_true h2]; rfl
theorem iri_no {s : ByteArray} (hv : vlB s = true) (h : ∃ x ∈ rl (bl s) 0, ¬ okc x.2) : iriB s = false := by
  unfold iriB
  have : ((rl (bl s) 0).all fun x => decide (okc x.2)) = false := by
    rw [← Bool.not_eq_true, List.all_eq_true]
    intro hh
    obtain ⟨x, hx, hn⟩ := h
    exact hn (of_decide_eq_true (hh x hx))
  rw [iri_bytes s hv, this]; simp
theorem iri_out {s : ByteArray} (h : ¬ (1 ≤ s.size ∧ s.size ≤ 1000 ∧ vlB s = true)) : iriB s = false := by
  unfold iriB
  by_cases h1 : 1 ≤ s.size
  · by_cases h2 : s.size ≤ 1000
    · have : vlB s = false := by cases hv : vlB s with | false => rfl | true => exact absurd ⟨h1, h2, hv⟩ h
      rw [this]; simp
    · rw [decide_eq_false h2]; simp
  · rw [decide_eq_false h1]; simp

theorem undef_bool {b : Bool} (h : some undef = some (Value.bool b)) : False := by
  have := Option.some.inj h
  unfold undef at this
  cases this
theorem okc_snoc {pre : List (Nat × Int)} {i : Nat} {r : Int} (h : ∀ y ∈ pre, okc y.2) (hr : okc r) : ∀ y ∈ pre ++ [(i, r)], okc y.2 := by
  intro y hy
  rcases List.mem_append.1 hy with h' | h'
  · exact h y h'
  · simp at h'; subst h'; exact hr
theorem setCell_other {W : World} {a : Addr} {v : Value} {b o : Nat} (h : b ≠ a.block) : (W.setCell a v).cell? ⟨b, o, none⟩ = W.cell? ⟨b, o, none⟩ :=
  World.cell?_of_block (w := W) (a := ⟨b, o, none⟩) (Below.heap_setCell W a v b h)

set_option maxRecDepth 100000 in
set_option maxHeartbeats 2000000 in
theorem iri_in (s : ByteArray) (h1 : 1 ≤ s.size) (h2 : s.size ≤ 1000) (hv : vlB s = true) (w : World) :
    CallsIn Fence.wide 9 Tryd.prog 48 #[.string s] w fun e W' => e = .returned (.bool (iriB s)) ∧ Below w.heap.size w W' := by
  have hfn : ∀ k, Fence.wide.fn k := fun _ => trivial
  have gA : decide ((s.size : Int) < 1) = false := decide_eq_false (by omega)
  have gB : decide ((1000 : Int) < s.size) = false := decide_eq_false (by omega)
  have gC : decide (1000 < s.size) = false := decide_eq_false (by omega)
  have Hv := Lib.hid hv; clear hv
  refine callsIn_of_wp_marks Tryd.func48 rfl trivial ?_ rfl
  simp only [Tryd.ntmps48, List.size_toArray, List.length_cons, List.length_nil, Nat.reduceAdd, Nat.reduceSub, Array.replicate_succ, Array.replicate_zero, List.push_toArray, List.append_toArray, List.nil_append, List.cons_append]
  have c0 := cell_new_l w (.bool false) 4
  generalize hw0 : w.alloc (.cells #[.bool false] 4) = w0 at *
  have z0 : w0.heap.size = w.heap.size + 1 := by rw [← hw0]; simp
  have b0 : Below w.heap.size w w0 := by rw [← hw0]; exact (Below.refl _ w).alloc (Nat.le_refl _) _
  have C0 := Lib.hid c0; have Z0 := Lib.hid z0; have B0 := Lib.hid b0; have W0 := Lib.hid hw0
  clear c0 z0 b0 hw0
  gi_wp2_with (first | (gi_at_call 58; rw [W0.out]; refine (callsIn_wide.2 (valid_any s (by omega) true Hv.out _)).mono ?_; rintro e w1 ⟨rfl, hB1⟩; have B1 := Lib.hid hB1; clear hB1) | (gi_at_call 59; refine (callsIn_wide.2 (runes_any _ _)).mono ?_; rintro e w' ⟨rfl, rfl⟩))
  have z1 : w0.heap.size ≤ w1.heap.size := B1.out.size
  have hz0 := Z0.out
  have d0 : w1.cell? ⟨w.heap.size, 0, none⟩ = some (.bool false) := (B1.out.cell (p := ⟨w.heap.size, 0, none⟩) (by rw [Z0.out]; exact Nat.lt_succ_self _)).trans C0.out.1
  have d1 : w1.frozen? ⟨w.heap.size, 0, none⟩ = false := by
    have := B1.out.block w.heap.size (by rw [Z0.out]; exact Nat.lt_succ_self _)
    have h := C0.out.2
    unfold World.frozen? at h ⊢
    dsimp only at h ⊢
    rw [this]; exact h
  have e0 := cell_new_l w1 (.string s) 9
  have hB0 : Below w.heap.size w (w1.alloc (.cells #[.string s] 9)) := (B0.out.trans (B1.out.mono (by rw [Z0.out]; exact Nat.le_succ _))).alloc (by omega) _
  have hL : (rl (bl s) 0).length ≤ s.size := by have := rl_length (bl_isB s) 0; rw [bl_length] at this; omega
  refine wpIn_rangeFunc_ownF rfl (by decide) (gf := 66) (lb := #[.pointer (some ⟨w1.heap.size, 0, none⟩)]) rfl trivial (enters_of Tryd.func66 (by kernel_rfl) rfl)
    (runes_stops (9 - 1) w1.heap.size s.size s (by omega) hL _ (by simp) e0.1) KeepB.t KeepB.b (Below.refl _ _) (fun _ => rfl)
    (fun pre W => ((∀ y ∈ pre, okc y.2) ∧ W.cell? ⟨w.heap.size, 0, none⟩ = some (.bool false) ∧ W.frozen? ⟨w.heap.size, 0, none⟩ = false) ∧ Below w.heap.size w W)
    (fun c pre W => (c = .ret ∧ (∃ y ∈ pre, ¬ okc y.2) ∧ W.cell? ⟨w.heap.size, 0, none⟩ = some (.bool false)) ∧ Below w.heap.size w W)
    (OwnFrom.and (Own.from (fun s A B row hs hg hr => ⟨hs.1, cell_kept hs.2.1 hg hr, (frozen_kept hs.2.1 hg hr).trans hs.2.2⟩) _) (ownFrom_below (Nat.le_refl _) (by simp; omega)))
    (fun c => OwnFrom.and (Own.from (fun s A B row hs hg hr => ⟨hs.1, hs.2.1, cell_kept hs.2.2 hg hr⟩) _) (ownFrom_below (Nat.le_refl _) (by simp; omega)))
    ⟨⟨by simp, cell_alloc_l _ d0, frozen_alloc_l _ d0 d1⟩, hB0⟩
    (fun x => { tmps := #[.string s, undef, .pointer (some ⟨w.heap.size, 0, none⟩), undef, .int .i64 x.2, .string s, .int .i64 s.size, .bool false, .bool false, .string s, .int .i64 s.size, .bool false, .bool false, .bool false, .string s, .bool true, .bool false, .bool false, .string s, .func (.func 66) #[] #[.pointer (some ⟨w1.heap.size, 0, none⟩)], .int .i64 x.1, .int .i64 x.2, undef, undef, undef, undef, undef, undef, undef, undef, undef, undef, undef, undef], defers := [] }) ?assign ?body ?done ?stop
  case assign =>
    intro l x W K hK
    gi_wp2
    exact hK
  case body =>
    rintro l pre x W ⟨⟨hp, hc, hf⟩, hB⟩ _
    have HB := Lib.hid hB; have HP := Lib.hid hp; clear hB hp
    clear d0 d1 e0 hB0 hL z1 hz0
    obtain ⟨i, r⟩ := x
    dsimp only
    by_cases ha : r ≤ 32
    · have ha' : decide (r ≤ 32) = true := decide_eq_true ha
      have Hn := Lib.hid (show ¬ okc r by unfold okc; omega)
      gi_wp2_with fail
      all_goals first | exact (undef_bool ‹some undef = some (Value.bool _)›).elim | exact ⟨KeepsOthers.setCell _ _ _, ⟨rfl, ⟨(i, r), by simp, Hn.out⟩, World.cell?_setCell_same' _ _ _ (by rw [hc]; rfl)⟩, HB.out.setCell (p := ⟨w.heap.size, 0, none⟩) (Nat.le_refl _) _⟩
    · have ha' : decide (r ≤ 32) = false := decide_eq_false ha
      by_cases hb : r < 128
      · have hb' : decide (r < 128) = true := decide_eq_true hb
        obtain ⟨q, hq⟩ : ∃ q, Lib.indexByte badS.data.toList r.toNat.toUInt8 = q := ⟨_, rfl⟩
        have Hq := Lib.hid hq
        have hbad := badS_iff r (by omega) hb
        rw [hq] at hbad
        clear hq
        have Hbad := Lib.hid hbad; clear hbad
        by_cases hq0 : 0 ≤ q
        · have hq' : decide (0 ≤ q) = true := decide_eq_true hq0
          have Hn := Lib.hid (Hbad.out.1 hq0)
          gi_wp2_with (gi_at_call 60; refine (CallsIn.inRound l (callsIn_wide.2 (indexByte_any badS r q Hq.out _))).mono ?_; rintro e w' ⟨rfl, rfl⟩)
          exact ⟨KeepsOthers.setCell _ _ _, ⟨rfl, ⟨(i, r), by simp, Hn.out⟩, World.cell?_setCell_same' _ _ _ (by rw [hc]; rfl)⟩, HB.out.setCell (p := ⟨w.heap.size, 0, none⟩) (Nat.le_refl _) _⟩
        · have hq' : decide (0 ≤ q) = false := decide_eq_false hq0
          have Hn := Lib.hid (show okc r by
            by_cases h : okc r
            · exact h
            · exact absurd (Hbad.out.2 h) hq0)
          gi_wp2_with (gi_at_call 60; refine (CallsIn.inRound l (callsIn_wide.2 (indexByte_any badS r q Hq.out _))).mono ?_; rintro e w' ⟨rfl, rfl⟩)
          exact ⟨KeepsOthers.refl _, KeepB.refl _ _, ⟨by first | exact okc_snoc HP.out Hn.out | exact fun a b h => okc_snoc HP.out Hn.out (a, b) h, hc, hf⟩, HB.out⟩
      · have hb' : decide (r < 128) = false := decide_eq_false hb
        have Hn := Lib.hid (show okc r by unfold okc; omega)
        gi_wp2
        exact ⟨KeepsOthers.refl _, KeepB.refl _ _, ⟨by first | exact okc_snoc HP.out Hn.out | exact fun a b h => okc_snoc HP.out Hn.out (a, b) h, hc, hf⟩, HB.out⟩
  case done =>
    rintro D ys W hD rfl ⟨⟨hp, hc, hf⟩, hB⟩ hK
    have HB := Lib.hid hB; clear hB
    have HP := Lib.hid (iri_yes h1 h2 Hv.out hp); clear hp
    gi_wp2
    have hK' := (KeepsOthers.setCell W ⟨w.heap.size, 0, none⟩ (.bool true)).same D _ hK rfl
    refine ⟨by simp, .inl ⟨_, _, rfl, run_takeDeferred hK', ?_⟩⟩
    have hc5 := cell_kept (World.cell?_setCell_same' W ⟨w.heap.size, 0, none⟩ (.bool true) (by rw [hc]; rfl)) (grownBy_putObj' _ D (.deferred none)) (fun r e => by cases e; exact ⟨_, hK', rfl⟩)
    refine ⟨.bool true, ?_, by rw [HP.out], (HB.out.setCell (p := ⟨w.heap.size, 0, none⟩) (Nat.le_refl _) _).trans (belowK_b (w := w) (Nat.le_refl _) _ D _ _ (by simp at hD; omega) hK' rfl rfl)⟩
    simp [results, Tryd.f48, go_sem, hc5]
  case stop =>
    rintro D c pre W hD hpre ⟨⟨rfl, hx, hc⟩, hB⟩ hK
    have HP := Lib.hid (iri_no Hv.out (by obtain ⟨y, hy, hn⟩ := hx; exact ⟨y, hpre.subset hy, hn⟩)); clear hx hpre
    have HB := Lib.hid hB; clear hB
    gi_wp2
    refine ⟨by simp, .inl ⟨_, _, rfl, run_takeDeferred hK, ?_⟩⟩
    have hc5 := cell_kept hc (grownBy_putObj' _ D (.deferred none)) (fun r e => by cases e; exact ⟨_, hK, rfl⟩)
    refine ⟨.bool false, ?_, by rw [HP.out], HB.out.trans (belowK_b (w := w) (Nat.le_refl _) W D _ _ (by simp at hD; omega) hK rfl rfl)⟩
    simp [results, Tryd.f48, go_sem, hc5]

set_option maxRecDepth 100000 in
set_option maxHeartbeats 1000000 in
theorem iri_long (s : ByteArray) (h : s.size < 1 ∨ 1000 < s.size) (w : World) :
    Calls Tryd.prog 48 #[.string s] w fun e w' => e = .returned (.bool false) ∧ Below w.heap.size w w' := by
  have hc5 := (cell_new_l w (.bool false) 4).1
  have HC := Lib.hid hc5; clear hc5
  go_enter Tryd.func48, Tryd.ntmps48
  by_cases h1 : s.size < 1
  · have gA : decide ((s.size : Int) < 1) = true := decide_eq_true (by omega)
    go_wp2_with fail
    all_goals first
      | exact (undef_bool ‹some undef = some (Value.bool _)›).elim
      | (have hc5 := HC.out
         refine bodyPost_ret (v := .bool false) (by simp [results, Tryd.f48, go_sem, hc5]) rfl ⟨rfl, ?_⟩
         exact (Below.refl _ w).alloc (Nat.le_refl _) _)
  · have gA : decide ((s.size : Int) < 1) = false := decide_eq_false (by omega)
    have gB : decide ((1000 : Int) < s.size) = true := decide_eq_true (by omega)
    go_wp2_with fail
    all_goals first
      | exact (undef_bool ‹some undef = some (Value.bool _)›).elim
      | (have hc5 := HC.out
         refine bodyPost_ret (v := .bool false) (by simp [results, Tryd.f48, go_sem, hc5]) rfl ⟨rfl, ?_⟩
         exact (Below.refl _ w).alloc (Nat.le_refl _) _)
set_option maxRecDepth 100000 in
set_option maxHeartbeats 1000000 in
theorem iri_any (s : ByteArray) (hs : s.size ≤ 9223372036854775807) (b : Bool) (hb : iriB s = b) (w : World) :
    Calls Tryd.prog 48 #[.string s] w fun e w' => e = .returned (.bool b) ∧ Below w.heap.size w w' := by
  by_cases h1 : 1 ≤ s.size
  · by_cases h2 : s.size ≤ 1000
    · cases hv : vlB s with
      | true => subst hb; exact callsIn_wide.1 (iri_in s h1 h2 hv w)
      | false =>
        obtain rfl : false = b := (iri_out (fun h => by rw [hv] at h; exact absurd h.2.2 (by simp))).symm.trans hb
        have gA : decide ((s.size : Int) < 1) = false := decide_eq_false (by omega)
        have gB : decide ((1000 : Int) < s.size) = false := decide_eq_false (by omega)
        have Hv := Lib.hid hv; clear hv hb
        go_enter Tryd.func48, Tryd.ntmps48
        go_wp2_with fail
        refine (valid_any s (by omega) false Hv.out _).mono ?_
        rintro e w1 ⟨rfl, hB⟩
        have HB := Lib.hid hB; clear hB
        have hc := (HB.out.cell (p := ⟨w.heap.size, 0, none⟩) (by simp)).trans (cell_new_l w (.bool false) 4).1
        have hf : w1.frozen? ⟨w.heap.size, 0, none⟩ = false := by
          have := HB.out.block w.heap.size (by simp)
          have h := (cell_new_l w (.bool false) 4).2
          unfold World.frozen? at h ⊢
          dsimp only at h ⊢
          rw [this]; exact h
        go_wp2
        have hc5 := World.cell?_setCell_same' w1 ⟨w.heap.size, 0, none⟩ (.bool false) (by rw [hc]; rfl)
        refine bodyPost_ret (v := .bool false) (by simp [results, Tryd.f48, go_sem, hc5]) rfl ⟨rfl, ?_⟩
        exact (((Below.refl _ w).alloc (Nat.le_refl _) _).trans (HB.out.mono (by simp))).setCell (p := ⟨w.heap.size, 0, none⟩) (Nat.le_refl _) _
    · obtain rfl : false = b := (iri_out (fun h => h2 h.2.1)).symm.trans hb
      exact iri_long s (by omega) w
  · obtain rfl : false = b := (iri_out (fun h => h1 h.1)).symm.trans hb
    exact iri_long s (by omega) w
end Go.Proofs.YtmgaibeibfholaaDoor
