/- Parts of a program: the law walked. -/
import Derived.Test.YtmgaibeibfholaaDoorP39
namespace Go.Proofs.YtmgaibeibfholaaDoor
set_option maxRecDepth 100000
open Go.RowKit Go.Shelf Go.Maps Plain
set_option linter.unusedVariables false
set_option linter.unusedSimpArgs false
attribute [local go_sem] Oper.semAt_some

/-! ### plainly -/
theorem dup_at {l : List Ru} {i : Nat} (h : dupT l i = true) : ∃ k j, ∃ (hkj : k < j) (hj : j < l.length), sameRu (l[k]'(by omega)) l[j] = true := by
  induction i with
  | zero => cases h
  | succ i ih =>
    have h' : (dupT l i || (match l[i]? with | some r => hitB (l.take i) r | none => false)) = true := h
    rw [Bool.or_eq_true] at h'
    rcases h' with h' | h'
    · exact ih h'
    · by_cases hi : i < l.length
      · rw [List.getElem?_eq_getElem hi] at h'
        have h2 : hitB (l.take i) l[i] = true := h'
        unfold hitB at h2
        rw [List.any_eq_true] at h2
        obtain ⟨x, hx, hs⟩ := h2
        obtain ⟨k, hk, rfl⟩ := List.mem_iff_getElem.1 hx
        rw [List.length_take] at hk
        rw [List.getElem_take] at hs
        exact ⟨k, i, by omega, hi, hs⟩
      · rw [List.getElem?_eq_none (by omega)] at h'
        cases h'
theorem dup_of {l : List Ru} {i k j : Nat} (hkj : k < j) (hj : j < l.length) (hji : j < i) (h : sameRu (l[k]'(by omega)) l[j] = true) : dupT l i = true := by
  induction i with
  | zero => omega
  | succ i ih =>
    show (dupT l i || (match l[i]? with | some r => hitB (l.take i) r | none => false)) = true
    rw [Bool.or_eq_true]
    by_cases hi : j < i
    · exact .inl (ih hi h)
    · obtain rfl : j = i := by omega
      right
      rw [List.getElem?_eq_getElem hj]
      show hitB (l.take j) l[j] = true
      unfold hitB
      rw [List.any_eq_true]
      exact ⟨l[k]'(by omega), List.mem_iff_getElem.2 ⟨k, by rw [List.length_take]; omega, by rw [List.getElem_take]⟩, h⟩
theorem progE_zero {l : List Ru} (h : progE l = 0) : (∀ x ∈ l, ruleE x = 0) ∧ l.any (badR (negs l)) = false ∧ dupT l l.length = false ∧ l.length ≤ 1000 := by
  have hall : ∀ x ∈ l, ruleE x = 0 := by
    unfold progE at h
    split at h
    · rename_i r hr
      have := List.find?_some hr
      simp [h] at this
    · rename_i hr
      rw [List.find?_eq_none] at hr
      intro x hx
      simpa using hr x hx
  rw [progE_none (fun j hj => hall _ (List.getElem_mem hj))] at h
  split at h
  · cases h
  split at h
  · cases h
  split at h
  · cases h
  · rename_i h1 h2 h3
    exact ⟨hall, by simpa using h1, by simpa using h2, by omega⟩
theorem progE_of {l : List Ru} (h1 : ∀ x ∈ l, ruleE x = 0) (h2 : l.any (badR (negs l)) = false) (h3 : dupT l l.length = false) (h4 : l.length ≤ 1000) : progE l = 0 := by
  rw [progE_none (fun j hj => h1 _ (List.getElem_mem hj)), h2, h3]
  simp; omega
def sub (l : List Ru) (f t : Nat) : List Ru := (l.drop f).take (t - f)
theorem sub_length {l : List Ru} {f t : Nat} (h1 : f ≤ t) (h2 : t ≤ l.length) : (sub l f t).length = t - f := by
  unfold sub; rw [List.length_take, List.length_drop]; omega
theorem sub_mem {l : List Ru} {f t : Nat} {x : Ru} (h : x ∈ sub l f t) : x ∈ l := List.mem_of_mem_drop (List.mem_of_mem_take h)
theorem sub_get {l : List Ru} {f t j : Nat} (h1 : f ≤ t) (h2 : t ≤ l.length) (h : j < (sub l f t).length) : (sub l f t)[j] = l[f + j]'(by rw [sub_length h1 h2] at h; omega) := by
  have hj : j < ((l.drop f).take (t - f)).length := h
  have e : ((l.drop f).take (t - f))[j] = l[f + j]'(by rw [sub_length h1 h2] at h; omega) := by rw [List.getElem_take, List.getElem_drop]
  exact e
theorem sub_negs {l : List Ru} {f t : Nat} (h : negs (sub l f t) = true) : negs l = true := by
  unfold negs at h ⊢
  rw [List.any_eq_true] at h ⊢
  obtain ⟨x, hx, hs⟩ := h
  exact ⟨x, sub_mem hx, hs⟩
theorem badR_mono {a b : Bool} {r : Ru} (h : a = true → b = true) (hb : badR a r = true) : badR b r = true := by
  unfold badR at hb ⊢
  rw [Bool.or_eq_true] at hb ⊢
  rcases hb with hb | hb
  · rw [Bool.and_eq_true] at hb
    exact .inl (by rw [Bool.and_eq_true]; exact ⟨h hb.1, hb.2⟩)
  · exact .inr hb
theorem progE_sub {l : List Ru} {f t : Nat} (h1 : f ≤ t) (h2 : t ≤ l.length) (h : progE l = 0) : progE (sub l f t) = 0 := by
  obtain ⟨k1, k2, k3, k4⟩ := progE_zero h
  refine progE_of (fun x hx => k1 x (sub_mem hx)) ?_ ?_ ?_
  · rw [← Bool.not_eq_true, List.any_eq_true]
    rintro ⟨x, hx, hs⟩
    rw [List.any_eq_true.2 ⟨x, sub_mem hx, badR_mono sub_negs hs⟩] at k2
    cases k2
  · rw [← Bool.not_eq_true]
    intro hd
    obtain ⟨k, j, hkj, hj, hs⟩ := dup_at hd
    rw [sub_get h1 h2, sub_get h1 h2] at hs
    rw [sub_length h1 h2] at hj
    rw [dup_of (k := f + k) (j := f + j) (by omega) (by omega) (by omega) hs] at k3
    cases k3
  · rw [sub_length h1 h2]; omega
theorem fit_of_prog {l : List Ru} (h : progE l = 0) : ∀ r ∈ l, fitRu r := fun r hr => by
  have h1 := (progE_zero h).1 r hr
  refine fit_of_mayRu ?_
  unfold ruleE at h1
  by_cases hm : mayRu r = true
  · exact hm
  · rw [if_neg hm] at h1
    exact absurd h1 (by decide)
theorem RusAt.sub {w : World} {a : Option Addr} {l : List Ru} {f t : Nat} (h : RusAt w a l) (h1 : f ≤ t) (h2 : t ≤ l.length) : RusAt w (a.map fun x => x.add (f * 13)) (sub l f t) := fun j hj => by
  rw [sub_get h1 h2]
  rw [sub_length h1 h2] at hj
  obtain ⟨g, o, e, hg, hc, hb⟩ := h (f + j) (by omega)
  refine ⟨g, o + f * 13, ?_, hg, ?_, hb⟩
  · subst e
    show some ((⟨g, o, none⟩ : Addr).add (f * 13)) = _
    rw [add_off]
  · have e : o + f * 13 + j * 13 = o + (f + j) * 13 := by omega
    rw [e]; exact hc

set_option maxRecDepth 100000 in
set_option maxHeartbeats 4000000 in
theorem parts_any (a : Option Addr) (cap : Nat) (l : List Ru) (hl : l.length ≤ cap) (hcap : cap ≤ maxLen) (hr : ∀ r ∈ l, fitRRu r) (f t : Int) (bf : i64ok f) (bt : i64ok t) (w : World) (hA : RusAt w a l) :
    Calls Tryd.prog 4 #[.slice a l.length cap, .int .i64 f, .int .i64 t] w fun e w' => e = .returned (.bool true) ∧ Below w.heap.size w w' := by
  have HA := Lib.hid hA
  have hll : l.length ≤ maxLen := Nat.le_trans hl hcap
  have hbm : ∀ r ∈ l, r.body.length ≤ maxLen := fun r h => (hr r h).2.2
  have HF := Lib.hid (few_any a cap l hll hbm w hA)
  have HR := Lib.hid (rprog_any a cap l hll hr w hA)
  obtain ⟨fb, hfb⟩ : ∃ b, fewB l = b := ⟨_, rfl⟩
  obtain ⟨e0, he⟩ : ∃ b, progE l = b := ⟨_, rfl⟩
  have Hfb := Lib.hid hfb; have He := Lib.hid he; have Hcap := Lib.hid hcap; have Hbm := Lib.hid hbm
  clear hfb he hA hr hbm bf bt
  unfold maxLen at hcap hll
  go_enter Tryd.func4, Tryd.ntmps4
  cases fb
  · go_wp2_with (first
      | (go_at_call 6; refine HF.out.mono ?_; rintro e w1 ⟨rfl, rfl⟩; rw [Hfb.out])
      | (go_at_call 7; refine (known_any _).mono ?_; rintro e w2 ⟨rfl, hB⟩; have HB := Lib.hid hB; clear hB))
    go_ret
    exact ⟨rfl, HB.out⟩
  by_cases hf0 : f < 0
  · have d1 : decide (f < 0) = true := decide_eq_true hf0
    go_wp2_with (first
      | (go_at_call 6; refine HF.out.mono ?_; rintro e w1 ⟨rfl, rfl⟩; rw [Hfb.out])
      | (go_at_call 7; refine (known_any _).mono ?_; rintro e w2 ⟨rfl, hB⟩; have HB := Lib.hid hB; clear hB))
    go_ret
    exact ⟨rfl, HB.out⟩
  have d1 : decide (f < 0) = false := decide_eq_false hf0
  by_cases hft : t < f
  · have d2 : decide (t < f) = true := decide_eq_true hft
    go_wp2_with (first
      | (go_at_call 6; refine HF.out.mono ?_; rintro e w1 ⟨rfl, rfl⟩; rw [Hfb.out])
      | (go_at_call 7; refine (known_any _).mono ?_; rintro e w2 ⟨rfl, hB⟩; have HB := Lib.hid hB; clear hB))
    go_ret
    exact ⟨rfl, HB.out⟩
  have d2 : decide (t < f) = false := decide_eq_false hft
  by_cases htl : (l.length : Int) < t
  · have d3 : decide ((l.length : Int) < t) = true := decide_eq_true htl
    go_wp2_with (first
      | (go_at_call 6; refine HF.out.mono ?_; rintro e w1 ⟨rfl, rfl⟩; rw [Hfb.out])
      | (go_at_call 7; refine (known_any _).mono ?_; rintro e w2 ⟨rfl, hB⟩; have HB := Lib.hid hB; clear hB))
    go_ret
    exact ⟨rfl, HB.out⟩
  have d3 : decide ((l.length : Int) < t) = false := decide_eq_false htl
  by_cases hz : e0 = 0
  · have q1 : (e0 == 0) = true := beq_iff_eq.2 hz
    have q2 : (e0 != 0) = false := by rw [bne, q1]; rfl
    subst hz
    obtain ⟨fn, rfl⟩ := Int.eq_ofNat_of_zero_le (show 0 ≤ f by omega)
    obtain ⟨tn, rfl⟩ := Int.eq_ofNat_of_zero_le (show 0 ≤ t by omega)
    have h1 : fn ≤ tn := by omega
    have h2 : tn ≤ l.length := by omega
    have hle1 : (fn : Int) ≤ (tn : Int) := by omega
    have hle2 : (tn : Int) ≤ (cap : Int) := by omega
    clear hf0 hft htl
    have hfs : ∀ r ∈ sub l fn tn, fitRu r := fun r hr => fit_of_prog He.out r (sub_mem hr)
    have hes := progE_sub h1 h2 He.out
    have hls := sub_length h1 h2
    have hbs : ∀ r ∈ sub l fn tn, r.body.length ≤ maxLen := fun r hr => Hbm.out r (sub_mem hr)
    have hA1 := HA.out.sub h1 h2
    have HA1 := Lib.hid hA1
    have hAe : ∀ a', tn - fn = 0 → RusAt w a' (sub l fn tn) := fun a' h0 j hj => by omega
    have HAe := Lib.hid hAe
    obtain ⟨nn, hnn⟩ : ∃ b, negs (sub l fn tn) = b := ⟨_, rfl⟩
    have HPs := Lib.hid (show ∀ W, Below w.heap.size w W → ∀ a' c', RusAt w a' (sub l fn tn) → tn - fn ≤ c' → c' ≤ 9223372036854775807 → Calls Tryd.prog 8 #[.slice a' (tn - fn) c'] W fun e w' => e = .returned (progV 0 nn) ∧ Below w.heap.size w w' from fun W hW a' c' hA hc hm => by
      have := prog_any a' c' (sub l fn tn) (by omega) (by unfold maxLen; omega) hfs W (hA.below hW)
      rw [hls, hes, hnn] at this
      exact this.mono fun e w' ⟨g1, g2⟩ => ⟨g1, below_seq hW g2 hW.size⟩)
    have HNs := Lib.hid (show ∀ W, Below w.heap.size w W → ∀ a' c', RusAt w a' (sub l fn tn) → Calls Tryd.prog 10 #[.slice a' (tn - fn) c'] W fun e w' => e = .returned (.bool nn) ∧ W = w' from fun W hW a' c' hA => by
      have := rneg_any a' c' (sub l fn tn) (by unfold maxLen; omega) hbs W (hA.below hW)
      rw [hls, hnn] at this
      exact this)
    clear hfs hes hls hbs hA1 hAe hnn
    by_cases hcf : cap = fn
    · subst hcf
      cases nn
      · rw [progV_ok] at HPs
        go_upto_region 4 with (first
                  | (go_at_call 6; refine HF.out.mono ?_; rintro e w1 ⟨rfl, rfl⟩; rw [Hfb.out])
                  | (go_at_call 9; refine HR.out.mono ?_; rintro e w1 ⟨rfl, hB⟩; rw [He.out]; have HB1 := Lib.hid hB; clear hB)
                  | (go_at_call 8; refine (HPs.out _ HB1.out _ _ (HAe.out _ (by omega)) (by omega) (by omega)).mono ?_; rintro e w2 ⟨rfl, hB⟩; have HB2 := Lib.hid hB; clear hB))
        have hbM := below_alloc (w := w2) (.cells #[.bool true] 26)
        have hm := World.alloc_heap_new w2 (.cells #[.bool true] 26)
        have HB3 := Lib.hid (below_seq HB2.out hbM HB2.out.size)
        have keep : ∀ W, Below (w2.alloc (.cells #[.bool true] 26)).heap.size (w2.alloc (.cells #[.bool true] 26)) W → W.cell? ⟨w2.heap.size, 0, none⟩ = some (.bool true) := fun W hW => (box_at ((hW.block _ (by simp)).trans hm) rfl).1
        have Keep := Lib.hid keep
        have hkn : ∀ W, Below (w2.alloc (.cells #[.bool true] 26)).heap.size (w2.alloc (.cells #[.bool true] 26)) W → Calls Tryd.prog 7 #[] W fun e w' => e = .returned (.bool true) ∧ Below (w2.alloc (.cells #[.bool true] 26)).heap.size (w2.alloc (.cells #[.bool true] 26)) w' := fun W hW => (known_any W).mono fun e w' ⟨h1, h2⟩ => ⟨h1, hW.trans (h2.mono hW.size)⟩
        have Hkn := Lib.hid hkn
        have hng : ∀ W, Below (w2.alloc (.cells #[.bool true] 26)).heap.size (w2.alloc (.cells #[.bool true] 26)) W → ∀ a' c', RusAt w a' (sub l cap tn) → Calls Tryd.prog 10 #[.slice a' (tn - cap) c'] W fun e w' => e = .returned (.bool false) ∧ W = w' := fun W hW a' c' hA => HNs.out W (HB3.out.trans (hW.mono HB3.out.size)) a' c' hA
        have Hng := Lib.hid hng
        obtain hc0 := keep _ (Below.refl _ _)
        generalize w2.alloc (.cells #[.bool true] 26) = W2 at *
        clear hbM hm keep hkn hng
        go_region_held3 (fun w' => w'.cell? ⟨w2.heap.size, 0, none⟩ = some (.bool true)) ((refine Keep.out _ ?_; repeat (first | exact Below.refl _ _ | refine Below.drew ?_ | assumption)))
          (first
            | (go_at_call 10; refine (Hng.out _ (by repeat (first | exact Below.refl _ _ | refine Below.drew ?_)) _ _ (HAe.out _ (by omega))).mono ?_; rintro e w' ⟨rfl, rfl⟩)
            | (go_at_call 7; refine (Hkn.out _ (by repeat (first | exact Below.refl _ _ | refine Below.drew ?_))).mono ?_; rintro e w' ⟨rfl, hBk⟩))
        all_goals
          go_wp2_with fail
          go_ret
          exact ⟨rfl, HB3.out.trans ((by assumption : Below W2.heap.size W2 _).mono HB3.out.size)⟩
      · rw [progV_neg] at HPs
        go_upto_region 4 with (first
                  | (go_at_call 6; refine HF.out.mono ?_; rintro e w1 ⟨rfl, rfl⟩; rw [Hfb.out])
                  | (go_at_call 9; refine HR.out.mono ?_; rintro e w1 ⟨rfl, hB⟩; rw [He.out]; have HB1 := Lib.hid hB; clear hB)
                  | (go_at_call 8; refine (HPs.out _ HB1.out _ _ (HAe.out _ (by omega)) (by omega) (by omega)).mono ?_; rintro e w2 ⟨rfl, hB⟩; have HB2 := Lib.hid hB; clear hB))
        have hbM := below_alloc (w := w2) (.cells #[.bool false] 26)
        have hm := World.alloc_heap_new w2 (.cells #[.bool false] 26)
        have HB3 := Lib.hid (below_seq HB2.out hbM HB2.out.size)
        have keep : ∀ W, Below (w2.alloc (.cells #[.bool false] 26)).heap.size (w2.alloc (.cells #[.bool false] 26)) W → W.cell? ⟨w2.heap.size, 0, none⟩ = some (.bool false) := fun W hW => (box_at ((hW.block _ (by simp)).trans hm) rfl).1
        have Keep := Lib.hid keep
        have hkn : ∀ W, Below (w2.alloc (.cells #[.bool false] 26)).heap.size (w2.alloc (.cells #[.bool false] 26)) W → Calls Tryd.prog 7 #[] W fun e w' => e = .returned (.bool true) ∧ Below (w2.alloc (.cells #[.bool false] 26)).heap.size (w2.alloc (.cells #[.bool false] 26)) w' := fun W hW => (known_any W).mono fun e w' ⟨h1, h2⟩ => ⟨h1, hW.trans (h2.mono hW.size)⟩
        have Hkn := Lib.hid hkn
        have hng : ∀ W, Below (w2.alloc (.cells #[.bool false] 26)).heap.size (w2.alloc (.cells #[.bool false] 26)) W → ∀ a' c', RusAt w a' (sub l cap tn) → Calls Tryd.prog 10 #[.slice a' (tn - cap) c'] W fun e w' => e = .returned (.bool true) ∧ W = w' := fun W hW a' c' hA => HNs.out W (HB3.out.trans (hW.mono HB3.out.size)) a' c' hA
        have Hng := Lib.hid hng
        obtain hc0 := keep _ (Below.refl _ _)
        generalize w2.alloc (.cells #[.bool false] 26) = W2 at *
        clear hbM hm keep hkn hng
        go_region_held3 (fun w' => w'.cell? ⟨w2.heap.size, 0, none⟩ = some (.bool false)) ((refine Keep.out _ ?_; repeat (first | exact Below.refl _ _ | refine Below.drew ?_ | assumption)))
          (first
            | (go_at_call 10; refine (Hng.out _ (by repeat (first | exact Below.refl _ _ | refine Below.drew ?_)) _ _ (HAe.out _ (by omega))).mono ?_; rintro e w' ⟨rfl, rfl⟩)
            | (go_at_call 7; refine (Hkn.out _ (by repeat (first | exact Below.refl _ _ | refine Below.drew ?_))).mono ?_; rintro e w' ⟨rfl, hBk⟩))
        all_goals
          go_wp2_with fail
          go_ret
          exact ⟨rfl, HB3.out.trans ((by assumption : Below W2.heap.size W2 _).mono HB3.out.size)⟩
    · cases nn
      · rw [progV_ok] at HPs
        go_upto_region 4 with (first
                  | (go_at_call 6; refine HF.out.mono ?_; rintro e w1 ⟨rfl, rfl⟩; rw [Hfb.out])
                  | (go_at_call 9; refine HR.out.mono ?_; rintro e w1 ⟨rfl, hB⟩; rw [He.out]; have HB1 := Lib.hid hB; clear hB)
                  | (go_at_call 8; refine (HPs.out _ HB1.out _ _ HA1.out (by omega) (by omega)).mono ?_; rintro e w2 ⟨rfl, hB⟩; have HB2 := Lib.hid hB; clear hB))
        have hbM := below_alloc (w := w2) (.cells #[.bool true] 26)
        have hm := World.alloc_heap_new w2 (.cells #[.bool true] 26)
        have HB3 := Lib.hid (below_seq HB2.out hbM HB2.out.size)
        have keep : ∀ W, Below (w2.alloc (.cells #[.bool true] 26)).heap.size (w2.alloc (.cells #[.bool true] 26)) W → W.cell? ⟨w2.heap.size, 0, none⟩ = some (.bool true) := fun W hW => (box_at ((hW.block _ (by simp)).trans hm) rfl).1
        have Keep := Lib.hid keep
        have hkn : ∀ W, Below (w2.alloc (.cells #[.bool true] 26)).heap.size (w2.alloc (.cells #[.bool true] 26)) W → Calls Tryd.prog 7 #[] W fun e w' => e = .returned (.bool true) ∧ Below (w2.alloc (.cells #[.bool true] 26)).heap.size (w2.alloc (.cells #[.bool true] 26)) w' := fun W hW => (known_any W).mono fun e w' ⟨h1, h2⟩ => ⟨h1, hW.trans (h2.mono hW.size)⟩
        have Hkn := Lib.hid hkn
        have hng : ∀ W, Below (w2.alloc (.cells #[.bool true] 26)).heap.size (w2.alloc (.cells #[.bool true] 26)) W → ∀ a' c', RusAt w a' (sub l fn tn) → Calls Tryd.prog 10 #[.slice a' (tn - fn) c'] W fun e w' => e = .returned (.bool false) ∧ W = w' := fun W hW a' c' hA => HNs.out W (HB3.out.trans (hW.mono HB3.out.size)) a' c' hA
        have Hng := Lib.hid hng
        obtain hc0 := keep _ (Below.refl _ _)
        generalize w2.alloc (.cells #[.bool true] 26) = W2 at *
        clear hbM hm keep hkn hng
        go_region_held3 (fun w' => w'.cell? ⟨w2.heap.size, 0, none⟩ = some (.bool true)) ((refine Keep.out _ ?_; repeat (first | exact Below.refl _ _ | refine Below.drew ?_ | assumption)))
          (first
            | (go_at_call 10; refine (Hng.out _ (by repeat (first | exact Below.refl _ _ | refine Below.drew ?_)) _ _ HA1.out).mono ?_; rintro e w' ⟨rfl, rfl⟩)
            | (go_at_call 7; refine (Hkn.out _ (by repeat (first | exact Below.refl _ _ | refine Below.drew ?_))).mono ?_; rintro e w' ⟨rfl, hBk⟩))
        all_goals
          go_wp2_with fail
          go_ret
          exact ⟨rfl, HB3.out.trans ((by assumption : Below W2.heap.size W2 _).mono HB3.out.size)⟩
      · rw [progV_neg] at HPs
        go_upto_region 4 with (first
                  | (go_at_call 6; refine HF.out.mono ?_; rintro e w1 ⟨rfl, rfl⟩; rw [Hfb.out])
                  | (go_at_call 9; refine HR.out.mono ?_; rintro e w1 ⟨rfl, hB⟩; rw [He.out]; have HB1 := Lib.hid hB; clear hB)
                  | (go_at_call 8; refine (HPs.out _ HB1.out _ _ HA1.out (by omega) (by omega)).mono ?_; rintro e w2 ⟨rfl, hB⟩; have HB2 := Lib.hid hB; clear hB))
        have hbM := below_alloc (w := w2) (.cells #[.bool false] 26)
        have hm := World.alloc_heap_new w2 (.cells #[.bool false] 26)
        have HB3 := Lib.hid (below_seq HB2.out hbM HB2.out.size)
        have keep : ∀ W, Below (w2.alloc (.cells #[.bool false] 26)).heap.size (w2.alloc (.cells #[.bool false] 26)) W → W.cell? ⟨w2.heap.size, 0, none⟩ = some (.bool false) := fun W hW => (box_at ((hW.block _ (by simp)).trans hm) rfl).1
        have Keep := Lib.hid keep
        have hkn : ∀ W, Below (w2.alloc (.cells #[.bool false] 26)).heap.size (w2.alloc (.cells #[.bool false] 26)) W → Calls Tryd.prog 7 #[] W fun e w' => e = .returned (.bool true) ∧ Below (w2.alloc (.cells #[.bool false] 26)).heap.size (w2.alloc (.cells #[.bool false] 26)) w' := fun W hW => (known_any W).mono fun e w' ⟨h1, h2⟩ => ⟨h1, hW.trans (h2.mono hW.size)⟩
        have Hkn := Lib.hid hkn
        have hng : ∀ W, Below (w2.alloc (.cells #[.bool false] 26)).heap.size (w2.alloc (.cells #[.bool false] 26)) W → ∀ a' c', RusAt w a' (sub l fn tn) → Calls Tryd.prog 10 #[.slice a' (tn - fn) c'] W fun e w' => e = .returned (.bool true) ∧ W = w' := fun W hW a' c' hA => HNs.out W (HB3.out.trans (hW.mono HB3.out.size)) a' c' hA
        have Hng := Lib.hid hng
        obtain hc0 := keep _ (Below.refl _ _)
        generalize w2.alloc (.cells #[.bool false] 26) = W2 at *
        clear hbM hm keep hkn hng
        go_region_held3 (fun w' => w'.cell? ⟨w2.heap.size, 0, none⟩ = some (.bool false)) ((refine Keep.out _ ?_; repeat (first | exact Below.refl _ _ | refine Below.drew ?_ | assumption)))
          (first
            | (go_at_call 10; refine (Hng.out _ (by repeat (first | exact Below.refl _ _ | refine Below.drew ?_)) _ _ HA1.out).mono ?_; rintro e w' ⟨rfl, rfl⟩)
            | (go_at_call 7; refine (Hkn.out _ (by repeat (first | exact Below.refl _ _ | refine Below.drew ?_))).mono ?_; rintro e w' ⟨rfl, hBk⟩))
        all_goals
          go_wp2_with fail
          go_ret
          exact ⟨rfl, HB3.out.trans ((by assumption : Below W2.heap.size W2 _).mono HB3.out.size)⟩
  · have q1 : (e0 == 0) = false := beq_eq_false_iff_ne.2 hz
    have q2 : (e0 != 0) = true := by rw [bne, q1]; rfl
    clear hz
    go_wp2_with (first
      | (go_at_call 6; refine HF.out.mono ?_; rintro e w1 ⟨rfl, rfl⟩; rw [Hfb.out])
      | (go_at_call 9; refine HR.out.mono ?_; rintro e w1 ⟨rfl, hB⟩; rw [He.out]; have HB1 := Lib.hid hB; clear hB)
      | (go_at_call 7; refine (known_any _).mono ?_; rintro e w2 ⟨rfl, hB⟩; have HB := Lib.hid (below_seq HB1.out hB HB1.out.size); clear hB))
    go_ret
    exact ⟨rfl, HB.out⟩
end Go.Proofs.YtmgaibeibfholaaDoor
