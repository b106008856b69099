/- The arguments that come in, opened. -/
import Derived.Test.YtmgaibeibfholaaDoorP30
import Derived.Test.YtmgaibeibfholaaDoorRows
import Derived.OpenShut
import Derived.Deep.Slices
namespace Go.Proofs.YtmgaibeibfholaaDoor
set_option maxRecDepth 100000
open Go.RowKit Go.Shelf Go.Maps Plain Go.ChangeShapes Go.WideShapes
set_option linter.unusedVariables false
set_option linter.unusedSimpArgs false

theorem spot_of {w : World} {x : Addr} (h : (w.cell? (x.add 0)).isSome) : ∃ b off, x = ⟨b, off, none⟩ ∧ b < w.heap.size := by
  have e : x.add 0 = x := by unfold Addr.add; simp
  rw [e] at h
  obtain ⟨b, off, sp⟩ := x
  unfold World.cell? at h
  cases hb : w.heap[b]? with
  | none => simp [hb] at h
  | some o =>
    simp only [hb] at h
    cases o with
    | cells c el fz =>
      simp only at h
      cases sp with
      | none => exact ⟨b, off, rfl, (Array.getElem?_eq_some_iff.1 hb).1⟩
      | some i => simp at h
    | _ => simp at h
theorem of_wf64 {x : Int} (h : (Lit.int .i64 x).wf = true) : i64ok x := by
  have e1 : IntKind.i64.min = -9223372036854775808 := by decide
  have e2 : IntKind.i64.max = 9223372036854775807 := by decide
  simp only [Lit.wf, e1, e2, Bool.and_eq_true, decide_eq_true_eq] at h
  exact h
theorem part_le {H : Type} {d : DataW H} {l : List (DataW H)} (h : d ∈ l) : Rows.uptoBulk d ≤ Rows.uptoBulkAll l := by
  induction l with
  | nil => cases h
  | cons x r ih =>
    simp only [Rows.uptoBulkAll]
    cases List.mem_cons.1 h with
    | inl e => subst e; omega
    | inr e => have := ih e; omega
theorem in_agg {H : Type} {d : DataW H} {l : List (DataW H)} (h : d ∈ l) : Rows.uptoBulk d ≤ Rows.uptoBulk (.agg l) := by
  have := part_le h
  simp only [Rows.uptoBulk]; omega
theorem in_slice {H : Type} {d : DataW H} {l s : List (DataW H)} (h : d ∈ l) : Rows.uptoBulk d ≤ Rows.uptoBulk (.slice l s) := by
  have := part_le h
  simp only [Rows.uptoBulk]; omega
/-- few values and letters -/
def sml {H : Type} (d : DataW H) : Prop := Rows.uptoBulk d ≤ 1048576
theorem Tryd.cTerm : Tryd.prog.cellsOf 35 = 3 := by kernel_rfl
theorem Tryd.cSlot : Tryd.prog.cellsOf 37 = 4 := by kernel_rfl
theorem Tryd.cPat : Tryd.prog.cellsOf 40 = 12 := by kernel_rfl
theorem Tryd.cLit : Tryd.prog.cellsOf 43 = 21 := by kernel_rfl
theorem Tryd.cRule : Tryd.prog.cellsOf 46 = 13 := by kernel_rfl
theorem Tryd.cStr : Tryd.prog.cellsOf 9 = 1 := by kernel_rfl
theorem Tryd.cKind : Tryd.prog.cellsOf 33 = 1 := by kernel_rfl
theorem Tryd.cLk : Tryd.prog.cellsOf 41 = 1 := by kernel_rfl
theorem Tryd.cLits : Tryd.prog.cellsOf 44 = 1 := by kernel_rfl
section
variable {H : Type} {enc : TypeId × Value → H} {w : World} {base : Nat} {spare : Nat → Bool} {held : Bool} {fuel : Nat}
theorem open_str {cs : List Value} {x : DataW H × List MemPlace} (h : DataW.trod enc Tryd.prog w base spare held fuel 9 cs = some x) :
    ∃ s : ByteArray, cs = [.string s] ∧ s.size ≤ 9223372036854775807 ∧ (sml x.1 → s.size < 4294967281) := by
  obtain ⟨s, rfl, rfl, hs⟩ := DataW.trod_string Tryd.underlying9 h
  refine ⟨s, rfl, by unfold maxLen at hs; omega, fun hb => ?_⟩
  unfold sml at hb
  simp only [Rows.uptoBulk] at hb
  have : s.data.toList.length = s.size := by rw [Array.length_toList]; rfl
  omega
theorem open_term {cs : List Value} {x : DataW H × List MemPlace} (h : DataW.trod enc Tryd.prog w base spare held fuel 35 cs = some x) :
    ∃ t : Tm, cs = [.int .i64 t.kind, .string t.text, .string t.extra] ∧ i64ok t.kind ∧ fitR t ∧ (sml x.1 → fitT t) := by
  obtain ⟨xs, n, _, rfl, hl, hxl, hf⟩ := DataW.trod_struct Tryd.underlying35 h
  rw [Tryd.cTerm] at hl
  match xs, hxl, cs, hl with
  | [y0, y1, y2], _, [v0, v1, v2], _ =>
    have g0 := hf 0 _ rfl
    have g1 := hf 1 _ rfl
    have g2 := hf 2 _ rfl
    simp [Tryd.cStr, Tryd.cKind] at g0 g1 g2
    obtain ⟨n0, e0, _, w0⟩ := DataW.trod_int Tryd.underlying33 g0
    obtain ⟨s1, e1, b1, k1⟩ := open_str g1
    obtain ⟨s2, e2, b2, k2⟩ := open_str g2
    simp at e0 e1 e2
    subst e0; subst e1; subst e2
    refine ⟨⟨n0, s1, s2⟩, rfl, of_wf64 w0, ⟨b1, b2⟩, fun hb => ⟨k1 ?_, k2 ?_⟩⟩
    · exact Nat.le_trans (in_agg (by simp)) hb
    · exact Nat.le_trans (in_agg (by simp)) hb
theorem open_slot {cs : List Value} {x : DataW H × List MemPlace} (h : DataW.trod enc Tryd.prog w base spare held fuel 37 cs = some x) :
    ∃ s : So, cs = [.string s.var, .int .i64 s.tm.kind, .string s.tm.text, .string s.tm.extra] ∧ fitRS s ∧ (sml x.1 → fitS s) := by
  obtain ⟨xs, n, _, rfl, hl, hxl, hf⟩ := DataW.trod_struct Tryd.underlying37 h
  rw [Tryd.cSlot] at hl
  match xs, hxl, cs, hl with
  | [y0, y1], _, [v0, v1, v2, v3], _ =>
    have g0 := hf 0 _ rfl
    have g1 := hf 1 _ rfl
    simp [Tryd.cStr, Tryd.cTerm] at g0 g1
    obtain ⟨s0, e0, b0, k0⟩ := open_str g0
    obtain ⟨t, e1, i1, b1, k1⟩ := open_term g1
    simp at e0 e1
    obtain ⟨rfl, rfl, rfl⟩ := e1
    subst e0
    refine ⟨⟨s0, t⟩, rfl, ⟨b0, b1⟩, fun hb => ⟨k0 ?_, k1 ?_, i1⟩⟩
    · exact Nat.le_trans (in_agg (by simp)) hb
    · exact Nat.le_trans (in_agg (by simp)) hb
theorem open_pat {cs : List Value} {x : DataW H × List MemPlace} (h : DataW.trod enc Tryd.prog w base spare held fuel 40 cs = some x) :
    ∃ p : Pn, cs = pnC p ∧ fitRN p ∧ (sml x.1 → fitN p) := by
  obtain ⟨xs, m, _, rfl, hl, hxl, hf⟩ := DataW.trod_array Tryd.underlying40 h
  rw [Tryd.cPat] at hl
  rw [Tryd.cSlot] at hf
  match xs, hxl, cs, hl with
  | [y0, y1, y2], _, [v0, v1, v2, v3, v4, v5, v6, v7, v8, v9, v10, v11], _ =>
    have g0 := hf 0 (by omega)
    have g1 := hf 1 (by omega)
    have g2 := hf 2 (by omega)
    simp at g0 g1 g2
    obtain ⟨a, e0, b0, k0⟩ := open_slot g0
    obtain ⟨b, e1, b1, k1⟩ := open_slot g1
    obtain ⟨c, e2, b2, k2⟩ := open_slot g2
    simp at e0 e1 e2
    obtain ⟨rfl, rfl, rfl, rfl⟩ := e0
    obtain ⟨rfl, rfl, rfl, rfl⟩ := e1
    obtain ⟨rfl, rfl, rfl, rfl⟩ := e2
    refine ⟨⟨a, b, c⟩, rfl, ⟨b0, b1, b2⟩, fun hb => ⟨k0 ?_, k1 ?_, k2 ?_⟩⟩
    all_goals exact Nat.le_trans (in_agg (by simp)) hb
theorem open_lit {cs : List Value} {x : DataW H × List MemPlace} (h : DataW.trod enc Tryd.prog w base spare held fuel 43 cs = some x) :
    ∃ l : Pa, cs = paC l ∧ fitRL l ∧ (sml x.1 → fitL l) := by
  obtain ⟨xs, n, _, rfl, hl, hxl, hf⟩ := DataW.trod_struct Tryd.underlying43 h
  rw [Tryd.cLit] at hl
  match xs, hxl, cs, hl with
  | [y0, y1, y2, y3], _, [v0, v1, v2, v3, v4, v5, v6, v7, v8, v9, v10, v11, v12, v13, v14, v15, v16, v17, v18, v19, v20], _ =>
    have g0 := hf 0 _ rfl
    have g1 := hf 1 _ rfl
    have g2 := hf 2 _ rfl
    have g3 := hf 3 _ rfl
    simp [Tryd.cLk, Tryd.cPat, Tryd.cSlot] at g0 g1 g2 g3
    obtain ⟨n0, e0, _, w0⟩ := DataW.trod_int Tryd.underlying41 g0
    obtain ⟨p, e1, b1, k1⟩ := open_pat g1
    obtain ⟨a, e2, b2, k2⟩ := open_slot g2
    obtain ⟨b, e3, b3, k3⟩ := open_slot g3
    simp [pnC] at e0 e1 e2 e3
    obtain ⟨rfl, rfl, rfl, rfl, rfl, rfl, rfl, rfl, rfl, rfl, rfl, rfl⟩ := e1
    obtain ⟨rfl, rfl, rfl, rfl⟩ := e2
    obtain ⟨rfl, rfl, rfl, rfl⟩ := e3
    subst e0
    refine ⟨⟨n0, p, a, b⟩, rfl, ⟨b1, b2, b3⟩, fun hb => ⟨k1 ?_, k2 ?_, k3 ?_⟩⟩
    all_goals exact Nat.le_trans (in_agg (by simp)) hb
theorem pl_add (b off k : Nat) : (⟨b, off, none⟩ : Addr).add k = ⟨b, off + k, none⟩ := by unfold Addr.add; split <;> simp_all
theorem open_body {cs : List Value} {x : DataW H × List MemPlace} (h : DataW.trod enc Tryd.prog w base spare held fuel 44 cs = some x) :
    ∃ (a : Option Addr) (cap : Nat) (L : List Pa), cs = [.slice a L.length cap] ∧ BodAt w a L ∧ (∀ l ∈ L, fitRL l) ∧ L.length ≤ maxLen ∧ (sml x.1 → ∀ l ∈ L, fitL l) := by
  rcases Deep.open_slice Tryd.underlying44 h with ⟨rfl, _⟩ | ⟨a', len, cap, m, n, D, Pl, rfl, hb, hl, hm, hmm, rfl, hx⟩
  · exact ⟨none, 0, [], rfl, fun j hj => absurd hj (Nat.not_lt_zero _), by simp, Nat.zero_le _, by simp⟩
  · rw [Tryd.cLit] at hx
    have hlm : len ≤ m := by rw [hmm]; split <;> omega
    have each : ∀ i, i < len → ∃ l : Pa, (fitRL l ∧ (sml (D i) → fitL l)) ∧ ∀ k v, (paC l)[k]? = some v → w.cell? (a'.add (i * 21 + k)) = some v := by
      intro i hi
      obtain ⟨cs', h1, h2⟩ := hx i (by omega)
      obtain ⟨_, hlen, hcell⟩ := World.cells?_some h1
      obtain ⟨s, rfl, hs, hk⟩ := open_lit h2
      refine ⟨s, ⟨hs, hk⟩, fun k v hk => ?_⟩
      have hk11 : k < 21 := by
        have := (List.getElem?_eq_some_iff.1 hk).1
        simpa [paC] using this
      have := hcell k hk11
      rw [Deep.add_add] at this
      rw [this]; exact hk
    haveI : Inhabited Pa := ⟨⟨0, pn0, so0, so0⟩⟩
    obtain ⟨f, hf⟩ := Deep.choose_lt each
    refine ⟨some a', cap, (List.range len).map f, by simp, fun j hj => ?_, fun l hl => ?_, by simp; omega, fun hs l hl => ?_⟩
    · have hj' : j < len := by simpa using hj
      have hc := (hf j hj').2
      obtain ⟨b, off, rfl, hb'⟩ : ∃ b off, a' = ⟨b, off, none⟩ ∧ b < w.heap.size := by
        have hs := (hf 0 (by omega)).2 0 _ rfl
        simp only [Nat.zero_mul, Nat.add_zero] at hs
        exact spot_of (by rw [hs]; rfl)
      refine ⟨b, off, rfl, hb', fun k v hk => ?_⟩
      simp only [List.getElem_map, List.getElem_range] at hk
      have := hc k v hk
      rw [pl_add] at this
      rw [Nat.add_assoc]; exact this
    · obtain ⟨i, hi, rfl⟩ := List.mem_map.1 hl
      exact (hf i (List.mem_range.1 hi)).1.1
    · obtain ⟨i, hi, rfl⟩ := List.mem_map.1 hl
      refine (hf i (List.mem_range.1 hi)).1.2 ?_
      exact Nat.le_trans (in_slice (List.mem_map.2 ⟨i, hi, rfl⟩)) hs
theorem open_rule {cs : List Value} {x : DataW H × List MemPlace} (h : DataW.trod enc Tryd.prog w base spare held fuel 46 cs = some x) :
    ∃ r : Ru, cs = ruC r ∧ BodAt w r.adr r.body ∧ fitRRu r ∧ (sml x.1 → fitRu r) := by
  obtain ⟨xs, n, _, rfl, hl, hxl, hf⟩ := DataW.trod_struct Tryd.underlying46 h
  rw [Tryd.cRule] at hl
  match xs, hxl, cs, hl with
  | [y0, y1], _, [v0, v1, v2, v3, v4, v5, v6, v7, v8, v9, v10, v11, v12], _ =>
    have g0 := hf 0 _ rfl
    have g1 := hf 1 _ rfl
    simp [Tryd.cPat, Tryd.cLits] at g0 g1
    obtain ⟨p, e0, b0, k0⟩ := open_pat g0
    obtain ⟨a, cap, L, e1, hB, b1, hL, k1⟩ := open_body g1
    simp [pnC] at e0 e1
    obtain ⟨rfl, rfl, rfl, rfl, rfl, rfl, rfl, rfl, rfl, rfl, rfl, rfl⟩ := e0
    subst e1
    refine ⟨⟨p, L, a, cap⟩, rfl, hB, ⟨b0, b1, hL⟩, fun hb => ⟨k0 ?_, k1 ?_, hL⟩⟩
    all_goals exact Nat.le_trans (in_agg (by simp)) hb
theorem open_rules {a : Option Addr} {len cap : Nat} {x : DataW H × List MemPlace} (h : DataW.trod enc Tryd.prog w base spare held fuel 22 [.slice a len cap] = some x) :
    ∃ l : List Ru, l.length = len ∧ RusAt w a l ∧ (∀ r ∈ l, fitRRu r) ∧ l.length ≤ cap ∧ cap ≤ maxLen ∧ (sml x.1 → ∀ r ∈ l, fitRu r) := by
  rcases Deep.open_slice Tryd.underlying22 h with ⟨hcs, _⟩ | ⟨a', len', cap', m, n, D, Pl, hcs, hb, hl, hm, hmm, rfl, hx⟩
  · simp at hcs
    obtain ⟨rfl, rfl, rfl⟩ := hcs
    exact ⟨[], rfl, fun j hj => absurd hj (Nat.not_lt_zero _), by simp, Nat.zero_le _, Nat.zero_le _, by simp⟩
  · simp at hcs
    obtain ⟨rfl, rfl, rfl⟩ := hcs
    rw [Tryd.cRule] at hx
    have hlm : len ≤ m := by rw [hmm]; split <;> omega
    have each : ∀ i, i < len → ∃ r : Ru, (BodAt w r.adr r.body ∧ fitRRu r ∧ (sml (D i) → fitRu r)) ∧ ∀ k v, (ruC r)[k]? = some v → w.cell? (a'.add (i * 13 + k)) = some v := by
      intro i hi
      obtain ⟨cs', h1, h2⟩ := hx i (by omega)
      obtain ⟨_, hlen, hcell⟩ := World.cells?_some h1
      obtain ⟨s, rfl, hB, hs, hk⟩ := open_rule h2
      refine ⟨s, ⟨hB, hs, hk⟩, fun k v hk => ?_⟩
      have hk11 : k < 13 := by
        have := (List.getElem?_eq_some_iff.1 hk).1
        simpa [ruC] using this
      have := hcell k hk11
      rw [Deep.add_add] at this
      rw [this]; exact hk
    haveI : Inhabited Ru := ⟨⟨pn0, [], none, 0⟩⟩
    obtain ⟨f, hf⟩ := Deep.choose_lt each
    refine ⟨(List.range len).map f, by simp, fun j hj => ?_, fun l hl => ?_, by simp; omega, hm, fun hs l hl => ?_⟩
    · have hj' : j < len := by simpa using hj
      have hc := (hf j hj').2
      obtain ⟨b, off, rfl, hb'⟩ : ∃ b off, a' = ⟨b, off, none⟩ ∧ b < w.heap.size := by
        have hs := (hf 0 (by omega)).2 0 _ rfl
        simp only [Nat.zero_mul, Nat.add_zero] at hs
        exact spot_of (by rw [hs]; rfl)
      refine ⟨b, off, rfl, hb', fun k v hk => ?_, ?_⟩
      · simp only [List.getElem_map, List.getElem_range] at hk
        have := hc k v hk
        rw [pl_add] at this
        rw [Nat.add_assoc]; exact this
      · simp only [List.getElem_map, List.getElem_range]
        exact (hf j hj').1.1
    · obtain ⟨i, hi, rfl⟩ := List.mem_map.1 hl
      exact (hf i (List.mem_range.1 hi)).1.2.1
    · obtain ⟨i, hi, rfl⟩ := List.mem_map.1 hl
      refine (hf i (List.mem_range.1 hi)).1.2.2 ?_
      exact Nat.le_trans (in_slice (List.mem_map.2 ⟨i, hi, rfl⟩)) hs
end
/-! ### what may be is short -/
theorem fit_of_iri {s : ByteArray} (h : iriB s = true) : s.size < 4294967281 := by
  unfold iriB at h
  simp only [Bool.and_eq_true, decide_eq_true_eq] at h
  omega
theorem fit_of_word {s : ByteArray} {n : Nat} (h : wordB s n = true) (hn : n ≤ 64) : s.size < 4294967281 := by
  unfold wordB at h
  simp only [Bool.and_eq_true, decide_eq_true_eq] at h
  omega
theorem fit_of_val {s : ByteArray} (h : valB s = true) : s.size < 4294967281 := by
  unfold valB at h
  simp only [Bool.and_eq_true, decide_eq_true_eq] at h
  omega
theorem fit_of_em {s : ByteArray} (h : emB s = true) : s.size < 4294967281 := by
  unfold emB at h
  simp only [decide_eq_true_eq] at h
  omega
theorem fit_of_tag {s : ByteArray} (h : tagB s = true) : s.size < 4294967281 := by
  unfold tagB at h
  simp only [Bool.and_eq_true, decide_eq_true_eq] at h
  omega
theorem fit_of_mayT {t : Tm} (h : mayT t = true) : fitT t ∧ i64ok t.kind := by
  unfold mayT at h
  split at h
  · rename_i hk
    obtain ⟨h1, h2⟩ := (Bool.and_eq_true _ _).mp h
    exact ⟨⟨fit_of_iri h1, fit_of_em h2⟩, by rw [hk]; exact ⟨by decide, by decide⟩⟩
  split at h
  · rename_i hk
    obtain ⟨h1, h2⟩ := (Bool.and_eq_true _ _).mp h
    exact ⟨⟨fit_of_word h1 (by omega), fit_of_em h2⟩, by rw [hk]; exact ⟨by decide, by decide⟩⟩
  split at h
  · rename_i hk
    obtain ⟨h1, h2⟩ := (Bool.and_eq_true _ _).mp h
    exact ⟨⟨fit_of_val h1, fit_of_em h2⟩, by rw [hk]; exact ⟨by decide, by decide⟩⟩
  split at h
  · rename_i hk
    obtain ⟨h1, h2⟩ := (Bool.and_eq_true _ _).mp h
    exact ⟨⟨fit_of_val h1, fit_of_tag h2⟩, by rw [hk]; exact ⟨by decide, by decide⟩⟩
  split at h
  · rename_i hk
    obtain ⟨h1, h2⟩ := (Bool.and_eq_true _ _).mp h
    exact ⟨⟨fit_of_val h1, fit_of_iri ((Bool.and_eq_true _ _).mp h2).1⟩, by rw [hk]; exact ⟨by decide, by decide⟩⟩
  · cases h
theorem fit_tm0 : fitT tm0 ∧ i64ok tm0.kind := ⟨⟨by show 0 < 4294967281; omega, by show 0 < 4294967281; omega⟩, by show i64ok 0; exact ⟨by decide, by decide⟩⟩
theorem fit_so0 : fitS so0 := ⟨by show 0 < 4294967281; omega, fit_tm0.1, fit_tm0.2⟩
theorem fit_of_maySo {s : So} (h : maySo s = true) : fitS s := by
  unfold maySo at h
  split at h
  · rename_i hz
    exact ⟨by omega, (fit_of_mayT h).1, (fit_of_mayT h).2⟩
  · obtain ⟨h1, h2⟩ := (Bool.and_eq_true _ _).mp h
    have e : s.tm = tm0 := of_decide_eq_true h2
    exact ⟨fit_of_word h1 (by omega), by rw [e]; exact fit_tm0.1, by rw [e]; exact fit_tm0.2⟩
theorem fit_of_mayPn {p : Pn} (h : mayPn p = true) : fitN p := by
  unfold mayPn at h
  simp only [Bool.and_eq_true] at h
  exact ⟨fit_of_maySo h.1, fit_of_maySo h.2.1, fit_of_maySo h.2.2⟩
theorem fit_of_mayPa {l : Pa} (h : mayPa l = true) : fitL l := by
  unfold mayPa at h
  split at h
  · simp only [Bool.and_eq_true, decide_eq_true_eq] at h
    exact ⟨fit_of_mayPn h.1, by rw [h.2.1]; exact fit_so0, by rw [h.2.2]; exact fit_so0⟩
  split at h
  · simp only [Bool.and_eq_true, decide_eq_true_eq] at h
    exact ⟨by rw [h.1]; exact ⟨fit_so0, fit_so0, fit_so0⟩, fit_of_maySo h.2.1, fit_of_maySo h.2.2⟩
  · cases h
theorem fit_of_mayRu {r : Ru} (h : mayRu r = true) : fitRu r := by
  unfold mayRu at h
  simp only [Bool.and_eq_true, decide_eq_true_eq, List.all_eq_true] at h
  exact ⟨fit_of_mayPn h.1, fun x hx => fit_of_mayPa (h.2.2 x hx), by unfold maxLen; omega⟩
end Go.Proofs.YtmgaibeibfholaaDoor
