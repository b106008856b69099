/- For every slice of rows, every row and every number the Go function rhizomelaw08.TableGrows returns true, and its arguments read afterwards as before. No condition. -/
import Derived.Test.YtellmhllgmimiaaRows
import Derived.WalkKit
import Derived.ProofKit
import Derived.OpenShut
import Derived.ChangeOld
import Derived.Below
import Derived.Test.YtellmhllgmimiaaL1
import Derived.Test.YtellmhllgmimiaaG4
namespace Go.Proofs.Ytellmhllgmimiaa.tableGrows
open Go.ChangeShapes Go.WideShapes Go.ChangeAt Go.RowKit
set_option linter.unusedVariables false

theorem own : ownKnob Try.prog.godebug = none := by kernel_rfl
theorem open_rowarg {H : Type} {enc : TypeId × Value → H} {W : World} {sp : Nat → Bool} {held : Bool} {v : Value} {d : DataW H} {p : List MemPlace} (h : Value.okWide Try.prog W .any 0 25 v) (hT : DataW.Trod enc Try.prog W 0 sp held 25 v d p) :
    ∃ r : R3, v = rv r ∧ rok r := by
  unfold Value.okWide at h
  rw [Try.underlying25] at h
  obtain ⟨cs, rfl, _, _⟩ := h
  obtain ⟨fuel, hf⟩ := hT
  obtain ⟨r, h1, h2⟩ := open_rowv hf
  refine ⟨r, ?_, h2⟩
  have : cs = #[.int .u32 r.1, .int .u32 r.2.1, .int .u32 r.2.2] := by
    apply Array.toList_inj.1
    simpa [Value.cells] using h1
  rw [this]; rfl
section
variable {H : Type} {enc : TypeId × Value → H} {w : World} {base : Nat} {spare : Nat → Bool} {held : Bool} {fuel : Nat}
theorem open_rows {a : Option Addr} {len cap : Nat} {x : DataW H × List MemPlace} (h : DataW.trod enc Try.prog w base spare held fuel 22 [.slice a len cap] = some x) :
    ∃ L : List R3, L.length = len ∧ IsRows w a L := by
  rcases Deep.open_slice Try.underlying22 h with ⟨hcs, _⟩ | ⟨a', len', cap', m, n, D, Pl, hcs, hb, hl, hm, hmm, _, hx⟩
  · simp at hcs
    obtain ⟨rfl, rfl, rfl⟩ := hcs
    exact ⟨[], rfl, fun j hj => absurd hj (Nat.not_lt_zero _)⟩
  · simp at hcs
    obtain ⟨rfl, rfl, rfl⟩ := hcs
    rw [Try.cRow] at hx
    have hlm : len ≤ m := by rw [hmm]; split <;> omega
    have each : ∀ i, i < len → ∃ y : R3, ∀ k v, [Value.int .u32 y.1, .int .u32 y.2.1, .int .u32 y.2.2][k]? = some v → w.cell? (a'.add (i * 3 + k)) = some v ∧ rok y := by
      intro i hi
      obtain ⟨cs', h1, h2⟩ := hx i (by omega)
      obtain ⟨_, hlen, hcell⟩ := World.cells?_some h1
      obtain ⟨y, rfl, hr⟩ := open_rowv h2
      refine ⟨y, fun k v hk => ⟨?_, hr⟩⟩
      have hk3 : k < 3 := by
        have := (List.getElem?_eq_some_iff.1 hk).1
        simpa using this
      have := hcell k hk3
      rw [Deep.add_add] at this
      rw [this]; exact hk
    haveI : Inhabited R3 := ⟨(0, 0, 0)⟩
    obtain ⟨f, hf⟩ := Deep.choose_lt each
    refine ⟨(List.range len).map f, by simp, fun j hj => ?_⟩
    have hj' : j < len := by simpa using hj
    have hc := hf j hj'
    have h0 := (hc 0 _ rfl).1
    obtain ⟨b, off, rfl, hb'⟩ : ∃ b off, a' = ⟨b, off, none⟩ ∧ b < w.heap.size := by
      have hs := (hf 0 (by omega) 0 _ rfl).1
      simp only [Nat.zero_mul, Nat.add_zero] at hs
      exact spot_of (by rw [hs]; rfl)
    have pl : ∀ k, (⟨b, off, none⟩ : Addr).add k = ⟨b, off + k, none⟩ := by
      intro k; unfold Addr.add; split <;> simp_all
    refine ⟨b, off, rfl, hb', ?_⟩
    have c := fun k v hk => (hc k v hk).1
    simp only [pl] at c
    simp only [List.getElem_map, List.getElem_range]
    exact ⟨c 0 _ rfl, c 1 _ rfl, c 2 _ rfl, (hc 0 _ rfl).2⟩
end
set_option maxRecDepth 100000 in
theorem lifted (os : Os) (started : os.Started) (H : Type) (enc : TypeId × Value → H) :
    ReturnsInHanded {} Try.checked os 3 .any (Rows.tableGrowsSpec.pre6 enc Try.prog Try.f3 Rows.tableGrowsRow.domain false) (Rows.tableGrowsSpec.post enc Try.prog Try.f3 false true false false) := by
  refine returnsInHanded_of_change (C := Try.checked) own started (by kernel_rfl) Try.func3
    (ChangeSpec.witness6 (enc := enc) (C := Try.checked) false ⟨#[], #[.slice none 0 0, .agg #[.int .u32 0, .int .u32 0, .int .u32 0], .int .i64 0], []⟩ 8 (by kernel_rfl) (by kernel_rfl) (by kernel_rfl) (by kernel_rfl)) ?_
  intro W base args ds gs before hval0 hW hcnd _
  have hval : ∀ (j : Nat) t v, Try.f3.params[j]? = some t → args[j]? = some v → Value.okWide Try.prog W .any base t v := hval0
  have hW' := hW
  obtain ⟨p, q, hA0, hV, rfl, hfz, hnd⟩ := hW
  have hA : DataW.TrodAll enc Try.prog W 0 (fun _ => true) true Try.f3.params.toList args.toList ds p := hA0
  rw [Try.params3] at hA hval
  obtain ⟨v0, vs0, d0, ds0, p0, q0, hargs, rfl, rfl, h0, r0⟩ := trodAll_cons hA
  obtain ⟨v1, vs1, d1, ds1, p1, q1, rfl, rfl, rfl, h1, r1⟩ := trodAll_cons r0
  obtain ⟨v2, vs2, d2, ds2, p2, q2, rfl, rfl, rfl, h2, r2⟩ := trodAll_cons r1
  obtain ⟨rfl, rfl, rfl⟩ := trodAll_nil r2
  obtain rfl : args = #[v0, v1, v2] := by cases args; simp_all
  obtain ⟨rfl, rfl⟩ := trodVars_none hV
  obtain ⟨a0, len0, cap0, rfl⟩ := okWide_slice Try.underlying22 (hval 0 22 v0 rfl rfl)
  obtain ⟨leave, rfl⟩ := okWide_int Try.underlying3 (hval 2 3 v2 rfl rfl)
  have k0 := h0
  have k1 := h1
  have k2 := h2
  have lt0 : ∀ x ∈ p0, x.block < W.heap.size := by obtain ⟨m, hm⟩ := k0; exact DataW.trod_lt m _ _ _ hm
  have lt2 : ∀ x ∈ p2, x.block < W.heap.size := by obtain ⟨m, hm⟩ := k2; exact DataW.trod_lt m _ _ _ hm
  have lt1 : ∀ x ∈ p1, x.block < W.heap.size := by obtain ⟨m, hm⟩ := k1; exact DataW.trod_lt m _ _ _ hm
  obtain ⟨L, rfl, w0⟩ : ∃ L : List R3, L.length = len0 ∧ IsRows W a0 L := by
    obtain ⟨fuel, hf⟩ := h0
    exact open_rows hf
  obtain ⟨⟨x0, x1, x2⟩, rfl, hr⟩ := open_rowarg (hval 1 25 v1 rfl rfl) h1
  clear hA0 hval0
  refine (callsIn_wide.1 (grows_in a0 cap0 L x0 x1 x2 leave hr W w0)).mono fun e W' ⟨he, bel⟩ => ?_
  subst he
  exact ⟨_, rfl, _, _, _, [], _, [], hW', trodAll_mk1 (shut_bool Try.underlying4 _), (trodAll_cons_mk (Below.trod Try.laidOut (by kernel_rfl) (of_decide_eq_true (by kernel_rfl)) k0 bel lt0) (trodAll_cons_mk (Below.trod Try.laidOut (by kernel_rfl) (of_decide_eq_true (by kernel_rfl)) k1 bel lt1) (trodAll_cons_mk (Below.trod Try.laidOut (by kernel_rfl) (of_decide_eq_true (by kernel_rfl)) k2 bel lt2) trodAll_mk0))), rfl, bel.frame _, fun h => by cases h⟩

theorem over : Rows.tableGrowsRow.holds Try.pinned (OpenSpec.ofChange Rows.tableGrowsSpec) :=
  OpenClaim.holds_of_wide 3 Try.f3 rfl rfl rfl rfl rfl rfl rfl ⟨rfl, rfl, rfl, rfl, rfl⟩ rfl rfl rfl rfl rfl (by kernel_rfl) Try.func3 (by kernel_rfl)
    (of_decide_eq_true (by kernel_rfl)) (by unfold Func.isWrapper; first | (rw [if_pos (by decide +kernel)]; kernel_rfl) | (rw [if_neg (by decide +kernel)]; exact ⟨rfl, rfl⟩))
    (fun os started H enc _ => lifted os started H enc)

/-- ████ THE STATEMENT ████ -/
theorem proved : Rows.TableGrowsSaid := over
end Go.Proofs.Ytellmhllgmimiaa.tableGrows
