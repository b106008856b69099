/- rewrite's Table and the reference's, walked. -/
import Derived.Test.YtghihhjcoilmgaaK16
import Derived.Test.YtghihhjcoilmgaaW7
import Derived.Test.YtghihhjcoilmgaaW12
namespace Go.Proofs.Ytghihhjcoilmgaa
set_option maxRecDepth 100000
open Go.RowKit Go.Maps
set_option linter.unusedVariables false
set_option linter.unusedSimpArgs false
attribute [local go_sem] Oper.semAt_some

/-- own gives those that stand for a row's numbers -/
def OwnF (J : Jn) (own : T.R3 → T.R3) : Prop := ∀ r, T.rok r → IsFst J r.1 (own r).1 ∧ IsFst J r.2.1 (own r).2.1 ∧ IsFst J r.2.2 (own r).2.2
section
variable {J : Jn} {own : T.R3 → T.R3}
theorem OwnF.ok (h : OwnF J own) (hJ : ∀ p ∈ J, is32 p.1 ∧ is32 p.2) {r : T.R3} (hr : T.rok r) : T.rok (own r) := by
  obtain ⟨h1, h2, h3⟩ := h r hr
  exact ⟨h1.is32 hJ hr.1, h2.is32 hJ hr.2.1, h3.is32 hJ hr.2.2⟩
theorem OwnF.again (h : OwnF J own) (hJ : ∀ p ∈ J, is32 p.1 ∧ is32 p.2) {r : T.R3} (hr : T.rok r) : own (own r) = own r := by
  obtain ⟨h1, h2, h3⟩ := h r hr
  obtain ⟨k1, k2, k3⟩ := h _ (h.ok hJ hr)
  exact Prod.ext (k1.unique h1.again) (Prod.ext (k2.unique h2.again) (k3.unique h3.again))
end
/-- two rows, told apart -/
theorem eqRw_of (x y z x' y' z' : Int) {b : Bool} (h : ((x, y, z) == (x', y', z')) = b) : ∀ w, (Op.equalIn 10000 37 (.agg #[.int .u32 x, .int .u32 y, .int .u32 z]) (.agg #[.int .u32 x', .int .u32 y', .int .u32 z'])).run Try.prog w = .ok b w := fun w => by
  rw [eqRw, ← h]
  rfl
set_option maxRecDepth 100000 in
set_option maxHeartbeats 8000000 in
theorem table_any {w0 w : World} {pv : Value} {J : Jn} {own : T.R3 → T.R3} {tb rb : Nat} {T0 TR : T.TS} (hQ : IsQ w0 pv J) (hB : Below w0.heap.size w0 w) (hS : T.Sts w0.heap.size w tb rb T0 TR) (hown : OwnF J own) (hlen : T0.length ≤ 1000) :
    Calls Try.prog 20 #[pv, .pointer (some ⟨tb, 0, none⟩)] w fun e w' => e = .returned (.int .i64 ((T.rwGo own (2 * T0.length) 0 T0 0).2 : Nat)) ∧ T.Sts w0.heap.size w' tb rb (T.rwGo own (2 * T0.length) 0 T0 0).1 TR ∧ T.RwI own T0.length (T.rwGo own (2 * T0.length) 0 T0 0).1.length (T.rwGo own (2 * T0.length) 0 T0 0).1 ∧ Below w0.heap.size w0 w' := by
  obtain ⟨R, hR⟩ : ∃ R, T.rwGo own (2 * T0.length) 0 T0 0 = R := ⟨_, rfl⟩
  obtain ⟨N0, hN0⟩ : ∃ N0, T0.length = N0 := ⟨_, rfl⟩
  obtain ⟨n0, hn0⟩ : ∃ n0, w0.heap.size = n0 := ⟨_, rfl⟩
  have hst := T.RwI.start own T0
  rw [hN0] at hst hlen hR ⊢
  rw [hR]
  rw [hn0] at hS hB ⊢
  have HQ := Lib.hid hQ; have HB := Lib.hid hB; have HS := Lib.hid hS; have Hown := Lib.hid hown; have HR := Lib.hid hR; have Hst := Lib.hid hst; have Hn0 := Lib.hid hn0
  have HJ := Lib.hid hQ.1
  clear hQ hB hS hown hR hst hn0 hN0
  go_enter Try.func20, Try.ntmps20
  go_wp2_with fail
  go_loopg [5, 6] (2 * N0) (fun k u5 u6 wr => ∃ (n out : Nat) (U : T.TS), n + k = 2 * N0 ∧ u6 = .int .i64 n ∧ u5 = .int .i64 out ∧ out ≤ n ∧ n ≤ U.length ∧ T.Sts n0 wr tb rb U TR ∧ T.RwI own N0 n U ∧ T.rwGo own k n U out = R ∧ Below n0 w0 wr)
  case atStart => exact ⟨0, 0, T0, by omega, rfl, rfl, Nat.le_refl _, Nat.zero_le _, HS.out, Hst.out, HR.out, HB.out⟩
  case round =>
    obtain ⟨n, out, U, hk, rfl, rfl, hon, hnU, hS, hI, hG, hB⟩ := hrel
    obtain ⟨l, hl⟩ : ∃ l, U.length = l := ⟨_, rfl⟩
    have hup := hI.up
    rw [hl] at hnU hup
    have hlenc := hS.len
    rw [hl] at hlenc
    have HS := Lib.hid hS; have HI := Lib.hid hI; have HG := Lib.hid hG; have HB := Lib.hid hB; have Hl := Lib.hid hl; have Hlenc := Lib.hid hlenc
    clear hS hI hG hB hl hlenc Hst HR
    go_wp2_with fail
    refine Hlenc.out.mono ?_
    rintro e w1 ⟨rfl, rfl⟩
    by_cases hnl : n < l
    · have hd : decide ((n : Int) < (l : Int)) = true := by simp; omega
      have hd2 : decide (n < l) = true := by simp; omega
      have hnU' : n < U.length := by rw [Hl.out]; exact hnl
      obtain ⟨⟨⟨x0, x1, x2⟩, b⟩, hy⟩ : ∃ y, U[n] = y := ⟨_, rfl⟩
      have hget := HS.out.get n hnU'
      rw [hy] at hget
      simp only [T.rv] at hget
      have hyok := HS.out.oks.1 _ (List.getElem_mem hnU')
      rw [hy] at hyok
      have Hget := Lib.hid hget; have Hy := Lib.hid hy; have Hyok := Lib.hid hyok
      clear hget hy hyok
      go_wp2_with fail
      refine Hget.out.mono ?_
      rintro e w2 ⟨rfl, hB2⟩
      have hS2 := HS.out.below hB2
      have hB02 := HB.out.trans (hB2.mono (by have := HB.out.size; rw [Hn0.out] at this; exact this))
      have HS2 := Lib.hid hS2; have HB02 := Lib.hid hB02
      clear hB2 hS2 hB02
      go_upto_region 6 with fail
      have hBa := (Below.refl w2.heap.size w2).alloc (Nat.le_refl _) (.cells #[.int .u32 x0, .int .u32 x1, .int .u32 x2] 37)
      have hnew := World.alloc_heap_new w2 (.cells #[.int .u32 x0, .int .u32 x1, .int .u32 x2] 37)
      obtain ⟨xb, hxb⟩ : ∃ xb, w2.heap.size = xb := ⟨_, rfl⟩
      generalize w2.alloc (.cells #[.int .u32 x0, .int .u32 x1, .int .u32 x2] 37) = w3 at *
      rw [hxb] at hnew ⊢
      have hsz2 : n0 ≤ w2.heap.size := by have := HB02.out.size; rw [Hn0.out] at this; exact this
      have HS3 := Lib.hid (HS2.out.below hBa); have HB03 := Lib.hid (HB02.out.trans (hBa.mono hsz2)); have Hnew := Lib.hid hnew
      obtain ⟨n0_, n1_, n2_⟩ := row_cells hnew
      have hxlt : n0 ≤ xb := by rw [← hxb]; exact hsz2
      have HB23 := Lib.hid hBa; have Hxb := Lib.hid hxb
      clear hBa hnew hxb
      have hQ3 : IsQ w3 pv J := HQ.out.below (by rw [Hn0.out]; exact HB03.out)
      have hoc := own_any hQ3 Hyok.out.1.1 Hyok.out.1.2.1 Hyok.out.1.2.2
      have Hoc := Lib.hid hoc
      clear hQ3 hoc
      go_wp2_with fail
      refine Hoc.out.mono ?_
      rintro e w4 ⟨y0, y1, y2, rfl, ⟨hy0, hy1, hy2⟩, hB4⟩
      have hoe : own (x0, x1, x2) = (y0, y1, y2) := by
        obtain ⟨h1, h2, h3⟩ := Hown.out (x0, x1, x2) Hyok.out.1
        exact Prod.ext (h1.unique hy0) (Prod.ext (h2.unique hy1) (h3.unique hy2))
      have hyo : T.rok (y0, y1, y2) := by rw [← hoe]; exact Hown.out.ok HJ.out Hyok.out.1
      have Hoe := Lib.hid hoe; have Hyo := Lib.hid hyo
      have hsz3 : n0 ≤ w3.heap.size := by have := HB03.out.size; rw [Hn0.out] at this; exact this
      have HS4 := Lib.hid (HS3.out.below hB4); have HB04 := Lib.hid (HB03.out.trans (hB4.mono hsz3)); have Hnew4 := Lib.hid ((hB4.block xb (lt_of_heap Hnew.out)).trans Hnew.out)
      have HB34 := Lib.hid hB4
      clear hy0 hy1 hy2 hB4 hoe hyo n0_ n1_ n2_ Hoc
      go_upto_region 7 with fail
      have hBa := (Below.refl w4.heap.size w4).alloc (Nat.le_refl _) (.cells #[.int .u32 y0, .int .u32 y1, .int .u32 y2] 37)
      have hnew := World.alloc_heap_new w4 (.cells #[.int .u32 y0, .int .u32 y1, .int .u32 y2] 37)
      obtain ⟨yb, hyb⟩ : ∃ yb, w4.heap.size = yb := ⟨_, rfl⟩
      generalize w4.alloc (.cells #[.int .u32 y0, .int .u32 y1, .int .u32 y2] 37) = w5 at *
      rw [hyb] at hnew ⊢
      have hsz4 : n0 ≤ w4.heap.size := by have := HB04.out.size; rw [Hn0.out] at this; exact this
      have HS5 := Lib.hid (HS4.out.below hBa); have HB05 := Lib.hid (HB04.out.trans (hBa.mono hsz4)); have Hnew5 := Lib.hid hnew
      obtain ⟨m0, m1, m2⟩ := row_cells hnew
      obtain ⟨n0_, n1_, n2_⟩ := row_cells ((hBa.block xb (lt_of_heap Hnew4.out)).trans Hnew4.out)
      have hylt : n0 ≤ yb := by rw [← hyb]; exact hsz4
      have Hyb := Lib.hid hyb
      have HB25 := Lib.hid (show Below w2.heap.size w2 w5 from (HB23.out.trans (HB34.out.mono HB23.out.size)).trans (hBa.mono (by have := HB23.out.size; have := HB34.out.size; omega)))
      clear hBa hnew hyb
      obtain ⟨k', rfl⟩ : ∃ k', gk = k' + 1 := ⟨gk - 1, by omega⟩
      by_cases hb0 : b = 0
      · have hq : (b != 0) = false := by simp [hb0]
        have hno : ¬ (U[n].2 ≠ 0 ∧ own U[n].1 ≠ U[n].1) := by rw [Hy.out]; simp [hb0]
        have hG' := HG.out
        rw [T.rwGo_no hnU' hno] at hG'
        have HG' := Lib.hid hG'; have HI' := Lib.hid (HI.out.skip hnU' hno)
        clear hno hG' hb0
        go_wp2_with fail
        go_roundg k'
        case measure => omega
        case rel => exact ⟨n + 1, out, U, by omega, by push_cast; rfl, rfl, by omega, by rw [Hl.out]; omega, HS5.out, HI'.out, HG'.out, HB05.out⟩
      · have hq : (b != 0) = true := by simp [hb0]
        by_cases heq : (y0, y1, y2) = ((x0, x1, x2) : T.R3)
        · have he := eqRw_of y0 y1 y2 x0 x1 x2 (b := true) (by simpa using heq)
          have hno : ¬ (U[n].2 ≠ 0 ∧ own U[n].1 ≠ U[n].1) := by rw [Hy.out]; simp only; rw [Hoe.out, heq]; simp
          have hG' := HG.out
          rw [T.rwGo_no hnU' hno] at hG'
          have HG' := Lib.hid hG'; have HI' := Lib.hid (HI.out.skip hnU' hno)
          clear hno hG' hb0 heq
          go_wp2_with fail
          go_roundg k'
          case measure => omega
          case rel => exact ⟨n + 1, out, U, by omega, by push_cast; rfl, rfl, by omega, by rw [Hl.out]; omega, HS5.out, HI'.out, HG'.out, HB05.out⟩
        · have he := eqRw_of y0 y1 y2 x0 x1 x2 (b := false) (by simpa using heq)
          have hyes : U[n].2 ≠ 0 ∧ own U[n].1 ≠ U[n].1 := by rw [Hy.out]; simp only; rw [Hoe.out]; exact ⟨hb0, heq⟩
          have hid : own (own U[n].1) = own U[n].1 := by rw [Hy.out]; exact Hown.out.again HJ.out Hyok.out.1
          have hG' := HG.out
          rw [T.rwGo_yes hnU' hyes] at hG'
          have hI' := HI.out.put hnU' hyes hid
          rw [Hy.out] at hG' hI'
          simp only at hG' hI'
          rw [Hoe.out] at hG' hI'
          have hcl := HS2.out.clear HB25.out n hnU'
          have hnN : n < N0 := Nat.lt_of_not_le fun e => hyes.2 (HI.out.tail n hnU' e)
          rw [Hy.out] at hcl
          simp only at hcl
          have HG' := Lib.hid hG'; have HI' := Lib.hid hI'; have Hcl := Lib.hid hcl
          clear hyes hid hG' hI' hcl hb0 heq
          go_wp2_with fail
          refine Hcl.out.mono ?_
          rintro e w6 ⟨rfl, hS6, hB6, hk6⟩
          have hadd := hS6.add (y0, y1, y2) b Hyo.out (by rw [T.setB_length, Hl.out]; omega)
          simp only [T.rv] at hadd
          have hm6 : ∀ j v, w5.cell? ⟨yb, j, none⟩ = some v → w6.cell? ⟨yb, j, none⟩ = some v := fun j v hv => (World.cell?_of_block (w := w5) (a := ⟨yb, j, none⟩) (hk6 yb (by have := HB23.out.size; have := HB34.out.size; have := Hyb.out; omega) (lt_of_heap Hnew5.out))).trans hv
          have m0 := hm6 _ _ m0; have m1 := hm6 _ _ m1; have m2 := hm6 _ _ m2
          have Hadd := Lib.hid hadd; have HB06 := Lib.hid (HB05.out.trans hB6)
          clear hS6 hB6 hadd hm6 hk6
          go_wp2_with fail
          refine Hadd.out.mono ?_
          rintro e w7 ⟨⟨z1, z2, rfl⟩, hS7, hB7⟩
          have HS7 := Lib.hid hS7; have HB07 := Lib.hid (HB06.out.trans hB7)
          clear hS7 hB7
          go_wp2_with fail
          go_roundg k'
          case measure => omega
          case rel => exact ⟨n + 1, out + 1, _, by omega, by push_cast; rfl, by push_cast; rfl, by omega, by have := HI'.out.le; omega, HS7.out, HI'.out, HG'.out, HB07.out⟩
    · have hd : decide ((n : Int) < (l : Int)) = false := by simp; omega
      have hd2 : decide (n < l) = false := by simp; omega
      have hG' := HG.out
      rw [T.rwGo_end own gk n U out (by rw [Hl.out]; omega)] at hG'
      have HG' := Lib.hid hG'
      have hnl' : n = U.length := by rw [Hl.out]; omega
      have Hnl := Lib.hid hnl'
      clear hG' hnl'
      go_wp2_with fail
      go_ret
      rw [← HG'.out]
      exact ⟨rfl, HS.out, by rw [← Hnl.out]; exact HI.out, HB.out⟩
set_option maxRecDepth 100000 in
theorem table_nil (w : World) (pv : Value) : Calls Try.prog 20 #[pv, .pointer none] w fun e w' => e = .returned (.int .i64 0) ∧ w = w' := by
  have hl := Lib.hid (T.len_nil w)
  go_enter Try.func20, Try.ntmps20
  go_wp2_with fail
  go_loopw [5, 6] (fun u5 u6 wr => u5 = .int .i64 0 ∧ u6 = .int .i64 0 ∧ w = wr) (fun _ _ _ => 0)
  case atStart => exact ⟨rfl, rfl, rfl⟩
  case round =>
    obtain ⟨rfl, rfl, rfl⟩ := hrel
    go_wp2_with fail
    refine hl.out.mono ?_
    rintro e w1 ⟨rfl, rfl⟩
    go_wp2_with fail
    go_ret
    exact ⟨rfl, rfl⟩
end Go.Proofs.Ytghihhjcoilmgaa

namespace Go.Proofs.Ytghihhjcoilmgaa
set_option maxRecDepth 100000
open Go.RowKit Go.Maps
set_option linter.unusedVariables false
set_option linter.unusedSimpArgs false
attribute [local go_sem] Oper.semAt_some

set_option maxRecDepth 100000 in
set_option maxHeartbeats 8000000 in
theorem tableR_any {w0 w : World} {ja : Option Addr} {J : Jn} {own : T.R3 → T.R3} {tb rb : Nat} {T0 TR : T.TS} (hJ : IsJ w0 ja J) (jcap : Nat) (hJl : J.length ≤ 100) (hz : ∀ p ∈ J, p.1 ≠ 0 ∧ p.2 ≠ 0) (hJ32 : ∀ p ∈ J, is32 p.1 ∧ is32 p.2) (hB : Below w0.heap.size w0 w) (hS : T.Sts w0.heap.size w tb rb TR T0) (hown : OwnF J own) (hlen : T0.length ≤ 1000) :
    Calls Try.prog 21 #[.slice ja J.length jcap, .pointer (some ⟨rb, 0, none⟩)] w fun e w' => e = .returned (.int .i64 ((T.rwGo own (2 * T0.length) 0 T0 0).2 : Nat)) ∧ T.Sts w0.heap.size w' tb rb TR (T.rwGo own (2 * T0.length) 0 T0 0).1 ∧ Below w0.heap.size w0 w' := by
  obtain ⟨R, hR⟩ : ∃ R, T.rwGo own (2 * T0.length) 0 T0 0 = R := ⟨_, rfl⟩
  obtain ⟨N0, hN0⟩ : ∃ N0, T0.length = N0 := ⟨_, rfl⟩
  obtain ⟨n0, hn0⟩ : ∃ n0, w0.heap.size = n0 := ⟨_, rfl⟩
  obtain ⟨jn, hjn⟩ : ∃ jn, J.length = jn := ⟨_, rfl⟩
  have hst := T.RwI.start own T0
  rw [hN0] at hst hlen hR ⊢
  rw [hR]
  rw [hn0] at hS hB ⊢
  rw [hjn] at hJl ⊢
  have HIJ := Lib.hid hJ; have HB := Lib.hid hB; have HS := Lib.hid hS; have Hown := Lib.hid hown; have HR := Lib.hid hR; have Hst := Lib.hid hst; have Hn0 := Lib.hid hn0; have Hjn := Lib.hid hjn
  have HJ := Lib.hid hJ32; have Hz := Lib.hid hz
  clear hJ hB hS hown hR hst hn0 hN0 hjn hJ32 hz
  go_enter Try.func21, Try.ntmps21
  go_wp2_with fail
  go_loopg [5, 6] (2 * N0) (fun k u5 u6 wr => ∃ (n out : Nat) (U : T.TS), n + k = 2 * N0 ∧ u6 = .int .i64 n ∧ u5 = .int .i64 out ∧ out ≤ n ∧ n ≤ U.length ∧ T.Sts n0 wr tb rb TR U ∧ T.RwI own N0 n U ∧ T.rwGo own k n U out = R ∧ Below n0 w0 wr)
  case atStart => exact ⟨0, 0, T0, by omega, rfl, rfl, Nat.le_refl _, Nat.zero_le _, HS.out, Hst.out, HR.out, HB.out⟩
  case round =>
    obtain ⟨n, out, U, hk, rfl, rfl, hon, hnU, hS, hI, hG, hB⟩ := hrel
    obtain ⟨l, hl⟩ : ∃ l, U.length = l := ⟨_, rfl⟩
    have hup := hI.up
    rw [hl] at hnU hup
    obtain ⟨vr, vb, ⟨c0, c1⟩, ⟨ar, cr, rfl⟩, ⟨ab, cb, rfl⟩, hrow, hbit⟩ := hS.ref
    rw [hl] at c0 c1
    have HS := Lib.hid hS; have HI := Lib.hid hI; have HG := Lib.hid hG; have HB := Lib.hid hB; have Hl := Lib.hid hl; have Hrow := Lib.hid hrow; have Hbit := Lib.hid hbit
    clear hS hI hG hB hl hrow hbit Hst HR
    by_cases hnl : n < l
    · have hd : decide ((n : Int) < (l : Int)) = true := by simp; omega
      have hd2 : decide (n < l) = true := by simp; omega
      have hnU' : n < U.length := by rw [Hl.out]; exact hnl
      obtain ⟨gr, capr, er, _, k0, k1, k2⟩ := Hrow.out n hnU'
      obtain ⟨gb, capb, eb, _, b0, _, _⟩ := Hbit.out n hnU'
      injection er with er1 _ er2
      injection eb with eb1 _ eb2
      subst er1 er2 eb1 eb2
      obtain ⟨⟨⟨x0, x1, x2⟩, b⟩, hy⟩ : ∃ y, U[n] = y := ⟨_, rfl⟩
      have hyok := HS.out.oks.2 _ (List.getElem_mem hnU')
      rw [hy] at k0 k1 k2 b0 hyok
      simp only at k0 k1 k2 b0
      have Hy := Lib.hid hy; have Hyok := Lib.hid hyok
      have hsz0 : n0 ≤ wr.heap.size := by have := HB.out.size; rw [Hn0.out] at this; exact this
      clear hy hyok Hrow Hbit
      go_wp2_with fail
      have c0 : wr.drew.cell? ⟨rb, 0, none⟩ = some (.slice (some ⟨gr, 0, none⟩) l cr) := c0
      have c1 : wr.drew.cell? ⟨rb, 1, none⟩ = some (.slice (some ⟨gb, 0, none⟩) l cb) := c1
      have k0 : wr.drew.cell? ⟨gr, n * 3, none⟩ = some (.int .u32 x0) := k0
      have k1 : wr.drew.cell? ⟨gr, n * 3 + 1, none⟩ = some (.int .u32 x1) := k1
      have k2 : wr.drew.cell? ⟨gr, n * 3 + 2, none⟩ = some (.int .u32 x2) := k2
      have b0 : wr.drew.cell? ⟨gb, n, none⟩ = some (.int .u8 b) := b0
      obtain ⟨S5, hSe⟩ : ∃ S : Array Bool → World → Prop, S = fun _ w' => Below wr.drew.heap.size wr.drew w' := ⟨_, rfl⟩
      have hdrop : ∀ i : Nat, ∀ L w', S5 (L.setIfInBounds i true) w' → S5 L w' := by
        intro i L w' h; rw [hSe] at h ⊢; exact h
      have hS : ∀ L, S5 L wr.drew := by intro L; rw [hSe]; exact Below.refl _ _
      have hSo : ∀ {L w'}, S5 L w' → Below wr.drew.heap.size wr.drew w' := by intro L w' h; rw [hSe] at h; exact h
      have hSi : ∀ {w'}, Below wr.drew.heap.size wr.drew w' → ∀ L, S5 L w' := by intro w' h L; rw [hSe]; exact h
      clear hSe
      refine wp_region_LN S5 17 #[false, false, false, false, false, false, false, false, false, false, false, false, false, false, false, false, false] (by kernel_rfl) (by kernel_rfl) rfl ?_
      obtain ⟨X5, hX5⟩ : ∃ X5, X5 = wr.drew := ⟨_, rfl⟩
      rw [← hX5] at c0 c1 k0 k1 k2 b0 hSo hS hSi ⊢
      have HX5 := Lib.hid hX5
      clear hX5
      refine WA.take (i := 0) (v := .pointer (some ⟨rb, 0, none⟩)) rfl (by kernel_rfl) (by kernel_rfl) (by kernel_rfl) (fun _ _ _ h => h) (hdrop 0) (Or.inl ⟨by rfl, ?_⟩) (hS _) ?_
      · rintro w' ⟨L, hL, hSw, hun⟩
        go_simp
      simp only [List.getElem_toArray, List.getElem_cons_zero, List.getElem_cons_succ, Act.put, List.setIfInBounds_toArray, List.set_cons_zero, List.set_cons_succ]
      refine WA.take (i := 1) (v := .pointer (some ⟨rb, 0, none⟩)) rfl (by kernel_rfl) (by kernel_rfl) (by kernel_rfl) (fun _ _ _ h => h) (hdrop 1) (Or.inl ⟨by rfl, ?_⟩) (hS _) ?_
      · rintro w' ⟨L, hL, hSw, hun⟩
        go_simp
      simp only [List.getElem_toArray, List.getElem_cons_zero, List.getElem_cons_succ, Act.put, List.setIfInBounds_toArray, List.set_cons_zero, List.set_cons_succ]
      refine WA.take (i := 2) (v := .pointer (some ⟨rb, 0, none⟩)) rfl (by kernel_rfl) (by kernel_rfl) (by kernel_rfl) (fun _ _ _ h => h) (hdrop 2) (Or.inl ⟨by rfl, ?_⟩) (hS _) ?_
      · rintro w' ⟨L, hL, hSw, hun⟩
        go_simp
      simp only [List.getElem_toArray, List.getElem_cons_zero, List.getElem_cons_succ, Act.put, List.setIfInBounds_toArray, List.set_cons_zero, List.set_cons_succ]
      refine WA.take (i := 3) (v := .slice (some ⟨gr, 0, none⟩) l cr) rfl (by kernel_rfl) (by kernel_rfl) (by kernel_rfl) (fun _ _ _ h => h) (hdrop 3) (Or.inl ⟨by rfl, ?_⟩) (hS _) ?_
      · rintro w' ⟨L, hL, hSw, hun⟩
        have hbw := hSo hSw
        have c0 := cell_later hbw c0
        clear hbw
        go_simp
      simp only [List.getElem_toArray, List.getElem_cons_zero, List.getElem_cons_succ, Act.put, List.setIfInBounds_toArray, List.set_cons_zero, List.set_cons_succ]
      refine WA.take (i := 4) (v := .int .i64 ((n : Nat) : Int)) rfl (by kernel_rfl) (by kernel_rfl) (by kernel_rfl) (fun _ _ _ h => h) (hdrop 4) (Or.inl ⟨by rfl, ?_⟩) (hS _) ?_
      · rintro w' ⟨L, hL, hSw, hun⟩
        go_simp
      simp only [List.getElem_toArray, List.getElem_cons_zero, List.getElem_cons_succ, Act.put, List.setIfInBounds_toArray, List.set_cons_zero, List.set_cons_succ]
      refine WA.take (i := 5) (v := .pointer (some ⟨gr, n * 3, none⟩)) rfl (by kernel_rfl) (by kernel_rfl) (by kernel_rfl) (fun _ _ _ h => h) (hdrop 5) (Or.inl ⟨by rfl, ?_⟩) (hS _) ?_
      · rintro w' ⟨L, hL, hSw, hun⟩
        go_simp
      simp only [List.getElem_toArray, List.getElem_cons_zero, List.getElem_cons_succ, Act.put, List.setIfInBounds_toArray, List.set_cons_zero, List.set_cons_succ]
      refine WA.take (i := 6) (v := .agg #[.int .u32 x0, .int .u32 x1, .int .u32 x2]) rfl (by kernel_rfl) (by kernel_rfl) (by kernel_rfl) (fun _ _ _ h => h) (hdrop 6) (Or.inl ⟨by rfl, ?_⟩) (hS _) ?_
      · rintro w' ⟨L, hL, hSw, hun⟩
        have hbw := hSo hSw
        have k0 := cell_later hbw k0
        have k1 := cell_later hbw k1
        have k2 := cell_later hbw k2
        clear hbw
        go_simp
      simp only [List.getElem_toArray, List.getElem_cons_zero, List.getElem_cons_succ, Act.put, List.setIfInBounds_toArray, List.set_cons_zero, List.set_cons_succ]
      refine WA.take (i := 7) (v := .pointer (some ⟨rb, 0, none⟩)) rfl (by kernel_rfl) (by kernel_rfl) (by kernel_rfl) (fun _ _ _ h => h) (hdrop 7) (Or.inl ⟨by rfl, ?_⟩) (hS _) ?_
      · rintro w' ⟨L, hL, hSw, hun⟩
        go_simp
      simp only [List.getElem_toArray, List.getElem_cons_zero, List.getElem_cons_succ, Act.put, List.setIfInBounds_toArray, List.set_cons_zero, List.set_cons_succ]
      refine WA.take (i := 8) (v := .pointer (some ⟨rb, 0, none⟩)) rfl (by kernel_rfl) (by kernel_rfl) (by kernel_rfl) (fun _ _ _ h => h) (hdrop 8) (Or.inl ⟨by rfl, ?_⟩) (hS _) ?_
      · rintro w' ⟨L, hL, hSw, hun⟩
        go_simp
      simp only [List.getElem_toArray, List.getElem_cons_zero, List.getElem_cons_succ, Act.put, List.setIfInBounds_toArray, List.set_cons_zero, List.set_cons_succ]
      refine WA.take (i := 9) (v := .pointer (some ⟨rb, 1, none⟩)) rfl (by kernel_rfl) (by kernel_rfl) (by kernel_rfl) (fun _ _ _ h => h) (hdrop 9) (Or.inl ⟨by rfl, ?_⟩) (hS _) ?_
      · rintro w' ⟨L, hL, hSw, hun⟩
        go_simp
      simp only [List.getElem_toArray, List.getElem_cons_zero, List.getElem_cons_succ, Act.put, List.setIfInBounds_toArray, List.set_cons_zero, List.set_cons_succ]
      refine WA.take (i := 10) (v := .slice (some ⟨gb, 0, none⟩) l cb) rfl (by kernel_rfl) (by kernel_rfl) (by kernel_rfl) (fun _ _ _ h => h) (hdrop 10) (Or.inl ⟨by rfl, ?_⟩) (hS _) ?_
      · rintro w' ⟨L, hL, hSw, hun⟩
        have hbw := hSo hSw
        have c1 := cell_later hbw c1
        clear hbw
        go_simp
      simp only [List.getElem_toArray, List.getElem_cons_zero, List.getElem_cons_succ, Act.put, List.setIfInBounds_toArray, List.set_cons_zero, List.set_cons_succ]
      refine WA.take (i := 11) (v := .int .i64 ((n : Nat) : Int)) rfl (by kernel_rfl) (by kernel_rfl) (by kernel_rfl) (fun _ _ _ h => h) (hdrop 11) (Or.inl ⟨by rfl, ?_⟩) (hS _) ?_
      · rintro w' ⟨L, hL, hSw, hun⟩
        go_simp
      simp only [List.getElem_toArray, List.getElem_cons_zero, List.getElem_cons_succ, Act.put, List.setIfInBounds_toArray, List.set_cons_zero, List.set_cons_succ]
      refine WA.take (i := 12) (v := .pointer (some ⟨gb, n, none⟩)) rfl (by kernel_rfl) (by kernel_rfl) (by kernel_rfl) (fun _ _ _ h => h) (hdrop 12) (Or.inl ⟨by rfl, ?_⟩) (hS _) ?_
      · rintro w' ⟨L, hL, hSw, hun⟩
        go_simp
      simp only [List.getElem_toArray, List.getElem_cons_zero, List.getElem_cons_succ, Act.put, List.setIfInBounds_toArray, List.set_cons_zero, List.set_cons_succ]
      refine WA.take (i := 13) (v := .int .u8 b) rfl (by kernel_rfl) (by kernel_rfl) (by kernel_rfl) (fun _ _ _ h => h) (hdrop 13) (Or.inl ⟨by rfl, ?_⟩) (hS _) ?_
      · rintro w' ⟨L, hL, hSw, hun⟩
        have hbw := hSo hSw
        have b0 := cell_later hbw b0
        clear hbw
        go_simp
      simp only [List.getElem_toArray, List.getElem_cons_zero, List.getElem_cons_succ, Act.put, List.setIfInBounds_toArray, List.set_cons_zero, List.set_cons_succ]
      refine WA.one (i := 14) (by kernel_rfl) rfl (by rfl) (fun K hK => ?_)
      go_simp
      have hBz := (Below.refl X5.heap.size X5).alloc (Nat.le_refl _) (.cells #[.int .u32 0, .int .u32 0, .int .u32 0] 37)
      have HBz := Lib.hid hBz
      clear hBz
      refine hK _ _ (hSi HBz.out _) ?_
      clear hK
      try simp only [List.getElem_toArray, List.getElem_cons_zero, List.getElem_cons_succ, Act.put, List.setIfInBounds_toArray, List.set_cons_zero, List.set_cons_succ]
      refine WA.one (i := 15) (by kernel_rfl) rfl (by rfl) (fun K hK => ?_)
      go_simp
      have hBn := (Below.refl X5.heap.size X5).alloc (Nat.le_refl _) (.cells #[.int .u32 x0, .int .u32 x1, .int .u32 x2] 37)
      have hnew := World.alloc_heap_new X5 (.cells #[.int .u32 x0, .int .u32 x1, .int .u32 x2] 37)
      obtain ⟨xb, hxb⟩ : ∃ xb, X5.heap.size = xb := ⟨_, rfl⟩
      generalize X5.alloc (.cells #[.int .u32 x0, .int .u32 x1, .int .u32 x2] 37) = w3 at *
      have HBn := Lib.hid hBn; have Hxb := Lib.hid hxb
      rw [hxb] at hnew ⊢
      have Hnew := Lib.hid hnew
      clear hBn hnew hxb
      refine hK _ _ (hSi HBn.out _) ?_
      clear hK
      try simp only [List.getElem_toArray, List.getElem_cons_zero, List.getElem_cons_succ, Act.put, List.setIfInBounds_toArray, List.set_cons_zero, List.set_cons_succ]
      refine WA.take (i := 16) (v := .int .u8 b) rfl (by kernel_rfl) (by kernel_rfl) (by kernel_rfl) (fun _ _ _ h => h) (hdrop 16) (Or.inl ⟨by rfl, ?_⟩) (hSi HBn.out _) ?_
      · rintro w' ⟨L, hL, hSw, hun⟩
        go_simp
      simp only [List.getElem_toArray, List.getElem_cons_zero, List.getElem_cons_succ, Act.put, List.setIfInBounds_toArray, List.set_cons_zero, List.set_cons_succ]
      refine WA.done (by kernel_rfl) ?_ _
      refine Nrm.normal ?_
      clear hSo hS hSi hdrop k0 k1 k2 b0
      clear S5
      have hB53 : Below wr.heap.size wr w3 := by
        have h1 : Below wr.heap.size wr X5 := by rw [HX5.out]; exact (Below.refl _ _).drew
        exact h1.trans (HBn.out.mono h1.size)
      have HS3 := Lib.hid (HS.out.below hB53); have HB03 := Lib.hid (HB.out.trans (hB53.mono hsz0))
      have hxlt : wr.heap.size ≤ xb := by rw [← Hxb.out, HX5.out]; exact Nat.le_refl _
      clear hB53 c0 c1
      obtain ⟨n0_, n1_, n2_⟩ := row_cells Hnew.out
      have hoc := ownR_any (HIJ.out.below (by rw [Hn0.out]; exact HB03.out)) jcap (by rw [Hjn.out]; omega) Hz.out x0 x1 x2
      rw [Hjn.out] at hoc
      have Hoc := Lib.hid hoc
      clear hoc
      go_wp2_with fail
      refine Hoc.out.mono ?_
      rintro e w4 ⟨y0, y1, y2, rfl, ⟨hy0, hy1, hy2⟩, hB4⟩
      have hoe : own (x0, x1, x2) = (y0, y1, y2) := by
        obtain ⟨h1, h2, h3⟩ := Hown.out (x0, x1, x2) Hyok.out.1
        exact Prod.ext (h1.unique hy0) (Prod.ext (h2.unique hy1) (h3.unique hy2))
      have hyo : T.rok (y0, y1, y2) := by rw [← hoe]; exact Hown.out.ok HJ.out Hyok.out.1
      have Hoe := Lib.hid hoe; have Hyo := Lib.hid hyo
      have hsz3 : n0 ≤ w3.heap.size := by have := HB03.out.size; rw [Hn0.out] at this; exact this
      have HS4 := Lib.hid (HS3.out.below hB4); have HB04 := Lib.hid (HB03.out.trans (hB4.mono hsz3)); have Hnew4 := Lib.hid ((hB4.block xb (lt_of_heap Hnew.out)).trans Hnew.out)
      clear hy0 hy1 hy2 hB4 hoe hyo n0_ n1_ n2_ Hoc
      go_upto_region 7 with fail
      have hBa := (Below.refl w4.heap.size w4).alloc (Nat.le_refl _) (.cells #[.int .u32 y0, .int .u32 y1, .int .u32 y2] 37)
      have hnew := World.alloc_heap_new w4 (.cells #[.int .u32 y0, .int .u32 y1, .int .u32 y2] 37)
      obtain ⟨yb, hyb⟩ : ∃ yb, w4.heap.size = yb := ⟨_, rfl⟩
      generalize w4.alloc (.cells #[.int .u32 y0, .int .u32 y1, .int .u32 y2] 37) = w5 at *
      rw [hyb] at hnew ⊢
      have hsz4 : n0 ≤ w4.heap.size := by have := HB04.out.size; rw [Hn0.out] at this; exact this
      have HS5 := Lib.hid (HS4.out.below hBa); have HB05 := Lib.hid (HB04.out.trans (hBa.mono hsz4)); have Hnew5 := Lib.hid hnew
      obtain ⟨m0, m1, m2⟩ := row_cells hnew
      obtain ⟨n0_, n1_, n2_⟩ := row_cells ((hBa.block xb (lt_of_heap Hnew4.out)).trans Hnew4.out)
      clear hBa hnew hyb
      obtain ⟨k', rfl⟩ : ∃ k', gk = k' + 1 := ⟨gk - 1, by omega⟩
      by_cases hb0 : b = 0
      · have hq : (b != 0) = false := by simp [hb0]
        have hno : ¬ (U[n].2 ≠ 0 ∧ own U[n].1 ≠ U[n].1) := by rw [Hy.out]; simp [hb0]
        have hG' := HG.out
        rw [T.rwGo_no hnU' hno] at hG'
        have HG' := Lib.hid hG'; have HI' := Lib.hid (HI.out.skip hnU' hno)
        clear hno hG' hb0
        go_wp2_with fail
        go_roundg k'
        case measure => omega
        case rel => exact ⟨n + 1, out, U, by omega, by push_cast; rfl, rfl, by omega, by rw [Hl.out]; omega, HS5.out, HI'.out, HG'.out, HB05.out⟩
      · have hq : (b != 0) = true := by simp [hb0]
        by_cases heq : (y0, y1, y2) = ((x0, x1, x2) : T.R3)
        · have he := eqRw_of y0 y1 y2 x0 x1 x2 (b := true) (by simpa using heq)
          have hno : ¬ (U[n].2 ≠ 0 ∧ own U[n].1 ≠ U[n].1) := by rw [Hy.out]; simp only; rw [Hoe.out, heq]; simp
          have hG' := HG.out
          rw [T.rwGo_no hnU' hno] at hG'
          have HG' := Lib.hid hG'; have HI' := Lib.hid (HI.out.skip hnU' hno)
          clear hno hG' hb0 heq
          go_wp2_with fail
          go_roundg k'
          case measure => omega
          case rel => exact ⟨n + 1, out, U, by omega, by push_cast; rfl, rfl, by omega, by rw [Hl.out]; omega, HS5.out, HI'.out, HG'.out, HB05.out⟩
        · have he := eqRw_of y0 y1 y2 x0 x1 x2 (b := false) (by simpa using heq)
          have hyes : U[n].2 ≠ 0 ∧ own U[n].1 ≠ U[n].1 := by rw [Hy.out]; simp only; rw [Hoe.out]; exact ⟨hb0, heq⟩
          have hid : own (own U[n].1) = own U[n].1 := by rw [Hy.out]; exact Hown.out.again HJ.out Hyok.out.1
          have hnN : n < N0 := Nat.lt_of_not_le fun e => hyes.2 (HI.out.tail n hnU' e)
          have hG' := HG.out
          rw [T.rwGo_yes hnU' hyes] at hG'
          have hI' := HI.out.put hnU' hyes hid
          rw [Hy.out] at hG' hI'
          simp only at hG' hI'
          rw [Hoe.out] at hG' hI'
          obtain ⟨vr5, vb5, ⟨c0, c1⟩, _, _, _, hbit5⟩ := HS5.out.ref
          obtain ⟨gb5, capb5, eb5, ⟨cur5, fz5, hg5⟩, b5, f5, hS6, hB6⟩ := hbit5 n hnU'
          subst eb5
          rw [Hl.out] at c1
          have hyg : yb ≠ gb5 := fun e => by
            have h1 := Hnew5.out
            rw [e, hg5] at h1
            injection h1 with h1
            injection h1 with _ h1
            exact absurd h1 (by decide)
          have hm6 : ∀ j v, w5.cell? ⟨yb, j, none⟩ = some v → (w5.setCell ⟨gb5, n, none⟩ (.int .u8 0)).cell? ⟨yb, j, none⟩ = some v := fun j v hv => (World.cell?_of_block (w := w5) (a := ⟨yb, j, none⟩) (Below.heap_setCell w5 ⟨gb5, n, none⟩ _ yb hyg)).trans hv
          have M0 := Lib.hid (hm6 _ _ m0); have M1 := Lib.hid (hm6 _ _ m1); have M2 := Lib.hid (hm6 _ _ m2)
          have hadd := hS6.radd (y0, y1, y2) b Hyo.out (by rw [T.setB_length, Hl.out]; omega)
          simp only [T.rv] at hadd
          have HG' := Lib.hid hG'; have HI' := Lib.hid hI'; have Hadd := Lib.hid hadd; have HB06 := Lib.hid (HB05.out.trans hB6)
          clear hyes hid hG' hI' hb0 heq hbit5 hg5 hyg hm6 hadd hS6 hB6 c0
          go_upto_region 9 with fail
          clear m0 m1 m2 n0_ n1_ n2_ he c1 b5 f5
          generalize w5.setCell ⟨gb5, n, none⟩ (.int .u8 0) = w6 at *
          have m0 := M0.out; have m1 := M1.out; have m2 := M2.out
          go_wp2_with fail
          refine Hadd.out.mono ?_
          rintro e w7 ⟨⟨z1, z2, rfl⟩, hS7, hB7⟩
          have HS7 := Lib.hid hS7; have HB07 := Lib.hid (HB06.out.trans hB7)
          clear hS7 hB7
          go_wp2_with fail
          go_roundg k'
          case measure => omega
          case rel => exact ⟨n + 1, out + 1, _, by omega, by push_cast; rfl, by push_cast; rfl, by omega, by have := HI'.out.le; omega, HS7.out, HI'.out, HG'.out, HB07.out⟩
    · have hd : decide ((n : Int) < (l : Int)) = false := by simp; omega
      have hd2 : decide (n < l) = false := by simp; omega
      have hG' := HG.out
      rw [T.rwGo_end own gk n U out (by rw [Hl.out]; omega)] at hG'
      have HG' := Lib.hid hG'
      clear hG'
      go_wp2_with fail
      go_ret
      rw [← HG'.out]
      exact ⟨rfl, HS.out, HB.out⟩
end Go.Proofs.Ytghihhjcoilmgaa
