/- Layer 14: which plans may be, in plain words; may, walked. -/
import Derived.Test.YtkgkkbfpkgfcaaaJ10
import Derived.Deep.CutBlock
namespace Go.Proofs.Ytkgkkbfpkgfcaaa
set_option maxRecDepth 100000
open Go.RowKit Go.Maps
set_option linter.unusedVariables false
set_option linter.unusedSimpArgs false

def is64 (x : Int) : Prop := -9223372036854775808 ≤ x ∧ x ≤ 9223372036854775807
def iv (x : Int) : Value := .int .i64 x
theorem wf_i64 {x : Int} (h : is64 x) : (Lit.int .i64 x).wf = true := by
  obtain ⟨h1, h2⟩ := h
  have e1 : IntKind.i64.min = -9223372036854775808 := by decide
  have e2 : IntKind.i64.max = 9223372036854775807 := by decide
  simp [Lit.wf, e1, e2, h1, h2]
theorem kysI : Kys Try.prog 3 iv is64 := ⟨int_keyed Try.underlying3, fun x hx => ⟨_, keyOf_int_mk Try.underlying3 (wf_i64 hx)⟩, fun x y _ _ h => by simpa [iv] using h⟩
/-- a step's places -/
def plsOf (s : StepT) : List Pl := if s.kind = 3 ∨ s.kind = 4 then [s.a, s.b] else [s.r0, s.r1, s.r2]
def okP (vars kind : Int) (kn : Int → Bool) (x : Pl) : Bool := !decide (x.1 ≥ vars) && !(kind != 1 && decide (x.1 ≥ 0) && !kn x.1)
def knP (kind : Int) (pls : List Pl) (kn : Int → Bool) : Int → Bool := if kind = 1 then fun v => kn v || pls.any (fun x => x.1 == v) else kn
def mayG (vars : Int) : List StepT → (Int → Bool) → Bool
  | [], _ => true
  | s :: t, kn => decide (1 ≤ s.kind ∧ s.kind ≤ 4) && ((plsOf s).all (okP vars s.kind kn) && mayG vars t (knP s.kind (plsOf s) kn))
def mayP (vars : Int) (steps : List StepT) : Bool := decide (0 ≤ vars) && mayG vars steps (fun _ => false)
def is64S (s : StepT) : Prop := is64 s.r0.1 ∧ is64 s.r1.1 ∧ is64 s.r2.1 ∧ is64 s.a.1 ∧ is64 s.b.1
theorem is64S.pls {s : StepT} (h : is64S s) : ∀ x ∈ plsOf s, is64 x.1 := by
  intro x hx
  unfold plsOf at hx
  split at hx
  · simp only [List.mem_cons, List.mem_nil_iff, or_false] at hx
    rcases hx with rfl | rfl
    · exact h.2.2.2.1
    · exact h.2.2.2.2
  · simp only [List.mem_cons, List.mem_nil_iff, or_false] at hx
    rcases hx with rfl | rfl | rfl
    · exact h.1
    · exact h.2.1
    · exact h.2.2.1
/-- places lie at the address -/
def IsPls (w : World) (b o : Nat) (l : List Pl) : Prop := ∀ j (h : j < l.length), w.cell? ⟨b, o + j * 2, none⟩ = some (.int .i64 l[j].1) ∧ w.cell? ⟨b, o + j * 2 + 1, none⟩ = some (.int .u32 l[j].2)
theorem IsPls.below {w w' : World} {b o : Nat} {l : List Pl} (h : IsPls w b o l) (hb : Below w.heap.size w w') : IsPls w' b o l := fun j hj => ⟨cell_later hb (h j hj).1, cell_later hb (h j hj).2⟩
/-- the map answers kn -/
def MapKn (w : World) (b : Nat) (kn : Int → Bool) : Prop := ∃ f, MapAt iv is64 w b f ∧ ∀ v, is64 v → f v = if kn v then some (.agg #[.bool true]) else none
theorem fld96 (q : Bool) (w : World) : (Instr.field 96 (.agg #[.bool q]) 0).run Try.prog w = .ok (.bool q) w := by cases q <;> rfl
theorem zero96 (w : World) : (zeroValue 96).run Try.prog w = .ok (.agg #[.bool false]) w := by kernel_rfl
section
variable {w : World}
set_option maxRecDepth 100000 in
set_option maxHeartbeats 8000000 in
theorem may_any (h0 h1 h2 h3 h4 h5 : Int) (sa : Option Addr) (cap : Nat) (vars : Int) (steps : List StepT) (hst : IsSteps w sa steps) (hn : steps.length ≤ 1000000) (h64 : ∀ s ∈ steps, is64S s) :
    Calls Try.prog 18 #[.agg #[.int .i64 h0, .int .u32 h1, .int .i64 h2, .int .u32 h3, .int .i64 h4, .int .u32 h5, .slice sa steps.length cap, .int .i64 vars]] w fun e w' => e = .returned (.bool (mayP vars steps)) ∧ Below w.heap.size w w' := by
  have Hst := Lib.hid hst; have H64 := Lib.hid h64
  obtain ⟨n, hnn⟩ : ∃ n, steps.length = n := ⟨_, rfl⟩
  rw [hnn] at hn ⊢
  have Hn := Lib.hid hnn
  clear hst hnn h64
  have hbA : Below w.heap.size w (w.alloc (.cells #[.int .i64 h0, .int .u32 h1, .int .i64 h2, .int .u32 h3, .int .i64 h4, .int .u32 h5, .slice sa n cap, .int .i64 vars] 29)) := (Below.refl _ w).alloc (Nat.le_refl _) _
  have hzA : (w.alloc (.cells #[.int .i64 h0, .int .u32 h1, .int .i64 h2, .int .u32 h3, .int .i64 h4, .int .u32 h5, .slice sa n cap, .int .i64 vars] 29)).heap.size = w.heap.size + 1 := World.size_alloc _ _
  have HbA := Lib.hid hbA; have HzA := Lib.hid hzA; have HbX := Lib.hid (World.alloc_heap_new w (.cells #[.int .i64 h0, .int .u32 h1, .int .i64 h2, .int .u32 h3, .int .i64 h4, .int .u32 h5, .slice sa n cap, .int .i64 vars] 29))
  clear hbA hzA
  go_enter Try.func18, Try.ntmps18
  by_cases hv : vars < 0
  · have hd : decide (vars < 0) = true := by simpa using hv
    go_wp2_with fail
    go_ret
    refine ⟨?_, HbA.out⟩
    have : decide (0 ≤ vars) = false := by simpa using hv
    simp [mayP, this]
  · have hd : decide (vars < 0) = false := by simpa using hv
    have hmk : ∀ (t : TypeId) (w : World), (Instr.makeMap t none).run Try.prog w = .ok (.map (some w.heap.size)) (w.alloc (.map #[] 0)) := fun _ _ => rfl
    have hbM : Below (w.alloc (.cells #[.int .i64 h0, .int .u32 h1, .int .i64 h2, .int .u32 h3, .int .i64 h4, .int .u32 h5, .slice sa n cap, .int .i64 vars] 29)).heap.size (w.alloc (.cells #[.int .i64 h0, .int .u32 h1, .int .i64 h2, .int .u32 h3, .int .i64 h4, .int .u32 h5, .slice sa n cap, .int .i64 vars] 29)) ((w.alloc (.cells #[.int .i64 h0, .int .u32 h1, .int .i64 h2, .int .u32 h3, .int .i64 h4, .int .u32 h5, .slice sa n cap, .int .i64 vars] 29)).alloc (.map #[] 0)) := (Below.refl _ _).alloc (Nat.le_refl _) _
    have hxM := (hbM.block _ (by rw [HzA.out]; omega)).trans HbX.out
    have HbM := Lib.hid (HbA.out.trans (hbM.mono (by rw [HzA.out]; omega)))
    have HM0 := Lib.hid (MapAt.made (enc := iv) (ok := is64) (w.alloc (.cells #[.int .i64 h0, .int .u32 h1, .int .i64 h2, .int .u32 h3, .int .i64 h4, .int .u32 h5, .slice sa n cap, .int .i64 vars] 29)))
    have HxM := Lib.hid hxM
    have hc6 : ((w.alloc (.cells #[.int .i64 h0, .int .u32 h1, .int .i64 h2, .int .u32 h3, .int .i64 h4, .int .u32 h5, .slice sa n cap, .int .i64 vars] 29)).alloc (.map #[] 0)).cell? ⟨w.heap.size, 6, none⟩ = some (.slice sa n cap) := by unfold World.cell?; rw [hxM]; rfl
    have HzM := Lib.hid (show ((w.alloc (.cells #[.int .i64 h0, .int .u32 h1, .int .i64 h2, .int .u32 h3, .int .i64 h4, .int .u32 h5, .slice sa n cap, .int .i64 vars] 29)).alloc (.map #[] 0)).heap.size = w.heap.size + 2 from by rw [World.size_alloc, HzA.out])
    clear hbM hxM
    go_wp2_with fail
    rw [HzA.out] at HM0
    clear hc6 hmk
    generalize (w.alloc (.cells #[.int .i64 h0, .int .u32 h1, .int .i64 h2, .int .u32 h3, .int .i64 h4, .int .u32 h5, .slice sa n cap, .int .i64 vars] 29)).alloc (.map #[] 0) = W at *
    go_loopw [18] (fun u wr => ∃ (i : Nat) (kn : Int → Bool), i ≤ n ∧ u = .int .i64 i ∧ MapKn wr (w.heap.size + 1) kn ∧ mayG vars steps (fun _ => false) = mayG vars (steps.drop i) kn ∧ Below w.heap.size w wr ∧ W.heap.size ≤ wr.heap.size ∧ wr.heap[w.heap.size]? = some (.cells #[.int .i64 h0, .int .u32 h1, .int .i64 h2, .int .u32 h3, .int .i64 h4, .int .u32 h5, .slice sa n cap, .int .i64 vars] 29 (0, 0))) (fun u _ => n - (intOf u).toNat)
    case atStart => exact ⟨0, fun _ => false, by omega, rfl, ⟨_, HM0.out, fun v _ => by simp⟩, by rw [List.drop_zero], HbM.out, Nat.le_refl _, HxM.out⟩
    case round =>
      obtain ⟨i, kn, hi, rfl, hm, hg, hB, hsz, hx⟩ := hrel
      have HM := Lib.hid hm; have HG := Lib.hid hg; have HB := Lib.hid hB; have Hsz := Lib.hid hsz; have HX := Lib.hid hx
      clear hm hg hB hsz hx
      by_cases hin : i < n
      · have hd : decide ((i : Int) < (n : Int)) = true := by simp; omega
        obtain ⟨sb, so, rfl, hs⟩ := Hst.out i (by have := Hn.out; omega)
        obtain ⟨⟨kk, ⟨a0, i0⟩, ⟨a1, i1⟩, ⟨a2, i2⟩, ⟨a3, i3⟩, ⟨a4, i4⟩⟩, hsi⟩ : ∃ s : StepT, steps[i]'(by have := Hn.out; omega) = s := ⟨_, rfl⟩
        have hs64 := H64.out (steps[i]'(by have := Hn.out; omega)) (List.getElem_mem _)
        rw [hsi] at hs hs64
        obtain ⟨hsl, e0, e1, e2, e3, e4, e5, e6, e7, e8, e9, e10⟩ := hs.below HB.out
        simp only at e0 e1 e2 e3 e4 e5 e6 e7 e8 e9 e10
        have hdr : steps.drop i = ⟨kk, (a0, i0), (a1, i1), (a2, i2), (a3, i3), (a4, i4)⟩ :: steps.drop (i + 1) := by rw [← hsi]; exact List.drop_eq_getElem_cons _
        have Hdr := Lib.hid hdr; have Hs64 := Lib.hid hs64
        have hB1 : Below wr.heap.size wr (wr.alloc (.cells #[.int .i64 kk, .int .i64 a0, .int .u32 i0, .int .i64 a1, .int .u32 i1, .int .i64 a2, .int .u32 i2, .int .i64 a3, .int .u32 i3, .int .i64 a4, .int .u32 i4] 35)) := (Below.refl _ wr).alloc (Nat.le_refl _) _
        have hz1 : (wr.alloc (.cells #[.int .i64 kk, .int .i64 a0, .int .u32 i0, .int .i64 a1, .int .u32 i1, .int .i64 a2, .int .u32 i2, .int .i64 a3, .int .u32 i3, .int .i64 a4, .int .u32 i4] 35)).heap.size = wr.heap.size + 1 := World.size_alloc _ _
        have hb1 := World.alloc_heap_new wr (.cells #[.int .i64 kk, .int .i64 a0, .int .u32 i0, .int .i64 a1, .int .u32 i1, .int .i64 a2, .int .u32 i2, .int .i64 a3, .int .u32 i3, .int .i64 a4, .int .u32 i4] 35)
        have ck : (wr.alloc (.cells #[.int .i64 kk, .int .i64 a0, .int .u32 i0, .int .i64 a1, .int .u32 i1, .int .i64 a2, .int .u32 i2, .int .i64 a3, .int .u32 i3, .int .i64 a4, .int .u32 i4] 35)).cell? ⟨wr.heap.size, 0, none⟩ = some (.int .i64 kk) := by unfold World.cell?; rw [hb1]; rfl
        have HB1 := Lib.hid hB1; have Hb1 := Lib.hid hb1; have Hz1 := Lib.hid hz1
        clear hs hsi hdr hs64 hB1 hz1 hb1
        go_upto_block 2 with fail
        obtain ⟨W1, hW1⟩ : ∃ W1, W1 = wr.alloc (.cells #[.int .i64 kk, .int .i64 a0, .int .u32 i0, .int .i64 a1, .int .u32 i1, .int .i64 a2, .int .u32 i2, .int .i64 a3, .int .u32 i3, .int .i64 a4, .int .u32 i4] 35) := ⟨_, rfl⟩
        rw [← hW1] at HB1 Hb1 Hz1 ck ⊢
        clear hW1 e0 e1 e2 e3 e4 e5 e6 e7 e8 e9 e10
        obtain ⟨b5, hb5⟩ : ∃ b5, b5 = wr.heap.size := ⟨_, rfl⟩
        rw [← hb5] at Hb1 ck Hz1 ⊢
        have Hb5 := Lib.hid hb5
        clear hb5
        go_cut [6] from 26 to 36 (fun u6 wx => 1 ≤ kk ∧ kk ≤ 4 ∧ ∃ lb lo m : Nat, u6 = .slice (some ⟨lb, lo, none⟩) m m ∧ m ≤ 3 ∧ (plsOf ⟨kk, (a0, i0), (a1, i1), (a2, i2), (a3, i3), (a4, i4)⟩).length = m ∧ IsPls wx lb lo (plsOf ⟨kk, (a0, i0), (a1, i1), (a2, i2), (a3, i3), (a4, i4)⟩) ∧ Below W1.heap.size W1 wx)
        case first =>
          have hrow : kk ≠ 3 ∧ kk ≠ 4 → IsPls W1 b5 1 (plsOf ⟨kk, (a0, i0), (a1, i1), (a2, i2), (a3, i3), (a4, i4)⟩) := by
            rintro ⟨h3, h4⟩ j hj
            have hp : plsOf ⟨kk, (a0, i0), (a1, i1), (a2, i2), (a3, i3), (a4, i4)⟩ = [(a0, i0), (a1, i1), (a2, i2)] := by unfold plsOf; rw [if_neg (by simp; omega)]
            simp only [hp] at hj ⊢
            have hx := Hb1.out
            rcases (show j = 0 ∨ j = 1 ∨ j = 2 by simp at hj; omega) with rfl | rfl | rfl <;> (unfold World.cell?; rw [hx]; exact ⟨rfl, rfl⟩)
          have Hrow := Lib.hid hrow
          clear hrow
          by_cases hk1 : kk = 1
          · subst hk1
            go_wp2_with fail
            go_meet
            exact ⟨by decide, by decide, b5, 1, 3, rfl, by decide, rfl, Hrow.out ⟨by decide, by decide⟩, Below.refl _ _⟩
          · have hd1 : (kk == 1) = false := by simpa using hk1
            by_cases hk2 : kk = 2
            · subst hk2
              go_wp2_with fail
              go_meet
              exact ⟨by decide, by decide, b5, 1, 3, rfl, by decide, rfl, Hrow.out ⟨by decide, by decide⟩, Below.refl _ _⟩
            · have hd2 : (kk == 2) = false := by simpa using hk2
              obtain ⟨c7, c8, c9, c10⟩ : W1.cell? ⟨b5, 7, none⟩ = some (.int .i64 a3) ∧ W1.cell? ⟨b5, 8, none⟩ = some (.int .u32 i3) ∧ W1.cell? ⟨b5, 9, none⟩ = some (.int .i64 a4) ∧ W1.cell? ⟨b5, 10, none⟩ = some (.int .u32 i4) := by
                unfold World.cell?; rw [Hb1.out]; exact ⟨rfl, rfl, rfl, rfl⟩
              have hab : ∀ k', k' = 3 ∨ k' = 4 → IsPls (W1.alloc (.cells #[.int .i64 a3, .int .u32 i3, .int .i64 a4, .int .u32 i4] 25)) W1.heap.size 0 (plsOf ⟨k', (a0, i0), (a1, i1), (a2, i2), (a3, i3), (a4, i4)⟩) := by
                intro k' hk' j hj
                have hp : plsOf ⟨k', (a0, i0), (a1, i1), (a2, i2), (a3, i3), (a4, i4)⟩ = [(a3, i3), (a4, i4)] := by unfold plsOf; rw [if_pos hk']
                simp only [hp] at hj ⊢
                have hx := World.alloc_heap_new W1 (.cells #[.int .i64 a3, .int .u32 i3, .int .i64 a4, .int .u32 i4] 25)
                rcases (show j = 0 ∨ j = 1 by simp at hj; omega) with rfl | rfl <;> (unfold World.cell?; rw [hx]; exact ⟨rfl, rfl⟩)
              have Hab := Lib.hid hab
              clear hab
              by_cases hk3 : kk = 3
              · subst hk3
                go_wp2_with fail
                go_meet
                exact ⟨by decide, by decide, _, 0, 2, rfl, by decide, rfl, Hab.out 3 (.inl rfl), (Below.refl _ _).alloc (Nat.le_refl _) _⟩
              · have hd3 : (kk == 3) = false := by simpa using hk3
                by_cases hk4 : kk = 4
                · subst hk4
                  go_wp2_with fail
                  go_meet
                  exact ⟨by decide, by decide, _, 0, 2, rfl, by decide, rfl, Hab.out 4 (.inr rfl), (Below.refl _ _).alloc (Nat.le_refl _) _⟩
                · have hd4 : (kk == 4) = false := by simpa using hk4
                  go_wp2_with fail
                  go_ret
                  refine ⟨?_, HB.out.trans (HB1.out.mono HB.out.size)⟩
                  have hno : decide (1 ≤ kk ∧ kk ≤ 4) = false := by simp; omega
                  simp only [mayP, HG.out, Hdr.out, mayG, hno, Bool.false_and, Bool.and_false]
                  rfl
        case rest =>
          obtain ⟨hk1, hk4, lb, lo, m, rfl, hm3, hm, hpl, hBx⟩ := hcut
          obtain ⟨LL, hLL⟩ : ∃ LL, plsOf ⟨kk, (a0, i0), (a1, i1), (a2, i2), (a3, i3), (a4, i4)⟩ = LL := ⟨_, rfl⟩
          have hL64 := Hs64.out.pls
          rw [hLL] at hm hpl hL64
          have hcell := (hBx.block b5 (by have := Hz1.out; omega)).trans Hb1.out
          have Hm := Lib.hid hm; have Hpl := Lib.hid hpl; have HBx := Lib.hid (HB1.out.trans (hBx.mono HB1.out.size)); have HLL := Lib.hid hLL; have HL64 := Lib.hid hL64
          have Hc5 := Lib.hid hcell
          have Hcx := Lib.hid ((HBx.out.block _ (Array.getElem?_eq_some_iff.1 HX.out).1).trans HX.out)
          have Hkk := Lib.hid (show decide (1 ≤ kk ∧ kk ≤ 4) = true from by simp; omega)
          clear hm hpl hBx hLL hL64 hcell ck hk1 hk4
          have hmap : MapKn wc (w.heap.size + 1) kn := by
            obtain ⟨f, hf, hv⟩ := HM.out
            exact ⟨f, hf.stay (HBx.out.block _ hf.lt), hv⟩
          have HMc := Lib.hid hmap
          clear hmap
          go_wp2_with fail
          go_loopw [39] (fun u wx => ∃ j : Nat, j ≤ m ∧ u = .int .i64 j ∧ Below wc.heap.size wc wx ∧ ∀ i (h : i < LL.length), i < j → okP vars kk kn LL[i] = true) (fun u _ => m - (intOf u).toNat)
          case atStart => exact ⟨0, by omega, rfl, Below.refl _ _, fun i _ h => by omega⟩
          case round =>
            obtain ⟨j, hj, rfl, hBj, hall⟩ := hrel
            have HBj := Lib.hid hBj; have Hall := Lib.hid hall
            clear hBj hall
            by_cases hjm : j < m
            · have hd : decide ((j : Int) < (m : Int)) = true := by simp; omega
              have hjL : j < LL.length := by have := Hm.out; omega
              obtain ⟨p0, p1⟩ := (Hpl.out.below HBj.out) j hjL
              obtain ⟨⟨xv, xi⟩, hx⟩ : ∃ x, LL[j] = x := ⟨_, rfl⟩
              have hx64 : is64 xv := by have := HL64.out _ (List.getElem_mem hjL); rw [hx] at this; exact this
              rw [hx] at p0 p1
              simp only at p0 p1
              have hA : Below wr.heap.size wr (wr.alloc (.cells #[.int .i64 xv, .int .u32 xi] 25)) := (Below.refl _ _).alloc (Nat.le_refl _) _
              have hxn := World.alloc_heap_new wr (.cells #[.int .i64 xv, .int .u32 xi] 25)
              have cv : (wr.alloc (.cells #[.int .i64 xv, .int .u32 xi] 25)).cell? ⟨w.heap.size, 7, none⟩ = some (.int .i64 vars) := cell_later (HBj.out.trans (hA.mono HBj.out.size)) (by unfold World.cell?; rw [Hcx.out]; rfl)
              have ck : (wr.alloc (.cells #[.int .i64 xv, .int .u32 xi] 25)).cell? ⟨b5, 0, none⟩ = some (.int .i64 kk) := cell_later (HBj.out.trans (hA.mono HBj.out.size)) (by unfold World.cell?; rw [Hc5.out]; rfl)
              have hlk : (Instr.lookup 95 (.map (some (w.heap.size + 1))) (.int .i64 xv) false).run Try.prog (wr.alloc (.cells #[.int .i64 xv, .int .u32 xi] 25)) = .ok (.agg #[.bool (kn xv)]) (wr.alloc (.cells #[.int .i64 xv, .int .u32 xi] 25)) := by
                obtain ⟨f, hf, hfv⟩ := HMc.out
                have hf2 := hf.stay ((HBj.out.trans (hA.mono HBj.out.size)).block _ hf.lt)
                have := hf2.look (P := Try.prog) (t := 95) kysI Try.underlying95 (zero96 _) false hx64
                rw [hfv xv hx64] at this
                refine this.trans ?_
                cases kn xv <;> rfl
              have hfl := fld96 (kn xv) (wr.alloc (.cells #[.int .i64 xv, .int .u32 xi] 25))
              have HBn := Lib.hid (HBj.out.trans (hA.mono HBj.out.size)); have Hx := Lib.hid hx
              clear hA hxn hx hx64
              have hnext : okP vars kk kn (xv, xi) = true → ∀ i (h : i < LL.length), i < j + 1 → okP vars kk kn LL[i] = true := by
                intro ho i h hi
                by_cases hij : i = j
                · subst hij; rw [Hx.out]; exact ho
                · exact Hall.out i h (by omega)
              have hbad : okP vars kk kn (xv, xi) = false → mayP vars steps = false := by
                intro ho
                have : LL.all (okP vars kk kn) = false := by
                  rw [List.all_eq_false]
                  exact ⟨_, List.getElem_mem hjL, by rw [Hx.out, ho]; simp⟩
                simp only [mayP, HG.out, Hdr.out, mayG, HLL.out, this, Bool.false_and, Bool.and_false]
              have Hnext := Lib.hid hnext; have Hbad := Lib.hid hbad; have HjL := Lib.hid hjL
              clear hnext hbad
              by_cases hxv : xv ≥ vars
              · have hd1 : decide (xv ≥ vars) = true := by simpa using hxv
                go_wp2_with fail
                go_ret
                refine ⟨?_, ?_⟩
                · rw [Hbad.out (by simp [okP, hd1])]; rfl
                · exact (HB.out.trans (HBx.out.mono HB.out.size)).trans (HBn.out.mono (HB.out.trans (HBx.out.mono HB.out.size)).size)
              · have hd1 : decide (xv ≥ vars) = false := by simpa using hxv
                by_cases hk1 : kk = 1
                · have hd2 : (kk != 1) = false := by simpa using hk1
                  go_wp2_with fail
                  exact ⟨⟨j + 1, by omega, by push_cast; rfl, HBn.out, Hnext.out (by simp [okP, hd1, hd2])⟩, by simp [intOf]; omega⟩
                · have hd2 : (kk != 1) = true := by simpa using hk1
                  by_cases hx0 : xv ≥ 0
                  · have hd3 : decide (xv ≥ 0) = true := by simpa using hx0
                    cases hkn : kn xv with
                    | true =>
                      rw [hkn] at hlk hfl
                      have Hkn := Lib.hid hkn
                      clear hkn
                      go_wp2_with fail
                      exact ⟨⟨j + 1, by omega, by push_cast; rfl, HBn.out, Hnext.out (by simp [okP, hd1, hd2, hd3, Hkn.out])⟩, by simp [intOf]; omega⟩
                    | false =>
                      rw [hkn] at hlk hfl
                      have Hkn := Lib.hid hkn
                      clear hkn
                      go_wp2_with fail
                      go_ret
                      refine ⟨?_, ?_⟩
                      · rw [Hbad.out (by simp [okP, hd1, hd2, hd3, Hkn.out])]; rfl
                      · exact (HB.out.trans (HBx.out.mono HB.out.size)).trans (HBn.out.mono (HB.out.trans (HBx.out.mono HB.out.size)).size)
                  · have hd3 : decide (xv ≥ 0) = false := by simpa using hx0
                    go_wp2_with fail
                    exact ⟨⟨j + 1, by omega, by push_cast; rfl, HBn.out, Hnext.out (by simp [okP, hd1, hd2, hd3])⟩, by simp [intOf]; omega⟩
            · have hjm' : j = m := by omega
              subst hjm'
              have hd : decide ((j : Int) < (j : Int)) = false := by simp
              have ck : wr.cell? ⟨b5, 0, none⟩ = some (.int .i64 kk) := cell_later HBj.out (by unfold World.cell?; rw [Hc5.out]; rfl)
              have hallL : LL.all (okP vars kk kn) = true := by
                rw [List.all_eq_true]
                intro x hx
                obtain ⟨i, hi, rfl⟩ := List.getElem_of_mem hx
                exact Hall.out i hi (by have := Hm.out; omega)
              have hstep : mayG vars steps (fun _ => false) = mayG vars (steps.drop (i + 1)) (knP kk LL kn) := by
                rw [HG.out, Hdr.out]
                simp only [mayG, HLL.out, hallL, Hkk.out, Bool.true_and]
              have Hstep := Lib.hid hstep
              have hxw := (HBj.out.block _ (Array.getElem?_eq_some_iff.1 Hcx.out).1).trans Hcx.out
              have hBw := HB.out.trans ((HBx.out.mono HB.out.size).trans (HBj.out.mono (Nat.le_trans HB.out.size HBx.out.size)))
              have hszw : W.heap.size ≤ wr.heap.size := Nat.le_trans Hsz.out (Nat.le_trans HBx.out.size HBj.out.size)
              have hmap : MapKn wr (w.heap.size + 1) kn := by
                obtain ⟨f, hf, hv⟩ := HMc.out
                exact ⟨f, hf.stay (HBj.out.block _ hf.lt), hv⟩
              have Hxw := Lib.hid hxw; have HBw := Lib.hid hBw; have Hszw := Lib.hid hszw; have HMw := Lib.hid hmap
              clear hallL hstep hxw hBw hszw hmap
              by_cases hk1 : kk = 1
              · subst hk1
                go_wp2_with fail
                obtain ⟨V0, hV0⟩ : ∃ V0, V0 = wr := ⟨_, rfl⟩
                rw [← hV0] at HBj HBw Hszw HMw Hxw ⊢
                clear hV0 ck
                have Hp0 := Lib.hid (Hpl.out.below HBj.out)
                go_loopw [72] (fun u wx => ∃ j' : Nat, j' ≤ j ∧ u = .int .i64 j' ∧ MapKn wx (w.heap.size + 1) (fun v => kn v || (LL.take j').any (fun x => x.1 == v)) ∧ (∀ i, i < V0.heap.size → i ≠ w.heap.size + 1 → wx.heap[i]? = V0.heap[i]?) ∧ Below w.heap.size w wx ∧ V0.heap.size ≤ wx.heap.size) (fun u _ => j - (intOf u).toNat)
                case atStart =>
                  refine ⟨0, by omega, rfl, ?_, fun i _ _ => rfl, HBw.out, Nat.le_refl _⟩
                  obtain ⟨f, hf, hv⟩ := HMw.out
                  exact ⟨f, hf, fun v h => by rw [hv v h]; simp⟩
                case round =>
                  obtain ⟨j', hj', rfl, hmp, hk0, hBk, hsk⟩ := hrel
                  have HMp := Lib.hid hmp; have HK0 := Lib.hid hk0; have HBk := Lib.hid hBk; have Hsk := Lib.hid hsk
                  clear hmp hk0 hBk hsk
                  by_cases hjm : j' < j
                  · have hd : decide ((j' : Int) < (j : Int)) = true := by simp; omega
                    have hjL : j' < LL.length := by have := Hm.out; omega
                    obtain ⟨p0, p1⟩ := Hp0.out j' hjL
                    obtain ⟨⟨xv, xi⟩, hx⟩ : ∃ x, LL[j'] = x := ⟨_, rfl⟩
                    have hx64 : is64 xv := by have := HL64.out _ (List.getElem_mem hjL); rw [hx] at this; exact this
                    rw [hx] at p0 p1
                    simp only at p0 p1
                    obtain ⟨f0, hf0, _⟩ := HMw.out
                    have hlb : lb ≠ w.heap.size + 1 := by
                      rintro rfl
                      obtain ⟨es, c, hh, _⟩ := hf0
                      unfold World.cell? at p0
                      rw [hh] at p0
                      cases p0
                    have hlbl : lb < V0.heap.size := World.block_lt_of_cell? _ _ p0
                    have p0 := (World.cell?_of_block (a := ⟨lb, lo + j' * 2, none⟩) (HK0.out lb hlbl hlb)).trans p0
                    have p1 := (World.cell?_of_block (a := ⟨lb, lo + j' * 2 + 1, none⟩) (HK0.out lb hlbl hlb)).trans p1
                    have hA : Below wr.heap.size wr (wr.alloc (.cells #[.int .i64 xv, .int .u32 xi] 25)) := (Below.refl _ _).alloc (Nat.le_refl _) _
                    obtain ⟨f, hf, hfv⟩ := HMp.out
                    have Hat := Lib.hid (hf.stay (hA.block _ hf.lt))
                    have Hx := Lib.hid hx; have HA := Lib.hid hA; have Hfv := Lib.hid hfv
                    clear hA hx hf hfv hf0 hlb hlbl
                    go_wp2_with (first | (at_mapUpdate; refine wpList_mapUpdate_raw _ rfl _ _ _ 95 rfl 3 96 kysI Try.underlying95 _ _ rfl Hat.out _ hx64 _ rfl rfl ?_; intro w1 hm1 ht1; have Hm1 := Lib.hid hm1; have Ht1 := Lib.hid ht1; clear hm1 ht1) | go_in)
                    refine ⟨⟨j' + 1, by omega, by push_cast; rfl, ⟨_, Hm1.out, fun v hv => ?_⟩, fun i hi hne => ?_, ?_, ?_⟩, by simp [intOf]; omega⟩
                    · by_cases hvx : v = xv
                      · subst hvx
                        rw [upd_same, if_pos]
                        · rfl
                        · rw [List.take_add_one, List.getElem?_eq_getElem hjL, Hx.out]
                          simp only [Option.toList_some, List.any_append, List.any_cons, List.any_nil, Bool.or_false, beq_self_eq_true, Bool.or_true]
                      · rw [upd_ne _ _ hvx, Hfv.out v hv]
                        rw [List.take_add_one, List.getElem?_eq_getElem hjL, Hx.out]
                        simp only [Option.toList_some, List.any_append, List.any_cons, List.any_nil, Bool.or_false]
                        rw [show (xv == v) = false by simpa using Ne.symm hvx, Bool.or_false]
                    · exact (((turned_heap Ht1.out).2 i hne).trans (HA.out.block i (Nat.lt_of_lt_of_le hi Hsk.out))).trans (HK0.out i hi hne)
                    · exact (HBk.out.trans (HA.out.mono HBk.out.size)).grown Ht1.out.grown (Nat.le_trans HBk.out.size HA.out.size) (fun k e => by injection e with e; omega)
                    · exact Nat.le_trans Hsk.out (Nat.le_trans HA.out.size Ht1.out.grown.size)
                  · have hjm' : j' = j := by omega
                    subst hjm'
                    have hd : decide ((j' : Int) < (j' : Int)) = false := by simp
                    go_wp2_with fail
                    refine ⟨⟨i + 1, _, by omega, by push_cast; rfl, HMp.out, ?_, HBk.out, Nat.le_trans Hszw.out Hsk.out, ?_⟩, by simp [intOf]; omega⟩
                    · rw [Hstep.out, List.take_of_length_le (by have := Hm.out; omega)]
                      rfl
                    · exact (HK0.out _ (Array.getElem?_eq_some_iff.1 Hxw.out).1 (by omega)).trans Hxw.out
              · have hd1 : (kk == 1) = false := by simpa using hk1
                go_wp2_with fail
                refine ⟨⟨i + 1, kn, by omega, by push_cast; rfl, HMw.out, ?_, HBw.out, Hszw.out, Hxw.out⟩, by simp [intOf]; omega⟩
                rw [Hstep.out]
                simp only [knP, if_neg hk1]
      · have hin' : i = n := by omega
        subst hin'
        have hd : decide ((i : Int) < (i : Int)) = false := by simp
        go_wp2_with fail
        go_ret
        refine ⟨?_, HB.out⟩
        have hx : mayG vars steps (fun _ => false) = true := by
          rw [HG.out, List.drop_eq_nil_of_le (by have := Hn.out; omega)]
          rfl
        have : decide (0 ≤ vars) = true := by simpa using hv
        simp only [mayP, hx, this]
        rfl
end
end Go.Proofs.Ytkgkkbfpkgfcaaa
