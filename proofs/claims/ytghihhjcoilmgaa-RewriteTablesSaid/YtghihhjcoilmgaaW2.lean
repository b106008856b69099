/- Pick's holds: do the conditions hold of which a place is the last one. -/
import Derived.Test.YtghihhjcoilmgaaW0
namespace Go.Proofs.Ytghihhjcoilmgaa
set_option maxRecDepth 100000
open Go.RowKit Go.Maps
set_option linter.unusedVariables false
set_option linter.unusedSimpArgs false
attribute [local go_sem] Oper.semAt_some

/-- values of one cell each at an address -/
def IsAt {α : Type} (enc : α → Value) (w : World) (a : Option Addr) (L : List α) : Prop := ∀ j (h : j < L.length), ∃ b off, a = some ⟨b, off, none⟩ ∧ b < w.heap.size ∧ w.cell? ⟨b, off + j, none⟩ = some (enc L[j])
theorem IsAt.low {α : Type} {enc : α → Value} {w w' : World} {a : Option Addr} {L : List α} (h : IsAt enc w a L) (hb : Below w.heap.size w w') : IsAt enc w' a L := by
  intro j hj
  obtain ⟨b, off, e, h1, h2⟩ := h j hj
  exact ⟨b, off, e, Nat.lt_of_lt_of_le h1 hb.size, (World.cell?_of_block (w := w) (w' := w') (a := ⟨b, off + j, none⟩) (hb.block b h1)).trans h2⟩
/-- a condition: two places, and whether they are to be unlike -/
abbrev CondT := Int × Int × Bool
def IsC (w : World) (a : Option Addr) (L : List CondT) : Prop := ∀ j (h : j < L.length), ∃ b off, a = some ⟨b, off, none⟩ ∧ b < w.heap.size ∧
  w.cell? ⟨b, off + j * 3, none⟩ = some (.int .i64 L[j].1) ∧ w.cell? ⟨b, off + j * 3 + 1, none⟩ = some (.int .i64 L[j].2.1) ∧ w.cell? ⟨b, off + j * 3 + 2, none⟩ = some (.bool L[j].2.2)
theorem IsC.below {w w' : World} {a : Option Addr} {L : List CondT} (h : IsC w a L) (hb : Below w.heap.size w w') : IsC w' a L := by
  intro j hj
  obtain ⟨b, off, e, h1, h2, h3, h4⟩ := h j hj
  have s : ∀ k, w'.cell? ⟨b, k, none⟩ = w.cell? ⟨b, k, none⟩ := fun k => World.cell?_of_block (w := w) (w' := w') (a := ⟨b, k, none⟩) (hb.block b h1)
  exact ⟨b, off, e, Nat.lt_of_lt_of_le h1 hb.size, (s _).trans h2, (s _).trans h3, (s _).trans h4⟩
/-- a condition holds of what is chosen -/
def okC (X : List Int) (c : CondT) : Prop := ¬ (decide (X.getD c.1.toNat 0 = X.getD c.2.1.toNat 0) = c.2.2)
/-- both places of it are places -/
def inC (n : Nat) (c : CondT) : Prop := 0 ≤ c.1 ∧ c.1 < n ∧ 0 ≤ c.2.1 ∧ c.2.1 < n
def ints (L : List Int) : Array Value := (L.map (Value.int .u32)).toArray
theorem ints_get {L : List Int} {j : Nat} (h : j < L.length) : (ints L)[j]? = some (.int .u32 L[j]) := by simp [ints, h]
theorem chosen_cell {w : World} {b : Nat} {X : List Int} {fz : Nat × Nat} (h : w.heap[b]? = some (.cells (ints X) 31 fz)) {j : Nat} (hj : j < X.length) : w.cell? ⟨b, j, none⟩ = some (.int .u32 (X.getD j 0)) := by
  unfold World.cell?
  rw [h]
  simp only
  rw [ints_get hj]
  simp [List.getD_eq_getElem?_getD, hj]

set_option maxRecDepth 100000 in
set_option maxHeartbeats 4000000 in
theorem holds_any {w : World} {ca : Option Addr} {C : List CondT} {ccap cb xp xb N ncap : Nat} {X : List Int} {fz : Nat × Nat} (hC : IsC w ca C) (hcb : w.heap[cb]? = some (.cells #[.slice ca C.length ccap] 25 (0, 0)))
    (hxp : w.heap[xp]? = some (.cells #[.slice (some ⟨xb, 0, none⟩) N ncap] 23 (0, 0))) (hX : w.heap[xb]? = some (.cells (ints X) 31 fz)) (hN : X.length = N) (hin : ∀ c ∈ C, inC N c) (hCl : C.length ≤ 1000000) (hNl : N ≤ 1000000) (k : Nat) :
    Calls Try.prog 29 #[.int .i64 (k : Nat), .pointer (some ⟨cb, 0, none⟩), .pointer (some ⟨xp, 0, none⟩)] w fun e w' => ∃ b, e = .returned (.bool b) ∧ (b = true ↔ ∀ c ∈ C, max c.1 c.2.1 = k → okC X c) ∧ Below w.heap.size w w' := by
  obtain ⟨n, hn⟩ : ∃ n, C.length = n := ⟨_, rfl⟩
  have c1 := (box_at hcb rfl).1
  rw [hn] at c1 hCl
  have HC := Lib.hid hC; have Hcb := Lib.hid hcb; have Hxp := Lib.hid hxp; have HX := Lib.hid hX; have HN := Lib.hid hN; have Hin := Lib.hid hin; have Hn := Lib.hid hn
  clear hC hcb hxp hX hN hin hn
  go_enter Try.func29, Try.ntmps29
  go_wp2_with fail
  go_loopw [9] (fun u wr => ∃ i : Nat, i ≤ n ∧ u = .int .i64 i ∧ (∀ j (h : j < C.length), j < i → max C[j].1 C[j].2.1 = k → okC X C[j]) ∧ Below w.heap.size w wr) (fun u _ => n - (intOf u).toNat)
  case atStart => exact ⟨0, by omega, rfl, fun j _ h => by omega, Below.refl _ _⟩
  case round =>
    obtain ⟨i, hi, rfl, hall, hB⟩ := hrel
    have Hall := Lib.hid hall; have HB := Lib.hid hB
    clear hall hB
    by_cases hin : i < n
    · have hd : decide ((i : Int) < (n : Int)) = true := by simp; omega
      have hiC : i < C.length := by have := Hn.out; omega
      obtain ⟨x, hx⟩ : ∃ x, C[i] = x := ⟨_, rfl⟩
      obtain ⟨b, off, rfl, hbl, k1, k2, k3⟩ := HC.out.below HB.out i hiC
      have hxc := Hin.out C[i] (List.getElem_mem hiC)
      rw [hx] at k1 k2 k3 hxc
      obtain ⟨xa, xc, xu⟩ := x
      obtain ⟨h1, h2, h3, h4⟩ := hxc
      simp only at k1 k2 k3 h1 h2 h3 h4
      obtain ⟨pa, rfl⟩ : ∃ pa : Nat, xa = pa := ⟨xa.toNat, by omega⟩
      obtain ⟨pc, rfl⟩ : ∃ pc : Nat, xc = pc := ⟨xc.toNat, by omega⟩
      have Hx := Lib.hid hx
      clear hx hbl
      go_wp2_with fail
      obtain ⟨nb, hnb⟩ : ∃ nb, wr.heap.size = nb := ⟨_, rfl⟩
      have hBa : Below wr.heap.size wr (wr.alloc (.cells #[.int .i64 (pa : Int), .int .i64 (pc : Int), .bool xu] 67)) := (Below.refl _ wr).alloc (Nat.le_refl _) _
      have hnew := World.alloc_heap_new wr (.cells #[.int .i64 (pa : Int), .int .i64 (pc : Int), .bool xu] 67)
      generalize wr.alloc (.cells #[.int .i64 (pa : Int), .int .i64 (pc : Int), .bool xu] 67) = V at *
      have hBV := HB.out.trans (hBa.mono HB.out.size)
      rw [hnb] at hnew ⊢
      have d0 : V.cell? ⟨nb, 0, none⟩ = some (.int .i64 (pa : Int)) := by unfold World.cell?; rw [hnew]; rfl
      have d1 : V.cell? ⟨nb, 1, none⟩ = some (.int .i64 (pc : Int)) := by unfold World.cell?; rw [hnew]; rfl
      have d2 : V.cell? ⟨nb, 2, none⟩ = some (.bool xu) := by unfold World.cell?; rw [hnew]; rfl
      have cp : V.cell? ⟨xp, 0, none⟩ = some (.slice (some ⟨xb, 0, none⟩) N ncap) := (box_at ((hBV.block xp (lt_of_heap Hxp.out)).trans Hxp.out) rfl).1
      have hXV := (hBV.block xb (lt_of_heap HX.out)).trans HX.out
      have hpa : pa < N := by omega
      have hpc : pc < N := by omega
      obtain ⟨za, hza⟩ : ∃ za, X.getD pa 0 = za := ⟨_, rfl⟩
      obtain ⟨zc, hzc⟩ : ∃ zc, X.getD pc 0 = zc := ⟨_, rfl⟩
      have ca_ := chosen_cell hXV (j := pa) (by have := HN.out; omega)
      have cc_ := chosen_cell hXV (j := pc) (by have := HN.out; omega)
      rw [hza] at ca_
      rw [hzc] at cc_
      have HBV := Lib.hid hBV; have Hza := Lib.hid hza; have Hzc := Lib.hid hzc
      clear hBa hBV hnew hXV hza hzc k1 k2 k3 c1
      obtain ⟨m, hm⟩ : ∃ m, (max (pa : Int) (pc : Int) == (k : Int)) = m := ⟨_, rfl⟩
      cases m with
      | false =>
        have d0 : V.drew.cell? ⟨nb, 0, none⟩ = some (.int .i64 (pa : Int)) := d0
        have d1 : V.drew.cell? ⟨nb, 1, none⟩ = some (.int .i64 (pc : Int)) := d1
        have d2 : V.drew.cell? ⟨nb, 2, none⟩ = some (.bool xu) := d2
        have cp : V.drew.cell? ⟨xp, 0, none⟩ = some (.slice (some ⟨xb, 0, none⟩) N ncap) := cp
        have ca_ : V.drew.cell? ⟨xb, pa, none⟩ = some (.int .u32 za) := ca_
        have cc_ : V.drew.cell? ⟨xb, pc, none⟩ = some (.int .u32 zc) := cc_
        obtain ⟨S4, hSe⟩ : ∃ S : Array Bool → World → Prop, S = fun _ w' => Below V.drew.heap.size V.drew w' := ⟨_, rfl⟩
        have hdrop : ∀ i : Nat, ∀ L w', S4 (L.setIfInBounds i true) w' → S4 L w' := by
          intro i L w' h; rw [hSe] at h ⊢; exact h
        have hS : ∀ L, S4 L V.drew := by intro L; rw [hSe]; exact Below.refl _ _
        have hSo : ∀ {L w'}, S4 L w' → Below V.drew.heap.size V.drew w' := by intro L w' h; rw [hSe] at h; exact h
        have hSi : ∀ {w'}, Below V.drew.heap.size V.drew w' → ∀ L, S4 L w' := by intro w' h L; rw [hSe]; exact h
        clear hSe
        refine wp_region_LN S4 23 #[false, false, false, false, false, false, false, false, false, false, false, false, false, false, false, false, false, false, false, false, false, false, false] (by kernel_rfl) (by kernel_rfl) rfl ?_
        obtain ⟨V4, hV4⟩ : ∃ V4, V4 = V.drew := ⟨_, rfl⟩
        rw [← hV4] at d0 d1 d2 cp ca_ cc_ hSo hS hSi ⊢
        have HV4 := Lib.hid hV4
        clear hV4
        refine WA.take (i := 0) (v := .pointer (some ⟨nb, 0, none⟩)) rfl (by kernel_rfl) (by kernel_rfl) (by kernel_rfl) (fun _ _ _ h => h) (hdrop 0) (Or.inl ⟨by rfl, ?_⟩) (hS _) ?_
        · rintro w' ⟨L, hL, hSw, hun⟩
          go_simp
        simp only [List.getElem_toArray, List.getElem_cons_zero, List.getElem_cons_succ, Act.put, List.setIfInBounds_toArray, List.set_cons_zero, List.set_cons_succ]
        refine WA.take (i := 1) (v := .int .i64 (pa : Int)) rfl (by kernel_rfl) (by kernel_rfl) (by kernel_rfl) (fun _ _ _ h => h) (hdrop 1) (Or.inl ⟨by rfl, ?_⟩) (hS _) ?_
        · rintro w' ⟨L, hL, hSw, hun⟩
          have hbw := hSo hSw
          have d0 := cell_later hbw d0
          clear hbw
          go_simp
        simp only [List.getElem_toArray, List.getElem_cons_zero, List.getElem_cons_succ, Act.put, List.setIfInBounds_toArray, List.set_cons_zero, List.set_cons_succ]
        refine WA.take (i := 2) (v := .pointer (some ⟨nb, 1, none⟩)) rfl (by kernel_rfl) (by kernel_rfl) (by kernel_rfl) (fun _ _ _ h => h) (hdrop 2) (Or.inl ⟨by rfl, ?_⟩) (hS _) ?_
        · rintro w' ⟨L, hL, hSw, hun⟩
          go_simp
        simp only [List.getElem_toArray, List.getElem_cons_zero, List.getElem_cons_succ, Act.put, List.setIfInBounds_toArray, List.set_cons_zero, List.set_cons_succ]
        refine WA.take (i := 3) (v := .int .i64 (pc : Int)) rfl (by kernel_rfl) (by kernel_rfl) (by kernel_rfl) (fun _ _ _ h => h) (hdrop 3) (Or.inl ⟨by rfl, ?_⟩) (hS _) ?_
        · rintro w' ⟨L, hL, hSw, hun⟩
          have hbw := hSo hSw
          have d1 := cell_later hbw d1
          clear hbw
          go_simp
        simp only [List.getElem_toArray, List.getElem_cons_zero, List.getElem_cons_succ, Act.put, List.setIfInBounds_toArray, List.set_cons_zero, List.set_cons_succ]
        refine WA.take (i := 4) (v := .int .i64 (max (pa : Int) (pc : Int))) rfl (by kernel_rfl) (by kernel_rfl) (by kernel_rfl) (fun _ _ _ h => h) (hdrop 4) (Or.inl ⟨by rfl, ?_⟩) (hS _) ?_
        · rintro w' ⟨L, hL, hSw, hun⟩
          go_simp
          split <;> omega
        simp only [List.getElem_toArray, List.getElem_cons_zero, List.getElem_cons_succ, Act.put, List.setIfInBounds_toArray, List.set_cons_zero, List.set_cons_succ]
        refine WA.take (i := 5) (v := .int .i64 ((k : Nat) : Int)) rfl (by kernel_rfl) (by kernel_rfl) (by kernel_rfl) (fun _ _ _ h => h) (hdrop 5) (Or.inl ⟨by rfl, ?_⟩) (hS _) ?_
        · rintro w' ⟨L, hL, hSw, hun⟩
          go_simp
        simp only [List.getElem_toArray, List.getElem_cons_zero, List.getElem_cons_succ, Act.put, List.setIfInBounds_toArray, List.set_cons_zero, List.set_cons_succ]
        refine WA.take (i := 6) (v := .bool false) rfl (by kernel_rfl) (by kernel_rfl) (by kernel_rfl) (fun _ _ _ h => h) (hdrop 6) (Or.inl ⟨by rfl, ?_⟩) (hS _) ?_
        · rintro w' ⟨L, hL, hSw, hun⟩
          go_simp
        simp only [List.getElem_toArray, List.getElem_cons_zero, List.getElem_cons_succ, Act.put, List.setIfInBounds_toArray, List.set_cons_zero, List.set_cons_succ]
        refine WA.take (i := 7) (v := .bool false) rfl (by kernel_rfl) (by kernel_rfl) (by kernel_rfl) (fun _ _ _ h => h) (hdrop 7) (Or.inl ⟨by rfl, ?_⟩) (hS _) ?_
        · rintro w' ⟨L, hL, hSw, hun⟩
          go_simp
        simp only [List.getElem_toArray, List.getElem_cons_zero, List.getElem_cons_succ, Act.put, List.setIfInBounds_toArray, List.set_cons_zero, List.set_cons_succ]
        refine WA.take (i := 8) (v := undef) rfl (by kernel_rfl) (by kernel_rfl) (by kernel_rfl) (fun _ _ _ h => h) (hdrop 8) (Or.inr ⟨by rfl, rfl⟩) (hS _) ?_
        simp only [List.getElem_toArray, List.getElem_cons_zero, List.getElem_cons_succ, Act.put, List.setIfInBounds_toArray, List.set_cons_zero, List.set_cons_succ]
        refine WA.take (i := 9) (v := undef) rfl (by kernel_rfl) (by kernel_rfl) (by kernel_rfl) (fun _ _ _ h => h) (hdrop 9) (Or.inr ⟨by rfl, rfl⟩) (hS _) ?_
        simp only [List.getElem_toArray, List.getElem_cons_zero, List.getElem_cons_succ, Act.put, List.setIfInBounds_toArray, List.set_cons_zero, List.set_cons_succ]
        refine WA.take (i := 10) (v := undef) rfl (by kernel_rfl) (by kernel_rfl) (by kernel_rfl) (fun _ _ _ h => h) (hdrop 10) (Or.inr ⟨by rfl, rfl⟩) (hS _) ?_
        simp only [List.getElem_toArray, List.getElem_cons_zero, List.getElem_cons_succ, Act.put, List.setIfInBounds_toArray, List.set_cons_zero, List.set_cons_succ]
        refine WA.take (i := 11) (v := undef) rfl (by kernel_rfl) (by kernel_rfl) (by kernel_rfl) (fun _ _ _ h => h) (hdrop 11) (Or.inr ⟨by rfl, rfl⟩) (hS _) ?_
        simp only [List.getElem_toArray, List.getElem_cons_zero, List.getElem_cons_succ, Act.put, List.setIfInBounds_toArray, List.set_cons_zero, List.set_cons_succ]
        refine WA.take (i := 12) (v := undef) rfl (by kernel_rfl) (by kernel_rfl) (by kernel_rfl) (fun _ _ _ h => h) (hdrop 12) (Or.inr ⟨by rfl, rfl⟩) (hS _) ?_
        simp only [List.getElem_toArray, List.getElem_cons_zero, List.getElem_cons_succ, Act.put, List.setIfInBounds_toArray, List.set_cons_zero, List.set_cons_succ]
        refine WA.take (i := 13) (v := undef) rfl (by kernel_rfl) (by kernel_rfl) (by kernel_rfl) (fun _ _ _ h => h) (hdrop 13) (Or.inr ⟨by rfl, rfl⟩) (hS _) ?_
        simp only [List.getElem_toArray, List.getElem_cons_zero, List.getElem_cons_succ, Act.put, List.setIfInBounds_toArray, List.set_cons_zero, List.set_cons_succ]
        refine WA.take (i := 14) (v := undef) rfl (by kernel_rfl) (by kernel_rfl) (by kernel_rfl) (fun _ _ _ h => h) (hdrop 14) (Or.inr ⟨by rfl, rfl⟩) (hS _) ?_
        simp only [List.getElem_toArray, List.getElem_cons_zero, List.getElem_cons_succ, Act.put, List.setIfInBounds_toArray, List.set_cons_zero, List.set_cons_succ]
        refine WA.take (i := 15) (v := undef) rfl (by kernel_rfl) (by kernel_rfl) (by kernel_rfl) (fun _ _ _ h => h) (hdrop 15) (Or.inr ⟨by rfl, rfl⟩) (hS _) ?_
        simp only [List.getElem_toArray, List.getElem_cons_zero, List.getElem_cons_succ, Act.put, List.setIfInBounds_toArray, List.set_cons_zero, List.set_cons_succ]
        refine WA.take (i := 16) (v := undef) rfl (by kernel_rfl) (by kernel_rfl) (by kernel_rfl) (fun _ _ _ h => h) (hdrop 16) (Or.inr ⟨by rfl, rfl⟩) (hS _) ?_
        simp only [List.getElem_toArray, List.getElem_cons_zero, List.getElem_cons_succ, Act.put, List.setIfInBounds_toArray, List.set_cons_zero, List.set_cons_succ]
        refine WA.take (i := 17) (v := undef) rfl (by kernel_rfl) (by kernel_rfl) (by kernel_rfl) (fun _ _ _ h => h) (hdrop 17) (Or.inr ⟨by rfl, rfl⟩) (hS _) ?_
        simp only [List.getElem_toArray, List.getElem_cons_zero, List.getElem_cons_succ, Act.put, List.setIfInBounds_toArray, List.set_cons_zero, List.set_cons_succ]
        refine WA.take (i := 18) (v := undef) rfl (by kernel_rfl) (by kernel_rfl) (by kernel_rfl) (fun _ _ _ h => h) (hdrop 18) (Or.inr ⟨by rfl, rfl⟩) (hS _) ?_
        simp only [List.getElem_toArray, List.getElem_cons_zero, List.getElem_cons_succ, Act.put, List.setIfInBounds_toArray, List.set_cons_zero, List.set_cons_succ]
        refine WA.take (i := 19) (v := undef) rfl (by kernel_rfl) (by kernel_rfl) (by kernel_rfl) (fun _ _ _ h => h) (hdrop 19) (Or.inr ⟨by rfl, rfl⟩) (hS _) ?_
        simp only [List.getElem_toArray, List.getElem_cons_zero, List.getElem_cons_succ, Act.put, List.setIfInBounds_toArray, List.set_cons_zero, List.set_cons_succ]
        refine WA.take (i := 20) (v := undef) rfl (by kernel_rfl) (by kernel_rfl) (by kernel_rfl) (fun _ _ _ h => h) (hdrop 20) (Or.inr ⟨by rfl, rfl⟩) (hS _) ?_
        simp only [List.getElem_toArray, List.getElem_cons_zero, List.getElem_cons_succ, Act.put, List.setIfInBounds_toArray, List.set_cons_zero, List.set_cons_succ]
        refine WA.take (i := 21) (v := undef) rfl (by kernel_rfl) (by kernel_rfl) (by kernel_rfl) (fun _ _ _ h => h) (hdrop 21) (Or.inr ⟨by rfl, rfl⟩) (hS _) ?_
        simp only [List.getElem_toArray, List.getElem_cons_zero, List.getElem_cons_succ, Act.put, List.setIfInBounds_toArray, List.set_cons_zero, List.set_cons_succ]
        refine WA.take (i := 22) (v := .bool false) rfl (by kernel_rfl) (by kernel_rfl) (by kernel_rfl) (fun _ _ _ h => h) (hdrop 22) (Or.inl ⟨by rfl, ?_⟩) (hS _) ?_
        · rintro w' ⟨L, hL, hSw, hun⟩
          go_simp
        simp only [List.getElem_toArray, List.getElem_cons_zero, List.getElem_cons_succ, Act.put, List.setIfInBounds_toArray, List.set_cons_zero, List.set_cons_succ]
        refine WA.done (by kernel_rfl) ?_ _
        refine Nrm.normal ?_
        clear hSo hS hSi hdrop d0 d1 d2 cp ca_ cc_
        clear S4
        have Hm := Lib.hid hm
        go_wp2_with fail
        go_roundw
        case rel => exact ⟨i + 1, by omega, by push_cast; rfl, fun j hj h => (by
          rcases Nat.lt_succ_iff_lt_or_eq.1 h with h | rfl
          · exact Hall.out j hj h
          · intro he
            rw [Hx.out] at he
            have := Hm.out
            simp only at he
            rw [he] at this
            simp at this), by rw [HV4.out]; exact HBV.out.drew⟩
        case measure => simp [intOf]; omega
      | true =>
        obtain ⟨q, hq⟩ : ∃ q, (za == zc) = q := ⟨_, rfl⟩
        obtain ⟨qq, hqq⟩ : ∃ qq, (q == xu) = qq := ⟨_, rfl⟩
        have d0 : V.drew.cell? ⟨nb, 0, none⟩ = some (.int .i64 (pa : Int)) := d0
        have d1 : V.drew.cell? ⟨nb, 1, none⟩ = some (.int .i64 (pc : Int)) := d1
        have d2 : V.drew.cell? ⟨nb, 2, none⟩ = some (.bool xu) := d2
        have cp : V.drew.cell? ⟨xp, 0, none⟩ = some (.slice (some ⟨xb, 0, none⟩) N ncap) := cp
        have ca_ : V.drew.cell? ⟨xb, pa, none⟩ = some (.int .u32 za) := ca_
        have cc_ : V.drew.cell? ⟨xb, pc, none⟩ = some (.int .u32 zc) := cc_
        obtain ⟨S4, hSe⟩ : ∃ S : Array Bool → World → Prop, S = fun _ w' => Below V.drew.heap.size V.drew w' := ⟨_, rfl⟩
        have hdrop : ∀ i : Nat, ∀ L w', S4 (L.setIfInBounds i true) w' → S4 L w' := by
          intro i L w' h; rw [hSe] at h ⊢; exact h
        have hS : ∀ L, S4 L V.drew := by intro L; rw [hSe]; exact Below.refl _ _
        have hSo : ∀ {L w'}, S4 L w' → Below V.drew.heap.size V.drew w' := by intro L w' h; rw [hSe] at h; exact h
        have hSi : ∀ {w'}, Below V.drew.heap.size V.drew w' → ∀ L, S4 L w' := by intro w' h L; rw [hSe]; exact h
        clear hSe
        refine wp_region_LN S4 23 #[false, false, false, false, false, false, false, false, false, false, false, false, false, false, false, false, false, false, false, false, false, false, false] (by kernel_rfl) (by kernel_rfl) rfl ?_
        obtain ⟨V4, hV4⟩ : ∃ V4, V4 = V.drew := ⟨_, rfl⟩
        rw [← hV4] at d0 d1 d2 cp ca_ cc_ hSo hS hSi ⊢
        have HV4 := Lib.hid hV4
        clear hV4
        refine WA.take (i := 0) (v := .pointer (some ⟨nb, 0, none⟩)) rfl (by kernel_rfl) (by kernel_rfl) (by kernel_rfl) (fun _ _ _ h => h) (hdrop 0) (Or.inl ⟨by rfl, ?_⟩) (hS _) ?_
        · rintro w' ⟨L, hL, hSw, hun⟩
          go_simp
        simp only [List.getElem_toArray, List.getElem_cons_zero, List.getElem_cons_succ, Act.put, List.setIfInBounds_toArray, List.set_cons_zero, List.set_cons_succ]
        refine WA.take (i := 1) (v := .int .i64 (pa : Int)) rfl (by kernel_rfl) (by kernel_rfl) (by kernel_rfl) (fun _ _ _ h => h) (hdrop 1) (Or.inl ⟨by rfl, ?_⟩) (hS _) ?_
        · rintro w' ⟨L, hL, hSw, hun⟩
          have hbw := hSo hSw
          have d0 := cell_later hbw d0
          clear hbw
          go_simp
        simp only [List.getElem_toArray, List.getElem_cons_zero, List.getElem_cons_succ, Act.put, List.setIfInBounds_toArray, List.set_cons_zero, List.set_cons_succ]
        refine WA.take (i := 2) (v := .pointer (some ⟨nb, 1, none⟩)) rfl (by kernel_rfl) (by kernel_rfl) (by kernel_rfl) (fun _ _ _ h => h) (hdrop 2) (Or.inl ⟨by rfl, ?_⟩) (hS _) ?_
        · rintro w' ⟨L, hL, hSw, hun⟩
          go_simp
        simp only [List.getElem_toArray, List.getElem_cons_zero, List.getElem_cons_succ, Act.put, List.setIfInBounds_toArray, List.set_cons_zero, List.set_cons_succ]
        refine WA.take (i := 3) (v := .int .i64 (pc : Int)) rfl (by kernel_rfl) (by kernel_rfl) (by kernel_rfl) (fun _ _ _ h => h) (hdrop 3) (Or.inl ⟨by rfl, ?_⟩) (hS _) ?_
        · rintro w' ⟨L, hL, hSw, hun⟩
          have hbw := hSo hSw
          have d1 := cell_later hbw d1
          clear hbw
          go_simp
        simp only [List.getElem_toArray, List.getElem_cons_zero, List.getElem_cons_succ, Act.put, List.setIfInBounds_toArray, List.set_cons_zero, List.set_cons_succ]
        refine WA.take (i := 4) (v := .int .i64 (max (pa : Int) (pc : Int))) rfl (by kernel_rfl) (by kernel_rfl) (by kernel_rfl) (fun _ _ _ h => h) (hdrop 4) (Or.inl ⟨by rfl, ?_⟩) (hS _) ?_
        · rintro w' ⟨L, hL, hSw, hun⟩
          go_simp
          split <;> omega
        simp only [List.getElem_toArray, List.getElem_cons_zero, List.getElem_cons_succ, Act.put, List.setIfInBounds_toArray, List.set_cons_zero, List.set_cons_succ]
        refine WA.take (i := 5) (v := .int .i64 ((k : Nat) : Int)) rfl (by kernel_rfl) (by kernel_rfl) (by kernel_rfl) (fun _ _ _ h => h) (hdrop 5) (Or.inl ⟨by rfl, ?_⟩) (hS _) ?_
        · rintro w' ⟨L, hL, hSw, hun⟩
          go_simp
        simp only [List.getElem_toArray, List.getElem_cons_zero, List.getElem_cons_succ, Act.put, List.setIfInBounds_toArray, List.set_cons_zero, List.set_cons_succ]
        refine WA.take (i := 6) (v := .bool true) rfl (by kernel_rfl) (by kernel_rfl) (by kernel_rfl) (fun _ _ _ h => h) (hdrop 6) (Or.inl ⟨by rfl, ?_⟩) (hS _) ?_
        · rintro w' ⟨L, hL, hSw, hun⟩
          go_simp
        simp only [List.getElem_toArray, List.getElem_cons_zero, List.getElem_cons_succ, Act.put, List.setIfInBounds_toArray, List.set_cons_zero, List.set_cons_succ]
        refine WA.take (i := 7) (v := .bool true) rfl (by kernel_rfl) (by kernel_rfl) (by kernel_rfl) (fun _ _ _ h => h) (hdrop 7) (Or.inl ⟨by rfl, ?_⟩) (hS _) ?_
        · rintro w' ⟨L, hL, hSw, hun⟩
          go_simp
        simp only [List.getElem_toArray, List.getElem_cons_zero, List.getElem_cons_succ, Act.put, List.setIfInBounds_toArray, List.set_cons_zero, List.set_cons_succ]
        refine WA.take (i := 8) (v := .slice (some ⟨xb, 0, none⟩) N ncap) rfl (by kernel_rfl) (by kernel_rfl) (by kernel_rfl) (fun _ _ _ h => h) (hdrop 8) (Or.inl ⟨by rfl, ?_⟩) (hS _) ?_
        · rintro w' ⟨L, hL, hSw, hun⟩
          have hbw := hSo hSw
          have cp := cell_later hbw cp
          clear hbw
          go_simp
        simp only [List.getElem_toArray, List.getElem_cons_zero, List.getElem_cons_succ, Act.put, List.setIfInBounds_toArray, List.set_cons_zero, List.set_cons_succ]
        refine WA.take (i := 9) (v := .pointer (some ⟨nb, 0, none⟩)) rfl (by kernel_rfl) (by kernel_rfl) (by kernel_rfl) (fun _ _ _ h => h) (hdrop 9) (Or.inl ⟨by rfl, ?_⟩) (hS _) ?_
        · rintro w' ⟨L, hL, hSw, hun⟩
          go_simp
        simp only [List.getElem_toArray, List.getElem_cons_zero, List.getElem_cons_succ, Act.put, List.setIfInBounds_toArray, List.set_cons_zero, List.set_cons_succ]
        refine WA.take (i := 10) (v := .int .i64 (pa : Int)) rfl (by kernel_rfl) (by kernel_rfl) (by kernel_rfl) (fun _ _ _ h => h) (hdrop 10) (Or.inl ⟨by rfl, ?_⟩) (hS _) ?_
        · rintro w' ⟨L, hL, hSw, hun⟩
          have hbw := hSo hSw
          have d0 := cell_later hbw d0
          clear hbw
          go_simp
        simp only [List.getElem_toArray, List.getElem_cons_zero, List.getElem_cons_succ, Act.put, List.setIfInBounds_toArray, List.set_cons_zero, List.set_cons_succ]
        refine WA.take (i := 11) (v := .pointer (some ⟨xb, pa, none⟩)) rfl (by kernel_rfl) (by kernel_rfl) (by kernel_rfl) (fun _ _ _ h => h) (hdrop 11) (Or.inl ⟨by rfl, ?_⟩) (hS _) ?_
        · rintro w' ⟨L, hL, hSw, hun⟩
          go_simp
        simp only [List.getElem_toArray, List.getElem_cons_zero, List.getElem_cons_succ, Act.put, List.setIfInBounds_toArray, List.set_cons_zero, List.set_cons_succ]
        refine WA.take (i := 12) (v := .int .u32 za) rfl (by kernel_rfl) (by kernel_rfl) (by kernel_rfl) (fun _ _ _ h => h) (hdrop 12) (Or.inl ⟨by rfl, ?_⟩) (hS _) ?_
        · rintro w' ⟨L, hL, hSw, hun⟩
          have hbw := hSo hSw
          have ca_ := cell_later hbw ca_
          clear hbw
          go_simp
        simp only [List.getElem_toArray, List.getElem_cons_zero, List.getElem_cons_succ, Act.put, List.setIfInBounds_toArray, List.set_cons_zero, List.set_cons_succ]
        refine WA.take (i := 13) (v := .slice (some ⟨xb, 0, none⟩) N ncap) rfl (by kernel_rfl) (by kernel_rfl) (by kernel_rfl) (fun _ _ _ h => h) (hdrop 13) (Or.inl ⟨by rfl, ?_⟩) (hS _) ?_
        · rintro w' ⟨L, hL, hSw, hun⟩
          have hbw := hSo hSw
          have cp := cell_later hbw cp
          clear hbw
          go_simp
        simp only [List.getElem_toArray, List.getElem_cons_zero, List.getElem_cons_succ, Act.put, List.setIfInBounds_toArray, List.set_cons_zero, List.set_cons_succ]
        refine WA.take (i := 14) (v := .pointer (some ⟨nb, 1, none⟩)) rfl (by kernel_rfl) (by kernel_rfl) (by kernel_rfl) (fun _ _ _ h => h) (hdrop 14) (Or.inl ⟨by rfl, ?_⟩) (hS _) ?_
        · rintro w' ⟨L, hL, hSw, hun⟩
          go_simp
        simp only [List.getElem_toArray, List.getElem_cons_zero, List.getElem_cons_succ, Act.put, List.setIfInBounds_toArray, List.set_cons_zero, List.set_cons_succ]
        refine WA.take (i := 15) (v := .int .i64 (pc : Int)) rfl (by kernel_rfl) (by kernel_rfl) (by kernel_rfl) (fun _ _ _ h => h) (hdrop 15) (Or.inl ⟨by rfl, ?_⟩) (hS _) ?_
        · rintro w' ⟨L, hL, hSw, hun⟩
          have hbw := hSo hSw
          have d1 := cell_later hbw d1
          clear hbw
          go_simp
        simp only [List.getElem_toArray, List.getElem_cons_zero, List.getElem_cons_succ, Act.put, List.setIfInBounds_toArray, List.set_cons_zero, List.set_cons_succ]
        refine WA.take (i := 16) (v := .pointer (some ⟨xb, pc, none⟩)) rfl (by kernel_rfl) (by kernel_rfl) (by kernel_rfl) (fun _ _ _ h => h) (hdrop 16) (Or.inl ⟨by rfl, ?_⟩) (hS _) ?_
        · rintro w' ⟨L, hL, hSw, hun⟩
          go_simp
        simp only [List.getElem_toArray, List.getElem_cons_zero, List.getElem_cons_succ, Act.put, List.setIfInBounds_toArray, List.set_cons_zero, List.set_cons_succ]
        refine WA.take (i := 17) (v := .int .u32 zc) rfl (by kernel_rfl) (by kernel_rfl) (by kernel_rfl) (fun _ _ _ h => h) (hdrop 17) (Or.inl ⟨by rfl, ?_⟩) (hS _) ?_
        · rintro w' ⟨L, hL, hSw, hun⟩
          have hbw := hSo hSw
          have cc_ := cell_later hbw cc_
          clear hbw
          go_simp
        simp only [List.getElem_toArray, List.getElem_cons_zero, List.getElem_cons_succ, Act.put, List.setIfInBounds_toArray, List.set_cons_zero, List.set_cons_succ]
        refine WA.take (i := 18) (v := .bool q) rfl (by kernel_rfl) (by kernel_rfl) (by kernel_rfl) (fun _ _ _ h => h) (hdrop 18) (Or.inl ⟨by rfl, ?_⟩) (hS _) ?_
        · rintro w' ⟨L, hL, hSw, hun⟩
          go_simp
        simp only [List.getElem_toArray, List.getElem_cons_zero, List.getElem_cons_succ, Act.put, List.setIfInBounds_toArray, List.set_cons_zero, List.set_cons_succ]
        refine WA.take (i := 19) (v := .pointer (some ⟨nb, 2, none⟩)) rfl (by kernel_rfl) (by kernel_rfl) (by kernel_rfl) (fun _ _ _ h => h) (hdrop 19) (Or.inl ⟨by rfl, ?_⟩) (hS _) ?_
        · rintro w' ⟨L, hL, hSw, hun⟩
          go_simp
        simp only [List.getElem_toArray, List.getElem_cons_zero, List.getElem_cons_succ, Act.put, List.setIfInBounds_toArray, List.set_cons_zero, List.set_cons_succ]
        refine WA.take (i := 20) (v := .bool xu) rfl (by kernel_rfl) (by kernel_rfl) (by kernel_rfl) (fun _ _ _ h => h) (hdrop 20) (Or.inl ⟨by rfl, ?_⟩) (hS _) ?_
        · rintro w' ⟨L, hL, hSw, hun⟩
          have hbw := hSo hSw
          have d2 := cell_later hbw d2
          clear hbw
          go_simp
        simp only [List.getElem_toArray, List.getElem_cons_zero, List.getElem_cons_succ, Act.put, List.setIfInBounds_toArray, List.set_cons_zero, List.set_cons_succ]
        refine WA.take (i := 21) (v := .bool qq) rfl (by kernel_rfl) (by kernel_rfl) (by kernel_rfl) (fun _ _ _ h => h) (hdrop 21) (Or.inl ⟨by rfl, ?_⟩) (hS _) ?_
        · rintro w' ⟨L, hL, hSw, hun⟩
          go_simp
        simp only [List.getElem_toArray, List.getElem_cons_zero, List.getElem_cons_succ, Act.put, List.setIfInBounds_toArray, List.set_cons_zero, List.set_cons_succ]
        refine WA.take (i := 22) (v := .bool qq) rfl (by kernel_rfl) (by kernel_rfl) (by kernel_rfl) (fun _ _ _ h => h) (hdrop 22) (Or.inl ⟨by rfl, ?_⟩) (hS _) ?_
        · rintro w' ⟨L, hL, hSw, hun⟩
          go_simp
        simp only [List.getElem_toArray, List.getElem_cons_zero, List.getElem_cons_succ, Act.put, List.setIfInBounds_toArray, List.set_cons_zero, List.set_cons_succ]
        refine WA.done (by kernel_rfl) ?_ _
        refine Nrm.normal ?_
        clear hSo hS hSi hdrop d0 d1 d2 cp ca_ cc_
        clear S4
        have hok : okC X ((pa : Int), (pc : Int), xu) ↔ qq = false := by
          unfold okC
          rw [← hqq, ← hq]
          show ¬ (decide (X.getD pa 0 = X.getD pc 0) = xu) ↔ _
          rw [Hza.out, Hzc.out]
          by_cases e : za = zc <;> cases xu <;> simp [e]
        have Hok := Lib.hid hok; have Hm := Lib.hid hm
        clear hok hq hqq hm
        cases qq with
        | false =>
          go_wp2_with fail
          go_roundw
          case rel => exact ⟨i + 1, by omega, by push_cast; rfl, fun j hj h => (by
            rcases Nat.lt_succ_iff_lt_or_eq.1 h with h | rfl
            · exact Hall.out j hj h
            · intro he
              rw [Hx.out]
              exact Hok.out.2 rfl), by rw [HV4.out]; exact HBV.out.drew⟩
          case measure => simp [intOf]; omega
        | true =>
          go_wp2_with fail
          go_ret
          refine ⟨false, rfl, ⟨(fun h => by cases h), fun h => ?_⟩, by rw [HV4.out]; exact HBV.out.drew⟩
          have h1 := h C[i] (List.getElem_mem hiC)
          rw [Hx.out] at h1
          have h2 := Hok.out.1 (h1 (by simpa using Hm.out))
          cases h2
    · have hd : decide ((i : Int) < (n : Int)) = false := by simp; omega
      go_wp2_with fail
      go_ret
      refine ⟨true, rfl, ⟨fun _ c hc => ?_, fun _ => rfl⟩, HB.out⟩
      obtain ⟨j, hj, rfl⟩ := List.getElem_of_mem hc
      exact Hall.out j hj (by have := Hn.out; omega)
end Go.Proofs.Ytghihhjcoilmgaa
