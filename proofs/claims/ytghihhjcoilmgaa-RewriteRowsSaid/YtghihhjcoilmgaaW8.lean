/- Expand: its iterator goes over the rows of a row's cliques. -/
import Derived.Test.YtghihhjcoilmgaaW1
namespace Go.Proofs.Ytghihhjcoilmgaa
set_option maxRecDepth 100000
open Go.RowKit Go.Maps
set_option linter.unusedVariables false
set_option linter.unusedSimpArgs false
attribute [local go_sem] Oper.semAt_some

abbrev Rw3 := Int × Int × Int
def rw3 (r : Rw3) : Value := .agg #[.int .u32 r.1, .int .u32 r.2.1, .int .u32 r.2.2]
/-- rows of three lists, the last number the fastest -/
def prod3 (A B C : List Int) : List Rw3 := A.flatMap fun x => B.flatMap fun y => C.map fun z => (x, y, z)
def pre3 (A B C : List Int) (i k j : Nat) : List Rw3 := prod3 (A.take i) B C ++ ((B.take k).flatMap fun y => C.map fun z => (A.getD i 0, y, z)) ++ ((C.take j).map fun z => (A.getD i 0, B.getD k 0, z))
section
variable {A B C : List Int} {i k j : Nat}
theorem take_snoc {L : List Int} {k : Nat} (h : k < L.length) : L.take (k + 1) = L.take k ++ [L.getD k 0] := by
  rw [List.take_succ_eq_append_getElem h]
  simp [List.getD_eq_getElem?_getD, h]
theorem pre3_next (hj : j < C.length) : pre3 A B C i k j ++ [(A.getD i 0, B.getD k 0, C.getD j 0)] = pre3 A B C i k (j + 1) := by
  unfold pre3
  rw [take_snoc hj, List.map_append, ← List.append_assoc]
  rfl
theorem pre3_row (hk : k < B.length) : pre3 A B C i k C.length = pre3 A B C i (k + 1) 0 := by
  unfold pre3
  rw [take_snoc hk, List.flatMap_append, ← List.append_assoc]
  simp
theorem pre3_blk (hi : i < A.length) : pre3 A B C i B.length 0 = pre3 A B C (i + 1) 0 0 := by
  unfold pre3 prod3
  rw [take_snoc hi, List.flatMap_append]
  simp
theorem pre3_end : pre3 A B C A.length 0 0 = prod3 A B C := by simp [pre3]
theorem pre3_zero : pre3 A B C 0 0 0 = [] := by simp [pre3, prod3]
theorem pre3_pre (hi : i < A.length) (hk : k < B.length) : pre3 A B C i k j <+: prod3 A B C := by
  have hA : A = A.take i ++ A.getD i 0 :: A.drop (i + 1) := by
    rw [← List.singleton_append, ← List.append_assoc, ← take_snoc hi, List.take_append_drop]
  have hB : B = B.take k ++ B.getD k 0 :: B.drop (k + 1) := by
    rw [← List.singleton_append, ← List.append_assoc, ← take_snoc hk, List.take_append_drop]
  have hC : C = C.take j ++ C.drop j := (List.take_append_drop j C).symm
  have h1 : prod3 A B C = prod3 (A.take i) B C ++ (B.flatMap fun y => C.map fun z => (A.getD i 0, y, z)) ++ prod3 (A.drop (i + 1)) B C := by
    conv => lhs; rw [hA]
    simp [prod3, List.flatMap_append, List.flatMap_cons]
  have h2 : (B.flatMap fun y => C.map fun z => (A.getD i 0, y, z)) = ((B.take k).flatMap fun y => C.map fun z => (A.getD i 0, y, z)) ++ (C.map fun z => (A.getD i 0, B.getD k 0, z)) ++ ((B.drop (k + 1)).flatMap fun y => C.map fun z => (A.getD i 0, y, z)) := by
    conv => lhs; rw [hB]
    simp [List.flatMap_append, List.flatMap_cons]
  have h3 : (C.map fun z => (A.getD i 0, B.getD k 0, z)) = ((C.take j).map fun z => (A.getD i 0, B.getD k 0, z)) ++ ((C.drop j).map fun z => (A.getD i 0, B.getD k 0, z)) := by
    rw [← List.map_append, List.take_append_drop]
  rw [h1, h2, h3]
  unfold pre3
  exact ⟨((C.drop j).map fun z => (A.getD i 0, B.getD k 0, z)) ++ ((B.drop (k + 1)).flatMap fun y => C.map fun z => (A.getD i 0, y, z)) ++ prod3 (A.drop (i + 1)) B C, by simp only [List.append_assoc]⟩
theorem prod3_len : (prod3 A B C).length = A.length * B.length * C.length := by
  simp [prod3, List.length_flatMap, Nat.mul_assoc, List.map_const', List.sum_replicate_nat]
end

section
variable {w : World} {p : Option Addr} {J : Jn} {a b c : Int}
set_option maxRecDepth 100000 in
theorem expand_any (w : World) (p : Option Addr) (a b c : Int) : Calls Try.prog 16 #[.pointer p, .agg #[.int .u32 a, .int .u32 b, .int .u32 c]] w fun e w' =>
    e = .returned (.func (.func 33) #[] #[.pointer (some ⟨w.heap.size, 0, none⟩), .pointer (some ⟨w.heap.size + 1, 0, none⟩)]) ∧ w'.heap[w.heap.size]? = some (.cells #[.pointer p] 27 (0, 0)) ∧ w'.heap[w.heap.size + 1]? = some (.cells #[.int .u32 a, .int .u32 b, .int .u32 c] 37 (0, 0)) ∧ w'.heap.size = w.heap.size + 2 ∧ Below w.heap.size w w' := by
  obtain ⟨q1, q2, q3, q4⟩ := two_blocks w (.cells #[.pointer p] 27) (.cells #[.int .u32 a, .int .u32 b, .int .u32 c] 37) _ rfl
  have Q1 := Lib.hid q1; have Q2 := Lib.hid q2; have Q3 := Lib.hid q3; have Q4 := Lib.hid q4
  clear q1 q2 q3 q4
  go_enter Try.func16, Try.ntmps16
  go_wp2_with fail
  go_ret
  exact ⟨rfl, Q3.out, Q4.out, Q2.out, Q1.out⟩
set_option maxRecDepth 100000 in
set_option maxHeartbeats 8000000 in
theorem expand1_seq {wt : World} {vb rb ib B : Nat} {LA LB LC : List Int} (hp : wt.heap[vb]? = some (.cells #[.pointer p] 27 (0, 0))) (hr : wt.heap[rb]? = some (.cells #[.int .u32 a, .int .u32 b, .int .u32 c] 37 (0, 0)))
    (hQ : IsQ wt (.pointer p) J) (ha : is32 a) (hb : is32 b) (hc : is32 c) (hA : ClL J a LA) (hB : ClL J b LB) (hC : ClL J c LC) :
    SeqZ Try.prog 33 #[.pointer (some ⟨vb, 0, none⟩), .pointer (some ⟨rb, 0, none⟩)] (fun x : Rw3 => #[rw3 x]) (KpI B ib) (prod3 LA LB LC) wt (ib + 1) := by
  intro l J0 Jx W hN hW hJ0 hY h0
  have cp : W.cell? ⟨vb, 0, none⟩ = some (.pointer p) := (box_at ((hW.block vb (lt_of_heap hp)).trans hp) rfl).1
  have hrW := (hW.block rb (lt_of_heap hr)).trans hr
  have r0 : W.cell? ⟨rb, 0, none⟩ = some (.int .u32 a) := by unfold World.cell?; rw [hrW]; rfl
  have r1 : W.cell? ⟨rb, 1, none⟩ = some (.int .u32 b) := by unfold World.cell?; rw [hrW]; rfl
  have r2 : W.cell? ⟨rb, 2, none⟩ = some (.int .u32 c) := by unfold World.cell?; rw [hrW]; rfl
  have hAl := hA.len; have hBl := hB.len; have hCl := hC.len
  have hJl := hQ.2.1
  have HQ := Lib.hid (hQ.below hW); have Ha := Lib.hid ha; have Hb := Lib.hid hb; have Hc := Lib.hid hc; have HA := Lib.hid hA; have HB := Lib.hid hB; have HC := Lib.hid hC; have HJ0 := Lib.hid hJ0; have HY := Lib.hid hY; have H0 := Lib.hid h0
  clear hp hr hQ ha hb hc hA hB hC hJ0 hY h0 hrW hW
  obtain ⟨na, hna⟩ : ∃ na, LA.length = na := ⟨_, rfl⟩
  obtain ⟨nb, hnb⟩ : ∃ nb, LB.length = nb := ⟨_, rfl⟩
  obtain ⟨nc, hnc⟩ : ∃ nc, LC.length = nc := ⟨_, rfl⟩
  rw [hna] at hAl
  rw [hnb] at hBl
  rw [hnc] at hCl
  have Hna := Lib.hid hna; have Hnb := Lib.hid hnb; have Hnc := Lib.hid hnc
  clear hna hnb hnc
  have hfn : ∀ k, Fence.wide.fn k := fun _ => trivial
  refine callsIn_of_wp Try.func33 rfl trivial ?_ rfl
  simp only [Try.ntmps33, List.size_toArray, List.length_cons, List.length_nil, Nat.reduceAdd, Nat.reduceSub, Array.replicate_succ, Array.replicate_zero, List.push_toArray, List.append_toArray, List.nil_append, List.cons_append]
  gi_wp2_with fail
  refine wpIn_wide.2 ?_
  have cp : W.drew.cell? ⟨vb, 0, none⟩ = some (.pointer p) := cp
  have r0 : W.drew.cell? ⟨rb, 0, none⟩ = some (.int .u32 a) := r0
  have r1 : W.drew.cell? ⟨rb, 1, none⟩ = some (.int .u32 b) := r1
  have r2 : W.drew.cell? ⟨rb, 2, none⟩ = some (.int .u32 c) := r2
  obtain ⟨S0, hSe⟩ : ∃ S : Array Bool → World → Prop, S = fun _ w' => Below W.drew.heap.size W.drew w' := ⟨_, rfl⟩
  have hdrop : ∀ i : Nat, ∀ L w', S0 (L.setIfInBounds i true) w' → S0 L w' := by
    intro i L w' h; rw [hSe] at h ⊢; exact h
  have hS : ∀ L, S0 L W.drew := by intro L; rw [hSe]; exact Below.refl _ _
  have hSo : ∀ {L w'}, S0 L w' → Below W.drew.heap.size W.drew w' := by intro L w' h; rw [hSe] at h; exact h
  have hSi : ∀ {w'}, Below W.drew.heap.size W.drew w' → ∀ L, S0 L w' := by intro w' h L; rw [hSe]; exact h
  clear hSe
  refine wp_region_LN S0 15 #[false, false, false, false, false, false, false, false, false, false, false, false, false, false, false] (by kernel_rfl) (by kernel_rfl) rfl ?_
  obtain ⟨X0, hX0⟩ : ∃ X0, X0 = W.drew := ⟨_, rfl⟩
  rw [← hX0] at cp r0 r1 r2 hSo hS hSi ⊢
  have HX0 := Lib.hid hX0
  clear hX0
  refine WA.take (i := 0) (v := .pointer p) rfl (by kernel_rfl) (by kernel_rfl) (by kernel_rfl) (fun _ _ _ h => h) (hdrop 0) (Or.inl ⟨by rfl, ?_⟩) (hS _) ?_
  · rintro w' ⟨L, hL, hSw, hun⟩
    have hbw := hSo hSw
    have cp := cell_later hbw cp
    clear hbw
    go_simp
  simp only [List.getElem_toArray, List.getElem_cons_zero, List.getElem_cons_succ, Act.put, List.setIfInBounds_toArray, List.set_cons_zero, List.set_cons_succ]
  refine WA.take (i := 1) (v := .pointer (some ⟨rb, 0, none⟩)) rfl (by kernel_rfl) (by kernel_rfl) (by kernel_rfl) (fun _ _ _ h => h) (hdrop 1) (Or.inl ⟨by rfl, ?_⟩) (hS _) ?_
  · rintro w' ⟨L, hL, hSw, hun⟩
    go_simp
  simp only [List.getElem_toArray, List.getElem_cons_zero, List.getElem_cons_succ, Act.put, List.setIfInBounds_toArray, List.set_cons_zero, List.set_cons_succ]
  refine WA.take (i := 2) (v := .int .u32 a) rfl (by kernel_rfl) (by kernel_rfl) (by kernel_rfl) (fun _ _ _ h => h) (hdrop 2) (Or.inl ⟨by rfl, ?_⟩) (hS _) ?_
  · rintro w' ⟨L, hL, hSw, hun⟩
    have hbw := hSo hSw
    have r0 := cell_later hbw r0
    clear hbw
    go_simp
  simp only [List.getElem_toArray, List.getElem_cons_zero, List.getElem_cons_succ, Act.put, List.setIfInBounds_toArray, List.set_cons_zero, List.set_cons_succ]
  refine WA.take (i := 4) (v := .pointer p) rfl (by kernel_rfl) (by kernel_rfl) (by kernel_rfl) (fun _ _ _ h => h) (hdrop 4) (Or.inl ⟨by rfl, ?_⟩) (hS _) ?_
  · rintro w' ⟨L, hL, hSw, hun⟩
    have hbw := hSo hSw
    have cp := cell_later hbw cp
    clear hbw
    go_simp
  simp only [List.getElem_toArray, List.getElem_cons_zero, List.getElem_cons_succ, Act.put, List.setIfInBounds_toArray, List.set_cons_zero, List.set_cons_succ]
  refine WA.take (i := 5) (v := .pointer (some ⟨rb, 1, none⟩)) rfl (by kernel_rfl) (by kernel_rfl) (by kernel_rfl) (fun _ _ _ h => h) (hdrop 5) (Or.inl ⟨by rfl, ?_⟩) (hS _) ?_
  · rintro w' ⟨L, hL, hSw, hun⟩
    go_simp
  simp only [List.getElem_toArray, List.getElem_cons_zero, List.getElem_cons_succ, Act.put, List.setIfInBounds_toArray, List.set_cons_zero, List.set_cons_succ]
  refine WA.take (i := 6) (v := .int .u32 b) rfl (by kernel_rfl) (by kernel_rfl) (by kernel_rfl) (fun _ _ _ h => h) (hdrop 6) (Or.inl ⟨by rfl, ?_⟩) (hS _) ?_
  · rintro w' ⟨L, hL, hSw, hun⟩
    have hbw := hSo hSw
    have r1 := cell_later hbw r1
    clear hbw
    go_simp
  simp only [List.getElem_toArray, List.getElem_cons_zero, List.getElem_cons_succ, Act.put, List.setIfInBounds_toArray, List.set_cons_zero, List.set_cons_succ]
  refine WA.take (i := 8) (v := .pointer p) rfl (by kernel_rfl) (by kernel_rfl) (by kernel_rfl) (fun _ _ _ h => h) (hdrop 8) (Or.inl ⟨by rfl, ?_⟩) (hS _) ?_
  · rintro w' ⟨L, hL, hSw, hun⟩
    have hbw := hSo hSw
    have cp := cell_later hbw cp
    clear hbw
    go_simp
  simp only [List.getElem_toArray, List.getElem_cons_zero, List.getElem_cons_succ, Act.put, List.setIfInBounds_toArray, List.set_cons_zero, List.set_cons_succ]
  refine WA.take (i := 9) (v := .pointer (some ⟨rb, 2, none⟩)) rfl (by kernel_rfl) (by kernel_rfl) (by kernel_rfl) (fun _ _ _ h => h) (hdrop 9) (Or.inl ⟨by rfl, ?_⟩) (hS _) ?_
  · rintro w' ⟨L, hL, hSw, hun⟩
    go_simp
  simp only [List.getElem_toArray, List.getElem_cons_zero, List.getElem_cons_succ, Act.put, List.setIfInBounds_toArray, List.set_cons_zero, List.set_cons_succ]
  refine WA.take (i := 10) (v := .int .u32 c) rfl (by kernel_rfl) (by kernel_rfl) (by kernel_rfl) (fun _ _ _ h => h) (hdrop 10) (Or.inl ⟨by rfl, ?_⟩) (hS _) ?_
  · rintro w' ⟨L, hL, hSw, hun⟩
    have hbw := hSo hSw
    have r2 := cell_later hbw r2
    clear hbw
    go_simp
  simp only [List.getElem_toArray, List.getElem_cons_zero, List.getElem_cons_succ, Act.put, List.setIfInBounds_toArray, List.set_cons_zero, List.set_cons_succ]
  refine WA.one (i := 3) (by kernel_rfl) rfl (by rfl) (fun K hK => ?_)
  go_simp
  refine (cliqueQ (w := X0) (by rw [HX0.out]; exact HQ.out.drew) Ha.out).mono ?_
  rintro e w3 ⟨v3, L3, rfl, hO_, hL_, hB_⟩
  obtain rfl := (hL_.unique HA.out (fun _ _ => Iff.rfl)).symm
  have HO3 := Lib.hid hO_; have HB3_ := Lib.hid hB_
  have HB3 := Lib.hid (HB3_.out)
  obtain ⟨s3, cap3, rfl, _⟩ := hO_.u
  rw [Hna.out] at HO3
  simp only [Hna.out]
  clear hO_ hL_ hB_
  refine hK _ _ (hSi HB3.out _) ?_
  clear hK
  try simp only [List.getElem_toArray, List.getElem_cons_zero, List.getElem_cons_succ, Act.put, List.setIfInBounds_toArray, List.set_cons_zero, List.set_cons_succ]
  refine WA.one (i := 7) (by kernel_rfl) rfl (by rfl) (fun K hK => ?_)
  go_simp
  refine (cliqueQ (w := w3) (IsQ.below (by rw [HX0.out]; exact HQ.out.drew) HB3.out) Hb.out).mono ?_
  rintro e w7 ⟨v7, L7, rfl, hO_, hL_, hB_⟩
  obtain rfl := (hL_.unique HB.out (fun _ _ => Iff.rfl)).symm
  have HO7 := Lib.hid hO_; have HB7_ := Lib.hid hB_
  have HB7 := Lib.hid (HB3.out.trans (HB7_.out.mono HB3.out.size))
  obtain ⟨s7, cap7, rfl, _⟩ := hO_.u
  rw [Hnb.out] at HO7
  simp only [Hnb.out]
  clear hO_ hL_ hB_
  refine hK _ _ (hSi HB7.out _) ?_
  clear hK
  try simp only [List.getElem_toArray, List.getElem_cons_zero, List.getElem_cons_succ, Act.put, List.setIfInBounds_toArray, List.set_cons_zero, List.set_cons_succ]
  refine WA.one (i := 11) (by kernel_rfl) rfl (by rfl) (fun K hK => ?_)
  go_simp
  refine (cliqueQ (w := w7) (IsQ.below (by rw [HX0.out]; exact HQ.out.drew) HB7.out) Hc.out).mono ?_
  rintro e w11 ⟨v11, L11, rfl, hO_, hL_, hB_⟩
  obtain rfl := (hL_.unique HC.out (fun _ _ => Iff.rfl)).symm
  have HO11 := Lib.hid hO_; have HB11_ := Lib.hid hB_
  have HB11 := Lib.hid (HB7.out.trans (HB11_.out.mono HB7.out.size))
  obtain ⟨s11, cap11, rfl, _⟩ := hO_.u
  rw [Hnc.out] at HO11
  simp only [Hnc.out]
  clear hO_ hL_ hB_
  refine hK _ _ (hSi HB11.out _) ?_
  clear hK
  try simp only [List.getElem_toArray, List.getElem_cons_zero, List.getElem_cons_succ, Act.put, List.setIfInBounds_toArray, List.set_cons_zero, List.set_cons_succ]
  refine WA.take (i := 12) (v := .slice s3 na cap3) rfl (by kernel_rfl) (by kernel_rfl) (by kernel_rfl) (fun _ _ _ h => h) (hdrop 12) (Or.inl ⟨by rfl, ?_⟩) (hSi HB11.out _) ?_
  · rintro w' ⟨L, hL, hSw, hun⟩
    go_simp
  simp only [List.getElem_toArray, List.getElem_cons_zero, List.getElem_cons_succ, Act.put, List.setIfInBounds_toArray, List.set_cons_zero, List.set_cons_succ]
  refine WA.take (i := 13) (v := .slice s7 nb cap7) rfl (by kernel_rfl) (by kernel_rfl) (by kernel_rfl) (fun _ _ _ h => h) (hdrop 13) (Or.inl ⟨by rfl, ?_⟩) (hSi HB11.out _) ?_
  · rintro w' ⟨L, hL, hSw, hun⟩
    go_simp
  simp only [List.getElem_toArray, List.getElem_cons_zero, List.getElem_cons_succ, Act.put, List.setIfInBounds_toArray, List.set_cons_zero, List.set_cons_succ]
  refine WA.take (i := 14) (v := .slice s11 nc cap11) rfl (by kernel_rfl) (by kernel_rfl) (by kernel_rfl) (fun _ _ _ h => h) (hdrop 14) (Or.inl ⟨by rfl, ?_⟩) (hSi HB11.out _) ?_
  · rintro w' ⟨L, hL, hSw, hun⟩
    go_simp
  simp only [List.getElem_toArray, List.getElem_cons_zero, List.getElem_cons_succ, Act.put, List.setIfInBounds_toArray, List.set_cons_zero, List.set_cons_succ]
  refine WA.done (by kernel_rfl) ?_ _
  refine Nrm.normal ?_
  clear hSo hS hSi hdrop cp r0 r1 r2
  clear S0
  have hBW : Below W.heap.size W w11 := by
    have h1 : Below W.heap.size W X0 := by rw [HX0.out]; exact (Below.refl _ W).drew
    exact h1.trans (HB11.out.mono h1.size)
  have hsz : ib < X0.heap.size := by rw [HX0.out]; exact hN
  have hj := HJ0.out [] W w11 H0.out hBW
  have hOA := HO3.out.below rfl (HB7_.out.trans (HB11_.out.mono HB7_.out.size))
  have hOB := HO7.out.below rfl HB11_.out
  have HOA := Lib.hid (hOA.mono (show ib + 1 ≤ _ from hsz)); have HOB := Lib.hid (hOB.mono (show ib + 1 ≤ _ by have := HB3.out.size; omega)); have HOC := Lib.hid (HO11.out.mono (show ib + 1 ≤ _ by have := HB7.out.size; omega))
  have Hj := Lib.hid hj
  clear hBW hsz hj hOA hOB HO3 HO7 HO11
  simp only [Exit.then]
  gi_wp2_with fail
  gi_loopw [27] (fun u wr => ∃ i : Nat, i ≤ na ∧ u = .int .i64 i ∧ J0 (pre3 LA LB LC i 0 0) wr ∧ KpI B ib w11 wr) (fun u _ => na - (intOf u).toNat)
  case atStart => exact ⟨0, by omega, rfl, by rw [pre3_zero]; exact Hj.out, KpI.refl _ _ _⟩
  case round =>
    obtain ⟨i, hi, rfl, hJw, hKp⟩ := hrel
    have HJw := Lib.hid hJw; have HKp := Lib.hid hKp
    clear hJw hKp
    by_cases hin : i < na
    · have hd : decide ((i : Int) < (na : Int)) = true := by simp; omega
      obtain ⟨ga, rfl, _, c1⟩ := (HOA.out.kpi HKp.out (by omega)).at' i (by rw [Hna.out]; exact hin)
      obtain ⟨x, hx⟩ : ∃ x, LA[i]'(by rw [Hna.out]; exact hin) = x := ⟨_, rfl⟩
      rw [hx] at c1
      have hxD : LA.getD i 0 = x := by rw [← hx]; simp [List.getD_eq_getElem?_getD, Hna.out, hin]
      have Hx := Lib.hid hxD
      clear hx hxD
      gi_wp2_with fail
      gi_loopw [33] (fun u wr => ∃ k : Nat, k ≤ nb ∧ u = .int .i64 k ∧ J0 (pre3 LA LB LC i k 0) wr ∧ KpI B ib w11 wr) (fun u _ => nb - (intOf u).toNat)
      case atStart => exact ⟨0, by omega, rfl, HJw.out, HKp.out⟩
      case round =>
        obtain ⟨k, hk, rfl, hJw, hKp⟩ := hrel
        have HJw := Lib.hid hJw; have HKp := Lib.hid hKp
        clear hJw hKp c1
        by_cases hkn : k < nb
        · have hd2 : decide ((k : Int) < (nb : Int)) = true := by simp; omega
          obtain ⟨gb, rfl, _, c2⟩ := (HOB.out.kpi HKp.out (by omega)).at' k (by rw [Hnb.out]; exact hkn)
          obtain ⟨y, hy⟩ : ∃ y, LB[k]'(by rw [Hnb.out]; exact hkn) = y := ⟨_, rfl⟩
          rw [hy] at c2
          have hyD : LB.getD k 0 = y := by rw [← hy]; simp [List.getD_eq_getElem?_getD, Hnb.out, hkn]
          have Hy := Lib.hid hyD
          clear hy hyD
          gi_wp2_with fail
          gi_loopw [39] (fun u wr => ∃ j : Nat, j ≤ nc ∧ u = .int .i64 j ∧ J0 (pre3 LA LB LC i k j) wr ∧ KpI B ib w11 wr) (fun u _ => nc - (intOf u).toNat)
          case atStart => exact ⟨0, by omega, rfl, HJw.out, HKp.out⟩
          case round =>
            obtain ⟨j, hj, rfl, hJw, hKp⟩ := hrel
            have HJw := Lib.hid hJw; have HKp := Lib.hid hKp
            clear hJw hKp c2
            by_cases hjn : j < nc
            · have hd3 : decide ((j : Int) < (nc : Int)) = true := by simp; omega
              obtain ⟨gc, rfl, _, c3⟩ := (HOC.out.kpi HKp.out (by omega)).at' j (by rw [Hnc.out]; exact hjn)
              obtain ⟨z, hz⟩ : ∃ z, LC[j]'(by rw [Hnc.out]; exact hjn) = z := ⟨_, rfl⟩
              rw [hz] at c3
              have hzD : LC.getD j 0 = z := by rw [← hz]; simp [List.getD_eq_getElem?_getD, Hnc.out, hjn]
              have hnx : pre3 LA LB LC i k j ++ [(x, y, z)] = pre3 LA LB LC i k (j + 1) := by
                have := pre3_next (A := LA) (B := LB) (i := i) (k := k) (show j < LC.length by rw [Hnc.out]; exact hjn)
                rwa [Hx.out, Hy.out, hzD] at this
              have hpf : pre3 LA LB LC i k (j + 1) <+: prod3 LA LB LC := pre3_pre (by rw [Hna.out]; exact hin) (by rw [Hnb.out]; exact hkn)
              obtain ⟨fn, tmps, assign, body, hy, hR⟩ := HY.out (pre3 LA LB LC i k j) (x, y, z) wr HJw.out (by rw [hnx]; exact hpf)
              have Hnx := Lib.hid hnx; have Hpf := Lib.hid hpf
              have HR := Lib.hid hR
              simp only [rw3] at hy
              clear hz hzD hnx hpf hR
              gi_wp2_with (fail)
              refine HR.out.mono ?_
              rintro e W3 ⟨go, rfl, hgo, hst⟩
              have Hgo := Lib.hid hgo; have Hst := Lib.hid hst
              clear hgo hst hy
              cases go with
              | true =>
                gi_wp2_with fail
                go_roundw
                case rel => exact ⟨j + 1, by omega, by push_cast; rfl, by rw [← Hnx.out]; exact (Hgo.out (by trivial)).1, HKp.out.t (Hgo.out (by trivial)).2⟩
                case measure => simp [intOf]; omega
              | false =>
                gi_wp2_with fail
                (try simp only [Exit.inBlock, Exit.then]); refine bodyPost_ret (results_none rfl _ _ _) rfl ?_
                exact ⟨⟨_, rfl⟩, .inr ⟨_, Hpf.out, by rw [← Hnx.out]; exact Hst.out (by trivial)⟩⟩
            · have hd3 : decide ((j : Int) < (nc : Int)) = false := by simp; omega
              gi_wp2_with fail
              go_roundw
              case rel => exact ⟨k + 1, by omega, by push_cast; rfl, by rw [← pre3_row (by rw [Hnb.out]; exact hkn)]; rw [Hnc.out]; rw [← show j = nc by omega]; exact HJw.out, HKp.out⟩
              case measure => simp [intOf]; omega
        · have hd2 : decide ((k : Int) < (nb : Int)) = false := by simp; omega
          gi_wp2_with fail
          go_roundw
          case rel => exact ⟨i + 1, by omega, by push_cast; rfl, by rw [← pre3_blk (by rw [Hna.out]; exact hin)]; rw [Hnb.out]; rw [← show k = nb by omega]; exact HJw.out, HKp.out⟩
          case measure => simp [intOf]; omega
    · have hd : decide ((i : Int) < (na : Int)) = false := by simp; omega
      gi_wp2_with fail
      go_end0
      refine ⟨⟨_, rfl⟩, .inl ?_⟩
      rw [← pre3_end, Hna.out, ← show i = na by omega]
      exact HJw.out
end
end Go.Proofs.Ytghihhjcoilmgaa
