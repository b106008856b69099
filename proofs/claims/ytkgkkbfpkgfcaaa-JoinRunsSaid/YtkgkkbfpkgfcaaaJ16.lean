/- Layer 14: run, walked. -/
import Derived.Test.YtkgkkbfpkgfcaaaJ15
import Derived.Deep.CutBlock
namespace Go.Proofs.Ytkgkkbfpkgfcaaa
set_option maxRecDepth 100000
open Go.RowKit Go.Maps
set_option linter.unusedVariables false
set_option linter.unusedSimpArgs false

/-- what run needs of its plan -/
structure RunOK (E : RunE) : Prop where
  n : E.steps.length ≤ 1000000
  vl : E.vws.length = E.steps.length
  vars : E.vars ≤ 1000000
  st : IsSteps E.wt E.sa E.steps
  ok : ∀ s ∈ E.steps, 1 ≤ s.kind ∧ s.kind ≤ 4 ∧ (∀ x ∈ plsOf s, x.1 < (E.vars : Int))
  i32 : ∀ s ∈ E.steps, is32 s.r0.2 ∧ is32 s.r1.2 ∧ is32 s.r2.2
structure RunA (E : RunE) (T : TS) (outs : List (List Int)) (tot : Nat) (J : List OutT → (Nat → Prop) → World → Prop) (X : Nat → Prop) (w : World) (L : List Int) (k : Nat) (sv : Value) (st : List LevV) (pre : List OutT) (rest : List (Option (List Int))) : Prop where
  rs : RS E X w L k sv st
  j : J pre X w
  o : outs = pre.map (·.2) ++ outsE rest
  t : tot = k + looksE rest
  inc : (st.map (·.1.i)).Pairwise (· < ·)
def lookOf (wb : Nat) (w : World) : Nat := match w.cell? ⟨wb, 11, none⟩ with
  | some (.int _ k) => k.toNat
  | _ => 0
def lenOf (v : Value) : Nat := match v with
  | .slice _ n _ => n
  | _ => 0
theorem RS.lookOf {E : RunE} {X : Nat → Prop} {w : World} {L : List Int} {k : Nat} {sv : Value} {st : List LevV} (h : RS E X w L k sv st) : lookOf E.wb w = k := by
  unfold Go.Proofs.Ytkgkkbfpkgfcaaa.lookOf
  rw [h.c11.1]
  simp
theorem inc_len (n : Nat) : ∀ (l : List Nat) (b : Nat), l.Pairwise (· < ·) → (∀ x ∈ l, b ≤ x ∧ x < n) → l.length ≤ n - b
  | [], b, _, _ => Nat.zero_le _
  | a :: t, b, h, hx => by
    obtain ⟨h1, h2⟩ := List.pairwise_cons.1 h
    have ha := hx a (by simp)
    have := inc_len n t (a + 1) h2 (fun x hx' => ⟨h1 x hx', (hx x (List.mem_cons_of_mem _ hx')).2⟩)
    simp only [List.length_cons]
    omega
theorem RunA.depth {E : RunE} {T : TS} {outs : List (List Int)} {tot : Nat} {J : List OutT → (Nat → Prop) → World → Prop} {X : Nat → Prop} {w : World} {L : List Int} {k : Nat} {sv : Value} {st : List LevV} {pre : List OutT} {rest : List (Option (List Int))}
    (h : RunA E T outs tot J X w L k sv st pre rest) : st.length ≤ E.steps.length := by
  have h1 := inc_len E.ss.length (st.map (·.1.i)) 0 h.inc (fun x hx => by
    simp only [List.mem_map] at hx
    obtain ⟨y, hy, rfl⟩ := hx
    obtain ⟨v, hv⟩ := (h.rs.rb.lev y hy).step
    exact ⟨Nat.zero_le _, (List.getElem?_eq_some_iff.1 hv).1⟩)
  have h2 : E.ss.length ≤ E.steps.length := by unfold RunE.ss; rw [List.length_zip]; exact Nat.min_le_left _ _
  simp only [List.length_map] at h1
  omega
theorem LevOK.pl {E : RunE} {X : Nat → Prop} {w : World} {y : LevV} (h : LevOK X w E.vars E.ss y) (hE : RunOK E) : (∃ hi : y.1.i < E.steps.length, E.steps[y.1.i] = y.1.s) ∧ (y.1.s.r0.1 < (E.vars : Int) ∧ y.1.s.r1.1 < (E.vars : Int) ∧ y.1.s.r2.1 < (E.vars : Int)) ∧ ∀ v ∈ y.1.own, v < E.vars := by
  obtain ⟨v, hv⟩ := h.step
  obtain ⟨hi, hv⟩ := List.getElem?_eq_some_iff.1 hv
  unfold RunE.ss at hi hv
  rw [List.length_zip, hE.vl, Nat.min_self] at hi
  rw [List.getElem_zip] at hv
  injection hv with hv _
  have hok := (hE.ok _ (List.getElem_mem hi)).2.2
  rw [hv] at hok
  unfold plsOf at hok
  rw [if_neg (by have := h.kind; omega)] at hok
  have h0 := hok _ (List.mem_cons_self)
  have h1 := hok _ (List.mem_cons_of_mem _ List.mem_cons_self)
  have h2 := hok _ (List.mem_cons_of_mem _ (List.mem_cons_of_mem _ List.mem_cons_self))
  refine ⟨⟨hi, hv⟩, ⟨h0, h1, h2⟩, fun u hu => ?_⟩
  rw [h.ownEq] at hu
  obtain ⟨_, hu⟩ := (mem_ownOf _ _ _).1 hu
  rcases hu with hu | hu | hu <;> omega
theorem Try.infoLev : (Try.prog.info? 102).map (fun i => (i.zero, i.size, i.bytes)) = some (some (.agg #[.int .i64 0, .slice none 0 0, .slice none 0 0]), 3, 56) := by kernel_rfl
theorem holds_any {Z : Zone} {w : World} {tb : Nat} {T : TS} {D : TabD} {wb vb : Nat} {L : List Int} (ht : IsT Z w tb T D) (h : WkV w wb vb L) (hlen : L.length ≤ 1000000) (hp : w.cell? ⟨wb, 0, none⟩ = some (.pointer (some ⟨tb, 0, none⟩))) (s : StepT) (hk : s.kind ≠ 1) (hkk : 1 ≤ s.kind ∧ s.kind ≤ 4) (hs : ∀ x ∈ plsOf s, x.1 < (L.length : Int)) (hr : rok (lookP L s)) :
    Calls Try.prog 31 #[.pointer (some ⟨wb, 0, none⟩), stepv s] w fun e w' => e = .returned (.bool (holdsP T L s)) ∧ Below w.heap.size w w' := by
  unfold plsOf at hs
  rcases (show s.kind = 2 ∨ s.kind = 3 ∨ s.kind = 4 by omega) with h2 | h3 | h4
  · rw [if_neg (by omega)] at hs
    have e : holdsP T L s = decide (mlist T (lookP L s) 0 T.length 3 = []) := by rw [holdsP, if_pos h2]
    rw [e]
    exact callsIn_wide.1 (holds_absent ht h hlen hp s h2 ⟨hs _ (by simp), hs _ (by simp), hs _ (by simp)⟩ hr)
  · rw [if_pos (by omega)] at hs
    have e : holdsP T L s = (plVal L s.a == plVal L s.b) := by rw [holdsP, if_neg (by omega), if_pos h3]
    rw [e]
    exact holds_same h hlen s h3 (hs _ (by simp)) (hs _ (by simp))
  · rw [if_pos (by omega)] at hs
    have e : holdsP T L s = (plVal L s.a != plVal L s.b) := by rw [holdsP, if_neg (by omega), if_neg (by omega)]
    rw [e]
    exact holds_unlike h hlen s h4 (hs _ (by simp)) (hs _ (by simp))
section
variable {Z : Zone} {T : TS} {D : TabD} {E : RunE} {w : World} {X : Nat → Prop} {L0 : List Int}
set_option maxRecDepth 100000 in
set_option maxHeartbeats 8000000 in
theorem run_any (ht : IsT Z E.wt E.tb T D) (hE : RunOK E) (fv : Value) (most : Int) (outs : List (List Int)) (J : List OutT → (Nat → Prop) → World → Prop) (Jx : List OutT → World → Prop) (hY : YieldsX Try.prog fv E.wt.heap.size outs J Jx)
    (h0 : RS E X w L0 0 (.slice none 0 0) []) (hJ0 : J [] X w) (ho : outs = outsE (evs T E.ss L0)) (hn : looksE (evs T E.ss L0) ≤ 1000000) (hm : most < 0 ∨ (looksE (evs T E.ss L0) : Int) ≤ most) :
    Calls Try.prog 20 #[.pointer (some ⟨E.wb, 0, none⟩), .int .i64 most, fv] w fun e w' => e = .returned (.bool true) ∧
      ((∃ pre X' L' sv', pre.map (·.2) = outs ∧ J pre X' w' ∧ RS E X' w' L' (looksE (evs T E.ss L0) : Nat) sv' []) ∨ ∃ pre, pre.map (·.2) <+: outs ∧ Jx pre w') := by
  obtain ⟨tot, htot⟩ : ∃ tot, looksE (evs T E.ss L0) = tot := ⟨_, rfl⟩
  obtain ⟨n, hnn⟩ : ∃ n, E.steps.length = n := ⟨_, rfl⟩
  have hA0 : RunA E T outs tot J X w L0 0 (.slice none 0 0) [] [] (evs T (E.ss.drop 0) L0 ++ stE T E.ss []) :=
    ⟨h0, hJ0, by rw [ho]; simp [stE_nil], by simp [stE_nil, htot], List.Pairwise.nil⟩
  have HT := Lib.hid ht; have HE := Lib.hid hE; have HY := Lib.hid hY; have HA0 := Lib.hid hA0; have Htot := Lib.hid htot; have Hnn := Lib.hid hnn
  have hn6 : n ≤ 1000000 := by have := hE.n; omega
  rw [htot] at hn hm ⊢
  have Hm := Lib.hid hm
  clear ht hE hY h0 hJ0 ho htot hnn hA0 hm
  go_enter Try.func20, Try.ntmps20
  go_wp2_with fail
  go_loopw [7, 8] (fun u7 u8 wr => ∃ (i : Nat) (X : Nat → Prop) (L : List Int) (k : Nat) (st : List LevV) (pre : List OutT), u8 = .int .i64 i ∧ i ≤ n ∧ (∀ y ∈ st, y.1.i < i) ∧ RunA E T outs tot J X wr L k u7 st pre (evs T (E.ss.drop i) L ++ stE T E.ss (st.map (·.1)))) (fun _ _ wr => tot + 1 - lookOf E.wb wr)
  case atStart => exact ⟨0, X, L0, 0, [], [], rfl, by omega, (fun y hy => by simp at hy), HA0.out⟩
  case round =>
    clear HA0
    obtain ⟨i, X, L, k, st, pre, rfl, hi, hlt, hA⟩ := hrel
    have HA := Lib.hid hA; have Hlt := Lib.hid hlt; have Hk0 := Lib.hid hA.rs.lookOf
    clear hA hlt
    go_wp2_with fail
    go_step3
    go_upto_block 2 with fail
    go_cut [8, 9] from 14 to 48 (fun u8 u9 wx => ∃ (i' : Nat) (g : Bool), u8 = .int .i64 i' ∧ i ≤ i' ∧ i' ≤ n ∧ u9 = .bool g ∧ (g = true → i' < n → ∀ s v, E.ss[i']? = some (s, v) → s.kind = 1) ∧ RunA E T outs tot J X wx L k u7 st pre ((if g then evs T (E.ss.drop i') L else []) ++ stE T E.ss (st.map (·.1))))
    case first =>
      go_wp2_with fail
      go_loopw [8, 9] (fun u8 u9 wx => ∃ (i' : Nat) (g : Bool), u8 = .int .i64 i' ∧ i ≤ i' ∧ i' ≤ n ∧ u9 = .bool g ∧ RunA E T outs tot J X wx L k u7 st pre ((if g then evs T (E.ss.drop i') L else []) ++ stE T E.ss (st.map (·.1)))) (fun u8 _ _ => n - (intOf u8).toNat)
      case atStart => exact ⟨i, true, rfl, Nat.le_refl _, hi, rfl, HA.out⟩
      case round =>
        clear HA
        obtain ⟨i', g, rfl, hii, hi', rfl, hA⟩ := hrel
        have HA := Lib.hid hA
        clear hA
        cases g with
        | false =>
          go_wp2_with fail
          go_meet
          exact ⟨i', false, rfl, hii, hi', rfl, (fun h => by cases h), HA.out⟩
        | true =>
          by_cases hin : i' < n
          · have hd : decide ((i' : Int) < (n : Int)) = true := by simp; omega
            have hil : i' < E.steps.length := by have := Hnn.out; omega
            have hiv : i' < E.vws.length := by have := HE.out.vl; omega
            obtain ⟨sb, so, hsa, hst⟩ := HA.out.rs.stp HE.out.st i' hil
            have c7 := HA.out.rs.c7
            rw [hsa, Hnn.out] at c7
            have hss : E.ss[i']? = some (E.steps[i'], E.vws[i']) := by
              unfold RunE.ss
              rw [List.getElem?_eq_getElem (by rw [List.length_zip]; omega), List.getElem_zip]
            have Hss := Lib.hid hss
            have hok := HE.out.ok _ (List.getElem_mem hil)
            have hi32 := HE.out.i32 _ (List.getElem_mem hil)
            obtain ⟨hsl, e0, e1, e2, e3, e4, e5, e6, e7, e8, e9, e10⟩ := hst
            obtain ⟨s, hs⟩ : ∃ s, E.steps[i'] = s := ⟨_, rfl⟩
            have Hs := Lib.hid hs; have Hok := Lib.hid hok; have Hi32 := Lib.hid hi32
            rw [hs] at e0 e1 e2 e3 e4 e5 e6 e7 e8 e9 e10
            clear hsa hss hok hi32 hs
            by_cases hk : s.kind = 1
            · have hd1 : (s.kind != 1) = false := by simpa using hk
              have Hk := Lib.hid hk
              clear hk
              go_wp2_with fail
              go_meet
              refine ⟨i', true, rfl, hii, hi', rfl, (fun _ _ s' v' hs' => ?_), HA.out⟩
              have h1 := Hss.out
              rw [hs'] at h1
              injection h1 with h1; injection h1 with h1 _
              rw [h1, Hs.out]
              exact Hk.out
            · have hd1 : (s.kind != 1) = true := by simpa using hk
              have Hk := Lib.hid hk
              clear hk
              go_wp2_with fail
              have hoks := Hok.out
              have hi32 := Hi32.out
              rw [Hs.out] at hoks hi32
              refine (holds_any (HA.out.rs.tab HT.out) HA.out.rs.wkB.toV (by rw [HA.out.rs.vlen]; exact HE.out.vars) HA.out.rs.c0 s Hk.out ⟨hoks.1, hoks.2.1⟩ (by rw [HA.out.rs.vlen]; exact hoks.2.2) (look_rok HA.out.rs.v32 hi32)).mono ?_
              rintro e w2 ⟨rfl, hB2⟩
              have hjj := HY.out.grow pre X X _ _ HA.out.j (GrX.below hB2) (fun _ h => .inl h)
              have hrs := HA.out.rs.below hB2
              have Hrs := Lib.hid hrs; have Hjj := Lib.hid hjj
              clear hrs hjj hB2 hoks hi32
              obtain ⟨q, hq⟩ : ∃ q, holdsP T L s = q := ⟨_, rfl⟩
              rw [hq]
              have Hq := Lib.hid hq
              clear hq
              go_wp2_with fail
              refine ⟨⟨i' + 1, q, by push_cast; rfl, by omega, by omega, rfl, ?_⟩, by simp [intOf]; omega⟩
              have ho := HA.out.o
              have ht := HA.out.t
              simp only [if_true] at ho ht
              cases q with
              | true =>
                rw [evs_hold T E.ss i' s _ (by rw [Hss.out, Hs.out]) Hk.out L Hq.out] at ho ht
                exact ⟨Hrs.out, Hjj.out, ho, ht, HA.out.inc⟩
              | false =>
                rw [evs_not T E.ss i' s _ (by rw [Hss.out, Hs.out]) Hk.out L Hq.out] at ho ht
                exact ⟨Hrs.out, Hjj.out, ho, ht, HA.out.inc⟩
          · have hin' : i' = n := by omega
            have hd : decide ((i' : Int) < (n : Int)) = false := by simp; omega
            have c7 := HA.out.rs.c7
            rw [Hnn.out] at c7
            have Hin := Lib.hid hin'
            clear hin'
            go_wp2_with fail
            go_meet
            exact ⟨i', true, rfl, hii, hi', rfl, (fun _ h => absurd h hin), HA.out⟩
    case rest =>
      obtain ⟨i', g, rfl, hii, hi', rfl, hk1, hA⟩ := hcut
      have HA := Lib.hid hA; have Hk1 := Lib.hid hk1
      clear hA hk1
      go_upto_block 4 with fail
      go_cut [7] from 49 to 76 (fun u7 wx => ∃ (X : Nat → Prop) (L : List Int) (st : List LevV) (pre : List OutT), RunA E T outs tot J X wx L k u7 st pre (stE T E.ss (st.map (·.1))))
      case first =>
        cases g with
        | false =>
          go_wp2_with fail
          go_meet
          exact ⟨X, L, st, pre, by have := HA.out; simpa using this⟩
        | true =>
          by_cases hin : i' < n
          · have hd : ((i' : Int) == (n : Int)) = false := by simp; omega
            have hil : i' < E.steps.length := by have := Hnn.out; omega
            have hiv : i' < E.vws.length := by have := HE.out.vl; omega
            obtain ⟨sb, so, hsa, hst⟩ := HA.out.rs.stp HE.out.st i' hil
            have c7 := HA.out.rs.c7
            rw [hsa, Hnn.out] at c7
            have hss : E.ss[i']? = some (E.steps[i'], E.vws[i']) := by
              unfold RunE.ss
              rw [List.getElem?_eq_getElem (by rw [List.length_zip]; omega), List.getElem_zip]
            have hok := HE.out.ok _ (List.getElem_mem hil)
            have hi32 := HE.out.i32 _ (List.getElem_mem hil)
            obtain ⟨va, vcap, hvv, hview⟩ := HA.out.rs.view HE.out.vl i' hiv
            have c9 := HA.out.rs.c9
            rw [hvv, Hnn.out] at c9
            obtain ⟨s, hs⟩ : ∃ s, E.steps[i'] = s := ⟨_, rfl⟩
            obtain ⟨⟨fr, tu, bt⟩, hv⟩ : ∃ v, E.vws[i'] = v := ⟨_, rfl⟩
            rw [hs] at hst hss hok hi32
            rw [hv] at hview hss
            have hkind := Hk1.out rfl hin s _ hss
            have hpl : s.r0.1 < L.length ∧ s.r1.1 < L.length ∧ s.r2.1 < L.length := by
              have h := hok.2.2
              unfold plsOf at h
              rw [if_neg (by omega)] at h
              rw [HA.out.rs.vlen]
              exact ⟨h _ (by simp), h _ (by simp), h _ (by simp)⟩
            have hopen := callsIn_wide.1 (open_any (HA.out.rs.tab HT.out) HA.out.rs.wkB.toV (by rw [HA.out.rs.vlen]; exact HE.out.vars) HA.out.rs.c0 s i' n E.cap sb so va 0 vcap c7 hin hn6 hst c9 fr tu bt hview hpl (look_rok HA.out.rs.v32 hi32))
            have Hopen := Lib.hid hopen; have Hss := Lib.hid hss; have Hkind := Lib.hid hkind
            obtain ⟨il, hil', hz0, hz1, hz2⟩ := info_parts Try.infoLev
            have Hi := Lib.hid hil'; have Hj0 := Lib.hid hz0; have Hj1 := Lib.hid hz1; have Hj2 := Lib.hid hz2
            have hlen : st.length ≤ n := by
              have := inc_len i' (st.map (·.1.i)) 0 HA.out.inc (fun x hx => by
                simp only [List.mem_map] at hx
                obtain ⟨y, hy, rfl⟩ := hx
                have := Hlt.out y hy
                omega)
              simp only [List.length_map] at this
              omega
            clear hsa hst hss hok hi32 hvv hview hs hv hkind hpl hopen c9 hil' hz0 hz1 hz2
            go_wp2_with fail
            refine Hopen.out.mono ?_
            rintro e w2 ⟨rs, os, rfl, hB2, hr, ho⟩
            obtain ⟨a1, q1, rfl⟩ := own_anyJ hr
            obtain ⟨a2, q2, rfl⟩ := own_anyJ ho
            obtain ⟨m1, hm1⟩ : ∃ m1, (stepRows T L s fr tu bt).length = m1 := ⟨_, rfl⟩
            obtain ⟨m2, hm2⟩ : ∃ m2, (ownOf L s).length = m2 := ⟨_, rfl⟩
            have hBA : Below w2.heap.size w2 (w2.alloc (.cells #[.int .i64 (i' : Nat), .slice a1 m1 q1, .slice a2 m2 q2] 102)) := (Below.refl _ w2).alloc (Nat.le_refl _) _
            have hzA : (w2.alloc (.cells #[.int .i64 (i' : Nat), .slice a1 m1 q1, .slice a2 m2 q2] 102)).heap.size = w2.heap.size + 1 := World.size_alloc _ _
            have Hsk := Lib.hid ((HA.out.rs.below hB2).below hBA).sk
            have HB2 := Lib.hid hB2; have Hr := Lib.hid hr; have Ho := Lib.hid ho; have HBA := Lib.hid hBA; have Hm1 := Lib.hid hm1; have Hm2 := Lib.hid hm2
            have HzA := Lib.hid hzA
            have hlow := Lib.hid (HA.out.rs.below hB2).rb.lows
            rw [hm1, hm2]
            clear hB2 hr ho hBA hm1 hm2 hzA
            go_wp2_with (at_builtin; refine wpList_append_own_at _ rfl _ _ 98 rfl E.wt.heap.size 102 il (.agg #[.int .i64 0, .slice none 0 0, .slice none 0 0]) 3 56 Try.underlying98 Hi.out Hj0.out Hj1.out Hj2.out rfl (by decide) _ _ _ rfl Hsk.out ⟨w2.heap.size, 0, none⟩ 1 1 [.int .i64 (i' : Nat), .slice a1 m1 q1, .slice a2 m2 q2] rfl rfl (cells_blk (World.alloc_heap_new _ _)) (by simp [Value.oneCell']) (by unfold maxLen; omega) (by omega) (by rw [HzA.out]; have := hlow.out; omega) ?_; intro v' w4 hown' hgrow _ hwh; have Hown' := Lib.hid hown'; have Hgrow := Lib.hid hgrow; have Hwh := Lib.hid hwh; clear hown' hgrow hwh)
            go_meet
            obtain ⟨hpush, hgr⟩ := HA.out.rs.push (X' := fun j => X j ∨ (wc.heap.size ≤ j ∧ j < w4.heap.size)) (HB2.out.trans (HBA.out.mono HB2.out.size)) (own_below Hr.out HBA.out) (own_below Ho.out HBA.out) (by rw [Hm1.out, Hm2.out]; exact Hown'.out) Hgrow.out Hwh.out (fun _ => Iff.rfl) Hss.out (stepRows_rok (HA.out.rs.tab HT.out) L s fr tu bt) Hkind.out
            have ho := HA.out.o
            have ht := HA.out.t
            simp only [if_true] at ho ht
            rw [evs_match T E.ss i' s (fr, tu, bt) Hss.out Hkind.out L (ownOf L s)] at ho ht
            refine ⟨_, L, _, pre, hpush, HY.out.grow pre X _ _ _ HA.out.j hgr (fun j hj => hj.imp id And.left), ?_, ?_, ?_⟩
            · rw [List.map_append, List.map_singleton, stE_snoc]; exact ho
            · rw [List.map_append, List.map_singleton, stE_snoc]; exact ht
            · rw [List.map_append, List.map_singleton, List.pairwise_append]
              refine ⟨HA.out.inc, List.pairwise_singleton _ _, fun a ha b hb => ?_⟩
              simp only [List.mem_map] at ha
              obtain ⟨y, hy, rfl⟩ := ha
              simp only [List.mem_singleton] at hb
              rw [hb]
              exact Nat.lt_of_lt_of_le (Hlt.out y hy) hii
          · have hin' : i' = n := by omega
            have hd : ((i' : Int) == (n : Int)) = true := by simp; omega
            have c7 := HA.out.rs.c7
            rw [Hnn.out] at c7
            have Hin := Lib.hid hin'
            have hfn : ∀ k, Fence.wide.fn k := fun _ => trivial
            clear hin'
            go_upto_region 8 with fail
            have c10 := HA.out.rs.c10
            have hvl := HA.out.rs.vlen
            rw [← hvl] at c10
            have hcl := (callsIn_wide (n := 8)).2 (clone_vals HA.out.rs.va (by rw [hvl]; exact HE.out.vars))
            have Hcl := Lib.hid hcl
            have he : evs T (E.ss.drop n) L = [some L] := by
              have h : E.ss.length = n := by
                unfold RunE.ss
                rw [List.length_zip, HE.out.vl, Nat.min_self]
                exact Hnn.out
              rw [← h, List.drop_length]; rfl
            have ho := HA.out.o
            have hto := HA.out.t
            simp only [if_true] at ho hto
            rw [Hin.out, he, List.singleton_append, outsE_some] at ho
            rw [Hin.out, he, List.singleton_append, looksE_some] at hto
            have Ho := Lib.hid ho; have Hto := Lib.hid hto
            clear hvl hcl he ho hto c7
            refine (wpIn_wide (n := 9)).1 ?_
            gi_wp2_with fail
            refine Hcl.out.mono ?_
            rintro e w2 ⟨sv, rfl, hio, hB2⟩
            have hcall := HY.out.call pre X _ _ _ L HA.out.j HA.out.rs.lt hB2 hio (by rw [Ho.out]; exact List.prefix_append_right_inj _ |>.2 ⟨_, rfl⟩)
            have Hrs2 := Lib.hid (HA.out.rs.below hB2)
            have hpf : (pre ++ [(sv, L)]).map (·.2) <+: outs := by rw [Ho.out, List.map_append]; exact (List.prefix_append_right_inj _).2 ⟨_, rfl⟩
            have hfin : outs = (pre ++ [(sv, L)]).map (·.2) ++ outsE (stE T E.ss (st.map (·.1))) := by rw [Ho.out, List.map_append, List.append_assoc]; rfl
            have Hpf := Lib.hid hpf; have Hfin := Lib.hid hfin; have Hinc := Lib.hid HA.out.inc
            clear hB2 hio c10 hpf hfin
            rcases hcall with ⟨l, rfl, fn, tmps, assign, body, hy, hR⟩ | ⟨kf, lb, rfl, eg, hR⟩
            · have HR := Lib.hid hR
              clear hR
              gi_wp2_with fail
              refine HR.out.mono ?_
              rintro e w3 (⟨rfl, hj3, hk3⟩ | ⟨rfl, hjx⟩)
              · have Hj3 := Lib.hid hj3; have Hk3 := Lib.hid hk3
                clear hj3 hk3
                gi_wp2_with fail
                go_wp2_with fail
                go_meet
                exact ⟨X, L, st, _, Hrs2.out.keep Hk3.out, Hj3.out, Hfin.out, Hto.out, Hinc.out⟩
              · have Hjx := Lib.hid hjx
                clear hjx
                gi_wp2_with fail
                go_wp2_with fail
                go_simp
                go_wp2_with fail
                go_ret
                exact ⟨rfl, .inr ⟨_, Hpf.out, Hjx.out⟩⟩
            · have HR := Lib.hid hR
              clear hR
              gi_wp2_with fail
              refine ((callsIn_wide (n := 8)).2 HR.out).mono ?_
              rintro e w3 (⟨rfl, hj3, hk3⟩ | ⟨rfl, hjx⟩)
              · have Hj3 := Lib.hid hj3; have Hk3 := Lib.hid hk3
                clear hj3 hk3
                gi_wp2_with fail
                go_wp2_with fail
                go_meet
                exact ⟨X, L, st, _, Hrs2.out.keep Hk3.out, Hj3.out, Hfin.out, Hto.out, Hinc.out⟩
              · have Hjx := Lib.hid hjx
                clear hjx
                gi_wp2_with fail
                go_wp2_with fail
                go_simp
                go_wp2_with fail
                go_ret
                exact ⟨rfl, .inr ⟨_, Hpf.out, Hjx.out⟩⟩
      case rest =>
        clear HA Hk1
        obtain ⟨X, L, st, pre, hA⟩ := hcut
        have HA := Lib.hid hA
        clear hA
        go_wp2_with fail
        go_step3
        go_wp2_with fail
        go_loopw [7] (fun u7 wx => ∃ (X : Nat → Prop) (L : List Int) (k' : Nat) (st : List LevV) (pre : List OutT), k ≤ k' ∧ RunA E T outs tot J X wx L k' u7 st pre (stE T E.ss (st.map (·.1)))) (fun u7 _ => lenOf u7)
        case atStart => exact ⟨X, L, k, st, pre, Nat.le_refl _, HA.out⟩
        case round =>
          clear HA
          obtain ⟨X, L, k1, st, pre, hk01, hA⟩ := hrel
          rcases st.eq_nil_or_concat with hst | ⟨st', y, hst⟩
          · subst hst
            obtain ⟨a0, q0, hv⟩ := own_anyJ hA.rs.sk
            subst hv
            have HA := Lib.hid hA
            clear hA
            go_wp2_with fail
            go_simp
            go_wp2_with fail
            go_ret
            have ho := HA.out.o
            have ht := HA.out.t
            simp only [List.map_nil, stE_nil, outsE, looksE, List.filterMap_nil, List.countP_nil, List.append_nil, Nat.add_zero] at ho ht
            exact ⟨rfl, .inl ⟨pre, X, L, _, ho.symm, HA.out.j, by rw [ht]; exact HA.out.rs⟩⟩
          · rw [List.concat_eq_append] at hst
            subst hst
            obtain ⟨⟨yi, ys, yb, yo, yr⟩, yrs, yos⟩ := y
            obtain ⟨g, cap, hv, hX, hgv, hgw, hc1, hc2, ⟨c0, c1', c2'⟩, f1⟩ := hA.rs.top
            subst hv
            obtain ⟨m, hm⟩ : ∃ m, st'.length = m := ⟨_, rfl⟩
            rw [hm] at c0 c1' c2' f1 hc1 hA ⊢
            have HA := Lib.hid hA; have Hm' := Lib.hid hm
            have hd0 : (((m : Nat) : Int) + 1 == 0) = false := by simp; omega
            have hm6 : m + 1 ≤ 1000000 := by
              have h := hA.depth
              rw [List.length_append, hm, Hnn.out] at h
              simp at h
              omega
            have hyi : yi < n := by
              obtain ⟨v, hv⟩ := (hA.rs.rb.lev ((⟨yi, ys, yb, yo, yr⟩, yrs, yos) : LevV) (by simp)).step
              have h := (List.getElem?_eq_some_iff.1 hv).1
              unfold RunE.ss at h
              rw [List.length_zip, HE.out.vl, Nat.min_self] at h
              have := Hnn.out
              simp only at h
              omega
            have Hyi := Lib.hid hyi
            clear hA hm c0 c1' c2' f1 hyi
            go_wp2_with fail
            go_loopw [11] (fun u11 wx => ∃ (L : List Int) (k2 : Nat) (rows : List R3) (rs : Value), k1 ≤ k2 ∧ RunA E T outs tot J X wx L k2 (.slice (some ⟨g, 0, none⟩) (m + 1) cap) (st' ++ [(⟨yi, ys, yb, yo, rows⟩, rs, yos)]) pre (stE T E.ss ((st' ++ [((⟨yi, ys, yb, yo, rows⟩, rs, yos) : LevV)]).map (·.1)))) (fun _ wx => tot + 1 - lookOf E.wb wx)
            case atStart => exact ⟨L, k1, yr, yrs, Nat.le_refl _, HA.out⟩
            case round =>
              clear HA
              obtain ⟨L, k2, rows, rs, hk12, hA⟩ := hrel
              obtain ⟨g', cap', hv', hX', hgv', hgw', hc1', hc2', ⟨c0, c1', c2'⟩, f1⟩ := hA.rs.top
              injection hv' with hv1 hv2 hv3
              injection hv1 with hv1
              injection hv1 with hv1
              subst hv1 hv3
              clear hv2
              rw [Hm'.out] at c0 c1' c2' f1
              obtain ⟨ar, cr, hrs, hcr1, hcr2, hrw⟩ := (hA.rs.rb.lev (⟨yi, ys, yb, yo, rows⟩, rs, yos) (by simp)).rows
              simp only at hrs hcr1 hrw c0 c1' c2'
              subst hrs
              have HA := Lib.hid hA
              clear hA hX' hgv' hgw' hc1' hc2'
              cases rows with
              | nil =>
                clear c0 f1 hrw
                simp only [List.length_nil] at c1'
                obtain ⟨oa, oc, hos, hI0, _⟩ := (HA.out.rs.rb.lev ((⟨yi, ys, yb, yo, []⟩, .slice ar 0 cr, yos) : LevV) (by simp)).own
                simp only at hos
                subst hos
                obtain ⟨ol, hol⟩ : ∃ ol, yo.length = ol := ⟨_, rfl⟩
                have hol3 : ol ≤ 3 := by
                  have h := (HA.out.rs.rb.lev ((⟨yi, ys, yb, yo, []⟩, .slice ar 0 cr, .slice oa yo.length oc) : LevV) (by simp)).ownEq
                  simp only at h
                  rw [← hol, h]
                  exact ownOf_len _ _
                rw [hol] at c2'
                have Hol := Lib.hid hol
                clear hI0 hol
                go_wp2_with fail
                go_loopw [132] (fun u wx => ∃ j : Nat, j ≤ ol ∧ u = .int .i64 j ∧ RunA E T outs tot J X wx (zeroOwn (yo.take j) L) k2 (.slice (some ⟨g, 0, none⟩) (m + 1) cap) (st' ++ [(⟨yi, ys, yb, yo, []⟩, .slice ar 0 cr, .slice oa yo.length oc)]) pre (stE T E.ss ((st' ++ [((⟨yi, ys, yb, yo, []⟩, .slice ar 0 cr, .slice oa yo.length oc) : LevV)]).map (·.1)))) (fun u _ => ol - (intOf u).toNat)
                case atStart => exact ⟨0, Nat.zero_le _, rfl, HA.out⟩
                case round =>
                  clear HA
                  obtain ⟨j, hj, rfl, hA⟩ := hrel
                  by_cases hjl : j < ol
                  · have hd : decide ((j : Int) < (ol : Int)) = true := by simp; omega
                    have hjo : j < yo.length := by have := Hol.out; omega
                    have hlv := hA.rs.rb.lev ((⟨yi, ys, yb, yo, []⟩, .slice ar 0 cr, .slice oa yo.length oc) : LevV) (by simp)
                    obtain ⟨oa', oc', hos, hI, _⟩ := hlv.own
                    simp only at hos hI
                    injection hos with hos1 _ hos3
                    subst hos1 hos3
                    obtain ⟨ob, oo, rfl, hob, hoc⟩ := hI j hjo
                    have hvlt := (hlv.pl HE.out).2.2 yo[j] (List.getElem_mem hjo)
                    obtain ⟨v, hv⟩ : ∃ v, yo[j] = v := ⟨_, rfl⟩
                    rw [hv] at hoc hvlt
                    have c10 := hA.rs.c10
                    obtain ⟨⟨x, cv⟩, fv'⟩ : (∃ x : Int, wr.cell? ⟨E.vb, v, none⟩ = some (.int .u32 x)) ∧ wr.frozen? ⟨E.vb, v, none⟩ = false := ⟨⟨_, (hA.rs.val v (by rw [hA.rs.vlen]; exact hvlt)).1⟩, (hA.rs.val v (by rw [hA.rs.vlen]; exact hvlt)).2⟩
                    have HA := Lib.hid hA; have Hv := Lib.hid hv; have Hjo := Lib.hid hjo; have Hvlt := Lib.hid hvlt
                    clear hA hv hI hob hlv
                    go_wp2_with fail
                    refine ⟨⟨j + 1, by omega, by push_cast; rfl, ?_⟩, by simp [intOf]; omega⟩
                    have htk : zeroOwn (yo.take (j + 1)) L = (zeroOwn (yo.take j) L).set v 0 := by
                      rw [List.take_add_one, List.getElem?_eq_getElem hjo, Hv.out]
                      exact zeroOwn_snoc _ _ _
                    have hch := HA.out.rs.ch
                    rw [List.map_append, List.map_singleton, chain_snoc] at hch
                    have hrs := HA.out.rs.vals (gr_set wr E.vb v (.int .u32 0)) (L' := zeroOwn (yo.take (j + 1)) L) (by rw [htk, ← uvs_set]; exact blk_set HA.out.rs.va v _) (by rw [htk, List.length_set]) (by rw [htk]; exact u32s_set HA.out.rs.v32 ⟨by decide, by decide⟩) (by
                      rw [List.map_append, List.map_singleton, chain_snoc]
                      refine ⟨?_, hch.2⟩
                      rw [zeroOwn_idem]
                      rw [zeroOwn_idem] at hch
                      exact hch.1)
                    exact ⟨hrs, HY.out.grow pre X X _ _ HA.out.j (GrX.set wr E.vb v _ HA.out.rs.vbX) (fun _ h => .inl h), HA.out.o, HA.out.t, HA.out.inc⟩
                  · have hjl' : j = ol := by omega
                    have hd : decide ((j : Int) < (ol : Int)) = false := by simp; omega
                    have HA := Lib.hid hA; have Hjl := Lib.hid hjl'
                    have hpop := run_pop g m cap hc1
                    clear hA hjl'
                    go_wp2_with fail
                    have hrs := HA.out.rs
                    have ho := HA.out.o
                    have ht := HA.out.t
                    have hch := hrs.ch
                    rw [List.map_append, List.map_singleton, chain_snoc, zeroOwn_idem] at hch
                    have htk : zeroOwn (yo.take j) L = yb := by
                      rw [Hjl.out, ← Hol.out, List.take_length]
                      exact hch.1
                    rw [List.map_append, List.map_singleton, stE_snoc, levE_nil T E.ss _ rfl, List.nil_append] at ho ht
                    have hpp := hrs.pop (by rw [Hm'.out]) htk
                    rw [htk, Hm'.out] at hpp
                    have hinc := HA.out.inc
                    rw [List.map_append, List.pairwise_append] at hinc
                    exact ⟨⟨X, yb, k2, st', pre, by omega, hpp, HA.out.j, ho, ht, hinc.1⟩, by simp [lenOf]⟩
              | cons r t =>
                obtain ⟨gr, o, har, hXr, ⟨cur, fz, hcur⟩, q0, q1, q2⟩ := hrw 0 (by simp)
                subst har
                simp only [List.getElem_cons_zero, Nat.zero_mul, Nat.add_zero] at q0 q1 q2
                obtain ⟨r0, r1, r2⟩ := r
                simp only at q0 q1 q2
                obtain ⟨tl, htl⟩ : ∃ tl, t.length = tl := ⟨_, rfl⟩
                rw [List.length_cons, htl] at hcr1
                rw [List.length_cons, htl] at c1'
                have hto : tot = k2 + 1 + looksE (rowE T E.ss ⟨yi, ys, yb, yo, (r0, r1, r2) :: t⟩ (r0, r1, r2) ++ (levE T E.ss ⟨yi, ys, yb, yo, t⟩ ++ stE T E.ss (st'.map (·.1)))) := by
                  have h := HA.out.t
                  rw [List.map_append, List.map_singleton, stE_snoc, levE_cons T E.ss _ _ t rfl, List.cons_append, looksE_none, List.append_assoc] at h
                  have h2 : tot = k2 + (looksE (rowE T E.ss ⟨yi, ys, yb, yo, (r0, r1, r2) :: t⟩ (r0, r1, r2) ++ (levE T E.ss ⟨yi, ys, yb, yo, t⟩ ++ stE T E.ss (st'.map (·.1)))) + 1) := h
                  rw [h2, Nat.add_assoc, Nat.add_comm 1]
                have hoo : outs = pre.map (·.2) ++ outsE (rowE T E.ss ⟨yi, ys, yb, yo, (r0, r1, r2) :: t⟩ (r0, r1, r2) ++ (levE T E.ss ⟨yi, ys, yb, yo, t⟩ ++ stE T E.ss (st'.map (·.1)))) := by
                  have h := HA.out.o
                  rw [List.map_append, List.map_singleton, stE_snoc, levE_cons T E.ss _ _ t rfl, List.cons_append, outsE_none, List.append_assoc] at h
                  exact h
                have hk2 : k2 < tot := by omega
                have hmost : ((k2 : Int) == most) = false := by
                  simp only [beq_eq_false_iff_ne, ne_eq]
                  rcases Hm.out with h | h <;> omega
                obtain ⟨c11, f11⟩ := HA.out.rs.c11
                have hglt := HA.out.rs.lt g hX
                have hwlt := HA.out.rs.wlt
                have Hto := Lib.hid hto; have Hoo := Lib.hid hoo; have Htl := Lib.hid htl
                obtain ⟨av, hvs⟩ : ∃ av, (if cr = 1 then some ⟨gr, o, none⟩ else (some (⟨gr, o, none⟩ : Addr)).map (·.add 3)) = av := ⟨_, rfl⟩
                obtain ⟨cv, hcv⟩ : ∃ cv, cr - 1 = cv := ⟨_, rfl⟩
                have htail := run_tail (some ⟨gr, o, none⟩) tl cr hcr1
                rw [hvs, hcv] at htail
                have Hcv := Lib.hid hcv
                clear hcv
                have Hvs := Lib.hid hvs
                clear hto hoo hrw htl hvs hcur
                go_wp2_with fail
                have hrs := ((HA.out.rs.adv (y := (⟨yi, ys, yb, yo, (r0, r1, r2) :: t⟩, .slice (some ⟨gr, o, none⟩) (((r0, r1, r2) :: t : List R3).length) cr, yos)) rfl (by rw [Hm'.out]) (a := some ⟨gr, o, none⟩) (c := cr) rfl).looked ((k2 : Nat) + 1 : Int))
                have hj := HY.out.grow pre X X _ _ (HY.out.grow pre X X _ _ HA.out.j (GrX.set wr g (m * 3 + 1) (.slice av tl cv) hX) (fun _ h => .inl h)) (GrX.set _ E.wb 11 (.int .i64 ((k2 : Nat) + 1 : Int)) HA.out.rs.wbX) (fun _ h => .inl h)
                have hBa : ∀ w0 : World, Below w0.heap.size w0 (w0.alloc (.cells #[.int .u32 r0, .int .u32 r1, .int .u32 r2] 58)) := fun w0 => (Below.refl _ w0).alloc (Nat.le_refl _) _
                rw [Hvs.out, Hcv.out, Hm'.out, Htl.out] at hrs
                have hrs3 : RS E X ((((wr.setCell ⟨g, m * 3 + 1, none⟩ (.slice av tl cv)).setCell ⟨E.wb, 11, none⟩ (.int .i64 ((k2 : Nat) + 1 : Int))).alloc (.cells #[.int .u32 r0, .int .u32 r1, .int .u32 r2] 58))) L ((k2 + 1 : Nat) : Int) (.slice (some ⟨g, 0, none⟩) (m + 1) cap) (st' ++ [(⟨yi, ys, yb, yo, t⟩, .slice av tl cv, yos)]) := hrs.below (hBa _)
                have hj3 := HY.out.grow pre X X _ _ hj (GrX.below (hBa _)) (fun _ h => .inl h)
                generalize ((wr.setCell ⟨g, m * 3 + 1, none⟩ (.slice av tl cv)).setCell ⟨E.wb, 11, none⟩ (.int .i64 ((k2 : Nat) + 1 : Int))).alloc (.cells #[.int .u32 r0, .int .u32 r1, .int .u32 r2] 58) = W3 at hrs3 hj3 ⊢
                clear hrs hj hBa c0 c1' c2' f1 q0 q1 q2 c11 f11 hglt hwlt htail
                have hlv := hrs3.rb.lev ((⟨yi, ys, yb, yo, t⟩, .slice av tl cv, yos) : LevV) (by simp)
                obtain ⟨⟨hyl, hys⟩, hpl, hol⟩ := hlv.pl HE.out
                simp only at hyl hys hpl hol
                obtain ⟨oa, oc, hos, hI, hIX⟩ := hlv.own
                simp only at hos hI
                subst hos
                obtain ⟨g2, cap2, hv', _, hgv2, hgw2, _, _, ⟨c0, _, c2⟩, _⟩ := hrs3.top
                injection hv' with hv1 hv2 hv3
                injection hv1 with hv1
                injection hv1 with hv1
                subst hv1 hv3
                rw [Hm'.out] at c0 c2
                simp only at c0 c2
                obtain ⟨sb, so, hsa, hst⟩ := hrs3.stp HE.out.st yi hyl
                rw [hys] at hst
                have hch := hrs3.ch
                rw [List.map_append, List.map_singleton, chain_snoc] at hch
                simp only at hch
                have hown := hlv.ownEq
                have hyb := hlv.len
                have h32 := hlv.b32
                have hrk := (HA.out.rs.rb.lev ((⟨yi, ys, yb, yo, (r0, r1, r2) :: t⟩, .slice (some ⟨gr, o, none⟩) (((r0, r1, r2) :: t : List R3).length) cr, .slice oa yo.length oc) : LevV) (by simp)).rok (r0, r1, r2) (by simp)
                simp only at hown hyb h32
                have hbind := bind_any hrs3.wkB (by rw [hrs3.vlen]; exact HE.out.vars) ys yi E.steps.length E.cap E.sa hrs3.c7 hyl HE.out.n ⟨sb, so, hsa, hst.lt, hst.c1, hst.c2, hst.c3, hst.c4, hst.c5, hst.c6⟩ c0 yo oa oc c2 hI (by rw [hown]; have := ownOf_len yb ys; omega) (by rw [hrs3.vlen]; exact hol)
                  (fun b off e => by obtain ⟨_, cur, fz, hb⟩ := hIX b off e; exact blk_typ hb hrs3.va (by decide))
                  (fun b off e => by
                    obtain ⟨sb2, so2, e2, h2⟩ := HE.out.st yi hyl
                    rw [e] at e2
                    injection e2 with e2
                    injection e2 with e2
                    have := h2.lt
                    have := (hrs3.rb.xs _ hrs3.vbX).1
                    omega) hgv2 (r0, r1, r2) (by rw [hrs3.vlen]; exact hpl)
                rw [hch.1] at hbind
                have hkp := bindP_keep (prs ys (r0, r1, r2)) yb
                have h32' := u32s_bind (prs ys (r0, r1, r2)) yb h32 (by
                  intro p hp
                  simp only [prs, List.mem_cons, List.not_mem_nil, or_false] at hp
                  rcases hp with rfl | rfl | rfl
                  · exact hrk.1
                  · exact hrk.2.1
                  · exact hrk.2.2)
                have hzb := zeroOwn_bind yb ys (r0, r1, r2)
                rw [← hown] at hzb
                have hrow : rowE T E.ss ⟨yi, ys, yb, yo, (r0, r1, r2) :: t⟩ (r0, r1, r2) = if (bindP (prs ys (r0, r1, r2)) yb).1 then evs T (E.ss.drop (yi + 1)) (bindP (prs ys (r0, r1, r2)) yb).2 else [] := rfl
                obtain ⟨q, hq⟩ : ∃ q, (bindP (prs ys (r0, r1, r2)) yb).1 = q := ⟨_, rfl⟩
                obtain ⟨L', hL'⟩ : ∃ L', (bindP (prs ys (r0, r1, r2)) yb).2 = L' := ⟨_, rfl⟩
                rw [hL'] at hkp h32' hzb hrow
                rw [hq] at hrow
                rw [hq, hL'] at hbind
                have hlenL : L'.length = L.length := hkp.1.trans (hyb.trans hrs3.vlen.symm)
                have Hrs3 := Lib.hid hrs3; have Hj3 := Lib.hid hj3; have Hrow := Lib.hid hrow; have Hlen := Lib.hid hlenL; have H32 := Lib.hid h32'; have Hzb := Lib.hid hzb; have Hch := Lib.hid hch.2; have Hbind := Lib.hid hbind
                have Hgv2 := Lib.hid hgv2
                clear hrs3 hj3 hlv hpl hol hI hIX hv2 hgv2 hgw2 hsa hst hch hown hyb h32 hrk hbind hkp h32' hzb hrow hq hL' hlenL hys
                refine Hbind.out.mono ?_
                rintro e W4 ⟨rfl, hwk, hgr⟩
                have c0' := gr_cell hgr Hgv2.out c0
                have hrs4 := Hrs3.out.vals hgr hwk.b Hlen.out H32.out (by rw [List.map_append, List.map_singleton, chain_snoc]; exact ⟨Hzb.out, Hch.out⟩)
                have hj4 := HY.out.grow pre X X _ _ Hj3.out (GrX.grown hgr Hrs3.out.vbX) (fun _ h => .inl h)
                have Hrs4 := Lib.hid hrs4; have Hj4 := Lib.hid hj4
                clear c0 c2 hwk hgr hrs4 hj4
                have hinc := HA.out.inc
                rw [List.map_append, List.map_singleton] at hinc
                have Hinc := Lib.hid hinc
                clear hinc
                cases q with
                | true =>
                  have hyi6 : yi + 1 ≤ 1000000 := by have := Hyi.out; omega
                  go_wp2_with fail
                  go_simp
                  go_wp2_with fail
                  have hrw := Hrow.out
                  simp only [if_true] at hrw
                  have ho := Hoo.out
                  have ht := Hto.out
                  rw [hrw] at ho ht
                  refine ⟨⟨yi + 1, X, L', k2 + 1, st' ++ [(⟨yi, ys, yb, yo, t⟩, .slice av tl cv, .slice oa yo.length oc)], pre, by push_cast; rfl, by have := Hyi.out; omega, ?_, Hrs4.out, Hj4.out, ?_, ?_, ?_⟩, ?_⟩
                  · intro y hy
                    simp only [List.mem_append, List.mem_singleton] at hy
                    rcases hy with hy | rfl
                    · have hi2 := Hinc.out
                      rw [List.pairwise_append] at hi2
                      exact Nat.lt_succ_of_lt (hi2.2.2 _ (List.mem_map_of_mem hy) _ (List.mem_singleton_self _))
                    · exact Nat.lt_succ_self _
                  · rw [List.map_append, List.map_singleton, stE_snoc]; exact ho
                  · rw [List.map_append, List.map_singleton, stE_snoc]; exact ht
                  · rw [List.map_append, List.map_singleton]; exact Hinc.out
                  · rw [Hrs4.out.lookOf, Hk0.out]
                    omega
                | false =>
                  go_wp2_with fail
                  have hrw := Hrow.out
                  rw [if_neg (by simp)] at hrw
                  have ho := Hoo.out
                  have ht := Hto.out
                  rw [hrw, List.nil_append] at ho ht
                  refine ⟨⟨L', k2 + 1, t, .slice av tl cv, by omega, Hrs4.out, Hj4.out, ?_, ?_, ?_⟩, ?_⟩
                  · rw [List.map_append, List.map_singleton, stE_snoc]; exact ho
                  · rw [List.map_append, List.map_singleton, stE_snoc]; exact ht
                  · rw [List.map_append, List.map_singleton]; exact Hinc.out
                  · rw [Hrs4.out.lookOf, HA.out.rs.lookOf]
                    omega
end
end Go.Proofs.Ytkgkkbfpkgfcaaa
