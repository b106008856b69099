/- The reference's Join: a join more, where it joins two. -/
import Derived.Test.YtghihhjcoilmgaaQ5
namespace Go.Proofs.Ytghihhjcoilmgaa
set_option maxRecDepth 100000
open Go.RowKit Go.Maps
set_option linter.unusedVariables false
set_option linter.unusedSimpArgs false

def jcs (J : Jn) : List Value := J.flatMap fun p => [.int .u32 p.1, .int .u32 p.2]
theorem jcs_len (J : Jn) : (jcs J).length = J.length * 2 := by
  induction J with
  | nil => rfl
  | cons y l ih => simp [jcs] at ih ⊢; omega
theorem jcs_snoc (J : Jn) (p : Int × Int) : jcs (J ++ [p]) = jcs J ++ [.int .u32 p.1, .int .u32 p.2] := by simp [jcs]
theorem jcs_get (J : Jn) (j : Nat) (h : j < J.length) : (jcs J)[j * 2]? = some (.int .u32 J[j].1) ∧ (jcs J)[j * 2 + 1]? = some (.int .u32 J[j].2) := by
  induction J generalizing j with
  | nil => simp at h
  | cons x J ih =>
    cases j with
    | zero => simp [jcs]
    | succ j =>
      have := ih j (by simpa using h)
      simp only [jcs, List.flatMap_cons, List.cons_append, List.nil_append, Nat.add_mul, Nat.one_mul, List.getElem_cons_succ] at this ⊢
      simpa using this
theorem jcs_one (J : Jn) : ∀ u ∈ jcs J, u.oneCell' = true := by
  intro u hu
  simp only [jcs, List.mem_flatMap] at hu
  obtain ⟨p, _, hu⟩ := hu
  simp at hu
  rcases hu with rfl | rfl <;> rfl
/-- a slice of joins -/
def OwnJ (base : Nat) (w : World) (v : Value) (J : Jn) : Prop := w.ownsRow base 68 2 v J.length (jcs J)
theorem add_is (g j : Nat) : (⟨g, 0, none⟩ : Addr).add j = ⟨g, j, none⟩ := by unfold Addr.add; split <;> simp_all
theorem OwnJ.j {base : Nat} {w : World} {v : Value} {J : Jn} (h : OwnJ base w v J) : ∃ a cap, v = .slice a J.length cap ∧ IsJ w a J := by
  rcases h.2 with ⟨rfl, h0⟩ | ⟨g, cap, cur, rfl, hb, hg, hn, hc, hs, ht⟩
  · exact ⟨none, 0, by rw [h0], fun j hj => by omega⟩
  · refine ⟨_, cap, rfl, fun j hj => ⟨g, 0, rfl, (Array.getElem?_eq_some_iff.1 hg).1, ?_, ?_⟩⟩
    · rw [Nat.zero_add, ← add_is]; exact World.ownsRow.cells h (g := g) rfl (j * 2) _ (jcs_get J j hj).1
    · rw [Nat.zero_add, ← add_is]; exact World.ownsRow.cells h (g := g) rfl (j * 2 + 1) _ (jcs_get J j hj).2
theorem OwnJ.mono {b b' : Nat} {w : World} {v : Value} {J : Jn} (h : OwnJ b w v J) (hb : b' ≤ b) : OwnJ b' w v J := by
  refine ⟨h.1, ?_⟩
  rcases h.2 with h1 | ⟨g, cap, cur, h1, h2, h3⟩
  · exact .inl h1
  · exact .inr ⟨g, cap, cur, h1, by omega, h3⟩
theorem OwnJ.below {b n : Nat} {w w' : World} {v : Value} {J : Jn} (h : OwnJ b w v J) (hn : w.heap.size = n) (hb : Below n w w') : OwnJ b w' v J := by
  refine ⟨h.1, ?_⟩
  rcases h.2 with h1 | ⟨g, cap, cur, h1, h2, h3, h4⟩
  · exact .inl h1
  · exact .inr ⟨g, cap, cur, h1, h2, (hb.block g (by rw [← hn]; exact (Array.getElem?_eq_some_iff.1 h3).1)).trans h3, h4⟩
theorem OwnJ.nil (b : Nat) (w : World) : OwnJ b w (.slice none 0 0) [] := World.ownsRow_nil _ _ _ _
theorem Try.infoJ : (Try.prog.info? 68).map (fun i => (i.zero, i.size, i.bytes)) = some (some (.agg #[.int .u32 0, .int .u32 0]), 2, 8) := by kernel_rfl
/-- append(Joins(nil), l...) -/
theorem run_cloneJ {w : World} {B : Nat} {sv : Value} {J : Jn} (h : OwnJ B w sv J) (hl : J.length ≤ 1000000) (ty : TypeId) :
    ∃ v' w', (Builtin.append_ #[28, 28] ty #[.slice none 0 0, sv]).run Try.prog w = .ok v' w' ∧ OwnJ w.heap.size w' v' J ∧ Below w.heap.size w w' := by
  obtain ⟨iu, hiu, hz0, hz1, hz2⟩ := info_parts Try.infoJ
  rcases h.2 with ⟨rfl, hn⟩ | ⟨g, cap, cur, rfl, hb, hg, hn, hc, hs, ht⟩
  · refine ⟨.slice none 0 0, w, run_append_owned_none w w.heap.size _ _ 68 iu 2 Try.underlying28 hiu _ 0 [] (World.ownsRow_nil _ _ _ _), ?_, Below.refl _ _⟩
    have hb : J = [] := List.eq_nil_of_length_eq_zero hn
    subst hb
    exact World.ownsRow_nil _ _ _ _
  · obtain ⟨v', w', hr, h2, h3, h4, h5⟩ := run_append_own_at w w.heap.size 28 ty 68 iu (.agg #[.int .u32 0, .int .u32 0]) 2 8 Try.underlying28 hiu hz0 hz1 hz2 rfl (by decide) (.slice none 0 0) 0 [] (World.ownsRow_nil _ _ _ _) ⟨g, 0, none⟩ J.length cap (jcs J) (jcs_len J)
      (fun j u hj => World.ownsRow.cells h (g := g) rfl j u hj) (jcs_one J) (by unfold maxLen; omega) (by omega) (Nat.le_refl _)
    refine ⟨v', w', hr, ?_, ⟨h3.os, h3.tape, h3.output, h3.size, fun i hi => h3.block i hi (by simp [Value.ownBlock])⟩⟩
    rw [Nat.zero_add, List.nil_append] at h2
    exact h2
theorem wpList_cloneJ {w : World} {ops : Array Oper} {rest : List Oper} {o : Oper} {a : Act} {Q : Exit → Act → World → Prop} (hgd : o.guard = none) (s x : Operand)
    (ho : o.op = .call { callee := .builtin .append, args := #[s, x], argTypes := #[28, 28] }) {B : Nat} {sv : Value} {b : Jn} (h : OwnJ B w sv b) (hl : b.length ≤ 1000000)
    (hs : a.eval s = .slice none 0 0) (hx : a.eval x = sv) (hK : ∀ v' w', OwnJ w.heap.size w' v' b → Below w.heap.size w w' → wpList Try.prog ops Q rest (a.put o.dst v') w') : wpList Try.prog ops Q (o :: rest) a w := by
  refine wpList_plain hgd fun K hK' => ?_
  obtain ⟨v', w', hr, h2, h3⟩ := run_cloneJ h hl o.type
  unfold Oper.wp execOp
  simp only [ho, resolve, invoke, builtin, Sem.run_bind, Sem.run_pure, Result.andThen_ok, List.map_toArray, List.map_cons, List.map_nil, hs, hx, hr]
  exact hK' _ _ (hK v' w' h2 h3)
theorem cells_newJ (w : World) (x y : Value) (t : TypeId) : ∀ j u, [x, y][j]? = some u → (w.alloc (.cells #[x, y] t)).cell? ((⟨w.heap.size, 0, none⟩ : Addr).add j) = some u := by
  intro j u hj
  rw [add_is]
  have hh := World.alloc_heap_new w (.cells #[x, y] t)
  unfold World.cell?
  rw [hh]
  simpa using hj
section
variable {w : World}
set_option maxRecDepth 100000 in
set_option maxHeartbeats 4000000 in
theorem joinR_u {v : Value} {J : Jn} (h : OwnJ 0 w v J) (hJ : J.length ≤ 100000) (hz : ∀ p ∈ J, p.1 ≠ 0 ∧ p.2 ≠ 0) (a b : Int) :
    Calls Try.prog 26 #[v, .int .u32 a, .int .u32 b] w fun e w' => ∃ v' two J', e = .returned (.tuple #[v', .bool two]) ∧ OwnJ 0 w' v' J' ∧ Below w.heap.size w w' ∧
      ((two = false ∧ J' = J ∧ (a = 0 ∨ b = 0 ∨ Conn J a b)) ∨ (two = true ∧ J' = J ++ [(a, b)] ∧ a ≠ 0 ∧ b ≠ 0 ∧ ¬ Conn J a b)) := by
  obtain ⟨i0, hi, hz0, hz1, hz2⟩ := info_parts Try.infoJ
  have Hi := Lib.hid hi; have Hz0 := Lib.hid hz0; have Hz1 := Lib.hid hz1; have Hz2 := Lib.hid hz2
  obtain ⟨ja, jcap, rfl, hIJ⟩ := h.j
  have HIJ := Lib.hid hIJ; have Hz := Lib.hid hz
  obtain ⟨n, hn⟩ : ∃ n, J.length = n := ⟨_, rfl⟩
  have Hn := Lib.hid hn
  rw [hn] at hJ
  clear hi hz0 hz1 hz2 hIJ hz
  rw [hn] at h ⊢
  have H := Lib.hid h
  clear hn h
  by_cases ha : a = 0
  · subst ha
    have hq : ((0 : Int) == 0) = true := rfl
    go_enter Try.func26, Try.ntmps26
    go_wp2_with fail
    go_ret2
    exact ⟨_, _, J, rfl, H.out, Below.refl _ _, .inl ⟨rfl, rfl, .inl trivial⟩⟩
  · have hq : (a == 0) = false := by simp [ha]
    by_cases hb0 : b = 0
    · subst hb0
      have hq0 : ((0 : Int) == 0) = true := rfl
      go_enter Try.func26, Try.ntmps26
      go_wp2_with fail
      go_ret2
      exact ⟨_, _, J, rfl, H.out, Below.refl _ _, .inl ⟨rfl, rfl, .inr (.inl trivial)⟩⟩
    · have hq0 : (b == 0) = false := by simp [hb0]
      have hc := cliqueR_u HIJ.out jcap (by rw [Hn.out]; exact hJ) Hz.out a ha
      rw [Hn.out] at hc
      have Ha := Lib.hid ha; have Hb0 := Lib.hid hb0; have Hc := Lib.hid hc
      clear ha hb0 hc
      go_enter Try.func26, Try.ntmps26
      go_wp2_with fail
      refine Hc.out.mono ?_
      rintro e w1 ⟨v, L, rfl, hO, hI, hB⟩
      have hlen := conn_len hI.srt.nodup (fun b => (hI.mem b).1)
      rw [Hn.out] at hlen
      obtain ⟨a5, cap5, rfl, _, _, hU⟩ := hO.u
      have HU := Lib.hid hU; have HI := Lib.hid hI; have HB := Lib.hid hB
      clear hU hO hI hB
      by_cases hcb : Conn J a b
      · have hin := in_u HU.out cap5 (by omega) b
        rw [decide_eq_true ((HI.out.mem b).2 hcb)] at hin
        go_wp2_with fail
        refine hin.mono ?_
        rintro e w2 ⟨rfl, rfl⟩
        go_wp2_with fail
        go_ret2
        exact ⟨_, _, J, rfl, H.out.below rfl HB.out, HB.out, .inl ⟨rfl, rfl, .inr (.inr hcb)⟩⟩
      · have hin := in_u HU.out cap5 (by omega) b
        rw [decide_eq_false (fun h => hcb ((HI.out.mem b).1 h))] at hin
        have H1 := Lib.hid (H.out.below rfl HB.out)
        go_wp2_with fail
        refine hin.mono ?_
        rintro e w2 ⟨rfl, rfl⟩
        go_wp2_with (first | (at_builtin; refine wpList_cloneJ rfl (.const (.slice none 0 0)) (.tmp 22) rfl H1.out (by rw [Hn.out]; omega) rfl rfl ?_; intro v2 w2 hv2 hb2; have Hv2 := Lib.hid hv2; have Hb2 := Lib.hid (HB.out.trans (hb2.mono HB.out.size)); have Hs2 := Lib.hid hb2.size; clear hv2 hb2) | (at_builtin; refine wpList_append_own_at _ rfl _ _ 28 rfl w1.heap.size 68 i0 (.agg #[.int .u32 0, .int .u32 0]) 2 8 Try.underlying28 Hi.out Hz0.out Hz1.out Hz2.out rfl (by decide) _ _ _ rfl (World.ownsRow.alloc Hv2.out _) ⟨w2.heap.size, 0, none⟩ 1 1 [.int .u32 a, .int .u32 b] rfl rfl (cells_newJ _ _ _ _) (by simp [Value.oneCell']) (by rw [Hn.out]; simp only [maxLen]; omega) (by rw [Hn.out]; omega) (by have := Hs2.out; simp; omega) ?_; intro v3 w3 hown3 hgrow3 _ _; obtain ⟨g3, cap3, rfl⟩ := ownsRow_succ hown3; have HO3 := Lib.hid hown3; have HB3 := Lib.hid ((Hb2.out.alloc Hb2.out.size _).grown hgrow3 (by have := Hb2.out.size; simp; omega) (fun k e => Nat.le_trans HB.out.size ((World.ownsRow.lt Hv2.out) k e).1)); clear hown3 hgrow3; go_frame))
        go_ret2
        refine ⟨_, _, J ++ [(a, b)], rfl, ?_, HB3.out, .inr ⟨rfl, rfl, Ha.out, Hb0.out, hcb⟩⟩
        have ho : OwnJ w1.heap.size w3 (.slice (some ⟨g3, 0, none⟩) (J.length + 1) cap3) (J ++ [(a, b)]) := by
          unfold OwnJ
          rw [List.length_append, jcs_snoc]
          exact HO3.out
        exact ho.mono (Nat.zero_le _)
end
end Go.Proofs.Ytghihhjcoilmgaa
