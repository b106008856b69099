/- The reference Runes returns the runes with their places, for every text of at most 100000000 bytes. -/
import Derived.Test.YthgocbehdomekaaA6
import Derived.Maps.AppendAt
namespace Go.Proofs.Ythgocbehdomekaa
open Go.RowKit Plain
set_option linter.unusedVariables false

theorem Try.info43 : (Try.prog.info? 43).map (fun i => (i.zero, i.size, i.bytes)) = some (some (.agg #[.int .i64 0, .int .i64 0]), 2, 16) := by kernel_rfl

/-- the cells of runes with their places -/
def rcells (l : List (Nat × Int)) : List Value := l.flatMap fun x => [.int .i64 x.1, .int .i64 x.2]
theorem rcells_length (l : List (Nat × Int)) : (rcells l).length = l.length * 2 := by
  induction l with
  | nil => rfl
  | cons a l ih => simp [rcells] at ih ⊢; omega
def OwnR (base : Nat) (w : World) (v : Value) (l : List (Nat × Int)) : Prop := w.ownsRow base 43 2 v l.length (rcells l)

theorem getx (s : ByteArray) (p q : Nat) (h : q = s.size ∨ p + 4 ≤ q) : getL (bl (s.extract p q)) = getL ((bl s).drop p) := by
  rw [bl_extract]
  rcases h with h | h
  · rw [List.take_of_length_le]
    rw [List.length_drop, bl_length]; omega
  · rw [getL_take4 _ _ (by omega)]
theorem rgetx (s : ByteArray) (hs : s.size ≤ 9223372036854775000) (p q : Nat) (h : q = s.size ∨ p + 4 ≤ q) (r n : Int) (hg : getL ((bl s).drop p) = (r, n)) (w : World) :
    Calls Try.prog 11 #[.string (s.extract p q)] w fun e w' => e = .returned (.tuple #[.int .i64 r, .int .i64 n]) ∧ Below w.heap.size w w' := by
  have := rget_is (s.extract p q) (by rw [ByteArray.size_extract]; omega) w
  rw [getx s p q h, hg] at this
  exact this

theorem own_below {w w' : World} {B e size n : Nat} {v : Value} {xs : List Value} (h : w.ownsRow B e size v n xs) (hb : Below w.heap.size w w') : w'.ownsRow B e size v n xs := by
  refine ⟨h.1, ?_⟩
  rcases h.2 with h' | ⟨g, cap, cur, rfl, hb1, hg, rest⟩
  · exact .inl h'
  · exact .inr ⟨g, cap, cur, rfl, hb1, (hb.block g (Array.getElem?_eq_some_iff.1 hg).1).trans hg, rest⟩
theorem cells_new (w : World) (cs : List Value) (t : TypeId) : ∀ j u, cs[j]? = some u → (w.alloc (.cells cs.toArray t)).cell? ((⟨w.heap.size, 0, none⟩ : Addr).add j) = some u := by
  intro j u hj
  have e : (⟨w.heap.size, 0, none⟩ : Addr).add j = ⟨w.heap.size, j, none⟩ := by unfold Addr.add; split <;> simp_all
  rw [e]
  have hh := heap_alloc_new w (.cells cs.toArray t)
  unfold World.cell?
  rw [hh]
  simpa using hj
/-- behind an append to an owned row: what lay below lies as it lay -/
theorem app_below {n e size : Nat} {w w1 w2 : World} {v : Value} {k : Nat} {xs : List Value} {o : Obj} (hn : n ≤ w1.heap.size) (hb : Below n w w1) (ho : w1.ownsRow n e size v k xs) (hg : (w1.alloc o).grownBy w2 v.ownBlock) : Below n w w2 :=
  ((hb.alloc hn o)).grown hg (by simp; omega) (fun j hj => (ho.lt j hj).1)

def RunesPost (w : World) (l : List (Nat × Int)) (p : Nat) (e : Ending) (w' : World) : Prop :=
  ∃ v, e = .returned (.tuple #[v, .int .i64 p]) ∧ OwnR w.heap.size w' v l ∧ Below w.heap.size w w'

set_option maxRecDepth 100000 in
set_option maxHeartbeats 2000000 in
theorem rrunes_any (s : ByteArray) (hs : s.size ≤ 100000000) (w : World) :
    Calls Try.prog 15 #[.string s] w (RunesPost w (rl (bl s) 0) (endP (bl s) 0)) := by
  obtain ⟨i0, hi, hz0, hz1, hz2⟩ := info_parts Try.info43
  have Hi := Lib.hid hi; have Hz0 := Lib.hid hz0; have Hz1 := Lib.hid hz1; have Hz2 := Lib.hid hz2
  clear hi hz0 hz1 hz2
  go_enter Try.func15, Try.ntmps15
  go_wp2
  go_loopw [4, 5] (fun v n wr => ∃ (p : Nat) (pre : List (Nat × Int)), p ≤ s.size ∧ pre.length ≤ p ∧ n = .int .i64 p ∧ OwnR w.heap.size wr v pre ∧ pre ++ rl (bl s) p = rl (bl s) 0 ∧ endP (bl s) p = endP (bl s) 0 ∧ Below w.heap.size w wr) (fun _ n _ => s.size - (intOf n).toNat)
  case atStart => exact ⟨0, [], by omega, by simp, rfl, World.ownsRow_nil _ _ _ _, rfl, rfl, Below.refl _ _⟩
  case round =>
    obtain ⟨p, pre, hp, hpl, rfl, ho, he1, he2, hb⟩ := hrel
    have Ho := Lib.hid ho; have He1 := Lib.hid he1; have He2 := Lib.hid he2; have Hb := Lib.hid hb
    clear ho he1 he2 hb
    by_cases hlt : p < s.size
    · obtain ⟨r, n, hg⟩ : ∃ r n, getL ((bl s).drop p) = (r, n) := ⟨_, _, rfl⟩
      have hbd := getL_bd (drop_isB (bl_isB s) p)
      rw [hg] at hbd
      obtain ⟨hn0, hn1, hn2⟩ := hbd
      rw [List.length_drop, bl_length] at hn1
      simp only at hn0 hn1 hn2
      have Hg := Lib.hid hg; clear hg
      by_cases hz : n = 0
      · have hstop := rl_stop (l := bl s) (p := p) (by rw [Hg.out]; simp; omega)
        rw [hstop.1] at He1; rw [hstop.2] at He2
        have He1' := He1.out; have He2' := He2.out
        rw [List.append_nil] at He1'
        clear hstop
        have hz' : (n == 0) = true := by simpa using hz
        have HZ := Lib.hid hz; clear hz He1' He2'
        go_wp2_with fail
        all_goals
          refine (rgetx s (by omega) p _ (by omega) r n Hg.out _).mono ?_
          rintro e w1 ⟨rfl, hb1⟩
          have HB := Lib.hid (Below.trans Hb.out (hb1.mono Hb.out.size))
          have Ho1 := Lib.hid (own_below Ho.out hb1)
          clear hb1
          go_wp2
          go_ret2
          exact ⟨_, by rw [← He2.out]; exact rfl, by have := He1.out; rw [List.append_nil] at this; rw [← this]; exact Ho1.out, HB.out⟩
      · have hgo := rl_go (l := bl s) (p := p) (by rw [bl_length]; exact hlt) (by rw [Hg.out]; simp; omega)
        rw [Hg.out] at hgo
        simp only at hgo
        have Hgo := Lib.hid hgo; clear hgo
        have hz' : (n == 0) = false := by simpa using hz
        have hn0' : 0 < n := by omega
        clear hz hn0
        go_wp2_with fail
        all_goals
          refine (rgetx s (by omega) p _ (by omega) r n Hg.out _).mono ?_
          rintro e w1 ⟨rfl, hb1⟩
          have HB := Lib.hid (Below.trans Hb.out (hb1.mono Hb.out.size))
          have Ho1 := Lib.hid (own_below Ho.out hb1)
          clear hb1
          go_wp2_with (at_builtin; refine wpList_append_own _ rfl _ _ 35 rfl w.heap.size 43 i0 (.agg #[.int .i64 0, .int .i64 0]) 2 16 Try.underlying35 Hi.out Hz0.out Hz1.out Hz2.out rfl (by decide) _ _ _ rfl (Ho1.out.alloc _) ⟨_, 0, none⟩ 1 1 [.int .i64 p, .int .i64 r] rfl rfl (cells_new _ _ _) (by simp [Value.oneCell']) (by unfold maxLen; omega) (by omega) (by have := HB.out.size; simp; omega) ?_; intro v' w2 hown' hgrow _; have HB2 := Lib.hid (app_below HB.out.size HB.out Ho1.out hgrow); have Ho2 := Lib.hid hown'; clear hown' hgrow)
          go_roundw
          case rel =>
            refine ⟨p + n.toNat, pre ++ [(p, r)], by omega, by simp; omega, congrArg (Value.int .i64) (by omega), ?_, ?_, ?_, HB2.out⟩
            · have := Ho2.out
              unfold OwnR rcells
              rw [List.length_append, List.flatMap_append]
              exact this
            · rw [List.append_assoc, ← He1.out, Hgo.out.1]; rfl
            · rw [← He2.out, Hgo.out.2]
          case measure => simp [intOf]; omega
    · go_wp2
      go_ret2
      have hstop := rl_stop (l := bl s) (p := p) (by rw [bl_length]; omega)
      have He1' := He1.out; have He2' := He2.out
      rw [hstop.1, List.append_nil] at He1'
      rw [hstop.2] at He2'
      exact ⟨_, by rw [← He2']; exact rfl, by rw [← He1']; exact Ho.out, Hb.out⟩
end Go.Proofs.Ythgocbehdomekaa
