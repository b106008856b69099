/- The runes of a text: the iterator. -/
import Derived.Test.YtmgaibeibfholaaDoorU2
import Derived.Maps.AppendAt
import Derived.RangeFuncNested
import Derived.RangeFuncBound
import Derived.RangeFuncCalls
import Derived.RangeFuncLeaves
import Derived.RangeFuncBox
import Derived.Shelf.Abstract
import Derived.Shelf.RegionOpen
import Derived.OwnWalkIn
import Derived.TacticsInMore
import Derived.LoopNIn
import Derived.LoopIn
namespace Go.Proofs.YtmgaibeibfholaaDoor
set_option maxRecDepth 100000
open Go.RowKit Plain
set_option linter.unusedVariables false
theorem getx (s : ByteArray) (p q : Nat) (h : q = s.size ∨ p + 4 ≤ q) : getL (bl (s.extract p q)) = getL ((bl s).drop p) := by
  rw [bl_extract]
  rcases h with h | h
  · rw [List.take_of_length_le]
    rw [List.length_drop, bl_length]; omega
  · rw [getL_take4 _ _ (by omega)]
theorem own_below {w w' : World} {B e size n : Nat} {v : Value} {xs : List Value} (h : w.ownsRow B e size v n xs) (hb : Below w.heap.size w w') : w'.ownsRow B e size v n xs := by
  refine ⟨h.1, ?_⟩
  rcases h.2 with h' | ⟨g, cap, cur, rfl, hb1, hg, rest⟩
  · exact .inl h'
  · exact .inr ⟨g, cap, cur, rfl, hb1, (hb.block g (Array.getElem?_eq_some_iff.1 hg).1).trans hg, rest⟩
theorem cells_new (w : World) (cs : List Value) (t : TypeId) : ∀ j u, cs[j]? = some u → (w.alloc (.cells cs.toArray t)).cell? ((⟨w.heap.size, 0, none⟩ : Addr).add j) = some u := by
  intro j u hj
  have e : (⟨w.heap.size, 0, none⟩ : Addr).add j = ⟨w.heap.size, j, none⟩ := by unfold Addr.add; split <;> simp_all
  rw [e]
  have hh := heap_alloc_new w (.cells cs.toArray t)
  unfold World.cell?
  rw [hh]
  simpa using hj
/-- behind an append to an owned row: what lay below lies as it lay -/
theorem app_below {n e size : Nat} {w w1 w2 : World} {v : Value} {k : Nat} {xs : List Value} {o : Obj} (hn : n ≤ w1.heap.size) (hb : Below n w w1) (ho : w1.ownsRow n e size v k xs) (hg : (w1.alloc o).grownBy w2 v.ownBlock) : Below n w w2 :=
  ((hb.alloc hn o)).grown hg (by simp; omega) (fun j hj => (ho.lt j hj).1)

end Go.Proofs.YtmgaibeibfholaaDoor

namespace Go.Proofs.YtmgaibeibfholaaDoor
set_option maxRecDepth 100000
open Go.RowKit Go.Shelf Plain
set_option linter.unusedVariables false
attribute [local go_sem] Oper.semAt_some

set_option maxHeartbeats 1000000 in
theorem runes_any (s : ByteArray) (w : World) :
    Calls Tryd.prog 59 #[.string s] w fun e w' => e = .returned (.func (.func 66) #[] #[.pointer (some ⟨w.heap.size, 0, none⟩)]) ∧ w' = w.alloc (.cells #[.string s] 9) := by
  go_enter Tryd.func59, Tryd.ntmps59
  go_wp2
  go_ret
  exact ⟨rfl, rfl⟩

/-- a box keeps what it holds -/
def KeepB (b : Nat) (W W' : World) : Prop := ∀ v, W.cell? ⟨b, 0, none⟩ = some v → W'.cell? ⟨b, 0, none⟩ = some v
theorem KeepB.t {b : Nat} : ∀ {A B C : World}, KeepB b A B → KeepB b B C → KeepB b A C := fun h k v hv => k v (h v hv)
theorem KeepB.refl (b : Nat) (W : World) : KeepB b W W := fun _ h => h
theorem KeepB.b {b n : Nat} (W : World) (l : Nat) (o o' : Obj) (_ : n ≤ l) (hl : W.heap[l]? = some o) (hc : o.isCells = false) (_ : o.isWalk = false) : KeepB b W (W.putObj l o') := fun v hv =>
  cell_kept hv (grownBy_putObj' W l o') (fun r e => by cases e; exact ⟨o, hl, hc⟩)
theorem KeepB.set {b : Nat} (W : World) (a : Addr) (v : Value) (h : a.block ≠ b) : KeepB b W (W.setCell a v) := fun u hu => by
  rw [World.cell?_of_block (w := W) (Below.heap_setCell W a v b (fun e => h e.symm))]; exact hu
theorem KeepB.of_below {b n : Nat} {W W' : World} (h : Below n W W') (hb : b < n) : KeepB b W W' := fun v hv => (h.cell (p := ⟨b, 0, none⟩) hb).trans hv

theorem getx_any (s : ByteArray) (hs : s.size ≤ 9223372036854775000) (p : Nat) (r n k : Int) (hg : getL ((bl s).drop p) = (r, n)) (hk : errOf n = k) (w : World) :
    Calls Tryd.prog 67 #[.string (s.extract p s.size)] w fun e w' => e = .returned (.tuple #[.int .i64 r, .int .i64 n, .int .i64 k]) ∧ w = w' := by
  have := get_any (s.extract p s.size) (by rw [ByteArray.size_extract]; omega) w
  rw [getP_eq, getx s p s.size (.inl rfl), hg] at this
  rw [← hk]
  exact this

set_option maxRecDepth 100000 in
set_option maxHeartbeats 2000000 in
theorem runes1_in (n l Bs N : Nat) (s : ByteArray) (hs : s.size ≤ 100000000) (hN : (rl (bl s) 0).length ≤ N) (J Jx : List (Nat × Int) → World → Prop)
    (hY : ∀ pre x W, J pre W → pre.length < N → YieldAt Fence.wide (n - 1) Tryd.prog l #[.int .i64 x.1, .int .i64 x.2] W fun e W' =>
      (e = .returned (.bool true) ∧ J (pre ++ [x]) W' ∧ KeepB Bs W W') ∨ (e = .returned (.bool false) ∧ Jx (pre ++ [x]) W'))
    (W : World) (hBs : W.cell? ⟨Bs, 0, none⟩ = some (.string s)) (h0 : J [] W) :
    CallsIn Fence.wide n Tryd.prog 66 #[.func (.yield l) #[] #[], .pointer (some ⟨Bs, 0, none⟩)] W fun e W' => (∃ v, e = .returned v) ∧
      ((∃ ys, ys = rl (bl s) 0 ∧ J ys W') ∨ (∃ pre, pre <+: rl (bl s) 0 ∧ Jx pre W')) := by
  have HY := Lib.hid hY; clear hY
  refine callsIn_of_wp Tryd.func66 rfl trivial ?_ rfl
  simp only [Tryd.ntmps66, List.size_toArray, List.length_cons, List.length_nil, Nat.reduceAdd, Nat.reduceSub, Array.replicate_succ, Array.replicate_zero, List.push_toArray, List.append_toArray, List.nil_append, List.cons_append]
  gi_wp2
  gi_loopw [3] (fun i wr => ∃ (p : Nat) (pre : List (Nat × Int)), p ≤ s.size ∧ i = .int .i64 p ∧ J pre wr ∧ pre ++ rl (bl s) p = rl (bl s) 0 ∧ KeepB Bs W wr) (fun i _ => s.size - (intOf i).toNat)
  case atStart => exact ⟨0, [], by omega, rfl, h0, rfl, KeepB.refl _ _⟩
  case round =>
    obtain ⟨p, pre, hp, rfl, hJ, he, hb⟩ := hrel
    have HJ := Lib.hid hJ; have He := Lib.hid he; have Hb := Lib.hid hb
    clear hJ he hb
    have hcx : wr.cell? ⟨Bs, 0, none⟩ = some (.string s) := Hb.out _ hBs
    by_cases hlt : p < s.size
    · obtain ⟨r, n, hg⟩ : ∃ r n, getL ((bl s).drop p) = (r, n) := ⟨_, _, rfl⟩
      have hbd := getL_bd (drop_isB (bl_isB s) p)
      rw [hg] at hbd
      obtain ⟨hn0, hn1, hn2⟩ := hbd
      rw [List.length_drop, bl_length] at hn1
      simp only at hn0 hn1 hn2
      have Hg := Lib.hid hg; clear hg
      by_cases hz : n = 0
      · have hstop := rl_stop (l := bl s) (p := p) (by rw [Hg.out]; simp; omega)
        have He' := He.out
        rw [hstop.1, List.append_nil] at He'
        have He2 := Lib.hid He'; clear He' hstop
        have HE := Lib.hid (show errOf n = 4 by unfold errOf; rw [if_pos hz])
        clear hz
        gi_wp2_with (refine ⟨trivial, fun hh => absurd hh (by decide), ?_⟩; gi_at_call 67; refine (callsIn_wide.2 (getx_any s (by omega) p r n 4 Hg.out HE.out _)).mono ?_; rintro e w' ⟨rfl, rfl⟩)
        all_goals (refine ⟨fun _ h => (by cases h), ?_⟩; gi_wp2)
        all_goals (refine bodyPost_ret (results_none rfl _ _ _) rfl ?_; exact ⟨⟨_, rfl⟩, .inl ⟨_, He2.out, HJ.out⟩⟩)
      · have hgo := rl_go (l := bl s) (p := p) (by rw [bl_length]; exact hlt) (by rw [Hg.out]; simp; omega)
        rw [Hg.out] at hgo
        simp only at hgo
        have HE := Lib.hid (show errOf n = 0 by unfold errOf; rw [if_neg hz])
        have He' : pre ++ [(p, r)] ++ rl (bl s) (p + n.toNat) = rl (bl s) 0 := by rw [← He.out, hgo.1, List.append_assoc]; rfl
        have He2 := Lib.hid He'; clear He' hgo
        have hn0' : 0 < n := by omega
        clear hz hn0
        have hlen : pre.length < N := by
          have := congrArg List.length He2.out
          simp at this; omega
        obtain ⟨fn, tmps, assign, body, hy, hR⟩ := HY.out pre (p, r) wr HJ.out hlen
        dsimp only at hy
        have HR := Lib.hid hR; clear hR
        gi_wp2_with (refine ⟨trivial, fun hh => absurd hh (by decide), ?_⟩; gi_at_call 67; refine (callsIn_wide.2 (getx_any s (by omega) p r n 0 Hg.out HE.out _)).mono ?_; rintro e w' ⟨rfl, rfl⟩)
        refine ⟨fun hh => absurd hh (by decide), ?_⟩
        refine HR.out.mono ?_
        rintro e W3 (⟨rfl, hJ3, hk3⟩ | ⟨rfl, hJx3⟩)
        · have HJ3 := Lib.hid hJ3; have Hk3 := Lib.hid hk3; clear hJ3 hk3
          gi_wp2
          go_roundw
          case rel => exact ⟨p + n.toNat, pre ++ [(p, r)], by omega, congrArg (Value.int .i64) (by omega), HJ3.out, He2.out, Hb.out.t Hk3.out⟩
          case measure => simp [intOf]; omega
        · have HJx3 := Lib.hid hJx3; clear hJx3
          gi_wp2
          refine bodyPost_ret (results_none rfl _ _ _) rfl ?_
          exact ⟨⟨_, rfl⟩, .inr ⟨pre ++ [(p, r)], ⟨rl (bl s) (p + n.toNat), He2.out⟩, HJx3.out⟩⟩
    · gi_wp2
      go_end0
      have hstop := rl_stop (l := bl s) (p := p) (by rw [bl_length]; omega)
      have He' := He.out
      rw [hstop.1, List.append_nil] at He'
      exact ⟨⟨_, rfl⟩, .inl ⟨_, He', HJ.out⟩⟩

theorem runes_stops (n Bs N : Nat) (s : ByteArray) (hs : s.size ≤ 100000000) (hN : (rl (bl s) 0).length ≤ N) (w : World) (hlt : Bs < w.heap.size) (hBs : w.cell? ⟨Bs, 0, none⟩ = some (.string s)) :
    SeqStopsK Fence.wide n Tryd.prog 66 #[.pointer (some ⟨Bs, 0, none⟩)] (fun x : Nat × Int => #[Value.int .i64 x.1, Value.int .i64 x.2]) (KeepB Bs) (fun ys => ys = rl (bl s) 0) (fun pre => pre <+: rl (bl s) 0) N w := fun l J Jx W hW _ _ hY h0 => by
  exact runes1_in n l Bs N s hs hN J Jx hY W ((hW.cell (p := ⟨Bs, 0, none⟩) hlt).trans hBs) h0
end Go.Proofs.YtmgaibeibfholaaDoor

