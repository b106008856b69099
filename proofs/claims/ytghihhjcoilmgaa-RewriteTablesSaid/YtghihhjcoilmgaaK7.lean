/- looks: the six looks with one or two numbers that fit a row. -/
import Derived.Test.YtghihhjcoilmgaaK6
import Derived.RangeFuncNested
import Derived.RangeFuncBound
import Derived.RangeFuncCalls
import Derived.RangeFuncLeaves
import Derived.RangeFuncBox
import Derived.RangeFuncFrom
import Derived.Shelf.Abstract
import Derived.Shelf.RegionOpen
import Derived.OwnWalkIn
import Derived.TacticsInMore
import Derived.LoopNIn
import Derived.LoopIn
namespace Go.Proofs.Ytghihhjcoilmgaa.T
set_option maxRecDepth 100000
open Go.RowKit Go.Shelf
set_option linter.unusedVariables false
attribute [local go_sem] Oper.semAt_some

/-- a row's look by a mask of places -/
def msk (r : R3) (m : Nat) : R3 := (if m % 2 = 0 then 0 else r.1, if m / 2 % 2 = 0 then 0 else r.2.1, if m / 4 % 2 = 0 then 0 else r.2.2)
def part (r : R3) (m k : Nat) : Array Value :=
  #[.int .u32 (if 0 < k ∧ m % 2 = 0 then 0 else r.1), .int .u32 (if 1 < k ∧ m / 2 % 2 = 0 then 0 else r.2.1), .int .u32 (if 2 < k ∧ m / 4 % 2 = 0 then 0 else r.2.2)]
def six : List (Fin 6) := [0, 1, 2, 3, 4, 5]

set_option maxHeartbeats 1000000 in
theorem looks_any (a b c : Int) (w : World) :
    Calls Try.prog 36 #[.agg #[.int .u32 a, .int .u32 b, .int .u32 c]] w fun e w' => e = .returned (.func (.func 46) #[] #[.pointer (some ⟨w.heap.size, 0, none⟩)]) ∧ w' = w.alloc (.cells #[.int .u32 a, .int .u32 b, .int .u32 c] 37) := by
  go_enter Try.func36, Try.ntmps36
  go_wp2
  go_ret
  exact ⟨rfl, rfl⟩

/-- a box of a row keeps what it holds -/
def KeepR (b : Nat) (W W' : World) : Prop := ∀ j v, W.cell? ⟨b, j, none⟩ = some v → W'.cell? ⟨b, j, none⟩ = some v
theorem KeepR.t {b : Nat} : ∀ {A B C : World}, KeepR b A B → KeepR b B C → KeepR b A C := fun h k j v hv => k j v (h j v hv)
theorem KeepR.refl (b : Nat) (W : World) : KeepR b W W := fun _ _ h => h
theorem KeepR.b {b n : Nat} (W : World) (l : Nat) (o o' : Obj) (_ : n ≤ l) (hl : W.heap[l]? = some o) (hc : o.isCells = false) (_ : o.isWalk = false) : KeepR b W (W.putObj l o') := fun j v hv =>
  cell_kept hv (grownBy_putObj' W l o') (fun r e => by cases e; exact ⟨o, hl, hc⟩)
theorem KeepR.of_block {b : Nat} {W W' : World} (h : W'.heap[b]? = W.heap[b]?) : KeepR b W W' := fun j v hv => (World.cell?_of_block (w := W) (a := ⟨b, j, none⟩) h).trans hv

theorem KeepR.of_alloc {b : Nat} {u : Value} (W : World) (o : Obj) (h : W.cell? ⟨b, 0, none⟩ = some u) : KeepR b W (W.alloc o) :=
  KeepR.of_block (Below.heap_alloc W o b (World.block_lt_of_cell? W ⟨b, 0, none⟩ h))

set_option maxRecDepth 100000 in
set_option maxHeartbeats 4000000 in
theorem looks1_in (n l Bs : Nat) (a b c : Int) (J Jx : List (Fin 6) → World → Prop) (hJ : ∀ pre W o, J pre W → J pre (W.alloc o))
    (hY : ∀ (pre : List (Fin 6)) (x : Fin 6) W, J pre W → pre.length < 6 → YieldAt Fence.wide (n - 1) Try.prog l #[rv (msk (a, b, c) (x.val + 1))] W fun e W' =>
      (e = .returned (.bool true) ∧ J (pre ++ [x]) W' ∧ KeepR Bs W W') ∨ (e = .returned (.bool false) ∧ Jx (pre ++ [x]) W'))
    (W : World) (h0 : W.cell? ⟨Bs, 0, none⟩ = some (.int .u32 a)) (h1 : W.cell? ⟨Bs, 1, none⟩ = some (.int .u32 b)) (h2 : W.cell? ⟨Bs, 2, none⟩ = some (.int .u32 c)) (hI : J [] W) :
    CallsIn Fence.wide n Try.prog 46 #[.func (.yield l) #[] #[], .pointer (some ⟨Bs, 0, none⟩)] W fun e W' => (∃ v, e = .returned v) ∧
      ((∃ ys, ys = six ∧ J ys W') ∨ (∃ pre, pre <+: six ∧ Jx pre W')) := by
  have HY := Lib.hid hY; have HJ := Lib.hid hJ; clear hY hJ
  refine callsIn_of_wp Try.func46 rfl trivial ?_ rfl
  simp only [Try.ntmps46, List.size_toArray, List.length_cons, List.length_nil, Nat.reduceAdd, Nat.reduceSub, Array.replicate_succ, Array.replicate_zero, List.push_toArray, List.append_toArray, List.nil_append, List.cons_append]
  gi_wp2
  gi_loopw [3] (fun m wr => ∃ k : Nat, k ≤ 6 ∧ m = .int .i64 (k + 1 : Nat) ∧ J (six.take k) wr ∧ KeepR Bs W wr) (fun m _ => 7 - (intOf m).toNat)
  case atStart => exact ⟨0, by omega, rfl, hI, KeepR.refl _ _⟩
  case round =>
    obtain ⟨k, hk, rfl, hJ, hb⟩ := hrel
    have b0 := hb 0 _ h0
    have b1 := hb 1 _ h1
    have b2 := hb 2 _ h2
    have HI := Lib.hid hJ; have Hb := Lib.hid hb
    clear hJ hb
    have hk' : k = 0 ∨ k = 1 ∨ k = 2 ∨ k = 3 ∨ k = 4 ∨ k = 5 ∨ k = 6 := by omega
    have q0 : bits .and .i64 0 1 = 0 := by decide
    have q1 : bits .and .i64 1 1 = 1 := by decide
    have q2 : bits .and .i64 2 1 = 0 := by decide
    have q3 : bits .and .i64 3 1 = 1 := by decide
    have q4 : bits .and .i64 4 1 = 0 := by decide
    have q5 : bits .and .i64 5 1 = 1 := by decide
    have q6 : bits .and .i64 6 1 = 0 := by decide
    rcases hk' with rfl | rfl | rfl | rfl | rfl | rfl | rfl
    · gi_wp2
      gi_loopw [11] (fun i w2 => ∃ j : Nat, j ≤ 3 ∧ i = .int .i64 j ∧ w2 = wr.alloc (.cells (part (a, b, c) 1 j) 37)) (fun i _ => 3 - (intOf i).toNat)
      case atStart => exact ⟨0, by omega, rfl, rfl⟩
      case round =>
        obtain ⟨j, hj, rfl, rfl⟩ := hrel
        have hj' : j = 0 ∨ j = 1 ∨ j = 2 ∨ j = 3 := by omega
        rcases hj' with rfl | rfl | rfl | rfl
        · rw [show part (a, b, c) 1 0 = #[.int .u32 a, .int .u32 b, .int .u32 c] from rfl]
          gi_wp2
          go_roundw
          case rel => exact ⟨1, by omega, rfl, rfl⟩
          case measure => simp [intOf]
        · rw [show part (a, b, c) 1 1 = #[.int .u32 a, .int .u32 b, .int .u32 c] from rfl]
          gi_wp2
          go_roundw
          case rel => exact ⟨2, by omega, rfl, rfl⟩
          case measure => simp [intOf]
        · rw [show part (a, b, c) 1 2 = #[.int .u32 a, .int .u32 0, .int .u32 c] from rfl]
          gi_wp2
          go_roundw
          case rel => exact ⟨3, by omega, rfl, rfl⟩
          case measure => simp [intOf]
        · rw [show part (a, b, c) 1 3 = #[.int .u32 a, .int .u32 0, .int .u32 0] from rfl]
          have hJ2 := HJ.out _ _ (.cells #[.int .u32 a, .int .u32 0, .int .u32 0] 37) HI.out
          have hYY : YieldAt Fence.wide (n - 1) Try.prog l #[.agg #[.int .u32 a, .int .u32 0, .int .u32 0]] _ _ := HY.out _ 0 _ hJ2 (by decide)
          obtain ⟨fn, tmps, assign, body, hy, hR⟩ := hYY
          have HR := Lib.hid hR; clear hR hJ2
          gi_wp2
          refine ⟨fun hh => absurd hh (by decide), ?_⟩
          refine HR.out.mono ?_
          rintro e W3 (⟨rfl, hJ3, hk3⟩ | ⟨rfl, hJx3⟩)
          · have HJ3 := Lib.hid hJ3; have Hk3 := Lib.hid hk3; clear hJ3 hk3
            gi_wp2
            go_roundw
            case rel => exact ⟨1, by omega, rfl, HJ3.out, Hb.out.t ((KeepR.of_alloc _ _ b0).t Hk3.out)⟩
            case measure => simp [intOf]
          · have HJx3 := Lib.hid hJx3; clear hJx3
            gi_wp2
            refine bodyPost_ret (results_none rfl _ _ _) rfl ?_
            exact ⟨⟨_, rfl⟩, .inr ⟨_, ⟨six.drop 1, rfl⟩, HJx3.out⟩⟩
    · gi_wp2
      gi_loopw [11] (fun i w2 => ∃ j : Nat, j ≤ 3 ∧ i = .int .i64 j ∧ w2 = wr.alloc (.cells (part (a, b, c) 2 j) 37)) (fun i _ => 3 - (intOf i).toNat)
      case atStart => exact ⟨0, by omega, rfl, rfl⟩
      case round =>
        obtain ⟨j, hj, rfl, rfl⟩ := hrel
        have hj' : j = 0 ∨ j = 1 ∨ j = 2 ∨ j = 3 := by omega
        rcases hj' with rfl | rfl | rfl | rfl
        · rw [show part (a, b, c) 2 0 = #[.int .u32 a, .int .u32 b, .int .u32 c] from rfl]
          gi_wp2
          go_roundw
          case rel => exact ⟨1, by omega, rfl, rfl⟩
          case measure => simp [intOf]
        · rw [show part (a, b, c) 2 1 = #[.int .u32 0, .int .u32 b, .int .u32 c] from rfl]
          gi_wp2
          go_roundw
          case rel => exact ⟨2, by omega, rfl, rfl⟩
          case measure => simp [intOf]
        · rw [show part (a, b, c) 2 2 = #[.int .u32 0, .int .u32 b, .int .u32 c] from rfl]
          gi_wp2
          go_roundw
          case rel => exact ⟨3, by omega, rfl, rfl⟩
          case measure => simp [intOf]
        · rw [show part (a, b, c) 2 3 = #[.int .u32 0, .int .u32 b, .int .u32 0] from rfl]
          have hJ2 := HJ.out _ _ (.cells #[.int .u32 0, .int .u32 b, .int .u32 0] 37) HI.out
          have hYY : YieldAt Fence.wide (n - 1) Try.prog l #[.agg #[.int .u32 0, .int .u32 b, .int .u32 0]] _ _ := HY.out _ 1 _ hJ2 (by decide)
          obtain ⟨fn, tmps, assign, body, hy, hR⟩ := hYY
          have HR := Lib.hid hR; clear hR hJ2
          gi_wp2
          refine ⟨fun hh => absurd hh (by decide), ?_⟩
          refine HR.out.mono ?_
          rintro e W3 (⟨rfl, hJ3, hk3⟩ | ⟨rfl, hJx3⟩)
          · have HJ3 := Lib.hid hJ3; have Hk3 := Lib.hid hk3; clear hJ3 hk3
            gi_wp2
            go_roundw
            case rel => exact ⟨2, by omega, rfl, HJ3.out, Hb.out.t ((KeepR.of_alloc _ _ b0).t Hk3.out)⟩
            case measure => simp [intOf]
          · have HJx3 := Lib.hid hJx3; clear hJx3
            gi_wp2
            refine bodyPost_ret (results_none rfl _ _ _) rfl ?_
            exact ⟨⟨_, rfl⟩, .inr ⟨_, ⟨six.drop 2, rfl⟩, HJx3.out⟩⟩
    · gi_wp2
      gi_loopw [11] (fun i w2 => ∃ j : Nat, j ≤ 3 ∧ i = .int .i64 j ∧ w2 = wr.alloc (.cells (part (a, b, c) 3 j) 37)) (fun i _ => 3 - (intOf i).toNat)
      case atStart => exact ⟨0, by omega, rfl, rfl⟩
      case round =>
        obtain ⟨j, hj, rfl, rfl⟩ := hrel
        have hj' : j = 0 ∨ j = 1 ∨ j = 2 ∨ j = 3 := by omega
        rcases hj' with rfl | rfl | rfl | rfl
        · rw [show part (a, b, c) 3 0 = #[.int .u32 a, .int .u32 b, .int .u32 c] from rfl]
          gi_wp2
          go_roundw
          case rel => exact ⟨1, by omega, rfl, rfl⟩
          case measure => simp [intOf]
        · rw [show part (a, b, c) 3 1 = #[.int .u32 a, .int .u32 b, .int .u32 c] from rfl]
          gi_wp2
          go_roundw
          case rel => exact ⟨2, by omega, rfl, rfl⟩
          case measure => simp [intOf]
        · rw [show part (a, b, c) 3 2 = #[.int .u32 a, .int .u32 b, .int .u32 c] from rfl]
          gi_wp2
          go_roundw
          case rel => exact ⟨3, by omega, rfl, rfl⟩
          case measure => simp [intOf]
        · rw [show part (a, b, c) 3 3 = #[.int .u32 a, .int .u32 b, .int .u32 0] from rfl]
          have hJ2 := HJ.out _ _ (.cells #[.int .u32 a, .int .u32 b, .int .u32 0] 37) HI.out
          have hYY : YieldAt Fence.wide (n - 1) Try.prog l #[.agg #[.int .u32 a, .int .u32 b, .int .u32 0]] _ _ := HY.out _ 2 _ hJ2 (by decide)
          obtain ⟨fn, tmps, assign, body, hy, hR⟩ := hYY
          have HR := Lib.hid hR; clear hR hJ2
          gi_wp2
          refine ⟨fun hh => absurd hh (by decide), ?_⟩
          refine HR.out.mono ?_
          rintro e W3 (⟨rfl, hJ3, hk3⟩ | ⟨rfl, hJx3⟩)
          · have HJ3 := Lib.hid hJ3; have Hk3 := Lib.hid hk3; clear hJ3 hk3
            gi_wp2
            go_roundw
            case rel => exact ⟨3, by omega, rfl, HJ3.out, Hb.out.t ((KeepR.of_alloc _ _ b0).t Hk3.out)⟩
            case measure => simp [intOf]
          · have HJx3 := Lib.hid hJx3; clear hJx3
            gi_wp2
            refine bodyPost_ret (results_none rfl _ _ _) rfl ?_
            exact ⟨⟨_, rfl⟩, .inr ⟨_, ⟨six.drop 3, rfl⟩, HJx3.out⟩⟩
    · gi_wp2
      gi_loopw [11] (fun i w2 => ∃ j : Nat, j ≤ 3 ∧ i = .int .i64 j ∧ w2 = wr.alloc (.cells (part (a, b, c) 4 j) 37)) (fun i _ => 3 - (intOf i).toNat)
      case atStart => exact ⟨0, by omega, rfl, rfl⟩
      case round =>
        obtain ⟨j, hj, rfl, rfl⟩ := hrel
        have hj' : j = 0 ∨ j = 1 ∨ j = 2 ∨ j = 3 := by omega
        rcases hj' with rfl | rfl | rfl | rfl
        · rw [show part (a, b, c) 4 0 = #[.int .u32 a, .int .u32 b, .int .u32 c] from rfl]
          gi_wp2
          go_roundw
          case rel => exact ⟨1, by omega, rfl, rfl⟩
          case measure => simp [intOf]
        · rw [show part (a, b, c) 4 1 = #[.int .u32 0, .int .u32 b, .int .u32 c] from rfl]
          gi_wp2
          go_roundw
          case rel => exact ⟨2, by omega, rfl, rfl⟩
          case measure => simp [intOf]
        · rw [show part (a, b, c) 4 2 = #[.int .u32 0, .int .u32 0, .int .u32 c] from rfl]
          gi_wp2
          go_roundw
          case rel => exact ⟨3, by omega, rfl, rfl⟩
          case measure => simp [intOf]
        · rw [show part (a, b, c) 4 3 = #[.int .u32 0, .int .u32 0, .int .u32 c] from rfl]
          have hJ2 := HJ.out _ _ (.cells #[.int .u32 0, .int .u32 0, .int .u32 c] 37) HI.out
          have hYY : YieldAt Fence.wide (n - 1) Try.prog l #[.agg #[.int .u32 0, .int .u32 0, .int .u32 c]] _ _ := HY.out _ 3 _ hJ2 (by decide)
          obtain ⟨fn, tmps, assign, body, hy, hR⟩ := hYY
          have HR := Lib.hid hR; clear hR hJ2
          gi_wp2
          refine ⟨fun hh => absurd hh (by decide), ?_⟩
          refine HR.out.mono ?_
          rintro e W3 (⟨rfl, hJ3, hk3⟩ | ⟨rfl, hJx3⟩)
          · have HJ3 := Lib.hid hJ3; have Hk3 := Lib.hid hk3; clear hJ3 hk3
            gi_wp2
            go_roundw
            case rel => exact ⟨4, by omega, rfl, HJ3.out, Hb.out.t ((KeepR.of_alloc _ _ b0).t Hk3.out)⟩
            case measure => simp [intOf]
          · have HJx3 := Lib.hid hJx3; clear hJx3
            gi_wp2
            refine bodyPost_ret (results_none rfl _ _ _) rfl ?_
            exact ⟨⟨_, rfl⟩, .inr ⟨_, ⟨six.drop 4, rfl⟩, HJx3.out⟩⟩
    · gi_wp2
      gi_loopw [11] (fun i w2 => ∃ j : Nat, j ≤ 3 ∧ i = .int .i64 j ∧ w2 = wr.alloc (.cells (part (a, b, c) 5 j) 37)) (fun i _ => 3 - (intOf i).toNat)
      case atStart => exact ⟨0, by omega, rfl, rfl⟩
      case round =>
        obtain ⟨j, hj, rfl, rfl⟩ := hrel
        have hj' : j = 0 ∨ j = 1 ∨ j = 2 ∨ j = 3 := by omega
        rcases hj' with rfl | rfl | rfl | rfl
        · rw [show part (a, b, c) 5 0 = #[.int .u32 a, .int .u32 b, .int .u32 c] from rfl]
          gi_wp2
          go_roundw
          case rel => exact ⟨1, by omega, rfl, rfl⟩
          case measure => simp [intOf]
        · rw [show part (a, b, c) 5 1 = #[.int .u32 a, .int .u32 b, .int .u32 c] from rfl]
          gi_wp2
          go_roundw
          case rel => exact ⟨2, by omega, rfl, rfl⟩
          case measure => simp [intOf]
        · rw [show part (a, b, c) 5 2 = #[.int .u32 a, .int .u32 0, .int .u32 c] from rfl]
          gi_wp2
          go_roundw
          case rel => exact ⟨3, by omega, rfl, rfl⟩
          case measure => simp [intOf]
        · rw [show part (a, b, c) 5 3 = #[.int .u32 a, .int .u32 0, .int .u32 c] from rfl]
          have hJ2 := HJ.out _ _ (.cells #[.int .u32 a, .int .u32 0, .int .u32 c] 37) HI.out
          have hYY : YieldAt Fence.wide (n - 1) Try.prog l #[.agg #[.int .u32 a, .int .u32 0, .int .u32 c]] _ _ := HY.out _ 4 _ hJ2 (by decide)
          obtain ⟨fn, tmps, assign, body, hy, hR⟩ := hYY
          have HR := Lib.hid hR; clear hR hJ2
          gi_wp2
          refine ⟨fun hh => absurd hh (by decide), ?_⟩
          refine HR.out.mono ?_
          rintro e W3 (⟨rfl, hJ3, hk3⟩ | ⟨rfl, hJx3⟩)
          · have HJ3 := Lib.hid hJ3; have Hk3 := Lib.hid hk3; clear hJ3 hk3
            gi_wp2
            go_roundw
            case rel => exact ⟨5, by omega, rfl, HJ3.out, Hb.out.t ((KeepR.of_alloc _ _ b0).t Hk3.out)⟩
            case measure => simp [intOf]
          · have HJx3 := Lib.hid hJx3; clear hJx3
            gi_wp2
            refine bodyPost_ret (results_none rfl _ _ _) rfl ?_
            exact ⟨⟨_, rfl⟩, .inr ⟨_, ⟨six.drop 5, rfl⟩, HJx3.out⟩⟩
    · gi_wp2
      gi_loopw [11] (fun i w2 => ∃ j : Nat, j ≤ 3 ∧ i = .int .i64 j ∧ w2 = wr.alloc (.cells (part (a, b, c) 6 j) 37)) (fun i _ => 3 - (intOf i).toNat)
      case atStart => exact ⟨0, by omega, rfl, rfl⟩
      case round =>
        obtain ⟨j, hj, rfl, rfl⟩ := hrel
        have hj' : j = 0 ∨ j = 1 ∨ j = 2 ∨ j = 3 := by omega
        rcases hj' with rfl | rfl | rfl | rfl
        · rw [show part (a, b, c) 6 0 = #[.int .u32 a, .int .u32 b, .int .u32 c] from rfl]
          gi_wp2
          go_roundw
          case rel => exact ⟨1, by omega, rfl, rfl⟩
          case measure => simp [intOf]
        · rw [show part (a, b, c) 6 1 = #[.int .u32 0, .int .u32 b, .int .u32 c] from rfl]
          gi_wp2
          go_roundw
          case rel => exact ⟨2, by omega, rfl, rfl⟩
          case measure => simp [intOf]
        · rw [show part (a, b, c) 6 2 = #[.int .u32 0, .int .u32 b, .int .u32 c] from rfl]
          gi_wp2
          go_roundw
          case rel => exact ⟨3, by omega, rfl, rfl⟩
          case measure => simp [intOf]
        · rw [show part (a, b, c) 6 3 = #[.int .u32 0, .int .u32 b, .int .u32 c] from rfl]
          have hJ2 := HJ.out _ _ (.cells #[.int .u32 0, .int .u32 b, .int .u32 c] 37) HI.out
          have hYY : YieldAt Fence.wide (n - 1) Try.prog l #[.agg #[.int .u32 0, .int .u32 b, .int .u32 c]] _ _ := HY.out _ 5 _ hJ2 (by decide)
          obtain ⟨fn, tmps, assign, body, hy, hR⟩ := hYY
          have HR := Lib.hid hR; clear hR hJ2
          gi_wp2
          refine ⟨fun hh => absurd hh (by decide), ?_⟩
          refine HR.out.mono ?_
          rintro e W3 (⟨rfl, hJ3, hk3⟩ | ⟨rfl, hJx3⟩)
          · have HJ3 := Lib.hid hJ3; have Hk3 := Lib.hid hk3; clear hJ3 hk3
            gi_wp2
            go_roundw
            case rel => exact ⟨6, by omega, rfl, HJ3.out, Hb.out.t ((KeepR.of_alloc _ _ b0).t Hk3.out)⟩
            case measure => simp [intOf]
          · have HJx3 := Lib.hid hJx3; clear hJx3
            gi_wp2
            refine bodyPost_ret (results_none rfl _ _ _) rfl ?_
            exact ⟨⟨_, rfl⟩, .inr ⟨_, ⟨six.drop 6, rfl⟩, HJx3.out⟩⟩
    · gi_wp2
      go_end0
      exact ⟨⟨_, rfl⟩, .inl ⟨_, rfl, HI.out⟩⟩

theorem looks_stops (n Bs : Nat) (a b c : Int) (w : World) (hlt : Bs < w.heap.size) (h0 : w.cell? ⟨Bs, 0, none⟩ = some (.int .u32 a)) (h1 : w.cell? ⟨Bs, 1, none⟩ = some (.int .u32 b)) (h2 : w.cell? ⟨Bs, 2, none⟩ = some (.int .u32 c)) :
    SeqStopsK Fence.wide n Try.prog 46 #[.pointer (some ⟨Bs, 0, none⟩)] (fun x : Fin 6 => #[rv (msk (a, b, c) (x.val + 1))]) (KeepR Bs) (fun ys => ys = six) (fun pre => pre <+: six) 6 w := fun l J Jx W hW hA _ hY hI =>
  looks1_in n l Bs a b c J Jx (fun pre W o h => hA pre W _ none h (World.grownBy_alloc W o none) (fun r e => by cases e)) hY W
    ((hW.cell (p := ⟨Bs, 0, none⟩) hlt).trans h0) ((hW.cell (p := ⟨Bs, 1, none⟩) hlt).trans h1) ((hW.cell (p := ⟨Bs, 2, none⟩) hlt).trans h2) hI
end Go.Proofs.Ytghihhjcoilmgaa.T
