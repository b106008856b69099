/- The reference's lists: is a number in a list; a number put into a rising list. -/
import Derived.Test.YtghihhjcoilmgaaQ3
import Derived.Test.YtghihhjcoilmgaaQ1
import Derived.Maps.AppendAt
namespace Go.Proofs.Ytghihhjcoilmgaa
set_option maxRecDepth 100000
open Go.RowKit Go.Maps
set_option linter.unusedVariables false
set_option linter.unusedSimpArgs false

def putGo (x : Int) : Bool → List Int → List Int
  | true, [] => []
  | false, [] => [x]
  | d, y :: L => if d = false ∧ x < y then x :: y :: putGo x true L else y :: putGo x d L
theorem putGo_true (x : Int) (L : List Int) : putGo x true L = L := by
  induction L with
  | nil => rfl
  | cons y L ih => unfold putGo; rw [if_neg (by simp), ih]
theorem putGo_mem {x y : Int} (L : List Int) : y ∈ putGo x false L ↔ y ∈ L ∨ y = x := by
  induction L with
  | nil => simp [putGo]
  | cons z L ih =>
    unfold putGo
    split
    · rw [putGo_true]; simp only [List.mem_cons]; exact ⟨fun h => by rcases h with h | h | h <;> simp [h], fun h => by rcases h with (h | h) | h <;> simp [h]⟩
    · simp only [List.mem_cons, ih]; rw [or_assoc]
theorem putGo_srt {x : Int} {L : List Int} (h : Srt L) (hx : x ∉ L) : Srt (putGo x false L) := by
  induction L with
  | nil => simp [putGo, Srt]
  | cons z L ih =>
    obtain ⟨h1, h2⟩ := List.pairwise_cons.1 h
    unfold putGo
    split
    · rename_i hz
      rw [putGo_true]
      refine List.pairwise_cons.2 ⟨fun y hy => ?_, h⟩
      rcases List.mem_cons.1 hy with rfl | hy
      · exact hz.2
      · have := h1 y hy; omega
    · rename_i hz
      refine List.pairwise_cons.2 ⟨fun y hy => ?_, ih h2 (fun hm => hx (List.mem_cons_of_mem _ hm))⟩
      rcases (putGo_mem L).1 hy with hy | rfl
      · exact h1 y hy
      · simp at hx hz; omega
theorem putGo_len (x : Int) (L : List Int) : (putGo x false L).length = L.length + 1 := by
  induction L with
  | nil => rfl
  | cons z L ih =>
    unfold putGo
    split
    · rw [putGo_true]; rfl
    · simp [ih]
theorem putGo_a (x y : Int) (L : List Int) : putGo x true (y :: L) = y :: putGo x true L := by
  conv => lhs; unfold putGo
  rw [if_neg (by simp)]
theorem putGo_b {x y : Int} (h : x < y) (L : List Int) : putGo x false (y :: L) = x :: y :: putGo x true L := by
  conv => lhs; unfold putGo
  rw [if_pos ⟨rfl, h⟩]
theorem putGo_c {x y : Int} (h : ¬ x < y) (L : List Int) : putGo x false (y :: L) = y :: putGo x false L := by
  conv => lhs; unfold putGo
  rw [if_neg (by simp [h])]
theorem own_app {base : Nat} {w : World} {v : Value} {L : List Int} {x : Int} (h : w.ownsRow base 31 1 v (L.length + 1) (L.map (Value.int .u32) ++ [.int .u32 x])) : OwnU base w v (L ++ [x]) := by
  unfold OwnU
  rw [List.length_append, List.map_append]
  exact h
section
variable {w : World}
set_option maxRecDepth 100000 in
set_option maxHeartbeats 1000000 in
theorem in_u {a : Option Addr} {L : List Int} (h : IsU w a L) (cap : Nat) (hl : L.length ≤ 1000000) (x : Int) :
    Calls Try.prog 27 #[.slice a L.length cap, .int .u32 x] w fun e w' => e = .returned (.bool (decide (x ∈ L))) ∧ w = w' := by
  have H := Lib.hid h
  obtain ⟨l, hll⟩ : ∃ l, L.length = l := ⟨_, rfl⟩
  have Hl := Lib.hid hll
  rw [hll] at hl ⊢
  clear h hll
  go_enter Try.func27, Try.ntmps27
  go_wp2_with fail
  go_loopw [5] (fun u wr => ∃ k : Nat, k ≤ l ∧ u = .int .i64 k ∧ wr = w ∧ ∀ j (h1 : j < L.length), j < k → L[j] ≠ x) (fun u _ => l - (intOf u).toNat)
  case atStart => exact ⟨0, by omega, rfl, rfl, fun j _ h => by omega⟩
  case round =>
    obtain ⟨k, hk, rfl, rfl, hkk⟩ := hrel
    have Hkk := Lib.hid hkk
    clear hkk
    by_cases hkl : k < l
    · have hd2 : decide ((k : Int) < (l : Int)) = true := by simp; omega
      obtain ⟨b, rfl, _, c⟩ := H.out k (by have := Hl.out; omega)
      obtain ⟨y, hy⟩ : ∃ y, L[k]'(by have := Hl.out; omega) = y := ⟨_, rfl⟩
      rw [hy] at c
      have Hy := Lib.hid hy
      clear hy
      by_cases hyx : y = x
      · have hq : (y == x) = true := by simp [hyx]
        go_wp2_with fail
        go_ret
        refine ⟨?_, rfl⟩
        rw [decide_eq_true (by rw [← hyx, ← Hy.out]; exact List.getElem_mem _)]
        rfl
      · have hq : (y == x) = false := by simp [hyx]
        go_wp2_with fail
        go_roundw
        case rel => exact ⟨k + 1, by omega, by push_cast; rfl, by first | rfl | trivial, fun j h1 h2 => by
          rcases Nat.lt_succ_iff_lt_or_eq.1 h2 with h3 | rfl
          · exact Hkk.out j h1 h3
          · rw [Hy.out]; exact hyx⟩
        case measure => simp [intOf]; omega
    · have hd2 : decide ((k : Int) < (l : Int)) = false := by simp; omega
      go_wp2_with fail
      go_ret
      refine ⟨?_, rfl⟩
      have hn : x ∉ L := fun hm => by
        obtain ⟨j, hj, e⟩ := List.getElem_of_mem hm
        exact Hkk.out j hj (by have := Hl.out; omega) e
      rw [decide_eq_false hn]
      rfl

set_option maxRecDepth 100000 in
set_option maxHeartbeats 2000000 in
theorem put_u {a : Option Addr} {L : List Int} (h : IsU w a L) (cap : Nat) (hl : L.length ≤ 1000000) (x : Int) :
    Calls Try.prog 28 #[.slice a L.length cap, .int .u32 x] w fun e w' => ∃ v, e = .returned v ∧ OwnU w.heap.size w' v (putGo x false L) ∧ Below w.heap.size w w' := by
  obtain ⟨i0, hi, hz0, hz1, hz2⟩ := info_parts Try.info32
  have Hi := Lib.hid hi; have Hz0 := Lib.hid hz0; have Hz1 := Lib.hid hz1; have Hz2 := Lib.hid hz2
  have H := Lib.hid h
  obtain ⟨l, hll⟩ : ∃ l, L.length = l := ⟨_, rfl⟩
  have Hl := Lib.hid hll
  rw [hll] at hl ⊢
  clear hi hz0 hz1 hz2 h hll
  go_enter Try.func28, Try.ntmps28
  go_wp2_with fail
  go_loopw [5, 6, 7] (fun u5 u6 u7 wr => ∃ (k : Nat) (d : Bool) (out : List Int), k ≤ l ∧ out.length ≤ 2 * k ∧ u7 = .int .i64 k ∧ u6 = .bool d ∧ OwnU w.heap.size wr u5 out ∧ Below w.heap.size w wr ∧ out ++ putGo x d (L.drop k) = putGo x false L) (fun _ _ u _ => l - (intOf u).toNat)
  case atStart => exact ⟨0, false, [], by omega, by simp, rfl, rfl, World.ownsRow_nil _ _ _ _, Below.refl _ _, rfl⟩
  case round =>
    obtain ⟨k, d, out, hk, hok, rfl, rfl, hO, hB, he⟩ := hrel
    have HO := Lib.hid hO; have HB := Lib.hid hB; have He := Lib.hid he
    clear hO hB he
    by_cases hkl : k < l
    · have hd2 : decide ((k : Int) < (l : Int)) = true := by simp; omega
      have hkL : k < L.length := by have := Hl.out; omega
      obtain ⟨b, rfl, _, c⟩ := H.out.below HB.out k hkL
      obtain ⟨y, hy⟩ : ∃ y, L[k] = y := ⟨_, rfl⟩
      rw [hy] at c
      have hdr : L.drop k = y :: L.drop (k + 1) := by rw [← hy]; exact List.drop_eq_getElem_cons hkL
      have Hdr := Lib.hid hdr
      have Hc := Lib.hid (fun (W : World) (hW : Below w.heap.size w W) => by
        obtain ⟨b', e1, _, e2⟩ := H.out.below hW k hkL
        obtain rfl : b = b' := by simpa using e1
        rw [hy] at e2
        exact e2 : ∀ W, Below w.heap.size w W → W.cell? ⟨b, k, none⟩ = some (.int .u32 y))
      clear hy hdr hkL
      cases d
      · by_cases hxy : x < y
        · have hq : decide (y > x) = true := by simp; omega
          have hq' : decide (x < y) = true := by simp; omega
          have He2 := Lib.hid (show out ++ [x] ++ [y] ++ putGo x true (L.drop (k + 1)) = putGo x false L by rw [← He.out, Hdr.out, putGo_b hxy]; simp)
          clear hxy
          go_wp2_with (first | (at_builtin; refine wpList_append_own_at _ rfl _ _ 23 rfl w.heap.size 31 i0 (.int .u32 0) 1 4 Try.underlying23 Hi.out Hz0.out Hz1.out Hz2.out rfl (by decide) _ _ _ rfl (World.ownsRow.alloc HO.out _) ⟨wr.heap.size, 0, none⟩ 1 1 [.int .u32 x] rfl rfl (cell_one_new _ _ _) (by simp [Value.oneCell']) (by simp only [List.length_append, List.length_cons, List.length_nil, maxLen]; omega) (by (try simp only [List.length_append, List.length_cons, List.length_nil]); omega) (by have := HB.out.size; simp; omega) ?_; intro v1 w1 hown1 hgrow1 _ _; obtain ⟨g1, cap1, rfl⟩ := ownsRow_succ hown1; have HO1 := Lib.hid (show OwnU w.heap.size w1 _ _ from own_app hown1); have HB1 := Lib.hid ((HB.out.alloc HB.out.size _).grown hgrow1 (by have := HB.out.size; simp; omega) (fun k e => (HO.out.lt k e).1)); clear hown1 hgrow1; have c1 := Hc.out _ HB1.out; go_frame) | (at_builtin; refine wpList_append_own_at _ rfl _ _ 23 rfl w.heap.size 31 i0 (.int .u32 0) 1 4 Try.underlying23 Hi.out Hz0.out Hz1.out Hz2.out rfl (by decide) _ _ _ rfl (World.ownsRow.alloc HO1.out _) ⟨w1.heap.size, 0, none⟩ 1 1 [.int .u32 y] rfl rfl (cell_one_new _ _ _) (by simp [Value.oneCell']) (by simp only [List.length_append, List.length_cons, List.length_nil, maxLen]; omega) (by (try simp only [List.length_append, List.length_cons, List.length_nil]); omega) (by have := HB1.out.size; simp; omega) ?_; intro v2 w2 hown2 hgrow2 _ _; obtain ⟨g2, cap2, rfl⟩ := ownsRow_succ hown2; have HO2 := Lib.hid (show OwnU w.heap.size w2 _ _ from own_app hown2); have HB2 := Lib.hid ((HB1.out.alloc HB1.out.size _).grown hgrow2 (by have := HB1.out.size; simp; omega) (fun k e => (HO1.out.lt k e).1)); clear hown2 hgrow2; go_frame))
          go_roundw
          case rel => exact ⟨k + 1, true, out ++ [x] ++ [y], by omega, by simp; omega, by push_cast; rfl, rfl, HO2.out, HB2.out, He2.out⟩
          case measure => simp [intOf]; omega
        · have hq : decide (y > x) = false := by simp; omega
          have hq' : decide (x < y) = false := by simp; omega
          have He2 := Lib.hid (show out ++ [y] ++ putGo x false (L.drop (k + 1)) = putGo x false L by rw [← He.out, Hdr.out, putGo_c hxy]; simp)
          clear hxy
          go_wp2_with (at_builtin; refine wpList_append_own_at _ rfl _ _ 23 rfl w.heap.size 31 i0 (.int .u32 0) 1 4 Try.underlying23 Hi.out Hz0.out Hz1.out Hz2.out rfl (by decide) _ _ _ rfl (World.ownsRow.alloc HO.out _) ⟨wr.heap.size, 0, none⟩ 1 1 [.int .u32 y] rfl rfl (cell_one_new _ _ _) (by simp [Value.oneCell']) (by simp only [List.length_append, List.length_cons, List.length_nil, maxLen]; omega) (by (try simp only [List.length_append, List.length_cons, List.length_nil]); omega) (by have := HB.out.size; simp; omega) ?_; intro v1 w1 hown1 hgrow1 _ _; obtain ⟨g1, cap1, rfl⟩ := ownsRow_succ hown1; have HO1 := Lib.hid (show OwnU w.heap.size w1 _ _ from own_app hown1); have HB1 := Lib.hid ((HB.out.alloc HB.out.size _).grown hgrow1 (by have := HB.out.size; simp; omega) (fun k e => (HO.out.lt k e).1)); clear hown1 hgrow1; go_frame)
          go_roundw
          case rel => exact ⟨k + 1, false, out ++ [y], by omega, by simp; omega, by push_cast; rfl, rfl, HO1.out, HB1.out, He2.out⟩
          case measure => simp [intOf]; omega
      · have He2 := Lib.hid (show out ++ [y] ++ putGo x true (L.drop (k + 1)) = putGo x false L by rw [← He.out, Hdr.out, putGo_a]; simp)
        go_wp2_with (at_builtin; refine wpList_append_own_at _ rfl _ _ 23 rfl w.heap.size 31 i0 (.int .u32 0) 1 4 Try.underlying23 Hi.out Hz0.out Hz1.out Hz2.out rfl (by decide) _ _ _ rfl (World.ownsRow.alloc HO.out _) ⟨wr.heap.size, 0, none⟩ 1 1 [.int .u32 y] rfl rfl (cell_one_new _ _ _) (by simp [Value.oneCell']) (by simp only [List.length_append, List.length_cons, List.length_nil, maxLen]; omega) (by (try simp only [List.length_append, List.length_cons, List.length_nil]); omega) (by have := HB.out.size; simp; omega) ?_; intro v1 w1 hown1 hgrow1 _ _; obtain ⟨g1, cap1, rfl⟩ := ownsRow_succ hown1; have HO1 := Lib.hid (show OwnU w.heap.size w1 _ _ from own_app hown1); have HB1 := Lib.hid ((HB.out.alloc HB.out.size _).grown hgrow1 (by have := HB.out.size; simp; omega) (fun k e => (HO.out.lt k e).1)); clear hown1 hgrow1; go_frame)
        go_roundw
        case rel => exact ⟨k + 1, true, out ++ [y], by omega, by simp; omega, by push_cast; rfl, rfl, HO1.out, HB1.out, He2.out⟩
        case measure => simp [intOf]; omega
    · have hd2 : decide ((k : Int) < (l : Int)) = false := by simp; omega
      have hdr : L.drop k = [] := List.drop_of_length_le (by have := Hl.out; omega)
      have he := He.out
      rw [hdr] at he
      have He := Lib.hid he
      clear hdr he
      obtain ⟨a5, cap5, rfl, _, _, _⟩ := HO.out.u
      cases d
      · have He2 := Lib.hid (show out ++ [x] = putGo x false L from He.out)
        go_wp2_with (at_builtin; refine wpList_append_own_at _ rfl _ _ 23 rfl w.heap.size 31 i0 (.int .u32 0) 1 4 Try.underlying23 Hi.out Hz0.out Hz1.out Hz2.out rfl (by decide) _ _ _ rfl (World.ownsRow.alloc HO.out _) ⟨wr.heap.size, 0, none⟩ 1 1 [.int .u32 x] rfl rfl (cell_one_new _ _ _) (by simp [Value.oneCell']) (by simp only [List.length_append, List.length_cons, List.length_nil, maxLen]; omega) (by (try simp only [List.length_append, List.length_cons, List.length_nil]); omega) (by have := HB.out.size; simp; omega) ?_; intro v1 w1 hown1 hgrow1 _ _; obtain ⟨g1, cap1, rfl⟩ := ownsRow_succ hown1; have HO1 := Lib.hid (show OwnU w.heap.size w1 _ _ from own_app hown1); have HB1 := Lib.hid ((HB.out.alloc HB.out.size _).grown hgrow1 (by have := HB.out.size; simp; omega) (fun k e => (HO.out.lt k e).1)); clear hown1 hgrow1; go_frame)
        go_ret
        exact ⟨_, rfl, by rw [← He2.out]; exact HO1.out, HB1.out⟩
      · have He2 := Lib.hid (show out = putGo x false L by rw [← He.out]; simp [putGo])
        go_wp2_with fail
        go_ret
        exact ⟨_, rfl, by rw [← He2.out]; exact HO.out, HB.out⟩
end
end Go.Proofs.Ytghihhjcoilmgaa
