/- The reference of the runes. -/
import Derived.Test.YtmgaibeibfholaaDoorU4
import Derived.Maps.AppendAt
import Derived.Below
import Derived.Deep.DeepMust
import Derived.Laws.BytesArg
import Derived.Deep.RegionWith
import Derived.Deep.LoopGhost
import Derived.Deep.QuietTactic
import Derived.BigQuiet
namespace Go.Proofs.YtmgaibeibfholaaDoor
set_option maxRecDepth 100000
open Go.RowKit Plain
set_option linter.unusedVariables false
theorem infoU8 : (Tryd.prog.info? 5).map (fun i => (i.zero, i.size, i.bytes)) = some (some (.int .u8 0), 1, 1) := by kernel_rfl

/-- v owns the bytes xs, in a block at or beyond base -/
def OwnB (base : Nat) (w : World) (v : Value) (xs : List Int) : Prop := w.ownsRow base 5 1 v xs.length (xs.map (Value.int .u8))

end Go.Proofs.YtmgaibeibfholaaDoor

namespace Go.Proofs.YtmgaibeibfholaaDoor
set_option maxRecDepth 100000
open Go.RowKit Plain
set_option linter.unusedVariables false
def RPutPost (w : World) (xs : List Int) (e : Ending) (w' : World) : Prop := ∃ v, e = .returned v ∧ OwnB w.heap.size w' v xs ∧ Below w.heap.size w w'

set_option maxRecDepth 100000 in
set_option maxHeartbeats 1000000 in
theorem rput_any (r : Int) (h1 : 0 ≤ r) (h2 : r ≤ 1114111) (w : World) : Calls Tryd.prog 71 #[.int .i64 r] w (RPutPost w (putL r)) := by
  unfold putL
  by_cases c1 : r ≤ 127
  · rw [if_pos c1]
    go_enter Tryd.func71, Tryd.ntmps71
    go_wp2
    go_ret
    refine ⟨_, rfl, ?_, (Below.refl _ w).alloc (Nat.le_refl _) _⟩
    exact World.ownsRow_lit (base := w.heap.size) (e := 5) (size := 1) w #[.int .u8 r] 1 (Nat.le_refl _) (by decide) rfl
  rw [if_neg c1]
  by_cases c2 : r ≤ 2047
  · rw [if_pos c2]
    go_enter Tryd.func71, Tryd.ntmps71
    go_wp2
    go_ret
    refine ⟨_, rfl, ?_, (Below.refl _ w).alloc (Nat.le_refl _) _⟩
    exact World.ownsRow_lit (base := w.heap.size) (e := 5) (size := 1) w #[.int .u8 (192 + r / 64), .int .u8 (128 + r % 64)] 2 (Nat.le_refl _) (by decide) rfl
  rw [if_neg c2]
  by_cases c3 : r ≤ 65535
  · rw [if_pos c3]
    go_enter Tryd.func71, Tryd.ntmps71
    go_wp2
    go_ret
    refine ⟨_, rfl, ?_, (Below.refl _ w).alloc (Nat.le_refl _) _⟩
    exact World.ownsRow_lit (base := w.heap.size) (e := 5) (size := 1) w #[.int .u8 (224 + r / 4096), .int .u8 (128 + r / 64 % 64), .int .u8 (128 + r % 64)] 3 (Nat.le_refl _) (by decide) rfl
  rw [if_neg c3]
  go_enter Tryd.func71, Tryd.ntmps71
  go_wp2
  go_ret
  refine ⟨_, rfl, ?_, (Below.refl _ w).alloc (Nat.le_refl _) _⟩
  exact World.ownsRow_lit (base := w.heap.size) (e := 5) (size := 1) w #[.int .u8 (240 + r / 262144), .int .u8 (128 + r / 4096 % 64), .int .u8 (128 + r / 64 % 64), .int .u8 (128 + r % 64)] 4 (Nat.le_refl _) (by decide) rfl
end Go.Proofs.YtmgaibeibfholaaDoor

namespace Go.Proofs.YtmgaibeibfholaaDoor
set_option maxRecDepth 100000
open Go.RowKit Plain
set_option linter.unusedVariables false

def md (n : Nat) : Int := if n = 2 then 32 else if n = 3 then 16 else if n = 4 then 8 else 1
def dig (s : ByteArray) (n i : Nat) : Int := if i = 0 then (if 1 < n then bt s 0 % md n else bt s 0) else bt s i % 64
def cnd (s : ByteArray) (n : Nat) : Nat → Int
  | 0 => 0
  | i + 1 => 64 * cnd s n i + dig s n i
theorem dig_bd (s : ByteArray) (n i : Nat) : 0 ≤ dig s n i ∧ dig s n i ≤ 255 := by
  have := bt_ge s 0; have := bt_le s 0; have := bt_ge s i; have := bt_le s i
  unfold dig; split
  · split
    · have : md n = 32 ∨ md n = 16 ∨ md n = 8 ∨ md n = 1 := by unfold md; (repeat' split) <;> simp
      rcases this with h | h | h | h <;> rw [h] <;> omega
    · omega
  · omega
theorem cnd_bd (s : ByteArray) (n : Nat) : ∀ i, i ≤ 4 → 0 ≤ cnd s n i ∧ cnd s n i ≤ 100000000
  | 0, _ => by simp [cnd]
  | 1, _ => by have := dig_bd s n 0; simp [cnd]; omega
  | 2, _ => by have := dig_bd s n 0; have := dig_bd s n 1; simp [cnd]; omega
  | 3, _ => by have := dig_bd s n 0; have := dig_bd s n 1; have := dig_bd s n 2; simp [cnd]; omega
  | 4, _ => by have := dig_bd s n 0; have := dig_bd s n 1; have := dig_bd s n 2; have := dig_bd s n 3; simp [cnd]; omega
  | k + 5, h => by omega
def okN (s : ByteArray) (n : Nat) : Bool := mayB (cnd s n n) && ((strOfNums (putL (cnd s n n))).toList == (s.extract 0 n).toList)

theorem own_cells {base : Nat} {w : World} {v : Value} {xs : List Int} (h : OwnB base w v xs) :
    (v = .slice none 0 0 ∧ xs = []) ∨ ∃ g cap, v = .slice (some ⟨g, 0, none⟩) xs.length cap ∧ base ≤ g ∧ g < w.heap.size ∧ ∀ i, i < xs.length → w.cell? ⟨g, 0 + i, none⟩ = some (.int .u8 (xs.getD i 0)) := by
  rcases h.2 with ⟨rfl, hn⟩ | ⟨g, cap, cur, rfl, hb, hg, _⟩
  · left; exact ⟨rfl, List.eq_nil_of_length_eq_zero hn⟩
  · right
    refine ⟨g, cap, rfl, hb, (Array.getElem?_eq_some_iff.1 hg).1, fun i hi => ?_⟩
    have := World.ownsRow.cells h (g := g) rfl i (.int .u8 (xs.getD i 0)) (by simp [List.getElem?_eq_getElem hi, List.getD])
    rw [← this]; unfold Addr.add; split <;> simp_all
theorem own_string {base : Nat} {w : World} {v : Value} {xs : List Int} (h : OwnB base w v xs) : (convert 38 9 v).run Tryd.prog w = .ok (.string (strOfNums xs)) w := by
  rcases own_cells h with ⟨rfl, rfl⟩ | ⟨g, cap, rfl, _, _, hc⟩
  · exact run_convert_bytes_nil w 38 5 Tryd.underlying38 Tryd.underlying5 0 0 9 Tryd.underlying9
  · exact run_convert_bytes_arg w 38 5 Tryd.underlying38 Tryd.underlying5 g 0 _ cap xs rfl hc 9 Tryd.underlying9
theorem drewN_below {n : Nat} {w w1 : World} {k : Nat} (h : Below n w w1) : Below n w (w1.drewN k) := ⟨h.os, h.tape, h.output, h.size, h.block⟩
theorem rmay_yes (r : Int) (h : mayB r = true) (w : World) : Calls Tryd.prog 70 #[.int .i64 r] w fun e w' => e = .returned (.bool true) ∧ w = w' := by
  rw [← h]; exact rmay_any r w
theorem rmay_no (r : Int) (h : ¬ mayB r = true) (w : World) : Calls Tryd.prog 70 #[.int .i64 r] w fun e w' => e = .returned (.bool false) ∧ w = w' := by
  rw [← (by simpa using h : mayB r = false)]; exact rmay_any r w
theorem rmay_no' (r : Int) (h : ¬ mayB r = true) (w : World) : Calls Tryd.prog 70 #[.int .i64 r] w fun e w' => e = .returned (.bool false) ∧ w' = w :=
  (rmay_no r h w).mono fun e w' h => ⟨h.1, h.2.symm⟩
set_option maxRecDepth 100000 in
set_option maxHeartbeats 2000000 in
theorem rget_any (s : ByteArray) (hs : s.size ≤ 9223372036854775000) (w : World) (res : Int × Int)
    (hyes : ∀ n, 1 ≤ n → n ≤ 4 → n ≤ s.size → (∀ m, 1 ≤ m → m < n → okN s m = false) → okN s n = true → res = (cnd s n n, (n : Int)))
    (hno : (∀ m, 1 ≤ m → m ≤ 4 → m ≤ s.size → okN s m = false) → res = (0, 0)) :
    Calls Tryd.prog 64 #[.string s] w fun e w' => e = .returned (.tuple #[.int .i64 res.1, .int .i64 res.2]) ∧ Below w.heap.size w w' := by
  have Hy := Lib.hid hyes; have Hn := Lib.hid hno; clear hyes hno
  go_enter Tryd.func64, Tryd.ntmps64
  go_wp2
  go_loopw [4] (fun n wr => ∃ k : Nat, 1 ≤ k ∧ k ≤ 5 ∧ n = .int .i64 k ∧ (∀ m, 1 ≤ m → m < k → m ≤ s.size ∧ okN s m = false) ∧ Below w.heap.size w wr) (fun n _ => 5 - (intOf n).toNat)
  case atStart => exact ⟨1, by omega, by omega, rfl, fun m h1 h2 => by omega, Below.refl _ _⟩
  case round =>
    obtain ⟨k, hk1, hk5, rfl, hm, hb⟩ := hrel
    have Hm := Lib.hid hm; clear hm
    have Hb := Lib.hid hb; clear hb
    by_cases hk : k ≤ 4 ∧ k ≤ s.size
    · obtain ⟨g1, g2⟩ := hk
      have g3 : decide ((k : Int) ≤ 4) = true := by simp; omega
      go_wp2
      obtain ⟨wo, rfl⟩ : ∃ wo : World, wo = wr := ⟨_, rfl⟩
      go_loopw [5, 6] (fun r i wi => ∃ j : Nat, j ≤ k ∧ i = .int .i64 j ∧ r = .int .i64 (cnd s k j) ∧ Below w.heap.size w wi) (fun _ i _ => k - (intOf i).toNat)
      case atStart => exact ⟨0, by omega, rfl, rfl, Hb.out⟩
      case round =>
        obtain ⟨j, hj, rfl, rfl, hbi⟩ := hrel
        have Hbi := Lib.hid hbi; clear hbi
        have hc := cnd_bd s k j (by omega)
        have hd := dig_bd s k j
        by_cases hlt : j < k
        · have hjs : j < s.size := by omega
          have hb0 := byte_ge s[j]
          have hb1 := byte_le s[j]
          have Hc1 : Hid (cnd s k (j + 1) = 64 * cnd s k j + dig s k j) := rfl
          by_cases hj0 : j = 0
          · subst hj0
            by_cases hk1' : k = 1
            · subst hk1'
              have Hd : Hid ((s[0].toNat : Int) = dig s 1 0) := by rw [bt_of hjs]; exact rfl
              go_wp2
              go_roundw
              case rel => exact ⟨1, by omega, by simp, by rw [Hc1.out, ← Hd.out], Hbi.out⟩
              case measure => simp [intOf]
            · have hk2 : k = 2 ∨ k = 3 ∨ k = 4 := by omega
              have hbl := Below.alloc (o := .cells #[.int .i64 1, .int .i64 1, .int .i64 32, .int .i64 16, .int .i64 8] 3) Hbi.out Hbi.out.size
              have Hbl := Lib.hid hbl; clear hbl
              rcases hk2 with rfl | rfl | rfl
              · have Hd : Hid ((s[0].toNat : Int) % 32 = dig s 2 0) := by rw [bt_of hjs]; exact rfl
                go_wp2
                go_roundw
                case rel => exact ⟨1, by omega, by simp, by rw [Hc1.out, ← Hd.out], Hbl.out⟩
                case measure => simp [intOf]
              · have Hd : Hid ((s[0].toNat : Int) % 16 = dig s 3 0) := by rw [bt_of hjs]; exact rfl
                go_wp2
                go_roundw
                case rel => exact ⟨1, by omega, by simp, by rw [Hc1.out, ← Hd.out], Hbl.out⟩
                case measure => simp [intOf]
              · have Hd : Hid ((s[0].toNat : Int) % 8 = dig s 4 0) := by rw [bt_of hjs]; exact rfl
                go_wp2
                go_roundw
                case rel => exact ⟨1, by omega, by simp, by rw [Hc1.out, ← Hd.out], Hbl.out⟩
                case measure => simp [intOf]
          · have Hd : Hid ((s[j].toNat : Int) % 64 = dig s k j) := by rw [bt_of hjs]; unfold dig; rw [if_neg hj0]; exact rfl
            go_wp2
            go_roundw
            case rel => exact ⟨j + 1, by omega, by simp, by rw [Hc1.out, ← Hd.out], Hbi.out⟩
            case measure => simp [intOf]; omega
        · obtain rfl : j = k := by omega
          have Hbd : Hid (0 ≤ cnd s j j ∧ cnd s j j ≤ 100000000) := hc
          clear hc hd
          go_wp2
          by_cases hmay : mayB (cnd s j j) = true
          · have hmb : Hid (0 ≤ cnd s j j ∧ cnd s j j ≤ 1114111) := by unfold mayB at hmay; have := of_decide_eq_true hmay; exact ⟨this.1, this.2.1⟩
            have Hmay := Lib.hid hmay; clear hmay
            go_region_with (first | (go_at_call 70; refine (rmay_yes _ Hmay.out _).mono ?_; rintro e w' ⟨rfl, rfl⟩) | (go_at_call 71; refine (rput_any _ hmb.out.1 hmb.out.2 _).mono ?_; rintro e w' ⟨v, rfl, ho, hbb⟩; have hcv := own_string ho; have Hbb := Lib.hid hbb; clear ho hbb))
            go_wp2
            · have heq : ((strOfNums (putL (cnd s j j))).toList == (s.extract 0 j).toList) = true := by assumption
              have hr := Hy.out j hk1 g1 g2 (fun m h1 h2 => (Hm.out m h1 h2).2) (by unfold okN; rw [Hmay.out, heq]; rfl)
              have hB := Below.trans (Below.drew Hbi.out) (Hbb.out.mono (by have := Hbi.out.size; simpa using this))
              go_ret2
              exact ⟨by rw [hr]; exact rfl, hB⟩
            · have heq : ((strOfNums (putL (cnd s j j))).toList == (s.extract 0 j).toList) = false := by assumption
              have hB := Below.trans (Below.drew Hbi.out) (Hbb.out.mono (by have := Hbi.out.size; simpa using this))
              go_roundw
              case rel => 
                refine ⟨j + 1, by omega, by omega, by simp, fun m h1 h2 => ?_, hB⟩
                rcases Nat.lt_or_ge m j with h | h
                · exact Hm.out m h1 h
                · obtain rfl : m = j := by omega
                  exact ⟨g2, by unfold okN; rw [heq]; simp⟩
              case measure => simp [intOf]; omega
          · have Hmay := Lib.hid hmay; clear hmay
            go_quiet ((go_at_call 70; exact Calls.quiet_of_same (rmay_no' _ Hmay.out _)))
            go_wp2
            go_roundw
            case rel =>
              refine ⟨j + 1, by omega, by omega, by simp, fun m h1 h2 => ?_, drewN_below Hbi.out⟩
              rcases Nat.lt_or_ge m j with h | h
              · exact Hm.out m h1 h
              · obtain rfl : m = j := by omega
                exact ⟨g2, by have hq := Hmay.out; unfold okN; simp [hq]⟩
            case measure => simp [intOf]; omega
    · go_wp2
      · go_ret2
        rw [Hn.out (fun m h1 h2 h3 => (Hm.out m h1 (by omega)).2)]
        exact ⟨rfl, Hb.out⟩
      · go_ret2
        rw [Hn.out (fun m h1 h2 h3 => (Hm.out m h1 (by omega)).2)]
        exact ⟨rfl, Hb.out⟩
end Go.Proofs.YtmgaibeibfholaaDoor

namespace Go.Proofs.YtmgaibeibfholaaDoor
set_option maxRecDepth 100000
open Go.RowKit Plain
set_option linter.unusedVariables false

theorem getL_zero {l : List Int} (h : (getL l).2 = 0) : getL l = (0, 0) := by
  revert h
  unfold getL
  (repeat' split) <;> simp

theorem cnd_put {s : ByteArray} {r : Int} {t : List Int} (hm : mayB r = true) (hs : bl s = putL r ++ t) : cnd s (putL r).length (putL r).length = r := by
  have hk := bl_getD s
  rw [hs] at hk
  rw [may_iff] at hm
  have e0 := hk 0; have e1 := hk 1; have e2 := hk 2; have e3 := hk 3
  unfold putL at *
  by_cases c1 : r ≤ 127
  · simp only [if_pos c1] at *
    simp at e0
    simp [cnd, dig, ← e0]
  simp only [if_neg c1] at *
  by_cases c2 : r ≤ 2047
  · simp only [if_pos c2] at *
    simp at e0 e1
    simp [cnd, dig, ← e0, ← e1, md]; omega
  simp only [if_neg c2] at *
  by_cases c3 : r ≤ 65535
  · simp only [if_pos c3] at *
    simp at e0 e1 e2
    simp [cnd, dig, ← e0, ← e1, ← e2, md]; omega
  simp only [if_neg c3] at *
  simp at e0 e1 e2 e3
  simp [cnd, dig, ← e0, ← e1, ← e2, ← e3, md]; omega

theorem okN_iff {s : ByteArray} {n : Nat} : okN s n = true ↔ mayB (cnd s n n) = true ∧ putL (cnd s n n) = (bl s).take n := by
  unfold okN
  by_cases h : mayB (cnd s n n) = true
  · rw [str_beq (putL_isB h), h]; simp
  · simp [h]

theorem rget_is (s : ByteArray) (hs : s.size ≤ 9223372036854775000) (w : World) :
    Calls Tryd.prog 64 #[.string s] w fun e w' => e = .returned (.tuple #[.int .i64 (getL (bl s)).1, .int .i64 (getL (bl s)).2]) ∧ Below w.heap.size w w' := by
  refine rget_any s hs w (getL (bl s)) (fun n h1 h2 h3 _ h => ?_) (fun h => ?_)
  · obtain ⟨g1, g2⟩ := okN_iff.1 h
    have e : bl s = putL (cnd s n n) ++ (bl s).drop n := by rw [g2, List.take_append_drop]
    rw [e, getL_putL g1, g2, List.length_take, bl_length]
    rw [Nat.min_eq_left h3]
  · by_cases hz : (getL (bl s)).2 = 0
    · exact getL_zero hz
    · exfalso
      have hb := getL_bd (bl_isB s)
      obtain ⟨r, hr⟩ : ∃ r, (getL (bl s)).1 = r := ⟨_, rfl⟩
      obtain ⟨n, hn⟩ : ∃ n, (getL (bl s)).2 = n := ⟨_, rfl⟩
      rw [hn] at hb hz
      obtain ⟨g1, g2, t, g3⟩ := getL_some (bl_isB s) (r := r) (n := n) (by rw [← hr, ← hn]) hz
      have hlen : (putL r).length ≤ s.size := by rw [← bl_length]; omega
      have hc := cnd_put g1 g3
      have := h (putL r).length (by omega) (by omega) hlen
      have h' : okN s (putL r).length = true := okN_iff.2 (by
        rw [hc]; refine ⟨g1, ?_⟩
        rw [g3, List.take_left])
      rw [h'] at this; cases this
end Go.Proofs.YtmgaibeibfholaaDoor

namespace Go.Proofs.YtmgaibeibfholaaDoor
set_option maxRecDepth 100000
open Go.RowKit Plain
set_option linter.unusedVariables false
theorem infoRune : (Tryd.prog.info? 90).map (fun i => (i.zero, i.size, i.bytes)) = some (some (.agg #[.int .i64 0, .int .i64 0]), 2, 16) := by kernel_rfl

/-- the cells of runes with their places -/
def rcells (l : List (Nat × Int)) : List Value := l.flatMap fun x => [.int .i64 x.1, .int .i64 x.2]
theorem rcells_length (l : List (Nat × Int)) : (rcells l).length = l.length * 2 := by
  induction l with
  | nil => rfl
  | cons a l ih => simp [rcells] at ih ⊢; omega
def OwnR (base : Nat) (w : World) (v : Value) (l : List (Nat × Int)) : Prop := w.ownsRow base 90 2 v l.length (rcells l)

theorem rgetx (s : ByteArray) (hs : s.size ≤ 9223372036854775000) (p q : Nat) (h : q = s.size ∨ p + 4 ≤ q) (r n : Int) (hg : getL ((bl s).drop p) = (r, n)) (w : World) :
    Calls Tryd.prog 64 #[.string (s.extract p q)] w fun e w' => e = .returned (.tuple #[.int .i64 r, .int .i64 n]) ∧ Below w.heap.size w w' := by
  have := rget_is (s.extract p q) (by rw [ByteArray.size_extract]; omega) w
  rw [getx s p q h, hg] at this
  exact this

def RunesPost (w : World) (l : List (Nat × Int)) (p : Nat) (e : Ending) (w' : World) : Prop :=
  ∃ v, e = .returned (.tuple #[v, .int .i64 p]) ∧ OwnR w.heap.size w' v l ∧ Below w.heap.size w w'

set_option maxRecDepth 100000 in
set_option maxHeartbeats 2000000 in
theorem rrunes_any (s : ByteArray) (hs : s.size ≤ 100000000) (w : World) :
    Calls Tryd.prog 56 #[.string s] w (RunesPost w (rl (bl s) 0) (endP (bl s) 0)) := by
  obtain ⟨i0, hi, hz0, hz1, hz2⟩ := info_parts infoRune
  have Hi := Lib.hid hi; have Hz0 := Lib.hid hz0; have Hz1 := Lib.hid hz1; have Hz2 := Lib.hid hz2
  clear hi hz0 hz1 hz2
  go_enter Tryd.func56, Tryd.ntmps56
  go_wp2
  go_loopw [4, 5] (fun v n wr => ∃ (p : Nat) (pre : List (Nat × Int)), p ≤ s.size ∧ pre.length ≤ p ∧ n = .int .i64 p ∧ OwnR w.heap.size wr v pre ∧ pre ++ rl (bl s) p = rl (bl s) 0 ∧ endP (bl s) p = endP (bl s) 0 ∧ Below w.heap.size w wr) (fun _ n _ => s.size - (intOf n).toNat)
  case atStart => exact ⟨0, [], by omega, by simp, rfl, World.ownsRow_nil _ _ _ _, rfl, rfl, Below.refl _ _⟩
  case round =>
    obtain ⟨p, pre, hp, hpl, rfl, ho, he1, he2, hb⟩ := hrel
    have Ho := Lib.hid ho; have He1 := Lib.hid he1; have He2 := Lib.hid he2; have Hb := Lib.hid hb
    clear ho he1 he2 hb
    by_cases hlt : p < s.size
    · obtain ⟨r, n, hg⟩ : ∃ r n, getL ((bl s).drop p) = (r, n) := ⟨_, _, rfl⟩
      have hbd := getL_bd (drop_isB (bl_isB s) p)
      rw [hg] at hbd
      obtain ⟨hn0, hn1, hn2⟩ := hbd
      rw [List.length_drop, bl_length] at hn1
      simp only at hn0 hn1 hn2
      have Hg := Lib.hid hg; clear hg
      by_cases hz : n = 0
      · have hstop := rl_stop (l := bl s) (p := p) (by rw [Hg.out]; simp; omega)
        rw [hstop.1] at He1; rw [hstop.2] at He2
        have He1' := He1.out; have He2' := He2.out
        rw [List.append_nil] at He1'
        clear hstop
        have hz' : (n == 0) = true := by simpa using hz
        have HZ := Lib.hid hz; clear hz He1' He2'
        go_wp2_with fail
        all_goals
          refine (rgetx s (by omega) p _ (by omega) r n Hg.out _).mono ?_
          rintro e w1 ⟨rfl, hb1⟩
          have HB := Lib.hid (Below.trans Hb.out (hb1.mono Hb.out.size))
          have Ho1 := Lib.hid (own_below Ho.out hb1)
          clear hb1
          go_wp2
          go_ret2
          exact ⟨_, by rw [← He2.out]; exact rfl, by have := He1.out; rw [List.append_nil] at this; rw [← this]; exact Ho1.out, HB.out⟩
      · have hgo := rl_go (l := bl s) (p := p) (by rw [bl_length]; exact hlt) (by rw [Hg.out]; simp; omega)
        rw [Hg.out] at hgo
        simp only at hgo
        have Hgo := Lib.hid hgo; clear hgo
        have hz' : (n == 0) = false := by simpa using hz
        have hn0' : 0 < n := by omega
        clear hz hn0
        go_wp2_with fail
        all_goals
          refine (rgetx s (by omega) p _ (by omega) r n Hg.out _).mono ?_
          rintro e w1 ⟨rfl, hb1⟩
          have HB := Lib.hid (Below.trans Hb.out (hb1.mono Hb.out.size))
          have Ho1 := Lib.hid (own_below Ho.out hb1)
          clear hb1
          go_wp2_with (at_builtin; refine wpList_append_own _ rfl _ _ 78 rfl w.heap.size 90 i0 (.agg #[.int .i64 0, .int .i64 0]) 2 16 Tryd.underlying78 Hi.out Hz0.out Hz1.out Hz2.out rfl (by decide) _ _ _ rfl (Ho1.out.alloc _) ⟨_, 0, none⟩ 1 1 [.int .i64 p, .int .i64 r] rfl rfl (cells_new _ _ _) (by simp [Value.oneCell']) (by unfold maxLen; omega) (by omega) (by have := HB.out.size; simp; omega) ?_; intro v' w2 hown' hgrow _; have HB2 := Lib.hid (app_below HB.out.size HB.out Ho1.out hgrow); have Ho2 := Lib.hid hown'; clear hown' hgrow)
          go_roundw
          case rel =>
            refine ⟨p + n.toNat, pre ++ [(p, r)], by omega, by simp; omega, congrArg (Value.int .i64) (by omega), ?_, ?_, ?_, HB2.out⟩
            · have := Ho2.out
              unfold OwnR rcells
              rw [List.length_append, List.flatMap_append]
              exact this
            · rw [List.append_assoc, ← He1.out, Hgo.out.1]; rfl
            · rw [← He2.out, Hgo.out.2]
          case measure => simp [intOf]; omega
    · go_wp2
      go_ret2
      have hstop := rl_stop (l := bl s) (p := p) (by rw [bl_length]; omega)
      have He1' := He1.out; have He2' := He2.out
      rw [hstop.1, List.append_nil] at He1'
      rw [hstop.2] at He2'
      exact ⟨_, by rw [← He2']; exact rfl, by rw [← He1']; exact Ho.out, Hb.out⟩
end Go.Proofs.YtmgaibeibfholaaDoor

