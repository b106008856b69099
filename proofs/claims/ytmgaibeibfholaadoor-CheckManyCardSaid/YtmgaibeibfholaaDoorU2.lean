/- The first rune of a text, walked. -/
import Derived.Test.YtmgaibeibfholaaDoorU1
import Derived.WalkKit
import Derived.WalkSpells
import Derived.WalkLawsBesides
import Derived.WalkMore
import Derived.ScopeJumps
import Derived.LoopTactic
import Derived.Lib.Hide
namespace Go.Proofs.YtmgaibeibfholaaDoor
set_option maxRecDepth 100000
open Go.RowKit Plain

theorem ret2 {k k' : IntKind} {a b a' b' : Int} (h : a = a') (h' : b = b') : Ending.returned (.tuple #[.int k a, .int k' b]) = .returned (.tuple #[.int k a', .int k' b']) := by rw [h, h']
theorem retB {a a' : Bool} (h : a = a') : Ending.returned (.bool a) = .returned (.bool a') := by rw [h]
theorem retI {k : IntKind} {a b : Int} (h : a = b) : Ending.returned (.int k a) = .returned (.int k b) := by rw [h]

set_option maxHeartbeats 400000 in
theorem head_any (c : Int) (h0 : 0 ≤ c) (h1 : c ≤ 255) (w : World) :
    Calls Tryd.prog 72 #[.int .u8 c] w fun e w' => e = .returned (.tuple #[.int .i64 (headR c), .int .i64 (headM c)]) ∧ w = w' := by
  go_enter Tryd.func72, Tryd.ntmps72
  go_wp2
  all_goals go_ret2
  all_goals exact ⟨ret2 (by unfold headR; (repeat' split) <;> omega) (by unfold headM; (repeat' split) <;> omega), rfl⟩

theorem byte_le (c : UInt8) : (c.toNat : Int) ≤ 255 := by have := c.toNat_lt; omega
theorem byte_ge (c : UInt8) : 0 ≤ (c.toNat : Int) := by omega
theorem head_byte (c : UInt8) (w : World) :
    Calls Tryd.prog 72 #[.int .u8 c.toNat] w fun e w' => e = .returned (.tuple #[.int .i64 (headR c.toNat), .int .i64 (headM c.toNat)]) ∧ w = w' := head_any _ (byte_ge c) (byte_le c) w

set_option maxHeartbeats 400000 in
theorem may_any (r : Int) (w : World) :
    Calls Tryd.prog 73 #[.int .i64 r] w fun e w' => e = .returned (.bool (mayB r)) ∧ w = w' := by
  go_enter Tryd.func73, Tryd.ntmps73
  go_wp2
  all_goals go_ret
  all_goals exact ⟨retB (by unfold mayB; rw [Bool.eq_iff_iff]; simp; try omega), rfl⟩

set_option maxHeartbeats 400000 in
theorem rmay_any (r : Int) (w : World) :
    Calls Tryd.prog 70 #[.int .i64 r] w fun e w' => e = .returned (.bool (mayB r)) ∧ w = w' := by
  go_enter Tryd.func70, Tryd.ntmps70
  go_wp2
  all_goals go_ret
  all_goals exact ⟨retB (by unfold mayB; rw [Bool.eq_iff_iff]; simp; try omega), rfl⟩

set_option maxHeartbeats 400000 in
theorem size_any (r : Int) (w : World) :
    Calls Tryd.prog 65 #[.int .i64 r] w fun e w' => e = .returned (.int .i64 (sizeN r)) ∧ w = w' := by
  go_enter Tryd.func65, Tryd.ntmps65
  go_wp2
  all_goals go_ret
  all_goals exact ⟨retI (by unfold sizeN; (repeat' split) <;> omega), rfl⟩

end Go.Proofs.YtmgaibeibfholaaDoor

namespace Go.Proofs.YtmgaibeibfholaaDoor
set_option maxRecDepth 100000
open Go.RowKit Plain
set_option linter.unusedVariables false

def Wild (p : Prop) (w : World) (a' : Act) (w' : World) : Prop := w' = w ∧ p ∧ ∃ (u0 u1 u2 u3 u4 u5 u6 u7 u8 u9 u10 u11 u12 u13 u14 u15 u16 u17 u18 u19 u20 u21 u22 u23 u24 u25 u26 u27 u28 u29 u30 u31 u32 u33 u34 u35 u36 u37 u38 u39 u40 u41 u42 u43 u44 u45 u46 u47 u48 u49 u50 u51 u52 u53 u54 u55 : Value), a' = { tmps := #[u0, u1, u2, u3, u4, u5, u6, u7, u8, u9, u10, u11, u12, u13, u14, u15, u16, u17, u18, u19, u20, u21, u22, u23, u24, u25, u26, u27, u28, u29, u30, u31, u32, u33, u34, u35, u36, u37, u38, u39, u40, u41, u42, u43, u44, u45, u46, u47, u48, u49, u50, u51, u52, u53, u54, u55], defers := [] }
theorem wild_mk {p : Prop} {w : World} {u0 u1 u2 u3 u4 u5 u6 u7 u8 u9 u10 u11 u12 u13 u14 u15 u16 u17 u18 u19 u20 u21 u22 u23 u24 u25 u26 u27 u28 u29 u30 u31 u32 u33 u34 u35 u36 u37 u38 u39 u40 u41 u42 u43 u44 u45 u46 u47 u48 u49 u50 u51 u52 u53 u54 u55 : Value} (hp : p) : Wild p w { tmps := #[u0, u1, u2, u3, u4, u5, u6, u7, u8, u9, u10, u11, u12, u13, u14, u15, u16, u17, u18, u19, u20, u21, u22, u23, u24, u25, u26, u27, u28, u29, u30, u31, u32, u33, u34, u35, u36, u37, u38, u39, u40, u41, u42, u43, u44, u45, u46, u47, u48, u49, u50, u51, u52, u53, u54, u55], defers := [] } w := ⟨rfl, hp, u0, u1, u2, u3, u4, u5, u6, u7, u8, u9, u10, u11, u12, u13, u14, u15, u16, u17, u18, u19, u20, u21, u22, u23, u24, u25, u26, u27, u28, u29, u30, u31, u32, u33, u34, u35, u36, u37, u38, u39, u40, u41, u42, u43, u44, u45, u46, u47, u48, u49, u50, u51, u52, u53, u54, u55, rfl⟩
def errOf (n : Int) : Int := if n = 0 then 4 else 0
theorem toList_loop (s : ByteArray) : ∀ (n i : Nat) (r : List UInt8), s.size - i = n → i ≤ s.size → (ByteArray.toList.loop s i r).length = r.length + n := by
  intro n; induction n with
  | zero => intro i r h hi; unfold ByteArray.toList.loop; rw [if_neg (by omega)]; simp
  | succ n ih => intro i r h hi; unfold ByteArray.toList.loop; rw [if_pos (by omega), ih (i + 1) _ (by omega) (by omega)]; simp; omega
theorem toList_length (s : ByteArray) : s.toList.length = s.size := by unfold ByteArray.toList; rw [toList_loop s s.size 0 [] (by omega) (by omega)]; simp
theorem ne_of_size {s : ByteArray} (h : 0 < s.size) : (!s.toList.isEmpty) = true := by
  rw [← toList_length] at h; cases hl : s.toList with
  | nil => rw [hl] at h; simp at h
  | cons a l => rfl
theorem empty_of_size {s : ByteArray} (h : s.size = 0) : s.toList = [] ∧ (!s.toList.isEmpty) = false := by
  rw [← toList_length] at h; have := List.eq_nil_of_length_eq_zero h; rw [this]; exact ⟨rfl, rfl⟩
theorem ret3 {k k' k'' : IntKind} {a b c a' b' c' : Int} (h : a = a') (h' : b = b') (h'' : c = c') : Ending.returned (.tuple #[.int k a, .int k' b, .int k'' c]) = .returned (.tuple #[.int k a', .int k' b', .int k'' c']) := by rw [h, h', h'']

set_option maxRecDepth 100000 in
set_option maxHeartbeats 1000000 in
theorem get_empty (s : ByteArray) (h0 : s.size = 0) (w : World) :
    Calls Tryd.prog 67 #[.string s] w fun e w' => e = .returned (.tuple #[.int .i64 (getP s).1, .int .i64 (getP s).2, .int .i64 (errOf (getP s).2)]) ∧ w = w' := by
  obtain ⟨g1, g2⟩ := empty_of_size h0
  have H0 := Lib.hid h0; clear h0
  go_enter Tryd.func67, Tryd.ntmps67
  go_wp2
  refine wp_scope_jumps 0 (Wild (getP s = (0, 0)) w) (fun _ _ => 0) rfl ?_ ?_
  · go_wp2
    go_step3
    exact ⟨rfl, wild_mk (getP_none0 H0.out)⟩
  · rintro a' w' ⟨rfl, hp, u0, u1, u2, u3, u4, u5, u6, u7, u8, u9, u10, u11, u12, u13, u14, u15, u16, u17, u18, u19, u20, u21, u22, u23, u24, u25, u26, u27, u28, u29, u30, u31, u32, u33, u34, u35, u36, u37, u38, u39, u40, u41, u42, u43, u44, u45, u46, u47, u48, u49, u50, u51, u52, u53, u54, u55, rfl⟩
    have Hp := Lib.hid hp; clear hp
    go_wp2
    simp only [Exit.jump]
    go_ret3
    exact ⟨by rw [Hp.out]; rfl, rfl⟩

set_option maxRecDepth 100000 in
set_option maxHeartbeats 1000000 in
theorem get_bad (s : ByteArray) (hs : s.size ≤ 9223372036854775807) (h0 : 0 < s.size) (h1 : headM (bt s 0) < 0 ∨ (s.size : Int) ≤ headM (bt s 0)) (w : World) :
    Calls Tryd.prog 67 #[.string s] w fun e w' => e = .returned (.tuple #[.int .i64 (getP s).1, .int .i64 (getP s).2, .int .i64 (errOf (getP s).2)]) ∧ w = w' := by
  have g1 := ne_of_size h0
  rw [← bt_of h0] at h1
  have hn : getP s = (0, 0) := getP_none1 (by rwa [bt_of h0] at h1)
  have Hn := Lib.hid hn; clear hn
  by_cases h2 : headM s[0].toNat < 0
  all_goals
  ( go_enter Tryd.func67, Tryd.ntmps67
    go_wp2
    refine wp_scope_jumps 0 (Wild (getP s = (0, 0)) w) (fun _ _ => 0) rfl ?_ ?_
    · go_wp2_with (first | (go_at_call 72; refine (head_byte _ _).mono ?_; rintro e w' ⟨rfl, rfl⟩))
      go_step3
      exact ⟨rfl, wild_mk Hn.out⟩
    · rintro a' w' ⟨rfl, hp, u0, u1, u2, u3, u4, u5, u6, u7, u8, u9, u10, u11, u12, u13, u14, u15, u16, u17, u18, u19, u20, u21, u22, u23, u24, u25, u26, u27, u28, u29, u30, u31, u32, u33, u34, u35, u36, u37, u38, u39, u40, u41, u42, u43, u44, u45, u46, u47, u48, u49, u50, u51, u52, u53, u54, u55, rfl⟩
      clear hp
      go_wp2
      simp only [Exit.jump]
      go_ret3
      exact ⟨by rw [Hn.out]; rfl, rfl⟩)

set_option maxRecDepth 100000 in
set_option maxHeartbeats 1000000 in
theorem get_main (s : ByteArray) (hs : s.size ≤ 9223372036854775807) (h0 : 0 < s.size) (h1 : 0 ≤ headM (bt s 0)) (h2 : headM (bt s 0) < (s.size : Int)) (w : World) :
    Calls Tryd.prog 67 #[.string s] w fun e w' => e = .returned (.tuple #[.int .i64 (getP s).1, .int .i64 (getP s).2, .int .i64 (errOf (getP s).2)]) ∧ w = w' := by
  have g1 := ne_of_size h0
  rw [← bt_of h0] at h1 h2
  go_enter Tryd.func67, Tryd.ntmps67
  go_wp2
  refine wp_scope_jumps 0 (Wild (getP s = (0, 0)) w) (fun _ _ => 0) rfl ?_ ?_
  · go_wp2_with (first | (go_at_call 72; refine (head_byte _ _).mono ?_; rintro e w' ⟨rfl, rfl⟩))
    go_loop [5, 25] (fun r i => ∃ k : Nat, k ≤ (headM s[0].toNat).toNat ∧ i = .int .i64 k ∧ r = .int .i64 (acc s (headR s[0].toNat) k) ∧ ∀ j, j < k → cont (bt s (j + 1))) (fun _ i => (headM s[0].toNat).toNat - (intOf i).toNat)
    case atStart => exact ⟨0, Nat.zero_le _, rfl, by simp [acc], fun j hj => by omega⟩
    case round => 
        obtain ⟨k, hk, rfl, rfl, hc⟩ := hrel
        have Hc := Lib.hid hc; clear hc
        have Ha := Lib.hid (acc_bd s (headR s[0].toNat) (headR_bd _ (byte_ge _)).1 (headR_bd _ (byte_ge _)).2 k)
        have Hm := Lib.hid (headM_le s[0].toNat)
        go_wp2_with (first | (go_at_call 73; refine (may_any _ _).mono ?_; rintro e w' ⟨rfl, rfl⟩) | (go_at_call 65; refine (size_any _ _).mono ?_; rintro e w' ⟨rfl, rfl⟩))
        · have hlt : (k : Int) < headM s[0].toNat := by assumption
          have hb : (bits .and .u8 (s[k + 1].toNat : Int) 192 != 128) = true := by assumption
          go_step3
          exact ⟨rfl, wild_mk (getP_none2 (j := k) (by rw [← bt_of h0]; exact hlt) (by rw [and192, bt_of (s := s) (k := k + 1) (by omega)] at hb; simpa using hb))⟩
        · have hlt : (k : Int) < headM s[0].toNat := by assumption
          have hb : (bits .and .u8 (s[k + 1].toNat : Int) 192 != 128) = false := by assumption
          have hm := Hm.out
          have ha := Ha.out (by omega)
          go_round
          case rel => 
            refine ⟨k + 1, by omega, by simp, ?_, ?_⟩
            · rw [and63, or64 _ _ ha.1 ha.2 (by omega) (by omega), bt_of (s := s) (k := k + 1) (by omega)]; rfl
            · intro j hj
              rcases Nat.lt_or_ge j k with h | h
              · exact Hc.out j h
              · obtain rfl : j = k := by omega
                rw [and192, bt_of (s := s) (k := j + 1) (by omega)] at hb; simpa using hb
          case measure => simp [intOf]; omega
        · have hge : headM s[0].toNat ≤ (k : Int) := by assumption
          have hy : mayB (acc s (headR s[0].toNat) k) = true := by assumption
          have hz : (sizeN (acc s (headR s[0].toNat) k) == headM s[0].toNat + 1) = true := by assumption
          have hkm : k = (headM s[0].toNat).toNat := by omega
          have hg : getP s = (acc s (headR s[0].toNat) k, headM s[0].toNat + 1) := by
            rw [hkm, bt_of h0]
            refine getP_some h0 (by rwa [bt_of] at h1) (by rwa [bt_of] at h2) (fun j hj => Hc.out j ?_) ?_ ?_
            · rw [hkm, bt_of]; omega
            · rw [← bt_of h0, ← hkm]; exact hy
            · rw [← bt_of h0, ← hkm]; exact beq_iff_eq.1 hz
          have he : errOf (headM s[0].toNat + 1) = 0 := by unfold errOf; rw [if_neg (by omega)]
          simp only [Exit.jump]
          go_ret3
          exact ⟨by rw [hg]; exact ret3 rfl rfl he.symm, rfl⟩
        all_goals
         (have hge : headM s[0].toNat ≤ (k : Int) := by assumption
          have hkm : k = (headM s[0].toNat).toNat := by omega
          have hn : getP s = (0, 0) := by
            apply getP_none3
            rw [← bt_of h0, ← hkm]
            rintro ⟨q1, q2⟩
            first 
            | (have hz : (sizeN (acc s (headR s[0].toNat) k) == headM s[0].toNat + 1) = false := by assumption
               rw [q2] at hz; simp at hz)
            | (have hz : ¬ mayB (acc s (headR s[0].toNat) k) = true := by assumption
               exact hz q1)
          have Hn := Lib.hid hn; clear hn
          go_step3
          go_wp2
          simp only [Exit.jump]
          go_ret3
          exact ⟨by rw [Hn.out]; rfl, rfl⟩)
  · rintro a' w' ⟨rfl, hp, u0, u1, u2, u3, u4, u5, u6, u7, u8, u9, u10, u11, u12, u13, u14, u15, u16, u17, u18, u19, u20, u21, u22, u23, u24, u25, u26, u27, u28, u29, u30, u31, u32, u33, u34, u35, u36, u37, u38, u39, u40, u41, u42, u43, u44, u45, u46, u47, u48, u49, u50, u51, u52, u53, u54, u55, rfl⟩
    have Hp := Lib.hid hp; clear hp
    go_wp2
    simp only [Exit.jump]
    go_ret3
    exact ⟨by rw [Hp.out]; rfl, rfl⟩

theorem get_any (s : ByteArray) (hs : s.size ≤ 9223372036854775807) (w : World) :
    Calls Tryd.prog 67 #[.string s] w fun e w' => e = .returned (.tuple #[.int .i64 (getP s).1, .int .i64 (getP s).2, .int .i64 (errOf (getP s).2)]) ∧ w = w' := by
  rcases Nat.eq_zero_or_pos s.size with h | h
  · exact get_empty s h w
  · by_cases h1 : headM (bt s 0) < 0 ∨ (s.size : Int) ≤ headM (bt s 0)
    · exact get_bad s hs h h1 w
    · exact get_main s hs h (by omega) (by omega) w
end Go.Proofs.YtmgaibeibfholaaDoor


