/- The reference Get returns the first number of bytes that are those of a rune. -/
import Derived.Test.YthgocbehdomekaaA4
import Derived.Laws.BytesArg
import Derived.Deep.RegionWith
import Derived.Deep.LoopGhost
import Derived.Deep.QuietTactic
import Derived.BigQuiet
namespace Go.Proofs.Ythgocbehdomekaa
open Go.RowKit Plain
set_option linter.unusedVariables false

def md (n : Nat) : Int := if n = 2 then 32 else if n = 3 then 16 else if n = 4 then 8 else 1
def dig (s : ByteArray) (n i : Nat) : Int := if i = 0 then (if 1 < n then bt s 0 % md n else bt s 0) else bt s i % 64
def cnd (s : ByteArray) (n : Nat) : Nat → Int
  | 0 => 0
  | i + 1 => 64 * cnd s n i + dig s n i
theorem dig_bd (s : ByteArray) (n i : Nat) : 0 ≤ dig s n i ∧ dig s n i ≤ 255 := by
  have := bt_ge s 0; have := bt_le s 0; have := bt_ge s i; have := bt_le s i
  unfold dig; split
  · split
    · have : md n = 32 ∨ md n = 16 ∨ md n = 8 ∨ md n = 1 := by unfold md; (repeat' split) <;> simp
      rcases this with h | h | h | h <;> rw [h] <;> omega
    · omega
  · omega
theorem cnd_bd (s : ByteArray) (n : Nat) : ∀ i, i ≤ 4 → 0 ≤ cnd s n i ∧ cnd s n i ≤ 100000000
  | 0, _ => by simp [cnd]
  | 1, _ => by have := dig_bd s n 0; simp [cnd]; omega
  | 2, _ => by have := dig_bd s n 0; have := dig_bd s n 1; simp [cnd]; omega
  | 3, _ => by have := dig_bd s n 0; have := dig_bd s n 1; have := dig_bd s n 2; simp [cnd]; omega
  | 4, _ => by have := dig_bd s n 0; have := dig_bd s n 1; have := dig_bd s n 2; have := dig_bd s n 3; simp [cnd]; omega
  | k + 5, h => by omega
def okN (s : ByteArray) (n : Nat) : Bool := mayB (cnd s n n) && ((strOfNums (putL (cnd s n n))).toList == (s.extract 0 n).toList)

theorem own_cells {base : Nat} {w : World} {v : Value} {xs : List Int} (h : OwnB base w v xs) :
    (v = .slice none 0 0 ∧ xs = []) ∨ ∃ g cap, v = .slice (some ⟨g, 0, none⟩) xs.length cap ∧ base ≤ g ∧ g < w.heap.size ∧ ∀ i, i < xs.length → w.cell? ⟨g, 0 + i, none⟩ = some (.int .u8 (xs.getD i 0)) := by
  rcases h.2 with ⟨rfl, hn⟩ | ⟨g, cap, cur, rfl, hb, hg, _⟩
  · left; exact ⟨rfl, List.eq_nil_of_length_eq_zero hn⟩
  · right
    refine ⟨g, cap, rfl, hb, (Array.getElem?_eq_some_iff.1 hg).1, fun i hi => ?_⟩
    have := World.ownsRow.cells h (g := g) rfl i (.int .u8 (xs.getD i 0)) (by simp [List.getElem?_eq_getElem hi, List.getD])
    rw [← this]; unfold Addr.add; split <;> simp_all
theorem own_string {base : Nat} {w : World} {v : Value} {xs : List Int} (h : OwnB base w v xs) : (convert 23 9 v).run Try.prog w = .ok (.string (strOfNums xs)) w := by
  rcases own_cells h with ⟨rfl, rfl⟩ | ⟨g, cap, rfl, _, _, hc⟩
  · exact run_convert_bytes_nil w 23 5 Try.underlying23 Try.underlying5 0 0 9 Try.underlying9
  · exact run_convert_bytes_arg w 23 5 Try.underlying23 Try.underlying5 g 0 _ cap xs rfl hc 9 Try.underlying9
theorem drewN_below {n : Nat} {w w1 : World} {k : Nat} (h : Below n w w1) : Below n w (w1.drewN k) := ⟨h.os, h.tape, h.output, h.size, h.block⟩
theorem rmay_yes (r : Int) (h : mayB r = true) (w : World) : Calls Try.prog 13 #[.int .i64 r] w fun e w' => e = .returned (.bool true) ∧ w = w' := by
  rw [← h]; exact rmay_any r w
theorem rmay_no (r : Int) (h : ¬ mayB r = true) (w : World) : Calls Try.prog 13 #[.int .i64 r] w fun e w' => e = .returned (.bool false) ∧ w = w' := by
  rw [← (by simpa using h : mayB r = false)]; exact rmay_any r w
theorem rmay_no' (r : Int) (h : ¬ mayB r = true) (w : World) : Calls Try.prog 13 #[.int .i64 r] w fun e w' => e = .returned (.bool false) ∧ w' = w :=
  (rmay_no r h w).mono fun e w' h => ⟨h.1, h.2.symm⟩
set_option maxRecDepth 100000 in
set_option maxHeartbeats 2000000 in
theorem rget_any (s : ByteArray) (hs : s.size ≤ 9223372036854775000) (w : World) (res : Int × Int)
    (hyes : ∀ n, 1 ≤ n → n ≤ 4 → n ≤ s.size → (∀ m, 1 ≤ m → m < n → okN s m = false) → okN s n = true → res = (cnd s n n, (n : Int)))
    (hno : (∀ m, 1 ≤ m → m ≤ 4 → m ≤ s.size → okN s m = false) → res = (0, 0)) :
    Calls Try.prog 11 #[.string s] w fun e w' => e = .returned (.tuple #[.int .i64 res.1, .int .i64 res.2]) ∧ Below w.heap.size w w' := by
  have Hy := Lib.hid hyes; have Hn := Lib.hid hno; clear hyes hno
  go_enter Try.func11, Try.ntmps11
  go_wp2
  go_loopw [4] (fun n wr => ∃ k : Nat, 1 ≤ k ∧ k ≤ 5 ∧ n = .int .i64 k ∧ (∀ m, 1 ≤ m → m < k → m ≤ s.size ∧ okN s m = false) ∧ Below w.heap.size w wr) (fun n _ => 5 - (intOf n).toNat)
  case atStart => exact ⟨1, by omega, by omega, rfl, fun m h1 h2 => by omega, Below.refl _ _⟩
  case round =>
    obtain ⟨k, hk1, hk5, rfl, hm, hb⟩ := hrel
    have Hm := Lib.hid hm; clear hm
    have Hb := Lib.hid hb; clear hb
    by_cases hk : k ≤ 4 ∧ k ≤ s.size
    · obtain ⟨g1, g2⟩ := hk
      have g3 : decide ((k : Int) ≤ 4) = true := by simp; omega
      go_wp2
      obtain ⟨wo, rfl⟩ : ∃ wo : World, wo = wr := ⟨_, rfl⟩
      go_loopw [5, 6] (fun r i wi => ∃ j : Nat, j ≤ k ∧ i = .int .i64 j ∧ r = .int .i64 (cnd s k j) ∧ Below w.heap.size w wi) (fun _ i _ => k - (intOf i).toNat)
      case atStart => exact ⟨0, by omega, rfl, rfl, Hb.out⟩
      case round =>
        obtain ⟨j, hj, rfl, rfl, hbi⟩ := hrel
        have Hbi := Lib.hid hbi; clear hbi
        have hc := cnd_bd s k j (by omega)
        have hd := dig_bd s k j
        by_cases hlt : j < k
        · have hjs : j < s.size := by omega
          have hb0 := byte_ge s[j]
          have hb1 := byte_le s[j]
          have Hc1 : Hid (cnd s k (j + 1) = 64 * cnd s k j + dig s k j) := rfl
          by_cases hj0 : j = 0
          · subst hj0
            by_cases hk1' : k = 1
            · subst hk1'
              have Hd : Hid ((s[0].toNat : Int) = dig s 1 0) := by rw [bt_of hjs]; exact rfl
              go_wp2
              go_roundw
              case rel => exact ⟨1, by omega, by simp, by rw [Hc1.out, ← Hd.out], Hbi.out⟩
              case measure => simp [intOf]
            · have hk2 : k = 2 ∨ k = 3 ∨ k = 4 := by omega
              have hbl := Below.alloc (o := .cells #[.int .i64 1, .int .i64 1, .int .i64 32, .int .i64 16, .int .i64 8] 3) Hbi.out Hbi.out.size
              have Hbl := Lib.hid hbl; clear hbl
              rcases hk2 with rfl | rfl | rfl
              · have Hd : Hid ((s[0].toNat : Int) % 32 = dig s 2 0) := by rw [bt_of hjs]; exact rfl
                go_wp2
                go_roundw
                case rel => exact ⟨1, by omega, by simp, by rw [Hc1.out, ← Hd.out], Hbl.out⟩
                case measure => simp [intOf]
              · have Hd : Hid ((s[0].toNat : Int) % 16 = dig s 3 0) := by rw [bt_of hjs]; exact rfl
                go_wp2
                go_roundw
                case rel => exact ⟨1, by omega, by simp, by rw [Hc1.out, ← Hd.out], Hbl.out⟩
                case measure => simp [intOf]
              · have Hd : Hid ((s[0].toNat : Int) % 8 = dig s 4 0) := by rw [bt_of hjs]; exact rfl
                go_wp2
                go_roundw
                case rel => exact ⟨1, by omega, by simp, by rw [Hc1.out, ← Hd.out], Hbl.out⟩
                case measure => simp [intOf]
          · have Hd : Hid ((s[j].toNat : Int) % 64 = dig s k j) := by rw [bt_of hjs]; unfold dig; rw [if_neg hj0]; exact rfl
            go_wp2
            go_roundw
            case rel => exact ⟨j + 1, by omega, by simp, by rw [Hc1.out, ← Hd.out], Hbi.out⟩
            case measure => simp [intOf]; omega
        · obtain rfl : j = k := by omega
          have Hbd : Hid (0 ≤ cnd s j j ∧ cnd s j j ≤ 100000000) := hc
          clear hc hd
          go_wp2
          by_cases hmay : mayB (cnd s j j) = true
          · have hmb : Hid (0 ≤ cnd s j j ∧ cnd s j j ≤ 1114111) := by unfold mayB at hmay; have := of_decide_eq_true hmay; exact ⟨this.1, this.2.1⟩
            have Hmay := Lib.hid hmay; clear hmay
            go_region_with (first | (go_at_call 13; refine (rmay_yes _ Hmay.out _).mono ?_; rintro e w' ⟨rfl, rfl⟩) | (go_at_call 14; refine (rput_any _ hmb.out.1 hmb.out.2 _).mono ?_; rintro e w' ⟨v, rfl, ho, hbb⟩; have hcv := own_string ho; have Hbb := Lib.hid hbb; clear ho hbb))
            go_wp2
            · have heq : ((strOfNums (putL (cnd s j j))).toList == (s.extract 0 j).toList) = true := by assumption
              have hr := Hy.out j hk1 g1 g2 (fun m h1 h2 => (Hm.out m h1 h2).2) (by unfold okN; rw [Hmay.out, heq]; rfl)
              have hB := Below.trans (Below.drew Hbi.out) (Hbb.out.mono (by have := Hbi.out.size; simpa using this))
              go_ret2
              exact ⟨by rw [hr]; exact rfl, hB⟩
            · have heq : ((strOfNums (putL (cnd s j j))).toList == (s.extract 0 j).toList) = false := by assumption
              have hB := Below.trans (Below.drew Hbi.out) (Hbb.out.mono (by have := Hbi.out.size; simpa using this))
              go_roundw
              case rel => 
                refine ⟨j + 1, by omega, by omega, by simp, fun m h1 h2 => ?_, hB⟩
                rcases Nat.lt_or_ge m j with h | h
                · exact Hm.out m h1 h
                · obtain rfl : m = j := by omega
                  exact ⟨g2, by unfold okN; rw [heq]; simp⟩
              case measure => simp [intOf]; omega
          · have Hmay := Lib.hid hmay; clear hmay
            go_quiet ((go_at_call 13; exact Calls.quiet_of_same (rmay_no' _ Hmay.out _)))
            go_wp2
            go_roundw
            case rel =>
              refine ⟨j + 1, by omega, by omega, by simp, fun m h1 h2 => ?_, drewN_below Hbi.out⟩
              rcases Nat.lt_or_ge m j with h | h
              · exact Hm.out m h1 h
              · obtain rfl : m = j := by omega
                exact ⟨g2, by have hq := Hmay.out; unfold okN; simp [hq]⟩
            case measure => simp [intOf]; omega
    · go_wp2
      · go_ret2
        rw [Hn.out (fun m h1 h2 h3 => (Hm.out m h1 (by omega)).2)]
        exact ⟨rfl, Hb.out⟩
      · go_ret2
        rw [Hn.out (fun m h1 h2 h3 => (Hm.out m h1 (by omega)).2)]
        exact ⟨rfl, Hb.out⟩
end Go.Proofs.Ythgocbehdomekaa
