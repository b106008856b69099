/- UtfMakes returns true, for every list of numbers. -/
import Derived.Test.YthgocbehdomekaaA13
namespace Go.Proofs.Ythgocbehdomekaa
open Go.RowKit Go.Shelf Plain
set_option linter.unusedVariables false

theorem of_yes (a : Option Addr) (cap : Nat) (zs : List Int) (hz : zs.length ≤ 100000000) (w : World) (ha : IAt w a zs) (h : allMay zs = true) :
    Calls Try.prog 19 #[.slice a zs.length cap] w fun e w' => e = .returned (.tuple #[.string (strOfNums (bytesOf zs)), .int .i64 0]) ∧ Below w.heap.size w w' := by
  have := of_any a cap zs hz w ha
  unfold OfPost at this
  simp only [if_pos h] at this
  exact this
theorem of_no (a : Option Addr) (cap : Nat) (zs : List Int) (hz : zs.length ≤ 100000000) (w : World) (ha : IAt w a zs) (h : allMay zs = false) :
    Calls Try.prog 19 #[.slice a zs.length cap] w fun e w' => e = .returned (.tuple #[.string ByteArray.empty, .int .i64 2]) ∧ Below w.heap.size w w' := by
  have := of_any a cap zs hz w ha
  unfold OfPost at this
  simp only [if_neg (show ¬ allMay zs = true by rw [h]; simp)] at this
  exact this
theorem IAt.below {w w' : World} {a : Option Addr} {zs : List Int} (h : IAt w a zs) (hb : Below w.heap.size w w') : IAt w' a zs := fun j hj => by
  obtain ⟨g, off, rfl, hg, h1⟩ := h j hj
  exact ⟨g, off, rfl, Nat.lt_of_lt_of_le hg hb.size, (hb.cell (p := ⟨g, off + j, none⟩) hg).trans h1⟩

set_option maxRecDepth 100000 in
set_option maxHeartbeats 2000000 in
theorem utfMakes_any (a : Option Addr) (cap : Nat) (zs : List Int) (hz : zs.length ≤ 3000) (w : World) (ha : IAt w a zs) :
    Calls Try.prog 6 #[.slice a zs.length cap] w fun e w' => e = .returned (.bool true) ∧ Below w.heap.size w w' := by
  obtain ⟨i0, hi, hz0, hz1, hz2⟩ := info_parts Try.info5
  have Hi := Lib.hid hi; have Hz0 := Lib.hid hz0; have Hz1 := Lib.hid hz1; have Hz2 := Lib.hid hz2; have Ha := Lib.hid ha
  clear hi hz0 hz1 hz2 ha
  go_enter Try.func6, Try.ntmps6
  go_wp2
  go_loopw [3, 4, 5] (fun v g n wr => ∃ (k : Nat) (b : Bool), k ≤ zs.length ∧ n = .int .i64 k ∧ g = .bool b ∧ allMay (zs.take k) = b ∧ (b = true → OwnB w.heap.size wr v (bytesOf (zs.take k))) ∧ Below w.heap.size w wr) (fun _ _ n _ => zs.length - (intOf n).toNat)
  case atStart => exact ⟨0, true, by omega, rfl, rfl, rfl, fun _ => World.ownsRow_nil _ _ _ _, Below.refl _ _⟩
  case round =>
    obtain ⟨k, b, hk, rfl, rfl, hm, ho, hb⟩ := hrel
    have Ho := Lib.hid ho; have Hm := Lib.hid hm; have Hb := Lib.hid hb
    clear ho hm hb
    by_cases hlt : k < zs.length
    · obtain ⟨g, off, rfl, hg, hc⟩ := Ha.out k hlt
      have hc' := (Hb.out.cell (p := ⟨g, off + k, none⟩) hg).trans hc
      clear hc
      obtain ⟨r, hr⟩ : ∃ r, zs[k] = r := ⟨_, rfl⟩
      rw [hr] at hc'
      have hsn : zs.take (k + 1) = zs.take k ++ [r] := by rw [List.take_succ_eq_append_getElem hlt, hr]
      have hblen := bytesOf_len (zs.take k)
      rw [List.length_take, Nat.min_eq_left hk] at hblen
      have hp4 := putL_len4 r
      have hall : allMay (zs.take (k + 1)) = (allMay (zs.take k) && mayB r) := by rw [hsn]; simp [allMay]
      have Hsn := Lib.hid hsn; have Hall := Lib.hid hall; clear hsn hr hall
      cases b with
      | false =>
        go_wp2
        go_roundw
        case rel => exact ⟨k + 1, false, by omega, by go_num, rfl, by rw [Hall.out, Hm.out]; rfl, (fun h => by cases h), Hb.out⟩
        case measure => simp [intOf]; omega
      | true =>
        have Ho' := Lib.hid (Ho.out rfl)
        clear Ho
        cases hmay : mayB r with
        | false =>
          have Hmay : Hid (¬ mayB r = true) := fun h => by rw [hmay] at h; cases h
          have Hmay' := Lib.hid hmay; clear hmay
          go_wp2_with (go_at_call 13; refine (rmay_no _ Hmay.out _).mono ?_; rintro e w' ⟨rfl, rfl⟩)
          go_roundw
          case rel => exact ⟨k + 1, false, by omega, by go_num, rfl, by rw [Hall.out, Hmay'.out, Bool.and_false], (fun h => by cases h), Hb.out⟩
          case measure => simp [intOf]; omega
        | true =>
          have Hr := Lib.hid ((may_iff r).1 hmay)
          have Hmay := Lib.hid hmay; clear hmay
          go_wp2_with fail
          refine (rmay_yes _ Hmay.out _).mono ?_
          rintro e w' ⟨rfl, rfl⟩
          go_wp2_with fail
          refine (rput_any _ Hr.out.1 Hr.out.2.1 _).mono ?_
          rintro e w1 ⟨v, rfl, hov, hb1⟩
          rcases own_cells hov with ⟨_, h0⟩ | ⟨gv, cv, rfl, _, _, _⟩
          · rw [h0] at hp4; simp at hp4
          have Hnews := Lib.hid (World.ownsRow.cells hov (g := gv) rfl)
          have HB := Lib.hid (Below.trans Hb.out (hb1.mono Hb.out.size))
          have Ho1 := Lib.hid (own_below Ho'.out hb1)
          clear hov hb1
          go_wp2_with (at_builtin; refine wpList_append_own _ rfl _ _ 23 rfl w.heap.size 5 i0 (.int .u8 0) 1 1 Try.underlying23 Hi.out Hz0.out Hz1.out Hz2.out rfl (by decide) _ _ _ rfl Ho1.out ⟨gv, 0, none⟩ (putL r).length cv ((putL r).map (Value.int .u8)) rfl (by simp) Hnews.out (ints_oneCell _ _) (by unfold maxLen; omega) (by omega) HB.out.size ?_; intro v' w2 hown' hgrow _; have HB2 := Lib.hid (HB.out.grown hgrow HB.out.size (fun j hj => (Ho1.out.lt j hj).1)); have Ho2 := Lib.hid hown'; clear hown' hgrow)
          go_roundw
          case rel =>
            refine ⟨k + 1, true, by omega, by go_num, rfl, by rw [Hall.out, Hm.out, Hmay.out]; rfl, fun _ => ?_, HB2.out⟩
            have := Ho2.out
            unfold OwnB
            rw [Hsn.out, bytesOf_snoc, List.length_append, List.map_append]
            exact this
          case measure => simp [intOf]; omega
    · have hk' : k = zs.length := by omega
      have hall : allMay zs = b := by rw [← Hm.out, hk', List.take_length]
      have HK := Lib.hid hk'; have Hall := Lib.hid hall; clear hk' hall
      have Ha' := Lib.hid (Ha.out.below (Hb.out))
      cases b with
      | false =>
        go_wp2_with (first | (go_at_call 19; refine (of_no a cap zs (by omega) _ Ha'.out Hall.out).mono ?_; rintro e w1 ⟨rfl, hb1⟩; have HB1 := Lib.hid (Hb.out.trans (hb1.mono Hb.out.size)); clear hb1) | (go_at_call 12; refine (num_any _ _).mono ?_; rintro e w' ⟨rfl, rfl⟩) | (go_at_call 8; refine (known_any _).mono ?_; rintro e w2 ⟨rfl, hb2⟩; have HB2 := Lib.hid (HB1.out.trans (hb2.mono HB1.out.size)); clear hb2))
        go_ret
        exact ⟨rfl, HB2.out⟩
      | true =>
        have Ho' := Lib.hid (Ho.out rfl)
        clear Ho
        go_wp2_with fail
        refine (of_yes a cap zs (by omega) _ Ha'.out Hall.out).mono ?_
        rintro e w1 ⟨rfl, hb1⟩
        have HB1 := Lib.hid (Hb.out.trans (hb1.mono Hb.out.size))
        have hcv := own_string (own_below Ho'.out hb1)
        rw [show zs.take k = zs by rw [HK.out, List.take_length]] at hcv
        clear hb1
        go_wp2_with (first | (go_at_call 12; refine (num_any _ _).mono ?_; rintro e w' ⟨rfl, rfl⟩) | (go_at_call 8; refine (known_any _).mono ?_; rintro e w2 ⟨rfl, hb2⟩; have HB2 := Lib.hid (HB1.out.trans (hb2.mono HB1.out.size)); clear hb2))
        go_ret
        exact ⟨rfl, HB2.out⟩

set_option maxHeartbeats 2000000 in
theorem utfMakes_long (a : Option Addr) (len cap : Nat) (hz : 3000 < len) (w : World) :
    Calls Try.prog 6 #[.slice a len cap] w fun e w' => e = .returned (.bool true) ∧ Below w.heap.size w w' := by
  go_enter Try.func6, Try.ntmps6
  go_wp2_with (go_at_call 8; refine (known_any _).mono ?_; rintro e w2 ⟨rfl, hb2⟩; have HB2 := Lib.hid hb2; clear hb2)
  go_ret
  exact ⟨rfl, HB2.out⟩
end Go.Proofs.Ythgocbehdomekaa
