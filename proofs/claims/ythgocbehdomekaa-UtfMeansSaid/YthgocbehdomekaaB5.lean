/- UtfMeans returns true, for every number and every two texts. -/
import Derived.Test.YthgocbehdomekaaB4
import Derived.Test.YthgocbehdomekaaB1
import Derived.Test.YthgocbehdomekaaB2
import Derived.Test.YthgocbehdomekaaPure4
namespace Go.Proofs.Ythgocbehdomekaa
open Go.RowKit Go.Shelf Plain
set_option linter.unusedVariables false

theorem own_iat {base : Nat} {w : World} {v : Value} {zs : List Int} (h : OwnI base w v zs) : ∃ a cap, v = .slice a zs.length cap ∧ IAt w a zs := by
  rcases h.2 with ⟨rfl, hn⟩ | ⟨g, cap, cur, rfl, hb, hg, _⟩
  · exact ⟨none, 0, by rw [hn], fun j hj => by omega⟩
  · refine ⟨some ⟨g, 0, none⟩, cap, rfl, fun j hj => ⟨g, 0, rfl, (Array.getElem?_eq_some_iff.1 hg).1, ?_⟩⟩
    have := World.ownsRow.cells h (g := g) rfl j (.int .i64 zs[j]) (by simp [List.getElem?_eq_getElem hj])
    rw [← this]; unfold Addr.add; split <;> simp_all
theorem getj_any (r : Int) (s : ByteArray) (hs : s.size ≤ 100000) (hm : mayB r = true) (w : World) :
    Calls Try.prog 10 #[.string (strOfNums (putL r) ++ s)] w fun e w' => e = .returned (.tuple #[.int .i64 r, .int .i64 (putL r).length, .int .i64 0]) ∧ w = w' := by
  have hl := putL_len4 r
  refine get2_any _ ?_ r _ 0 ?_ ?_ w
  · rw [ByteArray.size_append, strOfNums_size]; omega
  · rw [bl_append, bl_str (putL_isB hm)]; exact getL_putL hm _
  · unfold errOf; rw [if_neg (by omega)]

set_option maxRecDepth 100000 in
set_option maxHeartbeats 2000000 in
theorem utfMeans_long (r : Int) (s t : ByteArray) (h : 3000 < s.size ∨ 3000 < t.size) (w : World) :
    Calls Try.prog 7 #[.int .i64 r, .string s, .string t] w fun e w' => e = .returned (.bool true) ∧ Below w.heap.size w w' := by
  by_cases hs : 3000 < s.size
  · clear h
    go_enter Try.func7, Try.ntmps7
    go_wp2_with fail
    refine (known_any _).mono ?_
    rintro e w1 ⟨rfl, hb1⟩
    have HB1 := Lib.hid hb1; clear hb1
    go_wp2
    go_ret
    exact ⟨rfl, HB1.out⟩
  · have ht : 3000 < t.size := by omega
    clear h
    go_enter Try.func7, Try.ntmps7
    go_wp2_with fail
    refine (known_any _).mono ?_
    rintro e w1 ⟨rfl, hb1⟩
    have HB1 := Lib.hid hb1; clear hb1
    go_wp2
    go_ret
    exact ⟨rfl, HB1.out⟩

set_option maxRecDepth 100000 in
set_option maxHeartbeats 2000000 in
theorem utfMeans_short (r : Int) (s t : ByteArray) (hs : s.size ≤ 3000) (ht : t.size ≤ 3000) (w : World) :
    Calls Try.prog 7 #[.int .i64 r, .string s, .string t] w fun e w' => e = .returned (.bool true) ∧ Below w.heap.size w w' := by
  obtain ⟨bs, hbs⟩ : ∃ b, validB s = b := ⟨_, rfl⟩
  obtain ⟨bt, hbt⟩ : ∃ b, validB t = b := ⟨_, rfl⟩
  obtain ⟨m, hm⟩ : ∃ b, mayB r = b := ⟨_, rfl⟩
  have Hbs := Lib.hid hbs; have Hbt := Lib.hid hbt; have Hm := Lib.hid hm; clear hbs hbt hm
  have hp4 := putL_len4 r
  have hadd : (strOfNums (putL r)).size + s.size ≤ 9223372036854775807 := by rw [strOfNums_size]; omega
  cases m
  all_goals
    go_enter Try.func7, Try.ntmps7
    go_wp2_with fail
    refine (known_any _).mono ?_
    rintro e w1 ⟨rfl, hb1⟩
    have HB1 := Lib.hid hb1; clear hb1
    go_wp2_with fail
  all_goals
    first
    | (refine (put_no _ Hm.out _).mono ?_
       rintro e w' ⟨rfl, rfl⟩
       have HB2 := HB1
       go_wp2_with (go_at_call 12; refine (num_any _ _).mono ?_; rintro e w' ⟨rfl, rfl⟩))
    | (refine (put_yes _ Hm.out _).mono ?_
       rintro e w2 ⟨v, rfl, ho, hb2⟩
       have hw : ∃ gv cv, v = .slice (some ⟨gv, 0, none⟩) (putL r).length cv := by
         rcases own_cells ho with ⟨_, h0⟩ | ⟨gv, cv, h1, _⟩
         · rw [h0] at hp4; simp at hp4
         · exact ⟨gv, cv, h1⟩
       obtain ⟨gv, cv, rfl⟩ := hw
       have HB2 := Lib.hid (HB1.out.trans (hb2.mono HB1.out.size)); clear hb2
       have hcv := own_string ho
       clear ho
       go_wp2_with (first | (go_at_call 12; refine (num_any _ _).mono ?_; rintro e w' ⟨rfl, rfl⟩) | (go_at_call 10; refine (getj_any r s (by omega) Hm.out _).mono ?_; rintro e w' ⟨rfl, rfl⟩))
       clear hcv)
  all_goals
    refine (valid_any s (by omega) _ Hbs.out _).mono ?_
    rintro e w3 ⟨rfl, hb3⟩
    have HB3 := Lib.hid (HB2.out.trans (hb3.mono HB2.out.size)); clear hb3
    cases bs
  all_goals
    go_wp2_with fail
  all_goals
    first
    | (go_ret; exact ⟨rfl, HB3.out⟩)
    | skip
  all_goals
    refine (valid_any t (by omega) _ Hbt.out _).mono ?_
    rintro e w4 ⟨rfl, hb4⟩
    have HB4 := Lib.hid (HB3.out.trans (hb4.mono HB3.out.size)); clear hb4
    cases bt
  all_goals
    go_wp2_with fail
  all_goals
    first
    | (go_ret; exact ⟨rfl, HB4.out⟩)
    | skip
  all_goals
    have os := str_runes ((validB_iff s).1 Hbs.out)
    have hX := less_runes ((validB_iff s).1 Hbs.out) ((validB_iff t).1 Hbt.out)
    have hLA : (rvals (rl (bl s) 0)).length ≤ 3000 := by have := rl_length (bl_isB s) 0; rw [bl_length] at this; unfold rvals; rw [List.length_map]; omega
    have hLB : (rvals (rl (bl t) 0)).length ≤ 3000 := by have := rl_length (bl_isB t) 0; rw [bl_length] at this; unfold rvals; rw [List.length_map]; omega
    have Hs := Lib.hid os; have HX := Lib.hid hX; clear os hX
    refine (lrunes_any s (by omega) _).mono ?_
    rintro e w5 ⟨v5, rfl, ho5, hb5⟩
    obtain ⟨a5, c5, rfl, hA⟩ := own_iat ho5
    have HB5 := Lib.hid (HB4.out.trans (hb5.mono HB4.out.size)); have HA := Lib.hid hA; clear ho5 hb5 hA
    go_wp2_with fail
    refine (lrunes_any t (by omega) _).mono ?_
    rintro e w6 ⟨v6, rfl, ho6, hb6⟩
    obtain ⟨a6, c6, rfl, hB⟩ := own_iat ho6
    have HA6 := Lib.hid (HA.out.below hb6)
    have HB6 := Lib.hid (HB5.out.trans (hb6.mono HB5.out.size)); have HBt := Lib.hid hB; clear ho6 hb6 hB
    go_wp2_with fail
    refine (of_yes a5 c5 _ (by omega) _ HA6.out Hs.out.2).mono ?_
    rintro e w7 ⟨rfl, hb7⟩
    rw [Hs.out.1]
    have HA7 := Lib.hid (HA6.out.below hb7); have HBt7 := Lib.hid (HBt.out.below hb7)
    have HB7 := Lib.hid (HB6.out.trans (hb7.mono HB6.out.size)); clear hb7
    generalize rvals (rl (bl s) 0) = A at HX hLA HA7 ⊢
    generalize rvals (rl (bl t) 0) = B at HX hLB HBt7 ⊢
    clear Hs HA HA6 HBt HB1 HB2 HB3 HB4 HB5 HB6 Hbs Hbt Hm
    go_wp2_with (go_at_call 12; refine (num_any _ _).mono ?_; rintro e w' ⟨rfl, rfl⟩)
    go_loopw [16, 17] (fun g i wr => ∃ k : Nat, k ≤ A.length ∧ k ≤ B.length ∧ i = .int .i64 k ∧ g = .bool false ∧ A.take k = B.take k ∧ IAt wr a5 A ∧ IAt wr a6 B ∧ Below w.heap.size w wr) (fun _ i _ => B.length - (intOf i).toNat)
    case atStart => exact ⟨0, by omega, by omega, rfl, rfl, rfl, HA7.out, HBt7.out, HB7.out⟩
    case round =>
      obtain ⟨k, hkA, hkB, rfl, rfl, hT, hA, hB, hbl⟩ := hrel
      have HT := Lib.hid hT; have HA := Lib.hid hA; have HB := Lib.hid hB; have HBl := Lib.hid hbl; clear hT hA hB hbl
      by_cases hlt : k < B.length
      · by_cases hltA : k < A.length
        · have hg : decide (A.length ≤ k) = false := by simp; omega
          obtain ⟨ga, oa, rfl, _, ca⟩ := HA.out k hltA
          obtain ⟨gb, ob, rfl, _, cb⟩ := HB.out k hlt
          have hlex := lex_lt A B k HT.out hltA hlt
          obtain ⟨x, hx⟩ : ∃ x, A[k] = x := ⟨_, rfl⟩
          obtain ⟨y, hy⟩ : ∃ y, B[k] = y := ⟨_, rfl⟩
          have hstep : x = y → A.take (k + 1) = B.take (k + 1) := fun e => by
            rw [List.take_succ_eq_append_getElem hltA, List.take_succ_eq_append_getElem hlt, HT.out, hx, hy, e]
          rw [hx] at ca hlex; rw [hy] at cb hlex
          have Hlex := Lib.hid hlex; have Hstep := Lib.hid hstep; clear hlex hx hy hstep
          by_cases hxy : x < y
          · have hd : decide (x < y) = true := decide_eq_true hxy
            have hres : lexLt A B = true := by rw [Hlex.out, hd]; rfl
            have Hres := Lib.hid (HX.out.trans hres); clear hres
            go_wp2
            go_quiet (fail)
            go_wp2
            go_ret
            exact ⟨retB (by rw [Hres.out]), drewN_below HBl.out⟩
          · have hd : decide (x < y) = false := decide_eq_false hxy
            by_cases hyx : y < x
            · have hd2 : decide (y < x) = true := decide_eq_true hyx
              have hres : lexLt A B = false := by rw [Hlex.out, hd]; simp; omega
              have Hres := Lib.hid (HX.out.trans hres); clear hres
              go_wp2
              go_quiet (fail)
              go_wp2
              go_quiet (fail)
              go_wp2
              go_ret
              exact ⟨retB (by rw [Hres.out]; rfl), drewN_below HBl.out⟩
            · have hd2 : decide (y < x) = false := decide_eq_false hyx
              go_wp2
              go_quiet (fail)
              go_wp2
              go_quiet (fail)
              go_wp2
              go_roundw
              case rel => exact ⟨k + 1, by omega, by omega, by go_num, rfl, Hstep.out (by omega), HA.out, HB.out, drewN_below HBl.out⟩
              case measure => simp [intOf]; omega
        · have hg : decide (A.length ≤ k) = true := by simp; omega
          have hres : lexLt A B = true := lex_short A B (by have := HT.out; rw [show k = A.length by omega, List.take_length] at this; exact this) (by omega)
          have Hres := Lib.hid (HX.out.trans hres); clear hres
          go_wp2
          go_quiet (fail)
          go_wp2
          go_ret
          exact ⟨retB (by rw [Hres.out]), drewN_below HBl.out⟩
      · have hres : lexLt A B = false := lex_end A B (by have := HT.out; rw [show k = B.length by omega, List.take_length] at this; exact this) (by omega)
        have Hres := Lib.hid (HX.out.trans hres); clear hres
        go_wp2
        go_ret
        exact ⟨retB (by rw [Hres.out]; rfl), HBl.out⟩

theorem utfMeans_any (r : Int) (s t : ByteArray) (w : World) :
    Calls Try.prog 7 #[.int .i64 r, .string s, .string t] w fun e w' => e = .returned (.bool true) ∧ Below w.heap.size w w' := by
  by_cases h : s.size ≤ 3000 ∧ t.size ≤ 3000
  · exact utfMeans_short r s t h.1 h.2 w
  · exact utfMeans_long r s t (by omega) w
end Go.Proofs.Ythgocbehdomekaa
