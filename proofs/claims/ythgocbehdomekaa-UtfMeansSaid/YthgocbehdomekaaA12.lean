/- Utf.Of returns the bytes of runes, or ErrArg. -/
import Derived.Test.YthgocbehdomekaaA11
namespace Go.Proofs.Ythgocbehdomekaa
open Go.RowKit Go.Shelf Plain
set_option linter.unusedVariables false

/-- a slice that begins at a holds the numbers zs, as the world w has them -/
def IAt (w : World) (a : Option Addr) (zs : List Int) : Prop :=
  ∀ j (h : j < zs.length), ∃ g off, a = some ⟨g, off, none⟩ ∧ g < w.heap.size ∧ w.cell? ⟨g, off + j, none⟩ = some (.int .i64 zs[j])
def allMay (zs : List Int) : Bool := zs.all mayB
def bytesOf (zs : List Int) : List Int := zs.flatMap putL
theorem bytesOf_snoc (zs : List Int) (r : Int) : bytesOf (zs ++ [r]) = bytesOf zs ++ putL r := by simp [bytesOf]
theorem putL_len4 (r : Int) : 1 ≤ (putL r).length ∧ (putL r).length ≤ 4 := by
  unfold putL; (repeat' split) <;> simp
theorem bytesOf_len (zs : List Int) : (bytesOf zs).length ≤ 4 * zs.length := by
  induction zs with
  | nil => simp [bytesOf]
  | cons a t ih => have := putL_len4 a; simp [bytesOf] at ih ⊢; omega
theorem bytesOf_isB {zs : List Int} (h : allMay zs = true) : ∀ c ∈ bytesOf zs, isB c := by
  intro c hc
  obtain ⟨r, hr, hcr⟩ := List.mem_flatMap.1 hc
  exact putL_isB (List.all_eq_true.1 h r hr) c hcr

/-- what Of answers -/
def OfPost (w : World) (zs : List Int) (e : Ending) (w' : World) : Prop :=
  e = .returned (.tuple #[.string (if allMay zs = true then strOfNums (bytesOf zs) else ByteArray.empty), .int .i64 (if allMay zs = true then 0 else 2)]) ∧ Below w.heap.size w w'

theorem put_no' (r : Int) (h : mayB r = false) (w : World) :
    Calls Try.prog 9 #[.int .i64 r] w fun e w' => e = .returned (.tuple #[.slice none 0 0, .int .i64 2]) ∧ w = w' := put_no r h w

set_option maxRecDepth 100000 in
set_option maxHeartbeats 2000000 in
theorem of_any (a : Option Addr) (cap : Nat) (zs : List Int) (hz : zs.length ≤ 100000000) (w : World) (ha : IAt w a zs) :
    Calls Try.prog 19 #[.slice a zs.length cap] w (OfPost w zs) := by
  obtain ⟨i0, hi, hz0, hz1, hz2⟩ := info_parts Try.info5
  have Hi := Lib.hid hi; have Hz0 := Lib.hid hz0; have Hz1 := Lib.hid hz1; have Hz2 := Lib.hid hz2; have Ha := Lib.hid ha
  clear hi hz0 hz1 hz2 ha
  go_enter Try.func19, Try.ntmps19
  go_wp2
  go_loopw [4, 11] (fun v n wr => ∃ k : Nat, k ≤ zs.length ∧ n = .int .i64 k ∧ OwnB w.heap.size wr v (bytesOf (zs.take k)) ∧ allMay (zs.take k) = true ∧ Below w.heap.size w wr) (fun _ n _ => zs.length - (intOf n).toNat)
  case atStart => exact ⟨0, by omega, rfl, World.ownsRow_nil _ _ _ _, rfl, Below.refl _ _⟩
  case round =>
    obtain ⟨k, hk, rfl, ho, hm, hb⟩ := hrel
    have Ho := Lib.hid ho; have Hm := Lib.hid hm; have Hb := Lib.hid hb
    clear ho hm hb
    by_cases hlt : k < zs.length
    · obtain ⟨g, off, rfl, hg, hc⟩ := Ha.out k hlt
      have hc' := (Hb.out.cell (p := ⟨g, off + k, none⟩) hg).trans hc
      clear hc
      obtain ⟨r, hr⟩ : ∃ r, zs[k] = r := ⟨_, rfl⟩
      rw [hr] at hc'
      have hsn : zs.take (k + 1) = zs.take k ++ [r] := by rw [List.take_succ_eq_append_getElem hlt, hr]
      have hblen := bytesOf_len (zs.take k)
      rw [List.length_take, Nat.min_eq_left hk] at hblen
      have hp4 := putL_len4 r
      have Hsn := Lib.hid hsn; clear hsn hr
      cases hmay : mayB r with
      | false =>
        have Hmay := Lib.hid hmay; clear hmay
        go_wp2_with (go_at_call 9; refine (put_no _ Hmay.out _).mono ?_; rintro e w' ⟨rfl, rfl⟩)
        go_ret2
        have hall : ¬ allMay zs = true := by
          intro h
          have := List.all_eq_true.1 h r (by
            have : r ∈ zs.take (k + 1) := by rw [Hsn.out]; simp
            exact List.mem_of_mem_take this)
          rw [Hmay.out] at this; cases this
        exact ⟨by rw [if_neg hall, if_neg hall]; rfl, Hb.out⟩
      | true =>
        have Hmay := Lib.hid hmay; clear hmay
        go_wp2_with fail
        refine (put_yes _ Hmay.out _).mono ?_
        rintro e w1 ⟨v, rfl, hov, hb1⟩
        rcases own_cells hov with ⟨_, h0⟩ | ⟨gv, cv, rfl, _, _, _⟩
        · rw [h0] at hp4; simp at hp4
        have Hnews := Lib.hid (World.ownsRow.cells hov (g := gv) rfl)
        have HB := Lib.hid (Below.trans Hb.out (hb1.mono Hb.out.size))
        have Ho1 := Lib.hid (own_below Ho.out hb1)
        clear hov hb1
        go_wp2_with (at_builtin; refine wpList_append_own _ rfl _ _ 23 rfl w.heap.size 5 i0 (.int .u8 0) 1 1 Try.underlying23 Hi.out Hz0.out Hz1.out Hz2.out rfl (by decide) _ _ _ rfl Ho1.out ⟨gv, 0, none⟩ (putL r).length cv ((putL r).map (Value.int .u8)) rfl (by simp) Hnews.out (ints_oneCell _ _) (by unfold maxLen; omega) (by omega) HB.out.size ?_; intro v' w2 hown' hgrow _; have HB2 := Lib.hid (HB.out.grown hgrow HB.out.size (fun j hj => (Ho1.out.lt j hj).1)); have Ho2 := Lib.hid hown'; clear hown' hgrow)
        go_roundw
        case rel =>
          refine ⟨k + 1, by omega, by go_num, ?_, ?_, HB2.out⟩
          · have := Ho2.out
            unfold OwnB
            rw [Hsn.out, bytesOf_snoc, List.length_append, List.map_append]
            exact this
          · have := Hm.out
            rw [Hsn.out]; unfold allMay at this ⊢; rw [List.all_append, this, List.all_cons, Hmay.out]; rfl
        case measure => simp [intOf]; omega
    · have Hcv := own_string Ho.out
      have hk' : k = zs.length := by omega
      have HK := Lib.hid hk'; clear hk'
      go_wp2
      go_ret2
      have hm := Hm.out
      rw [HK.out, List.take_length] at hm
      exact ⟨by rw [if_pos hm, if_pos hm, HK.out, List.take_length]; rfl, Hb.out⟩
end Go.Proofs.Ythgocbehdomekaa
