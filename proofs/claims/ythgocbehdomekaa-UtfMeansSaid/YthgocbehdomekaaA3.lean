/- Utf.Put of two, three and four bytes; of what is no rune. -/
import Derived.Test.YthgocbehdomekaaA2
import Derived.Maps.AppendAt
import Derived.Below
import Derived.Deep.DeepMust
namespace Go.Proofs.Ythgocbehdomekaa
open Go.RowKit Plain
set_option linter.unusedVariables false

theorem size_is (r k : Int) (h : sizeN r = k) (w : World) : Calls Try.prog 22 #[.int .i64 r] w fun e w' => e = .returned (.int .i64 k) ∧ w = w' := by
  subst h; exact size_any r w
theorem may_yes (r : Int) (h : mayB r = true) (w : World) : Calls Try.prog 21 #[.int .i64 r] w fun e w' => e = .returned (.bool true) ∧ w = w' := by
  rw [← h]; exact may_any r w
theorem may_no (r : Int) (h : mayB r = false) (w : World) : Calls Try.prog 21 #[.int .i64 r] w fun e w' => e = .returned (.bool false) ∧ w = w' := by
  rw [← h]; exact may_any r w
theorem Try.info5 : (Try.prog.info? 5).map (fun i => (i.zero, i.size, i.bytes)) = some (some (.int .u8 0), 1, 1) := by kernel_rfl

/-- v owns the bytes xs, in a block at or beyond base -/
def OwnB (base : Nat) (w : World) (v : Value) (xs : List Int) : Prop := w.ownsRow base 5 1 v xs.length (xs.map (Value.int .u8))

set_option maxRecDepth 100000 in
set_option maxHeartbeats 1000000 in
theorem put_no (r : Int) (h : mayB r = false) (w : World) :
    Calls Try.prog 9 #[.int .i64 r] w fun e w' => e = .returned (.tuple #[.slice none 0 0, .int .i64 2]) ∧ w = w' := by
  have H := Lib.hid h; clear h
  go_enter Try.func9, Try.ntmps9
  go_wp2_with (first | (go_at_call 21; refine (may_no _ H.out _).mono ?_; rintro e w' ⟨rfl, rfl⟩))
  go_ret2
  exact ⟨rfl, rfl⟩

theorem put_below {n : Nat} {w w1 w2 : World} {v : Value} {k : Nat} {xs : List Value} {o : Obj} (hn : n ≤ w.heap.size) (hb : Below n w w1) (ho : w1.ownsRow n 5 1 v k xs) (hg : (w1.alloc o).grownBy w2 v.ownBlock) : Below n w w2 :=
  ((hb.alloc (Nat.le_trans hn hb.size) o)).grown hg (by have := hb.size; simp; omega) (fun j hj => (ho.lt j hj).1)
def PutPost (w : World) (xs : List Int) (e : Ending) (w' : World) : Prop :=
  ∃ v, e = .returned (.tuple #[v, .int .i64 0]) ∧ OwnB w.heap.size w' v xs ∧ Below w.heap.size w w'

theorem bits2a (r : Int) (h1 : 128 ≤ r) (h2 : r < 2048) : bits .or .i64 (bits .and .i64 960 255) (r / 64) % 256 = 192 + r / 64 := by
  have e : bits .and .i64 960 255 = 192 := by decide +kernel
  rw [e, bits_join .i64 63 (by decide) wraps_i64 5 192 (r / 64) (by omega) (by omega) (by omega) (by omega) (by omega) (by omega)]; omega
theorem bits3a (r : Int) (h1 : 2048 ≤ r) (h2 : r < 65536) : bits .or .i64 (bits .and .i64 480 255) (r / 4096) % 256 = 224 + r / 4096 := by
  have e : bits .and .i64 480 255 = 224 := by decide +kernel
  rw [e, bits_join .i64 63 (by decide) wraps_i64 4 224 (r / 4096) (by omega) (by omega) (by omega) (by omega) (by omega) (by omega)]; omega
theorem bits4a (r : Int) (h1 : 65536 ≤ r) (h2 : r ≤ 1114111) : bits .or .i64 (bits .and .i64 240 255) (r / 262144) % 256 = 240 + r / 262144 := by
  have e : bits .and .i64 240 255 = 240 := by decide +kernel
  rw [e, bits_join .i64 63 (by decide) wraps_i64 3 240 (r / 262144) (by omega) (by omega) (by omega) (by omega) (by omega) (by omega)]; omega
theorem bitsL (x : Int) (h1 : 0 ≤ x) (h2 : x ≤ 1114111) : bits .or .i64 128 (bits .and .i64 x 63) % 256 = 128 + x % 64 := by
  have e : bits .and .i64 x 63 = x % 64 := bits_mask .i64 63 (by decide) wraps_i64 6 (by decide) x h1 (by omega)
  rw [e, bits_join .i64 63 (by decide) wraps_i64 6 128 (x % 64) (by omega) (by omega) (by omega) (by omega) (by omega) (by omega)]; omega


set_option maxRecDepth 100000 in
set_option maxHeartbeats 2000000 in
theorem put_2 (r : Int) (h1 : 128 ≤ r) (h2 : r < 2048) (hm : mayB r = true) (w : World) :
    Calls Try.prog 9 #[.int .i64 r] w (PutPost w [192 + r / 64, 128 + r % 64]) := by
  have H := Lib.hid hm; clear hm
  have HS := Lib.hid (show sizeN r = 2 by unfold sizeN; (repeat' split) <;> omega)
  obtain ⟨i0, hi, hz0, hz1, hz2⟩ := info_parts Try.info5
  have Hi := Lib.hid hi; have Hz0 := Lib.hid hz0; have Hz1 := Lib.hid hz1; have Hz2 := Lib.hid hz2
  clear hi hz0 hz1 hz2
  have HB := Lib.hid (bits2a r h1 (by omega))
  go_enter Try.func9, Try.ntmps9
  go_wp2_with (first | (go_at_call 21; refine (may_yes _ H.out _).mono ?_; rintro e w' ⟨rfl, rfl⟩) | (go_at_call 22; refine (size_is _ _ HS.out _).mono ?_; rintro e w' ⟨rfl, rfl⟩))
  go_region
  rw [HB.out]
  have own0 : ((w.alloc (.cells #[.int .u8 (192 + r / 64)] 5)).drew).ownsRow w.heap.size 5 1 (.slice (some ⟨w.heap.size, 0, none⟩) 1 1) 1 [.int .u8 (192 + r / 64)] := (World.ownsRow_lit w #[.int .u8 (192 + r / 64)] 1 (Nat.le_refl _) (by decide) rfl).drew
  have bel0 := (((Below.refl w.heap.size w).alloc (Nat.le_refl _) (.cells #[.int .u8 (192 + r / 64)] 5)).drew)
  generalize hW : (w.alloc (.cells #[.int .u8 (192 + r / 64)] 5)).drew = w1 at *
  generalize hV : Value.slice (some ⟨w.heap.size, 0, none⟩) 1 1 = v0 at *
  have Own0 := Lib.hid own0; clear own0
  have Bel0 := Lib.hid bel0; clear bel0
  clear hW hV
  go_wp2_with (at_builtin; refine wpList_append_own _ rfl _ _ 23 rfl w.heap.size 5 i0 (.int .u8 0) 1 1 Try.underlying23 Hi.out Hz0.out Hz1.out Hz2.out rfl (by decide) _ _ _ rfl (Own0.out.alloc _) ⟨_, 0, none⟩ 1 1 [.int .u8 _] rfl rfl (cell_one_new _ _ _) (by simp [Value.oneCell']) (by decide) (by decide) (by have := Bel0.out.size; simp; omega) ?_; intro v' w2 hown' hgrow _; have Bel1 := Lib.hid (put_below (Nat.le_refl _) Bel0.out Own0.out hgrow); have Own1 := Lib.hid hown'; clear hown' hgrow Own0 Bel0; have Own0 := Own1; have Bel0 := Bel1; clear Own1 Bel1)
  go_ret2
  refine ⟨_, rfl, ?_, Bel0.out⟩
  have := Own0.out
  simp only [List.cons_append, List.nil_append] at this
  rw [bitsL r (by omega) (by omega)] at this
  exact this



set_option maxRecDepth 100000 in
set_option maxHeartbeats 2000000 in
theorem put_3 (r : Int) (h1 : 2048 ≤ r) (h2 : r < 65536) (hm : mayB r = true) (w : World) :
    Calls Try.prog 9 #[.int .i64 r] w (PutPost w [224 + r / 4096, 128 + r / 64 % 64, 128 + r % 64]) := by
  have H := Lib.hid hm; clear hm
  have HS := Lib.hid (show sizeN r = 3 by unfold sizeN; (repeat' split) <;> omega)
  obtain ⟨i0, hi, hz0, hz1, hz2⟩ := info_parts Try.info5
  have Hi := Lib.hid hi; have Hz0 := Lib.hid hz0; have Hz1 := Lib.hid hz1; have Hz2 := Lib.hid hz2
  clear hi hz0 hz1 hz2
  have HB := Lib.hid (bits3a r h1 (by omega))
  go_enter Try.func9, Try.ntmps9
  go_wp2_with (first | (go_at_call 21; refine (may_yes _ H.out _).mono ?_; rintro e w' ⟨rfl, rfl⟩) | (go_at_call 22; refine (size_is _ _ HS.out _).mono ?_; rintro e w' ⟨rfl, rfl⟩))
  go_region
  rw [HB.out]
  have own0 : ((w.alloc (.cells #[.int .u8 (224 + r / 4096)] 5)).drew).ownsRow w.heap.size 5 1 (.slice (some ⟨w.heap.size, 0, none⟩) 1 1) 1 [.int .u8 (224 + r / 4096)] := (World.ownsRow_lit w #[.int .u8 (224 + r / 4096)] 1 (Nat.le_refl _) (by decide) rfl).drew
  have bel0 := (((Below.refl w.heap.size w).alloc (Nat.le_refl _) (.cells #[.int .u8 (224 + r / 4096)] 5)).drew)
  generalize hW : (w.alloc (.cells #[.int .u8 (224 + r / 4096)] 5)).drew = w1 at *
  generalize hV : Value.slice (some ⟨w.heap.size, 0, none⟩) 1 1 = v0 at *
  have Own0 := Lib.hid own0; clear own0
  have Bel0 := Lib.hid bel0; clear bel0
  clear hW hV
  go_wp2_with (at_builtin; refine wpList_append_own _ rfl _ _ 23 rfl w.heap.size 5 i0 (.int .u8 0) 1 1 Try.underlying23 Hi.out Hz0.out Hz1.out Hz2.out rfl (by decide) _ _ _ rfl (Own0.out.alloc _) ⟨_, 0, none⟩ 1 1 [.int .u8 _] rfl rfl (cell_one_new _ _ _) (by simp [Value.oneCell']) (by decide) (by decide) (by have := Bel0.out.size; simp; omega) ?_; intro v' w2 hown' hgrow _; have Bel1 := Lib.hid (put_below (Nat.le_refl _) Bel0.out Own0.out hgrow); have Own1 := Lib.hid hown'; clear hown' hgrow Own0 Bel0; have Own0 := Own1; have Bel0 := Bel1; clear Own1 Bel1)
  go_ret2
  refine ⟨_, rfl, ?_, Bel0.out⟩
  have := Own0.out
  simp only [List.cons_append, List.nil_append] at this
  rw [bitsL r (by omega) (by omega), bitsL (r / 64) (by omega) (by omega)] at this
  exact this



set_option maxRecDepth 100000 in
set_option maxHeartbeats 2000000 in
theorem put_4 (r : Int) (h1 : 65536 ≤ r) (h2 : r < 1114112) (hm : mayB r = true) (w : World) :
    Calls Try.prog 9 #[.int .i64 r] w (PutPost w [240 + r / 262144, 128 + r / 4096 % 64, 128 + r / 64 % 64, 128 + r % 64]) := by
  have H := Lib.hid hm; clear hm
  have HS := Lib.hid (show sizeN r = 4 by unfold sizeN; (repeat' split) <;> omega)
  obtain ⟨i0, hi, hz0, hz1, hz2⟩ := info_parts Try.info5
  have Hi := Lib.hid hi; have Hz0 := Lib.hid hz0; have Hz1 := Lib.hid hz1; have Hz2 := Lib.hid hz2
  clear hi hz0 hz1 hz2
  have HB := Lib.hid (bits4a r h1 (by omega))
  go_enter Try.func9, Try.ntmps9
  go_wp2_with (first | (go_at_call 21; refine (may_yes _ H.out _).mono ?_; rintro e w' ⟨rfl, rfl⟩) | (go_at_call 22; refine (size_is _ _ HS.out _).mono ?_; rintro e w' ⟨rfl, rfl⟩))
  go_region
  rw [HB.out]
  have own0 : ((w.alloc (.cells #[.int .u8 (240 + r / 262144)] 5)).drew).ownsRow w.heap.size 5 1 (.slice (some ⟨w.heap.size, 0, none⟩) 1 1) 1 [.int .u8 (240 + r / 262144)] := (World.ownsRow_lit w #[.int .u8 (240 + r / 262144)] 1 (Nat.le_refl _) (by decide) rfl).drew
  have bel0 := (((Below.refl w.heap.size w).alloc (Nat.le_refl _) (.cells #[.int .u8 (240 + r / 262144)] 5)).drew)
  generalize hW : (w.alloc (.cells #[.int .u8 (240 + r / 262144)] 5)).drew = w1 at *
  generalize hV : Value.slice (some ⟨w.heap.size, 0, none⟩) 1 1 = v0 at *
  have Own0 := Lib.hid own0; clear own0
  have Bel0 := Lib.hid bel0; clear bel0
  clear hW hV
  go_wp2_with (at_builtin; refine wpList_append_own _ rfl _ _ 23 rfl w.heap.size 5 i0 (.int .u8 0) 1 1 Try.underlying23 Hi.out Hz0.out Hz1.out Hz2.out rfl (by decide) _ _ _ rfl (Own0.out.alloc _) ⟨_, 0, none⟩ 1 1 [.int .u8 _] rfl rfl (cell_one_new _ _ _) (by simp [Value.oneCell']) (by decide) (by decide) (by have := Bel0.out.size; simp; omega) ?_; intro v' w2 hown' hgrow _; have Bel1 := Lib.hid (put_below (Nat.le_refl _) Bel0.out Own0.out hgrow); have Own1 := Lib.hid hown'; clear hown' hgrow Own0 Bel0; have Own0 := Own1; have Bel0 := Bel1; clear Own1 Bel1)
  go_ret2
  refine ⟨_, rfl, ?_, Bel0.out⟩
  have := Own0.out
  simp only [List.cons_append, List.nil_append] at this
  rw [bitsL r (by omega) (by omega), bitsL (r / 64) (by omega) (by omega), bitsL (r / 4096) (by omega) (by omega)] at this
  exact this


end Go.Proofs.Ythgocbehdomekaa
