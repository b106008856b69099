/- strings.Split at '-': no cell of the library's is read. -/
import Derived.Test.YtmgaibeibfholaaDoorP6
import Derived.Test.YtmgaibeibfholaaDoorShelf
namespace Go.Proofs.YtmgaibeibfholaaDoor
set_option maxRecDepth 100000
open Go.RowKit Go.Shelf Plain
set_option linter.unusedVariables false

theorem indexB_one (x : ByteArray) : Lib.indexB x sep1 = Lib.indexByte x.data.toList 45 := by
  show Lib.index x.data.toList [45] = _
  generalize x.data.toList = l
  induction l with
  | nil => rfl
  | cons b l ih =>
    unfold Lib.indexByte
    by_cases h : b = 45
    · subst h; rw [index_cons_eq]; simp
    · rw [index_cons_ne b l h, ih]
      have : (b == 45) = false := beq_eq_false_iff_ne.2 h
      rw [this]; simp
theorem index_sep (x : ByteArray) (w : World) : Calls Tryd.prog 77 #[.string x, .string sep1] w fun e w' => e = .returned (.int .i64 (Lib.indexB x sep1)) ∧ w' = w := by
  rw [indexB_one]; exact Tryd.strings_Index_one x 45 w
theorem count_sep (s : ByteArray) (w : World) : Calls Tryd.prog 76 #[.string s, .string sep1] w fun e w' => e = .returned (.int .i64 (Lib.countB s sep1)) ∧ w' = w := by
  refine (Tryd.strings_Count_one s 45 w).mono fun e w' ⟨he, hw⟩ => ⟨?_, hw⟩
  rw [he]
  show _ = Ending.returned (Value.int .i64 ((Lib.count s.data.toList [45] : Nat) : Int))
  rw [Lib.count_one]
  rfl
set_option maxHeartbeats 1000000 in
theorem split_any (s : ByteArray) (hs : s.size < 4294967281) (w : World) :
    Calls Tryd.prog 63 #[.string s, .string sep1] w fun e w' =>
      e = .returned (.slice (some ⟨w.heap.size, 0, none⟩) (pieces s).length (pieces s).length) ∧ w' = w.alloc (.cells ((pieces s).map Value.string).toArray 9) := by
  have h1 : 1 ≤ sep1.size := by decide
  have hle := Lib.countB_le sep1 h1 s.size s (Nat.le_refl _)
  have hlen := Lib.splitB_all sep1 h1 0 _ s rfl
  have c := Any.strings_genSplit_core Tryd.lays221 (by kernel_rfl) s sep1 0 (-1) (Lib.countB s sep1 + 1) w hs h1 (Nat.zero_le _) (fun x c _ => index_sep x _) (count_sep s w) (by decide) (by decide) (by rw [if_pos (by decide)]; omega)
  rw [Nat.add_sub_cancel, hlen] at c
  have e2 : Lib.cellsOf (Lib.splitB sep1 0 (Lib.countB s sep1) s) (Lib.countB s sep1 + 1) = ((Lib.splitB sep1 0 (Lib.countB s sep1) s).map Value.string).toArray := by rw [← hlen]; exact Lib.cellsOf_full _
  rw [e2] at c
  have C := Lib.hid c; clear c e2
  have hp : (pieces s).length = Lib.countB s sep1 + 1 := hlen
  rw [hp]
  clear hp hlen
  go_enter Tryd.func63, Tryd.ntmps63
  go_wp2_with (go_at_call 69; refine C.out.mono ?_; rintro e w' ⟨rfl, hw⟩; rw [hw])
  go_ret
  exact ⟨rfl, rfl⟩
end Go.Proofs.YtmgaibeibfholaaDoor
