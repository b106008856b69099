/- The table's small questions: is it there, is there such a row, how many. -/
import Derived.Test.YtellmhllgmimiaaTab
namespace Go.Proofs.Ytellmhllgmimiaa
open Go.RowKit Go.Maps
set_option linter.unusedVariables false

theorem equalIn_map_nil {P : Program} (w : World) (d : Nat) (t k e : TypeId) (p : Nat) (h : P.underlying t = some (.map k e)) :
    (Op.equalIn (d + 1) t (.map (some p)) (.map none)).run P w = .ok false w := by
  simp [Op.equalIn, run_underlying h]
theorem neq_map_nil {P : Program} (w : World) (t k e : TypeId) (p : Nat) (h : P.underlying t = some (.map k e)) :
    (binOp .neq t (.map (some p)) (.map none)).run P w = .ok (.bool true) w := by
  simp only [binOp]
  simp [show Op.equal t (.map (some p)) (.map none) = Op.equalIn (9999 + 1) t (.map (some p)) (.map none) from rfl, equalIn_map_nil w 9999 t k e p h]

section
variable {Z : Zone} {w : World} {tb : Nat} {T : TS} {D : TabD}

set_option maxHeartbeats 400000 in
theorem there_any (h : IsT Z w tb T D) : Calls Try.prog 20 #[.pointer (some ⟨tb, 0, none⟩)] w fun e w' => e = .returned (.bool true) ∧ w = w' := by
  have c2 := h.c2
  have hq := neq_map_nil (P := Try.prog) w 56 _ _ D.bf Try.underlying56
  clear h
  go_enter Try.func20, Try.ntmps20
  go_wp2
  go_ret
  exact ⟨rfl, rfl⟩

set_option maxHeartbeats 400000 in
theorem len_any (h : IsT Z w tb T D) : Calls Try.prog 12 #[.pointer (some ⟨tb, 0, none⟩)] w fun e w' => e = .returned (.int .i64 T.length) ∧ w = w' := by
  have c0 := h.c0
  obtain ⟨l, hl⟩ : ∃ l, T.length = l := ⟨_, rfl⟩
  have hs := h.rows.form
  rw [hl] at hs ⊢
  clear h
  rcases hs with ⟨hv, hn⟩ | ⟨g, cap, hv, _, _, _⟩
  all_goals
    rw [hv] at c0
    clear hv
    go_enter Try.func12, Try.ntmps12
    go_wp2
    go_ret
    first | exact ⟨rfl, rfl⟩ | (rw [hn]; exact ⟨rfl, rfl⟩)

set_option maxHeartbeats 400000 in
theorem live_any (h : IsT Z w tb T D) : Calls Try.prog 36 #[.pointer (some ⟨tb, 0, none⟩)] w fun e w' => e = .returned (.int .i64 (live T)) ∧ w = w' := by
  have c7 := h.c7
  clear h
  go_enter Try.func36, Try.ntmps36
  go_wp2
  go_ret
  exact ⟨rfl, rfl⟩
end
end Go.Proofs.Ytellmhllgmimiaa
