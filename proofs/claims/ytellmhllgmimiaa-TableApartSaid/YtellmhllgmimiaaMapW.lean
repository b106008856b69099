/- The laws on maps over raw elements, at the operation. -/
import Derived.Test.YtellmhllgmimiaaMap
import Derived.WalkKit
import Derived.WalkMore
namespace Go.Proofs.Ytellmhllgmimiaa
open Go.Maps
set_option linter.unusedVariables false

section
variable {κ : Type} [DecidableEq κ] {enc : κ → Value} {ok : κ → Prop} {P : Program} (w : World) {ops : Array Oper} {rest : List Oper} {o : Oper} {a : Act} {Q : Exit → Act → World → Prop}

theorem wpList_mapUpdate_raw (hg : o.guard = none) (m x v : Operand) (t : TypeId) (hop : o.op = Op.mapUpdate t m x v)
    (k e : TypeId) (K : Kys P k enc ok) (ht : P.underlying t = some (.map k e)) (b : Nat) (f : κ → Option Value)
    (hm : a.eval m = .map (some b)) (hmap : MapAt enc ok w b f) (y : κ) (hy : ok y) (val : Value) (hx : a.eval x = enc y) (hv : a.eval v = val)
    (hK : ∀ w', MapAt enc ok w' b (upd f y (some val)) → w.mapTurned w' b → wpList P ops Q rest (a.put o.dst undef) w') :
    wpList P ops Q (o :: rest) a w := by
  refine wpList_plain hg fun K' hK' => ?_
  obtain ⟨w', hrun, r1, r2⟩ := hmap.put K ht hy val
  unfold Oper.wp
  simp [execOp, hop, hm, hx, hv, hrun, Result.andThen]
  exact hK' _ _ (hK w' r1 r2)

theorem wpList_delete_raw (hg : o.guard = none) (m x : Operand) (t k : TypeId) (hop : o.op = Op.call { callee := Callee.builtin Builtin.delete, args := #[m, x], argTypes := #[t, k] })
    (e : TypeId) (K : Kys P k enc ok) (ht : P.underlying t = some (.map k e)) (b : Nat) (f : κ → Option Value)
    (hm : a.eval m = .map (some b)) (hmap : MapAt enc ok w b f) (y : κ) (hy : ok y) (hx : a.eval x = enc y)
    (hK : ∀ w', MapAt enc ok w' b (upd f y none) → w.mapTurned w' b → wpList P ops Q rest (a.put o.dst (.tuple #[])) w') :
    wpList P ops Q (o :: rest) a w := by
  refine wpList_plain hg fun K' hK' => ?_
  obtain ⟨w', hrun, r1, r2⟩ := hmap.del K ht hy o.type
  unfold Oper.wp
  simp [execOp, hop, resolve, invoke, builtin, hm, hx, hrun, Result.andThen]
  exact hK' _ _ (hK w' r1 r2)
end
end Go.Proofs.Ytellmhllgmimiaa
