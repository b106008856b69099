/-
  No cell of these rows narrows 'for every input' (looked for: loops, veiled, ifaces, maps, wideKeys, modest, calm, conditions, laid).
  DERIVED. THE GIVEN ROWS OF THIS SEAT. 4 by the template 'for every input the law returns true; each argument reads behind the call as it read before'; 0 by the template 'total and deterministic' (their statements: YtghihhjcoilmgaaTotals.lean).
  GIVEN WITH THE SEED: the statements are not yours to turn. If you find one false, say at which input.
  Laid BY PROGRAM, IN A SANDBOX (cutbox-rows.mjs): the forced cells as the released guide's own fill.sh prints them over the translation 5b45abbdd89337a2… (all of the seat's roots in one cut). By AI agents, Wed Nov 11 2026. No macro, syntax, notation, axiom, sorry.
-/
import Derived.Test.YtghihhjcoilmgaaChecked
import GoSem.Claim
import GoSem.ClaimJoined
import GoSem.ClaimMapViews
import Derived.JoinedTies
import Derived.KernelRfl
namespace Go.Proofs.Ytghihhjcoilmgaa
/- THE CELL 'sum', in the pinned program and in every row, IS THE sha256 OF THE DUMP (.gsa) THAT YtghihhjcoilmgaaProg.lean LOADS. Nothing in Lean hashes anything: it is a label: what it is worth is what the hold of that sum in a sandbox is worth. -/
noncomputable def Try.pinned : Pinned := { name := "ytghihhjcoilmgaa", sum := "5b45abbdd89337a2579da915f4c5743edafaf9f14f65791e79215fbdc8f5a31d", checked := Try.checked }
namespace Rows
def none {H : Type} : Left H := { results := [], args := [] }

/-- 'rhizomelaw16.RewritePicks': WHATEVER THE INPUT: true; the input reads as it did. -/
def rewritePicksSpec : ChangeSpec := { name := "rewritePicks", fn := fun _ => fun
  | [d1, d2, d3, d4] => { results := [.lit (.bool true)], args := [d1, d2, d3, d4] }
  | _ => none }
def rewritePicksRow : OpenClaim := { program := "ytghihhjcoilmgaa", sum := "5b45abbdd89337a2579da915f4c5743edafaf9f14f65791e79215fbdc8f5a31d", func := "rhizome/rhizomelaw16.RewritePicks", spec := "rewritePicks", unfollowed := true, recurses := true, plainKeys := false, apart := false }
def RewritePicksSaid : Prop := rewritePicksRow.holds Try.pinned (OpenSpec.ofChange rewritePicksSpec)

/-- ITS FALSE NEIGHBOUR: 'it returns false'. Refute it at one input. -/
def rewritePicksWrong : ChangeSpec := { name := "rewritePicks", fn := fun _ => fun
  | [d1, d2, d3, d4] => { results := [.lit (.bool false)], args := [d1, d2, d3, d4] }
  | _ => none }
def RewritePicksWrongFalsely : Prop := rewritePicksRow.holds Try.pinned (OpenSpec.ofChange rewritePicksWrong)

/-- 'rhizomelaw16.RewriteRows': WHATEVER THE INPUT: true; the input reads as it did. -/
def rewriteRowsSpec : ChangeSpec := { name := "rewriteRows", fn := fun _ => fun
  | [d1, d2] => { results := [.lit (.bool true)], args := [d1, d2] }
  | _ => none }
def rewriteRowsRow : OpenClaim := { program := "ytghihhjcoilmgaa", sum := "5b45abbdd89337a2579da915f4c5743edafaf9f14f65791e79215fbdc8f5a31d", func := "rhizome/rhizomelaw16.RewriteRows", spec := "rewriteRows", unfollowed := true, recurses := true, plainKeys := false, apart := false }
def RewriteRowsSaid : Prop := rewriteRowsRow.holds Try.pinned (OpenSpec.ofChange rewriteRowsSpec)

/-- ITS FALSE NEIGHBOUR: 'it returns false'. Refute it at one input. -/
def rewriteRowsWrong : ChangeSpec := { name := "rewriteRows", fn := fun _ => fun
  | [d1, d2] => { results := [.lit (.bool false)], args := [d1, d2] }
  | _ => none }
def RewriteRowsWrongFalsely : Prop := rewriteRowsRow.holds Try.pinned (OpenSpec.ofChange rewriteRowsWrong)

/-- 'rhizomelaw16.RewriteNil': WHATEVER THE INPUT: true; the input reads as it did. -/
def rewriteNilSpec : ChangeSpec := { name := "rewriteNil", fn := fun _ => fun
  | [d] => { results := [.lit (.bool true)], args := [d] }
  | _ => none }
def rewriteNilRow : OpenClaim := { program := "ytghihhjcoilmgaa", sum := "5b45abbdd89337a2579da915f4c5743edafaf9f14f65791e79215fbdc8f5a31d", func := "rhizome/rhizomelaw16.RewriteNil", spec := "rewriteNil", unfollowed := true, recurses := true, plainKeys := false, apart := false }
def RewriteNilSaid : Prop := rewriteNilRow.holds Try.pinned (OpenSpec.ofChange rewriteNilSpec)

/-- ITS FALSE NEIGHBOUR: 'it returns false'. Refute it at one input. -/
def rewriteNilWrong : ChangeSpec := { name := "rewriteNil", fn := fun _ => fun
  | [d] => { results := [.lit (.bool false)], args := [d] }
  | _ => none }
def RewriteNilWrongFalsely : Prop := rewriteNilRow.holds Try.pinned (OpenSpec.ofChange rewriteNilWrong)

/-- 'rhizomelaw16.RewriteTables': WHATEVER THE INPUT: true; the input reads as it did. -/
def rewriteTablesSpec : ChangeSpec := { name := "rewriteTables", fn := fun _ => fun
  | [d1, d2, d3] => { results := [.lit (.bool true)], args := [d1, d2, d3] }
  | _ => none }
def rewriteTablesRow : OpenClaim := { program := "ytghihhjcoilmgaa", sum := "5b45abbdd89337a2579da915f4c5743edafaf9f14f65791e79215fbdc8f5a31d", func := "rhizome/rhizomelaw16.RewriteTables", spec := "rewriteTables", unfollowed := true, recurses := true, plainKeys := false, apart := false }
def RewriteTablesSaid : Prop := rewriteTablesRow.holds Try.pinned (OpenSpec.ofChange rewriteTablesSpec)

/-- ITS FALSE NEIGHBOUR: 'it returns false'. Refute it at one input. -/
def rewriteTablesWrong : ChangeSpec := { name := "rewriteTables", fn := fun _ => fun
  | [d1, d2, d3] => { results := [.lit (.bool false)], args := [d1, d2, d3] }
  | _ => none }
def RewriteTablesWrongFalsely : Prop := rewriteTablesRow.holds Try.pinned (OpenSpec.ofChange rewriteTablesWrong)

/- THE SECOND FORM. 'bulk': how many values and letters a reading holds, each counted each time it is reached (what is shared counts as often as it is met; a slice's spare places count too). A statement '..UptoSaid' is the law's where the arguments, and the package variables that the reading takes, are together of bulk at most 1048576: NARROWER than '..Said'. Prove '..Said' where nothing that the law and all that it calls make is longer than what came in: it says more and counts as full. Else prove '..UptoSaid'. A law counts once. -/
mutual
def uptoBulk {H : Type} : DataW H → Nat
  | .lit (.string bytes) => bytes.length + 1
  | .lit _ => 1
  | .nil => 1
  | .ptr d => uptoBulk d + 1
  | .slice elems spare => uptoBulkAll elems + uptoBulkAll spare + 1
  | .agg parts => uptoBulkAll parts + 1
  | .iface _ d => uptoBulk d + 1
  | .map entries => uptoBulkEntries entries + 1
  | .held _ => 1
def uptoBulkAll {H : Type} : List (DataW H) → Nat
  | [] => 0
  | d :: r => uptoBulk d + uptoBulkAll r
def uptoBulkEntries {H : Type} : List (Lit × DataW H) → Nat
  | [] => 0
  | x :: r => uptoBulkEntry x + uptoBulkEntries r
def uptoBulkEntry {H : Type} : Lit × DataW H → Nat
  | (.string bytes, d) => bytes.length + uptoBulk d + 1
  | (_, d) => uptoBulk d + 1
 end
def uptoSmall : (H : Type) → List (DataW H) → Bool := fun _ ds => decide (uptoBulkAll ds ≤ 1048576)
def OpenSpec.upto (s : _root_.Go.ChangeSpec) : _root_.Go.OpenSpec := { _root_.Go.OpenSpec.ofChange s with cond := some uptoSmall }

/-- 'rhizomelaw16.RewritePicks', WHERE WHAT IT READS IS OF BULK AT MOST 1048576: true; the input reads as it did. -/
def rewritePicksUptoRow : OpenClaim := { program := "ytghihhjcoilmgaa", sum := "5b45abbdd89337a2579da915f4c5743edafaf9f14f65791e79215fbdc8f5a31d", func := "rhizome/rhizomelaw16.RewritePicks", spec := "rewritePicks", unfollowed := true, recurses := true, plainKeys := false, apart := false, narrowed := true }
def RewritePicksUptoSaid : Prop := rewritePicksUptoRow.holds Try.pinned (OpenSpec.upto rewritePicksSpec)

/-- 'rhizomelaw16.RewriteRows', WHERE WHAT IT READS IS OF BULK AT MOST 1048576: true; the input reads as it did. -/
def rewriteRowsUptoRow : OpenClaim := { program := "ytghihhjcoilmgaa", sum := "5b45abbdd89337a2579da915f4c5743edafaf9f14f65791e79215fbdc8f5a31d", func := "rhizome/rhizomelaw16.RewriteRows", spec := "rewriteRows", unfollowed := true, recurses := true, plainKeys := false, apart := false, narrowed := true }
def RewriteRowsUptoSaid : Prop := rewriteRowsUptoRow.holds Try.pinned (OpenSpec.upto rewriteRowsSpec)

/-- 'rhizomelaw16.RewriteNil', WHERE WHAT IT READS IS OF BULK AT MOST 1048576: true; the input reads as it did. -/
def rewriteNilUptoRow : OpenClaim := { program := "ytghihhjcoilmgaa", sum := "5b45abbdd89337a2579da915f4c5743edafaf9f14f65791e79215fbdc8f5a31d", func := "rhizome/rhizomelaw16.RewriteNil", spec := "rewriteNil", unfollowed := true, recurses := true, plainKeys := false, apart := false, narrowed := true }
def RewriteNilUptoSaid : Prop := rewriteNilUptoRow.holds Try.pinned (OpenSpec.upto rewriteNilSpec)

/-- 'rhizomelaw16.RewriteTables', WHERE WHAT IT READS IS OF BULK AT MOST 1048576: true; the input reads as it did. -/
def rewriteTablesUptoRow : OpenClaim := { program := "ytghihhjcoilmgaa", sum := "5b45abbdd89337a2579da915f4c5743edafaf9f14f65791e79215fbdc8f5a31d", func := "rhizome/rhizomelaw16.RewriteTables", spec := "rewriteTables", unfollowed := true, recurses := true, plainKeys := false, apart := false, narrowed := true }
def RewriteTablesUptoSaid : Prop := rewriteTablesUptoRow.holds Try.pinned (OpenSpec.upto rewriteTablesSpec)

end Rows
end Go.Proofs.Ytghihhjcoilmgaa
