/-
  No cell of these rows narrows 'for every input' (looked for: loops, veiled, ifaces, maps, wideKeys, modest, calm, conditions, laid).
  DERIVED. THE GIVEN ROWS OF THIS SEAT. 3 by the template 'for every input the law returns true; each argument reads behind the call as it read before'; 0 by the template 'total and deterministic' (their statements: YtkgkkbfpkgfcaaaTotals.lean).
  GIVEN WITH THE SEED: the statements are not yours to turn. If you find one false, say at which input.
  Laid BY PROGRAM, IN A SANDBOX (cutbox-rows.mjs): the forced cells as the released guide's own fill.sh prints them over the translation 1c70b467e903ddb5… (all of the seat's roots in one cut). By AI agents, Wed Nov 11 2026. No macro, syntax, notation, axiom, sorry.
-/
import Derived.Test.YtkgkkbfpkgfcaaaChecked
import GoSem.Claim
import GoSem.ClaimJoined
import GoSem.ClaimMapViews
import Derived.JoinedTies
import Derived.KernelRfl
namespace Go.Proofs.Ytkgkkbfpkgfcaaa
/- THE CELL 'sum', in the pinned program and in every row, IS THE sha256 OF THE DUMP (.gsa) THAT YtkgkkbfpkgfcaaaProg.lean LOADS. Nothing in Lean hashes anything: it is a label: what it is worth is what the hold of that sum in a sandbox is worth. -/
noncomputable def Try.pinned : Pinned := { name := "ytkgkkbfpkgfcaaa", sum := "1c70b467e903ddb5af2a08bd419f7bade096e391cea455caa33580acb94e1cd3", checked := Try.checked }
namespace Rows
def none {H : Type} : Left H := { results := [], args := [] }

/-- 'rhizomelaw14.JoinViews': WHATEVER THE INPUT: true; the input reads as it did. -/
def joinViewsSpec : ChangeSpec := { name := "joinViews", fn := fun _ => fun
  | [d1, d2, d3] => { results := [.lit (.bool true)], args := [d1, d2, d3] }
  | _ => none }
def joinViewsRow : OpenClaim := { program := "ytkgkkbfpkgfcaaa", sum := "1c70b467e903ddb5af2a08bd419f7bade096e391cea455caa33580acb94e1cd3", func := "rhizome/rhizomelaw14.JoinViews", spec := "joinViews", unfollowed := true, recurses := true, plainKeys := false, apart := false }
def JoinViewsSaid : Prop := joinViewsRow.holds Try.pinned (OpenSpec.ofChange joinViewsSpec)

/-- ITS FALSE NEIGHBOUR: 'it returns false'. Refute it at one input. -/
def joinViewsWrong : ChangeSpec := { name := "joinViews", fn := fun _ => fun
  | [d1, d2, d3] => { results := [.lit (.bool false)], args := [d1, d2, d3] }
  | _ => none }
def JoinViewsWrongFalsely : Prop := joinViewsRow.holds Try.pinned (OpenSpec.ofChange joinViewsWrong)

/-- 'rhizomelaw14.JoinLeaves': WHATEVER THE INPUT: true; the input reads as it did. -/
def joinLeavesSpec : ChangeSpec := { name := "joinLeaves", fn := fun _ => fun
  | [d1, d2, d3] => { results := [.lit (.bool true)], args := [d1, d2, d3] }
  | _ => none }
def joinLeavesRow : OpenClaim := { program := "ytkgkkbfpkgfcaaa", sum := "1c70b467e903ddb5af2a08bd419f7bade096e391cea455caa33580acb94e1cd3", func := "rhizome/rhizomelaw14.JoinLeaves", spec := "joinLeaves", unfollowed := true, recurses := true, plainKeys := false, apart := false }
def JoinLeavesSaid : Prop := joinLeavesRow.holds Try.pinned (OpenSpec.ofChange joinLeavesSpec)

/-- ITS FALSE NEIGHBOUR: 'it returns false'. Refute it at one input. -/
def joinLeavesWrong : ChangeSpec := { name := "joinLeaves", fn := fun _ => fun
  | [d1, d2, d3] => { results := [.lit (.bool false)], args := [d1, d2, d3] }
  | _ => none }
def JoinLeavesWrongFalsely : Prop := joinLeavesRow.holds Try.pinned (OpenSpec.ofChange joinLeavesWrong)

/-- 'rhizomelaw14.JoinRuns': WHATEVER THE INPUT: true; the input reads as it did. -/
def joinRunsSpec : ChangeSpec := { name := "joinRuns", fn := fun _ => fun
  | [d1, d2, d3] => { results := [.lit (.bool true)], args := [d1, d2, d3] }
  | _ => none }
def joinRunsRow : OpenClaim := { program := "ytkgkkbfpkgfcaaa", sum := "1c70b467e903ddb5af2a08bd419f7bade096e391cea455caa33580acb94e1cd3", func := "rhizome/rhizomelaw14.JoinRuns", spec := "joinRuns", unfollowed := true, recurses := true, plainKeys := false, apart := false }
def JoinRunsSaid : Prop := joinRunsRow.holds Try.pinned (OpenSpec.ofChange joinRunsSpec)

/-- ITS FALSE NEIGHBOUR: 'it returns false'. Refute it at one input. -/
def joinRunsWrong : ChangeSpec := { name := "joinRuns", fn := fun _ => fun
  | [d1, d2, d3] => { results := [.lit (.bool false)], args := [d1, d2, d3] }
  | _ => none }
def JoinRunsWrongFalsely : Prop := joinRunsRow.holds Try.pinned (OpenSpec.ofChange joinRunsWrong)

/- THE SECOND FORM. 'bulk': how many values and letters a reading holds, each counted each time it is reached (what is shared counts as often as it is met; a slice's spare places count too). A statement '..UptoSaid' is the law's where the arguments, and the package variables that the reading takes, are together of bulk at most 1048576: NARROWER than '..Said'. Prove '..Said' where nothing that the law and all that it calls make is longer than what came in: it says more and counts as full. Else prove '..UptoSaid'. A law counts once. -/
mutual
def uptoBulk {H : Type} : DataW H → Nat
  | .lit (.string bytes) => bytes.length + 1
  | .lit _ => 1
  | .nil => 1
  | .ptr d => uptoBulk d + 1
  | .slice elems spare => uptoBulkAll elems + uptoBulkAll spare + 1
  | .agg parts => uptoBulkAll parts + 1
  | .iface _ d => uptoBulk d + 1
  | .map entries => uptoBulkEntries entries + 1
  | .held _ => 1
def uptoBulkAll {H : Type} : List (DataW H) → Nat
  | [] => 0
  | d :: r => uptoBulk d + uptoBulkAll r
def uptoBulkEntries {H : Type} : List (Lit × DataW H) → Nat
  | [] => 0
  | x :: r => uptoBulkEntry x + uptoBulkEntries r
def uptoBulkEntry {H : Type} : Lit × DataW H → Nat
  | (.string bytes, d) => bytes.length + uptoBulk d + 1
  | (_, d) => uptoBulk d + 1
 end
def uptoSmall : (H : Type) → List (DataW H) → Bool := fun _ ds => decide (uptoBulkAll ds ≤ 1048576)
def OpenSpec.upto (s : _root_.Go.ChangeSpec) : _root_.Go.OpenSpec := { _root_.Go.OpenSpec.ofChange s with cond := some uptoSmall }

/-- 'rhizomelaw14.JoinViews', WHERE WHAT IT READS IS OF BULK AT MOST 1048576: true; the input reads as it did. -/
def joinViewsUptoRow : OpenClaim := { program := "ytkgkkbfpkgfcaaa", sum := "1c70b467e903ddb5af2a08bd419f7bade096e391cea455caa33580acb94e1cd3", func := "rhizome/rhizomelaw14.JoinViews", spec := "joinViews", unfollowed := true, recurses := true, plainKeys := false, apart := false, narrowed := true }
def JoinViewsUptoSaid : Prop := joinViewsUptoRow.holds Try.pinned (OpenSpec.upto joinViewsSpec)

/-- 'rhizomelaw14.JoinLeaves', WHERE WHAT IT READS IS OF BULK AT MOST 1048576: true; the input reads as it did. -/
def joinLeavesUptoRow : OpenClaim := { program := "ytkgkkbfpkgfcaaa", sum := "1c70b467e903ddb5af2a08bd419f7bade096e391cea455caa33580acb94e1cd3", func := "rhizome/rhizomelaw14.JoinLeaves", spec := "joinLeaves", unfollowed := true, recurses := true, plainKeys := false, apart := false, narrowed := true }
def JoinLeavesUptoSaid : Prop := joinLeavesUptoRow.holds Try.pinned (OpenSpec.upto joinLeavesSpec)

/-- 'rhizomelaw14.JoinRuns', WHERE WHAT IT READS IS OF BULK AT MOST 1048576: true; the input reads as it did. -/
def joinRunsUptoRow : OpenClaim := { program := "ytkgkkbfpkgfcaaa", sum := "1c70b467e903ddb5af2a08bd419f7bade096e391cea455caa33580acb94e1cd3", func := "rhizome/rhizomelaw14.JoinRuns", spec := "joinRuns", unfollowed := true, recurses := true, plainKeys := false, apart := false, narrowed := true }
def JoinRunsUptoSaid : Prop := joinRunsUptoRow.holds Try.pinned (OpenSpec.upto joinRunsSpec)

end Rows
end Go.Proofs.Ytkgkkbfpkgfcaaa
