/-
  No cell of these rows narrows 'for every input' (looked for: loops, veiled, ifaces, maps, wideKeys, modest, calm, conditions, laid).
  DERIVED. THE GIVEN ROWS OF THIS SEAT. 3 by the template 'for every input the law returns true; each argument reads behind the call as it read before'; 0 by the template 'total and deterministic' (their statements: YtmbokpfgnicboaaTotals.lean).
  GIVEN WITH THE SEED: the statements are not yours to turn. If you find one false, say at which input.
  Laid BY PROGRAM, IN A SANDBOX (cutbox-rows.mjs): the forced cells as the released guide's own fill.sh prints them over the translation 624f4642ad41b290… (all of the seat's roots in one cut). By AI agents, Wed Nov 11 2026. No macro, syntax, notation, axiom, sorry.
-/
import Derived.Test.YtmbokpfgnicboaaChecked
import GoSem.Claim
import GoSem.ClaimJoined
import GoSem.ClaimMapViews
import Derived.JoinedTies
import Derived.KernelRfl
namespace Go.Proofs.Ytmbokpfgnicboaa
/- THE CELL 'sum', in the pinned program and in every row, IS THE sha256 OF THE DUMP (.gsa) THAT YtmbokpfgnicboaaProg.lean LOADS. Nothing in Lean hashes anything: it is a label: what it is worth is what the hold of that sum in a sandbox is worth. -/
noncomputable def Try.pinned : Pinned := { name := "ytmbokpfgnicboaa", sum := "624f4642ad41b29034a553d58117ad1c968dbe37eb333c4405425bc2246cf117", checked := Try.checked }
namespace Rows
def none {H : Type} : Left H := { results := [], args := [] }

/-- 'headendlaw07.CodeFeasible': WHATEVER THE INPUT: true; the input reads as it did. -/
def codeFeasibleSpec : ChangeSpec := { name := "codeFeasible", fn := fun _ => fun
  | [d1, d2] => { results := [.lit (.bool true)], args := [d1, d2] }
  | _ => none }
def codeFeasibleRow : OpenClaim := { program := "ytmbokpfgnicboaa", sum := "624f4642ad41b29034a553d58117ad1c968dbe37eb333c4405425bc2246cf117", func := "headend/headendlaw07.CodeFeasible", spec := "codeFeasible", unfollowed := true, recurses := true, apart := false }
def CodeFeasibleSaid : Prop := codeFeasibleRow.holds Try.pinned (OpenSpec.ofChange codeFeasibleSpec)

/-- ITS FALSE NEIGHBOUR: 'it returns false'. Refute it at one input. -/
def codeFeasibleWrong : ChangeSpec := { name := "codeFeasible", fn := fun _ => fun
  | [d1, d2] => { results := [.lit (.bool false)], args := [d1, d2] }
  | _ => none }
def CodeFeasibleWrongFalsely : Prop := codeFeasibleRow.holds Try.pinned (OpenSpec.ofChange codeFeasibleWrong)

/-- 'headendlaw07.CodeScores': WHATEVER THE INPUT: true; the input reads as it did. -/
def codeScoresSpec : ChangeSpec := { name := "codeScores", fn := fun _ => fun
  | [d1, d2, d3, d4] => { results := [.lit (.bool true)], args := [d1, d2, d3, d4] }
  | _ => none }
def codeScoresRow : OpenClaim := { program := "ytmbokpfgnicboaa", sum := "624f4642ad41b29034a553d58117ad1c968dbe37eb333c4405425bc2246cf117", func := "headend/headendlaw07.CodeScores", spec := "codeScores", unfollowed := true, recurses := true, apart := false }
def CodeScoresSaid : Prop := codeScoresRow.holds Try.pinned (OpenSpec.ofChange codeScoresSpec)

/-- ITS FALSE NEIGHBOUR: 'it returns false'. Refute it at one input. -/
def codeScoresWrong : ChangeSpec := { name := "codeScores", fn := fun _ => fun
  | [d1, d2, d3, d4] => { results := [.lit (.bool false)], args := [d1, d2, d3, d4] }
  | _ => none }
def CodeScoresWrongFalsely : Prop := codeScoresRow.holds Try.pinned (OpenSpec.ofChange codeScoresWrong)

/-- 'headendlaw07.CodeTails': WHATEVER THE INPUT: true; the input reads as it did. -/
def codeTailsSpec : ChangeSpec := { name := "codeTails", fn := fun _ => fun
  | [d1, d2, d3, d4] => { results := [.lit (.bool true)], args := [d1, d2, d3, d4] }
  | _ => none }
def codeTailsRow : OpenClaim := { program := "ytmbokpfgnicboaa", sum := "624f4642ad41b29034a553d58117ad1c968dbe37eb333c4405425bc2246cf117", func := "headend/headendlaw07.CodeTails", spec := "codeTails", unfollowed := true, recurses := true, named := ["math/bits.overflowError"], apart := false }
def CodeTailsSaid : Prop := codeTailsRow.holds Try.pinned (OpenSpec.ofChange codeTailsSpec)

/-- ITS FALSE NEIGHBOUR: 'it returns false'. Refute it at one input. -/
def codeTailsWrong : ChangeSpec := { name := "codeTails", fn := fun _ => fun
  | [d1, d2, d3, d4] => { results := [.lit (.bool false)], args := [d1, d2, d3, d4] }
  | _ => none }
def CodeTailsWrongFalsely : Prop := codeTailsRow.holds Try.pinned (OpenSpec.ofChange codeTailsWrong)

/- THE SECOND FORM. 'bulk': how many values and letters a reading holds, each counted each time it is reached (what is shared counts as often as it is met; a slice's spare places count too). A statement '..UptoSaid' is the law's where the arguments, and the package variables that the reading takes, are together of bulk at most 1048576: NARROWER than '..Said'. Prove '..Said' where nothing that the law and all that it calls make is longer than what came in: it says more and counts as full. Else prove '..UptoSaid'. A law counts once. -/
mutual
def uptoBulk {H : Type} : DataW H → Nat
  | .lit (.string bytes) => bytes.length + 1
  | .lit _ => 1
  | .nil => 1
  | .ptr d => uptoBulk d + 1
  | .slice elems spare => uptoBulkAll elems + uptoBulkAll spare + 1
  | .agg parts => uptoBulkAll parts + 1
  | .iface _ d => uptoBulk d + 1
  | .map entries => uptoBulkEntries entries + 1
  | .held _ => 1
def uptoBulkAll {H : Type} : List (DataW H) → Nat
  | [] => 0
  | d :: r => uptoBulk d + uptoBulkAll r
def uptoBulkEntries {H : Type} : List (Lit × DataW H) → Nat
  | [] => 0
  | x :: r => uptoBulkEntry x + uptoBulkEntries r
def uptoBulkEntry {H : Type} : Lit × DataW H → Nat
  | (.string bytes, d) => bytes.length + uptoBulk d + 1
  | (_, d) => uptoBulk d + 1
 end
def uptoSmall : (H : Type) → List (DataW H) → Bool := fun _ ds => decide (uptoBulkAll ds ≤ 1048576)
def OpenSpec.upto (s : _root_.Go.ChangeSpec) : _root_.Go.OpenSpec := { _root_.Go.OpenSpec.ofChange s with cond := some uptoSmall }

/-- 'headendlaw07.CodeFeasible', WHERE WHAT IT READS IS OF BULK AT MOST 1048576: true; the input reads as it did. -/
def codeFeasibleUptoRow : OpenClaim := { program := "ytmbokpfgnicboaa", sum := "624f4642ad41b29034a553d58117ad1c968dbe37eb333c4405425bc2246cf117", func := "headend/headendlaw07.CodeFeasible", spec := "codeFeasible", unfollowed := true, recurses := true, apart := false, narrowed := true }
def CodeFeasibleUptoSaid : Prop := codeFeasibleUptoRow.holds Try.pinned (OpenSpec.upto codeFeasibleSpec)

/-- 'headendlaw07.CodeScores', WHERE WHAT IT READS IS OF BULK AT MOST 1048576: true; the input reads as it did. -/
def codeScoresUptoRow : OpenClaim := { program := "ytmbokpfgnicboaa", sum := "624f4642ad41b29034a553d58117ad1c968dbe37eb333c4405425bc2246cf117", func := "headend/headendlaw07.CodeScores", spec := "codeScores", unfollowed := true, recurses := true, apart := false, narrowed := true }
def CodeScoresUptoSaid : Prop := codeScoresUptoRow.holds Try.pinned (OpenSpec.upto codeScoresSpec)

/-- 'headendlaw07.CodeTails', WHERE WHAT IT READS IS OF BULK AT MOST 1048576: true; the input reads as it did. -/
def codeTailsUptoRow : OpenClaim := { program := "ytmbokpfgnicboaa", sum := "624f4642ad41b29034a553d58117ad1c968dbe37eb333c4405425bc2246cf117", func := "headend/headendlaw07.CodeTails", spec := "codeTails", unfollowed := true, recurses := true, named := ["math/bits.overflowError"], apart := false, narrowed := true }
def CodeTailsUptoSaid : Prop := codeTailsUptoRow.holds Try.pinned (OpenSpec.upto codeTailsSpec)

end Rows
end Go.Proofs.Ytmbokpfgnicboaa
