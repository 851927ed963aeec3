/-
  No cell of these rows narrows 'for every input' (looked for: loops, veiled, ifaces, maps, wideKeys, modest, calm, conditions, laid).
  DERIVED. THE GIVEN ROWS OF THIS SEAT. 2 by the template 'for every input the law returns true; each argument reads behind the call as it read before'; 0 by the template 'total and deterministic' (their statements: YtmlamkoilggonaaTotals.lean).
  GIVEN WITH THE SEED: the statements are not yours to turn. If you find one false, say at which input.
  Laid BY PROGRAM, IN A SANDBOX (cutbox-rows.mjs): the forced cells as the released guide's own fill.sh prints them over the translation 67c5f55acf6134a0… (all of the seat's roots in one cut). By AI agents, Wed Nov 11 2026. No macro, syntax, notation, axiom, sorry.
-/
import Derived.Test.YtmlamkoilggonaaChecked
import GoSem.Claim
import GoSem.ClaimJoined
import GoSem.ClaimMapViews
import Derived.JoinedTies
import Derived.KernelRfl
namespace Go.Proofs.Ytmlamkoilggonaa
/- THE CELL 'sum', in the pinned program and in every row, IS THE sha256 OF THE DUMP (.gsa) THAT YtmlamkoilggonaaProg.lean LOADS. Nothing in Lean hashes anything: it is a label: what it is worth is what the hold of that sum in a sandbox is worth. -/
noncomputable def Try.pinned : Pinned := { name := "ytmlamkoilggonaa", sum := "67c5f55acf6134a014df1858fdae57227887ed6be4f33f761fcbfcd241d347bc", checked := Try.checked }
namespace Rows
def none {H : Type} : Left H := { results := [], args := [] }

/-- 'salvorlaw05.FormulaBack': WHATEVER THE INPUT: true; the input reads as it did. -/
def formulaBackSpec : ChangeSpec := { name := "formulaBack", fn := fun _ => fun
  | [d1, d2] => { results := [.lit (.bool true)], args := [d1, d2] }
  | _ => none }
def formulaBackRow : OpenClaim := { program := "ytmlamkoilggonaa", sum := "67c5f55acf6134a014df1858fdae57227887ed6be4f33f761fcbfcd241d347bc", func := "salvor/salvorlaw05.FormulaBack", spec := "formulaBack", unfollowed := true, recurses := true, apart := false }
def FormulaBackSaid : Prop := formulaBackRow.holds Try.pinned (OpenSpec.ofChange formulaBackSpec)

/-- ITS FALSE NEIGHBOUR: 'it returns false'. Refute it at one input. -/
def formulaBackWrong : ChangeSpec := { name := "formulaBack", fn := fun _ => fun
  | [d1, d2] => { results := [.lit (.bool false)], args := [d1, d2] }
  | _ => none }
def FormulaBackWrongFalsely : Prop := formulaBackRow.holds Try.pinned (OpenSpec.ofChange formulaBackWrong)

/-- 'salvorlaw05.FormulaWrong': WHATEVER THE INPUT: true; the input reads as it did. -/
def formulaWrongSpec : ChangeSpec := { name := "formulaWrong", fn := fun _ => fun
  | [d1, d2, d3] => { results := [.lit (.bool true)], args := [d1, d2, d3] }
  | _ => none }
def formulaWrongRow : OpenClaim := { program := "ytmlamkoilggonaa", sum := "67c5f55acf6134a014df1858fdae57227887ed6be4f33f761fcbfcd241d347bc", func := "salvor/salvorlaw05.FormulaWrong", spec := "formulaWrong", inPlace := ["slices.overlaps[salvor/clauses.Clause]"], unfollowed := true, recurses := true, apart := false }
def FormulaWrongSaid : Prop := formulaWrongRow.holds Try.pinned (OpenSpec.ofChange formulaWrongSpec)

/-- ITS FALSE NEIGHBOUR: 'it returns false'. Refute it at one input. -/
def formulaWrongWrong : ChangeSpec := { name := "formulaWrong", fn := fun _ => fun
  | [d1, d2, d3] => { results := [.lit (.bool false)], args := [d1, d2, d3] }
  | _ => none }
def FormulaWrongWrongFalsely : Prop := formulaWrongRow.holds Try.pinned (OpenSpec.ofChange formulaWrongWrong)

/- THE SECOND FORM. 'bulk': how many values and letters a reading holds, each counted each time it is reached (what is shared counts as often as it is met; a slice's spare places count too). A statement '..UptoSaid' is the law's where the arguments, and the package variables that the reading takes, are together of bulk at most 1048576: NARROWER than '..Said'. Prove '..Said' where nothing that the law and all that it calls make is longer than what came in: it says more and counts as full. Else prove '..UptoSaid'. A law counts once. -/
mutual
def uptoBulk {H : Type} : DataW H → Nat
  | .lit (.string bytes) => bytes.length + 1
  | .lit _ => 1
  | .nil => 1
  | .ptr d => uptoBulk d + 1
  | .slice elems spare => uptoBulkAll elems + uptoBulkAll spare + 1
  | .agg parts => uptoBulkAll parts + 1
  | .iface _ d => uptoBulk d + 1
  | .map entries => uptoBulkEntries entries + 1
  | .held _ => 1
def uptoBulkAll {H : Type} : List (DataW H) → Nat
  | [] => 0
  | d :: r => uptoBulk d + uptoBulkAll r
def uptoBulkEntries {H : Type} : List (Lit × DataW H) → Nat
  | [] => 0
  | x :: r => uptoBulkEntry x + uptoBulkEntries r
def uptoBulkEntry {H : Type} : Lit × DataW H → Nat
  | (.string bytes, d) => bytes.length + uptoBulk d + 1
  | (_, d) => uptoBulk d + 1
 end
def uptoSmall : (H : Type) → List (DataW H) → Bool := fun _ ds => decide (uptoBulkAll ds ≤ 1048576)
def OpenSpec.upto (s : _root_.Go.ChangeSpec) : _root_.Go.OpenSpec := { _root_.Go.OpenSpec.ofChange s with cond := some uptoSmall }

/-- 'salvorlaw05.FormulaBack', WHERE WHAT IT READS IS OF BULK AT MOST 1048576: true; the input reads as it did. -/
def formulaBackUptoRow : OpenClaim := { program := "ytmlamkoilggonaa", sum := "67c5f55acf6134a014df1858fdae57227887ed6be4f33f761fcbfcd241d347bc", func := "salvor/salvorlaw05.FormulaBack", spec := "formulaBack", unfollowed := true, recurses := true, apart := false, narrowed := true }
def FormulaBackUptoSaid : Prop := formulaBackUptoRow.holds Try.pinned (OpenSpec.upto formulaBackSpec)

/-- 'salvorlaw05.FormulaWrong', WHERE WHAT IT READS IS OF BULK AT MOST 1048576: true; the input reads as it did. -/
def formulaWrongUptoRow : OpenClaim := { program := "ytmlamkoilggonaa", sum := "67c5f55acf6134a014df1858fdae57227887ed6be4f33f761fcbfcd241d347bc", func := "salvor/salvorlaw05.FormulaWrong", spec := "formulaWrong", inPlace := ["slices.overlaps[salvor/clauses.Clause]"], unfollowed := true, recurses := true, apart := false, narrowed := true }
def FormulaWrongUptoSaid : Prop := formulaWrongUptoRow.holds Try.pinned (OpenSpec.upto formulaWrongSpec)

end Rows
end Go.Proofs.Ytmlamkoilggonaa
