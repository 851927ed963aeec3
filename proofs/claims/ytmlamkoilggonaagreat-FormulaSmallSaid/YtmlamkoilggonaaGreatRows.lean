/-
  No cell of these rows narrows 'for every input' (looked for: loops, veiled, ifaces, maps, wideKeys, modest, calm, conditions, laid).
  DERIVED. THE GIVEN ROWS OF THIS SEAT. 7 by the template 'for every input the law returns true; each argument reads behind the call as it read before'; 0 by the template 'total and deterministic' (their statements: YtmlamkoilggonaaGreatTotals.lean).
  GIVEN WITH THE SEED: the statements are not yours to turn. If you find one false, say at which input.
  Laid BY PROGRAM, IN A SANDBOX (cutbox-rows.mjs): the forced cells as the released guide's own fill.sh prints them over the translation b14a8f069eb5e08c… (all of the seat's roots in one cut). By AI agents, Wed Nov 11 2026. No macro, syntax, notation, axiom, sorry.
-/
import Derived.Test.YtmlamkoilggonaaGreatChecked
import GoSem.Claim
import GoSem.ClaimJoined
import GoSem.ClaimMapViews
import Derived.JoinedTies
import Derived.KernelRfl
namespace Go.Proofs.YtmlamkoilggonaaGreat
/- THE CELL 'sum', in the pinned program and in every row, IS THE sha256 OF THE DUMP (.gsa) THAT YtmlamkoilggonaaGreatProg.lean LOADS. Nothing in Lean hashes anything: it is a label: what it is worth is what the hold of that sum in a sandbox is worth. -/
noncomputable def Tryz.pinned : Pinned := { name := "ytmlamkoilggonaagreat", sum := "b14a8f069eb5e08c3f0fa4b1fb85ae4c83924a2c563d949b17f245663989f532", checked := Tryz.checked }
namespace Rows
def none {H : Type} : Left H := { results := [], args := [] }

/-- 'salvorlaw05.FormulaTells': WHATEVER THE INPUT: true; the input reads as it did. -/
def formulaTellsSpec : ChangeSpec := { name := "formulaTells", fn := fun _ => fun
  | [d1, d2, d3] => { results := [.lit (.bool true)], args := [d1, d2, d3] }
  | _ => none }
def formulaTellsRow : OpenClaim := { program := "ytmlamkoilggonaagreat", sum := "b14a8f069eb5e08c3f0fa4b1fb85ae4c83924a2c563d949b17f245663989f532", func := "salvor/salvorlaw05.FormulaTells", spec := "formulaTells", unfollowed := true, recurses := true, apart := false }
def FormulaTellsSaid : Prop := formulaTellsRow.holds Tryz.pinned (OpenSpec.ofChange formulaTellsSpec)

/-- ITS FALSE NEIGHBOUR: 'it returns false'. Refute it at one input. -/
def formulaTellsWrong : ChangeSpec := { name := "formulaTells", fn := fun _ => fun
  | [d1, d2, d3] => { results := [.lit (.bool false)], args := [d1, d2, d3] }
  | _ => none }
def FormulaTellsWrongFalsely : Prop := formulaTellsRow.holds Tryz.pinned (OpenSpec.ofChange formulaTellsWrong)

/-- 'salvorlaw05.FormulaSmall': WHATEVER THE INPUT: true; the input reads as it did. -/
def formulaSmallSpec : ChangeSpec := { name := "formulaSmall", fn := fun _ => fun
  | [] => { results := [.lit (.bool true)], args := [] }
  | _ => none }
def formulaSmallRow : OpenClaim := { program := "ytmlamkoilggonaagreat", sum := "b14a8f069eb5e08c3f0fa4b1fb85ae4c83924a2c563d949b17f245663989f532", func := "salvor/salvorlaw05.FormulaSmall", spec := "formulaSmall", unfollowed := true, recurses := true, apart := false }
def FormulaSmallSaid : Prop := formulaSmallRow.holds Tryz.pinned (OpenSpec.ofChange formulaSmallSpec)

/-- ITS FALSE NEIGHBOUR: 'it returns false'. Refute it at one input. -/
def formulaSmallWrong : ChangeSpec := { name := "formulaSmall", fn := fun _ => fun
  | [] => { results := [.lit (.bool false)], args := [] }
  | _ => none }
def FormulaSmallWrongFalsely : Prop := formulaSmallRow.holds Tryz.pinned (OpenSpec.ofChange formulaSmallWrong)

/-- 'salvorlaw05.FormulaNorm': WHATEVER THE INPUT: true; the input reads as it did. -/
def formulaNormSpec : ChangeSpec := { name := "formulaNorm", fn := fun _ => fun
  | [d1, d2] => { results := [.lit (.bool true)], args := [d1, d2] }
  | _ => none }
def formulaNormRow : OpenClaim := { program := "ytmlamkoilggonaagreat", sum := "b14a8f069eb5e08c3f0fa4b1fb85ae4c83924a2c563d949b17f245663989f532", func := "salvor/salvorlaw05.FormulaNorm", spec := "formulaNorm", unfollowed := true, recurses := true, apart := false }
def FormulaNormSaid : Prop := formulaNormRow.holds Tryz.pinned (OpenSpec.ofChange formulaNormSpec)

/-- ITS FALSE NEIGHBOUR: 'it returns false'. Refute it at one input. -/
def formulaNormWrong : ChangeSpec := { name := "formulaNorm", fn := fun _ => fun
  | [d1, d2] => { results := [.lit (.bool false)], args := [d1, d2] }
  | _ => none }
def FormulaNormWrongFalsely : Prop := formulaNormRow.holds Tryz.pinned (OpenSpec.ofChange formulaNormWrong)

/-- 'salvorlaw05.FormulaModels': WHATEVER THE INPUT: true; the input reads as it did. -/
def formulaModelsSpec : ChangeSpec := { name := "formulaModels", fn := fun _ => fun
  | [d1, d2, d3, d4] => { results := [.lit (.bool true)], args := [d1, d2, d3, d4] }
  | _ => none }
def formulaModelsRow : OpenClaim := { program := "ytmlamkoilggonaagreat", sum := "b14a8f069eb5e08c3f0fa4b1fb85ae4c83924a2c563d949b17f245663989f532", func := "salvor/salvorlaw05.FormulaModels", spec := "formulaModels", unfollowed := true, recurses := true, apart := false }
def FormulaModelsSaid : Prop := formulaModelsRow.holds Tryz.pinned (OpenSpec.ofChange formulaModelsSpec)

/-- ITS FALSE NEIGHBOUR: 'it returns false'. Refute it at one input. -/
def formulaModelsWrong : ChangeSpec := { name := "formulaModels", fn := fun _ => fun
  | [d1, d2, d3, d4] => { results := [.lit (.bool false)], args := [d1, d2, d3, d4] }
  | _ => none }
def FormulaModelsWrongFalsely : Prop := formulaModelsRow.holds Tryz.pinned (OpenSpec.ofChange formulaModelsWrong)

/-- 'salvorlaw05.FormulaYields': WHATEVER THE INPUT: true; the input reads as it did. -/
def formulaYieldsSpec : ChangeSpec := { name := "formulaYields", fn := fun _ => fun
  | [d1, d2, d3] => { results := [.lit (.bool true)], args := [d1, d2, d3] }
  | _ => none }
def formulaYieldsRow : OpenClaim := { program := "ytmlamkoilggonaagreat", sum := "b14a8f069eb5e08c3f0fa4b1fb85ae4c83924a2c563d949b17f245663989f532", func := "salvor/salvorlaw05.FormulaYields", spec := "formulaYields", unfollowed := true, recurses := true, apart := false }
def FormulaYieldsSaid : Prop := formulaYieldsRow.holds Tryz.pinned (OpenSpec.ofChange formulaYieldsSpec)

/-- ITS FALSE NEIGHBOUR: 'it returns false'. Refute it at one input. -/
def formulaYieldsWrong : ChangeSpec := { name := "formulaYields", fn := fun _ => fun
  | [d1, d2, d3] => { results := [.lit (.bool false)], args := [d1, d2, d3] }
  | _ => none }
def FormulaYieldsWrongFalsely : Prop := formulaYieldsRow.holds Tryz.pinned (OpenSpec.ofChange formulaYieldsWrong)

/-- 'salvorlaw05.FormulaMore': WHATEVER THE INPUT: true; the input reads as it did. -/
def formulaMoreSpec : ChangeSpec := { name := "formulaMore", fn := fun _ => fun
  | [d1, d2, d3] => { results := [.lit (.bool true)], args := [d1, d2, d3] }
  | _ => none }
def formulaMoreRow : OpenClaim := { program := "ytmlamkoilggonaagreat", sum := "b14a8f069eb5e08c3f0fa4b1fb85ae4c83924a2c563d949b17f245663989f532", func := "salvor/salvorlaw05.FormulaMore", spec := "formulaMore", unfollowed := true, recurses := true, apart := false }
def FormulaMoreSaid : Prop := formulaMoreRow.holds Tryz.pinned (OpenSpec.ofChange formulaMoreSpec)

/-- ITS FALSE NEIGHBOUR: 'it returns false'. Refute it at one input. -/
def formulaMoreWrong : ChangeSpec := { name := "formulaMore", fn := fun _ => fun
  | [d1, d2, d3] => { results := [.lit (.bool false)], args := [d1, d2, d3] }
  | _ => none }
def FormulaMoreWrongFalsely : Prop := formulaMoreRow.holds Tryz.pinned (OpenSpec.ofChange formulaMoreWrong)

/-- 'salvorlaw05.FormulaParts': WHATEVER THE INPUT: true; the input reads as it did. -/
def formulaPartsSpec : ChangeSpec := { name := "formulaParts", fn := fun _ => fun
  | [d1, d2] => { results := [.lit (.bool true)], args := [d1, d2] }
  | _ => none }
def formulaPartsRow : OpenClaim := { program := "ytmlamkoilggonaagreat", sum := "b14a8f069eb5e08c3f0fa4b1fb85ae4c83924a2c563d949b17f245663989f532", func := "salvor/salvorlaw05.FormulaParts", spec := "formulaParts", inPlace := ["slices.overlaps[int]"], unfollowed := true, recurses := true, apart := false }
def FormulaPartsSaid : Prop := formulaPartsRow.holds Tryz.pinned (OpenSpec.ofChange formulaPartsSpec)

/-- ITS FALSE NEIGHBOUR: 'it returns false'. Refute it at one input. -/
def formulaPartsWrong : ChangeSpec := { name := "formulaParts", fn := fun _ => fun
  | [d1, d2] => { results := [.lit (.bool false)], args := [d1, d2] }
  | _ => none }
def FormulaPartsWrongFalsely : Prop := formulaPartsRow.holds Tryz.pinned (OpenSpec.ofChange formulaPartsWrong)

/- THE SECOND FORM. 'bulk': how many values and letters a reading holds, each counted each time it is reached (what is shared counts as often as it is met; a slice's spare places count too). A statement '..UptoSaid' is the law's where the arguments, and the package variables that the reading takes, are together of bulk at most 1048576: NARROWER than '..Said'. Prove '..Said' where nothing that the law and all that it calls make is longer than what came in: it says more and counts as full. Else prove '..UptoSaid'. A law counts once. -/
mutual
def uptoBulk {H : Type} : DataW H → Nat
  | .lit (.string bytes) => bytes.length + 1
  | .lit _ => 1
  | .nil => 1
  | .ptr d => uptoBulk d + 1
  | .slice elems spare => uptoBulkAll elems + uptoBulkAll spare + 1
  | .agg parts => uptoBulkAll parts + 1
  | .iface _ d => uptoBulk d + 1
  | .map entries => uptoBulkEntries entries + 1
  | .held _ => 1
def uptoBulkAll {H : Type} : List (DataW H) → Nat
  | [] => 0
  | d :: r => uptoBulk d + uptoBulkAll r
def uptoBulkEntries {H : Type} : List (Lit × DataW H) → Nat
  | [] => 0
  | x :: r => uptoBulkEntry x + uptoBulkEntries r
def uptoBulkEntry {H : Type} : Lit × DataW H → Nat
  | (.string bytes, d) => bytes.length + uptoBulk d + 1
  | (_, d) => uptoBulk d + 1
 end
def uptoSmall : (H : Type) → List (DataW H) → Bool := fun _ ds => decide (uptoBulkAll ds ≤ 1048576)
def OpenSpec.upto (s : _root_.Go.ChangeSpec) : _root_.Go.OpenSpec := { _root_.Go.OpenSpec.ofChange s with cond := some uptoSmall }

/-- 'salvorlaw05.FormulaTells', WHERE WHAT IT READS IS OF BULK AT MOST 1048576: true; the input reads as it did. -/
def formulaTellsUptoRow : OpenClaim := { program := "ytmlamkoilggonaagreat", sum := "b14a8f069eb5e08c3f0fa4b1fb85ae4c83924a2c563d949b17f245663989f532", func := "salvor/salvorlaw05.FormulaTells", spec := "formulaTells", unfollowed := true, recurses := true, apart := false, narrowed := true }
def FormulaTellsUptoSaid : Prop := formulaTellsUptoRow.holds Tryz.pinned (OpenSpec.upto formulaTellsSpec)

/-- 'salvorlaw05.FormulaSmall', WHERE WHAT IT READS IS OF BULK AT MOST 1048576: true; the input reads as it did. -/
def formulaSmallUptoRow : OpenClaim := { program := "ytmlamkoilggonaagreat", sum := "b14a8f069eb5e08c3f0fa4b1fb85ae4c83924a2c563d949b17f245663989f532", func := "salvor/salvorlaw05.FormulaSmall", spec := "formulaSmall", unfollowed := true, recurses := true, apart := false, narrowed := true }
def FormulaSmallUptoSaid : Prop := formulaSmallUptoRow.holds Tryz.pinned (OpenSpec.upto formulaSmallSpec)

/-- 'salvorlaw05.FormulaNorm', WHERE WHAT IT READS IS OF BULK AT MOST 1048576: true; the input reads as it did. -/
def formulaNormUptoRow : OpenClaim := { program := "ytmlamkoilggonaagreat", sum := "b14a8f069eb5e08c3f0fa4b1fb85ae4c83924a2c563d949b17f245663989f532", func := "salvor/salvorlaw05.FormulaNorm", spec := "formulaNorm", unfollowed := true, recurses := true, apart := false, narrowed := true }
def FormulaNormUptoSaid : Prop := formulaNormUptoRow.holds Tryz.pinned (OpenSpec.upto formulaNormSpec)

/-- 'salvorlaw05.FormulaModels', WHERE WHAT IT READS IS OF BULK AT MOST 1048576: true; the input reads as it did. -/
def formulaModelsUptoRow : OpenClaim := { program := "ytmlamkoilggonaagreat", sum := "b14a8f069eb5e08c3f0fa4b1fb85ae4c83924a2c563d949b17f245663989f532", func := "salvor/salvorlaw05.FormulaModels", spec := "formulaModels", unfollowed := true, recurses := true, apart := false, narrowed := true }
def FormulaModelsUptoSaid : Prop := formulaModelsUptoRow.holds Tryz.pinned (OpenSpec.upto formulaModelsSpec)

/-- 'salvorlaw05.FormulaYields', WHERE WHAT IT READS IS OF BULK AT MOST 1048576: true; the input reads as it did. -/
def formulaYieldsUptoRow : OpenClaim := { program := "ytmlamkoilggonaagreat", sum := "b14a8f069eb5e08c3f0fa4b1fb85ae4c83924a2c563d949b17f245663989f532", func := "salvor/salvorlaw05.FormulaYields", spec := "formulaYields", unfollowed := true, recurses := true, apart := false, narrowed := true }
def FormulaYieldsUptoSaid : Prop := formulaYieldsUptoRow.holds Tryz.pinned (OpenSpec.upto formulaYieldsSpec)

/-- 'salvorlaw05.FormulaMore', WHERE WHAT IT READS IS OF BULK AT MOST 1048576: true; the input reads as it did. -/
def formulaMoreUptoRow : OpenClaim := { program := "ytmlamkoilggonaagreat", sum := "b14a8f069eb5e08c3f0fa4b1fb85ae4c83924a2c563d949b17f245663989f532", func := "salvor/salvorlaw05.FormulaMore", spec := "formulaMore", unfollowed := true, recurses := true, apart := false, narrowed := true }
def FormulaMoreUptoSaid : Prop := formulaMoreUptoRow.holds Tryz.pinned (OpenSpec.upto formulaMoreSpec)

/-- 'salvorlaw05.FormulaParts', WHERE WHAT IT READS IS OF BULK AT MOST 1048576: true; the input reads as it did. -/
def formulaPartsUptoRow : OpenClaim := { program := "ytmlamkoilggonaagreat", sum := "b14a8f069eb5e08c3f0fa4b1fb85ae4c83924a2c563d949b17f245663989f532", func := "salvor/salvorlaw05.FormulaParts", spec := "formulaParts", inPlace := ["slices.overlaps[int]"], unfollowed := true, recurses := true, apart := false, narrowed := true }
def FormulaPartsUptoSaid : Prop := formulaPartsUptoRow.holds Tryz.pinned (OpenSpec.upto formulaPartsSpec)

end Rows
end Go.Proofs.YtmlamkoilggonaaGreat
