/-
  No cell of these rows narrows 'for every input' (looked for: loops, veiled, ifaces, maps, wideKeys, modest, calm, conditions, laid).
  DERIVED. THE GIVEN ROWS OF THIS SEAT. 8 by the template 'for every input the law returns true; each argument reads behind the call as it read before'; 0 by the template 'total and deterministic' (their statements: YtchedlkmgahicaaTotals.lean).
  GIVEN WITH THE SEED: the statements are not yours to turn. If you find one false, say at which input.
  Laid BY PROGRAM, IN A SANDBOX (cutbox-rows.mjs): the forced cells as the released guide's own fill.sh prints them over the translation 45b2d265fc0d2f08… (all of the seat's roots in one cut). By AI agents, Wed Nov 11 2026. No macro, syntax, notation, axiom, sorry.
-/
import Derived.Test.YtchedlkmgahicaaChecked
import GoSem.Claim
import GoSem.ClaimJoined
import GoSem.ClaimMapViews
import Derived.JoinedTies
import Derived.KernelRfl
namespace Go.Proofs.Ytchedlkmgahicaa
/- THE CELL 'sum', in the pinned program and in every row, IS THE sha256 OF THE DUMP (.gsa) THAT YtchedlkmgahicaaProg.lean LOADS. Nothing in Lean hashes anything: it is a label: what it is worth is what the hold of that sum in a sandbox is worth. -/
noncomputable def Try.pinned : Pinned := { name := "ytchedlkmgahicaa", sum := "45b2d265fc0d2f08ed23d96f4f255a69989fcea6163fff9c7db930713a870a6a", checked := Try.checked }
namespace Rows
def none {H : Type} : Left H := { results := [], args := [] }

/-- 'salvorlaw35.CrashAll': WHATEVER THE INPUT: true; the input reads as it did. -/
def crashAllSpec : ChangeSpec := { name := "crashAll", fn := fun _ => fun
  | [d] => { results := [.lit (.bool true)], args := [d] }
  | _ => none }
def crashAllRow : OpenClaim := { program := "ytchedlkmgahicaa", sum := "45b2d265fc0d2f08ed23d96f4f255a69989fcea6163fff9c7db930713a870a6a", func := "salvor/salvorlaw35.CrashAll", spec := "crashAll", unfollowed := true, recurses := true, apart := false }
def CrashAllSaid : Prop := crashAllRow.holds Try.pinned (OpenSpec.ofChange crashAllSpec)

/-- ITS FALSE NEIGHBOUR: 'it returns false'. Refute it at one input. -/
def crashAllWrong : ChangeSpec := { name := "crashAll", fn := fun _ => fun
  | [d] => { results := [.lit (.bool false)], args := [d] }
  | _ => none }
def CrashAllWrongFalsely : Prop := crashAllRow.holds Try.pinned (OpenSpec.ofChange crashAllWrong)

/-- 'salvorlaw35.CrashSets': WHATEVER THE INPUT: true; the input reads as it did. -/
def crashSetsSpec : ChangeSpec := { name := "crashSets", fn := fun _ => fun
  | [d1, d2, d3] => { results := [.lit (.bool true)], args := [d1, d2, d3] }
  | _ => none }
def crashSetsRow : OpenClaim := { program := "ytchedlkmgahicaa", sum := "45b2d265fc0d2f08ed23d96f4f255a69989fcea6163fff9c7db930713a870a6a", func := "salvor/salvorlaw35.CrashSets", spec := "crashSets", unfollowed := true, recurses := true, apart := false }
def CrashSetsSaid : Prop := crashSetsRow.holds Try.pinned (OpenSpec.ofChange crashSetsSpec)

/-- ITS FALSE NEIGHBOUR: 'it returns false'. Refute it at one input. -/
def crashSetsWrong : ChangeSpec := { name := "crashSets", fn := fun _ => fun
  | [d1, d2, d3] => { results := [.lit (.bool false)], args := [d1, d2, d3] }
  | _ => none }
def CrashSetsWrongFalsely : Prop := crashSetsRow.holds Try.pinned (OpenSpec.ofChange crashSetsWrong)

/-- 'salvorlaw35.CrashWrites': WHATEVER THE INPUT: true; the input reads as it did. -/
def crashWritesSpec : ChangeSpec := { name := "crashWrites", fn := fun _ => fun
  | [d1, d2, d3, d4, d5] => { results := [.lit (.bool true)], args := [d1, d2, d3, d4, d5] }
  | _ => none }
def crashWritesRow : OpenClaim := { program := "ytchedlkmgahicaa", sum := "45b2d265fc0d2f08ed23d96f4f255a69989fcea6163fff9c7db930713a870a6a", func := "salvor/salvorlaw35.CrashWrites", spec := "crashWrites", unfollowed := true, recurses := true, apart := false }
def CrashWritesSaid : Prop := crashWritesRow.holds Try.pinned (OpenSpec.ofChange crashWritesSpec)

/-- ITS FALSE NEIGHBOUR: 'it returns false'. Refute it at one input. -/
def crashWritesWrong : ChangeSpec := { name := "crashWrites", fn := fun _ => fun
  | [d1, d2, d3, d4, d5] => { results := [.lit (.bool false)], args := [d1, d2, d3, d4, d5] }
  | _ => none }
def CrashWritesWrongFalsely : Prop := crashWritesRow.holds Try.pinned (OpenSpec.ofChange crashWritesWrong)

/-- 'salvorlaw35.CrashWrong': WHATEVER THE INPUT: true; the input reads as it did. -/
def crashWrongSpec : ChangeSpec := { name := "crashWrong", fn := fun _ => fun
  | [d1, d2, d3] => { results := [.lit (.bool true)], args := [d1, d2, d3] }
  | _ => none }
def crashWrongRow : OpenClaim := { program := "ytchedlkmgahicaa", sum := "45b2d265fc0d2f08ed23d96f4f255a69989fcea6163fff9c7db930713a870a6a", func := "salvor/salvorlaw35.CrashWrong", spec := "crashWrong", unfollowed := true, recurses := true, apart := false }
def CrashWrongSaid : Prop := crashWrongRow.holds Try.pinned (OpenSpec.ofChange crashWrongSpec)

/-- ITS FALSE NEIGHBOUR: 'it returns false'. Refute it at one input. -/
def crashWrongWrong : ChangeSpec := { name := "crashWrong", fn := fun _ => fun
  | [d1, d2, d3] => { results := [.lit (.bool false)], args := [d1, d2, d3] }
  | _ => none }
def CrashWrongWrongFalsely : Prop := crashWrongRow.holds Try.pinned (OpenSpec.ofChange crashWrongWrong)

/-- 'salvorlaw35.CrashTells': WHATEVER THE INPUT: true; the input reads as it did. -/
def crashTellsSpec : ChangeSpec := { name := "crashTells", fn := fun _ => fun
  | [d1, d2, d3] => { results := [.lit (.bool true)], args := [d1, d2, d3] }
  | _ => none }
def crashTellsRow : OpenClaim := { program := "ytchedlkmgahicaa", sum := "45b2d265fc0d2f08ed23d96f4f255a69989fcea6163fff9c7db930713a870a6a", func := "salvor/salvorlaw35.CrashTells", spec := "crashTells", unfollowed := true, recurses := true, apart := false }
def CrashTellsSaid : Prop := crashTellsRow.holds Try.pinned (OpenSpec.ofChange crashTellsSpec)

/-- ITS FALSE NEIGHBOUR: 'it returns false'. Refute it at one input. -/
def crashTellsWrong : ChangeSpec := { name := "crashTells", fn := fun _ => fun
  | [d1, d2, d3] => { results := [.lit (.bool false)], args := [d1, d2, d3] }
  | _ => none }
def CrashTellsWrongFalsely : Prop := crashTellsRow.holds Try.pinned (OpenSpec.ofChange crashTellsWrong)

/-- 'salvorlaw35.CrashSmall': WHATEVER THE INPUT: true; the input reads as it did. -/
def crashSmallSpec : ChangeSpec := { name := "crashSmall", fn := fun _ => fun
  | [] => { results := [.lit (.bool true)], args := [] }
  | _ => none }
def crashSmallRow : OpenClaim := { program := "ytchedlkmgahicaa", sum := "45b2d265fc0d2f08ed23d96f4f255a69989fcea6163fff9c7db930713a870a6a", func := "salvor/salvorlaw35.CrashSmall", spec := "crashSmall", unfollowed := true, recurses := true, apart := false }
def CrashSmallSaid : Prop := crashSmallRow.holds Try.pinned (OpenSpec.ofChange crashSmallSpec)

/-- ITS FALSE NEIGHBOUR: 'it returns false'. Refute it at one input. -/
def crashSmallWrong : ChangeSpec := { name := "crashSmall", fn := fun _ => fun
  | [] => { results := [.lit (.bool false)], args := [] }
  | _ => none }
def CrashSmallWrongFalsely : Prop := crashSmallRow.holds Try.pinned (OpenSpec.ofChange crashSmallWrong)

/-- 'salvorlaw35.CrashParts': WHATEVER THE INPUT: true; the input reads as it did. -/
def crashPartsSpec : ChangeSpec := { name := "crashParts", fn := fun _ => fun
  | [d1, d2] => { results := [.lit (.bool true)], args := [d1, d2] }
  | _ => none }
def crashPartsRow : OpenClaim := { program := "ytchedlkmgahicaa", sum := "45b2d265fc0d2f08ed23d96f4f255a69989fcea6163fff9c7db930713a870a6a", func := "salvor/salvorlaw35.CrashParts", spec := "crashParts", unfollowed := true, recurses := true, apart := false }
def CrashPartsSaid : Prop := crashPartsRow.holds Try.pinned (OpenSpec.ofChange crashPartsSpec)

/-- ITS FALSE NEIGHBOUR: 'it returns false'. Refute it at one input. -/
def crashPartsWrong : ChangeSpec := { name := "crashParts", fn := fun _ => fun
  | [d1, d2] => { results := [.lit (.bool false)], args := [d1, d2] }
  | _ => none }
def CrashPartsWrongFalsely : Prop := crashPartsRow.holds Try.pinned (OpenSpec.ofChange crashPartsWrong)

/-- 'salvorlaw35.CrashValid': WHATEVER THE INPUT: true; the input reads as it did. -/
def crashValidSpec : ChangeSpec := { name := "crashValid", fn := fun _ => fun
  | [d1, d2, d3, d4, d5] => { results := [.lit (.bool true)], args := [d1, d2, d3, d4, d5] }
  | _ => none }
def crashValidRow : OpenClaim := { program := "ytchedlkmgahicaa", sum := "45b2d265fc0d2f08ed23d96f4f255a69989fcea6163fff9c7db930713a870a6a", func := "salvor/salvorlaw35.CrashValid", spec := "crashValid", unfollowed := true, recurses := true, apart := false }
def CrashValidSaid : Prop := crashValidRow.holds Try.pinned (OpenSpec.ofChange crashValidSpec)

/-- ITS FALSE NEIGHBOUR: 'it returns false'. Refute it at one input. -/
def crashValidWrong : ChangeSpec := { name := "crashValid", fn := fun _ => fun
  | [d1, d2, d3, d4, d5] => { results := [.lit (.bool false)], args := [d1, d2, d3, d4, d5] }
  | _ => none }
def CrashValidWrongFalsely : Prop := crashValidRow.holds Try.pinned (OpenSpec.ofChange crashValidWrong)

/- THE SECOND FORM. 'bulk': how many values and letters a reading holds, each counted each time it is reached (what is shared counts as often as it is met; a slice's spare places count too). A statement '..UptoSaid' is the law's where the arguments, and the package variables that the reading takes, are together of bulk at most 1048576: NARROWER than '..Said'. Prove '..Said' where nothing that the law and all that it calls make is longer than what came in: it says more and counts as full. Else prove '..UptoSaid'. A law counts once. -/
mutual
def uptoBulk {H : Type} : DataW H → Nat
  | .lit (.string bytes) => bytes.length + 1
  | .lit _ => 1
  | .nil => 1
  | .ptr d => uptoBulk d + 1
  | .slice elems spare => uptoBulkAll elems + uptoBulkAll spare + 1
  | .agg parts => uptoBulkAll parts + 1
  | .iface _ d => uptoBulk d + 1
  | .map entries => uptoBulkEntries entries + 1
  | .held _ => 1
def uptoBulkAll {H : Type} : List (DataW H) → Nat
  | [] => 0
  | d :: r => uptoBulk d + uptoBulkAll r
def uptoBulkEntries {H : Type} : List (Lit × DataW H) → Nat
  | [] => 0
  | x :: r => uptoBulkEntry x + uptoBulkEntries r
def uptoBulkEntry {H : Type} : Lit × DataW H → Nat
  | (.string bytes, d) => bytes.length + uptoBulk d + 1
  | (_, d) => uptoBulk d + 1
 end
def uptoSmall : (H : Type) → List (DataW H) → Bool := fun _ ds => decide (uptoBulkAll ds ≤ 1048576)
def OpenSpec.upto (s : _root_.Go.ChangeSpec) : _root_.Go.OpenSpec := { _root_.Go.OpenSpec.ofChange s with cond := some uptoSmall }

/-- 'salvorlaw35.CrashAll', WHERE WHAT IT READS IS OF BULK AT MOST 1048576: true; the input reads as it did. -/
def crashAllUptoRow : OpenClaim := { program := "ytchedlkmgahicaa", sum := "45b2d265fc0d2f08ed23d96f4f255a69989fcea6163fff9c7db930713a870a6a", func := "salvor/salvorlaw35.CrashAll", spec := "crashAll", unfollowed := true, recurses := true, apart := false, narrowed := true }
def CrashAllUptoSaid : Prop := crashAllUptoRow.holds Try.pinned (OpenSpec.upto crashAllSpec)

/-- 'salvorlaw35.CrashSets', WHERE WHAT IT READS IS OF BULK AT MOST 1048576: true; the input reads as it did. -/
def crashSetsUptoRow : OpenClaim := { program := "ytchedlkmgahicaa", sum := "45b2d265fc0d2f08ed23d96f4f255a69989fcea6163fff9c7db930713a870a6a", func := "salvor/salvorlaw35.CrashSets", spec := "crashSets", unfollowed := true, recurses := true, apart := false, narrowed := true }
def CrashSetsUptoSaid : Prop := crashSetsUptoRow.holds Try.pinned (OpenSpec.upto crashSetsSpec)

/-- 'salvorlaw35.CrashWrites', WHERE WHAT IT READS IS OF BULK AT MOST 1048576: true; the input reads as it did. -/
def crashWritesUptoRow : OpenClaim := { program := "ytchedlkmgahicaa", sum := "45b2d265fc0d2f08ed23d96f4f255a69989fcea6163fff9c7db930713a870a6a", func := "salvor/salvorlaw35.CrashWrites", spec := "crashWrites", unfollowed := true, recurses := true, apart := false, narrowed := true }
def CrashWritesUptoSaid : Prop := crashWritesUptoRow.holds Try.pinned (OpenSpec.upto crashWritesSpec)

/-- 'salvorlaw35.CrashWrong', WHERE WHAT IT READS IS OF BULK AT MOST 1048576: true; the input reads as it did. -/
def crashWrongUptoRow : OpenClaim := { program := "ytchedlkmgahicaa", sum := "45b2d265fc0d2f08ed23d96f4f255a69989fcea6163fff9c7db930713a870a6a", func := "salvor/salvorlaw35.CrashWrong", spec := "crashWrong", unfollowed := true, recurses := true, apart := false, narrowed := true }
def CrashWrongUptoSaid : Prop := crashWrongUptoRow.holds Try.pinned (OpenSpec.upto crashWrongSpec)

/-- 'salvorlaw35.CrashTells', WHERE WHAT IT READS IS OF BULK AT MOST 1048576: true; the input reads as it did. -/
def crashTellsUptoRow : OpenClaim := { program := "ytchedlkmgahicaa", sum := "45b2d265fc0d2f08ed23d96f4f255a69989fcea6163fff9c7db930713a870a6a", func := "salvor/salvorlaw35.CrashTells", spec := "crashTells", unfollowed := true, recurses := true, apart := false, narrowed := true }
def CrashTellsUptoSaid : Prop := crashTellsUptoRow.holds Try.pinned (OpenSpec.upto crashTellsSpec)

/-- 'salvorlaw35.CrashSmall', WHERE WHAT IT READS IS OF BULK AT MOST 1048576: true; the input reads as it did. -/
def crashSmallUptoRow : OpenClaim := { program := "ytchedlkmgahicaa", sum := "45b2d265fc0d2f08ed23d96f4f255a69989fcea6163fff9c7db930713a870a6a", func := "salvor/salvorlaw35.CrashSmall", spec := "crashSmall", unfollowed := true, recurses := true, apart := false, narrowed := true }
def CrashSmallUptoSaid : Prop := crashSmallUptoRow.holds Try.pinned (OpenSpec.upto crashSmallSpec)

/-- 'salvorlaw35.CrashParts', WHERE WHAT IT READS IS OF BULK AT MOST 1048576: true; the input reads as it did. -/
def crashPartsUptoRow : OpenClaim := { program := "ytchedlkmgahicaa", sum := "45b2d265fc0d2f08ed23d96f4f255a69989fcea6163fff9c7db930713a870a6a", func := "salvor/salvorlaw35.CrashParts", spec := "crashParts", unfollowed := true, recurses := true, apart := false, narrowed := true }
def CrashPartsUptoSaid : Prop := crashPartsUptoRow.holds Try.pinned (OpenSpec.upto crashPartsSpec)

/-- 'salvorlaw35.CrashValid', WHERE WHAT IT READS IS OF BULK AT MOST 1048576: true; the input reads as it did. -/
def crashValidUptoRow : OpenClaim := { program := "ytchedlkmgahicaa", sum := "45b2d265fc0d2f08ed23d96f4f255a69989fcea6163fff9c7db930713a870a6a", func := "salvor/salvorlaw35.CrashValid", spec := "crashValid", unfollowed := true, recurses := true, apart := false, narrowed := true }
def CrashValidUptoSaid : Prop := crashValidUptoRow.holds Try.pinned (OpenSpec.upto crashValidSpec)

end Rows
end Go.Proofs.Ytchedlkmgahicaa
