/-
  No cell of these rows narrows 'for every input' (looked for: loops, veiled, ifaces, maps, wideKeys, modest, calm, conditions, laid).
  DERIVED. THE GIVEN ROWS OF THIS SEAT. 8 by the template 'for every input the law returns true; each argument reads behind the call as it read before'; 0 by the template 'total and deterministic' (their statements: YtkfdfbgceockpaaTotals.lean).
  GIVEN WITH THE SEED: the statements are not yours to turn. If you find one false, say at which input.
  Laid BY PROGRAM, IN A SANDBOX (cutbox-rows.mjs): the forced cells as the released guide's own fill.sh prints them over the translation 062e53ce2988d627… (all of the seat's roots in one cut). By AI agents, Wed Nov 11 2026. No macro, syntax, notation, axiom, sorry.
-/
import Derived.Test.YtkfdfbgceockpaaChecked
import GoSem.Claim
import GoSem.ClaimJoined
import GoSem.ClaimMapViews
import Derived.JoinedTies
import Derived.KernelRfl
namespace Go.Proofs.Ytkfdfbgceockpaa
/- THE CELL 'sum', in the pinned program and in every row, IS THE sha256 OF THE DUMP (.gsa) THAT YtkfdfbgceockpaaProg.lean LOADS. Nothing in Lean hashes anything: it is a label: what it is worth is what the hold of that sum in a sandbox is worth. -/
noncomputable def Try.pinned : Pinned := { name := "ytkfdfbgceockpaa", sum := "062e53ce2988d6272360baa7fa896b281a11a3e032493df75196ab5f7886bd87", checked := Try.checked }
namespace Rows
def none {H : Type} : Left H := { results := [], args := [] }

/-- 'salvorlaw11.OrderDivides': WHATEVER THE INPUT: true; the input reads as it did. -/
def orderDividesSpec : ChangeSpec := { name := "orderDivides", fn := fun _ => fun
  | [d1, d2, d3] => { results := [.lit (.bool true)], args := [d1, d2, d3] }
  | _ => none }
def orderDividesRow : OpenClaim := { program := "ytkfdfbgceockpaa", sum := "062e53ce2988d6272360baa7fa896b281a11a3e032493df75196ab5f7886bd87", func := "salvor/salvorlaw11.OrderDivides", spec := "orderDivides", unfollowed := true, recurses := true, apart := false }
def OrderDividesSaid : Prop := orderDividesRow.holds Try.pinned (OpenSpec.ofChange orderDividesSpec)

/-- ITS FALSE NEIGHBOUR: 'it returns false'. Refute it at one input. -/
def orderDividesWrong : ChangeSpec := { name := "orderDivides", fn := fun _ => fun
  | [d1, d2, d3] => { results := [.lit (.bool false)], args := [d1, d2, d3] }
  | _ => none }
def OrderDividesWrongFalsely : Prop := orderDividesRow.holds Try.pinned (OpenSpec.ofChange orderDividesWrong)

/-- 'salvorlaw11.OrderYields': WHATEVER THE INPUT: true; the input reads as it did. -/
def orderYieldsSpec : ChangeSpec := { name := "orderYields", fn := fun _ => fun
  | [d1, d2] => { results := [.lit (.bool true)], args := [d1, d2] }
  | _ => none }
def orderYieldsRow : OpenClaim := { program := "ytkfdfbgceockpaa", sum := "062e53ce2988d6272360baa7fa896b281a11a3e032493df75196ab5f7886bd87", func := "salvor/salvorlaw11.OrderYields", spec := "orderYields", unfollowed := true, recurses := true, apart := false }
def OrderYieldsSaid : Prop := orderYieldsRow.holds Try.pinned (OpenSpec.ofChange orderYieldsSpec)

/-- ITS FALSE NEIGHBOUR: 'it returns false'. Refute it at one input. -/
def orderYieldsWrong : ChangeSpec := { name := "orderYields", fn := fun _ => fun
  | [d1, d2] => { results := [.lit (.bool false)], args := [d1, d2] }
  | _ => none }
def OrderYieldsWrongFalsely : Prop := orderYieldsRow.holds Try.pinned (OpenSpec.ofChange orderYieldsWrong)

/-- 'salvorlaw11.OrderWrong': WHATEVER THE INPUT: true; the input reads as it did. -/
def orderWrongSpec : ChangeSpec := { name := "orderWrong", fn := fun _ => fun
  | [d1, d2] => { results := [.lit (.bool true)], args := [d1, d2] }
  | _ => none }
def orderWrongRow : OpenClaim := { program := "ytkfdfbgceockpaa", sum := "062e53ce2988d6272360baa7fa896b281a11a3e032493df75196ab5f7886bd87", func := "salvor/salvorlaw11.OrderWrong", spec := "orderWrong", unfollowed := true, recurses := true, apart := false }
def OrderWrongSaid : Prop := orderWrongRow.holds Try.pinned (OpenSpec.ofChange orderWrongSpec)

/-- ITS FALSE NEIGHBOUR: 'it returns false'. Refute it at one input. -/
def orderWrongWrong : ChangeSpec := { name := "orderWrong", fn := fun _ => fun
  | [d1, d2] => { results := [.lit (.bool false)], args := [d1, d2] }
  | _ => none }
def OrderWrongWrongFalsely : Prop := orderWrongRow.holds Try.pinned (OpenSpec.ofChange orderWrongWrong)

/-- 'salvorlaw11.OrderPlays': WHATEVER THE INPUT: true; the input reads as it did. -/
def orderPlaysSpec : ChangeSpec := { name := "orderPlays", fn := fun _ => fun
  | [d1, d2] => { results := [.lit (.bool true)], args := [d1, d2] }
  | _ => none }
def orderPlaysRow : OpenClaim := { program := "ytkfdfbgceockpaa", sum := "062e53ce2988d6272360baa7fa896b281a11a3e032493df75196ab5f7886bd87", func := "salvor/salvorlaw11.OrderPlays", spec := "orderPlays", unfollowed := true, recurses := true, apart := false }
def OrderPlaysSaid : Prop := orderPlaysRow.holds Try.pinned (OpenSpec.ofChange orderPlaysSpec)

/-- ITS FALSE NEIGHBOUR: 'it returns false'. Refute it at one input. -/
def orderPlaysWrong : ChangeSpec := { name := "orderPlays", fn := fun _ => fun
  | [d1, d2] => { results := [.lit (.bool false)], args := [d1, d2] }
  | _ => none }
def OrderPlaysWrongFalsely : Prop := orderPlaysRow.holds Try.pinned (OpenSpec.ofChange orderPlaysWrong)

/-- 'salvorlaw11.OrderSmall': WHATEVER THE INPUT: true; the input reads as it did. -/
def orderSmallSpec : ChangeSpec := { name := "orderSmall", fn := fun _ => fun
  | [] => { results := [.lit (.bool true)], args := [] }
  | _ => none }
def orderSmallRow : OpenClaim := { program := "ytkfdfbgceockpaa", sum := "062e53ce2988d6272360baa7fa896b281a11a3e032493df75196ab5f7886bd87", func := "salvor/salvorlaw11.OrderSmall", spec := "orderSmall", unfollowed := true, recurses := true, apart := false }
def OrderSmallSaid : Prop := orderSmallRow.holds Try.pinned (OpenSpec.ofChange orderSmallSpec)

/-- ITS FALSE NEIGHBOUR: 'it returns false'. Refute it at one input. -/
def orderSmallWrong : ChangeSpec := { name := "orderSmall", fn := fun _ => fun
  | [] => { results := [.lit (.bool false)], args := [] }
  | _ => none }
def OrderSmallWrongFalsely : Prop := orderSmallRow.holds Try.pinned (OpenSpec.ofChange orderSmallWrong)

/-- 'salvorlaw11.OrderPops': WHATEVER THE INPUT: true; the input reads as it did. -/
def orderPopsSpec : ChangeSpec := { name := "orderPops", fn := fun _ => fun
  | [d] => { results := [.lit (.bool true)], args := [d] }
  | _ => none }
def orderPopsRow : OpenClaim := { program := "ytkfdfbgceockpaa", sum := "062e53ce2988d6272360baa7fa896b281a11a3e032493df75196ab5f7886bd87", func := "salvor/salvorlaw11.OrderPops", spec := "orderPops", unfollowed := true, recurses := true, apart := false }
def OrderPopsSaid : Prop := orderPopsRow.holds Try.pinned (OpenSpec.ofChange orderPopsSpec)

/-- ITS FALSE NEIGHBOUR: 'it returns false'. Refute it at one input. -/
def orderPopsWrong : ChangeSpec := { name := "orderPops", fn := fun _ => fun
  | [d] => { results := [.lit (.bool false)], args := [d] }
  | _ => none }
def OrderPopsWrongFalsely : Prop := orderPopsRow.holds Try.pinned (OpenSpec.ofChange orderPopsWrong)

/-- 'salvorlaw11.OrderBack': WHATEVER THE INPUT: true; the input reads as it did. -/
def orderBackSpec : ChangeSpec := { name := "orderBack", fn := fun _ => fun
  | [d1, d2, d3] => { results := [.lit (.bool true)], args := [d1, d2, d3] }
  | _ => none }
def orderBackRow : OpenClaim := { program := "ytkfdfbgceockpaa", sum := "062e53ce2988d6272360baa7fa896b281a11a3e032493df75196ab5f7886bd87", func := "salvor/salvorlaw11.OrderBack", spec := "orderBack", unfollowed := true, recurses := true, apart := false }
def OrderBackSaid : Prop := orderBackRow.holds Try.pinned (OpenSpec.ofChange orderBackSpec)

/-- ITS FALSE NEIGHBOUR: 'it returns false'. Refute it at one input. -/
def orderBackWrong : ChangeSpec := { name := "orderBack", fn := fun _ => fun
  | [d1, d2, d3] => { results := [.lit (.bool false)], args := [d1, d2, d3] }
  | _ => none }
def OrderBackWrongFalsely : Prop := orderBackRow.holds Try.pinned (OpenSpec.ofChange orderBackWrong)

/-- 'salvorlaw11.OrderBumps': WHATEVER THE INPUT: true; the input reads as it did. -/
def orderBumpsSpec : ChangeSpec := { name := "orderBumps", fn := fun _ => fun
  | [d1, d2] => { results := [.lit (.bool true)], args := [d1, d2] }
  | _ => none }
def orderBumpsRow : OpenClaim := { program := "ytkfdfbgceockpaa", sum := "062e53ce2988d6272360baa7fa896b281a11a3e032493df75196ab5f7886bd87", func := "salvor/salvorlaw11.OrderBumps", spec := "orderBumps", unfollowed := true, recurses := true, apart := false }
def OrderBumpsSaid : Prop := orderBumpsRow.holds Try.pinned (OpenSpec.ofChange orderBumpsSpec)

/-- ITS FALSE NEIGHBOUR: 'it returns false'. Refute it at one input. -/
def orderBumpsWrong : ChangeSpec := { name := "orderBumps", fn := fun _ => fun
  | [d1, d2] => { results := [.lit (.bool false)], args := [d1, d2] }
  | _ => none }
def OrderBumpsWrongFalsely : Prop := orderBumpsRow.holds Try.pinned (OpenSpec.ofChange orderBumpsWrong)

/- THE SECOND FORM. 'bulk': how many values and letters a reading holds, each counted each time it is reached (what is shared counts as often as it is met; a slice's spare places count too). A statement '..UptoSaid' is the law's where the arguments, and the package variables that the reading takes, are together of bulk at most 1048576: NARROWER than '..Said'. Prove '..Said' where nothing that the law and all that it calls make is longer than what came in: it says more and counts as full. Else prove '..UptoSaid'. A law counts once. -/
mutual
def uptoBulk {H : Type} : DataW H → Nat
  | .lit (.string bytes) => bytes.length + 1
  | .lit _ => 1
  | .nil => 1
  | .ptr d => uptoBulk d + 1
  | .slice elems spare => uptoBulkAll elems + uptoBulkAll spare + 1
  | .agg parts => uptoBulkAll parts + 1
  | .iface _ d => uptoBulk d + 1
  | .map entries => uptoBulkEntries entries + 1
  | .held _ => 1
def uptoBulkAll {H : Type} : List (DataW H) → Nat
  | [] => 0
  | d :: r => uptoBulk d + uptoBulkAll r
def uptoBulkEntries {H : Type} : List (Lit × DataW H) → Nat
  | [] => 0
  | x :: r => uptoBulkEntry x + uptoBulkEntries r
def uptoBulkEntry {H : Type} : Lit × DataW H → Nat
  | (.string bytes, d) => bytes.length + uptoBulk d + 1
  | (_, d) => uptoBulk d + 1
 end
def uptoSmall : (H : Type) → List (DataW H) → Bool := fun _ ds => decide (uptoBulkAll ds ≤ 1048576)
def OpenSpec.upto (s : _root_.Go.ChangeSpec) : _root_.Go.OpenSpec := { _root_.Go.OpenSpec.ofChange s with cond := some uptoSmall }

/-- 'salvorlaw11.OrderDivides', WHERE WHAT IT READS IS OF BULK AT MOST 1048576: true; the input reads as it did. -/
def orderDividesUptoRow : OpenClaim := { program := "ytkfdfbgceockpaa", sum := "062e53ce2988d6272360baa7fa896b281a11a3e032493df75196ab5f7886bd87", func := "salvor/salvorlaw11.OrderDivides", spec := "orderDivides", unfollowed := true, recurses := true, apart := false, narrowed := true }
def OrderDividesUptoSaid : Prop := orderDividesUptoRow.holds Try.pinned (OpenSpec.upto orderDividesSpec)

/-- 'salvorlaw11.OrderYields', WHERE WHAT IT READS IS OF BULK AT MOST 1048576: true; the input reads as it did. -/
def orderYieldsUptoRow : OpenClaim := { program := "ytkfdfbgceockpaa", sum := "062e53ce2988d6272360baa7fa896b281a11a3e032493df75196ab5f7886bd87", func := "salvor/salvorlaw11.OrderYields", spec := "orderYields", unfollowed := true, recurses := true, apart := false, narrowed := true }
def OrderYieldsUptoSaid : Prop := orderYieldsUptoRow.holds Try.pinned (OpenSpec.upto orderYieldsSpec)

/-- 'salvorlaw11.OrderWrong', WHERE WHAT IT READS IS OF BULK AT MOST 1048576: true; the input reads as it did. -/
def orderWrongUptoRow : OpenClaim := { program := "ytkfdfbgceockpaa", sum := "062e53ce2988d6272360baa7fa896b281a11a3e032493df75196ab5f7886bd87", func := "salvor/salvorlaw11.OrderWrong", spec := "orderWrong", unfollowed := true, recurses := true, apart := false, narrowed := true }
def OrderWrongUptoSaid : Prop := orderWrongUptoRow.holds Try.pinned (OpenSpec.upto orderWrongSpec)

/-- 'salvorlaw11.OrderPlays', WHERE WHAT IT READS IS OF BULK AT MOST 1048576: true; the input reads as it did. -/
def orderPlaysUptoRow : OpenClaim := { program := "ytkfdfbgceockpaa", sum := "062e53ce2988d6272360baa7fa896b281a11a3e032493df75196ab5f7886bd87", func := "salvor/salvorlaw11.OrderPlays", spec := "orderPlays", unfollowed := true, recurses := true, apart := false, narrowed := true }
def OrderPlaysUptoSaid : Prop := orderPlaysUptoRow.holds Try.pinned (OpenSpec.upto orderPlaysSpec)

/-- 'salvorlaw11.OrderSmall', WHERE WHAT IT READS IS OF BULK AT MOST 1048576: true; the input reads as it did. -/
def orderSmallUptoRow : OpenClaim := { program := "ytkfdfbgceockpaa", sum := "062e53ce2988d6272360baa7fa896b281a11a3e032493df75196ab5f7886bd87", func := "salvor/salvorlaw11.OrderSmall", spec := "orderSmall", unfollowed := true, recurses := true, apart := false, narrowed := true }
def OrderSmallUptoSaid : Prop := orderSmallUptoRow.holds Try.pinned (OpenSpec.upto orderSmallSpec)

/-- 'salvorlaw11.OrderPops', WHERE WHAT IT READS IS OF BULK AT MOST 1048576: true; the input reads as it did. -/
def orderPopsUptoRow : OpenClaim := { program := "ytkfdfbgceockpaa", sum := "062e53ce2988d6272360baa7fa896b281a11a3e032493df75196ab5f7886bd87", func := "salvor/salvorlaw11.OrderPops", spec := "orderPops", unfollowed := true, recurses := true, apart := false, narrowed := true }
def OrderPopsUptoSaid : Prop := orderPopsUptoRow.holds Try.pinned (OpenSpec.upto orderPopsSpec)

/-- 'salvorlaw11.OrderBack', WHERE WHAT IT READS IS OF BULK AT MOST 1048576: true; the input reads as it did. -/
def orderBackUptoRow : OpenClaim := { program := "ytkfdfbgceockpaa", sum := "062e53ce2988d6272360baa7fa896b281a11a3e032493df75196ab5f7886bd87", func := "salvor/salvorlaw11.OrderBack", spec := "orderBack", unfollowed := true, recurses := true, apart := false, narrowed := true }
def OrderBackUptoSaid : Prop := orderBackUptoRow.holds Try.pinned (OpenSpec.upto orderBackSpec)

/-- 'salvorlaw11.OrderBumps', WHERE WHAT IT READS IS OF BULK AT MOST 1048576: true; the input reads as it did. -/
def orderBumpsUptoRow : OpenClaim := { program := "ytkfdfbgceockpaa", sum := "062e53ce2988d6272360baa7fa896b281a11a3e032493df75196ab5f7886bd87", func := "salvor/salvorlaw11.OrderBumps", spec := "orderBumps", unfollowed := true, recurses := true, apart := false, narrowed := true }
def OrderBumpsUptoSaid : Prop := orderBumpsUptoRow.holds Try.pinned (OpenSpec.upto orderBumpsSpec)

end Rows
end Go.Proofs.Ytkfdfbgceockpaa
