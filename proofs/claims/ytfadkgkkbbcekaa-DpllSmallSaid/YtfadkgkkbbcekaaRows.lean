/-
  No cell of these rows narrows 'for every input' (looked for: loops, veiled, ifaces, maps, wideKeys, modest, calm, conditions, laid).
  DERIVED. THE GIVEN ROWS OF THIS SEAT. 8 by the template 'for every input the law returns true; each argument reads behind the call as it read before'; 0 by the template 'total and deterministic' (their statements: YtfadkgkkbbcekaaTotals.lean).
  GIVEN WITH THE SEED: the statements are not yours to turn. If you find one false, say at which input.
  Laid BY PROGRAM, IN A SANDBOX (cutbox-rows.mjs): the forced cells as the released guide's own fill.sh prints them over the translation 1576da349e152232… (all of the seat's roots in one cut). By AI agents, Wed Nov 11 2026. No macro, syntax, notation, axiom, sorry.
-/
import Derived.Test.YtfadkgkkbbcekaaChecked
import GoSem.Claim
import GoSem.ClaimJoined
import GoSem.ClaimMapViews
import Derived.JoinedTies
import Derived.KernelRfl
namespace Go.Proofs.Ytfadkgkkbbcekaa
/- THE CELL 'sum', in the pinned program and in every row, IS THE sha256 OF THE DUMP (.gsa) THAT YtfadkgkkbbcekaaProg.lean LOADS. Nothing in Lean hashes anything: it is a label: what it is worth is what the hold of that sum in a sandbox is worth. -/
noncomputable def Try.pinned : Pinned := { name := "ytfadkgkkbbcekaa", sum := "1576da349e152232820569d41549940010fe4148e935fc096d508050273ca454", checked := Try.checked }
namespace Rows
def none {H : Type} : Left H := { results := [], args := [] }

/-- 'salvorlaw19.DpllImplied': WHATEVER THE INPUT: true; the input reads as it did. -/
def dpllImpliedSpec : ChangeSpec := { name := "dpllImplied", fn := fun _ => fun
  | [d1, d2, d3] => { results := [.lit (.bool true)], args := [d1, d2, d3] }
  | _ => none }
def dpllImpliedRow : OpenClaim := { program := "ytfadkgkkbbcekaa", sum := "1576da349e152232820569d41549940010fe4148e935fc096d508050273ca454", func := "salvor/salvorlaw19.DpllImplied", spec := "dpllImplied", unfollowed := true, recurses := true, apart := false }
def DpllImpliedSaid : Prop := dpllImpliedRow.holds Try.pinned (OpenSpec.ofChange dpllImpliedSpec)

/-- ITS FALSE NEIGHBOUR: 'it returns false'. Refute it at one input. -/
def dpllImpliedWrong : ChangeSpec := { name := "dpllImplied", fn := fun _ => fun
  | [d1, d2, d3] => { results := [.lit (.bool false)], args := [d1, d2, d3] }
  | _ => none }
def DpllImpliedWrongFalsely : Prop := dpllImpliedRow.holds Try.pinned (OpenSpec.ofChange dpllImpliedWrong)

/-- 'salvorlaw19.DpllUnderIs': WHATEVER THE INPUT: true; the input reads as it did. -/
def dpllUnderIsSpec : ChangeSpec := { name := "dpllUnderIs", fn := fun _ => fun
  | [d1, d2] => { results := [.lit (.bool true)], args := [d1, d2] }
  | _ => none }
def dpllUnderIsRow : OpenClaim := { program := "ytfadkgkkbbcekaa", sum := "1576da349e152232820569d41549940010fe4148e935fc096d508050273ca454", func := "salvor/salvorlaw19.DpllUnderIs", spec := "dpllUnderIs", unfollowed := true, recurses := true, apart := false }
def DpllUnderIsSaid : Prop := dpllUnderIsRow.holds Try.pinned (OpenSpec.ofChange dpllUnderIsSpec)

/-- ITS FALSE NEIGHBOUR: 'it returns false'. Refute it at one input. -/
def dpllUnderIsWrong : ChangeSpec := { name := "dpllUnderIs", fn := fun _ => fun
  | [d1, d2] => { results := [.lit (.bool false)], args := [d1, d2] }
  | _ => none }
def DpllUnderIsWrongFalsely : Prop := dpllUnderIsRow.holds Try.pinned (OpenSpec.ofChange dpllUnderIsWrong)

/-- 'salvorlaw19.DpllFuel': WHATEVER THE INPUT: true; the input reads as it did. -/
def dpllFuelSpec : ChangeSpec := { name := "dpllFuel", fn := fun _ => fun
  | [d1, d2] => { results := [.lit (.bool true)], args := [d1, d2] }
  | _ => none }
def dpllFuelRow : OpenClaim := { program := "ytfadkgkkbbcekaa", sum := "1576da349e152232820569d41549940010fe4148e935fc096d508050273ca454", func := "salvor/salvorlaw19.DpllFuel", spec := "dpllFuel", unfollowed := true, recurses := true, apart := false }
def DpllFuelSaid : Prop := dpllFuelRow.holds Try.pinned (OpenSpec.ofChange dpllFuelSpec)

/-- ITS FALSE NEIGHBOUR: 'it returns false'. Refute it at one input. -/
def dpllFuelWrong : ChangeSpec := { name := "dpllFuel", fn := fun _ => fun
  | [d1, d2] => { results := [.lit (.bool false)], args := [d1, d2] }
  | _ => none }
def DpllFuelWrongFalsely : Prop := dpllFuelRow.holds Try.pinned (OpenSpec.ofChange dpllFuelWrong)

/-- 'salvorlaw19.DpllUnder': WHATEVER THE INPUT: true; the input reads as it did. -/
def dpllUnderSpec : ChangeSpec := { name := "dpllUnder", fn := fun _ => fun
  | [d1, d2, d3] => { results := [.lit (.bool true)], args := [d1, d2, d3] }
  | _ => none }
def dpllUnderRow : OpenClaim := { program := "ytfadkgkkbbcekaa", sum := "1576da349e152232820569d41549940010fe4148e935fc096d508050273ca454", func := "salvor/salvorlaw19.DpllUnder", spec := "dpllUnder", unfollowed := true, recurses := true, apart := false }
def DpllUnderSaid : Prop := dpllUnderRow.holds Try.pinned (OpenSpec.ofChange dpllUnderSpec)

/-- ITS FALSE NEIGHBOUR: 'it returns false'. Refute it at one input. -/
def dpllUnderWrong : ChangeSpec := { name := "dpllUnder", fn := fun _ => fun
  | [d1, d2, d3] => { results := [.lit (.bool false)], args := [d1, d2, d3] }
  | _ => none }
def DpllUnderWrongFalsely : Prop := dpllUnderRow.holds Try.pinned (OpenSpec.ofChange dpllUnderWrong)

/-- 'salvorlaw19.DpllSmall': WHATEVER THE INPUT: true; the input reads as it did. -/
def dpllSmallSpec : ChangeSpec := { name := "dpllSmall", fn := fun _ => fun
  | [] => { results := [.lit (.bool true)], args := [] }
  | _ => none }
def dpllSmallRow : OpenClaim := { program := "ytfadkgkkbbcekaa", sum := "1576da349e152232820569d41549940010fe4148e935fc096d508050273ca454", func := "salvor/salvorlaw19.DpllSmall", spec := "dpllSmall", unfollowed := true, recurses := true, apart := false }
def DpllSmallSaid : Prop := dpllSmallRow.holds Try.pinned (OpenSpec.ofChange dpllSmallSpec)

/-- ITS FALSE NEIGHBOUR: 'it returns false'. Refute it at one input. -/
def dpllSmallWrong : ChangeSpec := { name := "dpllSmall", fn := fun _ => fun
  | [] => { results := [.lit (.bool false)], args := [] }
  | _ => none }
def DpllSmallWrongFalsely : Prop := dpllSmallRow.holds Try.pinned (OpenSpec.ofChange dpllSmallWrong)

/-- 'salvorlaw19.DpllModels': WHATEVER THE INPUT: true; the input reads as it did. -/
def dpllModelsSpec : ChangeSpec := { name := "dpllModels", fn := fun _ => fun
  | [d1, d2] => { results := [.lit (.bool true)], args := [d1, d2] }
  | _ => none }
def dpllModelsRow : OpenClaim := { program := "ytfadkgkkbbcekaa", sum := "1576da349e152232820569d41549940010fe4148e935fc096d508050273ca454", func := "salvor/salvorlaw19.DpllModels", spec := "dpllModels", unfollowed := true, recurses := true, apart := false }
def DpllModelsSaid : Prop := dpllModelsRow.holds Try.pinned (OpenSpec.ofChange dpllModelsSpec)

/-- ITS FALSE NEIGHBOUR: 'it returns false'. Refute it at one input. -/
def dpllModelsWrong : ChangeSpec := { name := "dpllModels", fn := fun _ => fun
  | [d1, d2] => { results := [.lit (.bool false)], args := [d1, d2] }
  | _ => none }
def DpllModelsWrongFalsely : Prop := dpllModelsRow.holds Try.pinned (OpenSpec.ofChange dpllModelsWrong)

/-- 'salvorlaw19.DpllFollows': WHATEVER THE INPUT: true; the input reads as it did. -/
def dpllFollowsSpec : ChangeSpec := { name := "dpllFollows", fn := fun _ => fun
  | [d1, d2] => { results := [.lit (.bool true)], args := [d1, d2] }
  | _ => none }
def dpllFollowsRow : OpenClaim := { program := "ytfadkgkkbbcekaa", sum := "1576da349e152232820569d41549940010fe4148e935fc096d508050273ca454", func := "salvor/salvorlaw19.DpllFollows", spec := "dpllFollows", unfollowed := true, recurses := true, apart := false }
def DpllFollowsSaid : Prop := dpllFollowsRow.holds Try.pinned (OpenSpec.ofChange dpllFollowsSpec)

/-- ITS FALSE NEIGHBOUR: 'it returns false'. Refute it at one input. -/
def dpllFollowsWrong : ChangeSpec := { name := "dpllFollows", fn := fun _ => fun
  | [d1, d2] => { results := [.lit (.bool false)], args := [d1, d2] }
  | _ => none }
def DpllFollowsWrongFalsely : Prop := dpllFollowsRow.holds Try.pinned (OpenSpec.ofChange dpllFollowsWrong)

/-- 'salvorlaw19.DpllImplies': WHATEVER THE INPUT: true; the input reads as it did. -/
def dpllImpliesSpec : ChangeSpec := { name := "dpllImplies", fn := fun _ => fun
  | [d1, d2, d3] => { results := [.lit (.bool true)], args := [d1, d2, d3] }
  | _ => none }
def dpllImpliesRow : OpenClaim := { program := "ytfadkgkkbbcekaa", sum := "1576da349e152232820569d41549940010fe4148e935fc096d508050273ca454", func := "salvor/salvorlaw19.DpllImplies", spec := "dpllImplies", unfollowed := true, recurses := true, apart := false }
def DpllImpliesSaid : Prop := dpllImpliesRow.holds Try.pinned (OpenSpec.ofChange dpllImpliesSpec)

/-- ITS FALSE NEIGHBOUR: 'it returns false'. Refute it at one input. -/
def dpllImpliesWrong : ChangeSpec := { name := "dpllImplies", fn := fun _ => fun
  | [d1, d2, d3] => { results := [.lit (.bool false)], args := [d1, d2, d3] }
  | _ => none }
def DpllImpliesWrongFalsely : Prop := dpllImpliesRow.holds Try.pinned (OpenSpec.ofChange dpllImpliesWrong)

/- THE SECOND FORM. 'bulk': how many values and letters a reading holds, each counted each time it is reached (what is shared counts as often as it is met; a slice's spare places count too). A statement '..UptoSaid' is the law's where the arguments, and the package variables that the reading takes, are together of bulk at most 1048576: NARROWER than '..Said'. Prove '..Said' where nothing that the law and all that it calls make is longer than what came in: it says more and counts as full. Else prove '..UptoSaid'. A law counts once. -/
mutual
def uptoBulk {H : Type} : DataW H → Nat
  | .lit (.string bytes) => bytes.length + 1
  | .lit _ => 1
  | .nil => 1
  | .ptr d => uptoBulk d + 1
  | .slice elems spare => uptoBulkAll elems + uptoBulkAll spare + 1
  | .agg parts => uptoBulkAll parts + 1
  | .iface _ d => uptoBulk d + 1
  | .map entries => uptoBulkEntries entries + 1
  | .held _ => 1
def uptoBulkAll {H : Type} : List (DataW H) → Nat
  | [] => 0
  | d :: r => uptoBulk d + uptoBulkAll r
def uptoBulkEntries {H : Type} : List (Lit × DataW H) → Nat
  | [] => 0
  | x :: r => uptoBulkEntry x + uptoBulkEntries r
def uptoBulkEntry {H : Type} : Lit × DataW H → Nat
  | (.string bytes, d) => bytes.length + uptoBulk d + 1
  | (_, d) => uptoBulk d + 1
 end
def uptoSmall : (H : Type) → List (DataW H) → Bool := fun _ ds => decide (uptoBulkAll ds ≤ 1048576)
def OpenSpec.upto (s : _root_.Go.ChangeSpec) : _root_.Go.OpenSpec := { _root_.Go.OpenSpec.ofChange s with cond := some uptoSmall }

/-- 'salvorlaw19.DpllImplied', WHERE WHAT IT READS IS OF BULK AT MOST 1048576: true; the input reads as it did. -/
def dpllImpliedUptoRow : OpenClaim := { program := "ytfadkgkkbbcekaa", sum := "1576da349e152232820569d41549940010fe4148e935fc096d508050273ca454", func := "salvor/salvorlaw19.DpllImplied", spec := "dpllImplied", unfollowed := true, recurses := true, apart := false, narrowed := true }
def DpllImpliedUptoSaid : Prop := dpllImpliedUptoRow.holds Try.pinned (OpenSpec.upto dpllImpliedSpec)

/-- 'salvorlaw19.DpllUnderIs', WHERE WHAT IT READS IS OF BULK AT MOST 1048576: true; the input reads as it did. -/
def dpllUnderIsUptoRow : OpenClaim := { program := "ytfadkgkkbbcekaa", sum := "1576da349e152232820569d41549940010fe4148e935fc096d508050273ca454", func := "salvor/salvorlaw19.DpllUnderIs", spec := "dpllUnderIs", unfollowed := true, recurses := true, apart := false, narrowed := true }
def DpllUnderIsUptoSaid : Prop := dpllUnderIsUptoRow.holds Try.pinned (OpenSpec.upto dpllUnderIsSpec)

/-- 'salvorlaw19.DpllFuel', WHERE WHAT IT READS IS OF BULK AT MOST 1048576: true; the input reads as it did. -/
def dpllFuelUptoRow : OpenClaim := { program := "ytfadkgkkbbcekaa", sum := "1576da349e152232820569d41549940010fe4148e935fc096d508050273ca454", func := "salvor/salvorlaw19.DpllFuel", spec := "dpllFuel", unfollowed := true, recurses := true, apart := false, narrowed := true }
def DpllFuelUptoSaid : Prop := dpllFuelUptoRow.holds Try.pinned (OpenSpec.upto dpllFuelSpec)

/-- 'salvorlaw19.DpllUnder', WHERE WHAT IT READS IS OF BULK AT MOST 1048576: true; the input reads as it did. -/
def dpllUnderUptoRow : OpenClaim := { program := "ytfadkgkkbbcekaa", sum := "1576da349e152232820569d41549940010fe4148e935fc096d508050273ca454", func := "salvor/salvorlaw19.DpllUnder", spec := "dpllUnder", unfollowed := true, recurses := true, apart := false, narrowed := true }
def DpllUnderUptoSaid : Prop := dpllUnderUptoRow.holds Try.pinned (OpenSpec.upto dpllUnderSpec)

/-- 'salvorlaw19.DpllSmall', WHERE WHAT IT READS IS OF BULK AT MOST 1048576: true; the input reads as it did. -/
def dpllSmallUptoRow : OpenClaim := { program := "ytfadkgkkbbcekaa", sum := "1576da349e152232820569d41549940010fe4148e935fc096d508050273ca454", func := "salvor/salvorlaw19.DpllSmall", spec := "dpllSmall", unfollowed := true, recurses := true, apart := false, narrowed := true }
def DpllSmallUptoSaid : Prop := dpllSmallUptoRow.holds Try.pinned (OpenSpec.upto dpllSmallSpec)

/-- 'salvorlaw19.DpllModels', WHERE WHAT IT READS IS OF BULK AT MOST 1048576: true; the input reads as it did. -/
def dpllModelsUptoRow : OpenClaim := { program := "ytfadkgkkbbcekaa", sum := "1576da349e152232820569d41549940010fe4148e935fc096d508050273ca454", func := "salvor/salvorlaw19.DpllModels", spec := "dpllModels", unfollowed := true, recurses := true, apart := false, narrowed := true }
def DpllModelsUptoSaid : Prop := dpllModelsUptoRow.holds Try.pinned (OpenSpec.upto dpllModelsSpec)

/-- 'salvorlaw19.DpllFollows', WHERE WHAT IT READS IS OF BULK AT MOST 1048576: true; the input reads as it did. -/
def dpllFollowsUptoRow : OpenClaim := { program := "ytfadkgkkbbcekaa", sum := "1576da349e152232820569d41549940010fe4148e935fc096d508050273ca454", func := "salvor/salvorlaw19.DpllFollows", spec := "dpllFollows", unfollowed := true, recurses := true, apart := false, narrowed := true }
def DpllFollowsUptoSaid : Prop := dpllFollowsUptoRow.holds Try.pinned (OpenSpec.upto dpllFollowsSpec)

/-- 'salvorlaw19.DpllImplies', WHERE WHAT IT READS IS OF BULK AT MOST 1048576: true; the input reads as it did. -/
def dpllImpliesUptoRow : OpenClaim := { program := "ytfadkgkkbbcekaa", sum := "1576da349e152232820569d41549940010fe4148e935fc096d508050273ca454", func := "salvor/salvorlaw19.DpllImplies", spec := "dpllImplies", unfollowed := true, recurses := true, apart := false, narrowed := true }
def DpllImpliesUptoSaid : Prop := dpllImpliesUptoRow.holds Try.pinned (OpenSpec.upto dpllImpliesSpec)

end Rows
end Go.Proofs.Ytfadkgkkbbcekaa
