/-
  No cell of these rows narrows 'for every input' (looked for: loops, veiled, ifaces, maps, wideKeys, modest, calm, conditions, laid).
  DERIVED. THE GIVEN ROWS OF THIS SEAT. 10 by the template 'for every input the law returns true; each argument reads behind the call as it read before'; 0 by the template 'total and deterministic' (their statements: YtcoeaaobbfbcjaaTotals.lean).
  GIVEN WITH THE SEED: the statements are not yours to turn. If you find one false, say at which input.
  Laid BY PROGRAM, IN A SANDBOX (cutbox-rows.mjs): the forced cells as the released guide's own fill.sh prints them over the translation 85f8641aa97bcc4e… (all of the seat's roots in one cut). By AI agents, Wed Nov 11 2026. No macro, syntax, notation, axiom, sorry.
-/
import Derived.Test.YtcoeaaobbfbcjaaChecked
import GoSem.Claim
import GoSem.ClaimJoined
import GoSem.ClaimMapViews
import Derived.JoinedTies
import Derived.KernelRfl
namespace Go.Proofs.Ytcoeaaobbfbcjaa
/- THE CELL 'sum', in the pinned program and in every row, IS THE sha256 OF THE DUMP (.gsa) THAT YtcoeaaobbfbcjaaProg.lean LOADS. Nothing in Lean hashes anything: it is a label: what it is worth is what the hold of that sum in a sandbox is worth. -/
noncomputable def Try.pinned : Pinned := { name := "ytcoeaaobbfbcjaa", sum := "85f8641aa97bcc4ee533e4201613f2837642453d301d8c09c20c1724b2912ea1", checked := Try.checked }
namespace Rows
def none {H : Type} : Left H := { results := [], args := [] }

/-- 'salvorlaw08.RupSound': WHATEVER THE INPUT: true; the input reads as it did. -/
def rupSoundSpec : ChangeSpec := { name := "rupSound", fn := fun _ => fun
  | [d1, d2] => { results := [.lit (.bool true)], args := [d1, d2] }
  | _ => none }
def rupSoundRow : OpenClaim := { program := "ytcoeaaobbfbcjaa", sum := "85f8641aa97bcc4ee533e4201613f2837642453d301d8c09c20c1724b2912ea1", func := "salvor/salvorlaw08.RupSound", spec := "rupSound", unfollowed := true, recurses := true, apart := false }
def RupSoundSaid : Prop := rupSoundRow.holds Try.pinned (OpenSpec.ofChange rupSoundSpec)

/-- ITS FALSE NEIGHBOUR: 'it returns false'. Refute it at one input. -/
def rupSoundWrong : ChangeSpec := { name := "rupSound", fn := fun _ => fun
  | [d1, d2] => { results := [.lit (.bool false)], args := [d1, d2] }
  | _ => none }
def RupSoundWrongFalsely : Prop := rupSoundRow.holds Try.pinned (OpenSpec.ofChange rupSoundWrong)

/-- 'salvorlaw08.RupLooks': WHATEVER THE INPUT: true; the input reads as it did. -/
def rupLooksSpec : ChangeSpec := { name := "rupLooks", fn := fun _ => fun
  | [d1, d2] => { results := [.lit (.bool true)], args := [d1, d2] }
  | _ => none }
def rupLooksRow : OpenClaim := { program := "ytcoeaaobbfbcjaa", sum := "85f8641aa97bcc4ee533e4201613f2837642453d301d8c09c20c1724b2912ea1", func := "salvor/salvorlaw08.RupLooks", spec := "rupLooks", unfollowed := true, recurses := true, apart := false }
def RupLooksSaid : Prop := rupLooksRow.holds Try.pinned (OpenSpec.ofChange rupLooksSpec)

/-- ITS FALSE NEIGHBOUR: 'it returns false'. Refute it at one input. -/
def rupLooksWrong : ChangeSpec := { name := "rupLooks", fn := fun _ => fun
  | [d1, d2] => { results := [.lit (.bool false)], args := [d1, d2] }
  | _ => none }
def RupLooksWrongFalsely : Prop := rupLooksRow.holds Try.pinned (OpenSpec.ofChange rupLooksWrong)

/-- 'salvorlaw08.RupNone': WHATEVER THE INPUT: true; the input reads as it did. -/
def rupNoneSpec : ChangeSpec := { name := "rupNone", fn := fun _ => fun
  | [d1, d2, d3] => { results := [.lit (.bool true)], args := [d1, d2, d3] }
  | _ => none }
def rupNoneRow : OpenClaim := { program := "ytcoeaaobbfbcjaa", sum := "85f8641aa97bcc4ee533e4201613f2837642453d301d8c09c20c1724b2912ea1", func := "salvor/salvorlaw08.RupNone", spec := "rupNone", unfollowed := true, recurses := true, apart := false }
def RupNoneSaid : Prop := rupNoneRow.holds Try.pinned (OpenSpec.ofChange rupNoneSpec)

/-- ITS FALSE NEIGHBOUR: 'it returns false'. Refute it at one input. -/
def rupNoneWrong : ChangeSpec := { name := "rupNone", fn := fun _ => fun
  | [d1, d2, d3] => { results := [.lit (.bool false)], args := [d1, d2, d3] }
  | _ => none }
def RupNoneWrongFalsely : Prop := rupNoneRow.holds Try.pinned (OpenSpec.ofChange rupNoneWrong)

/-- 'salvorlaw08.RupFinds': WHATEVER THE INPUT: true; the input reads as it did. -/
def rupFindsSpec : ChangeSpec := { name := "rupFinds", fn := fun _ => fun
  | [d1, d2] => { results := [.lit (.bool true)], args := [d1, d2] }
  | _ => none }
def rupFindsRow : OpenClaim := { program := "ytcoeaaobbfbcjaa", sum := "85f8641aa97bcc4ee533e4201613f2837642453d301d8c09c20c1724b2912ea1", func := "salvor/salvorlaw08.RupFinds", spec := "rupFinds", unfollowed := true, recurses := true, apart := false }
def RupFindsSaid : Prop := rupFindsRow.holds Try.pinned (OpenSpec.ofChange rupFindsSpec)

/-- ITS FALSE NEIGHBOUR: 'it returns false'. Refute it at one input. -/
def rupFindsWrong : ChangeSpec := { name := "rupFinds", fn := fun _ => fun
  | [d1, d2] => { results := [.lit (.bool false)], args := [d1, d2] }
  | _ => none }
def RupFindsWrongFalsely : Prop := rupFindsRow.holds Try.pinned (OpenSpec.ofChange rupFindsWrong)

/-- 'salvorlaw08.RupMore': WHATEVER THE INPUT: true; the input reads as it did. -/
def rupMoreSpec : ChangeSpec := { name := "rupMore", fn := fun _ => fun
  | [d1, d2, d3, d4, d5] => { results := [.lit (.bool true)], args := [d1, d2, d3, d4, d5] }
  | _ => none }
def rupMoreRow : OpenClaim := { program := "ytcoeaaobbfbcjaa", sum := "85f8641aa97bcc4ee533e4201613f2837642453d301d8c09c20c1724b2912ea1", func := "salvor/salvorlaw08.RupMore", spec := "rupMore", unfollowed := true, recurses := true, apart := false }
def RupMoreSaid : Prop := rupMoreRow.holds Try.pinned (OpenSpec.ofChange rupMoreSpec)

/-- ITS FALSE NEIGHBOUR: 'it returns false'. Refute it at one input. -/
def rupMoreWrong : ChangeSpec := { name := "rupMore", fn := fun _ => fun
  | [d1, d2, d3, d4, d5] => { results := [.lit (.bool false)], args := [d1, d2, d3, d4, d5] }
  | _ => none }
def RupMoreWrongFalsely : Prop := rupMoreRow.holds Try.pinned (OpenSpec.ofChange rupMoreWrong)

/-- 'salvorlaw08.RupFound': WHATEVER THE INPUT: true; the input reads as it did. -/
def rupFoundSpec : ChangeSpec := { name := "rupFound", fn := fun _ => fun
  | [d1, d2] => { results := [.lit (.bool true)], args := [d1, d2] }
  | _ => none }
def rupFoundRow : OpenClaim := { program := "ytcoeaaobbfbcjaa", sum := "85f8641aa97bcc4ee533e4201613f2837642453d301d8c09c20c1724b2912ea1", func := "salvor/salvorlaw08.RupFound", spec := "rupFound", unfollowed := true, recurses := true, apart := false }
def RupFoundSaid : Prop := rupFoundRow.holds Try.pinned (OpenSpec.ofChange rupFoundSpec)

/-- ITS FALSE NEIGHBOUR: 'it returns false'. Refute it at one input. -/
def rupFoundWrong : ChangeSpec := { name := "rupFound", fn := fun _ => fun
  | [d1, d2] => { results := [.lit (.bool false)], args := [d1, d2] }
  | _ => none }
def RupFoundWrongFalsely : Prop := rupFoundRow.holds Try.pinned (OpenSpec.ofChange rupFoundWrong)

/-- 'salvorlaw08.RupSteps': WHATEVER THE INPUT: true; the input reads as it did. -/
def rupStepsSpec : ChangeSpec := { name := "rupSteps", fn := fun _ => fun
  | [d1, d2, d3] => { results := [.lit (.bool true)], args := [d1, d2, d3] }
  | _ => none }
def rupStepsRow : OpenClaim := { program := "ytcoeaaobbfbcjaa", sum := "85f8641aa97bcc4ee533e4201613f2837642453d301d8c09c20c1724b2912ea1", func := "salvor/salvorlaw08.RupSteps", spec := "rupSteps", unfollowed := true, recurses := true, apart := false }
def RupStepsSaid : Prop := rupStepsRow.holds Try.pinned (OpenSpec.ofChange rupStepsSpec)

/-- ITS FALSE NEIGHBOUR: 'it returns false'. Refute it at one input. -/
def rupStepsWrong : ChangeSpec := { name := "rupSteps", fn := fun _ => fun
  | [d1, d2, d3] => { results := [.lit (.bool false)], args := [d1, d2, d3] }
  | _ => none }
def RupStepsWrongFalsely : Prop := rupStepsRow.holds Try.pinned (OpenSpec.ofChange rupStepsWrong)

/-- 'salvorlaw08.RupFollows': WHATEVER THE INPUT: true; the input reads as it did. -/
def rupFollowsSpec : ChangeSpec := { name := "rupFollows", fn := fun _ => fun
  | [d1, d2, d3] => { results := [.lit (.bool true)], args := [d1, d2, d3] }
  | _ => none }
def rupFollowsRow : OpenClaim := { program := "ytcoeaaobbfbcjaa", sum := "85f8641aa97bcc4ee533e4201613f2837642453d301d8c09c20c1724b2912ea1", func := "salvor/salvorlaw08.RupFollows", spec := "rupFollows", unfollowed := true, recurses := true, apart := false }
def RupFollowsSaid : Prop := rupFollowsRow.holds Try.pinned (OpenSpec.ofChange rupFollowsSpec)

/-- ITS FALSE NEIGHBOUR: 'it returns false'. Refute it at one input. -/
def rupFollowsWrong : ChangeSpec := { name := "rupFollows", fn := fun _ => fun
  | [d1, d2, d3] => { results := [.lit (.bool false)], args := [d1, d2, d3] }
  | _ => none }
def RupFollowsWrongFalsely : Prop := rupFollowsRow.holds Try.pinned (OpenSpec.ofChange rupFollowsWrong)

/-- 'salvorlaw08.RupSmall': WHATEVER THE INPUT: true; the input reads as it did. -/
def rupSmallSpec : ChangeSpec := { name := "rupSmall", fn := fun _ => fun
  | [] => { results := [.lit (.bool true)], args := [] }
  | _ => none }
def rupSmallRow : OpenClaim := { program := "ytcoeaaobbfbcjaa", sum := "85f8641aa97bcc4ee533e4201613f2837642453d301d8c09c20c1724b2912ea1", func := "salvor/salvorlaw08.RupSmall", spec := "rupSmall", unfollowed := true, recurses := true, apart := false }
def RupSmallSaid : Prop := rupSmallRow.holds Try.pinned (OpenSpec.ofChange rupSmallSpec)

/-- ITS FALSE NEIGHBOUR: 'it returns false'. Refute it at one input. -/
def rupSmallWrong : ChangeSpec := { name := "rupSmall", fn := fun _ => fun
  | [] => { results := [.lit (.bool false)], args := [] }
  | _ => none }
def RupSmallWrongFalsely : Prop := rupSmallRow.holds Try.pinned (OpenSpec.ofChange rupSmallWrong)

/-- 'salvorlaw08.RupWrong': WHATEVER THE INPUT: true; the input reads as it did. -/
def rupWrongSpec : ChangeSpec := { name := "rupWrong", fn := fun _ => fun
  | [d1, d2, d3, d4] => { results := [.lit (.bool true)], args := [d1, d2, d3, d4] }
  | _ => none }
def rupWrongRow : OpenClaim := { program := "ytcoeaaobbfbcjaa", sum := "85f8641aa97bcc4ee533e4201613f2837642453d301d8c09c20c1724b2912ea1", func := "salvor/salvorlaw08.RupWrong", spec := "rupWrong", inPlace := ["slices.overlaps[salvor/clauses.Clause]"], unfollowed := true, recurses := true, apart := false }
def RupWrongSaid : Prop := rupWrongRow.holds Try.pinned (OpenSpec.ofChange rupWrongSpec)

/-- ITS FALSE NEIGHBOUR: 'it returns false'. Refute it at one input. -/
def rupWrongWrong : ChangeSpec := { name := "rupWrong", fn := fun _ => fun
  | [d1, d2, d3, d4] => { results := [.lit (.bool false)], args := [d1, d2, d3, d4] }
  | _ => none }
def RupWrongWrongFalsely : Prop := rupWrongRow.holds Try.pinned (OpenSpec.ofChange rupWrongWrong)

/- THE SECOND FORM. 'bulk': how many values and letters a reading holds, each counted each time it is reached (what is shared counts as often as it is met; a slice's spare places count too). A statement '..UptoSaid' is the law's where the arguments, and the package variables that the reading takes, are together of bulk at most 1048576: NARROWER than '..Said'. Prove '..Said' where nothing that the law and all that it calls make is longer than what came in: it says more and counts as full. Else prove '..UptoSaid'. A law counts once. -/
mutual
def uptoBulk {H : Type} : DataW H → Nat
  | .lit (.string bytes) => bytes.length + 1
  | .lit _ => 1
  | .nil => 1
  | .ptr d => uptoBulk d + 1
  | .slice elems spare => uptoBulkAll elems + uptoBulkAll spare + 1
  | .agg parts => uptoBulkAll parts + 1
  | .iface _ d => uptoBulk d + 1
  | .map entries => uptoBulkEntries entries + 1
  | .held _ => 1
def uptoBulkAll {H : Type} : List (DataW H) → Nat
  | [] => 0
  | d :: r => uptoBulk d + uptoBulkAll r
def uptoBulkEntries {H : Type} : List (Lit × DataW H) → Nat
  | [] => 0
  | x :: r => uptoBulkEntry x + uptoBulkEntries r
def uptoBulkEntry {H : Type} : Lit × DataW H → Nat
  | (.string bytes, d) => bytes.length + uptoBulk d + 1
  | (_, d) => uptoBulk d + 1
 end
def uptoSmall : (H : Type) → List (DataW H) → Bool := fun _ ds => decide (uptoBulkAll ds ≤ 1048576)
def OpenSpec.upto (s : _root_.Go.ChangeSpec) : _root_.Go.OpenSpec := { _root_.Go.OpenSpec.ofChange s with cond := some uptoSmall }

/-- 'salvorlaw08.RupSound', WHERE WHAT IT READS IS OF BULK AT MOST 1048576: true; the input reads as it did. -/
def rupSoundUptoRow : OpenClaim := { program := "ytcoeaaobbfbcjaa", sum := "85f8641aa97bcc4ee533e4201613f2837642453d301d8c09c20c1724b2912ea1", func := "salvor/salvorlaw08.RupSound", spec := "rupSound", unfollowed := true, recurses := true, apart := false, narrowed := true }
def RupSoundUptoSaid : Prop := rupSoundUptoRow.holds Try.pinned (OpenSpec.upto rupSoundSpec)

/-- 'salvorlaw08.RupLooks', WHERE WHAT IT READS IS OF BULK AT MOST 1048576: true; the input reads as it did. -/
def rupLooksUptoRow : OpenClaim := { program := "ytcoeaaobbfbcjaa", sum := "85f8641aa97bcc4ee533e4201613f2837642453d301d8c09c20c1724b2912ea1", func := "salvor/salvorlaw08.RupLooks", spec := "rupLooks", unfollowed := true, recurses := true, apart := false, narrowed := true }
def RupLooksUptoSaid : Prop := rupLooksUptoRow.holds Try.pinned (OpenSpec.upto rupLooksSpec)

/-- 'salvorlaw08.RupNone', WHERE WHAT IT READS IS OF BULK AT MOST 1048576: true; the input reads as it did. -/
def rupNoneUptoRow : OpenClaim := { program := "ytcoeaaobbfbcjaa", sum := "85f8641aa97bcc4ee533e4201613f2837642453d301d8c09c20c1724b2912ea1", func := "salvor/salvorlaw08.RupNone", spec := "rupNone", unfollowed := true, recurses := true, apart := false, narrowed := true }
def RupNoneUptoSaid : Prop := rupNoneUptoRow.holds Try.pinned (OpenSpec.upto rupNoneSpec)

/-- 'salvorlaw08.RupFinds', WHERE WHAT IT READS IS OF BULK AT MOST 1048576: true; the input reads as it did. -/
def rupFindsUptoRow : OpenClaim := { program := "ytcoeaaobbfbcjaa", sum := "85f8641aa97bcc4ee533e4201613f2837642453d301d8c09c20c1724b2912ea1", func := "salvor/salvorlaw08.RupFinds", spec := "rupFinds", unfollowed := true, recurses := true, apart := false, narrowed := true }
def RupFindsUptoSaid : Prop := rupFindsUptoRow.holds Try.pinned (OpenSpec.upto rupFindsSpec)

/-- 'salvorlaw08.RupMore', WHERE WHAT IT READS IS OF BULK AT MOST 1048576: true; the input reads as it did. -/
def rupMoreUptoRow : OpenClaim := { program := "ytcoeaaobbfbcjaa", sum := "85f8641aa97bcc4ee533e4201613f2837642453d301d8c09c20c1724b2912ea1", func := "salvor/salvorlaw08.RupMore", spec := "rupMore", unfollowed := true, recurses := true, apart := false, narrowed := true }
def RupMoreUptoSaid : Prop := rupMoreUptoRow.holds Try.pinned (OpenSpec.upto rupMoreSpec)

/-- 'salvorlaw08.RupFound', WHERE WHAT IT READS IS OF BULK AT MOST 1048576: true; the input reads as it did. -/
def rupFoundUptoRow : OpenClaim := { program := "ytcoeaaobbfbcjaa", sum := "85f8641aa97bcc4ee533e4201613f2837642453d301d8c09c20c1724b2912ea1", func := "salvor/salvorlaw08.RupFound", spec := "rupFound", unfollowed := true, recurses := true, apart := false, narrowed := true }
def RupFoundUptoSaid : Prop := rupFoundUptoRow.holds Try.pinned (OpenSpec.upto rupFoundSpec)

/-- 'salvorlaw08.RupSteps', WHERE WHAT IT READS IS OF BULK AT MOST 1048576: true; the input reads as it did. -/
def rupStepsUptoRow : OpenClaim := { program := "ytcoeaaobbfbcjaa", sum := "85f8641aa97bcc4ee533e4201613f2837642453d301d8c09c20c1724b2912ea1", func := "salvor/salvorlaw08.RupSteps", spec := "rupSteps", unfollowed := true, recurses := true, apart := false, narrowed := true }
def RupStepsUptoSaid : Prop := rupStepsUptoRow.holds Try.pinned (OpenSpec.upto rupStepsSpec)

/-- 'salvorlaw08.RupFollows', WHERE WHAT IT READS IS OF BULK AT MOST 1048576: true; the input reads as it did. -/
def rupFollowsUptoRow : OpenClaim := { program := "ytcoeaaobbfbcjaa", sum := "85f8641aa97bcc4ee533e4201613f2837642453d301d8c09c20c1724b2912ea1", func := "salvor/salvorlaw08.RupFollows", spec := "rupFollows", unfollowed := true, recurses := true, apart := false, narrowed := true }
def RupFollowsUptoSaid : Prop := rupFollowsUptoRow.holds Try.pinned (OpenSpec.upto rupFollowsSpec)

/-- 'salvorlaw08.RupSmall', WHERE WHAT IT READS IS OF BULK AT MOST 1048576: true; the input reads as it did. -/
def rupSmallUptoRow : OpenClaim := { program := "ytcoeaaobbfbcjaa", sum := "85f8641aa97bcc4ee533e4201613f2837642453d301d8c09c20c1724b2912ea1", func := "salvor/salvorlaw08.RupSmall", spec := "rupSmall", unfollowed := true, recurses := true, apart := false, narrowed := true }
def RupSmallUptoSaid : Prop := rupSmallUptoRow.holds Try.pinned (OpenSpec.upto rupSmallSpec)

/-- 'salvorlaw08.RupWrong', WHERE WHAT IT READS IS OF BULK AT MOST 1048576: true; the input reads as it did. -/
def rupWrongUptoRow : OpenClaim := { program := "ytcoeaaobbfbcjaa", sum := "85f8641aa97bcc4ee533e4201613f2837642453d301d8c09c20c1724b2912ea1", func := "salvor/salvorlaw08.RupWrong", spec := "rupWrong", inPlace := ["slices.overlaps[salvor/clauses.Clause]"], unfollowed := true, recurses := true, apart := false, narrowed := true }
def RupWrongUptoSaid : Prop := rupWrongUptoRow.holds Try.pinned (OpenSpec.upto rupWrongSpec)

end Rows
end Go.Proofs.Ytcoeaaobbfbcjaa
