/-
  No cell of these rows narrows 'for every input' (looked for: loops, veiled, ifaces, maps, wideKeys, modest, calm, conditions, laid).
  DERIVED. THE GIVEN ROWS OF THIS SEAT. 7 by the template 'for every input the law returns true; each argument reads behind the call as it read before'; 0 by the template 'total and deterministic' (their statements: YtjkgncibelojnaaGreatTotals.lean).
  GIVEN WITH THE SEED: the statements are not yours to turn. If you find one false, say at which input.
  Laid BY PROGRAM, IN A SANDBOX (cutbox-rows.mjs): the forced cells as the released guide's own fill.sh prints them over the translation e0e0b94763df4d95… (all of the seat's roots in one cut). By AI agents, Wed Nov 11 2026. No macro, syntax, notation, axiom, sorry.
-/
import Derived.Test.YtjkgncibelojnaaGreatChecked
import GoSem.Claim
import GoSem.ClaimJoined
import GoSem.ClaimMapViews
import Derived.JoinedTies
import Derived.KernelRfl
namespace Go.Proofs.YtjkgncibelojnaaGreat
/- THE CELL 'sum', in the pinned program and in every row, IS THE sha256 OF THE DUMP (.gsa) THAT YtjkgncibelojnaaGreatProg.lean LOADS. Nothing in Lean hashes anything: it is a label: what it is worth is what the hold of that sum in a sandbox is worth. -/
noncomputable def Tryz.pinned : Pinned := { name := "ytjkgncibelojnaagreat", sum := "e0e0b94763df4d95f3d04b72ac2c9382872923bb9dddb4f258b49e63929373f4", checked := Tryz.checked }
namespace Rows
def none {H : Type} : Left H := { results := [], args := [] }

/-- 'salvorlaw09.RatGroups': WHATEVER THE INPUT: true; the input reads as it did. -/
def ratGroupsSpec : ChangeSpec := { name := "ratGroups", fn := fun _ => fun
  | [d1, d2, d3] => { results := [.lit (.bool true)], args := [d1, d2, d3] }
  | _ => none }
def ratGroupsRow : OpenClaim := { program := "ytjkgncibelojnaagreat", sum := "e0e0b94763df4d95f3d04b72ac2c9382872923bb9dddb4f258b49e63929373f4", func := "salvor/salvorlaw09.RatGroups", spec := "ratGroups", unfollowed := true, recurses := true, apart := false }
def RatGroupsSaid : Prop := ratGroupsRow.holds Tryz.pinned (OpenSpec.ofChange ratGroupsSpec)

/-- ITS FALSE NEIGHBOUR: 'it returns false'. Refute it at one input. -/
def ratGroupsWrong : ChangeSpec := { name := "ratGroups", fn := fun _ => fun
  | [d1, d2, d3] => { results := [.lit (.bool false)], args := [d1, d2, d3] }
  | _ => none }
def RatGroupsWrongFalsely : Prop := ratGroupsRow.holds Tryz.pinned (OpenSpec.ofChange ratGroupsWrong)

/-- 'salvorlaw09.RatSmall': WHATEVER THE INPUT: true; the input reads as it did. -/
def ratSmallSpec : ChangeSpec := { name := "ratSmall", fn := fun _ => fun
  | [] => { results := [.lit (.bool true)], args := [] }
  | _ => none }
def ratSmallRow : OpenClaim := { program := "ytjkgncibelojnaagreat", sum := "e0e0b94763df4d95f3d04b72ac2c9382872923bb9dddb4f258b49e63929373f4", func := "salvor/salvorlaw09.RatSmall", spec := "ratSmall", unfollowed := true, recurses := true, apart := false }
def RatSmallSaid : Prop := ratSmallRow.holds Tryz.pinned (OpenSpec.ofChange ratSmallSpec)

/-- ITS FALSE NEIGHBOUR: 'it returns false'. Refute it at one input. -/
def ratSmallWrong : ChangeSpec := { name := "ratSmall", fn := fun _ => fun
  | [] => { results := [.lit (.bool false)], args := [] }
  | _ => none }
def RatSmallWrongFalsely : Prop := ratSmallRow.holds Tryz.pinned (OpenSpec.ofChange ratSmallWrong)

/-- 'salvorlaw09.RatChecks': WHATEVER THE INPUT: true; the input reads as it did. -/
def ratChecksSpec : ChangeSpec := { name := "ratChecks", fn := fun _ => fun
  | [d1, d2] => { results := [.lit (.bool true)], args := [d1, d2] }
  | _ => none }
def ratChecksRow : OpenClaim := { program := "ytjkgncibelojnaagreat", sum := "e0e0b94763df4d95f3d04b72ac2c9382872923bb9dddb4f258b49e63929373f4", func := "salvor/salvorlaw09.RatChecks", spec := "ratChecks", unfollowed := true, recurses := true, apart := false }
def RatChecksSaid : Prop := ratChecksRow.holds Tryz.pinned (OpenSpec.ofChange ratChecksSpec)

/-- ITS FALSE NEIGHBOUR: 'it returns false'. Refute it at one input. -/
def ratChecksWrong : ChangeSpec := { name := "ratChecks", fn := fun _ => fun
  | [d1, d2] => { results := [.lit (.bool false)], args := [d1, d2] }
  | _ => none }
def RatChecksWrongFalsely : Prop := ratChecksRow.holds Tryz.pinned (OpenSpec.ofChange ratChecksWrong)

/-- 'salvorlaw09.RatTells': WHATEVER THE INPUT: true; the input reads as it did. -/
def ratTellsSpec : ChangeSpec := { name := "ratTells", fn := fun _ => fun
  | [d1, d2, d3, d4, d5, d6] => { results := [.lit (.bool true)], args := [d1, d2, d3, d4, d5, d6] }
  | _ => none }
def ratTellsRow : OpenClaim := { program := "ytjkgncibelojnaagreat", sum := "e0e0b94763df4d95f3d04b72ac2c9382872923bb9dddb4f258b49e63929373f4", func := "salvor/salvorlaw09.RatTells", spec := "ratTells", unfollowed := true, recurses := true, apart := false }
def RatTellsSaid : Prop := ratTellsRow.holds Tryz.pinned (OpenSpec.ofChange ratTellsSpec)

/-- ITS FALSE NEIGHBOUR: 'it returns false'. Refute it at one input. -/
def ratTellsWrong : ChangeSpec := { name := "ratTells", fn := fun _ => fun
  | [d1, d2, d3, d4, d5, d6] => { results := [.lit (.bool false)], args := [d1, d2, d3, d4, d5, d6] }
  | _ => none }
def RatTellsWrongFalsely : Prop := ratTellsRow.holds Tryz.pinned (OpenSpec.ofChange ratTellsWrong)

/-- 'salvorlaw09.RatSearches': WHATEVER THE INPUT: true; the input reads as it did. -/
def ratSearchesSpec : ChangeSpec := { name := "ratSearches", fn := fun _ => fun
  | [d1, d2] => { results := [.lit (.bool true)], args := [d1, d2] }
  | _ => none }
def ratSearchesRow : OpenClaim := { program := "ytjkgncibelojnaagreat", sum := "e0e0b94763df4d95f3d04b72ac2c9382872923bb9dddb4f258b49e63929373f4", func := "salvor/salvorlaw09.RatSearches", spec := "ratSearches", unfollowed := true, recurses := true, apart := false }
def RatSearchesSaid : Prop := ratSearchesRow.holds Tryz.pinned (OpenSpec.ofChange ratSearchesSpec)

/-- ITS FALSE NEIGHBOUR: 'it returns false'. Refute it at one input. -/
def ratSearchesWrong : ChangeSpec := { name := "ratSearches", fn := fun _ => fun
  | [d1, d2] => { results := [.lit (.bool false)], args := [d1, d2] }
  | _ => none }
def RatSearchesWrongFalsely : Prop := ratSearchesRow.holds Tryz.pinned (OpenSpec.ofChange ratSearchesWrong)

/-- 'salvorlaw09.RatKeeps': WHATEVER THE INPUT: true; the input reads as it did. -/
def ratKeepsSpec : ChangeSpec := { name := "ratKeeps", fn := fun _ => fun
  | [d1, d2, d3, d4] => { results := [.lit (.bool true)], args := [d1, d2, d3, d4] }
  | _ => none }
def ratKeepsRow : OpenClaim := { program := "ytjkgncibelojnaagreat", sum := "e0e0b94763df4d95f3d04b72ac2c9382872923bb9dddb4f258b49e63929373f4", func := "salvor/salvorlaw09.RatKeeps", spec := "ratKeeps", unfollowed := true, recurses := true, apart := false }
def RatKeepsSaid : Prop := ratKeepsRow.holds Tryz.pinned (OpenSpec.ofChange ratKeepsSpec)

/-- ITS FALSE NEIGHBOUR: 'it returns false'. Refute it at one input. -/
def ratKeepsWrong : ChangeSpec := { name := "ratKeeps", fn := fun _ => fun
  | [d1, d2, d3, d4] => { results := [.lit (.bool false)], args := [d1, d2, d3, d4] }
  | _ => none }
def RatKeepsWrongFalsely : Prop := ratKeepsRow.holds Tryz.pinned (OpenSpec.ofChange ratKeepsWrong)

/-- 'salvorlaw09.RatWrong': WHATEVER THE INPUT: true; the input reads as it did. -/
def ratWrongSpec : ChangeSpec := { name := "ratWrong", fn := fun _ => fun
  | [d1, d2, d3] => { results := [.lit (.bool true)], args := [d1, d2, d3] }
  | _ => none }
def ratWrongRow : OpenClaim := { program := "ytjkgncibelojnaagreat", sum := "e0e0b94763df4d95f3d04b72ac2c9382872923bb9dddb4f258b49e63929373f4", func := "salvor/salvorlaw09.RatWrong", spec := "ratWrong", unfollowed := true, recurses := true, apart := false }
def RatWrongSaid : Prop := ratWrongRow.holds Tryz.pinned (OpenSpec.ofChange ratWrongSpec)

/-- ITS FALSE NEIGHBOUR: 'it returns false'. Refute it at one input. -/
def ratWrongWrong : ChangeSpec := { name := "ratWrong", fn := fun _ => fun
  | [d1, d2, d3] => { results := [.lit (.bool false)], args := [d1, d2, d3] }
  | _ => none }
def RatWrongWrongFalsely : Prop := ratWrongRow.holds Tryz.pinned (OpenSpec.ofChange ratWrongWrong)

/- THE SECOND FORM. 'bulk': how many values and letters a reading holds, each counted each time it is reached (what is shared counts as often as it is met; a slice's spare places count too). A statement '..UptoSaid' is the law's where the arguments, and the package variables that the reading takes, are together of bulk at most 1048576: NARROWER than '..Said'. Prove '..Said' where nothing that the law and all that it calls make is longer than what came in: it says more and counts as full. Else prove '..UptoSaid'. A law counts once. -/
mutual
def uptoBulk {H : Type} : DataW H → Nat
  | .lit (.string bytes) => bytes.length + 1
  | .lit _ => 1
  | .nil => 1
  | .ptr d => uptoBulk d + 1
  | .slice elems spare => uptoBulkAll elems + uptoBulkAll spare + 1
  | .agg parts => uptoBulkAll parts + 1
  | .iface _ d => uptoBulk d + 1
  | .map entries => uptoBulkEntries entries + 1
  | .held _ => 1
def uptoBulkAll {H : Type} : List (DataW H) → Nat
  | [] => 0
  | d :: r => uptoBulk d + uptoBulkAll r
def uptoBulkEntries {H : Type} : List (Lit × DataW H) → Nat
  | [] => 0
  | x :: r => uptoBulkEntry x + uptoBulkEntries r
def uptoBulkEntry {H : Type} : Lit × DataW H → Nat
  | (.string bytes, d) => bytes.length + uptoBulk d + 1
  | (_, d) => uptoBulk d + 1
 end
def uptoSmall : (H : Type) → List (DataW H) → Bool := fun _ ds => decide (uptoBulkAll ds ≤ 1048576)
def OpenSpec.upto (s : _root_.Go.ChangeSpec) : _root_.Go.OpenSpec := { _root_.Go.OpenSpec.ofChange s with cond := some uptoSmall }

/-- 'salvorlaw09.RatGroups', WHERE WHAT IT READS IS OF BULK AT MOST 1048576: true; the input reads as it did. -/
def ratGroupsUptoRow : OpenClaim := { program := "ytjkgncibelojnaagreat", sum := "e0e0b94763df4d95f3d04b72ac2c9382872923bb9dddb4f258b49e63929373f4", func := "salvor/salvorlaw09.RatGroups", spec := "ratGroups", unfollowed := true, recurses := true, apart := false, narrowed := true }
def RatGroupsUptoSaid : Prop := ratGroupsUptoRow.holds Tryz.pinned (OpenSpec.upto ratGroupsSpec)

/-- 'salvorlaw09.RatSmall', WHERE WHAT IT READS IS OF BULK AT MOST 1048576: true; the input reads as it did. -/
def ratSmallUptoRow : OpenClaim := { program := "ytjkgncibelojnaagreat", sum := "e0e0b94763df4d95f3d04b72ac2c9382872923bb9dddb4f258b49e63929373f4", func := "salvor/salvorlaw09.RatSmall", spec := "ratSmall", unfollowed := true, recurses := true, apart := false, narrowed := true }
def RatSmallUptoSaid : Prop := ratSmallUptoRow.holds Tryz.pinned (OpenSpec.upto ratSmallSpec)

/-- 'salvorlaw09.RatChecks', WHERE WHAT IT READS IS OF BULK AT MOST 1048576: true; the input reads as it did. -/
def ratChecksUptoRow : OpenClaim := { program := "ytjkgncibelojnaagreat", sum := "e0e0b94763df4d95f3d04b72ac2c9382872923bb9dddb4f258b49e63929373f4", func := "salvor/salvorlaw09.RatChecks", spec := "ratChecks", unfollowed := true, recurses := true, apart := false, narrowed := true }
def RatChecksUptoSaid : Prop := ratChecksUptoRow.holds Tryz.pinned (OpenSpec.upto ratChecksSpec)

/-- 'salvorlaw09.RatTells', WHERE WHAT IT READS IS OF BULK AT MOST 1048576: true; the input reads as it did. -/
def ratTellsUptoRow : OpenClaim := { program := "ytjkgncibelojnaagreat", sum := "e0e0b94763df4d95f3d04b72ac2c9382872923bb9dddb4f258b49e63929373f4", func := "salvor/salvorlaw09.RatTells", spec := "ratTells", unfollowed := true, recurses := true, apart := false, narrowed := true }
def RatTellsUptoSaid : Prop := ratTellsUptoRow.holds Tryz.pinned (OpenSpec.upto ratTellsSpec)

/-- 'salvorlaw09.RatSearches', WHERE WHAT IT READS IS OF BULK AT MOST 1048576: true; the input reads as it did. -/
def ratSearchesUptoRow : OpenClaim := { program := "ytjkgncibelojnaagreat", sum := "e0e0b94763df4d95f3d04b72ac2c9382872923bb9dddb4f258b49e63929373f4", func := "salvor/salvorlaw09.RatSearches", spec := "ratSearches", unfollowed := true, recurses := true, apart := false, narrowed := true }
def RatSearchesUptoSaid : Prop := ratSearchesUptoRow.holds Tryz.pinned (OpenSpec.upto ratSearchesSpec)

/-- 'salvorlaw09.RatKeeps', WHERE WHAT IT READS IS OF BULK AT MOST 1048576: true; the input reads as it did. -/
def ratKeepsUptoRow : OpenClaim := { program := "ytjkgncibelojnaagreat", sum := "e0e0b94763df4d95f3d04b72ac2c9382872923bb9dddb4f258b49e63929373f4", func := "salvor/salvorlaw09.RatKeeps", spec := "ratKeeps", unfollowed := true, recurses := true, apart := false, narrowed := true }
def RatKeepsUptoSaid : Prop := ratKeepsUptoRow.holds Tryz.pinned (OpenSpec.upto ratKeepsSpec)

/-- 'salvorlaw09.RatWrong', WHERE WHAT IT READS IS OF BULK AT MOST 1048576: true; the input reads as it did. -/
def ratWrongUptoRow : OpenClaim := { program := "ytjkgncibelojnaagreat", sum := "e0e0b94763df4d95f3d04b72ac2c9382872923bb9dddb4f258b49e63929373f4", func := "salvor/salvorlaw09.RatWrong", spec := "ratWrong", unfollowed := true, recurses := true, apart := false, narrowed := true }
def RatWrongUptoSaid : Prop := ratWrongUptoRow.holds Tryz.pinned (OpenSpec.upto ratWrongSpec)

end Rows
end Go.Proofs.YtjkgncibelojnaaGreat
