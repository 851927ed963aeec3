/-
  No cell of these rows narrows 'for every input' (looked for: loops, veiled, ifaces, maps, wideKeys, modest, calm, conditions, laid).
  DERIVED. THE GIVEN ROWS OF THIS SEAT. 9 by the template 'for every input the law returns true; each argument reads behind the call as it read before'; 0 by the template 'total and deterministic' (their statements: YtogghgcgehhcaaaTotals.lean).
  GIVEN WITH THE SEED: the statements are not yours to turn. If you find one false, say at which input.
  Laid BY PROGRAM, IN A SANDBOX (cutbox-rows.mjs): the forced cells as the released guide's own fill.sh prints them over the translation e827ff2ff22ee2f6… (all of the seat's roots in one cut). By AI agents, Wed Nov 11 2026. No macro, syntax, notation, axiom, sorry.
-/
import Derived.Test.YtogghgcgehhcaaaChecked
import GoSem.Claim
import GoSem.ClaimJoined
import GoSem.ClaimMapViews
import Derived.JoinedTies
import Derived.KernelRfl
namespace Go.Proofs.Ytogghgcgehhcaaa
/- THE CELL 'sum', in the pinned program and in every row, IS THE sha256 OF THE DUMP (.gsa) THAT YtogghgcgehhcaaaProg.lean LOADS. Nothing in Lean hashes anything: it is a label: what it is worth is what the hold of that sum in a sandbox is worth. -/
noncomputable def Try.pinned : Pinned := { name := "ytogghgcgehhcaaa", sum := "e827ff2ff22ee2f6d4145ef4fa84bd49d9653d50ca6eaf55692c72a4c3b53ac1", checked := Try.checked }
namespace Rows
def none {H : Type} : Left H := { results := [], args := [] }

/-- 'salvorlaw02.ClausesFollow': WHATEVER THE INPUT: true; the input reads as it did. -/
def clausesFollowSpec : ChangeSpec := { name := "clausesFollow", fn := fun _ => fun
  | [d1, d2, d3] => { results := [.lit (.bool true)], args := [d1, d2, d3] }
  | _ => none }
def clausesFollowRow : OpenClaim := { program := "ytogghgcgehhcaaa", sum := "e827ff2ff22ee2f6d4145ef4fa84bd49d9653d50ca6eaf55692c72a4c3b53ac1", func := "salvor/salvorlaw02.ClausesFollow", spec := "clausesFollow", unfollowed := true, recurses := true, apart := false }
def ClausesFollowSaid : Prop := clausesFollowRow.holds Try.pinned (OpenSpec.ofChange clausesFollowSpec)

/-- ITS FALSE NEIGHBOUR: 'it returns false'. Refute it at one input. -/
def clausesFollowWrong : ChangeSpec := { name := "clausesFollow", fn := fun _ => fun
  | [d1, d2, d3] => { results := [.lit (.bool false)], args := [d1, d2, d3] }
  | _ => none }
def ClausesFollowWrongFalsely : Prop := clausesFollowRow.holds Try.pinned (OpenSpec.ofChange clausesFollowWrong)

/-- 'salvorlaw02.ClausesOne': WHATEVER THE INPUT: true; the input reads as it did. -/
def clausesOneSpec : ChangeSpec := { name := "clausesOne", fn := fun _ => fun
  | [d1, d2, d3] => { results := [.lit (.bool true)], args := [d1, d2, d3] }
  | _ => none }
def clausesOneRow : OpenClaim := { program := "ytogghgcgehhcaaa", sum := "e827ff2ff22ee2f6d4145ef4fa84bd49d9653d50ca6eaf55692c72a4c3b53ac1", func := "salvor/salvorlaw02.ClausesOne", spec := "clausesOne", unfollowed := true, recurses := true, apart := false }
def ClausesOneSaid : Prop := clausesOneRow.holds Try.pinned (OpenSpec.ofChange clausesOneSpec)

/-- ITS FALSE NEIGHBOUR: 'it returns false'. Refute it at one input. -/
def clausesOneWrong : ChangeSpec := { name := "clausesOne", fn := fun _ => fun
  | [d1, d2, d3] => { results := [.lit (.bool false)], args := [d1, d2, d3] }
  | _ => none }
def ClausesOneWrongFalsely : Prop := clausesOneRow.holds Try.pinned (OpenSpec.ofChange clausesOneWrong)

/-- 'salvorlaw02.ClausesPairs': WHATEVER THE INPUT: true; the input reads as it did. -/
def clausesPairsSpec : ChangeSpec := { name := "clausesPairs", fn := fun _ => fun
  | [d1, d2, d3] => { results := [.lit (.bool true)], args := [d1, d2, d3] }
  | _ => none }
def clausesPairsRow : OpenClaim := { program := "ytogghgcgehhcaaa", sum := "e827ff2ff22ee2f6d4145ef4fa84bd49d9653d50ca6eaf55692c72a4c3b53ac1", func := "salvor/salvorlaw02.ClausesPairs", spec := "clausesPairs", unfollowed := true, recurses := true, apart := false }
def ClausesPairsSaid : Prop := clausesPairsRow.holds Try.pinned (OpenSpec.ofChange clausesPairsSpec)

/-- ITS FALSE NEIGHBOUR: 'it returns false'. Refute it at one input. -/
def clausesPairsWrong : ChangeSpec := { name := "clausesPairs", fn := fun _ => fun
  | [d1, d2, d3] => { results := [.lit (.bool false)], args := [d1, d2, d3] }
  | _ => none }
def ClausesPairsWrongFalsely : Prop := clausesPairsRow.holds Try.pinned (OpenSpec.ofChange clausesPairsWrong)

/-- 'salvorlaw02.ClausesWithin': WHATEVER THE INPUT: true; the input reads as it did. -/
def clausesWithinSpec : ChangeSpec := { name := "clausesWithin", fn := fun _ => fun
  | [d1, d2, d3] => { results := [.lit (.bool true)], args := [d1, d2, d3] }
  | _ => none }
def clausesWithinRow : OpenClaim := { program := "ytogghgcgehhcaaa", sum := "e827ff2ff22ee2f6d4145ef4fa84bd49d9653d50ca6eaf55692c72a4c3b53ac1", func := "salvor/salvorlaw02.ClausesWithin", spec := "clausesWithin", unfollowed := true, recurses := true, apart := false }
def ClausesWithinSaid : Prop := clausesWithinRow.holds Try.pinned (OpenSpec.ofChange clausesWithinSpec)

/-- ITS FALSE NEIGHBOUR: 'it returns false'. Refute it at one input. -/
def clausesWithinWrong : ChangeSpec := { name := "clausesWithin", fn := fun _ => fun
  | [d1, d2, d3] => { results := [.lit (.bool false)], args := [d1, d2, d3] }
  | _ => none }
def ClausesWithinWrongFalsely : Prop := clausesWithinRow.holds Try.pinned (OpenSpec.ofChange clausesWithinWrong)

/-- 'salvorlaw02.ClausesOrder': WHATEVER THE INPUT: true; the input reads as it did. -/
def clausesOrderSpec : ChangeSpec := { name := "clausesOrder", fn := fun _ => fun
  | [d1, d2, d3] => { results := [.lit (.bool true)], args := [d1, d2, d3] }
  | _ => none }
def clausesOrderRow : OpenClaim := { program := "ytogghgcgehhcaaa", sum := "e827ff2ff22ee2f6d4145ef4fa84bd49d9653d50ca6eaf55692c72a4c3b53ac1", func := "salvor/salvorlaw02.ClausesOrder", spec := "clausesOrder", unfollowed := true, recurses := true, apart := false }
def ClausesOrderSaid : Prop := clausesOrderRow.holds Try.pinned (OpenSpec.ofChange clausesOrderSpec)

/-- ITS FALSE NEIGHBOUR: 'it returns false'. Refute it at one input. -/
def clausesOrderWrong : ChangeSpec := { name := "clausesOrder", fn := fun _ => fun
  | [d1, d2, d3] => { results := [.lit (.bool false)], args := [d1, d2, d3] }
  | _ => none }
def ClausesOrderWrongFalsely : Prop := clausesOrderRow.holds Try.pinned (OpenSpec.ofChange clausesOrderWrong)

/-- 'salvorlaw02.ClausesLess': WHATEVER THE INPUT: true; the input reads as it did. -/
def clausesLessSpec : ChangeSpec := { name := "clausesLess", fn := fun _ => fun
  | [d1, d2] => { results := [.lit (.bool true)], args := [d1, d2] }
  | _ => none }
def clausesLessRow : OpenClaim := { program := "ytogghgcgehhcaaa", sum := "e827ff2ff22ee2f6d4145ef4fa84bd49d9653d50ca6eaf55692c72a4c3b53ac1", func := "salvor/salvorlaw02.ClausesLess", spec := "clausesLess", unfollowed := true, recurses := true, apart := false }
def ClausesLessSaid : Prop := clausesLessRow.holds Try.pinned (OpenSpec.ofChange clausesLessSpec)

/-- ITS FALSE NEIGHBOUR: 'it returns false'. Refute it at one input. -/
def clausesLessWrong : ChangeSpec := { name := "clausesLess", fn := fun _ => fun
  | [d1, d2] => { results := [.lit (.bool false)], args := [d1, d2] }
  | _ => none }
def ClausesLessWrongFalsely : Prop := clausesLessRow.holds Try.pinned (OpenSpec.ofChange clausesLessWrong)

/-- 'salvorlaw02.ClausesSmall': WHATEVER THE INPUT: true; the input reads as it did. -/
def clausesSmallSpec : ChangeSpec := { name := "clausesSmall", fn := fun _ => fun
  | [] => { results := [.lit (.bool true)], args := [] }
  | _ => none }
def clausesSmallRow : OpenClaim := { program := "ytogghgcgehhcaaa", sum := "e827ff2ff22ee2f6d4145ef4fa84bd49d9653d50ca6eaf55692c72a4c3b53ac1", func := "salvor/salvorlaw02.ClausesSmall", spec := "clausesSmall", unfollowed := true, recurses := true, apart := false }
def ClausesSmallSaid : Prop := clausesSmallRow.holds Try.pinned (OpenSpec.ofChange clausesSmallSpec)

/-- ITS FALSE NEIGHBOUR: 'it returns false'. Refute it at one input. -/
def clausesSmallWrong : ChangeSpec := { name := "clausesSmall", fn := fun _ => fun
  | [] => { results := [.lit (.bool false)], args := [] }
  | _ => none }
def ClausesSmallWrongFalsely : Prop := clausesSmallRow.holds Try.pinned (OpenSpec.ofChange clausesSmallWrong)

/-- 'salvorlaw02.ClausesNorm': WHATEVER THE INPUT: true; the input reads as it did. -/
def clausesNormSpec : ChangeSpec := { name := "clausesNorm", fn := fun _ => fun
  | [d1, d2] => { results := [.lit (.bool true)], args := [d1, d2] }
  | _ => none }
def clausesNormRow : OpenClaim := { program := "ytogghgcgehhcaaa", sum := "e827ff2ff22ee2f6d4145ef4fa84bd49d9653d50ca6eaf55692c72a4c3b53ac1", func := "salvor/salvorlaw02.ClausesNorm", spec := "clausesNorm", unfollowed := true, recurses := true, apart := false }
def ClausesNormSaid : Prop := clausesNormRow.holds Try.pinned (OpenSpec.ofChange clausesNormSpec)

/-- ITS FALSE NEIGHBOUR: 'it returns false'. Refute it at one input. -/
def clausesNormWrong : ChangeSpec := { name := "clausesNorm", fn := fun _ => fun
  | [d1, d2] => { results := [.lit (.bool false)], args := [d1, d2] }
  | _ => none }
def ClausesNormWrongFalsely : Prop := clausesNormRow.holds Try.pinned (OpenSpec.ofChange clausesNormWrong)

/-- 'salvorlaw02.ClausesWrong': WHATEVER THE INPUT: true; the input reads as it did. -/
def clausesWrongSpec : ChangeSpec := { name := "clausesWrong", fn := fun _ => fun
  | [d1, d2, d3] => { results := [.lit (.bool true)], args := [d1, d2, d3] }
  | _ => none }
def clausesWrongRow : OpenClaim := { program := "ytogghgcgehhcaaa", sum := "e827ff2ff22ee2f6d4145ef4fa84bd49d9653d50ca6eaf55692c72a4c3b53ac1", func := "salvor/salvorlaw02.ClausesWrong", spec := "clausesWrong", inPlace := ["slices.overlaps[salvor/lits.Lit]"], unfollowed := true, recurses := true, apart := false }
def ClausesWrongSaid : Prop := clausesWrongRow.holds Try.pinned (OpenSpec.ofChange clausesWrongSpec)

/-- ITS FALSE NEIGHBOUR: 'it returns false'. Refute it at one input. -/
def clausesWrongWrong : ChangeSpec := { name := "clausesWrong", fn := fun _ => fun
  | [d1, d2, d3] => { results := [.lit (.bool false)], args := [d1, d2, d3] }
  | _ => none }
def ClausesWrongWrongFalsely : Prop := clausesWrongRow.holds Try.pinned (OpenSpec.ofChange clausesWrongWrong)

/- THE SECOND FORM. 'bulk': how many values and letters a reading holds, each counted each time it is reached (what is shared counts as often as it is met; a slice's spare places count too). A statement '..UptoSaid' is the law's where the arguments, and the package variables that the reading takes, are together of bulk at most 1048576: NARROWER than '..Said'. Prove '..Said' where nothing that the law and all that it calls make is longer than what came in: it says more and counts as full. Else prove '..UptoSaid'. A law counts once. -/
mutual
def uptoBulk {H : Type} : DataW H → Nat
  | .lit (.string bytes) => bytes.length + 1
  | .lit _ => 1
  | .nil => 1
  | .ptr d => uptoBulk d + 1
  | .slice elems spare => uptoBulkAll elems + uptoBulkAll spare + 1
  | .agg parts => uptoBulkAll parts + 1
  | .iface _ d => uptoBulk d + 1
  | .map entries => uptoBulkEntries entries + 1
  | .held _ => 1
def uptoBulkAll {H : Type} : List (DataW H) → Nat
  | [] => 0
  | d :: r => uptoBulk d + uptoBulkAll r
def uptoBulkEntries {H : Type} : List (Lit × DataW H) → Nat
  | [] => 0
  | x :: r => uptoBulkEntry x + uptoBulkEntries r
def uptoBulkEntry {H : Type} : Lit × DataW H → Nat
  | (.string bytes, d) => bytes.length + uptoBulk d + 1
  | (_, d) => uptoBulk d + 1
 end
def uptoSmall : (H : Type) → List (DataW H) → Bool := fun _ ds => decide (uptoBulkAll ds ≤ 1048576)
def OpenSpec.upto (s : _root_.Go.ChangeSpec) : _root_.Go.OpenSpec := { _root_.Go.OpenSpec.ofChange s with cond := some uptoSmall }

/-- 'salvorlaw02.ClausesFollow', WHERE WHAT IT READS IS OF BULK AT MOST 1048576: true; the input reads as it did. -/
def clausesFollowUptoRow : OpenClaim := { program := "ytogghgcgehhcaaa", sum := "e827ff2ff22ee2f6d4145ef4fa84bd49d9653d50ca6eaf55692c72a4c3b53ac1", func := "salvor/salvorlaw02.ClausesFollow", spec := "clausesFollow", unfollowed := true, recurses := true, apart := false, narrowed := true }
def ClausesFollowUptoSaid : Prop := clausesFollowUptoRow.holds Try.pinned (OpenSpec.upto clausesFollowSpec)

/-- 'salvorlaw02.ClausesOne', WHERE WHAT IT READS IS OF BULK AT MOST 1048576: true; the input reads as it did. -/
def clausesOneUptoRow : OpenClaim := { program := "ytogghgcgehhcaaa", sum := "e827ff2ff22ee2f6d4145ef4fa84bd49d9653d50ca6eaf55692c72a4c3b53ac1", func := "salvor/salvorlaw02.ClausesOne", spec := "clausesOne", unfollowed := true, recurses := true, apart := false, narrowed := true }
def ClausesOneUptoSaid : Prop := clausesOneUptoRow.holds Try.pinned (OpenSpec.upto clausesOneSpec)

/-- 'salvorlaw02.ClausesPairs', WHERE WHAT IT READS IS OF BULK AT MOST 1048576: true; the input reads as it did. -/
def clausesPairsUptoRow : OpenClaim := { program := "ytogghgcgehhcaaa", sum := "e827ff2ff22ee2f6d4145ef4fa84bd49d9653d50ca6eaf55692c72a4c3b53ac1", func := "salvor/salvorlaw02.ClausesPairs", spec := "clausesPairs", unfollowed := true, recurses := true, apart := false, narrowed := true }
def ClausesPairsUptoSaid : Prop := clausesPairsUptoRow.holds Try.pinned (OpenSpec.upto clausesPairsSpec)

/-- 'salvorlaw02.ClausesWithin', WHERE WHAT IT READS IS OF BULK AT MOST 1048576: true; the input reads as it did. -/
def clausesWithinUptoRow : OpenClaim := { program := "ytogghgcgehhcaaa", sum := "e827ff2ff22ee2f6d4145ef4fa84bd49d9653d50ca6eaf55692c72a4c3b53ac1", func := "salvor/salvorlaw02.ClausesWithin", spec := "clausesWithin", unfollowed := true, recurses := true, apart := false, narrowed := true }
def ClausesWithinUptoSaid : Prop := clausesWithinUptoRow.holds Try.pinned (OpenSpec.upto clausesWithinSpec)

/-- 'salvorlaw02.ClausesOrder', WHERE WHAT IT READS IS OF BULK AT MOST 1048576: true; the input reads as it did. -/
def clausesOrderUptoRow : OpenClaim := { program := "ytogghgcgehhcaaa", sum := "e827ff2ff22ee2f6d4145ef4fa84bd49d9653d50ca6eaf55692c72a4c3b53ac1", func := "salvor/salvorlaw02.ClausesOrder", spec := "clausesOrder", unfollowed := true, recurses := true, apart := false, narrowed := true }
def ClausesOrderUptoSaid : Prop := clausesOrderUptoRow.holds Try.pinned (OpenSpec.upto clausesOrderSpec)

/-- 'salvorlaw02.ClausesLess', WHERE WHAT IT READS IS OF BULK AT MOST 1048576: true; the input reads as it did. -/
def clausesLessUptoRow : OpenClaim := { program := "ytogghgcgehhcaaa", sum := "e827ff2ff22ee2f6d4145ef4fa84bd49d9653d50ca6eaf55692c72a4c3b53ac1", func := "salvor/salvorlaw02.ClausesLess", spec := "clausesLess", unfollowed := true, recurses := true, apart := false, narrowed := true }
def ClausesLessUptoSaid : Prop := clausesLessUptoRow.holds Try.pinned (OpenSpec.upto clausesLessSpec)

/-- 'salvorlaw02.ClausesSmall', WHERE WHAT IT READS IS OF BULK AT MOST 1048576: true; the input reads as it did. -/
def clausesSmallUptoRow : OpenClaim := { program := "ytogghgcgehhcaaa", sum := "e827ff2ff22ee2f6d4145ef4fa84bd49d9653d50ca6eaf55692c72a4c3b53ac1", func := "salvor/salvorlaw02.ClausesSmall", spec := "clausesSmall", unfollowed := true, recurses := true, apart := false, narrowed := true }
def ClausesSmallUptoSaid : Prop := clausesSmallUptoRow.holds Try.pinned (OpenSpec.upto clausesSmallSpec)

/-- 'salvorlaw02.ClausesNorm', WHERE WHAT IT READS IS OF BULK AT MOST 1048576: true; the input reads as it did. -/
def clausesNormUptoRow : OpenClaim := { program := "ytogghgcgehhcaaa", sum := "e827ff2ff22ee2f6d4145ef4fa84bd49d9653d50ca6eaf55692c72a4c3b53ac1", func := "salvor/salvorlaw02.ClausesNorm", spec := "clausesNorm", unfollowed := true, recurses := true, apart := false, narrowed := true }
def ClausesNormUptoSaid : Prop := clausesNormUptoRow.holds Try.pinned (OpenSpec.upto clausesNormSpec)

/-- 'salvorlaw02.ClausesWrong', WHERE WHAT IT READS IS OF BULK AT MOST 1048576: true; the input reads as it did. -/
def clausesWrongUptoRow : OpenClaim := { program := "ytogghgcgehhcaaa", sum := "e827ff2ff22ee2f6d4145ef4fa84bd49d9653d50ca6eaf55692c72a4c3b53ac1", func := "salvor/salvorlaw02.ClausesWrong", spec := "clausesWrong", inPlace := ["slices.overlaps[salvor/lits.Lit]"], unfollowed := true, recurses := true, apart := false, narrowed := true }
def ClausesWrongUptoSaid : Prop := clausesWrongUptoRow.holds Try.pinned (OpenSpec.upto clausesWrongSpec)

end Rows
end Go.Proofs.Ytogghgcgehhcaaa
