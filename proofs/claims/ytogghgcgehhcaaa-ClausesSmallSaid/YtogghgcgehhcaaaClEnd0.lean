/-
  The seat's own facts, for the ends.
-/
import Derived.Test.YtogghgcgehhcaaaClF
import Derived.Test.YtogghgcgehhcaaaSxEnd
import Derived.Test.YtogghgcgehhcaaaRows
import Derived.Test.YtogghgcgehhcaaaChecked
set_option linter.unusedVariables false
namespace Go.Proofs.Ytogghgcgehhcaaa
open Go Go.Sx

theorem Try.own : ownKnob Try.prog.godebug = none := by kernel_rfl
theorem Try.laidOut : laidOutB Try.prog = true := by kernel_rfl
theorem Try.cells3 : Try.prog.cellsOf 3 = 1 := by kernel_rfl
theorem Try.cells5 : Try.prog.cellsOf 5 = 1 := by kernel_rfl

end Go.Proofs.Ytogghgcgehhcaaa
