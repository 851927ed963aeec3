/-
  Arguments of more kinds, opened: slices of truths, of structs, of slices; structs; arrays. Nothing here names a program.
-/
import Derived.Test.YtfadkgkkbbcekaaSxT
import Derived.Test.YtfadkgkkbbcekaaClT
import Derived.Test.YtfadkgkkbbcekaaCrQ
import Derived.Deep.Slices
import Derived.Test.YtfadkgkkbbcekaaFoL
import Derived.Test.YtfadkgkkbbcekaaRows
import Derived.Test.YtfadkgkkbbcekaaChecked
set_option linter.unusedVariables false
namespace Go.Sx
open Go Go.ChangeShapes Go.WideShapes Go.ChangeAt Go.RowKit

section
variable {H : Type} {enc : TypeId × Value → H} {P : Program} {W : World}

end
end Go.Sx

set_option linter.unusedVariables false
namespace Go.Proofs.Ytfadkgkkbbcekaa
open Go Go.Sx

theorem own_ : ownKnob Try.prog.godebug = none := by kernel_rfl
theorem laidOut_ : laidOutB Try.prog = true := by kernel_rfl
variable {H : Type} {enc : TypeId × Value → H} {W : World} {base : Nat} {v : Value} {d : DataW H} {p : List MemPlace}

end Go.Proofs.Ytfadkgkkbbcekaa
