/-
  The law's under, in each of its orders of evaluation (printed by gen/mkduo.py).
-/
import Derived.Test.YtfadkgkkbbcekaaDpYs
set_option linter.unusedVariables false
set_option linter.unusedSimpArgs false
namespace Go.Proofs.S
open Go Go.Sx Go.Proofs Go.Cl Go.Dp

variable {h : Heap} {cs : List (List Int)} {s sl : Sl} {l : List Int} {n fu : Int}

end Go.Proofs.S
