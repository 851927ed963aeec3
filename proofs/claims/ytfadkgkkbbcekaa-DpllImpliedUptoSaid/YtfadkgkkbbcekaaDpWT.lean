/-
  The tail of DpllModels, cut out of its text (printed by gen/mkdmd.py).
-/
import Derived.Test.YtfadkgkkbbcekaaDpV
set_option linter.unusedVariables false
namespace Go.Proofs.S
open Go Go.Sx Go.Proofs Go.Cl

end Go.Proofs.S

set_option linter.unusedVariables false
set_option linter.unusedSimpArgs false
namespace Go.Proofs.S
open Go Go.Sx Go.Proofs Go.Cl Go.Dp

variable {h : Heap} {l cs : List (List Int)} {s s2 sm r : Sl} {c d : List Int} {m : List Bool} {b : Nat} {MS : List (List Bool)} {G : List Asn} {v : Nat}

end Go.Proofs.S
