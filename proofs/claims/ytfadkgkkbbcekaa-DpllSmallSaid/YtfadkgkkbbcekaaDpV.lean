/-
  DpllImplies, walked.
-/
import Derived.Test.YtfadkgkkbbcekaaDpO
import Derived.Test.YtfadkgkkbbcekaaSxW3
set_option linter.unusedVariables false
set_option linter.unusedSimpArgs false
namespace Go.Proofs.S
open Go Go.Sx Go.Proofs Go.Cl Go.Dp

variable {h : Heap} {l cs : List (List Int)} {s s2 : Sl} {c : List Int}

end Go.Proofs.S

set_option linter.unusedVariables false
set_option linter.unusedSimpArgs false
namespace Go.Proofs.S
open Go Go.Sx Go.Proofs Go.Cl Go.Dp

variable {h : Heap} {l cs : List (List Int)} {s s2 sm : Sl} {c d : List Int} {m : List Bool} {b : Nat}

theorem neg_wrap {x : Int} (hr : rt x = true) : IntKind.wrap .i64 (0 - x) = -x := by
  have := rt_iff.1 hr
  rw [wrap_i64 (by omega) (by omega)]; omega

end Go.Proofs.S
