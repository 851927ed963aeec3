/- The functions of the seat, each as a predicate over its values, printed by a program of ours, and that each is its text's. -/
import Derived.Test.YtogghgcgehhcaaaSxH
import Derived.KernelRfl
import Derived.Test.YtogghgcgehhcaaaProg
import Derived.Test.YtogghgcgehhcaaaClF0
import Derived.Test.YtogghgcgehhcaaaClF1
import Derived.Test.YtogghgcgehhcaaaClF2
import Derived.Test.YtogghgcgehhcaaaClF3
import Derived.Test.YtogghgcgehhcaaaClF4
import Derived.Test.YtogghgcgehhcaaaClF5
import Derived.Test.YtogghgcgehhcaaaClF6
set_option linter.unusedVariables false
namespace Go.Proofs.S
open Go Go.Sx Go.Proofs

end Go.Proofs.S
