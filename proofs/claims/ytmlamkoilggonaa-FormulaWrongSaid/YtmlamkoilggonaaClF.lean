/- The functions of the seat, each as a predicate over its values, printed by a program of ours, and that each is its text's. -/
import Derived.Test.YtmlamkoilggonaaSxH
import Derived.KernelRfl
import Derived.Test.YtmlamkoilggonaaProg
import Derived.Test.YtmlamkoilggonaaClF0
import Derived.Test.YtmlamkoilggonaaClF1
import Derived.Test.YtmlamkoilggonaaClF2
set_option linter.unusedVariables false
namespace Go.Proofs.S
open Go Go.Sx Go.Proofs

end Go.Proofs.S
