/- The functions of the seat, each as a predicate over its values, printed by a program of ours, and that each is its text's. -/
import Derived.Test.YtmlamkoilggonaaGreatSxH
import Derived.KernelRfl
import Derived.Test.YtmlamkoilggonaaGreatProg
import Derived.Test.YtmlamkoilggonaaGreatClF0
import Derived.Test.YtmlamkoilggonaaGreatClF1
import Derived.Test.YtmlamkoilggonaaGreatClF2
import Derived.Test.YtmlamkoilggonaaGreatClF3
import Derived.Test.YtmlamkoilggonaaGreatClF4
import Derived.Test.YtmlamkoilggonaaGreatClF5
import Derived.Test.YtmlamkoilggonaaGreatClF6
set_option linter.unusedVariables false
namespace Go.Proofs.S
open Go Go.Sx Go.Proofs

end Go.Proofs.S
