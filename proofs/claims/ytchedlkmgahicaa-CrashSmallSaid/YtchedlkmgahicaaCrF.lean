/- The functions of the seat, each as a predicate over its values, printed by a program of ours, and that each is its text's. -/
import Derived.Test.YtchedlkmgahicaaSxH
import Derived.KernelRfl
import Derived.Test.YtchedlkmgahicaaProg
import Derived.Test.YtchedlkmgahicaaCrF0
import Derived.Test.YtchedlkmgahicaaCrF1
import Derived.Test.YtchedlkmgahicaaCrF2
import Derived.Test.YtchedlkmgahicaaCrF3
set_option linter.unusedVariables false
namespace Go.Proofs.S
open Go Go.Sx Go.Proofs

end Go.Proofs.S
