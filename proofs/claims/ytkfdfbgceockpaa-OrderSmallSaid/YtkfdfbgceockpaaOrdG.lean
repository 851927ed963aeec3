/- The functions of the seat, each as a predicate over its values, printed by a program of ours, and that each is its text's. -/
import Derived.Test.YtkfdfbgceockpaaSxH
import Derived.KernelRfl
import Derived.Test.YtkfdfbgceockpaaProg
import Derived.Test.YtkfdfbgceockpaaOrdG1
set_option linter.unusedVariables false
namespace Go.Proofs.OrdG
open Go Go.Sx Go.Proofs

end Go.Proofs.OrdG
