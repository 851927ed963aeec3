/-
  slices.Repeat: math/bits.Mul64 of small numbers, copies within one row. Nothing here names a program.
-/
import Derived.Test.YtchedlkmgahicaaSxCp
import Derived.Test.YtchedlkmgahicaaSxOv
set_option linter.unusedVariables false
namespace Go.Sx
open Go

section
variable {τ : Ty} {t : TypeId} {h h' : Heap} {fr : Fr} {G As : List Asn} {s s2 : Sl} {xs ys : List τ.T}

end
end Go.Sx
