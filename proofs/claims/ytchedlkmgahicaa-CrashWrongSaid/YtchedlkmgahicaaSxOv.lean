/-
  slices.overlaps, slices.Insert of one element. Nothing here names a program.
-/
import Derived.Test.YtchedlkmgahicaaSxW3
import Derived.Lib.Overlaps
set_option linter.unusedVariables false
namespace Go.Sx
open Go

section
variable {P : Program} {τ : Ty} {t : TypeId} {h h' : Heap} {xs ys : List τ.T} {s s2 : Sl} {fr : Fr} {G As : List Asn} {by_ : Nat} {z : Value}

end
end Go.Sx
