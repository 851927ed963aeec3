/-
  slices.CompactFunc, slices.EqualFunc over slices of slices. Nothing here names a program.
-/
import Derived.Test.YtjkgncibelojnaaGreatSxCp
import Derived.Test.YtjkgncibelojnaaGreatSxG
set_option linter.unusedVariables false
namespace Go.Sx
open Go

section
variable {P : Program} {τ : Ty} {t : TypeId} {h h' : Heap} {xs ys : List τ.T} {s s2 : Sl} {fr : Fr} {G As : List Asn} {z : Value}

end
end Go.Sx
