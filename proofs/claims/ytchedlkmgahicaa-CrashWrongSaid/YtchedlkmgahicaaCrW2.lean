/-
  CrashValid, walked.
-/
import Derived.Test.YtchedlkmgahicaaCrX0
import Derived.Test.YtchedlkmgahicaaSxRp
set_option linter.unusedVariables false
set_option linter.unusedSimpArgs false
namespace Go.Proofs.S
open Go Go.Sx Go.Proofs Go.Cr Go.Cl

variable {h : Heap} {l : List Ent} {k k2 : List Bool} {m m2 : List Int} {s s2 s3 : Sl} {fr : Fr} {G As : List Asn}

end Go.Proofs.S
