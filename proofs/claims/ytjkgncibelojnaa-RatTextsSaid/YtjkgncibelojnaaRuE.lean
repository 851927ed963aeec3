/-
  The package rup: Find: contract.
-/
import Derived.Test.YtjkgncibelojnaaRuC
set_option linter.unusedVariables false
set_option linter.unusedSimpArgs false
namespace Go.Sx
open Go
variable {h : Heap} {τ : Ty} {xs : List τ.T} {s : Sl}
end Go.Sx
namespace Go.Proofs.S
open Go Go.Sx Go.Proofs Go.Cl Go.Rp

variable {h : Heap} {c d A us : List Int} {cs ds hs : List (List Int)} {s s2 : Sl} {fr : Fr} {G As : List Asn} {b : Nat}

end Go.Proofs.S
