/-
  The laws' helpers of rup: Made, All, True, AllTrue.
-/
import Derived.Test.YtjkgncibelojnaaGreatRuE
set_option linter.unusedVariables false
set_option linter.unusedSimpArgs false
namespace Go.Proofs.S
open Go Go.Sx Go.Proofs Go.Cl Go.Rp
variable {h : Heap} {c d A us : List Int} {cs ds hs : List (List Int)} {s s2 : Sl} {fr : Fr} {G As : List Asn} {b n : Nat} {t : TypeId}
def litR (n : Int) : Int := if n % 2 = 1 then -(1 + n % 256 / 2 % 6) else 1 + n % 256 / 2 % 6
end Go.Proofs.S
