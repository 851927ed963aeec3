/-
  The reference of rat: Check.
-/
import Derived.Test.YtjkgncibelojnaaGreatRaT
set_option linter.unusedVariables false
set_option linter.unusedSimpArgs false
namespace Go.Proofs.S
open Go Go.Sx Go.Proofs Go.Cl Go.Rp Go.Rt

variable {h : Heap} {c d A f ids hs W : List Int} {l : List Ent} {cs : List (List Int)} {gs us vs : List Grp} {s s2 s3 s4 sc sl sh sg : Sl} {fr : Fr} {G As : List Asn} {id p n : Int} {i k : Nat} {b m : Nat}

end Go.Proofs.S
