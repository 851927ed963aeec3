/-
  What can survive a crash, in plain Lean: no program in sight.
-/
set_option linter.unusedVariables false
namespace Go.Cr

abbrev Ent := Int × Int × Int × Unit
def E (l : List Ent) (i : Nat) : Int := (l.getD i (0, 0, 0, ())).2.2.1
def K (k : List Bool) (i : Nat) : Bool := k.getD i false

def allB : Nat → List (List Bool)
  | 0 => [[]]
  | n + 1 => (allB n).map (false :: ·) ++ (allB n).map (true :: ·)
end Go.Cr
