/-
  The words of the printed predicates, and their rules. Nothing here names a program.
-/
import Derived.Test.YtmlamkoilggonaaGreatSx10
set_option linter.unusedVariables false
set_option linter.unusedSimpArgs false
namespace Go.Sx
open Go

/-- A loop: the least predicate that its rounds keep. -/
def lfp {σ : Type} (b : (σ → HP) → σ → HP) (s0 : σ) : HP := fun h => ∀ X : σ → HP, (∀ s h', b X s h' → X s h') → X s0 h
/-- Ways that meet again. -/
def jn {σ : Type} (k : σ → HP) (b : (σ → HP) → HP) : HP := fun h => ∀ J : σ → HP, (∀ s h', k s h' → J s h') → b J h
def cj (A B : HP) : HP := fun h => A h ∧ B h
def bAnd (k : IntKind) (a b : Int) : Int := k.wrap (BitVec.ofInt k.bits a &&& BitVec.ofInt k.bits b).toNat
def bOr (k : IntKind) (a b : Int) : Int := k.wrap (BitVec.ofInt k.bits a ||| BitVec.ofInt k.bits b).toNat
def bXor (k : IntKind) (a b : Int) : Int := k.wrap (BitVec.ofInt k.bits a ^^^ BitVec.ofInt k.bits b).toNat
def bAndNot (k : IntKind) (a b : Int) : Int := k.wrap (BitVec.ofInt k.bits a &&& ~~~(BitVec.ofInt k.bits b)).toNat

end Go.Sx
