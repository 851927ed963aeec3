/-
  RatKeeps in plain form: what is repaired, as a number of bits. No program here.
-/
import Derived.Test.YtjkgncibelojnaaRtT
set_option linter.unusedVariables false
set_option linter.unusedSimpArgs false
namespace Go.Rt
open Go Go.Cl Go.Rp

variable {l X : List Ent} {A B c : List Int} {p : Int}

end Go.Rt

set_option linter.unusedVariables false
set_option linter.unusedSimpArgs false
namespace Go.Rt
open Go Go.Cl Go.Rp

variable {l X : List Ent} {A B c : List Int} {p : Int}

def defs (x y : Int) : List (List Int) := [[-9, x], [-9, y], [9, -x, -y]]
def Defd (x y : Int) (l : List Ent) : Prop := ∀ e ∈ l, (∀ z ∈ e.2, -6 ≤ z ∧ z ≤ 6) ∨ e.2 ∈ defs x y

theorem Defd.snoc {x y : Int} {e : Ent} (h : Defd x y l) (he : e.2 ∈ defs x y) : Defd x y (l ++ [e]) := fun z hz => by
  rcases List.mem_append.1 hz with hz | hz
  · exact h z hz
  · simp at hz; subst hz; exact .inr he

theorem texts_split {l : List Int} {n : Int} (hn : n = 0 ∨ n > maxID ∨ n < -maxID) (i : Nat) : splitP (l.take i ++ n :: l.drop i) = ([], [], 91) := by
  unfold splitP
  rw [split_bad ⟨n, by simp, hn⟩]
theorem texts_join {out : List Int} {gs : List Grp} {n : Int} (hn : n = 0 ∨ n > maxID ∨ n < -maxID) : joinP (out ++ [n]) gs = ([], 91) ∧ joinP out (gs ++ [(n, [])]) = ([], 91) := by
  have hb : goodID n = false := by
    cases h : goodID n
    · rfl
    · have := goodID_iff.1 h; unfold maxID at *; omega
  refine ⟨join_bad ?_, join_bad ?_⟩
  · simp [joinOk, hb]
  · simp [joinOk, hb]
theorem texts_back {l : List Int} (h : ∀ n ∈ l, n ≠ 0 ∧ n ≤ maxID ∧ -maxID ≤ n) : splitP (joinP (splitP l).1 (splitP l).2.1).1 = splitP l := by
  rw [(split_join h).2]

end Go.Rt
