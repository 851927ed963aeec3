/-
  DpllUnderIs: what it needs of literals that clash.
-/
import Derived.Test.YtfadkgkkbbcekaaDpM
import Derived.Test.YtfadkgkkbbcekaaDpS
import Derived.Test.YtfadkgkkbbcekaaFoO
set_option linter.unusedVariables false
set_option linter.unusedSimpArgs false
namespace Go.Proofs.S
open Go Go.Sx Go.Proofs Go.Cl Go.Dp

variable {h : Heap} {l cs : List (List Int)} {s : Sl} {c : List Int}

end Go.Proofs.S

set_option linter.unusedVariables false
set_option linter.unusedSimpArgs false
namespace Go.Proofs.S
open Go Go.Sx Go.Proofs Go.Cl Go.Dp

variable {h : Heap} {l cs : List (List Int)} {s s2 : Sl} {c : List Int}

end Go.Proofs.S

set_option linter.unusedVariables false
set_option linter.unusedSimpArgs false
namespace Go.Dp
open Go Go.Cl Go.Fo

variable {v : Nat} {L L' M o c out : List Int} {cs us : List (List Int)} {x y : Int} {m : List Bool}

theorem follow_new (hi : InV v cs) (L : List Int) : Nw v L (followP v cs L).1 := (follow_spec hi (v + 1) L).1
theorem Nw.len : ∀ {o L : List Int}, Nw v L o → o.length ≤ v := fun {o L} h => by
  have := freeN_app h
  have := freeN_le (v := v) (L := L)
  omega

def openGo (L : List Int) : List Int → List Int → List Int × Bool
  | out, [] => (out, false)
  | out, y :: c => if y ∈ L then ([], true) else openGo L (if -y ∉ L ∧ y ∉ out then out ++ [y] else out) c
abbrev openP (L c : List Int) : List Int × Bool := openGo L [] c
def lastOf (r : List Int × Bool) : Int × Nat := if r.2 then (0, 2) else match r.1 with
  | [] => (0, 0)
  | [x] => (x, 1)
  | _ => (0, 2)
theorem open_two : ∀ (c : List Int) (x y : Int) (o : List Int), lastOf (openGo L (x :: y :: o) c) = (0, 2)
  | [], x, y, o => rfl
  | z :: c, x, y, o => by
    unfold openGo
    split
    · rfl
    · split
      · exact open_two c x y (o ++ [z])
      · exact open_two c x y o
theorem open_one : ∀ (c : List Int) (x : Int), lastGo L x 1 c = lastOf (openGo L [x] c)
  | [], x => rfl
  | z :: c, x => by
    unfold lastGo openGo
    by_cases h1 : z ∈ L
    · rw [if_pos (tv_pos.2 h1), if_pos h1]; rfl
    · rw [if_neg (fun q => h1 (tv_pos.1 q)), if_neg h1]
      by_cases h2 : tv L z = 0 ∧ z ≠ x
      · rw [if_pos h2, if_pos rfl, if_pos ⟨(tv_zero.1 h2.1).2, by simpa using h2.2⟩]
        exact (open_two c x z []).symm
      · rw [if_neg h2, if_neg (fun q => h2 ⟨tv_zero.2 ⟨h1, q.1⟩, by simpa using q.2⟩)]
        exact open_one c x
theorem last_open : ∀ (c : List Int), (∀ y ∈ c, y ≠ 0) → lastP L c = lastOf (openP L c)
  | [], _ => rfl
  | z :: c, h0 => by
    show lastGo L 0 0 (z :: c) = lastOf (openGo L [] (z :: c))
    unfold lastGo openGo
    by_cases h1 : z ∈ L
    · rw [if_pos (tv_pos.2 h1), if_pos h1]; rfl
    · rw [if_neg (fun q => h1 (tv_pos.1 q)), if_neg h1]
      by_cases h2 : tv L z = 0
      · rw [if_pos ⟨h2, h0 z (by simp)⟩, if_neg (by decide), if_pos ⟨(tv_zero.1 h2).2, by simp⟩]
        exact open_one c z
      · rw [if_neg (fun q => h2 q.1), if_neg (fun q => h2 (tv_zero.2 ⟨h1, q.1⟩))]
        exact last_open c fun y hy => h0 y (by simp [hy])
end Go.Dp

set_option linter.unusedVariables false
set_option linter.unusedSimpArgs false
namespace Go.Proofs.S
open Go Go.Sx Go.Proofs Go.Cl Go.Dp

variable {h : Heap} {l cs : List (List Int)} {s s2 : Sl} {c : List Int}

theorem mem_under {v : Nat} {L : List Int} {m : List Bool} : m ∈ under v cs L ↔ m.length = v ∧ L.all (Fo.tru m) = true ∧ Fo.hold cs m = true := by
  unfold under
  rw [List.mem_filter, Cr.mem_allB, Bool.and_eq_true]
end Go.Proofs.S
