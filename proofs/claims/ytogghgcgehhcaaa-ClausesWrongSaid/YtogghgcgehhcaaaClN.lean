/-
  Normal forms that can be worked out; what the laws over pairs ask, in plain Lean.
-/
import Derived.Test.YtogghgcgehhcaaaClQ
set_option linter.unusedVariables false
namespace Go.Cl
open Go.Sx

def insL (x : Int) : List Int → List Int
  | [] => [x]
  | y :: ys => if x = y then y :: ys else if ltL x y then x :: y :: ys else y :: insL x ys
def nrmF (c : List Int) : List Int := c.foldr insL []

theorem mem_insL {x z : Int} : ∀ {ys : List Int}, z ∈ insL x ys ↔ z = x ∨ z ∈ ys
  | [] => by simp [insL]
  | y :: ys => by
    unfold insL
    split
    · rename_i e; subst e; simp
    · split
      · simp
      · rw [List.mem_cons, mem_insL, List.mem_cons]
        constructor
        · rintro (h | h | h)
          · exact .inr (.inl h)
          · exact .inl h
          · exact .inr (.inr h)
        · rintro (h | h | h)
          · exact .inr (.inl h)
          · exact .inl h
          · exact .inr (.inr h)

theorem insL_strict {x : Int} : ∀ {ys : List Int}, Strict ys → Strict (insL x ys)
  | [], _ => by simp [insL]
  | y :: ys, h => by
    have h' := List.pairwise_cons.1 h
    unfold insL
    split
    · exact h
    · split
      · rename_i hlt
        exact List.pairwise_cons.2 ⟨fun z hz => by
          rcases List.mem_cons.1 hz with rfl | hz
          · exact hlt
          · exact ltL_trans hlt (h'.1 z hz), h⟩
      · rename_i hne hlt
        have hyx : ltL y x = true := by
          cases hh : ltL y x with
          | true => rfl
          | false => exact absurd (ltL_total (by simpa using hlt) hh) hne
        refine List.pairwise_cons.2 ⟨fun z hz => ?_, insL_strict h'.2⟩
        rcases mem_insL.1 hz with rfl | hz
        · exact hyx
        · exact h'.1 z hz

theorem nrmF_spec : ∀ (c : List Int), Strict (nrmF c) ∧ ∀ x, x ∈ nrmF c ↔ x ∈ c
  | [] => ⟨List.Pairwise.nil, fun x => Iff.rfl⟩
  | y :: ys => by
    obtain ⟨h1, h2⟩ := nrmF_spec ys
    exact ⟨insL_strict h1, fun x => by rw [show nrmF (y :: ys) = insL y (nrmF ys) from rfl, mem_insL, h2, List.mem_cons]⟩

/-- The same, but it can be worked out. -/
def nrmT (c : List Int) : List Int := if c.all rt then nrmF c else nrm c
theorem nrm_T : nrm = nrmT := by
  funext c
  unfold nrmT
  split
  · rename_i h
    rw [List.all_eq_true] at h
    exact (nrm_eq h (nrmF_spec c).1 (nrmF_spec c).2).symm
  · rfl

theorem cmpL_zero : ∀ {xs ys : List Int}, cmpL cmpLit xs ys = 0 ↔ xs = ys
  | [], [] => by simp [cmpL]
  | [], y :: ys => by simp [cmpL]
  | x :: xs, [] => by simp [cmpL]
  | x :: xs, y :: ys => by
    simp only [cmpL]
    by_cases h : cmpLit x y = 0
    · rw [if_neg (by simp [h]), cmpL_zero, cmpLit_zero.1 h]; simp
    · rw [if_pos h]
      constructor
      · intro e; exact absurd e h
      · intro e; injection e with e1 e2; exact absurd (cmpLit_zero.2 e1) h

theorem same_compare {c d : List Int} (hr : rightC c = true) (hr2 : rightC d = true) : sameP c d = (compareP c d == 0) := by
  unfold sameP compareP
  rw [hr, hr2]
  simp only [Bool.and_self, Bool.true_and, if_true]
  by_cases hl : (nrm c).length = (nrm d).length
  · rw [hl, if_neg (by simp [cmpI_zero]), Bool.eq_iff_iff]
    simp [cmpL_zero]
  · have h0 : cmpI (nrm c).length (nrm d).length ≠ 0 := by rw [ne_eq, cmpI_zero]; omega
    rw [if_pos h0]
    have h1 : ¬ nrm c = nrm d := fun e => hl (by rw [e])
    rw [decide_eq_false h1]
    symm; simpa using h0

end Go.Cl
