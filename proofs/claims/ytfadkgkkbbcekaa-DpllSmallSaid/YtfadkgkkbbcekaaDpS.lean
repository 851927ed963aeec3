/-
  The search of dpll in plain form: fuel, what follows in any order, the formula with more clauses. No program here.
-/
import Derived.Test.YtfadkgkkbbcekaaDpQ
set_option linter.unusedVariables false
set_option linter.unusedSimpArgs false
namespace Go.Dp
open Go Go.Cl Go.Fo

variable {v : Nat} {L L' M o c : List Int} {cs us : List (List Int)} {x y : Int} {m : List Bool} {T U : List Ev} {f : Nat}

theorem run_le : ∀ (T : List Ev) (f : Nat), (runT f T).2 ≤ f + 1 ∧ (runT f T).2 ≤ ng T
  | [], f => by simp [runT, ng]
  | .model m :: T, f => by simp [runT, ng]
  | .guess :: T, 0 => by simp [runT, ng]
  | .guess :: T, f + 1 => by
    have := run_le T f
    simp only [runT, ng]; omega
theorem run_nomod : ∀ (T : List Ev) (f : Nat) (U : List Ev), mods T = [] → ng T ≤ f → runT f (T ++ U) = ((runT (f - ng T) U).1, ng T + (runT (f - ng T) U).2)
  | [], f, U, _, _ => by simp [ng]
  | .model m :: T, f, U, h, _ => by simp [mods] at h
  | .guess :: T, 0, U, _, h => by simp [ng] at h
  | .guess :: T, f + 1, U, h, h2 => by
    simp only [ng] at h2
    have ih := run_nomod T f U h (by omega)
    show ((runT f (T ++ U)).1, (runT f (T ++ U)).2 + 1) = _
    rw [ih]
    have e : f + 1 - ng (.guess :: T) = f - ng T := by simp [ng]
    rw [e]
    simp only [ng, Prod.mk.injEq, true_and]
    omega

theorem run_step (cs : List (List Int)) (k f : Nat) (L : List Int) : runT f (trace v cs (k + 1) L) =
    if (followP v cs L).2 ≥ 0 then (none, 0) else
    if freeV v (L ++ (followP v cs L).1) > v then (some (modelOf v (L ++ (followP v cs L).1)), 0) else
    if f < 1 then (none, 1) else
    let r := runT (f - 1) (trace v cs k (L ++ (followP v cs L).1 ++ [-((freeV v (L ++ (followP v cs L).1) : Nat) : Int)]))
    if r.1.isSome ∨ r.2 + 1 > f then (r.1, r.2 + 1) else
    if r.2 + 2 > f then (none, r.2 + 2) else
    let s := runT (f - r.2 - 2) (trace v cs k (L ++ (followP v cs L).1 ++ [((freeV v (L ++ (followP v cs L).1) : Nat) : Int)]))
    (s.1, r.2 + 2 + s.2) := by
  conv => lhs; unfold trace
  simp only
  by_cases h1 : (followP v cs L).2 ≥ 0
  · rw [if_pos h1, if_pos h1]; cases f <;> rfl
  rw [if_neg h1, if_neg h1]
  by_cases h2 : freeV v (L ++ (followP v cs L).1) > v
  · rw [if_pos h2, if_pos h2]; cases f <;> rfl
  rw [if_neg h2, if_neg h2]
  generalize trace v cs k (L ++ (followP v cs L).1 ++ [-((freeV v (L ++ (followP v cs L).1) : Nat) : Int)]) = T
  generalize trace v cs k (L ++ (followP v cs L).1 ++ [((freeV v (L ++ (followP v cs L).1) : Nat) : Int)]) = U
  cases f with
  | zero => rfl
  | succ f =>
    rw [if_neg (by omega)]
    have ha := runT_append T f (.guess :: U)
    show ((runT f (T ++ .guess :: U)).1, (runT f (T ++ .guess :: U)).2 + 1) = _
    rw [ha]
    simp only [Nat.add_sub_cancel]
    by_cases h3 : (runT f T).1.isSome = true ∨ (runT f T).2 > f
    · rw [if_pos h3, if_pos (h3.imp id (by omega))]
    · rw [if_neg h3, if_neg (fun q => h3 (q.imp id (by omega)))]
      have hn : (runT f T).1 = none := by
        cases h4 : (runT f T).1 with
        | none => rfl
        | some m => exact absurd (.inl (by rw [h4]; rfl)) h3
      have hle : (runT f T).2 ≤ f := by
        by_cases h4 : (runT f T).2 ≤ f
        · exact h4
        · exact absurd (.inr (by omega)) h3
      by_cases h4 : (runT f T).2 + 2 > f + 1
      · rw [if_pos h4]
        have e : f - (runT f T).2 = 0 := by omega
        rw [e]
        rfl
      · rw [if_neg h4]
        obtain ⟨n, e⟩ : ∃ n, f - (runT f T).2 = n + 1 := ⟨f - (runT f T).2 - 1, by omega⟩
        have e2 : f + 1 - (runT f T).2 - 2 = n := by omega
        rw [e, e2]
        simp only [runT, Prod.mk.injEq, true_and]
        omega

end Go.Dp
