/-
  What a formula that is made is.
-/
import Derived.Test.YtmlamkoilggonaaGreatFoM
import Derived.Test.YtmlamkoilggonaaGreatSxRw
import Derived.Test.YtmlamkoilggonaaGreatSxWn
set_option linter.unusedVariables false
set_option linter.unusedSimpArgs false
namespace Go.Proofs.S
open Go Go.Sx Go.Proofs Go.Cl

variable {h : Heap} {c d : List Int} {s s2 : Sl} {fr : Fr} {G As : List Asn} {m : List Bool} {sm : Sl} {k k2 : List Bool}

theorem litOf_rt (n : Int) : rt (litOf n) = true ∧ varL (litOf n) ≤ 8 := by
  have h1 : rt (litOf n) = true := by rw [rt_iff]; unfold litOf; split <;> omega
  refine ⟨h1, ?_⟩
  unfold varL
  rw [if_pos h1]
  unfold litOf
  split <;> split <;> omega
theorem madeP_good (l : List Int) : rightC (madeP l) = true ∧ ∀ x ∈ madeP l, beyP 8 x = false := by
  have hx : ∀ x ∈ madeP l, rt x = true ∧ varL x ≤ 8 := fun x hx => by
    obtain ⟨n, _, rfl⟩ := List.mem_map.1 hx
    exact litOf_rt n
  constructor
  · unfold rightC
    rw [decide_eq_true (show (madeP l).length ≤ 4096 by unfold madeP; simp; omega), Bool.true_and, List.all_eq_true]
    exact fun x q => (hx x q).1
  · intro x q
    obtain ⟨a, b⟩ := hx x q
    unfold beyP
    rw [a, decide_eq_false (by omega)]; rfl
theorem madeF_good (cs : List (List Int)) : ∀ c ∈ madeF cs, rightC c = true ∧ ∀ x ∈ c, beyP 8 x = false := fun c hc => by
  obtain ⟨l, _, rfl⟩ := List.mem_map.1 hc
  exact madeP_good l
theorem good8 (cs : List (List Int)) : GoodF 8 (madeF cs) := ⟨by rfl, by have := madeF_len cs; omega, madeF_good cs⟩
theorem bey_big {x : Int} (h : 9 ≤ x ∨ x ≤ -9) : beyP 8 x = true := by
  unfold beyP varL
  cases hr : rt x with
  | false => rfl
  | true =>
    rw [if_pos rfl, Bool.not_true, Bool.false_or]
    refine decide_eq_true ?_
    split <;> omega


theorem failsGo_neg : ∀ {cs : List (List Int)} {i : Nat}, failsGo m i cs < 0 ↔ ∀ c ∈ cs, c.any (trueIn m) = true
  | [], i => by simp [failsGo]
  | c :: cs, i => by
    unfold failsGo
    by_cases hc : c.any (trueIn m) = true
    · rw [if_pos hc, failsGo_neg]
      constructor
      · intro q d hd
        rcases List.mem_cons.1 hd with rfl | hd
        · exact hc
        · exact q d hd
      · exact fun q d hd => q d (List.mem_cons_of_mem _ hd)
    · rw [if_neg hc]
      constructor
      · intro q; omega
      · intro q; exact absurd (q c (by simp)) hc
theorem holdsF_good {n : Nat} (hr : rightC c = true) (hb : ∀ x ∈ c, beyP n x = false) (hm : m.length = n) : holdsF c m = c.any (trueIn m) := by
  unfold holdsF
  have : c.any (beyP m.length) = false := by rw [List.any_eq_false]; intro x hx; rw [hm, hb x hx]; decide
  rw [hr, this]; rfl
theorem mem_models {v : Nat} {cs : List (List Int)} : m ∈ modelsF v cs ↔ m.length = v ∧ ∀ c ∈ cs, c.any (trueIn m) = true := by
  unfold modelsF
  rw [List.mem_filter, Cr.mem_allB, decide_eq_true_eq, failsGo_neg]
theorem models_snoc (v : Nat) (cs : List (List Int)) (mo : List Int) : modelsF v (cs ++ [mo]) = (modelsF v cs).filter fun m => mo.any (trueIn m) := by
  unfold modelsF
  rw [List.filter_filter]
  congr 1
  funext m
  rw [Bool.eq_iff_iff, Bool.and_eq_true, decide_eq_true_eq, decide_eq_true_eq, failsGo_neg, failsGo_neg]
  constructor
  · exact fun q => ⟨q mo (by simp), fun c hc => q c (by simp [hc])⟩
  · rintro ⟨q1, q2⟩ c hc
    rcases List.mem_append.1 hc with hc | hc
    · exact q2 c hc
    · rw [List.mem_singleton.1 hc]; exact q1
theorem varL_neg {x : Int} (h : rt x = true) : varL (-x) = varL x := by
  have h0 := rt_iff.1 h
  unfold varL
  rw [if_pos h, if_pos (rt_neg h)]
  split <;> split <;> omega
theorem trueIn_neg {x : Int} (h : rt x = true) : trueIn m (-x) = !trueIn m x := by
  have h0 := rt_iff.1 h
  unfold trueIn
  rw [varL_neg h]
  have : decide (-x < 0) = !decide (x < 0) := by
    by_cases q : x < 0
    · rw [decide_eq_true q, decide_eq_false (by omega)]; rfl
    · rw [decide_eq_false q, decide_eq_true (by omega)]; rfl
  rw [this]
  cases (m[(varL x - 1).toNat]?.getD false) <;> cases decide (x < 0) <;> rfl

end Go.Proofs.S
