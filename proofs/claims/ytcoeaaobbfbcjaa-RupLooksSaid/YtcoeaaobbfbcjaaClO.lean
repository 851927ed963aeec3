/-
  The order of clauses; made clauses and models: the plain laws.
-/
import Derived.Test.YtcoeaaobbfbcjaaClT
set_option linter.unusedVariables false
namespace Go.Cl
open Go.Sx

theorem cmpI_vals (a b : Int) : cmpI a b = -1 ∨ cmpI a b = 0 ∨ cmpI a b = 1 := by unfold cmpI; split <;> (try split) <;> simp
theorem cmpI_anti (a b : Int) : cmpI a b = -cmpI b a := by unfold cmpI; split <;> (try split) <;> (try split) <;> omega
theorem cmpI_trans {a b c : Int} (h : cmpI a b ≤ 0) (k : cmpI b c ≤ 0) : cmpI a c ≤ 0 := by unfold cmpI at *; repeat' split at h <;> repeat' split at k <;> (try split) <;> (try split) <;> omega
theorem cmpLit_vals (a b : Int) : cmpLit a b = -1 ∨ cmpLit a b = 0 ∨ cmpLit a b = 1 := by
  unfold cmpLit; split <;> split <;> first | exact cmpI_vals _ _ | simp
theorem cmpLit_anti (a b : Int) : cmpLit a b = -cmpLit b a := by
  unfold cmpLit
  cases rt a <;> cases rt b <;> simp only [if_true, if_false, Bool.false_eq_true] <;> first | exact cmpI_anti _ _ | rfl

theorem cmpL_vals : ∀ xs ys : List Int, cmpL cmpLit xs ys = -1 ∨ cmpL cmpLit xs ys = 0 ∨ cmpL cmpLit xs ys = 1
  | [], [] => by simp [cmpL]
  | [], y :: ys => by simp [cmpL]
  | x :: xs, [] => by simp [cmpL]
  | x :: xs, y :: ys => by
    simp only [cmpL]
    split
    · exact cmpLit_vals x y
    · exact cmpL_vals xs ys
theorem cmpL_anti : ∀ xs ys : List Int, cmpL cmpLit xs ys = -cmpL cmpLit ys xs
  | [], [] => by simp [cmpL]
  | [], y :: ys => by simp [cmpL]
  | x :: xs, [] => by simp [cmpL]
  | x :: xs, y :: ys => by
    have e := cmpLit_anti x y
    simp only [cmpL]
    by_cases h : cmpLit x y = 0
    · have h2 : cmpLit y x = 0 := by omega
      rw [if_neg (by simp [h]), if_neg (by simp [h2])]; exact cmpL_anti xs ys
    · have h2 : ¬ cmpLit y x = 0 := by omega
      rw [if_pos h, if_pos h2]; exact e
theorem cmpL_trans : ∀ {xs ys zs : List Int}, cmpL cmpLit xs ys ≤ 0 → cmpL cmpLit ys zs ≤ 0 → cmpL cmpLit xs zs ≤ 0
  | [], _, [], _, _ => by simp [cmpL]
  | [], _, z :: zs, _, _ => by simp [cmpL]
  | x :: xs, [], _, h, _ => by simp [cmpL] at h
  | x :: xs, y :: ys, [], _, k => by simp [cmpL] at k
  | x :: xs, y :: ys, z :: zs, h, k => by
    simp only [cmpL] at h k ⊢
    by_cases h1 : cmpLit x y = 0
    · rw [if_neg (by simp [h1])] at h
      have exy := cmpLit_zero.1 h1
      subst exy
      by_cases h2 : cmpLit x z = 0
      · rw [if_neg (by simp [h2])] at k ⊢; exact cmpL_trans h k
      · rw [if_pos h2] at k ⊢; exact k
    · rw [if_pos h1] at h
      have hxy : ltL x y = true := by simp only [ltL, decide_eq_true_eq]; omega
      have hxz : ltL x z = true := by
        by_cases h2 : cmpLit y z = 0
        · rw [← cmpLit_zero.1 h2]; exact hxy
        · rw [if_pos h2] at k
          exact ltL_trans hxy (by simp only [ltL, decide_eq_true_eq]; omega)
      simp only [ltL, decide_eq_true_eq] at hxz
      rw [if_pos (by omega)]; omega

section
variable {a b c : List Int}

theorem compare_eq (ha : rightC a = true) (hb : rightC b = true) : compareP a b = if cmpI (nrm a).length (nrm b).length ≠ 0 then cmpI (nrm a).length (nrm b).length else cmpL cmpLit (nrm a) (nrm b) := by
  unfold compareP; rw [ha, hb]; rfl
theorem compare_vals (ha : rightC a = true) (hb : rightC b = true) : compareP a b = -1 ∨ compareP a b = 0 ∨ compareP a b = 1 := by
  rw [compare_eq ha hb]; split
  · exact cmpI_vals _ _
  · exact cmpL_vals _ _
theorem compare_anti (ha : rightC a = true) (hb : rightC b = true) : compareP a b = -compareP b a := by
  rw [compare_eq ha hb, compare_eq hb ha]
  have e := cmpI_anti (nrm a).length (nrm b).length
  by_cases h : cmpI (nrm a).length (nrm b).length = 0
  · rw [if_neg (by simp [h]), if_neg (by simp; omega)]; exact cmpL_anti _ _
  · rw [if_pos h, if_pos (by omega)]; exact e
theorem compare_trans (ha : rightC a = true) (hb : rightC b = true) (hc : rightC c = true) (h : compareP a b ≤ 0) (k : compareP b c ≤ 0) : compareP a c ≤ 0 := by
  rw [compare_eq ha hb] at h
  rw [compare_eq hb hc] at k
  rw [compare_eq ha hc]
  have z1 := @cmpI_zero (nrm a).length (nrm b).length
  have z2 := @cmpI_zero (nrm b).length (nrm c).length
  have z3 := @cmpI_zero (nrm a).length (nrm c).length
  have n1 := @cmpI_neg (nrm a).length (nrm b).length
  have n2 := @cmpI_neg (nrm b).length (nrm c).length
  have n3 := @cmpI_neg (nrm a).length (nrm c).length
  by_cases h1 : cmpI (nrm a).length (nrm b).length = 0
  · rw [if_neg (by simp [h1])] at h
    by_cases h2 : cmpI (nrm b).length (nrm c).length = 0
    · rw [if_neg (by simp [h2])] at k
      rw [if_neg (by simp; omega)]; exact cmpL_trans h k
    · rw [if_pos h2] at k
      rw [if_pos (by omega)]; omega
  · rw [if_pos h1] at h
    by_cases h2 : cmpI (nrm b).length (nrm c).length = 0
    · rw [if_pos (by omega)]; omega
    · rw [if_pos h2] at k
      rw [if_pos (by omega)]; omega
theorem compare_len (ha : rightC a = true) (hb : rightC b = true) (h : (nrm a).length < (nrm b).length) : compareP a b = -1 := by
  rw [compare_eq ha hb]
  have : cmpI (nrm a).length (nrm b).length = -1 := by unfold cmpI; rw [if_pos (by omega)]
  rw [this, if_pos (by decide)]
theorem nrm_nrm (ha : rightC a = true) : nrm (nrm a) = nrm a :=
  (nrm_eq (rightC_rt (right_nrm ha)) (strict_nrm ha) fun x => Iff.rfl).symm
theorem compare_nrm (ha : rightC a = true) (hb : rightC b = true) : compareP (nrm a) (nrm b) = compareP a b := by
  rw [compare_eq ha hb, compare_eq (right_nrm ha) (right_nrm hb), nrm_nrm ha, nrm_nrm hb]

/-- The same literals, the same normal form. -/
theorem nrm_congr (ha : ∀ x ∈ a, rt x = true) (hb : ∀ x ∈ b, rt x = true) (hm : ∀ x, x ∈ a ↔ x ∈ b) : nrm a = nrm b :=
  nrm_eq hb (nrm_spec ha).1 fun x => ((nrm_spec ha).2 x).trans (hm x)
theorem nrm_inj (ha : ∀ x ∈ a, rt x = true) (hb : ∀ x ∈ b, rt x = true) (e : nrm a = nrm b) (x : Int) : x ∈ a ↔ x ∈ b := by
  rw [← (nrm_spec ha).2 x, e, (nrm_spec hb).2 x]

theorem has_iff (ha : rightC a = true) {x : Int} : hasC a x = true ↔ x ∈ a := by unfold hasC; rw [ha]; simp
theorem has_eq (ha : rightC a = true) (x : Int) : hasC a x = a.contains x := by unfold hasC; rw [ha]; rfl
theorem within_iff (ha : rightC a = true) (hb : rightC b = true) : withinP a b = true ↔ ∀ x ∈ a, x ∈ b := by unfold withinP; rw [ha, hb]; simp
theorem same_iff (ha : rightC a = true) (hb : rightC b = true) : sameP a b = true ↔ ∀ x, x ∈ a ↔ x ∈ b := by
  unfold sameP; rw [ha, hb]
  simp only [Bool.and_self, Bool.true_and, decide_eq_true_eq]
  exact ⟨nrm_inj (rightC_rt ha) (rightC_rt hb), nrm_congr (rightC_rt ha) (rightC_rt hb)⟩
theorem holds_iff (ha : rightC a = true) : holdsP a b = true ↔ ∃ x ∈ a, x ∈ b := by unfold holdsP; rw [ha]; simp
theorem always_iff : alwaysC a = true ↔ ∃ x ∈ a, -x ∈ a := by unfold alwaysC; simp

/-- Two clauses whose literals together are not too many. -/
theorem union_eq (ha : rightC a = true) (hb : rightC b = true) (hl : a.length + b.length ≤ 4096) : unionP a b = (nrm (a ++ b), 0) := by
  have := nrm_length (a ++ b)
  rw [List.length_append] at this
  unfold unionP; rw [ha, hb]; simp only [Bool.and_self, if_true]; rw [if_neg (by omega)]
theorem right_app (ha : rightC a = true) (hb : rightC b = true) (hl : a.length + b.length ≤ 4096) : rightC (a ++ b) = true := by
  simp only [rightC, Bool.and_eq_true, List.all_eq_true, decide_eq_true_eq]
  exact ⟨by simpa using hl, fun x hx => (List.mem_append.1 hx).elim (rightC_rt ha x) (rightC_rt hb x)⟩
theorem without_eq (ha : rightC a = true) {l : Int} (hl : rt l = true) : withoutP a l = ((nrm a).filter (fun x => !(x == l)), 0) := by
  unfold withoutP; rw [ha, hl]; rfl
theorem mem_without (ha : rightC a = true) {l x : Int} (hl : rt l = true) : x ∈ (withoutP a l).1 ↔ x ∈ a ∧ x ≠ l := by
  rw [without_eq ha hl]
  simp only [List.mem_filter, Bool.not_eq_true', beq_eq_false_iff_ne, ne_eq, mem_nrm ha]
end

end Go.Cl
