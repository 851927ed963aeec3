/-
  The package lits, and the library's functions that clauses use: contracts.
-/
import Derived.Test.YtogghgcgehhcaaaClF
import Derived.Test.YtogghgcgehhcaaaClP
import Derived.Test.YtogghgcgehhcaaaSxSort
import Derived.Test.YtogghgcgehhcaaaSxW2
set_option linter.unusedVariables false
namespace Go.Proofs.S
open Go Go.Sx Go.Proofs Go.Cl

variable {h : Heap}

theorem callT_gen {P : Program} {f : FuncId} {args : Array Value} {τ : Ty} {R : τ.T → HP} {h : Heap} (hc : ∀ K : τ.T → HP, (∀ x h', R x h' → K x h') → callT P f args τ K h) : callT P f args τ R h := hc R fun _ _ r => r

theorem lits_Right_c (x : Int) : callT Try.prog fn_lits_Right #[.int .i64 x] .bool (fun r h' => r = rt x ∧ h' = h) h := by
  refine S_lits_Right (a0 := x) _ ?_
  unfold F_lits_Right
  by_cases h1 : x = 0
  · have e : (x != 0) = false := by simp [h1]
    rw [e, brB_false]; exact ⟨by simp [rt, h1], rfl⟩
  · have e : (x != 0) = true := by simp [h1]
    rw [e, brB_true]
    by_cases h2 : x ≥ -1048576
    · rw [decide_eq_true h2, brB_true]; exact ⟨by simp [rt, h1]; try omega, by trivial⟩
    · rw [decide_eq_false h2, brB_false]; exact ⟨by simp [rt, h2]; try omega, by trivial⟩

theorem clauses_wrong_c (x : Int) : callT Try.prog fn_clauses_wrong #[.int .i64 x] .bool (fun r h' => r = !rt x ∧ h' = h) h := by
  refine S_clauses_wrong (a0 := x) _ ?_
  unfold F_clauses_wrong
  refine call_of (lits_Right_c x) ?_
  rintro r h' ⟨rfl, rfl⟩
  exact ⟨rfl, rfl⟩

theorem wneg {x : Int} (h : rt x = true) : IntKind.wrap .i64 (0 - x) = -x := by
  have := rt_iff.1 h
  rw [wrap_i64 (by omega) (by omega)]; omega

theorem lits_Neg_c (x : Int) : callT Try.prog fn_lits_Neg #[.int .i64 x] (.int .i64) (fun r h' => r = negL x ∧ h' = h) h := by
  refine S_lits_Neg (a0 := x) _ ?_
  unfold F_lits_Neg
  refine call_of (lits_Right_c x) ?_
  rintro r h' ⟨rfl, rfl⟩
  cases hx : rt x with
  | true => simp only [Bool.not_true, brB_false]; exact ⟨by rw [wneg hx]; simp [negL, hx], by trivial⟩
  | false => simp only [Bool.not_false, brB_true]; exact ⟨by simp [negL, hx], by trivial⟩

theorem lits_Var_c (x : Int) : callT Try.prog fn_lits_Var #[.int .i64 x] (.int .i64) (fun r h' => r = (if rt x then (if x < 0 then -x else x) else 0) ∧ h' = h) h := by
  refine S_lits_Var (a0 := x) _ ?_
  unfold F_lits_Var
  refine call_of (lits_Right_c x) ?_
  rintro r h' ⟨rfl, rfl⟩
  cases hx : rt x with
  | true =>
    simp only [Bool.not_true, brB_false, wneg hx]
    refine ⟨?_, by trivial⟩
    show (if -x > x then -x else x) = _
    simp only [if_true]
    split <;> split <;> omega
  | false => simp only [Bool.not_false, brB_true]; exact ⟨by simp, by trivial⟩

theorem lits_Index_c (x : Int) : callT Try.prog fn_lits_Index #[.int .i64 x] (.tup (.cons (.int .i64) (.cons (.int .i64) .nil))) (fun r h' => r = (if rt x then (ix x, 0, ()) else (0, 10, ())) ∧ h' = h) h := by
  refine S_lits_Index (a0 := x) _ ?_
  unfold F_lits_Index
  refine call_of (lits_Right_c x) ?_
  rintro r h' ⟨rfl, rfl⟩
  cases hx : rt x with
  | true =>
    simp only [Bool.not_true, brB_false]
    refine call_of (lits_Var_c x) ?_
    rintro r h' ⟨rfl, rfl⟩
    have := rt_iff.1 hx
    simp only [hx, if_true]
    refine jn_in fun J hJ => ?_
    by_cases hneg : x < 0
    · simp only [hneg, if_true, decide_true, brB_true]
      refine hJ _ _ ⟨?_, rfl⟩
      rw [wrap_i64 (x := -x - 1) (by omega) (by omega), wrap_i64 (x := 2 * (-x - 1)) (by omega) (by omega), wrap_i64 (by omega) (by omega)]
      simp [ix, hneg]
    · simp only [hneg, if_false, decide_false, brB_false]
      refine hJ _ _ ⟨?_, rfl⟩
      rw [wrap_i64 (x := x - 1) (by omega) (by omega), wrap_i64 (by omega) (by omega)]
      simp [ix, hneg]
  | false => simp only [Bool.not_false, brB_true]; exact ⟨by simp, by trivial⟩

theorem cmp_int_c (a b : Int) : callT Try.prog fn_cmp_Compare_int #[.int .i64 a, .int .i64 b] (.int .i64) (fun r h' => r = cmpI a b ∧ h' = h) h := by
  refine S_cmp_Compare_int (a0 := a) (a1 := b) _ ?_
  unfold F_cmp_Compare_int
  have nan : ∀ (x : Int) (h : Heap), callT Try.prog fn_cmp_isNaN_int #[.int .i64 x] .bool (fun r h' => r = false ∧ h' = h) h := fun x h => by
    refine S_cmp_isNaN_int (a0 := x) _ ?_
    unfold F_cmp_isNaN_int
    exact ⟨by simp, by trivial⟩
  refine call_of (nan a h) ?_
  rintro r h' ⟨rfl, rfl⟩
  refine call_of (nan b _) ?_
  rintro r h' ⟨rfl, rfl⟩
  simp only [brB_false]
  by_cases h1 : a < b
  · simp only [h1, decide_true, brB_true]; exact ⟨by simp [cmpI, h1], trivial⟩
  · simp only [h1, decide_false, brB_false]
    by_cases h2 : a > b
    · simp only [h2, decide_true, brB_true]; exact ⟨by simp [cmpI, h1, h2], trivial⟩
    · simp only [h2, decide_false, brB_false]; exact ⟨by simp [cmpI, h1, h2], trivial⟩

theorem cmp_lit_c (a b : Int) : callT Try.prog fn_cmp_Compare_lits_Lit #[.int .i64 a, .int .i64 b] (.int .i64) (fun r h' => r = cmpI a b ∧ h' = h) h := by
  refine S_cmp_Compare_lits_Lit (a0 := a) (a1 := b) _ ?_
  unfold F_cmp_Compare_lits_Lit
  have nan : ∀ (x : Int) (h : Heap), callT Try.prog fn_cmp_isNaN_lits_Lit #[.int .i64 x] .bool (fun r h' => r = false ∧ h' = h) h := fun x h => by
    refine S_cmp_isNaN_lits_Lit (a0 := x) _ ?_
    unfold F_cmp_isNaN_lits_Lit
    exact ⟨by simp, by trivial⟩
  refine call_of (nan a h) ?_
  rintro r h' ⟨rfl, rfl⟩
  refine call_of (nan b _) ?_
  rintro r h' ⟨rfl, rfl⟩
  simp only [brB_false]
  by_cases h1 : a < b
  · simp only [h1, decide_true, brB_true]; exact ⟨by simp [cmpI, h1], trivial⟩
  · simp only [h1, decide_false, brB_false]
    by_cases h2 : a > b
    · simp only [h2, decide_true, brB_true]; exact ⟨by simp [cmpI, h1, h2], trivial⟩
    · simp only [h2, decide_false, brB_false]; exact ⟨by simp [cmpI, h1, h2], trivial⟩

theorem lits_Compare_c (a b : Int) : callT Try.prog fn_lits_Compare #[.int .i64 a, .int .i64 b] (.int .i64) (fun r h' => r = cmpLit a b ∧ h' = h) h := by
  refine S_lits_Compare (a0 := a) (a1 := b) _ ?_
  unfold F_lits_Compare
  refine call_of (lits_Index_c a) ?_
  rintro r h' ⟨rfl, rfl⟩
  refine call_of (lits_Index_c b) ?_
  rintro r h' ⟨rfl, rfl⟩
  have e0 : ((0 : Int) == 0) = true := rfl
  have e10 : ((10 : Int) == 0) = false := rfl
  cases ha : rt a <;> cases hb : rt b <;> simp only [Bool.false_eq_true, if_true, if_false, e0, e10, brB_true, brB_false]
  · refine call_of (cmp_lit_c a b) ?_
    rintro r h' ⟨rfl, rfl⟩
    exact ⟨by simp [cmpLit, ha, hb], by trivial⟩
  · exact ⟨by simp [cmpLit, ha, hb], by trivial⟩
  · exact ⟨by simp [cmpLit, ha, hb], by trivial⟩
  · refine call_of (cmp_int_c _ _) ?_
    rintro r h' ⟨rfl, rfl⟩
    exact ⟨by simp [cmpLit, ha, hb], by trivial⟩

theorem compareF (a b : Int) : callF Try.prog (.func (.func fn_lits_Compare) #[] #[]) #[.int .i64 a, .int .i64 b] (.int .i64) (fun r h' => r = cmpLit a b ∧ h' = h) h := callF_func (lits_Compare_c a b)
theorem wrongF (a : Int) : callF Try.prog (.func (.func fn_clauses_wrong) #[] #[]) #[.int .i64 a] .bool (fun r h' => r = !rt a ∧ h' = h) h := callF_func (clauses_wrong_c a)

end Go.Proofs.S
