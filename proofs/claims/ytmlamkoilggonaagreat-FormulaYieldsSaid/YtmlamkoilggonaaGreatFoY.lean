/-
  What FormulaYields leans on.
-/
import Derived.Test.YtmlamkoilggonaaGreatFoMd
set_option linter.unusedVariables false
set_option linter.unusedSimpArgs false
namespace Go.Proofs.S
open Go Go.Sx Go.Proofs Go.Cl

variable {h : Heap} {c d : List Int} {s s2 : Sl} {fr : Fr} {G As : List Asn} {m : List Bool} {sm : Sl} {k k2 : List Bool}

theorem modelsF_sorted (v : Nat) (cs : List (List Int)) : (modelsF v cs).Pairwise (fun a b => Cr.ltB a b = true) := (Cr.allB_sorted v).filter _
theorem failsGo_spec : ∀ {cs : List (List Int)} {i : Nat} {r : Int}, failsGo m i cs = r → 0 ≤ r → ∃ n : Nat, r = ((i + n : Nat) : Int) ∧ ∃ hn : n < cs.length, (∀ j (hj : j < n), cs[j].any (trueIn m) = true) ∧ cs[n].any (trueIn m) = false
  | [], i, r, e, h0 => by simp [failsGo] at e; omega
  | c :: cs, i, r, e, h0 => by
    unfold failsGo at e
    by_cases hc : c.any (trueIn m) = true
    · rw [if_pos hc] at e
      obtain ⟨n, e1, hn, a, b⟩ := failsGo_spec e h0
      refine ⟨n + 1, by rw [e1]; omega, by simpa using hn, fun j hj => ?_, by simpa using b⟩
      cases j with
      | zero => simpa using hc
      | succ j => simpa using a j (by omega)
    · rw [if_neg hc] at e
      exact ⟨0, by rw [← e]; rfl, by simp, fun j hj => by omega, by simpa using hc⟩

theorem ltB_cons (a b : Bool) (x y : List Bool) : Cr.ltB (a :: x) (b :: y) = if a = b then Cr.ltB x y else b := rfl
theorem less_c (hA : At h (lb k s)) (hB : At h (lb k2 s2)) (he : k2.length = k.length) (hl : k.length ≤ 1099511627776) :
    callT Tryz.prog fn_salvorlaw05_less #[.slice s.a s.len s.cap, .slice s2.a s2.len s2.cap] .bool (fun r h' => r = Cr.ltB k k2 ∧ h' = h) h := by
  refine callT_gen fun K hK => S_salvorlaw05_less (a0 := s) (a1 := s2) K ?_
  unfold F_salvorlaw05_less
  have l1 := rsl_len hA
  have l2 := rsl_len hB
  have em : (if (s2.len : Int) < (s.len : Int) then (s2.len : Int) else (s.len : Int)) = (k.length : Int) := by split <;> omega
  rw [em]
  refine lfp_invh (I := fun μ σ h' => ∃ i : Nat, σ = ((i : Int), false, ()) ∧ i ≤ k.length ∧ Cr.ltB (k.drop i) (k2.drop i) = Cr.ltB k k2 ∧ h' = h ∧ μ = k.length - i) ⟨_, 0, rfl, by omega, rfl, rfl, rfl⟩ ?_
  rintro μ σ h' X ⟨i, rfl, hi, hc, rfl, emm⟩ hX
  simp only
  by_cases hlt : i < k.length
  · rw [decide_eq_true (Int.ofNat_lt.2 hlt), brB_true, inc_i (show i < 4611686018427387904 by omega)]
    refine rdE (τ := .bool) hA hlt ?_
    refine rdE (τ := .bool) hB (show i < k2.length by omega) ?_
    rw [List.drop_eq_getElem_cons hlt, List.drop_eq_getElem_cons (show i < k2.length by omega), ltB_cons] at hc
    by_cases hz : k[i] = k2[i]'(by omega)
    · rw [show (!(k[i] == k2[i]'(by omega))) = false by simp [hz], brB_false]
      refine hX _ _ _ ⟨i + 1, rfl, by omega, ?_, rfl, rfl⟩ (by omega)
      rw [← hc, if_pos hz]
    · rw [show (!(k[i] == k2[i]'(by omega))) = true by simp [hz], brB_true]
      refine rdE (τ := .bool) hB (show i < k2.length by omega) ?_
      refine hK _ _ ⟨?_, rfl⟩
      rw [← hc, if_neg hz]
  · rw [decide_eq_false (fun q => hlt (Int.ofNat_lt.1 q)), brB_false]
    rw [List.drop_eq_nil_of_le (by omega), List.drop_eq_nil_of_le (by omega)] at hc
    refine hK _ _ ⟨?_, rfl⟩
    rw [← hc, decide_eq_false (by omega)]; rfl

/-- A clause holds in a model just if it has one of the model's literals. -/
theorem mem_litsGo : ∀ {m : List Bool} {i : Nat} {x : Int}, x ∈ litsGo i m ↔ ∃ j, ∃ hj : j < m.length, x = if m[j] then ((i + j : Nat) : Int) + 1 else -(((i + j : Nat) : Int) + 1) := by
  intro m i x
  rw [List.mem_iff_getElem]
  constructor
  · rintro ⟨j, hj, e⟩
    rw [litsGo_len] at hj
    exact ⟨j, hj, by rw [← e, litsGo_get' hj]⟩
  · rintro ⟨j, hj, e⟩
    exact ⟨j, by rw [litsGo_len]; exact hj, by rw [litsGo_get' hj, e]⟩
theorem trueIn_lits {x : Int} (hb : beyP m.length x = false) : trueIn m x = (litsGo 0 m).contains x := by
  obtain ⟨hr, hv⟩ := bey_rt hb
  have hp := varL_pos hr
  have h0 := rt_iff.1 hr
  have hvx : x = varL x ∨ x = -varL x := by unfold varL; rw [if_pos hr]; split <;> omega
  have hj : (varL x - 1).toNat < m.length := by omega
  have hc : (litsGo 0 m).contains x = true ↔ x ∈ litsGo 0 m := by simp
  rw [Bool.eq_iff_iff, hc, mem_litsGo]
  unfold trueIn
  rw [List.getElem?_eq_getElem hj, Option.getD_some]
  constructor
  · intro q
    refine ⟨(varL x - 1).toNat, hj, ?_⟩
    cases hm : m[(varL x - 1).toNat] with
    | true =>
      rw [hm] at q
      have : ¬ x < 0 := by simpa using q
      rw [if_pos rfl]; omega
    | false =>
      rw [hm] at q
      have : x < 0 := by simpa using q
      rw [if_neg (by decide)]; omega
  · rintro ⟨j, hj2, e⟩
    cases hm : m[j] with
    | true =>
      rw [hm, if_pos rfl] at e
      have ej : (varL x - 1).toNat = j := by omega
      subst ej
      rw [hm, decide_eq_false (by omega)]; rfl
    | false =>
      rw [hm, if_neg (by decide)] at e
      have ej : (varL x - 1).toNat = j := by omega
      subst ej
      rw [hm, decide_eq_true (by omega)]; rfl
theorem holds_lits {n : Nat} (hr : rightC c = true) (hb : ∀ x ∈ c, beyP n x = false) (hm : m.length = n) : holdsF c m = holdsP c (litsGo 0 m) := by
  rw [holdsF_good hr hb hm]
  unfold holdsP
  rw [hr, Bool.true_and, Bool.eq_iff_iff, List.any_eq_true, List.any_eq_true]
  constructor
  · rintro ⟨x, hx, q⟩
    exact ⟨x, hx, by rw [← trueIn_lits (by rw [hm]; exact hb x hx)]; exact q⟩
  · rintro ⟨x, hx, q⟩
    exact ⟨x, hx, by rw [trueIn_lits (by rw [hm]; exact hb x hx)]; exact q⟩

end Go.Proofs.S
