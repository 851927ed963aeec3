/-
  OrderDivides.
-/
import Derived.Test.YtkfdfbgceockpaaOrdL10
set_option linter.unusedVariables false
namespace Go.Proofs.Ord
open Go Go.Sx Go.Proofs

/-- Which variable is bumped in round i. -/
def uv (by_ : Int) (i : Nat) : Nat := (1 + (by_ + i) % 12).toNat

theorem uv_lt {b : Int} {i : Nat} (hb : 0 ≤ b) : 1 ≤ uv b i ∧ uv b i ≤ 12 := by unfold uv; omega
theorem uv_ne {b : Int} {i j : Nat} (hb : 0 ≤ b) (h1 : 1 ≤ j) (h2 : j ≤ 11) (hj : j ≤ i) : uv b (i - j) ≠ uv b i := by unfold uv; omega
theorem uv_12 {b : Int} {i : Nat} (hb : 0 ≤ b) (hi : 12 ≤ i) : uv b (i - 12) = uv b i := by unfold uv; omega

/-- How much a variable has that was bumped j rounds ago. -/
def Ej (j : Nat) (a s : Int) : Prop := 16 ^ j * (s + 16) ≤ 17 ^ j * (a + 20)

theorem pow_pos' (n : Nat) (k : Nat) (hk : 0 < k) : (0 : Int) < (k : Int) ^ n := Int.pow_pos (by omega)

theorem Ej.decay {j : Nat} {a s : Int} (h : Ej j a s) (hs : 0 ≤ s) : Ej (j + 1) a (s + s / 16 + 1) := by
  unfold Ej at *
  have q : (0 : Int) < 16 ^ j := Int.pow_pos (by omega)
  rw [Int.pow_succ, Int.pow_succ, Int.mul_assoc, Int.mul_assoc]
  have h1 : (16 : Int) ^ j * (16 * (s + s / 16 + 1 + 16)) ≤ 16 ^ j * (17 * (s + 16)) := Int.mul_le_mul_of_nonneg_left (by omega) (by omega)
  have e1 : (16 : Int) ^ j * (17 * (s + 16)) = 17 * (16 ^ j * (s + 16)) := by rw [Int.mul_left_comm]
  have e2 : (17 : Int) ^ j * (17 * (a + 20)) = 17 * (17 ^ j * (a + 20)) := by rw [Int.mul_left_comm]
  rw [e2]; rw [e1] at h1; omega

theorem pow_le_pow' (j : Nat) : (16 : Int) ^ j ≤ 17 ^ j := by
  induction j with
  | zero => decide
  | succ j ih =>
    have q : (0 : Int) < 16 ^ j := Int.pow_pos (by omega)
    rw [Int.pow_succ, Int.pow_succ]; omega

theorem Ej.divide {j : Nat} {a s : Int} (h : Ej j a s) (hs : 0 ≤ s) (ha : 0 ≤ a) : Ej j (a / 1073741824) (if 1 > s / 1073741824 then 1 else s / 1073741824) := by
  unfold Ej at *
  have q : (0 : Int) < 16 ^ j := Int.pow_pos (by omega)
  have qp := pow_le_pow' j
  generalize (16 : Int) ^ j = Q at *
  generalize (17 : Int) ^ j = P at *
  have h1 : P * (a + 20 + 20401094637) ≤ P * (1073741824 * (a / 1073741824 + 20)) := Int.mul_le_mul_of_nonneg_left (by omega) (by omega)
  have h2 : Q * 20401094637 ≤ P * 20401094637 := Int.mul_le_mul_of_nonneg_right qp (by omega)
  have h3 : Q * (1073741824 * ((if 1 > s / 1073741824 then 1 else s / 1073741824) + 16)) ≤ Q * (s + 16 + 20401094637) := Int.mul_le_mul_of_nonneg_left (by split <;> omega) (by omega)
  rw [Int.mul_add] at h1
  rw [Int.mul_add Q] at h3
  have e1 : P * (1073741824 * (a / 1073741824 + 20)) = 1073741824 * (P * (a / 1073741824 + 20)) := by rw [Int.mul_left_comm]
  have e2 : Q * (1073741824 * ((if 1 > s / 1073741824 then 1 else s / 1073741824) + 16)) = 1073741824 * (Q * ((if 1 > s / 1073741824 then 1 else s / 1073741824) + 16)) := by rw [Int.mul_left_comm]
  rw [e1] at h1
  rw [e2] at h3
  omega

/-- What holds between the rounds. -/
structure Rnd (b : Int) (i : Nat) (act : List Int) (s : Int) : Prop where
  ok : s + s / 16 + 1 ≤ maxA
  lo : i ≤ 12 → s ≤ 1000000 * 2 ^ i
  ej : ∀ j, j < 12 → j + 1 ≤ i → Ej j (g act (uv b (i - (j + 1)))) s

theorem Rnd.step {b : Int} {i : Nat} {act : List Int} {s : Int} (r : Rnd b i act s) (hb : 0 ≤ b) (lim : Lim act s) (hl : act.length = 13) :
    Rnd b (i + 1) (bumpA act 12 (uv b i) (s + s / 16 + 1)) (bumpS act 12 (uv b i) (s + s / 16 + 1)) := by
  have hu := uv_lt (i := i) hb
  have hs := lim.s1
  have hcond : (1 : Int) ≤ (uv b i : Int) ∧ (uv b i : Int) ≤ (12 : Nat) := by omega
  unfold bumpA bumpS
  rw [if_pos hcond, if_pos hcond]
  simp only [Int.toNat_natCast]
  have hlo := lim.lo (uv b i)
  have hhi := lim.hi (uv b i)
  have ok := r.ok
  have ejs : ∀ j, j < 12 → j + 1 ≤ i + 1 → Ej j (g (act.set (uv b i) (g act (uv b i) + (s + s / 16 + 1))) (uv b (i + 1 - (j + 1)))) (s + s / 16 + 1) := by
    intro j hj hji
    cases j with
    | zero =>
      simp only [Nat.zero_add, Nat.add_sub_cancel]
      rw [g_set, if_pos ⟨rfl, by omega⟩]
      unfold Ej; simp; omega
    | succ j =>
      have e : i + 1 - (j + 1 + 1) = i - (j + 1) := by omega
      rw [e, g_set, if_neg (fun hh => uv_ne hb (i := i) (j := j + 1) (by omega) (by omega) (by omega) hh.1.symm)]
      exact (r.ej j (by omega) (by omega)).decay (by omega)
  by_cases hg : g act (uv b i) + (s + s / 16 + 1) > maxA
  · rw [if_pos hg, if_pos hg]
    refine ⟨?_, fun hi => ?_, fun j hj hji => ?_⟩
    · simp only [maxA] at *; split <;> omega
    · have := r.lo (by omega)
      have e2 : (2 : Int) ^ (i + 1) = 2 * 2 ^ i := by rw [Int.pow_succ]; omega
      have e3 : (0 : Int) < 2 ^ i := Int.pow_pos (by omega)
      split <;> omega
    · have e1 := uv_lt (i := i + 1 - (j + 1)) hb
      rw [g_map (by rw [List.length_set]; omega)]
      refine (ejs j hj hji).divide (by omega) ?_
      rw [g_set]; have := lim.lo (uv b (i + 1 - (j + 1))); split <;> omega
  · rw [if_neg hg, if_neg hg]
    refine ⟨?_, fun hi => ?_, ejs⟩
    · by_cases hi : 12 ≤ i
      · have h12 := (r.ej 11 (by omega) (by omega)).decay (by omega)
        rw [uv_12 hb hi] at h12
        unfold Ej at h12
        have p16 : (16 : Int) ^ (11 + 1) = 281474976710656 := by decide
        have p17 : (17 : Int) ^ (11 + 1) = 582622237229761 := by decide
        rw [p16, p17] at h12
        simp only [maxA] at *
        omega
      · have := r.lo (by omega)
        have : (2 : Int) ^ i ≤ 2 ^ 11 := by
          have : i = 0 ∨ i = 1 ∨ i = 2 ∨ i = 3 ∨ i = 4 ∨ i = 5 ∨ i = 6 ∨ i = 7 ∨ i = 8 ∨ i = 9 ∨ i = 10 ∨ i = 11 := by omega
          rcases this with rfl | rfl | rfl | rfl | rfl | rfl | rfl | rfl | rfl | rfl | rfl | rfl <;> decide
        have e : (2 : Int) ^ 11 = 2048 := by decide
        rw [e] at this
        simp only [maxA] at *
        omega
    · have := r.lo (by omega)
      have e2 : (2 : Int) ^ (i + 1) = 2 * 2 ^ i := by rw [Int.pow_succ]; omega
      have e3 : (0 : Int) < 2 ^ i := Int.pow_pos (by omega)
      omega

end Go.Proofs.Ord
