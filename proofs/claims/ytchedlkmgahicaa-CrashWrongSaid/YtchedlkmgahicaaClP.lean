/-
  Literals and clauses, in plain Lean: no program in sight.
-/
set_option linter.unusedVariables false
namespace Go.Cl

def rt (x : Int) : Bool := decide (x ≠ 0) && (decide (x ≥ -1048576) && decide (x ≤ 1048576))
def ix (x : Int) : Int := if x < 0 then 2 * (-x - 1) + 1 else 2 * (x - 1)
def cmpI (a b : Int) : Int := if a < b then -1 else if a > b then 1 else 0
def cmpLit (a b : Int) : Int := if rt a then (if rt b then cmpI (ix a) (ix b) else 1) else (if rt b then -1 else cmpI a b)
def ltL (a b : Int) : Bool := decide (cmpLit a b < 0)
theorem cmpI_neg {a b : Int} : cmpI a b < 0 ↔ a < b := by unfold cmpI; split <;> (try split) <;> omega
theorem cmpI_zero {a b : Int} : cmpI a b = 0 ↔ a = b := by unfold cmpI; split <;> (try split) <;> omega
theorem ltL_iff {a b : Int} : ltL a b = true ↔ (rt a = true ∧ rt b = true ∧ ix a < ix b) ∨ (rt a = false ∧ rt b = true) ∨ (rt a = false ∧ rt b = false ∧ a < b) := by
  unfold ltL cmpLit
  cases ha : rt a <;> cases hb : rt b <;> simp [cmpI_neg]

theorem ltL_irrefl (a : Int) : ltL a a = false := by
  cases h : ltL a a with
  | false => rfl
  | true => rw [ltL_iff] at h; rcases h with ⟨_, _, h⟩ | ⟨h1, h2⟩ | ⟨_, _, h⟩ <;> first | omega | (rw [h1] at h2; cases h2)
theorem ltL_trans {a b c : Int} (h : ltL a b = true) (k : ltL b c = true) : ltL a c = true := by
  rw [ltL_iff] at *
  rcases h with ⟨h1, h2, h3⟩ | ⟨h1, h2⟩ | ⟨h1, h2, h3⟩ <;> rcases k with ⟨k1, k2, k3⟩ | ⟨k1, k2⟩ | ⟨k1, k2, k3⟩ <;> simp_all <;> omega
theorem ltL_asymm {a b : Int} (h : ltL a b = true) : ltL b a = false := by
  cases k : ltL b a with
  | false => rfl
  | true => have := ltL_trans h k; rw [ltL_irrefl] at this; cases this
abbrev Strict (L : List Int) : Prop := L.Pairwise (fun a b => ltL a b = true)

theorem Strict.nodup {L : List Int} (s : Strict L) : L.Nodup := s.imp fun {a b} h e => by subst e; rw [ltL_irrefl] at h; cases h

theorem Strict.unique {L M : List Int} (s : Strict L) (s' : Strict M) (hm : ∀ x, x ∈ L ↔ x ∈ M) : L = M := by
  have hp : L.Perm M := (List.perm_ext_iff_of_nodup s.nodup s'.nodup).2 hm
  exact hp.eq_of_pairwise (le := fun a b => ltL a b = true) (fun a b _ _ h k => by rw [ltL_asymm h] at k; cases k) s s'

end Go.Cl
