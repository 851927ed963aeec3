/-
  What can survive a crash, in plain Lean: no program in sight.
-/
set_option linter.unusedVariables false
namespace Go.Cr

abbrev Ent := Int × Int × Int × Unit
def E (l : List Ent) (i : Nat) : Int := (l.getD i (0, 0, 0, ())).2.2.1
def K (k : List Bool) (i : Nat) : Bool := k.getD i false

def allB : Nat → List (List Bool)
  | 0 => [[]]
  | n + 1 => (allB n).map (false :: ·) ++ (allB n).map (true :: ·)
theorem mem_allB : ∀ {n : Nat} {k : List Bool}, k ∈ allB n ↔ k.length = n
  | 0, k => by simp [allB]
  | n + 1, [] => by simp [allB]
  | n + 1, b :: k => by
    cases b <;> simp [allB, mem_allB (n := n) (k := k)]

def ltB : List Bool → List Bool → Bool
  | a :: x, b :: y => if a = b then ltB x y else b
  | _, _ => false

theorem allB_sorted : ∀ n, (allB n).Pairwise (fun a b => ltB a b = true)
  | 0 => by simp [allB]
  | n + 1 => by
    unfold allB
    refine List.pairwise_append.2 ⟨?_, ?_, ?_⟩
    · exact List.pairwise_map.2 ((allB_sorted n).imp fun {a b} h => by simpa [ltB] using h)
    · exact List.pairwise_map.2 ((allB_sorted n).imp fun {a b} h => by simpa [ltB] using h)
    · intro a ha b hb
      obtain ⟨x, _, rfl⟩ := List.mem_map.1 ha
      obtain ⟨y, _, rfl⟩ := List.mem_map.1 hb
      simp [ltB]

theorem ltB_iff : ∀ {a b : List Bool}, a.length = b.length → (ltB a b = true ↔ ∃ i, i < a.length ∧ a.take i = b.take i ∧ K a i = false ∧ K b i = true)
  | [], [], _ => by simp [ltB]
  | x :: a, y :: b, h => by
    have h' : a.length = b.length := by simpa using h
    unfold ltB
    by_cases e : x = y
    · subst e
      rw [if_pos rfl, ltB_iff h']
      constructor
      · rintro ⟨i, hi, ht, ha, hb⟩
        exact ⟨i + 1, by simpa using hi, by simp [ht], ha, hb⟩
      · rintro ⟨i, hi, ht, ha, hb⟩
        cases i with
        | zero => simp [K] at ha hb; rw [ha] at hb; cases hb
        | succ i => exact ⟨i, by simpa using hi, by simpa using ht, ha, hb⟩
    · rw [if_neg e]
      constructor
      · rintro rfl
        refine ⟨0, by simp, by simp, ?_, rfl⟩
        show x = false
        cases x with
        | false => rfl
        | true => exact absurd rfl e
      · rintro ⟨i, hi, ht, ha, hb⟩
        cases i with
        | zero => exact hb
        | succ i => simp at ht; exact absurd ht.1 e
  | [], _ :: _, h => by simp at h
  | _ :: _, [], h => by simp at h

end Go.Cr
