/-
  How many valid sets there are; sets as numbers; in plain Lean.
-/
import Derived.Test.YtfadkgkkbbcekaaCrP
import Derived.Test.YtfadkgkkbbcekaaSxW3
set_option linter.unusedVariables false
namespace Go.Cr

theorem allB_add : ∀ (m n : Nat), allB (m + n) = (allB m).flatMap fun a => (allB n).map (a ++ ·)
  | 0, n => by simp [allB]
  | m + 1, n => by
    have e : ∀ n, allB (n + 1) = (allB n).map (false :: ·) ++ (allB n).map (true :: ·) := fun _ => rfl
    rw [Nat.succ_add, e, e, allB_add m n, List.flatMap_append, List.map_flatMap, List.map_flatMap, List.flatMap_map, List.flatMap_map]
    simp only [List.map_map]
    rfl

theorem allB_len : ∀ n, (allB n).length = 2 ^ n
  | 0 => rfl
  | n + 1 => by unfold allB; simp [allB_len n, Nat.pow_succ]; omega

end Go.Cr

set_option linter.unusedVariables false
namespace Go.Sx
open Go Go.Cr

theorem set_map_range' {α : Type} (f : Nat → α) (n i : Nat) (z : α) (hi : i < n) : (((List.range i).map f) ++ List.replicate (n - i) z).set i (f i) = ((List.range (i + 1)).map f) ++ List.replicate (n - (i + 1)) z := by
  rw [List.set_append_right _ _ (by simp), List.range_succ, List.map_append]
  simp only [List.length_map, List.length_range, Nat.sub_self, List.map_cons, List.map_nil]
  obtain ⟨q, hq⟩ : ∃ q, n - i = q + 1 := ⟨n - i - 1, by omega⟩
  have e : n - (i + 1) = q := by omega
  rw [hq, e, List.replicate_succ, List.set_cons_zero]; simp
end Go.Sx

set_option linter.unusedVariables false
namespace Go.Sx
open Go

section
variable {α : Type} {n : Nat} {enc : α → List Value} {xs : List α} {s : Sl} {fr : Fr} {G As : List Asn} {h h' : Heap} {A : Asn} {b i : Nat} {t : TypeId} {c : List Value}

end
end Go.Sx

set_option linter.unusedVariables false
namespace Go.Sx
open Go

section
variable {P : Program} {τ : Ty} {t : TypeId} {n : Nat} {h h' : Heap} {xs ys : List τ.T} {s s2 : Sl} {fr : Fr} {G As : List Asn} {by_ : Nat}

end
end Go.Sx

set_option linter.unusedVariables false
namespace Go.Sx
open Go

section
variable {τ : Ty} {t : TypeId} {h h' : Heap} {fr : Fr} {G As : List Asn} {by_ : Nat}

theorem Hs.mks1 (st : Hs fr G As h) {n : Nat} {z : τ.T} {K : Sl → HP} (hn : n * by_ ≤ 140737488355328) (hby : 0 < by_) (hK : ∀ s' h', Hs fr G (As ++ [osl t τ.enc (List.replicate n z) s']) h' → K s' h') :
    Sx.mks t 1 by_ #[τ.enc z] (n : Int) (n : Int) K h := by
  have hn2 : n ≤ 140737488355328 := Nat.le_trans (Nat.le_mul_of_pos_right n hby) hn
  have e1 : (by_ : Int) * (n : Int) = ((n * by_ : Nat) : Int) := by rw [Int.natCast_mul, Int.mul_comm]
  refine ⟨Int.natCast_nonneg _, Int.le_refl _, by rw [e1]; omega, by omega, ?_⟩
  simp only [Int.toNat_natCast]
  refine hK _ _ (st.new ((Ext.refl' [] h).push _) ⟨[h.size], .inl ⟨h.size, [], rfl, by simp, ?_⟩, by simp⟩)
  have := Blk.new h t (if n * 1 = 0 then #[] else zrow #[τ.enc z] (n * 1))
  have e : (if n * 1 = 0 then (#[] : Array Value) else zrow #[τ.enc z] (n * 1)).toList = List.map τ.enc (List.replicate n z) ++ [] := by
    rw [Nat.mul_one, List.append_nil, List.map_replicate]
    by_cases h0 : n = 0
    · subst h0; rfl
    · rw [if_neg h0]
      apply List.ext_getElem
      · simp [zrow]
      · intro i h1 h2; simp [zrow, Nat.mod_one]
  rw [e] at this; exact this
end
end Go.Sx
