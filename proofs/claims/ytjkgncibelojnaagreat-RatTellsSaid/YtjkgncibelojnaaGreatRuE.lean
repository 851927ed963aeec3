/-
  The package rup: Find: contract.
-/
import Derived.Test.YtjkgncibelojnaaGreatRuC
import Derived.Test.YtjkgncibelojnaaGreatSxW3
import Derived.Test.YtjkgncibelojnaaGreatSxG
set_option linter.unusedVariables false
set_option linter.unusedSimpArgs false
namespace Go.Sx
open Go
variable {h : Heap} {τ : Ty} {xs : List τ.T} {s : Sl}
end Go.Sx
namespace Go.Proofs.S
open Go Go.Sx Go.Proofs Go.Cl Go.Rp

variable {h : Heap} {c d A us : List Int} {cs ds hs : List (List Int)} {s s2 : Sl} {fr : Fr} {G As : List Asn} {b : Nat}

end Go.Proofs.S

set_option linter.unusedVariables false
set_option linter.unusedSimpArgs false
namespace Go.Proofs.S
open Go Go.Sx Go.Proofs Go.Cl Go.Rp

variable {h : Heap} {c d A us : List Int} {cs ds hs : List (List Int)} {s s2 : Sl} {fr : Fr} {G As : List Asn} {b n : Nat} {t : TypeId}

theorem Hs.lit (st : Hs fr G As h) (xs : List Int) {vs : Array Value} (n : Nat) (hn : n = xs.length) (hvs : vs.toList = xs.map i64.enc) {K : Nat → HP}
    (hK : ∀ b h', Hs fr (G ++ [li xs ⟨some ⟨b, 0, none⟩, n, n⟩]) As h' → K b h') : Sx.nw vs t K h := by
  subst hn
  refine st.nw fun b h1 st => ?_
  rw [hvs] at st
  have st := st.asSl As.length i64.enc xs (lastA _ _) rfl
  have st := st.froz As.length (by rw [List.getElem?_set_self (by simp)])
  rw [List.set_append_right _ _ (Nat.le_refl _), Nat.sub_self, List.set_cons_zero, List.eraseIdx_append_of_length_le (Nat.le_refl _), Nat.sub_self, List.eraseIdx_cons_zero, List.append_nil] at st
  exact hK b h1 st

def AllAt (h : Heap) : List (List Int) → List Sl → Prop
  | [], [] => True
  | c :: cs, p :: ps => At h (li c p) ∧ AllAt h cs ps
  | _, _ => False
theorem AllAt.len : ∀ {cs : List (List Int)} {ps : List Sl}, AllAt h cs ps → ps.length = cs.length
  | [], [], _ => rfl
  | c :: cs, p :: ps, ⟨_, k⟩ => by simp [AllAt.len k]
  | [], _ :: _, k => k.elim
  | _ :: _, [], k => k.elim
theorem AllAt.get : ∀ {cs : List (List Int)} {ps : List Sl}, AllAt h cs ps → ∀ i (h1 : i < cs.length) (h2 : i < ps.length), At h (li cs[i] ps[i])
  | c :: cs, p :: ps, ⟨k, _⟩, 0, _, _ => k
  | c :: cs, p :: ps, ⟨_, k⟩, i + 1, h1, h2 => AllAt.get k i (Nat.lt_of_succ_lt_succ h1) (Nat.lt_of_succ_lt_succ h2)
  | [], _, _, i, h1, _ => by simp at h1
  | _ :: _, [], k, _, _, _ => k.elim
end Go.Proofs.S

set_option linter.unusedVariables false
namespace Go.Sx
open Go

section
variable {P : Program} {h h' : Heap} {s : Sl}

end

section
variable {α : Type} {enc : α → List Value} {xs : List α} {s : Sl} {fr : Fr} {G As : List Asn} {h : Heap} {t : TypeId}

end
end Go.Sx
