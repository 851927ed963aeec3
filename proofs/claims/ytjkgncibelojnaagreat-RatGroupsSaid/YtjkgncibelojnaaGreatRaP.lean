/-
  RatKeeps.
-/
import Derived.Test.YtjkgncibelojnaaGreatRaN
import Derived.Test.YtjkgncibelojnaaGreatRaL
set_option linter.unusedVariables false
set_option linter.unusedSimpArgs false
namespace Go.Proofs.S
open Go Go.Sx Go.Proofs Go.Cl Go.Rp Go.Rt

variable {h : Heap} {c d A f ids : List Int} {l : List Ent} {cs : List (List Int)} {gs us vs : List Grp} {s s2 s3 s4 sc : Sl} {fr : Fr} {G As : List Asn} {id p : Int} {i : Nat} {b m : Nat}

theorem made_right (cs : List (List Int)) (m : Nat) (hm : m ≤ 1000) : rightE (numE (allR cs m)) = true := numE_right (by have := allR_len cs m; omega) (allR_right cs m)
theorem made_fuel (cs : List (List Int)) (m : Nat) (hm : m ≤ 1000) : fuelE (numE (allR cs m)) ≤ 500000 := by
  unfold fuelE
  rw [numE_cls]
  have h1 := allR_len cs m
  have := flat_le (m := m) (k := 6) h1 fun c hc => by obtain ⟨d, rfl⟩ := allR_mem hc; exact madeR_len d
  unfold fuelP; omega

end Go.Proofs.S

set_option linter.unusedVariables false
set_option linter.unusedSimpArgs false
namespace Go.Rt
open Go Go.Cl Go.Rp

variable {l X : List Ent} {A B c : List Int} {p : Int}

def defs (x y : Int) : List (List Int) := [[-9, x], [-9, y], [9, -x, -y]]
def Defd (x y : Int) (l : List Ent) : Prop := ∀ e ∈ l, (∀ z ∈ e.2, -6 ≤ z ∧ z ≤ 6) ∨ e.2 ∈ defs x y

theorem rightGo_snoc {e : Ent} : ∀ {l : List Ent} {last : Int}, rightGo last l = true → (∀ x ∈ l, x.1 < e.1) → last < e.1 → e.1 ≤ maxID → rightC e.2 = true → rightGo last (l ++ [e]) = true
  | [], last, _, _, h2, h3, h4 => by simp [rightGo, h2, h3, h4]
  | x :: l, last, h, h1, h2, h3, h4 => by
    simp only [rightGo, List.cons_append, Bool.and_eq_true] at h ⊢
    exact ⟨h.1, rightGo_snoc h.2 (fun y hy => h1 y (by simp [hy])) (h1 x (by simp)) h3 h4⟩
theorem rightE_snoc {e : Ent} (h : rightE l = true) (h1 : ∀ x ∈ l, x.1 < e.1) (h2 : 0 < e.1) (h3 : e.1 ≤ maxID) (h4 : rightC e.2 = true) (h5 : l.length < 1048576) : rightE (l ++ [e]) = true := by
  unfold rightE at h ⊢
  rw [Bool.and_eq_true] at h ⊢
  exact ⟨rightGo_snoc h.1 h1 h2 h3 h4, by simp; omega⟩
theorem Defd.snoc {x y : Int} {e : Ent} (h : Defd x y l) (he : e.2 ∈ defs x y) : Defd x y (l ++ [e]) := fun z hz => by
  rcases List.mem_append.1 hz with hz | hz
  · exact h z hz
  · simp at hz; subst hz; exact .inr he

end Go.Rt
