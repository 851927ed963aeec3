/-
  The package rup: Follow, check, needed, Trim, the search's next step: contracts.
-/
import Derived.Test.YtjkgncibelojnaaGreatRuA
set_option linter.unusedVariables false
set_option linter.unusedSimpArgs false
namespace Go.Proofs.S
open Go Go.Sx Go.Proofs Go.Cl Go.Rp

variable {h : Heap} {c d A us : List Int} {cs ds hs : List (List Int)} {s s2 : Sl} {fr : Fr} {G As : List Asn} {b : Nat}

abbrev iox (xs : List Int) (s : Sl) : Asn := osl ty_int i64.enc xs s
def rows (hs : List (List Int)) (ps : List Sl) : List Asn := List.zipWith (fun c p => li c p) hs ps
end Go.Proofs.S

set_option linter.unusedVariables false
set_option linter.unusedSimpArgs false
namespace Go.Proofs.S
open Go Go.Sx Go.Proofs Go.Cl Go.Rp

variable {h : Heap} {c d A us : List Int} {cs ds hs : List (List Int)} {s s2 : Sl} {fr : Fr} {G As : List Asn} {b : Nat}

theorem hitG {S : List Nat} : ∀ (GG : List Asn), (∀ C ∈ GG, C ∈ G) → FzOk G S h → ∃ F : List Nat, (∀ b ∈ F, b < h.size ∧ b ∉ S) ∧ ∀ h1, Ext [] h h1 → ∀ C ∈ GG, ∃ SC, C.P SC h1 ∧ ∀ b ∈ SC, b ∈ F
  | [], _, _ => ⟨[], by simp, by simp⟩
  | C :: GG, hsub, hz => by
    obtain ⟨F, hF, hall⟩ := hitG GG (fun C hC => hsub C (List.mem_cons_of_mem _ hC)) hz
    obtain ⟨S1, p1, d1⟩ := hz C (hsub C (by simp))
    refine ⟨S1 ++ F, fun b hb => (List.mem_append.1 hb).elim (fun k => ⟨At.lt p1 b k, d1 b k⟩) (hF b), fun h1 x D hD => ?_⟩
    rcases List.mem_cons.1 hD with rfl | hD
    · exact ⟨S1, Asn.ext p1 x (by simp), fun b hb => List.mem_append_left _ hb⟩
    · obtain ⟨SC, p, q⟩ := hall h1 x D hD
      exact ⟨SC, p, fun b hb => List.mem_append_right _ (q b hb)⟩

end Go.Proofs.S
