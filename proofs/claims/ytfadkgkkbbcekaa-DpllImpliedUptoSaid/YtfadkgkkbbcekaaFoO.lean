/-
  What a formula that is made is.
-/
import Derived.Test.YtfadkgkkbbcekaaFoL
set_option linter.unusedVariables false
set_option linter.unusedSimpArgs false
namespace Go.Proofs.S
open Go Go.Sx Go.Proofs Go.Cl

variable {h : Heap} {c d : List Int} {s s2 : Sl} {fr : Fr} {G As : List Asn} {m : List Bool} {sm : Sl} {k k2 : List Bool}

theorem varL_neg {x : Int} (h : rt x = true) : varL (-x) = varL x := by
  have h0 := rt_iff.1 h
  unfold varL
  rw [if_pos h, if_pos (rt_neg h)]
  split <;> split <;> omega
end Go.Proofs.S

set_option linter.unusedVariables false
set_option linter.unusedSimpArgs false
namespace Go.Proofs.S
open Go Go.Sx Go.Proofs Go.Cl

variable {h : Heap} {c d : List Int} {s s2 : Sl} {fr : Fr} {G As : List Asn} {m : List Bool} {sm : Sl} {k k2 : List Bool}

end Go.Proofs.S

set_option linter.unusedVariables false
set_option linter.unusedSimpArgs false
namespace Go.Proofs.S
open Go Go.Sx Go.Proofs Go.Cl

variable {h : Heap} {c d : List Int} {s s2 : Sl} {fr : Fr} {G As : List Asn} {m : List Bool} {sm : Sl} {k k2 : List Bool}

end Go.Proofs.S

set_option linter.unusedVariables false
set_option linter.unusedSimpArgs false
namespace Go.Proofs.S
open Go Go.Sx Go.Proofs Go.Cl

variable {h : Heap} {c d : List Int} {s s2 : Sl} {fr : Fr} {G As : List Asn} {m : List Bool} {sm : Sl} {k k2 : List Bool}

def bitI (b : Bool) : Int := if b then 1 else 0
abbrev bitsL (m : List Bool) : List Int := m.map bitI

theorem rvar_c (x : Int) : callT Try.prog fn_salvorref01_Var #[.int .i64 x] (.int .i64) (fun r h' => r = varL x ∧ h' = h) h := by
  refine callT_gen fun K hK => S_salvorref01_Var (a0 := x) K ?_
  unfold F_salvorref01_Var
  refine call_of (r1_right_c x) ?_
  rintro _ hq ⟨rfl, rfl⟩
  unfold varL at hK
  cases hr : rt x with
  | false => rw [hr] at hK; rw [Bool.not_false, brB_true]; exact hK _ _ ⟨rfl, rfl⟩
  | true =>
    rw [hr, if_pos rfl] at hK
    rw [Bool.not_true, brB_false]
    by_cases q : x < 0
    · rw [if_pos q] at hK
      rw [decide_eq_true q, brB_true, wneg hr]; exact hK _ _ ⟨rfl, rfl⟩
    · rw [if_neg q] at hK
      rw [decide_eq_false q, brB_false]; exact hK _ _ ⟨rfl, rfl⟩

end Go.Proofs.S
