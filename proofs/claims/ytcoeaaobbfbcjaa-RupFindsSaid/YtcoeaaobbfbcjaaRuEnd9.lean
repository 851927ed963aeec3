/-
  RupFinds: the given statement, with no condition.
-/
import Derived.Test.YtcoeaaobbfbcjaaRuX
import Derived.Test.YtcoeaaobbfbcjaaSxOp
set_option linter.unusedVariables false
namespace Go.Proofs.Ytcoeaaobbfbcjaa
open Go Go.Sx Go.ChangeShapes Go.WideShapes Go.ChangeAt Go.RowKit

set_option maxRecDepth 100000 in
theorem rupFinds_lifted (os : Os) (started : os.Started) (H : Type) (enc : TypeId × Value → H) :
    ReturnsInHanded {} Try.checked os 6 .any (Rows.rupFindsSpec.pre6 enc Try.prog Try.f6 Rows.rupFindsRow.domain false) (Rows.rupFindsSpec.post enc Try.prog Try.f6 false true false false) := by
  refine lift_true (C := Try.checked) (tb := 4) Try.own started (by kernel_rfl) Try.func6
    (ChangeSpec.witness6 (enc := enc) (C := Try.checked) false ⟨#[], #[.slice none 0 0, .slice none 0 0], []⟩ 8 (by kernel_rfl) (by kernel_rfl) (by kernel_rfl) (by kernel_rfl))
    Try.laidOut ?_ rfl rfl Try.underlying4 rfl ?_ ?_
  · rw [Try.params6]
    intro t ht
    simp at ht
    rcases ht with rfl | rfl <;> exact ⟨by kernel_rfl, of_decide_eq_true (by kernel_rfl)⟩
  · intro ds hd
    rw [Try.params6] at hd
    rw [List.append_nil]
    rcases ds with _ | ⟨d0, _ | ⟨d1, _ | ⟨d2, ds⟩⟩⟩
    all_goals first | exact ⟨rfl, rfl, rfl⟩ | (simp at hd)
  intro W base args ds p hval hA hlt
  rw [Try.params6] at hA hval
  obtain ⟨v0, v1, d0, d1, p0, p1, rfl, rfl, rfl, h0, h1⟩ := trodAll_two hA
  obtain ⟨s0, x0, rfl, at0, w0⟩ := sl_cl (hval 0 26 v0 rfl rfl) h0
  obtain ⟨s1, x1, rfl, at1, w1⟩ := ll_cl (hval 1 28 v1 rfl rfl) h1
  exact calls_true (P := Try.prog) (fn := Try.f6) Go.Proofs.S.follows Try.func6 (by kernel_rfl) (by kernel_rfl) W
    (Eq.mpr (Go.Proofs.S.E_salvorlaw08_RupFinds s0 s1 _ W.heap) (Go.Proofs.S.rupFinds_F at0 at1 _ fun x h hx => hx))

theorem rupFinds_holds : Rows.RupFindsSaid :=
  OpenClaim.holds_of_wide 6 Try.f6 rfl rfl rfl rfl rfl rfl rfl ⟨rfl, rfl, rfl, rfl, rfl⟩ rfl rfl rfl rfl rfl (by kernel_rfl) Try.func6 (by kernel_rfl)
    (of_decide_eq_true (by kernel_rfl)) (by unfold Func.isWrapper; first | (rw [if_pos (by decide +kernel)]; kernel_rfl) | (rw [if_neg (by decide +kernel)]; exact ⟨rfl, rfl⟩))
    (fun os started H enc _ => rupFinds_lifted os started H enc)

end Go.Proofs.Ytcoeaaobbfbcjaa
