/-
  DpllModels: the given statement, with no condition.
-/
import Derived.Test.YtfadkgkkbbcekaaDpWT
import Derived.Test.YtfadkgkkbbcekaaSxOp
set_option linter.unusedVariables false
namespace Go.Proofs.Ytfadkgkkbbcekaa
open Go Go.Sx Go.ChangeShapes Go.WideShapes Go.ChangeAt Go.RowKit

set_option maxRecDepth 100000 in
theorem dpllModels_lifted (os : Os) (started : os.Started) (H : Type) (enc : TypeId × Value → H) :
    ReturnsInHanded {} Try.checked os 8 .any (Rows.dpllModelsSpec.pre6 enc Try.prog Try.f8 Rows.dpllModelsRow.domain false) (Rows.dpllModelsSpec.post enc Try.prog Try.f8 false true false false) := by
  refine lift_true (C := Try.checked) (tb := 4) own_ started (by kernel_rfl) Try.func8
    (ChangeSpec.witness6 (enc := enc) (C := Try.checked) false ⟨#[], #[.slice none 0 0, .int .u8 0], []⟩ 8 (by kernel_rfl) (by kernel_rfl) (by kernel_rfl) (by kernel_rfl))
    laidOut_ ?_ rfl rfl Try.underlying4 rfl ?_ ?_
  · rw [Try.params8]
    intro t ht
    simp at ht
    rcases ht with rfl | rfl <;> exact ⟨by kernel_rfl, of_decide_eq_true (by kernel_rfl)⟩
  · intro ds hd
    rw [Try.params8] at hd
    rw [List.append_nil]
    rcases ds with _ | ⟨d0, _ | ⟨d1, _ | ⟨d2, ds⟩⟩⟩
    all_goals first | exact ⟨rfl, rfl, rfl⟩ | (simp at hd)
  intro W base args ds p hval hA hlt
  rw [Try.params8] at hA hval
  obtain ⟨v0, v1, d0, d1, p0, p1, rfl, rfl, rfl, h0, h1⟩ := trodAll_two hA
  obtain ⟨s0, x0, rfl, at0, w0⟩ := arg_uu (hval 0 30 v0 rfl rfl) h0
  obtain ⟨k1, rfl, rfl, rfl, w1⟩ := open_int Try.underlying5 (hval 1 5 v1 rfl rfl) h1
  exact calls_true (P := Try.prog) (fn := Try.f8) Go.Proofs.S.follows Try.func8 (by kernel_rfl) (by kernel_rfl) W
    (Eq.mpr (Go.Proofs.S.E_salvorlaw19_DpllModels s0 k1 _ W.heap) (Go.Proofs.S.dpllModels_F at0 w0 (wf_u8 w1).1 (by have := (wf_u8 w1).2; omega) _ fun x h hx => hx))

theorem dpllModels_holds : Rows.DpllModelsSaid :=
  OpenClaim.holds_of_wide 8 Try.f8 rfl rfl rfl rfl rfl rfl rfl ⟨rfl, rfl, rfl, rfl, rfl⟩ rfl rfl rfl rfl rfl (by kernel_rfl) Try.func8 (by kernel_rfl)
    (of_decide_eq_true (by kernel_rfl)) (by unfold Func.isWrapper; first | (rw [if_pos (by decide +kernel)]; kernel_rfl) | (rw [if_neg (by decide +kernel)]; exact ⟨rfl, rfl⟩))
    (fun os started H enc _ => dpllModels_lifted os started H enc)

end Go.Proofs.Ytfadkgkkbbcekaa
