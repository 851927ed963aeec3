/-
  DpllSmall: the given statement, with no condition.
-/
import Derived.Test.YtfadkgkkbbcekaaDpSm
import Derived.Test.YtfadkgkkbbcekaaSxOp
set_option linter.unusedVariables false
namespace Go.Proofs.Ytfadkgkkbbcekaa
open Go Go.Sx Go.ChangeShapes Go.WideShapes Go.ChangeAt Go.RowKit

set_option maxRecDepth 100000 in
theorem dpllSmall_lifted (os : Os) (started : os.Started) (H : Type) (enc : TypeId × Value → H) :
    ReturnsInHanded {} Try.checked os 7 .any (Rows.dpllSmallSpec.pre6 enc Try.prog Try.f7 Rows.dpllSmallRow.domain false) (Rows.dpllSmallSpec.post enc Try.prog Try.f7 false true false false) := by
  refine lift_true (C := Try.checked) (tb := 4) own_ started (by kernel_rfl) Try.func7
    (ChangeSpec.witness6 (enc := enc) (C := Try.checked) false ⟨#[], #[], []⟩ 8 (by kernel_rfl) (by kernel_rfl) (by kernel_rfl) (by kernel_rfl))
    laidOut_ ?_ rfl rfl Try.underlying4 rfl ?_ ?_
  · rw [Try.params7]
    intro t ht
    simp at ht
    
  · intro ds hd
    rw [Try.params7] at hd
    rw [List.append_nil]
    rcases ds with _ | ⟨d0, ds⟩
    all_goals first | exact ⟨rfl, rfl, rfl⟩ | (simp at hd)
  intro W base args ds p hval hA hlt
  rw [Try.params7] at hA hval
  obtain ⟨rfl, rfl, rfl⟩ := trodAll_none hA

  exact calls_true (P := Try.prog) (fn := Try.f7) Go.Proofs.S.follows Try.func7 (by kernel_rfl) (by kernel_rfl) W
    (Eq.mpr (Go.Proofs.S.E_salvorlaw19_DpllSmall  _ W.heap) (Go.Proofs.S.dpllSmall_F _ fun x h hx => hx))

theorem dpllSmall_holds : Rows.DpllSmallSaid :=
  OpenClaim.holds_of_wide 7 Try.f7 rfl rfl rfl rfl rfl rfl rfl ⟨rfl, rfl, rfl, rfl, rfl⟩ rfl rfl rfl rfl rfl (by kernel_rfl) Try.func7 (by kernel_rfl)
    (of_decide_eq_true (by kernel_rfl)) (by unfold Func.isWrapper; first | (rw [if_pos (by decide +kernel)]; kernel_rfl) | (rw [if_neg (by decide +kernel)]; exact ⟨rfl, rfl⟩))
    (fun os started H enc _ => dpllSmall_lifted os started H enc)

end Go.Proofs.Ytfadkgkkbbcekaa
