/-
  RupSmall: the given statement, with no condition.
-/
import Derived.Test.YtcoeaaobbfbcjaaRuZ
import Derived.Test.YtcoeaaobbfbcjaaSxOp
set_option linter.unusedVariables false
namespace Go.Proofs.Ytcoeaaobbfbcjaa
open Go Go.Sx Go.ChangeShapes Go.WideShapes Go.ChangeAt Go.RowKit

set_option maxRecDepth 100000 in
theorem rupSmall_lifted (os : Os) (started : os.Started) (H : Type) (enc : TypeId × Value → H) :
    ReturnsInHanded {} Try.checked os 11 .any (Rows.rupSmallSpec.pre6 enc Try.prog Try.f11 Rows.rupSmallRow.domain false) (Rows.rupSmallSpec.post enc Try.prog Try.f11 false true false false) := by
  refine lift_true (C := Try.checked) (tb := 4) Try.own started (by kernel_rfl) Try.func11
    (ChangeSpec.witness6 (enc := enc) (C := Try.checked) false ⟨#[], #[], []⟩ 8 (by kernel_rfl) (by kernel_rfl) (by kernel_rfl) (by kernel_rfl))
    Try.laidOut ?_ rfl rfl Try.underlying4 rfl ?_ ?_
  · rw [Try.params11]
    intro t ht
    simp at ht
    
  · intro ds hd
    rw [Try.params11] at hd
    rw [List.append_nil]
    rcases ds with _ | ⟨d0, ds⟩
    all_goals first | exact ⟨rfl, rfl, rfl⟩ | (simp at hd)
  intro W base args ds p hval hA hlt
  rw [Try.params11] at hA hval
  obtain ⟨rfl, rfl, rfl⟩ := trodAll_none hA

  exact calls_true (P := Try.prog) (fn := Try.f11) Go.Proofs.S.follows Try.func11 (by kernel_rfl) (by kernel_rfl) W
    (Eq.mpr (Go.Proofs.S.E_salvorlaw08_RupSmall  _ W.heap) (Go.Proofs.S.rupSmall_F W.heap _ fun x h hx => hx))

theorem rupSmall_holds : Rows.RupSmallSaid :=
  OpenClaim.holds_of_wide 11 Try.f11 rfl rfl rfl rfl rfl rfl rfl ⟨rfl, rfl, rfl, rfl, rfl⟩ rfl rfl rfl rfl rfl (by kernel_rfl) Try.func11 (by kernel_rfl)
    (of_decide_eq_true (by kernel_rfl)) (by unfold Func.isWrapper; first | (rw [if_pos (by decide +kernel)]; kernel_rfl) | (rw [if_neg (by decide +kernel)]; exact ⟨rfl, rfl⟩))
    (fun os started H enc _ => rupSmall_lifted os started H enc)

end Go.Proofs.Ytcoeaaobbfbcjaa
