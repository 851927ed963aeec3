/-
  OrderSmall: the given statement, with no condition.
-/
import Derived.Test.YtkfdfbgceockpaaOrdRl
import Derived.Test.YtkfdfbgceockpaaSxOp
set_option linter.unusedVariables false
namespace Go.Proofs.Ytkfdfbgceockpaa
open Go Go.Sx Go.ChangeShapes Go.WideShapes Go.ChangeAt Go.RowKit

set_option maxRecDepth 100000 in
theorem orderSmall_lifted (os : Os) (started : os.Started) (H : Type) (enc : TypeId × Value → H) :
    ReturnsInHanded {} Try.checked os 7 .any (Rows.orderSmallSpec.pre6 enc Try.prog Try.f7 Rows.orderSmallRow.domain false) (Rows.orderSmallSpec.post enc Try.prog Try.f7 false true false false) := by
  refine lift_true (C := Try.checked) (tb := 4) Try.own started (by kernel_rfl) Try.func7
    (ChangeSpec.witness6 (enc := enc) (C := Try.checked) false ⟨#[], #[], []⟩ 8 (by kernel_rfl) (by kernel_rfl) (by kernel_rfl) (by kernel_rfl))
    Try.laidOut ?_ rfl rfl Try.underlying4 rfl ?_ ?_
  · rw [Try.params7]
    intro t ht
    simp at ht
    
  · intro ds hd
    rw [Try.params7] at hd
    rw [List.append_nil]
    rcases ds with _ | ⟨d0, ds⟩
    all_goals first | exact ⟨rfl, rfl, rfl⟩ | (simp at hd)
  intro W base args ds p hval hA hlt
  rw [Try.params7] at hA hval
  obtain ⟨rfl, rfl, rfl⟩ := trodAll_none hA

  exact calls_true (P := Try.prog) (fn := Try.f7) Go.Proofs.OrdG.follows Try.func7 (by kernel_rfl) (by kernel_rfl) W
    (Eq.mpr (Go.Proofs.OrdG.E_salvorlaw11_OrderSmall  _ W.heap) (Go.Proofs.OrdG.orderSmall_F _ fun x h hx => hx))

theorem orderSmall_holds : Rows.OrderSmallSaid :=
  OpenClaim.holds_of_wide 7 Try.f7 rfl rfl rfl rfl rfl rfl rfl ⟨rfl, rfl, rfl, rfl, rfl⟩ rfl rfl rfl rfl rfl (by kernel_rfl) Try.func7 (by kernel_rfl)
    (of_decide_eq_true (by kernel_rfl)) (by unfold Func.isWrapper; first | (rw [if_pos (by decide +kernel)]; kernel_rfl) | (rw [if_neg (by decide +kernel)]; exact ⟨rfl, rfl⟩))
    (fun os started H enc _ => orderSmall_lifted os started H enc)

end Go.Proofs.Ytkfdfbgceockpaa
