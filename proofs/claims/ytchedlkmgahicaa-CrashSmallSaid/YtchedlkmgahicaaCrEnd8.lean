/-
  CrashSmall: the given statement, with no condition.
-/
import Derived.Test.YtchedlkmgahicaaCrW7
import Derived.Test.YtchedlkmgahicaaCrEnd0
set_option linter.unusedVariables false
namespace Go.Proofs.Ytchedlkmgahicaa
open Go Go.Sx Go.ChangeShapes Go.WideShapes Go.ChangeAt Go.RowKit

set_option maxRecDepth 100000 in
theorem crashSmall_lifted (os : Os) (started : os.Started) (H : Type) (enc : TypeId × Value → H) :
    ReturnsInHanded {} Try.checked os 8 .any (Rows.crashSmallSpec.pre6 enc Try.prog Try.f8 Rows.crashSmallRow.domain false) (Rows.crashSmallSpec.post enc Try.prog Try.f8 false true false false) := by
  refine lift_true (C := Try.checked) (tb := 4) Try.own started (by kernel_rfl) Try.func8
    (ChangeSpec.witness6 (enc := enc) (C := Try.checked) false ⟨#[], #[], []⟩ 8 (by kernel_rfl) (by kernel_rfl) (by kernel_rfl) (by kernel_rfl))
    Try.laidOut ?_ rfl rfl Try.underlying4 rfl ?_ ?_
  · rw [Try.params8]
    intro t ht
    simp at ht
    
  · intro ds hd
    rw [Try.params8] at hd
    rw [List.append_nil]
    rcases ds with _ | ⟨d0, ds⟩
    all_goals first | exact ⟨rfl, rfl, rfl⟩ | (simp at hd)
  intro W base args ds p hval hA hlt
  rw [Try.params8] at hA hval
  obtain ⟨rfl, rfl, rfl⟩ := trodAll_none hA

  exact calls_true (P := Try.prog) (fn := Try.f8) Go.Proofs.S.follows Try.func8 (by kernel_rfl) (by kernel_rfl) W
    (Eq.mpr (Go.Proofs.S.E_salvorlaw35_CrashSmall  _ W.heap) (Go.Proofs.S.crashSmall_F _ fun x h hx => hx))

theorem crashSmall_holds : Rows.CrashSmallSaid :=
  OpenClaim.holds_of_wide 8 Try.f8 rfl rfl rfl rfl rfl rfl rfl ⟨rfl, rfl, rfl, rfl, rfl⟩ rfl rfl rfl rfl rfl (by kernel_rfl) Try.func8 (by kernel_rfl)
    (of_decide_eq_true (by kernel_rfl)) (by unfold Func.isWrapper; first | (rw [if_pos (by decide +kernel)]; kernel_rfl) | (rw [if_neg (by decide +kernel)]; exact ⟨rfl, rfl⟩))
    (fun os started H enc _ => crashSmall_lifted os started H enc)

end Go.Proofs.Ytchedlkmgahicaa
