/-
  RatRepairs: the given statement, with no condition.
-/
import Derived.Test.YtjkgncibelojnaaRaL
import Derived.Test.YtjkgncibelojnaaSxOp
set_option linter.unusedVariables false
namespace Go.Proofs.Ytjkgncibelojnaa
open Go Go.Sx Go.ChangeShapes Go.WideShapes Go.ChangeAt Go.RowKit

set_option maxRecDepth 100000 in
theorem ratRepairs_lifted (os : Os) (started : os.Started) (H : Type) (enc : TypeId × Value → H) :
    ReturnsInHanded {} Try.checked os 3 .any (Rows.ratRepairsSpec.pre6 enc Try.prog Try.f3 Rows.ratRepairsRow.domain false) (Rows.ratRepairsSpec.post enc Try.prog Try.f3 false true false false) := by
  refine lift_true (C := Try.checked) (tb := 4) own_ started (by kernel_rfl) Try.func3
    (ChangeSpec.witness6 (enc := enc) (C := Try.checked) false ⟨#[], #[.slice none 0 0, .slice none 0 0], []⟩ 8 (by kernel_rfl) (by kernel_rfl) (by kernel_rfl) (by kernel_rfl))
    laidOut_ ?_ rfl rfl Try.underlying4 rfl ?_ ?_
  · rw [Try.params3]
    intro t ht
    simp at ht
    rcases ht with rfl | rfl <;> exact ⟨by kernel_rfl, of_decide_eq_true (by kernel_rfl)⟩
  · intro ds hd
    rw [Try.params3] at hd
    rw [List.append_nil]
    rcases ds with _ | ⟨d0, _ | ⟨d1, _ | ⟨d2, ds⟩⟩⟩
    all_goals first | exact ⟨rfl, rfl, rfl⟩ | (simp at hd)
  intro W base args ds p hval hA hlt
  rw [Try.params3] at hA hval
  obtain ⟨v0, v1, d0, d1, p0, p1, rfl, rfl, rfl, h0, h1⟩ := trodAll_two hA
  obtain ⟨s0, x0, rfl, at0, w0⟩ := sl_i8 (hval 0 22 v0 rfl rfl) h0
  obtain ⟨s1, x1, rfl, at1, w1⟩ := sl_i8 (hval 1 22 v1 rfl rfl) h1
  exact calls_true (P := Try.prog) (fn := Try.f3) Go.Proofs.S.follows Try.func3 (by kernel_rfl) (by kernel_rfl) W
    (Eq.mpr (Go.Proofs.S.E_salvorlaw09_RatRepairs s0 s1 _ W.heap) (Go.Proofs.S.ratRepairs_F at0 at1 _ fun x h hx => hx))

theorem ratRepairs_holds : Rows.RatRepairsSaid :=
  OpenClaim.holds_of_wide 3 Try.f3 rfl rfl rfl rfl rfl rfl rfl ⟨rfl, rfl, rfl, rfl, rfl⟩ rfl rfl rfl rfl rfl (by kernel_rfl) Try.func3 (by kernel_rfl)
    (of_decide_eq_true (by kernel_rfl)) (by unfold Func.isWrapper; first | (rw [if_pos (by decide +kernel)]; kernel_rfl) | (rw [if_neg (by decide +kernel)]; exact ⟨rfl, rfl⟩))
    (fun os started H enc _ => ratRepairs_lifted os started H enc)

end Go.Proofs.Ytjkgncibelojnaa
