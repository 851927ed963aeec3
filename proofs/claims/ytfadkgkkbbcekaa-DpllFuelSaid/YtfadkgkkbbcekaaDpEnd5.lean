/-
  DpllFuel: the given statement, with no condition.
-/
import Derived.Test.YtfadkgkkbbcekaaDpM
import Derived.Test.YtfadkgkkbbcekaaSxOp
set_option linter.unusedVariables false
namespace Go.Proofs.Ytfadkgkkbbcekaa
open Go Go.Sx Go.ChangeShapes Go.WideShapes Go.ChangeAt Go.RowKit

set_option maxRecDepth 100000 in
theorem dpllFuel_lifted (os : Os) (started : os.Started) (H : Type) (enc : TypeId × Value → H) :
    ReturnsInHanded {} Try.checked os 5 .any (Rows.dpllFuelSpec.pre6 enc Try.prog Try.f5 Rows.dpllFuelRow.domain false) (Rows.dpllFuelSpec.post enc Try.prog Try.f5 false true false false) := by
  refine lift_true (C := Try.checked) (tb := 4) own_ started (by kernel_rfl) Try.func5
    (ChangeSpec.witness6 (enc := enc) (C := Try.checked) false ⟨#[], #[.slice none 0 0, .int .u16 0], []⟩ 8 (by kernel_rfl) (by kernel_rfl) (by kernel_rfl) (by kernel_rfl))
    laidOut_ ?_ rfl rfl Try.underlying4 rfl ?_ ?_
  · rw [Try.params5]
    intro t ht
    simp at ht
    rcases ht with rfl | rfl <;> exact ⟨by kernel_rfl, of_decide_eq_true (by kernel_rfl)⟩
  · intro ds hd
    rw [Try.params5] at hd
    rw [List.append_nil]
    rcases ds with _ | ⟨d0, _ | ⟨d1, _ | ⟨d2, ds⟩⟩⟩
    all_goals first | exact ⟨rfl, rfl, rfl⟩ | (simp at hd)
  intro W base args ds p hval hA hlt
  rw [Try.params5] at hA hval
  obtain ⟨v0, v1, d0, d1, p0, p1, rfl, rfl, rfl, h0, h1⟩ := trodAll_two hA
  obtain ⟨s0, x0, rfl, at0, w0⟩ := arg_uu (hval 0 30 v0 rfl rfl) h0
  obtain ⟨k1, rfl, rfl, rfl, w1⟩ := open_int Try.underlying48 (hval 1 48 v1 rfl rfl) h1
  exact calls_true (P := Try.prog) (fn := Try.f5) Go.Proofs.S.follows Try.func5 (by kernel_rfl) (by kernel_rfl) W
    (Eq.mpr (Go.Proofs.S.E_salvorlaw19_DpllFuel s0 k1 _ W.heap) (Go.Proofs.S.dpllFuel_F at0 w0 (wf_u16 w1).1 (by have := (wf_u16 w1).2; omega) _ fun x h hx => hx))

theorem dpllFuel_holds : Rows.DpllFuelSaid :=
  OpenClaim.holds_of_wide 5 Try.f5 rfl rfl rfl rfl rfl rfl rfl ⟨rfl, rfl, rfl, rfl, rfl⟩ rfl rfl rfl rfl rfl (by kernel_rfl) Try.func5 (by kernel_rfl)
    (of_decide_eq_true (by kernel_rfl)) (by unfold Func.isWrapper; first | (rw [if_pos (by decide +kernel)]; kernel_rfl) | (rw [if_neg (by decide +kernel)]; exact ⟨rfl, rfl⟩))
    (fun os started H enc _ => dpllFuel_lifted os started H enc)

end Go.Proofs.Ytfadkgkkbbcekaa
