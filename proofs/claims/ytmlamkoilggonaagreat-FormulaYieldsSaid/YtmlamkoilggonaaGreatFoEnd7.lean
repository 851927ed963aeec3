/-
  FormulaYields: the given statement, with no condition.
-/
import Derived.Test.YtmlamkoilggonaaGreatFoYi
import Derived.Test.YtmlamkoilggonaaGreatFoEnd0
set_option linter.unusedVariables false
namespace Go.Proofs.YtmlamkoilggonaaGreat
open Go Go.Sx Go.ChangeShapes Go.WideShapes Go.ChangeAt Go.RowKit

set_option maxRecDepth 100000 in
theorem formulaYields_lifted (os : Os) (started : os.Started) (H : Type) (enc : TypeId × Value → H) :
    ReturnsInHanded {} Tryz.checked os 7 .any (Rows.formulaYieldsSpec.pre6 enc Tryz.prog Tryz.f7 Rows.formulaYieldsRow.domain false) (Rows.formulaYieldsSpec.post enc Tryz.prog Tryz.f7 false true false false) := by
  refine lift_true (C := Tryz.checked) (tb := 4) own_ started (by kernel_rfl) Tryz.func7
    (ChangeSpec.witness6 (enc := enc) (C := Tryz.checked) false ⟨#[], #[.slice none 0 0, .int .u8 0, .int .u8 0], []⟩ 8 (by kernel_rfl) (by kernel_rfl) (by kernel_rfl) (by kernel_rfl))
    laidOut_ ?_ rfl rfl Tryz.underlying4 rfl ?_ ?_
  · rw [Tryz.params7]
    intro t ht
    simp at ht
    rcases ht with rfl | rfl | rfl <;> exact ⟨by kernel_rfl, of_decide_eq_true (by kernel_rfl)⟩
  · intro ds hd
    rw [Tryz.params7] at hd
    rw [List.append_nil]
    rcases ds with _ | ⟨d0, _ | ⟨d1, _ | ⟨d2, _ | ⟨d3, ds⟩⟩⟩⟩
    all_goals first | exact ⟨rfl, rfl, rfl⟩ | (simp at hd)
  intro W base args ds p hval hA hlt
  rw [Tryz.params7] at hA hval
  obtain ⟨v0, v1, v2, d0, d1, d2, p0, p1, p2, rfl, rfl, rfl, h0, h1, h2⟩ := trodAll_three hA
  obtain ⟨s0, x0, rfl, at0, w0⟩ := arg_uu (hval 0 39 v0 rfl rfl) h0
  obtain ⟨k1, rfl, rfl, rfl, w1⟩ := open_int Tryz.underlying5 (hval 1 5 v1 rfl rfl) h1
  obtain ⟨k2, rfl, rfl, rfl, w2⟩ := open_int Tryz.underlying5 (hval 2 5 v2 rfl rfl) h2
  exact calls_true (P := Tryz.prog) (fn := Tryz.f7) Go.Proofs.S.follows Tryz.func7 (by kernel_rfl) (by kernel_rfl) W
    (Eq.mpr (Go.Proofs.S.E_salvorlaw05_FormulaYields s0 k1 k2 _ W.heap) (Go.Proofs.S.formulaYields_F at0 w0 (by have := wf_u8 w1; omega) (by have := wf_u8 w2; omega) _ fun x h hx => hx))

theorem formulaYields_holds : Rows.FormulaYieldsSaid :=
  OpenClaim.holds_of_wide 7 Tryz.f7 rfl rfl rfl rfl rfl rfl rfl ⟨rfl, rfl, rfl, rfl, rfl⟩ rfl rfl rfl rfl rfl (by kernel_rfl) Tryz.func7 (by kernel_rfl)
    (of_decide_eq_true (by kernel_rfl)) (by unfold Func.isWrapper; first | (rw [if_pos (by decide +kernel)]; kernel_rfl) | (rw [if_neg (by decide +kernel)]; exact ⟨rfl, rfl⟩))
    (fun os started H enc _ => formulaYields_lifted os started H enc)

end Go.Proofs.YtmlamkoilggonaaGreat
