/-
  RatSearches: the given statement, with no condition.
-/
import Derived.Test.YtjkgncibelojnaaGreatRcJ
import Derived.Test.YtjkgncibelojnaaGreatSxOp
set_option linter.unusedVariables false
namespace Go.Proofs.YtjkgncibelojnaaGreat
open Go Go.Sx Go.ChangeShapes Go.WideShapes Go.ChangeAt Go.RowKit

set_option maxRecDepth 100000 in
theorem ratSearches_lifted (os : Os) (started : os.Started) (H : Type) (enc : TypeId × Value → H) :
    ReturnsInHanded {} Tryz.checked os 7 .any (Rows.ratSearchesSpec.pre6 enc Tryz.prog Tryz.f7 Rows.ratSearchesRow.domain false) (Rows.ratSearchesSpec.post enc Tryz.prog Tryz.f7 false true false false) := by
  refine lift_true (C := Tryz.checked) (tb := 4) own_ started (by kernel_rfl) Tryz.func7
    (ChangeSpec.witness6 (enc := enc) (C := Tryz.checked) false ⟨#[], #[.slice none 0 0, .slice none 0 0], []⟩ 8 (by kernel_rfl) (by kernel_rfl) (by kernel_rfl) (by kernel_rfl))
    laidOut_ ?_ rfl rfl Tryz.underlying4 rfl ?_ ?_
  · rw [Tryz.params7]
    intro t ht
    simp at ht
    rcases ht with rfl | rfl <;> exact ⟨by kernel_rfl, of_decide_eq_true (by kernel_rfl)⟩
  · intro ds hd
    rw [Tryz.params7] at hd
    rw [List.append_nil]
    rcases ds with _ | ⟨d0, _ | ⟨d1, _ | ⟨d2, ds⟩⟩⟩
    all_goals first | exact ⟨rfl, rfl, rfl⟩ | (simp at hd)
  intro W base args ds p hval hA hlt
  rw [Tryz.params7] at hA hval
  obtain ⟨v0, v1, d0, d1, p0, p1, rfl, rfl, rfl, h0, h1⟩ := trodAll_two hA
  obtain ⟨s0, x0, rfl, at0, w0⟩ := arg_ents (hval 0 25 v0 rfl rfl) h0
  obtain ⟨s1, x1, rfl, at1, w1⟩ := arg_cl28 (hval 1 28 v1 rfl rfl) h1
  exact calls_true (P := Tryz.prog) (fn := Tryz.f7) Go.Proofs.S.follows Tryz.func7 (by kernel_rfl) (by kernel_rfl) W
    (Eq.mpr (Go.Proofs.S.E_salvorlaw09_RatSearches s0 s1 _ W.heap) (Go.Proofs.S.ratSearches_F at0 at1 _ fun x h hx => hx))

theorem ratSearches_holds : Rows.RatSearchesSaid :=
  OpenClaim.holds_of_wide 7 Tryz.f7 rfl rfl rfl rfl rfl rfl rfl ⟨rfl, rfl, rfl, rfl, rfl⟩ rfl rfl rfl rfl rfl (by kernel_rfl) Tryz.func7 (by kernel_rfl)
    (of_decide_eq_true (by kernel_rfl)) (by unfold Func.isWrapper; first | (rw [if_pos (by decide +kernel)]; kernel_rfl) | (rw [if_neg (by decide +kernel)]; exact ⟨rfl, rfl⟩))
    (fun os started H enc _ => ratSearches_lifted os started H enc)

end Go.Proofs.YtjkgncibelojnaaGreat
