/-
  RupFollows: the given statement, with no condition.
-/
import Derived.Test.YtcoeaaobbfbcjaaRuW
import Derived.Test.YtcoeaaobbfbcjaaSxOp
set_option linter.unusedVariables false
namespace Go.Proofs.Ytcoeaaobbfbcjaa
open Go Go.Sx Go.ChangeShapes Go.WideShapes Go.ChangeAt Go.RowKit

set_option maxRecDepth 100000 in
theorem rupFollows_lifted (os : Os) (started : os.Started) (H : Type) (enc : TypeId × Value → H) :
    ReturnsInHanded {} Try.checked os 10 .any (Rows.rupFollowsSpec.pre6 enc Try.prog Try.f10 Rows.rupFollowsRow.domain false) (Rows.rupFollowsSpec.post enc Try.prog Try.f10 false true false false) := by
  refine lift_true (C := Try.checked) (tb := 4) Try.own started (by kernel_rfl) Try.func10
    (ChangeSpec.witness6 (enc := enc) (C := Try.checked) false ⟨#[], #[.slice none 0 0, .slice none 0 0, .slice none 0 0], []⟩ 8 (by kernel_rfl) (by kernel_rfl) (by kernel_rfl) (by kernel_rfl))
    Try.laidOut ?_ rfl rfl Try.underlying4 rfl ?_ ?_
  · rw [Try.params10]
    intro t ht
    simp at ht
    rcases ht with rfl | rfl | rfl <;> exact ⟨by kernel_rfl, of_decide_eq_true (by kernel_rfl)⟩
  · intro ds hd
    rw [Try.params10] at hd
    rw [List.append_nil]
    rcases ds with _ | ⟨d0, _ | ⟨d1, _ | ⟨d2, _ | ⟨d3, ds⟩⟩⟩⟩
    all_goals first | exact ⟨rfl, rfl, rfl⟩ | (simp at hd)
  intro W base args ds p hval hA hlt
  rw [Try.params10] at hA hval
  obtain ⟨v0, v1, v2, d0, d1, d2, p0, p1, p2, rfl, rfl, rfl, h0, h1, h2⟩ := trodAll_three hA
  obtain ⟨s0, x0, rfl, at0, w0⟩ := sl_ll (hval 0 25 v0 rfl rfl) h0
  obtain ⟨s1, x1, rfl, at1, w1⟩ := sl_cl (hval 1 26 v1 rfl rfl) h1
  obtain ⟨s2, x2, rfl, at2, w2⟩ := ll_cl (hval 2 28 v2 rfl rfl) h2
  exact calls_true (P := Try.prog) (fn := Try.f10) Go.Proofs.S.follows Try.func10 (by kernel_rfl) (by kernel_rfl) W
    (Eq.mpr (Go.Proofs.S.E_salvorlaw08_RupFollows s0 s1 s2 _ W.heap) (Go.Proofs.S.rupFollows_F at0 at1 at2 _ fun x h hx => hx))

theorem rupFollows_holds : Rows.RupFollowsSaid :=
  OpenClaim.holds_of_wide 10 Try.f10 rfl rfl rfl rfl rfl rfl rfl ⟨rfl, rfl, rfl, rfl, rfl⟩ rfl rfl rfl rfl rfl (by kernel_rfl) Try.func10 (by kernel_rfl)
    (of_decide_eq_true (by kernel_rfl)) (by unfold Func.isWrapper; first | (rw [if_pos (by decide +kernel)]; kernel_rfl) | (rw [if_neg (by decide +kernel)]; exact ⟨rfl, rfl⟩))
    (fun os started H enc _ => rupFollows_lifted os started H enc)

end Go.Proofs.Ytcoeaaobbfbcjaa
