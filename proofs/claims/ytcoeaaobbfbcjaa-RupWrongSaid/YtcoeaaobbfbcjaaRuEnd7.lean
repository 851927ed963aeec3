/-
  RupWrong: the given statement, with no condition.
-/
import Derived.Test.YtcoeaaobbfbcjaaRuL7
import Derived.Test.YtcoeaaobbfbcjaaSxOp
set_option linter.unusedVariables false
namespace Go.Proofs.Ytcoeaaobbfbcjaa
open Go Go.Sx Go.ChangeShapes Go.WideShapes Go.ChangeAt Go.RowKit

set_option maxRecDepth 100000 in
theorem rupWrong_lifted (os : Os) (started : os.Started) (H : Type) (enc : TypeId × Value → H) :
    ReturnsInHanded {} Try.checked os 12 .any (Rows.rupWrongSpec.pre6 enc Try.prog Try.f12 Rows.rupWrongRow.domain false) (Rows.rupWrongSpec.post enc Try.prog Try.f12 false true false false) := by
  refine lift_true (C := Try.checked) (tb := 4) Try.own started (by kernel_rfl) Try.func12
    (ChangeSpec.witness6 (enc := enc) (C := Try.checked) false ⟨#[], #[.slice none 0 0, .slice none 0 0, .int .i64 0, .int .u8 0], []⟩ 8 (by kernel_rfl) (by kernel_rfl) (by kernel_rfl) (by kernel_rfl))
    Try.laidOut ?_ rfl rfl Try.underlying4 rfl ?_ ?_
  · rw [Try.params12]
    intro t ht
    simp at ht
    rcases ht with rfl | rfl | rfl | rfl <;> exact ⟨by kernel_rfl, of_decide_eq_true (by kernel_rfl)⟩
  · intro ds hd
    rw [Try.params12] at hd
    rw [List.append_nil]
    rcases ds with _ | ⟨d0, _ | ⟨d1, _ | ⟨d2, _ | ⟨d3, _ | ⟨d4, ds⟩⟩⟩⟩⟩
    all_goals first | exact ⟨rfl, rfl, rfl⟩ | (simp at hd)
  intro W base args ds p hval hA hlt
  rw [Try.params12] at hA hval
  obtain ⟨v0, v1, v2, v3, d0, d1, d2, d3, p0, p1, p2, p3, rfl, rfl, rfl, h0, h1, h2, h3⟩ := trod4 hA
  obtain ⟨s0, x0, rfl, at0, w0⟩ := sl_i8 (hval 0 22 v0 rfl rfl) h0
  obtain ⟨s1, x1, rfl, at1, w1⟩ := ll_i8 (hval 1 23 v1 rfl rfl) h1
  obtain ⟨k2, rfl, rfl, rfl, w2⟩ := open_int Try.underlying3 (hval 2 3 v2 rfl rfl) h2
  obtain ⟨k3, rfl, rfl, rfl, w3⟩ := open_int Try.underlying5 (hval 3 5 v3 rfl rfl) h3
  exact calls_true (P := Try.prog) (fn := Try.f12) Go.Proofs.S.follows Try.func12 (by kernel_rfl) (by kernel_rfl) W
    (Eq.mpr (Go.Proofs.S.E_salvorlaw08_RupWrong s0 s1 k2 k3 _ W.heap) (Go.Proofs.S.rupWrong_F at0 at1 (by have := wf_u8 w3; omega) _ fun x h hx => hx))

theorem rupWrong_holds : Rows.RupWrongSaid :=
  OpenClaim.holds_of_wide 12 Try.f12 rfl rfl rfl rfl rfl rfl rfl ⟨rfl, rfl, rfl, rfl, rfl⟩ rfl rfl rfl rfl rfl (by kernel_rfl) Try.func12 (by kernel_rfl)
    (of_decide_eq_true (by kernel_rfl)) (by unfold Func.isWrapper; first | (rw [if_pos (by decide +kernel)]; kernel_rfl) | (rw [if_neg (by decide +kernel)]; exact ⟨rfl, rfl⟩))
    (fun os started H enc _ => rupWrong_lifted os started H enc)

end Go.Proofs.Ytcoeaaobbfbcjaa
