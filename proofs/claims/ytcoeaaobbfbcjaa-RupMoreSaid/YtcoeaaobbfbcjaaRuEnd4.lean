/-
  RupMore: the given statement, with no condition.
-/
import Derived.Test.YtcoeaaobbfbcjaaRuL4
import Derived.Test.YtcoeaaobbfbcjaaSxOp
set_option linter.unusedVariables false
namespace Go.Proofs.Ytcoeaaobbfbcjaa
open Go Go.Sx Go.ChangeShapes Go.WideShapes Go.ChangeAt Go.RowKit

set_option maxRecDepth 100000 in
theorem rupMore_lifted (os : Os) (started : os.Started) (H : Type) (enc : TypeId × Value → H) :
    ReturnsInHanded {} Try.checked os 7 .any (Rows.rupMoreSpec.pre6 enc Try.prog Try.f7 Rows.rupMoreRow.domain false) (Rows.rupMoreSpec.post enc Try.prog Try.f7 false true false false) := by
  refine lift_true (C := Try.checked) (tb := 4) Try.own started (by kernel_rfl) Try.func7
    (ChangeSpec.witness6 (enc := enc) (C := Try.checked) false ⟨#[], #[.slice none 0 0, .slice none 0 0, .slice none 0 0, .slice none 0 0, .int .u8 0], []⟩ 8 (by kernel_rfl) (by kernel_rfl) (by kernel_rfl) (by kernel_rfl))
    Try.laidOut ?_ rfl rfl Try.underlying4 rfl ?_ ?_
  · rw [Try.params7]
    intro t ht
    simp at ht
    rcases ht with rfl | rfl | rfl | rfl | rfl <;> exact ⟨by kernel_rfl, of_decide_eq_true (by kernel_rfl)⟩
  · intro ds hd
    rw [Try.params7] at hd
    rw [List.append_nil]
    rcases ds with _ | ⟨d0, _ | ⟨d1, _ | ⟨d2, _ | ⟨d3, _ | ⟨d4, _ | ⟨d5, ds⟩⟩⟩⟩⟩⟩
    all_goals first | exact ⟨rfl, rfl, rfl⟩ | (simp at hd)
  intro W base args ds p hval hA hlt
  rw [Try.params7] at hA hval
  obtain ⟨v0, v1, v2, v3, v4, d0, d1, d2, d3, d4, p0, p1, p2, p3, p4, rfl, rfl, rfl, h0, h1, h2, h3, h4⟩ := trod5 hA
  obtain ⟨s0, x0, rfl, at0, w0⟩ := sl_i8 (hval 0 22 v0 rfl rfl) h0
  obtain ⟨s1, x1, rfl, at1, w1⟩ := sl_i8 (hval 1 22 v1 rfl rfl) h1
  obtain ⟨s2, x2, rfl, at2, w2⟩ := ll_i8 (hval 2 23 v2 rfl rfl) h2
  obtain ⟨s3, x3, rfl, at3, w3⟩ := ll_i8 (hval 3 23 v3 rfl rfl) h3
  obtain ⟨k4, rfl, rfl, rfl, w4⟩ := open_int Try.underlying5 (hval 4 5 v4 rfl rfl) h4
  exact calls_true (P := Try.prog) (fn := Try.f7) Go.Proofs.S.follows Try.func7 (by kernel_rfl) (by kernel_rfl) W
    (Eq.mpr (Go.Proofs.S.E_salvorlaw08_RupMore s0 s1 s2 s3 k4 _ W.heap) (Go.Proofs.S.rupMore_F at0 at1 at2 at3 (by have := wf_u8 w4; omega) _ fun x h hx => hx))

theorem rupMore_holds : Rows.RupMoreSaid :=
  OpenClaim.holds_of_wide 7 Try.f7 rfl rfl rfl rfl rfl rfl rfl ⟨rfl, rfl, rfl, rfl, rfl⟩ rfl rfl rfl rfl rfl (by kernel_rfl) Try.func7 (by kernel_rfl)
    (of_decide_eq_true (by kernel_rfl)) (by unfold Func.isWrapper; first | (rw [if_pos (by decide +kernel)]; kernel_rfl) | (rw [if_neg (by decide +kernel)]; exact ⟨rfl, rfl⟩))
    (fun os started H enc _ => rupMore_lifted os started H enc)

end Go.Proofs.Ytcoeaaobbfbcjaa
