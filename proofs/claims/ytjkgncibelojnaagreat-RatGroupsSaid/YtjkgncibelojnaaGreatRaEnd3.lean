/-
  RatGroups: the given statement, with no condition.
-/
import Derived.Test.YtjkgncibelojnaaGreatRaS
set_option linter.unusedVariables false
namespace Go.Proofs.YtjkgncibelojnaaGreat
open Go Go.Sx Go.ChangeShapes Go.WideShapes Go.ChangeAt Go.RowKit

set_option maxRecDepth 100000 in
theorem ratGroups_lifted (os : Os) (started : os.Started) (H : Type) (enc : TypeId × Value → H) :
    ReturnsInHanded {} Tryz.checked os 3 .any (Rows.ratGroupsSpec.pre6 enc Tryz.prog Tryz.f3 Rows.ratGroupsRow.domain false) (Rows.ratGroupsSpec.post enc Tryz.prog Tryz.f3 false true false false) := by
  refine lift_true (C := Tryz.checked) (tb := 4) own_ started (by kernel_rfl) Tryz.func3
    (ChangeSpec.witness6 (enc := enc) (C := Tryz.checked) false ⟨#[], #[.slice none 0 0, .slice none 0 0, .int .u8 0], []⟩ 8 (by kernel_rfl) (by kernel_rfl) (by kernel_rfl) (by kernel_rfl))
    laidOut_ ?_ rfl rfl Tryz.underlying4 rfl ?_ ?_
  · rw [Tryz.params3]
    intro t ht
    simp at ht
    rcases ht with rfl | rfl | rfl <;> exact ⟨by kernel_rfl, of_decide_eq_true (by kernel_rfl)⟩
  · intro ds hd
    rw [Tryz.params3] at hd
    rw [List.append_nil]
    rcases ds with _ | ⟨d0, _ | ⟨d1, _ | ⟨d2, _ | ⟨d3, ds⟩⟩⟩⟩
    all_goals first | exact ⟨rfl, rfl, rfl⟩ | (simp at hd)
  intro W base args ds p hval hA hlt
  rw [Tryz.params3] at hA hval
  obtain ⟨v0, v1, v2, d0, d1, d2, p0, p1, p2, rfl, rfl, rfl, h0, h1, h2⟩ := trodAll_three hA
  obtain ⟨s0, x0, rfl, at0, w0⟩ := ll_i8 (hval 0 22 v0 rfl rfl) h0
  obtain ⟨s1, x1, rfl, at1, w1⟩ := sl_i8 (hval 1 23 v1 rfl rfl) h1
  obtain ⟨k2, rfl, rfl, rfl, w2⟩ := open_int Tryz.underlying5 (hval 2 5 v2 rfl rfl) h2
  exact calls_true (P := Tryz.prog) (fn := Tryz.f3) Go.Proofs.S.follows Tryz.func3 (by kernel_rfl) (by kernel_rfl) W
    (Eq.mpr (Go.Proofs.S.E_salvorlaw09_RatGroups s0 s1 k2 _ W.heap) (Go.Proofs.S.ratGroups_F at0 at1 (by have := wf_u8 w2; omega) (by have := wf_u8 w2; omega) _ fun x h hx => hx))

theorem ratGroups_holds : Rows.RatGroupsSaid :=
  OpenClaim.holds_of_wide 3 Tryz.f3 rfl rfl rfl rfl rfl rfl rfl ⟨rfl, rfl, rfl, rfl, rfl⟩ rfl rfl rfl rfl rfl (by kernel_rfl) Tryz.func3 (by kernel_rfl)
    (of_decide_eq_true (by kernel_rfl)) (by unfold Func.isWrapper; first | (rw [if_pos (by decide +kernel)]; kernel_rfl) | (rw [if_neg (by decide +kernel)]; exact ⟨rfl, rfl⟩))
    (fun os started H enc _ => ratGroups_lifted os started H enc)

end Go.Proofs.YtjkgncibelojnaaGreat
