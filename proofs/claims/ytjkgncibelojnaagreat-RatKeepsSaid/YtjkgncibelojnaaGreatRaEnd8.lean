/-
  RatKeeps: the given statement, with no condition.
-/
import Derived.Test.YtjkgncibelojnaaGreatRaP
import Derived.Test.YtjkgncibelojnaaGreatSxOp
set_option linter.unusedVariables false
namespace Go.Proofs.YtjkgncibelojnaaGreat
open Go Go.Sx Go.ChangeShapes Go.WideShapes Go.ChangeAt Go.RowKit

set_option maxRecDepth 100000 in
theorem ratKeeps_lifted (os : Os) (started : os.Started) (H : Type) (enc : TypeId × Value → H) :
    ReturnsInHanded {} Tryz.checked os 8 .any (Rows.ratKeepsSpec.pre6 enc Tryz.prog Tryz.f8 Rows.ratKeepsRow.domain false) (Rows.ratKeepsSpec.post enc Tryz.prog Tryz.f8 false true false false) := by
  refine lift_true (C := Tryz.checked) (tb := 4) own_ started (by kernel_rfl) Tryz.func8
    (ChangeSpec.witness6 (enc := enc) (C := Tryz.checked) false ⟨#[], #[.slice none 0 0, .slice none 0 0, .slice none 0 0, .slice none 0 0], []⟩ 8 (by kernel_rfl) (by kernel_rfl) (by kernel_rfl) (by kernel_rfl))
    laidOut_ ?_ rfl rfl Tryz.underlying4 rfl ?_ ?_
  · rw [Tryz.params8]
    intro t ht
    simp at ht
    rcases ht with rfl | rfl | rfl | rfl <;> exact ⟨by kernel_rfl, of_decide_eq_true (by kernel_rfl)⟩
  · intro ds hd
    rw [Tryz.params8] at hd
    rw [List.append_nil]
    rcases ds with _ | ⟨d0, _ | ⟨d1, _ | ⟨d2, _ | ⟨d3, _ | ⟨d4, ds⟩⟩⟩⟩⟩
    all_goals first | exact ⟨rfl, rfl, rfl⟩ | (simp at hd)
  intro W base args ds p hval hA hlt
  rw [Tryz.params8] at hA hval
  obtain ⟨v0, v1, v2, v3, d0, d1, d2, d3, p0, p1, p2, p3, rfl, rfl, rfl, h0, h1, h2, h3⟩ := trod4 hA
  obtain ⟨s0, x0, rfl, at0, w0⟩ := ll_i8 (hval 0 22 v0 rfl rfl) h0
  obtain ⟨s1, x1, rfl, at1, w1⟩ := sl_i8 (hval 1 23 v1 rfl rfl) h1
  obtain ⟨s2, x2, rfl, at2, w2⟩ := sl_u8 (hval 2 61 v2 rfl rfl) h2
  obtain ⟨s3, x3, rfl, at3, w3⟩ := ll_u8 (hval 3 62 v3 rfl rfl) h3
  exact calls_true (P := Tryz.prog) (fn := Tryz.f8) Go.Proofs.S.follows Tryz.func8 (by kernel_rfl) (by kernel_rfl) W
    (Eq.mpr (Go.Proofs.S.E_salvorlaw09_RatKeeps s0 s1 s2 s3 _ W.heap) (Go.Proofs.S.ratKeeps_F at0 at1 at2 at3 _ fun x h hx => hx))

theorem ratKeeps_holds : Rows.RatKeepsSaid :=
  OpenClaim.holds_of_wide 8 Tryz.f8 rfl rfl rfl rfl rfl rfl rfl ⟨rfl, rfl, rfl, rfl, rfl⟩ rfl rfl rfl rfl rfl (by kernel_rfl) Tryz.func8 (by kernel_rfl)
    (of_decide_eq_true (by kernel_rfl)) (by unfold Func.isWrapper; first | (rw [if_pos (by decide +kernel)]; kernel_rfl) | (rw [if_neg (by decide +kernel)]; exact ⟨rfl, rfl⟩))
    (fun os started H enc _ => ratKeeps_lifted os started H enc)

end Go.Proofs.YtjkgncibelojnaaGreat
