/-
  RatTells: the given statement, with no condition.
-/
import Derived.Test.YtjkgncibelojnaaGreatRcE
import Derived.Test.YtjkgncibelojnaaGreatSxOp
set_option linter.unusedVariables false
namespace Go.Proofs.YtjkgncibelojnaaGreat
open Go Go.Sx Go.ChangeShapes Go.WideShapes Go.ChangeAt Go.RowKit

set_option maxRecDepth 100000 in
theorem ratTells_lifted (os : Os) (started : os.Started) (H : Type) (enc : TypeId × Value → H) :
    ReturnsInHanded {} Tryz.checked os 6 .any (Rows.ratTellsSpec.pre6 enc Tryz.prog Tryz.f6 Rows.ratTellsRow.domain false) (Rows.ratTellsSpec.post enc Tryz.prog Tryz.f6 false true false false) := by
  refine lift_true (C := Tryz.checked) (tb := 4) own_ started (by kernel_rfl) Tryz.func6
    (ChangeSpec.witness6 (enc := enc) (C := Tryz.checked) false ⟨#[], #[.slice none 0 0, .int .i64 0, .slice none 0 0, .slice none 0 0, .slice none 0 0, .slice none 0 0], []⟩ 8 (by kernel_rfl) (by kernel_rfl) (by kernel_rfl) (by kernel_rfl))
    laidOut_ ?_ rfl rfl Tryz.underlying4 rfl ?_ ?_
  · rw [Tryz.params6]
    intro t ht
    simp at ht
    rcases ht with rfl | rfl | rfl | rfl | rfl | rfl <;> exact ⟨by kernel_rfl, of_decide_eq_true (by kernel_rfl)⟩
  · intro ds hd
    rw [Tryz.params6] at hd
    rw [List.append_nil]
    rcases ds with _ | ⟨d0, _ | ⟨d1, _ | ⟨d2, _ | ⟨d3, _ | ⟨d4, _ | ⟨d5, _ | ⟨d6, ds⟩⟩⟩⟩⟩⟩⟩
    all_goals first | exact ⟨rfl, rfl, rfl⟩ | (simp at hd)
  intro W base args ds p hval hA hlt
  rw [Tryz.params6] at hA hval
  obtain ⟨v0, v1, v2, v3, v4, v5, d0, d1, d2, d3, d4, d5, p0, p1, p2, p3, p4, p5, rfl, rfl, rfl, h0, h1, h2, h3, h4, h5⟩ := trod6 hA
  obtain ⟨s0, x0, rfl, at0, w0⟩ := arg_ents (hval 0 25 v0 rfl rfl) h0
  obtain ⟨k1, rfl, rfl, rfl, w1⟩ := open_int Tryz.underlying3 (hval 1 3 v1 rfl rfl) h1
  obtain ⟨s2, x2, rfl, at2, w2⟩ := arg_ints30 (hval 2 30 v2 rfl rfl) h2
  obtain ⟨s3, x3, rfl, at3, w3⟩ := arg_grps (hval 3 31 v3 rfl rfl) h3
  obtain ⟨s4, x4, rfl, at4, w4⟩ := arg_cl28 (hval 4 28 v4 rfl rfl) h4
  obtain ⟨s5, x5, rfl, at5, w5⟩ := arg_l27 (hval 5 27 v5 rfl rfl) h5
  exact calls_true (P := Tryz.prog) (fn := Tryz.f6) Go.Proofs.S.follows Tryz.func6 (by kernel_rfl) (by kernel_rfl) W
    (Eq.mpr (Go.Proofs.S.E_salvorlaw09_RatTells s0 k1 s2 s3 s4 s5 _ W.heap) (Go.Proofs.S.ratTells_F at0 at2 at3 at4 at5 _ fun x h hx => hx))

theorem ratTells_holds : Rows.RatTellsSaid :=
  OpenClaim.holds_of_wide 6 Tryz.f6 rfl rfl rfl rfl rfl rfl rfl ⟨rfl, rfl, rfl, rfl, rfl⟩ rfl rfl rfl rfl rfl (by kernel_rfl) Tryz.func6 (by kernel_rfl)
    (of_decide_eq_true (by kernel_rfl)) (by unfold Func.isWrapper; first | (rw [if_pos (by decide +kernel)]; kernel_rfl) | (rw [if_neg (by decide +kernel)]; exact ⟨rfl, rfl⟩))
    (fun os started H enc _ => ratTells_lifted os started H enc)

end Go.Proofs.YtjkgncibelojnaaGreat
