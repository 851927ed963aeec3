/-
  CrashValid: the given statement, with no condition.
-/
import Derived.Test.YtchedlkmgahicaaCrW2
import Derived.Test.YtchedlkmgahicaaCrEnd0
set_option linter.unusedVariables false
namespace Go.Proofs.Ytchedlkmgahicaa
open Go Go.Sx Go.ChangeShapes Go.WideShapes Go.ChangeAt Go.RowKit

set_option maxRecDepth 100000 in
theorem crashValid_lifted (os : Os) (started : os.Started) (H : Type) (enc : TypeId × Value → H) :
    ReturnsInHanded {} Try.checked os 10 .any (Rows.crashValidSpec.pre6 enc Try.prog Try.f10 Rows.crashValidRow.domain false) (Rows.crashValidSpec.post enc Try.prog Try.f10 false true false false) := by
  refine lift_true (C := Try.checked) (tb := 4) Try.own started (by kernel_rfl) Try.func10
    (ChangeSpec.witness6 (enc := enc) (C := Try.checked) false ⟨#[], #[.slice none 0 0, .int .u8 0, .int .u8 0, .slice none 0 0, .slice none 0 0], []⟩ 8 (by kernel_rfl) (by kernel_rfl) (by kernel_rfl) (by kernel_rfl))
    Try.laidOut ?_ rfl rfl Try.underlying4 rfl ?_ ?_
  · rw [Try.params10]
    intro t ht
    simp at ht
    rcases ht with rfl | rfl | rfl | rfl | rfl <;> exact ⟨by kernel_rfl, of_decide_eq_true (by kernel_rfl)⟩
  · intro ds hd
    rw [Try.params10] at hd
    rw [List.append_nil]
    rcases ds with _ | ⟨d0, _ | ⟨d1, _ | ⟨d2, _ | ⟨d3, _ | ⟨d4, _ | ⟨d5, ds⟩⟩⟩⟩⟩⟩
    all_goals first | exact ⟨rfl, rfl, rfl⟩ | (simp at hd)
  intro W base args ds p hval hA hlt
  rw [Try.params10] at hA hval
  obtain ⟨v0, v1, v2, v3, v4, d0, d1, d2, d3, d4, p0, p1, p2, p3, p4, rfl, rfl, rfl, h0, h1, h2, h3, h4⟩ := trod5 hA
  obtain ⟨s0, x0, rfl, at0, w0⟩ := arg_u8 (hval 0 22 v0 rfl rfl) h0
  obtain ⟨k1, rfl, rfl, rfl, w1⟩ := open_int Try.underlying5 (hval 1 5 v1 rfl rfl) h1
  obtain ⟨k2, rfl, rfl, rfl, w2⟩ := open_int Try.underlying5 (hval 2 5 v2 rfl rfl) h2
  obtain ⟨s3, x3, rfl, at3, w3⟩ := arg_u8 (hval 3 22 v3 rfl rfl) h3
  obtain ⟨s4, x4, rfl, at4, w4⟩ := arg_u8 (hval 4 22 v4 rfl rfl) h4
  exact calls_true (P := Try.prog) (fn := Try.f10) Go.Proofs.S.follows Try.func10 (by kernel_rfl) (by kernel_rfl) W
    (Eq.mpr (Go.Proofs.S.E_salvorlaw35_CrashValid s0 k1 k2 s3 s4 _ W.heap) (Go.Proofs.S.crashValid_I at0 at3 at4 w0 w3 w4 (by have := wf_u8 w1; omega) (by have := wf_u8 w2; omega) _ fun x h hx => hx))

theorem crashValid_holds : Rows.CrashValidSaid :=
  OpenClaim.holds_of_wide 10 Try.f10 rfl rfl rfl rfl rfl rfl rfl ⟨rfl, rfl, rfl, rfl, rfl⟩ rfl rfl rfl rfl rfl (by kernel_rfl) Try.func10 (by kernel_rfl)
    (of_decide_eq_true (by kernel_rfl)) (by unfold Func.isWrapper; first | (rw [if_pos (by decide +kernel)]; kernel_rfl) | (rw [if_neg (by decide +kernel)]; exact ⟨rfl, rfl⟩))
    (fun os started H enc _ => crashValid_lifted os started H enc)

end Go.Proofs.Ytchedlkmgahicaa
