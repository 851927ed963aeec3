/-
  CrashWrites: the given statement, with no condition.
-/
import Derived.Test.YtchedlkmgahicaaCrW4
import Derived.Test.YtchedlkmgahicaaCrEnd0
set_option linter.unusedVariables false
namespace Go.Proofs.Ytchedlkmgahicaa
open Go Go.Sx Go.ChangeShapes Go.WideShapes Go.ChangeAt Go.RowKit

set_option maxRecDepth 100000 in
theorem crashWrites_lifted (os : Os) (started : os.Started) (H : Type) (enc : TypeId × Value → H) :
    ReturnsInHanded {} Try.checked os 5 .any (Rows.crashWritesSpec.pre6 enc Try.prog Try.f5 Rows.crashWritesRow.domain false) (Rows.crashWritesSpec.post enc Try.prog Try.f5 false true false false) := by
  refine lift_true (C := Try.checked) (tb := 4) Try.own started (by kernel_rfl) Try.func5
    (ChangeSpec.witness6 (enc := enc) (C := Try.checked) false ⟨#[], #[.agg #[.int .u8 0, .int .u8 0, .int .u8 0], .slice none 0 0, .int .u8 0, .slice none 0 0, .slice none 0 0], []⟩ 8 (by kernel_rfl) (by kernel_rfl) (by kernel_rfl) (by kernel_rfl))
    Try.laidOut ?_ rfl rfl Try.underlying4 rfl ?_ ?_
  · rw [Try.params5]
    intro t ht
    simp at ht
    rcases ht with rfl | rfl | rfl | rfl | rfl <;> exact ⟨by kernel_rfl, of_decide_eq_true (by kernel_rfl)⟩
  · intro ds hd
    rw [Try.params5] at hd
    rw [List.append_nil]
    rcases ds with _ | ⟨d0, _ | ⟨d1, _ | ⟨d2, _ | ⟨d3, _ | ⟨d4, _ | ⟨d5, ds⟩⟩⟩⟩⟩⟩
    all_goals first | exact ⟨rfl, rfl, rfl⟩ | (simp at hd)
  intro W base args ds p hval hA hlt
  rw [Try.params5] at hA hval
  obtain ⟨v0, v1, v2, v3, v4, d0, d1, d2, d3, d4, p0, p1, p2, p3, p4, rfl, rfl, rfl, h0, h1, h2, h3, h4⟩ := trod5 hA
  obtain ⟨s0, x0, rfl, at0, w0⟩ := arg_a3 (hval 0 40 v0 rfl rfl) h0
  obtain ⟨s1, x1, rfl, at1, w1⟩ := arg_u8 (hval 1 22 v1 rfl rfl) h1
  obtain ⟨k2, rfl, rfl, rfl, w2⟩ := open_int Try.underlying5 (hval 2 5 v2 rfl rfl) h2
  obtain ⟨s3, x3, rfl, at3, w3⟩ := arg_u8 (hval 3 22 v3 rfl rfl) h3
  obtain ⟨s4, x4, rfl, at4, w4⟩ := arg_u8 (hval 4 22 v4 rfl rfl) h4
  exact calls_true (P := Try.prog) (fn := Try.f5) Go.Proofs.S.follows Try.func5 (by kernel_rfl) (by kernel_rfl) W
    (Eq.mpr (Go.Proofs.S.E_salvorlaw35_CrashWrites _ s1 k2 s3 s4 _ W.heap) (Go.Proofs.S.crashWrites_I at1 at3 at4 w1 w3 w4 (by have := wf_u8 w2; omega) _ fun x h hx => hx))

theorem crashWrites_holds : Rows.CrashWritesSaid :=
  OpenClaim.holds_of_wide 5 Try.f5 rfl rfl rfl rfl rfl rfl rfl ⟨rfl, rfl, rfl, rfl, rfl⟩ rfl rfl rfl rfl rfl (by kernel_rfl) Try.func5 (by kernel_rfl)
    (of_decide_eq_true (by kernel_rfl)) (by unfold Func.isWrapper; first | (rw [if_pos (by decide +kernel)]; kernel_rfl) | (rw [if_neg (by decide +kernel)]; exact ⟨rfl, rfl⟩))
    (fun os started H enc _ => crashWrites_lifted os started H enc)

end Go.Proofs.Ytchedlkmgahicaa
