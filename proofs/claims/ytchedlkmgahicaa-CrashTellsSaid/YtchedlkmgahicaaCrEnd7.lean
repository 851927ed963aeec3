/-
  CrashTells: the given statement, with no condition.
-/
import Derived.Test.YtchedlkmgahicaaCrW5
import Derived.Test.YtchedlkmgahicaaCrEnd0
set_option linter.unusedVariables false
namespace Go.Proofs.Ytchedlkmgahicaa
open Go Go.Sx Go.ChangeShapes Go.WideShapes Go.ChangeAt Go.RowKit

set_option maxRecDepth 100000 in
theorem crashTells_lifted (os : Os) (started : os.Started) (H : Type) (enc : TypeId × Value → H) :
    ReturnsInHanded {} Try.checked os 7 .any (Rows.crashTellsSpec.pre6 enc Try.prog Try.f7 Rows.crashTellsRow.domain false) (Rows.crashTellsSpec.post enc Try.prog Try.f7 false true false false) := by
  refine lift_true (C := Try.checked) (tb := 4) Try.own started (by kernel_rfl) Try.func7
    (ChangeSpec.witness6 (enc := enc) (C := Try.checked) false ⟨#[], #[.slice none 0 0, .slice none 0 0, .slice none 0 0], []⟩ 8 (by kernel_rfl) (by kernel_rfl) (by kernel_rfl) (by kernel_rfl))
    Try.laidOut ?_ rfl rfl Try.underlying4 rfl ?_ ?_
  · rw [Try.params7]
    intro t ht
    simp at ht
    rcases ht with rfl | rfl | rfl <;> exact ⟨by kernel_rfl, of_decide_eq_true (by kernel_rfl)⟩
  · intro ds hd
    rw [Try.params7] at hd
    rw [List.append_nil]
    rcases ds with _ | ⟨d0, _ | ⟨d1, _ | ⟨d2, _ | ⟨d3, ds⟩⟩⟩⟩
    all_goals first | exact ⟨rfl, rfl, rfl⟩ | (simp at hd)
  intro W base args ds p hval hA hlt
  rw [Try.params7] at hA hval
  obtain ⟨v0, v1, v2, d0, d1, d2, p0, p1, p2, rfl, rfl, rfl, h0, h1, h2⟩ := trodAll_three hA
  obtain ⟨s0, x0, rfl, at0, w0⟩ := arg_w32 (hval 0 37 v0 rfl rfl) h0
  obtain ⟨s1, x1, rfl, at1, w1⟩ := arg_ents (hval 1 24 v1 rfl rfl) h1
  obtain ⟨s2, x2, rfl, at2, w2⟩ := arg_bs (hval 2 29 v2 rfl rfl) h2
  exact calls_true (P := Try.prog) (fn := Try.f7) Go.Proofs.S.follows Try.func7 (by kernel_rfl) (by kernel_rfl) W
    (Eq.mpr (Go.Proofs.S.E_salvorlaw35_CrashTells s0 s1 s2 _ W.heap) (Go.Proofs.S.crashTells_F at0 w0 at1 w1 at2 _ fun x h hx => hx))

theorem crashTells_holds : Rows.CrashTellsSaid :=
  OpenClaim.holds_of_wide 7 Try.f7 rfl rfl rfl rfl rfl rfl rfl ⟨rfl, rfl, rfl, rfl, rfl⟩ rfl rfl rfl rfl rfl (by kernel_rfl) Try.func7 (by kernel_rfl)
    (of_decide_eq_true (by kernel_rfl)) (by unfold Func.isWrapper; first | (rw [if_pos (by decide +kernel)]; kernel_rfl) | (rw [if_neg (by decide +kernel)]; exact ⟨rfl, rfl⟩))
    (fun os started H enc _ => crashTells_lifted os started H enc)

end Go.Proofs.Ytchedlkmgahicaa
