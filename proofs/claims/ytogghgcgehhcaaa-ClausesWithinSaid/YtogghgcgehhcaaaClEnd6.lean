/-
  ClausesWithin: the given statement, with no condition.
-/
import Derived.Test.YtogghgcgehhcaaaClW4
import Derived.Test.YtogghgcgehhcaaaClEnd0
set_option linter.unusedVariables false
namespace Go.Proofs.Ytogghgcgehhcaaa
open Go Go.Sx Go.ChangeShapes Go.WideShapes Go.ChangeAt Go.RowKit

set_option maxRecDepth 100000 in
theorem clausesWithin_lifted (os : Os) (started : os.Started) (H : Type) (enc : TypeId × Value → H) :
    ReturnsInHanded {} Try.checked os 6 .any (Rows.clausesWithinSpec.pre6 enc Try.prog Try.f6 Rows.clausesWithinRow.domain false) (Rows.clausesWithinSpec.post enc Try.prog Try.f6 false true false false) := by
  refine lift_true (C := Try.checked) (tb := 4) Try.own started (by kernel_rfl) Try.func6
    (ChangeSpec.witness6 (enc := enc) (C := Try.checked) false ⟨#[], #[.slice none 0 0, .slice none 0 0, .slice none 0 0], []⟩ 8 (by kernel_rfl) (by kernel_rfl) (by kernel_rfl) (by kernel_rfl))
    Try.laidOut ?_ rfl rfl Try.underlying4 rfl ?_ ?_
  · rw [Try.params6]
    intro t ht
    simp at ht
    rcases ht with rfl | rfl | rfl <;> exact ⟨by kernel_rfl, of_decide_eq_true (by kernel_rfl)⟩
  · intro ds hd
    rw [Try.params6] at hd
    rw [List.append_nil]
    rcases ds with _ | ⟨d0, _ | ⟨d1, _ | ⟨d2, _ | ⟨d3, ds⟩⟩⟩⟩
    all_goals first | exact ⟨rfl, rfl, rfl⟩ | (simp at hd)
  intro W base args ds p hval hA hlt
  rw [Try.params6] at hA hval
  obtain ⟨v0, v1, v2, d0, d1, d2, p0, p1, p2, rfl, rfl, rfl, h0, h1, h2⟩ := trodAll_three hA
  obtain ⟨s0, zs0, rfl, at0, wf0⟩ := rsl_of_ints Try.underlying22 Try.underlying5 Try.cells5 (hval 0 22 v0 rfl rfl) h0 (fun x hx => hlt x (by simp [hx]))
  obtain ⟨s1, zs1, rfl, at1, wf1⟩ := rsl_of_ints Try.underlying22 Try.underlying5 Try.cells5 (hval 1 22 v1 rfl rfl) h1 (fun x hx => hlt x (by simp [hx]))
  obtain ⟨s2, zs2, rfl, at2, wf2⟩ := rsl_of_ints Try.underlying22 Try.underlying5 Try.cells5 (hval 2 22 v2 rfl rfl) h2 (fun x hx => hlt x (by simp [hx]))
  exact calls_true (P := Try.prog) (fn := Try.f6) Go.Proofs.S.follows Try.func6 (by kernel_rfl) (by kernel_rfl) W
    (Eq.mpr (Go.Proofs.S.E_salvorlaw02_ClausesWithin s0 s1 s2 _ W.heap) (Go.Proofs.S.clausesWithin_F at0 at1 at2 (Go.Proofs.S.u8_of fun z hz => wf_u8 (wf0 z hz)) (Go.Proofs.S.u8_of fun z hz => wf_u8 (wf1 z hz)) (Go.Proofs.S.u8_of fun z hz => wf_u8 (wf2 z hz)) _ fun x h hx => hx))

theorem clausesWithin_holds : Rows.ClausesWithinSaid :=
  OpenClaim.holds_of_wide 6 Try.f6 rfl rfl rfl rfl rfl rfl rfl ⟨rfl, rfl, rfl, rfl, rfl⟩ rfl rfl rfl rfl rfl (by kernel_rfl) Try.func6 (by kernel_rfl)
    (of_decide_eq_true (by kernel_rfl)) (by unfold Func.isWrapper; first | (rw [if_pos (by decide +kernel)]; kernel_rfl) | (rw [if_neg (by decide +kernel)]; exact ⟨rfl, rfl⟩))
    (fun os started H enc _ => clausesWithin_lifted os started H enc)

end Go.Proofs.Ytogghgcgehhcaaa
