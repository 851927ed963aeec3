/-
  DpllImplied, where what it reads is of bulk at most 1048576: the given statement, with no condition of ours.
-/
import Derived.Test.YtfadkgkkbbcekaaDpUi
import Derived.Test.YtfadkgkkbbcekaaSxOp
set_option linter.unusedVariables false
namespace Go.Proofs.Ytfadkgkkbbcekaa
open Go Go.Sx Go.ChangeShapes Go.WideShapes Go.ChangeAt Go.RowKit

set_option maxRecDepth 100000 in
theorem dpllImplied_lifted (os : Os) (started : os.Started) (H : Type) (enc : TypeId × Value → H) (F : Stop.Interp) :
    ReturnsInHanded {} Try.checked os 3 .any ((Rows.OpenSpec.upto Rows.dpllImpliedSpec).pre6 enc Try.prog Try.f3 Rows.dpllImpliedUptoRow.domain false) (((Rows.OpenSpec.upto Rows.dpllImpliedSpec).at F).post enc Try.prog Try.f3 false true false false) := by
  refine lift_true_cond (C := Try.checked) (tb := 4) (k := Rows.uptoSmall) rfl own_ started (by kernel_rfl) Try.func3
    (OpenSpec.witness (enc := enc) (C := Try.checked) (s := Rows.OpenSpec.upto Rows.dpllImpliedSpec) (k := Rows.uptoSmall) (x := ([.agg [.lit (.int .i64 0), .nil], .nil, .lit (.int .i64 0)], [], [])) rfl false ⟨#[], #[.agg #[.int .i64 0, .slice none 0 0], .slice none 0 0, .int .i64 0], []⟩ 8 (by kernel_rfl) (by kernel_rfl) (by kernel_rfl) (by kernel_rfl) (by kernel_rfl) (by kernel_rfl))
    laidOut_ ?_ rfl rfl Try.underlying4 rfl ?_ ?_
  · rw [Try.params3]
    intro t ht
    simp at ht
    rcases ht with rfl | rfl | rfl <;> exact ⟨by kernel_rfl, of_decide_eq_true (by kernel_rfl)⟩
  · intro ds hd
    rw [Try.params3] at hd
    rw [List.append_nil]
    rcases ds with _ | ⟨d0, _ | ⟨d1, _ | ⟨d2, _ | ⟨d3, ds⟩⟩⟩⟩
    all_goals first | exact ⟨rfl, rfl, rfl⟩ | (simp at hd)
  intro W base args ds p hval hA hlt hk
  rw [Try.params3] at hA hval
  obtain ⟨v0, v1, v2, d0, d1, d2, p0, p1, p2, rfl, rfl, rfl, h0, h1, h2⟩ := trodAll_three hA
  have hN : Rows.uptoBulk d0 ≤ 1048576 := by
    have := of_decide_eq_true hk
    simp only [List.append_nil, Rows.uptoBulkAll] at this
    omega
  obtain ⟨n0, s0, x0, rfl, at0, w0, c0⟩ := arg_formula (hval 0 24 v0 rfl rfl) h0 hN
  obtain ⟨s1, x1, rfl, at1, _⟩ := arg_is (hval 1 25 v1 rfl rfl) h1
  obtain ⟨k2, rfl, rfl, rfl, w2⟩ := open_int Try.underlying3 (hval 2 3 v2 rfl rfl) h2
  exact calls_true (P := Try.prog) (fn := Try.f3) Go.Proofs.S.follows Try.func3 (by kernel_rfl) (by kernel_rfl) W
    (Eq.mpr (Go.Proofs.S.E_salvorlaw19_DpllImplied (n0, s0, ()) s1 k2 _ W.heap) (Go.Proofs.S.dpllImplied_F at0 at1 w0 c0 _ fun x h hx => hx))

theorem dpllImpliedUpto_holds : Rows.DpllImpliedUptoSaid :=
  OpenClaim.holds_of_cond 3 Try.f3 rfl rfl rfl rfl rfl rfl rfl ⟨rfl, rfl, rfl, rfl, rfl⟩ rfl rfl rfl rfl rfl (by kernel_rfl) Try.func3 (by kernel_rfl)
    (of_decide_eq_true (by kernel_rfl)) (by unfold Func.isWrapper; first | (rw [if_pos (by decide +kernel)]; kernel_rfl) | (rw [if_neg (by decide +kernel)]; exact ⟨rfl, rfl⟩))
    (fun os started H enc _ F => dpllImplied_lifted os started H enc F)

end Go.Proofs.Ytfadkgkkbbcekaa
