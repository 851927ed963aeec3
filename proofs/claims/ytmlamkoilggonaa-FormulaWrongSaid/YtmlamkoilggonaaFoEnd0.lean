/-
  The seat's own facts, for the ends.
-/
import Derived.Test.YtmlamkoilggonaaFoM
import Derived.Test.YtmlamkoilggonaaSxOp
import Derived.Test.YtmlamkoilggonaaRows
import Derived.Test.YtmlamkoilggonaaChecked
set_option linter.unusedVariables false
namespace Go.Proofs.Ytmlamkoilggonaa
open Go Go.Sx

theorem Try.own : ownKnob Try.prog.godebug = none := by kernel_rfl
theorem Try.laidOut : laidOutB Try.prog = true := by kernel_rfl
theorem Try.cells3 : Try.prog.cellsOf 3 = 1 := by kernel_rfl
theorem Try.cells4 : Try.prog.cellsOf 4 = 1 := by kernel_rfl
theorem Try.cells5 : Try.prog.cellsOf 5 = 1 := by kernel_rfl
theorem Try.cells68 : Try.prog.cellsOf 68 = 1 := by kernel_rfl

variable {H : Type} {enc : TypeId × Value → H} {W : World} {base : Nat} {v : Value} {d : DataW H} {p : List MemPlace}

set_option maxRecDepth 100000 in
theorem arg_bs (hval : Value.okWide Try.prog W .any base 22 v) (h : DataW.Trod enc Try.prog W 0 (fun _ => true) true 22 v d p) :
    ∃ (s : Sl) (zs : List Bool), v = .slice s.a s.len s.cap ∧ At W.heap (Go.Proofs.S.lb zs s) ∧ True := by
  obtain ⟨s, zs, e, hA⟩ := arg_bools Try.underlying22 Try.underlying4 Try.cells4 hval h
  exact ⟨s, zs, e, hA, trivial⟩
set_option maxRecDepth 100000 in
theorem arg_uu (hval : Value.okWide Try.prog W .any base 37 v) (h : DataW.Trod enc Try.prog W 0 (fun _ => true) true 37 v d p) :
    ∃ (s : Sl) (zs : List (List Int)), v = .slice s.a s.len s.cap ∧ At W.heap (Go.Proofs.S.llu zs s) ∧ ∀ c ∈ zs, Go.Proofs.S.U8 c := by
  obtain ⟨s, rfl, hr⟩ := reads_arg_sl Try.underlying37 hval h
  obtain ⟨s', zs, e, hA, hw⟩ := rsg_of_reads (I := fun c p => Go.Proofs.S.lu c p) (Q := Go.Proofs.S.U8) Try.underlying37 Try.cells68 (fun cs' h' => by
    obtain ⟨s2, xs, e2, hA2, hw2⟩ := rsl_of_int Try.underlying68 Try.underlying5 Try.cells5 h'
    exact ⟨s2, xs, e2, hA2, Go.Proofs.S.u8_of fun z hz => wf_u8 (hw2 z hz)⟩) hr
  simp only [List.cons.injEq, Value.slice.injEq, and_true] at e
  obtain ⟨e1, e2, e3⟩ := e
  have es : s' = s := by cases s; cases s'; simp_all
  subst es
  exact ⟨s', zs, rfl, hA, hw⟩

end Go.Proofs.Ytmlamkoilggonaa
