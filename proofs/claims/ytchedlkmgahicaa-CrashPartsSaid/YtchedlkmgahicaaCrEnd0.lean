/-
  The seat's own facts, for the ends.
-/
import Derived.Test.YtchedlkmgahicaaCrG
import Derived.Test.YtchedlkmgahicaaSxOp
import Derived.Laws.IdiomArrays
import Derived.Test.YtchedlkmgahicaaRows
import Derived.Test.YtchedlkmgahicaaChecked
set_option linter.unusedVariables false
namespace Go.Proofs.Ytchedlkmgahicaa
open Go Go.Sx

theorem Try.own : ownKnob Try.prog.godebug = none := by kernel_rfl
theorem Try.laidOut : laidOutB Try.prog = true := by kernel_rfl
theorem Try.cells4 : Try.prog.cellsOf 4 = 1 := by kernel_rfl
theorem Try.cells5 : Try.prog.cellsOf 5 = 1 := by kernel_rfl
theorem Try.cells41 : Try.prog.cellsOf 41 = 1 := by kernel_rfl
theorem Try.cells54 : Try.prog.cellsOf 54 = 3 := by kernel_rfl
theorem Try.cells3 : Try.prog.cellsOf 3 = 1 := by kernel_rfl
theorem Try.cells42 : Try.prog.cellsOf 42 = 1 := by kernel_rfl

variable {H : Type} {enc : TypeId × Value → H} {W : World} {base : Nat} {v : Value} {d : DataW H} {p : List MemPlace}

set_option maxRecDepth 100000 in
theorem arg_u8 (hval : Value.okWide Try.prog W .any base 22 v) (h : DataW.Trod enc Try.prog W 0 (fun _ => true) true 22 v d p) :
    ∃ (s : Sl) (zs : List Int), v = .slice s.a s.len s.cap ∧ At W.heap (Go.Proofs.S.lu zs s) ∧ Go.Proofs.S.U8 zs := by
  obtain ⟨s, zs, e, hA, hw⟩ := arg_ints Try.underlying22 Try.underlying5 Try.cells5 hval h
  exact ⟨s, zs, e, hA, fun z hz => by have := wf_u8 (hw z hz); omega⟩

theorem Try.cells40 : Try.prog.cellsOf 40 = 3 := by kernel_rfl

set_option maxRecDepth 100000 in
theorem arg_a3 (hval : Value.okWide Try.prog W .any base 40 v) (h : DataW.Trod enc Try.prog W 0 (fun _ => true) true 40 v d p) :
    ∃ (s : Int × Int × Int × Unit) (_ : Unit), v = .agg #[.int .u8 s.1, .int .u8 s.2.1, .int .u8 s.2.2.1] ∧ True ∧ True := by
  obtain ⟨cs, rfl, hsz, _⟩ : ∃ cs, v = .agg cs ∧ cs.size = Try.prog.cellsOf 40 ∧ Row.okWide Try.prog W .any base 40 cs := by
    simpa [Value.okWide, Try.underlying40] using hval
  rw [Try.cells40] at hsz
  obtain ⟨l⟩ := cs
  match l, hsz with
  | [c0, c1, c2], _ =>
  obtain ⟨fuel, hf⟩ := h
  obtain ⟨y0, y1, y2, m, hx, hy0, hy1, hy2⟩ := Go.ChangeShapes.trod_array3 Try.underlying40 Try.cells5 (by simpa [Value.cells] using hf)
  obtain ⟨x0, e0, rfl, w0⟩ := DataW.trod_int Try.underlying5 hy0
  obtain ⟨x1, e1, rfl, w1⟩ := DataW.trod_int Try.underlying5 hy1
  obtain ⟨x2, e2, rfl, w2⟩ := DataW.trod_int Try.underlying5 hy2
  simp at e0 e1 e2
  subst e0 e1 e2
  exact ⟨(x0, x1, x2, ()), (), rfl, trivial, trivial⟩

end Go.Proofs.Ytchedlkmgahicaa
