/-
  The seat's own facts, for the ends.
-/
import Derived.Test.YtchedlkmgahicaaCrG
import Derived.Test.YtchedlkmgahicaaSxOp
import Derived.Test.YtchedlkmgahicaaRows
import Derived.Test.YtchedlkmgahicaaChecked
set_option linter.unusedVariables false
namespace Go.Proofs.Ytchedlkmgahicaa
open Go Go.Sx

theorem Try.own : ownKnob Try.prog.godebug = none := by kernel_rfl
theorem Try.laidOut : laidOutB Try.prog = true := by kernel_rfl
theorem Try.cells4 : Try.prog.cellsOf 4 = 1 := by kernel_rfl
theorem Try.cells5 : Try.prog.cellsOf 5 = 1 := by kernel_rfl
theorem Try.cells41 : Try.prog.cellsOf 41 = 1 := by kernel_rfl
theorem Try.cells54 : Try.prog.cellsOf 54 = 3 := by kernel_rfl
theorem Try.cells3 : Try.prog.cellsOf 3 = 1 := by kernel_rfl
theorem Try.cells42 : Try.prog.cellsOf 42 = 1 := by kernel_rfl

variable {H : Type} {enc : TypeId × Value → H} {W : World} {base : Nat} {v : Value} {d : DataW H} {p : List MemPlace}

set_option maxRecDepth 100000 in
theorem arg_u8 (hval : Value.okWide Try.prog W .any base 22 v) (h : DataW.Trod enc Try.prog W 0 (fun _ => true) true 22 v d p) :
    ∃ (s : Sl) (zs : List Int), v = .slice s.a s.len s.cap ∧ At W.heap (Go.Proofs.S.lu zs s) ∧ Go.Proofs.S.U8 zs := by
  obtain ⟨s, zs, e, hA, hw⟩ := arg_ints Try.underlying22 Try.underlying5 Try.cells5 hval h
  exact ⟨s, zs, e, hA, fun z hz => by have := wf_u8 (hw z hz); omega⟩

end Go.Proofs.Ytchedlkmgahicaa
