/-
  The seat's own facts, for the ends.
-/
import Derived.Test.YtchedlkmgahicaaCrG
import Derived.Test.YtchedlkmgahicaaSxOp
import Derived.Laws.IdiomArrays
import Derived.Test.YtchedlkmgahicaaRows
import Derived.Test.YtchedlkmgahicaaChecked
set_option linter.unusedVariables false
namespace Go.Proofs.Ytchedlkmgahicaa
open Go Go.Sx

theorem Try.own : ownKnob Try.prog.godebug = none := by kernel_rfl
theorem Try.laidOut : laidOutB Try.prog = true := by kernel_rfl
theorem Try.cells4 : Try.prog.cellsOf 4 = 1 := by kernel_rfl
theorem Try.cells5 : Try.prog.cellsOf 5 = 1 := by kernel_rfl
theorem Try.cells41 : Try.prog.cellsOf 41 = 1 := by kernel_rfl
theorem Try.cells54 : Try.prog.cellsOf 54 = 3 := by kernel_rfl
theorem Try.cells3 : Try.prog.cellsOf 3 = 1 := by kernel_rfl
theorem Try.cells42 : Try.prog.cellsOf 42 = 1 := by kernel_rfl

variable {H : Type} {enc : TypeId × Value → H} {W : World} {base : Nat} {v : Value} {d : DataW H} {p : List MemPlace}

set_option maxRecDepth 100000 in
theorem arg_u8 (hval : Value.okWide Try.prog W .any base 22 v) (h : DataW.Trod enc Try.prog W 0 (fun _ => true) true 22 v d p) :
    ∃ (s : Sl) (zs : List Int), v = .slice s.a s.len s.cap ∧ At W.heap (Go.Proofs.S.lu zs s) ∧ Go.Proofs.S.U8 zs := by
  obtain ⟨s, zs, e, hA, hw⟩ := arg_ints Try.underlying22 Try.underlying5 Try.cells5 hval h
  exact ⟨s, zs, e, hA, fun z hz => by have := wf_u8 (hw z hz); omega⟩

theorem Try.cells40 : Try.prog.cellsOf 40 = 3 := by kernel_rfl

set_option maxRecDepth 100000 in
theorem arg_a3 (hval : Value.okWide Try.prog W .any base 40 v) (h : DataW.Trod enc Try.prog W 0 (fun _ => true) true 40 v d p) :
    ∃ (s : Int × Int × Int × Unit) (_ : Unit), v = .agg #[.int .u8 s.1, .int .u8 s.2.1, .int .u8 s.2.2.1] ∧ True ∧ True := by
  obtain ⟨cs, rfl, hsz, _⟩ : ∃ cs, v = .agg cs ∧ cs.size = Try.prog.cellsOf 40 ∧ Row.okWide Try.prog W .any base 40 cs := by
    simpa [Value.okWide, Try.underlying40] using hval
  rw [Try.cells40] at hsz
  obtain ⟨l⟩ := cs
  match l, hsz with
  | [c0, c1, c2], _ =>
  obtain ⟨fuel, hf⟩ := h
  obtain ⟨y0, y1, y2, m, hx, hy0, hy1, hy2⟩ := Go.ChangeShapes.trod_array3 Try.underlying40 Try.cells5 (by simpa [Value.cells] using hf)
  obtain ⟨x0, e0, rfl, w0⟩ := DataW.trod_int Try.underlying5 hy0
  obtain ⟨x1, e1, rfl, w1⟩ := DataW.trod_int Try.underlying5 hy1
  obtain ⟨x2, e2, rfl, w2⟩ := DataW.trod_int Try.underlying5 hy2
  simp at e0 e1 e2
  subst e0 e1 e2
  exact ⟨(x0, x1, x2, ()), (), rfl, trivial, trivial⟩

set_option maxRecDepth 100000 in
theorem arg_w32 (hval : Value.okWide Try.prog W .any base 37 v) (h : DataW.Trod enc Try.prog W 0 (fun _ => true) true 37 v d p) :
    ∃ (s : Sl) (zs : List Int), v = .slice s.a s.len s.cap ∧ At W.heap (Go.Proofs.S.lw zs s) ∧ (∀ w ∈ zs, 0 ≤ w ∧ w < 4294967296) := by
  obtain ⟨s, zs, e, hA, hw⟩ := arg_ints Try.underlying37 Try.underlying41 Try.cells41 hval h
  exact ⟨s, zs, e, hA, fun z hz => by have := bounds_u32 (hw z hz); omega⟩
set_option maxRecDepth 100000 in
theorem arg_bs (hval : Value.okWide Try.prog W .any base 29 v) (h : DataW.Trod enc Try.prog W 0 (fun _ => true) true 29 v d p) :
    ∃ (s : Sl) (zs : List Bool), v = .slice s.a s.len s.cap ∧ At W.heap (Go.Proofs.S.lb zs s) ∧ True := by
  obtain ⟨s, zs, e, hA⟩ := arg_bools Try.underlying29 Try.underlying4 Try.cells4 hval h
  exact ⟨s, zs, e, hA, trivial⟩
set_option maxRecDepth 100000 in
theorem reads_ent {cs : List Value} (h : Reads H enc Try.prog W 54 cs) : ∃ x : Go.Cr.Ent, cs = Go.Proofs.S.tE.vals x ∧ (0 ≤ x.2.1 ∧ x.2.1 < 4294967296) := by
  obtain ⟨hl, hf⟩ := reads_struct Try.underlying54 h
  rw [Try.cells54] at hl
  match cs, hl with
  | [c0, c1, c2], _ =>
  have h0 : Reads H enc Try.prog W 3 (([c0, c1, c2].drop 0).take (Try.prog.cellsOf 3)) := hf 0 _ rfl
  have h1 : Reads H enc Try.prog W 42 (([c0, c1, c2].drop 1).take (Try.prog.cellsOf 42)) := hf 1 _ rfl
  have h2 : Reads H enc Try.prog W 3 (([c0, c1, c2].drop 2).take (Try.prog.cellsOf 3)) := hf 2 _ rfl
  rw [Try.cells3] at h0 h2
  rw [Try.cells42] at h1
  obtain ⟨n0, e0, w0⟩ := reads_int Try.underlying3 h0
  obtain ⟨n1, e1, w1⟩ := reads_int Try.underlying42 h1
  obtain ⟨n2, e2, w2⟩ := reads_int Try.underlying3 h2
  cases e0; cases e1; cases e2
  exact ⟨(n0, n1, n2, ()), rfl, wf_u32 w1⟩
set_option maxRecDepth 100000 in
theorem arg_ents (hval : Value.okWide Try.prog W .any base 24 v) (h : DataW.Trod enc Try.prog W 0 (fun _ => true) true 24 v d p) :
    ∃ (s : Sl) (zs : List Go.Cr.Ent), v = .slice s.a s.len s.cap ∧ At W.heap (Go.Proofs.S.le zs s) ∧ ∀ x ∈ zs, 0 ≤ x.2.1 ∧ x.2.1 < 4294967296 :=
  arg_wide (enc' := Go.Proofs.S.tE.vals) Try.underlying24 Try.cells54 (by decide) (fun cs' h' => reads_ent h') hval h

end Go.Proofs.Ytchedlkmgahicaa
