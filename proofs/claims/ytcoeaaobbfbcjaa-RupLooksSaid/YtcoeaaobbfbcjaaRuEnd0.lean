/-
  The seat's own facts, for the ends.
-/
import Derived.Test.YtcoeaaobbfbcjaaRuF
import Derived.Test.YtcoeaaobbfbcjaaSxEnd
import Derived.Test.YtcoeaaobbfbcjaaSxOp
import Derived.Test.YtcoeaaobbfbcjaaRows
import Derived.Test.YtcoeaaobbfbcjaaChecked
set_option linter.unusedVariables false
namespace Go.Sx
open Go Go.ChangeShapes Go.WideShapes Go.ChangeAt Go.RowKit
variable {P : Program} {H : Type} {enc : TypeId × Value → H} {W : World}
theorem arg_lists {t e e2 : TypeId} {k : IntKind} {base : Nat} {v : Value} {d : DataW H} {p : List MemPlace} (ht : P.underlying t = some (.slice e)) (hc : P.cellsOf e = 1) (hte : P.underlying e = some (.slice e2)) (he : P.underlying e2 = some (.int k)) (hc2 : P.cellsOf e2 = 1)
    (hval : Value.okWide P W .any base t v) (h : DataW.Trod enc P W 0 (fun _ => true) true t v d p) : ∃ (s : Sl) (zs : List (List Int)), v = .slice s.a s.len s.cap ∧ At W.heap (rsg (fun c p => rsl (Ty.int k).enc c p) zs s) ∧ ∀ z ∈ zs, ∀ x ∈ z, (Lit.int k x).wf = true := by
  obtain ⟨s, rfl, hr⟩ := reads_arg_sl ht hval h
  obtain ⟨s', zs, e, hA, hw⟩ := rsg_of_reads (I := fun c p => rsl (Ty.int k).enc c p) (Q := fun z => ∀ x ∈ z, (Lit.int k x).wf = true) ht hc (fun cs' h' => rsl_of_int hte he hc2 h') hr
  simp only [List.cons.injEq, Value.slice.injEq, and_true] at e
  obtain ⟨e1, e2, e3⟩ := e
  have es : s' = s := by cases s; cases s'; simp_all
  subst es
  exact ⟨s', zs, rfl, hA, hw⟩
end Go.Sx
namespace Go.Proofs.Ytcoeaaobbfbcjaa
open Go Go.Sx Go.ChangeShapes Go.WideShapes Go.ChangeAt Go.RowKit Go.Proofs

theorem Try.own : ownKnob Try.prog.godebug = none := by kernel_rfl
theorem cells75 : Try.prog.cellsOf 75 = 1 := by kernel_rfl
theorem cells5 : Try.prog.cellsOf 5 = 1 := by kernel_rfl
theorem cells44 : Try.prog.cellsOf 44 = 1 := by kernel_rfl
theorem cells22 : Try.prog.cellsOf 22 = 1 := by kernel_rfl
theorem cells26 : Try.prog.cellsOf 26 = 1 := by kernel_rfl
theorem Try.laidOut : laidOutB Try.prog = true := by kernel_rfl

variable {H : Type} {enc : TypeId × Value → H} {W : World} {base : Nat} {v : Value} {d : DataW H} {p : List MemPlace}

set_option maxRecDepth 100000 in
theorem sl_i8 (hval : Value.okWide Try.prog W .any base 22 v) (h : DataW.Trod enc Try.prog W 0 (fun _ => true) true 22 v d p) :
    ∃ (s : Sl) (zs : List Int), v = .slice s.a s.len s.cap ∧ At W.heap (rsl (Ty.int .i8).enc zs s) ∧ ∀ z ∈ zs, (Lit.int .i8 z).wf = true :=
  arg_ints Try.underlying22 Try.underlying75 cells75 hval h
set_option maxRecDepth 100000 in
theorem sl_u8 (hval : Value.okWide Try.prog W .any base 41 v) (h : DataW.Trod enc Try.prog W 0 (fun _ => true) true 41 v d p) :
    ∃ (s : Sl) (zs : List Int), v = .slice s.a s.len s.cap ∧ At W.heap (rsl (Ty.int .u8).enc zs s) ∧ ∀ z ∈ zs, (Lit.int .u8 z).wf = true :=
  arg_ints Try.underlying41 Try.underlying5 cells5 hval h
set_option maxRecDepth 100000 in
theorem sl_cl (hval : Value.okWide Try.prog W .any base 26 v) (h : DataW.Trod enc Try.prog W 0 (fun _ => true) true 26 v d p) :
    ∃ (s : Sl) (zs : List Int), v = .slice s.a s.len s.cap ∧ At W.heap (rsl (Ty.int .i64).enc zs s) ∧ ∀ z ∈ zs, (Lit.int .i64 z).wf = true :=
  arg_ints Try.underlying26 Try.underlying44 cells44 hval h
set_option maxRecDepth 100000 in
theorem sl_ll (hval : Value.okWide Try.prog W .any base 25 v) (h : DataW.Trod enc Try.prog W 0 (fun _ => true) true 25 v d p) :
    ∃ (s : Sl) (zs : List Int), v = .slice s.a s.len s.cap ∧ At W.heap (rsl (Ty.int .i64).enc zs s) ∧ ∀ z ∈ zs, (Lit.int .i64 z).wf = true :=
  arg_ints Try.underlying25 Try.underlying44 cells44 hval h
set_option maxRecDepth 100000 in
theorem ll_i8 (hval : Value.okWide Try.prog W .any base 23 v) (h : DataW.Trod enc Try.prog W 0 (fun _ => true) true 23 v d p) :
    ∃ (s : Sl) (zs : List (List Int)), v = .slice s.a s.len s.cap ∧ At W.heap (rsg (fun c p => rsl (Ty.int .i8).enc c p) zs s) ∧ ∀ z ∈ zs, ∀ x ∈ z, (Lit.int .i8 x).wf = true :=
  arg_lists Try.underlying23 cells22 Try.underlying22 Try.underlying75 cells75 hval h
set_option maxRecDepth 100000 in
theorem ll_cl (hval : Value.okWide Try.prog W .any base 28 v) (h : DataW.Trod enc Try.prog W 0 (fun _ => true) true 28 v d p) :
    ∃ (s : Sl) (zs : List (List Int)), v = .slice s.a s.len s.cap ∧ At W.heap (rsg (fun c p => rsl (Ty.int .i64).enc c p) zs s) ∧ ∀ z ∈ zs, ∀ x ∈ z, (Lit.int .i64 x).wf = true :=
  arg_lists Try.underlying28 cells26 Try.underlying26 Try.underlying44 cells44 hval h

end Go.Proofs.Ytcoeaaobbfbcjaa
