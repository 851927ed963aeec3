/-
  The seat's own facts, for the ends.
-/
import Derived.Test.YtmlamkoilggonaaGreatFoM
import Derived.Test.YtmlamkoilggonaaGreatSxOp
import Derived.Test.YtmlamkoilggonaaGreatRows
import Derived.Test.YtmlamkoilggonaaGreatChecked
set_option linter.unusedVariables false
namespace Go.Proofs.YtmlamkoilggonaaGreat
open Go Go.Sx

theorem own_ : ownKnob Tryz.prog.godebug = none := by kernel_rfl
theorem laidOut_ : laidOutB Tryz.prog = true := by kernel_rfl
theorem cells3_ : Tryz.prog.cellsOf 3 = 1 := by kernel_rfl
theorem cells4_ : Tryz.prog.cellsOf 4 = 1 := by kernel_rfl
theorem cells5_ : Tryz.prog.cellsOf 5 = 1 := by kernel_rfl
theorem cells79_ : Tryz.prog.cellsOf 79 = 1 := by kernel_rfl

variable {H : Type} {enc : TypeId × Value → H} {W : World} {base : Nat} {v : Value} {d : DataW H} {p : List MemPlace}

set_option maxRecDepth 100000 in
theorem arg_bs (hval : Value.okWide Tryz.prog W .any base 25 v) (h : DataW.Trod enc Tryz.prog W 0 (fun _ => true) true 25 v d p) :
    ∃ (s : Sl) (zs : List Bool), v = .slice s.a s.len s.cap ∧ At W.heap (Go.Proofs.S.lb zs s) ∧ True := by
  obtain ⟨s, zs, e, hA⟩ := arg_bools Tryz.underlying25 Tryz.underlying4 cells4_ hval h
  exact ⟨s, zs, e, hA, trivial⟩
set_option maxRecDepth 100000 in
theorem arg_is (hval : Value.okWide Tryz.prog W .any base 29 v) (h : DataW.Trod enc Tryz.prog W 0 (fun _ => true) true 29 v d p) :
    ∃ (s : Sl) (zs : List Int), v = .slice s.a s.len s.cap ∧ At W.heap (Go.Proofs.S.li zs s) ∧ ∀ z ∈ zs, (Lit.int .i64 z).wf = true := by
  obtain ⟨s, zs, e, hA, hw⟩ := arg_ints Tryz.underlying29 Tryz.underlying3 cells3_ hval h
  exact ⟨s, zs, e, hA, hw⟩
set_option maxRecDepth 100000 in
theorem arg_u8s (hval : Value.okWide Tryz.prog W .any base 79 v) (h : DataW.Trod enc Tryz.prog W 0 (fun _ => true) true 79 v d p) :
    ∃ (s : Sl) (zs : List Int), v = .slice s.a s.len s.cap ∧ At W.heap (Go.Proofs.S.lu zs s) ∧ Go.Proofs.S.U8 zs := by
  obtain ⟨s, zs, e, hA, hw⟩ := arg_ints Tryz.underlying79 Tryz.underlying5 cells5_ hval h
  exact ⟨s, zs, e, hA, Go.Proofs.S.u8_of fun z hz => wf_u8 (hw z hz)⟩
set_option maxRecDepth 100000 in
theorem arg_uu (hval : Value.okWide Tryz.prog W .any base 39 v) (h : DataW.Trod enc Tryz.prog W 0 (fun _ => true) true 39 v d p) :
    ∃ (s : Sl) (zs : List (List Int)), v = .slice s.a s.len s.cap ∧ At W.heap (Go.Proofs.S.llu zs s) ∧ ∀ c ∈ zs, Go.Proofs.S.U8 c := by
  obtain ⟨s, rfl, hr⟩ := reads_arg_sl Tryz.underlying39 hval h
  obtain ⟨s', zs, e, hA, hw⟩ := rsg_of_reads (I := fun c p => Go.Proofs.S.lu c p) (Q := Go.Proofs.S.U8) Tryz.underlying39 cells79_ (fun cs' h' => by
    obtain ⟨s2, xs, e2, hA2, hw2⟩ := rsl_of_int Tryz.underlying79 Tryz.underlying5 cells5_ h'
    exact ⟨s2, xs, e2, hA2, Go.Proofs.S.u8_of fun z hz => wf_u8 (hw2 z hz)⟩) hr
  simp only [List.cons.injEq, Value.slice.injEq, and_true] at e
  obtain ⟨e1, e2, e3⟩ := e
  have es : s' = s := by cases s; cases s'; simp_all
  subst es
  exact ⟨s', zs, rfl, hA, hw⟩

end Go.Proofs.YtmlamkoilggonaaGreat
