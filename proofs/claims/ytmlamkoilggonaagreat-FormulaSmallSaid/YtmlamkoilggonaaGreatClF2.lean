/- The functions of the seat, each as a predicate over its values, printed by a program of ours, and that each is its text's. -/
import Derived.Test.YtmlamkoilggonaaGreatSx10
import Derived.KernelRfl
import Derived.Test.YtmlamkoilggonaaGreatProg
import Derived.Test.YtmlamkoilggonaaGreatClF0
set_option linter.unusedVariables false
namespace Go.Proofs.S
open Go Go.Sx Go.Proofs
def F_salvorlaw05_few (a0 : (Int × (Sl × Unit))) (K : Bool → HP) : HP :=
 nw #[(.int .i64 a0.1), (.slice a0.2.1.a a0.2.1.len a0.2.1.cap)] ty_formula_Formula fun b0 =>
 ldT .sl ((⟨b0, 0, none⟩ : Addr).add 1) fun x1 =>
 ldT .sl ((⟨b0, 0, none⟩ : Addr).add 1) fun x2 =>
 slH ⟨x1.a, x1.len, x1.cap⟩ (if (101 : Int) < (x2.len : Int) then (101 : Int) else (x2.len : Int)) 1 fun s3 =>
 lfp (σ := (Int × (Int × Unit))) (fun X4 s5 => /-  n -/
 brB (decide (s5.1 < (s3.len : Int)))
 (sx s3.a s3.len s5.1 1 fun p6 =>
 ldT .sl p6 fun x7 =>
 X4 ((IntKind.wrap .i64 (s5.1 + (1 : Int))), (IntKind.wrap .i64 (s5.2.1 + (x7.len : Int))), ()))
 (ldT .sl ((⟨b0, 0, none⟩ : Addr).add 1) fun x8 =>
 jn (σ := Bool) (fun t10 =>
 K t10)
 (fun J9 =>
 brB (decide ((x8.len : Int) ≤ (100 : Int)))
 (J9 ((decide (s5.2.1 ≤ (1000 : Int)))))
 (J9 false))))
 ((0 : Int), (0 : Int), ())
set_option maxRecDepth 100000 in
theorem E_salvorlaw05_few (a0 : (Int × (Sl × Unit))) (K : Bool → HP) (h : Heap) : fnVC Tryz.prog [(1000000, .bool)] 31 Tryz.f10 [(.agg #[(.int .i64 a0.1), (.slice a0.2.1.a a0.2.1.len a0.2.1.cap)])] .bool K h = F_salvorlaw05_few a0 K h := by kernel_rfl
set_option maxRecDepth 100000 in
theorem S_salvorlaw05_few{h : Heap} {a0 : (Int × (Sl × Unit))} (K : Bool → HP) (hF : F_salvorlaw05_few a0 K h) : CallsH Tryz.prog fn_salvorlaw05_few #[(.agg #[(.int .i64 a0.1), (.slice a0.2.1.a a0.2.1.len a0.2.1.cap)])] h fun v h' => ∃ x : Bool, v = Ty.enc .bool x ∧ K x h' :=
  callsH_of_fn (P := Tryz.prog) (fn := Tryz.f10) (τ := .bool) follows Tryz.func10 (by kernel_rfl) (by kernel_rfl) Tryz.call10 (Eq.mpr (E_salvorlaw05_few a0 K h) hF)

end Go.Proofs.S
