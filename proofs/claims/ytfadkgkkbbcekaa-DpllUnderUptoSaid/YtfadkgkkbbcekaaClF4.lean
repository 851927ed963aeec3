/- The functions of the seat, each as a predicate over its values, printed by a program of ours, and that each is its text's. -/
import Derived.Test.YtfadkgkkbbcekaaSx10
import Derived.Test.YtfadkgkkbbcekaaSxDf
import Derived.KernelRfl
import Derived.Test.YtfadkgkkbbcekaaProg
import Derived.Test.YtfadkgkkbbcekaaClF0
set_option linter.unusedVariables false
namespace Go.Proofs.S
open Go Go.Sx Go.Proofs
def F_formula_Model (a0 : Int) (a1 : Sl) (K : (Sl × (Int × Unit)) → HP) : HP :=
 callT Try.prog fn_formula_vars #[(.int .i64 a0)] .bool fun r0 =>
 brB (!r0)
 (K (⟨none, 0, 0⟩, (50 : Int), ()))
 (cj
 (mks ty_bool 1 1 #[(.bool false)] a0 a0 fun s1 =>
 cj
 (mks ty_bool 1 1 #[(.bool false)] a0 a0 fun s2 =>
 lfp (σ := (Int × (Int × (Sl × Unit)))) (fun X3 s4 => /-    -/
 brB (decide (s4.1 < (a1.len : Int)))
 (sx a1.a a1.len s4.1 1 fun p5 =>
 ldT (.int .i64) p5 fun x6 =>
 callT Try.prog fn_formula_beyond #[(.int .i64 a0)] .val fun r7 =>
 callF Try.prog r7 #[(.int .i64 x6)] .bool fun r8 =>
 brB r8
 (K (⟨none, 0, 0⟩, (51 : Int), ()))
 (callT Try.prog fn_lits_Var #[(.int .i64 x6)] (.int .i64) fun r9 =>
 sx s2.a s2.len (IntKind.wrap .i64 (r9 - (1 : Int))) 1 fun p10 =>
 ldT .bool p10 fun x11 =>
 brB x11
 (sx s1.a s1.len (IntKind.wrap .i64 (r9 - (1 : Int))) 1 fun p12 =>
 ldT .bool p12 fun x13 =>
 callT Try.prog fn_lits_Negated #[(.int .i64 x6)] .bool fun r14 =>
 ck p12 (.bool x13) <|
 brB (x13 == r14)
 (K (⟨none, 0, 0⟩, (52 : Int), ()))
 (callT Try.prog fn_lits_Negated #[(.int .i64 x6)] .bool fun r15 =>
 sx s1.a s1.len (IntKind.wrap .i64 (r9 - (1 : Int))) 1 fun p16 =>
 st1 p16 (.bool (!r15)) <|
 sx s2.a s2.len (IntKind.wrap .i64 (r9 - (1 : Int))) 1 fun p17 =>
 st1 p17 (.bool true) <|
 X3 ((IntKind.wrap .i64 (s4.1 + (1 : Int))), s4.2.1, ⟨s4.2.2.1.a, s4.2.2.1.len, s4.2.2.1.cap⟩, ())))
 (callT Try.prog fn_lits_Negated #[(.int .i64 x6)] .bool fun r18 =>
 sx s1.a s1.len (IntKind.wrap .i64 (r9 - (1 : Int))) 1 fun p19 =>
 st1 p19 (.bool (!r18)) <|
 sx s2.a s2.len (IntKind.wrap .i64 (r9 - (1 : Int))) 1 fun p20 =>
 st1 p20 (.bool true) <|
 X3 ((IntKind.wrap .i64 (s4.1 + (1 : Int))), s4.2.1, ⟨s4.2.2.1.a, s4.2.2.1.len, s4.2.2.1.cap⟩, ()))))
 (K (⟨s1.a, s1.len, s1.cap⟩, (0 : Int), ())))
 ((0 : Int), (0 : Int), ⟨none, 0, 0⟩, ()))
 (mks ty_bool 1 1 #[(.bool false)] a0 a0 fun s21 =>
 lfp (σ := (Int × (Int × (Sl × Unit)))) (fun X22 s23 => /-    -/
 brB (decide (s23.1 < (a1.len : Int)))
 (sx a1.a a1.len s23.1 1 fun p24 =>
 ldT (.int .i64) p24 fun x25 =>
 callT Try.prog fn_formula_beyond #[(.int .i64 a0)] .val fun r26 =>
 callF Try.prog r26 #[(.int .i64 x25)] .bool fun r27 =>
 brB r27
 (K (⟨none, 0, 0⟩, (51 : Int), ()))
 (callT Try.prog fn_lits_Var #[(.int .i64 x25)] (.int .i64) fun r28 =>
 sx s21.a s21.len (IntKind.wrap .i64 (r28 - (1 : Int))) 1 fun p29 =>
 ldT .bool p29 fun x30 =>
 brB x30
 (sx s1.a s1.len (IntKind.wrap .i64 (r28 - (1 : Int))) 1 fun p31 =>
 ldT .bool p31 fun x32 =>
 callT Try.prog fn_lits_Negated #[(.int .i64 x25)] .bool fun r33 =>
 ck p31 (.bool x32) <|
 brB (x32 == r33)
 (K (⟨none, 0, 0⟩, (52 : Int), ()))
 (callT Try.prog fn_lits_Negated #[(.int .i64 x25)] .bool fun r34 =>
 sx s1.a s1.len (IntKind.wrap .i64 (r28 - (1 : Int))) 1 fun p35 =>
 st1 p35 (.bool (!r34)) <|
 sx s21.a s21.len (IntKind.wrap .i64 (r28 - (1 : Int))) 1 fun p36 =>
 st1 p36 (.bool true) <|
 X22 ((IntKind.wrap .i64 (s23.1 + (1 : Int))), s23.2.1, ⟨s23.2.2.1.a, s23.2.2.1.len, s23.2.2.1.cap⟩, ())))
 (callT Try.prog fn_lits_Negated #[(.int .i64 x25)] .bool fun r37 =>
 sx s1.a s1.len (IntKind.wrap .i64 (r28 - (1 : Int))) 1 fun p38 =>
 st1 p38 (.bool (!r37)) <|
 sx s21.a s21.len (IntKind.wrap .i64 (r28 - (1 : Int))) 1 fun p39 =>
 st1 p39 (.bool true) <|
 X22 ((IntKind.wrap .i64 (s23.1 + (1 : Int))), s23.2.1, ⟨s23.2.2.1.a, s23.2.2.1.len, s23.2.2.1.cap⟩, ()))))
 (K (⟨s1.a, s1.len, s1.cap⟩, (0 : Int), ())))
 ((0 : Int), (0 : Int), ⟨none, 0, 0⟩, ())))
 (mks ty_bool 1 1 #[(.bool false)] a0 a0 fun s40 =>
 mks ty_bool 1 1 #[(.bool false)] a0 a0 fun s41 =>
 lfp (σ := (Int × (Int × (Sl × Unit)))) (fun X42 s43 => /-    -/
 brB (decide (s43.1 < (a1.len : Int)))
 (sx a1.a a1.len s43.1 1 fun p44 =>
 ldT (.int .i64) p44 fun x45 =>
 callT Try.prog fn_formula_beyond #[(.int .i64 a0)] .val fun r46 =>
 callF Try.prog r46 #[(.int .i64 x45)] .bool fun r47 =>
 brB r47
 (K (⟨none, 0, 0⟩, (51 : Int), ()))
 (callT Try.prog fn_lits_Var #[(.int .i64 x45)] (.int .i64) fun r48 =>
 sx s40.a s40.len (IntKind.wrap .i64 (r48 - (1 : Int))) 1 fun p49 =>
 ldT .bool p49 fun x50 =>
 brB x50
 (sx s41.a s41.len (IntKind.wrap .i64 (r48 - (1 : Int))) 1 fun p51 =>
 ldT .bool p51 fun x52 =>
 callT Try.prog fn_lits_Negated #[(.int .i64 x45)] .bool fun r53 =>
 ck p51 (.bool x52) <|
 brB (x52 == r53)
 (K (⟨none, 0, 0⟩, (52 : Int), ()))
 (callT Try.prog fn_lits_Negated #[(.int .i64 x45)] .bool fun r54 =>
 sx s41.a s41.len (IntKind.wrap .i64 (r48 - (1 : Int))) 1 fun p55 =>
 st1 p55 (.bool (!r54)) <|
 sx s40.a s40.len (IntKind.wrap .i64 (r48 - (1 : Int))) 1 fun p56 =>
 st1 p56 (.bool true) <|
 X42 ((IntKind.wrap .i64 (s43.1 + (1 : Int))), s43.2.1, ⟨s43.2.2.1.a, s43.2.2.1.len, s43.2.2.1.cap⟩, ())))
 (callT Try.prog fn_lits_Negated #[(.int .i64 x45)] .bool fun r57 =>
 sx s41.a s41.len (IntKind.wrap .i64 (r48 - (1 : Int))) 1 fun p58 =>
 st1 p58 (.bool (!r57)) <|
 sx s40.a s40.len (IntKind.wrap .i64 (r48 - (1 : Int))) 1 fun p59 =>
 st1 p59 (.bool true) <|
 X42 ((IntKind.wrap .i64 (s43.1 + (1 : Int))), s43.2.1, ⟨s43.2.2.1.a, s43.2.2.1.len, s43.2.2.1.cap⟩, ()))))
 (K (⟨s41.a, s41.len, s41.cap⟩, (0 : Int), ())))
 ((0 : Int), (0 : Int), ⟨none, 0, 0⟩, ())))
def F_dpll_search_set (a0 : Option Addr) (a1 : Int) (K : Unit → HP) : HP :=
 nn a0 fun p0 =>
 ldT .sl (p0.add 2) fun x1 =>
 callT Try.prog fn_lits_Var #[(.int .i64 a1)] (.int .i64) fun r2 =>
 ck (p0.add 2) (.slice x1.a x1.len x1.cap) <|
 sx x1.a x1.len r2 1 fun p3 =>
 st1 p3 (.int .i64 (1 : Int)) <|
 callT Try.prog fn_lits_Negated #[(.int .i64 a1)] .bool fun r4 =>
 jn (σ := Unit) (fun s6 => /- -/
 K (()))
 (fun J5 =>
 brB r4
 (nn a0 fun p7 =>
 ldT .sl (p7.add 2) fun x8 =>
 callT Try.prog fn_lits_Var #[(.int .i64 a1)] (.int .i64) fun r9 =>
 ck (p7.add 2) (.slice x8.a x8.len x8.cap) <|
 sx x8.a x8.len r9 1 fun p10 =>
 st1 p10 (.int .i64 (-1 : Int)) <|
 J5 (()))
 (J5 (())))
def F_dpll_search_models_1 (c0 : Addr) (c1 : Addr) (K : Unit → HP) : HP :=
 ldT .sl c0 fun x0 =>
 lfp (σ := (Int × Unit)) (fun X1 s2 => /-  -/
 brB (decide (s2.1 < (x0.len : Int)))
 (sx x0.a x0.len s2.1 1 fun p3 =>
 ldT (.int .i64) p3 fun x4 =>
 ldT .ptr c1 fun x5 =>
 callT Try.prog fn_dpll_search_clear #[(.pointer x5), (.int .i64 x4)] (.tup .nil) fun r6 =>
 X1 ((IntKind.wrap .i64 (s2.1 + (1 : Int))), ()))
 (K (())))
 ((0 : Int), ())
set_option maxRecDepth 100000 in
theorem E_dpll_search_models_1 (c0 : Addr) (c1 : Addr) (K : Unit → HP) (h : Heap) : fnVC Try.prog [(1000000, .bool)] 14 Try.f88 [(.pointer (some c0)), (.pointer (some c1))] (.tup .nil) K h = F_dpll_search_models_1 c0 c1 K h := by kernel_rfl
def F_dpll_search_clear (a0 : Option Addr) (a1 : Int) (K : Unit → HP) : HP :=
 nn a0 fun p0 =>
 ldT .sl (p0.add 2) fun x1 =>
 callT Try.prog fn_lits_Var #[(.int .i64 a1)] (.int .i64) fun r2 =>
 ck (p0.add 2) (.slice x1.a x1.len x1.cap) <|
 sx x1.a x1.len r2 1 fun p3 =>
 st1 p3 (.int .i64 (0 : Int)) <|
 K (())
set_option maxRecDepth 100000 in
theorem E_dpll_search_clear (a0 : Option Addr) (a1 : Int) (K : Unit → HP) (h : Heap) : fnVC Try.prog [(1000000, .bool)] 11 Try.f89 [(.pointer a0), (.int .i64 a1)] (.tup .nil) K h = F_dpll_search_clear a0 a1 K h := by kernel_rfl
def F_dpll_search_models_2 (a0 : Int) (c0 : Addr) (c1 : Addr) (K : Bool → HP) : HP :=
 ldT .ptr c0 fun x0 =>
 nn x0 fun p1 =>
 ldT (.int .i64) (p1.add 3) fun x2 =>
 nn x0 fun p3 =>
 st1 (p3.add 3) (.int .i64 (IntKind.wrap .i64 (x2 + (1 : Int)))) <|
 ldT .ptr c0 fun x4 =>
 nn x4 fun p5 =>
 ldT (.int .i64) (p5.add 3) fun x6 =>
 ldT .ptr c0 fun x7 =>
 nn x7 fun p8 =>
 ldT (.int .i64) (p8.add 4) fun x9 =>
 brB (decide (x6 > x9))
 (K false)
 (ldT .ptr c0 fun x10 =>
 callT Try.prog fn_dpll_search_set #[(.pointer x10), (.int .i64 a0)] (.tup .nil) fun r11 =>
 ldT .ptr c0 fun x12 =>
 ldT .ptr c0 fun x13 =>
 ldT .val c1 fun x14 =>
 callT Try.prog fn_dpll_search_models #[(.pointer x13), x14] .bool fun r15 =>
 dcl Try.prog fn_dpll_search_clear (#[] ++ #[(.pointer x12), (.int .i64 a0)] ++ #[]) (
 K r15))
def F_clauses_sorted_1 (a0 : Value) (c0 : Addr) (K : Unit → HP) : HP :=
 ldT .sl c0 fun x0 =>
 callT Try.prog fn_slices_Values_clauses_Clause_lits_Lit #[(.slice x0.a x0.len x0.cap)] .val fun r1 =>
 callT Try.prog fn_slices_SortedFunc_lits_Lit #[r1, (.func (.func fn_lits_Compare) #[] #[])] .sl fun r2 =>
 lfp (σ := (Int × (Int × Unit))) (fun X3 s4 => /-  last -/
 brB (decide (s4.1 < (r2.len : Int)))
 (jn (σ := (Int × Unit)) (fun s6 => /- last -/
 X3 ((IntKind.wrap .i64 (s4.1 + (1 : Int))), s6.1, ()))
 (fun J5 =>
 sx r2.a r2.len s4.1 1 fun p7 =>
 ldT (.int .i64) p7 fun x8 =>
 brB (x8 == s4.2.1)
 (J5 (s4.2.1, ()))
 (callF Try.prog a0 #[(.int .i64 x8)] .bool fun r9 =>
 brB (!r9)
 (K (()))
 (J5 (x8, ())))))
 (K (())))
 ((0 : Int), (0 : Int), ())
def F_slices_SortedFunc_lits_Lit (a0 : Value) (a1 : Value) (K : Sl → HP) : HP :=
 callT Try.prog fn_slices_Collect_lits_Lit #[a0] .sl fun r0 =>
 callT Try.prog fn_slices_SortFunc_lits_Lit_lits_Lit #[(.slice r0.a r0.len r0.cap), a1] (.tup .nil) fun r1 =>
 K ⟨r0.a, r0.len, r0.cap⟩
def F_slices_Values_clauses_Clause_lits_Lit (a0 : Sl) (K : Value → HP) : HP :=
 nw #[(.slice a0.a a0.len a0.cap)] ty_clauses_Clause fun b0 =>
 K (.func (.func fn_slices_Values_clauses_Clause_lits_Lit_1) #[] #[(.pointer (some (⟨b0, 0, none⟩ : Addr)))])
def F_lits_Right (a0 : Int) (K : Bool → HP) : HP :=
 brB (a0 != (0 : Int))
 (brB (decide (a0 ≥ (-1048576 : Int)))
 (K (decide (a0 ≤ (1048576 : Int))))
 (K false))
 (K false)
def F_salvorlaw05_Equal_1 (a0 : Sl) (a1 : Sl) (K : Bool → HP) : HP :=
 callT Try.prog fn_salvorlaw02_Ints #[(.slice a0.a a0.len a0.cap)] .sl fun r0 =>
 callT Try.prog fn_slices_Equal_int_int #[(.slice r0.a r0.len r0.cap), (.slice a1.a a1.len a1.cap)] .bool fun r1 =>
 K r1
def F_salvorref05_Model (a0 : Int) (a1 : Sl) (K : (Sl × (Int × Unit)) → HP) : HP :=
 brB (decide (a0 < (0 : Int)))
 (K (⟨none, 0, 0⟩, (50 : Int), ()))
 (brB (decide (a0 > (1048576 : Int)))
 (K (⟨none, 0, 0⟩, (50 : Int), ()))
 (mks ty_int 1 8 #[(.int .i64 (0 : Int))] a0 a0 fun s0 =>
 lfp (σ := (Int × (Int × (Sl × Unit)))) (fun X1 s2 => /- i   -/
 brB (decide (s2.1 < (a1.len : Int)))
 (sx a1.a a1.len s2.1 1 fun p3 =>
 ldT (.int .i64) p3 fun x4 =>
 callT Try.prog fn_salvorref01_Var #[(.int .i64 x4)] (.int .i64) fun r5 =>
 brB (decide (r5 < (1 : Int)))
 (K (⟨none, 0, 0⟩, (51 : Int), ()))
 (brB (decide (r5 > a0))
 (K (⟨none, 0, 0⟩, (51 : Int), ()))
 (slH ⟨a1.a, a1.len, a1.cap⟩ s2.1 1 fun s6 =>
 sx a1.a a1.len s2.1 1 fun p7 =>
 ldT (.int .i64) p7 fun x8 =>
 callT Try.prog fn_salvorref02_Has #[(.slice s6.a s6.len s6.cap), (.int .i64 (IntKind.wrap .i64 (0 - x8)))] .bool fun r9 =>
 brB r9
 (K (⟨none, 0, 0⟩, (52 : Int), ()))
 (sx a1.a a1.len s2.1 1 fun p10 =>
 ldT (.int .i64) p10 fun x11 =>
 jn (σ := Unit) (fun s13 => /- -/
 X1 ((IntKind.wrap .i64 (s2.1 + (1 : Int))), s2.2.1, ⟨s2.2.2.1.a, s2.2.2.1.len, s2.2.2.1.cap⟩, ()))
 (fun J12 =>
 brB (decide (x11 > (0 : Int)))
 (sx s0.a s0.len (IntKind.wrap .i64 (r5 - (1 : Int))) 1 fun p14 =>
 st1 p14 (.int .i64 (1 : Int)) <|
 J12 (()))
 (J12 (())))))))
 (K (⟨s0.a, s0.len, s0.cap⟩, (0 : Int), ())))
 ((0 : Int), (0 : Int), ⟨none, 0, 0⟩, ())))
def F_salvorref19_open (a0 : Sl) (a1 : Sl) (K : (Sl × (Bool × Unit)) → HP) : HP :=
 lfp (σ := (Int × (Sl × (Bool × (Sl × Unit))))) (fun X0 s1 => /- i out   -/
 brB (decide (s1.1 < (a0.len : Int)))
 (sx a0.a a0.len s1.1 1 fun p2 =>
 ldT (.int .i64) p2 fun x3 =>
 callT Try.prog fn_salvorref02_Has #[(.slice a1.a a1.len a1.cap), (.int .i64 x3)] .bool fun r4 =>
 brB r4
 (K (⟨none, 0, 0⟩, true, ()))
 (sx a0.a a0.len s1.1 1 fun p5 =>
 ldT (.int .i64) p5 fun x6 =>
 callT Try.prog fn_salvorref02_Has #[(.slice a1.a a1.len a1.cap), (.int .i64 (IntKind.wrap .i64 (0 - x6)))] .bool fun r7 =>
 jn (σ := Bool) (fun t9 =>
 jn (σ := (Sl × Unit)) (fun s11 => /- out -/
 X0 ((IntKind.wrap .i64 (s1.1 + (1 : Int))), ⟨s11.1.a, s11.1.len, s11.1.cap⟩, s1.2.2.1, ⟨s1.2.2.2.1.a, s1.2.2.2.1.len, s1.2.2.2.1.cap⟩, ()))
 (fun J10 =>
 brB t9
 (sx a0.a a0.len s1.1 1 fun p12 =>
 ldT (.int .i64) p12 fun x13 =>
 nw #[(.int .i64 x13)] ty_int fun b14 =>
 apd ty_int 1 8 #[(.int .i64 (0 : Int))] ⟨s1.2.1.a, s1.2.1.len, s1.2.1.cap⟩ ⟨(some (⟨b14, 0, none⟩ : Addr)), 1, 1⟩ fun s15 =>
 J10 (⟨s15.a, s15.len, s15.cap⟩, ()))
 (J10 (⟨s1.2.1.a, s1.2.1.len, s1.2.1.cap⟩, ()))))
 (fun J8 =>
 brB (!r7)
 (sx a0.a a0.len s1.1 1 fun p16 =>
 ldT (.int .i64) p16 fun x17 =>
 callT Try.prog fn_salvorref02_Has #[(.slice s1.2.1.a s1.2.1.len s1.2.1.cap), (.int .i64 x17)] .bool fun r18 =>
 J8 ((!r18)))
 (J8 false))))
 (K (⟨s1.2.1.a, s1.2.1.len, s1.2.1.cap⟩, false, ())))
 ((0 : Int), ⟨none, 0, 0⟩, false, ⟨none, 0, 0⟩, ())
def F_salvorref02_Has (a0 : Sl) (a1 : Int) (K : Bool → HP) : HP :=
 lfp (σ := (Int × (Bool × Unit))) (fun X0 s1 => /- i  -/
 brB (decide (s1.1 < (a0.len : Int)))
 (sx a0.a a0.len s1.1 1 fun p2 =>
 ldT (.int .i64) p2 fun x3 =>
 brB (x3 == a1)
 (K true)
 (X0 ((IntKind.wrap .i64 (s1.1 + (1 : Int))), s1.2.1, ())))
 (K false))
 ((0 : Int), false, ())
def F_formula_vars (a0 : Int) (K : Bool → HP) : HP :=
 brB (decide (a0 ≥ (0 : Int)))
 (K (decide (a0 ≤ (1048576 : Int))))
 (K false)
def F_lits_variables (a0 : Sl) (K : Value → HP) : HP :=
 nw #[(.slice a0.a a0.len a0.cap)] ty_sl_lits_Lit fun b0 =>
 K (.func (.func fn_lits_variables_1) #[] #[(.pointer (some (⟨b0, 0, none⟩ : Addr)))])
def F_dpll_search_last (a0 : Option Addr) (a1 : Sl) (K : (Int × (Int × Unit)) → HP) : HP :=
 lfp (σ := (Int × (Int × (Int × (Int × (Int × Unit)))))) (fun X0 s1 => /-  n one   -/
 brB (decide (s1.1 < (a1.len : Int)))
 (sx a1.a a1.len s1.1 1 fun p2 =>
 ldT (.int .i64) p2 fun x3 =>
 callT Try.prog fn_dpll_search_value #[(.pointer a0), (.int .i64 x3)] (.int .i64) fun r4 =>
 brB (decide (r4 > (0 : Int)))
 (K ((0 : Int), (2 : Int), ()))
 (jn (σ := Bool) (fun t6 =>
 jn (σ := (Int × (Int × (Int × (Int × Unit))))) (fun s8 => /- n one   -/
 X0 ((IntKind.wrap .i64 (s1.1 + (1 : Int))), s8.1, s8.2.1, s8.2.2.1, s8.2.2.2.1, ()))
 (fun J7 =>
 brB t6
 (brB ((IntKind.wrap .i64 (s1.2.1 + (1 : Int))) == (2 : Int))
 (K ((0 : Int), (2 : Int), ()))
 (J7 ((IntKind.wrap .i64 (s1.2.1 + (1 : Int))), x3, s1.2.2.2.1, s1.2.2.2.2.1, ())))
 (J7 (s1.2.1, s1.2.2.1, s1.2.2.2.1, s1.2.2.2.2.1, ()))))
 (fun J5 =>
 brB (r4 == (0 : Int))
 (J5 ((x3 != s1.2.2.1)))
 (J5 false))))
 (K (s1.2.2.1, s1.2.1, ())))
 ((0 : Int), (0 : Int), (0 : Int), (0 : Int), (0 : Int), ())
def F_formula_beyond_1 (a0 : Int) (c0 : Addr) (K : Bool → HP) : HP :=
 callT Try.prog fn_lits_Right #[(.int .i64 a0)] .bool fun r0 =>
 brB (!r0)
 (K true)
 (ldT (.int .i64) c0 fun x1 =>
 callT Try.prog fn_lits_Var #[(.int .i64 a0)] (.int .i64) fun r2 =>
 ck c0 (.int .i64 x1) <|
 K (decide (r2 > x1)))
def F_lits_Var (a0 : Int) (K : Int → HP) : HP :=
 callT Try.prog fn_lits_Right #[(.int .i64 a0)] .bool fun r0 =>
 brB (!r0)
 (K (0 : Int))
 (K (if (IntKind.wrap .i64 (0 - a0)) > a0 then (IntKind.wrap .i64 (0 - a0)) else a0))
def F_lits_Negated (a0 : Int) (K : Bool → HP) : HP :=
 callT Try.prog fn_lits_Right #[(.int .i64 a0)] .bool fun r0 =>
 brB r0
 (K (decide (a0 < (0 : Int))))
 (K false)
def F_lits_Index (a0 : Int) (K : (Int × (Int × Unit)) → HP) : HP :=
 callT Try.prog fn_lits_Right #[(.int .i64 a0)] .bool fun r0 =>
 brB (!r0)
 (K ((0 : Int), (10 : Int), ()))
 (callT Try.prog fn_lits_Var #[(.int .i64 a0)] (.int .i64) fun r1 =>
 jn (σ := (Int × Unit)) (fun s3 => /- i -/
 K (s3.1, (0 : Int), ()))
 (fun J2 =>
 brB (decide (a0 < (0 : Int)))
 (J2 ((IntKind.wrap .i64 ((IntKind.wrap .i64 ((2 : Int) * (IntKind.wrap .i64 (r1 - (1 : Int))))) + (1 : Int))), ()))
 (J2 ((IntKind.wrap .i64 ((2 : Int) * (IntKind.wrap .i64 (r1 - (1 : Int))))), ()))))
def F_cmp_Compare_int (a0 : Int) (a1 : Int) (K : Int → HP) : HP :=
 callT Try.prog fn_cmp_isNaN_int #[(.int .i64 a0)] .bool fun r0 =>
 callT Try.prog fn_cmp_isNaN_int #[(.int .i64 a1)] .bool fun r1 =>
 brB r0
 (brB r1
 (K (0 : Int))
 (K (-1 : Int)))
 (brB r1
 (K (1 : Int))
 (brB (decide (a0 < a1))
 (K (-1 : Int))
 (brB (decide (a0 > a1))
 (K (1 : Int))
 (K (0 : Int)))))
def F_cmp_Compare_lits_Lit (a0 : Int) (a1 : Int) (K : Int → HP) : HP :=
 callT Try.prog fn_cmp_isNaN_lits_Lit #[(.int .i64 a0)] .bool fun r0 =>
 callT Try.prog fn_cmp_isNaN_lits_Lit #[(.int .i64 a1)] .bool fun r1 =>
 brB r0
 (brB r1
 (K (0 : Int))
 (K (-1 : Int)))
 (brB r1
 (K (1 : Int))
 (brB (decide (a0 < a1))
 (K (-1 : Int))
 (brB (decide (a0 > a1))
 (K (1 : Int))
 (K (0 : Int)))))
def F_salvorref01_Right (a0 : Int) (K : Bool → HP) : HP :=
 brB (decide (a0 ≥ (1 : Int)))
 (brB (decide (a0 ≤ (1048576 : Int)))
 (K true)
 (brB (decide (a0 ≥ (-1048576 : Int)))
 (K (decide (a0 ≤ (-1 : Int))))
 (K false)))
 (brB (decide (a0 ≥ (-1048576 : Int)))
 (K (decide (a0 ≤ (-1 : Int))))
 (K false))
def F_slices_Collect_lits_Lit (a0 : Value) (K : Sl → HP) : HP :=
 callT Try.prog fn_slices_AppendSeq_lits_Lit_lits_Lit #[(.slice none 0 0), a0] .sl fun r0 =>
 K ⟨r0.a, r0.len, r0.cap⟩
def F_slices_SortFunc_lits_Lit_lits_Lit (a0 : Sl) (a1 : Value) (K : Unit → HP) : HP :=
 callT Try.prog fn_math_bits_Len #[(.int .u64 (IntKind.wrap .u64 (a0.len : Int)))] (.int .i64) fun r0 =>
 callT Try.prog fn_slices_pdqsortCmpFunc_lits_Lit #[(.slice a0.a a0.len a0.cap), (.int .i64 (0 : Int)), (.int .i64 (a0.len : Int)), (.int .i64 r0), a1] (.tup .nil) fun r1 =>
 K (())
def F_lits_variables_1 (a0 : Value) (c0 : Addr) (K : Unit → HP) : HP :=
 ldT .sl c0 fun x0 =>
 lfp (σ := (Int × Unit)) (fun X1 s2 => /-  -/
 brB (decide (s2.1 < (x0.len : Int)))
 (sx x0.a x0.len s2.1 1 fun p3 =>
 ldT (.int .i64) p3 fun x4 =>
 callT Try.prog fn_lits_Right #[(.int .i64 x4)] .bool fun r5 =>
 brB r5
 (callT Try.prog fn_lits_Var #[(.int .i64 x4)] (.int .i64) fun r6 =>
 callF Try.prog a0 #[(.int .i64 r6)] .bool fun r7 =>
 brB (!r7)
 (K (()))
 (X1 ((IntKind.wrap .i64 (s2.1 + (1 : Int))), ())))
 (X1 ((IntKind.wrap .i64 (s2.1 + (1 : Int))), ())))
 (K (())))
 ((0 : Int), ())
def F_dpll_search_value (a0 : Option Addr) (a1 : Int) (K : Int → HP) : HP :=
 nn a0 fun p0 =>
 ldT .sl (p0.add 2) fun x1 =>
 callT Try.prog fn_lits_Var #[(.int .i64 a1)] (.int .i64) fun r2 =>
 ck (p0.add 2) (.slice x1.a x1.len x1.cap) <|
 sx x1.a x1.len r2 1 fun p3 =>
 ldT (.int .i64) p3 fun x4 =>
 callT Try.prog fn_lits_Negated #[(.int .i64 a1)] .bool fun r5 =>
 brB r5
 (K (IntKind.wrap .i64 (0 - x4)))
 (K x4)
def F_cmp_isNaN_int (a0 : Int) (K : Bool → HP) : HP :=
 K (a0 != a0)
def F_cmp_isNaN_lits_Lit (a0 : Int) (K : Bool → HP) : HP :=
 K (a0 != a0)
def F_slices_AppendSeq_lits_Lit_lits_Lit (a0 : Sl) (a1 : Value) (K : Sl → HP) : HP := fun h0 => (
 nw #[(.slice a0.a a0.len a0.cap)] ty_sl_lits_Lit fun b0 =>
 RangeVC Try.prog (.cons (.int .i64) .nil) a1 (fun x1 wrap2 next3 jump4 =>
 wrap2 <|
 ldT .sl (⟨b0, 0, none⟩ : Addr) fun x5 =>
 nw #[(.int .i64 x1.1)] ty_lits_Lit fun b6 =>
 apd ty_lits_Lit 1 8 #[(.int .i64 (0 : Int))] ⟨x5.a, x5.len, x5.cap⟩ ⟨(some (⟨b6, 0, none⟩ : Addr)), 1, 1⟩ fun s7 =>
 st1 (⟨b0, 0, none⟩ : Addr) (.slice s7.a s7.len s7.cap) <|
 next3)
 (ldT .sl (⟨b0, 0, none⟩ : Addr) fun x8 =>
 mkd h0.size <|
 K ⟨x8.a, x8.len, x8.cap⟩)
 (mkd h0.size <|
 K ⟨none, 0, 0⟩)
 []
 []) h0
end Go.Proofs.S
