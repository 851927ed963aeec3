/- The functions of the seat, each as a predicate over its values, printed by a program of ours, and that each is its text's. -/
import Derived.Test.YtfadkgkkbbcekaaSx10
import Derived.Test.YtfadkgkkbbcekaaSxDf
import Derived.KernelRfl
import Derived.Test.YtfadkgkkbbcekaaProg
import Derived.Test.YtfadkgkkbbcekaaClF0
set_option linter.unusedVariables false
namespace Go.Proofs.S
open Go Go.Sx Go.Proofs
def F_formula_Model (a0 : Int) (a1 : Sl) (K : (Sl × (Int × Unit)) → HP) : HP :=
 callT Try.prog fn_formula_vars #[(.int .i64 a0)] .bool fun r0 =>
 brB (!r0)
 (K (⟨none, 0, 0⟩, (50 : Int), ()))
 (cj
 (mks ty_bool 1 1 #[(.bool false)] a0 a0 fun s1 =>
 cj
 (mks ty_bool 1 1 #[(.bool false)] a0 a0 fun s2 =>
 lfp (σ := (Int × (Int × (Sl × Unit)))) (fun X3 s4 => /-    -/
 brB (decide (s4.1 < (a1.len : Int)))
 (sx a1.a a1.len s4.1 1 fun p5 =>
 ldT (.int .i64) p5 fun x6 =>
 callT Try.prog fn_formula_beyond #[(.int .i64 a0)] .val fun r7 =>
 callF Try.prog r7 #[(.int .i64 x6)] .bool fun r8 =>
 brB r8
 (K (⟨none, 0, 0⟩, (51 : Int), ()))
 (callT Try.prog fn_lits_Var #[(.int .i64 x6)] (.int .i64) fun r9 =>
 sx s2.a s2.len (IntKind.wrap .i64 (r9 - (1 : Int))) 1 fun p10 =>
 ldT .bool p10 fun x11 =>
 brB x11
 (sx s1.a s1.len (IntKind.wrap .i64 (r9 - (1 : Int))) 1 fun p12 =>
 ldT .bool p12 fun x13 =>
 callT Try.prog fn_lits_Negated #[(.int .i64 x6)] .bool fun r14 =>
 ck p12 (.bool x13) <|
 brB (x13 == r14)
 (K (⟨none, 0, 0⟩, (52 : Int), ()))
 (callT Try.prog fn_lits_Negated #[(.int .i64 x6)] .bool fun r15 =>
 sx s1.a s1.len (IntKind.wrap .i64 (r9 - (1 : Int))) 1 fun p16 =>
 st1 p16 (.bool (!r15)) <|
 sx s2.a s2.len (IntKind.wrap .i64 (r9 - (1 : Int))) 1 fun p17 =>
 st1 p17 (.bool true) <|
 X3 ((IntKind.wrap .i64 (s4.1 + (1 : Int))), s4.2.1, ⟨s4.2.2.1.a, s4.2.2.1.len, s4.2.2.1.cap⟩, ())))
 (callT Try.prog fn_lits_Negated #[(.int .i64 x6)] .bool fun r18 =>
 sx s1.a s1.len (IntKind.wrap .i64 (r9 - (1 : Int))) 1 fun p19 =>
 st1 p19 (.bool (!r18)) <|
 sx s2.a s2.len (IntKind.wrap .i64 (r9 - (1 : Int))) 1 fun p20 =>
 st1 p20 (.bool true) <|
 X3 ((IntKind.wrap .i64 (s4.1 + (1 : Int))), s4.2.1, ⟨s4.2.2.1.a, s4.2.2.1.len, s4.2.2.1.cap⟩, ()))))
 (K (⟨s1.a, s1.len, s1.cap⟩, (0 : Int), ())))
 ((0 : Int), (0 : Int), ⟨none, 0, 0⟩, ()))
 (mks ty_bool 1 1 #[(.bool false)] a0 a0 fun s21 =>
 lfp (σ := (Int × (Int × (Sl × Unit)))) (fun X22 s23 => /-    -/
 brB (decide (s23.1 < (a1.len : Int)))
 (sx a1.a a1.len s23.1 1 fun p24 =>
 ldT (.int .i64) p24 fun x25 =>
 callT Try.prog fn_formula_beyond #[(.int .i64 a0)] .val fun r26 =>
 callF Try.prog r26 #[(.int .i64 x25)] .bool fun r27 =>
 brB r27
 (K (⟨none, 0, 0⟩, (51 : Int), ()))
 (callT Try.prog fn_lits_Var #[(.int .i64 x25)] (.int .i64) fun r28 =>
 sx s21.a s21.len (IntKind.wrap .i64 (r28 - (1 : Int))) 1 fun p29 =>
 ldT .bool p29 fun x30 =>
 brB x30
 (sx s1.a s1.len (IntKind.wrap .i64 (r28 - (1 : Int))) 1 fun p31 =>
 ldT .bool p31 fun x32 =>
 callT Try.prog fn_lits_Negated #[(.int .i64 x25)] .bool fun r33 =>
 ck p31 (.bool x32) <|
 brB (x32 == r33)
 (K (⟨none, 0, 0⟩, (52 : Int), ()))
 (callT Try.prog fn_lits_Negated #[(.int .i64 x25)] .bool fun r34 =>
 sx s1.a s1.len (IntKind.wrap .i64 (r28 - (1 : Int))) 1 fun p35 =>
 st1 p35 (.bool (!r34)) <|
 sx s21.a s21.len (IntKind.wrap .i64 (r28 - (1 : Int))) 1 fun p36 =>
 st1 p36 (.bool true) <|
 X22 ((IntKind.wrap .i64 (s23.1 + (1 : Int))), s23.2.1, ⟨s23.2.2.1.a, s23.2.2.1.len, s23.2.2.1.cap⟩, ())))
 (callT Try.prog fn_lits_Negated #[(.int .i64 x25)] .bool fun r37 =>
 sx s1.a s1.len (IntKind.wrap .i64 (r28 - (1 : Int))) 1 fun p38 =>
 st1 p38 (.bool (!r37)) <|
 sx s21.a s21.len (IntKind.wrap .i64 (r28 - (1 : Int))) 1 fun p39 =>
 st1 p39 (.bool true) <|
 X22 ((IntKind.wrap .i64 (s23.1 + (1 : Int))), s23.2.1, ⟨s23.2.2.1.a, s23.2.2.1.len, s23.2.2.1.cap⟩, ()))))
 (K (⟨s1.a, s1.len, s1.cap⟩, (0 : Int), ())))
 ((0 : Int), (0 : Int), ⟨none, 0, 0⟩, ())))
 (mks ty_bool 1 1 #[(.bool false)] a0 a0 fun s40 =>
 mks ty_bool 1 1 #[(.bool false)] a0 a0 fun s41 =>
 lfp (σ := (Int × (Int × (Sl × Unit)))) (fun X42 s43 => /-    -/
 brB (decide (s43.1 < (a1.len : Int)))
 (sx a1.a a1.len s43.1 1 fun p44 =>
 ldT (.int .i64) p44 fun x45 =>
 callT Try.prog fn_formula_beyond #[(.int .i64 a0)] .val fun r46 =>
 callF Try.prog r46 #[(.int .i64 x45)] .bool fun r47 =>
 brB r47
 (K (⟨none, 0, 0⟩, (51 : Int), ()))
 (callT Try.prog fn_lits_Var #[(.int .i64 x45)] (.int .i64) fun r48 =>
 sx s40.a s40.len (IntKind.wrap .i64 (r48 - (1 : Int))) 1 fun p49 =>
 ldT .bool p49 fun x50 =>
 brB x50
 (sx s41.a s41.len (IntKind.wrap .i64 (r48 - (1 : Int))) 1 fun p51 =>
 ldT .bool p51 fun x52 =>
 callT Try.prog fn_lits_Negated #[(.int .i64 x45)] .bool fun r53 =>
 ck p51 (.bool x52) <|
 brB (x52 == r53)
 (K (⟨none, 0, 0⟩, (52 : Int), ()))
 (callT Try.prog fn_lits_Negated #[(.int .i64 x45)] .bool fun r54 =>
 sx s41.a s41.len (IntKind.wrap .i64 (r48 - (1 : Int))) 1 fun p55 =>
 st1 p55 (.bool (!r54)) <|
 sx s40.a s40.len (IntKind.wrap .i64 (r48 - (1 : Int))) 1 fun p56 =>
 st1 p56 (.bool true) <|
 X42 ((IntKind.wrap .i64 (s43.1 + (1 : Int))), s43.2.1, ⟨s43.2.2.1.a, s43.2.2.1.len, s43.2.2.1.cap⟩, ())))
 (callT Try.prog fn_lits_Negated #[(.int .i64 x45)] .bool fun r57 =>
 sx s41.a s41.len (IntKind.wrap .i64 (r48 - (1 : Int))) 1 fun p58 =>
 st1 p58 (.bool (!r57)) <|
 sx s40.a s40.len (IntKind.wrap .i64 (r48 - (1 : Int))) 1 fun p59 =>
 st1 p59 (.bool true) <|
 X42 ((IntKind.wrap .i64 (s43.1 + (1 : Int))), s43.2.1, ⟨s43.2.2.1.a, s43.2.2.1.len, s43.2.2.1.cap⟩, ()))))
 (K (⟨s41.a, s41.len, s41.cap⟩, (0 : Int), ())))
 ((0 : Int), (0 : Int), ⟨none, 0, 0⟩, ())))
set_option maxRecDepth 100000 in
theorem E_formula_Model (a0 : Int) (a1 : Sl) (K : (Sl × (Int × Unit)) → HP) (h : Heap) : fnVC Try.prog [(1000000, .nil)] 55 Try.f86 [(.int .i64 a0), (.slice a1.a a1.len a1.cap)] (.tup (.cons .sl (.cons (.int .i64) .nil))) K h = F_formula_Model a0 a1 K h := by kernel_rfl
set_option maxRecDepth 100000 in
theorem S_formula_Model{h : Heap} {a0 : Int} {a1 : Sl} (K : (Sl × (Int × Unit)) → HP) (hF : F_formula_Model a0 a1 K h) : CallsH Try.prog fn_formula_Model #[(.int .i64 a0), (.slice a1.a a1.len a1.cap)] h fun v h' => ∃ x : (Sl × (Int × Unit)), v = Ty.enc (.tup (.cons .sl (.cons (.int .i64) .nil))) x ∧ K x h' :=
  callsH_of_fn (P := Try.prog) (fn := Try.f86) (τ := (.tup (.cons .sl (.cons (.int .i64) .nil)))) follows Try.func86 (by kernel_rfl) (by kernel_rfl) Try.call86 (Eq.mpr (E_formula_Model a0 a1 K h) hF)

def F_dpll_search_set (a0 : Option Addr) (a1 : Int) (K : Unit → HP) : HP :=
 nn a0 fun p0 =>
 ldT .sl (p0.add 2) fun x1 =>
 callT Try.prog fn_lits_Var #[(.int .i64 a1)] (.int .i64) fun r2 =>
 ck (p0.add 2) (.slice x1.a x1.len x1.cap) <|
 sx x1.a x1.len r2 1 fun p3 =>
 st1 p3 (.int .i64 (1 : Int)) <|
 callT Try.prog fn_lits_Negated #[(.int .i64 a1)] .bool fun r4 =>
 jn (σ := Unit) (fun s6 => /- -/
 K (()))
 (fun J5 =>
 brB r4
 (nn a0 fun p7 =>
 ldT .sl (p7.add 2) fun x8 =>
 callT Try.prog fn_lits_Var #[(.int .i64 a1)] (.int .i64) fun r9 =>
 ck (p7.add 2) (.slice x8.a x8.len x8.cap) <|
 sx x8.a x8.len r9 1 fun p10 =>
 st1 p10 (.int .i64 (-1 : Int)) <|
 J5 (()))
 (J5 (())))
set_option maxRecDepth 100000 in
theorem E_dpll_search_set (a0 : Option Addr) (a1 : Int) (K : Unit → HP) (h : Heap) : fnVC Try.prog [(1000000, .bool)] 20 Try.f87 [(.pointer a0), (.int .i64 a1)] (.tup .nil) K h = F_dpll_search_set a0 a1 K h := by kernel_rfl
set_option maxRecDepth 100000 in
theorem S_dpll_search_set{h : Heap} {a0 : Option Addr} {a1 : Int} (K : Unit → HP) (hF : F_dpll_search_set a0 a1 K h) : CallsH Try.prog fn_dpll_search_set #[(.pointer a0), (.int .i64 a1)] h fun v h' => ∃ x : Unit, v = Ty.enc (.tup .nil) x ∧ K x h' :=
  callsH_of_fn (P := Try.prog) (fn := Try.f87) (τ := (.tup .nil)) follows Try.func87 (by kernel_rfl) (by kernel_rfl) Try.call87 (Eq.mpr (E_dpll_search_set a0 a1 K h) hF)

def F_dpll_search_models_1 (c0 : Addr) (c1 : Addr) (K : Unit → HP) : HP :=
 ldT .sl c0 fun x0 =>
 lfp (σ := (Int × Unit)) (fun X1 s2 => /-  -/
 brB (decide (s2.1 < (x0.len : Int)))
 (sx x0.a x0.len s2.1 1 fun p3 =>
 ldT (.int .i64) p3 fun x4 =>
 ldT .ptr c1 fun x5 =>
 callT Try.prog fn_dpll_search_clear #[(.pointer x5), (.int .i64 x4)] (.tup .nil) fun r6 =>
 X1 ((IntKind.wrap .i64 (s2.1 + (1 : Int))), ()))
 (K (())))
 ((0 : Int), ())
set_option maxRecDepth 100000 in
theorem E_dpll_search_models_1 (c0 : Addr) (c1 : Addr) (K : Unit → HP) (h : Heap) : fnVC Try.prog [(1000000, .bool)] 14 Try.f88 [(.pointer (some c0)), (.pointer (some c1))] (.tup .nil) K h = F_dpll_search_models_1 c0 c1 K h := by kernel_rfl
def F_dpll_search_clear (a0 : Option Addr) (a1 : Int) (K : Unit → HP) : HP :=
 nn a0 fun p0 =>
 ldT .sl (p0.add 2) fun x1 =>
 callT Try.prog fn_lits_Var #[(.int .i64 a1)] (.int .i64) fun r2 =>
 ck (p0.add 2) (.slice x1.a x1.len x1.cap) <|
 sx x1.a x1.len r2 1 fun p3 =>
 st1 p3 (.int .i64 (0 : Int)) <|
 K (())
set_option maxRecDepth 100000 in
theorem E_dpll_search_clear (a0 : Option Addr) (a1 : Int) (K : Unit → HP) (h : Heap) : fnVC Try.prog [(1000000, .bool)] 11 Try.f89 [(.pointer a0), (.int .i64 a1)] (.tup .nil) K h = F_dpll_search_clear a0 a1 K h := by kernel_rfl
set_option maxRecDepth 100000 in
theorem S_dpll_search_clear{h : Heap} {a0 : Option Addr} {a1 : Int} (K : Unit → HP) (hF : F_dpll_search_clear a0 a1 K h) : CallsH Try.prog fn_dpll_search_clear #[(.pointer a0), (.int .i64 a1)] h fun v h' => ∃ x : Unit, v = Ty.enc (.tup .nil) x ∧ K x h' :=
  callsH_of_fn (P := Try.prog) (fn := Try.f89) (τ := (.tup .nil)) follows Try.func89 (by kernel_rfl) (by kernel_rfl) Try.call89 (Eq.mpr (E_dpll_search_clear a0 a1 K h) hF)

def F_dpll_search_models_2 (a0 : Int) (c0 : Addr) (c1 : Addr) (K : Bool → HP) : HP :=
 ldT .ptr c0 fun x0 =>
 nn x0 fun p1 =>
 ldT (.int .i64) (p1.add 3) fun x2 =>
 nn x0 fun p3 =>
 st1 (p3.add 3) (.int .i64 (IntKind.wrap .i64 (x2 + (1 : Int)))) <|
 ldT .ptr c0 fun x4 =>
 nn x4 fun p5 =>
 ldT (.int .i64) (p5.add 3) fun x6 =>
 ldT .ptr c0 fun x7 =>
 nn x7 fun p8 =>
 ldT (.int .i64) (p8.add 4) fun x9 =>
 brB (decide (x6 > x9))
 (K false)
 (ldT .ptr c0 fun x10 =>
 callT Try.prog fn_dpll_search_set #[(.pointer x10), (.int .i64 a0)] (.tup .nil) fun r11 =>
 ldT .ptr c0 fun x12 =>
 ldT .ptr c0 fun x13 =>
 ldT .val c1 fun x14 =>
 callT Try.prog fn_dpll_search_models #[(.pointer x13), x14] .bool fun r15 =>
 dcl Try.prog fn_dpll_search_clear (#[] ++ #[(.pointer x12), (.int .i64 a0)] ++ #[]) (
 K r15))
set_option maxRecDepth 100000 in
theorem E_dpll_search_models_2 (a0 : Int) (c0 : Addr) (c1 : Addr) (K : Bool → HP) (h : Heap) : fnDVC Try.prog [(1000000, .bool)] 29 Try.f90 [(.int .i64 a0), (.pointer (some c0)), (.pointer (some c1))] .bool K h = F_dpll_search_models_2 a0 c0 c1 K h := by kernel_rfl
set_option maxRecDepth 100000 in
theorem S_dpll_search_models_2{h : Heap} {a0 : Int} {c0 : Addr} {c1 : Addr} (K : Bool → HP) (hF : F_dpll_search_models_2 a0 c0 c1 K h) : CallsH Try.prog fn_dpll_search_models_2 #[(.int .i64 a0), (.pointer (some c0)), (.pointer (some c1))] h fun v h' => ∃ x : Bool, v = Ty.enc .bool x ∧ K x h' :=
  callsH_of_dfn (P := Try.prog) (fn := Try.f90) (τ := .bool) follows Try.func90 (by kernel_rfl) (by kernel_rfl) (by kernel_rfl) Try.call90 (Eq.mpr (E_dpll_search_models_2 a0 c0 c1 K h) hF)

def F_clauses_sorted_1 (a0 : Value) (c0 : Addr) (K : Unit → HP) : HP :=
 ldT .sl c0 fun x0 =>
 callT Try.prog fn_slices_Values_clauses_Clause_lits_Lit #[(.slice x0.a x0.len x0.cap)] .val fun r1 =>
 callT Try.prog fn_slices_SortedFunc_lits_Lit #[r1, (.func (.func fn_lits_Compare) #[] #[])] .sl fun r2 =>
 lfp (σ := (Int × (Int × Unit))) (fun X3 s4 => /-  last -/
 brB (decide (s4.1 < (r2.len : Int)))
 (jn (σ := (Int × Unit)) (fun s6 => /- last -/
 X3 ((IntKind.wrap .i64 (s4.1 + (1 : Int))), s6.1, ()))
 (fun J5 =>
 sx r2.a r2.len s4.1 1 fun p7 =>
 ldT (.int .i64) p7 fun x8 =>
 brB (x8 == s4.2.1)
 (J5 (s4.2.1, ()))
 (callF Try.prog a0 #[(.int .i64 x8)] .bool fun r9 =>
 brB (!r9)
 (K (()))
 (J5 (x8, ())))))
 (K (())))
 ((0 : Int), (0 : Int), ())
set_option maxRecDepth 100000 in
theorem E_clauses_sorted_1 (a0 : Value) (c0 : Addr) (K : Unit → HP) (h : Heap) : fnVC Try.prog [(1000000, .nil)] 23 Try.f91 [a0, (.pointer (some c0))] (.tup .nil) K h = F_clauses_sorted_1 a0 c0 K h := by kernel_rfl
set_option maxRecDepth 100000 in
theorem S_clauses_sorted_1{h : Heap} {a0 : Value} {c0 : Addr} (K : Unit → HP) (hF : F_clauses_sorted_1 a0 c0 K h) : CallsH Try.prog fn_clauses_sorted_1 #[a0, (.pointer (some c0))] h fun v h' => ∃ x : Unit, v = Ty.enc (.tup .nil) x ∧ K x h' :=
  callsH_of_fn (P := Try.prog) (fn := Try.f91) (τ := (.tup .nil)) follows Try.func91 (by kernel_rfl) (by kernel_rfl) Try.call91 (Eq.mpr (E_clauses_sorted_1 a0 c0 K h) hF)

def F_slices_SortedFunc_lits_Lit (a0 : Value) (a1 : Value) (K : Sl → HP) : HP :=
 callT Try.prog fn_slices_Collect_lits_Lit #[a0] .sl fun r0 =>
 callT Try.prog fn_slices_SortFunc_lits_Lit_lits_Lit #[(.slice r0.a r0.len r0.cap), a1] (.tup .nil) fun r1 =>
 K ⟨r0.a, r0.len, r0.cap⟩
set_option maxRecDepth 100000 in
theorem E_slices_SortedFunc_lits_Lit (a0 : Value) (a1 : Value) (K : Sl → HP) (h : Heap) : fnVC Try.prog [(1000000, .nil)] 12 Try.f92 [a0, a1] .sl K h = F_slices_SortedFunc_lits_Lit a0 a1 K h := by kernel_rfl
set_option maxRecDepth 100000 in
theorem S_slices_SortedFunc_lits_Lit{h : Heap} {a0 : Value} {a1 : Value} (K : Sl → HP) (hF : F_slices_SortedFunc_lits_Lit a0 a1 K h) : CallsH Try.prog fn_slices_SortedFunc_lits_Lit #[a0, a1] h fun v h' => ∃ x : Sl, v = Ty.enc .sl x ∧ K x h' :=
  callsH_of_fn (P := Try.prog) (fn := Try.f92) (τ := .sl) follows Try.func92 (by kernel_rfl) (by kernel_rfl) Try.call92 (Eq.mpr (E_slices_SortedFunc_lits_Lit a0 a1 K h) hF)

def F_slices_Values_clauses_Clause_lits_Lit (a0 : Sl) (K : Value → HP) : HP :=
 nw #[(.slice a0.a a0.len a0.cap)] ty_clauses_Clause fun b0 =>
 K (.func (.func fn_slices_Values_clauses_Clause_lits_Lit_1) #[] #[(.pointer (some (⟨b0, 0, none⟩ : Addr)))])
set_option maxRecDepth 100000 in
theorem E_slices_Values_clauses_Clause_lits_Lit (a0 : Sl) (K : Value → HP) (h : Heap) : fnVC Try.prog [(1000000, .nil)] 4 Try.f93 [(.slice a0.a a0.len a0.cap)] .val K h = F_slices_Values_clauses_Clause_lits_Lit a0 K h := by kernel_rfl
set_option maxRecDepth 100000 in
theorem S_slices_Values_clauses_Clause_lits_Lit{h : Heap} {a0 : Sl} (K : Value → HP) (hF : F_slices_Values_clauses_Clause_lits_Lit a0 K h) : CallsH Try.prog fn_slices_Values_clauses_Clause_lits_Lit #[(.slice a0.a a0.len a0.cap)] h fun v h' => ∃ x : Value, v = Ty.enc .val x ∧ K x h' :=
  callsH_of_fn (P := Try.prog) (fn := Try.f93) (τ := .val) follows Try.func93 (by kernel_rfl) (by kernel_rfl) Try.call93 (Eq.mpr (E_slices_Values_clauses_Clause_lits_Lit a0 K h) hF)

def F_lits_Right (a0 : Int) (K : Bool → HP) : HP :=
 brB (a0 != (0 : Int))
 (brB (decide (a0 ≥ (-1048576 : Int)))
 (K (decide (a0 ≤ (1048576 : Int))))
 (K false))
 (K false)
set_option maxRecDepth 100000 in
theorem E_lits_Right (a0 : Int) (K : Bool → HP) (h : Heap) : fnVC Try.prog [(1000000, .nil)] 13 Try.f94 [(.int .i64 a0)] .bool K h = F_lits_Right a0 K h := by kernel_rfl
set_option maxRecDepth 100000 in
theorem S_lits_Right{h : Heap} {a0 : Int} (K : Bool → HP) (hF : F_lits_Right a0 K h) : CallsH Try.prog fn_lits_Right #[(.int .i64 a0)] h fun v h' => ∃ x : Bool, v = Ty.enc .bool x ∧ K x h' :=
  callsH_of_fn (P := Try.prog) (fn := Try.f94) (τ := .bool) follows Try.func94 (by kernel_rfl) (by kernel_rfl) Try.call94 (Eq.mpr (E_lits_Right a0 K h) hF)

def F_slices_EqualFunc_clauses_Clause_int_clauses_Clause_int (a0 : Sl) (a1 : Sl) (a2 : Value) (K : Bool → HP) : HP :=
 brB ((a0.len : Int) != (a1.len : Int))
 (K false)
 (lfp (σ := (Int × (Bool × Unit))) (fun X0 s1 => /-   -/
 brB (decide (s1.1 < (a0.len : Int)))
 (sx a0.a a0.len s1.1 1 fun p2 =>
 ldT .sl p2 fun x3 =>
 sx a1.a a1.len s1.1 1 fun p4 =>
 ldT .sl p4 fun x5 =>
 callF Try.prog a2 #[(.slice x3.a x3.len x3.cap), (.slice x5.a x5.len x5.cap)] .bool fun r6 =>
 brB (!r6)
 (K false)
 (X0 ((IntKind.wrap .i64 (s1.1 + (1 : Int))), s1.2.1, ())))
 (K true))
 ((0 : Int), false, ()))
set_option maxRecDepth 100000 in
theorem E_slices_EqualFunc_clauses_Clause_int_clauses_Clause_int (a0 : Sl) (a1 : Sl) (a2 : Value) (K : Bool → HP) (h : Heap) : fnVC Try.prog [(1000000, .nil)] 32 Try.f95 [(.slice a0.a a0.len a0.cap), (.slice a1.a a1.len a1.cap), a2] .bool K h = F_slices_EqualFunc_clauses_Clause_int_clauses_Clause_int a0 a1 a2 K h := by kernel_rfl
set_option maxRecDepth 100000 in
theorem S_slices_EqualFunc_clauses_Clause_int_clauses_Clause_int{h : Heap} {a0 : Sl} {a1 : Sl} {a2 : Value} (K : Bool → HP) (hF : F_slices_EqualFunc_clauses_Clause_int_clauses_Clause_int a0 a1 a2 K h) : CallsH Try.prog fn_slices_EqualFunc_clauses_Clause_int_clauses_Clause_int #[(.slice a0.a a0.len a0.cap), (.slice a1.a a1.len a1.cap), a2] h fun v h' => ∃ x : Bool, v = Ty.enc .bool x ∧ K x h' :=
  callsH_of_fn (P := Try.prog) (fn := Try.f95) (τ := .bool) follows Try.func95 (by kernel_rfl) (by kernel_rfl) Try.call95 (Eq.mpr (E_slices_EqualFunc_clauses_Clause_int_clauses_Clause_int a0 a1 a2 K h) hF)

def F_salvorlaw05_Equal_1 (a0 : Sl) (a1 : Sl) (K : Bool → HP) : HP :=
 callT Try.prog fn_salvorlaw02_Ints #[(.slice a0.a a0.len a0.cap)] .sl fun r0 =>
 callT Try.prog fn_slices_Equal_int_int #[(.slice r0.a r0.len r0.cap), (.slice a1.a a1.len a1.cap)] .bool fun r1 =>
 K r1
set_option maxRecDepth 100000 in
theorem E_salvorlaw05_Equal_1 (a0 : Sl) (a1 : Sl) (K : Bool → HP) (h : Heap) : fnVC Try.prog [(1000000, .nil)] 9 Try.f96 [(.slice a0.a a0.len a0.cap), (.slice a1.a a1.len a1.cap)] .bool K h = F_salvorlaw05_Equal_1 a0 a1 K h := by kernel_rfl
set_option maxRecDepth 100000 in
theorem S_salvorlaw05_Equal_1{h : Heap} {a0 : Sl} {a1 : Sl} (K : Bool → HP) (hF : F_salvorlaw05_Equal_1 a0 a1 K h) : CallsH Try.prog fn_salvorlaw05_Equal_1 #[(.slice a0.a a0.len a0.cap), (.slice a1.a a1.len a1.cap)] h fun v h' => ∃ x : Bool, v = Ty.enc .bool x ∧ K x h' :=
  callsH_of_fn (P := Try.prog) (fn := Try.f96) (τ := .bool) follows Try.func96 (by kernel_rfl) (by kernel_rfl) Try.call96 (Eq.mpr (E_salvorlaw05_Equal_1 a0 a1 K h) hF)

def F_salvorref05_Model (a0 : Int) (a1 : Sl) (K : (Sl × (Int × Unit)) → HP) : HP :=
 brB (decide (a0 < (0 : Int)))
 (K (⟨none, 0, 0⟩, (50 : Int), ()))
 (brB (decide (a0 > (1048576 : Int)))
 (K (⟨none, 0, 0⟩, (50 : Int), ()))
 (mks ty_int 1 8 #[(.int .i64 (0 : Int))] a0 a0 fun s0 =>
 lfp (σ := (Int × (Int × (Sl × Unit)))) (fun X1 s2 => /- i   -/
 brB (decide (s2.1 < (a1.len : Int)))
 (sx a1.a a1.len s2.1 1 fun p3 =>
 ldT (.int .i64) p3 fun x4 =>
 callT Try.prog fn_salvorref01_Var #[(.int .i64 x4)] (.int .i64) fun r5 =>
 brB (decide (r5 < (1 : Int)))
 (K (⟨none, 0, 0⟩, (51 : Int), ()))
 (brB (decide (r5 > a0))
 (K (⟨none, 0, 0⟩, (51 : Int), ()))
 (slH ⟨a1.a, a1.len, a1.cap⟩ s2.1 1 fun s6 =>
 sx a1.a a1.len s2.1 1 fun p7 =>
 ldT (.int .i64) p7 fun x8 =>
 callT Try.prog fn_salvorref02_Has #[(.slice s6.a s6.len s6.cap), (.int .i64 (IntKind.wrap .i64 (0 - x8)))] .bool fun r9 =>
 brB r9
 (K (⟨none, 0, 0⟩, (52 : Int), ()))
 (sx a1.a a1.len s2.1 1 fun p10 =>
 ldT (.int .i64) p10 fun x11 =>
 jn (σ := Unit) (fun s13 => /- -/
 X1 ((IntKind.wrap .i64 (s2.1 + (1 : Int))), s2.2.1, ⟨s2.2.2.1.a, s2.2.2.1.len, s2.2.2.1.cap⟩, ()))
 (fun J12 =>
 brB (decide (x11 > (0 : Int)))
 (sx s0.a s0.len (IntKind.wrap .i64 (r5 - (1 : Int))) 1 fun p14 =>
 st1 p14 (.int .i64 (1 : Int)) <|
 J12 (()))
 (J12 (())))))))
 (K (⟨s0.a, s0.len, s0.cap⟩, (0 : Int), ())))
 ((0 : Int), (0 : Int), ⟨none, 0, 0⟩, ())))
set_option maxRecDepth 100000 in
theorem E_salvorref05_Model (a0 : Int) (a1 : Sl) (K : (Sl × (Int × Unit)) → HP) (h : Heap) : fnVC Try.prog [(1000000, .nil)] 54 Try.f97 [(.int .i64 a0), (.slice a1.a a1.len a1.cap)] (.tup (.cons .sl (.cons (.int .i64) .nil))) K h = F_salvorref05_Model a0 a1 K h := by kernel_rfl
set_option maxRecDepth 100000 in
theorem S_salvorref05_Model{h : Heap} {a0 : Int} {a1 : Sl} (K : (Sl × (Int × Unit)) → HP) (hF : F_salvorref05_Model a0 a1 K h) : CallsH Try.prog fn_salvorref05_Model #[(.int .i64 a0), (.slice a1.a a1.len a1.cap)] h fun v h' => ∃ x : (Sl × (Int × Unit)), v = Ty.enc (.tup (.cons .sl (.cons (.int .i64) .nil))) x ∧ K x h' :=
  callsH_of_fn (P := Try.prog) (fn := Try.f97) (τ := (.tup (.cons .sl (.cons (.int .i64) .nil)))) follows Try.func97 (by kernel_rfl) (by kernel_rfl) Try.call97 (Eq.mpr (E_salvorref05_Model a0 a1 K h) hF)

def F_salvorref19_open (a0 : Sl) (a1 : Sl) (K : (Sl × (Bool × Unit)) → HP) : HP :=
 lfp (σ := (Int × (Sl × (Bool × (Sl × Unit))))) (fun X0 s1 => /- i out   -/
 brB (decide (s1.1 < (a0.len : Int)))
 (sx a0.a a0.len s1.1 1 fun p2 =>
 ldT (.int .i64) p2 fun x3 =>
 callT Try.prog fn_salvorref02_Has #[(.slice a1.a a1.len a1.cap), (.int .i64 x3)] .bool fun r4 =>
 brB r4
 (K (⟨none, 0, 0⟩, true, ()))
 (sx a0.a a0.len s1.1 1 fun p5 =>
 ldT (.int .i64) p5 fun x6 =>
 callT Try.prog fn_salvorref02_Has #[(.slice a1.a a1.len a1.cap), (.int .i64 (IntKind.wrap .i64 (0 - x6)))] .bool fun r7 =>
 jn (σ := Bool) (fun t9 =>
 jn (σ := (Sl × Unit)) (fun s11 => /- out -/
 X0 ((IntKind.wrap .i64 (s1.1 + (1 : Int))), ⟨s11.1.a, s11.1.len, s11.1.cap⟩, s1.2.2.1, ⟨s1.2.2.2.1.a, s1.2.2.2.1.len, s1.2.2.2.1.cap⟩, ()))
 (fun J10 =>
 brB t9
 (sx a0.a a0.len s1.1 1 fun p12 =>
 ldT (.int .i64) p12 fun x13 =>
 nw #[(.int .i64 x13)] ty_int fun b14 =>
 apd ty_int 1 8 #[(.int .i64 (0 : Int))] ⟨s1.2.1.a, s1.2.1.len, s1.2.1.cap⟩ ⟨(some (⟨b14, 0, none⟩ : Addr)), 1, 1⟩ fun s15 =>
 J10 (⟨s15.a, s15.len, s15.cap⟩, ()))
 (J10 (⟨s1.2.1.a, s1.2.1.len, s1.2.1.cap⟩, ()))))
 (fun J8 =>
 brB (!r7)
 (sx a0.a a0.len s1.1 1 fun p16 =>
 ldT (.int .i64) p16 fun x17 =>
 callT Try.prog fn_salvorref02_Has #[(.slice s1.2.1.a s1.2.1.len s1.2.1.cap), (.int .i64 x17)] .bool fun r18 =>
 J8 ((!r18)))
 (J8 false))))
 (K (⟨s1.2.1.a, s1.2.1.len, s1.2.1.cap⟩, false, ())))
 ((0 : Int), ⟨none, 0, 0⟩, false, ⟨none, 0, 0⟩, ())
set_option maxRecDepth 100000 in
theorem E_salvorref19_open (a0 : Sl) (a1 : Sl) (K : (Sl × (Bool × Unit)) → HP) (h : Heap) : fnVC Try.prog [(1000000, .bool)] 45 Try.f98 [(.slice a0.a a0.len a0.cap), (.slice a1.a a1.len a1.cap)] (.tup (.cons .sl (.cons .bool .nil))) K h = F_salvorref19_open a0 a1 K h := by kernel_rfl
set_option maxRecDepth 100000 in
theorem S_salvorref19_open{h : Heap} {a0 : Sl} {a1 : Sl} (K : (Sl × (Bool × Unit)) → HP) (hF : F_salvorref19_open a0 a1 K h) : CallsH Try.prog fn_salvorref19_open #[(.slice a0.a a0.len a0.cap), (.slice a1.a a1.len a1.cap)] h fun v h' => ∃ x : (Sl × (Bool × Unit)), v = Ty.enc (.tup (.cons .sl (.cons .bool .nil))) x ∧ K x h' :=
  callsH_of_fn (P := Try.prog) (fn := Try.f98) (τ := (.tup (.cons .sl (.cons .bool .nil)))) follows Try.func98 (by kernel_rfl) (by kernel_rfl) Try.call98 (Eq.mpr (E_salvorref19_open a0 a1 K h) hF)

def F_salvorref02_Has (a0 : Sl) (a1 : Int) (K : Bool → HP) : HP :=
 lfp (σ := (Int × (Bool × Unit))) (fun X0 s1 => /- i  -/
 brB (decide (s1.1 < (a0.len : Int)))
 (sx a0.a a0.len s1.1 1 fun p2 =>
 ldT (.int .i64) p2 fun x3 =>
 brB (x3 == a1)
 (K true)
 (X0 ((IntKind.wrap .i64 (s1.1 + (1 : Int))), s1.2.1, ())))
 (K false))
 ((0 : Int), false, ())
set_option maxRecDepth 100000 in
theorem E_salvorref02_Has (a0 : Sl) (a1 : Int) (K : Bool → HP) (h : Heap) : fnVC Try.prog [(1000000, .nil)] 18 Try.f99 [(.slice a0.a a0.len a0.cap), (.int .i64 a1)] .bool K h = F_salvorref02_Has a0 a1 K h := by kernel_rfl
set_option maxRecDepth 100000 in
theorem S_salvorref02_Has{h : Heap} {a0 : Sl} {a1 : Int} (K : Bool → HP) (hF : F_salvorref02_Has a0 a1 K h) : CallsH Try.prog fn_salvorref02_Has #[(.slice a0.a a0.len a0.cap), (.int .i64 a1)] h fun v h' => ∃ x : Bool, v = Ty.enc .bool x ∧ K x h' :=
  callsH_of_fn (P := Try.prog) (fn := Try.f99) (τ := .bool) follows Try.func99 (by kernel_rfl) (by kernel_rfl) Try.call99 (Eq.mpr (E_salvorref02_Has a0 a1 K h) hF)

def F_formula_vars (a0 : Int) (K : Bool → HP) : HP :=
 brB (decide (a0 ≥ (0 : Int)))
 (K (decide (a0 ≤ (1048576 : Int))))
 (K false)
set_option maxRecDepth 100000 in
theorem E_formula_vars (a0 : Int) (K : Bool → HP) (h : Heap) : fnVC Try.prog [(1000000, .nil)] 9 Try.f100 [(.int .i64 a0)] .bool K h = F_formula_vars a0 K h := by kernel_rfl
set_option maxRecDepth 100000 in
theorem S_formula_vars{h : Heap} {a0 : Int} (K : Bool → HP) (hF : F_formula_vars a0 K h) : CallsH Try.prog fn_formula_vars #[(.int .i64 a0)] h fun v h' => ∃ x : Bool, v = Ty.enc .bool x ∧ K x h' :=
  callsH_of_fn (P := Try.prog) (fn := Try.f100) (τ := .bool) follows Try.func100 (by kernel_rfl) (by kernel_rfl) Try.call100 (Eq.mpr (E_formula_vars a0 K h) hF)

def F_lits_variables (a0 : Sl) (K : Value → HP) : HP :=
 nw #[(.slice a0.a a0.len a0.cap)] ty_sl_lits_Lit fun b0 =>
 K (.func (.func fn_lits_variables_1) #[] #[(.pointer (some (⟨b0, 0, none⟩ : Addr)))])
set_option maxRecDepth 100000 in
theorem E_lits_variables (a0 : Sl) (K : Value → HP) (h : Heap) : fnVC Try.prog [(1000000, .nil)] 4 Try.f101 [(.slice a0.a a0.len a0.cap)] .val K h = F_lits_variables a0 K h := by kernel_rfl
set_option maxRecDepth 100000 in
theorem S_lits_variables{h : Heap} {a0 : Sl} (K : Value → HP) (hF : F_lits_variables a0 K h) : CallsH Try.prog fn_lits_variables #[(.slice a0.a a0.len a0.cap)] h fun v h' => ∃ x : Value, v = Ty.enc .val x ∧ K x h' :=
  callsH_of_fn (P := Try.prog) (fn := Try.f101) (τ := .val) follows Try.func101 (by kernel_rfl) (by kernel_rfl) Try.call101 (Eq.mpr (E_lits_variables a0 K h) hF)

def F_dpll_search_last (a0 : Option Addr) (a1 : Sl) (K : (Int × (Int × Unit)) → HP) : HP :=
 lfp (σ := (Int × (Int × (Int × (Int × (Int × Unit)))))) (fun X0 s1 => /-  n one   -/
 brB (decide (s1.1 < (a1.len : Int)))
 (sx a1.a a1.len s1.1 1 fun p2 =>
 ldT (.int .i64) p2 fun x3 =>
 callT Try.prog fn_dpll_search_value #[(.pointer a0), (.int .i64 x3)] (.int .i64) fun r4 =>
 brB (decide (r4 > (0 : Int)))
 (K ((0 : Int), (2 : Int), ()))
 (jn (σ := Bool) (fun t6 =>
 jn (σ := (Int × (Int × (Int × (Int × Unit))))) (fun s8 => /- n one   -/
 X0 ((IntKind.wrap .i64 (s1.1 + (1 : Int))), s8.1, s8.2.1, s8.2.2.1, s8.2.2.2.1, ()))
 (fun J7 =>
 brB t6
 (brB ((IntKind.wrap .i64 (s1.2.1 + (1 : Int))) == (2 : Int))
 (K ((0 : Int), (2 : Int), ()))
 (J7 ((IntKind.wrap .i64 (s1.2.1 + (1 : Int))), x3, s1.2.2.2.1, s1.2.2.2.2.1, ())))
 (J7 (s1.2.1, s1.2.2.1, s1.2.2.2.1, s1.2.2.2.2.1, ()))))
 (fun J5 =>
 brB (r4 == (0 : Int))
 (J5 ((x3 != s1.2.2.1)))
 (J5 false))))
 (K (s1.2.2.1, s1.2.1, ())))
 ((0 : Int), (0 : Int), (0 : Int), (0 : Int), (0 : Int), ())
set_option maxRecDepth 100000 in
theorem E_dpll_search_last (a0 : Option Addr) (a1 : Sl) (K : (Int × (Int × Unit)) → HP) (h : Heap) : fnVC Try.prog [(1000000, .bool)] 39 Try.f102 [(.pointer a0), (.slice a1.a a1.len a1.cap)] (.tup (.cons (.int .i64) (.cons (.int .i64) .nil))) K h = F_dpll_search_last a0 a1 K h := by kernel_rfl
set_option maxRecDepth 100000 in
theorem S_dpll_search_last{h : Heap} {a0 : Option Addr} {a1 : Sl} (K : (Int × (Int × Unit)) → HP) (hF : F_dpll_search_last a0 a1 K h) : CallsH Try.prog fn_dpll_search_last #[(.pointer a0), (.slice a1.a a1.len a1.cap)] h fun v h' => ∃ x : (Int × (Int × Unit)), v = Ty.enc (.tup (.cons (.int .i64) (.cons (.int .i64) .nil))) x ∧ K x h' :=
  callsH_of_fn (P := Try.prog) (fn := Try.f102) (τ := (.tup (.cons (.int .i64) (.cons (.int .i64) .nil)))) follows Try.func102 (by kernel_rfl) (by kernel_rfl) Try.call102 (Eq.mpr (E_dpll_search_last a0 a1 K h) hF)

def F_slices_IndexFunc_clauses_Clause_lits_Lit (a0 : Sl) (a1 : Value) (K : Int → HP) : HP :=
 lfp (σ := (Int × (Int × Unit))) (fun X0 s1 => /-   -/
 brB (decide (s1.1 < (a0.len : Int)))
 (sx a0.a a0.len s1.1 1 fun p2 =>
 ldT (.int .i64) p2 fun x3 =>
 callF Try.prog a1 #[(.int .i64 x3)] .bool fun r4 =>
 brB r4
 (K s1.1)
 (X0 ((IntKind.wrap .i64 (s1.1 + (1 : Int))), s1.2.1, ())))
 (K (-1 : Int)))
 ((0 : Int), (0 : Int), ())
set_option maxRecDepth 100000 in
theorem E_slices_IndexFunc_clauses_Clause_lits_Lit (a0 : Sl) (a1 : Value) (K : Int → HP) (h : Heap) : fnVC Try.prog [(1000000, .nil)] 19 Try.f103 [(.slice a0.a a0.len a0.cap), a1] (.int .i64) K h = F_slices_IndexFunc_clauses_Clause_lits_Lit a0 a1 K h := by kernel_rfl
set_option maxRecDepth 100000 in
theorem S_slices_IndexFunc_clauses_Clause_lits_Lit{h : Heap} {a0 : Sl} {a1 : Value} (K : Int → HP) (hF : F_slices_IndexFunc_clauses_Clause_lits_Lit a0 a1 K h) : CallsH Try.prog fn_slices_IndexFunc_clauses_Clause_lits_Lit #[(.slice a0.a a0.len a0.cap), a1] h fun v h' => ∃ x : Int, v = Ty.enc (.int .i64) x ∧ K x h' :=
  callsH_of_fn (P := Try.prog) (fn := Try.f103) (τ := (.int .i64)) follows Try.func103 (by kernel_rfl) (by kernel_rfl) Try.call103 (Eq.mpr (E_slices_IndexFunc_clauses_Clause_lits_Lit a0 a1 K h) hF)

def F_formula_beyond_1 (a0 : Int) (c0 : Addr) (K : Bool → HP) : HP :=
 callT Try.prog fn_lits_Right #[(.int .i64 a0)] .bool fun r0 =>
 brB (!r0)
 (K true)
 (ldT (.int .i64) c0 fun x1 =>
 callT Try.prog fn_lits_Var #[(.int .i64 a0)] (.int .i64) fun r2 =>
 ck c0 (.int .i64 x1) <|
 K (decide (r2 > x1)))
set_option maxRecDepth 100000 in
theorem E_formula_beyond_1 (a0 : Int) (c0 : Addr) (K : Bool → HP) (h : Heap) : fnVC Try.prog [(1000000, .nil)] 13 Try.f104 [(.int .i64 a0), (.pointer (some c0))] .bool K h = F_formula_beyond_1 a0 c0 K h := by kernel_rfl
set_option maxRecDepth 100000 in
theorem S_formula_beyond_1{h : Heap} {a0 : Int} {c0 : Addr} (K : Bool → HP) (hF : F_formula_beyond_1 a0 c0 K h) : CallsH Try.prog fn_formula_beyond_1 #[(.int .i64 a0), (.pointer (some c0))] h fun v h' => ∃ x : Bool, v = Ty.enc .bool x ∧ K x h' :=
  callsH_of_fn (P := Try.prog) (fn := Try.f104) (τ := .bool) follows Try.func104 (by kernel_rfl) (by kernel_rfl) Try.call104 (Eq.mpr (E_formula_beyond_1 a0 c0 K h) hF)

def F_lits_Var (a0 : Int) (K : Int → HP) : HP :=
 callT Try.prog fn_lits_Right #[(.int .i64 a0)] .bool fun r0 =>
 brB (!r0)
 (K (0 : Int))
 (K (if (IntKind.wrap .i64 (0 - a0)) > a0 then (IntKind.wrap .i64 (0 - a0)) else a0))
set_option maxRecDepth 100000 in
theorem E_lits_Var (a0 : Int) (K : Int → HP) (h : Heap) : fnVC Try.prog [(1000000, .nil)] 10 Try.f105 [(.int .i64 a0)] (.int .i64) K h = F_lits_Var a0 K h := by kernel_rfl
set_option maxRecDepth 100000 in
theorem S_lits_Var{h : Heap} {a0 : Int} (K : Int → HP) (hF : F_lits_Var a0 K h) : CallsH Try.prog fn_lits_Var #[(.int .i64 a0)] h fun v h' => ∃ x : Int, v = Ty.enc (.int .i64) x ∧ K x h' :=
  callsH_of_fn (P := Try.prog) (fn := Try.f105) (τ := (.int .i64)) follows Try.func105 (by kernel_rfl) (by kernel_rfl) Try.call105 (Eq.mpr (E_lits_Var a0 K h) hF)

def F_lits_Negated (a0 : Int) (K : Bool → HP) : HP :=
 callT Try.prog fn_lits_Right #[(.int .i64 a0)] .bool fun r0 =>
 brB r0
 (K (decide (a0 < (0 : Int))))
 (K false)
set_option maxRecDepth 100000 in
theorem E_lits_Negated (a0 : Int) (K : Bool → HP) (h : Heap) : fnVC Try.prog [(1000000, .nil)] 9 Try.f107 [(.int .i64 a0)] .bool K h = F_lits_Negated a0 K h := by kernel_rfl
set_option maxRecDepth 100000 in
theorem S_lits_Negated{h : Heap} {a0 : Int} (K : Bool → HP) (hF : F_lits_Negated a0 K h) : CallsH Try.prog fn_lits_Negated #[(.int .i64 a0)] h fun v h' => ∃ x : Bool, v = Ty.enc .bool x ∧ K x h' :=
  callsH_of_fn (P := Try.prog) (fn := Try.f107) (τ := .bool) follows Try.func107 (by kernel_rfl) (by kernel_rfl) Try.call107 (Eq.mpr (E_lits_Negated a0 K h) hF)

def F_lits_Index (a0 : Int) (K : (Int × (Int × Unit)) → HP) : HP :=
 callT Try.prog fn_lits_Right #[(.int .i64 a0)] .bool fun r0 =>
 brB (!r0)
 (K ((0 : Int), (10 : Int), ()))
 (callT Try.prog fn_lits_Var #[(.int .i64 a0)] (.int .i64) fun r1 =>
 jn (σ := (Int × Unit)) (fun s3 => /- i -/
 K (s3.1, (0 : Int), ()))
 (fun J2 =>
 brB (decide (a0 < (0 : Int)))
 (J2 ((IntKind.wrap .i64 ((IntKind.wrap .i64 ((2 : Int) * (IntKind.wrap .i64 (r1 - (1 : Int))))) + (1 : Int))), ()))
 (J2 ((IntKind.wrap .i64 ((2 : Int) * (IntKind.wrap .i64 (r1 - (1 : Int))))), ()))))
set_option maxRecDepth 100000 in
theorem E_lits_Index (a0 : Int) (K : (Int × (Int × Unit)) → HP) (h : Heap) : fnVC Try.prog [(1000000, .nil)] 17 Try.f108 [(.int .i64 a0)] (.tup (.cons (.int .i64) (.cons (.int .i64) .nil))) K h = F_lits_Index a0 K h := by kernel_rfl
set_option maxRecDepth 100000 in
theorem S_lits_Index{h : Heap} {a0 : Int} (K : (Int × (Int × Unit)) → HP) (hF : F_lits_Index a0 K h) : CallsH Try.prog fn_lits_Index #[(.int .i64 a0)] h fun v h' => ∃ x : (Int × (Int × Unit)), v = Ty.enc (.tup (.cons (.int .i64) (.cons (.int .i64) .nil))) x ∧ K x h' :=
  callsH_of_fn (P := Try.prog) (fn := Try.f108) (τ := (.tup (.cons (.int .i64) (.cons (.int .i64) .nil)))) follows Try.func108 (by kernel_rfl) (by kernel_rfl) Try.call108 (Eq.mpr (E_lits_Index a0 K h) hF)

def F_cmp_Compare_int (a0 : Int) (a1 : Int) (K : Int → HP) : HP :=
 callT Try.prog fn_cmp_isNaN_int #[(.int .i64 a0)] .bool fun r0 =>
 callT Try.prog fn_cmp_isNaN_int #[(.int .i64 a1)] .bool fun r1 =>
 brB r0
 (brB r1
 (K (0 : Int))
 (K (-1 : Int)))
 (brB r1
 (K (1 : Int))
 (brB (decide (a0 < a1))
 (K (-1 : Int))
 (brB (decide (a0 > a1))
 (K (1 : Int))
 (K (0 : Int)))))
set_option maxRecDepth 100000 in
theorem E_cmp_Compare_int (a0 : Int) (a1 : Int) (K : Int → HP) (h : Heap) : fnVC Try.prog [(1000000, .nil)] 20 Try.f109 [(.int .i64 a0), (.int .i64 a1)] (.int .i64) K h = F_cmp_Compare_int a0 a1 K h := by kernel_rfl
set_option maxRecDepth 100000 in
theorem S_cmp_Compare_int{h : Heap} {a0 : Int} {a1 : Int} (K : Int → HP) (hF : F_cmp_Compare_int a0 a1 K h) : CallsH Try.prog fn_cmp_Compare_int #[(.int .i64 a0), (.int .i64 a1)] h fun v h' => ∃ x : Int, v = Ty.enc (.int .i64) x ∧ K x h' :=
  callsH_of_fn (P := Try.prog) (fn := Try.f109) (τ := (.int .i64)) follows Try.func109 (by kernel_rfl) (by kernel_rfl) Try.call109 (Eq.mpr (E_cmp_Compare_int a0 a1 K h) hF)

def F_cmp_Compare_lits_Lit (a0 : Int) (a1 : Int) (K : Int → HP) : HP :=
 callT Try.prog fn_cmp_isNaN_lits_Lit #[(.int .i64 a0)] .bool fun r0 =>
 callT Try.prog fn_cmp_isNaN_lits_Lit #[(.int .i64 a1)] .bool fun r1 =>
 brB r0
 (brB r1
 (K (0 : Int))
 (K (-1 : Int)))
 (brB r1
 (K (1 : Int))
 (brB (decide (a0 < a1))
 (K (-1 : Int))
 (brB (decide (a0 > a1))
 (K (1 : Int))
 (K (0 : Int)))))
set_option maxRecDepth 100000 in
theorem E_cmp_Compare_lits_Lit (a0 : Int) (a1 : Int) (K : Int → HP) (h : Heap) : fnVC Try.prog [(1000000, .nil)] 20 Try.f110 [(.int .i64 a0), (.int .i64 a1)] (.int .i64) K h = F_cmp_Compare_lits_Lit a0 a1 K h := by kernel_rfl
set_option maxRecDepth 100000 in
theorem S_cmp_Compare_lits_Lit{h : Heap} {a0 : Int} {a1 : Int} (K : Int → HP) (hF : F_cmp_Compare_lits_Lit a0 a1 K h) : CallsH Try.prog fn_cmp_Compare_lits_Lit #[(.int .i64 a0), (.int .i64 a1)] h fun v h' => ∃ x : Int, v = Ty.enc (.int .i64) x ∧ K x h' :=
  callsH_of_fn (P := Try.prog) (fn := Try.f110) (τ := (.int .i64)) follows Try.func110 (by kernel_rfl) (by kernel_rfl) Try.call110 (Eq.mpr (E_cmp_Compare_lits_Lit a0 a1 K h) hF)

def F_salvorref01_Right (a0 : Int) (K : Bool → HP) : HP :=
 brB (decide (a0 ≥ (1 : Int)))
 (brB (decide (a0 ≤ (1048576 : Int)))
 (K true)
 (brB (decide (a0 ≥ (-1048576 : Int)))
 (K (decide (a0 ≤ (-1 : Int))))
 (K false)))
 (brB (decide (a0 ≥ (-1048576 : Int)))
 (K (decide (a0 ≤ (-1 : Int))))
 (K false))
set_option maxRecDepth 100000 in
theorem E_salvorref01_Right (a0 : Int) (K : Bool → HP) (h : Heap) : fnVC Try.prog [(1000000, .nil)] 17 Try.f115 [(.int .i64 a0)] .bool K h = F_salvorref01_Right a0 K h := by kernel_rfl
set_option maxRecDepth 100000 in
theorem S_salvorref01_Right{h : Heap} {a0 : Int} (K : Bool → HP) (hF : F_salvorref01_Right a0 K h) : CallsH Try.prog fn_salvorref01_Right #[(.int .i64 a0)] h fun v h' => ∃ x : Bool, v = Ty.enc .bool x ∧ K x h' :=
  callsH_of_fn (P := Try.prog) (fn := Try.f115) (τ := .bool) follows Try.func115 (by kernel_rfl) (by kernel_rfl) Try.call115 (Eq.mpr (E_salvorref01_Right a0 K h) hF)

def F_slices_Collect_lits_Lit (a0 : Value) (K : Sl → HP) : HP :=
 callT Try.prog fn_slices_AppendSeq_lits_Lit_lits_Lit #[(.slice none 0 0), a0] .sl fun r0 =>
 K ⟨r0.a, r0.len, r0.cap⟩
set_option maxRecDepth 100000 in
theorem E_slices_Collect_lits_Lit (a0 : Value) (K : Sl → HP) (h : Heap) : fnVC Try.prog [(1000000, .nil)] 5 Try.f116 [a0] .sl K h = F_slices_Collect_lits_Lit a0 K h := by kernel_rfl
set_option maxRecDepth 100000 in
theorem S_slices_Collect_lits_Lit{h : Heap} {a0 : Value} (K : Sl → HP) (hF : F_slices_Collect_lits_Lit a0 K h) : CallsH Try.prog fn_slices_Collect_lits_Lit #[a0] h fun v h' => ∃ x : Sl, v = Ty.enc .sl x ∧ K x h' :=
  callsH_of_fn (P := Try.prog) (fn := Try.f116) (τ := .sl) follows Try.func116 (by kernel_rfl) (by kernel_rfl) Try.call116 (Eq.mpr (E_slices_Collect_lits_Lit a0 K h) hF)

def F_slices_SortFunc_lits_Lit_lits_Lit (a0 : Sl) (a1 : Value) (K : Unit → HP) : HP :=
 callT Try.prog fn_math_bits_Len #[(.int .u64 (IntKind.wrap .u64 (a0.len : Int)))] (.int .i64) fun r0 =>
 callT Try.prog fn_slices_pdqsortCmpFunc_lits_Lit #[(.slice a0.a a0.len a0.cap), (.int .i64 (0 : Int)), (.int .i64 (a0.len : Int)), (.int .i64 r0), a1] (.tup .nil) fun r1 =>
 K (())
set_option maxRecDepth 100000 in
theorem E_slices_SortFunc_lits_Lit_lits_Lit (a0 : Sl) (a1 : Value) (K : Unit → HP) (h : Heap) : fnVC Try.prog [(1000000, .nil)] 14 Try.f117 [(.slice a0.a a0.len a0.cap), a1] (.tup .nil) K h = F_slices_SortFunc_lits_Lit_lits_Lit a0 a1 K h := by kernel_rfl
set_option maxRecDepth 100000 in
theorem S_slices_SortFunc_lits_Lit_lits_Lit{h : Heap} {a0 : Sl} {a1 : Value} (K : Unit → HP) (hF : F_slices_SortFunc_lits_Lit_lits_Lit a0 a1 K h) : CallsH Try.prog fn_slices_SortFunc_lits_Lit_lits_Lit #[(.slice a0.a a0.len a0.cap), a1] h fun v h' => ∃ x : Unit, v = Ty.enc (.tup .nil) x ∧ K x h' :=
  callsH_of_fn (P := Try.prog) (fn := Try.f117) (τ := (.tup .nil)) follows Try.func117 (by kernel_rfl) (by kernel_rfl) Try.call117 (Eq.mpr (E_slices_SortFunc_lits_Lit_lits_Lit a0 a1 K h) hF)

def F_slices_Values_clauses_Clause_lits_Lit_1 (a0 : Value) (c0 : Addr) (K : Unit → HP) : HP :=
 ldT .sl c0 fun x0 =>
 lfp (σ := (Int × Unit)) (fun X1 s2 => /-  -/
 brB (decide (s2.1 < (x0.len : Int)))
 (sx x0.a x0.len s2.1 1 fun p3 =>
 ldT (.int .i64) p3 fun x4 =>
 callF Try.prog a0 #[(.int .i64 x4)] .bool fun r5 =>
 brB (!r5)
 (K (()))
 (X1 ((IntKind.wrap .i64 (s2.1 + (1 : Int))), ())))
 (K (())))
 ((0 : Int), ())
set_option maxRecDepth 100000 in
theorem E_slices_Values_clauses_Clause_lits_Lit_1 (a0 : Value) (c0 : Addr) (K : Unit → HP) (h : Heap) : fnVC Try.prog [(1000000, .nil)] 16 Try.f118 [a0, (.pointer (some c0))] (.tup .nil) K h = F_slices_Values_clauses_Clause_lits_Lit_1 a0 c0 K h := by kernel_rfl
set_option maxRecDepth 100000 in
theorem S_slices_Values_clauses_Clause_lits_Lit_1{h : Heap} {a0 : Value} {c0 : Addr} (K : Unit → HP) (hF : F_slices_Values_clauses_Clause_lits_Lit_1 a0 c0 K h) : CallsH Try.prog fn_slices_Values_clauses_Clause_lits_Lit_1 #[a0, (.pointer (some c0))] h fun v h' => ∃ x : Unit, v = Ty.enc (.tup .nil) x ∧ K x h' :=
  callsH_of_fn (P := Try.prog) (fn := Try.f118) (τ := (.tup .nil)) follows Try.func118 (by kernel_rfl) (by kernel_rfl) Try.call118 (Eq.mpr (E_slices_Values_clauses_Clause_lits_Lit_1 a0 c0 K h) hF)

def F_lits_variables_1 (a0 : Value) (c0 : Addr) (K : Unit → HP) : HP :=
 ldT .sl c0 fun x0 =>
 lfp (σ := (Int × Unit)) (fun X1 s2 => /-  -/
 brB (decide (s2.1 < (x0.len : Int)))
 (sx x0.a x0.len s2.1 1 fun p3 =>
 ldT (.int .i64) p3 fun x4 =>
 callT Try.prog fn_lits_Right #[(.int .i64 x4)] .bool fun r5 =>
 brB r5
 (callT Try.prog fn_lits_Var #[(.int .i64 x4)] (.int .i64) fun r6 =>
 callF Try.prog a0 #[(.int .i64 r6)] .bool fun r7 =>
 brB (!r7)
 (K (()))
 (X1 ((IntKind.wrap .i64 (s2.1 + (1 : Int))), ())))
 (X1 ((IntKind.wrap .i64 (s2.1 + (1 : Int))), ())))
 (K (())))
 ((0 : Int), ())
set_option maxRecDepth 100000 in
theorem E_lits_variables_1 (a0 : Value) (c0 : Addr) (K : Unit → HP) (h : Heap) : fnVC Try.prog [(1000000, .nil)] 21 Try.f119 [a0, (.pointer (some c0))] (.tup .nil) K h = F_lits_variables_1 a0 c0 K h := by kernel_rfl
set_option maxRecDepth 100000 in
theorem S_lits_variables_1{h : Heap} {a0 : Value} {c0 : Addr} (K : Unit → HP) (hF : F_lits_variables_1 a0 c0 K h) : CallsH Try.prog fn_lits_variables_1 #[a0, (.pointer (some c0))] h fun v h' => ∃ x : Unit, v = Ty.enc (.tup .nil) x ∧ K x h' :=
  callsH_of_fn (P := Try.prog) (fn := Try.f119) (τ := (.tup .nil)) follows Try.func119 (by kernel_rfl) (by kernel_rfl) Try.call119 (Eq.mpr (E_lits_variables_1 a0 c0 K h) hF)

def F_dpll_search_value (a0 : Option Addr) (a1 : Int) (K : Int → HP) : HP :=
 nn a0 fun p0 =>
 ldT .sl (p0.add 2) fun x1 =>
 callT Try.prog fn_lits_Var #[(.int .i64 a1)] (.int .i64) fun r2 =>
 ck (p0.add 2) (.slice x1.a x1.len x1.cap) <|
 sx x1.a x1.len r2 1 fun p3 =>
 ldT (.int .i64) p3 fun x4 =>
 callT Try.prog fn_lits_Negated #[(.int .i64 a1)] .bool fun r5 =>
 brB r5
 (K (IntKind.wrap .i64 (0 - x4)))
 (K x4)
set_option maxRecDepth 100000 in
theorem E_dpll_search_value (a0 : Option Addr) (a1 : Int) (K : Int → HP) (h : Heap) : fnVC Try.prog [(1000000, .bool)] 19 Try.f120 [(.pointer a0), (.int .i64 a1)] (.int .i64) K h = F_dpll_search_value a0 a1 K h := by kernel_rfl
set_option maxRecDepth 100000 in
theorem S_dpll_search_value{h : Heap} {a0 : Option Addr} {a1 : Int} (K : Int → HP) (hF : F_dpll_search_value a0 a1 K h) : CallsH Try.prog fn_dpll_search_value #[(.pointer a0), (.int .i64 a1)] h fun v h' => ∃ x : Int, v = Ty.enc (.int .i64) x ∧ K x h' :=
  callsH_of_fn (P := Try.prog) (fn := Try.f120) (τ := (.int .i64)) follows Try.func120 (by kernel_rfl) (by kernel_rfl) Try.call120 (Eq.mpr (E_dpll_search_value a0 a1 K h) hF)

def F_cmp_isNaN_int (a0 : Int) (K : Bool → HP) : HP :=
 K (a0 != a0)
set_option maxRecDepth 100000 in
theorem E_cmp_isNaN_int (a0 : Int) (K : Bool → HP) (h : Heap) : fnVC Try.prog [(1000000, .nil)] 6 Try.f121 [(.int .i64 a0)] .bool K h = F_cmp_isNaN_int a0 K h := by kernel_rfl
set_option maxRecDepth 100000 in
theorem S_cmp_isNaN_int{h : Heap} {a0 : Int} (K : Bool → HP) (hF : F_cmp_isNaN_int a0 K h) : CallsH Try.prog fn_cmp_isNaN_int #[(.int .i64 a0)] h fun v h' => ∃ x : Bool, v = Ty.enc .bool x ∧ K x h' :=
  callsH_of_fn (P := Try.prog) (fn := Try.f121) (τ := .bool) follows Try.func121 (by kernel_rfl) (by kernel_rfl) Try.call121 (Eq.mpr (E_cmp_isNaN_int a0 K h) hF)

def F_cmp_isNaN_lits_Lit (a0 : Int) (K : Bool → HP) : HP :=
 K (a0 != a0)
set_option maxRecDepth 100000 in
theorem E_cmp_isNaN_lits_Lit (a0 : Int) (K : Bool → HP) (h : Heap) : fnVC Try.prog [(1000000, .nil)] 6 Try.f122 [(.int .i64 a0)] .bool K h = F_cmp_isNaN_lits_Lit a0 K h := by kernel_rfl
set_option maxRecDepth 100000 in
theorem S_cmp_isNaN_lits_Lit{h : Heap} {a0 : Int} (K : Bool → HP) (hF : F_cmp_isNaN_lits_Lit a0 K h) : CallsH Try.prog fn_cmp_isNaN_lits_Lit #[(.int .i64 a0)] h fun v h' => ∃ x : Bool, v = Ty.enc .bool x ∧ K x h' :=
  callsH_of_fn (P := Try.prog) (fn := Try.f122) (τ := .bool) follows Try.func122 (by kernel_rfl) (by kernel_rfl) Try.call122 (Eq.mpr (E_cmp_isNaN_lits_Lit a0 K h) hF)

def F_slices_AppendSeq_lits_Lit_lits_Lit (a0 : Sl) (a1 : Value) (K : Sl → HP) : HP := fun h0 => (
 nw #[(.slice a0.a a0.len a0.cap)] ty_sl_lits_Lit fun b0 =>
 RangeVC Try.prog (.cons (.int .i64) .nil) a1 (fun x1 wrap2 next3 jump4 =>
 wrap2 <|
 ldT .sl (⟨b0, 0, none⟩ : Addr) fun x5 =>
 nw #[(.int .i64 x1.1)] ty_lits_Lit fun b6 =>
 apd ty_lits_Lit 1 8 #[(.int .i64 (0 : Int))] ⟨x5.a, x5.len, x5.cap⟩ ⟨(some (⟨b6, 0, none⟩ : Addr)), 1, 1⟩ fun s7 =>
 st1 (⟨b0, 0, none⟩ : Addr) (.slice s7.a s7.len s7.cap) <|
 next3)
 (ldT .sl (⟨b0, 0, none⟩ : Addr) fun x8 =>
 mkd h0.size <|
 K ⟨x8.a, x8.len, x8.cap⟩)
 (mkd h0.size <|
 K ⟨none, 0, 0⟩)
 []
 []) h0
set_option maxRecDepth 100000 in
theorem E_slices_AppendSeq_lits_Lit_lits_Lit (a0 : Sl) (a1 : Value) (K : Sl → HP) (h : Heap) : fnVC Try.prog [(1000000, .nil), (7, (.cons (.int .i64) .nil))] 13 Try.f125 [(.slice a0.a a0.len a0.cap), a1] .sl K h = F_slices_AppendSeq_lits_Lit_lits_Lit a0 a1 K h := by kernel_rfl
set_option maxRecDepth 100000 in
theorem S_slices_AppendSeq_lits_Lit_lits_Lit{h : Heap} {a0 : Sl} {a1 : Value} (K : Sl → HP) (hF : F_slices_AppendSeq_lits_Lit_lits_Lit a0 a1 K h) : CallsH Try.prog fn_slices_AppendSeq_lits_Lit_lits_Lit #[(.slice a0.a a0.len a0.cap), a1] h fun v h' => ∃ x : Sl, v = Ty.enc .sl x ∧ K x h' :=
  callsH_of_fn (P := Try.prog) (fn := Try.f125) (τ := .sl) follows Try.func125 (by kernel_rfl) (by kernel_rfl) Try.call125 (Eq.mpr (E_slices_AppendSeq_lits_Lit_lits_Lit a0 a1 K h) hF)

def F_slices_pdqsortCmpFunc_lits_Lit (a0 : Sl) (a1 : Int) (a2 : Int) (a3 : Int) (a4 : Value) (K : Unit → HP) : HP :=
 lfp (σ := (Bool × (Bool × (Int × (Int × (Int × Unit)))))) (fun X0 s1 => /- wasPartitioned wasBalanced a b limit -/
 jn (σ := (Bool × (Bool × (Int × (Int × (Int × Unit)))))) (fun s3 => /- wasPartitioned wasBalanced a b limit -/
 X0 (s3.1, s3.2.1, s3.2.2.1, s3.2.2.2.1, s3.2.2.2.2.1, ()))
 (fun J2 =>
 brB (decide ((IntKind.wrap .i64 (s1.2.2.2.1 - s1.2.2.1)) ≤ (12 : Int)))
 (callT Try.prog fn_slices_insertionSortCmpFunc_lits_Lit #[(.slice a0.a a0.len a0.cap), (.int .i64 s1.2.2.1), (.int .i64 s1.2.2.2.1), a4] (.tup .nil) fun r4 =>
 K (()))
 (brB (s1.2.2.2.2.1 == (0 : Int))
 (callT Try.prog fn_slices_heapSortCmpFunc_lits_Lit #[(.slice a0.a a0.len a0.cap), (.int .i64 s1.2.2.1), (.int .i64 s1.2.2.2.1), a4] (.tup .nil) fun r5 =>
 K (()))
 (jn (σ := (Int × Unit)) (fun s7 => /- limit -/
 callT Try.prog fn_slices_choosePivotCmpFunc_lits_Lit #[(.slice a0.a a0.len a0.cap), (.int .i64 s1.2.2.1), (.int .i64 s1.2.2.2.1), a4] (.tup (.cons (.int .i64) (.cons (.int .i64) .nil))) fun r8 =>
 jn (σ := (Int × (Int × Unit))) (fun s10 => /- hint pivot -/
 brB s1.2.1
 (brB s1.1
 (jn (σ := Unit) (fun s12 => /- -/
 brB (decide (s1.2.2.1 > (0 : Int)))
 (sx a0.a a0.len (IntKind.wrap .i64 (s1.2.2.1 - (1 : Int))) 1 fun p13 =>
 ldT (.int .i64) p13 fun x14 =>
 sx a0.a a0.len s10.2.1 1 fun p15 =>
 ldT (.int .i64) p15 fun x16 =>
 callF Try.prog a4 #[(.int .i64 x14), (.int .i64 x16)] (.int .i64) fun r17 =>
 brB (!(decide (r17 < (0 : Int))))
 (callT Try.prog fn_slices_partitionEqualCmpFunc_lits_Lit #[(.slice a0.a a0.len a0.cap), (.int .i64 s1.2.2.1), (.int .i64 s1.2.2.2.1), (.int .i64 s10.2.1), a4] (.int .i64) fun r18 =>
 J2 (s1.1, s1.2.1, r18, s1.2.2.2.1, s7.1, ()))
 (callT Try.prog fn_slices_partitionCmpFunc_lits_Lit #[(.slice a0.a a0.len a0.cap), (.int .i64 s1.2.2.1), (.int .i64 s1.2.2.2.1), (.int .i64 s10.2.1), a4] (.tup (.cons (.int .i64) (.cons .bool .nil))) fun r19 =>
 nz (8 : Int) <|
 jn (σ := (Bool × (Int × (Int × Unit)))) (fun s21 => /- wasBalanced a b -/
 J2 (r19.2.1, s21.1, s21.2.1, s21.2.2.1, s7.1, ()))
 (fun J20 =>
 brB (decide ((IntKind.wrap .i64 (r19.1 - s1.2.2.1)) < (IntKind.wrap .i64 (s1.2.2.2.1 - r19.1))))
 (callT Try.prog fn_slices_pdqsortCmpFunc_lits_Lit #[(.slice a0.a a0.len a0.cap), (.int .i64 s1.2.2.1), (.int .i64 r19.1), (.int .i64 s7.1), a4] (.tup .nil) fun r22 =>
 J20 ((decide ((IntKind.wrap .i64 (r19.1 - s1.2.2.1)) ≥ (IntKind.wrap .i64 (Int.tdiv (IntKind.wrap .i64 (s1.2.2.2.1 - s1.2.2.1)) (8 : Int))))), (IntKind.wrap .i64 (r19.1 + (1 : Int))), s1.2.2.2.1, ()))
 (callT Try.prog fn_slices_pdqsortCmpFunc_lits_Lit #[(.slice a0.a a0.len a0.cap), (.int .i64 (IntKind.wrap .i64 (r19.1 + (1 : Int)))), (.int .i64 s1.2.2.2.1), (.int .i64 s7.1), a4] (.tup .nil) fun r23 =>
 J20 ((decide ((IntKind.wrap .i64 (s1.2.2.2.1 - r19.1)) ≥ (IntKind.wrap .i64 (Int.tdiv (IntKind.wrap .i64 (s1.2.2.2.1 - s1.2.2.1)) (8 : Int))))), s1.2.2.1, r19.1, ())))))
 (callT Try.prog fn_slices_partitionCmpFunc_lits_Lit #[(.slice a0.a a0.len a0.cap), (.int .i64 s1.2.2.1), (.int .i64 s1.2.2.2.1), (.int .i64 s10.2.1), a4] (.tup (.cons (.int .i64) (.cons .bool .nil))) fun r24 =>
 nz (8 : Int) <|
 jn (σ := (Bool × (Int × (Int × Unit)))) (fun s26 => /- wasBalanced a b -/
 J2 (r24.2.1, s26.1, s26.2.1, s26.2.2.1, s7.1, ()))
 (fun J25 =>
 brB (decide ((IntKind.wrap .i64 (r24.1 - s1.2.2.1)) < (IntKind.wrap .i64 (s1.2.2.2.1 - r24.1))))
 (callT Try.prog fn_slices_pdqsortCmpFunc_lits_Lit #[(.slice a0.a a0.len a0.cap), (.int .i64 s1.2.2.1), (.int .i64 r24.1), (.int .i64 s7.1), a4] (.tup .nil) fun r27 =>
 J25 ((decide ((IntKind.wrap .i64 (r24.1 - s1.2.2.1)) ≥ (IntKind.wrap .i64 (Int.tdiv (IntKind.wrap .i64 (s1.2.2.2.1 - s1.2.2.1)) (8 : Int))))), (IntKind.wrap .i64 (r24.1 + (1 : Int))), s1.2.2.2.1, ()))
 (callT Try.prog fn_slices_pdqsortCmpFunc_lits_Lit #[(.slice a0.a a0.len a0.cap), (.int .i64 (IntKind.wrap .i64 (r24.1 + (1 : Int)))), (.int .i64 s1.2.2.2.1), (.int .i64 s7.1), a4] (.tup .nil) fun r28 =>
 J25 ((decide ((IntKind.wrap .i64 (s1.2.2.2.1 - r24.1)) ≥ (IntKind.wrap .i64 (Int.tdiv (IntKind.wrap .i64 (s1.2.2.2.1 - s1.2.2.1)) (8 : Int))))), s1.2.2.1, r24.1, ())))))
 (fun J11 =>
 brB (s10.1 == (1 : Int))
 (callT Try.prog fn_slices_partialInsertionSortCmpFunc_lits_Lit #[(.slice a0.a a0.len a0.cap), (.int .i64 s1.2.2.1), (.int .i64 s1.2.2.2.1), a4] .bool fun r29 =>
 brB r29
 (K (()))
 (J11 (())))
 (J11 (()))))
 (jn (σ := Unit) (fun s31 => /- -/
 brB (decide (s1.2.2.1 > (0 : Int)))
 (sx a0.a a0.len (IntKind.wrap .i64 (s1.2.2.1 - (1 : Int))) 1 fun p32 =>
 ldT (.int .i64) p32 fun x33 =>
 sx a0.a a0.len s10.2.1 1 fun p34 =>
 ldT (.int .i64) p34 fun x35 =>
 callF Try.prog a4 #[(.int .i64 x33), (.int .i64 x35)] (.int .i64) fun r36 =>
 brB (!(decide (r36 < (0 : Int))))
 (callT Try.prog fn_slices_partitionEqualCmpFunc_lits_Lit #[(.slice a0.a a0.len a0.cap), (.int .i64 s1.2.2.1), (.int .i64 s1.2.2.2.1), (.int .i64 s10.2.1), a4] (.int .i64) fun r37 =>
 J2 (s1.1, s1.2.1, r37, s1.2.2.2.1, s7.1, ()))
 (callT Try.prog fn_slices_partitionCmpFunc_lits_Lit #[(.slice a0.a a0.len a0.cap), (.int .i64 s1.2.2.1), (.int .i64 s1.2.2.2.1), (.int .i64 s10.2.1), a4] (.tup (.cons (.int .i64) (.cons .bool .nil))) fun r38 =>
 nz (8 : Int) <|
 jn (σ := (Bool × (Int × (Int × Unit)))) (fun s40 => /- wasBalanced a b -/
 J2 (r38.2.1, s40.1, s40.2.1, s40.2.2.1, s7.1, ()))
 (fun J39 =>
 brB (decide ((IntKind.wrap .i64 (r38.1 - s1.2.2.1)) < (IntKind.wrap .i64 (s1.2.2.2.1 - r38.1))))
 (callT Try.prog fn_slices_pdqsortCmpFunc_lits_Lit #[(.slice a0.a a0.len a0.cap), (.int .i64 s1.2.2.1), (.int .i64 r38.1), (.int .i64 s7.1), a4] (.tup .nil) fun r41 =>
 J39 ((decide ((IntKind.wrap .i64 (r38.1 - s1.2.2.1)) ≥ (IntKind.wrap .i64 (Int.tdiv (IntKind.wrap .i64 (s1.2.2.2.1 - s1.2.2.1)) (8 : Int))))), (IntKind.wrap .i64 (r38.1 + (1 : Int))), s1.2.2.2.1, ()))
 (callT Try.prog fn_slices_pdqsortCmpFunc_lits_Lit #[(.slice a0.a a0.len a0.cap), (.int .i64 (IntKind.wrap .i64 (r38.1 + (1 : Int)))), (.int .i64 s1.2.2.2.1), (.int .i64 s7.1), a4] (.tup .nil) fun r42 =>
 J39 ((decide ((IntKind.wrap .i64 (s1.2.2.2.1 - r38.1)) ≥ (IntKind.wrap .i64 (Int.tdiv (IntKind.wrap .i64 (s1.2.2.2.1 - s1.2.2.1)) (8 : Int))))), s1.2.2.1, r38.1, ())))))
 (callT Try.prog fn_slices_partitionCmpFunc_lits_Lit #[(.slice a0.a a0.len a0.cap), (.int .i64 s1.2.2.1), (.int .i64 s1.2.2.2.1), (.int .i64 s10.2.1), a4] (.tup (.cons (.int .i64) (.cons .bool .nil))) fun r43 =>
 nz (8 : Int) <|
 jn (σ := (Bool × (Int × (Int × Unit)))) (fun s45 => /- wasBalanced a b -/
 J2 (r43.2.1, s45.1, s45.2.1, s45.2.2.1, s7.1, ()))
 (fun J44 =>
 brB (decide ((IntKind.wrap .i64 (r43.1 - s1.2.2.1)) < (IntKind.wrap .i64 (s1.2.2.2.1 - r43.1))))
 (callT Try.prog fn_slices_pdqsortCmpFunc_lits_Lit #[(.slice a0.a a0.len a0.cap), (.int .i64 s1.2.2.1), (.int .i64 r43.1), (.int .i64 s7.1), a4] (.tup .nil) fun r46 =>
 J44 ((decide ((IntKind.wrap .i64 (r43.1 - s1.2.2.1)) ≥ (IntKind.wrap .i64 (Int.tdiv (IntKind.wrap .i64 (s1.2.2.2.1 - s1.2.2.1)) (8 : Int))))), (IntKind.wrap .i64 (r43.1 + (1 : Int))), s1.2.2.2.1, ()))
 (callT Try.prog fn_slices_pdqsortCmpFunc_lits_Lit #[(.slice a0.a a0.len a0.cap), (.int .i64 (IntKind.wrap .i64 (r43.1 + (1 : Int)))), (.int .i64 s1.2.2.2.1), (.int .i64 s7.1), a4] (.tup .nil) fun r47 =>
 J44 ((decide ((IntKind.wrap .i64 (s1.2.2.2.1 - r43.1)) ≥ (IntKind.wrap .i64 (Int.tdiv (IntKind.wrap .i64 (s1.2.2.2.1 - s1.2.2.1)) (8 : Int))))), s1.2.2.1, r43.1, ())))))
 (fun J30 =>
 J30 (()))))
 (jn (σ := Unit) (fun s49 => /- -/
 brB (decide (s1.2.2.1 > (0 : Int)))
 (sx a0.a a0.len (IntKind.wrap .i64 (s1.2.2.1 - (1 : Int))) 1 fun p50 =>
 ldT (.int .i64) p50 fun x51 =>
 sx a0.a a0.len s10.2.1 1 fun p52 =>
 ldT (.int .i64) p52 fun x53 =>
 callF Try.prog a4 #[(.int .i64 x51), (.int .i64 x53)] (.int .i64) fun r54 =>
 brB (!(decide (r54 < (0 : Int))))
 (callT Try.prog fn_slices_partitionEqualCmpFunc_lits_Lit #[(.slice a0.a a0.len a0.cap), (.int .i64 s1.2.2.1), (.int .i64 s1.2.2.2.1), (.int .i64 s10.2.1), a4] (.int .i64) fun r55 =>
 J2 (s1.1, s1.2.1, r55, s1.2.2.2.1, s7.1, ()))
 (callT Try.prog fn_slices_partitionCmpFunc_lits_Lit #[(.slice a0.a a0.len a0.cap), (.int .i64 s1.2.2.1), (.int .i64 s1.2.2.2.1), (.int .i64 s10.2.1), a4] (.tup (.cons (.int .i64) (.cons .bool .nil))) fun r56 =>
 nz (8 : Int) <|
 jn (σ := (Bool × (Int × (Int × Unit)))) (fun s58 => /- wasBalanced a b -/
 J2 (r56.2.1, s58.1, s58.2.1, s58.2.2.1, s7.1, ()))
 (fun J57 =>
 brB (decide ((IntKind.wrap .i64 (r56.1 - s1.2.2.1)) < (IntKind.wrap .i64 (s1.2.2.2.1 - r56.1))))
 (callT Try.prog fn_slices_pdqsortCmpFunc_lits_Lit #[(.slice a0.a a0.len a0.cap), (.int .i64 s1.2.2.1), (.int .i64 r56.1), (.int .i64 s7.1), a4] (.tup .nil) fun r59 =>
 J57 ((decide ((IntKind.wrap .i64 (r56.1 - s1.2.2.1)) ≥ (IntKind.wrap .i64 (Int.tdiv (IntKind.wrap .i64 (s1.2.2.2.1 - s1.2.2.1)) (8 : Int))))), (IntKind.wrap .i64 (r56.1 + (1 : Int))), s1.2.2.2.1, ()))
 (callT Try.prog fn_slices_pdqsortCmpFunc_lits_Lit #[(.slice a0.a a0.len a0.cap), (.int .i64 (IntKind.wrap .i64 (r56.1 + (1 : Int)))), (.int .i64 s1.2.2.2.1), (.int .i64 s7.1), a4] (.tup .nil) fun r60 =>
 J57 ((decide ((IntKind.wrap .i64 (s1.2.2.2.1 - r56.1)) ≥ (IntKind.wrap .i64 (Int.tdiv (IntKind.wrap .i64 (s1.2.2.2.1 - s1.2.2.1)) (8 : Int))))), s1.2.2.1, r56.1, ())))))
 (callT Try.prog fn_slices_partitionCmpFunc_lits_Lit #[(.slice a0.a a0.len a0.cap), (.int .i64 s1.2.2.1), (.int .i64 s1.2.2.2.1), (.int .i64 s10.2.1), a4] (.tup (.cons (.int .i64) (.cons .bool .nil))) fun r61 =>
 nz (8 : Int) <|
 jn (σ := (Bool × (Int × (Int × Unit)))) (fun s63 => /- wasBalanced a b -/
 J2 (r61.2.1, s63.1, s63.2.1, s63.2.2.1, s7.1, ()))
 (fun J62 =>
 brB (decide ((IntKind.wrap .i64 (r61.1 - s1.2.2.1)) < (IntKind.wrap .i64 (s1.2.2.2.1 - r61.1))))
 (callT Try.prog fn_slices_pdqsortCmpFunc_lits_Lit #[(.slice a0.a a0.len a0.cap), (.int .i64 s1.2.2.1), (.int .i64 r61.1), (.int .i64 s7.1), a4] (.tup .nil) fun r64 =>
 J62 ((decide ((IntKind.wrap .i64 (r61.1 - s1.2.2.1)) ≥ (IntKind.wrap .i64 (Int.tdiv (IntKind.wrap .i64 (s1.2.2.2.1 - s1.2.2.1)) (8 : Int))))), (IntKind.wrap .i64 (r61.1 + (1 : Int))), s1.2.2.2.1, ()))
 (callT Try.prog fn_slices_pdqsortCmpFunc_lits_Lit #[(.slice a0.a a0.len a0.cap), (.int .i64 (IntKind.wrap .i64 (r61.1 + (1 : Int)))), (.int .i64 s1.2.2.2.1), (.int .i64 s7.1), a4] (.tup .nil) fun r65 =>
 J62 ((decide ((IntKind.wrap .i64 (s1.2.2.2.1 - r61.1)) ≥ (IntKind.wrap .i64 (Int.tdiv (IntKind.wrap .i64 (s1.2.2.2.1 - s1.2.2.1)) (8 : Int))))), s1.2.2.1, r61.1, ())))))
 (fun J48 =>
 J48 (()))))
 (fun J9 =>
 brB (r8.2.1 == (2 : Int))
 (callT Try.prog fn_slices_reverseRangeCmpFunc_lits_Lit #[(.slice a0.a a0.len a0.cap), (.int .i64 s1.2.2.1), (.int .i64 s1.2.2.2.1), a4] (.tup .nil) fun r66 =>
 J9 ((1 : Int), (IntKind.wrap .i64 ((IntKind.wrap .i64 (s1.2.2.2.1 - (1 : Int))) - (IntKind.wrap .i64 (r8.1 - s1.2.2.1)))), ()))
 (J9 (r8.2.1, r8.1, ()))))
 (fun J6 =>
 brB (!s1.2.1)
 (callT Try.prog fn_slices_breakPatternsCmpFunc_lits_Lit #[(.slice a0.a a0.len a0.cap), (.int .i64 s1.2.2.1), (.int .i64 s1.2.2.2.1), a4] (.tup .nil) fun r67 =>
 J6 ((IntKind.wrap .i64 (s1.2.2.2.2.1 - (1 : Int))), ()))
 (J6 (s1.2.2.2.2.1, ())))))))
 (true, true, a1, a2, a3, ())
set_option maxRecDepth 100000 in
theorem E_slices_pdqsortCmpFunc_lits_Lit (a0 : Sl) (a1 : Int) (a2 : Int) (a3 : Int) (a4 : Value) (K : Unit → HP) (h : Heap) : fnVC Try.prog [(1000000, .nil)] 148 Try.f126 [(.slice a0.a a0.len a0.cap), (.int .i64 a1), (.int .i64 a2), (.int .i64 a3), a4] (.tup .nil) K h = F_slices_pdqsortCmpFunc_lits_Lit a0 a1 a2 a3 a4 K h := by kernel_rfl
set_option maxRecDepth 100000 in
theorem S_slices_pdqsortCmpFunc_lits_Lit{h : Heap} {a0 : Sl} {a1 : Int} {a2 : Int} {a3 : Int} {a4 : Value} (K : Unit → HP) (hF : F_slices_pdqsortCmpFunc_lits_Lit a0 a1 a2 a3 a4 K h) : CallsH Try.prog fn_slices_pdqsortCmpFunc_lits_Lit #[(.slice a0.a a0.len a0.cap), (.int .i64 a1), (.int .i64 a2), (.int .i64 a3), a4] h fun v h' => ∃ x : Unit, v = Ty.enc (.tup .nil) x ∧ K x h' :=
  callsH_of_fn (P := Try.prog) (fn := Try.f126) (τ := (.tup .nil)) follows Try.func126 (by kernel_rfl) (by kernel_rfl) Try.call126 (Eq.mpr (E_slices_pdqsortCmpFunc_lits_Lit a0 a1 a2 a3 a4 K h) hF)

def F_math_bits_Len (a0 : Int) (K : Int → HP) : HP :=
 callT Try.prog fn_math_bits_Len64 #[(.int .u64 a0)] (.int .i64) fun r0 =>
 K r0
set_option maxRecDepth 100000 in
theorem E_math_bits_Len (a0 : Int) (K : Int → HP) (h : Heap) : fnVC Try.prog [(1000000, .nil)] 8 Try.f127 [(.int .u64 a0)] (.int .i64) K h = F_math_bits_Len a0 K h := by kernel_rfl
set_option maxRecDepth 100000 in
theorem S_math_bits_Len{h : Heap} {a0 : Int} (K : Int → HP) (hF : F_math_bits_Len a0 K h) : CallsH Try.prog fn_math_bits_Len #[(.int .u64 a0)] h fun v h' => ∃ x : Int, v = Ty.enc (.int .i64) x ∧ K x h' :=
  callsH_of_fn (P := Try.prog) (fn := Try.f127) (τ := (.int .i64)) follows Try.func127 (by kernel_rfl) (by kernel_rfl) Try.call127 (Eq.mpr (E_math_bits_Len a0 K h) hF)

def F_slices_insertionSortCmpFunc_lits_Lit (a0 : Sl) (a1 : Int) (a2 : Int) (a3 : Value) (K : Unit → HP) : HP :=
 lfp (σ := (Int × Unit)) (fun X0 s1 => /- i -/
 brB (decide (s1.1 < a2))
 (jn (σ := (Int × Unit)) (fun s3 => /- j -/
 X0 ((IntKind.wrap .i64 (s1.1 + (1 : Int))), ()))
 (fun J2 =>
 lfp (σ := (Int × Unit)) (fun X4 s5 => /- j -/
 brB (decide (s5.1 > a1))
 (sx a0.a a0.len s5.1 1 fun p6 =>
 ldT (.int .i64) p6 fun x7 =>
 sx a0.a a0.len (IntKind.wrap .i64 (s5.1 - (1 : Int))) 1 fun p8 =>
 ldT (.int .i64) p8 fun x9 =>
 callF Try.prog a3 #[(.int .i64 x7), (.int .i64 x9)] (.int .i64) fun r10 =>
 brB (decide (r10 < (0 : Int)))
 (sx a0.a a0.len (IntKind.wrap .i64 (s5.1 - (1 : Int))) 1 fun p11 =>
 ldT (.int .i64) p11 fun x12 =>
 sx a0.a a0.len s5.1 1 fun p13 =>
 ldT (.int .i64) p13 fun x14 =>
 sx a0.a a0.len s5.1 1 fun p15 =>
 st1 p15 (.int .i64 x12) <|
 sx a0.a a0.len (IntKind.wrap .i64 (s5.1 - (1 : Int))) 1 fun p16 =>
 st1 p16 (.int .i64 x14) <|
 X4 ((IntKind.wrap .i64 (s5.1 - (1 : Int))), ()))
 (J2 (s5.1, ())))
 (J2 (s5.1, ())))
 (s1.1, ())))
 (K (())))
 ((IntKind.wrap .i64 (a1 + (1 : Int))), ())
set_option maxRecDepth 100000 in
theorem E_slices_insertionSortCmpFunc_lits_Lit (a0 : Sl) (a1 : Int) (a2 : Int) (a3 : Value) (K : Unit → HP) (h : Heap) : fnVC Try.prog [(1000000, .nil)] 53 Try.f128 [(.slice a0.a a0.len a0.cap), (.int .i64 a1), (.int .i64 a2), a3] (.tup .nil) K h = F_slices_insertionSortCmpFunc_lits_Lit a0 a1 a2 a3 K h := by kernel_rfl
set_option maxRecDepth 100000 in
theorem S_slices_insertionSortCmpFunc_lits_Lit{h : Heap} {a0 : Sl} {a1 : Int} {a2 : Int} {a3 : Value} (K : Unit → HP) (hF : F_slices_insertionSortCmpFunc_lits_Lit a0 a1 a2 a3 K h) : CallsH Try.prog fn_slices_insertionSortCmpFunc_lits_Lit #[(.slice a0.a a0.len a0.cap), (.int .i64 a1), (.int .i64 a2), a3] h fun v h' => ∃ x : Unit, v = Ty.enc (.tup .nil) x ∧ K x h' :=
  callsH_of_fn (P := Try.prog) (fn := Try.f128) (τ := (.tup .nil)) follows Try.func128 (by kernel_rfl) (by kernel_rfl) Try.call128 (Eq.mpr (E_slices_insertionSortCmpFunc_lits_Lit a0 a1 a2 a3 K h) hF)

def F_slices_heapSortCmpFunc_lits_Lit (a0 : Sl) (a1 : Int) (a2 : Int) (a3 : Value) (K : Unit → HP) : HP :=
 nz (2 : Int) <|
 lfp (σ := (Int × Unit)) (fun X0 s1 => /- i -/
 brB (decide (s1.1 ≥ (0 : Int)))
 (callT Try.prog fn_slices_siftDownCmpFunc_lits_Lit #[(.slice a0.a a0.len a0.cap), (.int .i64 s1.1), (.int .i64 (IntKind.wrap .i64 (a2 - a1))), (.int .i64 a1), a3] (.tup .nil) fun r2 =>
 X0 ((IntKind.wrap .i64 (s1.1 - (1 : Int))), ()))
 (lfp (σ := (Int × Unit)) (fun X3 s4 => /- i -/
 brB (decide (s4.1 ≥ (0 : Int)))
 (sx a0.a a0.len (IntKind.wrap .i64 (a1 + s4.1)) 1 fun p5 =>
 ldT (.int .i64) p5 fun x6 =>
 sx a0.a a0.len a1 1 fun p7 =>
 ldT (.int .i64) p7 fun x8 =>
 sx a0.a a0.len a1 1 fun p9 =>
 st1 p9 (.int .i64 x6) <|
 sx a0.a a0.len (IntKind.wrap .i64 (a1 + s4.1)) 1 fun p10 =>
 st1 p10 (.int .i64 x8) <|
 callT Try.prog fn_slices_siftDownCmpFunc_lits_Lit #[(.slice a0.a a0.len a0.cap), (.int .i64 (0 : Int)), (.int .i64 s4.1), (.int .i64 a1), a3] (.tup .nil) fun r11 =>
 X3 ((IntKind.wrap .i64 (s4.1 - (1 : Int))), ()))
 (K (())))
 ((IntKind.wrap .i64 ((IntKind.wrap .i64 (a2 - a1)) - (1 : Int))), ())))
 ((IntKind.wrap .i64 (Int.tdiv (IntKind.wrap .i64 ((IntKind.wrap .i64 (a2 - a1)) - (1 : Int))) (2 : Int))), ())
set_option maxRecDepth 100000 in
theorem E_slices_heapSortCmpFunc_lits_Lit (a0 : Sl) (a1 : Int) (a2 : Int) (a3 : Value) (K : Unit → HP) (h : Heap) : fnVC Try.prog [(1000000, .nil)] 60 Try.f129 [(.slice a0.a a0.len a0.cap), (.int .i64 a1), (.int .i64 a2), a3] (.tup .nil) K h = F_slices_heapSortCmpFunc_lits_Lit a0 a1 a2 a3 K h := by kernel_rfl
set_option maxRecDepth 100000 in
theorem S_slices_heapSortCmpFunc_lits_Lit{h : Heap} {a0 : Sl} {a1 : Int} {a2 : Int} {a3 : Value} (K : Unit → HP) (hF : F_slices_heapSortCmpFunc_lits_Lit a0 a1 a2 a3 K h) : CallsH Try.prog fn_slices_heapSortCmpFunc_lits_Lit #[(.slice a0.a a0.len a0.cap), (.int .i64 a1), (.int .i64 a2), a3] h fun v h' => ∃ x : Unit, v = Ty.enc (.tup .nil) x ∧ K x h' :=
  callsH_of_fn (P := Try.prog) (fn := Try.f129) (τ := (.tup .nil)) follows Try.func129 (by kernel_rfl) (by kernel_rfl) Try.call129 (Eq.mpr (E_slices_heapSortCmpFunc_lits_Lit a0 a1 a2 a3 K h) hF)

def F_slices_breakPatternsCmpFunc_lits_Lit (a0 : Sl) (a1 : Int) (a2 : Int) (a3 : Value) (K : Unit → HP) : HP :=
 jn (σ := Unit) (fun s1 => /- -/
 K (()))
 (fun J0 =>
 brB (decide ((IntKind.wrap .i64 (a2 - a1)) ≥ (8 : Int)))
 (nw #[(.int .u64 (0 : Int))] ty_slices_xorshift fun b2 =>
 st1 (⟨b2, 0, none⟩ : Addr) (.int .u64 (IntKind.wrap .u64 (IntKind.wrap .i64 (a2 - a1)))) <|
 callT Try.prog fn_slices_nextPowerOfTwo #[(.int .i64 (IntKind.wrap .i64 (a2 - a1)))] (.int .u64) fun r3 =>
 nz (4 : Int) <|
 lfp (σ := (Int × Unit)) (fun X4 s5 => /- idx -/
 nz (4 : Int) <|
 brB (decide (s5.1 ≤ (IntKind.wrap .i64 ((IntKind.wrap .i64 (a1 + (IntKind.wrap .i64 ((IntKind.wrap .i64 (Int.tdiv (IntKind.wrap .i64 (a2 - a1)) (4 : Int))) * (2 : Int))))) + (1 : Int)))))
 (callT Try.prog fn_slices_xorshift_Next #[(.pointer (some (⟨b2, 0, none⟩ : Addr)))] (.int .u64) fun r6 =>
 jn (σ := (Int × Unit)) (fun s8 => /- other -/
 sx a0.a a0.len (IntKind.wrap .i64 (a1 + s8.1)) 1 fun p9 =>
 ldT (.int .i64) p9 fun x10 =>
 sx a0.a a0.len s5.1 1 fun p11 =>
 ldT (.int .i64) p11 fun x12 =>
 sx a0.a a0.len s5.1 1 fun p13 =>
 st1 p13 (.int .i64 x10) <|
 sx a0.a a0.len (IntKind.wrap .i64 (a1 + s8.1)) 1 fun p14 =>
 st1 p14 (.int .i64 x12) <|
 X4 ((IntKind.wrap .i64 (s5.1 + (1 : Int))), ()))
 (fun J7 =>
 brB (decide ((IntKind.wrap .i64 (bAnd .u64 r6 (IntKind.wrap .u64 (r3 - (1 : Int))))) ≥ (IntKind.wrap .i64 (a2 - a1))))
 (J7 ((IntKind.wrap .i64 ((IntKind.wrap .i64 (bAnd .u64 r6 (IntKind.wrap .u64 (r3 - (1 : Int))))) - (IntKind.wrap .i64 (a2 - a1)))), ()))
 (J7 ((IntKind.wrap .i64 (bAnd .u64 r6 (IntKind.wrap .u64 (r3 - (1 : Int))))), ()))))
 (J0 (())))
 ((IntKind.wrap .i64 ((IntKind.wrap .i64 (a1 + (IntKind.wrap .i64 ((IntKind.wrap .i64 (Int.tdiv (IntKind.wrap .i64 (a2 - a1)) (4 : Int))) * (2 : Int))))) - (1 : Int))), ()))
 (J0 (())))
set_option maxRecDepth 100000 in
theorem E_slices_breakPatternsCmpFunc_lits_Lit (a0 : Sl) (a1 : Int) (a2 : Int) (a3 : Value) (K : Unit → HP) (h : Heap) : fnVC Try.prog [(1000000, .nil)] 67 Try.f130 [(.slice a0.a a0.len a0.cap), (.int .i64 a1), (.int .i64 a2), a3] (.tup .nil) K h = F_slices_breakPatternsCmpFunc_lits_Lit a0 a1 a2 a3 K h := by kernel_rfl
set_option maxRecDepth 100000 in
theorem S_slices_breakPatternsCmpFunc_lits_Lit{h : Heap} {a0 : Sl} {a1 : Int} {a2 : Int} {a3 : Value} (K : Unit → HP) (hF : F_slices_breakPatternsCmpFunc_lits_Lit a0 a1 a2 a3 K h) : CallsH Try.prog fn_slices_breakPatternsCmpFunc_lits_Lit #[(.slice a0.a a0.len a0.cap), (.int .i64 a1), (.int .i64 a2), a3] h fun v h' => ∃ x : Unit, v = Ty.enc (.tup .nil) x ∧ K x h' :=
  callsH_of_fn (P := Try.prog) (fn := Try.f130) (τ := (.tup .nil)) follows Try.func130 (by kernel_rfl) (by kernel_rfl) Try.call130 (Eq.mpr (E_slices_breakPatternsCmpFunc_lits_Lit a0 a1 a2 a3 K h) hF)

def F_slices_choosePivotCmpFunc_lits_Lit (a0 : Sl) (a1 : Int) (a2 : Int) (a3 : Value) (K : (Int × (Int × Unit)) → HP) : HP :=
 nw #[(.int .i64 (0 : Int))] ty_int fun b0 =>
 nz (4 : Int) <|
 nz (4 : Int) <|
 nz (4 : Int) <|
 jn (σ := (Int × (Int × (Int × Unit)))) (fun s2 => /- k j i -/
 ldT (.int .i64) (⟨b0, 0, none⟩ : Addr) fun x3 =>
 brB (x3 == (0 : Int))
 (K (s2.2.1, (1 : Int), ()))
 (brB (x3 == (12 : Int))
 (K (s2.2.1, (2 : Int), ()))
 (K (s2.2.1, (0 : Int), ()))))
 (fun J1 =>
 brB (decide ((IntKind.wrap .i64 (a2 - a1)) ≥ (8 : Int)))
 (jn (σ := (Int × (Int × (Int × Unit)))) (fun s5 => /- k j i -/
 callT Try.prog fn_slices_medianCmpFunc_lits_Lit #[(.slice a0.a a0.len a0.cap), (.int .i64 s5.2.2.1), (.int .i64 s5.2.1), (.int .i64 s5.1), (.pointer (some (⟨b0, 0, none⟩ : Addr))), a3] (.int .i64) fun r6 =>
 J1 (s5.1, r6, s5.2.2.1, ()))
 (fun J4 =>
 brB (decide ((IntKind.wrap .i64 (a2 - a1)) ≥ (50 : Int)))
 (callT Try.prog fn_slices_medianAdjacentCmpFunc_lits_Lit #[(.slice a0.a a0.len a0.cap), (.int .i64 (IntKind.wrap .i64 (a1 + (IntKind.wrap .i64 ((IntKind.wrap .i64 (Int.tdiv (IntKind.wrap .i64 (a2 - a1)) (4 : Int))) * (1 : Int)))))), (.pointer (some (⟨b0, 0, none⟩ : Addr))), a3] (.int .i64) fun r7 =>
 callT Try.prog fn_slices_medianAdjacentCmpFunc_lits_Lit #[(.slice a0.a a0.len a0.cap), (.int .i64 (IntKind.wrap .i64 (a1 + (IntKind.wrap .i64 ((IntKind.wrap .i64 (Int.tdiv (IntKind.wrap .i64 (a2 - a1)) (4 : Int))) * (2 : Int)))))), (.pointer (some (⟨b0, 0, none⟩ : Addr))), a3] (.int .i64) fun r8 =>
 callT Try.prog fn_slices_medianAdjacentCmpFunc_lits_Lit #[(.slice a0.a a0.len a0.cap), (.int .i64 (IntKind.wrap .i64 (a1 + (IntKind.wrap .i64 ((IntKind.wrap .i64 (Int.tdiv (IntKind.wrap .i64 (a2 - a1)) (4 : Int))) * (3 : Int)))))), (.pointer (some (⟨b0, 0, none⟩ : Addr))), a3] (.int .i64) fun r9 =>
 J4 (r9, r8, r7, ()))
 (J4 ((IntKind.wrap .i64 (a1 + (IntKind.wrap .i64 ((IntKind.wrap .i64 (Int.tdiv (IntKind.wrap .i64 (a2 - a1)) (4 : Int))) * (3 : Int))))), (IntKind.wrap .i64 (a1 + (IntKind.wrap .i64 ((IntKind.wrap .i64 (Int.tdiv (IntKind.wrap .i64 (a2 - a1)) (4 : Int))) * (2 : Int))))), (IntKind.wrap .i64 (a1 + (IntKind.wrap .i64 ((IntKind.wrap .i64 (Int.tdiv (IntKind.wrap .i64 (a2 - a1)) (4 : Int))) * (1 : Int))))), ()))))
 (J1 ((IntKind.wrap .i64 (a1 + (IntKind.wrap .i64 ((IntKind.wrap .i64 (Int.tdiv (IntKind.wrap .i64 (a2 - a1)) (4 : Int))) * (3 : Int))))), (IntKind.wrap .i64 (a1 + (IntKind.wrap .i64 ((IntKind.wrap .i64 (Int.tdiv (IntKind.wrap .i64 (a2 - a1)) (4 : Int))) * (2 : Int))))), (IntKind.wrap .i64 (a1 + (IntKind.wrap .i64 ((IntKind.wrap .i64 (Int.tdiv (IntKind.wrap .i64 (a2 - a1)) (4 : Int))) * (1 : Int))))), ())))
set_option maxRecDepth 100000 in
theorem E_slices_choosePivotCmpFunc_lits_Lit (a0 : Sl) (a1 : Int) (a2 : Int) (a3 : Value) (K : (Int × (Int × Unit)) → HP) (h : Heap) : fnVC Try.prog [(1000000, .nil)] 63 Try.f131 [(.slice a0.a a0.len a0.cap), (.int .i64 a1), (.int .i64 a2), a3] (.tup (.cons (.int .i64) (.cons (.int .i64) .nil))) K h = F_slices_choosePivotCmpFunc_lits_Lit a0 a1 a2 a3 K h := by kernel_rfl
set_option maxRecDepth 100000 in
theorem S_slices_choosePivotCmpFunc_lits_Lit{h : Heap} {a0 : Sl} {a1 : Int} {a2 : Int} {a3 : Value} (K : (Int × (Int × Unit)) → HP) (hF : F_slices_choosePivotCmpFunc_lits_Lit a0 a1 a2 a3 K h) : CallsH Try.prog fn_slices_choosePivotCmpFunc_lits_Lit #[(.slice a0.a a0.len a0.cap), (.int .i64 a1), (.int .i64 a2), a3] h fun v h' => ∃ x : (Int × (Int × Unit)), v = Ty.enc (.tup (.cons (.int .i64) (.cons (.int .i64) .nil))) x ∧ K x h' :=
  callsH_of_fn (P := Try.prog) (fn := Try.f131) (τ := (.tup (.cons (.int .i64) (.cons (.int .i64) .nil)))) follows Try.func131 (by kernel_rfl) (by kernel_rfl) Try.call131 (Eq.mpr (E_slices_choosePivotCmpFunc_lits_Lit a0 a1 a2 a3 K h) hF)

def F_slices_reverseRangeCmpFunc_lits_Lit (a0 : Sl) (a1 : Int) (a2 : Int) (a3 : Value) (K : Unit → HP) : HP :=
 lfp (σ := (Int × (Int × Unit))) (fun X0 s1 => /- j i -/
 brB (decide (s1.2.1 < s1.1))
 (sx a0.a a0.len s1.1 1 fun p2 =>
 ldT (.int .i64) p2 fun x3 =>
 sx a0.a a0.len s1.2.1 1 fun p4 =>
 ldT (.int .i64) p4 fun x5 =>
 sx a0.a a0.len s1.2.1 1 fun p6 =>
 st1 p6 (.int .i64 x3) <|
 sx a0.a a0.len s1.1 1 fun p7 =>
 st1 p7 (.int .i64 x5) <|
 X0 ((IntKind.wrap .i64 (s1.1 - (1 : Int))), (IntKind.wrap .i64 (s1.2.1 + (1 : Int))), ()))
 (K (())))
 ((IntKind.wrap .i64 (a2 - (1 : Int))), a1, ())
set_option maxRecDepth 100000 in
theorem E_slices_reverseRangeCmpFunc_lits_Lit (a0 : Sl) (a1 : Int) (a2 : Int) (a3 : Value) (K : Unit → HP) (h : Heap) : fnVC Try.prog [(1000000, .nil)] 34 Try.f132 [(.slice a0.a a0.len a0.cap), (.int .i64 a1), (.int .i64 a2), a3] (.tup .nil) K h = F_slices_reverseRangeCmpFunc_lits_Lit a0 a1 a2 a3 K h := by kernel_rfl
set_option maxRecDepth 100000 in
theorem S_slices_reverseRangeCmpFunc_lits_Lit{h : Heap} {a0 : Sl} {a1 : Int} {a2 : Int} {a3 : Value} (K : Unit → HP) (hF : F_slices_reverseRangeCmpFunc_lits_Lit a0 a1 a2 a3 K h) : CallsH Try.prog fn_slices_reverseRangeCmpFunc_lits_Lit #[(.slice a0.a a0.len a0.cap), (.int .i64 a1), (.int .i64 a2), a3] h fun v h' => ∃ x : Unit, v = Ty.enc (.tup .nil) x ∧ K x h' :=
  callsH_of_fn (P := Try.prog) (fn := Try.f132) (τ := (.tup .nil)) follows Try.func132 (by kernel_rfl) (by kernel_rfl) Try.call132 (Eq.mpr (E_slices_reverseRangeCmpFunc_lits_Lit a0 a1 a2 a3 K h) hF)

def F_slices_partialInsertionSortCmpFunc_lits_Lit (a0 : Sl) (a1 : Int) (a2 : Int) (a3 : Value) (K : Bool → HP) : HP :=
 lfp (σ := (Int × (Int × (Bool × Unit)))) (fun X0 s1 => /- j i  -/
 brB (decide (s1.1 < (5 : Int)))
 (jn (σ := (Int × Unit)) (fun s3 => /- i -/
 brB (s3.1 == a2)
 (K true)
 (brB (decide ((IntKind.wrap .i64 (a2 - a1)) < (50 : Int)))
 (K false)
 (sx a0.a a0.len (IntKind.wrap .i64 (s3.1 - (1 : Int))) 1 fun p4 =>
 ldT (.int .i64) p4 fun x5 =>
 sx a0.a a0.len s3.1 1 fun p6 =>
 ldT (.int .i64) p6 fun x7 =>
 sx a0.a a0.len s3.1 1 fun p8 =>
 st1 p8 (.int .i64 x5) <|
 sx a0.a a0.len (IntKind.wrap .i64 (s3.1 - (1 : Int))) 1 fun p9 =>
 st1 p9 (.int .i64 x7) <|
 jn (σ := Unit) (fun s11 => /- -/
 jn (σ := Unit) (fun s13 => /- -/
 X0 ((IntKind.wrap .i64 (s1.1 + (1 : Int))), s3.1, s1.2.2.1, ()))
 (fun J12 =>
 brB (decide ((IntKind.wrap .i64 (a2 - s3.1)) ≥ (2 : Int)))
 (jn (σ := (Int × Unit)) (fun s15 => /- j -/
 J12 (()))
 (fun J14 =>
 lfp (σ := (Int × Unit)) (fun X16 s17 => /- j -/
 brB (decide (s17.1 < a2))
 (sx a0.a a0.len s17.1 1 fun p18 =>
 ldT (.int .i64) p18 fun x19 =>
 sx a0.a a0.len (IntKind.wrap .i64 (s17.1 - (1 : Int))) 1 fun p20 =>
 ldT (.int .i64) p20 fun x21 =>
 callF Try.prog a3 #[(.int .i64 x19), (.int .i64 x21)] (.int .i64) fun r22 =>
 brB (!(decide (r22 < (0 : Int))))
 (J14 (s17.1, ()))
 (sx a0.a a0.len (IntKind.wrap .i64 (s17.1 - (1 : Int))) 1 fun p23 =>
 ldT (.int .i64) p23 fun x24 =>
 sx a0.a a0.len s17.1 1 fun p25 =>
 ldT (.int .i64) p25 fun x26 =>
 sx a0.a a0.len s17.1 1 fun p27 =>
 st1 p27 (.int .i64 x24) <|
 sx a0.a a0.len (IntKind.wrap .i64 (s17.1 - (1 : Int))) 1 fun p28 =>
 st1 p28 (.int .i64 x26) <|
 X16 ((IntKind.wrap .i64 (s17.1 + (1 : Int))), ())))
 (J14 (s17.1, ())))
 ((IntKind.wrap .i64 (s3.1 + (1 : Int))), ())))
 (J12 (()))))
 (fun J10 =>
 brB (decide ((IntKind.wrap .i64 (s3.1 - a1)) ≥ (2 : Int)))
 (jn (σ := (Int × Unit)) (fun s30 => /- j -/
 J10 (()))
 (fun J29 =>
 lfp (σ := (Int × Unit)) (fun X31 s32 => /- j -/
 brB (decide (s32.1 ≥ (1 : Int)))
 (sx a0.a a0.len s32.1 1 fun p33 =>
 ldT (.int .i64) p33 fun x34 =>
 sx a0.a a0.len (IntKind.wrap .i64 (s32.1 - (1 : Int))) 1 fun p35 =>
 ldT (.int .i64) p35 fun x36 =>
 callF Try.prog a3 #[(.int .i64 x34), (.int .i64 x36)] (.int .i64) fun r37 =>
 brB (!(decide (r37 < (0 : Int))))
 (J29 (s32.1, ()))
 (sx a0.a a0.len (IntKind.wrap .i64 (s32.1 - (1 : Int))) 1 fun p38 =>
 ldT (.int .i64) p38 fun x39 =>
 sx a0.a a0.len s32.1 1 fun p40 =>
 ldT (.int .i64) p40 fun x41 =>
 sx a0.a a0.len s32.1 1 fun p42 =>
 st1 p42 (.int .i64 x39) <|
 sx a0.a a0.len (IntKind.wrap .i64 (s32.1 - (1 : Int))) 1 fun p43 =>
 st1 p43 (.int .i64 x41) <|
 X31 ((IntKind.wrap .i64 (s32.1 - (1 : Int))), ())))
 (J29 (s32.1, ())))
 ((IntKind.wrap .i64 (s3.1 - (1 : Int))), ())))
 (J10 (()))))))
 (fun J2 =>
 lfp (σ := (Int × Unit)) (fun X44 s45 => /- i -/
 brB (decide (s45.1 < a2))
 (sx a0.a a0.len s45.1 1 fun p46 =>
 ldT (.int .i64) p46 fun x47 =>
 sx a0.a a0.len (IntKind.wrap .i64 (s45.1 - (1 : Int))) 1 fun p48 =>
 ldT (.int .i64) p48 fun x49 =>
 callF Try.prog a3 #[(.int .i64 x47), (.int .i64 x49)] (.int .i64) fun r50 =>
 brB (!(decide (r50 < (0 : Int))))
 (X44 ((IntKind.wrap .i64 (s45.1 + (1 : Int))), ()))
 (J2 (s45.1, ())))
 (J2 (s45.1, ())))
 (s1.2.1, ())))
 (K false))
 ((0 : Int), (IntKind.wrap .i64 (a1 + (1 : Int))), false, ())
set_option maxRecDepth 100000 in
theorem E_slices_partialInsertionSortCmpFunc_lits_Lit (a0 : Sl) (a1 : Int) (a2 : Int) (a3 : Value) (K : Bool → HP) (h : Heap) : fnVC Try.prog [(1000000, .nil)] 141 Try.f133 [(.slice a0.a a0.len a0.cap), (.int .i64 a1), (.int .i64 a2), a3] .bool K h = F_slices_partialInsertionSortCmpFunc_lits_Lit a0 a1 a2 a3 K h := by kernel_rfl
set_option maxRecDepth 100000 in
theorem S_slices_partialInsertionSortCmpFunc_lits_Lit{h : Heap} {a0 : Sl} {a1 : Int} {a2 : Int} {a3 : Value} (K : Bool → HP) (hF : F_slices_partialInsertionSortCmpFunc_lits_Lit a0 a1 a2 a3 K h) : CallsH Try.prog fn_slices_partialInsertionSortCmpFunc_lits_Lit #[(.slice a0.a a0.len a0.cap), (.int .i64 a1), (.int .i64 a2), a3] h fun v h' => ∃ x : Bool, v = Ty.enc .bool x ∧ K x h' :=
  callsH_of_fn (P := Try.prog) (fn := Try.f133) (τ := .bool) follows Try.func133 (by kernel_rfl) (by kernel_rfl) Try.call133 (Eq.mpr (E_slices_partialInsertionSortCmpFunc_lits_Lit a0 a1 a2 a3 K h) hF)

def F_slices_partitionEqualCmpFunc_lits_Lit (a0 : Sl) (a1 : Int) (a2 : Int) (a3 : Int) (a4 : Value) (K : Int → HP) : HP :=
 sx a0.a a0.len a3 1 fun p0 =>
 ldT (.int .i64) p0 fun x1 =>
 sx a0.a a0.len a1 1 fun p2 =>
 ldT (.int .i64) p2 fun x3 =>
 sx a0.a a0.len a1 1 fun p4 =>
 st1 p4 (.int .i64 x1) <|
 sx a0.a a0.len a3 1 fun p5 =>
 st1 p5 (.int .i64 x3) <|
 lfp (σ := (Int × (Int × Unit))) (fun X6 s7 => /- j i -/
 jn (σ := (Int × Unit)) (fun s9 => /- i -/
 jn (σ := (Int × Unit)) (fun s11 => /- j -/
 brB (decide (s9.1 > s11.1))
 (K s9.1)
 (sx a0.a a0.len s11.1 1 fun p12 =>
 ldT (.int .i64) p12 fun x13 =>
 sx a0.a a0.len s9.1 1 fun p14 =>
 ldT (.int .i64) p14 fun x15 =>
 sx a0.a a0.len s9.1 1 fun p16 =>
 st1 p16 (.int .i64 x13) <|
 sx a0.a a0.len s11.1 1 fun p17 =>
 st1 p17 (.int .i64 x15) <|
 X6 ((IntKind.wrap .i64 (s11.1 - (1 : Int))), (IntKind.wrap .i64 (s9.1 + (1 : Int))), ())))
 (fun J10 =>
 lfp (σ := (Int × Unit)) (fun X18 s19 => /- j -/
 brB (decide (s9.1 ≤ s19.1))
 (sx a0.a a0.len a1 1 fun p20 =>
 ldT (.int .i64) p20 fun x21 =>
 sx a0.a a0.len s19.1 1 fun p22 =>
 ldT (.int .i64) p22 fun x23 =>
 callF Try.prog a4 #[(.int .i64 x21), (.int .i64 x23)] (.int .i64) fun r24 =>
 brB (decide (r24 < (0 : Int)))
 (X18 ((IntKind.wrap .i64 (s19.1 - (1 : Int))), ()))
 (J10 (s19.1, ())))
 (J10 (s19.1, ())))
 (s7.1, ())))
 (fun J8 =>
 lfp (σ := (Int × Unit)) (fun X25 s26 => /- i -/
 brB (decide (s26.1 ≤ s7.1))
 (sx a0.a a0.len a1 1 fun p27 =>
 ldT (.int .i64) p27 fun x28 =>
 sx a0.a a0.len s26.1 1 fun p29 =>
 ldT (.int .i64) p29 fun x30 =>
 callF Try.prog a4 #[(.int .i64 x28), (.int .i64 x30)] (.int .i64) fun r31 =>
 brB (!(decide (r31 < (0 : Int))))
 (X25 ((IntKind.wrap .i64 (s26.1 + (1 : Int))), ()))
 (J8 (s26.1, ())))
 (J8 (s26.1, ())))
 (s7.2.1, ())))
 ((IntKind.wrap .i64 (a2 - (1 : Int))), (IntKind.wrap .i64 (a1 + (1 : Int))), ())
set_option maxRecDepth 100000 in
theorem E_slices_partitionEqualCmpFunc_lits_Lit (a0 : Sl) (a1 : Int) (a2 : Int) (a3 : Int) (a4 : Value) (K : Int → HP) (h : Heap) : fnVC Try.prog [(1000000, .nil)] 90 Try.f134 [(.slice a0.a a0.len a0.cap), (.int .i64 a1), (.int .i64 a2), (.int .i64 a3), a4] (.int .i64) K h = F_slices_partitionEqualCmpFunc_lits_Lit a0 a1 a2 a3 a4 K h := by kernel_rfl
set_option maxRecDepth 100000 in
theorem S_slices_partitionEqualCmpFunc_lits_Lit{h : Heap} {a0 : Sl} {a1 : Int} {a2 : Int} {a3 : Int} {a4 : Value} (K : Int → HP) (hF : F_slices_partitionEqualCmpFunc_lits_Lit a0 a1 a2 a3 a4 K h) : CallsH Try.prog fn_slices_partitionEqualCmpFunc_lits_Lit #[(.slice a0.a a0.len a0.cap), (.int .i64 a1), (.int .i64 a2), (.int .i64 a3), a4] h fun v h' => ∃ x : Int, v = Ty.enc (.int .i64) x ∧ K x h' :=
  callsH_of_fn (P := Try.prog) (fn := Try.f134) (τ := (.int .i64)) follows Try.func134 (by kernel_rfl) (by kernel_rfl) Try.call134 (Eq.mpr (E_slices_partitionEqualCmpFunc_lits_Lit a0 a1 a2 a3 a4 K h) hF)

def F_slices_partitionCmpFunc_lits_Lit (a0 : Sl) (a1 : Int) (a2 : Int) (a3 : Int) (a4 : Value) (K : (Int × (Bool × Unit)) → HP) : HP :=
 sx a0.a a0.len a3 1 fun p0 =>
 ldT (.int .i64) p0 fun x1 =>
 sx a0.a a0.len a1 1 fun p2 =>
 ldT (.int .i64) p2 fun x3 =>
 sx a0.a a0.len a1 1 fun p4 =>
 st1 p4 (.int .i64 x1) <|
 sx a0.a a0.len a3 1 fun p5 =>
 st1 p5 (.int .i64 x3) <|
 jn (σ := (Int × Unit)) (fun s7 => /- i -/
 jn (σ := (Int × Unit)) (fun s9 => /- j -/
 brB (decide (s7.1 > s9.1))
 (sx a0.a a0.len a1 1 fun p10 =>
 ldT (.int .i64) p10 fun x11 =>
 sx a0.a a0.len s9.1 1 fun p12 =>
 ldT (.int .i64) p12 fun x13 =>
 sx a0.a a0.len s9.1 1 fun p14 =>
 st1 p14 (.int .i64 x11) <|
 sx a0.a a0.len a1 1 fun p15 =>
 st1 p15 (.int .i64 x13) <|
 K (s9.1, true, ()))
 (sx a0.a a0.len s9.1 1 fun p16 =>
 ldT (.int .i64) p16 fun x17 =>
 sx a0.a a0.len s7.1 1 fun p18 =>
 ldT (.int .i64) p18 fun x19 =>
 sx a0.a a0.len s7.1 1 fun p20 =>
 st1 p20 (.int .i64 x17) <|
 sx a0.a a0.len s9.1 1 fun p21 =>
 st1 p21 (.int .i64 x19) <|
 lfp (σ := (Int × (Int × Unit))) (fun X22 s23 => /- j i -/
 jn (σ := (Int × Unit)) (fun s25 => /- i -/
 jn (σ := (Int × Unit)) (fun s27 => /- j -/
 brB (decide (s25.1 > s27.1))
 (sx a0.a a0.len a1 1 fun p28 =>
 ldT (.int .i64) p28 fun x29 =>
 sx a0.a a0.len s27.1 1 fun p30 =>
 ldT (.int .i64) p30 fun x31 =>
 sx a0.a a0.len s27.1 1 fun p32 =>
 st1 p32 (.int .i64 x29) <|
 sx a0.a a0.len a1 1 fun p33 =>
 st1 p33 (.int .i64 x31) <|
 K (s27.1, false, ()))
 (sx a0.a a0.len s27.1 1 fun p34 =>
 ldT (.int .i64) p34 fun x35 =>
 sx a0.a a0.len s25.1 1 fun p36 =>
 ldT (.int .i64) p36 fun x37 =>
 sx a0.a a0.len s25.1 1 fun p38 =>
 st1 p38 (.int .i64 x35) <|
 sx a0.a a0.len s27.1 1 fun p39 =>
 st1 p39 (.int .i64 x37) <|
 X22 ((IntKind.wrap .i64 (s27.1 - (1 : Int))), (IntKind.wrap .i64 (s25.1 + (1 : Int))), ())))
 (fun J26 =>
 lfp (σ := (Int × Unit)) (fun X40 s41 => /- j -/
 brB (decide (s25.1 ≤ s41.1))
 (sx a0.a a0.len s41.1 1 fun p42 =>
 ldT (.int .i64) p42 fun x43 =>
 sx a0.a a0.len a1 1 fun p44 =>
 ldT (.int .i64) p44 fun x45 =>
 callF Try.prog a4 #[(.int .i64 x43), (.int .i64 x45)] (.int .i64) fun r46 =>
 brB (!(decide (r46 < (0 : Int))))
 (X40 ((IntKind.wrap .i64 (s41.1 - (1 : Int))), ()))
 (J26 (s41.1, ())))
 (J26 (s41.1, ())))
 (s23.1, ())))
 (fun J24 =>
 lfp (σ := (Int × Unit)) (fun X47 s48 => /- i -/
 brB (decide (s48.1 ≤ s23.1))
 (sx a0.a a0.len s48.1 1 fun p49 =>
 ldT (.int .i64) p49 fun x50 =>
 sx a0.a a0.len a1 1 fun p51 =>
 ldT (.int .i64) p51 fun x52 =>
 callF Try.prog a4 #[(.int .i64 x50), (.int .i64 x52)] (.int .i64) fun r53 =>
 brB (decide (r53 < (0 : Int)))
 (X47 ((IntKind.wrap .i64 (s48.1 + (1 : Int))), ()))
 (J24 (s48.1, ())))
 (J24 (s48.1, ())))
 (s23.2.1, ())))
 ((IntKind.wrap .i64 (s9.1 - (1 : Int))), (IntKind.wrap .i64 (s7.1 + (1 : Int))), ())))
 (fun J8 =>
 lfp (σ := (Int × Unit)) (fun X54 s55 => /- j -/
 brB (decide (s7.1 ≤ s55.1))
 (sx a0.a a0.len s55.1 1 fun p56 =>
 ldT (.int .i64) p56 fun x57 =>
 sx a0.a a0.len a1 1 fun p58 =>
 ldT (.int .i64) p58 fun x59 =>
 callF Try.prog a4 #[(.int .i64 x57), (.int .i64 x59)] (.int .i64) fun r60 =>
 brB (!(decide (r60 < (0 : Int))))
 (X54 ((IntKind.wrap .i64 (s55.1 - (1 : Int))), ()))
 (J8 (s55.1, ())))
 (J8 (s55.1, ())))
 ((IntKind.wrap .i64 (a2 - (1 : Int))), ())))
 (fun J6 =>
 lfp (σ := (Int × Unit)) (fun X61 s62 => /- i -/
 brB (decide (s62.1 ≤ (IntKind.wrap .i64 (a2 - (1 : Int)))))
 (sx a0.a a0.len s62.1 1 fun p63 =>
 ldT (.int .i64) p63 fun x64 =>
 sx a0.a a0.len a1 1 fun p65 =>
 ldT (.int .i64) p65 fun x66 =>
 callF Try.prog a4 #[(.int .i64 x64), (.int .i64 x66)] (.int .i64) fun r67 =>
 brB (decide (r67 < (0 : Int)))
 (X61 ((IntKind.wrap .i64 (s62.1 + (1 : Int))), ()))
 (J6 (s62.1, ())))
 (J6 (s62.1, ())))
 ((IntKind.wrap .i64 (a1 + (1 : Int))), ()))
set_option maxRecDepth 100000 in
theorem E_slices_partitionCmpFunc_lits_Lit (a0 : Sl) (a1 : Int) (a2 : Int) (a3 : Int) (a4 : Value) (K : (Int × (Bool × Unit)) → HP) (h : Heap) : fnVC Try.prog [(1000000, .nil)] 178 Try.f135 [(.slice a0.a a0.len a0.cap), (.int .i64 a1), (.int .i64 a2), (.int .i64 a3), a4] (.tup (.cons (.int .i64) (.cons .bool .nil))) K h = F_slices_partitionCmpFunc_lits_Lit a0 a1 a2 a3 a4 K h := by kernel_rfl
set_option maxRecDepth 100000 in
theorem S_slices_partitionCmpFunc_lits_Lit{h : Heap} {a0 : Sl} {a1 : Int} {a2 : Int} {a3 : Int} {a4 : Value} (K : (Int × (Bool × Unit)) → HP) (hF : F_slices_partitionCmpFunc_lits_Lit a0 a1 a2 a3 a4 K h) : CallsH Try.prog fn_slices_partitionCmpFunc_lits_Lit #[(.slice a0.a a0.len a0.cap), (.int .i64 a1), (.int .i64 a2), (.int .i64 a3), a4] h fun v h' => ∃ x : (Int × (Bool × Unit)), v = Ty.enc (.tup (.cons (.int .i64) (.cons .bool .nil))) x ∧ K x h' :=
  callsH_of_fn (P := Try.prog) (fn := Try.f135) (τ := (.tup (.cons (.int .i64) (.cons .bool .nil)))) follows Try.func135 (by kernel_rfl) (by kernel_rfl) Try.call135 (Eq.mpr (E_slices_partitionCmpFunc_lits_Lit a0 a1 a2 a3 a4 K h) hF)

def F_math_bits_Len64 (a0 : Int) (K : Int → HP) : HP :=
 jn (σ := (Int × (Int × Unit))) (fun s1 => /- n x -/
 jn (σ := (Int × (Int × Unit))) (fun s3 => /- n x -/
 jn (σ := (Int × (Int × Unit))) (fun s5 => /- n x -/
 six (ByteArray.mk #[0, 1, 2, 2, 3, 3, 3, 3, 4, 4, 4, 4, 4, 4, 4, 4, 5, 5, 5, 5, 5, 5, 5, 5, 5, 5, 5, 5, 5, 5, 5, 5, 6, 6, 6, 6, 6, 6, 6, 6, 6, 6, 6, 6, 6, 6, 6, 6, 6, 6, 6, 6, 6, 6, 6, 6, 6, 6, 6, 6, 6, 6, 6, 6, 7, 7, 7, 7, 7, 7, 7, 7, 7, 7, 7, 7, 7, 7, 7, 7, 7, 7, 7, 7, 7, 7, 7, 7, 7, 7, 7, 7, 7, 7, 7, 7, 7, 7, 7, 7, 7, 7, 7, 7, 7, 7, 7, 7, 7, 7, 7, 7, 7, 7, 7, 7, 7, 7, 7, 7, 7, 7, 7, 7, 7, 7, 7, 7, 8, 8, 8, 8, 8, 8, 8, 8, 8, 8, 8, 8, 8, 8, 8, 8, 8, 8, 8, 8, 8, 8, 8, 8, 8, 8, 8, 8, 8, 8, 8, 8, 8, 8, 8, 8, 8, 8, 8, 8, 8, 8, 8, 8, 8, 8, 8, 8, 8, 8, 8, 8, 8, 8, 8, 8, 8, 8, 8, 8, 8, 8, 8, 8, 8, 8, 8, 8, 8, 8, 8, 8, 8, 8, 8, 8, 8, 8, 8, 8, 8, 8, 8, 8, 8, 8, 8, 8, 8, 8, 8, 8, 8, 8, 8, 8, 8, 8, 8, 8, 8, 8, 8, 8, 8, 8, 8, 8, 8, 8, 8, 8, 8, 8, 8, 8, 8, 8, 8, 8, 8, 8, 8, 8, 8, 8, 8, 8]) (IntKind.wrap .u8 s5.2.1) fun c6 =>
 K (IntKind.wrap .i64 (s5.1 + (IntKind.wrap .i64 c6))))
 (fun J4 =>
 brB (decide (s3.2.1 ≥ (256 : Int)))
 (ge0 (8 : Int) <|
 J4 ((IntKind.wrap .i64 (s3.1 + (8 : Int))), (Int.fdiv s3.2.1 (2 ^ (min ((8 : Int)).toNat 64))), ()))
 (J4 (s3.1, s3.2.1, ()))))
 (fun J2 =>
 brB (decide (s1.2.1 ≥ (65536 : Int)))
 (ge0 (16 : Int) <|
 J2 ((IntKind.wrap .i64 (s1.1 + (16 : Int))), (Int.fdiv s1.2.1 (2 ^ (min ((16 : Int)).toNat 64))), ()))
 (J2 (s1.1, s1.2.1, ()))))
 (fun J0 =>
 brB (decide (a0 ≥ (4294967296 : Int)))
 (ge0 (32 : Int) <|
 J0 ((32 : Int), (Int.fdiv a0 (2 ^ (min ((32 : Int)).toNat 64))), ()))
 (J0 ((0 : Int), a0, ())))
set_option maxRecDepth 100000 in
theorem E_math_bits_Len64 (a0 : Int) (K : Int → HP) (h : Heap) : fnVC Try.prog [(1000000, .nil)] 25 Try.f137 [(.int .u64 a0)] (.int .i64) K h = F_math_bits_Len64 a0 K h := by kernel_rfl
set_option maxRecDepth 100000 in
theorem S_math_bits_Len64{h : Heap} {a0 : Int} (K : Int → HP) (hF : F_math_bits_Len64 a0 K h) : CallsH Try.prog fn_math_bits_Len64 #[(.int .u64 a0)] h fun v h' => ∃ x : Int, v = Ty.enc (.int .i64) x ∧ K x h' :=
  callsH_of_fn (P := Try.prog) (fn := Try.f137) (τ := (.int .i64)) follows Try.func137 (by kernel_rfl) (by kernel_rfl) Try.call137 (Eq.mpr (E_math_bits_Len64 a0 K h) hF)

def F_slices_siftDownCmpFunc_lits_Lit (a0 : Sl) (a1 : Int) (a2 : Int) (a3 : Int) (a4 : Value) (K : Unit → HP) : HP :=
 lfp (σ := (Int × Unit)) (fun X0 s1 => /- root -/
 brB (decide ((IntKind.wrap .i64 ((IntKind.wrap .i64 ((2 : Int) * s1.1)) + (1 : Int))) ≥ a2))
 (K (()))
 (brB (decide ((IntKind.wrap .i64 ((IntKind.wrap .i64 ((IntKind.wrap .i64 ((2 : Int) * s1.1)) + (1 : Int))) + (1 : Int))) < a2))
 (sx a0.a a0.len (IntKind.wrap .i64 (a3 + (IntKind.wrap .i64 ((IntKind.wrap .i64 ((2 : Int) * s1.1)) + (1 : Int))))) 1 fun p2 =>
 ldT (.int .i64) p2 fun x3 =>
 sx a0.a a0.len (IntKind.wrap .i64 ((IntKind.wrap .i64 (a3 + (IntKind.wrap .i64 ((IntKind.wrap .i64 ((2 : Int) * s1.1)) + (1 : Int))))) + (1 : Int))) 1 fun p4 =>
 ldT (.int .i64) p4 fun x5 =>
 callF Try.prog a4 #[(.int .i64 x3), (.int .i64 x5)] (.int .i64) fun r6 =>
 jn (σ := (Int × Unit)) (fun s8 => /- child -/
 sx a0.a a0.len (IntKind.wrap .i64 (a3 + s1.1)) 1 fun p9 =>
 ldT (.int .i64) p9 fun x10 =>
 sx a0.a a0.len (IntKind.wrap .i64 (a3 + s8.1)) 1 fun p11 =>
 ldT (.int .i64) p11 fun x12 =>
 callF Try.prog a4 #[(.int .i64 x10), (.int .i64 x12)] (.int .i64) fun r13 =>
 brB (!(decide (r13 < (0 : Int))))
 (K (()))
 (sx a0.a a0.len (IntKind.wrap .i64 (a3 + s8.1)) 1 fun p14 =>
 ldT (.int .i64) p14 fun x15 =>
 sx a0.a a0.len (IntKind.wrap .i64 (a3 + s1.1)) 1 fun p16 =>
 ldT (.int .i64) p16 fun x17 =>
 sx a0.a a0.len (IntKind.wrap .i64 (a3 + s1.1)) 1 fun p18 =>
 st1 p18 (.int .i64 x15) <|
 sx a0.a a0.len (IntKind.wrap .i64 (a3 + s8.1)) 1 fun p19 =>
 st1 p19 (.int .i64 x17) <|
 X0 (s8.1, ())))
 (fun J7 =>
 brB (decide (r6 < (0 : Int)))
 (J7 ((IntKind.wrap .i64 ((IntKind.wrap .i64 ((IntKind.wrap .i64 ((2 : Int) * s1.1)) + (1 : Int))) + (1 : Int))), ()))
 (J7 ((IntKind.wrap .i64 ((IntKind.wrap .i64 ((2 : Int) * s1.1)) + (1 : Int))), ()))))
 (jn (σ := (Int × Unit)) (fun s21 => /- child -/
 sx a0.a a0.len (IntKind.wrap .i64 (a3 + s1.1)) 1 fun p22 =>
 ldT (.int .i64) p22 fun x23 =>
 sx a0.a a0.len (IntKind.wrap .i64 (a3 + s21.1)) 1 fun p24 =>
 ldT (.int .i64) p24 fun x25 =>
 callF Try.prog a4 #[(.int .i64 x23), (.int .i64 x25)] (.int .i64) fun r26 =>
 brB (!(decide (r26 < (0 : Int))))
 (K (()))
 (sx a0.a a0.len (IntKind.wrap .i64 (a3 + s21.1)) 1 fun p27 =>
 ldT (.int .i64) p27 fun x28 =>
 sx a0.a a0.len (IntKind.wrap .i64 (a3 + s1.1)) 1 fun p29 =>
 ldT (.int .i64) p29 fun x30 =>
 sx a0.a a0.len (IntKind.wrap .i64 (a3 + s1.1)) 1 fun p31 =>
 st1 p31 (.int .i64 x28) <|
 sx a0.a a0.len (IntKind.wrap .i64 (a3 + s21.1)) 1 fun p32 =>
 st1 p32 (.int .i64 x30) <|
 X0 (s21.1, ())))
 (fun J20 =>
 J20 ((IntKind.wrap .i64 ((IntKind.wrap .i64 ((2 : Int) * s1.1)) + (1 : Int))), ())))))
 (a1, ())
set_option maxRecDepth 100000 in
theorem E_slices_siftDownCmpFunc_lits_Lit (a0 : Sl) (a1 : Int) (a2 : Int) (a3 : Int) (a4 : Value) (K : Unit → HP) (h : Heap) : fnVC Try.prog [(1000000, .nil)] 82 Try.f138 [(.slice a0.a a0.len a0.cap), (.int .i64 a1), (.int .i64 a2), (.int .i64 a3), a4] (.tup .nil) K h = F_slices_siftDownCmpFunc_lits_Lit a0 a1 a2 a3 a4 K h := by kernel_rfl
set_option maxRecDepth 100000 in
theorem S_slices_siftDownCmpFunc_lits_Lit{h : Heap} {a0 : Sl} {a1 : Int} {a2 : Int} {a3 : Int} {a4 : Value} (K : Unit → HP) (hF : F_slices_siftDownCmpFunc_lits_Lit a0 a1 a2 a3 a4 K h) : CallsH Try.prog fn_slices_siftDownCmpFunc_lits_Lit #[(.slice a0.a a0.len a0.cap), (.int .i64 a1), (.int .i64 a2), (.int .i64 a3), a4] h fun v h' => ∃ x : Unit, v = Ty.enc (.tup .nil) x ∧ K x h' :=
  callsH_of_fn (P := Try.prog) (fn := Try.f138) (τ := (.tup .nil)) follows Try.func138 (by kernel_rfl) (by kernel_rfl) Try.call138 (Eq.mpr (E_slices_siftDownCmpFunc_lits_Lit a0 a1 a2 a3 a4 K h) hF)

def F_slices_nextPowerOfTwo (a0 : Int) (K : Int → HP) : HP :=
 callT Try.prog fn_math_bits_Len #[(.int .u64 (IntKind.wrap .u64 a0))] (.int .i64) fun r0 =>
 ge0 r0 <|
 K (IntKind.wrap .u64 ((1 : Int) * 2 ^ (min (r0).toNat 64)))
set_option maxRecDepth 100000 in
theorem E_slices_nextPowerOfTwo (a0 : Int) (K : Int → HP) (h : Heap) : fnVC Try.prog [(1000000, .nil)] 7 Try.f139 [(.int .i64 a0)] (.int .u64) K h = F_slices_nextPowerOfTwo a0 K h := by kernel_rfl
set_option maxRecDepth 100000 in
theorem S_slices_nextPowerOfTwo{h : Heap} {a0 : Int} (K : Int → HP) (hF : F_slices_nextPowerOfTwo a0 K h) : CallsH Try.prog fn_slices_nextPowerOfTwo #[(.int .i64 a0)] h fun v h' => ∃ x : Int, v = Ty.enc (.int .u64) x ∧ K x h' :=
  callsH_of_fn (P := Try.prog) (fn := Try.f139) (τ := (.int .u64)) follows Try.func139 (by kernel_rfl) (by kernel_rfl) Try.call139 (Eq.mpr (E_slices_nextPowerOfTwo a0 K h) hF)

def F_slices_xorshift_Next (a0 : Option Addr) (K : Int → HP) : HP :=
 nn a0 fun p0 =>
 ldT (.int .u64) p0 fun x1 =>
 nn a0 fun p2 =>
 ldT (.int .u64) p2 fun x3 =>
 ge0 (13 : Int) <|
 nn a0 fun p4 =>
 st1 p4 (.int .u64 (bXor .u64 x1 (IntKind.wrap .u64 (x3 * 2 ^ (min ((13 : Int)).toNat 64))))) <|
 nn a0 fun p5 =>
 ldT (.int .u64) p5 fun x6 =>
 nn a0 fun p7 =>
 ldT (.int .u64) p7 fun x8 =>
 ge0 (7 : Int) <|
 nn a0 fun p9 =>
 st1 p9 (.int .u64 (bXor .u64 x6 (Int.fdiv x8 (2 ^ (min ((7 : Int)).toNat 64))))) <|
 nn a0 fun p10 =>
 ldT (.int .u64) p10 fun x11 =>
 nn a0 fun p12 =>
 ldT (.int .u64) p12 fun x13 =>
 ge0 (17 : Int) <|
 nn a0 fun p14 =>
 st1 p14 (.int .u64 (bXor .u64 x11 (IntKind.wrap .u64 (x13 * 2 ^ (min ((17 : Int)).toNat 64))))) <|
 nn a0 fun p15 =>
 ldT (.int .u64) p15 fun x16 =>
 K x16
set_option maxRecDepth 100000 in
theorem E_slices_xorshift_Next (a0 : Option Addr) (K : Int → HP) (h : Heap) : fnVC Try.prog [(1000000, .nil)] 33 Try.f140 [(.pointer a0)] (.int .u64) K h = F_slices_xorshift_Next a0 K h := by kernel_rfl
set_option maxRecDepth 100000 in
theorem S_slices_xorshift_Next{h : Heap} {a0 : Option Addr} (K : Int → HP) (hF : F_slices_xorshift_Next a0 K h) : CallsH Try.prog fn_slices_xorshift_Next #[(.pointer a0)] h fun v h' => ∃ x : Int, v = Ty.enc (.int .u64) x ∧ K x h' :=
  callsH_of_fn (P := Try.prog) (fn := Try.f140) (τ := (.int .u64)) follows Try.func140 (by kernel_rfl) (by kernel_rfl) Try.call140 (Eq.mpr (E_slices_xorshift_Next a0 K h) hF)

def F_slices_medianAdjacentCmpFunc_lits_Lit (a0 : Sl) (a1 : Int) (a2 : Option Addr) (a3 : Value) (K : Int → HP) : HP :=
 callT Try.prog fn_slices_medianCmpFunc_lits_Lit #[(.slice a0.a a0.len a0.cap), (.int .i64 (IntKind.wrap .i64 (a1 - (1 : Int)))), (.int .i64 a1), (.int .i64 (IntKind.wrap .i64 (a1 + (1 : Int)))), (.pointer a2), a3] (.int .i64) fun r0 =>
 K r0
set_option maxRecDepth 100000 in
theorem E_slices_medianAdjacentCmpFunc_lits_Lit (a0 : Sl) (a1 : Int) (a2 : Option Addr) (a3 : Value) (K : Int → HP) (h : Heap) : fnVC Try.prog [(1000000, .nil)] 18 Try.f141 [(.slice a0.a a0.len a0.cap), (.int .i64 a1), (.pointer a2), a3] (.int .i64) K h = F_slices_medianAdjacentCmpFunc_lits_Lit a0 a1 a2 a3 K h := by kernel_rfl
set_option maxRecDepth 100000 in
theorem S_slices_medianAdjacentCmpFunc_lits_Lit{h : Heap} {a0 : Sl} {a1 : Int} {a2 : Option Addr} {a3 : Value} (K : Int → HP) (hF : F_slices_medianAdjacentCmpFunc_lits_Lit a0 a1 a2 a3 K h) : CallsH Try.prog fn_slices_medianAdjacentCmpFunc_lits_Lit #[(.slice a0.a a0.len a0.cap), (.int .i64 a1), (.pointer a2), a3] h fun v h' => ∃ x : Int, v = Ty.enc (.int .i64) x ∧ K x h' :=
  callsH_of_fn (P := Try.prog) (fn := Try.f141) (τ := (.int .i64)) follows Try.func141 (by kernel_rfl) (by kernel_rfl) Try.call141 (Eq.mpr (E_slices_medianAdjacentCmpFunc_lits_Lit a0 a1 a2 a3 K h) hF)

def F_slices_medianCmpFunc_lits_Lit (a0 : Sl) (a1 : Int) (a2 : Int) (a3 : Int) (a4 : Option Addr) (a5 : Value) (K : Int → HP) : HP :=
 callT Try.prog fn_slices_order2CmpFunc_lits_Lit #[(.slice a0.a a0.len a0.cap), (.int .i64 a1), (.int .i64 a2), (.pointer a4), a5] (.tup (.cons (.int .i64) (.cons (.int .i64) .nil))) fun r0 =>
 callT Try.prog fn_slices_order2CmpFunc_lits_Lit #[(.slice a0.a a0.len a0.cap), (.int .i64 r0.2.1), (.int .i64 a3), (.pointer a4), a5] (.tup (.cons (.int .i64) (.cons (.int .i64) .nil))) fun r1 =>
 callT Try.prog fn_slices_order2CmpFunc_lits_Lit #[(.slice a0.a a0.len a0.cap), (.int .i64 r0.1), (.int .i64 r1.1), (.pointer a4), a5] (.tup (.cons (.int .i64) (.cons (.int .i64) .nil))) fun r2 =>
 K r2.2.1
set_option maxRecDepth 100000 in
theorem E_slices_medianCmpFunc_lits_Lit (a0 : Sl) (a1 : Int) (a2 : Int) (a3 : Int) (a4 : Option Addr) (a5 : Value) (K : Int → HP) (h : Heap) : fnVC Try.prog [(1000000, .nil)] 41 Try.f142 [(.slice a0.a a0.len a0.cap), (.int .i64 a1), (.int .i64 a2), (.int .i64 a3), (.pointer a4), a5] (.int .i64) K h = F_slices_medianCmpFunc_lits_Lit a0 a1 a2 a3 a4 a5 K h := by kernel_rfl
set_option maxRecDepth 100000 in
theorem S_slices_medianCmpFunc_lits_Lit{h : Heap} {a0 : Sl} {a1 : Int} {a2 : Int} {a3 : Int} {a4 : Option Addr} {a5 : Value} (K : Int → HP) (hF : F_slices_medianCmpFunc_lits_Lit a0 a1 a2 a3 a4 a5 K h) : CallsH Try.prog fn_slices_medianCmpFunc_lits_Lit #[(.slice a0.a a0.len a0.cap), (.int .i64 a1), (.int .i64 a2), (.int .i64 a3), (.pointer a4), a5] h fun v h' => ∃ x : Int, v = Ty.enc (.int .i64) x ∧ K x h' :=
  callsH_of_fn (P := Try.prog) (fn := Try.f142) (τ := (.int .i64)) follows Try.func142 (by kernel_rfl) (by kernel_rfl) Try.call142 (Eq.mpr (E_slices_medianCmpFunc_lits_Lit a0 a1 a2 a3 a4 a5 K h) hF)

def F_slices_order2CmpFunc_lits_Lit (a0 : Sl) (a1 : Int) (a2 : Int) (a3 : Option Addr) (a4 : Value) (K : (Int × (Int × Unit)) → HP) : HP :=
 sx a0.a a0.len a2 1 fun p0 =>
 ldT (.int .i64) p0 fun x1 =>
 sx a0.a a0.len a1 1 fun p2 =>
 ldT (.int .i64) p2 fun x3 =>
 callF Try.prog a4 #[(.int .i64 x1), (.int .i64 x3)] (.int .i64) fun r4 =>
 brB (decide (r4 < (0 : Int)))
 (nn a3 fun p5 =>
 ldT (.int .i64) p5 fun x6 =>
 nn a3 fun p7 =>
 st1 p7 (.int .i64 (IntKind.wrap .i64 (x6 + (1 : Int)))) <|
 K (a2, a1, ()))
 (K (a1, a2, ()))
set_option maxRecDepth 100000 in
theorem E_slices_order2CmpFunc_lits_Lit (a0 : Sl) (a1 : Int) (a2 : Int) (a3 : Option Addr) (a4 : Value) (K : (Int × (Int × Unit)) → HP) (h : Heap) : fnVC Try.prog [(1000000, .nil)] 32 Try.f143 [(.slice a0.a a0.len a0.cap), (.int .i64 a1), (.int .i64 a2), (.pointer a3), a4] (.tup (.cons (.int .i64) (.cons (.int .i64) .nil))) K h = F_slices_order2CmpFunc_lits_Lit a0 a1 a2 a3 a4 K h := by kernel_rfl
set_option maxRecDepth 100000 in
theorem S_slices_order2CmpFunc_lits_Lit{h : Heap} {a0 : Sl} {a1 : Int} {a2 : Int} {a3 : Option Addr} {a4 : Value} (K : (Int × (Int × Unit)) → HP) (hF : F_slices_order2CmpFunc_lits_Lit a0 a1 a2 a3 a4 K h) : CallsH Try.prog fn_slices_order2CmpFunc_lits_Lit #[(.slice a0.a a0.len a0.cap), (.int .i64 a1), (.int .i64 a2), (.pointer a3), a4] h fun v h' => ∃ x : (Int × (Int × Unit)), v = Ty.enc (.tup (.cons (.int .i64) (.cons (.int .i64) .nil))) x ∧ K x h' :=
  callsH_of_fn (P := Try.prog) (fn := Try.f143) (τ := (.tup (.cons (.int .i64) (.cons (.int .i64) .nil)))) follows Try.func143 (by kernel_rfl) (by kernel_rfl) Try.call143 (Eq.mpr (E_slices_order2CmpFunc_lits_Lit a0 a1 a2 a3 a4 K h) hF)

end Go.Proofs.S
