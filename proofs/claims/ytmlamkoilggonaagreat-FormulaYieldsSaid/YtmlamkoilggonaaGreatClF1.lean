/- The functions of the seat, each as a predicate over its values, printed by a program of ours, and that each is its text's. -/
import Derived.Test.YtmlamkoilggonaaGreatSxH
import Derived.KernelRfl
import Derived.Test.YtmlamkoilggonaaGreatProg
import Derived.Test.YtmlamkoilggonaaGreatClF0
set_option linter.unusedVariables false
namespace Go.Proofs.S
open Go Go.Sx Go.Proofs
/-- salvor/salvorlaw05.FormulaTells -/
def F_salvorlaw05_FormulaTells (a0 : (Int × (Sl × Unit))) (a1 : Sl) (a2 : Int) (K : Bool → HP) : HP :=
 nw #[(.int .i64 a0.1), (.slice a0.2.1.a a0.2.1.len a0.2.1.cap)] ty_formula_Formula fun b0 =>
 ldA (.cons (.int .i64) (.cons .sl .nil)) (⟨b0, 0, none⟩ : Addr) fun x1 =>
 callT Tryz.prog fn_salvorlaw05_few #[(.agg #[(.int .i64 x1.1), (.slice x1.2.1.a x1.2.1.len x1.2.1.cap)])] .bool fun r2 =>
 brB (!r2)
 (callT Tryz.prog fn_salvorlaw05_awake #[] .bool fun r3 =>
 K r3)
 (brB (decide ((a1.len : Int) > (300 : Int)))
 (callT Tryz.prog fn_salvorlaw05_awake #[] .bool fun r4 =>
 K r4)
 (ldA (.cons (.int .i64) (.cons .sl .nil)) (⟨b0, 0, none⟩ : Addr) fun x5 =>
 callT Tryz.prog fn_salvorlaw05_tells #[(.agg #[(.int .i64 x5.1), (.slice x5.2.1.a x5.2.1.len x5.2.1.cap)]), (.slice a1.a a1.len a1.cap), (.int .i64 a2)] .bool fun r6 =>
 brB r6
 (callT Tryz.prog fn_salvorlaw05_awake #[] .bool fun r7 =>
 K r7)
 (K false)))
set_option maxRecDepth 100000 in
theorem E_salvorlaw05_FormulaTells (a0 : (Int × (Sl × Unit))) (a1 : Sl) (a2 : Int) (K : Bool → HP) (h : Heap) : fnVC Tryz.prog [(1000000, .nil)] 24 Tryz.f3 [(.agg #[(.int .i64 a0.1), (.slice a0.2.1.a a0.2.1.len a0.2.1.cap)]), (.slice a1.a a1.len a1.cap), (.int .i64 a2)] .bool K h = F_salvorlaw05_FormulaTells a0 a1 a2 K h := by kernel_rfl
set_option maxRecDepth 100000 in
theorem S_salvorlaw05_FormulaTells{h : Heap} {a0 : (Int × (Sl × Unit))} {a1 : Sl} {a2 : Int} (K : Bool → HP) (hF : F_salvorlaw05_FormulaTells a0 a1 a2 K h) : CallsH Tryz.prog fn_salvorlaw05_FormulaTells #[(.agg #[(.int .i64 a0.1), (.slice a0.2.1.a a0.2.1.len a0.2.1.cap)]), (.slice a1.a a1.len a1.cap), (.int .i64 a2)] h fun v h' => ∃ x : Bool, v = Ty.enc .bool x ∧ K x h' :=
  callsH_of_fn (P := Tryz.prog) (fn := Tryz.f3) (τ := .bool) follows Tryz.func3 (by kernel_rfl) (by kernel_rfl) Tryz.call3 (Eq.mpr (E_salvorlaw05_FormulaTells a0 a1 a2 K h) hF)


/-- salvor/salvorlaw05.FormulaNorm -/
def F_salvorlaw05_FormulaNorm (a0 : Sl) (a1 : Int) (K : Bool → HP) : HP :=
 callT Tryz.prog fn_salvorlaw05_Made #[(.slice a0.a a0.len a0.cap)] (.agg (.cons (.int .i64) (.cons .sl .nil))) fun r0 =>
 nw #[(.int .i64 (0 : Int)), (.slice none 0 0)] ty_formula_Formula fun b1 =>
 st1 (⟨b1, 0, none⟩ : Addr) (.int .i64 r0.1) <|
 st1 ((⟨b1, 0, none⟩ : Addr).add 1) (.slice r0.2.1.a r0.2.1.len r0.2.1.cap) <|
 ldA (.cons (.int .i64) (.cons .sl .nil)) (⟨b1, 0, none⟩ : Addr) fun x2 =>
 callT Tryz.prog fn_formula_Norm #[(.agg #[(.int .i64 x2.1), (.slice x2.2.1.a x2.2.1.len x2.2.1.cap)])] (.tup (.cons (.agg (.cons (.int .i64) (.cons .sl .nil))) (.cons (.int .i64) .nil))) fun r3 =>
 nw #[(.int .i64 (0 : Int)), (.slice none 0 0)] ty_formula_Formula fun b4 =>
 st1 (⟨b4, 0, none⟩ : Addr) (.int .i64 r3.1.1) <|
 st1 ((⟨b4, 0, none⟩ : Addr).add 1) (.slice r3.1.2.1.a r3.1.2.1.len r3.1.2.1.cap) <|
 ldA (.cons (.int .i64) (.cons .sl .nil)) (⟨b4, 0, none⟩ : Addr) fun x5 =>
 callT Tryz.prog fn_formula_Norm #[(.agg #[(.int .i64 x5.1), (.slice x5.2.1.a x5.2.1.len x5.2.1.cap)])] (.tup (.cons (.agg (.cons (.int .i64) (.cons .sl .nil))) (.cons (.int .i64) .nil))) fun r6 =>
 nw #[(.int .i64 (0 : Int)), (.slice none 0 0)] ty_formula_Formula fun b7 =>
 st1 (⟨b7, 0, none⟩ : Addr) (.int .i64 r6.1.1) <|
 st1 ((⟨b7, 0, none⟩ : Addr).add 1) (.slice r6.1.2.1.a r6.1.2.1.len r6.1.2.1.cap) <|
 ldA (.cons (.int .i64) (.cons .sl .nil)) (⟨b1, 0, none⟩ : Addr) fun x8 =>
 callT Tryz.prog fn_salvorlaw05_collected #[(.agg #[(.int .i64 x8.1), (.slice x8.2.1.a x8.2.1.len x8.2.1.cap)])] (.tup (.cons .sl (.cons .bool .nil))) fun r9 =>
 ldA (.cons (.int .i64) (.cons .sl .nil)) (⟨b4, 0, none⟩ : Addr) fun x10 =>
 callT Tryz.prog fn_salvorlaw05_collected #[(.agg #[(.int .i64 x10.1), (.slice x10.2.1.a x10.2.1.len x10.2.1.cap)])] (.tup (.cons .sl (.cons .bool .nil))) fun r11 =>
 brB ((IntKind.wrap .i64 (r3.2.1 + r6.2.1)) != (0 : Int))
 (K false)
 (brB (!r9.2.1)
 (K false)
 (brB (!r11.2.1)
 (K false)
 (ldA (.cons (.int .i64) (.cons .sl .nil)) (⟨b4, 0, none⟩ : Addr) fun x12 =>
 ldA (.cons (.int .i64) (.cons .sl .nil)) (⟨b7, 0, none⟩ : Addr) fun x13 =>
 callT Tryz.prog fn_formula_Same #[(.agg #[(.int .i64 x12.1), (.slice x12.2.1.a x12.2.1.len x12.2.1.cap)]), (.agg #[(.int .i64 x13.1), (.slice x13.2.1.a x13.2.1.len x13.2.1.cap)])] .bool fun r14 =>
 brB (!r14)
 (K false)
 (callT Tryz.prog fn_slices_EqualFunc_bool_bool_bool_bool #[(.slice r9.1.a r9.1.len r9.1.cap), (.slice r11.1.a r11.1.len r11.1.cap), (.func (.func fn_salvorlaw05_FormulaNorm_1) #[] #[])] .bool fun r15 =>
 brB (!r15)
 (K false)
 (ldT .sl ((⟨b4, 0, none⟩ : Addr).add 1) fun x16 =>
 lfp (σ := (Int × (Bool × Unit))) (fun X17 s18 => /-   -/
 brB (decide (s18.1 < (x16.len : Int)))
 (sx x16.a x16.len s18.1 1 fun p19 =>
 ldT .sl p19 fun x20 =>
 nw #[(.slice none 0 0)] ty_clauses_Clause fun b21 =>
 st1 (⟨b21, 0, none⟩ : Addr) (.slice x20.a x20.len x20.cap) <|
 ldT .sl (⟨b21, 0, none⟩ : Addr) fun x22 =>
 callT Tryz.prog fn_clauses_Normal #[(.slice x22.a x22.len x22.cap)] .bool fun r23 =>
 brB (!r23)
 (K false)
 (ldT .sl (⟨b21, 0, none⟩ : Addr) fun x24 =>
 callT Tryz.prog fn_clauses_Always #[(.slice x24.a x24.len x24.cap)] .bool fun r25 =>
 brB r25
 (K false)
 (brB (decide (s18.1 > (0 : Int)))
 (ldT .sl ((⟨b4, 0, none⟩ : Addr).add 1) fun x26 =>
 sx x26.a x26.len (IntKind.wrap .i64 (s18.1 - (1 : Int))) 1 fun p27 =>
 ldT .sl p27 fun x28 =>
 ldT .sl (⟨b21, 0, none⟩ : Addr) fun x29 =>
 callT Tryz.prog fn_clauses_Compare #[(.slice x28.a x28.len x28.cap), (.slice x29.a x29.len x29.cap)] (.int .i64) fun r30 =>
 brB (decide (r30 ≥ (0 : Int)))
 (K false)
 (ldT .sl ((⟨b1, 0, none⟩ : Addr).add 1) fun x31 =>
 callT Tryz.prog fn_slices_ContainsFunc_clauses_Clause_clauses_Clause #[(.slice x31.a x31.len x31.cap), (.func (.func fn_salvorlaw05_FormulaNorm_2) #[] #[(.pointer (some (⟨b21, 0, none⟩ : Addr)))])] .bool fun r32 =>
 brB (!r32)
 (K false)
 (X17 ((IntKind.wrap .i64 (s18.1 + (1 : Int))), s18.2.1, ()))))
 (ldT .sl ((⟨b1, 0, none⟩ : Addr).add 1) fun x33 =>
 callT Tryz.prog fn_slices_ContainsFunc_clauses_Clause_clauses_Clause #[(.slice x33.a x33.len x33.cap), (.func (.func fn_salvorlaw05_FormulaNorm_2) #[] #[(.pointer (some (⟨b21, 0, none⟩ : Addr)))])] .bool fun r34 =>
 brB (!r34)
 (K false)
 (X17 ((IntKind.wrap .i64 (s18.1 + (1 : Int))), s18.2.1, ()))))))
 (ldT .sl ((⟨b1, 0, none⟩ : Addr).add 1) fun x35 =>
 jn (σ := (Int × Unit)) (fun s37 => /- at -/
 ldT .sl ((⟨b1, 0, none⟩ : Addr).add 1) fun x38 =>
 slL ⟨x38.a, x38.len, x38.cap⟩ s37.1 1 fun s39 =>
 ldT .sl ((⟨b1, 0, none⟩ : Addr).add 1) fun x40 =>
 slH ⟨x40.a, x40.len, x40.cap⟩ s37.1 1 fun s41 =>
 ldT .sl ((⟨b1, 0, none⟩ : Addr).add 1) fun x42 =>
 slH ⟨x42.a, x42.len, x42.cap⟩ s37.1 1 fun s43 =>
 nw #[(.slice s39.a s39.len s39.cap), (.slice s41.a s41.len s41.cap), (.slice s43.a s43.len s43.cap)] ty_sl_clauses_Clause fun b44 =>
 callT Tryz.prog fn_slices_Concat_clauses_Clause_clauses_Clause #[(.slice (some (⟨b44, 0, none⟩ : Addr)) 3 3)] .sl fun r45 =>
 st1 ((⟨b1, 0, none⟩ : Addr).add 1) (.slice r45.a r45.len r45.cap) <|
 ldA (.cons (.int .i64) (.cons .sl .nil)) (⟨b1, 0, none⟩ : Addr) fun x46 =>
 callT Tryz.prog fn_formula_Norm #[(.agg #[(.int .i64 x46.1), (.slice x46.2.1.a x46.2.1.len x46.2.1.cap)])] (.tup (.cons (.agg (.cons (.int .i64) (.cons .sl .nil))) (.cons (.int .i64) .nil))) fun r47 =>
 nw #[(.int .i64 (0 : Int)), (.slice none 0 0)] ty_formula_Formula fun b48 =>
 st1 (⟨b48, 0, none⟩ : Addr) (.int .i64 r47.1.1) <|
 st1 ((⟨b48, 0, none⟩ : Addr).add 1) (.slice r47.1.2.1.a r47.1.2.1.len r47.1.2.1.cap) <|
 brB (r47.2.1 == (0 : Int))
 (ldA (.cons (.int .i64) (.cons .sl .nil)) (⟨b48, 0, none⟩ : Addr) fun x49 =>
 ldA (.cons (.int .i64) (.cons .sl .nil)) (⟨b4, 0, none⟩ : Addr) fun x50 =>
 callT Tryz.prog fn_formula_Same #[(.agg #[(.int .i64 x49.1), (.slice x49.2.1.a x49.2.1.len x49.2.1.cap)]), (.agg #[(.int .i64 x50.1), (.slice x50.2.1.a x50.2.1.len x50.2.1.cap)])] .bool fun r51 =>
 brB r51
 (callT Tryz.prog fn_salvorlaw05_awake #[] .bool fun r52 =>
 K r52)
 (K false))
 (K false))
 (fun J36 =>
 brB (decide ((x35.len : Int) > (0 : Int)))
 (ldT .sl ((⟨b1, 0, none⟩ : Addr).add 1) fun x53 =>
 nz (x53.len : Int) <|
 J36 ((Int.tmod (IntKind.wrap .i64 a1) (x53.len : Int)), ()))
 (J36 ((0 : Int), ())))))
 ((0 : Int), false, ()))))))
set_option maxRecDepth 100000 in
theorem E_salvorlaw05_FormulaNorm (a0 : Sl) (a1 : Int) (K : Bool → HP) (h : Heap) : fnVC Tryz.prog [(1000000, .nil)] 143 Tryz.f5 [(.slice a0.a a0.len a0.cap), (.int .u8 a1)] .bool K h = F_salvorlaw05_FormulaNorm a0 a1 K h := by kernel_rfl
set_option maxRecDepth 100000 in
theorem S_salvorlaw05_FormulaNorm{h : Heap} {a0 : Sl} {a1 : Int} (K : Bool → HP) (hF : F_salvorlaw05_FormulaNorm a0 a1 K h) : CallsH Tryz.prog fn_salvorlaw05_FormulaNorm #[(.slice a0.a a0.len a0.cap), (.int .u8 a1)] h fun v h' => ∃ x : Bool, v = Ty.enc .bool x ∧ K x h' :=
  callsH_of_fn (P := Tryz.prog) (fn := Tryz.f5) (τ := .bool) follows Tryz.func5 (by kernel_rfl) (by kernel_rfl) Tryz.call5 (Eq.mpr (E_salvorlaw05_FormulaNorm a0 a1 K h) hF)


/-- salvor/salvorlaw05.FormulaModels -/
def F_salvorlaw05_FormulaModels (a0 : Sl) (a1 : Sl) (a2 : Int) (a3 : Sl) (K : Bool → HP) : HP :=
 brB (decide ((a0.len : Int) > (100 : Int)))
 (callT Tryz.prog fn_salvorlaw05_awake #[] .bool fun r0 =>
 K r0)
 (brB (decide ((a1.len : Int) > (300 : Int)))
 (callT Tryz.prog fn_salvorlaw05_awake #[] .bool fun r1 =>
 K r1)
 (brB (decide ((a3.len : Int) > (100 : Int)))
 (callT Tryz.prog fn_salvorlaw05_awake #[] .bool fun r2 =>
 K r2)
 (brB (decide (a2 > (1000 : Int)))
 (brB (decide (a2 ≤ (1048576 : Int)))
 (callT Tryz.prog fn_salvorlaw05_awake #[] .bool fun r3 =>
 K r3)
 (callT Tryz.prog fn_salvorlaw05_Bits #[(.slice a1.a a1.len a1.cap)] .sl fun r4 =>
 lfp (σ := (Int × (Sl × Unit))) (fun X5 s6 => /-  want -/
 brB (decide (s6.1 < (r4.len : Int)))
 (sx r4.a r4.len s6.1 1 fun p7 =>
 ldT (.int .i64) p7 fun x8 =>
 nw #[(.int .i64 (IntKind.wrap .i64 ((IntKind.wrap .i64 (s6.1 + (1 : Int))) * (IntKind.wrap .i64 ((IntKind.wrap .i64 ((2 : Int) * x8)) - (1 : Int))))))] ty_int fun b9 =>
 apd ty_int 1 8 #[(.int .i64 (0 : Int))] ⟨s6.2.1.a, s6.2.1.len, s6.2.1.cap⟩ ⟨(some (⟨b9, 0, none⟩ : Addr)), 1, 1⟩ fun s10 =>
 X5 ((IntKind.wrap .i64 (s6.1 + (1 : Int))), ⟨s10.a, s10.len, s10.cap⟩, ()))
 (callT Tryz.prog fn_salvorlaw02_Clause #[(.slice a3.a a3.len a3.cap)] .sl fun r11 =>
 callT Tryz.prog fn_formula_Model #[(.int .i64 a2), (.slice r11.a r11.len r11.cap)] (.tup (.cons .sl (.cons (.int .i64) .nil))) fun r12 =>
 callT Tryz.prog fn_salvorref05_Model #[(.int .i64 a2), (.slice a3.a a3.len a3.cap)] (.tup (.cons .sl (.cons (.int .i64) .nil))) fun r13 =>
 callT Tryz.prog fn_salvorlaw02_Clause #[(.slice a0.a a0.len a0.cap)] .sl fun r14 =>
 callT Tryz.prog fn_formula_Holds #[(.slice r14.a r14.len r14.cap), (.slice a1.a a1.len a1.cap)] .bool fun r15 =>
 callT Tryz.prog fn_salvorref05_Holds #[(.slice a0.a a0.len a0.cap), (.slice r4.a r4.len r4.cap)] .bool fun r16 =>
 brB (r15 == r16)
 (callT Tryz.prog fn_formula_Lits #[(.slice a1.a a1.len a1.cap)] .sl fun r17 =>
 callT Tryz.prog fn_salvorlaw02_Ints #[(.slice r17.a r17.len r17.cap)] .sl fun r18 =>
 callT Tryz.prog fn_slices_Equal_int_int #[(.slice r18.a r18.len r18.cap), (.slice s6.2.1.a s6.2.1.len s6.2.1.cap)] .bool fun r19 =>
 brB r19
 (callT Tryz.prog fn_salvorlaw05_Bits #[(.slice r12.1.a r12.1.len r12.1.cap)] .sl fun r20 =>
 callT Tryz.prog fn_slices_Equal_int_int #[(.slice r20.a r20.len r20.cap), (.slice r13.1.a r13.1.len r13.1.cap)] .bool fun r21 =>
 brB r21
 (brB (r12.2.1 == r13.2.1)
 (callT Tryz.prog fn_salvorlaw05_awake #[] .bool fun r22 =>
 K r22)
 (K false))
 (K false))
 (K false))
 (K false)))
 ((0 : Int), ⟨none, 0, 0⟩, ())))
 (callT Tryz.prog fn_salvorlaw05_Bits #[(.slice a1.a a1.len a1.cap)] .sl fun r23 =>
 lfp (σ := (Int × (Sl × Unit))) (fun X24 s25 => /-  want -/
 brB (decide (s25.1 < (r23.len : Int)))
 (sx r23.a r23.len s25.1 1 fun p26 =>
 ldT (.int .i64) p26 fun x27 =>
 nw #[(.int .i64 (IntKind.wrap .i64 ((IntKind.wrap .i64 (s25.1 + (1 : Int))) * (IntKind.wrap .i64 ((IntKind.wrap .i64 ((2 : Int) * x27)) - (1 : Int))))))] ty_int fun b28 =>
 apd ty_int 1 8 #[(.int .i64 (0 : Int))] ⟨s25.2.1.a, s25.2.1.len, s25.2.1.cap⟩ ⟨(some (⟨b28, 0, none⟩ : Addr)), 1, 1⟩ fun s29 =>
 X24 ((IntKind.wrap .i64 (s25.1 + (1 : Int))), ⟨s29.a, s29.len, s29.cap⟩, ()))
 (callT Tryz.prog fn_salvorlaw02_Clause #[(.slice a3.a a3.len a3.cap)] .sl fun r30 =>
 callT Tryz.prog fn_formula_Model #[(.int .i64 a2), (.slice r30.a r30.len r30.cap)] (.tup (.cons .sl (.cons (.int .i64) .nil))) fun r31 =>
 callT Tryz.prog fn_salvorref05_Model #[(.int .i64 a2), (.slice a3.a a3.len a3.cap)] (.tup (.cons .sl (.cons (.int .i64) .nil))) fun r32 =>
 callT Tryz.prog fn_salvorlaw02_Clause #[(.slice a0.a a0.len a0.cap)] .sl fun r33 =>
 callT Tryz.prog fn_formula_Holds #[(.slice r33.a r33.len r33.cap), (.slice a1.a a1.len a1.cap)] .bool fun r34 =>
 callT Tryz.prog fn_salvorref05_Holds #[(.slice a0.a a0.len a0.cap), (.slice r23.a r23.len r23.cap)] .bool fun r35 =>
 brB (r34 == r35)
 (callT Tryz.prog fn_formula_Lits #[(.slice a1.a a1.len a1.cap)] .sl fun r36 =>
 callT Tryz.prog fn_salvorlaw02_Ints #[(.slice r36.a r36.len r36.cap)] .sl fun r37 =>
 callT Tryz.prog fn_slices_Equal_int_int #[(.slice r37.a r37.len r37.cap), (.slice s25.2.1.a s25.2.1.len s25.2.1.cap)] .bool fun r38 =>
 brB r38
 (callT Tryz.prog fn_salvorlaw05_Bits #[(.slice r31.1.a r31.1.len r31.1.cap)] .sl fun r39 =>
 callT Tryz.prog fn_slices_Equal_int_int #[(.slice r39.a r39.len r39.cap), (.slice r32.1.a r32.1.len r32.1.cap)] .bool fun r40 =>
 brB r40
 (brB (r31.2.1 == r32.2.1)
 (callT Tryz.prog fn_salvorlaw05_awake #[] .bool fun r41 =>
 K r41)
 (K false))
 (K false))
 (K false))
 (K false)))
 ((0 : Int), ⟨none, 0, 0⟩, ())))))
set_option maxRecDepth 100000 in
theorem E_salvorlaw05_FormulaModels (a0 : Sl) (a1 : Sl) (a2 : Int) (a3 : Sl) (K : Bool → HP) (h : Heap) : fnVC Tryz.prog [(1000000, .nil)] 100 Tryz.f6 [(.slice a0.a a0.len a0.cap), (.slice a1.a a1.len a1.cap), (.int .i64 a2), (.slice a3.a a3.len a3.cap)] .bool K h = F_salvorlaw05_FormulaModels a0 a1 a2 a3 K h := by kernel_rfl
set_option maxRecDepth 100000 in
theorem S_salvorlaw05_FormulaModels{h : Heap} {a0 : Sl} {a1 : Sl} {a2 : Int} {a3 : Sl} (K : Bool → HP) (hF : F_salvorlaw05_FormulaModels a0 a1 a2 a3 K h) : CallsH Tryz.prog fn_salvorlaw05_FormulaModels #[(.slice a0.a a0.len a0.cap), (.slice a1.a a1.len a1.cap), (.int .i64 a2), (.slice a3.a a3.len a3.cap)] h fun v h' => ∃ x : Bool, v = Ty.enc .bool x ∧ K x h' :=
  callsH_of_fn (P := Tryz.prog) (fn := Tryz.f6) (τ := .bool) follows Tryz.func6 (by kernel_rfl) (by kernel_rfl) Tryz.call6 (Eq.mpr (E_salvorlaw05_FormulaModels a0 a1 a2 a3 K h) hF)


/-- salvor/salvorlaw05.FormulaYields -/
def F_salvorlaw05_FormulaYields (a0 : Sl) (a1 : Int) (a2 : Int) (K : Bool → HP) : HP := fun h0 => (
 nw #[(.int .u8 a1)] ty_uint8 fun b0 =>
 nw #[(.bool false)] ty_bool fun b1 =>
 callT Tryz.prog fn_salvorlaw05_Made #[(.slice a0.a a0.len a0.cap)] (.agg (.cons (.int .i64) (.cons .sl .nil))) fun r2 =>
 nw #[(.int .i64 (0 : Int)), (.slice none 0 0)] ty_formula_Formula fun b3 =>
 st1 (⟨b3, 0, none⟩ : Addr) (.int .i64 r2.1) <|
 st1 ((⟨b3, 0, none⟩ : Addr).add 1) (.slice r2.2.1.a r2.2.1.len r2.2.1.cap) <|
 ldA (.cons (.int .i64) (.cons .sl .nil)) (⟨b3, 0, none⟩ : Addr) fun x4 =>
 callT Tryz.prog fn_salvorlaw05_collected #[(.agg #[(.int .i64 x4.1), (.slice x4.2.1.a x4.2.1.len x4.2.1.cap)])] (.tup (.cons .sl (.cons .bool .nil))) fun r5 =>
 nw #[(.slice none 0 0)] ty_sl_sl_bool fun b6 =>
 st1 (⟨b6, 0, none⟩ : Addr) (.slice r5.1.a r5.1.len r5.1.cap) <|
 ldA (.cons (.int .i64) (.cons .sl .nil)) (⟨b3, 0, none⟩ : Addr) fun x7 =>
 callT Tryz.prog fn_formula_Count #[(.agg #[(.int .i64 x7.1), (.slice x7.2.1.a x7.2.1.len x7.2.1.cap)])] (.tup (.cons (.int .i64) (.cons (.int .i64) .nil))) fun r8 =>
 ldA (.cons (.int .i64) (.cons .sl .nil)) (⟨b3, 0, none⟩ : Addr) fun x9 =>
 callT Tryz.prog fn_formula_First #[(.agg #[(.int .i64 x9.1), (.slice x9.2.1.a x9.2.1.len x9.2.1.cap)])] (.tup (.cons .sl (.cons .bool (.cons (.int .i64) .nil)))) fun r10 =>
 brB (!r5.2.1)
 (st1 (⟨b1, 0, none⟩ : Addr) (.bool false) <|
 mkd h0.size <|
 ldT .bool (⟨b1, 0, none⟩ : Addr) fun x11 =>
 K x11)
 (brB ((IntKind.wrap .i64 (r8.2.1 + r10.2.2.1)) != (0 : Int))
 (st1 (⟨b1, 0, none⟩ : Addr) (.bool false) <|
 mkd h0.size <|
 ldT .bool (⟨b1, 0, none⟩ : Addr) fun x12 =>
 K x12)
 (ldT .sl (⟨b6, 0, none⟩ : Addr) fun x13 =>
 brB (r8.1 != (x13.len : Int))
 (st1 (⟨b1, 0, none⟩ : Addr) (.bool false) <|
 mkd h0.size <|
 ldT .bool (⟨b1, 0, none⟩ : Addr) fun x14 =>
 K x14)
 (brB (!(r10.2.1 == (decide (r8.1 > (0 : Int)))))
 (st1 (⟨b1, 0, none⟩ : Addr) (.bool false) <|
 mkd h0.size <|
 ldT .bool (⟨b1, 0, none⟩ : Addr) fun x15 =>
 K x15)
 (brB r10.2.1
 (ldT .sl (⟨b6, 0, none⟩ : Addr) fun x16 =>
 sx x16.a x16.len (0 : Int) 1 fun p17 =>
 ldT .sl p17 fun x18 =>
 callT Tryz.prog fn_slices_Equal_bool_bool #[(.slice r10.1.a r10.1.len r10.1.cap), (.slice x18.a x18.len x18.cap)] .bool fun r19 =>
 brB (!r19)
 (st1 (⟨b1, 0, none⟩ : Addr) (.bool false) <|
 mkd h0.size <|
 ldT .bool (⟨b1, 0, none⟩ : Addr) fun x20 =>
 K x20)
 (ldT .sl (⟨b6, 0, none⟩ : Addr) fun x21 =>
 lfp (σ := (Int × Unit)) (fun X22 s23 => /-  -/
 brB (decide (s23.1 < (x21.len : Int)))
 (sx x21.a x21.len s23.1 1 fun p24 =>
 ldT .sl p24 fun x25 =>
 ldA (.cons (.int .i64) (.cons .sl .nil)) (⟨b3, 0, none⟩ : Addr) fun x26 =>
 callT Tryz.prog fn_formula_Value #[(.agg #[(.int .i64 x26.1), (.slice x26.2.1.a x26.2.1.len x26.2.1.cap)]), (.slice x25.a x25.len x25.cap)] (.tup (.cons .bool (.cons (.int .i64) .nil))) fun r27 =>
 brB (r27.2.1 != (0 : Int))
 (st1 (⟨b1, 0, none⟩ : Addr) (.bool false) <|
 mkd h0.size <|
 ldT .bool (⟨b1, 0, none⟩ : Addr) fun x28 =>
 K x28)
 (brB (!r27.1)
 (st1 (⟨b1, 0, none⟩ : Addr) (.bool false) <|
 mkd h0.size <|
 ldT .bool (⟨b1, 0, none⟩ : Addr) fun x29 =>
 K x29)
 (brB (decide (s23.1 > (0 : Int)))
 (ldT .sl (⟨b6, 0, none⟩ : Addr) fun x30 =>
 sx x30.a x30.len (IntKind.wrap .i64 (s23.1 - (1 : Int))) 1 fun p31 =>
 ldT .sl p31 fun x32 =>
 callT Tryz.prog fn_salvorlaw05_less #[(.slice x32.a x32.len x32.cap), (.slice x25.a x25.len x25.cap)] .bool fun r33 =>
 brB (!r33)
 (st1 (⟨b1, 0, none⟩ : Addr) (.bool false) <|
 mkd h0.size <|
 ldT .bool (⟨b1, 0, none⟩ : Addr) fun x34 =>
 K x34)
 (X22 ((IntKind.wrap .i64 (s23.1 + (1 : Int))), ())))
 (X22 ((IntKind.wrap .i64 (s23.1 + (1 : Int))), ())))))
 (ldA (.cons (.int .i64) (.cons .sl .nil)) (⟨b3, 0, none⟩ : Addr) fun x35 =>
 callT Tryz.prog fn_formula_Models #[(.agg #[(.int .i64 x35.1), (.slice x35.2.1.a x35.2.1.len x35.2.1.cap)])] (.tup (.cons .val (.cons (.int .i64) .nil))) fun r36 =>
 brB (r36.2.1 != (0 : Int))
 (st1 (⟨b1, 0, none⟩ : Addr) (.bool false) <|
 mkd h0.size <|
 ldT .bool (⟨b1, 0, none⟩ : Addr) fun x37 =>
 K x37)
 (fnE r36.1 fun t38 =>
 brB t38
 (st1 (⟨b1, 0, none⟩ : Addr) (.bool false) <|
 mkd h0.size <|
 ldT .bool (⟨b1, 0, none⟩ : Addr) fun x39 =>
 K x39)
 (nw #[(.int .i64 (0 : Int))] ty_int fun b40 =>
 st1 (⟨b40, 0, none⟩ : Addr) (.int .i64 (0 : Int)) <|
 jn (σ := Unit) (fun s42 => /- -/
 mks ty_bool 1 1 #[(.bool false)] (8 : Int) (8 : Int) fun s43 =>
 nw #[(.slice none 0 0)] ty_sl_bool fun b44 =>
 st1 (⟨b44, 0, none⟩ : Addr) (.slice s43.a s43.len s43.cap) <|
 ldT .sl (⟨b44, 0, none⟩ : Addr) fun x45 =>
 lfp (σ := (Int × Unit)) (fun X46 s47 => /-  -/
 brB (decide (s47.1 < (x45.len : Int)))
 (ldT .sl (⟨b44, 0, none⟩ : Addr) fun x48 =>
 ge0 s47.1 <|
 sx x48.a x48.len s47.1 1 fun p49 =>
 st1 p49 (.bool ((bAnd .u8 (Int.fdiv a2 (2 ^ (min (s47.1).toNat 8))) (1 : Int)) == (1 : Int))) <|
 X46 ((IntKind.wrap .i64 (s47.1 + (1 : Int))), ()))
 (ldA (.cons (.int .i64) (.cons .sl .nil)) (⟨b3, 0, none⟩ : Addr) fun x50 =>
 ldT .sl (⟨b44, 0, none⟩ : Addr) fun x51 =>
 callT Tryz.prog fn_formula_Fails #[(.agg #[(.int .i64 x50.1), (.slice x50.2.1.a x50.2.1.len x50.2.1.cap)]), (.slice x51.a x51.len x51.cap)] (.tup (.cons (.int .i64) (.cons .bool (.cons (.int .i64) .nil)))) fun r52 =>
 ldA (.cons (.int .i64) (.cons .sl .nil)) (⟨b3, 0, none⟩ : Addr) fun x53 =>
 ldT .sl (⟨b44, 0, none⟩ : Addr) fun x54 =>
 callT Tryz.prog fn_formula_Value #[(.agg #[(.int .i64 x53.1), (.slice x53.2.1.a x53.2.1.len x53.2.1.cap)]), (.slice x54.a x54.len x54.cap)] (.tup (.cons .bool (.cons (.int .i64) .nil))) fun r55 =>
 ldT .sl (⟨b6, 0, none⟩ : Addr) fun x56 =>
 callT Tryz.prog fn_slices_ContainsFunc_bool_bool #[(.slice x56.a x56.len x56.cap), (.func (.func fn_salvorlaw05_FormulaYields_1) #[] #[(.pointer (some (⟨b44, 0, none⟩ : Addr)))])] .bool fun r57 =>
 brB ((IntKind.wrap .i64 (r52.2.2.1 + r55.2.1)) != (0 : Int))
 (st1 (⟨b1, 0, none⟩ : Addr) (.bool false) <|
 mkd h0.size <|
 ldT .bool (⟨b1, 0, none⟩ : Addr) fun x58 =>
 K x58)
 (ldT (.int .i64) (⟨b40, 0, none⟩ : Addr) fun x59 =>
 ldT (.int .u8) (⟨b0, 0, none⟩ : Addr) fun x60 =>
 ldT .sl (⟨b6, 0, none⟩ : Addr) fun x61 =>
 brB (x59 != (if (x61.len : Int) < (IntKind.wrap .i64 x60) then (x61.len : Int) else (IntKind.wrap .i64 x60)))
 (st1 (⟨b1, 0, none⟩ : Addr) (.bool false) <|
 mkd h0.size <|
 ldT .bool (⟨b1, 0, none⟩ : Addr) fun x62 =>
 K x62)
 (brB (r55.1 == r52.2.1)
 (st1 (⟨b1, 0, none⟩ : Addr) (.bool false) <|
 mkd h0.size <|
 ldT .bool (⟨b1, 0, none⟩ : Addr) fun x63 =>
 K x63)
 (brB (!(r57 == r55.1))
 (st1 (⟨b1, 0, none⟩ : Addr) (.bool false) <|
 mkd h0.size <|
 ldT .bool (⟨b1, 0, none⟩ : Addr) fun x64 =>
 K x64)
 (brB (decide (r52.1 < (0 : Int)))
 (st1 (⟨b1, 0, none⟩ : Addr) (.bool false) <|
 mkd h0.size <|
 ldT .bool (⟨b1, 0, none⟩ : Addr) fun x65 =>
 K x65)
 (brB r52.2.1
 (ldT .sl ((⟨b3, 0, none⟩ : Addr).add 1) fun x66 =>
 brB (decide (r52.1 ≥ (x66.len : Int)))
 (st1 (⟨b1, 0, none⟩ : Addr) (.bool false) <|
 mkd h0.size <|
 ldT .bool (⟨b1, 0, none⟩ : Addr) fun x67 =>
 K x67)
 (ldT .sl ((⟨b3, 0, none⟩ : Addr).add 1) fun x68 =>
 lfp (σ := (Int × Unit)) (fun X69 s70 => /-  -/
 brB (decide (s70.1 < (x68.len : Int)))
 (sx x68.a x68.len s70.1 1 fun p71 =>
 ldT .sl p71 fun x72 =>
 brB r52.2.1
 (brB (decide (s70.1 < r52.1))
 (ldT .sl (⟨b44, 0, none⟩ : Addr) fun x73 =>
 callT Tryz.prog fn_formula_Holds #[(.slice x72.a x72.len x72.cap), (.slice x73.a x73.len x73.cap)] .bool fun r74 =>
 brB (!r74)
 (st1 (⟨b1, 0, none⟩ : Addr) (.bool false) <|
 mkd h0.size <|
 ldT .bool (⟨b1, 0, none⟩ : Addr) fun x75 =>
 K x75)
 (brB r52.2.1
 (brB (s70.1 == r52.1)
 (ldT .sl (⟨b44, 0, none⟩ : Addr) fun x76 =>
 callT Tryz.prog fn_formula_Holds #[(.slice x72.a x72.len x72.cap), (.slice x76.a x76.len x76.cap)] .bool fun r77 =>
 brB r77
 (st1 (⟨b1, 0, none⟩ : Addr) (.bool false) <|
 mkd h0.size <|
 ldT .bool (⟨b1, 0, none⟩ : Addr) fun x78 =>
 K x78)
 (ldT .sl (⟨b44, 0, none⟩ : Addr) fun x79 =>
 ldT .sl (⟨b44, 0, none⟩ : Addr) fun x80 =>
 callT Tryz.prog fn_formula_Holds #[(.slice x72.a x72.len x72.cap), (.slice x79.a x79.len x79.cap)] .bool fun r81 =>
 ck (⟨b44, 0, none⟩ : Addr) (.slice x80.a x80.len x80.cap) <|
 callT Tryz.prog fn_formula_Lits #[(.slice x80.a x80.len x80.cap)] .sl fun r82 =>
 callT Tryz.prog fn_clauses_Holds #[(.slice x72.a x72.len x72.cap), (.slice r82.a r82.len r82.cap)] .bool fun r83 =>
 brB (!(r81 == r83))
 (st1 (⟨b1, 0, none⟩ : Addr) (.bool false) <|
 mkd h0.size <|
 ldT .bool (⟨b1, 0, none⟩ : Addr) fun x84 =>
 K x84)
 (X69 ((IntKind.wrap .i64 (s70.1 + (1 : Int))), ()))))
 (ldT .sl (⟨b44, 0, none⟩ : Addr) fun x85 =>
 ldT .sl (⟨b44, 0, none⟩ : Addr) fun x86 =>
 callT Tryz.prog fn_formula_Holds #[(.slice x72.a x72.len x72.cap), (.slice x85.a x85.len x85.cap)] .bool fun r87 =>
 ck (⟨b44, 0, none⟩ : Addr) (.slice x86.a x86.len x86.cap) <|
 callT Tryz.prog fn_formula_Lits #[(.slice x86.a x86.len x86.cap)] .sl fun r88 =>
 callT Tryz.prog fn_clauses_Holds #[(.slice x72.a x72.len x72.cap), (.slice r88.a r88.len r88.cap)] .bool fun r89 =>
 brB (!(r87 == r89))
 (st1 (⟨b1, 0, none⟩ : Addr) (.bool false) <|
 mkd h0.size <|
 ldT .bool (⟨b1, 0, none⟩ : Addr) fun x90 =>
 K x90)
 (X69 ((IntKind.wrap .i64 (s70.1 + (1 : Int))), ()))))
 (ldT .sl (⟨b44, 0, none⟩ : Addr) fun x91 =>
 ldT .sl (⟨b44, 0, none⟩ : Addr) fun x92 =>
 callT Tryz.prog fn_formula_Holds #[(.slice x72.a x72.len x72.cap), (.slice x91.a x91.len x91.cap)] .bool fun r93 =>
 ck (⟨b44, 0, none⟩ : Addr) (.slice x92.a x92.len x92.cap) <|
 callT Tryz.prog fn_formula_Lits #[(.slice x92.a x92.len x92.cap)] .sl fun r94 =>
 callT Tryz.prog fn_clauses_Holds #[(.slice x72.a x72.len x72.cap), (.slice r94.a r94.len r94.cap)] .bool fun r95 =>
 brB (!(r93 == r95))
 (st1 (⟨b1, 0, none⟩ : Addr) (.bool false) <|
 mkd h0.size <|
 ldT .bool (⟨b1, 0, none⟩ : Addr) fun x96 =>
 K x96)
 (X69 ((IntKind.wrap .i64 (s70.1 + (1 : Int))), ())))))
 (brB r52.2.1
 (brB (s70.1 == r52.1)
 (ldT .sl (⟨b44, 0, none⟩ : Addr) fun x97 =>
 callT Tryz.prog fn_formula_Holds #[(.slice x72.a x72.len x72.cap), (.slice x97.a x97.len x97.cap)] .bool fun r98 =>
 brB r98
 (st1 (⟨b1, 0, none⟩ : Addr) (.bool false) <|
 mkd h0.size <|
 ldT .bool (⟨b1, 0, none⟩ : Addr) fun x99 =>
 K x99)
 (ldT .sl (⟨b44, 0, none⟩ : Addr) fun x100 =>
 ldT .sl (⟨b44, 0, none⟩ : Addr) fun x101 =>
 callT Tryz.prog fn_formula_Holds #[(.slice x72.a x72.len x72.cap), (.slice x100.a x100.len x100.cap)] .bool fun r102 =>
 ck (⟨b44, 0, none⟩ : Addr) (.slice x101.a x101.len x101.cap) <|
 callT Tryz.prog fn_formula_Lits #[(.slice x101.a x101.len x101.cap)] .sl fun r103 =>
 callT Tryz.prog fn_clauses_Holds #[(.slice x72.a x72.len x72.cap), (.slice r103.a r103.len r103.cap)] .bool fun r104 =>
 brB (!(r102 == r104))
 (st1 (⟨b1, 0, none⟩ : Addr) (.bool false) <|
 mkd h0.size <|
 ldT .bool (⟨b1, 0, none⟩ : Addr) fun x105 =>
 K x105)
 (X69 ((IntKind.wrap .i64 (s70.1 + (1 : Int))), ()))))
 (ldT .sl (⟨b44, 0, none⟩ : Addr) fun x106 =>
 ldT .sl (⟨b44, 0, none⟩ : Addr) fun x107 =>
 callT Tryz.prog fn_formula_Holds #[(.slice x72.a x72.len x72.cap), (.slice x106.a x106.len x106.cap)] .bool fun r108 =>
 ck (⟨b44, 0, none⟩ : Addr) (.slice x107.a x107.len x107.cap) <|
 callT Tryz.prog fn_formula_Lits #[(.slice x107.a x107.len x107.cap)] .sl fun r109 =>
 callT Tryz.prog fn_clauses_Holds #[(.slice x72.a x72.len x72.cap), (.slice r109.a r109.len r109.cap)] .bool fun r110 =>
 brB (!(r108 == r110))
 (st1 (⟨b1, 0, none⟩ : Addr) (.bool false) <|
 mkd h0.size <|
 ldT .bool (⟨b1, 0, none⟩ : Addr) fun x111 =>
 K x111)
 (X69 ((IntKind.wrap .i64 (s70.1 + (1 : Int))), ()))))
 (ldT .sl (⟨b44, 0, none⟩ : Addr) fun x112 =>
 ldT .sl (⟨b44, 0, none⟩ : Addr) fun x113 =>
 callT Tryz.prog fn_formula_Holds #[(.slice x72.a x72.len x72.cap), (.slice x112.a x112.len x112.cap)] .bool fun r114 =>
 ck (⟨b44, 0, none⟩ : Addr) (.slice x113.a x113.len x113.cap) <|
 callT Tryz.prog fn_formula_Lits #[(.slice x113.a x113.len x113.cap)] .sl fun r115 =>
 callT Tryz.prog fn_clauses_Holds #[(.slice x72.a x72.len x72.cap), (.slice r115.a r115.len r115.cap)] .bool fun r116 =>
 brB (!(r114 == r116))
 (st1 (⟨b1, 0, none⟩ : Addr) (.bool false) <|
 mkd h0.size <|
 ldT .bool (⟨b1, 0, none⟩ : Addr) fun x117 =>
 K x117)
 (X69 ((IntKind.wrap .i64 (s70.1 + (1 : Int))), ())))))
 (brB r52.2.1
 (brB (s70.1 == r52.1)
 (ldT .sl (⟨b44, 0, none⟩ : Addr) fun x118 =>
 callT Tryz.prog fn_formula_Holds #[(.slice x72.a x72.len x72.cap), (.slice x118.a x118.len x118.cap)] .bool fun r119 =>
 brB r119
 (st1 (⟨b1, 0, none⟩ : Addr) (.bool false) <|
 mkd h0.size <|
 ldT .bool (⟨b1, 0, none⟩ : Addr) fun x120 =>
 K x120)
 (ldT .sl (⟨b44, 0, none⟩ : Addr) fun x121 =>
 ldT .sl (⟨b44, 0, none⟩ : Addr) fun x122 =>
 callT Tryz.prog fn_formula_Holds #[(.slice x72.a x72.len x72.cap), (.slice x121.a x121.len x121.cap)] .bool fun r123 =>
 ck (⟨b44, 0, none⟩ : Addr) (.slice x122.a x122.len x122.cap) <|
 callT Tryz.prog fn_formula_Lits #[(.slice x122.a x122.len x122.cap)] .sl fun r124 =>
 callT Tryz.prog fn_clauses_Holds #[(.slice x72.a x72.len x72.cap), (.slice r124.a r124.len r124.cap)] .bool fun r125 =>
 brB (!(r123 == r125))
 (st1 (⟨b1, 0, none⟩ : Addr) (.bool false) <|
 mkd h0.size <|
 ldT .bool (⟨b1, 0, none⟩ : Addr) fun x126 =>
 K x126)
 (X69 ((IntKind.wrap .i64 (s70.1 + (1 : Int))), ()))))
 (ldT .sl (⟨b44, 0, none⟩ : Addr) fun x127 =>
 ldT .sl (⟨b44, 0, none⟩ : Addr) fun x128 =>
 callT Tryz.prog fn_formula_Holds #[(.slice x72.a x72.len x72.cap), (.slice x127.a x127.len x127.cap)] .bool fun r129 =>
 ck (⟨b44, 0, none⟩ : Addr) (.slice x128.a x128.len x128.cap) <|
 callT Tryz.prog fn_formula_Lits #[(.slice x128.a x128.len x128.cap)] .sl fun r130 =>
 callT Tryz.prog fn_clauses_Holds #[(.slice x72.a x72.len x72.cap), (.slice r130.a r130.len r130.cap)] .bool fun r131 =>
 brB (!(r129 == r131))
 (st1 (⟨b1, 0, none⟩ : Addr) (.bool false) <|
 mkd h0.size <|
 ldT .bool (⟨b1, 0, none⟩ : Addr) fun x132 =>
 K x132)
 (X69 ((IntKind.wrap .i64 (s70.1 + (1 : Int))), ()))))
 (ldT .sl (⟨b44, 0, none⟩ : Addr) fun x133 =>
 ldT .sl (⟨b44, 0, none⟩ : Addr) fun x134 =>
 callT Tryz.prog fn_formula_Holds #[(.slice x72.a x72.len x72.cap), (.slice x133.a x133.len x133.cap)] .bool fun r135 =>
 ck (⟨b44, 0, none⟩ : Addr) (.slice x134.a x134.len x134.cap) <|
 callT Tryz.prog fn_formula_Lits #[(.slice x134.a x134.len x134.cap)] .sl fun r136 =>
 callT Tryz.prog fn_clauses_Holds #[(.slice x72.a x72.len x72.cap), (.slice r136.a r136.len r136.cap)] .bool fun r137 =>
 brB (!(r135 == r137))
 (st1 (⟨b1, 0, none⟩ : Addr) (.bool false) <|
 mkd h0.size <|
 ldT .bool (⟨b1, 0, none⟩ : Addr) fun x138 =>
 K x138)
 (X69 ((IntKind.wrap .i64 (s70.1 + (1 : Int))), ())))))
 (callT Tryz.prog fn_salvorlaw05_awake #[] .bool fun r139 =>
 st1 (⟨b1, 0, none⟩ : Addr) (.bool r139) <|
 mkd h0.size <|
 ldT .bool (⟨b1, 0, none⟩ : Addr) fun x140 =>
 K x140))
 ((0 : Int), ())))
 (ldT .sl ((⟨b3, 0, none⟩ : Addr).add 1) fun x141 =>
 lfp (σ := (Int × Unit)) (fun X142 s143 => /-  -/
 brB (decide (s143.1 < (x141.len : Int)))
 (sx x141.a x141.len s143.1 1 fun p144 =>
 ldT .sl p144 fun x145 =>
 brB r52.2.1
 (brB (decide (s143.1 < r52.1))
 (ldT .sl (⟨b44, 0, none⟩ : Addr) fun x146 =>
 callT Tryz.prog fn_formula_Holds #[(.slice x145.a x145.len x145.cap), (.slice x146.a x146.len x146.cap)] .bool fun r147 =>
 brB (!r147)
 (st1 (⟨b1, 0, none⟩ : Addr) (.bool false) <|
 mkd h0.size <|
 ldT .bool (⟨b1, 0, none⟩ : Addr) fun x148 =>
 K x148)
 (brB r52.2.1
 (brB (s143.1 == r52.1)
 (ldT .sl (⟨b44, 0, none⟩ : Addr) fun x149 =>
 callT Tryz.prog fn_formula_Holds #[(.slice x145.a x145.len x145.cap), (.slice x149.a x149.len x149.cap)] .bool fun r150 =>
 brB r150
 (st1 (⟨b1, 0, none⟩ : Addr) (.bool false) <|
 mkd h0.size <|
 ldT .bool (⟨b1, 0, none⟩ : Addr) fun x151 =>
 K x151)
 (ldT .sl (⟨b44, 0, none⟩ : Addr) fun x152 =>
 ldT .sl (⟨b44, 0, none⟩ : Addr) fun x153 =>
 callT Tryz.prog fn_formula_Holds #[(.slice x145.a x145.len x145.cap), (.slice x152.a x152.len x152.cap)] .bool fun r154 =>
 ck (⟨b44, 0, none⟩ : Addr) (.slice x153.a x153.len x153.cap) <|
 callT Tryz.prog fn_formula_Lits #[(.slice x153.a x153.len x153.cap)] .sl fun r155 =>
 callT Tryz.prog fn_clauses_Holds #[(.slice x145.a x145.len x145.cap), (.slice r155.a r155.len r155.cap)] .bool fun r156 =>
 brB (!(r154 == r156))
 (st1 (⟨b1, 0, none⟩ : Addr) (.bool false) <|
 mkd h0.size <|
 ldT .bool (⟨b1, 0, none⟩ : Addr) fun x157 =>
 K x157)
 (X142 ((IntKind.wrap .i64 (s143.1 + (1 : Int))), ()))))
 (ldT .sl (⟨b44, 0, none⟩ : Addr) fun x158 =>
 ldT .sl (⟨b44, 0, none⟩ : Addr) fun x159 =>
 callT Tryz.prog fn_formula_Holds #[(.slice x145.a x145.len x145.cap), (.slice x158.a x158.len x158.cap)] .bool fun r160 =>
 ck (⟨b44, 0, none⟩ : Addr) (.slice x159.a x159.len x159.cap) <|
 callT Tryz.prog fn_formula_Lits #[(.slice x159.a x159.len x159.cap)] .sl fun r161 =>
 callT Tryz.prog fn_clauses_Holds #[(.slice x145.a x145.len x145.cap), (.slice r161.a r161.len r161.cap)] .bool fun r162 =>
 brB (!(r160 == r162))
 (st1 (⟨b1, 0, none⟩ : Addr) (.bool false) <|
 mkd h0.size <|
 ldT .bool (⟨b1, 0, none⟩ : Addr) fun x163 =>
 K x163)
 (X142 ((IntKind.wrap .i64 (s143.1 + (1 : Int))), ()))))
 (ldT .sl (⟨b44, 0, none⟩ : Addr) fun x164 =>
 ldT .sl (⟨b44, 0, none⟩ : Addr) fun x165 =>
 callT Tryz.prog fn_formula_Holds #[(.slice x145.a x145.len x145.cap), (.slice x164.a x164.len x164.cap)] .bool fun r166 =>
 ck (⟨b44, 0, none⟩ : Addr) (.slice x165.a x165.len x165.cap) <|
 callT Tryz.prog fn_formula_Lits #[(.slice x165.a x165.len x165.cap)] .sl fun r167 =>
 callT Tryz.prog fn_clauses_Holds #[(.slice x145.a x145.len x145.cap), (.slice r167.a r167.len r167.cap)] .bool fun r168 =>
 brB (!(r166 == r168))
 (st1 (⟨b1, 0, none⟩ : Addr) (.bool false) <|
 mkd h0.size <|
 ldT .bool (⟨b1, 0, none⟩ : Addr) fun x169 =>
 K x169)
 (X142 ((IntKind.wrap .i64 (s143.1 + (1 : Int))), ())))))
 (brB r52.2.1
 (brB (s143.1 == r52.1)
 (ldT .sl (⟨b44, 0, none⟩ : Addr) fun x170 =>
 callT Tryz.prog fn_formula_Holds #[(.slice x145.a x145.len x145.cap), (.slice x170.a x170.len x170.cap)] .bool fun r171 =>
 brB r171
 (st1 (⟨b1, 0, none⟩ : Addr) (.bool false) <|
 mkd h0.size <|
 ldT .bool (⟨b1, 0, none⟩ : Addr) fun x172 =>
 K x172)
 (ldT .sl (⟨b44, 0, none⟩ : Addr) fun x173 =>
 ldT .sl (⟨b44, 0, none⟩ : Addr) fun x174 =>
 callT Tryz.prog fn_formula_Holds #[(.slice x145.a x145.len x145.cap), (.slice x173.a x173.len x173.cap)] .bool fun r175 =>
 ck (⟨b44, 0, none⟩ : Addr) (.slice x174.a x174.len x174.cap) <|
 callT Tryz.prog fn_formula_Lits #[(.slice x174.a x174.len x174.cap)] .sl fun r176 =>
 callT Tryz.prog fn_clauses_Holds #[(.slice x145.a x145.len x145.cap), (.slice r176.a r176.len r176.cap)] .bool fun r177 =>
 brB (!(r175 == r177))
 (st1 (⟨b1, 0, none⟩ : Addr) (.bool false) <|
 mkd h0.size <|
 ldT .bool (⟨b1, 0, none⟩ : Addr) fun x178 =>
 K x178)
 (X142 ((IntKind.wrap .i64 (s143.1 + (1 : Int))), ()))))
 (ldT .sl (⟨b44, 0, none⟩ : Addr) fun x179 =>
 ldT .sl (⟨b44, 0, none⟩ : Addr) fun x180 =>
 callT Tryz.prog fn_formula_Holds #[(.slice x145.a x145.len x145.cap), (.slice x179.a x179.len x179.cap)] .bool fun r181 =>
 ck (⟨b44, 0, none⟩ : Addr) (.slice x180.a x180.len x180.cap) <|
 callT Tryz.prog fn_formula_Lits #[(.slice x180.a x180.len x180.cap)] .sl fun r182 =>
 callT Tryz.prog fn_clauses_Holds #[(.slice x145.a x145.len x145.cap), (.slice r182.a r182.len r182.cap)] .bool fun r183 =>
 brB (!(r181 == r183))
 (st1 (⟨b1, 0, none⟩ : Addr) (.bool false) <|
 mkd h0.size <|
 ldT .bool (⟨b1, 0, none⟩ : Addr) fun x184 =>
 K x184)
 (X142 ((IntKind.wrap .i64 (s143.1 + (1 : Int))), ()))))
 (ldT .sl (⟨b44, 0, none⟩ : Addr) fun x185 =>
 ldT .sl (⟨b44, 0, none⟩ : Addr) fun x186 =>
 callT Tryz.prog fn_formula_Holds #[(.slice x145.a x145.len x145.cap), (.slice x185.a x185.len x185.cap)] .bool fun r187 =>
 ck (⟨b44, 0, none⟩ : Addr) (.slice x186.a x186.len x186.cap) <|
 callT Tryz.prog fn_formula_Lits #[(.slice x186.a x186.len x186.cap)] .sl fun r188 =>
 callT Tryz.prog fn_clauses_Holds #[(.slice x145.a x145.len x145.cap), (.slice r188.a r188.len r188.cap)] .bool fun r189 =>
 brB (!(r187 == r189))
 (st1 (⟨b1, 0, none⟩ : Addr) (.bool false) <|
 mkd h0.size <|
 ldT .bool (⟨b1, 0, none⟩ : Addr) fun x190 =>
 K x190)
 (X142 ((IntKind.wrap .i64 (s143.1 + (1 : Int))), ())))))
 (brB r52.2.1
 (brB (s143.1 == r52.1)
 (ldT .sl (⟨b44, 0, none⟩ : Addr) fun x191 =>
 callT Tryz.prog fn_formula_Holds #[(.slice x145.a x145.len x145.cap), (.slice x191.a x191.len x191.cap)] .bool fun r192 =>
 brB r192
 (st1 (⟨b1, 0, none⟩ : Addr) (.bool false) <|
 mkd h0.size <|
 ldT .bool (⟨b1, 0, none⟩ : Addr) fun x193 =>
 K x193)
 (ldT .sl (⟨b44, 0, none⟩ : Addr) fun x194 =>
 ldT .sl (⟨b44, 0, none⟩ : Addr) fun x195 =>
 callT Tryz.prog fn_formula_Holds #[(.slice x145.a x145.len x145.cap), (.slice x194.a x194.len x194.cap)] .bool fun r196 =>
 ck (⟨b44, 0, none⟩ : Addr) (.slice x195.a x195.len x195.cap) <|
 callT Tryz.prog fn_formula_Lits #[(.slice x195.a x195.len x195.cap)] .sl fun r197 =>
 callT Tryz.prog fn_clauses_Holds #[(.slice x145.a x145.len x145.cap), (.slice r197.a r197.len r197.cap)] .bool fun r198 =>
 brB (!(r196 == r198))
 (st1 (⟨b1, 0, none⟩ : Addr) (.bool false) <|
 mkd h0.size <|
 ldT .bool (⟨b1, 0, none⟩ : Addr) fun x199 =>
 K x199)
 (X142 ((IntKind.wrap .i64 (s143.1 + (1 : Int))), ()))))
 (ldT .sl (⟨b44, 0, none⟩ : Addr) fun x200 =>
 ldT .sl (⟨b44, 0, none⟩ : Addr) fun x201 =>
 callT Tryz.prog fn_formula_Holds #[(.slice x145.a x145.len x145.cap), (.slice x200.a x200.len x200.cap)] .bool fun r202 =>
 ck (⟨b44, 0, none⟩ : Addr) (.slice x201.a x201.len x201.cap) <|
 callT Tryz.prog fn_formula_Lits #[(.slice x201.a x201.len x201.cap)] .sl fun r203 =>
 callT Tryz.prog fn_clauses_Holds #[(.slice x145.a x145.len x145.cap), (.slice r203.a r203.len r203.cap)] .bool fun r204 =>
 brB (!(r202 == r204))
 (st1 (⟨b1, 0, none⟩ : Addr) (.bool false) <|
 mkd h0.size <|
 ldT .bool (⟨b1, 0, none⟩ : Addr) fun x205 =>
 K x205)
 (X142 ((IntKind.wrap .i64 (s143.1 + (1 : Int))), ()))))
 (ldT .sl (⟨b44, 0, none⟩ : Addr) fun x206 =>
 ldT .sl (⟨b44, 0, none⟩ : Addr) fun x207 =>
 callT Tryz.prog fn_formula_Holds #[(.slice x145.a x145.len x145.cap), (.slice x206.a x206.len x206.cap)] .bool fun r208 =>
 ck (⟨b44, 0, none⟩ : Addr) (.slice x207.a x207.len x207.cap) <|
 callT Tryz.prog fn_formula_Lits #[(.slice x207.a x207.len x207.cap)] .sl fun r209 =>
 callT Tryz.prog fn_clauses_Holds #[(.slice x145.a x145.len x145.cap), (.slice r209.a r209.len r209.cap)] .bool fun r210 =>
 brB (!(r208 == r210))
 (st1 (⟨b1, 0, none⟩ : Addr) (.bool false) <|
 mkd h0.size <|
 ldT .bool (⟨b1, 0, none⟩ : Addr) fun x211 =>
 K x211)
 (X142 ((IntKind.wrap .i64 (s143.1 + (1 : Int))), ())))))
 (callT Tryz.prog fn_salvorlaw05_awake #[] .bool fun r212 =>
 st1 (⟨b1, 0, none⟩ : Addr) (.bool r212) <|
 mkd h0.size <|
 ldT .bool (⟨b1, 0, none⟩ : Addr) fun x213 =>
 K x213))
 ((0 : Int), ())))))))))
 ((0 : Int), ()))
 (fun J41 =>
 RangeVC Tryz.prog (.cons .sl .nil) r36.1 (fun x214 wrap215 next216 jump217 =>
 wrap215 <|
 ldT (.int .i64) (⟨b40, 0, none⟩ : Addr) fun x218 =>
 ldT (.int .u8) (⟨b0, 0, none⟩ : Addr) fun x219 =>
 brB (x218 == (IntKind.wrap .i64 x219))
 (jump217 (.exit 2))
 (ldT (.int .i64) (⟨b40, 0, none⟩ : Addr) fun x220 =>
 ldT .sl (⟨b6, 0, none⟩ : Addr) fun x221 =>
 brB (decide (x220 ≥ (x221.len : Int)))
 (st1 (⟨b1, 0, none⟩ : Addr) (.bool false) <|
 jump217 .ret)
 (ldT .sl (⟨b6, 0, none⟩ : Addr) fun x222 =>
 ldT (.int .i64) (⟨b40, 0, none⟩ : Addr) fun x223 =>
 sx x222.a x222.len x223 1 fun p224 =>
 ldT .sl p224 fun x225 =>
 callT Tryz.prog fn_slices_Equal_bool_bool #[(.slice x214.1.a x214.1.len x214.1.cap), (.slice x225.a x225.len x225.cap)] .bool fun r226 =>
 brB (!r226)
 (st1 (⟨b1, 0, none⟩ : Addr) (.bool false) <|
 jump217 .ret)
 (ldT (.int .i64) (⟨b40, 0, none⟩ : Addr) fun x227 =>
 st1 (⟨b40, 0, none⟩ : Addr) (.int .i64 (IntKind.wrap .i64 (x227 + (1 : Int)))) <|
 next216))))
 (J41 (()))
 (mkd h0.size <|
 ldT .bool (⟨b1, 0, none⟩ : Addr) fun x228 =>
 K x228)
 [2]
 [(J41 (()))])))))
 ((0 : Int), ())))
 (ldT .sl (⟨b6, 0, none⟩ : Addr) fun x229 =>
 lfp (σ := (Int × Unit)) (fun X230 s231 => /-  -/
 brB (decide (s231.1 < (x229.len : Int)))
 (sx x229.a x229.len s231.1 1 fun p232 =>
 ldT .sl p232 fun x233 =>
 ldA (.cons (.int .i64) (.cons .sl .nil)) (⟨b3, 0, none⟩ : Addr) fun x234 =>
 callT Tryz.prog fn_formula_Value #[(.agg #[(.int .i64 x234.1), (.slice x234.2.1.a x234.2.1.len x234.2.1.cap)]), (.slice x233.a x233.len x233.cap)] (.tup (.cons .bool (.cons (.int .i64) .nil))) fun r235 =>
 brB (r235.2.1 != (0 : Int))
 (st1 (⟨b1, 0, none⟩ : Addr) (.bool false) <|
 mkd h0.size <|
 ldT .bool (⟨b1, 0, none⟩ : Addr) fun x236 =>
 K x236)
 (brB (!r235.1)
 (st1 (⟨b1, 0, none⟩ : Addr) (.bool false) <|
 mkd h0.size <|
 ldT .bool (⟨b1, 0, none⟩ : Addr) fun x237 =>
 K x237)
 (brB (decide (s231.1 > (0 : Int)))
 (ldT .sl (⟨b6, 0, none⟩ : Addr) fun x238 =>
 sx x238.a x238.len (IntKind.wrap .i64 (s231.1 - (1 : Int))) 1 fun p239 =>
 ldT .sl p239 fun x240 =>
 callT Tryz.prog fn_salvorlaw05_less #[(.slice x240.a x240.len x240.cap), (.slice x233.a x233.len x233.cap)] .bool fun r241 =>
 brB (!r241)
 (st1 (⟨b1, 0, none⟩ : Addr) (.bool false) <|
 mkd h0.size <|
 ldT .bool (⟨b1, 0, none⟩ : Addr) fun x242 =>
 K x242)
 (X230 ((IntKind.wrap .i64 (s231.1 + (1 : Int))), ())))
 (X230 ((IntKind.wrap .i64 (s231.1 + (1 : Int))), ())))))
 (ldA (.cons (.int .i64) (.cons .sl .nil)) (⟨b3, 0, none⟩ : Addr) fun x243 =>
 callT Tryz.prog fn_formula_Models #[(.agg #[(.int .i64 x243.1), (.slice x243.2.1.a x243.2.1.len x243.2.1.cap)])] (.tup (.cons .val (.cons (.int .i64) .nil))) fun r244 =>
 brB (r244.2.1 != (0 : Int))
 (st1 (⟨b1, 0, none⟩ : Addr) (.bool false) <|
 mkd h0.size <|
 ldT .bool (⟨b1, 0, none⟩ : Addr) fun x245 =>
 K x245)
 (fnE r244.1 fun t246 =>
 brB t246
 (st1 (⟨b1, 0, none⟩ : Addr) (.bool false) <|
 mkd h0.size <|
 ldT .bool (⟨b1, 0, none⟩ : Addr) fun x247 =>
 K x247)
 (nw #[(.int .i64 (0 : Int))] ty_int fun b248 =>
 st1 (⟨b248, 0, none⟩ : Addr) (.int .i64 (0 : Int)) <|
 jn (σ := Unit) (fun s250 => /- -/
 mks ty_bool 1 1 #[(.bool false)] (8 : Int) (8 : Int) fun s251 =>
 nw #[(.slice none 0 0)] ty_sl_bool fun b252 =>
 st1 (⟨b252, 0, none⟩ : Addr) (.slice s251.a s251.len s251.cap) <|
 ldT .sl (⟨b252, 0, none⟩ : Addr) fun x253 =>
 lfp (σ := (Int × Unit)) (fun X254 s255 => /-  -/
 brB (decide (s255.1 < (x253.len : Int)))
 (ldT .sl (⟨b252, 0, none⟩ : Addr) fun x256 =>
 ge0 s255.1 <|
 sx x256.a x256.len s255.1 1 fun p257 =>
 st1 p257 (.bool ((bAnd .u8 (Int.fdiv a2 (2 ^ (min (s255.1).toNat 8))) (1 : Int)) == (1 : Int))) <|
 X254 ((IntKind.wrap .i64 (s255.1 + (1 : Int))), ()))
 (ldA (.cons (.int .i64) (.cons .sl .nil)) (⟨b3, 0, none⟩ : Addr) fun x258 =>
 ldT .sl (⟨b252, 0, none⟩ : Addr) fun x259 =>
 callT Tryz.prog fn_formula_Fails #[(.agg #[(.int .i64 x258.1), (.slice x258.2.1.a x258.2.1.len x258.2.1.cap)]), (.slice x259.a x259.len x259.cap)] (.tup (.cons (.int .i64) (.cons .bool (.cons (.int .i64) .nil)))) fun r260 =>
 ldA (.cons (.int .i64) (.cons .sl .nil)) (⟨b3, 0, none⟩ : Addr) fun x261 =>
 ldT .sl (⟨b252, 0, none⟩ : Addr) fun x262 =>
 callT Tryz.prog fn_formula_Value #[(.agg #[(.int .i64 x261.1), (.slice x261.2.1.a x261.2.1.len x261.2.1.cap)]), (.slice x262.a x262.len x262.cap)] (.tup (.cons .bool (.cons (.int .i64) .nil))) fun r263 =>
 ldT .sl (⟨b6, 0, none⟩ : Addr) fun x264 =>
 callT Tryz.prog fn_slices_ContainsFunc_bool_bool #[(.slice x264.a x264.len x264.cap), (.func (.func fn_salvorlaw05_FormulaYields_1) #[] #[(.pointer (some (⟨b252, 0, none⟩ : Addr)))])] .bool fun r265 =>
 brB ((IntKind.wrap .i64 (r260.2.2.1 + r263.2.1)) != (0 : Int))
 (st1 (⟨b1, 0, none⟩ : Addr) (.bool false) <|
 mkd h0.size <|
 ldT .bool (⟨b1, 0, none⟩ : Addr) fun x266 =>
 K x266)
 (ldT (.int .i64) (⟨b248, 0, none⟩ : Addr) fun x267 =>
 ldT (.int .u8) (⟨b0, 0, none⟩ : Addr) fun x268 =>
 ldT .sl (⟨b6, 0, none⟩ : Addr) fun x269 =>
 brB (x267 != (if (x269.len : Int) < (IntKind.wrap .i64 x268) then (x269.len : Int) else (IntKind.wrap .i64 x268)))
 (st1 (⟨b1, 0, none⟩ : Addr) (.bool false) <|
 mkd h0.size <|
 ldT .bool (⟨b1, 0, none⟩ : Addr) fun x270 =>
 K x270)
 (brB (r263.1 == r260.2.1)
 (st1 (⟨b1, 0, none⟩ : Addr) (.bool false) <|
 mkd h0.size <|
 ldT .bool (⟨b1, 0, none⟩ : Addr) fun x271 =>
 K x271)
 (brB (!(r265 == r263.1))
 (st1 (⟨b1, 0, none⟩ : Addr) (.bool false) <|
 mkd h0.size <|
 ldT .bool (⟨b1, 0, none⟩ : Addr) fun x272 =>
 K x272)
 (brB (decide (r260.1 < (0 : Int)))
 (st1 (⟨b1, 0, none⟩ : Addr) (.bool false) <|
 mkd h0.size <|
 ldT .bool (⟨b1, 0, none⟩ : Addr) fun x273 =>
 K x273)
 (brB r260.2.1
 (ldT .sl ((⟨b3, 0, none⟩ : Addr).add 1) fun x274 =>
 brB (decide (r260.1 ≥ (x274.len : Int)))
 (st1 (⟨b1, 0, none⟩ : Addr) (.bool false) <|
 mkd h0.size <|
 ldT .bool (⟨b1, 0, none⟩ : Addr) fun x275 =>
 K x275)
 (ldT .sl ((⟨b3, 0, none⟩ : Addr).add 1) fun x276 =>
 lfp (σ := (Int × Unit)) (fun X277 s278 => /-  -/
 brB (decide (s278.1 < (x276.len : Int)))
 (sx x276.a x276.len s278.1 1 fun p279 =>
 ldT .sl p279 fun x280 =>
 brB r260.2.1
 (brB (decide (s278.1 < r260.1))
 (ldT .sl (⟨b252, 0, none⟩ : Addr) fun x281 =>
 callT Tryz.prog fn_formula_Holds #[(.slice x280.a x280.len x280.cap), (.slice x281.a x281.len x281.cap)] .bool fun r282 =>
 brB (!r282)
 (st1 (⟨b1, 0, none⟩ : Addr) (.bool false) <|
 mkd h0.size <|
 ldT .bool (⟨b1, 0, none⟩ : Addr) fun x283 =>
 K x283)
 (brB r260.2.1
 (brB (s278.1 == r260.1)
 (ldT .sl (⟨b252, 0, none⟩ : Addr) fun x284 =>
 callT Tryz.prog fn_formula_Holds #[(.slice x280.a x280.len x280.cap), (.slice x284.a x284.len x284.cap)] .bool fun r285 =>
 brB r285
 (st1 (⟨b1, 0, none⟩ : Addr) (.bool false) <|
 mkd h0.size <|
 ldT .bool (⟨b1, 0, none⟩ : Addr) fun x286 =>
 K x286)
 (ldT .sl (⟨b252, 0, none⟩ : Addr) fun x287 =>
 ldT .sl (⟨b252, 0, none⟩ : Addr) fun x288 =>
 callT Tryz.prog fn_formula_Holds #[(.slice x280.a x280.len x280.cap), (.slice x287.a x287.len x287.cap)] .bool fun r289 =>
 ck (⟨b252, 0, none⟩ : Addr) (.slice x288.a x288.len x288.cap) <|
 callT Tryz.prog fn_formula_Lits #[(.slice x288.a x288.len x288.cap)] .sl fun r290 =>
 callT Tryz.prog fn_clauses_Holds #[(.slice x280.a x280.len x280.cap), (.slice r290.a r290.len r290.cap)] .bool fun r291 =>
 brB (!(r289 == r291))
 (st1 (⟨b1, 0, none⟩ : Addr) (.bool false) <|
 mkd h0.size <|
 ldT .bool (⟨b1, 0, none⟩ : Addr) fun x292 =>
 K x292)
 (X277 ((IntKind.wrap .i64 (s278.1 + (1 : Int))), ()))))
 (ldT .sl (⟨b252, 0, none⟩ : Addr) fun x293 =>
 ldT .sl (⟨b252, 0, none⟩ : Addr) fun x294 =>
 callT Tryz.prog fn_formula_Holds #[(.slice x280.a x280.len x280.cap), (.slice x293.a x293.len x293.cap)] .bool fun r295 =>
 ck (⟨b252, 0, none⟩ : Addr) (.slice x294.a x294.len x294.cap) <|
 callT Tryz.prog fn_formula_Lits #[(.slice x294.a x294.len x294.cap)] .sl fun r296 =>
 callT Tryz.prog fn_clauses_Holds #[(.slice x280.a x280.len x280.cap), (.slice r296.a r296.len r296.cap)] .bool fun r297 =>
 brB (!(r295 == r297))
 (st1 (⟨b1, 0, none⟩ : Addr) (.bool false) <|
 mkd h0.size <|
 ldT .bool (⟨b1, 0, none⟩ : Addr) fun x298 =>
 K x298)
 (X277 ((IntKind.wrap .i64 (s278.1 + (1 : Int))), ()))))
 (ldT .sl (⟨b252, 0, none⟩ : Addr) fun x299 =>
 ldT .sl (⟨b252, 0, none⟩ : Addr) fun x300 =>
 callT Tryz.prog fn_formula_Holds #[(.slice x280.a x280.len x280.cap), (.slice x299.a x299.len x299.cap)] .bool fun r301 =>
 ck (⟨b252, 0, none⟩ : Addr) (.slice x300.a x300.len x300.cap) <|
 callT Tryz.prog fn_formula_Lits #[(.slice x300.a x300.len x300.cap)] .sl fun r302 =>
 callT Tryz.prog fn_clauses_Holds #[(.slice x280.a x280.len x280.cap), (.slice r302.a r302.len r302.cap)] .bool fun r303 =>
 brB (!(r301 == r303))
 (st1 (⟨b1, 0, none⟩ : Addr) (.bool false) <|
 mkd h0.size <|
 ldT .bool (⟨b1, 0, none⟩ : Addr) fun x304 =>
 K x304)
 (X277 ((IntKind.wrap .i64 (s278.1 + (1 : Int))), ())))))
 (brB r260.2.1
 (brB (s278.1 == r260.1)
 (ldT .sl (⟨b252, 0, none⟩ : Addr) fun x305 =>
 callT Tryz.prog fn_formula_Holds #[(.slice x280.a x280.len x280.cap), (.slice x305.a x305.len x305.cap)] .bool fun r306 =>
 brB r306
 (st1 (⟨b1, 0, none⟩ : Addr) (.bool false) <|
 mkd h0.size <|
 ldT .bool (⟨b1, 0, none⟩ : Addr) fun x307 =>
 K x307)
 (ldT .sl (⟨b252, 0, none⟩ : Addr) fun x308 =>
 ldT .sl (⟨b252, 0, none⟩ : Addr) fun x309 =>
 callT Tryz.prog fn_formula_Holds #[(.slice x280.a x280.len x280.cap), (.slice x308.a x308.len x308.cap)] .bool fun r310 =>
 ck (⟨b252, 0, none⟩ : Addr) (.slice x309.a x309.len x309.cap) <|
 callT Tryz.prog fn_formula_Lits #[(.slice x309.a x309.len x309.cap)] .sl fun r311 =>
 callT Tryz.prog fn_clauses_Holds #[(.slice x280.a x280.len x280.cap), (.slice r311.a r311.len r311.cap)] .bool fun r312 =>
 brB (!(r310 == r312))
 (st1 (⟨b1, 0, none⟩ : Addr) (.bool false) <|
 mkd h0.size <|
 ldT .bool (⟨b1, 0, none⟩ : Addr) fun x313 =>
 K x313)
 (X277 ((IntKind.wrap .i64 (s278.1 + (1 : Int))), ()))))
 (ldT .sl (⟨b252, 0, none⟩ : Addr) fun x314 =>
 ldT .sl (⟨b252, 0, none⟩ : Addr) fun x315 =>
 callT Tryz.prog fn_formula_Holds #[(.slice x280.a x280.len x280.cap), (.slice x314.a x314.len x314.cap)] .bool fun r316 =>
 ck (⟨b252, 0, none⟩ : Addr) (.slice x315.a x315.len x315.cap) <|
 callT Tryz.prog fn_formula_Lits #[(.slice x315.a x315.len x315.cap)] .sl fun r317 =>
 callT Tryz.prog fn_clauses_Holds #[(.slice x280.a x280.len x280.cap), (.slice r317.a r317.len r317.cap)] .bool fun r318 =>
 brB (!(r316 == r318))
 (st1 (⟨b1, 0, none⟩ : Addr) (.bool false) <|
 mkd h0.size <|
 ldT .bool (⟨b1, 0, none⟩ : Addr) fun x319 =>
 K x319)
 (X277 ((IntKind.wrap .i64 (s278.1 + (1 : Int))), ()))))
 (ldT .sl (⟨b252, 0, none⟩ : Addr) fun x320 =>
 ldT .sl (⟨b252, 0, none⟩ : Addr) fun x321 =>
 callT Tryz.prog fn_formula_Holds #[(.slice x280.a x280.len x280.cap), (.slice x320.a x320.len x320.cap)] .bool fun r322 =>
 ck (⟨b252, 0, none⟩ : Addr) (.slice x321.a x321.len x321.cap) <|
 callT Tryz.prog fn_formula_Lits #[(.slice x321.a x321.len x321.cap)] .sl fun r323 =>
 callT Tryz.prog fn_clauses_Holds #[(.slice x280.a x280.len x280.cap), (.slice r323.a r323.len r323.cap)] .bool fun r324 =>
 brB (!(r322 == r324))
 (st1 (⟨b1, 0, none⟩ : Addr) (.bool false) <|
 mkd h0.size <|
 ldT .bool (⟨b1, 0, none⟩ : Addr) fun x325 =>
 K x325)
 (X277 ((IntKind.wrap .i64 (s278.1 + (1 : Int))), ())))))
 (brB r260.2.1
 (brB (s278.1 == r260.1)
 (ldT .sl (⟨b252, 0, none⟩ : Addr) fun x326 =>
 callT Tryz.prog fn_formula_Holds #[(.slice x280.a x280.len x280.cap), (.slice x326.a x326.len x326.cap)] .bool fun r327 =>
 brB r327
 (st1 (⟨b1, 0, none⟩ : Addr) (.bool false) <|
 mkd h0.size <|
 ldT .bool (⟨b1, 0, none⟩ : Addr) fun x328 =>
 K x328)
 (ldT .sl (⟨b252, 0, none⟩ : Addr) fun x329 =>
 ldT .sl (⟨b252, 0, none⟩ : Addr) fun x330 =>
 callT Tryz.prog fn_formula_Holds #[(.slice x280.a x280.len x280.cap), (.slice x329.a x329.len x329.cap)] .bool fun r331 =>
 ck (⟨b252, 0, none⟩ : Addr) (.slice x330.a x330.len x330.cap) <|
 callT Tryz.prog fn_formula_Lits #[(.slice x330.a x330.len x330.cap)] .sl fun r332 =>
 callT Tryz.prog fn_clauses_Holds #[(.slice x280.a x280.len x280.cap), (.slice r332.a r332.len r332.cap)] .bool fun r333 =>
 brB (!(r331 == r333))
 (st1 (⟨b1, 0, none⟩ : Addr) (.bool false) <|
 mkd h0.size <|
 ldT .bool (⟨b1, 0, none⟩ : Addr) fun x334 =>
 K x334)
 (X277 ((IntKind.wrap .i64 (s278.1 + (1 : Int))), ()))))
 (ldT .sl (⟨b252, 0, none⟩ : Addr) fun x335 =>
 ldT .sl (⟨b252, 0, none⟩ : Addr) fun x336 =>
 callT Tryz.prog fn_formula_Holds #[(.slice x280.a x280.len x280.cap), (.slice x335.a x335.len x335.cap)] .bool fun r337 =>
 ck (⟨b252, 0, none⟩ : Addr) (.slice x336.a x336.len x336.cap) <|
 callT Tryz.prog fn_formula_Lits #[(.slice x336.a x336.len x336.cap)] .sl fun r338 =>
 callT Tryz.prog fn_clauses_Holds #[(.slice x280.a x280.len x280.cap), (.slice r338.a r338.len r338.cap)] .bool fun r339 =>
 brB (!(r337 == r339))
 (st1 (⟨b1, 0, none⟩ : Addr) (.bool false) <|
 mkd h0.size <|
 ldT .bool (⟨b1, 0, none⟩ : Addr) fun x340 =>
 K x340)
 (X277 ((IntKind.wrap .i64 (s278.1 + (1 : Int))), ()))))
 (ldT .sl (⟨b252, 0, none⟩ : Addr) fun x341 =>
 ldT .sl (⟨b252, 0, none⟩ : Addr) fun x342 =>
 callT Tryz.prog fn_formula_Holds #[(.slice x280.a x280.len x280.cap), (.slice x341.a x341.len x341.cap)] .bool fun r343 =>
 ck (⟨b252, 0, none⟩ : Addr) (.slice x342.a x342.len x342.cap) <|
 callT Tryz.prog fn_formula_Lits #[(.slice x342.a x342.len x342.cap)] .sl fun r344 =>
 callT Tryz.prog fn_clauses_Holds #[(.slice x280.a x280.len x280.cap), (.slice r344.a r344.len r344.cap)] .bool fun r345 =>
 brB (!(r343 == r345))
 (st1 (⟨b1, 0, none⟩ : Addr) (.bool false) <|
 mkd h0.size <|
 ldT .bool (⟨b1, 0, none⟩ : Addr) fun x346 =>
 K x346)
 (X277 ((IntKind.wrap .i64 (s278.1 + (1 : Int))), ())))))
 (callT Tryz.prog fn_salvorlaw05_awake #[] .bool fun r347 =>
 st1 (⟨b1, 0, none⟩ : Addr) (.bool r347) <|
 mkd h0.size <|
 ldT .bool (⟨b1, 0, none⟩ : Addr) fun x348 =>
 K x348))
 ((0 : Int), ())))
 (ldT .sl ((⟨b3, 0, none⟩ : Addr).add 1) fun x349 =>
 lfp (σ := (Int × Unit)) (fun X350 s351 => /-  -/
 brB (decide (s351.1 < (x349.len : Int)))
 (sx x349.a x349.len s351.1 1 fun p352 =>
 ldT .sl p352 fun x353 =>
 brB r260.2.1
 (brB (decide (s351.1 < r260.1))
 (ldT .sl (⟨b252, 0, none⟩ : Addr) fun x354 =>
 callT Tryz.prog fn_formula_Holds #[(.slice x353.a x353.len x353.cap), (.slice x354.a x354.len x354.cap)] .bool fun r355 =>
 brB (!r355)
 (st1 (⟨b1, 0, none⟩ : Addr) (.bool false) <|
 mkd h0.size <|
 ldT .bool (⟨b1, 0, none⟩ : Addr) fun x356 =>
 K x356)
 (brB r260.2.1
 (brB (s351.1 == r260.1)
 (ldT .sl (⟨b252, 0, none⟩ : Addr) fun x357 =>
 callT Tryz.prog fn_formula_Holds #[(.slice x353.a x353.len x353.cap), (.slice x357.a x357.len x357.cap)] .bool fun r358 =>
 brB r358
 (st1 (⟨b1, 0, none⟩ : Addr) (.bool false) <|
 mkd h0.size <|
 ldT .bool (⟨b1, 0, none⟩ : Addr) fun x359 =>
 K x359)
 (ldT .sl (⟨b252, 0, none⟩ : Addr) fun x360 =>
 ldT .sl (⟨b252, 0, none⟩ : Addr) fun x361 =>
 callT Tryz.prog fn_formula_Holds #[(.slice x353.a x353.len x353.cap), (.slice x360.a x360.len x360.cap)] .bool fun r362 =>
 ck (⟨b252, 0, none⟩ : Addr) (.slice x361.a x361.len x361.cap) <|
 callT Tryz.prog fn_formula_Lits #[(.slice x361.a x361.len x361.cap)] .sl fun r363 =>
 callT Tryz.prog fn_clauses_Holds #[(.slice x353.a x353.len x353.cap), (.slice r363.a r363.len r363.cap)] .bool fun r364 =>
 brB (!(r362 == r364))
 (st1 (⟨b1, 0, none⟩ : Addr) (.bool false) <|
 mkd h0.size <|
 ldT .bool (⟨b1, 0, none⟩ : Addr) fun x365 =>
 K x365)
 (X350 ((IntKind.wrap .i64 (s351.1 + (1 : Int))), ()))))
 (ldT .sl (⟨b252, 0, none⟩ : Addr) fun x366 =>
 ldT .sl (⟨b252, 0, none⟩ : Addr) fun x367 =>
 callT Tryz.prog fn_formula_Holds #[(.slice x353.a x353.len x353.cap), (.slice x366.a x366.len x366.cap)] .bool fun r368 =>
 ck (⟨b252, 0, none⟩ : Addr) (.slice x367.a x367.len x367.cap) <|
 callT Tryz.prog fn_formula_Lits #[(.slice x367.a x367.len x367.cap)] .sl fun r369 =>
 callT Tryz.prog fn_clauses_Holds #[(.slice x353.a x353.len x353.cap), (.slice r369.a r369.len r369.cap)] .bool fun r370 =>
 brB (!(r368 == r370))
 (st1 (⟨b1, 0, none⟩ : Addr) (.bool false) <|
 mkd h0.size <|
 ldT .bool (⟨b1, 0, none⟩ : Addr) fun x371 =>
 K x371)
 (X350 ((IntKind.wrap .i64 (s351.1 + (1 : Int))), ()))))
 (ldT .sl (⟨b252, 0, none⟩ : Addr) fun x372 =>
 ldT .sl (⟨b252, 0, none⟩ : Addr) fun x373 =>
 callT Tryz.prog fn_formula_Holds #[(.slice x353.a x353.len x353.cap), (.slice x372.a x372.len x372.cap)] .bool fun r374 =>
 ck (⟨b252, 0, none⟩ : Addr) (.slice x373.a x373.len x373.cap) <|
 callT Tryz.prog fn_formula_Lits #[(.slice x373.a x373.len x373.cap)] .sl fun r375 =>
 callT Tryz.prog fn_clauses_Holds #[(.slice x353.a x353.len x353.cap), (.slice r375.a r375.len r375.cap)] .bool fun r376 =>
 brB (!(r374 == r376))
 (st1 (⟨b1, 0, none⟩ : Addr) (.bool false) <|
 mkd h0.size <|
 ldT .bool (⟨b1, 0, none⟩ : Addr) fun x377 =>
 K x377)
 (X350 ((IntKind.wrap .i64 (s351.1 + (1 : Int))), ())))))
 (brB r260.2.1
 (brB (s351.1 == r260.1)
 (ldT .sl (⟨b252, 0, none⟩ : Addr) fun x378 =>
 callT Tryz.prog fn_formula_Holds #[(.slice x353.a x353.len x353.cap), (.slice x378.a x378.len x378.cap)] .bool fun r379 =>
 brB r379
 (st1 (⟨b1, 0, none⟩ : Addr) (.bool false) <|
 mkd h0.size <|
 ldT .bool (⟨b1, 0, none⟩ : Addr) fun x380 =>
 K x380)
 (ldT .sl (⟨b252, 0, none⟩ : Addr) fun x381 =>
 ldT .sl (⟨b252, 0, none⟩ : Addr) fun x382 =>
 callT Tryz.prog fn_formula_Holds #[(.slice x353.a x353.len x353.cap), (.slice x381.a x381.len x381.cap)] .bool fun r383 =>
 ck (⟨b252, 0, none⟩ : Addr) (.slice x382.a x382.len x382.cap) <|
 callT Tryz.prog fn_formula_Lits #[(.slice x382.a x382.len x382.cap)] .sl fun r384 =>
 callT Tryz.prog fn_clauses_Holds #[(.slice x353.a x353.len x353.cap), (.slice r384.a r384.len r384.cap)] .bool fun r385 =>
 brB (!(r383 == r385))
 (st1 (⟨b1, 0, none⟩ : Addr) (.bool false) <|
 mkd h0.size <|
 ldT .bool (⟨b1, 0, none⟩ : Addr) fun x386 =>
 K x386)
 (X350 ((IntKind.wrap .i64 (s351.1 + (1 : Int))), ()))))
 (ldT .sl (⟨b252, 0, none⟩ : Addr) fun x387 =>
 ldT .sl (⟨b252, 0, none⟩ : Addr) fun x388 =>
 callT Tryz.prog fn_formula_Holds #[(.slice x353.a x353.len x353.cap), (.slice x387.a x387.len x387.cap)] .bool fun r389 =>
 ck (⟨b252, 0, none⟩ : Addr) (.slice x388.a x388.len x388.cap) <|
 callT Tryz.prog fn_formula_Lits #[(.slice x388.a x388.len x388.cap)] .sl fun r390 =>
 callT Tryz.prog fn_clauses_Holds #[(.slice x353.a x353.len x353.cap), (.slice r390.a r390.len r390.cap)] .bool fun r391 =>
 brB (!(r389 == r391))
 (st1 (⟨b1, 0, none⟩ : Addr) (.bool false) <|
 mkd h0.size <|
 ldT .bool (⟨b1, 0, none⟩ : Addr) fun x392 =>
 K x392)
 (X350 ((IntKind.wrap .i64 (s351.1 + (1 : Int))), ()))))
 (ldT .sl (⟨b252, 0, none⟩ : Addr) fun x393 =>
 ldT .sl (⟨b252, 0, none⟩ : Addr) fun x394 =>
 callT Tryz.prog fn_formula_Holds #[(.slice x353.a x353.len x353.cap), (.slice x393.a x393.len x393.cap)] .bool fun r395 =>
 ck (⟨b252, 0, none⟩ : Addr) (.slice x394.a x394.len x394.cap) <|
 callT Tryz.prog fn_formula_Lits #[(.slice x394.a x394.len x394.cap)] .sl fun r396 =>
 callT Tryz.prog fn_clauses_Holds #[(.slice x353.a x353.len x353.cap), (.slice r396.a r396.len r396.cap)] .bool fun r397 =>
 brB (!(r395 == r397))
 (st1 (⟨b1, 0, none⟩ : Addr) (.bool false) <|
 mkd h0.size <|
 ldT .bool (⟨b1, 0, none⟩ : Addr) fun x398 =>
 K x398)
 (X350 ((IntKind.wrap .i64 (s351.1 + (1 : Int))), ())))))
 (brB r260.2.1
 (brB (s351.1 == r260.1)
 (ldT .sl (⟨b252, 0, none⟩ : Addr) fun x399 =>
 callT Tryz.prog fn_formula_Holds #[(.slice x353.a x353.len x353.cap), (.slice x399.a x399.len x399.cap)] .bool fun r400 =>
 brB r400
 (st1 (⟨b1, 0, none⟩ : Addr) (.bool false) <|
 mkd h0.size <|
 ldT .bool (⟨b1, 0, none⟩ : Addr) fun x401 =>
 K x401)
 (ldT .sl (⟨b252, 0, none⟩ : Addr) fun x402 =>
 ldT .sl (⟨b252, 0, none⟩ : Addr) fun x403 =>
 callT Tryz.prog fn_formula_Holds #[(.slice x353.a x353.len x353.cap), (.slice x402.a x402.len x402.cap)] .bool fun r404 =>
 ck (⟨b252, 0, none⟩ : Addr) (.slice x403.a x403.len x403.cap) <|
 callT Tryz.prog fn_formula_Lits #[(.slice x403.a x403.len x403.cap)] .sl fun r405 =>
 callT Tryz.prog fn_clauses_Holds #[(.slice x353.a x353.len x353.cap), (.slice r405.a r405.len r405.cap)] .bool fun r406 =>
 brB (!(r404 == r406))
 (st1 (⟨b1, 0, none⟩ : Addr) (.bool false) <|
 mkd h0.size <|
 ldT .bool (⟨b1, 0, none⟩ : Addr) fun x407 =>
 K x407)
 (X350 ((IntKind.wrap .i64 (s351.1 + (1 : Int))), ()))))
 (ldT .sl (⟨b252, 0, none⟩ : Addr) fun x408 =>
 ldT .sl (⟨b252, 0, none⟩ : Addr) fun x409 =>
 callT Tryz.prog fn_formula_Holds #[(.slice x353.a x353.len x353.cap), (.slice x408.a x408.len x408.cap)] .bool fun r410 =>
 ck (⟨b252, 0, none⟩ : Addr) (.slice x409.a x409.len x409.cap) <|
 callT Tryz.prog fn_formula_Lits #[(.slice x409.a x409.len x409.cap)] .sl fun r411 =>
 callT Tryz.prog fn_clauses_Holds #[(.slice x353.a x353.len x353.cap), (.slice r411.a r411.len r411.cap)] .bool fun r412 =>
 brB (!(r410 == r412))
 (st1 (⟨b1, 0, none⟩ : Addr) (.bool false) <|
 mkd h0.size <|
 ldT .bool (⟨b1, 0, none⟩ : Addr) fun x413 =>
 K x413)
 (X350 ((IntKind.wrap .i64 (s351.1 + (1 : Int))), ()))))
 (ldT .sl (⟨b252, 0, none⟩ : Addr) fun x414 =>
 ldT .sl (⟨b252, 0, none⟩ : Addr) fun x415 =>
 callT Tryz.prog fn_formula_Holds #[(.slice x353.a x353.len x353.cap), (.slice x414.a x414.len x414.cap)] .bool fun r416 =>
 ck (⟨b252, 0, none⟩ : Addr) (.slice x415.a x415.len x415.cap) <|
 callT Tryz.prog fn_formula_Lits #[(.slice x415.a x415.len x415.cap)] .sl fun r417 =>
 callT Tryz.prog fn_clauses_Holds #[(.slice x353.a x353.len x353.cap), (.slice r417.a r417.len r417.cap)] .bool fun r418 =>
 brB (!(r416 == r418))
 (st1 (⟨b1, 0, none⟩ : Addr) (.bool false) <|
 mkd h0.size <|
 ldT .bool (⟨b1, 0, none⟩ : Addr) fun x419 =>
 K x419)
 (X350 ((IntKind.wrap .i64 (s351.1 + (1 : Int))), ())))))
 (callT Tryz.prog fn_salvorlaw05_awake #[] .bool fun r420 =>
 st1 (⟨b1, 0, none⟩ : Addr) (.bool r420) <|
 mkd h0.size <|
 ldT .bool (⟨b1, 0, none⟩ : Addr) fun x421 =>
 K x421))
 ((0 : Int), ())))))))))
 ((0 : Int), ()))
 (fun J249 =>
 RangeVC Tryz.prog (.cons .sl .nil) r244.1 (fun x422 wrap423 next424 jump425 =>
 wrap423 <|
 ldT (.int .i64) (⟨b248, 0, none⟩ : Addr) fun x426 =>
 ldT (.int .u8) (⟨b0, 0, none⟩ : Addr) fun x427 =>
 brB (x426 == (IntKind.wrap .i64 x427))
 (jump425 (.exit 2))
 (ldT (.int .i64) (⟨b248, 0, none⟩ : Addr) fun x428 =>
 ldT .sl (⟨b6, 0, none⟩ : Addr) fun x429 =>
 brB (decide (x428 ≥ (x429.len : Int)))
 (st1 (⟨b1, 0, none⟩ : Addr) (.bool false) <|
 jump425 .ret)
 (ldT .sl (⟨b6, 0, none⟩ : Addr) fun x430 =>
 ldT (.int .i64) (⟨b248, 0, none⟩ : Addr) fun x431 =>
 sx x430.a x430.len x431 1 fun p432 =>
 ldT .sl p432 fun x433 =>
 callT Tryz.prog fn_slices_Equal_bool_bool #[(.slice x422.1.a x422.1.len x422.1.cap), (.slice x433.a x433.len x433.cap)] .bool fun r434 =>
 brB (!r434)
 (st1 (⟨b1, 0, none⟩ : Addr) (.bool false) <|
 jump425 .ret)
 (ldT (.int .i64) (⟨b248, 0, none⟩ : Addr) fun x435 =>
 st1 (⟨b248, 0, none⟩ : Addr) (.int .i64 (IntKind.wrap .i64 (x435 + (1 : Int)))) <|
 next424))))
 (J249 (()))
 (mkd h0.size <|
 ldT .bool (⟨b1, 0, none⟩ : Addr) fun x436 =>
 K x436)
 [2]
 [(J249 (()))])))))
 ((0 : Int), ()))))))) h0
set_option maxRecDepth 100000 in
theorem E_salvorlaw05_FormulaYields (a0 : Sl) (a1 : Int) (a2 : Int) (K : Bool → HP) (h : Heap) : fnVC Tryz.prog [(1000000, .nil), (128, (.cons .sl .nil))] 261 Tryz.f7 [(.slice a0.a a0.len a0.cap), (.int .u8 a1), (.int .u8 a2)] .bool K h = F_salvorlaw05_FormulaYields a0 a1 a2 K h := by kernel_rfl
set_option maxRecDepth 100000 in
theorem S_salvorlaw05_FormulaYields{h : Heap} {a0 : Sl} {a1 : Int} {a2 : Int} (K : Bool → HP) (hF : F_salvorlaw05_FormulaYields a0 a1 a2 K h) : CallsH Tryz.prog fn_salvorlaw05_FormulaYields #[(.slice a0.a a0.len a0.cap), (.int .u8 a1), (.int .u8 a2)] h fun v h' => ∃ x : Bool, v = Ty.enc .bool x ∧ K x h' :=
  callsH_of_fn (P := Tryz.prog) (fn := Tryz.f7) (τ := .bool) follows Tryz.func7 (by kernel_rfl) (by kernel_rfl) Tryz.call7 (Eq.mpr (E_salvorlaw05_FormulaYields a0 a1 a2 K h) hF)


/-- salvor/salvorlaw05.FormulaMore -/
def F_salvorlaw05_FormulaMore (a0 : Sl) (a1 : Sl) (a2 : Int) (K : Bool → HP) : HP :=
 callT Tryz.prog fn_salvorlaw05_Made #[(.slice a0.a a0.len a0.cap)] (.agg (.cons (.int .i64) (.cons .sl .nil))) fun r0 =>
 callT Tryz.prog fn_salvorlaw02_Made #[(.slice a1.a a1.len a1.cap)] .sl fun r1 =>
 nw #[(.int .i64 (0 : Int)), (.slice none 0 0)] ty_formula_Formula fun b2 =>
 st1 (⟨b2, 0, none⟩ : Addr) (.int .i64 r0.1) <|
 st1 ((⟨b2, 0, none⟩ : Addr).add 1) (.slice r0.2.1.a r0.2.1.len r0.2.1.cap) <|
 ldA (.cons (.int .i64) (.cons .sl .nil)) (⟨b2, 0, none⟩ : Addr) fun x3 =>
 callT Tryz.prog fn_salvorlaw05_collected #[(.agg #[(.int .i64 x3.1), (.slice x3.2.1.a x3.2.1.len x3.2.1.cap)])] (.tup (.cons .sl (.cons .bool .nil))) fun r4 =>
 ldA (.cons (.int .i64) (.cons .sl .nil)) (⟨b2, 0, none⟩ : Addr) fun x5 =>
 callT Tryz.prog fn_formula_Copy #[(.agg #[(.int .i64 x5.1), (.slice x5.2.1.a x5.2.1.len x5.2.1.cap)])] (.agg (.cons (.int .i64) (.cons .sl .nil))) fun r6 =>
 nw #[(.int .i64 (0 : Int)), (.slice none 0 0)] ty_formula_Formula fun b7 =>
 st1 (⟨b7, 0, none⟩ : Addr) (.int .i64 r6.1) <|
 st1 ((⟨b7, 0, none⟩ : Addr).add 1) (.slice r6.2.1.a r6.2.1.len r6.2.1.cap) <|
 ldT .sl ((⟨b7, 0, none⟩ : Addr).add 1) fun x8 =>
 nw #[(.slice r1.a r1.len r1.cap)] ty_clauses_Clause fun b9 =>
 apd ty_clauses_Clause 1 24 #[(.slice none 0 0)] ⟨x8.a, x8.len, x8.cap⟩ ⟨(some (⟨b9, 0, none⟩ : Addr)), 1, 1⟩ fun s10 =>
 st1 ((⟨b7, 0, none⟩ : Addr).add 1) (.slice s10.a s10.len s10.cap) <|
 ldA (.cons (.int .i64) (.cons .sl .nil)) (⟨b7, 0, none⟩ : Addr) fun x11 =>
 callT Tryz.prog fn_salvorlaw05_collected #[(.agg #[(.int .i64 x11.1), (.slice x11.2.1.a x11.2.1.len x11.2.1.cap)])] (.tup (.cons .sl (.cons .bool .nil))) fun r12 =>
 brB (!r4.2.1)
 (K false)
 (brB (!r12.2.1)
 (K false)
 (lfp (σ := (Int × (Int × (Bool × Unit)))) (fun X13 s14 => /-  k  -/
 brB (decide (s14.1 < (r4.1.len : Int)))
 (sx r4.1.a r4.1.len s14.1 1 fun p15 =>
 ldT .sl p15 fun x16 =>
 callT Tryz.prog fn_formula_Holds #[(.slice r1.a r1.len r1.cap), (.slice x16.a x16.len x16.cap)] .bool fun r17 =>
 jn (σ := (Int × (Bool × Unit))) (fun s19 => /- k  -/
 X13 ((IntKind.wrap .i64 (s14.1 + (1 : Int))), s19.1, s19.2.1, ()))
 (fun J18 =>
 brB r17
 (brB (decide (s14.2.1 ≥ (r12.1.len : Int)))
 (K false)
 (sx r12.1.a r12.1.len s14.2.1 1 fun p20 =>
 ldT .sl p20 fun x21 =>
 callT Tryz.prog fn_slices_Equal_bool_bool #[(.slice x21.a x21.len x21.cap), (.slice x16.a x16.len x16.cap)] .bool fun r22 =>
 brB (!r22)
 (K false)
 (J18 ((IntKind.wrap .i64 (s14.2.1 + (1 : Int))), s14.2.2.1, ()))))
 (J18 (s14.2.1, s14.2.2.1, ()))))
 (brB (s14.2.1 != (r12.1.len : Int))
 (K false)
 (ldT .sl ((⟨b2, 0, none⟩ : Addr).add 1) fun x23 =>
 lfp (σ := (Int × (Bool × Unit))) (fun X24 s25 => /-   -/
 brB (decide (s25.1 < (x23.len : Int)))
 (sx x23.a x23.len s25.1 1 fun p26 =>
 ldT .sl p26 fun x27 =>
 ldT .sl ((⟨b2, 0, none⟩ : Addr).add 1) fun x28 =>
 slH ⟨x28.a, x28.len, x28.cap⟩ s25.1 1 fun s29 =>
 lfp (σ := (Int × (Bool × Unit))) (fun X30 s31 => /-   -/
 brB (decide (s31.1 < (s29.len : Int)))
 (jn (σ := (Bool × Unit)) (fun s33 => /-  -/
 X30 ((IntKind.wrap .i64 (s31.1 + (1 : Int))), s33.1, ()))
 (fun J32 =>
 sx s29.a s29.len s31.1 1 fun p34 =>
 ldT .sl p34 fun x35 =>
 callT Tryz.prog fn_clauses_Clashes #[(.slice x27.a x27.len x27.cap), (.slice x35.a x35.len x35.cap)] (.tup (.cons .sl (.cons (.int .i64) .nil))) fun r36 =>
 brB (r36.2.1 != (0 : Int))
 (K false)
 (brB ((r36.1.len : Int) == (0 : Int))
 (J32 (s31.2.1, ()))
 (nz (r36.1.len : Int) <|
 sx r36.1.a r36.1.len (Int.tmod (IntKind.wrap .i64 a2) (r36.1.len : Int)) 1 fun p37 =>
 ldT (.int .i64) p37 fun x38 =>
 callT Tryz.prog fn_clauses_Resolve #[(.slice x27.a x27.len x27.cap), (.slice x35.a x35.len x35.cap), (.int .i64 x38)] (.tup (.cons .sl (.cons (.int .i64) .nil))) fun r39 =>
 nw #[(.slice none 0 0)] ty_clauses_Clause fun b40 =>
 st1 (⟨b40, 0, none⟩ : Addr) (.slice r39.1.a r39.1.len r39.1.cap) <|
 brB (r39.2.1 != (0 : Int))
 (K false)
 (callT Tryz.prog fn_slices_ContainsFunc_bool_bool #[(.slice r4.1.a r4.1.len r4.1.cap), (.func (.func fn_salvorlaw05_FormulaMore_1) #[] #[(.pointer (some (⟨b40, 0, none⟩ : Addr)))])] .bool fun r41 =>
 brB r41
 (K false)
 (J32 (s31.2.1, ())))))))
 (X24 ((IntKind.wrap .i64 (s25.1 + (1 : Int))), s31.2.1, ())))
 ((0 : Int), s25.2.1, ()))
 (callT Tryz.prog fn_salvorlaw05_awake #[] .bool fun r42 =>
 K r42))
 ((0 : Int), s14.2.2.1, ()))))
 ((0 : Int), (0 : Int), false, ())))
set_option maxRecDepth 100000 in
theorem E_salvorlaw05_FormulaMore (a0 : Sl) (a1 : Sl) (a2 : Int) (K : Bool → HP) (h : Heap) : fnVC Tryz.prog [(1000000, .nil)] 135 Tryz.f8 [(.slice a0.a a0.len a0.cap), (.slice a1.a a1.len a1.cap), (.int .u8 a2)] .bool K h = F_salvorlaw05_FormulaMore a0 a1 a2 K h := by kernel_rfl
set_option maxRecDepth 100000 in
theorem S_salvorlaw05_FormulaMore{h : Heap} {a0 : Sl} {a1 : Sl} {a2 : Int} (K : Bool → HP) (hF : F_salvorlaw05_FormulaMore a0 a1 a2 K h) : CallsH Tryz.prog fn_salvorlaw05_FormulaMore #[(.slice a0.a a0.len a0.cap), (.slice a1.a a1.len a1.cap), (.int .u8 a2)] h fun v h' => ∃ x : Bool, v = Ty.enc .bool x ∧ K x h' :=
  callsH_of_fn (P := Tryz.prog) (fn := Tryz.f8) (τ := .bool) follows Tryz.func8 (by kernel_rfl) (by kernel_rfl) Tryz.call8 (Eq.mpr (E_salvorlaw05_FormulaMore a0 a1 a2 K h) hF)


end Go.Proofs.S
