/- The functions of the seat, each as a predicate over its values, printed by a program of ours, and that each is its text's. -/
import Derived.Test.YtmlamkoilggonaaGreatSx10
import Derived.KernelRfl
import Derived.Test.YtmlamkoilggonaaGreatProg
import Derived.Test.YtmlamkoilggonaaGreatClF0
set_option linter.unusedVariables false
namespace Go.Proofs.S
open Go Go.Sx Go.Proofs
/-- salvor/salvorlaw05.FormulaTells -/
def F_salvorlaw05_FormulaTells (a0 : (Int × (Sl × Unit))) (a1 : Sl) (a2 : Int) (K : Bool → HP) : HP :=
 nw #[(.int .i64 a0.1), (.slice a0.2.1.a a0.2.1.len a0.2.1.cap)] ty_formula_Formula fun b0 =>
 ldA (.cons (.int .i64) (.cons .sl .nil)) (⟨b0, 0, none⟩ : Addr) fun x1 =>
 callT Tryz.prog fn_salvorlaw05_few #[(.agg #[(.int .i64 x1.1), (.slice x1.2.1.a x1.2.1.len x1.2.1.cap)])] .bool fun r2 =>
 jn (σ := Bool) (fun t4 =>
 jn (σ := Bool) (fun t6 =>
 jn (σ := Bool) (fun t8 =>
 K t8)
 (fun J7 =>
 brB t6
 (callT Tryz.prog fn_salvorlaw05_awake #[] .bool fun r9 =>
 J7 (r9))
 (J7 false)))
 (fun J5 =>
 brB t4
 (J5 true)
 (ldA (.cons (.int .i64) (.cons .sl .nil)) (⟨b0, 0, none⟩ : Addr) fun x10 =>
 callT Tryz.prog fn_salvorlaw05_tells #[(.agg #[(.int .i64 x10.1), (.slice x10.2.1.a x10.2.1.len x10.2.1.cap)]), (.slice a1.a a1.len a1.cap), (.int .i64 a2)] .bool fun r11 =>
 J5 (r11))))
 (fun J3 =>
 brB (!r2)
 (J3 true)
 (J3 ((decide ((a1.len : Int) > (300 : Int))))))
set_option maxRecDepth 100000 in
theorem E_salvorlaw05_FormulaTells (a0 : (Int × (Sl × Unit))) (a1 : Sl) (a2 : Int) (K : Bool → HP) (h : Heap) : fnVC Tryz.prog [(1000000, .bool)] 24 Tryz.f3 [(.agg #[(.int .i64 a0.1), (.slice a0.2.1.a a0.2.1.len a0.2.1.cap)]), (.slice a1.a a1.len a1.cap), (.int .i64 a2)] .bool K h = F_salvorlaw05_FormulaTells a0 a1 a2 K h := by kernel_rfl
set_option maxRecDepth 100000 in
theorem S_salvorlaw05_FormulaTells{h : Heap} {a0 : (Int × (Sl × Unit))} {a1 : Sl} {a2 : Int} (K : Bool → HP) (hF : F_salvorlaw05_FormulaTells a0 a1 a2 K h) : CallsH Tryz.prog fn_salvorlaw05_FormulaTells #[(.agg #[(.int .i64 a0.1), (.slice a0.2.1.a a0.2.1.len a0.2.1.cap)]), (.slice a1.a a1.len a1.cap), (.int .i64 a2)] h fun v h' => ∃ x : Bool, v = Ty.enc .bool x ∧ K x h' :=
  callsH_of_fn (P := Tryz.prog) (fn := Tryz.f3) (τ := .bool) follows Tryz.func3 (by kernel_rfl) (by kernel_rfl) Tryz.call3 (Eq.mpr (E_salvorlaw05_FormulaTells a0 a1 a2 K h) hF)


/-- salvor/salvorlaw05.FormulaNorm -/
def F_salvorlaw05_FormulaNorm (a0 : Sl) (a1 : Int) (K : Bool → HP) : HP :=
 callT Tryz.prog fn_salvorlaw05_Made #[(.slice a0.a a0.len a0.cap)] (.agg (.cons (.int .i64) (.cons .sl .nil))) fun r0 =>
 nw #[(.int .i64 (0 : Int)), (.slice none 0 0)] ty_formula_Formula fun b1 =>
 st1 (⟨b1, 0, none⟩ : Addr) (.int .i64 r0.1) <|
 st1 ((⟨b1, 0, none⟩ : Addr).add 1) (.slice r0.2.1.a r0.2.1.len r0.2.1.cap) <|
 ldA (.cons (.int .i64) (.cons .sl .nil)) (⟨b1, 0, none⟩ : Addr) fun x2 =>
 callT Tryz.prog fn_formula_Norm #[(.agg #[(.int .i64 x2.1), (.slice x2.2.1.a x2.2.1.len x2.2.1.cap)])] (.tup (.cons (.agg (.cons (.int .i64) (.cons .sl .nil))) (.cons (.int .i64) .nil))) fun r3 =>
 nw #[(.int .i64 (0 : Int)), (.slice none 0 0)] ty_formula_Formula fun b4 =>
 st1 (⟨b4, 0, none⟩ : Addr) (.int .i64 r3.1.1) <|
 st1 ((⟨b4, 0, none⟩ : Addr).add 1) (.slice r3.1.2.1.a r3.1.2.1.len r3.1.2.1.cap) <|
 ldA (.cons (.int .i64) (.cons .sl .nil)) (⟨b4, 0, none⟩ : Addr) fun x5 =>
 callT Tryz.prog fn_formula_Norm #[(.agg #[(.int .i64 x5.1), (.slice x5.2.1.a x5.2.1.len x5.2.1.cap)])] (.tup (.cons (.agg (.cons (.int .i64) (.cons .sl .nil))) (.cons (.int .i64) .nil))) fun r6 =>
 nw #[(.int .i64 (0 : Int)), (.slice none 0 0)] ty_formula_Formula fun b7 =>
 st1 (⟨b7, 0, none⟩ : Addr) (.int .i64 r6.1.1) <|
 st1 ((⟨b7, 0, none⟩ : Addr).add 1) (.slice r6.1.2.1.a r6.1.2.1.len r6.1.2.1.cap) <|
 ldA (.cons (.int .i64) (.cons .sl .nil)) (⟨b1, 0, none⟩ : Addr) fun x8 =>
 callT Tryz.prog fn_salvorlaw05_collected #[(.agg #[(.int .i64 x8.1), (.slice x8.2.1.a x8.2.1.len x8.2.1.cap)])] (.tup (.cons .sl (.cons .bool .nil))) fun r9 =>
 ldA (.cons (.int .i64) (.cons .sl .nil)) (⟨b4, 0, none⟩ : Addr) fun x10 =>
 callT Tryz.prog fn_salvorlaw05_collected #[(.agg #[(.int .i64 x10.1), (.slice x10.2.1.a x10.2.1.len x10.2.1.cap)])] (.tup (.cons .sl (.cons .bool .nil))) fun r11 =>
 brB ((IntKind.wrap .i64 (r3.2.1 + r6.2.1)) != (0 : Int))
 (K false)
 (brB (!r9.2.1)
 (K false)
 (brB (!r11.2.1)
 (K false)
 (ldA (.cons (.int .i64) (.cons .sl .nil)) (⟨b4, 0, none⟩ : Addr) fun x12 =>
 ldA (.cons (.int .i64) (.cons .sl .nil)) (⟨b7, 0, none⟩ : Addr) fun x13 =>
 callT Tryz.prog fn_formula_Same #[(.agg #[(.int .i64 x12.1), (.slice x12.2.1.a x12.2.1.len x12.2.1.cap)]), (.agg #[(.int .i64 x13.1), (.slice x13.2.1.a x13.2.1.len x13.2.1.cap)])] .bool fun r14 =>
 brB (!r14)
 (K false)
 (callT Tryz.prog fn_slices_EqualFunc_bool_bool_bool_bool #[(.slice r9.1.a r9.1.len r9.1.cap), (.slice r11.1.a r11.1.len r11.1.cap), (.func (.func fn_salvorlaw05_FormulaNorm_1) #[] #[])] .bool fun r15 =>
 brB (!r15)
 (K false)
 (ldT .sl ((⟨b4, 0, none⟩ : Addr).add 1) fun x16 =>
 lfp (σ := (Int × (Bool × Unit))) (fun X17 s18 => /-   -/
 brB (decide (s18.1 < (x16.len : Int)))
 (sx x16.a x16.len s18.1 1 fun p19 =>
 ldT .sl p19 fun x20 =>
 nw #[(.slice none 0 0)] ty_clauses_Clause fun b21 =>
 st1 (⟨b21, 0, none⟩ : Addr) (.slice x20.a x20.len x20.cap) <|
 ldT .sl (⟨b21, 0, none⟩ : Addr) fun x22 =>
 callT Tryz.prog fn_clauses_Normal #[(.slice x22.a x22.len x22.cap)] .bool fun r23 =>
 brB (!r23)
 (K false)
 (ldT .sl (⟨b21, 0, none⟩ : Addr) fun x24 =>
 callT Tryz.prog fn_clauses_Always #[(.slice x24.a x24.len x24.cap)] .bool fun r25 =>
 brB r25
 (K false)
 (brB (decide (s18.1 > (0 : Int)))
 (ldT .sl ((⟨b4, 0, none⟩ : Addr).add 1) fun x26 =>
 sx x26.a x26.len (IntKind.wrap .i64 (s18.1 - (1 : Int))) 1 fun p27 =>
 ldT .sl p27 fun x28 =>
 ldT .sl (⟨b21, 0, none⟩ : Addr) fun x29 =>
 callT Tryz.prog fn_clauses_Compare #[(.slice x28.a x28.len x28.cap), (.slice x29.a x29.len x29.cap)] (.int .i64) fun r30 =>
 brB (decide (r30 ≥ (0 : Int)))
 (K false)
 (ldT .sl ((⟨b1, 0, none⟩ : Addr).add 1) fun x31 =>
 callT Tryz.prog fn_slices_ContainsFunc_clauses_Clause_clauses_Clause #[(.slice x31.a x31.len x31.cap), (.func (.func fn_salvorlaw05_FormulaNorm_2) #[] #[(.pointer (some (⟨b21, 0, none⟩ : Addr)))])] .bool fun r32 =>
 brB (!r32)
 (K false)
 (X17 ((IntKind.wrap .i64 (s18.1 + (1 : Int))), s18.2.1, ()))))
 (ldT .sl ((⟨b1, 0, none⟩ : Addr).add 1) fun x33 =>
 callT Tryz.prog fn_slices_ContainsFunc_clauses_Clause_clauses_Clause #[(.slice x33.a x33.len x33.cap), (.func (.func fn_salvorlaw05_FormulaNorm_2) #[] #[(.pointer (some (⟨b21, 0, none⟩ : Addr)))])] .bool fun r34 =>
 brB (!r34)
 (K false)
 (X17 ((IntKind.wrap .i64 (s18.1 + (1 : Int))), s18.2.1, ()))))))
 (ldT .sl ((⟨b1, 0, none⟩ : Addr).add 1) fun x35 =>
 jn (σ := (Int × Unit)) (fun s37 => /- at -/
 ldT .sl ((⟨b1, 0, none⟩ : Addr).add 1) fun x38 =>
 slL ⟨x38.a, x38.len, x38.cap⟩ s37.1 1 fun s39 =>
 ldT .sl ((⟨b1, 0, none⟩ : Addr).add 1) fun x40 =>
 slH ⟨x40.a, x40.len, x40.cap⟩ s37.1 1 fun s41 =>
 ldT .sl ((⟨b1, 0, none⟩ : Addr).add 1) fun x42 =>
 slH ⟨x42.a, x42.len, x42.cap⟩ s37.1 1 fun s43 =>
 nw #[(.slice s39.a s39.len s39.cap), (.slice s41.a s41.len s41.cap), (.slice s43.a s43.len s43.cap)] ty_sl_clauses_Clause fun b44 =>
 callT Tryz.prog fn_slices_Concat_clauses_Clause_clauses_Clause #[(.slice (some (⟨b44, 0, none⟩ : Addr)) 3 3)] .sl fun r45 =>
 st1 ((⟨b1, 0, none⟩ : Addr).add 1) (.slice r45.a r45.len r45.cap) <|
 ldA (.cons (.int .i64) (.cons .sl .nil)) (⟨b1, 0, none⟩ : Addr) fun x46 =>
 callT Tryz.prog fn_formula_Norm #[(.agg #[(.int .i64 x46.1), (.slice x46.2.1.a x46.2.1.len x46.2.1.cap)])] (.tup (.cons (.agg (.cons (.int .i64) (.cons .sl .nil))) (.cons (.int .i64) .nil))) fun r47 =>
 nw #[(.int .i64 (0 : Int)), (.slice none 0 0)] ty_formula_Formula fun b48 =>
 st1 (⟨b48, 0, none⟩ : Addr) (.int .i64 r47.1.1) <|
 st1 ((⟨b48, 0, none⟩ : Addr).add 1) (.slice r47.1.2.1.a r47.1.2.1.len r47.1.2.1.cap) <|
 brB (r47.2.1 == (0 : Int))
 (ldA (.cons (.int .i64) (.cons .sl .nil)) (⟨b48, 0, none⟩ : Addr) fun x49 =>
 ldA (.cons (.int .i64) (.cons .sl .nil)) (⟨b4, 0, none⟩ : Addr) fun x50 =>
 callT Tryz.prog fn_formula_Same #[(.agg #[(.int .i64 x49.1), (.slice x49.2.1.a x49.2.1.len x49.2.1.cap)]), (.agg #[(.int .i64 x50.1), (.slice x50.2.1.a x50.2.1.len x50.2.1.cap)])] .bool fun r51 =>
 brB r51
 (callT Tryz.prog fn_salvorlaw05_awake #[] .bool fun r52 =>
 K r52)
 (K false))
 (K false))
 (fun J36 =>
 brB (decide ((x35.len : Int) > (0 : Int)))
 (ldT .sl ((⟨b1, 0, none⟩ : Addr).add 1) fun x53 =>
 nz (x53.len : Int) <|
 J36 ((Int.tmod (IntKind.wrap .i64 a1) (x53.len : Int)), ()))
 (J36 ((0 : Int), ())))))
 ((0 : Int), false, ()))))))
set_option maxRecDepth 100000 in
theorem E_salvorlaw05_FormulaNorm (a0 : Sl) (a1 : Int) (K : Bool → HP) (h : Heap) : fnVC Tryz.prog [(1000000, .nil)] 143 Tryz.f5 [(.slice a0.a a0.len a0.cap), (.int .u8 a1)] .bool K h = F_salvorlaw05_FormulaNorm a0 a1 K h := by kernel_rfl
set_option maxRecDepth 100000 in
theorem S_salvorlaw05_FormulaNorm{h : Heap} {a0 : Sl} {a1 : Int} (K : Bool → HP) (hF : F_salvorlaw05_FormulaNorm a0 a1 K h) : CallsH Tryz.prog fn_salvorlaw05_FormulaNorm #[(.slice a0.a a0.len a0.cap), (.int .u8 a1)] h fun v h' => ∃ x : Bool, v = Ty.enc .bool x ∧ K x h' :=
  callsH_of_fn (P := Tryz.prog) (fn := Tryz.f5) (τ := .bool) follows Tryz.func5 (by kernel_rfl) (by kernel_rfl) Tryz.call5 (Eq.mpr (E_salvorlaw05_FormulaNorm a0 a1 K h) hF)


/-- salvor/salvorlaw05.FormulaMore -/
def F_salvorlaw05_FormulaMore (a0 : Sl) (a1 : Sl) (a2 : Int) (K : Bool → HP) : HP :=
 callT Tryz.prog fn_salvorlaw05_Made #[(.slice a0.a a0.len a0.cap)] (.agg (.cons (.int .i64) (.cons .sl .nil))) fun r0 =>
 callT Tryz.prog fn_salvorlaw02_Made #[(.slice a1.a a1.len a1.cap)] .sl fun r1 =>
 nw #[(.int .i64 (0 : Int)), (.slice none 0 0)] ty_formula_Formula fun b2 =>
 st1 (⟨b2, 0, none⟩ : Addr) (.int .i64 r0.1) <|
 st1 ((⟨b2, 0, none⟩ : Addr).add 1) (.slice r0.2.1.a r0.2.1.len r0.2.1.cap) <|
 ldA (.cons (.int .i64) (.cons .sl .nil)) (⟨b2, 0, none⟩ : Addr) fun x3 =>
 callT Tryz.prog fn_salvorlaw05_collected #[(.agg #[(.int .i64 x3.1), (.slice x3.2.1.a x3.2.1.len x3.2.1.cap)])] (.tup (.cons .sl (.cons .bool .nil))) fun r4 =>
 ldA (.cons (.int .i64) (.cons .sl .nil)) (⟨b2, 0, none⟩ : Addr) fun x5 =>
 callT Tryz.prog fn_formula_Copy #[(.agg #[(.int .i64 x5.1), (.slice x5.2.1.a x5.2.1.len x5.2.1.cap)])] (.agg (.cons (.int .i64) (.cons .sl .nil))) fun r6 =>
 nw #[(.int .i64 (0 : Int)), (.slice none 0 0)] ty_formula_Formula fun b7 =>
 st1 (⟨b7, 0, none⟩ : Addr) (.int .i64 r6.1) <|
 st1 ((⟨b7, 0, none⟩ : Addr).add 1) (.slice r6.2.1.a r6.2.1.len r6.2.1.cap) <|
 ldT .sl ((⟨b7, 0, none⟩ : Addr).add 1) fun x8 =>
 nw #[(.slice r1.a r1.len r1.cap)] ty_clauses_Clause fun b9 =>
 apd ty_clauses_Clause 1 24 #[(.slice none 0 0)] ⟨x8.a, x8.len, x8.cap⟩ ⟨(some (⟨b9, 0, none⟩ : Addr)), 1, 1⟩ fun s10 =>
 st1 ((⟨b7, 0, none⟩ : Addr).add 1) (.slice s10.a s10.len s10.cap) <|
 ldA (.cons (.int .i64) (.cons .sl .nil)) (⟨b7, 0, none⟩ : Addr) fun x11 =>
 callT Tryz.prog fn_salvorlaw05_collected #[(.agg #[(.int .i64 x11.1), (.slice x11.2.1.a x11.2.1.len x11.2.1.cap)])] (.tup (.cons .sl (.cons .bool .nil))) fun r12 =>
 brB (!r4.2.1)
 (K false)
 (brB (!r12.2.1)
 (K false)
 (lfp (σ := (Int × (Int × (Bool × Unit)))) (fun X13 s14 => /-  k  -/
 brB (decide (s14.1 < (r4.1.len : Int)))
 (sx r4.1.a r4.1.len s14.1 1 fun p15 =>
 ldT .sl p15 fun x16 =>
 callT Tryz.prog fn_formula_Holds #[(.slice r1.a r1.len r1.cap), (.slice x16.a x16.len x16.cap)] .bool fun r17 =>
 jn (σ := (Int × (Bool × Unit))) (fun s19 => /- k  -/
 X13 ((IntKind.wrap .i64 (s14.1 + (1 : Int))), s19.1, s19.2.1, ()))
 (fun J18 =>
 brB r17
 (brB (decide (s14.2.1 ≥ (r12.1.len : Int)))
 (K false)
 (sx r12.1.a r12.1.len s14.2.1 1 fun p20 =>
 ldT .sl p20 fun x21 =>
 callT Tryz.prog fn_slices_Equal_bool_bool #[(.slice x21.a x21.len x21.cap), (.slice x16.a x16.len x16.cap)] .bool fun r22 =>
 brB (!r22)
 (K false)
 (J18 ((IntKind.wrap .i64 (s14.2.1 + (1 : Int))), s14.2.2.1, ()))))
 (J18 (s14.2.1, s14.2.2.1, ()))))
 (brB (s14.2.1 != (r12.1.len : Int))
 (K false)
 (ldT .sl ((⟨b2, 0, none⟩ : Addr).add 1) fun x23 =>
 lfp (σ := (Int × (Bool × Unit))) (fun X24 s25 => /-   -/
 brB (decide (s25.1 < (x23.len : Int)))
 (sx x23.a x23.len s25.1 1 fun p26 =>
 ldT .sl p26 fun x27 =>
 ldT .sl ((⟨b2, 0, none⟩ : Addr).add 1) fun x28 =>
 slH ⟨x28.a, x28.len, x28.cap⟩ s25.1 1 fun s29 =>
 lfp (σ := (Int × (Bool × Unit))) (fun X30 s31 => /-   -/
 brB (decide (s31.1 < (s29.len : Int)))
 (jn (σ := (Bool × Unit)) (fun s33 => /-  -/
 X30 ((IntKind.wrap .i64 (s31.1 + (1 : Int))), s33.1, ()))
 (fun J32 =>
 sx s29.a s29.len s31.1 1 fun p34 =>
 ldT .sl p34 fun x35 =>
 callT Tryz.prog fn_clauses_Clashes #[(.slice x27.a x27.len x27.cap), (.slice x35.a x35.len x35.cap)] (.tup (.cons .sl (.cons (.int .i64) .nil))) fun r36 =>
 brB (r36.2.1 != (0 : Int))
 (K false)
 (brB ((r36.1.len : Int) == (0 : Int))
 (J32 (s31.2.1, ()))
 (nz (r36.1.len : Int) <|
 sx r36.1.a r36.1.len (Int.tmod (IntKind.wrap .i64 a2) (r36.1.len : Int)) 1 fun p37 =>
 ldT (.int .i64) p37 fun x38 =>
 callT Tryz.prog fn_clauses_Resolve #[(.slice x27.a x27.len x27.cap), (.slice x35.a x35.len x35.cap), (.int .i64 x38)] (.tup (.cons .sl (.cons (.int .i64) .nil))) fun r39 =>
 nw #[(.slice none 0 0)] ty_clauses_Clause fun b40 =>
 st1 (⟨b40, 0, none⟩ : Addr) (.slice r39.1.a r39.1.len r39.1.cap) <|
 brB (r39.2.1 != (0 : Int))
 (K false)
 (callT Tryz.prog fn_slices_ContainsFunc_bool_bool #[(.slice r4.1.a r4.1.len r4.1.cap), (.func (.func fn_salvorlaw05_FormulaMore_1) #[] #[(.pointer (some (⟨b40, 0, none⟩ : Addr)))])] .bool fun r41 =>
 brB r41
 (K false)
 (J32 (s31.2.1, ())))))))
 (X24 ((IntKind.wrap .i64 (s25.1 + (1 : Int))), s31.2.1, ())))
 ((0 : Int), s25.2.1, ()))
 (callT Tryz.prog fn_salvorlaw05_awake #[] .bool fun r42 =>
 K r42))
 ((0 : Int), s14.2.2.1, ()))))
 ((0 : Int), (0 : Int), false, ())))
set_option maxRecDepth 100000 in
theorem E_salvorlaw05_FormulaMore (a0 : Sl) (a1 : Sl) (a2 : Int) (K : Bool → HP) (h : Heap) : fnVC Tryz.prog [(1000000, .nil)] 135 Tryz.f8 [(.slice a0.a a0.len a0.cap), (.slice a1.a a1.len a1.cap), (.int .u8 a2)] .bool K h = F_salvorlaw05_FormulaMore a0 a1 a2 K h := by kernel_rfl
set_option maxRecDepth 100000 in
theorem S_salvorlaw05_FormulaMore{h : Heap} {a0 : Sl} {a1 : Sl} {a2 : Int} (K : Bool → HP) (hF : F_salvorlaw05_FormulaMore a0 a1 a2 K h) : CallsH Tryz.prog fn_salvorlaw05_FormulaMore #[(.slice a0.a a0.len a0.cap), (.slice a1.a a1.len a1.cap), (.int .u8 a2)] h fun v h' => ∃ x : Bool, v = Ty.enc .bool x ∧ K x h' :=
  callsH_of_fn (P := Tryz.prog) (fn := Tryz.f8) (τ := .bool) follows Tryz.func8 (by kernel_rfl) (by kernel_rfl) Tryz.call8 (Eq.mpr (E_salvorlaw05_FormulaMore a0 a1 a2 K h) hF)


end Go.Proofs.S
