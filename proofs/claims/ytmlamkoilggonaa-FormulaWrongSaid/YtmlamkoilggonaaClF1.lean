/- The functions of the seat, each as a predicate over its values, printed by a program of ours, and that each is its text's. -/
import Derived.Test.YtmlamkoilggonaaSxH
import Derived.KernelRfl
import Derived.Test.YtmlamkoilggonaaProg
import Derived.Test.YtmlamkoilggonaaClF0
set_option linter.unusedVariables false
namespace Go.Proofs.S
open Go Go.Sx Go.Proofs
/-- salvor/salvorlaw05.FormulaBack -/
def F_salvorlaw05_FormulaBack (a0 : Sl) (a1 : Int) (K : Bool → HP) : HP :=
 brB (decide ((a0.len : Int) > (300 : Int)))
 (callT Try.prog fn_salvorlaw05_awake #[] .bool fun r0 =>
 K r0)
 (callT Try.prog fn_formula_Lits #[(.slice a0.a a0.len a0.cap)] .sl fun r1 =>
 callT Try.prog fn_formula_Model #[(.int .i64 (a0.len : Int)), (.slice r1.a r1.len r1.cap)] (.tup (.cons .sl (.cons (.int .i64) .nil))) fun r2 =>
 callT Try.prog fn_formula_Model #[(.int .i64 (IntKind.wrap .i64 ((a0.len : Int) + (IntKind.wrap .i64 a1)))), (.slice r1.a r1.len r1.cap)] (.tup (.cons .sl (.cons (.int .i64) .nil))) fun r3 =>
 brB ((IntKind.wrap .i64 (r2.2.1 + r3.2.1)) != (0 : Int))
 (K false)
 (callT Try.prog fn_slices_Equal_bool_bool #[(.slice r2.1.a r2.1.len r2.1.cap), (.slice a0.a a0.len a0.cap)] .bool fun r4 =>
 brB (!r4)
 (K false)
 (brB ((r3.1.len : Int) != (IntKind.wrap .i64 ((a0.len : Int) + (IntKind.wrap .i64 a1))))
 (K false)
 (slH ⟨r3.1.a, r3.1.len, r3.1.cap⟩ (a0.len : Int) 1 fun s5 =>
 callT Try.prog fn_slices_Equal_bool_bool #[(.slice s5.a s5.len s5.cap), (.slice a0.a a0.len a0.cap)] .bool fun r6 =>
 brB (!r6)
 (K false)
 (slL ⟨r3.1.a, r3.1.len, r3.1.cap⟩ (a0.len : Int) 1 fun s7 =>
 callT Try.prog fn_slices_Contains_bool_bool #[(.slice s7.a s7.len s7.cap), (.bool true)] .bool fun r8 =>
 brB r8
 (K false)
 (brB ((r1.len : Int) != (a0.len : Int))
 (K false)
 (lfp (σ := (Int × (Bool × Unit))) (fun X9 s10 => /-   -/
 brB (decide (s10.1 < (r1.len : Int)))
 (sx r1.a r1.len s10.1 1 fun p11 =>
 ldT (.int .i64) p11 fun x12 =>
 callT Try.prog fn_lits_Var #[(.int .i64 x12)] (.int .i64) fun r13 =>
 brB (r13 != (IntKind.wrap .i64 (s10.1 + (1 : Int))))
 (K false)
 (sx a0.a a0.len s10.1 1 fun p14 =>
 ldT .bool p14 fun x15 =>
 callT Try.prog fn_lits_Negated #[(.int .i64 x12)] .bool fun r16 =>
 ck p14 (.bool x15) <|
 brB (r16 == x15)
 (K false)
 (nw #[(.int .i64 x12)] ty_lits_Lit fun b17 =>
 callT Try.prog fn_formula_Holds #[(.slice (some (⟨b17, 0, none⟩ : Addr)) 1 1), (.slice a0.a a0.len a0.cap)] .bool fun r18 =>
 brB (!r18)
 (K false)
 (nw #[(.int .i64 (IntKind.wrap .i64 (0 - x12)))] ty_lits_Lit fun b19 =>
 callT Try.prog fn_formula_Holds #[(.slice (some (⟨b19, 0, none⟩ : Addr)) 1 1), (.slice a0.a a0.len a0.cap)] .bool fun r20 =>
 brB r20
 (K false)
 (X9 ((IntKind.wrap .i64 (s10.1 + (1 : Int))), s10.2.1, ()))))))
 (brB ((r1.len : Int) == (0 : Int))
 (callT Try.prog fn_salvorlaw05_awake #[] .bool fun r21 =>
 K r21)
 (sx r1.a r1.len (0 : Int) 1 fun p22 =>
 ldT (.int .i64) p22 fun x23 =>
 nw #[(.int .i64 (IntKind.wrap .i64 (0 - x23)))] ty_lits_Lit fun b24 =>
 apd ty_lits_Lit 1 8 #[(.int .i64 (0 : Int))] ⟨r1.a, r1.len, r1.cap⟩ ⟨(some (⟨b24, 0, none⟩ : Addr)), 1, 1⟩ fun s25 =>
 callT Try.prog fn_formula_Model #[(.int .i64 (a0.len : Int)), (.slice s25.a s25.len s25.cap)] (.tup (.cons .sl (.cons (.int .i64) .nil))) fun r26 =>
 brB (r26.2.1 == (52 : Int))
 (callT Try.prog fn_salvorlaw05_awake #[] .bool fun r27 =>
 K r27)
 (K false))))
 ((0 : Int), false, ()))))))))
set_option maxRecDepth 100000 in
theorem E_salvorlaw05_FormulaBack (a0 : Sl) (a1 : Int) (K : Bool → HP) (h : Heap) : fnVC Try.prog [(1000000, .nil)] 138 Try.f3 [(.slice a0.a a0.len a0.cap), (.int .u8 a1)] .bool K h = F_salvorlaw05_FormulaBack a0 a1 K h := by kernel_rfl
set_option maxRecDepth 100000 in
theorem S_salvorlaw05_FormulaBack{h : Heap} {a0 : Sl} {a1 : Int} (K : Bool → HP) (hF : F_salvorlaw05_FormulaBack a0 a1 K h) : CallsH Try.prog fn_salvorlaw05_FormulaBack #[(.slice a0.a a0.len a0.cap), (.int .u8 a1)] h fun v h' => ∃ x : Bool, v = Ty.enc .bool x ∧ K x h' :=
  callsH_of_fn (P := Try.prog) (fn := Try.f3) (τ := .bool) follows Try.func3 (by kernel_rfl) (by kernel_rfl) Try.call3 (Eq.mpr (E_salvorlaw05_FormulaBack a0 a1 K h) hF)


/-- salvor/salvorlaw05.FormulaWrong -/
def F_salvorlaw05_FormulaWrong (a0 : Sl) (a1 : Int) (a2 : Int) (K : Bool → HP) : HP :=
 callT Try.prog fn_salvorlaw05_Made #[(.slice a0.a a0.len a0.cap)] (.agg (.cons (.int .i64) (.cons .sl .nil))) fun r0 =>
 nw #[(.int .i64 (0 : Int)), (.slice none 0 0)] ty_formula_Formula fun b1 =>
 st1 (⟨b1, 0, none⟩ : Addr) (.int .i64 r0.1) <|
 st1 ((⟨b1, 0, none⟩ : Addr).add 1) (.slice r0.2.1.a r0.2.1.len r0.2.1.cap) <|
 ldT .sl ((⟨b1, 0, none⟩ : Addr).add 1) fun x2 =>
 nz (IntKind.wrap .i64 ((x2.len : Int) + (1 : Int))) <|
 nw #[(.int .i64 (1 : Int)), (.int .i64 (0 : Int))] ty_lits_Lit fun b3 =>
 nw #[(.int .i64 (-2 : Int)), (.int .i64 (if (9 : Int) > a2 then (9 : Int) else a2))] ty_lits_Lit fun b4 =>
 nw #[(.int .i64 (if (-9 : Int) < a2 then (-9 : Int) else a2))] ty_lits_Lit fun b5 =>
 nw #[(.slice (some (⟨b3, 0, none⟩ : Addr)) 2 2), (.slice (some (⟨b4, 0, none⟩ : Addr)) 2 2), (.slice (some (⟨b5, 0, none⟩ : Addr)) 1 1)] ty_clauses_Clause fun b6 =>
 lfp (σ := (Int × (Bool × Unit))) (fun X7 s8 => /-   -/
 brB (decide (s8.1 < (3 : Int)))
 (sx (some (⟨b6, 0, none⟩ : Addr)) 3 s8.1 1 fun p9 =>
 ldT .sl p9 fun x10 =>
 ldA (.cons (.int .i64) (.cons .sl .nil)) (⟨b1, 0, none⟩ : Addr) fun x11 =>
 callT Try.prog fn_formula_Copy #[(.agg #[(.int .i64 x11.1), (.slice x11.2.1.a x11.2.1.len x11.2.1.cap)])] (.agg (.cons (.int .i64) (.cons .sl .nil))) fun r12 =>
 nw #[(.int .i64 (0 : Int)), (.slice none 0 0)] ty_formula_Formula fun b13 =>
 st1 (⟨b13, 0, none⟩ : Addr) (.int .i64 r12.1) <|
 st1 ((⟨b13, 0, none⟩ : Addr).add 1) (.slice r12.2.1.a r12.2.1.len r12.2.1.cap) <|
 ldT .sl ((⟨b13, 0, none⟩ : Addr).add 1) fun x14 =>
 nw #[(.slice x10.a x10.len x10.cap)] ty_clauses_Clause fun b15 =>
 callT Try.prog fn_slices_Insert_clauses_Clause_clauses_Clause #[(.slice x14.a x14.len x14.cap), (.int .i64 (Int.tmod (IntKind.wrap .i64 a1) (IntKind.wrap .i64 ((x2.len : Int) + (1 : Int))))), (.slice (some (⟨b15, 0, none⟩ : Addr)) 1 1)] .sl fun r16 =>
 st1 ((⟨b13, 0, none⟩ : Addr).add 1) (.slice r16.a r16.len r16.cap) <|
 brB (s8.1 == (0 : Int))
 (jn (σ := (Int × Unit)) (fun s18 => /- want -/
 ldA (.cons (.int .i64) (.cons .sl .nil)) (⟨b13, 0, none⟩ : Addr) fun x19 =>
 callT Try.prog fn_formula_Check #[(.agg #[(.int .i64 x19.1), (.slice x19.2.1.a x19.2.1.len x19.2.1.cap)])] (.tup (.cons (.int .i64) (.cons (.int .i64) .nil))) fun r20 =>
 ldA (.cons (.int .i64) (.cons .sl .nil)) (⟨b13, 0, none⟩ : Addr) fun x21 =>
 callT Try.prog fn_formula_Value #[(.agg #[(.int .i64 x21.1), (.slice x21.2.1.a x21.2.1.len x21.2.1.cap)]), (.slice none 0 0)] (.tup (.cons .bool (.cons (.int .i64) .nil))) fun r22 =>
 ldA (.cons (.int .i64) (.cons .sl .nil)) (⟨b13, 0, none⟩ : Addr) fun x23 =>
 callT Try.prog fn_formula_Norm #[(.agg #[(.int .i64 x23.1), (.slice x23.2.1.a x23.2.1.len x23.2.1.cap)])] (.tup (.cons (.agg (.cons (.int .i64) (.cons .sl .nil))) (.cons (.int .i64) .nil))) fun r24 =>
 nw #[(.int .i64 (0 : Int)), (.slice none 0 0)] ty_formula_Formula fun b25 =>
 st1 (⟨b25, 0, none⟩ : Addr) (.int .i64 r24.1.1) <|
 st1 ((⟨b25, 0, none⟩ : Addr).add 1) (.slice r24.1.2.1.a r24.1.2.1.len r24.1.2.1.cap) <|
 ldA (.cons (.int .i64) (.cons .sl .nil)) (⟨b13, 0, none⟩ : Addr) fun x26 =>
 callT Try.prog fn_formula_Assign #[(.agg #[(.int .i64 x26.1), (.slice x26.2.1.a x26.2.1.len x26.2.1.cap)]), (.int .i64 (0 : Int))] (.tup (.cons (.agg (.cons (.int .i64) (.cons .sl .nil))) (.cons (.int .i64) .nil))) fun r27 =>
 nw #[(.int .i64 (0 : Int)), (.slice none 0 0)] ty_formula_Formula fun b28 =>
 st1 (⟨b28, 0, none⟩ : Addr) (.int .i64 r27.1.1) <|
 st1 ((⟨b28, 0, none⟩ : Addr).add 1) (.slice r27.1.2.1.a r27.1.2.1.len r27.1.2.1.cap) <|
 ldA (.cons (.int .i64) (.cons .sl .nil)) (⟨b13, 0, none⟩ : Addr) fun x29 =>
 callT Try.prog fn_formula_Count #[(.agg #[(.int .i64 x29.1), (.slice x29.2.1.a x29.2.1.len x29.2.1.cap)])] (.tup (.cons (.int .i64) (.cons (.int .i64) .nil))) fun r30 =>
 brB (r20.1 != (Int.tmod (IntKind.wrap .i64 a1) (IntKind.wrap .i64 ((x2.len : Int) + (1 : Int)))))
 (K false)
 (brB (r20.2.1 != s18.1)
 (K false)
 (brB (r22.2.1 != r20.2.1)
 (K false)
 (brB (r24.2.1 != r20.2.1)
 (K false)
 (brB (r27.2.1 != r20.2.1)
 (K false)
 (brB (r30.2.1 != r20.2.1)
 (K false)
 (X7 ((IntKind.wrap .i64 (s8.1 + (1 : Int))), s8.2.1, ()))))))))
 (fun J17 =>
 J17 ((20 : Int), ())))
 (callT Try.prog fn_clauses_Right #[(.slice x10.a x10.len x10.cap)] .bool fun r31 =>
 jn (σ := (Int × Unit)) (fun s33 => /- want -/
 ldA (.cons (.int .i64) (.cons .sl .nil)) (⟨b13, 0, none⟩ : Addr) fun x34 =>
 callT Try.prog fn_formula_Check #[(.agg #[(.int .i64 x34.1), (.slice x34.2.1.a x34.2.1.len x34.2.1.cap)])] (.tup (.cons (.int .i64) (.cons (.int .i64) .nil))) fun r35 =>
 ldA (.cons (.int .i64) (.cons .sl .nil)) (⟨b13, 0, none⟩ : Addr) fun x36 =>
 callT Try.prog fn_formula_Value #[(.agg #[(.int .i64 x36.1), (.slice x36.2.1.a x36.2.1.len x36.2.1.cap)]), (.slice none 0 0)] (.tup (.cons .bool (.cons (.int .i64) .nil))) fun r37 =>
 ldA (.cons (.int .i64) (.cons .sl .nil)) (⟨b13, 0, none⟩ : Addr) fun x38 =>
 callT Try.prog fn_formula_Norm #[(.agg #[(.int .i64 x38.1), (.slice x38.2.1.a x38.2.1.len x38.2.1.cap)])] (.tup (.cons (.agg (.cons (.int .i64) (.cons .sl .nil))) (.cons (.int .i64) .nil))) fun r39 =>
 nw #[(.int .i64 (0 : Int)), (.slice none 0 0)] ty_formula_Formula fun b40 =>
 st1 (⟨b40, 0, none⟩ : Addr) (.int .i64 r39.1.1) <|
 st1 ((⟨b40, 0, none⟩ : Addr).add 1) (.slice r39.1.2.1.a r39.1.2.1.len r39.1.2.1.cap) <|
 ldA (.cons (.int .i64) (.cons .sl .nil)) (⟨b13, 0, none⟩ : Addr) fun x41 =>
 callT Try.prog fn_formula_Assign #[(.agg #[(.int .i64 x41.1), (.slice x41.2.1.a x41.2.1.len x41.2.1.cap)]), (.int .i64 (0 : Int))] (.tup (.cons (.agg (.cons (.int .i64) (.cons .sl .nil))) (.cons (.int .i64) .nil))) fun r42 =>
 nw #[(.int .i64 (0 : Int)), (.slice none 0 0)] ty_formula_Formula fun b43 =>
 st1 (⟨b43, 0, none⟩ : Addr) (.int .i64 r42.1.1) <|
 st1 ((⟨b43, 0, none⟩ : Addr).add 1) (.slice r42.1.2.1.a r42.1.2.1.len r42.1.2.1.cap) <|
 ldA (.cons (.int .i64) (.cons .sl .nil)) (⟨b13, 0, none⟩ : Addr) fun x44 =>
 callT Try.prog fn_formula_Count #[(.agg #[(.int .i64 x44.1), (.slice x44.2.1.a x44.2.1.len x44.2.1.cap)])] (.tup (.cons (.int .i64) (.cons (.int .i64) .nil))) fun r45 =>
 brB (r35.1 != (Int.tmod (IntKind.wrap .i64 a1) (IntKind.wrap .i64 ((x2.len : Int) + (1 : Int)))))
 (K false)
 (brB (r35.2.1 != s33.1)
 (K false)
 (brB (r37.2.1 != r35.2.1)
 (K false)
 (brB (r39.2.1 != r35.2.1)
 (K false)
 (brB (r42.2.1 != r35.2.1)
 (K false)
 (brB (r45.2.1 != r35.2.1)
 (K false)
 (X7 ((IntKind.wrap .i64 (s8.1 + (1 : Int))), s8.2.1, ()))))))))
 (fun J32 =>
 brB (!r31)
 (J32 ((20 : Int), ()))
 (J32 ((51 : Int), ())))))
 (ldA (.cons (.int .i64) (.cons .sl .nil)) (⟨b1, 0, none⟩ : Addr) fun x46 =>
 mks ty_bool 1 1 #[(.bool false)] (7 : Int) (7 : Int) fun s47 =>
 callT Try.prog fn_formula_Value #[(.agg #[(.int .i64 x46.1), (.slice x46.2.1.a x46.2.1.len x46.2.1.cap)]), (.slice s47.a s47.len s47.cap)] (.tup (.cons .bool (.cons (.int .i64) .nil))) fun r48 =>
 ldA (.cons (.int .i64) (.cons .sl .nil)) (⟨b1, 0, none⟩ : Addr) fun x49 =>
 mks ty_bool 1 1 #[(.bool false)] (9 : Int) (9 : Int) fun s50 =>
 callT Try.prog fn_formula_Fails #[(.agg #[(.int .i64 x49.1), (.slice x49.2.1.a x49.2.1.len x49.2.1.cap)]), (.slice s50.a s50.len s50.cap)] (.tup (.cons (.int .i64) (.cons .bool (.cons (.int .i64) .nil)))) fun r51 =>
 ldA (.cons (.int .i64) (.cons .sl .nil)) (⟨b1, 0, none⟩ : Addr) fun x52 =>
 callT Try.prog fn_formula_Assign #[(.agg #[(.int .i64 x52.1), (.slice x52.2.1.a x52.2.1.len x52.2.1.cap)]), (.int .i64 (if (9 : Int) > a2 then (9 : Int) else a2))] (.tup (.cons (.agg (.cons (.int .i64) (.cons .sl .nil))) (.cons (.int .i64) .nil))) fun r53 =>
 nw #[(.int .i64 (0 : Int)), (.slice none 0 0)] ty_formula_Formula fun b54 =>
 st1 (⟨b54, 0, none⟩ : Addr) (.int .i64 r53.1.1) <|
 st1 ((⟨b54, 0, none⟩ : Addr).add 1) (.slice r53.1.2.1.a r53.1.2.1.len r53.1.2.1.cap) <|
 ldA (.cons (.int .i64) (.cons .sl .nil)) (⟨b1, 0, none⟩ : Addr) fun x55 =>
 callT Try.prog fn_formula_Assign #[(.agg #[(.int .i64 x55.1), (.slice x55.2.1.a x55.2.1.len x55.2.1.cap)]), (.int .i64 (0 : Int))] (.tup (.cons (.agg (.cons (.int .i64) (.cons .sl .nil))) (.cons (.int .i64) .nil))) fun r56 =>
 nw #[(.int .i64 (0 : Int)), (.slice none 0 0)] ty_formula_Formula fun b57 =>
 st1 (⟨b57, 0, none⟩ : Addr) (.int .i64 r56.1.1) <|
 st1 ((⟨b57, 0, none⟩ : Addr).add 1) (.slice r56.1.2.1.a r56.1.2.1.len r56.1.2.1.cap) <|
 nw #[(.int .i64 (1 : Int)), (.int .i64 (if (-9 : Int) < a2 then (-9 : Int) else a2))] ty_lits_Lit fun b58 =>
 callT Try.prog fn_formula_Model #[(.int .i64 (8 : Int)), (.slice (some (⟨b58, 0, none⟩ : Addr)) 2 2)] (.tup (.cons .sl (.cons (.int .i64) .nil))) fun r59 =>
 callT Try.prog fn_formula_Model #[(.int .i64 (if (-1 : Int) < a2 then (-1 : Int) else a2)), (.slice none 0 0)] (.tup (.cons .sl (.cons (.int .i64) .nil))) fun r60 =>
 st1 (⟨b1, 0, none⟩ : Addr) (.int .i64 (if (-1 : Int) < a2 then (-1 : Int) else a2)) <|
 ldA (.cons (.int .i64) (.cons .sl .nil)) (⟨b1, 0, none⟩ : Addr) fun x61 =>
 callT Try.prog fn_formula_Check #[(.agg #[(.int .i64 x61.1), (.slice x61.2.1.a x61.2.1.len x61.2.1.cap)])] (.tup (.cons (.int .i64) (.cons (.int .i64) .nil))) fun r62 =>
 brB (r48.2.1 == (52 : Int))
 (brB (r51.2.2.1 == r48.2.1)
 (brB (r53.2.1 == (51 : Int))
 (brB (r56.2.1 == r53.2.1)
 (brB (r59.2.1 == r53.2.1)
 (brB (r60.2.1 == (50 : Int))
 (brB (r62.1 == (-1 : Int))
 (brB (r62.2.1 == (50 : Int))
 (callT Try.prog fn_salvorlaw05_awake #[] .bool fun r63 =>
 K r63)
 (K false))
 (K false))
 (K false))
 (K false))
 (K false))
 (K false))
 (K false))
 (K false)))
 ((0 : Int), false, ())
set_option maxRecDepth 100000 in
theorem E_salvorlaw05_FormulaWrong (a0 : Sl) (a1 : Int) (a2 : Int) (K : Bool → HP) (h : Heap) : fnVC Try.prog [(1000000, .nil)] 213 Try.f4 [(.slice a0.a a0.len a0.cap), (.int .u8 a1), (.int .i64 a2)] .bool K h = F_salvorlaw05_FormulaWrong a0 a1 a2 K h := by kernel_rfl
set_option maxRecDepth 100000 in
theorem S_salvorlaw05_FormulaWrong{h : Heap} {a0 : Sl} {a1 : Int} {a2 : Int} (K : Bool → HP) (hF : F_salvorlaw05_FormulaWrong a0 a1 a2 K h) : CallsH Try.prog fn_salvorlaw05_FormulaWrong #[(.slice a0.a a0.len a0.cap), (.int .u8 a1), (.int .i64 a2)] h fun v h' => ∃ x : Bool, v = Ty.enc .bool x ∧ K x h' :=
  callsH_of_fn (P := Try.prog) (fn := Try.f4) (τ := .bool) follows Try.func4 (by kernel_rfl) (by kernel_rfl) Try.call4 (Eq.mpr (E_salvorlaw05_FormulaWrong a0 a1 a2 K h) hF)


/-- salvor/salvorlaw05.awake -/
def F_salvorlaw05_awake (K : Bool → HP) : HP :=
 nw #[(.int .i64 (1 : Int)), (.int .i64 (2 : Int))] ty_int fun b0 =>
 nw #[(.int .i64 (-1 : Int)), (.int .i64 (3 : Int))] ty_int fun b1 =>
 nw #[(.slice (some (⟨b0, 0, none⟩ : Addr)) 2 2), (.slice (some (⟨b1, 0, none⟩ : Addr)) 2 2)] ty_sl_int fun b2 =>
 callT Try.prog fn_salvorlaw05_Of #[(.int .i64 (3 : Int)), (.slice (some (⟨b2, 0, none⟩ : Addr)) 2 2)] (.agg (.cons (.int .i64) (.cons .sl .nil))) fun r3 =>
 nw #[(.int .i64 (0 : Int)), (.slice none 0 0)] ty_formula_Formula fun b4 =>
 st1 (⟨b4, 0, none⟩ : Addr) (.int .i64 r3.1) <|
 st1 ((⟨b4, 0, none⟩ : Addr).add 1) (.slice r3.2.1.a r3.2.1.len r3.2.1.cap) <|
 ldA (.cons (.int .i64) (.cons .sl .nil)) (⟨b4, 0, none⟩ : Addr) fun x5 =>
 callT Try.prog fn_formula_Count #[(.agg #[(.int .i64 x5.1), (.slice x5.2.1.a x5.2.1.len x5.2.1.cap)])] (.tup (.cons (.int .i64) (.cons (.int .i64) .nil))) fun r6 =>
 ldA (.cons (.int .i64) (.cons .sl .nil)) (⟨b4, 0, none⟩ : Addr) fun x7 =>
 callT Try.prog fn_formula_First #[(.agg #[(.int .i64 x7.1), (.slice x7.2.1.a x7.2.1.len x7.2.1.cap)])] (.tup (.cons .sl (.cons .bool (.cons (.int .i64) .nil)))) fun r8 =>
 ldA (.cons (.int .i64) (.cons .sl .nil)) (⟨b4, 0, none⟩ : Addr) fun x9 =>
 nw #[(.bool true), (.bool false), (.bool false)] ty_bool fun b10 =>
 callT Try.prog fn_formula_Fails #[(.agg #[(.int .i64 x9.1), (.slice x9.2.1.a x9.2.1.len x9.2.1.cap)]), (.slice (some (⟨b10, 0, none⟩ : Addr)) 3 3)] (.tup (.cons (.int .i64) (.cons .bool (.cons (.int .i64) .nil)))) fun r11 =>
 ldA (.cons (.int .i64) (.cons .sl .nil)) (⟨b4, 0, none⟩ : Addr) fun x12 =>
 callT Try.prog fn_formula_Assign #[(.agg #[(.int .i64 x12.1), (.slice x12.2.1.a x12.2.1.len x12.2.1.cap)]), (.int .i64 (1 : Int))] (.tup (.cons (.agg (.cons (.int .i64) (.cons .sl .nil))) (.cons (.int .i64) .nil))) fun r13 =>
 nw #[(.int .i64 (0 : Int)), (.slice none 0 0)] ty_formula_Formula fun b14 =>
 st1 (⟨b14, 0, none⟩ : Addr) (.int .i64 r13.1.1) <|
 st1 ((⟨b14, 0, none⟩ : Addr).add 1) (.slice r13.1.2.1.a r13.1.2.1.len r13.1.2.1.cap) <|
 ldA (.cons (.int .i64) (.cons .sl .nil)) (⟨b4, 0, none⟩ : Addr) fun x15 =>
 callT Try.prog fn_formula_Assign #[(.agg #[(.int .i64 x15.1), (.slice x15.2.1.a x15.2.1.len x15.2.1.cap)]), (.int .i64 (-1 : Int))] (.tup (.cons (.agg (.cons (.int .i64) (.cons .sl .nil))) (.cons (.int .i64) .nil))) fun r16 =>
 nw #[(.int .i64 (0 : Int)), (.slice none 0 0)] ty_formula_Formula fun b17 =>
 st1 (⟨b17, 0, none⟩ : Addr) (.int .i64 r16.1.1) <|
 st1 ((⟨b17, 0, none⟩ : Addr).add 1) (.slice r16.1.2.1.a r16.1.2.1.len r16.1.2.1.cap) <|
 nw #[(.int .i64 (2 : Int)), (.int .i64 (1 : Int)), (.int .i64 (2 : Int))] ty_int fun b18 =>
 nw #[(.int .i64 (3 : Int)), (.int .i64 (-3 : Int))] ty_int fun b19 =>
 nw #[(.int .i64 (1 : Int)), (.int .i64 (2 : Int))] ty_int fun b20 =>
 nw #[(.slice (some (⟨b18, 0, none⟩ : Addr)) 3 3), (.slice (some (⟨b19, 0, none⟩ : Addr)) 2 2), (.slice (some (⟨b20, 0, none⟩ : Addr)) 2 2)] ty_sl_int fun b21 =>
 callT Try.prog fn_salvorlaw05_Of #[(.int .i64 (3 : Int)), (.slice (some (⟨b21, 0, none⟩ : Addr)) 3 3)] (.agg (.cons (.int .i64) (.cons .sl .nil))) fun r22 =>
 callT Try.prog fn_formula_Norm #[(.agg #[(.int .i64 r22.1), (.slice r22.2.1.a r22.2.1.len r22.2.1.cap)])] (.tup (.cons (.agg (.cons (.int .i64) (.cons .sl .nil))) (.cons (.int .i64) .nil))) fun r23 =>
 nw #[(.int .i64 (0 : Int)), (.slice none 0 0)] ty_formula_Formula fun b24 =>
 st1 (⟨b24, 0, none⟩ : Addr) (.int .i64 r23.1.1) <|
 st1 ((⟨b24, 0, none⟩ : Addr).add 1) (.slice r23.1.2.1.a r23.1.2.1.len r23.1.2.1.cap) <|
 callT Try.prog fn_salvorlaw05_Of #[(.int .i64 (3 : Int)), (.slice none 0 0)] (.agg (.cons (.int .i64) (.cons .sl .nil))) fun r25 =>
 callT Try.prog fn_formula_Count #[(.agg #[(.int .i64 r25.1), (.slice r25.2.1.a r25.2.1.len r25.2.1.cap)])] (.tup (.cons (.int .i64) (.cons (.int .i64) .nil))) fun r26 =>
 nw #[(.slice none 0 0)] ty_sl_int fun b27 =>
 callT Try.prog fn_salvorlaw05_Of #[(.int .i64 (3 : Int)), (.slice (some (⟨b27, 0, none⟩ : Addr)) 1 1)] (.agg (.cons (.int .i64) (.cons .sl .nil))) fun r28 =>
 callT Try.prog fn_formula_Count #[(.agg #[(.int .i64 r28.1), (.slice r28.2.1.a r28.2.1.len r28.2.1.cap)])] (.tup (.cons (.int .i64) (.cons (.int .i64) .nil))) fun r29 =>
 brB ((IntKind.wrap .i64 ((IntKind.wrap .i64 ((IntKind.wrap .i64 ((IntKind.wrap .i64 ((IntKind.wrap .i64 ((IntKind.wrap .i64 ((IntKind.wrap .i64 (r6.2.1 + r8.2.2.1)) + r11.2.2.1)) + r13.2.1)) + r16.2.1)) + r23.2.1)) + r26.2.1)) + r29.2.1)) == (0 : Int))
 (brB (r6.1 == (4 : Int))
 (brB r8.2.1
 (nw #[(.bool false), (.bool true), (.bool false)] ty_bool fun b30 =>
 callT Try.prog fn_slices_Equal_bool_bool #[(.slice r8.1.a r8.1.len r8.1.cap), (.slice (some (⟨b30, 0, none⟩ : Addr)) 3 3)] .bool fun r31 =>
 brB r31
 (brB (r11.1 == (1 : Int))
 (brB r11.2.1
 (ldA (.cons (.int .i64) (.cons .sl .nil)) (⟨b14, 0, none⟩ : Addr) fun x32 =>
 nw #[(.int .i64 (3 : Int))] ty_int fun b33 =>
 nw #[(.slice (some (⟨b33, 0, none⟩ : Addr)) 1 1)] ty_sl_int fun b34 =>
 callT Try.prog fn_salvorlaw05_Of #[(.int .i64 (3 : Int)), (.slice (some (⟨b34, 0, none⟩ : Addr)) 1 1)] (.agg (.cons (.int .i64) (.cons .sl .nil))) fun r35 =>
 ckA (⟨b14, 0, none⟩ : Addr) [(.int .i64 x32.1), (.slice x32.2.1.a x32.2.1.len x32.2.1.cap)] <|
 callT Try.prog fn_formula_Same #[(.agg #[(.int .i64 x32.1), (.slice x32.2.1.a x32.2.1.len x32.2.1.cap)]), (.agg #[(.int .i64 r35.1), (.slice r35.2.1.a r35.2.1.len r35.2.1.cap)])] .bool fun r36 =>
 brB r36
 (ldA (.cons (.int .i64) (.cons .sl .nil)) (⟨b17, 0, none⟩ : Addr) fun x37 =>
 nw #[(.int .i64 (2 : Int))] ty_int fun b38 =>
 nw #[(.slice (some (⟨b38, 0, none⟩ : Addr)) 1 1)] ty_sl_int fun b39 =>
 callT Try.prog fn_salvorlaw05_Of #[(.int .i64 (3 : Int)), (.slice (some (⟨b39, 0, none⟩ : Addr)) 1 1)] (.agg (.cons (.int .i64) (.cons .sl .nil))) fun r40 =>
 ckA (⟨b17, 0, none⟩ : Addr) [(.int .i64 x37.1), (.slice x37.2.1.a x37.2.1.len x37.2.1.cap)] <|
 callT Try.prog fn_formula_Same #[(.agg #[(.int .i64 x37.1), (.slice x37.2.1.a x37.2.1.len x37.2.1.cap)]), (.agg #[(.int .i64 r40.1), (.slice r40.2.1.a r40.2.1.len r40.2.1.cap)])] .bool fun r41 =>
 brB r41
 (ldA (.cons (.int .i64) (.cons .sl .nil)) (⟨b24, 0, none⟩ : Addr) fun x42 =>
 nw #[(.int .i64 (1 : Int)), (.int .i64 (2 : Int))] ty_int fun b43 =>
 nw #[(.slice (some (⟨b43, 0, none⟩ : Addr)) 2 2)] ty_sl_int fun b44 =>
 callT Try.prog fn_salvorlaw05_Of #[(.int .i64 (3 : Int)), (.slice (some (⟨b44, 0, none⟩ : Addr)) 1 1)] (.agg (.cons (.int .i64) (.cons .sl .nil))) fun r45 =>
 ckA (⟨b24, 0, none⟩ : Addr) [(.int .i64 x42.1), (.slice x42.2.1.a x42.2.1.len x42.2.1.cap)] <|
 callT Try.prog fn_formula_Same #[(.agg #[(.int .i64 x42.1), (.slice x42.2.1.a x42.2.1.len x42.2.1.cap)]), (.agg #[(.int .i64 r45.1), (.slice r45.2.1.a r45.2.1.len r45.2.1.cap)])] .bool fun r46 =>
 brB r46
 (brB (r26.1 == (8 : Int))
 (K (r29.1 == (0 : Int)))
 (K false))
 (K false))
 (K false))
 (K false))
 (K false))
 (K false))
 (K false))
 (K false))
 (K false))
 (K false)
set_option maxRecDepth 100000 in
theorem E_salvorlaw05_awake (K : Bool → HP) (h : Heap) : fnVC Try.prog [(1000000, .nil)] 136 Try.f5 [] .bool K h = F_salvorlaw05_awake K h := by kernel_rfl
set_option maxRecDepth 100000 in
theorem S_salvorlaw05_awake{h : Heap} (K : Bool → HP) (hF : F_salvorlaw05_awake K h) : CallsH Try.prog fn_salvorlaw05_awake #[] h fun v h' => ∃ x : Bool, v = Ty.enc .bool x ∧ K x h' :=
  callsH_of_fn (P := Try.prog) (fn := Try.f5) (τ := .bool) follows Try.func5 (by kernel_rfl) (by kernel_rfl) Try.call5 (Eq.mpr (E_salvorlaw05_awake K h) hF)


/-- salvor/formula.Lits -/
def F_formula_Lits (a0 : Sl) (K : Sl → HP) : HP :=
 slH ⟨a0.a, a0.len, a0.cap⟩ (if (1048576 : Int) < (a0.len : Int) then (1048576 : Int) else (a0.len : Int)) 1 fun s0 =>
 lfp (σ := (Int × (Sl × Unit))) (fun X1 s2 => /-  out -/
 brB (decide (s2.1 < (s0.len : Int)))
 (sx s0.a s0.len s2.1 1 fun p3 =>
 ldT .bool p3 fun x4 =>
 callT Try.prog fn_lits_Of #[(.int .i64 (IntKind.wrap .i64 (s2.1 + (1 : Int)))), (.bool (!x4))] (.tup (.cons (.int .i64) (.cons (.int .i64) .nil))) fun r5 =>
 nw #[(.int .i64 r5.1)] ty_lits_Lit fun b6 =>
 apd ty_lits_Lit 1 8 #[(.int .i64 (0 : Int))] ⟨s2.2.1.a, s2.2.1.len, s2.2.1.cap⟩ ⟨(some (⟨b6, 0, none⟩ : Addr)), 1, 1⟩ fun s7 =>
 X1 ((IntKind.wrap .i64 (s2.1 + (1 : Int))), ⟨s7.a, s7.len, s7.cap⟩, ()))
 (K ⟨s2.2.1.a, s2.2.1.len, s2.2.1.cap⟩))
 ((0 : Int), ⟨none, 0, 0⟩, ())
set_option maxRecDepth 100000 in
theorem E_formula_Lits (a0 : Sl) (K : Sl → HP) (h : Heap) : fnVC Try.prog [(1000000, .nil)] 33 Try.f6 [(.slice a0.a a0.len a0.cap)] .sl K h = F_formula_Lits a0 K h := by kernel_rfl
set_option maxRecDepth 100000 in
theorem S_formula_Lits{h : Heap} {a0 : Sl} (K : Sl → HP) (hF : F_formula_Lits a0 K h) : CallsH Try.prog fn_formula_Lits #[(.slice a0.a a0.len a0.cap)] h fun v h' => ∃ x : Sl, v = Ty.enc .sl x ∧ K x h' :=
  callsH_of_fn (P := Try.prog) (fn := Try.f6) (τ := .sl) follows Try.func6 (by kernel_rfl) (by kernel_rfl) Try.call6 (Eq.mpr (E_formula_Lits a0 K h) hF)


/-- salvor/formula.Model -/
def F_formula_Model (a0 : Int) (a1 : Sl) (K : (Sl × (Int × Unit)) → HP) : HP :=
 callT Try.prog fn_formula_vars #[(.int .i64 a0)] .bool fun r0 =>
 brB (!r0)
 (K (⟨none, 0, 0⟩, (50 : Int), ()))
 (cj
 (mks ty_bool 1 1 #[(.bool false)] a0 a0 fun s1 =>
 cj
 (mks ty_bool 1 1 #[(.bool false)] a0 a0 fun s2 =>
 lfp (σ := (Int × (Int × (Sl × Unit)))) (fun X3 s4 => /-    -/
 brB (decide (s4.1 < (a1.len : Int)))
 (sx a1.a a1.len s4.1 1 fun p5 =>
 ldT (.int .i64) p5 fun x6 =>
 callT Try.prog fn_formula_beyond #[(.int .i64 a0)] .val fun r7 =>
 callF Try.prog r7 #[(.int .i64 x6)] .bool fun r8 =>
 brB r8
 (K (⟨none, 0, 0⟩, (51 : Int), ()))
 (callT Try.prog fn_lits_Var #[(.int .i64 x6)] (.int .i64) fun r9 =>
 sx s2.a s2.len (IntKind.wrap .i64 (r9 - (1 : Int))) 1 fun p10 =>
 ldT .bool p10 fun x11 =>
 brB x11
 (sx s1.a s1.len (IntKind.wrap .i64 (r9 - (1 : Int))) 1 fun p12 =>
 ldT .bool p12 fun x13 =>
 callT Try.prog fn_lits_Negated #[(.int .i64 x6)] .bool fun r14 =>
 ck p12 (.bool x13) <|
 brB (x13 == r14)
 (K (⟨none, 0, 0⟩, (52 : Int), ()))
 (callT Try.prog fn_lits_Negated #[(.int .i64 x6)] .bool fun r15 =>
 sx s1.a s1.len (IntKind.wrap .i64 (r9 - (1 : Int))) 1 fun p16 =>
 st1 p16 (.bool (!r15)) <|
 sx s2.a s2.len (IntKind.wrap .i64 (r9 - (1 : Int))) 1 fun p17 =>
 st1 p17 (.bool true) <|
 X3 ((IntKind.wrap .i64 (s4.1 + (1 : Int))), s4.2.1, ⟨s4.2.2.1.a, s4.2.2.1.len, s4.2.2.1.cap⟩, ())))
 (callT Try.prog fn_lits_Negated #[(.int .i64 x6)] .bool fun r18 =>
 sx s1.a s1.len (IntKind.wrap .i64 (r9 - (1 : Int))) 1 fun p19 =>
 st1 p19 (.bool (!r18)) <|
 sx s2.a s2.len (IntKind.wrap .i64 (r9 - (1 : Int))) 1 fun p20 =>
 st1 p20 (.bool true) <|
 X3 ((IntKind.wrap .i64 (s4.1 + (1 : Int))), s4.2.1, ⟨s4.2.2.1.a, s4.2.2.1.len, s4.2.2.1.cap⟩, ()))))
 (K (⟨s1.a, s1.len, s1.cap⟩, (0 : Int), ())))
 ((0 : Int), (0 : Int), ⟨none, 0, 0⟩, ()))
 (mks ty_bool 1 1 #[(.bool false)] a0 a0 fun s21 =>
 lfp (σ := (Int × (Int × (Sl × Unit)))) (fun X22 s23 => /-    -/
 brB (decide (s23.1 < (a1.len : Int)))
 (sx a1.a a1.len s23.1 1 fun p24 =>
 ldT (.int .i64) p24 fun x25 =>
 callT Try.prog fn_formula_beyond #[(.int .i64 a0)] .val fun r26 =>
 callF Try.prog r26 #[(.int .i64 x25)] .bool fun r27 =>
 brB r27
 (K (⟨none, 0, 0⟩, (51 : Int), ()))
 (callT Try.prog fn_lits_Var #[(.int .i64 x25)] (.int .i64) fun r28 =>
 sx s21.a s21.len (IntKind.wrap .i64 (r28 - (1 : Int))) 1 fun p29 =>
 ldT .bool p29 fun x30 =>
 brB x30
 (sx s1.a s1.len (IntKind.wrap .i64 (r28 - (1 : Int))) 1 fun p31 =>
 ldT .bool p31 fun x32 =>
 callT Try.prog fn_lits_Negated #[(.int .i64 x25)] .bool fun r33 =>
 ck p31 (.bool x32) <|
 brB (x32 == r33)
 (K (⟨none, 0, 0⟩, (52 : Int), ()))
 (callT Try.prog fn_lits_Negated #[(.int .i64 x25)] .bool fun r34 =>
 sx s1.a s1.len (IntKind.wrap .i64 (r28 - (1 : Int))) 1 fun p35 =>
 st1 p35 (.bool (!r34)) <|
 sx s21.a s21.len (IntKind.wrap .i64 (r28 - (1 : Int))) 1 fun p36 =>
 st1 p36 (.bool true) <|
 X22 ((IntKind.wrap .i64 (s23.1 + (1 : Int))), s23.2.1, ⟨s23.2.2.1.a, s23.2.2.1.len, s23.2.2.1.cap⟩, ())))
 (callT Try.prog fn_lits_Negated #[(.int .i64 x25)] .bool fun r37 =>
 sx s1.a s1.len (IntKind.wrap .i64 (r28 - (1 : Int))) 1 fun p38 =>
 st1 p38 (.bool (!r37)) <|
 sx s21.a s21.len (IntKind.wrap .i64 (r28 - (1 : Int))) 1 fun p39 =>
 st1 p39 (.bool true) <|
 X22 ((IntKind.wrap .i64 (s23.1 + (1 : Int))), s23.2.1, ⟨s23.2.2.1.a, s23.2.2.1.len, s23.2.2.1.cap⟩, ()))))
 (K (⟨s1.a, s1.len, s1.cap⟩, (0 : Int), ())))
 ((0 : Int), (0 : Int), ⟨none, 0, 0⟩, ())))
 (mks ty_bool 1 1 #[(.bool false)] a0 a0 fun s40 =>
 mks ty_bool 1 1 #[(.bool false)] a0 a0 fun s41 =>
 lfp (σ := (Int × (Int × (Sl × Unit)))) (fun X42 s43 => /-    -/
 brB (decide (s43.1 < (a1.len : Int)))
 (sx a1.a a1.len s43.1 1 fun p44 =>
 ldT (.int .i64) p44 fun x45 =>
 callT Try.prog fn_formula_beyond #[(.int .i64 a0)] .val fun r46 =>
 callF Try.prog r46 #[(.int .i64 x45)] .bool fun r47 =>
 brB r47
 (K (⟨none, 0, 0⟩, (51 : Int), ()))
 (callT Try.prog fn_lits_Var #[(.int .i64 x45)] (.int .i64) fun r48 =>
 sx s40.a s40.len (IntKind.wrap .i64 (r48 - (1 : Int))) 1 fun p49 =>
 ldT .bool p49 fun x50 =>
 brB x50
 (sx s41.a s41.len (IntKind.wrap .i64 (r48 - (1 : Int))) 1 fun p51 =>
 ldT .bool p51 fun x52 =>
 callT Try.prog fn_lits_Negated #[(.int .i64 x45)] .bool fun r53 =>
 ck p51 (.bool x52) <|
 brB (x52 == r53)
 (K (⟨none, 0, 0⟩, (52 : Int), ()))
 (callT Try.prog fn_lits_Negated #[(.int .i64 x45)] .bool fun r54 =>
 sx s41.a s41.len (IntKind.wrap .i64 (r48 - (1 : Int))) 1 fun p55 =>
 st1 p55 (.bool (!r54)) <|
 sx s40.a s40.len (IntKind.wrap .i64 (r48 - (1 : Int))) 1 fun p56 =>
 st1 p56 (.bool true) <|
 X42 ((IntKind.wrap .i64 (s43.1 + (1 : Int))), s43.2.1, ⟨s43.2.2.1.a, s43.2.2.1.len, s43.2.2.1.cap⟩, ())))
 (callT Try.prog fn_lits_Negated #[(.int .i64 x45)] .bool fun r57 =>
 sx s41.a s41.len (IntKind.wrap .i64 (r48 - (1 : Int))) 1 fun p58 =>
 st1 p58 (.bool (!r57)) <|
 sx s40.a s40.len (IntKind.wrap .i64 (r48 - (1 : Int))) 1 fun p59 =>
 st1 p59 (.bool true) <|
 X42 ((IntKind.wrap .i64 (s43.1 + (1 : Int))), s43.2.1, ⟨s43.2.2.1.a, s43.2.2.1.len, s43.2.2.1.cap⟩, ()))))
 (K (⟨s41.a, s41.len, s41.cap⟩, (0 : Int), ())))
 ((0 : Int), (0 : Int), ⟨none, 0, 0⟩, ())))
set_option maxRecDepth 100000 in
theorem E_formula_Model (a0 : Int) (a1 : Sl) (K : (Sl × (Int × Unit)) → HP) (h : Heap) : fnVC Try.prog [(1000000, .nil)] 55 Try.f7 [(.int .i64 a0), (.slice a1.a a1.len a1.cap)] (.tup (.cons .sl (.cons (.int .i64) .nil))) K h = F_formula_Model a0 a1 K h := by kernel_rfl
set_option maxRecDepth 100000 in
theorem S_formula_Model{h : Heap} {a0 : Int} {a1 : Sl} (K : (Sl × (Int × Unit)) → HP) (hF : F_formula_Model a0 a1 K h) : CallsH Try.prog fn_formula_Model #[(.int .i64 a0), (.slice a1.a a1.len a1.cap)] h fun v h' => ∃ x : (Sl × (Int × Unit)), v = Ty.enc (.tup (.cons .sl (.cons (.int .i64) .nil))) x ∧ K x h' :=
  callsH_of_fn (P := Try.prog) (fn := Try.f7) (τ := (.tup (.cons .sl (.cons (.int .i64) .nil)))) follows Try.func7 (by kernel_rfl) (by kernel_rfl) Try.call7 (Eq.mpr (E_formula_Model a0 a1 K h) hF)


/-- slices.Equal[[]bool,bool] -/
def F_slices_Equal_bool_bool (a0 : Sl) (a1 : Sl) (K : Bool → HP) : HP :=
 brB ((a0.len : Int) != (a1.len : Int))
 (K false)
 (lfp (σ := (Int × (Bool × Unit))) (fun X0 s1 => /-   -/
 brB (decide (s1.1 < (a0.len : Int)))
 (sx a0.a a0.len s1.1 1 fun p2 =>
 ldT .bool p2 fun x3 =>
 sx a1.a a1.len s1.1 1 fun p4 =>
 ldT .bool p4 fun x5 =>
 brB (!(x3 == x5))
 (K false)
 (X0 ((IntKind.wrap .i64 (s1.1 + (1 : Int))), s1.2.1, ())))
 (K true))
 ((0 : Int), false, ()))
set_option maxRecDepth 100000 in
theorem E_slices_Equal_bool_bool (a0 : Sl) (a1 : Sl) (K : Bool → HP) (h : Heap) : fnVC Try.prog [(1000000, .nil)] 26 Try.f8 [(.slice a0.a a0.len a0.cap), (.slice a1.a a1.len a1.cap)] .bool K h = F_slices_Equal_bool_bool a0 a1 K h := by kernel_rfl
set_option maxRecDepth 100000 in
theorem S_slices_Equal_bool_bool{h : Heap} {a0 : Sl} {a1 : Sl} (K : Bool → HP) (hF : F_slices_Equal_bool_bool a0 a1 K h) : CallsH Try.prog fn_slices_Equal_bool_bool #[(.slice a0.a a0.len a0.cap), (.slice a1.a a1.len a1.cap)] h fun v h' => ∃ x : Bool, v = Ty.enc .bool x ∧ K x h' :=
  callsH_of_fn (P := Try.prog) (fn := Try.f8) (τ := .bool) follows Try.func8 (by kernel_rfl) (by kernel_rfl) Try.call8 (Eq.mpr (E_slices_Equal_bool_bool a0 a1 K h) hF)


/-- slices.Contains[[]bool,bool] -/
def F_slices_Contains_bool_bool (a0 : Sl) (a1 : Bool) (K : Bool → HP) : HP :=
 callT Try.prog fn_slices_Index_bool_bool #[(.slice a0.a a0.len a0.cap), (.bool a1)] (.int .i64) fun r0 =>
 K (decide (r0 ≥ (0 : Int)))
set_option maxRecDepth 100000 in
theorem E_slices_Contains_bool_bool (a0 : Sl) (a1 : Bool) (K : Bool → HP) (h : Heap) : fnVC Try.prog [(1000000, .nil)] 9 Try.f9 [(.slice a0.a a0.len a0.cap), (.bool a1)] .bool K h = F_slices_Contains_bool_bool a0 a1 K h := by kernel_rfl
set_option maxRecDepth 100000 in
theorem S_slices_Contains_bool_bool{h : Heap} {a0 : Sl} {a1 : Bool} (K : Bool → HP) (hF : F_slices_Contains_bool_bool a0 a1 K h) : CallsH Try.prog fn_slices_Contains_bool_bool #[(.slice a0.a a0.len a0.cap), (.bool a1)] h fun v h' => ∃ x : Bool, v = Ty.enc .bool x ∧ K x h' :=
  callsH_of_fn (P := Try.prog) (fn := Try.f9) (τ := .bool) follows Try.func9 (by kernel_rfl) (by kernel_rfl) Try.call9 (Eq.mpr (E_slices_Contains_bool_bool a0 a1 K h) hF)


/-- salvor/lits.Var -/
def F_lits_Var (a0 : Int) (K : Int → HP) : HP :=
 callT Try.prog fn_lits_Right #[(.int .i64 a0)] .bool fun r0 =>
 brB (!r0)
 (K (0 : Int))
 (K (if (IntKind.wrap .i64 (0 - a0)) > a0 then (IntKind.wrap .i64 (0 - a0)) else a0))
set_option maxRecDepth 100000 in
theorem E_lits_Var (a0 : Int) (K : Int → HP) (h : Heap) : fnVC Try.prog [(1000000, .nil)] 10 Try.f10 [(.int .i64 a0)] (.int .i64) K h = F_lits_Var a0 K h := by kernel_rfl
set_option maxRecDepth 100000 in
theorem S_lits_Var{h : Heap} {a0 : Int} (K : Int → HP) (hF : F_lits_Var a0 K h) : CallsH Try.prog fn_lits_Var #[(.int .i64 a0)] h fun v h' => ∃ x : Int, v = Ty.enc (.int .i64) x ∧ K x h' :=
  callsH_of_fn (P := Try.prog) (fn := Try.f10) (τ := (.int .i64)) follows Try.func10 (by kernel_rfl) (by kernel_rfl) Try.call10 (Eq.mpr (E_lits_Var a0 K h) hF)


/-- salvor/lits.Negated -/
def F_lits_Negated (a0 : Int) (K : Bool → HP) : HP :=
 callT Try.prog fn_lits_Right #[(.int .i64 a0)] .bool fun r0 =>
 brB r0
 (K (decide (a0 < (0 : Int))))
 (K false)
set_option maxRecDepth 100000 in
theorem E_lits_Negated (a0 : Int) (K : Bool → HP) (h : Heap) : fnVC Try.prog [(1000000, .nil)] 9 Try.f11 [(.int .i64 a0)] .bool K h = F_lits_Negated a0 K h := by kernel_rfl
set_option maxRecDepth 100000 in
theorem S_lits_Negated{h : Heap} {a0 : Int} (K : Bool → HP) (hF : F_lits_Negated a0 K h) : CallsH Try.prog fn_lits_Negated #[(.int .i64 a0)] h fun v h' => ∃ x : Bool, v = Ty.enc .bool x ∧ K x h' :=
  callsH_of_fn (P := Try.prog) (fn := Try.f11) (τ := .bool) follows Try.func11 (by kernel_rfl) (by kernel_rfl) Try.call11 (Eq.mpr (E_lits_Negated a0 K h) hF)


/-- salvor/formula.Holds -/
def F_formula_Holds (a0 : Sl) (a1 : Sl) (K : Bool → HP) : HP :=
 callT Try.prog fn_clauses_Right #[(.slice a0.a a0.len a0.cap)] .bool fun r0 =>
 brB r0
 (callT Try.prog fn_formula_beyond #[(.int .i64 (a1.len : Int))] .val fun r1 =>
 callT Try.prog fn_slices_ContainsFunc_clauses_Clause_lits_Lit #[(.slice a0.a a0.len a0.cap), r1] .bool fun r2 =>
 brB (!r2)
 (callT Try.prog fn_formula_in #[(.slice a1.a a1.len a1.cap)] .val fun r3 =>
 callT Try.prog fn_slices_ContainsFunc_clauses_Clause_lits_Lit #[(.slice a0.a a0.len a0.cap), r3] .bool fun r4 =>
 K r4)
 (K false))
 (K false)
set_option maxRecDepth 100000 in
theorem E_formula_Holds (a0 : Sl) (a1 : Sl) (K : Bool → HP) (h : Heap) : fnVC Try.prog [(1000000, .nil)] 21 Try.f12 [(.slice a0.a a0.len a0.cap), (.slice a1.a a1.len a1.cap)] .bool K h = F_formula_Holds a0 a1 K h := by kernel_rfl
set_option maxRecDepth 100000 in
theorem S_formula_Holds{h : Heap} {a0 : Sl} {a1 : Sl} (K : Bool → HP) (hF : F_formula_Holds a0 a1 K h) : CallsH Try.prog fn_formula_Holds #[(.slice a0.a a0.len a0.cap), (.slice a1.a a1.len a1.cap)] h fun v h' => ∃ x : Bool, v = Ty.enc .bool x ∧ K x h' :=
  callsH_of_fn (P := Try.prog) (fn := Try.f12) (τ := .bool) follows Try.func12 (by kernel_rfl) (by kernel_rfl) Try.call12 (Eq.mpr (E_formula_Holds a0 a1 K h) hF)


/-- salvor/salvorlaw05.Made -/
def F_salvorlaw05_Made (a0 : Sl) (K : (Int × (Sl × Unit)) → HP) : HP :=
 nw #[(.int .i64 (0 : Int)), (.slice none 0 0)] ty_formula_Formula fun b0 =>
 nw #[(.int .i64 (0 : Int)), (.slice none 0 0)] ty_formula_Formula fun b1 =>
 st1 (⟨b1, 0, none⟩ : Addr) (.int .i64 (8 : Int)) <|
 st1 ((⟨b1, 0, none⟩ : Addr).add 1) (.slice none 0 0) <|
 slH ⟨a0.a, a0.len, a0.cap⟩ (if (30 : Int) < (a0.len : Int) then (30 : Int) else (a0.len : Int)) 1 fun s2 =>
 lfp (σ := (Int × Unit)) (fun X3 s4 => /-  -/
 brB (decide (s4.1 < (s2.len : Int)))
 (sx s2.a s2.len s4.1 1 fun p5 =>
 ldT .sl p5 fun x6 =>
 ldT .sl ((⟨b1, 0, none⟩ : Addr).add 1) fun x7 =>
 callT Try.prog fn_salvorlaw02_Made #[(.slice x6.a x6.len x6.cap)] .sl fun r8 =>
 ck ((⟨b1, 0, none⟩ : Addr).add 1) (.slice x7.a x7.len x7.cap) <|
 nw #[(.slice r8.a r8.len r8.cap)] ty_clauses_Clause fun b9 =>
 apd ty_clauses_Clause 1 24 #[(.slice none 0 0)] ⟨x7.a, x7.len, x7.cap⟩ ⟨(some (⟨b9, 0, none⟩ : Addr)), 1, 1⟩ fun s10 =>
 st1 ((⟨b1, 0, none⟩ : Addr).add 1) (.slice s10.a s10.len s10.cap) <|
 X3 ((IntKind.wrap .i64 (s4.1 + (1 : Int))), ()))
 (ldA (.cons (.int .i64) (.cons .sl .nil)) (⟨b1, 0, none⟩ : Addr) fun x11 =>
 st1 (⟨b0, 0, none⟩ : Addr) (.int .i64 x11.1) <|
 st1 ((⟨b0, 0, none⟩ : Addr).add 1) (.slice x11.2.1.a x11.2.1.len x11.2.1.cap) <|
 ldA (.cons (.int .i64) (.cons .sl .nil)) (⟨b0, 0, none⟩ : Addr) fun x12 =>
 K (x12.1, ⟨x12.2.1.a, x12.2.1.len, x12.2.1.cap⟩, ())))
 ((0 : Int), ())
set_option maxRecDepth 100000 in
theorem E_salvorlaw05_Made (a0 : Sl) (K : (Int × (Sl × Unit)) → HP) (h : Heap) : fnVC Try.prog [(1000000, .nil)] 26 Try.f13 [(.slice a0.a a0.len a0.cap)] (.agg (.cons (.int .i64) (.cons .sl .nil))) K h = F_salvorlaw05_Made a0 K h := by kernel_rfl
set_option maxRecDepth 100000 in
theorem S_salvorlaw05_Made{h : Heap} {a0 : Sl} (K : (Int × (Sl × Unit)) → HP) (hF : F_salvorlaw05_Made a0 K h) : CallsH Try.prog fn_salvorlaw05_Made #[(.slice a0.a a0.len a0.cap)] h fun v h' => ∃ x : (Int × (Sl × Unit)), v = Ty.enc (.agg (.cons (.int .i64) (.cons .sl .nil))) x ∧ K x h' :=
  callsH_of_fn (P := Try.prog) (fn := Try.f13) (τ := (.agg (.cons (.int .i64) (.cons .sl .nil)))) follows Try.func13 (by kernel_rfl) (by kernel_rfl) Try.call13 (Eq.mpr (E_salvorlaw05_Made a0 K h) hF)


/-- salvor/formula.Copy -/
def F_formula_Copy (a0 : (Int × (Sl × Unit))) (K : (Int × (Sl × Unit)) → HP) : HP :=
 nw #[(.int .i64 a0.1), (.slice a0.2.1.a a0.2.1.len a0.2.1.cap)] ty_formula_Formula fun b0 =>
 nw #[(.int .i64 (0 : Int)), (.slice none 0 0)] ty_formula_Formula fun b1 =>
 ldT (.int .i64) (⟨b0, 0, none⟩ : Addr) fun x2 =>
 nw #[(.int .i64 (0 : Int)), (.slice none 0 0)] ty_formula_Formula fun b3 =>
 st1 (⟨b3, 0, none⟩ : Addr) (.int .i64 x2) <|
 st1 ((⟨b3, 0, none⟩ : Addr).add 1) (.slice none 0 0) <|
 ldT .sl ((⟨b0, 0, none⟩ : Addr).add 1) fun x4 =>
 lfp (σ := (Int × Unit)) (fun X5 s6 => /-  -/
 brB (decide (s6.1 < (x4.len : Int)))
 (sx x4.a x4.len s6.1 1 fun p7 =>
 ldT .sl p7 fun x8 =>
 ldT .sl ((⟨b3, 0, none⟩ : Addr).add 1) fun x9 =>
 callT Try.prog fn_slices_Clone_clauses_Clause_lits_Lit #[(.slice x8.a x8.len x8.cap)] .sl fun r10 =>
 ck ((⟨b3, 0, none⟩ : Addr).add 1) (.slice x9.a x9.len x9.cap) <|
 nw #[(.slice r10.a r10.len r10.cap)] ty_clauses_Clause fun b11 =>
 apd ty_clauses_Clause 1 24 #[(.slice none 0 0)] ⟨x9.a, x9.len, x9.cap⟩ ⟨(some (⟨b11, 0, none⟩ : Addr)), 1, 1⟩ fun s12 =>
 st1 ((⟨b3, 0, none⟩ : Addr).add 1) (.slice s12.a s12.len s12.cap) <|
 X5 ((IntKind.wrap .i64 (s6.1 + (1 : Int))), ()))
 (ldA (.cons (.int .i64) (.cons .sl .nil)) (⟨b3, 0, none⟩ : Addr) fun x13 =>
 st1 (⟨b1, 0, none⟩ : Addr) (.int .i64 x13.1) <|
 st1 ((⟨b1, 0, none⟩ : Addr).add 1) (.slice x13.2.1.a x13.2.1.len x13.2.1.cap) <|
 ldA (.cons (.int .i64) (.cons .sl .nil)) (⟨b1, 0, none⟩ : Addr) fun x14 =>
 K (x14.1, ⟨x14.2.1.a, x14.2.1.len, x14.2.1.cap⟩, ())))
 ((0 : Int), ())
set_option maxRecDepth 100000 in
theorem E_formula_Copy (a0 : (Int × (Sl × Unit))) (K : (Int × (Sl × Unit)) → HP) (h : Heap) : fnVC Try.prog [(1000000, .nil)] 25 Try.f14 [(.agg #[(.int .i64 a0.1), (.slice a0.2.1.a a0.2.1.len a0.2.1.cap)])] (.agg (.cons (.int .i64) (.cons .sl .nil))) K h = F_formula_Copy a0 K h := by kernel_rfl
set_option maxRecDepth 100000 in
theorem S_formula_Copy{h : Heap} {a0 : (Int × (Sl × Unit))} (K : (Int × (Sl × Unit)) → HP) (hF : F_formula_Copy a0 K h) : CallsH Try.prog fn_formula_Copy #[(.agg #[(.int .i64 a0.1), (.slice a0.2.1.a a0.2.1.len a0.2.1.cap)])] h fun v h' => ∃ x : (Int × (Sl × Unit)), v = Ty.enc (.agg (.cons (.int .i64) (.cons .sl .nil))) x ∧ K x h' :=
  callsH_of_fn (P := Try.prog) (fn := Try.f14) (τ := (.agg (.cons (.int .i64) (.cons .sl .nil)))) follows Try.func14 (by kernel_rfl) (by kernel_rfl) Try.call14 (Eq.mpr (E_formula_Copy a0 K h) hF)


/-- slices.Insert[[]salvor/clauses.Clause,salvor/clauses.Clause] -/
def F_slices_Insert_clauses_Clause_clauses_Clause (a0 : Sl) (a1 : Int) (a2 : Sl) (K : Sl → HP) : HP :=
 slL ⟨a0.a, a0.len, a0.cap⟩ a1 1 fun s0 =>
 brB ((a2.len : Int) == (0 : Int))
 (K ⟨a0.a, a0.len, a0.cap⟩)
 (brB (a1 == (a0.len : Int))
 (apd ty_clauses_Clause 1 24 #[(.slice none 0 0)] ⟨a0.a, a0.len, a0.cap⟩ ⟨a2.a, a2.len, a2.cap⟩ fun s1 =>
 K ⟨s1.a, s1.len, s1.cap⟩)
 (brB (decide ((IntKind.wrap .i64 ((a0.len : Int) + (a2.len : Int))) > (a0.cap : Int)))
 (slH ⟨a0.a, a0.len, a0.cap⟩ a1 1 fun s2 =>
 apz ty_clauses_Clause 1 24 #[(.slice none 0 0)] ⟨s2.a, s2.len, s2.cap⟩ (IntKind.wrap .i64 ((IntKind.wrap .i64 ((a0.len : Int) + (a2.len : Int))) - a1)) fun s3 =>
 slL ⟨s3.a, s3.len, s3.cap⟩ a1 1 fun s4 =>
 cpy 1 ⟨s4.a, s4.len, s4.cap⟩ ⟨a2.a, a2.len, a2.cap⟩ fun n5 =>
 slL ⟨s3.a, s3.len, s3.cap⟩ (IntKind.wrap .i64 (a1 + (a2.len : Int))) 1 fun s6 =>
 slL ⟨a0.a, a0.len, a0.cap⟩ a1 1 fun s7 =>
 cpy 1 ⟨s6.a, s6.len, s6.cap⟩ ⟨s7.a, s7.len, s7.cap⟩ fun n8 =>
 K ⟨s3.a, s3.len, s3.cap⟩)
 (slH ⟨a0.a, a0.len, a0.cap⟩ (IntKind.wrap .i64 ((a0.len : Int) + (a2.len : Int))) 1 fun s9 =>
 slL ⟨s9.a, s9.len, s9.cap⟩ (IntKind.wrap .i64 (a1 + (a2.len : Int))) 1 fun s10 =>
 callT Try.prog fn_slices_overlaps_clauses_Clause #[(.slice a2.a a2.len a2.cap), (.slice s10.a s10.len s10.cap)] .bool fun r11 =>
 brB (!r11)
 (slL ⟨s9.a, s9.len, s9.cap⟩ (IntKind.wrap .i64 (a1 + (a2.len : Int))) 1 fun s12 =>
 slL ⟨s9.a, s9.len, s9.cap⟩ a1 1 fun s13 =>
 cpy 1 ⟨s12.a, s12.len, s12.cap⟩ ⟨s13.a, s13.len, s13.cap⟩ fun n14 =>
 slL ⟨s9.a, s9.len, s9.cap⟩ a1 1 fun s15 =>
 cpy 1 ⟨s15.a, s15.len, s15.cap⟩ ⟨a2.a, a2.len, a2.cap⟩ fun n16 =>
 K ⟨s9.a, s9.len, s9.cap⟩)
 (slL ⟨s9.a, s9.len, s9.cap⟩ (a0.len : Int) 1 fun s17 =>
 cpy 1 ⟨s17.a, s17.len, s17.cap⟩ ⟨a2.a, a2.len, a2.cap⟩ fun n18 =>
 slL ⟨s9.a, s9.len, s9.cap⟩ a1 1 fun s19 =>
 callT Try.prog fn_slices_rotateRight_clauses_Clause #[(.slice s19.a s19.len s19.cap), (.int .i64 (a2.len : Int))] (.tup .nil) fun r20 =>
 K ⟨s9.a, s9.len, s9.cap⟩))))
set_option maxRecDepth 100000 in
theorem E_slices_Insert_clauses_Clause_clauses_Clause (a0 : Sl) (a1 : Int) (a2 : Sl) (K : Sl → HP) (h : Heap) : fnVC Try.prog [(1000000, .nil)] 95 Try.f15 [(.slice a0.a a0.len a0.cap), (.int .i64 a1), (.slice a2.a a2.len a2.cap)] .sl K h = F_slices_Insert_clauses_Clause_clauses_Clause a0 a1 a2 K h := by kernel_rfl
set_option maxRecDepth 100000 in
theorem S_slices_Insert_clauses_Clause_clauses_Clause{h : Heap} {a0 : Sl} {a1 : Int} {a2 : Sl} (K : Sl → HP) (hF : F_slices_Insert_clauses_Clause_clauses_Clause a0 a1 a2 K h) : CallsH Try.prog fn_slices_Insert_clauses_Clause_clauses_Clause #[(.slice a0.a a0.len a0.cap), (.int .i64 a1), (.slice a2.a a2.len a2.cap)] h fun v h' => ∃ x : Sl, v = Ty.enc .sl x ∧ K x h' :=
  callsH_of_fn (P := Try.prog) (fn := Try.f15) (τ := .sl) follows Try.func15 (by kernel_rfl) (by kernel_rfl) Try.call15 (Eq.mpr (E_slices_Insert_clauses_Clause_clauses_Clause a0 a1 a2 K h) hF)


/-- salvor/clauses.Right -/
def F_clauses_Right (a0 : Sl) (K : Bool → HP) : HP :=
 brB (decide ((a0.len : Int) ≤ (4096 : Int)))
 (callT Try.prog fn_slices_ContainsFunc_clauses_Clause_lits_Lit #[(.slice a0.a a0.len a0.cap), (.func (.func fn_clauses_wrong) #[] #[])] .bool fun r0 =>
 K (!r0))
 (K false)
set_option maxRecDepth 100000 in
theorem E_clauses_Right (a0 : Sl) (K : Bool → HP) (h : Heap) : fnVC Try.prog [(1000000, .nil)] 11 Try.f16 [(.slice a0.a a0.len a0.cap)] .bool K h = F_clauses_Right a0 K h := by kernel_rfl
set_option maxRecDepth 100000 in
theorem S_clauses_Right{h : Heap} {a0 : Sl} (K : Bool → HP) (hF : F_clauses_Right a0 K h) : CallsH Try.prog fn_clauses_Right #[(.slice a0.a a0.len a0.cap)] h fun v h' => ∃ x : Bool, v = Ty.enc .bool x ∧ K x h' :=
  callsH_of_fn (P := Try.prog) (fn := Try.f16) (τ := .bool) follows Try.func16 (by kernel_rfl) (by kernel_rfl) Try.call16 (Eq.mpr (E_clauses_Right a0 K h) hF)


/-- salvor/formula.Check -/
def F_formula_Check (a0 : (Int × (Sl × Unit))) (K : (Int × (Int × Unit)) → HP) : HP :=
 nw #[(.int .i64 a0.1), (.slice a0.2.1.a a0.2.1.len a0.2.1.cap)] ty_formula_Formula fun b0 =>
 ldT (.int .i64) (⟨b0, 0, none⟩ : Addr) fun x1 =>
 callT Try.prog fn_formula_vars #[(.int .i64 x1)] .bool fun r2 =>
 brB (!r2)
 (K ((-1 : Int), (50 : Int), ()))
 (ldT .sl ((⟨b0, 0, none⟩ : Addr).add 1) fun x3 =>
 brB (decide ((x3.len : Int) > (262144 : Int)))
 (K ((-1 : Int), (5 : Int), ()))
 (ldT .sl ((⟨b0, 0, none⟩ : Addr).add 1) fun x4 =>
 lfp (σ := (Int × (Int × (Int × Unit)))) (fun X5 s6 => /-    -/
 brB (decide (s6.1 < (x4.len : Int)))
 (sx x4.a x4.len s6.1 1 fun p7 =>
 ldT .sl p7 fun x8 =>
 callT Try.prog fn_clauses_Right #[(.slice x8.a x8.len x8.cap)] .bool fun r9 =>
 brB (!r9)
 (K (s6.1, (20 : Int), ()))
 (ldT (.int .i64) (⟨b0, 0, none⟩ : Addr) fun x10 =>
 callT Try.prog fn_formula_beyond #[(.int .i64 x10)] .val fun r11 =>
 callT Try.prog fn_slices_ContainsFunc_clauses_Clause_lits_Lit #[(.slice x8.a x8.len x8.cap), r11] .bool fun r12 =>
 brB r12
 (K (s6.1, (51 : Int), ()))
 (X5 ((IntKind.wrap .i64 (s6.1 + (1 : Int))), s6.2.1, s6.2.2.1, ()))))
 (K ((-1 : Int), (0 : Int), ())))
 ((0 : Int), (0 : Int), (0 : Int), ())))
set_option maxRecDepth 100000 in
theorem E_formula_Check (a0 : (Int × (Sl × Unit))) (K : (Int × (Int × Unit)) → HP) (h : Heap) : fnVC Try.prog [(1000000, .nil)] 37 Try.f17 [(.agg #[(.int .i64 a0.1), (.slice a0.2.1.a a0.2.1.len a0.2.1.cap)])] (.tup (.cons (.int .i64) (.cons (.int .i64) .nil))) K h = F_formula_Check a0 K h := by kernel_rfl
set_option maxRecDepth 100000 in
theorem S_formula_Check{h : Heap} {a0 : (Int × (Sl × Unit))} (K : (Int × (Int × Unit)) → HP) (hF : F_formula_Check a0 K h) : CallsH Try.prog fn_formula_Check #[(.agg #[(.int .i64 a0.1), (.slice a0.2.1.a a0.2.1.len a0.2.1.cap)])] h fun v h' => ∃ x : (Int × (Int × Unit)), v = Ty.enc (.tup (.cons (.int .i64) (.cons (.int .i64) .nil))) x ∧ K x h' :=
  callsH_of_fn (P := Try.prog) (fn := Try.f17) (τ := (.tup (.cons (.int .i64) (.cons (.int .i64) .nil)))) follows Try.func17 (by kernel_rfl) (by kernel_rfl) Try.call17 (Eq.mpr (E_formula_Check a0 K h) hF)


/-- salvor/formula.Value -/
def F_formula_Value (a0 : (Int × (Sl × Unit))) (a1 : Sl) (K : (Bool × (Int × Unit)) → HP) : HP :=
 nw #[(.int .i64 a0.1), (.slice a0.2.1.a a0.2.1.len a0.2.1.cap)] ty_formula_Formula fun b0 =>
 ldA (.cons (.int .i64) (.cons .sl .nil)) (⟨b0, 0, none⟩ : Addr) fun x1 =>
 callT Try.prog fn_formula_Fails #[(.agg #[(.int .i64 x1.1), (.slice x1.2.1.a x1.2.1.len x1.2.1.cap)]), (.slice a1.a a1.len a1.cap)] (.tup (.cons (.int .i64) (.cons .bool (.cons (.int .i64) .nil)))) fun r2 =>
 brB (r2.2.2.1 == (0 : Int))
 (K ((!r2.2.1), r2.2.2.1, ()))
 (K (false, r2.2.2.1, ()))
set_option maxRecDepth 100000 in
theorem E_formula_Value (a0 : (Int × (Sl × Unit))) (a1 : Sl) (K : (Bool × (Int × Unit)) → HP) (h : Heap) : fnVC Try.prog [(1000000, .nil)] 23 Try.f18 [(.agg #[(.int .i64 a0.1), (.slice a0.2.1.a a0.2.1.len a0.2.1.cap)]), (.slice a1.a a1.len a1.cap)] (.tup (.cons .bool (.cons (.int .i64) .nil))) K h = F_formula_Value a0 a1 K h := by kernel_rfl
set_option maxRecDepth 100000 in
theorem S_formula_Value{h : Heap} {a0 : (Int × (Sl × Unit))} {a1 : Sl} (K : (Bool × (Int × Unit)) → HP) (hF : F_formula_Value a0 a1 K h) : CallsH Try.prog fn_formula_Value #[(.agg #[(.int .i64 a0.1), (.slice a0.2.1.a a0.2.1.len a0.2.1.cap)]), (.slice a1.a a1.len a1.cap)] h fun v h' => ∃ x : (Bool × (Int × Unit)), v = Ty.enc (.tup (.cons .bool (.cons (.int .i64) .nil))) x ∧ K x h' :=
  callsH_of_fn (P := Try.prog) (fn := Try.f18) (τ := (.tup (.cons .bool (.cons (.int .i64) .nil)))) follows Try.func18 (by kernel_rfl) (by kernel_rfl) Try.call18 (Eq.mpr (E_formula_Value a0 a1 K h) hF)


/-- salvor/formula.Norm -/
def F_formula_Norm (a0 : (Int × (Sl × Unit))) (K : ((Int × (Sl × Unit)) × (Int × Unit)) → HP) : HP :=
 nw #[(.int .i64 a0.1), (.slice a0.2.1.a a0.2.1.len a0.2.1.cap)] ty_formula_Formula fun b0 =>
 nw #[(.int .i64 (0 : Int)), (.slice none 0 0)] ty_formula_Formula fun b1 =>
 ldA (.cons (.int .i64) (.cons .sl .nil)) (⟨b0, 0, none⟩ : Addr) fun x2 =>
 callT Try.prog fn_formula_Check #[(.agg #[(.int .i64 x2.1), (.slice x2.2.1.a x2.2.1.len x2.2.1.cap)])] (.tup (.cons (.int .i64) (.cons (.int .i64) .nil))) fun r3 =>
 brB (r3.2.1 != (0 : Int))
 (st1 (⟨b1, 0, none⟩ : Addr) (.int .i64 (0 : Int)) <|
 st1 ((⟨b1, 0, none⟩ : Addr).add 1) (.slice none 0 0) <|
 ldA (.cons (.int .i64) (.cons .sl .nil)) (⟨b1, 0, none⟩ : Addr) fun x4 =>
 K ((x4.1, ⟨x4.2.1.a, x4.2.1.len, x4.2.1.cap⟩, ()), r3.2.1, ()))
 (ldT (.int .i64) (⟨b0, 0, none⟩ : Addr) fun x5 =>
 nw #[(.int .i64 (0 : Int)), (.slice none 0 0)] ty_formula_Formula fun b6 =>
 st1 (⟨b6, 0, none⟩ : Addr) (.int .i64 x5) <|
 st1 ((⟨b6, 0, none⟩ : Addr).add 1) (.slice none 0 0) <|
 ldT .sl ((⟨b0, 0, none⟩ : Addr).add 1) fun x7 =>
 lfp (σ := (Int × Unit)) (fun X8 s9 => /-  -/
 brB (decide (s9.1 < (x7.len : Int)))
 (sx x7.a x7.len s9.1 1 fun p10 =>
 ldT .sl p10 fun x11 =>
 callT Try.prog fn_clauses_Norm #[(.slice x11.a x11.len x11.cap)] (.tup (.cons .sl (.cons .bool (.cons (.int .i64) .nil)))) fun r12 =>
 jn (σ := Unit) (fun s14 => /- -/
 X8 ((IntKind.wrap .i64 (s9.1 + (1 : Int))), ()))
 (fun J13 =>
 brB (!r12.2.1)
 (ldT .sl ((⟨b6, 0, none⟩ : Addr).add 1) fun x15 =>
 nw #[(.slice r12.1.a r12.1.len r12.1.cap)] ty_clauses_Clause fun b16 =>
 apd ty_clauses_Clause 1 24 #[(.slice none 0 0)] ⟨x15.a, x15.len, x15.cap⟩ ⟨(some (⟨b16, 0, none⟩ : Addr)), 1, 1⟩ fun s17 =>
 st1 ((⟨b6, 0, none⟩ : Addr).add 1) (.slice s17.a s17.len s17.cap) <|
 J13 (()))
 (J13 (()))))
 (ldT .sl ((⟨b6, 0, none⟩ : Addr).add 1) fun x18 =>
 callT Try.prog fn_slices_SortFunc_clauses_Clause_clauses_Clause #[(.slice x18.a x18.len x18.cap), (.func (.func fn_clauses_Compare) #[] #[])] (.tup .nil) fun r19 =>
 ldT .sl ((⟨b6, 0, none⟩ : Addr).add 1) fun x20 =>
 callT Try.prog fn_slices_CompactFunc_clauses_Clause_clauses_Clause #[(.slice x20.a x20.len x20.cap), (.func (.func fn_formula_Norm_1) #[] #[])] .sl fun r21 =>
 st1 ((⟨b6, 0, none⟩ : Addr).add 1) (.slice r21.a r21.len r21.cap) <|
 ldA (.cons (.int .i64) (.cons .sl .nil)) (⟨b6, 0, none⟩ : Addr) fun x22 =>
 st1 (⟨b1, 0, none⟩ : Addr) (.int .i64 x22.1) <|
 st1 ((⟨b1, 0, none⟩ : Addr).add 1) (.slice x22.2.1.a x22.2.1.len x22.2.1.cap) <|
 ldA (.cons (.int .i64) (.cons .sl .nil)) (⟨b1, 0, none⟩ : Addr) fun x23 =>
 K ((x23.1, ⟨x23.2.1.a, x23.2.1.len, x23.2.1.cap⟩, ()), (0 : Int), ())))
 ((0 : Int), ()))
set_option maxRecDepth 100000 in
theorem E_formula_Norm (a0 : (Int × (Sl × Unit))) (K : ((Int × (Sl × Unit)) × (Int × Unit)) → HP) (h : Heap) : fnVC Try.prog [(1000000, .nil)] 54 Try.f19 [(.agg #[(.int .i64 a0.1), (.slice a0.2.1.a a0.2.1.len a0.2.1.cap)])] (.tup (.cons (.agg (.cons (.int .i64) (.cons .sl .nil))) (.cons (.int .i64) .nil))) K h = F_formula_Norm a0 K h := by kernel_rfl
set_option maxRecDepth 100000 in
theorem S_formula_Norm{h : Heap} {a0 : (Int × (Sl × Unit))} (K : ((Int × (Sl × Unit)) × (Int × Unit)) → HP) (hF : F_formula_Norm a0 K h) : CallsH Try.prog fn_formula_Norm #[(.agg #[(.int .i64 a0.1), (.slice a0.2.1.a a0.2.1.len a0.2.1.cap)])] h fun v h' => ∃ x : ((Int × (Sl × Unit)) × (Int × Unit)), v = Ty.enc (.tup (.cons (.agg (.cons (.int .i64) (.cons .sl .nil))) (.cons (.int .i64) .nil))) x ∧ K x h' :=
  callsH_of_fn (P := Try.prog) (fn := Try.f19) (τ := (.tup (.cons (.agg (.cons (.int .i64) (.cons .sl .nil))) (.cons (.int .i64) .nil)))) follows Try.func19 (by kernel_rfl) (by kernel_rfl) Try.call19 (Eq.mpr (E_formula_Norm a0 K h) hF)


/-- salvor/formula.Assign -/
def F_formula_Assign (a0 : (Int × (Sl × Unit))) (a1 : Int) (K : ((Int × (Sl × Unit)) × (Int × Unit)) → HP) : HP :=
 nw #[(.int .i64 a0.1), (.slice a0.2.1.a a0.2.1.len a0.2.1.cap)] ty_formula_Formula fun b0 =>
 nw #[(.int .i64 a1)] ty_lits_Lit fun b1 =>
 nw #[(.int .i64 (0 : Int)), (.slice none 0 0)] ty_formula_Formula fun b2 =>
 ldA (.cons (.int .i64) (.cons .sl .nil)) (⟨b0, 0, none⟩ : Addr) fun x3 =>
 callT Try.prog fn_formula_Check #[(.agg #[(.int .i64 x3.1), (.slice x3.2.1.a x3.2.1.len x3.2.1.cap)])] (.tup (.cons (.int .i64) (.cons (.int .i64) .nil))) fun r4 =>
 brB (r4.2.1 != (0 : Int))
 (st1 (⟨b2, 0, none⟩ : Addr) (.int .i64 (0 : Int)) <|
 st1 ((⟨b2, 0, none⟩ : Addr).add 1) (.slice none 0 0) <|
 ldA (.cons (.int .i64) (.cons .sl .nil)) (⟨b2, 0, none⟩ : Addr) fun x5 =>
 K ((x5.1, ⟨x5.2.1.a, x5.2.1.len, x5.2.1.cap⟩, ()), r4.2.1, ()))
 (ldT (.int .i64) (⟨b0, 0, none⟩ : Addr) fun x6 =>
 ldT (.int .i64) (⟨b1, 0, none⟩ : Addr) fun x7 =>
 callT Try.prog fn_formula_beyond #[(.int .i64 x6)] .val fun r8 =>
 ck (⟨b1, 0, none⟩ : Addr) (.int .i64 x7) <|
 callF Try.prog r8 #[(.int .i64 x7)] .bool fun r9 =>
 brB r9
 (st1 (⟨b2, 0, none⟩ : Addr) (.int .i64 (0 : Int)) <|
 st1 ((⟨b2, 0, none⟩ : Addr).add 1) (.slice none 0 0) <|
 ldA (.cons (.int .i64) (.cons .sl .nil)) (⟨b2, 0, none⟩ : Addr) fun x10 =>
 K ((x10.1, ⟨x10.2.1.a, x10.2.1.len, x10.2.1.cap⟩, ()), (51 : Int), ()))
 (ldT (.int .i64) (⟨b0, 0, none⟩ : Addr) fun x11 =>
 nw #[(.int .i64 (0 : Int)), (.slice none 0 0)] ty_formula_Formula fun b12 =>
 st1 (⟨b12, 0, none⟩ : Addr) (.int .i64 x11) <|
 st1 ((⟨b12, 0, none⟩ : Addr).add 1) (.slice none 0 0) <|
 ldT .sl ((⟨b0, 0, none⟩ : Addr).add 1) fun x13 =>
 lfp (σ := (Int × Unit)) (fun X14 s15 => /-  -/
 brB (decide (s15.1 < (x13.len : Int)))
 (sx x13.a x13.len s15.1 1 fun p16 =>
 ldT .sl p16 fun x17 =>
 ldT (.int .i64) (⟨b1, 0, none⟩ : Addr) fun x18 =>
 callT Try.prog fn_slices_Contains_clauses_Clause_lits_Lit #[(.slice x17.a x17.len x17.cap), (.int .i64 x18)] .bool fun r19 =>
 jn (σ := Unit) (fun s21 => /- -/
 X14 ((IntKind.wrap .i64 (s15.1 + (1 : Int))), ()))
 (fun J20 =>
 brB (!r19)
 (ldT .sl ((⟨b12, 0, none⟩ : Addr).add 1) fun x22 =>
 callT Try.prog fn_slices_Clone_clauses_Clause_lits_Lit #[(.slice x17.a x17.len x17.cap)] .sl fun r23 =>
 ck ((⟨b12, 0, none⟩ : Addr).add 1) (.slice x22.a x22.len x22.cap) <|
 callT Try.prog fn_slices_DeleteFunc_clauses_Clause_lits_Lit #[(.slice r23.a r23.len r23.cap), (.func (.func fn_formula_Assign_1) #[] #[(.pointer (some (⟨b1, 0, none⟩ : Addr)))])] .sl fun r24 =>
 ck ((⟨b12, 0, none⟩ : Addr).add 1) (.slice x22.a x22.len x22.cap) <|
 nw #[(.slice r24.a r24.len r24.cap)] ty_clauses_Clause fun b25 =>
 apd ty_clauses_Clause 1 24 #[(.slice none 0 0)] ⟨x22.a, x22.len, x22.cap⟩ ⟨(some (⟨b25, 0, none⟩ : Addr)), 1, 1⟩ fun s26 =>
 st1 ((⟨b12, 0, none⟩ : Addr).add 1) (.slice s26.a s26.len s26.cap) <|
 J20 (()))
 (J20 (()))))
 (ldA (.cons (.int .i64) (.cons .sl .nil)) (⟨b12, 0, none⟩ : Addr) fun x27 =>
 st1 (⟨b2, 0, none⟩ : Addr) (.int .i64 x27.1) <|
 st1 ((⟨b2, 0, none⟩ : Addr).add 1) (.slice x27.2.1.a x27.2.1.len x27.2.1.cap) <|
 ldA (.cons (.int .i64) (.cons .sl .nil)) (⟨b2, 0, none⟩ : Addr) fun x28 =>
 K ((x28.1, ⟨x28.2.1.a, x28.2.1.len, x28.2.1.cap⟩, ()), (0 : Int), ())))
 ((0 : Int), ())))
set_option maxRecDepth 100000 in
theorem E_formula_Assign (a0 : (Int × (Sl × Unit))) (a1 : Int) (K : ((Int × (Sl × Unit)) × (Int × Unit)) → HP) (h : Heap) : fnVC Try.prog [(1000000, .nil)] 51 Try.f20 [(.agg #[(.int .i64 a0.1), (.slice a0.2.1.a a0.2.1.len a0.2.1.cap)]), (.int .i64 a1)] (.tup (.cons (.agg (.cons (.int .i64) (.cons .sl .nil))) (.cons (.int .i64) .nil))) K h = F_formula_Assign a0 a1 K h := by kernel_rfl
set_option maxRecDepth 100000 in
theorem S_formula_Assign{h : Heap} {a0 : (Int × (Sl × Unit))} {a1 : Int} (K : ((Int × (Sl × Unit)) × (Int × Unit)) → HP) (hF : F_formula_Assign a0 a1 K h) : CallsH Try.prog fn_formula_Assign #[(.agg #[(.int .i64 a0.1), (.slice a0.2.1.a a0.2.1.len a0.2.1.cap)]), (.int .i64 a1)] h fun v h' => ∃ x : ((Int × (Sl × Unit)) × (Int × Unit)), v = Ty.enc (.tup (.cons (.agg (.cons (.int .i64) (.cons .sl .nil))) (.cons (.int .i64) .nil))) x ∧ K x h' :=
  callsH_of_fn (P := Try.prog) (fn := Try.f20) (τ := (.tup (.cons (.agg (.cons (.int .i64) (.cons .sl .nil))) (.cons (.int .i64) .nil)))) follows Try.func20 (by kernel_rfl) (by kernel_rfl) Try.call20 (Eq.mpr (E_formula_Assign a0 a1 K h) hF)


/-- salvor/formula.Count -/
def F_formula_Count (a0 : (Int × (Sl × Unit))) (K : (Int × (Int × Unit)) → HP) : HP := fun h0 => (
 nw #[(.int .i64 a0.1), (.slice a0.2.1.a a0.2.1.len a0.2.1.cap)] ty_formula_Formula fun b0 =>
 ldA (.cons (.int .i64) (.cons .sl .nil)) (⟨b0, 0, none⟩ : Addr) fun x1 =>
 callT Try.prog fn_formula_Models #[(.agg #[(.int .i64 x1.1), (.slice x1.2.1.a x1.2.1.len x1.2.1.cap)])] (.tup (.cons .val (.cons (.int .i64) .nil))) fun r2 =>
 brB (r2.2.1 != (0 : Int))
 (mkd h0.size <|
 K ((0 : Int), r2.2.1, ()))
 (nw #[(.int .i64 (0 : Int))] ty_int fun b3 =>
 st1 (⟨b3, 0, none⟩ : Addr) (.int .i64 (0 : Int)) <|
 RangeVC Try.prog (.cons .val .nil) r2.1 (fun x4 wrap5 next6 jump7 =>
 wrap5 <|
 ldT (.int .i64) (⟨b3, 0, none⟩ : Addr) fun x8 =>
 st1 (⟨b3, 0, none⟩ : Addr) (.int .i64 (IntKind.wrap .i64 (x8 + (1 : Int)))) <|
 next6)
 (ldT (.int .i64) (⟨b3, 0, none⟩ : Addr) fun x9 =>
 mkd h0.size <|
 K (x9, (0 : Int), ()))
 (mkd h0.size <|
 K ((0 : Int), (0 : Int), ()))
 []
 [])) h0
set_option maxRecDepth 100000 in
theorem E_formula_Count (a0 : (Int × (Sl × Unit))) (K : (Int × (Int × Unit)) → HP) (h : Heap) : fnVC Try.prog [(1000000, .nil), (16, (.cons .val .nil))] 20 Try.f21 [(.agg #[(.int .i64 a0.1), (.slice a0.2.1.a a0.2.1.len a0.2.1.cap)])] (.tup (.cons (.int .i64) (.cons (.int .i64) .nil))) K h = F_formula_Count a0 K h := by kernel_rfl
set_option maxRecDepth 100000 in
theorem S_formula_Count{h : Heap} {a0 : (Int × (Sl × Unit))} (K : (Int × (Int × Unit)) → HP) (hF : F_formula_Count a0 K h) : CallsH Try.prog fn_formula_Count #[(.agg #[(.int .i64 a0.1), (.slice a0.2.1.a a0.2.1.len a0.2.1.cap)])] h fun v h' => ∃ x : (Int × (Int × Unit)), v = Ty.enc (.tup (.cons (.int .i64) (.cons (.int .i64) .nil))) x ∧ K x h' :=
  callsH_of_fn (P := Try.prog) (fn := Try.f21) (τ := (.tup (.cons (.int .i64) (.cons (.int .i64) .nil)))) follows Try.func21 (by kernel_rfl) (by kernel_rfl) Try.call21 (Eq.mpr (E_formula_Count a0 K h) hF)


/-- salvor/formula.Fails -/
def F_formula_Fails (a0 : (Int × (Sl × Unit))) (a1 : Sl) (K : (Int × (Bool × (Int × Unit))) → HP) : HP :=
 nw #[(.int .i64 a0.1), (.slice a0.2.1.a a0.2.1.len a0.2.1.cap)] ty_formula_Formula fun b0 =>
 ldA (.cons (.int .i64) (.cons .sl .nil)) (⟨b0, 0, none⟩ : Addr) fun x1 =>
 callT Try.prog fn_formula_Check #[(.agg #[(.int .i64 x1.1), (.slice x1.2.1.a x1.2.1.len x1.2.1.cap)])] (.tup (.cons (.int .i64) (.cons (.int .i64) .nil))) fun r2 =>
 brB (r2.2.1 != (0 : Int))
 (K ((0 : Int), false, r2.2.1, ()))
 (ldT (.int .i64) (⟨b0, 0, none⟩ : Addr) fun x3 =>
 brB ((a1.len : Int) != x3)
 (K ((0 : Int), false, (52 : Int), ()))
 (ldA (.cons (.int .i64) (.cons .sl .nil)) (⟨b0, 0, none⟩ : Addr) fun x4 =>
 callT Try.prog fn_formula_fails #[(.agg #[(.int .i64 x4.1), (.slice x4.2.1.a x4.2.1.len x4.2.1.cap)]), (.slice a1.a a1.len a1.cap)] (.int .i64) fun r5 =>
 brB (decide (r5 ≥ (0 : Int)))
 (K (r5, true, (0 : Int), ()))
 (K ((0 : Int), false, (0 : Int), ()))))
set_option maxRecDepth 100000 in
theorem E_formula_Fails (a0 : (Int × (Sl × Unit))) (a1 : Sl) (K : (Int × (Bool × (Int × Unit))) → HP) (h : Heap) : fnVC Try.prog [(1000000, .nil)] 29 Try.f22 [(.agg #[(.int .i64 a0.1), (.slice a0.2.1.a a0.2.1.len a0.2.1.cap)]), (.slice a1.a a1.len a1.cap)] (.tup (.cons (.int .i64) (.cons .bool (.cons (.int .i64) .nil)))) K h = F_formula_Fails a0 a1 K h := by kernel_rfl
set_option maxRecDepth 100000 in
theorem S_formula_Fails{h : Heap} {a0 : (Int × (Sl × Unit))} {a1 : Sl} (K : (Int × (Bool × (Int × Unit))) → HP) (hF : F_formula_Fails a0 a1 K h) : CallsH Try.prog fn_formula_Fails #[(.agg #[(.int .i64 a0.1), (.slice a0.2.1.a a0.2.1.len a0.2.1.cap)]), (.slice a1.a a1.len a1.cap)] h fun v h' => ∃ x : (Int × (Bool × (Int × Unit))), v = Ty.enc (.tup (.cons (.int .i64) (.cons .bool (.cons (.int .i64) .nil)))) x ∧ K x h' :=
  callsH_of_fn (P := Try.prog) (fn := Try.f22) (τ := (.tup (.cons (.int .i64) (.cons .bool (.cons (.int .i64) .nil))))) follows Try.func22 (by kernel_rfl) (by kernel_rfl) Try.call22 (Eq.mpr (E_formula_Fails a0 a1 K h) hF)


/-- salvor/salvorlaw05.Of -/
def F_salvorlaw05_Of (a0 : Int) (a1 : Sl) (K : (Int × (Sl × Unit)) → HP) : HP :=
 nw #[(.int .i64 (0 : Int)), (.slice none 0 0)] ty_formula_Formula fun b0 =>
 nw #[(.int .i64 (0 : Int)), (.slice none 0 0)] ty_formula_Formula fun b1 =>
 st1 (⟨b1, 0, none⟩ : Addr) (.int .i64 a0) <|
 st1 ((⟨b1, 0, none⟩ : Addr).add 1) (.slice none 0 0) <|
 lfp (σ := (Int × Unit)) (fun X2 s3 => /-  -/
 brB (decide (s3.1 < (a1.len : Int)))
 (sx a1.a a1.len s3.1 1 fun p4 =>
 ldT .sl p4 fun x5 =>
 ldT .sl ((⟨b1, 0, none⟩ : Addr).add 1) fun x6 =>
 callT Try.prog fn_salvorlaw02_Clause #[(.slice x5.a x5.len x5.cap)] .sl fun r7 =>
 ck ((⟨b1, 0, none⟩ : Addr).add 1) (.slice x6.a x6.len x6.cap) <|
 nw #[(.slice r7.a r7.len r7.cap)] ty_clauses_Clause fun b8 =>
 apd ty_clauses_Clause 1 24 #[(.slice none 0 0)] ⟨x6.a, x6.len, x6.cap⟩ ⟨(some (⟨b8, 0, none⟩ : Addr)), 1, 1⟩ fun s9 =>
 st1 ((⟨b1, 0, none⟩ : Addr).add 1) (.slice s9.a s9.len s9.cap) <|
 X2 ((IntKind.wrap .i64 (s3.1 + (1 : Int))), ()))
 (ldA (.cons (.int .i64) (.cons .sl .nil)) (⟨b1, 0, none⟩ : Addr) fun x10 =>
 st1 (⟨b0, 0, none⟩ : Addr) (.int .i64 x10.1) <|
 st1 ((⟨b0, 0, none⟩ : Addr).add 1) (.slice x10.2.1.a x10.2.1.len x10.2.1.cap) <|
 ldA (.cons (.int .i64) (.cons .sl .nil)) (⟨b0, 0, none⟩ : Addr) fun x11 =>
 K (x11.1, ⟨x11.2.1.a, x11.2.1.len, x11.2.1.cap⟩, ())))
 ((0 : Int), ())
set_option maxRecDepth 100000 in
theorem E_salvorlaw05_Of (a0 : Int) (a1 : Sl) (K : (Int × (Sl × Unit)) → HP) (h : Heap) : fnVC Try.prog [(1000000, .nil)] 25 Try.f23 [(.int .i64 a0), (.slice a1.a a1.len a1.cap)] (.agg (.cons (.int .i64) (.cons .sl .nil))) K h = F_salvorlaw05_Of a0 a1 K h := by kernel_rfl
set_option maxRecDepth 100000 in
theorem S_salvorlaw05_Of{h : Heap} {a0 : Int} {a1 : Sl} (K : (Int × (Sl × Unit)) → HP) (hF : F_salvorlaw05_Of a0 a1 K h) : CallsH Try.prog fn_salvorlaw05_Of #[(.int .i64 a0), (.slice a1.a a1.len a1.cap)] h fun v h' => ∃ x : (Int × (Sl × Unit)), v = Ty.enc (.agg (.cons (.int .i64) (.cons .sl .nil))) x ∧ K x h' :=
  callsH_of_fn (P := Try.prog) (fn := Try.f23) (τ := (.agg (.cons (.int .i64) (.cons .sl .nil)))) follows Try.func23 (by kernel_rfl) (by kernel_rfl) Try.call23 (Eq.mpr (E_salvorlaw05_Of a0 a1 K h) hF)


/-- salvor/formula.First -/
def F_formula_First (a0 : (Int × (Sl × Unit))) (K : (Sl × (Bool × (Int × Unit))) → HP) : HP := fun h0 => (
 nw #[(.int .i64 a0.1), (.slice a0.2.1.a a0.2.1.len a0.2.1.cap)] ty_formula_Formula fun b0 =>
 nw #[(.slice none 0 0)] ty_sl_bool fun b1 =>
 nw #[(.bool false)] ty_bool fun b2 =>
 nw #[(.int .i64 (0 : Int))] ty_api_Errno fun b3 =>
 ldA (.cons (.int .i64) (.cons .sl .nil)) (⟨b0, 0, none⟩ : Addr) fun x4 =>
 callT Try.prog fn_formula_Models #[(.agg #[(.int .i64 x4.1), (.slice x4.2.1.a x4.2.1.len x4.2.1.cap)])] (.tup (.cons .val (.cons (.int .i64) .nil))) fun r5 =>
 brB (r5.2.1 != (0 : Int))
 (st1 (⟨b1, 0, none⟩ : Addr) (.slice none 0 0) <|
 st1 (⟨b2, 0, none⟩ : Addr) (.bool false) <|
 st1 (⟨b3, 0, none⟩ : Addr) (.int .i64 r5.2.1) <|
 mkd h0.size <|
 ldT .sl (⟨b1, 0, none⟩ : Addr) fun x6 =>
 ldT .bool (⟨b2, 0, none⟩ : Addr) fun x7 =>
 ldT (.int .i64) (⟨b3, 0, none⟩ : Addr) fun x8 =>
 K (⟨x6.a, x6.len, x6.cap⟩, x7, x8, ()))
 (RangeVC Try.prog (.cons .sl .nil) r5.1 (fun x9 wrap10 next11 jump12 =>
 wrap10 <|
 st1 (⟨b1, 0, none⟩ : Addr) (.slice x9.1.a x9.1.len x9.1.cap) <|
 st1 (⟨b2, 0, none⟩ : Addr) (.bool true) <|
 st1 (⟨b3, 0, none⟩ : Addr) (.int .i64 (0 : Int)) <|
 jump12 .ret)
 (st1 (⟨b1, 0, none⟩ : Addr) (.slice none 0 0) <|
 st1 (⟨b2, 0, none⟩ : Addr) (.bool false) <|
 st1 (⟨b3, 0, none⟩ : Addr) (.int .i64 (0 : Int)) <|
 mkd h0.size <|
 ldT .sl (⟨b1, 0, none⟩ : Addr) fun x13 =>
 ldT .bool (⟨b2, 0, none⟩ : Addr) fun x14 =>
 ldT (.int .i64) (⟨b3, 0, none⟩ : Addr) fun x15 =>
 K (⟨x13.a, x13.len, x13.cap⟩, x14, x15, ()))
 (mkd h0.size <|
 ldT .sl (⟨b1, 0, none⟩ : Addr) fun x16 =>
 ldT .bool (⟨b2, 0, none⟩ : Addr) fun x17 =>
 ldT (.int .i64) (⟨b3, 0, none⟩ : Addr) fun x18 =>
 K (⟨x16.a, x16.len, x16.cap⟩, x17, x18, ()))
 []
 [])) h0
set_option maxRecDepth 100000 in
theorem E_formula_First (a0 : (Int × (Sl × Unit))) (K : (Sl × (Bool × (Int × Unit))) → HP) (h : Heap) : fnVC Try.prog [(1000000, .nil), (17, (.cons .sl .nil))] 19 Try.f24 [(.agg #[(.int .i64 a0.1), (.slice a0.2.1.a a0.2.1.len a0.2.1.cap)])] (.tup (.cons .sl (.cons .bool (.cons (.int .i64) .nil)))) K h = F_formula_First a0 K h := by kernel_rfl
set_option maxRecDepth 100000 in
theorem S_formula_First{h : Heap} {a0 : (Int × (Sl × Unit))} (K : (Sl × (Bool × (Int × Unit))) → HP) (hF : F_formula_First a0 K h) : CallsH Try.prog fn_formula_First #[(.agg #[(.int .i64 a0.1), (.slice a0.2.1.a a0.2.1.len a0.2.1.cap)])] h fun v h' => ∃ x : (Sl × (Bool × (Int × Unit))), v = Ty.enc (.tup (.cons .sl (.cons .bool (.cons (.int .i64) .nil)))) x ∧ K x h' :=
  callsH_of_fn (P := Try.prog) (fn := Try.f24) (τ := (.tup (.cons .sl (.cons .bool (.cons (.int .i64) .nil))))) follows Try.func24 (by kernel_rfl) (by kernel_rfl) Try.call24 (Eq.mpr (E_formula_First a0 K h) hF)


/-- salvor/formula.Same -/
def F_formula_Same (a0 : (Int × (Sl × Unit))) (a1 : (Int × (Sl × Unit))) (K : Bool → HP) : HP :=
 nw #[(.int .i64 a0.1), (.slice a0.2.1.a a0.2.1.len a0.2.1.cap)] ty_formula_Formula fun b0 =>
 nw #[(.int .i64 a1.1), (.slice a1.2.1.a a1.2.1.len a1.2.1.cap)] ty_formula_Formula fun b1 =>
 ldT (.int .i64) (⟨b0, 0, none⟩ : Addr) fun x2 =>
 ldT (.int .i64) (⟨b1, 0, none⟩ : Addr) fun x3 =>
 brB (x2 == x3)
 (ldT .sl ((⟨b0, 0, none⟩ : Addr).add 1) fun x4 =>
 ldT .sl ((⟨b1, 0, none⟩ : Addr).add 1) fun x5 =>
 callT Try.prog fn_slices_EqualFunc_clauses_Clause_clauses_Clause_clauses_Clause_clauses_Clause #[(.slice x4.a x4.len x4.cap), (.slice x5.a x5.len x5.cap), (.func (.func fn_formula_Same_1) #[] #[])] .bool fun r6 =>
 K r6)
 (K false)
set_option maxRecDepth 100000 in
theorem E_formula_Same (a0 : (Int × (Sl × Unit))) (a1 : (Int × (Sl × Unit))) (K : Bool → HP) (h : Heap) : fnVC Try.prog [(1000000, .nil)] 17 Try.f25 [(.agg #[(.int .i64 a0.1), (.slice a0.2.1.a a0.2.1.len a0.2.1.cap)]), (.agg #[(.int .i64 a1.1), (.slice a1.2.1.a a1.2.1.len a1.2.1.cap)])] .bool K h = F_formula_Same a0 a1 K h := by kernel_rfl
set_option maxRecDepth 100000 in
theorem S_formula_Same{h : Heap} {a0 : (Int × (Sl × Unit))} {a1 : (Int × (Sl × Unit))} (K : Bool → HP) (hF : F_formula_Same a0 a1 K h) : CallsH Try.prog fn_formula_Same #[(.agg #[(.int .i64 a0.1), (.slice a0.2.1.a a0.2.1.len a0.2.1.cap)]), (.agg #[(.int .i64 a1.1), (.slice a1.2.1.a a1.2.1.len a1.2.1.cap)])] h fun v h' => ∃ x : Bool, v = Ty.enc .bool x ∧ K x h' :=
  callsH_of_fn (P := Try.prog) (fn := Try.f25) (τ := .bool) follows Try.func25 (by kernel_rfl) (by kernel_rfl) Try.call25 (Eq.mpr (E_formula_Same a0 a1 K h) hF)


/-- salvor/lits.Of -/
def F_lits_Of (a0 : Int) (a1 : Bool) (K : (Int × (Int × Unit)) → HP) : HP :=
 brB (decide (a0 < (1 : Int)))
 (K ((0 : Int), (10 : Int), ()))
 (brB (decide (a0 > (1048576 : Int)))
 (K ((0 : Int), (10 : Int), ()))
 (brB a1
 (K ((IntKind.wrap .i64 (0 - a0)), (0 : Int), ()))
 (K (a0, (0 : Int), ()))))
set_option maxRecDepth 100000 in
theorem E_lits_Of (a0 : Int) (a1 : Bool) (K : (Int × (Int × Unit)) → HP) (h : Heap) : fnVC Try.prog [(1000000, .nil)] 16 Try.f26 [(.int .i64 a0), (.bool a1)] (.tup (.cons (.int .i64) (.cons (.int .i64) .nil))) K h = F_lits_Of a0 a1 K h := by kernel_rfl
set_option maxRecDepth 100000 in
theorem S_lits_Of{h : Heap} {a0 : Int} {a1 : Bool} (K : (Int × (Int × Unit)) → HP) (hF : F_lits_Of a0 a1 K h) : CallsH Try.prog fn_lits_Of #[(.int .i64 a0), (.bool a1)] h fun v h' => ∃ x : (Int × (Int × Unit)), v = Ty.enc (.tup (.cons (.int .i64) (.cons (.int .i64) .nil))) x ∧ K x h' :=
  callsH_of_fn (P := Try.prog) (fn := Try.f26) (τ := (.tup (.cons (.int .i64) (.cons (.int .i64) .nil)))) follows Try.func26 (by kernel_rfl) (by kernel_rfl) Try.call26 (Eq.mpr (E_lits_Of a0 a1 K h) hF)


/-- salvor/formula.vars -/
def F_formula_vars (a0 : Int) (K : Bool → HP) : HP :=
 brB (decide (a0 ≥ (0 : Int)))
 (K (decide (a0 ≤ (1048576 : Int))))
 (K false)
set_option maxRecDepth 100000 in
theorem E_formula_vars (a0 : Int) (K : Bool → HP) (h : Heap) : fnVC Try.prog [(1000000, .nil)] 9 Try.f27 [(.int .i64 a0)] .bool K h = F_formula_vars a0 K h := by kernel_rfl
set_option maxRecDepth 100000 in
theorem S_formula_vars{h : Heap} {a0 : Int} (K : Bool → HP) (hF : F_formula_vars a0 K h) : CallsH Try.prog fn_formula_vars #[(.int .i64 a0)] h fun v h' => ∃ x : Bool, v = Ty.enc .bool x ∧ K x h' :=
  callsH_of_fn (P := Try.prog) (fn := Try.f27) (τ := .bool) follows Try.func27 (by kernel_rfl) (by kernel_rfl) Try.call27 (Eq.mpr (E_formula_vars a0 K h) hF)


/-- salvor/formula.beyond -/
def F_formula_beyond (a0 : Int) (K : Value → HP) : HP :=
 nw #[(.int .i64 a0)] ty_int fun b0 =>
 K (.func (.func fn_formula_beyond_1) #[] #[(.pointer (some (⟨b0, 0, none⟩ : Addr)))])
set_option maxRecDepth 100000 in
theorem E_formula_beyond (a0 : Int) (K : Value → HP) (h : Heap) : fnVC Try.prog [(1000000, .nil)] 4 Try.f28 [(.int .i64 a0)] .val K h = F_formula_beyond a0 K h := by kernel_rfl
set_option maxRecDepth 100000 in
theorem S_formula_beyond{h : Heap} {a0 : Int} (K : Value → HP) (hF : F_formula_beyond a0 K h) : CallsH Try.prog fn_formula_beyond #[(.int .i64 a0)] h fun v h' => ∃ x : Value, v = Ty.enc .val x ∧ K x h' :=
  callsH_of_fn (P := Try.prog) (fn := Try.f28) (τ := .val) follows Try.func28 (by kernel_rfl) (by kernel_rfl) Try.call28 (Eq.mpr (E_formula_beyond a0 K h) hF)


/-- slices.Index[[]bool,bool] -/
def F_slices_Index_bool_bool (a0 : Sl) (a1 : Bool) (K : Int → HP) : HP :=
 lfp (σ := (Int × (Int × Unit))) (fun X0 s1 => /-   -/
 brB (decide (s1.1 < (a0.len : Int)))
 (sx a0.a a0.len s1.1 1 fun p2 =>
 ldT .bool p2 fun x3 =>
 brB (a1 == x3)
 (K s1.1)
 (X0 ((IntKind.wrap .i64 (s1.1 + (1 : Int))), s1.2.1, ())))
 (K (-1 : Int)))
 ((0 : Int), (0 : Int), ())
set_option maxRecDepth 100000 in
theorem E_slices_Index_bool_bool (a0 : Sl) (a1 : Bool) (K : Int → HP) (h : Heap) : fnVC Try.prog [(1000000, .nil)] 19 Try.f29 [(.slice a0.a a0.len a0.cap), (.bool a1)] (.int .i64) K h = F_slices_Index_bool_bool a0 a1 K h := by kernel_rfl
set_option maxRecDepth 100000 in
theorem S_slices_Index_bool_bool{h : Heap} {a0 : Sl} {a1 : Bool} (K : Int → HP) (hF : F_slices_Index_bool_bool a0 a1 K h) : CallsH Try.prog fn_slices_Index_bool_bool #[(.slice a0.a a0.len a0.cap), (.bool a1)] h fun v h' => ∃ x : Int, v = Ty.enc (.int .i64) x ∧ K x h' :=
  callsH_of_fn (P := Try.prog) (fn := Try.f29) (τ := (.int .i64)) follows Try.func29 (by kernel_rfl) (by kernel_rfl) Try.call29 (Eq.mpr (E_slices_Index_bool_bool a0 a1 K h) hF)


/-- salvor/lits.Right -/
def F_lits_Right (a0 : Int) (K : Bool → HP) : HP :=
 brB (a0 != (0 : Int))
 (brB (decide (a0 ≥ (-1048576 : Int)))
 (K (decide (a0 ≤ (1048576 : Int))))
 (K false))
 (K false)
set_option maxRecDepth 100000 in
theorem E_lits_Right (a0 : Int) (K : Bool → HP) (h : Heap) : fnVC Try.prog [(1000000, .nil)] 13 Try.f30 [(.int .i64 a0)] .bool K h = F_lits_Right a0 K h := by kernel_rfl
set_option maxRecDepth 100000 in
theorem S_lits_Right{h : Heap} {a0 : Int} (K : Bool → HP) (hF : F_lits_Right a0 K h) : CallsH Try.prog fn_lits_Right #[(.int .i64 a0)] h fun v h' => ∃ x : Bool, v = Ty.enc .bool x ∧ K x h' :=
  callsH_of_fn (P := Try.prog) (fn := Try.f30) (τ := .bool) follows Try.func30 (by kernel_rfl) (by kernel_rfl) Try.call30 (Eq.mpr (E_lits_Right a0 K h) hF)


/-- slices.ContainsFunc[salvor/clauses.Clause,salvor/lits.Lit] -/
def F_slices_ContainsFunc_clauses_Clause_lits_Lit (a0 : Sl) (a1 : Value) (K : Bool → HP) : HP :=
 callT Try.prog fn_slices_IndexFunc_clauses_Clause_lits_Lit #[(.slice a0.a a0.len a0.cap), a1] (.int .i64) fun r0 =>
 K (decide (r0 ≥ (0 : Int)))
set_option maxRecDepth 100000 in
theorem E_slices_ContainsFunc_clauses_Clause_lits_Lit (a0 : Sl) (a1 : Value) (K : Bool → HP) (h : Heap) : fnVC Try.prog [(1000000, .nil)] 9 Try.f31 [(.slice a0.a a0.len a0.cap), a1] .bool K h = F_slices_ContainsFunc_clauses_Clause_lits_Lit a0 a1 K h := by kernel_rfl
set_option maxRecDepth 100000 in
theorem S_slices_ContainsFunc_clauses_Clause_lits_Lit{h : Heap} {a0 : Sl} {a1 : Value} (K : Bool → HP) (hF : F_slices_ContainsFunc_clauses_Clause_lits_Lit a0 a1 K h) : CallsH Try.prog fn_slices_ContainsFunc_clauses_Clause_lits_Lit #[(.slice a0.a a0.len a0.cap), a1] h fun v h' => ∃ x : Bool, v = Ty.enc .bool x ∧ K x h' :=
  callsH_of_fn (P := Try.prog) (fn := Try.f31) (τ := .bool) follows Try.func31 (by kernel_rfl) (by kernel_rfl) Try.call31 (Eq.mpr (E_slices_ContainsFunc_clauses_Clause_lits_Lit a0 a1 K h) hF)


/-- salvor/formula.in -/
def F_formula_in (a0 : Sl) (K : Value → HP) : HP :=
 nw #[(.slice a0.a a0.len a0.cap)] ty_sl_bool fun b0 =>
 K (.func (.func fn_formula_in_1) #[] #[(.pointer (some (⟨b0, 0, none⟩ : Addr)))])
set_option maxRecDepth 100000 in
theorem E_formula_in (a0 : Sl) (K : Value → HP) (h : Heap) : fnVC Try.prog [(1000000, .nil)] 4 Try.f32 [(.slice a0.a a0.len a0.cap)] .val K h = F_formula_in a0 K h := by kernel_rfl
set_option maxRecDepth 100000 in
theorem S_formula_in{h : Heap} {a0 : Sl} (K : Value → HP) (hF : F_formula_in a0 K h) : CallsH Try.prog fn_formula_in #[(.slice a0.a a0.len a0.cap)] h fun v h' => ∃ x : Value, v = Ty.enc .val x ∧ K x h' :=
  callsH_of_fn (P := Try.prog) (fn := Try.f32) (τ := .val) follows Try.func32 (by kernel_rfl) (by kernel_rfl) Try.call32 (Eq.mpr (E_formula_in a0 K h) hF)


/-- salvor/salvorlaw02.Made -/
def F_salvorlaw02_Made (a0 : Sl) (K : Sl → HP) : HP :=
 slH ⟨a0.a, a0.len, a0.cap⟩ (if (20 : Int) < (a0.len : Int) then (20 : Int) else (a0.len : Int)) 1 fun s0 =>
 lfp (σ := (Int × (Sl × Unit))) (fun X1 s2 => /-  out -/
 brB (decide (s2.1 < (s0.len : Int)))
 (sx s0.a s0.len s2.1 1 fun p3 =>
 ldT (.int .u8) p3 fun x4 =>
 nz (2 : Int) <|
 nz (8 : Int) <|
 nz (2 : Int) <|
 jn (σ := (Int × Unit)) (fun s6 => /- x -/
 nw #[(.int .i64 s6.1)] ty_lits_Lit fun b7 =>
 apd ty_lits_Lit 1 8 #[(.int .i64 (0 : Int))] ⟨s2.2.1.a, s2.2.1.len, s2.2.1.cap⟩ ⟨(some (⟨b7, 0, none⟩ : Addr)), 1, 1⟩ fun s8 =>
 X1 ((IntKind.wrap .i64 (s2.1 + (1 : Int))), ⟨s8.a, s8.len, s8.cap⟩, ()))
 (fun J5 =>
 brB ((Int.tmod x4 (2 : Int)) == (1 : Int))
 (J5 ((IntKind.wrap .i64 (0 - (IntKind.wrap .i64 (IntKind.wrap .u8 ((1 : Int) + (Int.tmod (IntKind.wrap .u8 (Int.tdiv x4 (2 : Int))) (8 : Int))))))), ()))
 (J5 ((IntKind.wrap .i64 (IntKind.wrap .u8 ((1 : Int) + (Int.tmod (IntKind.wrap .u8 (Int.tdiv x4 (2 : Int))) (8 : Int))))), ()))))
 (K ⟨s2.2.1.a, s2.2.1.len, s2.2.1.cap⟩))
 ((0 : Int), ⟨none, 0, 0⟩, ())
set_option maxRecDepth 100000 in
theorem E_salvorlaw02_Made (a0 : Sl) (K : Sl → HP) (h : Heap) : fnVC Try.prog [(1000000, .nil)] 33 Try.f33 [(.slice a0.a a0.len a0.cap)] .sl K h = F_salvorlaw02_Made a0 K h := by kernel_rfl
set_option maxRecDepth 100000 in
theorem S_salvorlaw02_Made{h : Heap} {a0 : Sl} (K : Sl → HP) (hF : F_salvorlaw02_Made a0 K h) : CallsH Try.prog fn_salvorlaw02_Made #[(.slice a0.a a0.len a0.cap)] h fun v h' => ∃ x : Sl, v = Ty.enc .sl x ∧ K x h' :=
  callsH_of_fn (P := Try.prog) (fn := Try.f33) (τ := .sl) follows Try.func33 (by kernel_rfl) (by kernel_rfl) Try.call33 (Eq.mpr (E_salvorlaw02_Made a0 K h) hF)


/-- slices.Clone[salvor/clauses.Clause,salvor/lits.Lit] -/
def F_slices_Clone_clauses_Clause_lits_Lit (a0 : Sl) (K : Sl → HP) : HP :=
 brB (Option.isNone a0.a)
 (K ⟨none, 0, 0⟩)
 (nw #[] ty_lits_Lit fun b0 =>
 apd ty_lits_Lit 1 8 #[(.int .i64 (0 : Int))] ⟨(some (⟨b0, 0, none⟩ : Addr)), 0, 0⟩ ⟨a0.a, a0.len, a0.cap⟩ fun s1 =>
 K ⟨s1.a, s1.len, s1.cap⟩)
set_option maxRecDepth 100000 in
theorem E_slices_Clone_clauses_Clause_lits_Lit (a0 : Sl) (K : Sl → HP) (h : Heap) : fnVC Try.prog [(1000000, .nil)] 8 Try.f34 [(.slice a0.a a0.len a0.cap)] .sl K h = F_slices_Clone_clauses_Clause_lits_Lit a0 K h := by kernel_rfl
set_option maxRecDepth 100000 in
theorem S_slices_Clone_clauses_Clause_lits_Lit{h : Heap} {a0 : Sl} (K : Sl → HP) (hF : F_slices_Clone_clauses_Clause_lits_Lit a0 K h) : CallsH Try.prog fn_slices_Clone_clauses_Clause_lits_Lit #[(.slice a0.a a0.len a0.cap)] h fun v h' => ∃ x : Sl, v = Ty.enc .sl x ∧ K x h' :=
  callsH_of_fn (P := Try.prog) (fn := Try.f34) (τ := .sl) follows Try.func34 (by kernel_rfl) (by kernel_rfl) Try.call34 (Eq.mpr (E_slices_Clone_clauses_Clause_lits_Lit a0 K h) hF)


/-- slices.rotateRight[salvor/clauses.Clause] -/
def F_slices_rotateRight_clauses_Clause (a0 : Sl) (a1 : Int) (K : Unit → HP) : HP :=
 callT Try.prog fn_slices_rotateLeft_clauses_Clause #[(.slice a0.a a0.len a0.cap), (.int .i64 (IntKind.wrap .i64 ((a0.len : Int) - a1)))] (.tup .nil) fun r0 =>
 K (())
set_option maxRecDepth 100000 in
theorem E_slices_rotateRight_clauses_Clause (a0 : Sl) (a1 : Int) (K : Unit → HP) (h : Heap) : fnVC Try.prog [(1000000, .nil)] 10 Try.f36 [(.slice a0.a a0.len a0.cap), (.int .i64 a1)] (.tup .nil) K h = F_slices_rotateRight_clauses_Clause a0 a1 K h := by kernel_rfl
set_option maxRecDepth 100000 in
theorem S_slices_rotateRight_clauses_Clause{h : Heap} {a0 : Sl} {a1 : Int} (K : Unit → HP) (hF : F_slices_rotateRight_clauses_Clause a0 a1 K h) : CallsH Try.prog fn_slices_rotateRight_clauses_Clause #[(.slice a0.a a0.len a0.cap), (.int .i64 a1)] h fun v h' => ∃ x : Unit, v = Ty.enc (.tup .nil) x ∧ K x h' :=
  callsH_of_fn (P := Try.prog) (fn := Try.f36) (τ := (.tup .nil)) follows Try.func36 (by kernel_rfl) (by kernel_rfl) Try.call36 (Eq.mpr (E_slices_rotateRight_clauses_Clause a0 a1 K h) hF)


/-- salvor/clauses.wrong -/
def F_clauses_wrong (a0 : Int) (K : Bool → HP) : HP :=
 callT Try.prog fn_lits_Right #[(.int .i64 a0)] .bool fun r0 =>
 K (!r0)
set_option maxRecDepth 100000 in
theorem E_clauses_wrong (a0 : Int) (K : Bool → HP) (h : Heap) : fnVC Try.prog [(1000000, .nil)] 6 Try.f37 [(.int .i64 a0)] .bool K h = F_clauses_wrong a0 K h := by kernel_rfl
set_option maxRecDepth 100000 in
theorem S_clauses_wrong{h : Heap} {a0 : Int} (K : Bool → HP) (hF : F_clauses_wrong a0 K h) : CallsH Try.prog fn_clauses_wrong #[(.int .i64 a0)] h fun v h' => ∃ x : Bool, v = Ty.enc .bool x ∧ K x h' :=
  callsH_of_fn (P := Try.prog) (fn := Try.f37) (τ := .bool) follows Try.func37 (by kernel_rfl) (by kernel_rfl) Try.call37 (Eq.mpr (E_clauses_wrong a0 K h) hF)


/-- salvor/clauses.Norm -/
def F_clauses_Norm (a0 : Sl) (K : (Sl × (Bool × (Int × Unit))) → HP) : HP :=
 callT Try.prog fn_clauses_Right #[(.slice a0.a a0.len a0.cap)] .bool fun r0 =>
 brB (!r0)
 (K (⟨none, 0, 0⟩, false, (20 : Int), ()))
 (callT Try.prog fn_clauses_normal #[(.slice a0.a a0.len a0.cap)] .sl fun r1 =>
 callT Try.prog fn_clauses_Always #[(.slice a0.a a0.len a0.cap)] .bool fun r2 =>
 K (⟨r1.a, r1.len, r1.cap⟩, r2, (0 : Int), ()))
set_option maxRecDepth 100000 in
theorem E_clauses_Norm (a0 : Sl) (K : (Sl × (Bool × (Int × Unit))) → HP) (h : Heap) : fnVC Try.prog [(1000000, .nil)] 12 Try.f38 [(.slice a0.a a0.len a0.cap)] (.tup (.cons .sl (.cons .bool (.cons (.int .i64) .nil)))) K h = F_clauses_Norm a0 K h := by kernel_rfl
set_option maxRecDepth 100000 in
theorem S_clauses_Norm{h : Heap} {a0 : Sl} (K : (Sl × (Bool × (Int × Unit))) → HP) (hF : F_clauses_Norm a0 K h) : CallsH Try.prog fn_clauses_Norm #[(.slice a0.a a0.len a0.cap)] h fun v h' => ∃ x : (Sl × (Bool × (Int × Unit))), v = Ty.enc (.tup (.cons .sl (.cons .bool (.cons (.int .i64) .nil)))) x ∧ K x h' :=
  callsH_of_fn (P := Try.prog) (fn := Try.f38) (τ := (.tup (.cons .sl (.cons .bool (.cons (.int .i64) .nil))))) follows Try.func38 (by kernel_rfl) (by kernel_rfl) Try.call38 (Eq.mpr (E_clauses_Norm a0 K h) hF)


/-- slices.SortFunc[[]salvor/clauses.Clause,salvor/clauses.Clause] -/
def F_slices_SortFunc_clauses_Clause_clauses_Clause (a0 : Sl) (a1 : Value) (K : Unit → HP) : HP :=
 callT Try.prog fn_math_bits_Len #[(.int .u64 (IntKind.wrap .u64 (a0.len : Int)))] (.int .i64) fun r0 =>
 callT Try.prog fn_slices_pdqsortCmpFunc_clauses_Clause #[(.slice a0.a a0.len a0.cap), (.int .i64 (0 : Int)), (.int .i64 (a0.len : Int)), (.int .i64 r0), a1] (.tup .nil) fun r1 =>
 K (())
set_option maxRecDepth 100000 in
theorem E_slices_SortFunc_clauses_Clause_clauses_Clause (a0 : Sl) (a1 : Value) (K : Unit → HP) (h : Heap) : fnVC Try.prog [(1000000, .nil)] 14 Try.f39 [(.slice a0.a a0.len a0.cap), a1] (.tup .nil) K h = F_slices_SortFunc_clauses_Clause_clauses_Clause a0 a1 K h := by kernel_rfl
set_option maxRecDepth 100000 in
theorem S_slices_SortFunc_clauses_Clause_clauses_Clause{h : Heap} {a0 : Sl} {a1 : Value} (K : Unit → HP) (hF : F_slices_SortFunc_clauses_Clause_clauses_Clause a0 a1 K h) : CallsH Try.prog fn_slices_SortFunc_clauses_Clause_clauses_Clause #[(.slice a0.a a0.len a0.cap), a1] h fun v h' => ∃ x : Unit, v = Ty.enc (.tup .nil) x ∧ K x h' :=
  callsH_of_fn (P := Try.prog) (fn := Try.f39) (τ := (.tup .nil)) follows Try.func39 (by kernel_rfl) (by kernel_rfl) Try.call39 (Eq.mpr (E_slices_SortFunc_clauses_Clause_clauses_Clause a0 a1 K h) hF)


/-- salvor/clauses.Compare -/
def F_clauses_Compare (a0 : Sl) (a1 : Sl) (K : Int → HP) : HP :=
 callT Try.prog fn_clauses_Right #[(.slice a0.a a0.len a0.cap)] .bool fun r0 =>
 brB (!r0)
 (K (0 : Int))
 (callT Try.prog fn_clauses_Right #[(.slice a1.a a1.len a1.cap)] .bool fun r1 =>
 brB (!r1)
 (K (0 : Int))
 (callT Try.prog fn_clauses_normal #[(.slice a0.a a0.len a0.cap)] .sl fun r2 =>
 callT Try.prog fn_clauses_normal #[(.slice a1.a a1.len a1.cap)] .sl fun r3 =>
 callT Try.prog fn_cmp_Compare_int #[(.int .i64 (r2.len : Int)), (.int .i64 (r3.len : Int))] (.int .i64) fun r4 =>
 callT Try.prog fn_slices_CompareFunc_clauses_Clause_clauses_Clause_lits_Lit_lits_Lit #[(.slice r2.a r2.len r2.cap), (.slice r3.a r3.len r3.cap), (.func (.func fn_lits_Compare) #[] #[])] (.int .i64) fun r5 =>
 nw #[(.int .i64 r4), (.int .i64 r5)] ty_int fun b6 =>
 callT Try.prog fn_cmp_Or_int #[(.slice (some (⟨b6, 0, none⟩ : Addr)) 2 2)] (.int .i64) fun r7 =>
 K r7))
set_option maxRecDepth 100000 in
theorem E_clauses_Compare (a0 : Sl) (a1 : Sl) (K : Int → HP) (h : Heap) : fnVC Try.prog [(1000000, .nil)] 29 Try.f40 [(.slice a0.a a0.len a0.cap), (.slice a1.a a1.len a1.cap)] (.int .i64) K h = F_clauses_Compare a0 a1 K h := by kernel_rfl
set_option maxRecDepth 100000 in
theorem S_clauses_Compare{h : Heap} {a0 : Sl} {a1 : Sl} (K : Int → HP) (hF : F_clauses_Compare a0 a1 K h) : CallsH Try.prog fn_clauses_Compare #[(.slice a0.a a0.len a0.cap), (.slice a1.a a1.len a1.cap)] h fun v h' => ∃ x : Int, v = Ty.enc (.int .i64) x ∧ K x h' :=
  callsH_of_fn (P := Try.prog) (fn := Try.f40) (τ := (.int .i64)) follows Try.func40 (by kernel_rfl) (by kernel_rfl) Try.call40 (Eq.mpr (E_clauses_Compare a0 a1 K h) hF)


/-- slices.CompactFunc[[]salvor/clauses.Clause,salvor/clauses.Clause] -/
def F_slices_CompactFunc_clauses_Clause_clauses_Clause (a0 : Sl) (a1 : Value) (K : Sl → HP) : HP :=
 brB (decide ((a0.len : Int) < (2 : Int)))
 (K ⟨a0.a, a0.len, a0.cap⟩)
 (lfp (σ := (Int × (Sl × Unit))) (fun X0 s1 => /- k  -/
 brB (decide (s1.1 < (a0.len : Int)))
 (sx a0.a a0.len s1.1 1 fun p2 =>
 ldT .sl p2 fun x3 =>
 sx a0.a a0.len (IntKind.wrap .i64 (s1.1 - (1 : Int))) 1 fun p4 =>
 ldT .sl p4 fun x5 =>
 callF Try.prog a1 #[(.slice x3.a x3.len x3.cap), (.slice x5.a x5.len x5.cap)] .bool fun r6 =>
 brB r6
 (slL ⟨a0.a, a0.len, a0.cap⟩ s1.1 1 fun s7 =>
 lfp (σ := (Int × (Int × Unit))) (fun X8 s9 => /- k2 k -/
 brB (decide (s9.1 < (s7.len : Int)))
 (sx s7.a s7.len s9.1 1 fun p10 =>
 ldT .sl p10 fun x11 =>
 sx s7.a s7.len (IntKind.wrap .i64 (s9.1 - (1 : Int))) 1 fun p12 =>
 ldT .sl p12 fun x13 =>
 callF Try.prog a1 #[(.slice x11.a x11.len x11.cap), (.slice x13.a x13.len x13.cap)] .bool fun r14 =>
 jn (σ := (Int × Unit)) (fun s16 => /- k -/
 X8 ((IntKind.wrap .i64 (s9.1 + (1 : Int))), s16.1, ()))
 (fun J15 =>
 brB (!r14)
 (sx s7.a s7.len s9.1 1 fun p17 =>
 ldT .sl p17 fun x18 =>
 sx a0.a a0.len s9.2.1 1 fun p19 =>
 st1 p19 (.slice x18.a x18.len x18.cap) <|
 J15 ((IntKind.wrap .i64 (s9.2.1 + (1 : Int))), ()))
 (J15 (s9.2.1, ()))))
 (slL ⟨a0.a, a0.len, a0.cap⟩ s9.2.1 1 fun s20 =>
 clr #[(.slice none 0 0)] ⟨s20.a, s20.len, s20.cap⟩ <|
 slH ⟨a0.a, a0.len, a0.cap⟩ s9.2.1 1 fun s21 =>
 K ⟨s21.a, s21.len, s21.cap⟩))
 ((1 : Int), s1.1, ()))
 (X0 ((IntKind.wrap .i64 (s1.1 + (1 : Int))), ⟨s1.2.1.a, s1.2.1.len, s1.2.1.cap⟩, ())))
 (K ⟨a0.a, a0.len, a0.cap⟩))
 ((1 : Int), ⟨none, 0, 0⟩, ()))
set_option maxRecDepth 100000 in
theorem E_slices_CompactFunc_clauses_Clause_clauses_Clause (a0 : Sl) (a1 : Value) (K : Sl → HP) (h : Heap) : fnVC Try.prog [(1000000, .nil)] 66 Try.f41 [(.slice a0.a a0.len a0.cap), a1] .sl K h = F_slices_CompactFunc_clauses_Clause_clauses_Clause a0 a1 K h := by kernel_rfl
set_option maxRecDepth 100000 in
theorem S_slices_CompactFunc_clauses_Clause_clauses_Clause{h : Heap} {a0 : Sl} {a1 : Value} (K : Sl → HP) (hF : F_slices_CompactFunc_clauses_Clause_clauses_Clause a0 a1 K h) : CallsH Try.prog fn_slices_CompactFunc_clauses_Clause_clauses_Clause #[(.slice a0.a a0.len a0.cap), a1] h fun v h' => ∃ x : Sl, v = Ty.enc .sl x ∧ K x h' :=
  callsH_of_fn (P := Try.prog) (fn := Try.f41) (τ := .sl) follows Try.func41 (by kernel_rfl) (by kernel_rfl) Try.call41 (Eq.mpr (E_slices_CompactFunc_clauses_Clause_clauses_Clause a0 a1 K h) hF)


/-- salvor/formula.Norm$1 -/
def F_formula_Norm_1 (a0 : Sl) (a1 : Sl) (K : Bool → HP) : HP :=
 callT Try.prog fn_slices_Equal_clauses_Clause_lits_Lit #[(.slice a0.a a0.len a0.cap), (.slice a1.a a1.len a1.cap)] .bool fun r0 =>
 K r0
set_option maxRecDepth 100000 in
theorem E_formula_Norm_1 (a0 : Sl) (a1 : Sl) (K : Bool → HP) (h : Heap) : fnVC Try.prog [(1000000, .nil)] 8 Try.f42 [(.slice a0.a a0.len a0.cap), (.slice a1.a a1.len a1.cap)] .bool K h = F_formula_Norm_1 a0 a1 K h := by kernel_rfl
set_option maxRecDepth 100000 in
theorem S_formula_Norm_1{h : Heap} {a0 : Sl} {a1 : Sl} (K : Bool → HP) (hF : F_formula_Norm_1 a0 a1 K h) : CallsH Try.prog fn_formula_Norm_1 #[(.slice a0.a a0.len a0.cap), (.slice a1.a a1.len a1.cap)] h fun v h' => ∃ x : Bool, v = Ty.enc .bool x ∧ K x h' :=
  callsH_of_fn (P := Try.prog) (fn := Try.f42) (τ := .bool) follows Try.func42 (by kernel_rfl) (by kernel_rfl) Try.call42 (Eq.mpr (E_formula_Norm_1 a0 a1 K h) hF)


/-- slices.Equal[salvor/clauses.Clause,salvor/lits.Lit] -/
def F_slices_Equal_clauses_Clause_lits_Lit (a0 : Sl) (a1 : Sl) (K : Bool → HP) : HP :=
 brB ((a0.len : Int) != (a1.len : Int))
 (K false)
 (lfp (σ := (Int × (Bool × Unit))) (fun X0 s1 => /-   -/
 brB (decide (s1.1 < (a0.len : Int)))
 (sx a0.a a0.len s1.1 1 fun p2 =>
 ldT (.int .i64) p2 fun x3 =>
 sx a1.a a1.len s1.1 1 fun p4 =>
 ldT (.int .i64) p4 fun x5 =>
 brB (x3 != x5)
 (K false)
 (X0 ((IntKind.wrap .i64 (s1.1 + (1 : Int))), s1.2.1, ())))
 (K true))
 ((0 : Int), false, ()))
set_option maxRecDepth 100000 in
theorem E_slices_Equal_clauses_Clause_lits_Lit (a0 : Sl) (a1 : Sl) (K : Bool → HP) (h : Heap) : fnVC Try.prog [(1000000, .nil)] 26 Try.f43 [(.slice a0.a a0.len a0.cap), (.slice a1.a a1.len a1.cap)] .bool K h = F_slices_Equal_clauses_Clause_lits_Lit a0 a1 K h := by kernel_rfl
set_option maxRecDepth 100000 in
theorem S_slices_Equal_clauses_Clause_lits_Lit{h : Heap} {a0 : Sl} {a1 : Sl} (K : Bool → HP) (hF : F_slices_Equal_clauses_Clause_lits_Lit a0 a1 K h) : CallsH Try.prog fn_slices_Equal_clauses_Clause_lits_Lit #[(.slice a0.a a0.len a0.cap), (.slice a1.a a1.len a1.cap)] h fun v h' => ∃ x : Bool, v = Ty.enc .bool x ∧ K x h' :=
  callsH_of_fn (P := Try.prog) (fn := Try.f43) (τ := .bool) follows Try.func43 (by kernel_rfl) (by kernel_rfl) Try.call43 (Eq.mpr (E_slices_Equal_clauses_Clause_lits_Lit a0 a1 K h) hF)


/-- slices.Contains[salvor/clauses.Clause,salvor/lits.Lit] -/
def F_slices_Contains_clauses_Clause_lits_Lit (a0 : Sl) (a1 : Int) (K : Bool → HP) : HP :=
 callT Try.prog fn_slices_Index_clauses_Clause_lits_Lit #[(.slice a0.a a0.len a0.cap), (.int .i64 a1)] (.int .i64) fun r0 =>
 K (decide (r0 ≥ (0 : Int)))
set_option maxRecDepth 100000 in
theorem E_slices_Contains_clauses_Clause_lits_Lit (a0 : Sl) (a1 : Int) (K : Bool → HP) (h : Heap) : fnVC Try.prog [(1000000, .nil)] 9 Try.f44 [(.slice a0.a a0.len a0.cap), (.int .i64 a1)] .bool K h = F_slices_Contains_clauses_Clause_lits_Lit a0 a1 K h := by kernel_rfl
set_option maxRecDepth 100000 in
theorem S_slices_Contains_clauses_Clause_lits_Lit{h : Heap} {a0 : Sl} {a1 : Int} (K : Bool → HP) (hF : F_slices_Contains_clauses_Clause_lits_Lit a0 a1 K h) : CallsH Try.prog fn_slices_Contains_clauses_Clause_lits_Lit #[(.slice a0.a a0.len a0.cap), (.int .i64 a1)] h fun v h' => ∃ x : Bool, v = Ty.enc .bool x ∧ K x h' :=
  callsH_of_fn (P := Try.prog) (fn := Try.f44) (τ := .bool) follows Try.func44 (by kernel_rfl) (by kernel_rfl) Try.call44 (Eq.mpr (E_slices_Contains_clauses_Clause_lits_Lit a0 a1 K h) hF)


/-- slices.DeleteFunc[salvor/clauses.Clause,salvor/lits.Lit] -/
def F_slices_DeleteFunc_clauses_Clause_lits_Lit (a0 : Sl) (a1 : Value) (K : Sl → HP) : HP :=
 callT Try.prog fn_slices_IndexFunc_clauses_Clause_lits_Lit #[(.slice a0.a a0.len a0.cap), a1] (.int .i64) fun r0 =>
 brB (r0 == (-1 : Int))
 (K ⟨a0.a, a0.len, a0.cap⟩)
 (lfp (σ := (Int × (Int × Unit))) (fun X1 s2 => /- j i -/
 brB (decide (s2.1 < (a0.len : Int)))
 (sx a0.a a0.len s2.1 1 fun p3 =>
 ldT (.int .i64) p3 fun x4 =>
 callF Try.prog a1 #[(.int .i64 x4)] .bool fun r5 =>
 jn (σ := (Int × Unit)) (fun s7 => /- i -/
 X1 ((IntKind.wrap .i64 (s2.1 + (1 : Int))), s7.1, ()))
 (fun J6 =>
 brB (!r5)
 (sx a0.a a0.len s2.2.1 1 fun p8 =>
 st1 p8 (.int .i64 x4) <|
 J6 ((IntKind.wrap .i64 (s2.2.1 + (1 : Int))), ()))
 (J6 (s2.2.1, ()))))
 (slL ⟨a0.a, a0.len, a0.cap⟩ s2.2.1 1 fun s9 =>
 clr #[(.int .i64 (0 : Int))] ⟨s9.a, s9.len, s9.cap⟩ <|
 slH ⟨a0.a, a0.len, a0.cap⟩ s2.2.1 1 fun s10 =>
 K ⟨s10.a, s10.len, s10.cap⟩))
 ((IntKind.wrap .i64 (r0 + (1 : Int))), r0, ()))
set_option maxRecDepth 100000 in
theorem E_slices_DeleteFunc_clauses_Clause_lits_Lit (a0 : Sl) (a1 : Value) (K : Sl → HP) (h : Heap) : fnVC Try.prog [(1000000, .nil)] 42 Try.f45 [(.slice a0.a a0.len a0.cap), a1] .sl K h = F_slices_DeleteFunc_clauses_Clause_lits_Lit a0 a1 K h := by kernel_rfl
set_option maxRecDepth 100000 in
theorem S_slices_DeleteFunc_clauses_Clause_lits_Lit{h : Heap} {a0 : Sl} {a1 : Value} (K : Sl → HP) (hF : F_slices_DeleteFunc_clauses_Clause_lits_Lit a0 a1 K h) : CallsH Try.prog fn_slices_DeleteFunc_clauses_Clause_lits_Lit #[(.slice a0.a a0.len a0.cap), a1] h fun v h' => ∃ x : Sl, v = Ty.enc .sl x ∧ K x h' :=
  callsH_of_fn (P := Try.prog) (fn := Try.f45) (τ := .sl) follows Try.func45 (by kernel_rfl) (by kernel_rfl) Try.call45 (Eq.mpr (E_slices_DeleteFunc_clauses_Clause_lits_Lit a0 a1 K h) hF)


/-- salvor/formula.Assign$1 -/
def F_formula_Assign_1 (a0 : Int) (c0 : Addr) (K : Bool → HP) : HP :=
 ldT (.int .i64) c0 fun x0 =>
 K (a0 == (IntKind.wrap .i64 (0 - x0)))
set_option maxRecDepth 100000 in
theorem E_formula_Assign_1 (a0 : Int) (c0 : Addr) (K : Bool → HP) (h : Heap) : fnVC Try.prog [(1000000, .nil)] 8 Try.f46 [(.int .i64 a0), (.pointer (some c0))] .bool K h = F_formula_Assign_1 a0 c0 K h := by kernel_rfl
set_option maxRecDepth 100000 in
theorem S_formula_Assign_1{h : Heap} {a0 : Int} {c0 : Addr} (K : Bool → HP) (hF : F_formula_Assign_1 a0 c0 K h) : CallsH Try.prog fn_formula_Assign_1 #[(.int .i64 a0), (.pointer (some c0))] h fun v h' => ∃ x : Bool, v = Ty.enc .bool x ∧ K x h' :=
  callsH_of_fn (P := Try.prog) (fn := Try.f46) (τ := .bool) follows Try.func46 (by kernel_rfl) (by kernel_rfl) Try.call46 (Eq.mpr (E_formula_Assign_1 a0 c0 K h) hF)


/-- salvor/formula.Models -/
def F_formula_Models (a0 : (Int × (Sl × Unit))) (K : (Value × (Int × Unit)) → HP) : HP :=
 nw #[(.int .i64 a0.1), (.slice a0.2.1.a a0.2.1.len a0.2.1.cap)] ty_formula_Formula fun b0 =>
 ldA (.cons (.int .i64) (.cons .sl .nil)) (⟨b0, 0, none⟩ : Addr) fun x1 =>
 callT Try.prog fn_formula_Check #[(.agg #[(.int .i64 x1.1), (.slice x1.2.1.a x1.2.1.len x1.2.1.cap)])] (.tup (.cons (.int .i64) (.cons (.int .i64) .nil))) fun r2 =>
 brB (r2.2.1 != (0 : Int))
 (K (Value.nilFunc, r2.2.1, ()))
 (ldT (.int .i64) (⟨b0, 0, none⟩ : Addr) fun x3 =>
 brB (decide (x3 > (16 : Int)))
 (K (Value.nilFunc, (5 : Int), ()))
 (ldA (.cons (.int .i64) (.cons .sl .nil)) (⟨b0, 0, none⟩ : Addr) fun x4 =>
 callT Try.prog fn_formula_Copy #[(.agg #[(.int .i64 x4.1), (.slice x4.2.1.a x4.2.1.len x4.2.1.cap)])] (.agg (.cons (.int .i64) (.cons .sl .nil))) fun r5 =>
 nw #[(.int .i64 (0 : Int)), (.slice none 0 0)] ty_formula_Formula fun b6 =>
 st1 (⟨b6, 0, none⟩ : Addr) (.int .i64 r5.1) <|
 st1 ((⟨b6, 0, none⟩ : Addr).add 1) (.slice r5.2.1.a r5.2.1.len r5.2.1.cap) <|
 K ((.func (.func fn_formula_Models_1) #[] #[(.pointer (some (⟨b6, 0, none⟩ : Addr)))]), (0 : Int), ())))
set_option maxRecDepth 100000 in
theorem E_formula_Models (a0 : (Int × (Sl × Unit))) (K : (Value × (Int × Unit)) → HP) (h : Heap) : fnVC Try.prog [(1000000, .nil)] 21 Try.f47 [(.agg #[(.int .i64 a0.1), (.slice a0.2.1.a a0.2.1.len a0.2.1.cap)])] (.tup (.cons .val (.cons (.int .i64) .nil))) K h = F_formula_Models a0 K h := by kernel_rfl
set_option maxRecDepth 100000 in
theorem S_formula_Models{h : Heap} {a0 : (Int × (Sl × Unit))} (K : (Value × (Int × Unit)) → HP) (hF : F_formula_Models a0 K h) : CallsH Try.prog fn_formula_Models #[(.agg #[(.int .i64 a0.1), (.slice a0.2.1.a a0.2.1.len a0.2.1.cap)])] h fun v h' => ∃ x : (Value × (Int × Unit)), v = Ty.enc (.tup (.cons .val (.cons (.int .i64) .nil))) x ∧ K x h' :=
  callsH_of_fn (P := Try.prog) (fn := Try.f47) (τ := (.tup (.cons .val (.cons (.int .i64) .nil)))) follows Try.func47 (by kernel_rfl) (by kernel_rfl) Try.call47 (Eq.mpr (E_formula_Models a0 K h) hF)


/-- salvor/formula.fails -/
def F_formula_fails (a0 : (Int × (Sl × Unit))) (a1 : Sl) (K : Int → HP) : HP :=
 nw #[(.int .i64 a0.1), (.slice a0.2.1.a a0.2.1.len a0.2.1.cap)] ty_formula_Formula fun b0 =>
 callT Try.prog fn_formula_in #[(.slice a1.a a1.len a1.cap)] .val fun r1 =>
 ldT .sl ((⟨b0, 0, none⟩ : Addr).add 1) fun x2 =>
 jn (σ := (Int × (Int × Unit))) (fun s4 => /-  at -/
 K s4.2.1)
 (fun J3 =>
 lfp (σ := (Int × (Int × Unit))) (fun X5 s6 => /-  at -/
 brB (decide (s6.1 < (x2.len : Int)))
 (sx x2.a x2.len s6.1 1 fun p7 =>
 ldT .sl p7 fun x8 =>
 callT Try.prog fn_slices_ContainsFunc_clauses_Clause_lits_Lit #[(.slice x8.a x8.len x8.cap), r1] .bool fun r9 =>
 brB (!r9)
 (J3 (s6.1, s6.1, ()))
 (X5 ((IntKind.wrap .i64 (s6.1 + (1 : Int))), s6.2.1, ())))
 (J3 (s6.1, s6.2.1, ())))
 ((0 : Int), (-1 : Int), ()))
set_option maxRecDepth 100000 in
theorem E_formula_fails (a0 : (Int × (Sl × Unit))) (a1 : Sl) (K : Int → HP) (h : Heap) : fnVC Try.prog [(1000000, .nil)] 26 Try.f48 [(.agg #[(.int .i64 a0.1), (.slice a0.2.1.a a0.2.1.len a0.2.1.cap)]), (.slice a1.a a1.len a1.cap)] (.int .i64) K h = F_formula_fails a0 a1 K h := by kernel_rfl
set_option maxRecDepth 100000 in
theorem S_formula_fails{h : Heap} {a0 : (Int × (Sl × Unit))} {a1 : Sl} (K : Int → HP) (hF : F_formula_fails a0 a1 K h) : CallsH Try.prog fn_formula_fails #[(.agg #[(.int .i64 a0.1), (.slice a0.2.1.a a0.2.1.len a0.2.1.cap)]), (.slice a1.a a1.len a1.cap)] h fun v h' => ∃ x : Int, v = Ty.enc (.int .i64) x ∧ K x h' :=
  callsH_of_fn (P := Try.prog) (fn := Try.f48) (τ := (.int .i64)) follows Try.func48 (by kernel_rfl) (by kernel_rfl) Try.call48 (Eq.mpr (E_formula_fails a0 a1 K h) hF)


/-- salvor/salvorlaw02.Clause -/
def F_salvorlaw02_Clause (a0 : Sl) (K : Sl → HP) : HP :=
 lfp (σ := (Int × (Sl × Unit))) (fun X0 s1 => /-  out -/
 brB (decide (s1.1 < (a0.len : Int)))
 (sx a0.a a0.len s1.1 1 fun p2 =>
 ldT (.int .i64) p2 fun x3 =>
 nw #[(.int .i64 x3)] ty_lits_Lit fun b4 =>
 apd ty_lits_Lit 1 8 #[(.int .i64 (0 : Int))] ⟨s1.2.1.a, s1.2.1.len, s1.2.1.cap⟩ ⟨(some (⟨b4, 0, none⟩ : Addr)), 1, 1⟩ fun s5 =>
 X0 ((IntKind.wrap .i64 (s1.1 + (1 : Int))), ⟨s5.a, s5.len, s5.cap⟩, ()))
 (K ⟨s1.2.1.a, s1.2.1.len, s1.2.1.cap⟩))
 ((0 : Int), ⟨none, 0, 0⟩, ())
set_option maxRecDepth 100000 in
theorem E_salvorlaw02_Clause (a0 : Sl) (K : Sl → HP) (h : Heap) : fnVC Try.prog [(1000000, .nil)] 18 Try.f49 [(.slice a0.a a0.len a0.cap)] .sl K h = F_salvorlaw02_Clause a0 K h := by kernel_rfl
set_option maxRecDepth 100000 in
theorem S_salvorlaw02_Clause{h : Heap} {a0 : Sl} (K : Sl → HP) (hF : F_salvorlaw02_Clause a0 K h) : CallsH Try.prog fn_salvorlaw02_Clause #[(.slice a0.a a0.len a0.cap)] h fun v h' => ∃ x : Sl, v = Ty.enc .sl x ∧ K x h' :=
  callsH_of_fn (P := Try.prog) (fn := Try.f49) (τ := .sl) follows Try.func49 (by kernel_rfl) (by kernel_rfl) Try.call49 (Eq.mpr (E_salvorlaw02_Clause a0 K h) hF)


/-- slices.EqualFunc[[]salvor/clauses.Clause,[]salvor/clauses.Clause,salvor/clauses.Clause,salvor/clauses.Clause] -/
def F_slices_EqualFunc_clauses_Clause_clauses_Clause_clauses_Clause_clauses_Clause (a0 : Sl) (a1 : Sl) (a2 : Value) (K : Bool → HP) : HP :=
 brB ((a0.len : Int) != (a1.len : Int))
 (K false)
 (lfp (σ := (Int × (Bool × Unit))) (fun X0 s1 => /-   -/
 brB (decide (s1.1 < (a0.len : Int)))
 (sx a0.a a0.len s1.1 1 fun p2 =>
 ldT .sl p2 fun x3 =>
 sx a1.a a1.len s1.1 1 fun p4 =>
 ldT .sl p4 fun x5 =>
 callF Try.prog a2 #[(.slice x3.a x3.len x3.cap), (.slice x5.a x5.len x5.cap)] .bool fun r6 =>
 brB (!r6)
 (K false)
 (X0 ((IntKind.wrap .i64 (s1.1 + (1 : Int))), s1.2.1, ())))
 (K true))
 ((0 : Int), false, ()))
set_option maxRecDepth 100000 in
theorem E_slices_EqualFunc_clauses_Clause_clauses_Clause_clauses_Clause_clauses_Clause (a0 : Sl) (a1 : Sl) (a2 : Value) (K : Bool → HP) (h : Heap) : fnVC Try.prog [(1000000, .nil)] 32 Try.f50 [(.slice a0.a a0.len a0.cap), (.slice a1.a a1.len a1.cap), a2] .bool K h = F_slices_EqualFunc_clauses_Clause_clauses_Clause_clauses_Clause_clauses_Clause a0 a1 a2 K h := by kernel_rfl
set_option maxRecDepth 100000 in
theorem S_slices_EqualFunc_clauses_Clause_clauses_Clause_clauses_Clause_clauses_Clause{h : Heap} {a0 : Sl} {a1 : Sl} {a2 : Value} (K : Bool → HP) (hF : F_slices_EqualFunc_clauses_Clause_clauses_Clause_clauses_Clause_clauses_Clause a0 a1 a2 K h) : CallsH Try.prog fn_slices_EqualFunc_clauses_Clause_clauses_Clause_clauses_Clause_clauses_Clause #[(.slice a0.a a0.len a0.cap), (.slice a1.a a1.len a1.cap), a2] h fun v h' => ∃ x : Bool, v = Ty.enc .bool x ∧ K x h' :=
  callsH_of_fn (P := Try.prog) (fn := Try.f50) (τ := .bool) follows Try.func50 (by kernel_rfl) (by kernel_rfl) Try.call50 (Eq.mpr (E_slices_EqualFunc_clauses_Clause_clauses_Clause_clauses_Clause_clauses_Clause a0 a1 a2 K h) hF)


/-- salvor/formula.Same$1 -/
def F_formula_Same_1 (a0 : Sl) (a1 : Sl) (K : Bool → HP) : HP :=
 callT Try.prog fn_slices_Equal_clauses_Clause_lits_Lit #[(.slice a0.a a0.len a0.cap), (.slice a1.a a1.len a1.cap)] .bool fun r0 =>
 K r0
set_option maxRecDepth 100000 in
theorem E_formula_Same_1 (a0 : Sl) (a1 : Sl) (K : Bool → HP) (h : Heap) : fnVC Try.prog [(1000000, .nil)] 8 Try.f51 [(.slice a0.a a0.len a0.cap), (.slice a1.a a1.len a1.cap)] .bool K h = F_formula_Same_1 a0 a1 K h := by kernel_rfl
set_option maxRecDepth 100000 in
theorem S_formula_Same_1{h : Heap} {a0 : Sl} {a1 : Sl} (K : Bool → HP) (hF : F_formula_Same_1 a0 a1 K h) : CallsH Try.prog fn_formula_Same_1 #[(.slice a0.a a0.len a0.cap), (.slice a1.a a1.len a1.cap)] h fun v h' => ∃ x : Bool, v = Ty.enc .bool x ∧ K x h' :=
  callsH_of_fn (P := Try.prog) (fn := Try.f51) (τ := .bool) follows Try.func51 (by kernel_rfl) (by kernel_rfl) Try.call51 (Eq.mpr (E_formula_Same_1 a0 a1 K h) hF)


/-- salvor/formula.beyond$1 -/
def F_formula_beyond_1 (a0 : Int) (c0 : Addr) (K : Bool → HP) : HP :=
 callT Try.prog fn_lits_Right #[(.int .i64 a0)] .bool fun r0 =>
 brB (!r0)
 (K true)
 (ldT (.int .i64) c0 fun x1 =>
 callT Try.prog fn_lits_Var #[(.int .i64 a0)] (.int .i64) fun r2 =>
 ck c0 (.int .i64 x1) <|
 K (decide (r2 > x1)))
set_option maxRecDepth 100000 in
theorem E_formula_beyond_1 (a0 : Int) (c0 : Addr) (K : Bool → HP) (h : Heap) : fnVC Try.prog [(1000000, .nil)] 13 Try.f52 [(.int .i64 a0), (.pointer (some c0))] .bool K h = F_formula_beyond_1 a0 c0 K h := by kernel_rfl
set_option maxRecDepth 100000 in
theorem S_formula_beyond_1{h : Heap} {a0 : Int} {c0 : Addr} (K : Bool → HP) (hF : F_formula_beyond_1 a0 c0 K h) : CallsH Try.prog fn_formula_beyond_1 #[(.int .i64 a0), (.pointer (some c0))] h fun v h' => ∃ x : Bool, v = Ty.enc .bool x ∧ K x h' :=
  callsH_of_fn (P := Try.prog) (fn := Try.f52) (τ := .bool) follows Try.func52 (by kernel_rfl) (by kernel_rfl) Try.call52 (Eq.mpr (E_formula_beyond_1 a0 c0 K h) hF)


/-- slices.IndexFunc[salvor/clauses.Clause,salvor/lits.Lit] -/
def F_slices_IndexFunc_clauses_Clause_lits_Lit (a0 : Sl) (a1 : Value) (K : Int → HP) : HP :=
 lfp (σ := (Int × (Int × Unit))) (fun X0 s1 => /-   -/
 brB (decide (s1.1 < (a0.len : Int)))
 (sx a0.a a0.len s1.1 1 fun p2 =>
 ldT (.int .i64) p2 fun x3 =>
 callF Try.prog a1 #[(.int .i64 x3)] .bool fun r4 =>
 brB r4
 (K s1.1)
 (X0 ((IntKind.wrap .i64 (s1.1 + (1 : Int))), s1.2.1, ())))
 (K (-1 : Int)))
 ((0 : Int), (0 : Int), ())
set_option maxRecDepth 100000 in
theorem E_slices_IndexFunc_clauses_Clause_lits_Lit (a0 : Sl) (a1 : Value) (K : Int → HP) (h : Heap) : fnVC Try.prog [(1000000, .nil)] 19 Try.f53 [(.slice a0.a a0.len a0.cap), a1] (.int .i64) K h = F_slices_IndexFunc_clauses_Clause_lits_Lit a0 a1 K h := by kernel_rfl
set_option maxRecDepth 100000 in
theorem S_slices_IndexFunc_clauses_Clause_lits_Lit{h : Heap} {a0 : Sl} {a1 : Value} (K : Int → HP) (hF : F_slices_IndexFunc_clauses_Clause_lits_Lit a0 a1 K h) : CallsH Try.prog fn_slices_IndexFunc_clauses_Clause_lits_Lit #[(.slice a0.a a0.len a0.cap), a1] h fun v h' => ∃ x : Int, v = Ty.enc (.int .i64) x ∧ K x h' :=
  callsH_of_fn (P := Try.prog) (fn := Try.f53) (τ := (.int .i64)) follows Try.func53 (by kernel_rfl) (by kernel_rfl) Try.call53 (Eq.mpr (E_slices_IndexFunc_clauses_Clause_lits_Lit a0 a1 K h) hF)


/-- salvor/formula.in$1 -/
def F_formula_in_1 (a0 : Int) (c0 : Addr) (K : Bool → HP) : HP :=
 ldT .sl c0 fun x0 =>
 callT Try.prog fn_lits_Var #[(.int .i64 a0)] (.int .i64) fun r1 =>
 ck c0 (.slice x0.a x0.len x0.cap) <|
 sx x0.a x0.len (IntKind.wrap .i64 (r1 - (1 : Int))) 1 fun p2 =>
 ldT .bool p2 fun x3 =>
 callT Try.prog fn_lits_Negated #[(.int .i64 a0)] .bool fun r4 =>
 ck p2 (.bool x3) <|
 ck c0 (.slice x0.a x0.len x0.cap) <|
 K (!(x3 == r4))
set_option maxRecDepth 100000 in
theorem E_formula_in_1 (a0 : Int) (c0 : Addr) (K : Bool → HP) (h : Heap) : fnVC Try.prog [(1000000, .nil)] 13 Try.f54 [(.int .i64 a0), (.pointer (some c0))] .bool K h = F_formula_in_1 a0 c0 K h := by kernel_rfl
set_option maxRecDepth 100000 in
theorem S_formula_in_1{h : Heap} {a0 : Int} {c0 : Addr} (K : Bool → HP) (hF : F_formula_in_1 a0 c0 K h) : CallsH Try.prog fn_formula_in_1 #[(.int .i64 a0), (.pointer (some c0))] h fun v h' => ∃ x : Bool, v = Ty.enc .bool x ∧ K x h' :=
  callsH_of_fn (P := Try.prog) (fn := Try.f54) (τ := .bool) follows Try.func54 (by kernel_rfl) (by kernel_rfl) Try.call54 (Eq.mpr (E_formula_in_1 a0 c0 K h) hF)


/-- slices.rotateLeft[salvor/clauses.Clause] -/
def F_slices_rotateLeft_clauses_Clause (a0 : Sl) (a1 : Int) (K : Unit → HP) : HP :=
 slH ⟨a0.a, a0.len, a0.cap⟩ a1 1 fun s0 =>
 callT Try.prog fn_slices_Reverse_clauses_Clause_clauses_Clause #[(.slice s0.a s0.len s0.cap)] (.tup .nil) fun r1 =>
 slL ⟨a0.a, a0.len, a0.cap⟩ a1 1 fun s2 =>
 callT Try.prog fn_slices_Reverse_clauses_Clause_clauses_Clause #[(.slice s2.a s2.len s2.cap)] (.tup .nil) fun r3 =>
 callT Try.prog fn_slices_Reverse_clauses_Clause_clauses_Clause #[(.slice a0.a a0.len a0.cap)] (.tup .nil) fun r4 =>
 K (())
set_option maxRecDepth 100000 in
theorem E_slices_rotateLeft_clauses_Clause (a0 : Sl) (a1 : Int) (K : Unit → HP) (h : Heap) : fnVC Try.prog [(1000000, .nil)] 14 Try.f55 [(.slice a0.a a0.len a0.cap), (.int .i64 a1)] (.tup .nil) K h = F_slices_rotateLeft_clauses_Clause a0 a1 K h := by kernel_rfl
set_option maxRecDepth 100000 in
theorem S_slices_rotateLeft_clauses_Clause{h : Heap} {a0 : Sl} {a1 : Int} (K : Unit → HP) (hF : F_slices_rotateLeft_clauses_Clause a0 a1 K h) : CallsH Try.prog fn_slices_rotateLeft_clauses_Clause #[(.slice a0.a a0.len a0.cap), (.int .i64 a1)] h fun v h' => ∃ x : Unit, v = Ty.enc (.tup .nil) x ∧ K x h' :=
  callsH_of_fn (P := Try.prog) (fn := Try.f55) (τ := (.tup .nil)) follows Try.func55 (by kernel_rfl) (by kernel_rfl) Try.call55 (Eq.mpr (E_slices_rotateLeft_clauses_Clause a0 a1 K h) hF)


/-- salvor/clauses.normal -/
def F_clauses_normal (a0 : Sl) (K : Sl → HP) : HP := fun h0 => (
 nw #[(.slice none 0 0)] ty_clauses_Clause fun b0 =>
 callT Try.prog fn_clauses_sorted #[(.slice a0.a a0.len a0.cap)] .val fun r1 =>
 RangeVC Try.prog (.cons (.int .i64) .nil) r1 (fun x2 wrap3 next4 jump5 =>
 wrap3 <|
 ldT .sl (⟨b0, 0, none⟩ : Addr) fun x6 =>
 nw #[(.int .i64 x2.1)] ty_lits_Lit fun b7 =>
 apd ty_lits_Lit 1 8 #[(.int .i64 (0 : Int))] ⟨x6.a, x6.len, x6.cap⟩ ⟨(some (⟨b7, 0, none⟩ : Addr)), 1, 1⟩ fun s8 =>
 st1 (⟨b0, 0, none⟩ : Addr) (.slice s8.a s8.len s8.cap) <|
 next4)
 (ldT .sl (⟨b0, 0, none⟩ : Addr) fun x9 =>
 mkd h0.size <|
 K ⟨x9.a, x9.len, x9.cap⟩)
 (mkd h0.size <|
 K ⟨none, 0, 0⟩)
 []
 []) h0
set_option maxRecDepth 100000 in
theorem E_clauses_normal (a0 : Sl) (K : Sl → HP) (h : Heap) : fnVC Try.prog [(1000000, .nil), (7, (.cons (.int .i64) .nil))] 13 Try.f56 [(.slice a0.a a0.len a0.cap)] .sl K h = F_clauses_normal a0 K h := by kernel_rfl
set_option maxRecDepth 100000 in
theorem S_clauses_normal{h : Heap} {a0 : Sl} (K : Sl → HP) (hF : F_clauses_normal a0 K h) : CallsH Try.prog fn_clauses_normal #[(.slice a0.a a0.len a0.cap)] h fun v h' => ∃ x : Sl, v = Ty.enc .sl x ∧ K x h' :=
  callsH_of_fn (P := Try.prog) (fn := Try.f56) (τ := .sl) follows Try.func56 (by kernel_rfl) (by kernel_rfl) Try.call56 (Eq.mpr (E_clauses_normal a0 K h) hF)


/-- salvor/clauses.Always -/
def F_clauses_Always (a0 : Sl) (K : Bool → HP) : HP := fun h0 => (
 nw #[(.bool false)] ty_bool fun b0 =>
 callT Try.prog fn_clauses_Right #[(.slice a0.a a0.len a0.cap)] .bool fun r1 =>
 brB (!r1)
 (st1 (⟨b0, 0, none⟩ : Addr) (.bool false) <|
 mkd h0.size <|
 ldT .bool (⟨b0, 0, none⟩ : Addr) fun x2 =>
 K x2)
 (nw #[(.int .i64 (0 : Int))] ty_lits_Lit fun b3 =>
 st1 (⟨b3, 0, none⟩ : Addr) (.int .i64 (0 : Int)) <|
 callT Try.prog fn_clauses_sorted #[(.slice a0.a a0.len a0.cap)] .val fun r4 =>
 RangeVC Try.prog (.cons (.int .i64) .nil) r4 (fun x5 wrap6 next7 jump8 =>
 wrap6 <|
 ldT (.int .i64) (⟨b3, 0, none⟩ : Addr) fun x9 =>
 brB (x9 != (0 : Int))
 (ldT (.int .i64) (⟨b3, 0, none⟩ : Addr) fun x10 =>
 callT Try.prog fn_lits_Neg #[(.int .i64 x10)] (.int .i64) fun r11 =>
 brB (x5.1 == r11)
 (st1 (⟨b0, 0, none⟩ : Addr) (.bool true) <|
 jump8 .ret)
 (st1 (⟨b3, 0, none⟩ : Addr) (.int .i64 x5.1) <|
 next7))
 (st1 (⟨b3, 0, none⟩ : Addr) (.int .i64 x5.1) <|
 next7))
 (st1 (⟨b0, 0, none⟩ : Addr) (.bool false) <|
 mkd h0.size <|
 ldT .bool (⟨b0, 0, none⟩ : Addr) fun x12 =>
 K x12)
 (mkd h0.size <|
 ldT .bool (⟨b0, 0, none⟩ : Addr) fun x13 =>
 K x13)
 []
 [])) h0
set_option maxRecDepth 100000 in
theorem E_clauses_Always (a0 : Sl) (K : Bool → HP) (h : Heap) : fnVC Try.prog [(1000000, .nil), (10, (.cons (.int .i64) .nil))] 20 Try.f57 [(.slice a0.a a0.len a0.cap)] .bool K h = F_clauses_Always a0 K h := by kernel_rfl
set_option maxRecDepth 100000 in
theorem S_clauses_Always{h : Heap} {a0 : Sl} (K : Bool → HP) (hF : F_clauses_Always a0 K h) : CallsH Try.prog fn_clauses_Always #[(.slice a0.a a0.len a0.cap)] h fun v h' => ∃ x : Bool, v = Ty.enc .bool x ∧ K x h' :=
  callsH_of_fn (P := Try.prog) (fn := Try.f57) (τ := .bool) follows Try.func57 (by kernel_rfl) (by kernel_rfl) Try.call57 (Eq.mpr (E_clauses_Always a0 K h) hF)


/-- slices.pdqsortCmpFunc[salvor/clauses.Clause] -/
def F_slices_pdqsortCmpFunc_clauses_Clause (a0 : Sl) (a1 : Int) (a2 : Int) (a3 : Int) (a4 : Value) (K : Unit → HP) : HP :=
 lfp (σ := (Bool × (Bool × (Int × (Int × (Int × Unit)))))) (fun X0 s1 => /- wasPartitioned wasBalanced a b limit -/
 jn (σ := (Bool × (Bool × (Int × (Int × (Int × Unit)))))) (fun s3 => /- wasPartitioned wasBalanced a b limit -/
 X0 (s3.1, s3.2.1, s3.2.2.1, s3.2.2.2.1, s3.2.2.2.2.1, ()))
 (fun J2 =>
 brB (decide ((IntKind.wrap .i64 (s1.2.2.2.1 - s1.2.2.1)) ≤ (12 : Int)))
 (callT Try.prog fn_slices_insertionSortCmpFunc_clauses_Clause #[(.slice a0.a a0.len a0.cap), (.int .i64 s1.2.2.1), (.int .i64 s1.2.2.2.1), a4] (.tup .nil) fun r4 =>
 K (()))
 (brB (s1.2.2.2.2.1 == (0 : Int))
 (callT Try.prog fn_slices_heapSortCmpFunc_clauses_Clause #[(.slice a0.a a0.len a0.cap), (.int .i64 s1.2.2.1), (.int .i64 s1.2.2.2.1), a4] (.tup .nil) fun r5 =>
 K (()))
 (jn (σ := (Int × Unit)) (fun s7 => /- limit -/
 callT Try.prog fn_slices_choosePivotCmpFunc_clauses_Clause #[(.slice a0.a a0.len a0.cap), (.int .i64 s1.2.2.1), (.int .i64 s1.2.2.2.1), a4] (.tup (.cons (.int .i64) (.cons (.int .i64) .nil))) fun r8 =>
 jn (σ := (Int × (Int × Unit))) (fun s10 => /- hint pivot -/
 brB s1.2.1
 (brB s1.1
 (jn (σ := Unit) (fun s12 => /- -/
 brB (decide (s1.2.2.1 > (0 : Int)))
 (sx a0.a a0.len (IntKind.wrap .i64 (s1.2.2.1 - (1 : Int))) 1 fun p13 =>
 ldT .sl p13 fun x14 =>
 sx a0.a a0.len s10.2.1 1 fun p15 =>
 ldT .sl p15 fun x16 =>
 callF Try.prog a4 #[(.slice x14.a x14.len x14.cap), (.slice x16.a x16.len x16.cap)] (.int .i64) fun r17 =>
 brB (!(decide (r17 < (0 : Int))))
 (callT Try.prog fn_slices_partitionEqualCmpFunc_clauses_Clause #[(.slice a0.a a0.len a0.cap), (.int .i64 s1.2.2.1), (.int .i64 s1.2.2.2.1), (.int .i64 s10.2.1), a4] (.int .i64) fun r18 =>
 J2 (s1.1, s1.2.1, r18, s1.2.2.2.1, s7.1, ()))
 (callT Try.prog fn_slices_partitionCmpFunc_clauses_Clause #[(.slice a0.a a0.len a0.cap), (.int .i64 s1.2.2.1), (.int .i64 s1.2.2.2.1), (.int .i64 s10.2.1), a4] (.tup (.cons (.int .i64) (.cons .bool .nil))) fun r19 =>
 nz (8 : Int) <|
 jn (σ := (Bool × (Int × (Int × Unit)))) (fun s21 => /- wasBalanced a b -/
 J2 (r19.2.1, s21.1, s21.2.1, s21.2.2.1, s7.1, ()))
 (fun J20 =>
 brB (decide ((IntKind.wrap .i64 (r19.1 - s1.2.2.1)) < (IntKind.wrap .i64 (s1.2.2.2.1 - r19.1))))
 (callT Try.prog fn_slices_pdqsortCmpFunc_clauses_Clause #[(.slice a0.a a0.len a0.cap), (.int .i64 s1.2.2.1), (.int .i64 r19.1), (.int .i64 s7.1), a4] (.tup .nil) fun r22 =>
 J20 ((decide ((IntKind.wrap .i64 (r19.1 - s1.2.2.1)) ≥ (IntKind.wrap .i64 (Int.tdiv (IntKind.wrap .i64 (s1.2.2.2.1 - s1.2.2.1)) (8 : Int))))), (IntKind.wrap .i64 (r19.1 + (1 : Int))), s1.2.2.2.1, ()))
 (callT Try.prog fn_slices_pdqsortCmpFunc_clauses_Clause #[(.slice a0.a a0.len a0.cap), (.int .i64 (IntKind.wrap .i64 (r19.1 + (1 : Int)))), (.int .i64 s1.2.2.2.1), (.int .i64 s7.1), a4] (.tup .nil) fun r23 =>
 J20 ((decide ((IntKind.wrap .i64 (s1.2.2.2.1 - r19.1)) ≥ (IntKind.wrap .i64 (Int.tdiv (IntKind.wrap .i64 (s1.2.2.2.1 - s1.2.2.1)) (8 : Int))))), s1.2.2.1, r19.1, ())))))
 (callT Try.prog fn_slices_partitionCmpFunc_clauses_Clause #[(.slice a0.a a0.len a0.cap), (.int .i64 s1.2.2.1), (.int .i64 s1.2.2.2.1), (.int .i64 s10.2.1), a4] (.tup (.cons (.int .i64) (.cons .bool .nil))) fun r24 =>
 nz (8 : Int) <|
 jn (σ := (Bool × (Int × (Int × Unit)))) (fun s26 => /- wasBalanced a b -/
 J2 (r24.2.1, s26.1, s26.2.1, s26.2.2.1, s7.1, ()))
 (fun J25 =>
 brB (decide ((IntKind.wrap .i64 (r24.1 - s1.2.2.1)) < (IntKind.wrap .i64 (s1.2.2.2.1 - r24.1))))
 (callT Try.prog fn_slices_pdqsortCmpFunc_clauses_Clause #[(.slice a0.a a0.len a0.cap), (.int .i64 s1.2.2.1), (.int .i64 r24.1), (.int .i64 s7.1), a4] (.tup .nil) fun r27 =>
 J25 ((decide ((IntKind.wrap .i64 (r24.1 - s1.2.2.1)) ≥ (IntKind.wrap .i64 (Int.tdiv (IntKind.wrap .i64 (s1.2.2.2.1 - s1.2.2.1)) (8 : Int))))), (IntKind.wrap .i64 (r24.1 + (1 : Int))), s1.2.2.2.1, ()))
 (callT Try.prog fn_slices_pdqsortCmpFunc_clauses_Clause #[(.slice a0.a a0.len a0.cap), (.int .i64 (IntKind.wrap .i64 (r24.1 + (1 : Int)))), (.int .i64 s1.2.2.2.1), (.int .i64 s7.1), a4] (.tup .nil) fun r28 =>
 J25 ((decide ((IntKind.wrap .i64 (s1.2.2.2.1 - r24.1)) ≥ (IntKind.wrap .i64 (Int.tdiv (IntKind.wrap .i64 (s1.2.2.2.1 - s1.2.2.1)) (8 : Int))))), s1.2.2.1, r24.1, ())))))
 (fun J11 =>
 brB (s10.1 == (1 : Int))
 (callT Try.prog fn_slices_partialInsertionSortCmpFunc_clauses_Clause #[(.slice a0.a a0.len a0.cap), (.int .i64 s1.2.2.1), (.int .i64 s1.2.2.2.1), a4] .bool fun r29 =>
 brB r29
 (K (()))
 (J11 (())))
 (J11 (()))))
 (jn (σ := Unit) (fun s31 => /- -/
 brB (decide (s1.2.2.1 > (0 : Int)))
 (sx a0.a a0.len (IntKind.wrap .i64 (s1.2.2.1 - (1 : Int))) 1 fun p32 =>
 ldT .sl p32 fun x33 =>
 sx a0.a a0.len s10.2.1 1 fun p34 =>
 ldT .sl p34 fun x35 =>
 callF Try.prog a4 #[(.slice x33.a x33.len x33.cap), (.slice x35.a x35.len x35.cap)] (.int .i64) fun r36 =>
 brB (!(decide (r36 < (0 : Int))))
 (callT Try.prog fn_slices_partitionEqualCmpFunc_clauses_Clause #[(.slice a0.a a0.len a0.cap), (.int .i64 s1.2.2.1), (.int .i64 s1.2.2.2.1), (.int .i64 s10.2.1), a4] (.int .i64) fun r37 =>
 J2 (s1.1, s1.2.1, r37, s1.2.2.2.1, s7.1, ()))
 (callT Try.prog fn_slices_partitionCmpFunc_clauses_Clause #[(.slice a0.a a0.len a0.cap), (.int .i64 s1.2.2.1), (.int .i64 s1.2.2.2.1), (.int .i64 s10.2.1), a4] (.tup (.cons (.int .i64) (.cons .bool .nil))) fun r38 =>
 nz (8 : Int) <|
 jn (σ := (Bool × (Int × (Int × Unit)))) (fun s40 => /- wasBalanced a b -/
 J2 (r38.2.1, s40.1, s40.2.1, s40.2.2.1, s7.1, ()))
 (fun J39 =>
 brB (decide ((IntKind.wrap .i64 (r38.1 - s1.2.2.1)) < (IntKind.wrap .i64 (s1.2.2.2.1 - r38.1))))
 (callT Try.prog fn_slices_pdqsortCmpFunc_clauses_Clause #[(.slice a0.a a0.len a0.cap), (.int .i64 s1.2.2.1), (.int .i64 r38.1), (.int .i64 s7.1), a4] (.tup .nil) fun r41 =>
 J39 ((decide ((IntKind.wrap .i64 (r38.1 - s1.2.2.1)) ≥ (IntKind.wrap .i64 (Int.tdiv (IntKind.wrap .i64 (s1.2.2.2.1 - s1.2.2.1)) (8 : Int))))), (IntKind.wrap .i64 (r38.1 + (1 : Int))), s1.2.2.2.1, ()))
 (callT Try.prog fn_slices_pdqsortCmpFunc_clauses_Clause #[(.slice a0.a a0.len a0.cap), (.int .i64 (IntKind.wrap .i64 (r38.1 + (1 : Int)))), (.int .i64 s1.2.2.2.1), (.int .i64 s7.1), a4] (.tup .nil) fun r42 =>
 J39 ((decide ((IntKind.wrap .i64 (s1.2.2.2.1 - r38.1)) ≥ (IntKind.wrap .i64 (Int.tdiv (IntKind.wrap .i64 (s1.2.2.2.1 - s1.2.2.1)) (8 : Int))))), s1.2.2.1, r38.1, ())))))
 (callT Try.prog fn_slices_partitionCmpFunc_clauses_Clause #[(.slice a0.a a0.len a0.cap), (.int .i64 s1.2.2.1), (.int .i64 s1.2.2.2.1), (.int .i64 s10.2.1), a4] (.tup (.cons (.int .i64) (.cons .bool .nil))) fun r43 =>
 nz (8 : Int) <|
 jn (σ := (Bool × (Int × (Int × Unit)))) (fun s45 => /- wasBalanced a b -/
 J2 (r43.2.1, s45.1, s45.2.1, s45.2.2.1, s7.1, ()))
 (fun J44 =>
 brB (decide ((IntKind.wrap .i64 (r43.1 - s1.2.2.1)) < (IntKind.wrap .i64 (s1.2.2.2.1 - r43.1))))
 (callT Try.prog fn_slices_pdqsortCmpFunc_clauses_Clause #[(.slice a0.a a0.len a0.cap), (.int .i64 s1.2.2.1), (.int .i64 r43.1), (.int .i64 s7.1), a4] (.tup .nil) fun r46 =>
 J44 ((decide ((IntKind.wrap .i64 (r43.1 - s1.2.2.1)) ≥ (IntKind.wrap .i64 (Int.tdiv (IntKind.wrap .i64 (s1.2.2.2.1 - s1.2.2.1)) (8 : Int))))), (IntKind.wrap .i64 (r43.1 + (1 : Int))), s1.2.2.2.1, ()))
 (callT Try.prog fn_slices_pdqsortCmpFunc_clauses_Clause #[(.slice a0.a a0.len a0.cap), (.int .i64 (IntKind.wrap .i64 (r43.1 + (1 : Int)))), (.int .i64 s1.2.2.2.1), (.int .i64 s7.1), a4] (.tup .nil) fun r47 =>
 J44 ((decide ((IntKind.wrap .i64 (s1.2.2.2.1 - r43.1)) ≥ (IntKind.wrap .i64 (Int.tdiv (IntKind.wrap .i64 (s1.2.2.2.1 - s1.2.2.1)) (8 : Int))))), s1.2.2.1, r43.1, ())))))
 (fun J30 =>
 J30 (()))))
 (jn (σ := Unit) (fun s49 => /- -/
 brB (decide (s1.2.2.1 > (0 : Int)))
 (sx a0.a a0.len (IntKind.wrap .i64 (s1.2.2.1 - (1 : Int))) 1 fun p50 =>
 ldT .sl p50 fun x51 =>
 sx a0.a a0.len s10.2.1 1 fun p52 =>
 ldT .sl p52 fun x53 =>
 callF Try.prog a4 #[(.slice x51.a x51.len x51.cap), (.slice x53.a x53.len x53.cap)] (.int .i64) fun r54 =>
 brB (!(decide (r54 < (0 : Int))))
 (callT Try.prog fn_slices_partitionEqualCmpFunc_clauses_Clause #[(.slice a0.a a0.len a0.cap), (.int .i64 s1.2.2.1), (.int .i64 s1.2.2.2.1), (.int .i64 s10.2.1), a4] (.int .i64) fun r55 =>
 J2 (s1.1, s1.2.1, r55, s1.2.2.2.1, s7.1, ()))
 (callT Try.prog fn_slices_partitionCmpFunc_clauses_Clause #[(.slice a0.a a0.len a0.cap), (.int .i64 s1.2.2.1), (.int .i64 s1.2.2.2.1), (.int .i64 s10.2.1), a4] (.tup (.cons (.int .i64) (.cons .bool .nil))) fun r56 =>
 nz (8 : Int) <|
 jn (σ := (Bool × (Int × (Int × Unit)))) (fun s58 => /- wasBalanced a b -/
 J2 (r56.2.1, s58.1, s58.2.1, s58.2.2.1, s7.1, ()))
 (fun J57 =>
 brB (decide ((IntKind.wrap .i64 (r56.1 - s1.2.2.1)) < (IntKind.wrap .i64 (s1.2.2.2.1 - r56.1))))
 (callT Try.prog fn_slices_pdqsortCmpFunc_clauses_Clause #[(.slice a0.a a0.len a0.cap), (.int .i64 s1.2.2.1), (.int .i64 r56.1), (.int .i64 s7.1), a4] (.tup .nil) fun r59 =>
 J57 ((decide ((IntKind.wrap .i64 (r56.1 - s1.2.2.1)) ≥ (IntKind.wrap .i64 (Int.tdiv (IntKind.wrap .i64 (s1.2.2.2.1 - s1.2.2.1)) (8 : Int))))), (IntKind.wrap .i64 (r56.1 + (1 : Int))), s1.2.2.2.1, ()))
 (callT Try.prog fn_slices_pdqsortCmpFunc_clauses_Clause #[(.slice a0.a a0.len a0.cap), (.int .i64 (IntKind.wrap .i64 (r56.1 + (1 : Int)))), (.int .i64 s1.2.2.2.1), (.int .i64 s7.1), a4] (.tup .nil) fun r60 =>
 J57 ((decide ((IntKind.wrap .i64 (s1.2.2.2.1 - r56.1)) ≥ (IntKind.wrap .i64 (Int.tdiv (IntKind.wrap .i64 (s1.2.2.2.1 - s1.2.2.1)) (8 : Int))))), s1.2.2.1, r56.1, ())))))
 (callT Try.prog fn_slices_partitionCmpFunc_clauses_Clause #[(.slice a0.a a0.len a0.cap), (.int .i64 s1.2.2.1), (.int .i64 s1.2.2.2.1), (.int .i64 s10.2.1), a4] (.tup (.cons (.int .i64) (.cons .bool .nil))) fun r61 =>
 nz (8 : Int) <|
 jn (σ := (Bool × (Int × (Int × Unit)))) (fun s63 => /- wasBalanced a b -/
 J2 (r61.2.1, s63.1, s63.2.1, s63.2.2.1, s7.1, ()))
 (fun J62 =>
 brB (decide ((IntKind.wrap .i64 (r61.1 - s1.2.2.1)) < (IntKind.wrap .i64 (s1.2.2.2.1 - r61.1))))
 (callT Try.prog fn_slices_pdqsortCmpFunc_clauses_Clause #[(.slice a0.a a0.len a0.cap), (.int .i64 s1.2.2.1), (.int .i64 r61.1), (.int .i64 s7.1), a4] (.tup .nil) fun r64 =>
 J62 ((decide ((IntKind.wrap .i64 (r61.1 - s1.2.2.1)) ≥ (IntKind.wrap .i64 (Int.tdiv (IntKind.wrap .i64 (s1.2.2.2.1 - s1.2.2.1)) (8 : Int))))), (IntKind.wrap .i64 (r61.1 + (1 : Int))), s1.2.2.2.1, ()))
 (callT Try.prog fn_slices_pdqsortCmpFunc_clauses_Clause #[(.slice a0.a a0.len a0.cap), (.int .i64 (IntKind.wrap .i64 (r61.1 + (1 : Int)))), (.int .i64 s1.2.2.2.1), (.int .i64 s7.1), a4] (.tup .nil) fun r65 =>
 J62 ((decide ((IntKind.wrap .i64 (s1.2.2.2.1 - r61.1)) ≥ (IntKind.wrap .i64 (Int.tdiv (IntKind.wrap .i64 (s1.2.2.2.1 - s1.2.2.1)) (8 : Int))))), s1.2.2.1, r61.1, ())))))
 (fun J48 =>
 J48 (()))))
 (fun J9 =>
 brB (r8.2.1 == (2 : Int))
 (callT Try.prog fn_slices_reverseRangeCmpFunc_clauses_Clause #[(.slice a0.a a0.len a0.cap), (.int .i64 s1.2.2.1), (.int .i64 s1.2.2.2.1), a4] (.tup .nil) fun r66 =>
 J9 ((1 : Int), (IntKind.wrap .i64 ((IntKind.wrap .i64 (s1.2.2.2.1 - (1 : Int))) - (IntKind.wrap .i64 (r8.1 - s1.2.2.1)))), ()))
 (J9 (r8.2.1, r8.1, ()))))
 (fun J6 =>
 brB (!s1.2.1)
 (callT Try.prog fn_slices_breakPatternsCmpFunc_clauses_Clause #[(.slice a0.a a0.len a0.cap), (.int .i64 s1.2.2.1), (.int .i64 s1.2.2.2.1), a4] (.tup .nil) fun r67 =>
 J6 ((IntKind.wrap .i64 (s1.2.2.2.2.1 - (1 : Int))), ()))
 (J6 (s1.2.2.2.2.1, ())))))))
 (true, true, a1, a2, a3, ())
set_option maxRecDepth 100000 in
theorem E_slices_pdqsortCmpFunc_clauses_Clause (a0 : Sl) (a1 : Int) (a2 : Int) (a3 : Int) (a4 : Value) (K : Unit → HP) (h : Heap) : fnVC Try.prog [(1000000, .nil)] 148 Try.f58 [(.slice a0.a a0.len a0.cap), (.int .i64 a1), (.int .i64 a2), (.int .i64 a3), a4] (.tup .nil) K h = F_slices_pdqsortCmpFunc_clauses_Clause a0 a1 a2 a3 a4 K h := by kernel_rfl
set_option maxRecDepth 100000 in
theorem S_slices_pdqsortCmpFunc_clauses_Clause{h : Heap} {a0 : Sl} {a1 : Int} {a2 : Int} {a3 : Int} {a4 : Value} (K : Unit → HP) (hF : F_slices_pdqsortCmpFunc_clauses_Clause a0 a1 a2 a3 a4 K h) : CallsH Try.prog fn_slices_pdqsortCmpFunc_clauses_Clause #[(.slice a0.a a0.len a0.cap), (.int .i64 a1), (.int .i64 a2), (.int .i64 a3), a4] h fun v h' => ∃ x : Unit, v = Ty.enc (.tup .nil) x ∧ K x h' :=
  callsH_of_fn (P := Try.prog) (fn := Try.f58) (τ := (.tup .nil)) follows Try.func58 (by kernel_rfl) (by kernel_rfl) Try.call58 (Eq.mpr (E_slices_pdqsortCmpFunc_clauses_Clause a0 a1 a2 a3 a4 K h) hF)


/-- math/bits.Len -/
def F_math_bits_Len (a0 : Int) (K : Int → HP) : HP :=
 callT Try.prog fn_math_bits_Len64 #[(.int .u64 a0)] (.int .i64) fun r0 =>
 K r0
set_option maxRecDepth 100000 in
theorem E_math_bits_Len (a0 : Int) (K : Int → HP) (h : Heap) : fnVC Try.prog [(1000000, .nil)] 8 Try.f59 [(.int .u64 a0)] (.int .i64) K h = F_math_bits_Len a0 K h := by kernel_rfl
set_option maxRecDepth 100000 in
theorem S_math_bits_Len{h : Heap} {a0 : Int} (K : Int → HP) (hF : F_math_bits_Len a0 K h) : CallsH Try.prog fn_math_bits_Len #[(.int .u64 a0)] h fun v h' => ∃ x : Int, v = Ty.enc (.int .i64) x ∧ K x h' :=
  callsH_of_fn (P := Try.prog) (fn := Try.f59) (τ := (.int .i64)) follows Try.func59 (by kernel_rfl) (by kernel_rfl) Try.call59 (Eq.mpr (E_math_bits_Len a0 K h) hF)


end Go.Proofs.S
