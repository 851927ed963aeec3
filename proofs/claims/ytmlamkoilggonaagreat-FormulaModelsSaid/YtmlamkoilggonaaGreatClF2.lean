/- The functions of the seat, each as a predicate over its values, printed by a program of ours, and that each is its text's. -/
import Derived.Test.YtmlamkoilggonaaGreatSxH
import Derived.KernelRfl
import Derived.Test.YtmlamkoilggonaaGreatProg
import Derived.Test.YtmlamkoilggonaaGreatClF0
set_option linter.unusedVariables false
namespace Go.Proofs.S
open Go Go.Sx Go.Proofs
/-- salvor/salvorlaw05.FormulaParts -/
def F_salvorlaw05_FormulaParts (a0 : Sl) (a1 : Int) (K : Bool → HP) : HP :=
 cj
 (callT Tryz.prog fn_salvorlaw05_Made #[(.slice a0.a a0.len a0.cap)] (.agg (.cons (.int .i64) (.cons .sl .nil))) fun r0 =>
 cj
 (nw #[(.int .u8 a1)] ty_uint8 fun b1 =>
 cj
 (callT Tryz.prog fn_salvorlaw02_Made #[(.slice (some (⟨b1, 0, none⟩ : Addr)) 1 1)] .sl fun r2 =>
 sx r2.a r2.len (0 : Int) 1 fun p3 =>
 ldT (.int .i64) p3 fun x4 =>
 nw #[(.int .i64 (0 : Int)), (.slice none 0 0)] ty_formula_Formula fun b5 =>
 st1 (⟨b5, 0, none⟩ : Addr) (.int .i64 r0.1) <|
 st1 ((⟨b5, 0, none⟩ : Addr).add 1) (.slice r0.2.1.a r0.2.1.len r0.2.1.cap) <|
 ck p3 (.int .i64 x4) <|
 ldA (.cons (.int .i64) (.cons .sl .nil)) (⟨b5, 0, none⟩ : Addr) fun x6 =>
 callT Tryz.prog fn_formula_Assign #[(.agg #[(.int .i64 x6.1), (.slice x6.2.1.a x6.2.1.len x6.2.1.cap)]), (.int .i64 x4)] (.tup (.cons (.agg (.cons (.int .i64) (.cons .sl .nil))) (.cons (.int .i64) .nil))) fun r7 =>
 nw #[(.int .i64 (0 : Int)), (.slice none 0 0)] ty_formula_Formula fun b8 =>
 st1 (⟨b8, 0, none⟩ : Addr) (.int .i64 r7.1.1) <|
 st1 ((⟨b8, 0, none⟩ : Addr).add 1) (.slice r7.1.2.1.a r7.1.2.1.len r7.1.2.1.cap) <|
 ldA (.cons (.int .i64) (.cons .sl .nil)) (⟨b5, 0, none⟩ : Addr) fun x9 =>
 callT Tryz.prog fn_formula_Assign #[(.agg #[(.int .i64 x9.1), (.slice x9.2.1.a x9.2.1.len x9.2.1.cap)]), (.int .i64 (IntKind.wrap .i64 (0 - x4)))] (.tup (.cons (.agg (.cons (.int .i64) (.cons .sl .nil))) (.cons (.int .i64) .nil))) fun r10 =>
 nw #[(.int .i64 (0 : Int)), (.slice none 0 0)] ty_formula_Formula fun b11 =>
 st1 (⟨b11, 0, none⟩ : Addr) (.int .i64 r10.1.1) <|
 st1 ((⟨b11, 0, none⟩ : Addr).add 1) (.slice r10.1.2.1.a r10.1.2.1.len r10.1.2.1.cap) <|
 ldA (.cons (.int .i64) (.cons .sl .nil)) (⟨b5, 0, none⟩ : Addr) fun x12 =>
 callT Tryz.prog fn_salvorlaw05_collected #[(.agg #[(.int .i64 x12.1), (.slice x12.2.1.a x12.2.1.len x12.2.1.cap)])] (.tup (.cons .sl (.cons .bool .nil))) fun r13 =>
 ldA (.cons (.int .i64) (.cons .sl .nil)) (⟨b8, 0, none⟩ : Addr) fun x14 =>
 callT Tryz.prog fn_salvorlaw05_collected #[(.agg #[(.int .i64 x14.1), (.slice x14.2.1.a x14.2.1.len x14.2.1.cap)])] (.tup (.cons .sl (.cons .bool .nil))) fun r15 =>
 ldA (.cons (.int .i64) (.cons .sl .nil)) (⟨b11, 0, none⟩ : Addr) fun x16 =>
 callT Tryz.prog fn_salvorlaw05_collected #[(.agg #[(.int .i64 x16.1), (.slice x16.2.1.a x16.2.1.len x16.2.1.cap)])] (.tup (.cons .sl (.cons .bool .nil))) fun r17 =>
 brB ((IntKind.wrap .i64 (r7.2.1 + r10.2.1)) != (0 : Int))
 (K false)
 (brB (!r13.2.1)
 (K false)
 (brB (!r15.2.1)
 (K false)
 (brB (!r17.2.1)
 (K false)
 (nz (2 : Int) <|
 brB ((Int.tmod (r15.1.len : Int) (2 : Int)) != (0 : Int))
 (K false)
 (nz (2 : Int) <|
 brB ((Int.tmod (r17.1.len : Int) (2 : Int)) != (0 : Int))
 (K false)
 (nz (2 : Int) <|
 nz (2 : Int) <|
 brB ((r13.1.len : Int) != (IntKind.wrap .i64 ((IntKind.wrap .i64 (Int.tdiv (r15.1.len : Int) (2 : Int))) + (IntKind.wrap .i64 (Int.tdiv (r17.1.len : Int) (2 : Int))))))
 (K false)
 (ldT .sl ((⟨b8, 0, none⟩ : Addr).add 1) fun x18 =>
 ldT .sl ((⟨b11, 0, none⟩ : Addr).add 1) fun x19 =>
 nw #[(.slice x18.a x18.len x18.cap), (.slice x19.a x19.len x19.cap)] ty_sl_clauses_Clause fun b20 =>
 callT Tryz.prog fn_slices_Concat_clauses_Clause_clauses_Clause #[(.slice (some (⟨b20, 0, none⟩ : Addr)) 2 2)] .sl fun r21 =>
 lfp (σ := (Int × (Bool × Unit))) (fun X22 s23 => /-   -/
 brB (decide (s23.1 < (r21.len : Int)))
 (sx r21.a r21.len s23.1 1 fun p24 =>
 ldT .sl p24 fun x25 =>
 callT Tryz.prog fn_lits_Vars #[(.slice x25.a x25.len x25.cap)] .sl fun r26 =>
 callT Tryz.prog fn_lits_Var #[(.int .i64 x4)] (.int .i64) fun r27 =>
 callT Tryz.prog fn_slices_Contains_int_int #[(.slice r26.a r26.len r26.cap), (.int .i64 r27)] .bool fun r28 =>
 brB r28
 (callT Tryz.prog fn_clauses_Always #[(.slice x25.a x25.len x25.cap)] .bool fun r29 =>
 brB (!r29)
 (K false)
 (X22 ((IntKind.wrap .i64 (s23.1 + (1 : Int))), s23.2.1, ())))
 (X22 ((IntKind.wrap .i64 (s23.1 + (1 : Int))), s23.2.1, ())))
 (lfp (σ := (Int × (Bool × Unit))) (fun X30 s31 => /-   -/
 brB (decide (s31.1 < (r13.1.len : Int)))
 (sx r13.1.a r13.1.len s31.1 1 fun p32 =>
 ldT .sl p32 fun x33 =>
 brB ((x33.len : Int) != (8 : Int))
 (K false)
 (callT Tryz.prog fn_lits_Var #[(.int .i64 x4)] (.int .i64) fun r34 =>
 sx x33.a x33.len (IntKind.wrap .i64 (r34 - (1 : Int))) 1 fun p35 =>
 ldT .bool p35 fun x36 =>
 jn (σ := (Bool × Unit)) (fun s38 => /-  -/
 X30 ((IntKind.wrap .i64 (s31.1 + (1 : Int))), s38.1, ()))
 (fun J37 =>
 brB (x36 == (decide (x4 > (0 : Int))))
 (callF Tryz.prog (.func (.func fn_salvorlaw05_FormulaParts_1) #[] #[]) #[(.slice r15.1.a r15.1.len r15.1.cap), (.slice x33.a x33.len x33.cap)] .bool fun r39 =>
 brB (!r39)
 (K false)
 (J37 (s31.2.1, ())))
 (callF Tryz.prog (.func (.func fn_salvorlaw05_FormulaParts_1) #[] #[]) #[(.slice r17.1.a r17.1.len r17.1.cap), (.slice x33.a x33.len x33.cap)] .bool fun r40 =>
 brB (!r40)
 (K false)
 (J37 (s31.2.1, ()))))))
 (callT Tryz.prog fn_salvorlaw05_awake #[] .bool fun r41 =>
 K r41))
 ((0 : Int), s23.2.1, ())))
 ((0 : Int), false, ())))))))))
 (nw #[(.int .i64 (0 : Int)), (.slice none 0 0)] ty_formula_Formula fun b42 =>
 callT Tryz.prog fn_salvorlaw02_Made #[(.slice (some (⟨b1, 0, none⟩ : Addr)) 1 1)] .sl fun r43 =>
 sx r43.a r43.len (0 : Int) 1 fun p44 =>
 ldT (.int .i64) p44 fun x45 =>
 st1 (⟨b42, 0, none⟩ : Addr) (.int .i64 r0.1) <|
 st1 ((⟨b42, 0, none⟩ : Addr).add 1) (.slice r0.2.1.a r0.2.1.len r0.2.1.cap) <|
 ck p44 (.int .i64 x45) <|
 ldA (.cons (.int .i64) (.cons .sl .nil)) (⟨b42, 0, none⟩ : Addr) fun x46 =>
 callT Tryz.prog fn_formula_Assign #[(.agg #[(.int .i64 x46.1), (.slice x46.2.1.a x46.2.1.len x46.2.1.cap)]), (.int .i64 x45)] (.tup (.cons (.agg (.cons (.int .i64) (.cons .sl .nil))) (.cons (.int .i64) .nil))) fun r47 =>
 nw #[(.int .i64 (0 : Int)), (.slice none 0 0)] ty_formula_Formula fun b48 =>
 st1 (⟨b48, 0, none⟩ : Addr) (.int .i64 r47.1.1) <|
 st1 ((⟨b48, 0, none⟩ : Addr).add 1) (.slice r47.1.2.1.a r47.1.2.1.len r47.1.2.1.cap) <|
 ldA (.cons (.int .i64) (.cons .sl .nil)) (⟨b42, 0, none⟩ : Addr) fun x49 =>
 callT Tryz.prog fn_formula_Assign #[(.agg #[(.int .i64 x49.1), (.slice x49.2.1.a x49.2.1.len x49.2.1.cap)]), (.int .i64 (IntKind.wrap .i64 (0 - x45)))] (.tup (.cons (.agg (.cons (.int .i64) (.cons .sl .nil))) (.cons (.int .i64) .nil))) fun r50 =>
 nw #[(.int .i64 (0 : Int)), (.slice none 0 0)] ty_formula_Formula fun b51 =>
 st1 (⟨b51, 0, none⟩ : Addr) (.int .i64 r50.1.1) <|
 st1 ((⟨b51, 0, none⟩ : Addr).add 1) (.slice r50.1.2.1.a r50.1.2.1.len r50.1.2.1.cap) <|
 ldA (.cons (.int .i64) (.cons .sl .nil)) (⟨b42, 0, none⟩ : Addr) fun x52 =>
 callT Tryz.prog fn_salvorlaw05_collected #[(.agg #[(.int .i64 x52.1), (.slice x52.2.1.a x52.2.1.len x52.2.1.cap)])] (.tup (.cons .sl (.cons .bool .nil))) fun r53 =>
 ldA (.cons (.int .i64) (.cons .sl .nil)) (⟨b48, 0, none⟩ : Addr) fun x54 =>
 callT Tryz.prog fn_salvorlaw05_collected #[(.agg #[(.int .i64 x54.1), (.slice x54.2.1.a x54.2.1.len x54.2.1.cap)])] (.tup (.cons .sl (.cons .bool .nil))) fun r55 =>
 ldA (.cons (.int .i64) (.cons .sl .nil)) (⟨b51, 0, none⟩ : Addr) fun x56 =>
 callT Tryz.prog fn_salvorlaw05_collected #[(.agg #[(.int .i64 x56.1), (.slice x56.2.1.a x56.2.1.len x56.2.1.cap)])] (.tup (.cons .sl (.cons .bool .nil))) fun r57 =>
 brB ((IntKind.wrap .i64 (r47.2.1 + r50.2.1)) != (0 : Int))
 (K false)
 (brB (!r53.2.1)
 (K false)
 (brB (!r55.2.1)
 (K false)
 (brB (!r57.2.1)
 (K false)
 (nz (2 : Int) <|
 brB ((Int.tmod (r55.1.len : Int) (2 : Int)) != (0 : Int))
 (K false)
 (nz (2 : Int) <|
 brB ((Int.tmod (r57.1.len : Int) (2 : Int)) != (0 : Int))
 (K false)
 (nz (2 : Int) <|
 nz (2 : Int) <|
 brB ((r53.1.len : Int) != (IntKind.wrap .i64 ((IntKind.wrap .i64 (Int.tdiv (r55.1.len : Int) (2 : Int))) + (IntKind.wrap .i64 (Int.tdiv (r57.1.len : Int) (2 : Int))))))
 (K false)
 (ldT .sl ((⟨b48, 0, none⟩ : Addr).add 1) fun x58 =>
 ldT .sl ((⟨b51, 0, none⟩ : Addr).add 1) fun x59 =>
 nw #[(.slice x58.a x58.len x58.cap), (.slice x59.a x59.len x59.cap)] ty_sl_clauses_Clause fun b60 =>
 callT Tryz.prog fn_slices_Concat_clauses_Clause_clauses_Clause #[(.slice (some (⟨b60, 0, none⟩ : Addr)) 2 2)] .sl fun r61 =>
 lfp (σ := (Int × (Bool × Unit))) (fun X62 s63 => /-   -/
 brB (decide (s63.1 < (r61.len : Int)))
 (sx r61.a r61.len s63.1 1 fun p64 =>
 ldT .sl p64 fun x65 =>
 callT Tryz.prog fn_lits_Vars #[(.slice x65.a x65.len x65.cap)] .sl fun r66 =>
 callT Tryz.prog fn_lits_Var #[(.int .i64 x45)] (.int .i64) fun r67 =>
 callT Tryz.prog fn_slices_Contains_int_int #[(.slice r66.a r66.len r66.cap), (.int .i64 r67)] .bool fun r68 =>
 brB r68
 (callT Tryz.prog fn_clauses_Always #[(.slice x65.a x65.len x65.cap)] .bool fun r69 =>
 brB (!r69)
 (K false)
 (X62 ((IntKind.wrap .i64 (s63.1 + (1 : Int))), s63.2.1, ())))
 (X62 ((IntKind.wrap .i64 (s63.1 + (1 : Int))), s63.2.1, ())))
 (lfp (σ := (Int × (Bool × Unit))) (fun X70 s71 => /-   -/
 brB (decide (s71.1 < (r53.1.len : Int)))
 (sx r53.1.a r53.1.len s71.1 1 fun p72 =>
 ldT .sl p72 fun x73 =>
 brB ((x73.len : Int) != (8 : Int))
 (K false)
 (callT Tryz.prog fn_lits_Var #[(.int .i64 x45)] (.int .i64) fun r74 =>
 sx x73.a x73.len (IntKind.wrap .i64 (r74 - (1 : Int))) 1 fun p75 =>
 ldT .bool p75 fun x76 =>
 jn (σ := (Bool × Unit)) (fun s78 => /-  -/
 X70 ((IntKind.wrap .i64 (s71.1 + (1 : Int))), s78.1, ()))
 (fun J77 =>
 brB (x76 == (decide (x45 > (0 : Int))))
 (callF Tryz.prog (.func (.func fn_salvorlaw05_FormulaParts_1) #[] #[]) #[(.slice r55.1.a r55.1.len r55.1.cap), (.slice x73.a x73.len x73.cap)] .bool fun r79 =>
 brB (!r79)
 (K false)
 (J77 (s71.2.1, ())))
 (callF Tryz.prog (.func (.func fn_salvorlaw05_FormulaParts_1) #[] #[]) #[(.slice r57.1.a r57.1.len r57.1.cap), (.slice x73.a x73.len x73.cap)] .bool fun r80 =>
 brB (!r80)
 (K false)
 (J77 (s71.2.1, ()))))))
 (callT Tryz.prog fn_salvorlaw05_awake #[] .bool fun r81 =>
 K r81))
 ((0 : Int), s63.2.1, ())))
 ((0 : Int), false, ()))))))))))
 (nw #[(.int .i64 (0 : Int)), (.slice none 0 0)] ty_formula_Formula fun b82 =>
 nw #[(.int .u8 a1)] ty_uint8 fun b83 =>
 callT Tryz.prog fn_salvorlaw02_Made #[(.slice (some (⟨b83, 0, none⟩ : Addr)) 1 1)] .sl fun r84 =>
 sx r84.a r84.len (0 : Int) 1 fun p85 =>
 ldT (.int .i64) p85 fun x86 =>
 st1 (⟨b82, 0, none⟩ : Addr) (.int .i64 r0.1) <|
 st1 ((⟨b82, 0, none⟩ : Addr).add 1) (.slice r0.2.1.a r0.2.1.len r0.2.1.cap) <|
 ck p85 (.int .i64 x86) <|
 ldA (.cons (.int .i64) (.cons .sl .nil)) (⟨b82, 0, none⟩ : Addr) fun x87 =>
 callT Tryz.prog fn_formula_Assign #[(.agg #[(.int .i64 x87.1), (.slice x87.2.1.a x87.2.1.len x87.2.1.cap)]), (.int .i64 x86)] (.tup (.cons (.agg (.cons (.int .i64) (.cons .sl .nil))) (.cons (.int .i64) .nil))) fun r88 =>
 nw #[(.int .i64 (0 : Int)), (.slice none 0 0)] ty_formula_Formula fun b89 =>
 st1 (⟨b89, 0, none⟩ : Addr) (.int .i64 r88.1.1) <|
 st1 ((⟨b89, 0, none⟩ : Addr).add 1) (.slice r88.1.2.1.a r88.1.2.1.len r88.1.2.1.cap) <|
 ldA (.cons (.int .i64) (.cons .sl .nil)) (⟨b82, 0, none⟩ : Addr) fun x90 =>
 callT Tryz.prog fn_formula_Assign #[(.agg #[(.int .i64 x90.1), (.slice x90.2.1.a x90.2.1.len x90.2.1.cap)]), (.int .i64 (IntKind.wrap .i64 (0 - x86)))] (.tup (.cons (.agg (.cons (.int .i64) (.cons .sl .nil))) (.cons (.int .i64) .nil))) fun r91 =>
 nw #[(.int .i64 (0 : Int)), (.slice none 0 0)] ty_formula_Formula fun b92 =>
 st1 (⟨b92, 0, none⟩ : Addr) (.int .i64 r91.1.1) <|
 st1 ((⟨b92, 0, none⟩ : Addr).add 1) (.slice r91.1.2.1.a r91.1.2.1.len r91.1.2.1.cap) <|
 ldA (.cons (.int .i64) (.cons .sl .nil)) (⟨b82, 0, none⟩ : Addr) fun x93 =>
 callT Tryz.prog fn_salvorlaw05_collected #[(.agg #[(.int .i64 x93.1), (.slice x93.2.1.a x93.2.1.len x93.2.1.cap)])] (.tup (.cons .sl (.cons .bool .nil))) fun r94 =>
 ldA (.cons (.int .i64) (.cons .sl .nil)) (⟨b89, 0, none⟩ : Addr) fun x95 =>
 callT Tryz.prog fn_salvorlaw05_collected #[(.agg #[(.int .i64 x95.1), (.slice x95.2.1.a x95.2.1.len x95.2.1.cap)])] (.tup (.cons .sl (.cons .bool .nil))) fun r96 =>
 ldA (.cons (.int .i64) (.cons .sl .nil)) (⟨b92, 0, none⟩ : Addr) fun x97 =>
 callT Tryz.prog fn_salvorlaw05_collected #[(.agg #[(.int .i64 x97.1), (.slice x97.2.1.a x97.2.1.len x97.2.1.cap)])] (.tup (.cons .sl (.cons .bool .nil))) fun r98 =>
 brB ((IntKind.wrap .i64 (r88.2.1 + r91.2.1)) != (0 : Int))
 (K false)
 (brB (!r94.2.1)
 (K false)
 (brB (!r96.2.1)
 (K false)
 (brB (!r98.2.1)
 (K false)
 (nz (2 : Int) <|
 brB ((Int.tmod (r96.1.len : Int) (2 : Int)) != (0 : Int))
 (K false)
 (nz (2 : Int) <|
 brB ((Int.tmod (r98.1.len : Int) (2 : Int)) != (0 : Int))
 (K false)
 (nz (2 : Int) <|
 nz (2 : Int) <|
 brB ((r94.1.len : Int) != (IntKind.wrap .i64 ((IntKind.wrap .i64 (Int.tdiv (r96.1.len : Int) (2 : Int))) + (IntKind.wrap .i64 (Int.tdiv (r98.1.len : Int) (2 : Int))))))
 (K false)
 (ldT .sl ((⟨b89, 0, none⟩ : Addr).add 1) fun x99 =>
 ldT .sl ((⟨b92, 0, none⟩ : Addr).add 1) fun x100 =>
 nw #[(.slice x99.a x99.len x99.cap), (.slice x100.a x100.len x100.cap)] ty_sl_clauses_Clause fun b101 =>
 callT Tryz.prog fn_slices_Concat_clauses_Clause_clauses_Clause #[(.slice (some (⟨b101, 0, none⟩ : Addr)) 2 2)] .sl fun r102 =>
 lfp (σ := (Int × (Bool × Unit))) (fun X103 s104 => /-   -/
 brB (decide (s104.1 < (r102.len : Int)))
 (sx r102.a r102.len s104.1 1 fun p105 =>
 ldT .sl p105 fun x106 =>
 callT Tryz.prog fn_lits_Vars #[(.slice x106.a x106.len x106.cap)] .sl fun r107 =>
 callT Tryz.prog fn_lits_Var #[(.int .i64 x86)] (.int .i64) fun r108 =>
 callT Tryz.prog fn_slices_Contains_int_int #[(.slice r107.a r107.len r107.cap), (.int .i64 r108)] .bool fun r109 =>
 brB r109
 (callT Tryz.prog fn_clauses_Always #[(.slice x106.a x106.len x106.cap)] .bool fun r110 =>
 brB (!r110)
 (K false)
 (X103 ((IntKind.wrap .i64 (s104.1 + (1 : Int))), s104.2.1, ())))
 (X103 ((IntKind.wrap .i64 (s104.1 + (1 : Int))), s104.2.1, ())))
 (lfp (σ := (Int × (Bool × Unit))) (fun X111 s112 => /-   -/
 brB (decide (s112.1 < (r94.1.len : Int)))
 (sx r94.1.a r94.1.len s112.1 1 fun p113 =>
 ldT .sl p113 fun x114 =>
 brB ((x114.len : Int) != (8 : Int))
 (K false)
 (callT Tryz.prog fn_lits_Var #[(.int .i64 x86)] (.int .i64) fun r115 =>
 sx x114.a x114.len (IntKind.wrap .i64 (r115 - (1 : Int))) 1 fun p116 =>
 ldT .bool p116 fun x117 =>
 jn (σ := (Bool × Unit)) (fun s119 => /-  -/
 X111 ((IntKind.wrap .i64 (s112.1 + (1 : Int))), s119.1, ()))
 (fun J118 =>
 brB (x117 == (decide (x86 > (0 : Int))))
 (callF Tryz.prog (.func (.func fn_salvorlaw05_FormulaParts_1) #[] #[]) #[(.slice r96.1.a r96.1.len r96.1.cap), (.slice x114.a x114.len x114.cap)] .bool fun r120 =>
 brB (!r120)
 (K false)
 (J118 (s112.2.1, ())))
 (callF Tryz.prog (.func (.func fn_salvorlaw05_FormulaParts_1) #[] #[]) #[(.slice r98.1.a r98.1.len r98.1.cap), (.slice x114.a x114.len x114.cap)] .bool fun r121 =>
 brB (!r121)
 (K false)
 (J118 (s112.2.1, ()))))))
 (callT Tryz.prog fn_salvorlaw05_awake #[] .bool fun r122 =>
 K r122))
 ((0 : Int), s104.2.1, ())))
 ((0 : Int), false, ()))))))))))
 (cj
 (nw #[(.int .u8 a1)] ty_uint8 fun b123 =>
 cj
 (callT Tryz.prog fn_salvorlaw05_Made #[(.slice a0.a a0.len a0.cap)] (.agg (.cons (.int .i64) (.cons .sl .nil))) fun r124 =>
 cj
 (callT Tryz.prog fn_salvorlaw02_Made #[(.slice (some (⟨b123, 0, none⟩ : Addr)) 1 1)] .sl fun r125 =>
 sx r125.a r125.len (0 : Int) 1 fun p126 =>
 ldT (.int .i64) p126 fun x127 =>
 nw #[(.int .i64 (0 : Int)), (.slice none 0 0)] ty_formula_Formula fun b128 =>
 st1 (⟨b128, 0, none⟩ : Addr) (.int .i64 r124.1) <|
 st1 ((⟨b128, 0, none⟩ : Addr).add 1) (.slice r124.2.1.a r124.2.1.len r124.2.1.cap) <|
 ck p126 (.int .i64 x127) <|
 ldA (.cons (.int .i64) (.cons .sl .nil)) (⟨b128, 0, none⟩ : Addr) fun x129 =>
 callT Tryz.prog fn_formula_Assign #[(.agg #[(.int .i64 x129.1), (.slice x129.2.1.a x129.2.1.len x129.2.1.cap)]), (.int .i64 x127)] (.tup (.cons (.agg (.cons (.int .i64) (.cons .sl .nil))) (.cons (.int .i64) .nil))) fun r130 =>
 nw #[(.int .i64 (0 : Int)), (.slice none 0 0)] ty_formula_Formula fun b131 =>
 st1 (⟨b131, 0, none⟩ : Addr) (.int .i64 r130.1.1) <|
 st1 ((⟨b131, 0, none⟩ : Addr).add 1) (.slice r130.1.2.1.a r130.1.2.1.len r130.1.2.1.cap) <|
 ldA (.cons (.int .i64) (.cons .sl .nil)) (⟨b128, 0, none⟩ : Addr) fun x132 =>
 callT Tryz.prog fn_formula_Assign #[(.agg #[(.int .i64 x132.1), (.slice x132.2.1.a x132.2.1.len x132.2.1.cap)]), (.int .i64 (IntKind.wrap .i64 (0 - x127)))] (.tup (.cons (.agg (.cons (.int .i64) (.cons .sl .nil))) (.cons (.int .i64) .nil))) fun r133 =>
 nw #[(.int .i64 (0 : Int)), (.slice none 0 0)] ty_formula_Formula fun b134 =>
 st1 (⟨b134, 0, none⟩ : Addr) (.int .i64 r133.1.1) <|
 st1 ((⟨b134, 0, none⟩ : Addr).add 1) (.slice r133.1.2.1.a r133.1.2.1.len r133.1.2.1.cap) <|
 ldA (.cons (.int .i64) (.cons .sl .nil)) (⟨b128, 0, none⟩ : Addr) fun x135 =>
 callT Tryz.prog fn_salvorlaw05_collected #[(.agg #[(.int .i64 x135.1), (.slice x135.2.1.a x135.2.1.len x135.2.1.cap)])] (.tup (.cons .sl (.cons .bool .nil))) fun r136 =>
 ldA (.cons (.int .i64) (.cons .sl .nil)) (⟨b131, 0, none⟩ : Addr) fun x137 =>
 callT Tryz.prog fn_salvorlaw05_collected #[(.agg #[(.int .i64 x137.1), (.slice x137.2.1.a x137.2.1.len x137.2.1.cap)])] (.tup (.cons .sl (.cons .bool .nil))) fun r138 =>
 ldA (.cons (.int .i64) (.cons .sl .nil)) (⟨b134, 0, none⟩ : Addr) fun x139 =>
 callT Tryz.prog fn_salvorlaw05_collected #[(.agg #[(.int .i64 x139.1), (.slice x139.2.1.a x139.2.1.len x139.2.1.cap)])] (.tup (.cons .sl (.cons .bool .nil))) fun r140 =>
 brB ((IntKind.wrap .i64 (r130.2.1 + r133.2.1)) != (0 : Int))
 (K false)
 (brB (!r136.2.1)
 (K false)
 (brB (!r138.2.1)
 (K false)
 (brB (!r140.2.1)
 (K false)
 (nz (2 : Int) <|
 brB ((Int.tmod (r138.1.len : Int) (2 : Int)) != (0 : Int))
 (K false)
 (nz (2 : Int) <|
 brB ((Int.tmod (r140.1.len : Int) (2 : Int)) != (0 : Int))
 (K false)
 (nz (2 : Int) <|
 nz (2 : Int) <|
 brB ((r136.1.len : Int) != (IntKind.wrap .i64 ((IntKind.wrap .i64 (Int.tdiv (r138.1.len : Int) (2 : Int))) + (IntKind.wrap .i64 (Int.tdiv (r140.1.len : Int) (2 : Int))))))
 (K false)
 (ldT .sl ((⟨b131, 0, none⟩ : Addr).add 1) fun x141 =>
 ldT .sl ((⟨b134, 0, none⟩ : Addr).add 1) fun x142 =>
 nw #[(.slice x141.a x141.len x141.cap), (.slice x142.a x142.len x142.cap)] ty_sl_clauses_Clause fun b143 =>
 callT Tryz.prog fn_slices_Concat_clauses_Clause_clauses_Clause #[(.slice (some (⟨b143, 0, none⟩ : Addr)) 2 2)] .sl fun r144 =>
 lfp (σ := (Int × (Bool × Unit))) (fun X145 s146 => /-   -/
 brB (decide (s146.1 < (r144.len : Int)))
 (sx r144.a r144.len s146.1 1 fun p147 =>
 ldT .sl p147 fun x148 =>
 callT Tryz.prog fn_lits_Vars #[(.slice x148.a x148.len x148.cap)] .sl fun r149 =>
 callT Tryz.prog fn_lits_Var #[(.int .i64 x127)] (.int .i64) fun r150 =>
 callT Tryz.prog fn_slices_Contains_int_int #[(.slice r149.a r149.len r149.cap), (.int .i64 r150)] .bool fun r151 =>
 brB r151
 (callT Tryz.prog fn_clauses_Always #[(.slice x148.a x148.len x148.cap)] .bool fun r152 =>
 brB (!r152)
 (K false)
 (X145 ((IntKind.wrap .i64 (s146.1 + (1 : Int))), s146.2.1, ())))
 (X145 ((IntKind.wrap .i64 (s146.1 + (1 : Int))), s146.2.1, ())))
 (lfp (σ := (Int × (Bool × Unit))) (fun X153 s154 => /-   -/
 brB (decide (s154.1 < (r136.1.len : Int)))
 (sx r136.1.a r136.1.len s154.1 1 fun p155 =>
 ldT .sl p155 fun x156 =>
 brB ((x156.len : Int) != (8 : Int))
 (K false)
 (callT Tryz.prog fn_lits_Var #[(.int .i64 x127)] (.int .i64) fun r157 =>
 sx x156.a x156.len (IntKind.wrap .i64 (r157 - (1 : Int))) 1 fun p158 =>
 ldT .bool p158 fun x159 =>
 jn (σ := (Bool × Unit)) (fun s161 => /-  -/
 X153 ((IntKind.wrap .i64 (s154.1 + (1 : Int))), s161.1, ()))
 (fun J160 =>
 brB (x159 == (decide (x127 > (0 : Int))))
 (callF Tryz.prog (.func (.func fn_salvorlaw05_FormulaParts_1) #[] #[]) #[(.slice r138.1.a r138.1.len r138.1.cap), (.slice x156.a x156.len x156.cap)] .bool fun r162 =>
 brB (!r162)
 (K false)
 (J160 (s154.2.1, ())))
 (callF Tryz.prog (.func (.func fn_salvorlaw05_FormulaParts_1) #[] #[]) #[(.slice r140.1.a r140.1.len r140.1.cap), (.slice x156.a x156.len x156.cap)] .bool fun r163 =>
 brB (!r163)
 (K false)
 (J160 (s154.2.1, ()))))))
 (callT Tryz.prog fn_salvorlaw05_awake #[] .bool fun r164 =>
 K r164))
 ((0 : Int), s146.2.1, ())))
 ((0 : Int), false, ())))))))))
 (nw #[(.int .i64 (0 : Int)), (.slice none 0 0)] ty_formula_Formula fun b165 =>
 callT Tryz.prog fn_salvorlaw02_Made #[(.slice (some (⟨b123, 0, none⟩ : Addr)) 1 1)] .sl fun r166 =>
 sx r166.a r166.len (0 : Int) 1 fun p167 =>
 ldT (.int .i64) p167 fun x168 =>
 st1 (⟨b165, 0, none⟩ : Addr) (.int .i64 r124.1) <|
 st1 ((⟨b165, 0, none⟩ : Addr).add 1) (.slice r124.2.1.a r124.2.1.len r124.2.1.cap) <|
 ck p167 (.int .i64 x168) <|
 ldA (.cons (.int .i64) (.cons .sl .nil)) (⟨b165, 0, none⟩ : Addr) fun x169 =>
 callT Tryz.prog fn_formula_Assign #[(.agg #[(.int .i64 x169.1), (.slice x169.2.1.a x169.2.1.len x169.2.1.cap)]), (.int .i64 x168)] (.tup (.cons (.agg (.cons (.int .i64) (.cons .sl .nil))) (.cons (.int .i64) .nil))) fun r170 =>
 nw #[(.int .i64 (0 : Int)), (.slice none 0 0)] ty_formula_Formula fun b171 =>
 st1 (⟨b171, 0, none⟩ : Addr) (.int .i64 r170.1.1) <|
 st1 ((⟨b171, 0, none⟩ : Addr).add 1) (.slice r170.1.2.1.a r170.1.2.1.len r170.1.2.1.cap) <|
 ldA (.cons (.int .i64) (.cons .sl .nil)) (⟨b165, 0, none⟩ : Addr) fun x172 =>
 callT Tryz.prog fn_formula_Assign #[(.agg #[(.int .i64 x172.1), (.slice x172.2.1.a x172.2.1.len x172.2.1.cap)]), (.int .i64 (IntKind.wrap .i64 (0 - x168)))] (.tup (.cons (.agg (.cons (.int .i64) (.cons .sl .nil))) (.cons (.int .i64) .nil))) fun r173 =>
 nw #[(.int .i64 (0 : Int)), (.slice none 0 0)] ty_formula_Formula fun b174 =>
 st1 (⟨b174, 0, none⟩ : Addr) (.int .i64 r173.1.1) <|
 st1 ((⟨b174, 0, none⟩ : Addr).add 1) (.slice r173.1.2.1.a r173.1.2.1.len r173.1.2.1.cap) <|
 ldA (.cons (.int .i64) (.cons .sl .nil)) (⟨b165, 0, none⟩ : Addr) fun x175 =>
 callT Tryz.prog fn_salvorlaw05_collected #[(.agg #[(.int .i64 x175.1), (.slice x175.2.1.a x175.2.1.len x175.2.1.cap)])] (.tup (.cons .sl (.cons .bool .nil))) fun r176 =>
 ldA (.cons (.int .i64) (.cons .sl .nil)) (⟨b171, 0, none⟩ : Addr) fun x177 =>
 callT Tryz.prog fn_salvorlaw05_collected #[(.agg #[(.int .i64 x177.1), (.slice x177.2.1.a x177.2.1.len x177.2.1.cap)])] (.tup (.cons .sl (.cons .bool .nil))) fun r178 =>
 ldA (.cons (.int .i64) (.cons .sl .nil)) (⟨b174, 0, none⟩ : Addr) fun x179 =>
 callT Tryz.prog fn_salvorlaw05_collected #[(.agg #[(.int .i64 x179.1), (.slice x179.2.1.a x179.2.1.len x179.2.1.cap)])] (.tup (.cons .sl (.cons .bool .nil))) fun r180 =>
 brB ((IntKind.wrap .i64 (r170.2.1 + r173.2.1)) != (0 : Int))
 (K false)
 (brB (!r176.2.1)
 (K false)
 (brB (!r178.2.1)
 (K false)
 (brB (!r180.2.1)
 (K false)
 (nz (2 : Int) <|
 brB ((Int.tmod (r178.1.len : Int) (2 : Int)) != (0 : Int))
 (K false)
 (nz (2 : Int) <|
 brB ((Int.tmod (r180.1.len : Int) (2 : Int)) != (0 : Int))
 (K false)
 (nz (2 : Int) <|
 nz (2 : Int) <|
 brB ((r176.1.len : Int) != (IntKind.wrap .i64 ((IntKind.wrap .i64 (Int.tdiv (r178.1.len : Int) (2 : Int))) + (IntKind.wrap .i64 (Int.tdiv (r180.1.len : Int) (2 : Int))))))
 (K false)
 (ldT .sl ((⟨b171, 0, none⟩ : Addr).add 1) fun x181 =>
 ldT .sl ((⟨b174, 0, none⟩ : Addr).add 1) fun x182 =>
 nw #[(.slice x181.a x181.len x181.cap), (.slice x182.a x182.len x182.cap)] ty_sl_clauses_Clause fun b183 =>
 callT Tryz.prog fn_slices_Concat_clauses_Clause_clauses_Clause #[(.slice (some (⟨b183, 0, none⟩ : Addr)) 2 2)] .sl fun r184 =>
 lfp (σ := (Int × (Bool × Unit))) (fun X185 s186 => /-   -/
 brB (decide (s186.1 < (r184.len : Int)))
 (sx r184.a r184.len s186.1 1 fun p187 =>
 ldT .sl p187 fun x188 =>
 callT Tryz.prog fn_lits_Vars #[(.slice x188.a x188.len x188.cap)] .sl fun r189 =>
 callT Tryz.prog fn_lits_Var #[(.int .i64 x168)] (.int .i64) fun r190 =>
 callT Tryz.prog fn_slices_Contains_int_int #[(.slice r189.a r189.len r189.cap), (.int .i64 r190)] .bool fun r191 =>
 brB r191
 (callT Tryz.prog fn_clauses_Always #[(.slice x188.a x188.len x188.cap)] .bool fun r192 =>
 brB (!r192)
 (K false)
 (X185 ((IntKind.wrap .i64 (s186.1 + (1 : Int))), s186.2.1, ())))
 (X185 ((IntKind.wrap .i64 (s186.1 + (1 : Int))), s186.2.1, ())))
 (lfp (σ := (Int × (Bool × Unit))) (fun X193 s194 => /-   -/
 brB (decide (s194.1 < (r176.1.len : Int)))
 (sx r176.1.a r176.1.len s194.1 1 fun p195 =>
 ldT .sl p195 fun x196 =>
 brB ((x196.len : Int) != (8 : Int))
 (K false)
 (callT Tryz.prog fn_lits_Var #[(.int .i64 x168)] (.int .i64) fun r197 =>
 sx x196.a x196.len (IntKind.wrap .i64 (r197 - (1 : Int))) 1 fun p198 =>
 ldT .bool p198 fun x199 =>
 jn (σ := (Bool × Unit)) (fun s201 => /-  -/
 X193 ((IntKind.wrap .i64 (s194.1 + (1 : Int))), s201.1, ()))
 (fun J200 =>
 brB (x199 == (decide (x168 > (0 : Int))))
 (callF Tryz.prog (.func (.func fn_salvorlaw05_FormulaParts_1) #[] #[]) #[(.slice r178.1.a r178.1.len r178.1.cap), (.slice x196.a x196.len x196.cap)] .bool fun r202 =>
 brB (!r202)
 (K false)
 (J200 (s194.2.1, ())))
 (callF Tryz.prog (.func (.func fn_salvorlaw05_FormulaParts_1) #[] #[]) #[(.slice r180.1.a r180.1.len r180.1.cap), (.slice x196.a x196.len x196.cap)] .bool fun r203 =>
 brB (!r203)
 (K false)
 (J200 (s194.2.1, ()))))))
 (callT Tryz.prog fn_salvorlaw05_awake #[] .bool fun r204 =>
 K r204))
 ((0 : Int), s186.2.1, ())))
 ((0 : Int), false, ()))))))))))
 (nw #[(.int .i64 (0 : Int)), (.slice none 0 0)] ty_formula_Formula fun b205 =>
 callT Tryz.prog fn_salvorlaw05_Made #[(.slice a0.a a0.len a0.cap)] (.agg (.cons (.int .i64) (.cons .sl .nil))) fun r206 =>
 callT Tryz.prog fn_salvorlaw02_Made #[(.slice (some (⟨b123, 0, none⟩ : Addr)) 1 1)] .sl fun r207 =>
 sx r207.a r207.len (0 : Int) 1 fun p208 =>
 ldT (.int .i64) p208 fun x209 =>
 st1 (⟨b205, 0, none⟩ : Addr) (.int .i64 r206.1) <|
 st1 ((⟨b205, 0, none⟩ : Addr).add 1) (.slice r206.2.1.a r206.2.1.len r206.2.1.cap) <|
 ck p208 (.int .i64 x209) <|
 ldA (.cons (.int .i64) (.cons .sl .nil)) (⟨b205, 0, none⟩ : Addr) fun x210 =>
 callT Tryz.prog fn_formula_Assign #[(.agg #[(.int .i64 x210.1), (.slice x210.2.1.a x210.2.1.len x210.2.1.cap)]), (.int .i64 x209)] (.tup (.cons (.agg (.cons (.int .i64) (.cons .sl .nil))) (.cons (.int .i64) .nil))) fun r211 =>
 nw #[(.int .i64 (0 : Int)), (.slice none 0 0)] ty_formula_Formula fun b212 =>
 st1 (⟨b212, 0, none⟩ : Addr) (.int .i64 r211.1.1) <|
 st1 ((⟨b212, 0, none⟩ : Addr).add 1) (.slice r211.1.2.1.a r211.1.2.1.len r211.1.2.1.cap) <|
 ldA (.cons (.int .i64) (.cons .sl .nil)) (⟨b205, 0, none⟩ : Addr) fun x213 =>
 callT Tryz.prog fn_formula_Assign #[(.agg #[(.int .i64 x213.1), (.slice x213.2.1.a x213.2.1.len x213.2.1.cap)]), (.int .i64 (IntKind.wrap .i64 (0 - x209)))] (.tup (.cons (.agg (.cons (.int .i64) (.cons .sl .nil))) (.cons (.int .i64) .nil))) fun r214 =>
 nw #[(.int .i64 (0 : Int)), (.slice none 0 0)] ty_formula_Formula fun b215 =>
 st1 (⟨b215, 0, none⟩ : Addr) (.int .i64 r214.1.1) <|
 st1 ((⟨b215, 0, none⟩ : Addr).add 1) (.slice r214.1.2.1.a r214.1.2.1.len r214.1.2.1.cap) <|
 ldA (.cons (.int .i64) (.cons .sl .nil)) (⟨b205, 0, none⟩ : Addr) fun x216 =>
 callT Tryz.prog fn_salvorlaw05_collected #[(.agg #[(.int .i64 x216.1), (.slice x216.2.1.a x216.2.1.len x216.2.1.cap)])] (.tup (.cons .sl (.cons .bool .nil))) fun r217 =>
 ldA (.cons (.int .i64) (.cons .sl .nil)) (⟨b212, 0, none⟩ : Addr) fun x218 =>
 callT Tryz.prog fn_salvorlaw05_collected #[(.agg #[(.int .i64 x218.1), (.slice x218.2.1.a x218.2.1.len x218.2.1.cap)])] (.tup (.cons .sl (.cons .bool .nil))) fun r219 =>
 ldA (.cons (.int .i64) (.cons .sl .nil)) (⟨b215, 0, none⟩ : Addr) fun x220 =>
 callT Tryz.prog fn_salvorlaw05_collected #[(.agg #[(.int .i64 x220.1), (.slice x220.2.1.a x220.2.1.len x220.2.1.cap)])] (.tup (.cons .sl (.cons .bool .nil))) fun r221 =>
 brB ((IntKind.wrap .i64 (r211.2.1 + r214.2.1)) != (0 : Int))
 (K false)
 (brB (!r217.2.1)
 (K false)
 (brB (!r219.2.1)
 (K false)
 (brB (!r221.2.1)
 (K false)
 (nz (2 : Int) <|
 brB ((Int.tmod (r219.1.len : Int) (2 : Int)) != (0 : Int))
 (K false)
 (nz (2 : Int) <|
 brB ((Int.tmod (r221.1.len : Int) (2 : Int)) != (0 : Int))
 (K false)
 (nz (2 : Int) <|
 nz (2 : Int) <|
 brB ((r217.1.len : Int) != (IntKind.wrap .i64 ((IntKind.wrap .i64 (Int.tdiv (r219.1.len : Int) (2 : Int))) + (IntKind.wrap .i64 (Int.tdiv (r221.1.len : Int) (2 : Int))))))
 (K false)
 (ldT .sl ((⟨b212, 0, none⟩ : Addr).add 1) fun x222 =>
 ldT .sl ((⟨b215, 0, none⟩ : Addr).add 1) fun x223 =>
 nw #[(.slice x222.a x222.len x222.cap), (.slice x223.a x223.len x223.cap)] ty_sl_clauses_Clause fun b224 =>
 callT Tryz.prog fn_slices_Concat_clauses_Clause_clauses_Clause #[(.slice (some (⟨b224, 0, none⟩ : Addr)) 2 2)] .sl fun r225 =>
 lfp (σ := (Int × (Bool × Unit))) (fun X226 s227 => /-   -/
 brB (decide (s227.1 < (r225.len : Int)))
 (sx r225.a r225.len s227.1 1 fun p228 =>
 ldT .sl p228 fun x229 =>
 callT Tryz.prog fn_lits_Vars #[(.slice x229.a x229.len x229.cap)] .sl fun r230 =>
 callT Tryz.prog fn_lits_Var #[(.int .i64 x209)] (.int .i64) fun r231 =>
 callT Tryz.prog fn_slices_Contains_int_int #[(.slice r230.a r230.len r230.cap), (.int .i64 r231)] .bool fun r232 =>
 brB r232
 (callT Tryz.prog fn_clauses_Always #[(.slice x229.a x229.len x229.cap)] .bool fun r233 =>
 brB (!r233)
 (K false)
 (X226 ((IntKind.wrap .i64 (s227.1 + (1 : Int))), s227.2.1, ())))
 (X226 ((IntKind.wrap .i64 (s227.1 + (1 : Int))), s227.2.1, ())))
 (lfp (σ := (Int × (Bool × Unit))) (fun X234 s235 => /-   -/
 brB (decide (s235.1 < (r217.1.len : Int)))
 (sx r217.1.a r217.1.len s235.1 1 fun p236 =>
 ldT .sl p236 fun x237 =>
 brB ((x237.len : Int) != (8 : Int))
 (K false)
 (callT Tryz.prog fn_lits_Var #[(.int .i64 x209)] (.int .i64) fun r238 =>
 sx x237.a x237.len (IntKind.wrap .i64 (r238 - (1 : Int))) 1 fun p239 =>
 ldT .bool p239 fun x240 =>
 jn (σ := (Bool × Unit)) (fun s242 => /-  -/
 X234 ((IntKind.wrap .i64 (s235.1 + (1 : Int))), s242.1, ()))
 (fun J241 =>
 brB (x240 == (decide (x209 > (0 : Int))))
 (callF Tryz.prog (.func (.func fn_salvorlaw05_FormulaParts_1) #[] #[]) #[(.slice r219.1.a r219.1.len r219.1.cap), (.slice x237.a x237.len x237.cap)] .bool fun r243 =>
 brB (!r243)
 (K false)
 (J241 (s235.2.1, ())))
 (callF Tryz.prog (.func (.func fn_salvorlaw05_FormulaParts_1) #[] #[]) #[(.slice r221.1.a r221.1.len r221.1.cap), (.slice x237.a x237.len x237.cap)] .bool fun r244 =>
 brB (!r244)
 (K false)
 (J241 (s235.2.1, ()))))))
 (callT Tryz.prog fn_salvorlaw05_awake #[] .bool fun r245 =>
 K r245))
 ((0 : Int), s227.2.1, ())))
 ((0 : Int), false, ()))))))))))
 (nw #[(.int .i64 (0 : Int)), (.slice none 0 0)] ty_formula_Formula fun b246 =>
 cj
 (callT Tryz.prog fn_salvorlaw05_Made #[(.slice a0.a a0.len a0.cap)] (.agg (.cons (.int .i64) (.cons .sl .nil))) fun r247 =>
 nw #[(.int .u8 a1)] ty_uint8 fun b248 =>
 callT Tryz.prog fn_salvorlaw02_Made #[(.slice (some (⟨b248, 0, none⟩ : Addr)) 1 1)] .sl fun r249 =>
 sx r249.a r249.len (0 : Int) 1 fun p250 =>
 ldT (.int .i64) p250 fun x251 =>
 st1 (⟨b246, 0, none⟩ : Addr) (.int .i64 r247.1) <|
 st1 ((⟨b246, 0, none⟩ : Addr).add 1) (.slice r247.2.1.a r247.2.1.len r247.2.1.cap) <|
 ck p250 (.int .i64 x251) <|
 ldA (.cons (.int .i64) (.cons .sl .nil)) (⟨b246, 0, none⟩ : Addr) fun x252 =>
 callT Tryz.prog fn_formula_Assign #[(.agg #[(.int .i64 x252.1), (.slice x252.2.1.a x252.2.1.len x252.2.1.cap)]), (.int .i64 x251)] (.tup (.cons (.agg (.cons (.int .i64) (.cons .sl .nil))) (.cons (.int .i64) .nil))) fun r253 =>
 nw #[(.int .i64 (0 : Int)), (.slice none 0 0)] ty_formula_Formula fun b254 =>
 st1 (⟨b254, 0, none⟩ : Addr) (.int .i64 r253.1.1) <|
 st1 ((⟨b254, 0, none⟩ : Addr).add 1) (.slice r253.1.2.1.a r253.1.2.1.len r253.1.2.1.cap) <|
 ldA (.cons (.int .i64) (.cons .sl .nil)) (⟨b246, 0, none⟩ : Addr) fun x255 =>
 callT Tryz.prog fn_formula_Assign #[(.agg #[(.int .i64 x255.1), (.slice x255.2.1.a x255.2.1.len x255.2.1.cap)]), (.int .i64 (IntKind.wrap .i64 (0 - x251)))] (.tup (.cons (.agg (.cons (.int .i64) (.cons .sl .nil))) (.cons (.int .i64) .nil))) fun r256 =>
 nw #[(.int .i64 (0 : Int)), (.slice none 0 0)] ty_formula_Formula fun b257 =>
 st1 (⟨b257, 0, none⟩ : Addr) (.int .i64 r256.1.1) <|
 st1 ((⟨b257, 0, none⟩ : Addr).add 1) (.slice r256.1.2.1.a r256.1.2.1.len r256.1.2.1.cap) <|
 ldA (.cons (.int .i64) (.cons .sl .nil)) (⟨b246, 0, none⟩ : Addr) fun x258 =>
 callT Tryz.prog fn_salvorlaw05_collected #[(.agg #[(.int .i64 x258.1), (.slice x258.2.1.a x258.2.1.len x258.2.1.cap)])] (.tup (.cons .sl (.cons .bool .nil))) fun r259 =>
 ldA (.cons (.int .i64) (.cons .sl .nil)) (⟨b254, 0, none⟩ : Addr) fun x260 =>
 callT Tryz.prog fn_salvorlaw05_collected #[(.agg #[(.int .i64 x260.1), (.slice x260.2.1.a x260.2.1.len x260.2.1.cap)])] (.tup (.cons .sl (.cons .bool .nil))) fun r261 =>
 ldA (.cons (.int .i64) (.cons .sl .nil)) (⟨b257, 0, none⟩ : Addr) fun x262 =>
 callT Tryz.prog fn_salvorlaw05_collected #[(.agg #[(.int .i64 x262.1), (.slice x262.2.1.a x262.2.1.len x262.2.1.cap)])] (.tup (.cons .sl (.cons .bool .nil))) fun r263 =>
 brB ((IntKind.wrap .i64 (r253.2.1 + r256.2.1)) != (0 : Int))
 (K false)
 (brB (!r259.2.1)
 (K false)
 (brB (!r261.2.1)
 (K false)
 (brB (!r263.2.1)
 (K false)
 (nz (2 : Int) <|
 brB ((Int.tmod (r261.1.len : Int) (2 : Int)) != (0 : Int))
 (K false)
 (nz (2 : Int) <|
 brB ((Int.tmod (r263.1.len : Int) (2 : Int)) != (0 : Int))
 (K false)
 (nz (2 : Int) <|
 nz (2 : Int) <|
 brB ((r259.1.len : Int) != (IntKind.wrap .i64 ((IntKind.wrap .i64 (Int.tdiv (r261.1.len : Int) (2 : Int))) + (IntKind.wrap .i64 (Int.tdiv (r263.1.len : Int) (2 : Int))))))
 (K false)
 (ldT .sl ((⟨b254, 0, none⟩ : Addr).add 1) fun x264 =>
 ldT .sl ((⟨b257, 0, none⟩ : Addr).add 1) fun x265 =>
 nw #[(.slice x264.a x264.len x264.cap), (.slice x265.a x265.len x265.cap)] ty_sl_clauses_Clause fun b266 =>
 callT Tryz.prog fn_slices_Concat_clauses_Clause_clauses_Clause #[(.slice (some (⟨b266, 0, none⟩ : Addr)) 2 2)] .sl fun r267 =>
 lfp (σ := (Int × (Bool × Unit))) (fun X268 s269 => /-   -/
 brB (decide (s269.1 < (r267.len : Int)))
 (sx r267.a r267.len s269.1 1 fun p270 =>
 ldT .sl p270 fun x271 =>
 callT Tryz.prog fn_lits_Vars #[(.slice x271.a x271.len x271.cap)] .sl fun r272 =>
 callT Tryz.prog fn_lits_Var #[(.int .i64 x251)] (.int .i64) fun r273 =>
 callT Tryz.prog fn_slices_Contains_int_int #[(.slice r272.a r272.len r272.cap), (.int .i64 r273)] .bool fun r274 =>
 brB r274
 (callT Tryz.prog fn_clauses_Always #[(.slice x271.a x271.len x271.cap)] .bool fun r275 =>
 brB (!r275)
 (K false)
 (X268 ((IntKind.wrap .i64 (s269.1 + (1 : Int))), s269.2.1, ())))
 (X268 ((IntKind.wrap .i64 (s269.1 + (1 : Int))), s269.2.1, ())))
 (lfp (σ := (Int × (Bool × Unit))) (fun X276 s277 => /-   -/
 brB (decide (s277.1 < (r259.1.len : Int)))
 (sx r259.1.a r259.1.len s277.1 1 fun p278 =>
 ldT .sl p278 fun x279 =>
 brB ((x279.len : Int) != (8 : Int))
 (K false)
 (callT Tryz.prog fn_lits_Var #[(.int .i64 x251)] (.int .i64) fun r280 =>
 sx x279.a x279.len (IntKind.wrap .i64 (r280 - (1 : Int))) 1 fun p281 =>
 ldT .bool p281 fun x282 =>
 jn (σ := (Bool × Unit)) (fun s284 => /-  -/
 X276 ((IntKind.wrap .i64 (s277.1 + (1 : Int))), s284.1, ()))
 (fun J283 =>
 brB (x282 == (decide (x251 > (0 : Int))))
 (callF Tryz.prog (.func (.func fn_salvorlaw05_FormulaParts_1) #[] #[]) #[(.slice r261.1.a r261.1.len r261.1.cap), (.slice x279.a x279.len x279.cap)] .bool fun r285 =>
 brB (!r285)
 (K false)
 (J283 (s277.2.1, ())))
 (callF Tryz.prog (.func (.func fn_salvorlaw05_FormulaParts_1) #[] #[]) #[(.slice r263.1.a r263.1.len r263.1.cap), (.slice x279.a x279.len x279.cap)] .bool fun r286 =>
 brB (!r286)
 (K false)
 (J283 (s277.2.1, ()))))))
 (callT Tryz.prog fn_salvorlaw05_awake #[] .bool fun r287 =>
 K r287))
 ((0 : Int), s269.2.1, ())))
 ((0 : Int), false, ())))))))))
 (nw #[(.int .u8 a1)] ty_uint8 fun b288 =>
 callT Tryz.prog fn_salvorlaw05_Made #[(.slice a0.a a0.len a0.cap)] (.agg (.cons (.int .i64) (.cons .sl .nil))) fun r289 =>
 callT Tryz.prog fn_salvorlaw02_Made #[(.slice (some (⟨b288, 0, none⟩ : Addr)) 1 1)] .sl fun r290 =>
 sx r290.a r290.len (0 : Int) 1 fun p291 =>
 ldT (.int .i64) p291 fun x292 =>
 st1 (⟨b246, 0, none⟩ : Addr) (.int .i64 r289.1) <|
 st1 ((⟨b246, 0, none⟩ : Addr).add 1) (.slice r289.2.1.a r289.2.1.len r289.2.1.cap) <|
 ck p291 (.int .i64 x292) <|
 ldA (.cons (.int .i64) (.cons .sl .nil)) (⟨b246, 0, none⟩ : Addr) fun x293 =>
 callT Tryz.prog fn_formula_Assign #[(.agg #[(.int .i64 x293.1), (.slice x293.2.1.a x293.2.1.len x293.2.1.cap)]), (.int .i64 x292)] (.tup (.cons (.agg (.cons (.int .i64) (.cons .sl .nil))) (.cons (.int .i64) .nil))) fun r294 =>
 nw #[(.int .i64 (0 : Int)), (.slice none 0 0)] ty_formula_Formula fun b295 =>
 st1 (⟨b295, 0, none⟩ : Addr) (.int .i64 r294.1.1) <|
 st1 ((⟨b295, 0, none⟩ : Addr).add 1) (.slice r294.1.2.1.a r294.1.2.1.len r294.1.2.1.cap) <|
 ldA (.cons (.int .i64) (.cons .sl .nil)) (⟨b246, 0, none⟩ : Addr) fun x296 =>
 callT Tryz.prog fn_formula_Assign #[(.agg #[(.int .i64 x296.1), (.slice x296.2.1.a x296.2.1.len x296.2.1.cap)]), (.int .i64 (IntKind.wrap .i64 (0 - x292)))] (.tup (.cons (.agg (.cons (.int .i64) (.cons .sl .nil))) (.cons (.int .i64) .nil))) fun r297 =>
 nw #[(.int .i64 (0 : Int)), (.slice none 0 0)] ty_formula_Formula fun b298 =>
 st1 (⟨b298, 0, none⟩ : Addr) (.int .i64 r297.1.1) <|
 st1 ((⟨b298, 0, none⟩ : Addr).add 1) (.slice r297.1.2.1.a r297.1.2.1.len r297.1.2.1.cap) <|
 ldA (.cons (.int .i64) (.cons .sl .nil)) (⟨b246, 0, none⟩ : Addr) fun x299 =>
 callT Tryz.prog fn_salvorlaw05_collected #[(.agg #[(.int .i64 x299.1), (.slice x299.2.1.a x299.2.1.len x299.2.1.cap)])] (.tup (.cons .sl (.cons .bool .nil))) fun r300 =>
 ldA (.cons (.int .i64) (.cons .sl .nil)) (⟨b295, 0, none⟩ : Addr) fun x301 =>
 callT Tryz.prog fn_salvorlaw05_collected #[(.agg #[(.int .i64 x301.1), (.slice x301.2.1.a x301.2.1.len x301.2.1.cap)])] (.tup (.cons .sl (.cons .bool .nil))) fun r302 =>
 ldA (.cons (.int .i64) (.cons .sl .nil)) (⟨b298, 0, none⟩ : Addr) fun x303 =>
 callT Tryz.prog fn_salvorlaw05_collected #[(.agg #[(.int .i64 x303.1), (.slice x303.2.1.a x303.2.1.len x303.2.1.cap)])] (.tup (.cons .sl (.cons .bool .nil))) fun r304 =>
 brB ((IntKind.wrap .i64 (r294.2.1 + r297.2.1)) != (0 : Int))
 (K false)
 (brB (!r300.2.1)
 (K false)
 (brB (!r302.2.1)
 (K false)
 (brB (!r304.2.1)
 (K false)
 (nz (2 : Int) <|
 brB ((Int.tmod (r302.1.len : Int) (2 : Int)) != (0 : Int))
 (K false)
 (nz (2 : Int) <|
 brB ((Int.tmod (r304.1.len : Int) (2 : Int)) != (0 : Int))
 (K false)
 (nz (2 : Int) <|
 nz (2 : Int) <|
 brB ((r300.1.len : Int) != (IntKind.wrap .i64 ((IntKind.wrap .i64 (Int.tdiv (r302.1.len : Int) (2 : Int))) + (IntKind.wrap .i64 (Int.tdiv (r304.1.len : Int) (2 : Int))))))
 (K false)
 (ldT .sl ((⟨b295, 0, none⟩ : Addr).add 1) fun x305 =>
 ldT .sl ((⟨b298, 0, none⟩ : Addr).add 1) fun x306 =>
 nw #[(.slice x305.a x305.len x305.cap), (.slice x306.a x306.len x306.cap)] ty_sl_clauses_Clause fun b307 =>
 callT Tryz.prog fn_slices_Concat_clauses_Clause_clauses_Clause #[(.slice (some (⟨b307, 0, none⟩ : Addr)) 2 2)] .sl fun r308 =>
 lfp (σ := (Int × (Bool × Unit))) (fun X309 s310 => /-   -/
 brB (decide (s310.1 < (r308.len : Int)))
 (sx r308.a r308.len s310.1 1 fun p311 =>
 ldT .sl p311 fun x312 =>
 callT Tryz.prog fn_lits_Vars #[(.slice x312.a x312.len x312.cap)] .sl fun r313 =>
 callT Tryz.prog fn_lits_Var #[(.int .i64 x292)] (.int .i64) fun r314 =>
 callT Tryz.prog fn_slices_Contains_int_int #[(.slice r313.a r313.len r313.cap), (.int .i64 r314)] .bool fun r315 =>
 brB r315
 (callT Tryz.prog fn_clauses_Always #[(.slice x312.a x312.len x312.cap)] .bool fun r316 =>
 brB (!r316)
 (K false)
 (X309 ((IntKind.wrap .i64 (s310.1 + (1 : Int))), s310.2.1, ())))
 (X309 ((IntKind.wrap .i64 (s310.1 + (1 : Int))), s310.2.1, ())))
 (lfp (σ := (Int × (Bool × Unit))) (fun X317 s318 => /-   -/
 brB (decide (s318.1 < (r300.1.len : Int)))
 (sx r300.1.a r300.1.len s318.1 1 fun p319 =>
 ldT .sl p319 fun x320 =>
 brB ((x320.len : Int) != (8 : Int))
 (K false)
 (callT Tryz.prog fn_lits_Var #[(.int .i64 x292)] (.int .i64) fun r321 =>
 sx x320.a x320.len (IntKind.wrap .i64 (r321 - (1 : Int))) 1 fun p322 =>
 ldT .bool p322 fun x323 =>
 jn (σ := (Bool × Unit)) (fun s325 => /-  -/
 X317 ((IntKind.wrap .i64 (s318.1 + (1 : Int))), s325.1, ()))
 (fun J324 =>
 brB (x323 == (decide (x292 > (0 : Int))))
 (callF Tryz.prog (.func (.func fn_salvorlaw05_FormulaParts_1) #[] #[]) #[(.slice r302.1.a r302.1.len r302.1.cap), (.slice x320.a x320.len x320.cap)] .bool fun r326 =>
 brB (!r326)
 (K false)
 (J324 (s318.2.1, ())))
 (callF Tryz.prog (.func (.func fn_salvorlaw05_FormulaParts_1) #[] #[]) #[(.slice r304.1.a r304.1.len r304.1.cap), (.slice x320.a x320.len x320.cap)] .bool fun r327 =>
 brB (!r327)
 (K false)
 (J324 (s318.2.1, ()))))))
 (callT Tryz.prog fn_salvorlaw05_awake #[] .bool fun r328 =>
 K r328))
 ((0 : Int), s310.2.1, ())))
 ((0 : Int), false, ())))))))))))
set_option maxRecDepth 100000 in
theorem E_salvorlaw05_FormulaParts (a0 : Sl) (a1 : Int) (K : Bool → HP) (h : Heap) : fnVC Tryz.prog [(1000000, .nil)] 149 Tryz.f9 [(.slice a0.a a0.len a0.cap), (.int .u8 a1)] .bool K h = F_salvorlaw05_FormulaParts a0 a1 K h := by kernel_rfl
set_option maxRecDepth 100000 in
theorem S_salvorlaw05_FormulaParts{h : Heap} {a0 : Sl} {a1 : Int} (K : Bool → HP) (hF : F_salvorlaw05_FormulaParts a0 a1 K h) : CallsH Tryz.prog fn_salvorlaw05_FormulaParts #[(.slice a0.a a0.len a0.cap), (.int .u8 a1)] h fun v h' => ∃ x : Bool, v = Ty.enc .bool x ∧ K x h' :=
  callsH_of_fn (P := Tryz.prog) (fn := Tryz.f9) (τ := .bool) follows Tryz.func9 (by kernel_rfl) (by kernel_rfl) Tryz.call9 (Eq.mpr (E_salvorlaw05_FormulaParts a0 a1 K h) hF)


/-- salvor/salvorlaw05.few -/
def F_salvorlaw05_few (a0 : (Int × (Sl × Unit))) (K : Bool → HP) : HP :=
 nw #[(.int .i64 a0.1), (.slice a0.2.1.a a0.2.1.len a0.2.1.cap)] ty_formula_Formula fun b0 =>
 ldT .sl ((⟨b0, 0, none⟩ : Addr).add 1) fun x1 =>
 ldT .sl ((⟨b0, 0, none⟩ : Addr).add 1) fun x2 =>
 slH ⟨x1.a, x1.len, x1.cap⟩ (if (101 : Int) < (x2.len : Int) then (101 : Int) else (x2.len : Int)) 1 fun s3 =>
 lfp (σ := (Int × (Int × Unit))) (fun X4 s5 => /-  n -/
 brB (decide (s5.1 < (s3.len : Int)))
 (sx s3.a s3.len s5.1 1 fun p6 =>
 ldT .sl p6 fun x7 =>
 X4 ((IntKind.wrap .i64 (s5.1 + (1 : Int))), (IntKind.wrap .i64 (s5.2.1 + (x7.len : Int))), ()))
 (ldT .sl ((⟨b0, 0, none⟩ : Addr).add 1) fun x8 =>
 brB (decide ((x8.len : Int) ≤ (100 : Int)))
 (K (decide (s5.2.1 ≤ (1000 : Int))))
 (K false)))
 ((0 : Int), (0 : Int), ())
set_option maxRecDepth 100000 in
theorem E_salvorlaw05_few (a0 : (Int × (Sl × Unit))) (K : Bool → HP) (h : Heap) : fnVC Tryz.prog [(1000000, .nil)] 31 Tryz.f10 [(.agg #[(.int .i64 a0.1), (.slice a0.2.1.a a0.2.1.len a0.2.1.cap)])] .bool K h = F_salvorlaw05_few a0 K h := by kernel_rfl
set_option maxRecDepth 100000 in
theorem S_salvorlaw05_few{h : Heap} {a0 : (Int × (Sl × Unit))} (K : Bool → HP) (hF : F_salvorlaw05_few a0 K h) : CallsH Tryz.prog fn_salvorlaw05_few #[(.agg #[(.int .i64 a0.1), (.slice a0.2.1.a a0.2.1.len a0.2.1.cap)])] h fun v h' => ∃ x : Bool, v = Ty.enc .bool x ∧ K x h' :=
  callsH_of_fn (P := Tryz.prog) (fn := Tryz.f10) (τ := .bool) follows Tryz.func10 (by kernel_rfl) (by kernel_rfl) Tryz.call10 (Eq.mpr (E_salvorlaw05_few a0 K h) hF)


end Go.Proofs.S
