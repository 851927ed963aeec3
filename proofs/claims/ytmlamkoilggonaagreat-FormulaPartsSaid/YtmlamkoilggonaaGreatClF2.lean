/- The functions of the seat, each as a predicate over its values, printed by a program of ours, and that each is its text's. -/
import Derived.Test.YtmlamkoilggonaaGreatSx10
import Derived.KernelRfl
import Derived.Test.YtmlamkoilggonaaGreatProg
import Derived.Test.YtmlamkoilggonaaGreatClF0
set_option linter.unusedVariables false
namespace Go.Proofs.S
open Go Go.Sx Go.Proofs
/-- salvor/salvorlaw05.FormulaParts -/
def F_salvorlaw05_FormulaParts (a0 : Sl) (a1 : Int) (K : Bool → HP) : HP :=
 cj
 (callT Tryz.prog fn_salvorlaw05_Made #[(.slice a0.a a0.len a0.cap)] (.agg (.cons (.int .i64) (.cons .sl .nil))) fun r0 =>
 cj
 (nw #[(.int .u8 a1)] ty_uint8 fun b1 =>
 cj
 (callT Tryz.prog fn_salvorlaw02_Made #[(.slice (some (⟨b1, 0, none⟩ : Addr)) 1 1)] .sl fun r2 =>
 sx r2.a r2.len (0 : Int) 1 fun p3 =>
 ldT (.int .i64) p3 fun x4 =>
 nw #[(.int .i64 (0 : Int)), (.slice none 0 0)] ty_formula_Formula fun b5 =>
 st1 (⟨b5, 0, none⟩ : Addr) (.int .i64 r0.1) <|
 st1 ((⟨b5, 0, none⟩ : Addr).add 1) (.slice r0.2.1.a r0.2.1.len r0.2.1.cap) <|
 ck p3 (.int .i64 x4) <|
 ldA (.cons (.int .i64) (.cons .sl .nil)) (⟨b5, 0, none⟩ : Addr) fun x6 =>
 callT Tryz.prog fn_formula_Assign #[(.agg #[(.int .i64 x6.1), (.slice x6.2.1.a x6.2.1.len x6.2.1.cap)]), (.int .i64 x4)] (.tup (.cons (.agg (.cons (.int .i64) (.cons .sl .nil))) (.cons (.int .i64) .nil))) fun r7 =>
 nw #[(.int .i64 (0 : Int)), (.slice none 0 0)] ty_formula_Formula fun b8 =>
 st1 (⟨b8, 0, none⟩ : Addr) (.int .i64 r7.1.1) <|
 st1 ((⟨b8, 0, none⟩ : Addr).add 1) (.slice r7.1.2.1.a r7.1.2.1.len r7.1.2.1.cap) <|
 ldA (.cons (.int .i64) (.cons .sl .nil)) (⟨b5, 0, none⟩ : Addr) fun x9 =>
 callT Tryz.prog fn_formula_Assign #[(.agg #[(.int .i64 x9.1), (.slice x9.2.1.a x9.2.1.len x9.2.1.cap)]), (.int .i64 (IntKind.wrap .i64 (0 - x4)))] (.tup (.cons (.agg (.cons (.int .i64) (.cons .sl .nil))) (.cons (.int .i64) .nil))) fun r10 =>
 nw #[(.int .i64 (0 : Int)), (.slice none 0 0)] ty_formula_Formula fun b11 =>
 st1 (⟨b11, 0, none⟩ : Addr) (.int .i64 r10.1.1) <|
 st1 ((⟨b11, 0, none⟩ : Addr).add 1) (.slice r10.1.2.1.a r10.1.2.1.len r10.1.2.1.cap) <|
 ldA (.cons (.int .i64) (.cons .sl .nil)) (⟨b5, 0, none⟩ : Addr) fun x12 =>
 callT Tryz.prog fn_salvorlaw05_collected #[(.agg #[(.int .i64 x12.1), (.slice x12.2.1.a x12.2.1.len x12.2.1.cap)])] (.tup (.cons .sl (.cons .bool .nil))) fun r13 =>
 ldA (.cons (.int .i64) (.cons .sl .nil)) (⟨b8, 0, none⟩ : Addr) fun x14 =>
 callT Tryz.prog fn_salvorlaw05_collected #[(.agg #[(.int .i64 x14.1), (.slice x14.2.1.a x14.2.1.len x14.2.1.cap)])] (.tup (.cons .sl (.cons .bool .nil))) fun r15 =>
 ldA (.cons (.int .i64) (.cons .sl .nil)) (⟨b11, 0, none⟩ : Addr) fun x16 =>
 callT Tryz.prog fn_salvorlaw05_collected #[(.agg #[(.int .i64 x16.1), (.slice x16.2.1.a x16.2.1.len x16.2.1.cap)])] (.tup (.cons .sl (.cons .bool .nil))) fun r17 =>
 jn (σ := Bool) (fun t19 =>
 jn (σ := Bool) (fun t21 =>
 jn (σ := Bool) (fun t23 =>
 jn (σ := Bool) (fun t25 =>
 jn (σ := Bool) (fun t27 =>
 jn (σ := Bool) (fun t29 =>
 brB t29
 (K false)
 (ldT .sl ((⟨b8, 0, none⟩ : Addr).add 1) fun x30 =>
 ldT .sl ((⟨b11, 0, none⟩ : Addr).add 1) fun x31 =>
 nw #[(.slice x30.a x30.len x30.cap), (.slice x31.a x31.len x31.cap)] ty_sl_clauses_Clause fun b32 =>
 callT Tryz.prog fn_slices_Concat_clauses_Clause_clauses_Clause #[(.slice (some (⟨b32, 0, none⟩ : Addr)) 2 2)] .sl fun r33 =>
 lfp (σ := (Int × (Bool × Unit))) (fun X34 s35 => /-   -/
 brB (decide (s35.1 < (r33.len : Int)))
 (sx r33.a r33.len s35.1 1 fun p36 =>
 ldT .sl p36 fun x37 =>
 callT Tryz.prog fn_lits_Vars #[(.slice x37.a x37.len x37.cap)] .sl fun r38 =>
 callT Tryz.prog fn_lits_Var #[(.int .i64 x4)] (.int .i64) fun r39 =>
 callT Tryz.prog fn_slices_Contains_int_int #[(.slice r38.a r38.len r38.cap), (.int .i64 r39)] .bool fun r40 =>
 jn (σ := Bool) (fun t42 =>
 brB t42
 (K false)
 (X34 ((IntKind.wrap .i64 (s35.1 + (1 : Int))), s35.2.1, ())))
 (fun J41 =>
 brB r40
 (callT Tryz.prog fn_clauses_Always #[(.slice x37.a x37.len x37.cap)] .bool fun r43 =>
 J41 ((!r43)))
 (J41 false)))
 (lfp (σ := (Int × (Bool × Unit))) (fun X44 s45 => /-   -/
 brB (decide (s45.1 < (r13.1.len : Int)))
 (sx r13.1.a r13.1.len s45.1 1 fun p46 =>
 ldT .sl p46 fun x47 =>
 brB ((x47.len : Int) != (8 : Int))
 (K false)
 (callT Tryz.prog fn_lits_Var #[(.int .i64 x4)] (.int .i64) fun r48 =>
 sx x47.a x47.len (IntKind.wrap .i64 (r48 - (1 : Int))) 1 fun p49 =>
 ldT .bool p49 fun x50 =>
 jn (σ := (Bool × Unit)) (fun s52 => /-  -/
 X44 ((IntKind.wrap .i64 (s45.1 + (1 : Int))), s52.1, ()))
 (fun J51 =>
 brB (x50 == (decide (x4 > (0 : Int))))
 (callF Tryz.prog (.func (.func fn_salvorlaw05_FormulaParts_1) #[] #[]) #[(.slice r15.1.a r15.1.len r15.1.cap), (.slice x47.a x47.len x47.cap)] .bool fun r53 =>
 brB (!r53)
 (K false)
 (J51 (s45.2.1, ())))
 (callF Tryz.prog (.func (.func fn_salvorlaw05_FormulaParts_1) #[] #[]) #[(.slice r17.1.a r17.1.len r17.1.cap), (.slice x47.a x47.len x47.cap)] .bool fun r54 =>
 brB (!r54)
 (K false)
 (J51 (s45.2.1, ()))))))
 (callT Tryz.prog fn_salvorlaw05_awake #[] .bool fun r55 =>
 K r55))
 ((0 : Int), s35.2.1, ())))
 ((0 : Int), false, ())))
 (fun J28 =>
 brB t27
 (J28 true)
 (nz (2 : Int) <|
 nz (2 : Int) <|
 J28 (((r13.1.len : Int) != (IntKind.wrap .i64 ((IntKind.wrap .i64 (Int.tdiv (r15.1.len : Int) (2 : Int))) + (IntKind.wrap .i64 (Int.tdiv (r17.1.len : Int) (2 : Int))))))))))
 (fun J26 =>
 brB t25
 (J26 true)
 (nz (2 : Int) <|
 J26 (((Int.tmod (r17.1.len : Int) (2 : Int)) != (0 : Int))))))
 (fun J24 =>
 brB t23
 (J24 true)
 (nz (2 : Int) <|
 J24 (((Int.tmod (r15.1.len : Int) (2 : Int)) != (0 : Int))))))
 (fun J22 =>
 brB t21
 (J22 true)
 (J22 ((!r17.2.1)))))
 (fun J20 =>
 brB t19
 (J20 true)
 (J20 ((!r15.2.1)))))
 (fun J18 =>
 brB ((IntKind.wrap .i64 (r7.2.1 + r10.2.1)) != (0 : Int))
 (J18 true)
 (J18 ((!r13.2.1)))))
 (nw #[(.int .i64 (0 : Int)), (.slice none 0 0)] ty_formula_Formula fun b56 =>
 callT Tryz.prog fn_salvorlaw02_Made #[(.slice (some (⟨b1, 0, none⟩ : Addr)) 1 1)] .sl fun r57 =>
 sx r57.a r57.len (0 : Int) 1 fun p58 =>
 ldT (.int .i64) p58 fun x59 =>
 st1 (⟨b56, 0, none⟩ : Addr) (.int .i64 r0.1) <|
 st1 ((⟨b56, 0, none⟩ : Addr).add 1) (.slice r0.2.1.a r0.2.1.len r0.2.1.cap) <|
 ck p58 (.int .i64 x59) <|
 ldA (.cons (.int .i64) (.cons .sl .nil)) (⟨b56, 0, none⟩ : Addr) fun x60 =>
 callT Tryz.prog fn_formula_Assign #[(.agg #[(.int .i64 x60.1), (.slice x60.2.1.a x60.2.1.len x60.2.1.cap)]), (.int .i64 x59)] (.tup (.cons (.agg (.cons (.int .i64) (.cons .sl .nil))) (.cons (.int .i64) .nil))) fun r61 =>
 nw #[(.int .i64 (0 : Int)), (.slice none 0 0)] ty_formula_Formula fun b62 =>
 st1 (⟨b62, 0, none⟩ : Addr) (.int .i64 r61.1.1) <|
 st1 ((⟨b62, 0, none⟩ : Addr).add 1) (.slice r61.1.2.1.a r61.1.2.1.len r61.1.2.1.cap) <|
 ldA (.cons (.int .i64) (.cons .sl .nil)) (⟨b56, 0, none⟩ : Addr) fun x63 =>
 callT Tryz.prog fn_formula_Assign #[(.agg #[(.int .i64 x63.1), (.slice x63.2.1.a x63.2.1.len x63.2.1.cap)]), (.int .i64 (IntKind.wrap .i64 (0 - x59)))] (.tup (.cons (.agg (.cons (.int .i64) (.cons .sl .nil))) (.cons (.int .i64) .nil))) fun r64 =>
 nw #[(.int .i64 (0 : Int)), (.slice none 0 0)] ty_formula_Formula fun b65 =>
 st1 (⟨b65, 0, none⟩ : Addr) (.int .i64 r64.1.1) <|
 st1 ((⟨b65, 0, none⟩ : Addr).add 1) (.slice r64.1.2.1.a r64.1.2.1.len r64.1.2.1.cap) <|
 ldA (.cons (.int .i64) (.cons .sl .nil)) (⟨b56, 0, none⟩ : Addr) fun x66 =>
 callT Tryz.prog fn_salvorlaw05_collected #[(.agg #[(.int .i64 x66.1), (.slice x66.2.1.a x66.2.1.len x66.2.1.cap)])] (.tup (.cons .sl (.cons .bool .nil))) fun r67 =>
 ldA (.cons (.int .i64) (.cons .sl .nil)) (⟨b62, 0, none⟩ : Addr) fun x68 =>
 callT Tryz.prog fn_salvorlaw05_collected #[(.agg #[(.int .i64 x68.1), (.slice x68.2.1.a x68.2.1.len x68.2.1.cap)])] (.tup (.cons .sl (.cons .bool .nil))) fun r69 =>
 ldA (.cons (.int .i64) (.cons .sl .nil)) (⟨b65, 0, none⟩ : Addr) fun x70 =>
 callT Tryz.prog fn_salvorlaw05_collected #[(.agg #[(.int .i64 x70.1), (.slice x70.2.1.a x70.2.1.len x70.2.1.cap)])] (.tup (.cons .sl (.cons .bool .nil))) fun r71 =>
 jn (σ := Bool) (fun t73 =>
 jn (σ := Bool) (fun t75 =>
 jn (σ := Bool) (fun t77 =>
 jn (σ := Bool) (fun t79 =>
 jn (σ := Bool) (fun t81 =>
 jn (σ := Bool) (fun t83 =>
 brB t83
 (K false)
 (ldT .sl ((⟨b62, 0, none⟩ : Addr).add 1) fun x84 =>
 ldT .sl ((⟨b65, 0, none⟩ : Addr).add 1) fun x85 =>
 nw #[(.slice x84.a x84.len x84.cap), (.slice x85.a x85.len x85.cap)] ty_sl_clauses_Clause fun b86 =>
 callT Tryz.prog fn_slices_Concat_clauses_Clause_clauses_Clause #[(.slice (some (⟨b86, 0, none⟩ : Addr)) 2 2)] .sl fun r87 =>
 lfp (σ := (Int × (Bool × Unit))) (fun X88 s89 => /-   -/
 brB (decide (s89.1 < (r87.len : Int)))
 (sx r87.a r87.len s89.1 1 fun p90 =>
 ldT .sl p90 fun x91 =>
 callT Tryz.prog fn_lits_Vars #[(.slice x91.a x91.len x91.cap)] .sl fun r92 =>
 callT Tryz.prog fn_lits_Var #[(.int .i64 x59)] (.int .i64) fun r93 =>
 callT Tryz.prog fn_slices_Contains_int_int #[(.slice r92.a r92.len r92.cap), (.int .i64 r93)] .bool fun r94 =>
 jn (σ := Bool) (fun t96 =>
 brB t96
 (K false)
 (X88 ((IntKind.wrap .i64 (s89.1 + (1 : Int))), s89.2.1, ())))
 (fun J95 =>
 brB r94
 (callT Tryz.prog fn_clauses_Always #[(.slice x91.a x91.len x91.cap)] .bool fun r97 =>
 J95 ((!r97)))
 (J95 false)))
 (lfp (σ := (Int × (Bool × Unit))) (fun X98 s99 => /-   -/
 brB (decide (s99.1 < (r67.1.len : Int)))
 (sx r67.1.a r67.1.len s99.1 1 fun p100 =>
 ldT .sl p100 fun x101 =>
 brB ((x101.len : Int) != (8 : Int))
 (K false)
 (callT Tryz.prog fn_lits_Var #[(.int .i64 x59)] (.int .i64) fun r102 =>
 sx x101.a x101.len (IntKind.wrap .i64 (r102 - (1 : Int))) 1 fun p103 =>
 ldT .bool p103 fun x104 =>
 jn (σ := (Bool × Unit)) (fun s106 => /-  -/
 X98 ((IntKind.wrap .i64 (s99.1 + (1 : Int))), s106.1, ()))
 (fun J105 =>
 brB (x104 == (decide (x59 > (0 : Int))))
 (callF Tryz.prog (.func (.func fn_salvorlaw05_FormulaParts_1) #[] #[]) #[(.slice r69.1.a r69.1.len r69.1.cap), (.slice x101.a x101.len x101.cap)] .bool fun r107 =>
 brB (!r107)
 (K false)
 (J105 (s99.2.1, ())))
 (callF Tryz.prog (.func (.func fn_salvorlaw05_FormulaParts_1) #[] #[]) #[(.slice r71.1.a r71.1.len r71.1.cap), (.slice x101.a x101.len x101.cap)] .bool fun r108 =>
 brB (!r108)
 (K false)
 (J105 (s99.2.1, ()))))))
 (callT Tryz.prog fn_salvorlaw05_awake #[] .bool fun r109 =>
 K r109))
 ((0 : Int), s89.2.1, ())))
 ((0 : Int), false, ())))
 (fun J82 =>
 brB t81
 (J82 true)
 (nz (2 : Int) <|
 nz (2 : Int) <|
 J82 (((r67.1.len : Int) != (IntKind.wrap .i64 ((IntKind.wrap .i64 (Int.tdiv (r69.1.len : Int) (2 : Int))) + (IntKind.wrap .i64 (Int.tdiv (r71.1.len : Int) (2 : Int))))))))))
 (fun J80 =>
 brB t79
 (J80 true)
 (nz (2 : Int) <|
 J80 (((Int.tmod (r71.1.len : Int) (2 : Int)) != (0 : Int))))))
 (fun J78 =>
 brB t77
 (J78 true)
 (nz (2 : Int) <|
 J78 (((Int.tmod (r69.1.len : Int) (2 : Int)) != (0 : Int))))))
 (fun J76 =>
 brB t75
 (J76 true)
 (J76 ((!r71.2.1)))))
 (fun J74 =>
 brB t73
 (J74 true)
 (J74 ((!r69.2.1)))))
 (fun J72 =>
 brB ((IntKind.wrap .i64 (r61.2.1 + r64.2.1)) != (0 : Int))
 (J72 true)
 (J72 ((!r67.2.1))))))
 (nw #[(.int .i64 (0 : Int)), (.slice none 0 0)] ty_formula_Formula fun b110 =>
 nw #[(.int .u8 a1)] ty_uint8 fun b111 =>
 callT Tryz.prog fn_salvorlaw02_Made #[(.slice (some (⟨b111, 0, none⟩ : Addr)) 1 1)] .sl fun r112 =>
 sx r112.a r112.len (0 : Int) 1 fun p113 =>
 ldT (.int .i64) p113 fun x114 =>
 st1 (⟨b110, 0, none⟩ : Addr) (.int .i64 r0.1) <|
 st1 ((⟨b110, 0, none⟩ : Addr).add 1) (.slice r0.2.1.a r0.2.1.len r0.2.1.cap) <|
 ck p113 (.int .i64 x114) <|
 ldA (.cons (.int .i64) (.cons .sl .nil)) (⟨b110, 0, none⟩ : Addr) fun x115 =>
 callT Tryz.prog fn_formula_Assign #[(.agg #[(.int .i64 x115.1), (.slice x115.2.1.a x115.2.1.len x115.2.1.cap)]), (.int .i64 x114)] (.tup (.cons (.agg (.cons (.int .i64) (.cons .sl .nil))) (.cons (.int .i64) .nil))) fun r116 =>
 nw #[(.int .i64 (0 : Int)), (.slice none 0 0)] ty_formula_Formula fun b117 =>
 st1 (⟨b117, 0, none⟩ : Addr) (.int .i64 r116.1.1) <|
 st1 ((⟨b117, 0, none⟩ : Addr).add 1) (.slice r116.1.2.1.a r116.1.2.1.len r116.1.2.1.cap) <|
 ldA (.cons (.int .i64) (.cons .sl .nil)) (⟨b110, 0, none⟩ : Addr) fun x118 =>
 callT Tryz.prog fn_formula_Assign #[(.agg #[(.int .i64 x118.1), (.slice x118.2.1.a x118.2.1.len x118.2.1.cap)]), (.int .i64 (IntKind.wrap .i64 (0 - x114)))] (.tup (.cons (.agg (.cons (.int .i64) (.cons .sl .nil))) (.cons (.int .i64) .nil))) fun r119 =>
 nw #[(.int .i64 (0 : Int)), (.slice none 0 0)] ty_formula_Formula fun b120 =>
 st1 (⟨b120, 0, none⟩ : Addr) (.int .i64 r119.1.1) <|
 st1 ((⟨b120, 0, none⟩ : Addr).add 1) (.slice r119.1.2.1.a r119.1.2.1.len r119.1.2.1.cap) <|
 ldA (.cons (.int .i64) (.cons .sl .nil)) (⟨b110, 0, none⟩ : Addr) fun x121 =>
 callT Tryz.prog fn_salvorlaw05_collected #[(.agg #[(.int .i64 x121.1), (.slice x121.2.1.a x121.2.1.len x121.2.1.cap)])] (.tup (.cons .sl (.cons .bool .nil))) fun r122 =>
 ldA (.cons (.int .i64) (.cons .sl .nil)) (⟨b117, 0, none⟩ : Addr) fun x123 =>
 callT Tryz.prog fn_salvorlaw05_collected #[(.agg #[(.int .i64 x123.1), (.slice x123.2.1.a x123.2.1.len x123.2.1.cap)])] (.tup (.cons .sl (.cons .bool .nil))) fun r124 =>
 ldA (.cons (.int .i64) (.cons .sl .nil)) (⟨b120, 0, none⟩ : Addr) fun x125 =>
 callT Tryz.prog fn_salvorlaw05_collected #[(.agg #[(.int .i64 x125.1), (.slice x125.2.1.a x125.2.1.len x125.2.1.cap)])] (.tup (.cons .sl (.cons .bool .nil))) fun r126 =>
 jn (σ := Bool) (fun t128 =>
 jn (σ := Bool) (fun t130 =>
 jn (σ := Bool) (fun t132 =>
 jn (σ := Bool) (fun t134 =>
 jn (σ := Bool) (fun t136 =>
 jn (σ := Bool) (fun t138 =>
 brB t138
 (K false)
 (ldT .sl ((⟨b117, 0, none⟩ : Addr).add 1) fun x139 =>
 ldT .sl ((⟨b120, 0, none⟩ : Addr).add 1) fun x140 =>
 nw #[(.slice x139.a x139.len x139.cap), (.slice x140.a x140.len x140.cap)] ty_sl_clauses_Clause fun b141 =>
 callT Tryz.prog fn_slices_Concat_clauses_Clause_clauses_Clause #[(.slice (some (⟨b141, 0, none⟩ : Addr)) 2 2)] .sl fun r142 =>
 lfp (σ := (Int × (Bool × Unit))) (fun X143 s144 => /-   -/
 brB (decide (s144.1 < (r142.len : Int)))
 (sx r142.a r142.len s144.1 1 fun p145 =>
 ldT .sl p145 fun x146 =>
 callT Tryz.prog fn_lits_Vars #[(.slice x146.a x146.len x146.cap)] .sl fun r147 =>
 callT Tryz.prog fn_lits_Var #[(.int .i64 x114)] (.int .i64) fun r148 =>
 callT Tryz.prog fn_slices_Contains_int_int #[(.slice r147.a r147.len r147.cap), (.int .i64 r148)] .bool fun r149 =>
 jn (σ := Bool) (fun t151 =>
 brB t151
 (K false)
 (X143 ((IntKind.wrap .i64 (s144.1 + (1 : Int))), s144.2.1, ())))
 (fun J150 =>
 brB r149
 (callT Tryz.prog fn_clauses_Always #[(.slice x146.a x146.len x146.cap)] .bool fun r152 =>
 J150 ((!r152)))
 (J150 false)))
 (lfp (σ := (Int × (Bool × Unit))) (fun X153 s154 => /-   -/
 brB (decide (s154.1 < (r122.1.len : Int)))
 (sx r122.1.a r122.1.len s154.1 1 fun p155 =>
 ldT .sl p155 fun x156 =>
 brB ((x156.len : Int) != (8 : Int))
 (K false)
 (callT Tryz.prog fn_lits_Var #[(.int .i64 x114)] (.int .i64) fun r157 =>
 sx x156.a x156.len (IntKind.wrap .i64 (r157 - (1 : Int))) 1 fun p158 =>
 ldT .bool p158 fun x159 =>
 jn (σ := (Bool × Unit)) (fun s161 => /-  -/
 X153 ((IntKind.wrap .i64 (s154.1 + (1 : Int))), s161.1, ()))
 (fun J160 =>
 brB (x159 == (decide (x114 > (0 : Int))))
 (callF Tryz.prog (.func (.func fn_salvorlaw05_FormulaParts_1) #[] #[]) #[(.slice r124.1.a r124.1.len r124.1.cap), (.slice x156.a x156.len x156.cap)] .bool fun r162 =>
 brB (!r162)
 (K false)
 (J160 (s154.2.1, ())))
 (callF Tryz.prog (.func (.func fn_salvorlaw05_FormulaParts_1) #[] #[]) #[(.slice r126.1.a r126.1.len r126.1.cap), (.slice x156.a x156.len x156.cap)] .bool fun r163 =>
 brB (!r163)
 (K false)
 (J160 (s154.2.1, ()))))))
 (callT Tryz.prog fn_salvorlaw05_awake #[] .bool fun r164 =>
 K r164))
 ((0 : Int), s144.2.1, ())))
 ((0 : Int), false, ())))
 (fun J137 =>
 brB t136
 (J137 true)
 (nz (2 : Int) <|
 nz (2 : Int) <|
 J137 (((r122.1.len : Int) != (IntKind.wrap .i64 ((IntKind.wrap .i64 (Int.tdiv (r124.1.len : Int) (2 : Int))) + (IntKind.wrap .i64 (Int.tdiv (r126.1.len : Int) (2 : Int))))))))))
 (fun J135 =>
 brB t134
 (J135 true)
 (nz (2 : Int) <|
 J135 (((Int.tmod (r126.1.len : Int) (2 : Int)) != (0 : Int))))))
 (fun J133 =>
 brB t132
 (J133 true)
 (nz (2 : Int) <|
 J133 (((Int.tmod (r124.1.len : Int) (2 : Int)) != (0 : Int))))))
 (fun J131 =>
 brB t130
 (J131 true)
 (J131 ((!r126.2.1)))))
 (fun J129 =>
 brB t128
 (J129 true)
 (J129 ((!r124.2.1)))))
 (fun J127 =>
 brB ((IntKind.wrap .i64 (r116.2.1 + r119.2.1)) != (0 : Int))
 (J127 true)
 (J127 ((!r122.2.1))))))
 (cj
 (nw #[(.int .u8 a1)] ty_uint8 fun b165 =>
 cj
 (callT Tryz.prog fn_salvorlaw05_Made #[(.slice a0.a a0.len a0.cap)] (.agg (.cons (.int .i64) (.cons .sl .nil))) fun r166 =>
 cj
 (callT Tryz.prog fn_salvorlaw02_Made #[(.slice (some (⟨b165, 0, none⟩ : Addr)) 1 1)] .sl fun r167 =>
 sx r167.a r167.len (0 : Int) 1 fun p168 =>
 ldT (.int .i64) p168 fun x169 =>
 nw #[(.int .i64 (0 : Int)), (.slice none 0 0)] ty_formula_Formula fun b170 =>
 st1 (⟨b170, 0, none⟩ : Addr) (.int .i64 r166.1) <|
 st1 ((⟨b170, 0, none⟩ : Addr).add 1) (.slice r166.2.1.a r166.2.1.len r166.2.1.cap) <|
 ck p168 (.int .i64 x169) <|
 ldA (.cons (.int .i64) (.cons .sl .nil)) (⟨b170, 0, none⟩ : Addr) fun x171 =>
 callT Tryz.prog fn_formula_Assign #[(.agg #[(.int .i64 x171.1), (.slice x171.2.1.a x171.2.1.len x171.2.1.cap)]), (.int .i64 x169)] (.tup (.cons (.agg (.cons (.int .i64) (.cons .sl .nil))) (.cons (.int .i64) .nil))) fun r172 =>
 nw #[(.int .i64 (0 : Int)), (.slice none 0 0)] ty_formula_Formula fun b173 =>
 st1 (⟨b173, 0, none⟩ : Addr) (.int .i64 r172.1.1) <|
 st1 ((⟨b173, 0, none⟩ : Addr).add 1) (.slice r172.1.2.1.a r172.1.2.1.len r172.1.2.1.cap) <|
 ldA (.cons (.int .i64) (.cons .sl .nil)) (⟨b170, 0, none⟩ : Addr) fun x174 =>
 callT Tryz.prog fn_formula_Assign #[(.agg #[(.int .i64 x174.1), (.slice x174.2.1.a x174.2.1.len x174.2.1.cap)]), (.int .i64 (IntKind.wrap .i64 (0 - x169)))] (.tup (.cons (.agg (.cons (.int .i64) (.cons .sl .nil))) (.cons (.int .i64) .nil))) fun r175 =>
 nw #[(.int .i64 (0 : Int)), (.slice none 0 0)] ty_formula_Formula fun b176 =>
 st1 (⟨b176, 0, none⟩ : Addr) (.int .i64 r175.1.1) <|
 st1 ((⟨b176, 0, none⟩ : Addr).add 1) (.slice r175.1.2.1.a r175.1.2.1.len r175.1.2.1.cap) <|
 ldA (.cons (.int .i64) (.cons .sl .nil)) (⟨b170, 0, none⟩ : Addr) fun x177 =>
 callT Tryz.prog fn_salvorlaw05_collected #[(.agg #[(.int .i64 x177.1), (.slice x177.2.1.a x177.2.1.len x177.2.1.cap)])] (.tup (.cons .sl (.cons .bool .nil))) fun r178 =>
 ldA (.cons (.int .i64) (.cons .sl .nil)) (⟨b173, 0, none⟩ : Addr) fun x179 =>
 callT Tryz.prog fn_salvorlaw05_collected #[(.agg #[(.int .i64 x179.1), (.slice x179.2.1.a x179.2.1.len x179.2.1.cap)])] (.tup (.cons .sl (.cons .bool .nil))) fun r180 =>
 ldA (.cons (.int .i64) (.cons .sl .nil)) (⟨b176, 0, none⟩ : Addr) fun x181 =>
 callT Tryz.prog fn_salvorlaw05_collected #[(.agg #[(.int .i64 x181.1), (.slice x181.2.1.a x181.2.1.len x181.2.1.cap)])] (.tup (.cons .sl (.cons .bool .nil))) fun r182 =>
 jn (σ := Bool) (fun t184 =>
 jn (σ := Bool) (fun t186 =>
 jn (σ := Bool) (fun t188 =>
 jn (σ := Bool) (fun t190 =>
 jn (σ := Bool) (fun t192 =>
 jn (σ := Bool) (fun t194 =>
 brB t194
 (K false)
 (ldT .sl ((⟨b173, 0, none⟩ : Addr).add 1) fun x195 =>
 ldT .sl ((⟨b176, 0, none⟩ : Addr).add 1) fun x196 =>
 nw #[(.slice x195.a x195.len x195.cap), (.slice x196.a x196.len x196.cap)] ty_sl_clauses_Clause fun b197 =>
 callT Tryz.prog fn_slices_Concat_clauses_Clause_clauses_Clause #[(.slice (some (⟨b197, 0, none⟩ : Addr)) 2 2)] .sl fun r198 =>
 lfp (σ := (Int × (Bool × Unit))) (fun X199 s200 => /-   -/
 brB (decide (s200.1 < (r198.len : Int)))
 (sx r198.a r198.len s200.1 1 fun p201 =>
 ldT .sl p201 fun x202 =>
 callT Tryz.prog fn_lits_Vars #[(.slice x202.a x202.len x202.cap)] .sl fun r203 =>
 callT Tryz.prog fn_lits_Var #[(.int .i64 x169)] (.int .i64) fun r204 =>
 callT Tryz.prog fn_slices_Contains_int_int #[(.slice r203.a r203.len r203.cap), (.int .i64 r204)] .bool fun r205 =>
 jn (σ := Bool) (fun t207 =>
 brB t207
 (K false)
 (X199 ((IntKind.wrap .i64 (s200.1 + (1 : Int))), s200.2.1, ())))
 (fun J206 =>
 brB r205
 (callT Tryz.prog fn_clauses_Always #[(.slice x202.a x202.len x202.cap)] .bool fun r208 =>
 J206 ((!r208)))
 (J206 false)))
 (lfp (σ := (Int × (Bool × Unit))) (fun X209 s210 => /-   -/
 brB (decide (s210.1 < (r178.1.len : Int)))
 (sx r178.1.a r178.1.len s210.1 1 fun p211 =>
 ldT .sl p211 fun x212 =>
 brB ((x212.len : Int) != (8 : Int))
 (K false)
 (callT Tryz.prog fn_lits_Var #[(.int .i64 x169)] (.int .i64) fun r213 =>
 sx x212.a x212.len (IntKind.wrap .i64 (r213 - (1 : Int))) 1 fun p214 =>
 ldT .bool p214 fun x215 =>
 jn (σ := (Bool × Unit)) (fun s217 => /-  -/
 X209 ((IntKind.wrap .i64 (s210.1 + (1 : Int))), s217.1, ()))
 (fun J216 =>
 brB (x215 == (decide (x169 > (0 : Int))))
 (callF Tryz.prog (.func (.func fn_salvorlaw05_FormulaParts_1) #[] #[]) #[(.slice r180.1.a r180.1.len r180.1.cap), (.slice x212.a x212.len x212.cap)] .bool fun r218 =>
 brB (!r218)
 (K false)
 (J216 (s210.2.1, ())))
 (callF Tryz.prog (.func (.func fn_salvorlaw05_FormulaParts_1) #[] #[]) #[(.slice r182.1.a r182.1.len r182.1.cap), (.slice x212.a x212.len x212.cap)] .bool fun r219 =>
 brB (!r219)
 (K false)
 (J216 (s210.2.1, ()))))))
 (callT Tryz.prog fn_salvorlaw05_awake #[] .bool fun r220 =>
 K r220))
 ((0 : Int), s200.2.1, ())))
 ((0 : Int), false, ())))
 (fun J193 =>
 brB t192
 (J193 true)
 (nz (2 : Int) <|
 nz (2 : Int) <|
 J193 (((r178.1.len : Int) != (IntKind.wrap .i64 ((IntKind.wrap .i64 (Int.tdiv (r180.1.len : Int) (2 : Int))) + (IntKind.wrap .i64 (Int.tdiv (r182.1.len : Int) (2 : Int))))))))))
 (fun J191 =>
 brB t190
 (J191 true)
 (nz (2 : Int) <|
 J191 (((Int.tmod (r182.1.len : Int) (2 : Int)) != (0 : Int))))))
 (fun J189 =>
 brB t188
 (J189 true)
 (nz (2 : Int) <|
 J189 (((Int.tmod (r180.1.len : Int) (2 : Int)) != (0 : Int))))))
 (fun J187 =>
 brB t186
 (J187 true)
 (J187 ((!r182.2.1)))))
 (fun J185 =>
 brB t184
 (J185 true)
 (J185 ((!r180.2.1)))))
 (fun J183 =>
 brB ((IntKind.wrap .i64 (r172.2.1 + r175.2.1)) != (0 : Int))
 (J183 true)
 (J183 ((!r178.2.1)))))
 (nw #[(.int .i64 (0 : Int)), (.slice none 0 0)] ty_formula_Formula fun b221 =>
 callT Tryz.prog fn_salvorlaw02_Made #[(.slice (some (⟨b165, 0, none⟩ : Addr)) 1 1)] .sl fun r222 =>
 sx r222.a r222.len (0 : Int) 1 fun p223 =>
 ldT (.int .i64) p223 fun x224 =>
 st1 (⟨b221, 0, none⟩ : Addr) (.int .i64 r166.1) <|
 st1 ((⟨b221, 0, none⟩ : Addr).add 1) (.slice r166.2.1.a r166.2.1.len r166.2.1.cap) <|
 ck p223 (.int .i64 x224) <|
 ldA (.cons (.int .i64) (.cons .sl .nil)) (⟨b221, 0, none⟩ : Addr) fun x225 =>
 callT Tryz.prog fn_formula_Assign #[(.agg #[(.int .i64 x225.1), (.slice x225.2.1.a x225.2.1.len x225.2.1.cap)]), (.int .i64 x224)] (.tup (.cons (.agg (.cons (.int .i64) (.cons .sl .nil))) (.cons (.int .i64) .nil))) fun r226 =>
 nw #[(.int .i64 (0 : Int)), (.slice none 0 0)] ty_formula_Formula fun b227 =>
 st1 (⟨b227, 0, none⟩ : Addr) (.int .i64 r226.1.1) <|
 st1 ((⟨b227, 0, none⟩ : Addr).add 1) (.slice r226.1.2.1.a r226.1.2.1.len r226.1.2.1.cap) <|
 ldA (.cons (.int .i64) (.cons .sl .nil)) (⟨b221, 0, none⟩ : Addr) fun x228 =>
 callT Tryz.prog fn_formula_Assign #[(.agg #[(.int .i64 x228.1), (.slice x228.2.1.a x228.2.1.len x228.2.1.cap)]), (.int .i64 (IntKind.wrap .i64 (0 - x224)))] (.tup (.cons (.agg (.cons (.int .i64) (.cons .sl .nil))) (.cons (.int .i64) .nil))) fun r229 =>
 nw #[(.int .i64 (0 : Int)), (.slice none 0 0)] ty_formula_Formula fun b230 =>
 st1 (⟨b230, 0, none⟩ : Addr) (.int .i64 r229.1.1) <|
 st1 ((⟨b230, 0, none⟩ : Addr).add 1) (.slice r229.1.2.1.a r229.1.2.1.len r229.1.2.1.cap) <|
 ldA (.cons (.int .i64) (.cons .sl .nil)) (⟨b221, 0, none⟩ : Addr) fun x231 =>
 callT Tryz.prog fn_salvorlaw05_collected #[(.agg #[(.int .i64 x231.1), (.slice x231.2.1.a x231.2.1.len x231.2.1.cap)])] (.tup (.cons .sl (.cons .bool .nil))) fun r232 =>
 ldA (.cons (.int .i64) (.cons .sl .nil)) (⟨b227, 0, none⟩ : Addr) fun x233 =>
 callT Tryz.prog fn_salvorlaw05_collected #[(.agg #[(.int .i64 x233.1), (.slice x233.2.1.a x233.2.1.len x233.2.1.cap)])] (.tup (.cons .sl (.cons .bool .nil))) fun r234 =>
 ldA (.cons (.int .i64) (.cons .sl .nil)) (⟨b230, 0, none⟩ : Addr) fun x235 =>
 callT Tryz.prog fn_salvorlaw05_collected #[(.agg #[(.int .i64 x235.1), (.slice x235.2.1.a x235.2.1.len x235.2.1.cap)])] (.tup (.cons .sl (.cons .bool .nil))) fun r236 =>
 jn (σ := Bool) (fun t238 =>
 jn (σ := Bool) (fun t240 =>
 jn (σ := Bool) (fun t242 =>
 jn (σ := Bool) (fun t244 =>
 jn (σ := Bool) (fun t246 =>
 jn (σ := Bool) (fun t248 =>
 brB t248
 (K false)
 (ldT .sl ((⟨b227, 0, none⟩ : Addr).add 1) fun x249 =>
 ldT .sl ((⟨b230, 0, none⟩ : Addr).add 1) fun x250 =>
 nw #[(.slice x249.a x249.len x249.cap), (.slice x250.a x250.len x250.cap)] ty_sl_clauses_Clause fun b251 =>
 callT Tryz.prog fn_slices_Concat_clauses_Clause_clauses_Clause #[(.slice (some (⟨b251, 0, none⟩ : Addr)) 2 2)] .sl fun r252 =>
 lfp (σ := (Int × (Bool × Unit))) (fun X253 s254 => /-   -/
 brB (decide (s254.1 < (r252.len : Int)))
 (sx r252.a r252.len s254.1 1 fun p255 =>
 ldT .sl p255 fun x256 =>
 callT Tryz.prog fn_lits_Vars #[(.slice x256.a x256.len x256.cap)] .sl fun r257 =>
 callT Tryz.prog fn_lits_Var #[(.int .i64 x224)] (.int .i64) fun r258 =>
 callT Tryz.prog fn_slices_Contains_int_int #[(.slice r257.a r257.len r257.cap), (.int .i64 r258)] .bool fun r259 =>
 jn (σ := Bool) (fun t261 =>
 brB t261
 (K false)
 (X253 ((IntKind.wrap .i64 (s254.1 + (1 : Int))), s254.2.1, ())))
 (fun J260 =>
 brB r259
 (callT Tryz.prog fn_clauses_Always #[(.slice x256.a x256.len x256.cap)] .bool fun r262 =>
 J260 ((!r262)))
 (J260 false)))
 (lfp (σ := (Int × (Bool × Unit))) (fun X263 s264 => /-   -/
 brB (decide (s264.1 < (r232.1.len : Int)))
 (sx r232.1.a r232.1.len s264.1 1 fun p265 =>
 ldT .sl p265 fun x266 =>
 brB ((x266.len : Int) != (8 : Int))
 (K false)
 (callT Tryz.prog fn_lits_Var #[(.int .i64 x224)] (.int .i64) fun r267 =>
 sx x266.a x266.len (IntKind.wrap .i64 (r267 - (1 : Int))) 1 fun p268 =>
 ldT .bool p268 fun x269 =>
 jn (σ := (Bool × Unit)) (fun s271 => /-  -/
 X263 ((IntKind.wrap .i64 (s264.1 + (1 : Int))), s271.1, ()))
 (fun J270 =>
 brB (x269 == (decide (x224 > (0 : Int))))
 (callF Tryz.prog (.func (.func fn_salvorlaw05_FormulaParts_1) #[] #[]) #[(.slice r234.1.a r234.1.len r234.1.cap), (.slice x266.a x266.len x266.cap)] .bool fun r272 =>
 brB (!r272)
 (K false)
 (J270 (s264.2.1, ())))
 (callF Tryz.prog (.func (.func fn_salvorlaw05_FormulaParts_1) #[] #[]) #[(.slice r236.1.a r236.1.len r236.1.cap), (.slice x266.a x266.len x266.cap)] .bool fun r273 =>
 brB (!r273)
 (K false)
 (J270 (s264.2.1, ()))))))
 (callT Tryz.prog fn_salvorlaw05_awake #[] .bool fun r274 =>
 K r274))
 ((0 : Int), s254.2.1, ())))
 ((0 : Int), false, ())))
 (fun J247 =>
 brB t246
 (J247 true)
 (nz (2 : Int) <|
 nz (2 : Int) <|
 J247 (((r232.1.len : Int) != (IntKind.wrap .i64 ((IntKind.wrap .i64 (Int.tdiv (r234.1.len : Int) (2 : Int))) + (IntKind.wrap .i64 (Int.tdiv (r236.1.len : Int) (2 : Int))))))))))
 (fun J245 =>
 brB t244
 (J245 true)
 (nz (2 : Int) <|
 J245 (((Int.tmod (r236.1.len : Int) (2 : Int)) != (0 : Int))))))
 (fun J243 =>
 brB t242
 (J243 true)
 (nz (2 : Int) <|
 J243 (((Int.tmod (r234.1.len : Int) (2 : Int)) != (0 : Int))))))
 (fun J241 =>
 brB t240
 (J241 true)
 (J241 ((!r236.2.1)))))
 (fun J239 =>
 brB t238
 (J239 true)
 (J239 ((!r234.2.1)))))
 (fun J237 =>
 brB ((IntKind.wrap .i64 (r226.2.1 + r229.2.1)) != (0 : Int))
 (J237 true)
 (J237 ((!r232.2.1))))))
 (nw #[(.int .i64 (0 : Int)), (.slice none 0 0)] ty_formula_Formula fun b275 =>
 callT Tryz.prog fn_salvorlaw05_Made #[(.slice a0.a a0.len a0.cap)] (.agg (.cons (.int .i64) (.cons .sl .nil))) fun r276 =>
 callT Tryz.prog fn_salvorlaw02_Made #[(.slice (some (⟨b165, 0, none⟩ : Addr)) 1 1)] .sl fun r277 =>
 sx r277.a r277.len (0 : Int) 1 fun p278 =>
 ldT (.int .i64) p278 fun x279 =>
 st1 (⟨b275, 0, none⟩ : Addr) (.int .i64 r276.1) <|
 st1 ((⟨b275, 0, none⟩ : Addr).add 1) (.slice r276.2.1.a r276.2.1.len r276.2.1.cap) <|
 ck p278 (.int .i64 x279) <|
 ldA (.cons (.int .i64) (.cons .sl .nil)) (⟨b275, 0, none⟩ : Addr) fun x280 =>
 callT Tryz.prog fn_formula_Assign #[(.agg #[(.int .i64 x280.1), (.slice x280.2.1.a x280.2.1.len x280.2.1.cap)]), (.int .i64 x279)] (.tup (.cons (.agg (.cons (.int .i64) (.cons .sl .nil))) (.cons (.int .i64) .nil))) fun r281 =>
 nw #[(.int .i64 (0 : Int)), (.slice none 0 0)] ty_formula_Formula fun b282 =>
 st1 (⟨b282, 0, none⟩ : Addr) (.int .i64 r281.1.1) <|
 st1 ((⟨b282, 0, none⟩ : Addr).add 1) (.slice r281.1.2.1.a r281.1.2.1.len r281.1.2.1.cap) <|
 ldA (.cons (.int .i64) (.cons .sl .nil)) (⟨b275, 0, none⟩ : Addr) fun x283 =>
 callT Tryz.prog fn_formula_Assign #[(.agg #[(.int .i64 x283.1), (.slice x283.2.1.a x283.2.1.len x283.2.1.cap)]), (.int .i64 (IntKind.wrap .i64 (0 - x279)))] (.tup (.cons (.agg (.cons (.int .i64) (.cons .sl .nil))) (.cons (.int .i64) .nil))) fun r284 =>
 nw #[(.int .i64 (0 : Int)), (.slice none 0 0)] ty_formula_Formula fun b285 =>
 st1 (⟨b285, 0, none⟩ : Addr) (.int .i64 r284.1.1) <|
 st1 ((⟨b285, 0, none⟩ : Addr).add 1) (.slice r284.1.2.1.a r284.1.2.1.len r284.1.2.1.cap) <|
 ldA (.cons (.int .i64) (.cons .sl .nil)) (⟨b275, 0, none⟩ : Addr) fun x286 =>
 callT Tryz.prog fn_salvorlaw05_collected #[(.agg #[(.int .i64 x286.1), (.slice x286.2.1.a x286.2.1.len x286.2.1.cap)])] (.tup (.cons .sl (.cons .bool .nil))) fun r287 =>
 ldA (.cons (.int .i64) (.cons .sl .nil)) (⟨b282, 0, none⟩ : Addr) fun x288 =>
 callT Tryz.prog fn_salvorlaw05_collected #[(.agg #[(.int .i64 x288.1), (.slice x288.2.1.a x288.2.1.len x288.2.1.cap)])] (.tup (.cons .sl (.cons .bool .nil))) fun r289 =>
 ldA (.cons (.int .i64) (.cons .sl .nil)) (⟨b285, 0, none⟩ : Addr) fun x290 =>
 callT Tryz.prog fn_salvorlaw05_collected #[(.agg #[(.int .i64 x290.1), (.slice x290.2.1.a x290.2.1.len x290.2.1.cap)])] (.tup (.cons .sl (.cons .bool .nil))) fun r291 =>
 jn (σ := Bool) (fun t293 =>
 jn (σ := Bool) (fun t295 =>
 jn (σ := Bool) (fun t297 =>
 jn (σ := Bool) (fun t299 =>
 jn (σ := Bool) (fun t301 =>
 jn (σ := Bool) (fun t303 =>
 brB t303
 (K false)
 (ldT .sl ((⟨b282, 0, none⟩ : Addr).add 1) fun x304 =>
 ldT .sl ((⟨b285, 0, none⟩ : Addr).add 1) fun x305 =>
 nw #[(.slice x304.a x304.len x304.cap), (.slice x305.a x305.len x305.cap)] ty_sl_clauses_Clause fun b306 =>
 callT Tryz.prog fn_slices_Concat_clauses_Clause_clauses_Clause #[(.slice (some (⟨b306, 0, none⟩ : Addr)) 2 2)] .sl fun r307 =>
 lfp (σ := (Int × (Bool × Unit))) (fun X308 s309 => /-   -/
 brB (decide (s309.1 < (r307.len : Int)))
 (sx r307.a r307.len s309.1 1 fun p310 =>
 ldT .sl p310 fun x311 =>
 callT Tryz.prog fn_lits_Vars #[(.slice x311.a x311.len x311.cap)] .sl fun r312 =>
 callT Tryz.prog fn_lits_Var #[(.int .i64 x279)] (.int .i64) fun r313 =>
 callT Tryz.prog fn_slices_Contains_int_int #[(.slice r312.a r312.len r312.cap), (.int .i64 r313)] .bool fun r314 =>
 jn (σ := Bool) (fun t316 =>
 brB t316
 (K false)
 (X308 ((IntKind.wrap .i64 (s309.1 + (1 : Int))), s309.2.1, ())))
 (fun J315 =>
 brB r314
 (callT Tryz.prog fn_clauses_Always #[(.slice x311.a x311.len x311.cap)] .bool fun r317 =>
 J315 ((!r317)))
 (J315 false)))
 (lfp (σ := (Int × (Bool × Unit))) (fun X318 s319 => /-   -/
 brB (decide (s319.1 < (r287.1.len : Int)))
 (sx r287.1.a r287.1.len s319.1 1 fun p320 =>
 ldT .sl p320 fun x321 =>
 brB ((x321.len : Int) != (8 : Int))
 (K false)
 (callT Tryz.prog fn_lits_Var #[(.int .i64 x279)] (.int .i64) fun r322 =>
 sx x321.a x321.len (IntKind.wrap .i64 (r322 - (1 : Int))) 1 fun p323 =>
 ldT .bool p323 fun x324 =>
 jn (σ := (Bool × Unit)) (fun s326 => /-  -/
 X318 ((IntKind.wrap .i64 (s319.1 + (1 : Int))), s326.1, ()))
 (fun J325 =>
 brB (x324 == (decide (x279 > (0 : Int))))
 (callF Tryz.prog (.func (.func fn_salvorlaw05_FormulaParts_1) #[] #[]) #[(.slice r289.1.a r289.1.len r289.1.cap), (.slice x321.a x321.len x321.cap)] .bool fun r327 =>
 brB (!r327)
 (K false)
 (J325 (s319.2.1, ())))
 (callF Tryz.prog (.func (.func fn_salvorlaw05_FormulaParts_1) #[] #[]) #[(.slice r291.1.a r291.1.len r291.1.cap), (.slice x321.a x321.len x321.cap)] .bool fun r328 =>
 brB (!r328)
 (K false)
 (J325 (s319.2.1, ()))))))
 (callT Tryz.prog fn_salvorlaw05_awake #[] .bool fun r329 =>
 K r329))
 ((0 : Int), s309.2.1, ())))
 ((0 : Int), false, ())))
 (fun J302 =>
 brB t301
 (J302 true)
 (nz (2 : Int) <|
 nz (2 : Int) <|
 J302 (((r287.1.len : Int) != (IntKind.wrap .i64 ((IntKind.wrap .i64 (Int.tdiv (r289.1.len : Int) (2 : Int))) + (IntKind.wrap .i64 (Int.tdiv (r291.1.len : Int) (2 : Int))))))))))
 (fun J300 =>
 brB t299
 (J300 true)
 (nz (2 : Int) <|
 J300 (((Int.tmod (r291.1.len : Int) (2 : Int)) != (0 : Int))))))
 (fun J298 =>
 brB t297
 (J298 true)
 (nz (2 : Int) <|
 J298 (((Int.tmod (r289.1.len : Int) (2 : Int)) != (0 : Int))))))
 (fun J296 =>
 brB t295
 (J296 true)
 (J296 ((!r291.2.1)))))
 (fun J294 =>
 brB t293
 (J294 true)
 (J294 ((!r289.2.1)))))
 (fun J292 =>
 brB ((IntKind.wrap .i64 (r281.2.1 + r284.2.1)) != (0 : Int))
 (J292 true)
 (J292 ((!r287.2.1))))))
 (nw #[(.int .i64 (0 : Int)), (.slice none 0 0)] ty_formula_Formula fun b330 =>
 cj
 (callT Tryz.prog fn_salvorlaw05_Made #[(.slice a0.a a0.len a0.cap)] (.agg (.cons (.int .i64) (.cons .sl .nil))) fun r331 =>
 nw #[(.int .u8 a1)] ty_uint8 fun b332 =>
 callT Tryz.prog fn_salvorlaw02_Made #[(.slice (some (⟨b332, 0, none⟩ : Addr)) 1 1)] .sl fun r333 =>
 sx r333.a r333.len (0 : Int) 1 fun p334 =>
 ldT (.int .i64) p334 fun x335 =>
 st1 (⟨b330, 0, none⟩ : Addr) (.int .i64 r331.1) <|
 st1 ((⟨b330, 0, none⟩ : Addr).add 1) (.slice r331.2.1.a r331.2.1.len r331.2.1.cap) <|
 ck p334 (.int .i64 x335) <|
 ldA (.cons (.int .i64) (.cons .sl .nil)) (⟨b330, 0, none⟩ : Addr) fun x336 =>
 callT Tryz.prog fn_formula_Assign #[(.agg #[(.int .i64 x336.1), (.slice x336.2.1.a x336.2.1.len x336.2.1.cap)]), (.int .i64 x335)] (.tup (.cons (.agg (.cons (.int .i64) (.cons .sl .nil))) (.cons (.int .i64) .nil))) fun r337 =>
 nw #[(.int .i64 (0 : Int)), (.slice none 0 0)] ty_formula_Formula fun b338 =>
 st1 (⟨b338, 0, none⟩ : Addr) (.int .i64 r337.1.1) <|
 st1 ((⟨b338, 0, none⟩ : Addr).add 1) (.slice r337.1.2.1.a r337.1.2.1.len r337.1.2.1.cap) <|
 ldA (.cons (.int .i64) (.cons .sl .nil)) (⟨b330, 0, none⟩ : Addr) fun x339 =>
 callT Tryz.prog fn_formula_Assign #[(.agg #[(.int .i64 x339.1), (.slice x339.2.1.a x339.2.1.len x339.2.1.cap)]), (.int .i64 (IntKind.wrap .i64 (0 - x335)))] (.tup (.cons (.agg (.cons (.int .i64) (.cons .sl .nil))) (.cons (.int .i64) .nil))) fun r340 =>
 nw #[(.int .i64 (0 : Int)), (.slice none 0 0)] ty_formula_Formula fun b341 =>
 st1 (⟨b341, 0, none⟩ : Addr) (.int .i64 r340.1.1) <|
 st1 ((⟨b341, 0, none⟩ : Addr).add 1) (.slice r340.1.2.1.a r340.1.2.1.len r340.1.2.1.cap) <|
 ldA (.cons (.int .i64) (.cons .sl .nil)) (⟨b330, 0, none⟩ : Addr) fun x342 =>
 callT Tryz.prog fn_salvorlaw05_collected #[(.agg #[(.int .i64 x342.1), (.slice x342.2.1.a x342.2.1.len x342.2.1.cap)])] (.tup (.cons .sl (.cons .bool .nil))) fun r343 =>
 ldA (.cons (.int .i64) (.cons .sl .nil)) (⟨b338, 0, none⟩ : Addr) fun x344 =>
 callT Tryz.prog fn_salvorlaw05_collected #[(.agg #[(.int .i64 x344.1), (.slice x344.2.1.a x344.2.1.len x344.2.1.cap)])] (.tup (.cons .sl (.cons .bool .nil))) fun r345 =>
 ldA (.cons (.int .i64) (.cons .sl .nil)) (⟨b341, 0, none⟩ : Addr) fun x346 =>
 callT Tryz.prog fn_salvorlaw05_collected #[(.agg #[(.int .i64 x346.1), (.slice x346.2.1.a x346.2.1.len x346.2.1.cap)])] (.tup (.cons .sl (.cons .bool .nil))) fun r347 =>
 jn (σ := Bool) (fun t349 =>
 jn (σ := Bool) (fun t351 =>
 jn (σ := Bool) (fun t353 =>
 jn (σ := Bool) (fun t355 =>
 jn (σ := Bool) (fun t357 =>
 jn (σ := Bool) (fun t359 =>
 brB t359
 (K false)
 (ldT .sl ((⟨b338, 0, none⟩ : Addr).add 1) fun x360 =>
 ldT .sl ((⟨b341, 0, none⟩ : Addr).add 1) fun x361 =>
 nw #[(.slice x360.a x360.len x360.cap), (.slice x361.a x361.len x361.cap)] ty_sl_clauses_Clause fun b362 =>
 callT Tryz.prog fn_slices_Concat_clauses_Clause_clauses_Clause #[(.slice (some (⟨b362, 0, none⟩ : Addr)) 2 2)] .sl fun r363 =>
 lfp (σ := (Int × (Bool × Unit))) (fun X364 s365 => /-   -/
 brB (decide (s365.1 < (r363.len : Int)))
 (sx r363.a r363.len s365.1 1 fun p366 =>
 ldT .sl p366 fun x367 =>
 callT Tryz.prog fn_lits_Vars #[(.slice x367.a x367.len x367.cap)] .sl fun r368 =>
 callT Tryz.prog fn_lits_Var #[(.int .i64 x335)] (.int .i64) fun r369 =>
 callT Tryz.prog fn_slices_Contains_int_int #[(.slice r368.a r368.len r368.cap), (.int .i64 r369)] .bool fun r370 =>
 jn (σ := Bool) (fun t372 =>
 brB t372
 (K false)
 (X364 ((IntKind.wrap .i64 (s365.1 + (1 : Int))), s365.2.1, ())))
 (fun J371 =>
 brB r370
 (callT Tryz.prog fn_clauses_Always #[(.slice x367.a x367.len x367.cap)] .bool fun r373 =>
 J371 ((!r373)))
 (J371 false)))
 (lfp (σ := (Int × (Bool × Unit))) (fun X374 s375 => /-   -/
 brB (decide (s375.1 < (r343.1.len : Int)))
 (sx r343.1.a r343.1.len s375.1 1 fun p376 =>
 ldT .sl p376 fun x377 =>
 brB ((x377.len : Int) != (8 : Int))
 (K false)
 (callT Tryz.prog fn_lits_Var #[(.int .i64 x335)] (.int .i64) fun r378 =>
 sx x377.a x377.len (IntKind.wrap .i64 (r378 - (1 : Int))) 1 fun p379 =>
 ldT .bool p379 fun x380 =>
 jn (σ := (Bool × Unit)) (fun s382 => /-  -/
 X374 ((IntKind.wrap .i64 (s375.1 + (1 : Int))), s382.1, ()))
 (fun J381 =>
 brB (x380 == (decide (x335 > (0 : Int))))
 (callF Tryz.prog (.func (.func fn_salvorlaw05_FormulaParts_1) #[] #[]) #[(.slice r345.1.a r345.1.len r345.1.cap), (.slice x377.a x377.len x377.cap)] .bool fun r383 =>
 brB (!r383)
 (K false)
 (J381 (s375.2.1, ())))
 (callF Tryz.prog (.func (.func fn_salvorlaw05_FormulaParts_1) #[] #[]) #[(.slice r347.1.a r347.1.len r347.1.cap), (.slice x377.a x377.len x377.cap)] .bool fun r384 =>
 brB (!r384)
 (K false)
 (J381 (s375.2.1, ()))))))
 (callT Tryz.prog fn_salvorlaw05_awake #[] .bool fun r385 =>
 K r385))
 ((0 : Int), s365.2.1, ())))
 ((0 : Int), false, ())))
 (fun J358 =>
 brB t357
 (J358 true)
 (nz (2 : Int) <|
 nz (2 : Int) <|
 J358 (((r343.1.len : Int) != (IntKind.wrap .i64 ((IntKind.wrap .i64 (Int.tdiv (r345.1.len : Int) (2 : Int))) + (IntKind.wrap .i64 (Int.tdiv (r347.1.len : Int) (2 : Int))))))))))
 (fun J356 =>
 brB t355
 (J356 true)
 (nz (2 : Int) <|
 J356 (((Int.tmod (r347.1.len : Int) (2 : Int)) != (0 : Int))))))
 (fun J354 =>
 brB t353
 (J354 true)
 (nz (2 : Int) <|
 J354 (((Int.tmod (r345.1.len : Int) (2 : Int)) != (0 : Int))))))
 (fun J352 =>
 brB t351
 (J352 true)
 (J352 ((!r347.2.1)))))
 (fun J350 =>
 brB t349
 (J350 true)
 (J350 ((!r345.2.1)))))
 (fun J348 =>
 brB ((IntKind.wrap .i64 (r337.2.1 + r340.2.1)) != (0 : Int))
 (J348 true)
 (J348 ((!r343.2.1)))))
 (nw #[(.int .u8 a1)] ty_uint8 fun b386 =>
 callT Tryz.prog fn_salvorlaw05_Made #[(.slice a0.a a0.len a0.cap)] (.agg (.cons (.int .i64) (.cons .sl .nil))) fun r387 =>
 callT Tryz.prog fn_salvorlaw02_Made #[(.slice (some (⟨b386, 0, none⟩ : Addr)) 1 1)] .sl fun r388 =>
 sx r388.a r388.len (0 : Int) 1 fun p389 =>
 ldT (.int .i64) p389 fun x390 =>
 st1 (⟨b330, 0, none⟩ : Addr) (.int .i64 r387.1) <|
 st1 ((⟨b330, 0, none⟩ : Addr).add 1) (.slice r387.2.1.a r387.2.1.len r387.2.1.cap) <|
 ck p389 (.int .i64 x390) <|
 ldA (.cons (.int .i64) (.cons .sl .nil)) (⟨b330, 0, none⟩ : Addr) fun x391 =>
 callT Tryz.prog fn_formula_Assign #[(.agg #[(.int .i64 x391.1), (.slice x391.2.1.a x391.2.1.len x391.2.1.cap)]), (.int .i64 x390)] (.tup (.cons (.agg (.cons (.int .i64) (.cons .sl .nil))) (.cons (.int .i64) .nil))) fun r392 =>
 nw #[(.int .i64 (0 : Int)), (.slice none 0 0)] ty_formula_Formula fun b393 =>
 st1 (⟨b393, 0, none⟩ : Addr) (.int .i64 r392.1.1) <|
 st1 ((⟨b393, 0, none⟩ : Addr).add 1) (.slice r392.1.2.1.a r392.1.2.1.len r392.1.2.1.cap) <|
 ldA (.cons (.int .i64) (.cons .sl .nil)) (⟨b330, 0, none⟩ : Addr) fun x394 =>
 callT Tryz.prog fn_formula_Assign #[(.agg #[(.int .i64 x394.1), (.slice x394.2.1.a x394.2.1.len x394.2.1.cap)]), (.int .i64 (IntKind.wrap .i64 (0 - x390)))] (.tup (.cons (.agg (.cons (.int .i64) (.cons .sl .nil))) (.cons (.int .i64) .nil))) fun r395 =>
 nw #[(.int .i64 (0 : Int)), (.slice none 0 0)] ty_formula_Formula fun b396 =>
 st1 (⟨b396, 0, none⟩ : Addr) (.int .i64 r395.1.1) <|
 st1 ((⟨b396, 0, none⟩ : Addr).add 1) (.slice r395.1.2.1.a r395.1.2.1.len r395.1.2.1.cap) <|
 ldA (.cons (.int .i64) (.cons .sl .nil)) (⟨b330, 0, none⟩ : Addr) fun x397 =>
 callT Tryz.prog fn_salvorlaw05_collected #[(.agg #[(.int .i64 x397.1), (.slice x397.2.1.a x397.2.1.len x397.2.1.cap)])] (.tup (.cons .sl (.cons .bool .nil))) fun r398 =>
 ldA (.cons (.int .i64) (.cons .sl .nil)) (⟨b393, 0, none⟩ : Addr) fun x399 =>
 callT Tryz.prog fn_salvorlaw05_collected #[(.agg #[(.int .i64 x399.1), (.slice x399.2.1.a x399.2.1.len x399.2.1.cap)])] (.tup (.cons .sl (.cons .bool .nil))) fun r400 =>
 ldA (.cons (.int .i64) (.cons .sl .nil)) (⟨b396, 0, none⟩ : Addr) fun x401 =>
 callT Tryz.prog fn_salvorlaw05_collected #[(.agg #[(.int .i64 x401.1), (.slice x401.2.1.a x401.2.1.len x401.2.1.cap)])] (.tup (.cons .sl (.cons .bool .nil))) fun r402 =>
 jn (σ := Bool) (fun t404 =>
 jn (σ := Bool) (fun t406 =>
 jn (σ := Bool) (fun t408 =>
 jn (σ := Bool) (fun t410 =>
 jn (σ := Bool) (fun t412 =>
 jn (σ := Bool) (fun t414 =>
 brB t414
 (K false)
 (ldT .sl ((⟨b393, 0, none⟩ : Addr).add 1) fun x415 =>
 ldT .sl ((⟨b396, 0, none⟩ : Addr).add 1) fun x416 =>
 nw #[(.slice x415.a x415.len x415.cap), (.slice x416.a x416.len x416.cap)] ty_sl_clauses_Clause fun b417 =>
 callT Tryz.prog fn_slices_Concat_clauses_Clause_clauses_Clause #[(.slice (some (⟨b417, 0, none⟩ : Addr)) 2 2)] .sl fun r418 =>
 lfp (σ := (Int × (Bool × Unit))) (fun X419 s420 => /-   -/
 brB (decide (s420.1 < (r418.len : Int)))
 (sx r418.a r418.len s420.1 1 fun p421 =>
 ldT .sl p421 fun x422 =>
 callT Tryz.prog fn_lits_Vars #[(.slice x422.a x422.len x422.cap)] .sl fun r423 =>
 callT Tryz.prog fn_lits_Var #[(.int .i64 x390)] (.int .i64) fun r424 =>
 callT Tryz.prog fn_slices_Contains_int_int #[(.slice r423.a r423.len r423.cap), (.int .i64 r424)] .bool fun r425 =>
 jn (σ := Bool) (fun t427 =>
 brB t427
 (K false)
 (X419 ((IntKind.wrap .i64 (s420.1 + (1 : Int))), s420.2.1, ())))
 (fun J426 =>
 brB r425
 (callT Tryz.prog fn_clauses_Always #[(.slice x422.a x422.len x422.cap)] .bool fun r428 =>
 J426 ((!r428)))
 (J426 false)))
 (lfp (σ := (Int × (Bool × Unit))) (fun X429 s430 => /-   -/
 brB (decide (s430.1 < (r398.1.len : Int)))
 (sx r398.1.a r398.1.len s430.1 1 fun p431 =>
 ldT .sl p431 fun x432 =>
 brB ((x432.len : Int) != (8 : Int))
 (K false)
 (callT Tryz.prog fn_lits_Var #[(.int .i64 x390)] (.int .i64) fun r433 =>
 sx x432.a x432.len (IntKind.wrap .i64 (r433 - (1 : Int))) 1 fun p434 =>
 ldT .bool p434 fun x435 =>
 jn (σ := (Bool × Unit)) (fun s437 => /-  -/
 X429 ((IntKind.wrap .i64 (s430.1 + (1 : Int))), s437.1, ()))
 (fun J436 =>
 brB (x435 == (decide (x390 > (0 : Int))))
 (callF Tryz.prog (.func (.func fn_salvorlaw05_FormulaParts_1) #[] #[]) #[(.slice r400.1.a r400.1.len r400.1.cap), (.slice x432.a x432.len x432.cap)] .bool fun r438 =>
 brB (!r438)
 (K false)
 (J436 (s430.2.1, ())))
 (callF Tryz.prog (.func (.func fn_salvorlaw05_FormulaParts_1) #[] #[]) #[(.slice r402.1.a r402.1.len r402.1.cap), (.slice x432.a x432.len x432.cap)] .bool fun r439 =>
 brB (!r439)
 (K false)
 (J436 (s430.2.1, ()))))))
 (callT Tryz.prog fn_salvorlaw05_awake #[] .bool fun r440 =>
 K r440))
 ((0 : Int), s420.2.1, ())))
 ((0 : Int), false, ())))
 (fun J413 =>
 brB t412
 (J413 true)
 (nz (2 : Int) <|
 nz (2 : Int) <|
 J413 (((r398.1.len : Int) != (IntKind.wrap .i64 ((IntKind.wrap .i64 (Int.tdiv (r400.1.len : Int) (2 : Int))) + (IntKind.wrap .i64 (Int.tdiv (r402.1.len : Int) (2 : Int))))))))))
 (fun J411 =>
 brB t410
 (J411 true)
 (nz (2 : Int) <|
 J411 (((Int.tmod (r402.1.len : Int) (2 : Int)) != (0 : Int))))))
 (fun J409 =>
 brB t408
 (J409 true)
 (nz (2 : Int) <|
 J409 (((Int.tmod (r400.1.len : Int) (2 : Int)) != (0 : Int))))))
 (fun J407 =>
 brB t406
 (J407 true)
 (J407 ((!r402.2.1)))))
 (fun J405 =>
 brB t404
 (J405 true)
 (J405 ((!r400.2.1)))))
 (fun J403 =>
 brB ((IntKind.wrap .i64 (r392.2.1 + r395.2.1)) != (0 : Int))
 (J403 true)
 (J403 ((!r398.2.1)))))))
set_option maxRecDepth 100000 in
theorem E_salvorlaw05_FormulaParts (a0 : Sl) (a1 : Int) (K : Bool → HP) (h : Heap) : fnVC Tryz.prog [(1000000, .bool)] 149 Tryz.f9 [(.slice a0.a a0.len a0.cap), (.int .u8 a1)] .bool K h = F_salvorlaw05_FormulaParts a0 a1 K h := by kernel_rfl
set_option maxRecDepth 100000 in
theorem S_salvorlaw05_FormulaParts{h : Heap} {a0 : Sl} {a1 : Int} (K : Bool → HP) (hF : F_salvorlaw05_FormulaParts a0 a1 K h) : CallsH Tryz.prog fn_salvorlaw05_FormulaParts #[(.slice a0.a a0.len a0.cap), (.int .u8 a1)] h fun v h' => ∃ x : Bool, v = Ty.enc .bool x ∧ K x h' :=
  callsH_of_fn (P := Tryz.prog) (fn := Tryz.f9) (τ := .bool) follows Tryz.func9 (by kernel_rfl) (by kernel_rfl) Tryz.call9 (Eq.mpr (E_salvorlaw05_FormulaParts a0 a1 K h) hF)


/-- salvor/salvorlaw05.few -/
def F_salvorlaw05_few (a0 : (Int × (Sl × Unit))) (K : Bool → HP) : HP :=
 nw #[(.int .i64 a0.1), (.slice a0.2.1.a a0.2.1.len a0.2.1.cap)] ty_formula_Formula fun b0 =>
 ldT .sl ((⟨b0, 0, none⟩ : Addr).add 1) fun x1 =>
 ldT .sl ((⟨b0, 0, none⟩ : Addr).add 1) fun x2 =>
 slH ⟨x1.a, x1.len, x1.cap⟩ (if (101 : Int) < (x2.len : Int) then (101 : Int) else (x2.len : Int)) 1 fun s3 =>
 lfp (σ := (Int × (Int × Unit))) (fun X4 s5 => /-  n -/
 brB (decide (s5.1 < (s3.len : Int)))
 (sx s3.a s3.len s5.1 1 fun p6 =>
 ldT .sl p6 fun x7 =>
 X4 ((IntKind.wrap .i64 (s5.1 + (1 : Int))), (IntKind.wrap .i64 (s5.2.1 + (x7.len : Int))), ()))
 (ldT .sl ((⟨b0, 0, none⟩ : Addr).add 1) fun x8 =>
 jn (σ := Bool) (fun t10 =>
 K t10)
 (fun J9 =>
 brB (decide ((x8.len : Int) ≤ (100 : Int)))
 (J9 ((decide (s5.2.1 ≤ (1000 : Int)))))
 (J9 false))))
 ((0 : Int), (0 : Int), ())
set_option maxRecDepth 100000 in
theorem E_salvorlaw05_few (a0 : (Int × (Sl × Unit))) (K : Bool → HP) (h : Heap) : fnVC Tryz.prog [(1000000, .bool)] 31 Tryz.f10 [(.agg #[(.int .i64 a0.1), (.slice a0.2.1.a a0.2.1.len a0.2.1.cap)])] .bool K h = F_salvorlaw05_few a0 K h := by kernel_rfl
set_option maxRecDepth 100000 in
theorem S_salvorlaw05_few{h : Heap} {a0 : (Int × (Sl × Unit))} (K : Bool → HP) (hF : F_salvorlaw05_few a0 K h) : CallsH Tryz.prog fn_salvorlaw05_few #[(.agg #[(.int .i64 a0.1), (.slice a0.2.1.a a0.2.1.len a0.2.1.cap)])] h fun v h' => ∃ x : Bool, v = Ty.enc .bool x ∧ K x h' :=
  callsH_of_fn (P := Tryz.prog) (fn := Tryz.f10) (τ := .bool) follows Tryz.func10 (by kernel_rfl) (by kernel_rfl) Tryz.call10 (Eq.mpr (E_salvorlaw05_few a0 K h) hF)


end Go.Proofs.S
