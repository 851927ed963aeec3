/- The functions of the seat, each as a predicate over its values, printed by a program of ours, and that each is its text's. -/
import Derived.Test.YtmlamkoilggonaaGreatSx10
import Derived.KernelRfl
import Derived.Test.YtmlamkoilggonaaGreatProg
import Derived.Test.YtmlamkoilggonaaGreatClF0
set_option linter.unusedVariables false
namespace Go.Proofs.S
open Go Go.Sx Go.Proofs
def TlTl (bF bO bR : Nat) (rB a1 : Sl) (a2 : Int) (K : Bool → HP) : HP := fun h => (
 ldA (.cons (.int .i64) (.cons .sl .nil)) (⟨bO, 0, none⟩ : Addr) fun x8 =>
 ldA (.cons (.int .i64) (.cons .sl .nil)) (⟨bR, 0, none⟩ : Addr) fun x9 =>
 callT Tryz.prog fn_salvorlaw05_Equal #[(.agg #[(.int .i64 x8.1), (.slice x8.2.1.a x8.2.1.len x8.2.1.cap)]), (.agg #[(.int .i64 x9.1), (.slice x9.2.1.a x9.2.1.len x9.2.1.cap)])] .bool fun r10 =>
 jn (σ := Bool) (fun t12 =>
 brB t12
 (K false)
 (ldA (.cons (.int .i64) (.cons .sl .nil)) (⟨bO, 0, none⟩ : Addr) fun x13 =>
 callT Tryz.prog fn_formula_Check #[(.agg #[(.int .i64 x13.1), (.slice x13.2.1.a x13.2.1.len x13.2.1.cap)])] (.tup (.cons (.int .i64) (.cons (.int .i64) .nil))) fun r14 =>
 ldA (.cons (.int .i64) (.cons .sl .nil)) (⟨bR, 0, none⟩ : Addr) fun x15 =>
 callT Tryz.prog fn_salvorref05_Check #[(.agg #[(.int .i64 x15.1), (.slice x15.2.1.a x15.2.1.len x15.2.1.cap)])] (.tup (.cons (.int .i64) (.cons (.int .i64) .nil))) fun r16 =>
 ldA (.cons (.int .i64) (.cons .sl .nil)) (⟨bO, 0, none⟩ : Addr) fun x17 =>
 callT Tryz.prog fn_formula_Value #[(.agg #[(.int .i64 x17.1), (.slice x17.2.1.a x17.2.1.len x17.2.1.cap)]), (.slice a1.a a1.len a1.cap)] (.tup (.cons .bool (.cons (.int .i64) .nil))) fun r18 =>
 ldA (.cons (.int .i64) (.cons .sl .nil)) (⟨bO, 0, none⟩ : Addr) fun x19 =>
 callT Tryz.prog fn_formula_Fails #[(.agg #[(.int .i64 x19.1), (.slice x19.2.1.a x19.2.1.len x19.2.1.cap)]), (.slice a1.a a1.len a1.cap)] (.tup (.cons (.int .i64) (.cons .bool (.cons (.int .i64) .nil)))) fun r20 =>
 ldA (.cons (.int .i64) (.cons .sl .nil)) (⟨bO, 0, none⟩ : Addr) fun x21 =>
 callT Tryz.prog fn_formula_Assign #[(.agg #[(.int .i64 x21.1), (.slice x21.2.1.a x21.2.1.len x21.2.1.cap)]), (.int .i64 a2)] (.tup (.cons (.agg (.cons (.int .i64) (.cons .sl .nil))) (.cons (.int .i64) .nil))) fun r22 =>
 nw #[(.int .i64 (0 : Int)), (.slice none 0 0)] ty_formula_Formula fun b23 =>
 st1 (⟨b23, 0, none⟩ : Addr) (.int .i64 r22.1.1) <|
 st1 ((⟨b23, 0, none⟩ : Addr).add 1) (.slice r22.1.2.1.a r22.1.2.1.len r22.1.2.1.cap) <|
 ldA (.cons (.int .i64) (.cons .sl .nil)) (⟨bO, 0, none⟩ : Addr) fun x24 =>
 callT Tryz.prog fn_formula_Norm #[(.agg #[(.int .i64 x24.1), (.slice x24.2.1.a x24.2.1.len x24.2.1.cap)])] (.tup (.cons (.agg (.cons (.int .i64) (.cons .sl .nil))) (.cons (.int .i64) .nil))) fun r25 =>
 nw #[(.int .i64 (0 : Int)), (.slice none 0 0)] ty_formula_Formula fun b26 =>
 st1 (⟨b26, 0, none⟩ : Addr) (.int .i64 r25.1.1) <|
 st1 ((⟨b26, 0, none⟩ : Addr).add 1) (.slice r25.1.2.1.a r25.1.2.1.len r25.1.2.1.cap) <|
 ldA (.cons (.int .i64) (.cons .sl .nil)) (⟨bO, 0, none⟩ : Addr) fun x27 =>
 callT Tryz.prog fn_formula_Count #[(.agg #[(.int .i64 x27.1), (.slice x27.2.1.a x27.2.1.len x27.2.1.cap)])] (.tup (.cons (.int .i64) (.cons (.int .i64) .nil))) fun r28 =>
 ldA (.cons (.int .i64) (.cons .sl .nil)) (⟨bO, 0, none⟩ : Addr) fun x29 =>
 callT Tryz.prog fn_formula_First #[(.agg #[(.int .i64 x29.1), (.slice x29.2.1.a x29.2.1.len x29.2.1.cap)])] (.tup (.cons .sl (.cons .bool (.cons (.int .i64) .nil)))) fun r30 =>
 ldA (.cons (.int .i64) (.cons .sl .nil)) (⟨bO, 0, none⟩ : Addr) fun x31 =>
 callT Tryz.prog fn_formula_Models #[(.agg #[(.int .i64 x31.1), (.slice x31.2.1.a x31.2.1.len x31.2.1.cap)])] (.tup (.cons .val (.cons (.int .i64) .nil))) fun r32 =>
 jn (σ := Bool) (fun t34 =>
 jn (σ := Bool) (fun t36 =>
 jn (σ := Bool) (fun t38 =>
 brB t38
 (K false)
 (nw #[(.int .i64 (0 : Int)), (.slice none 0 0)] ty_formula_Formula fun b39 =>
 st1 (⟨b39, 0, none⟩ : Addr) (.int .i64 (0 : Int)) <|
 st1 ((⟨b39, 0, none⟩ : Addr).add 1) (.slice none 0 0) <|
 brB (r16.2.1 != (0 : Int))
 (jn (σ := Bool) (fun t41 =>
 jn (σ := Bool) (fun t43 =>
 jn (σ := Bool) (fun t45 =>
 jn (σ := Bool) (fun t47 =>
 jn (σ := Bool) (fun t49 =>
 jn (σ := Bool) (fun t51 =>
 jn (σ := Bool) (fun t53 =>
 jn (σ := Bool) (fun t55 =>
 jn (σ := Bool) (fun t57 =>
 jn (σ := Bool) (fun t59 =>
 jn (σ := Bool) (fun t61 =>
 jn (σ := Bool) (fun t63 =>
 jn (σ := Bool) (fun t65 =>
 jn (σ := Bool) (fun t67 =>
 jn (σ := Bool) (fun t69 =>
 K t69)
 (fun J68 =>
 brB t67
 (J68 ((r32.2.1 == r14.2.1)))
 (J68 false)))
 (fun J66 =>
 brB t65
 (J66 ((r30.2.2.1 == r14.2.1)))
 (J66 false)))
 (fun J64 =>
 brB t63
 (J64 ((r28.2.1 == r14.2.1)))
 (J64 false)))
 (fun J62 =>
 brB t61
 (J62 ((r25.2.1 == r14.2.1)))
 (J62 false)))
 (fun J60 =>
 brB t59
 (J60 ((r22.2.1 == r14.2.1)))
 (J60 false)))
 (fun J58 =>
 brB t57
 (J58 ((r20.2.2.1 == r14.2.1)))
 (J58 false)))
 (fun J56 =>
 brB t55
 (J56 ((r18.2.1 == r14.2.1)))
 (J56 false)))
 (fun J54 =>
 brB t53
 (fnE r32.1 fun t70 =>
 J54 (t70))
 (J54 false)))
 (fun J52 =>
 brB t51
 (J52 ((!r30.2.1)))
 (J52 false)))
 (fun J50 =>
 brB t49
 (J50 (((r30.1.len : Int) == (0 : Int))))
 (J50 false)))
 (fun J48 =>
 brB t47
 (J48 ((r28.1 == (0 : Int))))
 (J48 false)))
 (fun J46 =>
 brB t45
 (ldA (.cons (.int .i64) (.cons .sl .nil)) (⟨b26, 0, none⟩ : Addr) fun x71 =>
 ldA (.cons (.int .i64) (.cons .sl .nil)) (⟨b39, 0, none⟩ : Addr) fun x72 =>
 callT Tryz.prog fn_formula_Same #[(.agg #[(.int .i64 x71.1), (.slice x71.2.1.a x71.2.1.len x71.2.1.cap)]), (.agg #[(.int .i64 x72.1), (.slice x72.2.1.a x72.2.1.len x72.2.1.cap)])] .bool fun r73 =>
 J46 (r73))
 (J46 false)))
 (fun J44 =>
 brB t43
 (ldA (.cons (.int .i64) (.cons .sl .nil)) (⟨b23, 0, none⟩ : Addr) fun x74 =>
 ldA (.cons (.int .i64) (.cons .sl .nil)) (⟨b39, 0, none⟩ : Addr) fun x75 =>
 callT Tryz.prog fn_formula_Same #[(.agg #[(.int .i64 x74.1), (.slice x74.2.1.a x74.2.1.len x74.2.1.cap)]), (.agg #[(.int .i64 x75.1), (.slice x75.2.1.a x75.2.1.len x75.2.1.cap)])] .bool fun r76 =>
 J44 (r76))
 (J44 false)))
 (fun J42 =>
 brB t41
 (J42 ((!r20.2.1)))
 (J42 false)))
 (fun J40 =>
 brB (!r18.1)
 (J40 ((r20.1 == (0 : Int))))
 (J40 false)))
 (ldT (.int .i64) (⟨bF, 0, none⟩ : Addr) fun x77 =>
 jn (σ := (Bool × Unit)) (fun s79 => 
 jn (σ := Bool) (fun t81 =>
 jn (σ := Bool) (fun t83 =>
 jn (σ := (Bool × Unit)) (fun s85 => 
 brB (r25.2.1 != (0 : Int))
 (K false)
 (ldA (.cons (.int .i64) (.cons .sl .nil)) (⟨b26, 0, none⟩ : Addr) fun x86 =>
 ldA (.cons (.int .i64) (.cons .sl .nil)) (⟨bR, 0, none⟩ : Addr) fun x87 =>
 callT Tryz.prog fn_salvorref05_Norm #[(.agg #[(.int .i64 x87.1), (.slice x87.2.1.a x87.2.1.len x87.2.1.cap)])] (.agg (.cons (.int .i64) (.cons .sl .nil))) fun r88 =>
 ckA (⟨b26, 0, none⟩ : Addr) [(.int .i64 x86.1), (.slice x86.2.1.a x86.2.1.len x86.2.1.cap)] <|
 callT Tryz.prog fn_salvorlaw05_Equal #[(.agg #[(.int .i64 x86.1), (.slice x86.2.1.a x86.2.1.len x86.2.1.cap)]), (.agg #[(.int .i64 r88.1), (.slice r88.2.1.a r88.2.1.len r88.2.1.cap)])] .bool fun r89 =>
 brB (!r89)
 (K false)
 (ldT (.int .i64) (⟨bF, 0, none⟩ : Addr) fun x90 =>
 brB (decide (x90 > (16 : Int)))
 (jn (σ := Bool) (fun t92 =>
 jn (σ := Bool) (fun t94 =>
 jn (σ := Bool) (fun t96 =>
 jn (σ := Bool) (fun t98 =>
 jn (σ := Bool) (fun t100 =>
 jn (σ := Bool) (fun t102 =>
 K t102)
 (fun J101 =>
 brB t100
 (J101 ((r32.2.1 == r28.2.1)))
 (J101 false)))
 (fun J99 =>
 brB t98
 (J99 ((r30.2.2.1 == r28.2.1)))
 (J99 false)))
 (fun J97 =>
 brB t96
 (J97 ((r28.2.1 == (5 : Int))))
 (J97 false)))
 (fun J95 =>
 brB t94
 (fnE r32.1 fun t103 =>
 J95 (t103))
 (J95 false)))
 (fun J93 =>
 brB t92
 (J93 ((!r30.2.1)))
 (J93 false)))
 (fun J91 =>
 brB (r28.1 == (0 : Int))
 (J91 (((r30.1.len : Int) == (0 : Int))))
 (J91 false)))
 (ldT (.int .i64) (⟨bF, 0, none⟩ : Addr) fun x104 =>
 jn (σ := Bool) (fun t106 =>
 K t106)
 (fun J105 =>
 brB (decide (x104 > (8 : Int)))
 (J105 true)
 (jn (σ := Bool) (fun t108 =>
 jn (σ := Bool) (fun t110 =>
 J105 (t110))
 (fun J109 =>
 brB t108
 (ldA (.cons (.int .i64) (.cons .sl .nil)) (⟨bR, 0, none⟩ : Addr) fun x111 =>
 callT Tryz.prog fn_salvorlaw05_models #[(.agg #[(.int .i64 x111.1), (.slice x111.2.1.a x111.2.1.len x111.2.1.cap)]), (.int .i64 r28.1), (.slice r30.1.a r30.1.len r30.1.cap), (.bool r30.2.1), r32.1] .bool fun r112 =>
 J109 (r112))
 (J109 false)))
 (fun J107 =>
 brB ((IntKind.wrap .i64 ((IntKind.wrap .i64 (r28.2.1 + r30.2.2.1)) + r32.2.1)) == (0 : Int))
 (fnE r32.1 fun t113 =>
 J107 ((!t113)))
 (J107 false))))))))
 (fun J84 =>
 brB t83
 (jn (σ := Bool) (fun t115 =>
 brB t115
 (K false)
 (J84 (s79.1, ())))
 (fun J114 =>
 brB (r22.2.1 != (51 : Int))
 (J114 true)
 (ldA (.cons (.int .i64) (.cons .sl .nil)) (⟨b23, 0, none⟩ : Addr) fun x116 =>
 ldA (.cons (.int .i64) (.cons .sl .nil)) (⟨b39, 0, none⟩ : Addr) fun x117 =>
 callT Tryz.prog fn_formula_Same #[(.agg #[(.int .i64 x116.1), (.slice x116.2.1.a x116.2.1.len x116.2.1.cap)]), (.agg #[(.int .i64 x117.1), (.slice x117.2.1.a x117.2.1.len x117.2.1.cap)])] .bool fun r118 =>
 J114 ((!r118)))))
 (brB (r22.2.1 != (0 : Int))
 (K false)
 (ldA (.cons (.int .i64) (.cons .sl .nil)) (⟨b23, 0, none⟩ : Addr) fun x119 =>
 ldA (.cons (.int .i64) (.cons .sl .nil)) (⟨bR, 0, none⟩ : Addr) fun x120 =>
 callT Tryz.prog fn_salvorref05_Assign #[(.agg #[(.int .i64 x120.1), (.slice x120.2.1.a x120.2.1.len x120.2.1.cap)]), (.int .i64 a2)] (.agg (.cons (.int .i64) (.cons .sl .nil))) fun r121 =>
 ckA (⟨b23, 0, none⟩ : Addr) [(.int .i64 x119.1), (.slice x119.2.1.a x119.2.1.len x119.2.1.cap)] <|
 callT Tryz.prog fn_salvorlaw05_Equal #[(.agg #[(.int .i64 x119.1), (.slice x119.2.1.a x119.2.1.len x119.2.1.cap)]), (.agg #[(.int .i64 r121.1), (.slice r121.2.1.a r121.2.1.len r121.2.1.cap)])] .bool fun r122 =>
 brB (!r122)
 (K false)
 (J84 (s79.1, ()))))))
 (fun J82 =>
 brB t81
 (J82 true)
 (ldT (.int .i64) (⟨bF, 0, none⟩ : Addr) fun x123 =>
 J82 ((decide (a2 > x123))))))
 (fun J80 =>
 brB (a2 == (0 : Int))
 (J80 true)
 (ldT (.int .i64) (⟨bF, 0, none⟩ : Addr) fun x124 =>
 J80 ((decide (a2 < (IntKind.wrap .i64 (0 - x124))))))))
 (fun J78 =>
 brB ((a1.len : Int) != x77)
 (jn (σ := Bool) (fun t126 =>
 jn (σ := Bool) (fun t128 =>
 jn (σ := Bool) (fun t130 =>
 jn (σ := Bool) (fun t132 =>
 brB t132
 (K false)
 (J78 (false, ())))
 (fun J131 =>
 brB t130
 (J131 true)
 (J131 ((r20.2.2.1 != r18.2.1)))))
 (fun J129 =>
 brB t128
 (J129 true)
 (J129 ((r18.2.1 != (52 : Int))))))
 (fun J127 =>
 brB t126
 (J127 true)
 (J127 (r20.2.1))))
 (fun J125 =>
 brB r18.1
 (J125 true)
 (J125 ((r20.1 != (0 : Int))))))
 (ldA (.cons (.int .i64) (.cons .sl .nil)) (⟨bR, 0, none⟩ : Addr) fun x133 =>
 callT Tryz.prog fn_salvorref05_Fails #[(.agg #[(.int .i64 x133.1), (.slice x133.2.1.a x133.2.1.len x133.2.1.cap)]), (.slice rB.a rB.len rB.cap)] (.int .i64) fun r134 =>
 jn (σ := Bool) (fun t136 =>
 jn (σ := Bool) (fun t138 =>
 jn (σ := Bool) (fun t140 =>
 brB t140
 (K false)
 (J78 (false, ())))
 (fun J139 =>
 brB t138
 (J139 true)
 (J139 ((r20.1 != (if (0 : Int) > r134 then (0 : Int) else r134))))))
 (fun J137 =>
 brB t136
 (J137 true)
 (J137 ((!(r20.2.1 == (decide (r134 ≥ (0 : Int)))))))))
 (fun J135 =>
 brB ((IntKind.wrap .i64 (r18.2.1 + r20.2.2.1)) != (0 : Int))
 (J135 true)
 (J135 ((!(r18.1 == (decide (r134 < (0 : Int)))))))))))))
 (fun J37 =>
 brB t36
 (J37 true)
 (callT Tryz.prog fn_salvorlaw05_Bits #[(.slice a1.a a1.len a1.cap)] .sl fun r141 =>
 callT Tryz.prog fn_slices_Equal_int_int #[(.slice r141.a r141.len r141.cap), (.slice rB.a rB.len rB.cap)] .bool fun r142 =>
 J37 ((!r142)))))
 (fun J35 =>
 brB t34
 (J35 true)
 (ldA (.cons (.int .i64) (.cons .sl .nil)) (⟨bO, 0, none⟩ : Addr) fun x143 =>
 ldA (.cons (.int .i64) (.cons .sl .nil)) (⟨bR, 0, none⟩ : Addr) fun x144 =>
 callT Tryz.prog fn_salvorlaw05_Equal #[(.agg #[(.int .i64 x143.1), (.slice x143.2.1.a x143.2.1.len x143.2.1.cap)]), (.agg #[(.int .i64 x144.1), (.slice x144.2.1.a x144.2.1.len x144.2.1.cap)])] .bool fun r145 =>
 J35 ((!r145)))))
 (fun J33 =>
 brB (r14.1 != r16.1)
 (J33 true)
 (J33 ((r14.2.1 != r16.2.1))))))
 (fun J11 =>
 brB (!r10)
 (J11 true)
 (ldA (.cons (.int .i64) (.cons .sl .nil)) (⟨bO, 0, none⟩ : Addr) fun x146 =>
 ldA (.cons (.int .i64) (.cons .sl .nil)) (⟨bF, 0, none⟩ : Addr) fun x147 =>
 callT Tryz.prog fn_formula_Same #[(.agg #[(.int .i64 x146.1), (.slice x146.2.1.a x146.2.1.len x146.2.1.cap)]), (.agg #[(.int .i64 x147.1), (.slice x147.2.1.a x147.2.1.len x147.2.1.cap)])] .bool fun r148 =>
 J11 ((!r148))))) h

def F_salvorlaw05_tells (a0 : (Int × (Sl × Unit))) (a1 : Sl) (a2 : Int) (K : Bool → HP) : HP :=
 nw #[(.int .i64 a0.1), (.slice a0.2.1.a a0.2.1.len a0.2.1.cap)] ty_formula_Formula fun b0 =>
 ldA (.cons (.int .i64) (.cons .sl .nil)) (⟨b0, 0, none⟩ : Addr) fun x1 =>
 ldA (.cons (.int .i64) (.cons .sl .nil)) (⟨b0, 0, none⟩ : Addr) fun x2 =>
 cj
 (callT Tryz.prog fn_formula_Copy #[(.agg #[(.int .i64 x1.1), (.slice x1.2.1.a x1.2.1.len x1.2.1.cap)])] (.agg (.cons (.int .i64) (.cons .sl .nil))) fun r3 =>
 ckA (⟨b0, 0, none⟩ : Addr) [(.int .i64 x2.1), (.slice x2.2.1.a x2.2.1.len x2.2.1.cap)] <|
 cj
 (callT Tryz.prog fn_salvorlaw05_Theirs #[(.agg #[(.int .i64 x2.1), (.slice x2.2.1.a x2.2.1.len x2.2.1.cap)])] (.agg (.cons (.int .i64) (.cons .sl .nil))) fun r4 =>
 cj
 (callT Tryz.prog fn_salvorlaw05_Bits #[(.slice a1.a a1.len a1.cap)] .sl fun r5 =>
 cj
 (nw #[(.int .i64 (0 : Int)), (.slice none 0 0)] ty_formula_Formula fun b6 =>
 nw #[(.int .i64 (0 : Int)), (.slice none 0 0)] ty_salvorref05_Formula fun b7 =>
 st1 (⟨b6, 0, none⟩ : Addr) (.int .i64 r3.1) <|
 st1 ((⟨b6, 0, none⟩ : Addr).add 1) (.slice r3.2.1.a r3.2.1.len r3.2.1.cap) <|
 st1 (⟨b7, 0, none⟩ : Addr) (.int .i64 r4.1) <|
 st1 ((⟨b7, 0, none⟩ : Addr).add 1) (.slice r4.2.1.a r4.2.1.len r4.2.1.cap) <|
 TlTl b0 b6 b7 r5 a1 a2 K)
 (nw #[(.int .i64 (0 : Int)), (.slice none 0 0)] ty_salvorref05_Formula fun b149 =>
 nw #[(.int .i64 (0 : Int)), (.slice none 0 0)] ty_formula_Formula fun b150 =>
 st1 (⟨b150, 0, none⟩ : Addr) (.int .i64 r3.1) <|
 st1 ((⟨b150, 0, none⟩ : Addr).add 1) (.slice r3.2.1.a r3.2.1.len r3.2.1.cap) <|
 st1 (⟨b149, 0, none⟩ : Addr) (.int .i64 r4.1) <|
 st1 ((⟨b149, 0, none⟩ : Addr).add 1) (.slice r4.2.1.a r4.2.1.len r4.2.1.cap) <|
 TlTl b0 b150 b149 r5 a1 a2 K))
 (cj
 (nw #[(.int .i64 (0 : Int)), (.slice none 0 0)] ty_formula_Formula fun b292 =>
 cj
 (callT Tryz.prog fn_salvorlaw05_Bits #[(.slice a1.a a1.len a1.cap)] .sl fun r293 =>
 nw #[(.int .i64 (0 : Int)), (.slice none 0 0)] ty_salvorref05_Formula fun b294 =>
 st1 (⟨b292, 0, none⟩ : Addr) (.int .i64 r3.1) <|
 st1 ((⟨b292, 0, none⟩ : Addr).add 1) (.slice r3.2.1.a r3.2.1.len r3.2.1.cap) <|
 st1 (⟨b294, 0, none⟩ : Addr) (.int .i64 r4.1) <|
 st1 ((⟨b294, 0, none⟩ : Addr).add 1) (.slice r4.2.1.a r4.2.1.len r4.2.1.cap) <|
 TlTl b0 b292 b294 r293 a1 a2 K)
 (nw #[(.int .i64 (0 : Int)), (.slice none 0 0)] ty_salvorref05_Formula fun b436 =>
 callT Tryz.prog fn_salvorlaw05_Bits #[(.slice a1.a a1.len a1.cap)] .sl fun r437 =>
 st1 (⟨b292, 0, none⟩ : Addr) (.int .i64 r3.1) <|
 st1 ((⟨b292, 0, none⟩ : Addr).add 1) (.slice r3.2.1.a r3.2.1.len r3.2.1.cap) <|
 st1 (⟨b436, 0, none⟩ : Addr) (.int .i64 r4.1) <|
 st1 ((⟨b436, 0, none⟩ : Addr).add 1) (.slice r4.2.1.a r4.2.1.len r4.2.1.cap) <|
 TlTl b0 b292 b436 r437 a1 a2 K))
 (nw #[(.int .i64 (0 : Int)), (.slice none 0 0)] ty_salvorref05_Formula fun b579 =>
 cj
 (callT Tryz.prog fn_salvorlaw05_Bits #[(.slice a1.a a1.len a1.cap)] .sl fun r580 =>
 nw #[(.int .i64 (0 : Int)), (.slice none 0 0)] ty_formula_Formula fun b581 =>
 st1 (⟨b581, 0, none⟩ : Addr) (.int .i64 r3.1) <|
 st1 ((⟨b581, 0, none⟩ : Addr).add 1) (.slice r3.2.1.a r3.2.1.len r3.2.1.cap) <|
 st1 (⟨b579, 0, none⟩ : Addr) (.int .i64 r4.1) <|
 st1 ((⟨b579, 0, none⟩ : Addr).add 1) (.slice r4.2.1.a r4.2.1.len r4.2.1.cap) <|
 TlTl b0 b581 b579 r580 a1 a2 K)
 (nw #[(.int .i64 (0 : Int)), (.slice none 0 0)] ty_formula_Formula fun b723 =>
 callT Tryz.prog fn_salvorlaw05_Bits #[(.slice a1.a a1.len a1.cap)] .sl fun r724 =>
 st1 (⟨b723, 0, none⟩ : Addr) (.int .i64 r3.1) <|
 st1 ((⟨b723, 0, none⟩ : Addr).add 1) (.slice r3.2.1.a r3.2.1.len r3.2.1.cap) <|
 st1 (⟨b579, 0, none⟩ : Addr) (.int .i64 r4.1) <|
 st1 ((⟨b579, 0, none⟩ : Addr).add 1) (.slice r4.2.1.a r4.2.1.len r4.2.1.cap) <|
 TlTl b0 b723 b579 r724 a1 a2 K))))
 (cj
 (nw #[(.int .i64 (0 : Int)), (.slice none 0 0)] ty_formula_Formula fun b866 =>
 cj
 (callT Tryz.prog fn_salvorlaw05_Theirs #[(.agg #[(.int .i64 x2.1), (.slice x2.2.1.a x2.2.1.len x2.2.1.cap)])] (.agg (.cons (.int .i64) (.cons .sl .nil))) fun r867 =>
 cj
 (callT Tryz.prog fn_salvorlaw05_Bits #[(.slice a1.a a1.len a1.cap)] .sl fun r868 =>
 nw #[(.int .i64 (0 : Int)), (.slice none 0 0)] ty_salvorref05_Formula fun b869 =>
 st1 (⟨b866, 0, none⟩ : Addr) (.int .i64 r3.1) <|
 st1 ((⟨b866, 0, none⟩ : Addr).add 1) (.slice r3.2.1.a r3.2.1.len r3.2.1.cap) <|
 st1 (⟨b869, 0, none⟩ : Addr) (.int .i64 r867.1) <|
 st1 ((⟨b869, 0, none⟩ : Addr).add 1) (.slice r867.2.1.a r867.2.1.len r867.2.1.cap) <|
 TlTl b0 b866 b869 r868 a1 a2 K)
 (nw #[(.int .i64 (0 : Int)), (.slice none 0 0)] ty_salvorref05_Formula fun b1011 =>
 callT Tryz.prog fn_salvorlaw05_Bits #[(.slice a1.a a1.len a1.cap)] .sl fun r1012 =>
 st1 (⟨b866, 0, none⟩ : Addr) (.int .i64 r3.1) <|
 st1 ((⟨b866, 0, none⟩ : Addr).add 1) (.slice r3.2.1.a r3.2.1.len r3.2.1.cap) <|
 st1 (⟨b1011, 0, none⟩ : Addr) (.int .i64 r867.1) <|
 st1 ((⟨b1011, 0, none⟩ : Addr).add 1) (.slice r867.2.1.a r867.2.1.len r867.2.1.cap) <|
 TlTl b0 b866 b1011 r1012 a1 a2 K))
 (nw #[(.int .i64 (0 : Int)), (.slice none 0 0)] ty_salvorref05_Formula fun b1154 =>
 callT Tryz.prog fn_salvorlaw05_Theirs #[(.agg #[(.int .i64 x2.1), (.slice x2.2.1.a x2.2.1.len x2.2.1.cap)])] (.agg (.cons (.int .i64) (.cons .sl .nil))) fun r1155 =>
 callT Tryz.prog fn_salvorlaw05_Bits #[(.slice a1.a a1.len a1.cap)] .sl fun r1156 =>
 st1 (⟨b866, 0, none⟩ : Addr) (.int .i64 r3.1) <|
 st1 ((⟨b866, 0, none⟩ : Addr).add 1) (.slice r3.2.1.a r3.2.1.len r3.2.1.cap) <|
 st1 (⟨b1154, 0, none⟩ : Addr) (.int .i64 r1155.1) <|
 st1 ((⟨b1154, 0, none⟩ : Addr).add 1) (.slice r1155.2.1.a r1155.2.1.len r1155.2.1.cap) <|
 TlTl b0 b866 b1154 r1156 a1 a2 K))
 (nw #[(.int .i64 (0 : Int)), (.slice none 0 0)] ty_salvorref05_Formula fun b1298 =>
 cj
 (callT Tryz.prog fn_salvorlaw05_Theirs #[(.agg #[(.int .i64 x2.1), (.slice x2.2.1.a x2.2.1.len x2.2.1.cap)])] (.agg (.cons (.int .i64) (.cons .sl .nil))) fun r1299 =>
 cj
 (callT Tryz.prog fn_salvorlaw05_Bits #[(.slice a1.a a1.len a1.cap)] .sl fun r1300 =>
 nw #[(.int .i64 (0 : Int)), (.slice none 0 0)] ty_formula_Formula fun b1301 =>
 st1 (⟨b1301, 0, none⟩ : Addr) (.int .i64 r3.1) <|
 st1 ((⟨b1301, 0, none⟩ : Addr).add 1) (.slice r3.2.1.a r3.2.1.len r3.2.1.cap) <|
 st1 (⟨b1298, 0, none⟩ : Addr) (.int .i64 r1299.1) <|
 st1 ((⟨b1298, 0, none⟩ : Addr).add 1) (.slice r1299.2.1.a r1299.2.1.len r1299.2.1.cap) <|
 TlTl b0 b1301 b1298 r1300 a1 a2 K)
 (nw #[(.int .i64 (0 : Int)), (.slice none 0 0)] ty_formula_Formula fun b1443 =>
 callT Tryz.prog fn_salvorlaw05_Bits #[(.slice a1.a a1.len a1.cap)] .sl fun r1444 =>
 st1 (⟨b1443, 0, none⟩ : Addr) (.int .i64 r3.1) <|
 st1 ((⟨b1443, 0, none⟩ : Addr).add 1) (.slice r3.2.1.a r3.2.1.len r3.2.1.cap) <|
 st1 (⟨b1298, 0, none⟩ : Addr) (.int .i64 r1299.1) <|
 st1 ((⟨b1298, 0, none⟩ : Addr).add 1) (.slice r1299.2.1.a r1299.2.1.len r1299.2.1.cap) <|
 TlTl b0 b1443 b1298 r1444 a1 a2 K))
 (nw #[(.int .i64 (0 : Int)), (.slice none 0 0)] ty_formula_Formula fun b1586 =>
 callT Tryz.prog fn_salvorlaw05_Theirs #[(.agg #[(.int .i64 x2.1), (.slice x2.2.1.a x2.2.1.len x2.2.1.cap)])] (.agg (.cons (.int .i64) (.cons .sl .nil))) fun r1587 =>
 callT Tryz.prog fn_salvorlaw05_Bits #[(.slice a1.a a1.len a1.cap)] .sl fun r1588 =>
 st1 (⟨b1586, 0, none⟩ : Addr) (.int .i64 r3.1) <|
 st1 ((⟨b1586, 0, none⟩ : Addr).add 1) (.slice r3.2.1.a r3.2.1.len r3.2.1.cap) <|
 st1 (⟨b1298, 0, none⟩ : Addr) (.int .i64 r1587.1) <|
 st1 ((⟨b1298, 0, none⟩ : Addr).add 1) (.slice r1587.2.1.a r1587.2.1.len r1587.2.1.cap) <|
 TlTl b0 b1586 b1298 r1588 a1 a2 K))))
 (cj
 (nw #[(.int .i64 (0 : Int)), (.slice none 0 0)] ty_formula_Formula fun b1730 =>
 cj
 (callT Tryz.prog fn_formula_Copy #[(.agg #[(.int .i64 x1.1), (.slice x1.2.1.a x1.2.1.len x1.2.1.cap)])] (.agg (.cons (.int .i64) (.cons .sl .nil))) fun r1731 =>
 ckA (⟨b0, 0, none⟩ : Addr) [(.int .i64 x2.1), (.slice x2.2.1.a x2.2.1.len x2.2.1.cap)] <|
 cj
 (callT Tryz.prog fn_salvorlaw05_Theirs #[(.agg #[(.int .i64 x2.1), (.slice x2.2.1.a x2.2.1.len x2.2.1.cap)])] (.agg (.cons (.int .i64) (.cons .sl .nil))) fun r1732 =>
 cj
 (callT Tryz.prog fn_salvorlaw05_Bits #[(.slice a1.a a1.len a1.cap)] .sl fun r1733 =>
 nw #[(.int .i64 (0 : Int)), (.slice none 0 0)] ty_salvorref05_Formula fun b1734 =>
 st1 (⟨b1730, 0, none⟩ : Addr) (.int .i64 r1731.1) <|
 st1 ((⟨b1730, 0, none⟩ : Addr).add 1) (.slice r1731.2.1.a r1731.2.1.len r1731.2.1.cap) <|
 st1 (⟨b1734, 0, none⟩ : Addr) (.int .i64 r1732.1) <|
 st1 ((⟨b1734, 0, none⟩ : Addr).add 1) (.slice r1732.2.1.a r1732.2.1.len r1732.2.1.cap) <|
 TlTl b0 b1730 b1734 r1733 a1 a2 K)
 (nw #[(.int .i64 (0 : Int)), (.slice none 0 0)] ty_salvorref05_Formula fun b1876 =>
 callT Tryz.prog fn_salvorlaw05_Bits #[(.slice a1.a a1.len a1.cap)] .sl fun r1877 =>
 st1 (⟨b1730, 0, none⟩ : Addr) (.int .i64 r1731.1) <|
 st1 ((⟨b1730, 0, none⟩ : Addr).add 1) (.slice r1731.2.1.a r1731.2.1.len r1731.2.1.cap) <|
 st1 (⟨b1876, 0, none⟩ : Addr) (.int .i64 r1732.1) <|
 st1 ((⟨b1876, 0, none⟩ : Addr).add 1) (.slice r1732.2.1.a r1732.2.1.len r1732.2.1.cap) <|
 TlTl b0 b1730 b1876 r1877 a1 a2 K))
 (nw #[(.int .i64 (0 : Int)), (.slice none 0 0)] ty_salvorref05_Formula fun b2019 =>
 callT Tryz.prog fn_salvorlaw05_Theirs #[(.agg #[(.int .i64 x2.1), (.slice x2.2.1.a x2.2.1.len x2.2.1.cap)])] (.agg (.cons (.int .i64) (.cons .sl .nil))) fun r2020 =>
 callT Tryz.prog fn_salvorlaw05_Bits #[(.slice a1.a a1.len a1.cap)] .sl fun r2021 =>
 st1 (⟨b1730, 0, none⟩ : Addr) (.int .i64 r1731.1) <|
 st1 ((⟨b1730, 0, none⟩ : Addr).add 1) (.slice r1731.2.1.a r1731.2.1.len r1731.2.1.cap) <|
 st1 (⟨b2019, 0, none⟩ : Addr) (.int .i64 r2020.1) <|
 st1 ((⟨b2019, 0, none⟩ : Addr).add 1) (.slice r2020.2.1.a r2020.2.1.len r2020.2.1.cap) <|
 TlTl b0 b1730 b2019 r2021 a1 a2 K))
 (nw #[(.int .i64 (0 : Int)), (.slice none 0 0)] ty_salvorref05_Formula fun b2163 =>
 callT Tryz.prog fn_formula_Copy #[(.agg #[(.int .i64 x1.1), (.slice x1.2.1.a x1.2.1.len x1.2.1.cap)])] (.agg (.cons (.int .i64) (.cons .sl .nil))) fun r2164 =>
 ckA (⟨b0, 0, none⟩ : Addr) [(.int .i64 x2.1), (.slice x2.2.1.a x2.2.1.len x2.2.1.cap)] <|
 callT Tryz.prog fn_salvorlaw05_Theirs #[(.agg #[(.int .i64 x2.1), (.slice x2.2.1.a x2.2.1.len x2.2.1.cap)])] (.agg (.cons (.int .i64) (.cons .sl .nil))) fun r2165 =>
 callT Tryz.prog fn_salvorlaw05_Bits #[(.slice a1.a a1.len a1.cap)] .sl fun r2166 =>
 st1 (⟨b1730, 0, none⟩ : Addr) (.int .i64 r2164.1) <|
 st1 ((⟨b1730, 0, none⟩ : Addr).add 1) (.slice r2164.2.1.a r2164.2.1.len r2164.2.1.cap) <|
 st1 (⟨b2163, 0, none⟩ : Addr) (.int .i64 r2165.1) <|
 st1 ((⟨b2163, 0, none⟩ : Addr).add 1) (.slice r2165.2.1.a r2165.2.1.len r2165.2.1.cap) <|
 TlTl b0 b1730 b2163 r2166 a1 a2 K))
 (nw #[(.int .i64 (0 : Int)), (.slice none 0 0)] ty_salvorref05_Formula fun b2308 =>
 cj
 (callT Tryz.prog fn_formula_Copy #[(.agg #[(.int .i64 x1.1), (.slice x1.2.1.a x1.2.1.len x1.2.1.cap)])] (.agg (.cons (.int .i64) (.cons .sl .nil))) fun r2309 =>
 ckA (⟨b0, 0, none⟩ : Addr) [(.int .i64 x2.1), (.slice x2.2.1.a x2.2.1.len x2.2.1.cap)] <|
 cj
 (callT Tryz.prog fn_salvorlaw05_Theirs #[(.agg #[(.int .i64 x2.1), (.slice x2.2.1.a x2.2.1.len x2.2.1.cap)])] (.agg (.cons (.int .i64) (.cons .sl .nil))) fun r2310 =>
 cj
 (callT Tryz.prog fn_salvorlaw05_Bits #[(.slice a1.a a1.len a1.cap)] .sl fun r2311 =>
 nw #[(.int .i64 (0 : Int)), (.slice none 0 0)] ty_formula_Formula fun b2312 =>
 st1 (⟨b2312, 0, none⟩ : Addr) (.int .i64 r2309.1) <|
 st1 ((⟨b2312, 0, none⟩ : Addr).add 1) (.slice r2309.2.1.a r2309.2.1.len r2309.2.1.cap) <|
 st1 (⟨b2308, 0, none⟩ : Addr) (.int .i64 r2310.1) <|
 st1 ((⟨b2308, 0, none⟩ : Addr).add 1) (.slice r2310.2.1.a r2310.2.1.len r2310.2.1.cap) <|
 TlTl b0 b2312 b2308 r2311 a1 a2 K)
 (nw #[(.int .i64 (0 : Int)), (.slice none 0 0)] ty_formula_Formula fun b2454 =>
 callT Tryz.prog fn_salvorlaw05_Bits #[(.slice a1.a a1.len a1.cap)] .sl fun r2455 =>
 st1 (⟨b2454, 0, none⟩ : Addr) (.int .i64 r2309.1) <|
 st1 ((⟨b2454, 0, none⟩ : Addr).add 1) (.slice r2309.2.1.a r2309.2.1.len r2309.2.1.cap) <|
 st1 (⟨b2308, 0, none⟩ : Addr) (.int .i64 r2310.1) <|
 st1 ((⟨b2308, 0, none⟩ : Addr).add 1) (.slice r2310.2.1.a r2310.2.1.len r2310.2.1.cap) <|
 TlTl b0 b2454 b2308 r2455 a1 a2 K))
 (nw #[(.int .i64 (0 : Int)), (.slice none 0 0)] ty_formula_Formula fun b2597 =>
 callT Tryz.prog fn_salvorlaw05_Theirs #[(.agg #[(.int .i64 x2.1), (.slice x2.2.1.a x2.2.1.len x2.2.1.cap)])] (.agg (.cons (.int .i64) (.cons .sl .nil))) fun r2598 =>
 callT Tryz.prog fn_salvorlaw05_Bits #[(.slice a1.a a1.len a1.cap)] .sl fun r2599 =>
 st1 (⟨b2597, 0, none⟩ : Addr) (.int .i64 r2309.1) <|
 st1 ((⟨b2597, 0, none⟩ : Addr).add 1) (.slice r2309.2.1.a r2309.2.1.len r2309.2.1.cap) <|
 st1 (⟨b2308, 0, none⟩ : Addr) (.int .i64 r2598.1) <|
 st1 ((⟨b2308, 0, none⟩ : Addr).add 1) (.slice r2598.2.1.a r2598.2.1.len r2598.2.1.cap) <|
 TlTl b0 b2597 b2308 r2599 a1 a2 K))
 (nw #[(.int .i64 (0 : Int)), (.slice none 0 0)] ty_formula_Formula fun b2741 =>
 callT Tryz.prog fn_formula_Copy #[(.agg #[(.int .i64 x1.1), (.slice x1.2.1.a x1.2.1.len x1.2.1.cap)])] (.agg (.cons (.int .i64) (.cons .sl .nil))) fun r2742 =>
 ckA (⟨b0, 0, none⟩ : Addr) [(.int .i64 x2.1), (.slice x2.2.1.a x2.2.1.len x2.2.1.cap)] <|
 callT Tryz.prog fn_salvorlaw05_Theirs #[(.agg #[(.int .i64 x2.1), (.slice x2.2.1.a x2.2.1.len x2.2.1.cap)])] (.agg (.cons (.int .i64) (.cons .sl .nil))) fun r2743 =>
 callT Tryz.prog fn_salvorlaw05_Bits #[(.slice a1.a a1.len a1.cap)] .sl fun r2744 =>
 st1 (⟨b2741, 0, none⟩ : Addr) (.int .i64 r2742.1) <|
 st1 ((⟨b2741, 0, none⟩ : Addr).add 1) (.slice r2742.2.1.a r2742.2.1.len r2742.2.1.cap) <|
 st1 (⟨b2308, 0, none⟩ : Addr) (.int .i64 r2743.1) <|
 st1 ((⟨b2308, 0, none⟩ : Addr).add 1) (.slice r2743.2.1.a r2743.2.1.len r2743.2.1.cap) <|
 TlTl b0 b2741 b2308 r2744 a1 a2 K)))
set_option maxRecDepth 100000 in
theorem E_salvorlaw05_tells (a0 : (Int × (Sl × Unit))) (a1 : Sl) (a2 : Int) (K : Bool → HP) (h : Heap) : fnVC Tryz.prog [(1000000, .bool)] 338 Tryz.f11 [(.agg #[(.int .i64 a0.1), (.slice a0.2.1.a a0.2.1.len a0.2.1.cap)]), (.slice a1.a a1.len a1.cap), (.int .i64 a2)] .bool K h = F_salvorlaw05_tells a0 a1 a2 K h := by kernel_rfl
set_option maxRecDepth 100000 in
theorem S_salvorlaw05_tells{h : Heap} {a0 : (Int × (Sl × Unit))} {a1 : Sl} {a2 : Int} (K : Bool → HP) (hF : F_salvorlaw05_tells a0 a1 a2 K h) : CallsH Tryz.prog fn_salvorlaw05_tells #[(.agg #[(.int .i64 a0.1), (.slice a0.2.1.a a0.2.1.len a0.2.1.cap)]), (.slice a1.a a1.len a1.cap), (.int .i64 a2)] h fun v h' => ∃ x : Bool, v = Ty.enc .bool x ∧ K x h' :=
  callsH_of_fn (P := Tryz.prog) (fn := Tryz.f11) (τ := .bool) follows Tryz.func11 (by kernel_rfl) (by kernel_rfl) Tryz.call11 (Eq.mpr (E_salvorlaw05_tells a0 a1 a2 K h) hF)

end Go.Proofs.S
