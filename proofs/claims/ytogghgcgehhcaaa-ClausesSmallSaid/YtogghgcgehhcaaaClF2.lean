/- The functions of the seat, each as a predicate over its values, printed by a program of ours, and that each is its text's. -/
import Derived.Test.YtogghgcgehhcaaaSxH
import Derived.KernelRfl
import Derived.Test.YtogghgcgehhcaaaProg
import Derived.Test.YtogghgcgehhcaaaClF0
set_option linter.unusedVariables false
namespace Go.Proofs.S
open Go Go.Sx Go.Proofs
/-- salvor/salvorlaw02.ClausesWithin -/
def F_salvorlaw02_ClausesWithin (a0 : Sl) (a1 : Sl) (a2 : Sl) (K : Bool → HP) : HP :=
 callT Try.prog fn_salvorlaw02_Made #[(.slice a0.a a0.len a0.cap)] .sl fun r0 =>
 callT Try.prog fn_salvorlaw02_Made #[(.slice a1.a a1.len a1.cap)] .sl fun r1 =>
 callT Try.prog fn_salvorlaw02_Made #[(.slice a2.a a2.len a2.cap)] .sl fun r2 =>
 callT Try.prog fn_clauses_Union #[(.slice r0.a r0.len r0.cap), (.slice r1.a r1.len r1.cap)] (.tup (.cons .sl (.cons (.int .i64) .nil))) fun r3 =>
 callT Try.prog fn_clauses_Within #[(.slice r0.a r0.len r0.cap), (.slice r1.a r1.len r1.cap)] .bool fun r4 =>
 brB (r3.2.1 != (0 : Int))
 (K false)
 (callT Try.prog fn_clauses_Within #[(.slice r0.a r0.len r0.cap), (.slice r0.a r0.len r0.cap)] .bool fun r5 =>
 brB (!r5)
 (K false)
 (callT Try.prog fn_clauses_Within #[(.slice r0.a r0.len r0.cap), (.slice r3.1.a r3.1.len r3.1.cap)] .bool fun r6 =>
 brB (!r6)
 (K false)
 (callT Try.prog fn_clauses_Within #[(.slice r1.a r1.len r1.cap), (.slice r3.1.a r3.1.len r3.1.cap)] .bool fun r7 =>
 brB (!r7)
 (K false)
 (brB r4
 (callT Try.prog fn_clauses_Within #[(.slice r1.a r1.len r1.cap), (.slice r2.a r2.len r2.cap)] .bool fun r8 =>
 brB r8
 (callT Try.prog fn_clauses_Within #[(.slice r0.a r0.len r0.cap), (.slice r2.a r2.len r2.cap)] .bool fun r9 =>
 brB (!r9)
 (K false)
 (brB r4
 (callT Try.prog fn_clauses_Within #[(.slice r1.a r1.len r1.cap), (.slice r0.a r0.len r0.cap)] .bool fun r10 =>
 callT Try.prog fn_clauses_Same #[(.slice r0.a r0.len r0.cap), (.slice r1.a r1.len r1.cap)] .bool fun r11 =>
 brB (!(r10 == r11))
 (K false)
 (callT Try.prog fn_clauses_Same #[(.slice r3.1.a r3.1.len r3.1.cap), (.slice r1.a r1.len r1.cap)] .bool fun r12 =>
 brB (!(r4 == r12))
 (K false)
 (callT Try.prog fn_clauses_Within #[(.slice r0.a r0.len r0.cap), (.slice r2.a r2.len r2.cap)] .bool fun r13 =>
 brB r13
 (callT Try.prog fn_clauses_Within #[(.slice r1.a r1.len r1.cap), (.slice r2.a r2.len r2.cap)] .bool fun r14 =>
 brB r14
 (callT Try.prog fn_clauses_Within #[(.slice r3.1.a r3.1.len r3.1.cap), (.slice r2.a r2.len r2.cap)] .bool fun r15 =>
 brB (!r15)
 (K false)
 (lfp (σ := (Int × (Bool × Unit))) (fun X16 s17 => /-   -/
 brB (decide (s17.1 < (256 : Int)))
 (callT Try.prog fn_salvorlaw02_Model #[(.int .u8 (IntKind.wrap .u8 s17.1))] .sl fun r18 =>
 callT Try.prog fn_clauses_Holds #[(.slice r0.a r0.len r0.cap), (.slice r18.a r18.len r18.cap)] .bool fun r19 =>
 callT Try.prog fn_clauses_Holds #[(.slice r1.a r1.len r1.cap), (.slice r18.a r18.len r18.cap)] .bool fun r20 =>
 brB r4
 (brB r19
 (brB (!r20)
 (K false)
 (callT Try.prog fn_clauses_Holds #[(.slice r3.1.a r3.1.len r3.1.cap), (.slice r18.a r18.len r18.cap)] .bool fun r21 =>
 brB r19
 (brB (!(r21 == true))
 (K false)
 (X16 ((IntKind.wrap .i64 (s17.1 + (1 : Int))), s17.2.1, ())))
 (brB (!(r21 == r20))
 (K false)
 (X16 ((IntKind.wrap .i64 (s17.1 + (1 : Int))), s17.2.1, ())))))
 (callT Try.prog fn_clauses_Holds #[(.slice r3.1.a r3.1.len r3.1.cap), (.slice r18.a r18.len r18.cap)] .bool fun r22 =>
 brB r19
 (brB (!(r22 == true))
 (K false)
 (X16 ((IntKind.wrap .i64 (s17.1 + (1 : Int))), s17.2.1, ())))
 (brB (!(r22 == r20))
 (K false)
 (X16 ((IntKind.wrap .i64 (s17.1 + (1 : Int))), s17.2.1, ())))))
 (callT Try.prog fn_clauses_Holds #[(.slice r3.1.a r3.1.len r3.1.cap), (.slice r18.a r18.len r18.cap)] .bool fun r23 =>
 brB r19
 (brB (!(r23 == true))
 (K false)
 (X16 ((IntKind.wrap .i64 (s17.1 + (1 : Int))), s17.2.1, ())))
 (brB (!(r23 == r20))
 (K false)
 (X16 ((IntKind.wrap .i64 (s17.1 + (1 : Int))), s17.2.1, ())))))
 (callT Try.prog fn_salvorlaw02_awake #[] .bool fun r24 =>
 K r24))
 ((0 : Int), false, ())))
 (lfp (σ := (Int × (Bool × Unit))) (fun X25 s26 => /-   -/
 brB (decide (s26.1 < (256 : Int)))
 (callT Try.prog fn_salvorlaw02_Model #[(.int .u8 (IntKind.wrap .u8 s26.1))] .sl fun r27 =>
 callT Try.prog fn_clauses_Holds #[(.slice r0.a r0.len r0.cap), (.slice r27.a r27.len r27.cap)] .bool fun r28 =>
 callT Try.prog fn_clauses_Holds #[(.slice r1.a r1.len r1.cap), (.slice r27.a r27.len r27.cap)] .bool fun r29 =>
 brB r4
 (brB r28
 (brB (!r29)
 (K false)
 (callT Try.prog fn_clauses_Holds #[(.slice r3.1.a r3.1.len r3.1.cap), (.slice r27.a r27.len r27.cap)] .bool fun r30 =>
 brB r28
 (brB (!(r30 == true))
 (K false)
 (X25 ((IntKind.wrap .i64 (s26.1 + (1 : Int))), s26.2.1, ())))
 (brB (!(r30 == r29))
 (K false)
 (X25 ((IntKind.wrap .i64 (s26.1 + (1 : Int))), s26.2.1, ())))))
 (callT Try.prog fn_clauses_Holds #[(.slice r3.1.a r3.1.len r3.1.cap), (.slice r27.a r27.len r27.cap)] .bool fun r31 =>
 brB r28
 (brB (!(r31 == true))
 (K false)
 (X25 ((IntKind.wrap .i64 (s26.1 + (1 : Int))), s26.2.1, ())))
 (brB (!(r31 == r29))
 (K false)
 (X25 ((IntKind.wrap .i64 (s26.1 + (1 : Int))), s26.2.1, ())))))
 (callT Try.prog fn_clauses_Holds #[(.slice r3.1.a r3.1.len r3.1.cap), (.slice r27.a r27.len r27.cap)] .bool fun r32 =>
 brB r28
 (brB (!(r32 == true))
 (K false)
 (X25 ((IntKind.wrap .i64 (s26.1 + (1 : Int))), s26.2.1, ())))
 (brB (!(r32 == r29))
 (K false)
 (X25 ((IntKind.wrap .i64 (s26.1 + (1 : Int))), s26.2.1, ())))))
 (callT Try.prog fn_salvorlaw02_awake #[] .bool fun r33 =>
 K r33))
 ((0 : Int), false, ())))
 (lfp (σ := (Int × (Bool × Unit))) (fun X34 s35 => /-   -/
 brB (decide (s35.1 < (256 : Int)))
 (callT Try.prog fn_salvorlaw02_Model #[(.int .u8 (IntKind.wrap .u8 s35.1))] .sl fun r36 =>
 callT Try.prog fn_clauses_Holds #[(.slice r0.a r0.len r0.cap), (.slice r36.a r36.len r36.cap)] .bool fun r37 =>
 callT Try.prog fn_clauses_Holds #[(.slice r1.a r1.len r1.cap), (.slice r36.a r36.len r36.cap)] .bool fun r38 =>
 brB r4
 (brB r37
 (brB (!r38)
 (K false)
 (callT Try.prog fn_clauses_Holds #[(.slice r3.1.a r3.1.len r3.1.cap), (.slice r36.a r36.len r36.cap)] .bool fun r39 =>
 brB r37
 (brB (!(r39 == true))
 (K false)
 (X34 ((IntKind.wrap .i64 (s35.1 + (1 : Int))), s35.2.1, ())))
 (brB (!(r39 == r38))
 (K false)
 (X34 ((IntKind.wrap .i64 (s35.1 + (1 : Int))), s35.2.1, ())))))
 (callT Try.prog fn_clauses_Holds #[(.slice r3.1.a r3.1.len r3.1.cap), (.slice r36.a r36.len r36.cap)] .bool fun r40 =>
 brB r37
 (brB (!(r40 == true))
 (K false)
 (X34 ((IntKind.wrap .i64 (s35.1 + (1 : Int))), s35.2.1, ())))
 (brB (!(r40 == r38))
 (K false)
 (X34 ((IntKind.wrap .i64 (s35.1 + (1 : Int))), s35.2.1, ())))))
 (callT Try.prog fn_clauses_Holds #[(.slice r3.1.a r3.1.len r3.1.cap), (.slice r36.a r36.len r36.cap)] .bool fun r41 =>
 brB r37
 (brB (!(r41 == true))
 (K false)
 (X34 ((IntKind.wrap .i64 (s35.1 + (1 : Int))), s35.2.1, ())))
 (brB (!(r41 == r38))
 (K false)
 (X34 ((IntKind.wrap .i64 (s35.1 + (1 : Int))), s35.2.1, ())))))
 (callT Try.prog fn_salvorlaw02_awake #[] .bool fun r42 =>
 K r42))
 ((0 : Int), false, ())))))
 (callT Try.prog fn_clauses_Same #[(.slice r0.a r0.len r0.cap), (.slice r1.a r1.len r1.cap)] .bool fun r43 =>
 brB (!(false == r43))
 (K false)
 (callT Try.prog fn_clauses_Same #[(.slice r3.1.a r3.1.len r3.1.cap), (.slice r1.a r1.len r1.cap)] .bool fun r44 =>
 brB (!(r4 == r44))
 (K false)
 (callT Try.prog fn_clauses_Within #[(.slice r0.a r0.len r0.cap), (.slice r2.a r2.len r2.cap)] .bool fun r45 =>
 brB r45
 (callT Try.prog fn_clauses_Within #[(.slice r1.a r1.len r1.cap), (.slice r2.a r2.len r2.cap)] .bool fun r46 =>
 brB r46
 (callT Try.prog fn_clauses_Within #[(.slice r3.1.a r3.1.len r3.1.cap), (.slice r2.a r2.len r2.cap)] .bool fun r47 =>
 brB (!r47)
 (K false)
 (lfp (σ := (Int × (Bool × Unit))) (fun X48 s49 => /-   -/
 brB (decide (s49.1 < (256 : Int)))
 (callT Try.prog fn_salvorlaw02_Model #[(.int .u8 (IntKind.wrap .u8 s49.1))] .sl fun r50 =>
 callT Try.prog fn_clauses_Holds #[(.slice r0.a r0.len r0.cap), (.slice r50.a r50.len r50.cap)] .bool fun r51 =>
 callT Try.prog fn_clauses_Holds #[(.slice r1.a r1.len r1.cap), (.slice r50.a r50.len r50.cap)] .bool fun r52 =>
 brB r4
 (brB r51
 (brB (!r52)
 (K false)
 (callT Try.prog fn_clauses_Holds #[(.slice r3.1.a r3.1.len r3.1.cap), (.slice r50.a r50.len r50.cap)] .bool fun r53 =>
 brB r51
 (brB (!(r53 == true))
 (K false)
 (X48 ((IntKind.wrap .i64 (s49.1 + (1 : Int))), s49.2.1, ())))
 (brB (!(r53 == r52))
 (K false)
 (X48 ((IntKind.wrap .i64 (s49.1 + (1 : Int))), s49.2.1, ())))))
 (callT Try.prog fn_clauses_Holds #[(.slice r3.1.a r3.1.len r3.1.cap), (.slice r50.a r50.len r50.cap)] .bool fun r54 =>
 brB r51
 (brB (!(r54 == true))
 (K false)
 (X48 ((IntKind.wrap .i64 (s49.1 + (1 : Int))), s49.2.1, ())))
 (brB (!(r54 == r52))
 (K false)
 (X48 ((IntKind.wrap .i64 (s49.1 + (1 : Int))), s49.2.1, ())))))
 (callT Try.prog fn_clauses_Holds #[(.slice r3.1.a r3.1.len r3.1.cap), (.slice r50.a r50.len r50.cap)] .bool fun r55 =>
 brB r51
 (brB (!(r55 == true))
 (K false)
 (X48 ((IntKind.wrap .i64 (s49.1 + (1 : Int))), s49.2.1, ())))
 (brB (!(r55 == r52))
 (K false)
 (X48 ((IntKind.wrap .i64 (s49.1 + (1 : Int))), s49.2.1, ())))))
 (callT Try.prog fn_salvorlaw02_awake #[] .bool fun r56 =>
 K r56))
 ((0 : Int), false, ())))
 (lfp (σ := (Int × (Bool × Unit))) (fun X57 s58 => /-   -/
 brB (decide (s58.1 < (256 : Int)))
 (callT Try.prog fn_salvorlaw02_Model #[(.int .u8 (IntKind.wrap .u8 s58.1))] .sl fun r59 =>
 callT Try.prog fn_clauses_Holds #[(.slice r0.a r0.len r0.cap), (.slice r59.a r59.len r59.cap)] .bool fun r60 =>
 callT Try.prog fn_clauses_Holds #[(.slice r1.a r1.len r1.cap), (.slice r59.a r59.len r59.cap)] .bool fun r61 =>
 brB r4
 (brB r60
 (brB (!r61)
 (K false)
 (callT Try.prog fn_clauses_Holds #[(.slice r3.1.a r3.1.len r3.1.cap), (.slice r59.a r59.len r59.cap)] .bool fun r62 =>
 brB r60
 (brB (!(r62 == true))
 (K false)
 (X57 ((IntKind.wrap .i64 (s58.1 + (1 : Int))), s58.2.1, ())))
 (brB (!(r62 == r61))
 (K false)
 (X57 ((IntKind.wrap .i64 (s58.1 + (1 : Int))), s58.2.1, ())))))
 (callT Try.prog fn_clauses_Holds #[(.slice r3.1.a r3.1.len r3.1.cap), (.slice r59.a r59.len r59.cap)] .bool fun r63 =>
 brB r60
 (brB (!(r63 == true))
 (K false)
 (X57 ((IntKind.wrap .i64 (s58.1 + (1 : Int))), s58.2.1, ())))
 (brB (!(r63 == r61))
 (K false)
 (X57 ((IntKind.wrap .i64 (s58.1 + (1 : Int))), s58.2.1, ())))))
 (callT Try.prog fn_clauses_Holds #[(.slice r3.1.a r3.1.len r3.1.cap), (.slice r59.a r59.len r59.cap)] .bool fun r64 =>
 brB r60
 (brB (!(r64 == true))
 (K false)
 (X57 ((IntKind.wrap .i64 (s58.1 + (1 : Int))), s58.2.1, ())))
 (brB (!(r64 == r61))
 (K false)
 (X57 ((IntKind.wrap .i64 (s58.1 + (1 : Int))), s58.2.1, ())))))
 (callT Try.prog fn_salvorlaw02_awake #[] .bool fun r65 =>
 K r65))
 ((0 : Int), false, ())))
 (lfp (σ := (Int × (Bool × Unit))) (fun X66 s67 => /-   -/
 brB (decide (s67.1 < (256 : Int)))
 (callT Try.prog fn_salvorlaw02_Model #[(.int .u8 (IntKind.wrap .u8 s67.1))] .sl fun r68 =>
 callT Try.prog fn_clauses_Holds #[(.slice r0.a r0.len r0.cap), (.slice r68.a r68.len r68.cap)] .bool fun r69 =>
 callT Try.prog fn_clauses_Holds #[(.slice r1.a r1.len r1.cap), (.slice r68.a r68.len r68.cap)] .bool fun r70 =>
 brB r4
 (brB r69
 (brB (!r70)
 (K false)
 (callT Try.prog fn_clauses_Holds #[(.slice r3.1.a r3.1.len r3.1.cap), (.slice r68.a r68.len r68.cap)] .bool fun r71 =>
 brB r69
 (brB (!(r71 == true))
 (K false)
 (X66 ((IntKind.wrap .i64 (s67.1 + (1 : Int))), s67.2.1, ())))
 (brB (!(r71 == r70))
 (K false)
 (X66 ((IntKind.wrap .i64 (s67.1 + (1 : Int))), s67.2.1, ())))))
 (callT Try.prog fn_clauses_Holds #[(.slice r3.1.a r3.1.len r3.1.cap), (.slice r68.a r68.len r68.cap)] .bool fun r72 =>
 brB r69
 (brB (!(r72 == true))
 (K false)
 (X66 ((IntKind.wrap .i64 (s67.1 + (1 : Int))), s67.2.1, ())))
 (brB (!(r72 == r70))
 (K false)
 (X66 ((IntKind.wrap .i64 (s67.1 + (1 : Int))), s67.2.1, ())))))
 (callT Try.prog fn_clauses_Holds #[(.slice r3.1.a r3.1.len r3.1.cap), (.slice r68.a r68.len r68.cap)] .bool fun r73 =>
 brB r69
 (brB (!(r73 == true))
 (K false)
 (X66 ((IntKind.wrap .i64 (s67.1 + (1 : Int))), s67.2.1, ())))
 (brB (!(r73 == r70))
 (K false)
 (X66 ((IntKind.wrap .i64 (s67.1 + (1 : Int))), s67.2.1, ())))))
 (callT Try.prog fn_salvorlaw02_awake #[] .bool fun r74 =>
 K r74))
 ((0 : Int), false, ())))))))
 (brB r4
 (callT Try.prog fn_clauses_Within #[(.slice r1.a r1.len r1.cap), (.slice r0.a r0.len r0.cap)] .bool fun r75 =>
 callT Try.prog fn_clauses_Same #[(.slice r0.a r0.len r0.cap), (.slice r1.a r1.len r1.cap)] .bool fun r76 =>
 brB (!(r75 == r76))
 (K false)
 (callT Try.prog fn_clauses_Same #[(.slice r3.1.a r3.1.len r3.1.cap), (.slice r1.a r1.len r1.cap)] .bool fun r77 =>
 brB (!(r4 == r77))
 (K false)
 (callT Try.prog fn_clauses_Within #[(.slice r0.a r0.len r0.cap), (.slice r2.a r2.len r2.cap)] .bool fun r78 =>
 brB r78
 (callT Try.prog fn_clauses_Within #[(.slice r1.a r1.len r1.cap), (.slice r2.a r2.len r2.cap)] .bool fun r79 =>
 brB r79
 (callT Try.prog fn_clauses_Within #[(.slice r3.1.a r3.1.len r3.1.cap), (.slice r2.a r2.len r2.cap)] .bool fun r80 =>
 brB (!r80)
 (K false)
 (lfp (σ := (Int × (Bool × Unit))) (fun X81 s82 => /-   -/
 brB (decide (s82.1 < (256 : Int)))
 (callT Try.prog fn_salvorlaw02_Model #[(.int .u8 (IntKind.wrap .u8 s82.1))] .sl fun r83 =>
 callT Try.prog fn_clauses_Holds #[(.slice r0.a r0.len r0.cap), (.slice r83.a r83.len r83.cap)] .bool fun r84 =>
 callT Try.prog fn_clauses_Holds #[(.slice r1.a r1.len r1.cap), (.slice r83.a r83.len r83.cap)] .bool fun r85 =>
 brB r4
 (brB r84
 (brB (!r85)
 (K false)
 (callT Try.prog fn_clauses_Holds #[(.slice r3.1.a r3.1.len r3.1.cap), (.slice r83.a r83.len r83.cap)] .bool fun r86 =>
 brB r84
 (brB (!(r86 == true))
 (K false)
 (X81 ((IntKind.wrap .i64 (s82.1 + (1 : Int))), s82.2.1, ())))
 (brB (!(r86 == r85))
 (K false)
 (X81 ((IntKind.wrap .i64 (s82.1 + (1 : Int))), s82.2.1, ())))))
 (callT Try.prog fn_clauses_Holds #[(.slice r3.1.a r3.1.len r3.1.cap), (.slice r83.a r83.len r83.cap)] .bool fun r87 =>
 brB r84
 (brB (!(r87 == true))
 (K false)
 (X81 ((IntKind.wrap .i64 (s82.1 + (1 : Int))), s82.2.1, ())))
 (brB (!(r87 == r85))
 (K false)
 (X81 ((IntKind.wrap .i64 (s82.1 + (1 : Int))), s82.2.1, ())))))
 (callT Try.prog fn_clauses_Holds #[(.slice r3.1.a r3.1.len r3.1.cap), (.slice r83.a r83.len r83.cap)] .bool fun r88 =>
 brB r84
 (brB (!(r88 == true))
 (K false)
 (X81 ((IntKind.wrap .i64 (s82.1 + (1 : Int))), s82.2.1, ())))
 (brB (!(r88 == r85))
 (K false)
 (X81 ((IntKind.wrap .i64 (s82.1 + (1 : Int))), s82.2.1, ())))))
 (callT Try.prog fn_salvorlaw02_awake #[] .bool fun r89 =>
 K r89))
 ((0 : Int), false, ())))
 (lfp (σ := (Int × (Bool × Unit))) (fun X90 s91 => /-   -/
 brB (decide (s91.1 < (256 : Int)))
 (callT Try.prog fn_salvorlaw02_Model #[(.int .u8 (IntKind.wrap .u8 s91.1))] .sl fun r92 =>
 callT Try.prog fn_clauses_Holds #[(.slice r0.a r0.len r0.cap), (.slice r92.a r92.len r92.cap)] .bool fun r93 =>
 callT Try.prog fn_clauses_Holds #[(.slice r1.a r1.len r1.cap), (.slice r92.a r92.len r92.cap)] .bool fun r94 =>
 brB r4
 (brB r93
 (brB (!r94)
 (K false)
 (callT Try.prog fn_clauses_Holds #[(.slice r3.1.a r3.1.len r3.1.cap), (.slice r92.a r92.len r92.cap)] .bool fun r95 =>
 brB r93
 (brB (!(r95 == true))
 (K false)
 (X90 ((IntKind.wrap .i64 (s91.1 + (1 : Int))), s91.2.1, ())))
 (brB (!(r95 == r94))
 (K false)
 (X90 ((IntKind.wrap .i64 (s91.1 + (1 : Int))), s91.2.1, ())))))
 (callT Try.prog fn_clauses_Holds #[(.slice r3.1.a r3.1.len r3.1.cap), (.slice r92.a r92.len r92.cap)] .bool fun r96 =>
 brB r93
 (brB (!(r96 == true))
 (K false)
 (X90 ((IntKind.wrap .i64 (s91.1 + (1 : Int))), s91.2.1, ())))
 (brB (!(r96 == r94))
 (K false)
 (X90 ((IntKind.wrap .i64 (s91.1 + (1 : Int))), s91.2.1, ())))))
 (callT Try.prog fn_clauses_Holds #[(.slice r3.1.a r3.1.len r3.1.cap), (.slice r92.a r92.len r92.cap)] .bool fun r97 =>
 brB r93
 (brB (!(r97 == true))
 (K false)
 (X90 ((IntKind.wrap .i64 (s91.1 + (1 : Int))), s91.2.1, ())))
 (brB (!(r97 == r94))
 (K false)
 (X90 ((IntKind.wrap .i64 (s91.1 + (1 : Int))), s91.2.1, ())))))
 (callT Try.prog fn_salvorlaw02_awake #[] .bool fun r98 =>
 K r98))
 ((0 : Int), false, ())))
 (lfp (σ := (Int × (Bool × Unit))) (fun X99 s100 => /-   -/
 brB (decide (s100.1 < (256 : Int)))
 (callT Try.prog fn_salvorlaw02_Model #[(.int .u8 (IntKind.wrap .u8 s100.1))] .sl fun r101 =>
 callT Try.prog fn_clauses_Holds #[(.slice r0.a r0.len r0.cap), (.slice r101.a r101.len r101.cap)] .bool fun r102 =>
 callT Try.prog fn_clauses_Holds #[(.slice r1.a r1.len r1.cap), (.slice r101.a r101.len r101.cap)] .bool fun r103 =>
 brB r4
 (brB r102
 (brB (!r103)
 (K false)
 (callT Try.prog fn_clauses_Holds #[(.slice r3.1.a r3.1.len r3.1.cap), (.slice r101.a r101.len r101.cap)] .bool fun r104 =>
 brB r102
 (brB (!(r104 == true))
 (K false)
 (X99 ((IntKind.wrap .i64 (s100.1 + (1 : Int))), s100.2.1, ())))
 (brB (!(r104 == r103))
 (K false)
 (X99 ((IntKind.wrap .i64 (s100.1 + (1 : Int))), s100.2.1, ())))))
 (callT Try.prog fn_clauses_Holds #[(.slice r3.1.a r3.1.len r3.1.cap), (.slice r101.a r101.len r101.cap)] .bool fun r105 =>
 brB r102
 (brB (!(r105 == true))
 (K false)
 (X99 ((IntKind.wrap .i64 (s100.1 + (1 : Int))), s100.2.1, ())))
 (brB (!(r105 == r103))
 (K false)
 (X99 ((IntKind.wrap .i64 (s100.1 + (1 : Int))), s100.2.1, ())))))
 (callT Try.prog fn_clauses_Holds #[(.slice r3.1.a r3.1.len r3.1.cap), (.slice r101.a r101.len r101.cap)] .bool fun r106 =>
 brB r102
 (brB (!(r106 == true))
 (K false)
 (X99 ((IntKind.wrap .i64 (s100.1 + (1 : Int))), s100.2.1, ())))
 (brB (!(r106 == r103))
 (K false)
 (X99 ((IntKind.wrap .i64 (s100.1 + (1 : Int))), s100.2.1, ())))))
 (callT Try.prog fn_salvorlaw02_awake #[] .bool fun r107 =>
 K r107))
 ((0 : Int), false, ())))))
 (callT Try.prog fn_clauses_Same #[(.slice r0.a r0.len r0.cap), (.slice r1.a r1.len r1.cap)] .bool fun r108 =>
 brB (!(false == r108))
 (K false)
 (callT Try.prog fn_clauses_Same #[(.slice r3.1.a r3.1.len r3.1.cap), (.slice r1.a r1.len r1.cap)] .bool fun r109 =>
 brB (!(r4 == r109))
 (K false)
 (callT Try.prog fn_clauses_Within #[(.slice r0.a r0.len r0.cap), (.slice r2.a r2.len r2.cap)] .bool fun r110 =>
 brB r110
 (callT Try.prog fn_clauses_Within #[(.slice r1.a r1.len r1.cap), (.slice r2.a r2.len r2.cap)] .bool fun r111 =>
 brB r111
 (callT Try.prog fn_clauses_Within #[(.slice r3.1.a r3.1.len r3.1.cap), (.slice r2.a r2.len r2.cap)] .bool fun r112 =>
 brB (!r112)
 (K false)
 (lfp (σ := (Int × (Bool × Unit))) (fun X113 s114 => /-   -/
 brB (decide (s114.1 < (256 : Int)))
 (callT Try.prog fn_salvorlaw02_Model #[(.int .u8 (IntKind.wrap .u8 s114.1))] .sl fun r115 =>
 callT Try.prog fn_clauses_Holds #[(.slice r0.a r0.len r0.cap), (.slice r115.a r115.len r115.cap)] .bool fun r116 =>
 callT Try.prog fn_clauses_Holds #[(.slice r1.a r1.len r1.cap), (.slice r115.a r115.len r115.cap)] .bool fun r117 =>
 brB r4
 (brB r116
 (brB (!r117)
 (K false)
 (callT Try.prog fn_clauses_Holds #[(.slice r3.1.a r3.1.len r3.1.cap), (.slice r115.a r115.len r115.cap)] .bool fun r118 =>
 brB r116
 (brB (!(r118 == true))
 (K false)
 (X113 ((IntKind.wrap .i64 (s114.1 + (1 : Int))), s114.2.1, ())))
 (brB (!(r118 == r117))
 (K false)
 (X113 ((IntKind.wrap .i64 (s114.1 + (1 : Int))), s114.2.1, ())))))
 (callT Try.prog fn_clauses_Holds #[(.slice r3.1.a r3.1.len r3.1.cap), (.slice r115.a r115.len r115.cap)] .bool fun r119 =>
 brB r116
 (brB (!(r119 == true))
 (K false)
 (X113 ((IntKind.wrap .i64 (s114.1 + (1 : Int))), s114.2.1, ())))
 (brB (!(r119 == r117))
 (K false)
 (X113 ((IntKind.wrap .i64 (s114.1 + (1 : Int))), s114.2.1, ())))))
 (callT Try.prog fn_clauses_Holds #[(.slice r3.1.a r3.1.len r3.1.cap), (.slice r115.a r115.len r115.cap)] .bool fun r120 =>
 brB r116
 (brB (!(r120 == true))
 (K false)
 (X113 ((IntKind.wrap .i64 (s114.1 + (1 : Int))), s114.2.1, ())))
 (brB (!(r120 == r117))
 (K false)
 (X113 ((IntKind.wrap .i64 (s114.1 + (1 : Int))), s114.2.1, ())))))
 (callT Try.prog fn_salvorlaw02_awake #[] .bool fun r121 =>
 K r121))
 ((0 : Int), false, ())))
 (lfp (σ := (Int × (Bool × Unit))) (fun X122 s123 => /-   -/
 brB (decide (s123.1 < (256 : Int)))
 (callT Try.prog fn_salvorlaw02_Model #[(.int .u8 (IntKind.wrap .u8 s123.1))] .sl fun r124 =>
 callT Try.prog fn_clauses_Holds #[(.slice r0.a r0.len r0.cap), (.slice r124.a r124.len r124.cap)] .bool fun r125 =>
 callT Try.prog fn_clauses_Holds #[(.slice r1.a r1.len r1.cap), (.slice r124.a r124.len r124.cap)] .bool fun r126 =>
 brB r4
 (brB r125
 (brB (!r126)
 (K false)
 (callT Try.prog fn_clauses_Holds #[(.slice r3.1.a r3.1.len r3.1.cap), (.slice r124.a r124.len r124.cap)] .bool fun r127 =>
 brB r125
 (brB (!(r127 == true))
 (K false)
 (X122 ((IntKind.wrap .i64 (s123.1 + (1 : Int))), s123.2.1, ())))
 (brB (!(r127 == r126))
 (K false)
 (X122 ((IntKind.wrap .i64 (s123.1 + (1 : Int))), s123.2.1, ())))))
 (callT Try.prog fn_clauses_Holds #[(.slice r3.1.a r3.1.len r3.1.cap), (.slice r124.a r124.len r124.cap)] .bool fun r128 =>
 brB r125
 (brB (!(r128 == true))
 (K false)
 (X122 ((IntKind.wrap .i64 (s123.1 + (1 : Int))), s123.2.1, ())))
 (brB (!(r128 == r126))
 (K false)
 (X122 ((IntKind.wrap .i64 (s123.1 + (1 : Int))), s123.2.1, ())))))
 (callT Try.prog fn_clauses_Holds #[(.slice r3.1.a r3.1.len r3.1.cap), (.slice r124.a r124.len r124.cap)] .bool fun r129 =>
 brB r125
 (brB (!(r129 == true))
 (K false)
 (X122 ((IntKind.wrap .i64 (s123.1 + (1 : Int))), s123.2.1, ())))
 (brB (!(r129 == r126))
 (K false)
 (X122 ((IntKind.wrap .i64 (s123.1 + (1 : Int))), s123.2.1, ())))))
 (callT Try.prog fn_salvorlaw02_awake #[] .bool fun r130 =>
 K r130))
 ((0 : Int), false, ())))
 (lfp (σ := (Int × (Bool × Unit))) (fun X131 s132 => /-   -/
 brB (decide (s132.1 < (256 : Int)))
 (callT Try.prog fn_salvorlaw02_Model #[(.int .u8 (IntKind.wrap .u8 s132.1))] .sl fun r133 =>
 callT Try.prog fn_clauses_Holds #[(.slice r0.a r0.len r0.cap), (.slice r133.a r133.len r133.cap)] .bool fun r134 =>
 callT Try.prog fn_clauses_Holds #[(.slice r1.a r1.len r1.cap), (.slice r133.a r133.len r133.cap)] .bool fun r135 =>
 brB r4
 (brB r134
 (brB (!r135)
 (K false)
 (callT Try.prog fn_clauses_Holds #[(.slice r3.1.a r3.1.len r3.1.cap), (.slice r133.a r133.len r133.cap)] .bool fun r136 =>
 brB r134
 (brB (!(r136 == true))
 (K false)
 (X131 ((IntKind.wrap .i64 (s132.1 + (1 : Int))), s132.2.1, ())))
 (brB (!(r136 == r135))
 (K false)
 (X131 ((IntKind.wrap .i64 (s132.1 + (1 : Int))), s132.2.1, ())))))
 (callT Try.prog fn_clauses_Holds #[(.slice r3.1.a r3.1.len r3.1.cap), (.slice r133.a r133.len r133.cap)] .bool fun r137 =>
 brB r134
 (brB (!(r137 == true))
 (K false)
 (X131 ((IntKind.wrap .i64 (s132.1 + (1 : Int))), s132.2.1, ())))
 (brB (!(r137 == r135))
 (K false)
 (X131 ((IntKind.wrap .i64 (s132.1 + (1 : Int))), s132.2.1, ())))))
 (callT Try.prog fn_clauses_Holds #[(.slice r3.1.a r3.1.len r3.1.cap), (.slice r133.a r133.len r133.cap)] .bool fun r138 =>
 brB r134
 (brB (!(r138 == true))
 (K false)
 (X131 ((IntKind.wrap .i64 (s132.1 + (1 : Int))), s132.2.1, ())))
 (brB (!(r138 == r135))
 (K false)
 (X131 ((IntKind.wrap .i64 (s132.1 + (1 : Int))), s132.2.1, ())))))
 (callT Try.prog fn_salvorlaw02_awake #[] .bool fun r139 =>
 K r139))
 ((0 : Int), false, ())))))))
 (brB r4
 (callT Try.prog fn_clauses_Within #[(.slice r1.a r1.len r1.cap), (.slice r0.a r0.len r0.cap)] .bool fun r140 =>
 callT Try.prog fn_clauses_Same #[(.slice r0.a r0.len r0.cap), (.slice r1.a r1.len r1.cap)] .bool fun r141 =>
 brB (!(r140 == r141))
 (K false)
 (callT Try.prog fn_clauses_Same #[(.slice r3.1.a r3.1.len r3.1.cap), (.slice r1.a r1.len r1.cap)] .bool fun r142 =>
 brB (!(r4 == r142))
 (K false)
 (callT Try.prog fn_clauses_Within #[(.slice r0.a r0.len r0.cap), (.slice r2.a r2.len r2.cap)] .bool fun r143 =>
 brB r143
 (callT Try.prog fn_clauses_Within #[(.slice r1.a r1.len r1.cap), (.slice r2.a r2.len r2.cap)] .bool fun r144 =>
 brB r144
 (callT Try.prog fn_clauses_Within #[(.slice r3.1.a r3.1.len r3.1.cap), (.slice r2.a r2.len r2.cap)] .bool fun r145 =>
 brB (!r145)
 (K false)
 (lfp (σ := (Int × (Bool × Unit))) (fun X146 s147 => /-   -/
 brB (decide (s147.1 < (256 : Int)))
 (callT Try.prog fn_salvorlaw02_Model #[(.int .u8 (IntKind.wrap .u8 s147.1))] .sl fun r148 =>
 callT Try.prog fn_clauses_Holds #[(.slice r0.a r0.len r0.cap), (.slice r148.a r148.len r148.cap)] .bool fun r149 =>
 callT Try.prog fn_clauses_Holds #[(.slice r1.a r1.len r1.cap), (.slice r148.a r148.len r148.cap)] .bool fun r150 =>
 brB r4
 (brB r149
 (brB (!r150)
 (K false)
 (callT Try.prog fn_clauses_Holds #[(.slice r3.1.a r3.1.len r3.1.cap), (.slice r148.a r148.len r148.cap)] .bool fun r151 =>
 brB r149
 (brB (!(r151 == true))
 (K false)
 (X146 ((IntKind.wrap .i64 (s147.1 + (1 : Int))), s147.2.1, ())))
 (brB (!(r151 == r150))
 (K false)
 (X146 ((IntKind.wrap .i64 (s147.1 + (1 : Int))), s147.2.1, ())))))
 (callT Try.prog fn_clauses_Holds #[(.slice r3.1.a r3.1.len r3.1.cap), (.slice r148.a r148.len r148.cap)] .bool fun r152 =>
 brB r149
 (brB (!(r152 == true))
 (K false)
 (X146 ((IntKind.wrap .i64 (s147.1 + (1 : Int))), s147.2.1, ())))
 (brB (!(r152 == r150))
 (K false)
 (X146 ((IntKind.wrap .i64 (s147.1 + (1 : Int))), s147.2.1, ())))))
 (callT Try.prog fn_clauses_Holds #[(.slice r3.1.a r3.1.len r3.1.cap), (.slice r148.a r148.len r148.cap)] .bool fun r153 =>
 brB r149
 (brB (!(r153 == true))
 (K false)
 (X146 ((IntKind.wrap .i64 (s147.1 + (1 : Int))), s147.2.1, ())))
 (brB (!(r153 == r150))
 (K false)
 (X146 ((IntKind.wrap .i64 (s147.1 + (1 : Int))), s147.2.1, ())))))
 (callT Try.prog fn_salvorlaw02_awake #[] .bool fun r154 =>
 K r154))
 ((0 : Int), false, ())))
 (lfp (σ := (Int × (Bool × Unit))) (fun X155 s156 => /-   -/
 brB (decide (s156.1 < (256 : Int)))
 (callT Try.prog fn_salvorlaw02_Model #[(.int .u8 (IntKind.wrap .u8 s156.1))] .sl fun r157 =>
 callT Try.prog fn_clauses_Holds #[(.slice r0.a r0.len r0.cap), (.slice r157.a r157.len r157.cap)] .bool fun r158 =>
 callT Try.prog fn_clauses_Holds #[(.slice r1.a r1.len r1.cap), (.slice r157.a r157.len r157.cap)] .bool fun r159 =>
 brB r4
 (brB r158
 (brB (!r159)
 (K false)
 (callT Try.prog fn_clauses_Holds #[(.slice r3.1.a r3.1.len r3.1.cap), (.slice r157.a r157.len r157.cap)] .bool fun r160 =>
 brB r158
 (brB (!(r160 == true))
 (K false)
 (X155 ((IntKind.wrap .i64 (s156.1 + (1 : Int))), s156.2.1, ())))
 (brB (!(r160 == r159))
 (K false)
 (X155 ((IntKind.wrap .i64 (s156.1 + (1 : Int))), s156.2.1, ())))))
 (callT Try.prog fn_clauses_Holds #[(.slice r3.1.a r3.1.len r3.1.cap), (.slice r157.a r157.len r157.cap)] .bool fun r161 =>
 brB r158
 (brB (!(r161 == true))
 (K false)
 (X155 ((IntKind.wrap .i64 (s156.1 + (1 : Int))), s156.2.1, ())))
 (brB (!(r161 == r159))
 (K false)
 (X155 ((IntKind.wrap .i64 (s156.1 + (1 : Int))), s156.2.1, ())))))
 (callT Try.prog fn_clauses_Holds #[(.slice r3.1.a r3.1.len r3.1.cap), (.slice r157.a r157.len r157.cap)] .bool fun r162 =>
 brB r158
 (brB (!(r162 == true))
 (K false)
 (X155 ((IntKind.wrap .i64 (s156.1 + (1 : Int))), s156.2.1, ())))
 (brB (!(r162 == r159))
 (K false)
 (X155 ((IntKind.wrap .i64 (s156.1 + (1 : Int))), s156.2.1, ())))))
 (callT Try.prog fn_salvorlaw02_awake #[] .bool fun r163 =>
 K r163))
 ((0 : Int), false, ())))
 (lfp (σ := (Int × (Bool × Unit))) (fun X164 s165 => /-   -/
 brB (decide (s165.1 < (256 : Int)))
 (callT Try.prog fn_salvorlaw02_Model #[(.int .u8 (IntKind.wrap .u8 s165.1))] .sl fun r166 =>
 callT Try.prog fn_clauses_Holds #[(.slice r0.a r0.len r0.cap), (.slice r166.a r166.len r166.cap)] .bool fun r167 =>
 callT Try.prog fn_clauses_Holds #[(.slice r1.a r1.len r1.cap), (.slice r166.a r166.len r166.cap)] .bool fun r168 =>
 brB r4
 (brB r167
 (brB (!r168)
 (K false)
 (callT Try.prog fn_clauses_Holds #[(.slice r3.1.a r3.1.len r3.1.cap), (.slice r166.a r166.len r166.cap)] .bool fun r169 =>
 brB r167
 (brB (!(r169 == true))
 (K false)
 (X164 ((IntKind.wrap .i64 (s165.1 + (1 : Int))), s165.2.1, ())))
 (brB (!(r169 == r168))
 (K false)
 (X164 ((IntKind.wrap .i64 (s165.1 + (1 : Int))), s165.2.1, ())))))
 (callT Try.prog fn_clauses_Holds #[(.slice r3.1.a r3.1.len r3.1.cap), (.slice r166.a r166.len r166.cap)] .bool fun r170 =>
 brB r167
 (brB (!(r170 == true))
 (K false)
 (X164 ((IntKind.wrap .i64 (s165.1 + (1 : Int))), s165.2.1, ())))
 (brB (!(r170 == r168))
 (K false)
 (X164 ((IntKind.wrap .i64 (s165.1 + (1 : Int))), s165.2.1, ())))))
 (callT Try.prog fn_clauses_Holds #[(.slice r3.1.a r3.1.len r3.1.cap), (.slice r166.a r166.len r166.cap)] .bool fun r171 =>
 brB r167
 (brB (!(r171 == true))
 (K false)
 (X164 ((IntKind.wrap .i64 (s165.1 + (1 : Int))), s165.2.1, ())))
 (brB (!(r171 == r168))
 (K false)
 (X164 ((IntKind.wrap .i64 (s165.1 + (1 : Int))), s165.2.1, ())))))
 (callT Try.prog fn_salvorlaw02_awake #[] .bool fun r172 =>
 K r172))
 ((0 : Int), false, ())))))
 (callT Try.prog fn_clauses_Same #[(.slice r0.a r0.len r0.cap), (.slice r1.a r1.len r1.cap)] .bool fun r173 =>
 brB (!(false == r173))
 (K false)
 (callT Try.prog fn_clauses_Same #[(.slice r3.1.a r3.1.len r3.1.cap), (.slice r1.a r1.len r1.cap)] .bool fun r174 =>
 brB (!(r4 == r174))
 (K false)
 (callT Try.prog fn_clauses_Within #[(.slice r0.a r0.len r0.cap), (.slice r2.a r2.len r2.cap)] .bool fun r175 =>
 brB r175
 (callT Try.prog fn_clauses_Within #[(.slice r1.a r1.len r1.cap), (.slice r2.a r2.len r2.cap)] .bool fun r176 =>
 brB r176
 (callT Try.prog fn_clauses_Within #[(.slice r3.1.a r3.1.len r3.1.cap), (.slice r2.a r2.len r2.cap)] .bool fun r177 =>
 brB (!r177)
 (K false)
 (lfp (σ := (Int × (Bool × Unit))) (fun X178 s179 => /-   -/
 brB (decide (s179.1 < (256 : Int)))
 (callT Try.prog fn_salvorlaw02_Model #[(.int .u8 (IntKind.wrap .u8 s179.1))] .sl fun r180 =>
 callT Try.prog fn_clauses_Holds #[(.slice r0.a r0.len r0.cap), (.slice r180.a r180.len r180.cap)] .bool fun r181 =>
 callT Try.prog fn_clauses_Holds #[(.slice r1.a r1.len r1.cap), (.slice r180.a r180.len r180.cap)] .bool fun r182 =>
 brB r4
 (brB r181
 (brB (!r182)
 (K false)
 (callT Try.prog fn_clauses_Holds #[(.slice r3.1.a r3.1.len r3.1.cap), (.slice r180.a r180.len r180.cap)] .bool fun r183 =>
 brB r181
 (brB (!(r183 == true))
 (K false)
 (X178 ((IntKind.wrap .i64 (s179.1 + (1 : Int))), s179.2.1, ())))
 (brB (!(r183 == r182))
 (K false)
 (X178 ((IntKind.wrap .i64 (s179.1 + (1 : Int))), s179.2.1, ())))))
 (callT Try.prog fn_clauses_Holds #[(.slice r3.1.a r3.1.len r3.1.cap), (.slice r180.a r180.len r180.cap)] .bool fun r184 =>
 brB r181
 (brB (!(r184 == true))
 (K false)
 (X178 ((IntKind.wrap .i64 (s179.1 + (1 : Int))), s179.2.1, ())))
 (brB (!(r184 == r182))
 (K false)
 (X178 ((IntKind.wrap .i64 (s179.1 + (1 : Int))), s179.2.1, ())))))
 (callT Try.prog fn_clauses_Holds #[(.slice r3.1.a r3.1.len r3.1.cap), (.slice r180.a r180.len r180.cap)] .bool fun r185 =>
 brB r181
 (brB (!(r185 == true))
 (K false)
 (X178 ((IntKind.wrap .i64 (s179.1 + (1 : Int))), s179.2.1, ())))
 (brB (!(r185 == r182))
 (K false)
 (X178 ((IntKind.wrap .i64 (s179.1 + (1 : Int))), s179.2.1, ())))))
 (callT Try.prog fn_salvorlaw02_awake #[] .bool fun r186 =>
 K r186))
 ((0 : Int), false, ())))
 (lfp (σ := (Int × (Bool × Unit))) (fun X187 s188 => /-   -/
 brB (decide (s188.1 < (256 : Int)))
 (callT Try.prog fn_salvorlaw02_Model #[(.int .u8 (IntKind.wrap .u8 s188.1))] .sl fun r189 =>
 callT Try.prog fn_clauses_Holds #[(.slice r0.a r0.len r0.cap), (.slice r189.a r189.len r189.cap)] .bool fun r190 =>
 callT Try.prog fn_clauses_Holds #[(.slice r1.a r1.len r1.cap), (.slice r189.a r189.len r189.cap)] .bool fun r191 =>
 brB r4
 (brB r190
 (brB (!r191)
 (K false)
 (callT Try.prog fn_clauses_Holds #[(.slice r3.1.a r3.1.len r3.1.cap), (.slice r189.a r189.len r189.cap)] .bool fun r192 =>
 brB r190
 (brB (!(r192 == true))
 (K false)
 (X187 ((IntKind.wrap .i64 (s188.1 + (1 : Int))), s188.2.1, ())))
 (brB (!(r192 == r191))
 (K false)
 (X187 ((IntKind.wrap .i64 (s188.1 + (1 : Int))), s188.2.1, ())))))
 (callT Try.prog fn_clauses_Holds #[(.slice r3.1.a r3.1.len r3.1.cap), (.slice r189.a r189.len r189.cap)] .bool fun r193 =>
 brB r190
 (brB (!(r193 == true))
 (K false)
 (X187 ((IntKind.wrap .i64 (s188.1 + (1 : Int))), s188.2.1, ())))
 (brB (!(r193 == r191))
 (K false)
 (X187 ((IntKind.wrap .i64 (s188.1 + (1 : Int))), s188.2.1, ())))))
 (callT Try.prog fn_clauses_Holds #[(.slice r3.1.a r3.1.len r3.1.cap), (.slice r189.a r189.len r189.cap)] .bool fun r194 =>
 brB r190
 (brB (!(r194 == true))
 (K false)
 (X187 ((IntKind.wrap .i64 (s188.1 + (1 : Int))), s188.2.1, ())))
 (brB (!(r194 == r191))
 (K false)
 (X187 ((IntKind.wrap .i64 (s188.1 + (1 : Int))), s188.2.1, ())))))
 (callT Try.prog fn_salvorlaw02_awake #[] .bool fun r195 =>
 K r195))
 ((0 : Int), false, ())))
 (lfp (σ := (Int × (Bool × Unit))) (fun X196 s197 => /-   -/
 brB (decide (s197.1 < (256 : Int)))
 (callT Try.prog fn_salvorlaw02_Model #[(.int .u8 (IntKind.wrap .u8 s197.1))] .sl fun r198 =>
 callT Try.prog fn_clauses_Holds #[(.slice r0.a r0.len r0.cap), (.slice r198.a r198.len r198.cap)] .bool fun r199 =>
 callT Try.prog fn_clauses_Holds #[(.slice r1.a r1.len r1.cap), (.slice r198.a r198.len r198.cap)] .bool fun r200 =>
 brB r4
 (brB r199
 (brB (!r200)
 (K false)
 (callT Try.prog fn_clauses_Holds #[(.slice r3.1.a r3.1.len r3.1.cap), (.slice r198.a r198.len r198.cap)] .bool fun r201 =>
 brB r199
 (brB (!(r201 == true))
 (K false)
 (X196 ((IntKind.wrap .i64 (s197.1 + (1 : Int))), s197.2.1, ())))
 (brB (!(r201 == r200))
 (K false)
 (X196 ((IntKind.wrap .i64 (s197.1 + (1 : Int))), s197.2.1, ())))))
 (callT Try.prog fn_clauses_Holds #[(.slice r3.1.a r3.1.len r3.1.cap), (.slice r198.a r198.len r198.cap)] .bool fun r202 =>
 brB r199
 (brB (!(r202 == true))
 (K false)
 (X196 ((IntKind.wrap .i64 (s197.1 + (1 : Int))), s197.2.1, ())))
 (brB (!(r202 == r200))
 (K false)
 (X196 ((IntKind.wrap .i64 (s197.1 + (1 : Int))), s197.2.1, ())))))
 (callT Try.prog fn_clauses_Holds #[(.slice r3.1.a r3.1.len r3.1.cap), (.slice r198.a r198.len r198.cap)] .bool fun r203 =>
 brB r199
 (brB (!(r203 == true))
 (K false)
 (X196 ((IntKind.wrap .i64 (s197.1 + (1 : Int))), s197.2.1, ())))
 (brB (!(r203 == r200))
 (K false)
 (X196 ((IntKind.wrap .i64 (s197.1 + (1 : Int))), s197.2.1, ())))))
 (callT Try.prog fn_salvorlaw02_awake #[] .bool fun r204 =>
 K r204))
 ((0 : Int), false, ()))))))))))
set_option maxRecDepth 100000 in
theorem E_salvorlaw02_ClausesWithin (a0 : Sl) (a1 : Sl) (a2 : Sl) (K : Bool → HP) (h : Heap) : fnVC Try.prog [(1000000, .nil)] 133 Try.f6 [(.slice a0.a a0.len a0.cap), (.slice a1.a a1.len a1.cap), (.slice a2.a a2.len a2.cap)] .bool K h = F_salvorlaw02_ClausesWithin a0 a1 a2 K h := by kernel_rfl
set_option maxRecDepth 100000 in
theorem S_salvorlaw02_ClausesWithin{h : Heap} {a0 : Sl} {a1 : Sl} {a2 : Sl} (K : Bool → HP) (hF : F_salvorlaw02_ClausesWithin a0 a1 a2 K h) : CallsH Try.prog fn_salvorlaw02_ClausesWithin #[(.slice a0.a a0.len a0.cap), (.slice a1.a a1.len a1.cap), (.slice a2.a a2.len a2.cap)] h fun v h' => ∃ x : Bool, v = Ty.enc .bool x ∧ K x h' :=
  callsH_of_fn (P := Try.prog) (fn := Try.f6) (τ := .bool) follows Try.func6 (by kernel_rfl) (by kernel_rfl) Try.call6 (Eq.mpr (E_salvorlaw02_ClausesWithin a0 a1 a2 K h) hF)


/-- salvor/salvorlaw02.ClausesOrder -/
def F_salvorlaw02_ClausesOrder (a0 : Sl) (a1 : Sl) (a2 : Sl) (K : Bool → HP) : HP :=
 callT Try.prog fn_salvorlaw02_Made #[(.slice a0.a a0.len a0.cap)] .sl fun r0 =>
 callT Try.prog fn_salvorlaw02_Made #[(.slice a1.a a1.len a1.cap)] .sl fun r1 =>
 callT Try.prog fn_salvorlaw02_Made #[(.slice a2.a a2.len a2.cap)] .sl fun r2 =>
 callT Try.prog fn_clauses_Norm #[(.slice r0.a r0.len r0.cap)] (.tup (.cons .sl (.cons .bool (.cons (.int .i64) .nil)))) fun r3 =>
 callT Try.prog fn_clauses_Norm #[(.slice r1.a r1.len r1.cap)] (.tup (.cons .sl (.cons .bool (.cons (.int .i64) .nil)))) fun r4 =>
 callT Try.prog fn_clauses_Compare #[(.slice r0.a r0.len r0.cap), (.slice r1.a r1.len r1.cap)] (.int .i64) fun r5 =>
 brB ((IntKind.wrap .i64 (r3.2.2.1 + r4.2.2.1)) == (0 : Int))
 (callT Try.prog fn_clauses_Compare #[(.slice r1.a r1.len r1.cap), (.slice r0.a r0.len r0.cap)] (.int .i64) fun r6 =>
 brB (r5 == (IntKind.wrap .i64 (0 - r6)))
 (callT Try.prog fn_clauses_Same #[(.slice r0.a r0.len r0.cap), (.slice r1.a r1.len r1.cap)] .bool fun r7 =>
 brB ((r5 == (0 : Int)) == r7)
 (brB (decide (r5 > (0 : Int)))
 (brB (decide ((r3.1.len : Int) ≥ (r4.1.len : Int)))
 (callT Try.prog fn_clauses_Compare #[(.slice r3.1.a r3.1.len r3.1.cap), (.slice r4.1.a r4.1.len r4.1.cap)] (.int .i64) fun r8 =>
 brB (r5 == r8)
 (callT Try.prog fn_salvorlaw02_awake #[] .bool fun r9 =>
 K r9)
 (K false))
 (brB (r5 == (-1 : Int))
 (callT Try.prog fn_clauses_Compare #[(.slice r3.1.a r3.1.len r3.1.cap), (.slice r4.1.a r4.1.len r4.1.cap)] (.int .i64) fun r10 =>
 brB (r5 == r10)
 (callT Try.prog fn_salvorlaw02_awake #[] .bool fun r11 =>
 K r11)
 (K false))
 (K false)))
 (callT Try.prog fn_clauses_Compare #[(.slice r1.a r1.len r1.cap), (.slice r2.a r2.len r2.cap)] (.int .i64) fun r12 =>
 brB (decide (r12 > (0 : Int)))
 (brB (decide ((r3.1.len : Int) ≥ (r4.1.len : Int)))
 (callT Try.prog fn_clauses_Compare #[(.slice r3.1.a r3.1.len r3.1.cap), (.slice r4.1.a r4.1.len r4.1.cap)] (.int .i64) fun r13 =>
 brB (r5 == r13)
 (callT Try.prog fn_salvorlaw02_awake #[] .bool fun r14 =>
 K r14)
 (K false))
 (brB (r5 == (-1 : Int))
 (callT Try.prog fn_clauses_Compare #[(.slice r3.1.a r3.1.len r3.1.cap), (.slice r4.1.a r4.1.len r4.1.cap)] (.int .i64) fun r15 =>
 brB (r5 == r15)
 (callT Try.prog fn_salvorlaw02_awake #[] .bool fun r16 =>
 K r16)
 (K false))
 (K false)))
 (callT Try.prog fn_clauses_Compare #[(.slice r0.a r0.len r0.cap), (.slice r2.a r2.len r2.cap)] (.int .i64) fun r17 =>
 brB (decide (r17 ≤ (0 : Int)))
 (brB (decide ((r3.1.len : Int) ≥ (r4.1.len : Int)))
 (callT Try.prog fn_clauses_Compare #[(.slice r3.1.a r3.1.len r3.1.cap), (.slice r4.1.a r4.1.len r4.1.cap)] (.int .i64) fun r18 =>
 brB (r5 == r18)
 (callT Try.prog fn_salvorlaw02_awake #[] .bool fun r19 =>
 K r19)
 (K false))
 (brB (r5 == (-1 : Int))
 (callT Try.prog fn_clauses_Compare #[(.slice r3.1.a r3.1.len r3.1.cap), (.slice r4.1.a r4.1.len r4.1.cap)] (.int .i64) fun r20 =>
 brB (r5 == r20)
 (callT Try.prog fn_salvorlaw02_awake #[] .bool fun r21 =>
 K r21)
 (K false))
 (K false)))
 (K false))))
 (K false))
 (K false))
 (K false)
set_option maxRecDepth 100000 in
theorem E_salvorlaw02_ClausesOrder (a0 : Sl) (a1 : Sl) (a2 : Sl) (K : Bool → HP) (h : Heap) : fnVC Try.prog [(1000000, .nil)] 95 Try.f7 [(.slice a0.a a0.len a0.cap), (.slice a1.a a1.len a1.cap), (.slice a2.a a2.len a2.cap)] .bool K h = F_salvorlaw02_ClausesOrder a0 a1 a2 K h := by kernel_rfl
set_option maxRecDepth 100000 in
theorem S_salvorlaw02_ClausesOrder{h : Heap} {a0 : Sl} {a1 : Sl} {a2 : Sl} (K : Bool → HP) (hF : F_salvorlaw02_ClausesOrder a0 a1 a2 K h) : CallsH Try.prog fn_salvorlaw02_ClausesOrder #[(.slice a0.a a0.len a0.cap), (.slice a1.a a1.len a1.cap), (.slice a2.a a2.len a2.cap)] h fun v h' => ∃ x : Bool, v = Ty.enc .bool x ∧ K x h' :=
  callsH_of_fn (P := Try.prog) (fn := Try.f7) (τ := .bool) follows Try.func7 (by kernel_rfl) (by kernel_rfl) Try.call7 (Eq.mpr (E_salvorlaw02_ClausesOrder a0 a1 a2 K h) hF)


/-- salvor/salvorlaw02.ClausesLess -/
def F_salvorlaw02_ClausesLess (a0 : Sl) (a1 : Int) (K : Bool → HP) : HP :=
 cj
 (callT Try.prog fn_salvorlaw02_Made #[(.slice a0.a a0.len a0.cap)] .sl fun r0 =>
 nw #[(.int .u8 a1)] ty_uint8 fun b1 =>
 callT Try.prog fn_salvorlaw02_Made #[(.slice (some (⟨b1, 0, none⟩ : Addr)) 1 1)] .sl fun r2 =>
 sx r2.a r2.len (0 : Int) 1 fun p3 =>
 ldT (.int .i64) p3 fun x4 =>
 callT Try.prog fn_clauses_Without #[(.slice r0.a r0.len r0.cap), (.int .i64 x4)] (.tup (.cons .sl (.cons (.int .i64) .nil))) fun r5 =>
 nw #[(.int .i64 x4)] ty_lits_Lit fun b6 =>
 callT Try.prog fn_clauses_Union #[(.slice r5.1.a r5.1.len r5.1.cap), (.slice (some (⟨b6, 0, none⟩ : Addr)) 1 1)] (.tup (.cons .sl (.cons (.int .i64) .nil))) fun r7 =>
 nw #[(.int .i64 x4)] ty_lits_Lit fun b8 =>
 callT Try.prog fn_clauses_Union #[(.slice r0.a r0.len r0.cap), (.slice (some (⟨b8, 0, none⟩ : Addr)) 1 1)] (.tup (.cons .sl (.cons (.int .i64) .nil))) fun r9 =>
 brB ((IntKind.wrap .i64 ((IntKind.wrap .i64 (r5.2.1 + r7.2.1)) + r9.2.1)) != (0 : Int))
 (K false)
 (callT Try.prog fn_clauses_Has #[(.slice r5.1.a r5.1.len r5.1.cap), (.int .i64 x4)] .bool fun r10 =>
 brB r10
 (K false)
 (callT Try.prog fn_clauses_Within #[(.slice r5.1.a r5.1.len r5.1.cap), (.slice r0.a r0.len r0.cap)] .bool fun r11 =>
 brB (!r11)
 (K false)
 (callT Try.prog fn_slices_Equal_clauses_Clause_lits_Lit #[(.slice r7.1.a r7.1.len r7.1.cap), (.slice r9.1.a r9.1.len r9.1.cap)] .bool fun r12 =>
 brB (!r12)
 (K false)
 (callT Try.prog fn_clauses_Same #[(.slice r5.1.a r5.1.len r5.1.cap), (.slice r0.a r0.len r0.cap)] .bool fun r13 =>
 callT Try.prog fn_clauses_Has #[(.slice r0.a r0.len r0.cap), (.int .i64 x4)] .bool fun r14 =>
 brB (r13 == r14)
 (K false)
 (lfp (σ := (Int × (Bool × Unit))) (fun X15 s16 => /-   -/
 brB (decide (s16.1 < (r0.len : Int)))
 (sx r0.a r0.len s16.1 1 fun p17 =>
 ldT (.int .i64) p17 fun x18 =>
 brB (x18 != x4)
 (callT Try.prog fn_clauses_Has #[(.slice r5.1.a r5.1.len r5.1.cap), (.int .i64 x18)] .bool fun r19 =>
 brB (!r19)
 (K false)
 (X15 ((IntKind.wrap .i64 (s16.1 + (1 : Int))), s16.2.1, ())))
 (X15 ((IntKind.wrap .i64 (s16.1 + (1 : Int))), s16.2.1, ())))
 (callT Try.prog fn_salvorlaw02_awake #[] .bool fun r20 =>
 K r20))
 ((0 : Int), false, ())))))))
 (nw #[(.int .u8 a1)] ty_uint8 fun b21 =>
 callT Try.prog fn_salvorlaw02_Made #[(.slice a0.a a0.len a0.cap)] .sl fun r22 =>
 callT Try.prog fn_salvorlaw02_Made #[(.slice (some (⟨b21, 0, none⟩ : Addr)) 1 1)] .sl fun r23 =>
 sx r23.a r23.len (0 : Int) 1 fun p24 =>
 ldT (.int .i64) p24 fun x25 =>
 callT Try.prog fn_clauses_Without #[(.slice r22.a r22.len r22.cap), (.int .i64 x25)] (.tup (.cons .sl (.cons (.int .i64) .nil))) fun r26 =>
 nw #[(.int .i64 x25)] ty_lits_Lit fun b27 =>
 callT Try.prog fn_clauses_Union #[(.slice r26.1.a r26.1.len r26.1.cap), (.slice (some (⟨b27, 0, none⟩ : Addr)) 1 1)] (.tup (.cons .sl (.cons (.int .i64) .nil))) fun r28 =>
 nw #[(.int .i64 x25)] ty_lits_Lit fun b29 =>
 callT Try.prog fn_clauses_Union #[(.slice r22.a r22.len r22.cap), (.slice (some (⟨b29, 0, none⟩ : Addr)) 1 1)] (.tup (.cons .sl (.cons (.int .i64) .nil))) fun r30 =>
 brB ((IntKind.wrap .i64 ((IntKind.wrap .i64 (r26.2.1 + r28.2.1)) + r30.2.1)) != (0 : Int))
 (K false)
 (callT Try.prog fn_clauses_Has #[(.slice r26.1.a r26.1.len r26.1.cap), (.int .i64 x25)] .bool fun r31 =>
 brB r31
 (K false)
 (callT Try.prog fn_clauses_Within #[(.slice r26.1.a r26.1.len r26.1.cap), (.slice r22.a r22.len r22.cap)] .bool fun r32 =>
 brB (!r32)
 (K false)
 (callT Try.prog fn_slices_Equal_clauses_Clause_lits_Lit #[(.slice r28.1.a r28.1.len r28.1.cap), (.slice r30.1.a r30.1.len r30.1.cap)] .bool fun r33 =>
 brB (!r33)
 (K false)
 (callT Try.prog fn_clauses_Same #[(.slice r26.1.a r26.1.len r26.1.cap), (.slice r22.a r22.len r22.cap)] .bool fun r34 =>
 callT Try.prog fn_clauses_Has #[(.slice r22.a r22.len r22.cap), (.int .i64 x25)] .bool fun r35 =>
 brB (r34 == r35)
 (K false)
 (lfp (σ := (Int × (Bool × Unit))) (fun X36 s37 => /-   -/
 brB (decide (s37.1 < (r22.len : Int)))
 (sx r22.a r22.len s37.1 1 fun p38 =>
 ldT (.int .i64) p38 fun x39 =>
 brB (x39 != x25)
 (callT Try.prog fn_clauses_Has #[(.slice r26.1.a r26.1.len r26.1.cap), (.int .i64 x39)] .bool fun r40 =>
 brB (!r40)
 (K false)
 (X36 ((IntKind.wrap .i64 (s37.1 + (1 : Int))), s37.2.1, ())))
 (X36 ((IntKind.wrap .i64 (s37.1 + (1 : Int))), s37.2.1, ())))
 (callT Try.prog fn_salvorlaw02_awake #[] .bool fun r41 =>
 K r41))
 ((0 : Int), false, ())))))))
set_option maxRecDepth 100000 in
theorem E_salvorlaw02_ClausesLess (a0 : Sl) (a1 : Int) (K : Bool → HP) (h : Heap) : fnVC Try.prog [(1000000, .nil)] 91 Try.f8 [(.slice a0.a a0.len a0.cap), (.int .u8 a1)] .bool K h = F_salvorlaw02_ClausesLess a0 a1 K h := by kernel_rfl
set_option maxRecDepth 100000 in
theorem S_salvorlaw02_ClausesLess{h : Heap} {a0 : Sl} {a1 : Int} (K : Bool → HP) (hF : F_salvorlaw02_ClausesLess a0 a1 K h) : CallsH Try.prog fn_salvorlaw02_ClausesLess #[(.slice a0.a a0.len a0.cap), (.int .u8 a1)] h fun v h' => ∃ x : Bool, v = Ty.enc .bool x ∧ K x h' :=
  callsH_of_fn (P := Try.prog) (fn := Try.f8) (τ := .bool) follows Try.func8 (by kernel_rfl) (by kernel_rfl) Try.call8 (Eq.mpr (E_salvorlaw02_ClausesLess a0 a1 K h) hF)


/-- salvor/salvorlaw02.ClausesSmall -/
def F_salvorlaw02_ClausesSmall (K : Bool → HP) : HP :=
 nw #[(.int .i64 (1 : Int)), (.int .i64 (-1 : Int)), (.int .i64 (2 : Int)), (.int .i64 (-2 : Int)), (.int .i64 (0 : Int))] ty_int fun b0 =>
 lfp (σ := (Int × (Sl × Unit))) (fun X1 s2 => /-  all -/
 brB (decide (s2.1 < (125 : Int)))
 (nz (5 : Int) <|
 sx (some (⟨b0, 0, none⟩ : Addr)) 5 (Int.tmod s2.1 (5 : Int)) 1 fun p3 =>
 ldT (.int .i64) p3 fun x4 =>
 nz (5 : Int) <|
 nz (5 : Int) <|
 sx (some (⟨b0, 0, none⟩ : Addr)) 5 (Int.tmod (IntKind.wrap .i64 (Int.tdiv s2.1 (5 : Int))) (5 : Int)) 1 fun p5 =>
 ldT (.int .i64) p5 fun x6 =>
 nz (25 : Int) <|
 sx (some (⟨b0, 0, none⟩ : Addr)) 5 (IntKind.wrap .i64 (Int.tdiv s2.1 (25 : Int))) 1 fun p7 =>
 ldT (.int .i64) p7 fun x8 =>
 nw #[(.int .i64 x4), (.int .i64 x6), (.int .i64 x8)] ty_int fun b9 =>
 lfp (σ := (Int × (Sl × Unit))) (fun X10 s11 => /-  all -/
 brB (decide (s11.1 < (4 : Int)))
 (slH ⟨(some (⟨b9, 0, none⟩ : Addr)), 3, 3⟩ s11.1 1 fun s12 =>
 nw #[(.slice s12.a s12.len s12.cap)] ty_sl_int fun b13 =>
 apd ty_sl_int 1 24 #[(.slice none 0 0)] ⟨s11.2.1.a, s11.2.1.len, s11.2.1.cap⟩ ⟨(some (⟨b13, 0, none⟩ : Addr)), 1, 1⟩ fun s14 =>
 X10 ((IntKind.wrap .i64 (s11.1 + (1 : Int))), ⟨s14.a, s14.len, s14.cap⟩, ()))
 (X1 ((IntKind.wrap .i64 (s2.1 + (1 : Int))), ⟨s11.2.1.a, s11.2.1.len, s11.2.1.cap⟩, ())))
 ((0 : Int), ⟨s2.2.1.a, s2.2.1.len, s2.2.1.cap⟩, ()))
 (lfp (σ := (Int × (Bool × Unit))) (fun X15 s16 => /-   -/
 brB (decide (s16.1 < (s2.2.1.len : Int)))
 (sx s2.2.1.a s2.2.1.len s16.1 1 fun p17 =>
 ldT .sl p17 fun x18 =>
 nz (5 : Int) <|
 sx (some (⟨b0, 0, none⟩ : Addr)) 5 (Int.tmod s16.1 (5 : Int)) 1 fun p19 =>
 ldT (.int .i64) p19 fun x20 =>
 nz (5 : Int) <|
 nz (5 : Int) <|
 sx (some (⟨b0, 0, none⟩ : Addr)) 5 (Int.tmod (IntKind.wrap .i64 (Int.tdiv s16.1 (5 : Int))) (5 : Int)) 1 fun p21 =>
 ldT (.int .i64) p21 fun x22 =>
 nw #[(.int .i64 x22)] ty_int fun b23 =>
 callT Try.prog fn_salvorlaw02_one #[(.slice x18.a x18.len x18.cap), (.int .i64 x20), (.slice (some (⟨b23, 0, none⟩ : Addr)) 1 1)] .bool fun r24 =>
 brB (!r24)
 (K false)
 (callT Try.prog fn_salvorlaw02_one #[(.slice x18.a x18.len x18.cap), (.int .i64 (0 : Int)), (.slice (some (⟨b0, 0, none⟩ : Addr)) 5 5)] .bool fun r25 =>
 brB (!r25)
 (K false)
 (lfp (σ := (Int × (Bool × Unit))) (fun X26 s27 => /-   -/
 brB (decide (s27.1 < (40 : Int)))
 (nz (s2.2.1.len : Int) <|
 sx s2.2.1.a s2.2.1.len (Int.tmod (IntKind.wrap .i64 ((IntKind.wrap .i64 (s16.1 + (IntKind.wrap .i64 (s27.1 * s27.1)))) + s27.1)) (s2.2.1.len : Int)) 1 fun p28 =>
 ldT .sl p28 fun x29 =>
 nz (5 : Int) <|
 sx (some (⟨b0, 0, none⟩ : Addr)) 5 (Int.tmod (IntKind.wrap .i64 (s16.1 + s27.1)) (5 : Int)) 1 fun p30 =>
 ldT (.int .i64) p30 fun x31 =>
 callT Try.prog fn_salvorlaw02_pair #[(.slice x18.a x18.len x18.cap), (.slice x29.a x29.len x29.cap), (.int .i64 x31)] .bool fun r32 =>
 brB (!r32)
 (K false)
 (X26 ((IntKind.wrap .i64 (s27.1 + (1 : Int))), s27.2.1, ())))
 (X15 ((IntKind.wrap .i64 (s16.1 + (1 : Int))), s27.2.1, ())))
 ((0 : Int), s16.2.1, ()))))
 (nw #[(.int .i64 (-9223372036854775808 : Int)), (.int .i64 (-1048577 : Int)), (.int .i64 (-1048576 : Int)), (.int .i64 (1048576 : Int)), (.int .i64 (1048577 : Int)), (.int .i64 (9223372036854775807 : Int))] ty_int fun b33 =>
 lfp (σ := (Int × (Bool × Unit))) (fun X34 s35 => /-   -/
 brB (decide (s35.1 < (6 : Int)))
 (sx (some (⟨b33, 0, none⟩ : Addr)) 6 s35.1 1 fun p36 =>
 ldT (.int .i64) p36 fun x37 =>
 nw #[(.int .i64 (1 : Int)), (.int .i64 x37)] ty_int fun b38 =>
 nw #[(.int .i64 x37)] ty_int fun b39 =>
 callT Try.prog fn_salvorlaw02_one #[(.slice (some (⟨b38, 0, none⟩ : Addr)) 2 2), (.int .i64 x37), (.slice (some (⟨b39, 0, none⟩ : Addr)) 1 1)] .bool fun r40 =>
 brB (!r40)
 (K false)
 (nw #[(.int .i64 x37), (.int .i64 (2 : Int))] ty_int fun b41 =>
 nw #[(.int .i64 (1 : Int)), (.int .i64 (IntKind.wrap .i64 (0 - x37)))] ty_int fun b42 =>
 callT Try.prog fn_salvorlaw02_pair #[(.slice (some (⟨b41, 0, none⟩ : Addr)) 2 2), (.slice (some (⟨b42, 0, none⟩ : Addr)) 2 2), (.int .i64 x37)] .bool fun r43 =>
 brB (!r43)
 (K false)
 (X34 ((IntKind.wrap .i64 (s35.1 + (1 : Int))), s35.2.1, ()))))
 (lfp (σ := (Int × (Sl × Unit))) (fun X44 s45 => /-  long -/
 brB (decide (s45.1 < (4097 : Int)))
 (nw #[(.int .i64 (IntKind.wrap .i64 (s45.1 + (1 : Int))))] ty_int fun b46 =>
 apd ty_int 1 8 #[(.int .i64 (0 : Int))] ⟨s45.2.1.a, s45.2.1.len, s45.2.1.cap⟩ ⟨(some (⟨b46, 0, none⟩ : Addr)), 1, 1⟩ fun s47 =>
 X44 ((IntKind.wrap .i64 (s45.1 + (1 : Int))), ⟨s47.a, s47.len, s47.cap⟩, ()))
 (callT Try.prog fn_salvorlaw02_Clause #[(.slice s45.2.1.a s45.2.1.len s45.2.1.cap)] .sl fun r48 =>
 slH ⟨r48.a, r48.len, r48.cap⟩ (4096 : Int) 1 fun s49 =>
 slH ⟨r48.a, r48.len, r48.cap⟩ (4096 : Int) 1 fun s50 =>
 callT Try.prog fn_clauses_Union #[(.slice s49.a s49.len s49.cap), (.slice s50.a s50.len s50.cap)] (.tup (.cons .sl (.cons (.int .i64) .nil))) fun r51 =>
 slH ⟨r48.a, r48.len, r48.cap⟩ (4096 : Int) 1 fun s52 =>
 slL ⟨r48.a, r48.len, r48.cap⟩ (4096 : Int) 1 fun s53 =>
 callT Try.prog fn_clauses_Union #[(.slice s52.a s52.len s52.cap), (.slice s53.a s53.len s53.cap)] (.tup (.cons .sl (.cons (.int .i64) .nil))) fun r54 =>
 callT Try.prog fn_clauses_Union #[(.slice r48.a r48.len r48.cap), (.slice none 0 0)] (.tup (.cons .sl (.cons (.int .i64) .nil))) fun r55 =>
 slH ⟨r48.a, r48.len, r48.cap⟩ (4096 : Int) 1 fun s56 =>
 nw #[(.int .i64 (-1 : Int)), (.int .i64 (2 : Int))] ty_lits_Lit fun b57 =>
 callT Try.prog fn_clauses_Resolve #[(.slice s56.a s56.len s56.cap), (.slice (some (⟨b57, 0, none⟩ : Addr)) 2 2), (.int .i64 (1 : Int))] (.tup (.cons .sl (.cons (.int .i64) .nil))) fun r58 =>
 slH ⟨r48.a, r48.len, r48.cap⟩ (4096 : Int) 1 fun s59 =>
 nw #[(.int .i64 (-1 : Int)), (.int .i64 (-2 : Int)), (.int .i64 (-3 : Int))] ty_lits_Lit fun b60 =>
 callT Try.prog fn_clauses_Resolve #[(.slice s59.a s59.len s59.cap), (.slice (some (⟨b60, 0, none⟩ : Addr)) 3 3), (.int .i64 (1 : Int))] (.tup (.cons .sl (.cons (.int .i64) .nil))) fun r61 =>
 slL ⟨r48.a, r48.len, r48.cap⟩ (1 : Int) 1 fun s62 =>
 callT Try.prog fn_clauses_Right #[(.slice s62.a s62.len s62.cap)] .bool fun r63 =>
 brB r63
 (callT Try.prog fn_clauses_Right #[(.slice r48.a r48.len r48.cap)] .bool fun r64 =>
 brB (!r64)
 (sx s45.2.1.a s45.2.1.len (5 : Int) 1 fun p65 =>
 ldT (.int .i64) p65 fun x66 =>
 callT Try.prog fn_salvorref01_Right #[(.int .i64 x66)] .bool fun r67 =>
 brB r67
 (brB ((r51.1.len : Int) == (4096 : Int))
 (brB (r51.2.1 == (0 : Int))
 (brB (r54.2.1 == (5 : Int))
 (brB (r55.2.1 == (20 : Int))
 (brB ((r58.1.len : Int) == (4095 : Int))
 (brB (r58.2.1 == (0 : Int))
 (brB (r61.2.1 == (5 : Int))
 (callT Try.prog fn_salvorlaw02_awake #[] .bool fun r68 =>
 K r68)
 (K false))
 (K false))
 (K false))
 (K false))
 (K false))
 (K false))
 (K false))
 (K false))
 (K false))
 (K false)))
 ((0 : Int), ⟨none, 0, 0⟩, ())))
 ((0 : Int), s16.2.1, ())))
 ((0 : Int), false, ())))
 ((0 : Int), ⟨none, 0, 0⟩, ())
set_option maxRecDepth 100000 in
theorem E_salvorlaw02_ClausesSmall (K : Bool → HP) (h : Heap) : fnVC Try.prog [(1000000, .nil)] 229 Try.f9 [] .bool K h = F_salvorlaw02_ClausesSmall K h := by kernel_rfl
set_option maxRecDepth 100000 in
theorem S_salvorlaw02_ClausesSmall{h : Heap} (K : Bool → HP) (hF : F_salvorlaw02_ClausesSmall K h) : CallsH Try.prog fn_salvorlaw02_ClausesSmall #[] h fun v h' => ∃ x : Bool, v = Ty.enc .bool x ∧ K x h' :=
  callsH_of_fn (P := Try.prog) (fn := Try.f9) (τ := .bool) follows Try.func9 (by kernel_rfl) (by kernel_rfl) Try.call9 (Eq.mpr (E_salvorlaw02_ClausesSmall K h) hF)


/-- salvor/salvorlaw02.ClausesNorm -/
def F_salvorlaw02_ClausesNorm (a0 : Sl) (a1 : Int) (K : Bool → HP) : HP :=
 callT Try.prog fn_salvorlaw02_Made #[(.slice a0.a a0.len a0.cap)] .sl fun r0 =>
 callT Try.prog fn_clauses_Norm #[(.slice r0.a r0.len r0.cap)] (.tup (.cons .sl (.cons .bool (.cons (.int .i64) .nil)))) fun r1 =>
 callT Try.prog fn_clauses_Norm #[(.slice r1.1.a r1.1.len r1.1.cap)] (.tup (.cons .sl (.cons .bool (.cons (.int .i64) .nil)))) fun r2 =>
 brB ((IntKind.wrap .i64 (r1.2.2.1 + r2.2.2.1)) != (0 : Int))
 (K false)
 (brB (!(r1.2.1 == r2.2.1))
 (K false)
 (callT Try.prog fn_slices_Equal_clauses_Clause_lits_Lit #[(.slice r2.1.a r2.1.len r2.1.cap), (.slice r1.1.a r1.1.len r1.1.cap)] .bool fun r3 =>
 brB (!r3)
 (K false)
 (callT Try.prog fn_clauses_Normal #[(.slice r1.1.a r1.1.len r1.1.cap)] .bool fun r4 =>
 brB (!r4)
 (K false)
 (callT Try.prog fn_slices_IsSortedFunc_clauses_Clause_lits_Lit #[(.slice r1.1.a r1.1.len r1.1.cap), (.func (.func fn_lits_Compare) #[] #[])] .bool fun r5 =>
 brB (!r5)
 (K false)
 (callT Try.prog fn_clauses_Same #[(.slice r0.a r0.len r0.cap), (.slice r1.1.a r1.1.len r1.1.cap)] .bool fun r6 =>
 brB (!r6)
 (K false)
 (lfp (σ := (Int × (Bool × Unit))) (fun X7 s8 => /-   -/
 brB (decide (s8.1 < (r1.1.len : Int)))
 (sx r1.1.a r1.1.len s8.1 1 fun p9 =>
 ldT (.int .i64) p9 fun x10 =>
 callT Try.prog fn_slices_Contains_clauses_Clause_lits_Lit #[(.slice r0.a r0.len r0.cap), (.int .i64 x10)] .bool fun r11 =>
 brB (!r11)
 (K false)
 (brB (decide (s8.1 > (0 : Int)))
 (sx r1.1.a r1.1.len (IntKind.wrap .i64 (s8.1 - (1 : Int))) 1 fun p12 =>
 ldT (.int .i64) p12 fun x13 =>
 brB (x13 == x10)
 (K false)
 (X7 ((IntKind.wrap .i64 (s8.1 + (1 : Int))), s8.2.1, ())))
 (X7 ((IntKind.wrap .i64 (s8.1 + (1 : Int))), s8.2.1, ()))))
 (lfp (σ := (Int × (Bool × Unit))) (fun X14 s15 => /-   -/
 brB (decide (s15.1 < (r0.len : Int)))
 (sx r0.a r0.len s15.1 1 fun p16 =>
 ldT (.int .i64) p16 fun x17 =>
 callT Try.prog fn_slices_Contains_clauses_Clause_lits_Lit #[(.slice r1.1.a r1.1.len r1.1.cap), (.int .i64 x17)] .bool fun r18 =>
 brB (!r18)
 (K false)
 (callT Try.prog fn_clauses_Has #[(.slice r0.a r0.len r0.cap), (.int .i64 x17)] .bool fun r19 =>
 brB (!r19)
 (K false)
 (X14 ((IntKind.wrap .i64 (s15.1 + (1 : Int))), s15.2.1, ()))))
 (jn (σ := (Int × Unit)) (fun s21 => /- at -/
 slL ⟨r0.a, r0.len, r0.cap⟩ s21.1 1 fun s22 =>
 slH ⟨r0.a, r0.len, r0.cap⟩ s21.1 1 fun s23 =>
 nw #[(.slice s22.a s22.len s22.cap), (.slice s23.a s23.len s23.cap)] ty_clauses_Clause fun b24 =>
 callT Try.prog fn_slices_Concat_clauses_Clause_lits_Lit #[(.slice (some (⟨b24, 0, none⟩ : Addr)) 2 2)] .sl fun r25 =>
 callT Try.prog fn_clauses_Norm #[(.slice r25.a r25.len r25.cap)] (.tup (.cons .sl (.cons .bool (.cons (.int .i64) .nil)))) fun r26 =>
 lfp (σ := (Int × (Int × (Bool × Unit)))) (fun X27 s28 => /-  count  -/
 brB (decide (s28.1 < (256 : Int)))
 (callT Try.prog fn_salvorlaw02_Model #[(.int .u8 (IntKind.wrap .u8 s28.1))] .sl fun r29 =>
 callT Try.prog fn_clauses_Holds #[(.slice r0.a r0.len r0.cap), (.slice r29.a r29.len r29.cap)] .bool fun r30 =>
 callT Try.prog fn_clauses_Holds #[(.slice r1.1.a r1.1.len r1.1.cap), (.slice r29.a r29.len r29.cap)] .bool fun r31 =>
 brB (!(r30 == r31))
 (K false)
 (callT Try.prog fn_clauses_Holds #[(.slice r0.a r0.len r0.cap), (.slice r29.a r29.len r29.cap)] .bool fun r32 =>
 jn (σ := (Int × Unit)) (fun s34 => /- count -/
 X27 ((IntKind.wrap .i64 (s28.1 + (1 : Int))), s34.1, s28.2.2.1, ()))
 (fun J33 =>
 brB r32
 (J33 ((IntKind.wrap .i64 (s28.2.1 + (1 : Int))), ()))
 (J33 (s28.2.1, ())))))
 (brB (r26.2.2.1 == (0 : Int))
 (callT Try.prog fn_slices_Equal_clauses_Clause_lits_Lit #[(.slice r26.1.a r26.1.len r26.1.cap), (.slice r1.1.a r1.1.len r1.1.cap)] .bool fun r35 =>
 brB r35
 (brB (r1.2.1 == (s28.2.1 == (256 : Int)))
 (brB (((r1.1.len : Int) == (0 : Int)) == (s28.2.1 == (0 : Int)))
 (callT Try.prog fn_salvorlaw02_awake #[] .bool fun r36 =>
 K r36)
 (K false))
 (K false))
 (K false))
 (K false)))
 ((0 : Int), (0 : Int), s15.2.1, ()))
 (fun J20 =>
 brB (decide ((r0.len : Int) > (0 : Int)))
 (nz (r0.len : Int) <|
 J20 ((Int.tmod (IntKind.wrap .i64 a1) (r0.len : Int)), ()))
 (J20 ((0 : Int), ())))))
 ((0 : Int), s8.2.1, ())))
 ((0 : Int), false, ())))))))
set_option maxRecDepth 100000 in
theorem E_salvorlaw02_ClausesNorm (a0 : Sl) (a1 : Int) (K : Bool → HP) (h : Heap) : fnVC Try.prog [(1000000, .nil)] 174 Try.f10 [(.slice a0.a a0.len a0.cap), (.int .u8 a1)] .bool K h = F_salvorlaw02_ClausesNorm a0 a1 K h := by kernel_rfl
set_option maxRecDepth 100000 in
theorem S_salvorlaw02_ClausesNorm{h : Heap} {a0 : Sl} {a1 : Int} (K : Bool → HP) (hF : F_salvorlaw02_ClausesNorm a0 a1 K h) : CallsH Try.prog fn_salvorlaw02_ClausesNorm #[(.slice a0.a a0.len a0.cap), (.int .u8 a1)] h fun v h' => ∃ x : Bool, v = Ty.enc .bool x ∧ K x h' :=
  callsH_of_fn (P := Try.prog) (fn := Try.f10) (τ := .bool) follows Try.func10 (by kernel_rfl) (by kernel_rfl) Try.call10 (Eq.mpr (E_salvorlaw02_ClausesNorm a0 a1 K h) hF)


end Go.Proofs.S
