/- The functions of the seat, each as a predicate over its values, printed by a program of ours, and that each is its text's. -/
import Derived.Test.YtogghgcgehhcaaaSxH
import Derived.KernelRfl
import Derived.Test.YtogghgcgehhcaaaProg
import Derived.Test.YtogghgcgehhcaaaClF0
set_option linter.unusedVariables false
namespace Go.Proofs.S
open Go Go.Sx Go.Proofs
/-- salvor/salvorlaw02.ClausesFollow -/
def F_salvorlaw02_ClausesFollow (a0 : Sl) (a1 : Sl) (a2 : Int) (K : Bool → HP) : HP :=
 nw #[(.int .u8 a2)] ty_uint8 fun b0 =>
 callT Try.prog fn_salvorlaw02_Made #[(.slice (some (⟨b0, 0, none⟩ : Addr)) 1 1)] .sl fun r1 =>
 sx r1.a r1.len (0 : Int) 1 fun p2 =>
 ldT (.int .i64) p2 fun x3 =>
 callT Try.prog fn_salvorlaw02_Made #[(.slice a0.a a0.len a0.cap)] .sl fun r4 =>
 nw #[(.int .i64 x3)] ty_lits_Lit fun b5 =>
 apd ty_lits_Lit 1 8 #[(.int .i64 (0 : Int))] ⟨r4.a, r4.len, r4.cap⟩ ⟨(some (⟨b5, 0, none⟩ : Addr)), 1, 1⟩ fun s6 =>
 callT Try.prog fn_salvorlaw02_Made #[(.slice a1.a a1.len a1.cap)] .sl fun r7 =>
 nw #[(.int .i64 (IntKind.wrap .i64 (0 - x3)))] ty_lits_Lit fun b8 =>
 apd ty_lits_Lit 1 8 #[(.int .i64 (0 : Int))] ⟨r7.a, r7.len, r7.cap⟩ ⟨(some (⟨b8, 0, none⟩ : Addr)), 1, 1⟩ fun s9 =>
 callT Try.prog fn_clauses_Resolve #[(.slice s6.a s6.len s6.cap), (.slice s9.a s9.len s9.cap), (.int .i64 x3)] (.tup (.cons .sl (.cons (.int .i64) .nil))) fun r10 =>
 callT Try.prog fn_clauses_Clashes #[(.slice s6.a s6.len s6.cap), (.slice s9.a s9.len s9.cap)] (.tup (.cons .sl (.cons (.int .i64) .nil))) fun r11 =>
 brB ((IntKind.wrap .i64 (r10.2.1 + r11.2.1)) != (0 : Int))
 (K false)
 (brB ((r11.1.len : Int) == (0 : Int))
 (K false)
 (callT Try.prog fn_slices_Contains_lits_Lit_lits_Lit #[(.slice r11.1.a r11.1.len r11.1.cap), (.int .i64 x3)] .bool fun r12 =>
 brB (!r12)
 (K false)
 (callT Try.prog fn_clauses_Has #[(.slice r10.1.a r10.1.len r10.1.cap), (.int .i64 x3)] .bool fun r13 =>
 brB r13
 (callT Try.prog fn_clauses_Has #[(.slice s9.a s9.len s9.cap), (.int .i64 x3)] .bool fun r14 =>
 brB (!r14)
 (K false)
 (callT Try.prog fn_clauses_Has #[(.slice r10.1.a r10.1.len r10.1.cap), (.int .i64 (IntKind.wrap .i64 (0 - x3)))] .bool fun r15 =>
 brB r15
 (callT Try.prog fn_clauses_Has #[(.slice s6.a s6.len s6.cap), (.int .i64 (IntKind.wrap .i64 (0 - x3)))] .bool fun r16 =>
 brB (!r16)
 (K false)
 (brB (decide ((r11.1.len : Int) > (1 : Int)))
 (callT Try.prog fn_clauses_Always #[(.slice r10.1.a r10.1.len r10.1.cap)] .bool fun r17 =>
 brB (!r17)
 (K false)
 (callT Try.prog fn_clauses_Without #[(.slice s6.a s6.len s6.cap), (.int .i64 x3)] (.tup (.cons .sl (.cons (.int .i64) .nil))) fun r18 =>
 callT Try.prog fn_clauses_Without #[(.slice s9.a s9.len s9.cap), (.int .i64 (IntKind.wrap .i64 (0 - x3)))] (.tup (.cons .sl (.cons (.int .i64) .nil))) fun r19 =>
 brB ((IntKind.wrap .i64 (r18.2.1 + r19.2.1)) != (0 : Int))
 (K false)
 (lfp (σ := (Int × (Bool × Unit))) (fun X20 s21 => /-   -/
 brB (decide (s21.1 < (256 : Int)))
 (callT Try.prog fn_salvorlaw02_Model #[(.int .u8 (IntKind.wrap .u8 s21.1))] .sl fun r22 =>
 callT Try.prog fn_clauses_Holds #[(.slice r10.1.a r10.1.len r10.1.cap), (.slice r22.a r22.len r22.cap)] .bool fun r23 =>
 callT Try.prog fn_clauses_Holds #[(.slice s6.a s6.len s6.cap), (.slice r22.a r22.len r22.cap)] .bool fun r24 =>
 brB r24
 (callT Try.prog fn_clauses_Holds #[(.slice s9.a s9.len s9.cap), (.slice r22.a r22.len r22.cap)] .bool fun r25 =>
 brB r25
 (brB (!r23)
 (K false)
 (callT Try.prog fn_clauses_Holds #[(.slice r18.1.a r18.1.len r18.1.cap), (.slice r22.a r22.len r22.cap)] .bool fun r26 =>
 brB r26
 (brB (!(r23 == true))
 (K false)
 (X20 ((IntKind.wrap .i64 (s21.1 + (1 : Int))), s21.2.1, ())))
 (callT Try.prog fn_clauses_Holds #[(.slice r19.1.a r19.1.len r19.1.cap), (.slice r22.a r22.len r22.cap)] .bool fun r27 =>
 brB (!(r23 == r27))
 (K false)
 (X20 ((IntKind.wrap .i64 (s21.1 + (1 : Int))), s21.2.1, ())))))
 (callT Try.prog fn_clauses_Holds #[(.slice r18.1.a r18.1.len r18.1.cap), (.slice r22.a r22.len r22.cap)] .bool fun r28 =>
 brB r28
 (brB (!(r23 == true))
 (K false)
 (X20 ((IntKind.wrap .i64 (s21.1 + (1 : Int))), s21.2.1, ())))
 (callT Try.prog fn_clauses_Holds #[(.slice r19.1.a r19.1.len r19.1.cap), (.slice r22.a r22.len r22.cap)] .bool fun r29 =>
 brB (!(r23 == r29))
 (K false)
 (X20 ((IntKind.wrap .i64 (s21.1 + (1 : Int))), s21.2.1, ())))))
 (callT Try.prog fn_clauses_Holds #[(.slice r18.1.a r18.1.len r18.1.cap), (.slice r22.a r22.len r22.cap)] .bool fun r30 =>
 brB r30
 (brB (!(r23 == true))
 (K false)
 (X20 ((IntKind.wrap .i64 (s21.1 + (1 : Int))), s21.2.1, ())))
 (callT Try.prog fn_clauses_Holds #[(.slice r19.1.a r19.1.len r19.1.cap), (.slice r22.a r22.len r22.cap)] .bool fun r31 =>
 brB (!(r23 == r31))
 (K false)
 (X20 ((IntKind.wrap .i64 (s21.1 + (1 : Int))), s21.2.1, ())))))
 (callT Try.prog fn_salvorlaw02_awake #[] .bool fun r32 =>
 K r32))
 ((0 : Int), false, ()))))
 (callT Try.prog fn_clauses_Without #[(.slice s6.a s6.len s6.cap), (.int .i64 x3)] (.tup (.cons .sl (.cons (.int .i64) .nil))) fun r33 =>
 callT Try.prog fn_clauses_Without #[(.slice s9.a s9.len s9.cap), (.int .i64 (IntKind.wrap .i64 (0 - x3)))] (.tup (.cons .sl (.cons (.int .i64) .nil))) fun r34 =>
 brB ((IntKind.wrap .i64 (r33.2.1 + r34.2.1)) != (0 : Int))
 (K false)
 (lfp (σ := (Int × (Bool × Unit))) (fun X35 s36 => /-   -/
 brB (decide (s36.1 < (256 : Int)))
 (callT Try.prog fn_salvorlaw02_Model #[(.int .u8 (IntKind.wrap .u8 s36.1))] .sl fun r37 =>
 callT Try.prog fn_clauses_Holds #[(.slice r10.1.a r10.1.len r10.1.cap), (.slice r37.a r37.len r37.cap)] .bool fun r38 =>
 callT Try.prog fn_clauses_Holds #[(.slice s6.a s6.len s6.cap), (.slice r37.a r37.len r37.cap)] .bool fun r39 =>
 brB r39
 (callT Try.prog fn_clauses_Holds #[(.slice s9.a s9.len s9.cap), (.slice r37.a r37.len r37.cap)] .bool fun r40 =>
 brB r40
 (brB (!r38)
 (K false)
 (callT Try.prog fn_clauses_Holds #[(.slice r33.1.a r33.1.len r33.1.cap), (.slice r37.a r37.len r37.cap)] .bool fun r41 =>
 brB r41
 (brB (!(r38 == true))
 (K false)
 (X35 ((IntKind.wrap .i64 (s36.1 + (1 : Int))), s36.2.1, ())))
 (callT Try.prog fn_clauses_Holds #[(.slice r34.1.a r34.1.len r34.1.cap), (.slice r37.a r37.len r37.cap)] .bool fun r42 =>
 brB (!(r38 == r42))
 (K false)
 (X35 ((IntKind.wrap .i64 (s36.1 + (1 : Int))), s36.2.1, ())))))
 (callT Try.prog fn_clauses_Holds #[(.slice r33.1.a r33.1.len r33.1.cap), (.slice r37.a r37.len r37.cap)] .bool fun r43 =>
 brB r43
 (brB (!(r38 == true))
 (K false)
 (X35 ((IntKind.wrap .i64 (s36.1 + (1 : Int))), s36.2.1, ())))
 (callT Try.prog fn_clauses_Holds #[(.slice r34.1.a r34.1.len r34.1.cap), (.slice r37.a r37.len r37.cap)] .bool fun r44 =>
 brB (!(r38 == r44))
 (K false)
 (X35 ((IntKind.wrap .i64 (s36.1 + (1 : Int))), s36.2.1, ())))))
 (callT Try.prog fn_clauses_Holds #[(.slice r33.1.a r33.1.len r33.1.cap), (.slice r37.a r37.len r37.cap)] .bool fun r45 =>
 brB r45
 (brB (!(r38 == true))
 (K false)
 (X35 ((IntKind.wrap .i64 (s36.1 + (1 : Int))), s36.2.1, ())))
 (callT Try.prog fn_clauses_Holds #[(.slice r34.1.a r34.1.len r34.1.cap), (.slice r37.a r37.len r37.cap)] .bool fun r46 =>
 brB (!(r38 == r46))
 (K false)
 (X35 ((IntKind.wrap .i64 (s36.1 + (1 : Int))), s36.2.1, ())))))
 (callT Try.prog fn_salvorlaw02_awake #[] .bool fun r47 =>
 K r47))
 ((0 : Int), false, ())))))
 (brB (decide ((r11.1.len : Int) > (1 : Int)))
 (callT Try.prog fn_clauses_Always #[(.slice r10.1.a r10.1.len r10.1.cap)] .bool fun r48 =>
 brB (!r48)
 (K false)
 (callT Try.prog fn_clauses_Without #[(.slice s6.a s6.len s6.cap), (.int .i64 x3)] (.tup (.cons .sl (.cons (.int .i64) .nil))) fun r49 =>
 callT Try.prog fn_clauses_Without #[(.slice s9.a s9.len s9.cap), (.int .i64 (IntKind.wrap .i64 (0 - x3)))] (.tup (.cons .sl (.cons (.int .i64) .nil))) fun r50 =>
 brB ((IntKind.wrap .i64 (r49.2.1 + r50.2.1)) != (0 : Int))
 (K false)
 (lfp (σ := (Int × (Bool × Unit))) (fun X51 s52 => /-   -/
 brB (decide (s52.1 < (256 : Int)))
 (callT Try.prog fn_salvorlaw02_Model #[(.int .u8 (IntKind.wrap .u8 s52.1))] .sl fun r53 =>
 callT Try.prog fn_clauses_Holds #[(.slice r10.1.a r10.1.len r10.1.cap), (.slice r53.a r53.len r53.cap)] .bool fun r54 =>
 callT Try.prog fn_clauses_Holds #[(.slice s6.a s6.len s6.cap), (.slice r53.a r53.len r53.cap)] .bool fun r55 =>
 brB r55
 (callT Try.prog fn_clauses_Holds #[(.slice s9.a s9.len s9.cap), (.slice r53.a r53.len r53.cap)] .bool fun r56 =>
 brB r56
 (brB (!r54)
 (K false)
 (callT Try.prog fn_clauses_Holds #[(.slice r49.1.a r49.1.len r49.1.cap), (.slice r53.a r53.len r53.cap)] .bool fun r57 =>
 brB r57
 (brB (!(r54 == true))
 (K false)
 (X51 ((IntKind.wrap .i64 (s52.1 + (1 : Int))), s52.2.1, ())))
 (callT Try.prog fn_clauses_Holds #[(.slice r50.1.a r50.1.len r50.1.cap), (.slice r53.a r53.len r53.cap)] .bool fun r58 =>
 brB (!(r54 == r58))
 (K false)
 (X51 ((IntKind.wrap .i64 (s52.1 + (1 : Int))), s52.2.1, ())))))
 (callT Try.prog fn_clauses_Holds #[(.slice r49.1.a r49.1.len r49.1.cap), (.slice r53.a r53.len r53.cap)] .bool fun r59 =>
 brB r59
 (brB (!(r54 == true))
 (K false)
 (X51 ((IntKind.wrap .i64 (s52.1 + (1 : Int))), s52.2.1, ())))
 (callT Try.prog fn_clauses_Holds #[(.slice r50.1.a r50.1.len r50.1.cap), (.slice r53.a r53.len r53.cap)] .bool fun r60 =>
 brB (!(r54 == r60))
 (K false)
 (X51 ((IntKind.wrap .i64 (s52.1 + (1 : Int))), s52.2.1, ())))))
 (callT Try.prog fn_clauses_Holds #[(.slice r49.1.a r49.1.len r49.1.cap), (.slice r53.a r53.len r53.cap)] .bool fun r61 =>
 brB r61
 (brB (!(r54 == true))
 (K false)
 (X51 ((IntKind.wrap .i64 (s52.1 + (1 : Int))), s52.2.1, ())))
 (callT Try.prog fn_clauses_Holds #[(.slice r50.1.a r50.1.len r50.1.cap), (.slice r53.a r53.len r53.cap)] .bool fun r62 =>
 brB (!(r54 == r62))
 (K false)
 (X51 ((IntKind.wrap .i64 (s52.1 + (1 : Int))), s52.2.1, ())))))
 (callT Try.prog fn_salvorlaw02_awake #[] .bool fun r63 =>
 K r63))
 ((0 : Int), false, ()))))
 (callT Try.prog fn_clauses_Without #[(.slice s6.a s6.len s6.cap), (.int .i64 x3)] (.tup (.cons .sl (.cons (.int .i64) .nil))) fun r64 =>
 callT Try.prog fn_clauses_Without #[(.slice s9.a s9.len s9.cap), (.int .i64 (IntKind.wrap .i64 (0 - x3)))] (.tup (.cons .sl (.cons (.int .i64) .nil))) fun r65 =>
 brB ((IntKind.wrap .i64 (r64.2.1 + r65.2.1)) != (0 : Int))
 (K false)
 (lfp (σ := (Int × (Bool × Unit))) (fun X66 s67 => /-   -/
 brB (decide (s67.1 < (256 : Int)))
 (callT Try.prog fn_salvorlaw02_Model #[(.int .u8 (IntKind.wrap .u8 s67.1))] .sl fun r68 =>
 callT Try.prog fn_clauses_Holds #[(.slice r10.1.a r10.1.len r10.1.cap), (.slice r68.a r68.len r68.cap)] .bool fun r69 =>
 callT Try.prog fn_clauses_Holds #[(.slice s6.a s6.len s6.cap), (.slice r68.a r68.len r68.cap)] .bool fun r70 =>
 brB r70
 (callT Try.prog fn_clauses_Holds #[(.slice s9.a s9.len s9.cap), (.slice r68.a r68.len r68.cap)] .bool fun r71 =>
 brB r71
 (brB (!r69)
 (K false)
 (callT Try.prog fn_clauses_Holds #[(.slice r64.1.a r64.1.len r64.1.cap), (.slice r68.a r68.len r68.cap)] .bool fun r72 =>
 brB r72
 (brB (!(r69 == true))
 (K false)
 (X66 ((IntKind.wrap .i64 (s67.1 + (1 : Int))), s67.2.1, ())))
 (callT Try.prog fn_clauses_Holds #[(.slice r65.1.a r65.1.len r65.1.cap), (.slice r68.a r68.len r68.cap)] .bool fun r73 =>
 brB (!(r69 == r73))
 (K false)
 (X66 ((IntKind.wrap .i64 (s67.1 + (1 : Int))), s67.2.1, ())))))
 (callT Try.prog fn_clauses_Holds #[(.slice r64.1.a r64.1.len r64.1.cap), (.slice r68.a r68.len r68.cap)] .bool fun r74 =>
 brB r74
 (brB (!(r69 == true))
 (K false)
 (X66 ((IntKind.wrap .i64 (s67.1 + (1 : Int))), s67.2.1, ())))
 (callT Try.prog fn_clauses_Holds #[(.slice r65.1.a r65.1.len r65.1.cap), (.slice r68.a r68.len r68.cap)] .bool fun r75 =>
 brB (!(r69 == r75))
 (K false)
 (X66 ((IntKind.wrap .i64 (s67.1 + (1 : Int))), s67.2.1, ())))))
 (callT Try.prog fn_clauses_Holds #[(.slice r64.1.a r64.1.len r64.1.cap), (.slice r68.a r68.len r68.cap)] .bool fun r76 =>
 brB r76
 (brB (!(r69 == true))
 (K false)
 (X66 ((IntKind.wrap .i64 (s67.1 + (1 : Int))), s67.2.1, ())))
 (callT Try.prog fn_clauses_Holds #[(.slice r65.1.a r65.1.len r65.1.cap), (.slice r68.a r68.len r68.cap)] .bool fun r77 =>
 brB (!(r69 == r77))
 (K false)
 (X66 ((IntKind.wrap .i64 (s67.1 + (1 : Int))), s67.2.1, ())))))
 (callT Try.prog fn_salvorlaw02_awake #[] .bool fun r78 =>
 K r78))
 ((0 : Int), false, ()))))))
 (callT Try.prog fn_clauses_Has #[(.slice r10.1.a r10.1.len r10.1.cap), (.int .i64 (IntKind.wrap .i64 (0 - x3)))] .bool fun r79 =>
 brB r79
 (callT Try.prog fn_clauses_Has #[(.slice s6.a s6.len s6.cap), (.int .i64 (IntKind.wrap .i64 (0 - x3)))] .bool fun r80 =>
 brB (!r80)
 (K false)
 (brB (decide ((r11.1.len : Int) > (1 : Int)))
 (callT Try.prog fn_clauses_Always #[(.slice r10.1.a r10.1.len r10.1.cap)] .bool fun r81 =>
 brB (!r81)
 (K false)
 (callT Try.prog fn_clauses_Without #[(.slice s6.a s6.len s6.cap), (.int .i64 x3)] (.tup (.cons .sl (.cons (.int .i64) .nil))) fun r82 =>
 callT Try.prog fn_clauses_Without #[(.slice s9.a s9.len s9.cap), (.int .i64 (IntKind.wrap .i64 (0 - x3)))] (.tup (.cons .sl (.cons (.int .i64) .nil))) fun r83 =>
 brB ((IntKind.wrap .i64 (r82.2.1 + r83.2.1)) != (0 : Int))
 (K false)
 (lfp (σ := (Int × (Bool × Unit))) (fun X84 s85 => /-   -/
 brB (decide (s85.1 < (256 : Int)))
 (callT Try.prog fn_salvorlaw02_Model #[(.int .u8 (IntKind.wrap .u8 s85.1))] .sl fun r86 =>
 callT Try.prog fn_clauses_Holds #[(.slice r10.1.a r10.1.len r10.1.cap), (.slice r86.a r86.len r86.cap)] .bool fun r87 =>
 callT Try.prog fn_clauses_Holds #[(.slice s6.a s6.len s6.cap), (.slice r86.a r86.len r86.cap)] .bool fun r88 =>
 brB r88
 (callT Try.prog fn_clauses_Holds #[(.slice s9.a s9.len s9.cap), (.slice r86.a r86.len r86.cap)] .bool fun r89 =>
 brB r89
 (brB (!r87)
 (K false)
 (callT Try.prog fn_clauses_Holds #[(.slice r82.1.a r82.1.len r82.1.cap), (.slice r86.a r86.len r86.cap)] .bool fun r90 =>
 brB r90
 (brB (!(r87 == true))
 (K false)
 (X84 ((IntKind.wrap .i64 (s85.1 + (1 : Int))), s85.2.1, ())))
 (callT Try.prog fn_clauses_Holds #[(.slice r83.1.a r83.1.len r83.1.cap), (.slice r86.a r86.len r86.cap)] .bool fun r91 =>
 brB (!(r87 == r91))
 (K false)
 (X84 ((IntKind.wrap .i64 (s85.1 + (1 : Int))), s85.2.1, ())))))
 (callT Try.prog fn_clauses_Holds #[(.slice r82.1.a r82.1.len r82.1.cap), (.slice r86.a r86.len r86.cap)] .bool fun r92 =>
 brB r92
 (brB (!(r87 == true))
 (K false)
 (X84 ((IntKind.wrap .i64 (s85.1 + (1 : Int))), s85.2.1, ())))
 (callT Try.prog fn_clauses_Holds #[(.slice r83.1.a r83.1.len r83.1.cap), (.slice r86.a r86.len r86.cap)] .bool fun r93 =>
 brB (!(r87 == r93))
 (K false)
 (X84 ((IntKind.wrap .i64 (s85.1 + (1 : Int))), s85.2.1, ())))))
 (callT Try.prog fn_clauses_Holds #[(.slice r82.1.a r82.1.len r82.1.cap), (.slice r86.a r86.len r86.cap)] .bool fun r94 =>
 brB r94
 (brB (!(r87 == true))
 (K false)
 (X84 ((IntKind.wrap .i64 (s85.1 + (1 : Int))), s85.2.1, ())))
 (callT Try.prog fn_clauses_Holds #[(.slice r83.1.a r83.1.len r83.1.cap), (.slice r86.a r86.len r86.cap)] .bool fun r95 =>
 brB (!(r87 == r95))
 (K false)
 (X84 ((IntKind.wrap .i64 (s85.1 + (1 : Int))), s85.2.1, ())))))
 (callT Try.prog fn_salvorlaw02_awake #[] .bool fun r96 =>
 K r96))
 ((0 : Int), false, ()))))
 (callT Try.prog fn_clauses_Without #[(.slice s6.a s6.len s6.cap), (.int .i64 x3)] (.tup (.cons .sl (.cons (.int .i64) .nil))) fun r97 =>
 callT Try.prog fn_clauses_Without #[(.slice s9.a s9.len s9.cap), (.int .i64 (IntKind.wrap .i64 (0 - x3)))] (.tup (.cons .sl (.cons (.int .i64) .nil))) fun r98 =>
 brB ((IntKind.wrap .i64 (r97.2.1 + r98.2.1)) != (0 : Int))
 (K false)
 (lfp (σ := (Int × (Bool × Unit))) (fun X99 s100 => /-   -/
 brB (decide (s100.1 < (256 : Int)))
 (callT Try.prog fn_salvorlaw02_Model #[(.int .u8 (IntKind.wrap .u8 s100.1))] .sl fun r101 =>
 callT Try.prog fn_clauses_Holds #[(.slice r10.1.a r10.1.len r10.1.cap), (.slice r101.a r101.len r101.cap)] .bool fun r102 =>
 callT Try.prog fn_clauses_Holds #[(.slice s6.a s6.len s6.cap), (.slice r101.a r101.len r101.cap)] .bool fun r103 =>
 brB r103
 (callT Try.prog fn_clauses_Holds #[(.slice s9.a s9.len s9.cap), (.slice r101.a r101.len r101.cap)] .bool fun r104 =>
 brB r104
 (brB (!r102)
 (K false)
 (callT Try.prog fn_clauses_Holds #[(.slice r97.1.a r97.1.len r97.1.cap), (.slice r101.a r101.len r101.cap)] .bool fun r105 =>
 brB r105
 (brB (!(r102 == true))
 (K false)
 (X99 ((IntKind.wrap .i64 (s100.1 + (1 : Int))), s100.2.1, ())))
 (callT Try.prog fn_clauses_Holds #[(.slice r98.1.a r98.1.len r98.1.cap), (.slice r101.a r101.len r101.cap)] .bool fun r106 =>
 brB (!(r102 == r106))
 (K false)
 (X99 ((IntKind.wrap .i64 (s100.1 + (1 : Int))), s100.2.1, ())))))
 (callT Try.prog fn_clauses_Holds #[(.slice r97.1.a r97.1.len r97.1.cap), (.slice r101.a r101.len r101.cap)] .bool fun r107 =>
 brB r107
 (brB (!(r102 == true))
 (K false)
 (X99 ((IntKind.wrap .i64 (s100.1 + (1 : Int))), s100.2.1, ())))
 (callT Try.prog fn_clauses_Holds #[(.slice r98.1.a r98.1.len r98.1.cap), (.slice r101.a r101.len r101.cap)] .bool fun r108 =>
 brB (!(r102 == r108))
 (K false)
 (X99 ((IntKind.wrap .i64 (s100.1 + (1 : Int))), s100.2.1, ())))))
 (callT Try.prog fn_clauses_Holds #[(.slice r97.1.a r97.1.len r97.1.cap), (.slice r101.a r101.len r101.cap)] .bool fun r109 =>
 brB r109
 (brB (!(r102 == true))
 (K false)
 (X99 ((IntKind.wrap .i64 (s100.1 + (1 : Int))), s100.2.1, ())))
 (callT Try.prog fn_clauses_Holds #[(.slice r98.1.a r98.1.len r98.1.cap), (.slice r101.a r101.len r101.cap)] .bool fun r110 =>
 brB (!(r102 == r110))
 (K false)
 (X99 ((IntKind.wrap .i64 (s100.1 + (1 : Int))), s100.2.1, ())))))
 (callT Try.prog fn_salvorlaw02_awake #[] .bool fun r111 =>
 K r111))
 ((0 : Int), false, ())))))
 (brB (decide ((r11.1.len : Int) > (1 : Int)))
 (callT Try.prog fn_clauses_Always #[(.slice r10.1.a r10.1.len r10.1.cap)] .bool fun r112 =>
 brB (!r112)
 (K false)
 (callT Try.prog fn_clauses_Without #[(.slice s6.a s6.len s6.cap), (.int .i64 x3)] (.tup (.cons .sl (.cons (.int .i64) .nil))) fun r113 =>
 callT Try.prog fn_clauses_Without #[(.slice s9.a s9.len s9.cap), (.int .i64 (IntKind.wrap .i64 (0 - x3)))] (.tup (.cons .sl (.cons (.int .i64) .nil))) fun r114 =>
 brB ((IntKind.wrap .i64 (r113.2.1 + r114.2.1)) != (0 : Int))
 (K false)
 (lfp (σ := (Int × (Bool × Unit))) (fun X115 s116 => /-   -/
 brB (decide (s116.1 < (256 : Int)))
 (callT Try.prog fn_salvorlaw02_Model #[(.int .u8 (IntKind.wrap .u8 s116.1))] .sl fun r117 =>
 callT Try.prog fn_clauses_Holds #[(.slice r10.1.a r10.1.len r10.1.cap), (.slice r117.a r117.len r117.cap)] .bool fun r118 =>
 callT Try.prog fn_clauses_Holds #[(.slice s6.a s6.len s6.cap), (.slice r117.a r117.len r117.cap)] .bool fun r119 =>
 brB r119
 (callT Try.prog fn_clauses_Holds #[(.slice s9.a s9.len s9.cap), (.slice r117.a r117.len r117.cap)] .bool fun r120 =>
 brB r120
 (brB (!r118)
 (K false)
 (callT Try.prog fn_clauses_Holds #[(.slice r113.1.a r113.1.len r113.1.cap), (.slice r117.a r117.len r117.cap)] .bool fun r121 =>
 brB r121
 (brB (!(r118 == true))
 (K false)
 (X115 ((IntKind.wrap .i64 (s116.1 + (1 : Int))), s116.2.1, ())))
 (callT Try.prog fn_clauses_Holds #[(.slice r114.1.a r114.1.len r114.1.cap), (.slice r117.a r117.len r117.cap)] .bool fun r122 =>
 brB (!(r118 == r122))
 (K false)
 (X115 ((IntKind.wrap .i64 (s116.1 + (1 : Int))), s116.2.1, ())))))
 (callT Try.prog fn_clauses_Holds #[(.slice r113.1.a r113.1.len r113.1.cap), (.slice r117.a r117.len r117.cap)] .bool fun r123 =>
 brB r123
 (brB (!(r118 == true))
 (K false)
 (X115 ((IntKind.wrap .i64 (s116.1 + (1 : Int))), s116.2.1, ())))
 (callT Try.prog fn_clauses_Holds #[(.slice r114.1.a r114.1.len r114.1.cap), (.slice r117.a r117.len r117.cap)] .bool fun r124 =>
 brB (!(r118 == r124))
 (K false)
 (X115 ((IntKind.wrap .i64 (s116.1 + (1 : Int))), s116.2.1, ())))))
 (callT Try.prog fn_clauses_Holds #[(.slice r113.1.a r113.1.len r113.1.cap), (.slice r117.a r117.len r117.cap)] .bool fun r125 =>
 brB r125
 (brB (!(r118 == true))
 (K false)
 (X115 ((IntKind.wrap .i64 (s116.1 + (1 : Int))), s116.2.1, ())))
 (callT Try.prog fn_clauses_Holds #[(.slice r114.1.a r114.1.len r114.1.cap), (.slice r117.a r117.len r117.cap)] .bool fun r126 =>
 brB (!(r118 == r126))
 (K false)
 (X115 ((IntKind.wrap .i64 (s116.1 + (1 : Int))), s116.2.1, ())))))
 (callT Try.prog fn_salvorlaw02_awake #[] .bool fun r127 =>
 K r127))
 ((0 : Int), false, ()))))
 (callT Try.prog fn_clauses_Without #[(.slice s6.a s6.len s6.cap), (.int .i64 x3)] (.tup (.cons .sl (.cons (.int .i64) .nil))) fun r128 =>
 callT Try.prog fn_clauses_Without #[(.slice s9.a s9.len s9.cap), (.int .i64 (IntKind.wrap .i64 (0 - x3)))] (.tup (.cons .sl (.cons (.int .i64) .nil))) fun r129 =>
 brB ((IntKind.wrap .i64 (r128.2.1 + r129.2.1)) != (0 : Int))
 (K false)
 (lfp (σ := (Int × (Bool × Unit))) (fun X130 s131 => /-   -/
 brB (decide (s131.1 < (256 : Int)))
 (callT Try.prog fn_salvorlaw02_Model #[(.int .u8 (IntKind.wrap .u8 s131.1))] .sl fun r132 =>
 callT Try.prog fn_clauses_Holds #[(.slice r10.1.a r10.1.len r10.1.cap), (.slice r132.a r132.len r132.cap)] .bool fun r133 =>
 callT Try.prog fn_clauses_Holds #[(.slice s6.a s6.len s6.cap), (.slice r132.a r132.len r132.cap)] .bool fun r134 =>
 brB r134
 (callT Try.prog fn_clauses_Holds #[(.slice s9.a s9.len s9.cap), (.slice r132.a r132.len r132.cap)] .bool fun r135 =>
 brB r135
 (brB (!r133)
 (K false)
 (callT Try.prog fn_clauses_Holds #[(.slice r128.1.a r128.1.len r128.1.cap), (.slice r132.a r132.len r132.cap)] .bool fun r136 =>
 brB r136
 (brB (!(r133 == true))
 (K false)
 (X130 ((IntKind.wrap .i64 (s131.1 + (1 : Int))), s131.2.1, ())))
 (callT Try.prog fn_clauses_Holds #[(.slice r129.1.a r129.1.len r129.1.cap), (.slice r132.a r132.len r132.cap)] .bool fun r137 =>
 brB (!(r133 == r137))
 (K false)
 (X130 ((IntKind.wrap .i64 (s131.1 + (1 : Int))), s131.2.1, ())))))
 (callT Try.prog fn_clauses_Holds #[(.slice r128.1.a r128.1.len r128.1.cap), (.slice r132.a r132.len r132.cap)] .bool fun r138 =>
 brB r138
 (brB (!(r133 == true))
 (K false)
 (X130 ((IntKind.wrap .i64 (s131.1 + (1 : Int))), s131.2.1, ())))
 (callT Try.prog fn_clauses_Holds #[(.slice r129.1.a r129.1.len r129.1.cap), (.slice r132.a r132.len r132.cap)] .bool fun r139 =>
 brB (!(r133 == r139))
 (K false)
 (X130 ((IntKind.wrap .i64 (s131.1 + (1 : Int))), s131.2.1, ())))))
 (callT Try.prog fn_clauses_Holds #[(.slice r128.1.a r128.1.len r128.1.cap), (.slice r132.a r132.len r132.cap)] .bool fun r140 =>
 brB r140
 (brB (!(r133 == true))
 (K false)
 (X130 ((IntKind.wrap .i64 (s131.1 + (1 : Int))), s131.2.1, ())))
 (callT Try.prog fn_clauses_Holds #[(.slice r129.1.a r129.1.len r129.1.cap), (.slice r132.a r132.len r132.cap)] .bool fun r141 =>
 brB (!(r133 == r141))
 (K false)
 (X130 ((IntKind.wrap .i64 (s131.1 + (1 : Int))), s131.2.1, ())))))
 (callT Try.prog fn_salvorlaw02_awake #[] .bool fun r142 =>
 K r142))
 ((0 : Int), false, ()))))))))
set_option maxRecDepth 100000 in
theorem E_salvorlaw02_ClausesFollow (a0 : Sl) (a1 : Sl) (a2 : Int) (K : Bool → HP) (h : Heap) : fnVC Try.prog [(1000000, .nil)] 147 Try.f3 [(.slice a0.a a0.len a0.cap), (.slice a1.a a1.len a1.cap), (.int .u8 a2)] .bool K h = F_salvorlaw02_ClausesFollow a0 a1 a2 K h := by kernel_rfl
set_option maxRecDepth 100000 in
theorem S_salvorlaw02_ClausesFollow{h : Heap} {a0 : Sl} {a1 : Sl} {a2 : Int} (K : Bool → HP) (hF : F_salvorlaw02_ClausesFollow a0 a1 a2 K h) : CallsH Try.prog fn_salvorlaw02_ClausesFollow #[(.slice a0.a a0.len a0.cap), (.slice a1.a a1.len a1.cap), (.int .u8 a2)] h fun v h' => ∃ x : Bool, v = Ty.enc .bool x ∧ K x h' :=
  callsH_of_fn (P := Try.prog) (fn := Try.f3) (τ := .bool) follows Try.func3 (by kernel_rfl) (by kernel_rfl) Try.call3 (Eq.mpr (E_salvorlaw02_ClausesFollow a0 a1 a2 K h) hF)


/-- salvor/salvorlaw02.ClausesOne -/
def F_salvorlaw02_ClausesOne (a0 : Sl) (a1 : Int) (a2 : Sl) (K : Bool → HP) : HP :=
 brB (decide ((a0.len : Int) > (200 : Int)))
 (callT Try.prog fn_salvorlaw02_awake #[] .bool fun r0 =>
 K r0)
 (brB (decide ((a2.len : Int) > (100 : Int)))
 (callT Try.prog fn_salvorlaw02_awake #[] .bool fun r1 =>
 K r1)
 (callT Try.prog fn_salvorlaw02_one #[(.slice a0.a a0.len a0.cap), (.int .i64 a1), (.slice a2.a a2.len a2.cap)] .bool fun r2 =>
 brB r2
 (callT Try.prog fn_salvorlaw02_awake #[] .bool fun r3 =>
 K r3)
 (K false)))
set_option maxRecDepth 100000 in
theorem E_salvorlaw02_ClausesOne (a0 : Sl) (a1 : Int) (a2 : Sl) (K : Bool → HP) (h : Heap) : fnVC Try.prog [(1000000, .nil)] 24 Try.f4 [(.slice a0.a a0.len a0.cap), (.int .i64 a1), (.slice a2.a a2.len a2.cap)] .bool K h = F_salvorlaw02_ClausesOne a0 a1 a2 K h := by kernel_rfl
set_option maxRecDepth 100000 in
theorem S_salvorlaw02_ClausesOne{h : Heap} {a0 : Sl} {a1 : Int} {a2 : Sl} (K : Bool → HP) (hF : F_salvorlaw02_ClausesOne a0 a1 a2 K h) : CallsH Try.prog fn_salvorlaw02_ClausesOne #[(.slice a0.a a0.len a0.cap), (.int .i64 a1), (.slice a2.a a2.len a2.cap)] h fun v h' => ∃ x : Bool, v = Ty.enc .bool x ∧ K x h' :=
  callsH_of_fn (P := Try.prog) (fn := Try.f4) (τ := .bool) follows Try.func4 (by kernel_rfl) (by kernel_rfl) Try.call4 (Eq.mpr (E_salvorlaw02_ClausesOne a0 a1 a2 K h) hF)


/-- salvor/salvorlaw02.ClausesPairs -/
def F_salvorlaw02_ClausesPairs (a0 : Sl) (a1 : Sl) (a2 : Int) (K : Bool → HP) : HP :=
 brB (decide ((a0.len : Int) > (200 : Int)))
 (callT Try.prog fn_salvorlaw02_awake #[] .bool fun r0 =>
 K r0)
 (brB (decide ((a1.len : Int) > (200 : Int)))
 (callT Try.prog fn_salvorlaw02_awake #[] .bool fun r1 =>
 K r1)
 (callT Try.prog fn_salvorlaw02_pair #[(.slice a0.a a0.len a0.cap), (.slice a1.a a1.len a1.cap), (.int .i64 a2)] .bool fun r2 =>
 brB r2
 (callT Try.prog fn_salvorlaw02_awake #[] .bool fun r3 =>
 K r3)
 (K false)))
set_option maxRecDepth 100000 in
theorem E_salvorlaw02_ClausesPairs (a0 : Sl) (a1 : Sl) (a2 : Int) (K : Bool → HP) (h : Heap) : fnVC Try.prog [(1000000, .nil)] 24 Try.f5 [(.slice a0.a a0.len a0.cap), (.slice a1.a a1.len a1.cap), (.int .i64 a2)] .bool K h = F_salvorlaw02_ClausesPairs a0 a1 a2 K h := by kernel_rfl
set_option maxRecDepth 100000 in
theorem S_salvorlaw02_ClausesPairs{h : Heap} {a0 : Sl} {a1 : Sl} {a2 : Int} (K : Bool → HP) (hF : F_salvorlaw02_ClausesPairs a0 a1 a2 K h) : CallsH Try.prog fn_salvorlaw02_ClausesPairs #[(.slice a0.a a0.len a0.cap), (.slice a1.a a1.len a1.cap), (.int .i64 a2)] h fun v h' => ∃ x : Bool, v = Ty.enc .bool x ∧ K x h' :=
  callsH_of_fn (P := Try.prog) (fn := Try.f5) (τ := .bool) follows Try.func5 (by kernel_rfl) (by kernel_rfl) Try.call5 (Eq.mpr (E_salvorlaw02_ClausesPairs a0 a1 a2 K h) hF)


end Go.Proofs.S
