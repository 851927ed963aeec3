/-
  slices.SortFunc and its fellows, over any element of one cell: what they say as words. Printed by a program of ours (mkpdq.py) from one instance.
-/
import Derived.Test.YtchedlkmgahicaaSxEnd
set_option linter.unusedVariables false
namespace Go.Sx
open Go

structure SF where
  pdq : FuncId
  ins : FuncId
  heap : FuncId
  sift : FuncId
  brk : FuncId
  piv : FuncId
  rev : FuncId
  pins : FuncId
  peq : FuncId
  part : FuncId
  med : FuncId
  meda : FuncId
  ord2 : FuncId
  npow : FuncId
  xsh : FuncId
  len : FuncId
  len64 : FuncId
  tx : TypeId
  ti : TypeId

def G_pdq (P : Program) (τ : Ty) (f : SF) (a0 : Sl) (a1 : Int) (a2 : Int) (a3 : Int) (a4 : Value) (K : Unit → HP) : HP :=
 lfp (σ := (Bool × (Bool × (Int × (Int × (Int × Unit)))))) (fun X0 s1 => /- wasPartitioned wasBalanced a b limit -/
 jn (σ := (Bool × (Bool × (Int × (Int × (Int × Unit)))))) (fun s3 => /- wasPartitioned wasBalanced a b limit -/
 X0 (s3.1, s3.2.1, s3.2.2.1, s3.2.2.2.1, s3.2.2.2.2.1, ()))
 (fun J2 =>
 brB (decide ((IntKind.wrap .i64 (s1.2.2.2.1 - s1.2.2.1)) ≤ (12 : Int)))
 (callT P f.ins #[(.slice a0.a a0.len a0.cap), (.int .i64 s1.2.2.1), (.int .i64 s1.2.2.2.1), a4] (.tup .nil) fun r4 =>
 K (()))
 (brB (s1.2.2.2.2.1 == (0 : Int))
 (callT P f.heap #[(.slice a0.a a0.len a0.cap), (.int .i64 s1.2.2.1), (.int .i64 s1.2.2.2.1), a4] (.tup .nil) fun r5 =>
 K (()))
 (jn (σ := (Int × Unit)) (fun s7 => /- limit -/
 callT P f.piv #[(.slice a0.a a0.len a0.cap), (.int .i64 s1.2.2.1), (.int .i64 s1.2.2.2.1), a4] (.tup (.cons (.int .i64) (.cons (.int .i64) .nil))) fun r8 =>
 jn (σ := (Int × (Int × Unit))) (fun s10 => /- hint pivot -/
 brB s1.2.1
 (brB s1.1
 (jn (σ := Unit) (fun s12 => /- -/
 brB (decide (s1.2.2.1 > (0 : Int)))
 (sx a0.a a0.len (IntKind.wrap .i64 (s1.2.2.1 - (1 : Int))) 1 fun p13 =>
 ldT τ p13 fun x14 =>
 sx a0.a a0.len s10.2.1 1 fun p15 =>
 ldT τ p15 fun x16 =>
 callF P a4 #[τ.enc x14, τ.enc x16] (.int .i64) fun r17 =>
 brB (!(decide (r17 < (0 : Int))))
 (callT P f.peq #[(.slice a0.a a0.len a0.cap), (.int .i64 s1.2.2.1), (.int .i64 s1.2.2.2.1), (.int .i64 s10.2.1), a4] (.int .i64) fun r18 =>
 J2 (s1.1, s1.2.1, r18, s1.2.2.2.1, s7.1, ()))
 (callT P f.part #[(.slice a0.a a0.len a0.cap), (.int .i64 s1.2.2.1), (.int .i64 s1.2.2.2.1), (.int .i64 s10.2.1), a4] (.tup (.cons (.int .i64) (.cons .bool .nil))) fun r19 =>
 nz (8 : Int) <|
 jn (σ := (Bool × (Int × (Int × Unit)))) (fun s21 => /- wasBalanced a b -/
 J2 (r19.2.1, s21.1, s21.2.1, s21.2.2.1, s7.1, ()))
 (fun J20 =>
 brB (decide ((IntKind.wrap .i64 (r19.1 - s1.2.2.1)) < (IntKind.wrap .i64 (s1.2.2.2.1 - r19.1))))
 (callT P f.pdq #[(.slice a0.a a0.len a0.cap), (.int .i64 s1.2.2.1), (.int .i64 r19.1), (.int .i64 s7.1), a4] (.tup .nil) fun r22 =>
 J20 ((decide ((IntKind.wrap .i64 (r19.1 - s1.2.2.1)) ≥ (IntKind.wrap .i64 (Int.tdiv (IntKind.wrap .i64 (s1.2.2.2.1 - s1.2.2.1)) (8 : Int))))), (IntKind.wrap .i64 (r19.1 + (1 : Int))), s1.2.2.2.1, ()))
 (callT P f.pdq #[(.slice a0.a a0.len a0.cap), (.int .i64 (IntKind.wrap .i64 (r19.1 + (1 : Int)))), (.int .i64 s1.2.2.2.1), (.int .i64 s7.1), a4] (.tup .nil) fun r23 =>
 J20 ((decide ((IntKind.wrap .i64 (s1.2.2.2.1 - r19.1)) ≥ (IntKind.wrap .i64 (Int.tdiv (IntKind.wrap .i64 (s1.2.2.2.1 - s1.2.2.1)) (8 : Int))))), s1.2.2.1, r19.1, ())))))
 (callT P f.part #[(.slice a0.a a0.len a0.cap), (.int .i64 s1.2.2.1), (.int .i64 s1.2.2.2.1), (.int .i64 s10.2.1), a4] (.tup (.cons (.int .i64) (.cons .bool .nil))) fun r24 =>
 nz (8 : Int) <|
 jn (σ := (Bool × (Int × (Int × Unit)))) (fun s26 => /- wasBalanced a b -/
 J2 (r24.2.1, s26.1, s26.2.1, s26.2.2.1, s7.1, ()))
 (fun J25 =>
 brB (decide ((IntKind.wrap .i64 (r24.1 - s1.2.2.1)) < (IntKind.wrap .i64 (s1.2.2.2.1 - r24.1))))
 (callT P f.pdq #[(.slice a0.a a0.len a0.cap), (.int .i64 s1.2.2.1), (.int .i64 r24.1), (.int .i64 s7.1), a4] (.tup .nil) fun r27 =>
 J25 ((decide ((IntKind.wrap .i64 (r24.1 - s1.2.2.1)) ≥ (IntKind.wrap .i64 (Int.tdiv (IntKind.wrap .i64 (s1.2.2.2.1 - s1.2.2.1)) (8 : Int))))), (IntKind.wrap .i64 (r24.1 + (1 : Int))), s1.2.2.2.1, ()))
 (callT P f.pdq #[(.slice a0.a a0.len a0.cap), (.int .i64 (IntKind.wrap .i64 (r24.1 + (1 : Int)))), (.int .i64 s1.2.2.2.1), (.int .i64 s7.1), a4] (.tup .nil) fun r28 =>
 J25 ((decide ((IntKind.wrap .i64 (s1.2.2.2.1 - r24.1)) ≥ (IntKind.wrap .i64 (Int.tdiv (IntKind.wrap .i64 (s1.2.2.2.1 - s1.2.2.1)) (8 : Int))))), s1.2.2.1, r24.1, ())))))
 (fun J11 =>
 brB (s10.1 == (1 : Int))
 (callT P f.pins #[(.slice a0.a a0.len a0.cap), (.int .i64 s1.2.2.1), (.int .i64 s1.2.2.2.1), a4] .bool fun r29 =>
 brB r29
 (K (()))
 (J11 (())))
 (J11 (()))))
 (jn (σ := Unit) (fun s31 => /- -/
 brB (decide (s1.2.2.1 > (0 : Int)))
 (sx a0.a a0.len (IntKind.wrap .i64 (s1.2.2.1 - (1 : Int))) 1 fun p32 =>
 ldT τ p32 fun x33 =>
 sx a0.a a0.len s10.2.1 1 fun p34 =>
 ldT τ p34 fun x35 =>
 callF P a4 #[τ.enc x33, τ.enc x35] (.int .i64) fun r36 =>
 brB (!(decide (r36 < (0 : Int))))
 (callT P f.peq #[(.slice a0.a a0.len a0.cap), (.int .i64 s1.2.2.1), (.int .i64 s1.2.2.2.1), (.int .i64 s10.2.1), a4] (.int .i64) fun r37 =>
 J2 (s1.1, s1.2.1, r37, s1.2.2.2.1, s7.1, ()))
 (callT P f.part #[(.slice a0.a a0.len a0.cap), (.int .i64 s1.2.2.1), (.int .i64 s1.2.2.2.1), (.int .i64 s10.2.1), a4] (.tup (.cons (.int .i64) (.cons .bool .nil))) fun r38 =>
 nz (8 : Int) <|
 jn (σ := (Bool × (Int × (Int × Unit)))) (fun s40 => /- wasBalanced a b -/
 J2 (r38.2.1, s40.1, s40.2.1, s40.2.2.1, s7.1, ()))
 (fun J39 =>
 brB (decide ((IntKind.wrap .i64 (r38.1 - s1.2.2.1)) < (IntKind.wrap .i64 (s1.2.2.2.1 - r38.1))))
 (callT P f.pdq #[(.slice a0.a a0.len a0.cap), (.int .i64 s1.2.2.1), (.int .i64 r38.1), (.int .i64 s7.1), a4] (.tup .nil) fun r41 =>
 J39 ((decide ((IntKind.wrap .i64 (r38.1 - s1.2.2.1)) ≥ (IntKind.wrap .i64 (Int.tdiv (IntKind.wrap .i64 (s1.2.2.2.1 - s1.2.2.1)) (8 : Int))))), (IntKind.wrap .i64 (r38.1 + (1 : Int))), s1.2.2.2.1, ()))
 (callT P f.pdq #[(.slice a0.a a0.len a0.cap), (.int .i64 (IntKind.wrap .i64 (r38.1 + (1 : Int)))), (.int .i64 s1.2.2.2.1), (.int .i64 s7.1), a4] (.tup .nil) fun r42 =>
 J39 ((decide ((IntKind.wrap .i64 (s1.2.2.2.1 - r38.1)) ≥ (IntKind.wrap .i64 (Int.tdiv (IntKind.wrap .i64 (s1.2.2.2.1 - s1.2.2.1)) (8 : Int))))), s1.2.2.1, r38.1, ())))))
 (callT P f.part #[(.slice a0.a a0.len a0.cap), (.int .i64 s1.2.2.1), (.int .i64 s1.2.2.2.1), (.int .i64 s10.2.1), a4] (.tup (.cons (.int .i64) (.cons .bool .nil))) fun r43 =>
 nz (8 : Int) <|
 jn (σ := (Bool × (Int × (Int × Unit)))) (fun s45 => /- wasBalanced a b -/
 J2 (r43.2.1, s45.1, s45.2.1, s45.2.2.1, s7.1, ()))
 (fun J44 =>
 brB (decide ((IntKind.wrap .i64 (r43.1 - s1.2.2.1)) < (IntKind.wrap .i64 (s1.2.2.2.1 - r43.1))))
 (callT P f.pdq #[(.slice a0.a a0.len a0.cap), (.int .i64 s1.2.2.1), (.int .i64 r43.1), (.int .i64 s7.1), a4] (.tup .nil) fun r46 =>
 J44 ((decide ((IntKind.wrap .i64 (r43.1 - s1.2.2.1)) ≥ (IntKind.wrap .i64 (Int.tdiv (IntKind.wrap .i64 (s1.2.2.2.1 - s1.2.2.1)) (8 : Int))))), (IntKind.wrap .i64 (r43.1 + (1 : Int))), s1.2.2.2.1, ()))
 (callT P f.pdq #[(.slice a0.a a0.len a0.cap), (.int .i64 (IntKind.wrap .i64 (r43.1 + (1 : Int)))), (.int .i64 s1.2.2.2.1), (.int .i64 s7.1), a4] (.tup .nil) fun r47 =>
 J44 ((decide ((IntKind.wrap .i64 (s1.2.2.2.1 - r43.1)) ≥ (IntKind.wrap .i64 (Int.tdiv (IntKind.wrap .i64 (s1.2.2.2.1 - s1.2.2.1)) (8 : Int))))), s1.2.2.1, r43.1, ())))))
 (fun J30 =>
 J30 (()))))
 (jn (σ := Unit) (fun s49 => /- -/
 brB (decide (s1.2.2.1 > (0 : Int)))
 (sx a0.a a0.len (IntKind.wrap .i64 (s1.2.2.1 - (1 : Int))) 1 fun p50 =>
 ldT τ p50 fun x51 =>
 sx a0.a a0.len s10.2.1 1 fun p52 =>
 ldT τ p52 fun x53 =>
 callF P a4 #[τ.enc x51, τ.enc x53] (.int .i64) fun r54 =>
 brB (!(decide (r54 < (0 : Int))))
 (callT P f.peq #[(.slice a0.a a0.len a0.cap), (.int .i64 s1.2.2.1), (.int .i64 s1.2.2.2.1), (.int .i64 s10.2.1), a4] (.int .i64) fun r55 =>
 J2 (s1.1, s1.2.1, r55, s1.2.2.2.1, s7.1, ()))
 (callT P f.part #[(.slice a0.a a0.len a0.cap), (.int .i64 s1.2.2.1), (.int .i64 s1.2.2.2.1), (.int .i64 s10.2.1), a4] (.tup (.cons (.int .i64) (.cons .bool .nil))) fun r56 =>
 nz (8 : Int) <|
 jn (σ := (Bool × (Int × (Int × Unit)))) (fun s58 => /- wasBalanced a b -/
 J2 (r56.2.1, s58.1, s58.2.1, s58.2.2.1, s7.1, ()))
 (fun J57 =>
 brB (decide ((IntKind.wrap .i64 (r56.1 - s1.2.2.1)) < (IntKind.wrap .i64 (s1.2.2.2.1 - r56.1))))
 (callT P f.pdq #[(.slice a0.a a0.len a0.cap), (.int .i64 s1.2.2.1), (.int .i64 r56.1), (.int .i64 s7.1), a4] (.tup .nil) fun r59 =>
 J57 ((decide ((IntKind.wrap .i64 (r56.1 - s1.2.2.1)) ≥ (IntKind.wrap .i64 (Int.tdiv (IntKind.wrap .i64 (s1.2.2.2.1 - s1.2.2.1)) (8 : Int))))), (IntKind.wrap .i64 (r56.1 + (1 : Int))), s1.2.2.2.1, ()))
 (callT P f.pdq #[(.slice a0.a a0.len a0.cap), (.int .i64 (IntKind.wrap .i64 (r56.1 + (1 : Int)))), (.int .i64 s1.2.2.2.1), (.int .i64 s7.1), a4] (.tup .nil) fun r60 =>
 J57 ((decide ((IntKind.wrap .i64 (s1.2.2.2.1 - r56.1)) ≥ (IntKind.wrap .i64 (Int.tdiv (IntKind.wrap .i64 (s1.2.2.2.1 - s1.2.2.1)) (8 : Int))))), s1.2.2.1, r56.1, ())))))
 (callT P f.part #[(.slice a0.a a0.len a0.cap), (.int .i64 s1.2.2.1), (.int .i64 s1.2.2.2.1), (.int .i64 s10.2.1), a4] (.tup (.cons (.int .i64) (.cons .bool .nil))) fun r61 =>
 nz (8 : Int) <|
 jn (σ := (Bool × (Int × (Int × Unit)))) (fun s63 => /- wasBalanced a b -/
 J2 (r61.2.1, s63.1, s63.2.1, s63.2.2.1, s7.1, ()))
 (fun J62 =>
 brB (decide ((IntKind.wrap .i64 (r61.1 - s1.2.2.1)) < (IntKind.wrap .i64 (s1.2.2.2.1 - r61.1))))
 (callT P f.pdq #[(.slice a0.a a0.len a0.cap), (.int .i64 s1.2.2.1), (.int .i64 r61.1), (.int .i64 s7.1), a4] (.tup .nil) fun r64 =>
 J62 ((decide ((IntKind.wrap .i64 (r61.1 - s1.2.2.1)) ≥ (IntKind.wrap .i64 (Int.tdiv (IntKind.wrap .i64 (s1.2.2.2.1 - s1.2.2.1)) (8 : Int))))), (IntKind.wrap .i64 (r61.1 + (1 : Int))), s1.2.2.2.1, ()))
 (callT P f.pdq #[(.slice a0.a a0.len a0.cap), (.int .i64 (IntKind.wrap .i64 (r61.1 + (1 : Int)))), (.int .i64 s1.2.2.2.1), (.int .i64 s7.1), a4] (.tup .nil) fun r65 =>
 J62 ((decide ((IntKind.wrap .i64 (s1.2.2.2.1 - r61.1)) ≥ (IntKind.wrap .i64 (Int.tdiv (IntKind.wrap .i64 (s1.2.2.2.1 - s1.2.2.1)) (8 : Int))))), s1.2.2.1, r61.1, ())))))
 (fun J48 =>
 J48 (()))))
 (fun J9 =>
 brB (r8.2.1 == (2 : Int))
 (callT P f.rev #[(.slice a0.a a0.len a0.cap), (.int .i64 s1.2.2.1), (.int .i64 s1.2.2.2.1), a4] (.tup .nil) fun r66 =>
 J9 ((1 : Int), (IntKind.wrap .i64 ((IntKind.wrap .i64 (s1.2.2.2.1 - (1 : Int))) - (IntKind.wrap .i64 (r8.1 - s1.2.2.1)))), ()))
 (J9 (r8.2.1, r8.1, ()))))
 (fun J6 =>
 brB (!s1.2.1)
 (callT P f.brk #[(.slice a0.a a0.len a0.cap), (.int .i64 s1.2.2.1), (.int .i64 s1.2.2.2.1), a4] (.tup .nil) fun r67 =>
 J6 ((IntKind.wrap .i64 (s1.2.2.2.2.1 - (1 : Int))), ()))
 (J6 (s1.2.2.2.2.1, ())))))))
 (true, true, a1, a2, a3, ())

def G_ins (P : Program) (τ : Ty) (f : SF) (a0 : Sl) (a1 : Int) (a2 : Int) (a3 : Value) (K : Unit → HP) : HP :=
 lfp (σ := (Int × Unit)) (fun X0 s1 => /- i -/
 brB (decide (s1.1 < a2))
 (jn (σ := (Int × Unit)) (fun s3 => /- j -/
 X0 ((IntKind.wrap .i64 (s1.1 + (1 : Int))), ()))
 (fun J2 =>
 lfp (σ := (Int × Unit)) (fun X4 s5 => /- j -/
 brB (decide (s5.1 > a1))
 (sx a0.a a0.len s5.1 1 fun p6 =>
 ldT τ p6 fun x7 =>
 sx a0.a a0.len (IntKind.wrap .i64 (s5.1 - (1 : Int))) 1 fun p8 =>
 ldT τ p8 fun x9 =>
 callF P a3 #[τ.enc x7, τ.enc x9] (.int .i64) fun r10 =>
 brB (decide (r10 < (0 : Int)))
 (sx a0.a a0.len (IntKind.wrap .i64 (s5.1 - (1 : Int))) 1 fun p11 =>
 ldT τ p11 fun x12 =>
 sx a0.a a0.len s5.1 1 fun p13 =>
 ldT τ p13 fun x14 =>
 sx a0.a a0.len s5.1 1 fun p15 =>
 st1 p15 (τ.enc x12) <|
 sx a0.a a0.len (IntKind.wrap .i64 (s5.1 - (1 : Int))) 1 fun p16 =>
 st1 p16 (τ.enc x14) <|
 X4 ((IntKind.wrap .i64 (s5.1 - (1 : Int))), ()))
 (J2 (s5.1, ())))
 (J2 (s5.1, ())))
 (s1.1, ())))
 (K (())))
 ((IntKind.wrap .i64 (a1 + (1 : Int))), ())

def G_heap (P : Program) (τ : Ty) (f : SF) (a0 : Sl) (a1 : Int) (a2 : Int) (a3 : Value) (K : Unit → HP) : HP :=
 nz (2 : Int) <|
 lfp (σ := (Int × Unit)) (fun X0 s1 => /- i -/
 brB (decide (s1.1 ≥ (0 : Int)))
 (callT P f.sift #[(.slice a0.a a0.len a0.cap), (.int .i64 s1.1), (.int .i64 (IntKind.wrap .i64 (a2 - a1))), (.int .i64 a1), a3] (.tup .nil) fun r2 =>
 X0 ((IntKind.wrap .i64 (s1.1 - (1 : Int))), ()))
 (lfp (σ := (Int × Unit)) (fun X3 s4 => /- i -/
 brB (decide (s4.1 ≥ (0 : Int)))
 (sx a0.a a0.len (IntKind.wrap .i64 (a1 + s4.1)) 1 fun p5 =>
 ldT τ p5 fun x6 =>
 sx a0.a a0.len a1 1 fun p7 =>
 ldT τ p7 fun x8 =>
 sx a0.a a0.len a1 1 fun p9 =>
 st1 p9 (τ.enc x6) <|
 sx a0.a a0.len (IntKind.wrap .i64 (a1 + s4.1)) 1 fun p10 =>
 st1 p10 (τ.enc x8) <|
 callT P f.sift #[(.slice a0.a a0.len a0.cap), (.int .i64 (0 : Int)), (.int .i64 s4.1), (.int .i64 a1), a3] (.tup .nil) fun r11 =>
 X3 ((IntKind.wrap .i64 (s4.1 - (1 : Int))), ()))
 (K (())))
 ((IntKind.wrap .i64 ((IntKind.wrap .i64 (a2 - a1)) - (1 : Int))), ())))
 ((IntKind.wrap .i64 (Int.tdiv (IntKind.wrap .i64 ((IntKind.wrap .i64 (a2 - a1)) - (1 : Int))) (2 : Int))), ())

def G_sift (P : Program) (τ : Ty) (f : SF) (a0 : Sl) (a1 : Int) (a2 : Int) (a3 : Int) (a4 : Value) (K : Unit → HP) : HP :=
 lfp (σ := (Int × Unit)) (fun X0 s1 => /- root -/
 brB (decide ((IntKind.wrap .i64 ((IntKind.wrap .i64 ((2 : Int) * s1.1)) + (1 : Int))) ≥ a2))
 (K (()))
 (brB (decide ((IntKind.wrap .i64 ((IntKind.wrap .i64 ((IntKind.wrap .i64 ((2 : Int) * s1.1)) + (1 : Int))) + (1 : Int))) < a2))
 (sx a0.a a0.len (IntKind.wrap .i64 (a3 + (IntKind.wrap .i64 ((IntKind.wrap .i64 ((2 : Int) * s1.1)) + (1 : Int))))) 1 fun p2 =>
 ldT τ p2 fun x3 =>
 sx a0.a a0.len (IntKind.wrap .i64 ((IntKind.wrap .i64 (a3 + (IntKind.wrap .i64 ((IntKind.wrap .i64 ((2 : Int) * s1.1)) + (1 : Int))))) + (1 : Int))) 1 fun p4 =>
 ldT τ p4 fun x5 =>
 callF P a4 #[τ.enc x3, τ.enc x5] (.int .i64) fun r6 =>
 jn (σ := (Int × Unit)) (fun s8 => /- child -/
 sx a0.a a0.len (IntKind.wrap .i64 (a3 + s1.1)) 1 fun p9 =>
 ldT τ p9 fun x10 =>
 sx a0.a a0.len (IntKind.wrap .i64 (a3 + s8.1)) 1 fun p11 =>
 ldT τ p11 fun x12 =>
 callF P a4 #[τ.enc x10, τ.enc x12] (.int .i64) fun r13 =>
 brB (!(decide (r13 < (0 : Int))))
 (K (()))
 (sx a0.a a0.len (IntKind.wrap .i64 (a3 + s8.1)) 1 fun p14 =>
 ldT τ p14 fun x15 =>
 sx a0.a a0.len (IntKind.wrap .i64 (a3 + s1.1)) 1 fun p16 =>
 ldT τ p16 fun x17 =>
 sx a0.a a0.len (IntKind.wrap .i64 (a3 + s1.1)) 1 fun p18 =>
 st1 p18 (τ.enc x15) <|
 sx a0.a a0.len (IntKind.wrap .i64 (a3 + s8.1)) 1 fun p19 =>
 st1 p19 (τ.enc x17) <|
 X0 (s8.1, ())))
 (fun J7 =>
 brB (decide (r6 < (0 : Int)))
 (J7 ((IntKind.wrap .i64 ((IntKind.wrap .i64 ((IntKind.wrap .i64 ((2 : Int) * s1.1)) + (1 : Int))) + (1 : Int))), ()))
 (J7 ((IntKind.wrap .i64 ((IntKind.wrap .i64 ((2 : Int) * s1.1)) + (1 : Int))), ()))))
 (jn (σ := (Int × Unit)) (fun s21 => /- child -/
 sx a0.a a0.len (IntKind.wrap .i64 (a3 + s1.1)) 1 fun p22 =>
 ldT τ p22 fun x23 =>
 sx a0.a a0.len (IntKind.wrap .i64 (a3 + s21.1)) 1 fun p24 =>
 ldT τ p24 fun x25 =>
 callF P a4 #[τ.enc x23, τ.enc x25] (.int .i64) fun r26 =>
 brB (!(decide (r26 < (0 : Int))))
 (K (()))
 (sx a0.a a0.len (IntKind.wrap .i64 (a3 + s21.1)) 1 fun p27 =>
 ldT τ p27 fun x28 =>
 sx a0.a a0.len (IntKind.wrap .i64 (a3 + s1.1)) 1 fun p29 =>
 ldT τ p29 fun x30 =>
 sx a0.a a0.len (IntKind.wrap .i64 (a3 + s1.1)) 1 fun p31 =>
 st1 p31 (τ.enc x28) <|
 sx a0.a a0.len (IntKind.wrap .i64 (a3 + s21.1)) 1 fun p32 =>
 st1 p32 (τ.enc x30) <|
 X0 (s21.1, ())))
 (fun J20 =>
 J20 ((IntKind.wrap .i64 ((IntKind.wrap .i64 ((2 : Int) * s1.1)) + (1 : Int))), ())))))
 (a1, ())

def G_brk (P : Program) (τ : Ty) (f : SF) (a0 : Sl) (a1 : Int) (a2 : Int) (a3 : Value) (K : Unit → HP) : HP :=
 jn (σ := Unit) (fun s1 => /- -/
 K (()))
 (fun J0 =>
 brB (decide ((IntKind.wrap .i64 (a2 - a1)) ≥ (8 : Int)))
 (nw #[(.int .u64 (0 : Int))] f.tx fun b2 =>
 st1 (⟨b2, 0, none⟩ : Addr) (.int .u64 (IntKind.wrap .u64 (IntKind.wrap .i64 (a2 - a1)))) <|
 callT P f.npow #[(.int .i64 (IntKind.wrap .i64 (a2 - a1)))] (.int .u64) fun r3 =>
 nz (4 : Int) <|
 lfp (σ := (Int × Unit)) (fun X4 s5 => /- idx -/
 nz (4 : Int) <|
 brB (decide (s5.1 ≤ (IntKind.wrap .i64 ((IntKind.wrap .i64 (a1 + (IntKind.wrap .i64 ((IntKind.wrap .i64 (Int.tdiv (IntKind.wrap .i64 (a2 - a1)) (4 : Int))) * (2 : Int))))) + (1 : Int)))))
 (callT P f.xsh #[(.pointer (some (⟨b2, 0, none⟩ : Addr)))] (.int .u64) fun r6 =>
 jn (σ := (Int × Unit)) (fun s8 => /- other -/
 sx a0.a a0.len (IntKind.wrap .i64 (a1 + s8.1)) 1 fun p9 =>
 ldT τ p9 fun x10 =>
 sx a0.a a0.len s5.1 1 fun p11 =>
 ldT τ p11 fun x12 =>
 sx a0.a a0.len s5.1 1 fun p13 =>
 st1 p13 (τ.enc x10) <|
 sx a0.a a0.len (IntKind.wrap .i64 (a1 + s8.1)) 1 fun p14 =>
 st1 p14 (τ.enc x12) <|
 X4 ((IntKind.wrap .i64 (s5.1 + (1 : Int))), ()))
 (fun J7 =>
 brB (decide ((IntKind.wrap .i64 (bAnd .u64 r6 (IntKind.wrap .u64 (r3 - (1 : Int))))) ≥ (IntKind.wrap .i64 (a2 - a1))))
 (J7 ((IntKind.wrap .i64 ((IntKind.wrap .i64 (bAnd .u64 r6 (IntKind.wrap .u64 (r3 - (1 : Int))))) - (IntKind.wrap .i64 (a2 - a1)))), ()))
 (J7 ((IntKind.wrap .i64 (bAnd .u64 r6 (IntKind.wrap .u64 (r3 - (1 : Int))))), ()))))
 (J0 (())))
 ((IntKind.wrap .i64 ((IntKind.wrap .i64 (a1 + (IntKind.wrap .i64 ((IntKind.wrap .i64 (Int.tdiv (IntKind.wrap .i64 (a2 - a1)) (4 : Int))) * (2 : Int))))) - (1 : Int))), ()))
 (J0 (())))

def G_piv (P : Program) (τ : Ty) (f : SF) (a0 : Sl) (a1 : Int) (a2 : Int) (a3 : Value) (K : (Int × (Int × Unit)) → HP) : HP :=
 nw #[(.int .i64 (0 : Int))] f.ti fun b0 =>
 nz (4 : Int) <|
 nz (4 : Int) <|
 nz (4 : Int) <|
 jn (σ := (Int × (Int × (Int × Unit)))) (fun s2 => /- k j i -/
 ldT (.int .i64) (⟨b0, 0, none⟩ : Addr) fun x3 =>
 brB (x3 == (0 : Int))
 (K (s2.2.1, (1 : Int), ()))
 (brB (x3 == (12 : Int))
 (K (s2.2.1, (2 : Int), ()))
 (K (s2.2.1, (0 : Int), ()))))
 (fun J1 =>
 brB (decide ((IntKind.wrap .i64 (a2 - a1)) ≥ (8 : Int)))
 (jn (σ := (Int × (Int × (Int × Unit)))) (fun s5 => /- k j i -/
 callT P f.med #[(.slice a0.a a0.len a0.cap), (.int .i64 s5.2.2.1), (.int .i64 s5.2.1), (.int .i64 s5.1), (.pointer (some (⟨b0, 0, none⟩ : Addr))), a3] (.int .i64) fun r6 =>
 J1 (s5.1, r6, s5.2.2.1, ()))
 (fun J4 =>
 brB (decide ((IntKind.wrap .i64 (a2 - a1)) ≥ (50 : Int)))
 (callT P f.meda #[(.slice a0.a a0.len a0.cap), (.int .i64 (IntKind.wrap .i64 (a1 + (IntKind.wrap .i64 ((IntKind.wrap .i64 (Int.tdiv (IntKind.wrap .i64 (a2 - a1)) (4 : Int))) * (1 : Int)))))), (.pointer (some (⟨b0, 0, none⟩ : Addr))), a3] (.int .i64) fun r7 =>
 callT P f.meda #[(.slice a0.a a0.len a0.cap), (.int .i64 (IntKind.wrap .i64 (a1 + (IntKind.wrap .i64 ((IntKind.wrap .i64 (Int.tdiv (IntKind.wrap .i64 (a2 - a1)) (4 : Int))) * (2 : Int)))))), (.pointer (some (⟨b0, 0, none⟩ : Addr))), a3] (.int .i64) fun r8 =>
 callT P f.meda #[(.slice a0.a a0.len a0.cap), (.int .i64 (IntKind.wrap .i64 (a1 + (IntKind.wrap .i64 ((IntKind.wrap .i64 (Int.tdiv (IntKind.wrap .i64 (a2 - a1)) (4 : Int))) * (3 : Int)))))), (.pointer (some (⟨b0, 0, none⟩ : Addr))), a3] (.int .i64) fun r9 =>
 J4 (r9, r8, r7, ()))
 (J4 ((IntKind.wrap .i64 (a1 + (IntKind.wrap .i64 ((IntKind.wrap .i64 (Int.tdiv (IntKind.wrap .i64 (a2 - a1)) (4 : Int))) * (3 : Int))))), (IntKind.wrap .i64 (a1 + (IntKind.wrap .i64 ((IntKind.wrap .i64 (Int.tdiv (IntKind.wrap .i64 (a2 - a1)) (4 : Int))) * (2 : Int))))), (IntKind.wrap .i64 (a1 + (IntKind.wrap .i64 ((IntKind.wrap .i64 (Int.tdiv (IntKind.wrap .i64 (a2 - a1)) (4 : Int))) * (1 : Int))))), ()))))
 (J1 ((IntKind.wrap .i64 (a1 + (IntKind.wrap .i64 ((IntKind.wrap .i64 (Int.tdiv (IntKind.wrap .i64 (a2 - a1)) (4 : Int))) * (3 : Int))))), (IntKind.wrap .i64 (a1 + (IntKind.wrap .i64 ((IntKind.wrap .i64 (Int.tdiv (IntKind.wrap .i64 (a2 - a1)) (4 : Int))) * (2 : Int))))), (IntKind.wrap .i64 (a1 + (IntKind.wrap .i64 ((IntKind.wrap .i64 (Int.tdiv (IntKind.wrap .i64 (a2 - a1)) (4 : Int))) * (1 : Int))))), ())))

def G_rev (P : Program) (τ : Ty) (f : SF) (a0 : Sl) (a1 : Int) (a2 : Int) (a3 : Value) (K : Unit → HP) : HP :=
 lfp (σ := (Int × (Int × Unit))) (fun X0 s1 => /- j i -/
 brB (decide (s1.2.1 < s1.1))
 (sx a0.a a0.len s1.1 1 fun p2 =>
 ldT τ p2 fun x3 =>
 sx a0.a a0.len s1.2.1 1 fun p4 =>
 ldT τ p4 fun x5 =>
 sx a0.a a0.len s1.2.1 1 fun p6 =>
 st1 p6 (τ.enc x3) <|
 sx a0.a a0.len s1.1 1 fun p7 =>
 st1 p7 (τ.enc x5) <|
 X0 ((IntKind.wrap .i64 (s1.1 - (1 : Int))), (IntKind.wrap .i64 (s1.2.1 + (1 : Int))), ()))
 (K (())))
 ((IntKind.wrap .i64 (a2 - (1 : Int))), a1, ())

def G_pins (P : Program) (τ : Ty) (f : SF) (a0 : Sl) (a1 : Int) (a2 : Int) (a3 : Value) (K : Bool → HP) : HP :=
 lfp (σ := (Int × (Int × (Bool × Unit)))) (fun X0 s1 => /- j i  -/
 brB (decide (s1.1 < (5 : Int)))
 (jn (σ := (Int × Unit)) (fun s3 => /- i -/
 brB (s3.1 == a2)
 (K true)
 (brB (decide ((IntKind.wrap .i64 (a2 - a1)) < (50 : Int)))
 (K false)
 (sx a0.a a0.len (IntKind.wrap .i64 (s3.1 - (1 : Int))) 1 fun p4 =>
 ldT τ p4 fun x5 =>
 sx a0.a a0.len s3.1 1 fun p6 =>
 ldT τ p6 fun x7 =>
 sx a0.a a0.len s3.1 1 fun p8 =>
 st1 p8 (τ.enc x5) <|
 sx a0.a a0.len (IntKind.wrap .i64 (s3.1 - (1 : Int))) 1 fun p9 =>
 st1 p9 (τ.enc x7) <|
 jn (σ := Unit) (fun s11 => /- -/
 jn (σ := Unit) (fun s13 => /- -/
 X0 ((IntKind.wrap .i64 (s1.1 + (1 : Int))), s3.1, s1.2.2.1, ()))
 (fun J12 =>
 brB (decide ((IntKind.wrap .i64 (a2 - s3.1)) ≥ (2 : Int)))
 (jn (σ := (Int × Unit)) (fun s15 => /- j -/
 J12 (()))
 (fun J14 =>
 lfp (σ := (Int × Unit)) (fun X16 s17 => /- j -/
 brB (decide (s17.1 < a2))
 (sx a0.a a0.len s17.1 1 fun p18 =>
 ldT τ p18 fun x19 =>
 sx a0.a a0.len (IntKind.wrap .i64 (s17.1 - (1 : Int))) 1 fun p20 =>
 ldT τ p20 fun x21 =>
 callF P a3 #[τ.enc x19, τ.enc x21] (.int .i64) fun r22 =>
 brB (!(decide (r22 < (0 : Int))))
 (J14 (s17.1, ()))
 (sx a0.a a0.len (IntKind.wrap .i64 (s17.1 - (1 : Int))) 1 fun p23 =>
 ldT τ p23 fun x24 =>
 sx a0.a a0.len s17.1 1 fun p25 =>
 ldT τ p25 fun x26 =>
 sx a0.a a0.len s17.1 1 fun p27 =>
 st1 p27 (τ.enc x24) <|
 sx a0.a a0.len (IntKind.wrap .i64 (s17.1 - (1 : Int))) 1 fun p28 =>
 st1 p28 (τ.enc x26) <|
 X16 ((IntKind.wrap .i64 (s17.1 + (1 : Int))), ())))
 (J14 (s17.1, ())))
 ((IntKind.wrap .i64 (s3.1 + (1 : Int))), ())))
 (J12 (()))))
 (fun J10 =>
 brB (decide ((IntKind.wrap .i64 (s3.1 - a1)) ≥ (2 : Int)))
 (jn (σ := (Int × Unit)) (fun s30 => /- j -/
 J10 (()))
 (fun J29 =>
 lfp (σ := (Int × Unit)) (fun X31 s32 => /- j -/
 brB (decide (s32.1 ≥ (1 : Int)))
 (sx a0.a a0.len s32.1 1 fun p33 =>
 ldT τ p33 fun x34 =>
 sx a0.a a0.len (IntKind.wrap .i64 (s32.1 - (1 : Int))) 1 fun p35 =>
 ldT τ p35 fun x36 =>
 callF P a3 #[τ.enc x34, τ.enc x36] (.int .i64) fun r37 =>
 brB (!(decide (r37 < (0 : Int))))
 (J29 (s32.1, ()))
 (sx a0.a a0.len (IntKind.wrap .i64 (s32.1 - (1 : Int))) 1 fun p38 =>
 ldT τ p38 fun x39 =>
 sx a0.a a0.len s32.1 1 fun p40 =>
 ldT τ p40 fun x41 =>
 sx a0.a a0.len s32.1 1 fun p42 =>
 st1 p42 (τ.enc x39) <|
 sx a0.a a0.len (IntKind.wrap .i64 (s32.1 - (1 : Int))) 1 fun p43 =>
 st1 p43 (τ.enc x41) <|
 X31 ((IntKind.wrap .i64 (s32.1 - (1 : Int))), ())))
 (J29 (s32.1, ())))
 ((IntKind.wrap .i64 (s3.1 - (1 : Int))), ())))
 (J10 (()))))))
 (fun J2 =>
 lfp (σ := (Int × Unit)) (fun X44 s45 => /- i -/
 brB (decide (s45.1 < a2))
 (sx a0.a a0.len s45.1 1 fun p46 =>
 ldT τ p46 fun x47 =>
 sx a0.a a0.len (IntKind.wrap .i64 (s45.1 - (1 : Int))) 1 fun p48 =>
 ldT τ p48 fun x49 =>
 callF P a3 #[τ.enc x47, τ.enc x49] (.int .i64) fun r50 =>
 brB (!(decide (r50 < (0 : Int))))
 (X44 ((IntKind.wrap .i64 (s45.1 + (1 : Int))), ()))
 (J2 (s45.1, ())))
 (J2 (s45.1, ())))
 (s1.2.1, ())))
 (K false))
 ((0 : Int), (IntKind.wrap .i64 (a1 + (1 : Int))), false, ())

def G_peq (P : Program) (τ : Ty) (f : SF) (a0 : Sl) (a1 : Int) (a2 : Int) (a3 : Int) (a4 : Value) (K : Int → HP) : HP :=
 sx a0.a a0.len a3 1 fun p0 =>
 ldT τ p0 fun x1 =>
 sx a0.a a0.len a1 1 fun p2 =>
 ldT τ p2 fun x3 =>
 sx a0.a a0.len a1 1 fun p4 =>
 st1 p4 (τ.enc x1) <|
 sx a0.a a0.len a3 1 fun p5 =>
 st1 p5 (τ.enc x3) <|
 lfp (σ := (Int × (Int × Unit))) (fun X6 s7 => /- j i -/
 jn (σ := (Int × Unit)) (fun s9 => /- i -/
 jn (σ := (Int × Unit)) (fun s11 => /- j -/
 brB (decide (s9.1 > s11.1))
 (K s9.1)
 (sx a0.a a0.len s11.1 1 fun p12 =>
 ldT τ p12 fun x13 =>
 sx a0.a a0.len s9.1 1 fun p14 =>
 ldT τ p14 fun x15 =>
 sx a0.a a0.len s9.1 1 fun p16 =>
 st1 p16 (τ.enc x13) <|
 sx a0.a a0.len s11.1 1 fun p17 =>
 st1 p17 (τ.enc x15) <|
 X6 ((IntKind.wrap .i64 (s11.1 - (1 : Int))), (IntKind.wrap .i64 (s9.1 + (1 : Int))), ())))
 (fun J10 =>
 lfp (σ := (Int × Unit)) (fun X18 s19 => /- j -/
 brB (decide (s9.1 ≤ s19.1))
 (sx a0.a a0.len a1 1 fun p20 =>
 ldT τ p20 fun x21 =>
 sx a0.a a0.len s19.1 1 fun p22 =>
 ldT τ p22 fun x23 =>
 callF P a4 #[τ.enc x21, τ.enc x23] (.int .i64) fun r24 =>
 brB (decide (r24 < (0 : Int)))
 (X18 ((IntKind.wrap .i64 (s19.1 - (1 : Int))), ()))
 (J10 (s19.1, ())))
 (J10 (s19.1, ())))
 (s7.1, ())))
 (fun J8 =>
 lfp (σ := (Int × Unit)) (fun X25 s26 => /- i -/
 brB (decide (s26.1 ≤ s7.1))
 (sx a0.a a0.len a1 1 fun p27 =>
 ldT τ p27 fun x28 =>
 sx a0.a a0.len s26.1 1 fun p29 =>
 ldT τ p29 fun x30 =>
 callF P a4 #[τ.enc x28, τ.enc x30] (.int .i64) fun r31 =>
 brB (!(decide (r31 < (0 : Int))))
 (X25 ((IntKind.wrap .i64 (s26.1 + (1 : Int))), ()))
 (J8 (s26.1, ())))
 (J8 (s26.1, ())))
 (s7.2.1, ())))
 ((IntKind.wrap .i64 (a2 - (1 : Int))), (IntKind.wrap .i64 (a1 + (1 : Int))), ())

def G_part (P : Program) (τ : Ty) (f : SF) (a0 : Sl) (a1 : Int) (a2 : Int) (a3 : Int) (a4 : Value) (K : (Int × (Bool × Unit)) → HP) : HP :=
 sx a0.a a0.len a3 1 fun p0 =>
 ldT τ p0 fun x1 =>
 sx a0.a a0.len a1 1 fun p2 =>
 ldT τ p2 fun x3 =>
 sx a0.a a0.len a1 1 fun p4 =>
 st1 p4 (τ.enc x1) <|
 sx a0.a a0.len a3 1 fun p5 =>
 st1 p5 (τ.enc x3) <|
 jn (σ := (Int × Unit)) (fun s7 => /- i -/
 jn (σ := (Int × Unit)) (fun s9 => /- j -/
 brB (decide (s7.1 > s9.1))
 (sx a0.a a0.len a1 1 fun p10 =>
 ldT τ p10 fun x11 =>
 sx a0.a a0.len s9.1 1 fun p12 =>
 ldT τ p12 fun x13 =>
 sx a0.a a0.len s9.1 1 fun p14 =>
 st1 p14 (τ.enc x11) <|
 sx a0.a a0.len a1 1 fun p15 =>
 st1 p15 (τ.enc x13) <|
 K (s9.1, true, ()))
 (sx a0.a a0.len s9.1 1 fun p16 =>
 ldT τ p16 fun x17 =>
 sx a0.a a0.len s7.1 1 fun p18 =>
 ldT τ p18 fun x19 =>
 sx a0.a a0.len s7.1 1 fun p20 =>
 st1 p20 (τ.enc x17) <|
 sx a0.a a0.len s9.1 1 fun p21 =>
 st1 p21 (τ.enc x19) <|
 lfp (σ := (Int × (Int × Unit))) (fun X22 s23 => /- j i -/
 jn (σ := (Int × Unit)) (fun s25 => /- i -/
 jn (σ := (Int × Unit)) (fun s27 => /- j -/
 brB (decide (s25.1 > s27.1))
 (sx a0.a a0.len a1 1 fun p28 =>
 ldT τ p28 fun x29 =>
 sx a0.a a0.len s27.1 1 fun p30 =>
 ldT τ p30 fun x31 =>
 sx a0.a a0.len s27.1 1 fun p32 =>
 st1 p32 (τ.enc x29) <|
 sx a0.a a0.len a1 1 fun p33 =>
 st1 p33 (τ.enc x31) <|
 K (s27.1, false, ()))
 (sx a0.a a0.len s27.1 1 fun p34 =>
 ldT τ p34 fun x35 =>
 sx a0.a a0.len s25.1 1 fun p36 =>
 ldT τ p36 fun x37 =>
 sx a0.a a0.len s25.1 1 fun p38 =>
 st1 p38 (τ.enc x35) <|
 sx a0.a a0.len s27.1 1 fun p39 =>
 st1 p39 (τ.enc x37) <|
 X22 ((IntKind.wrap .i64 (s27.1 - (1 : Int))), (IntKind.wrap .i64 (s25.1 + (1 : Int))), ())))
 (fun J26 =>
 lfp (σ := (Int × Unit)) (fun X40 s41 => /- j -/
 brB (decide (s25.1 ≤ s41.1))
 (sx a0.a a0.len s41.1 1 fun p42 =>
 ldT τ p42 fun x43 =>
 sx a0.a a0.len a1 1 fun p44 =>
 ldT τ p44 fun x45 =>
 callF P a4 #[τ.enc x43, τ.enc x45] (.int .i64) fun r46 =>
 brB (!(decide (r46 < (0 : Int))))
 (X40 ((IntKind.wrap .i64 (s41.1 - (1 : Int))), ()))
 (J26 (s41.1, ())))
 (J26 (s41.1, ())))
 (s23.1, ())))
 (fun J24 =>
 lfp (σ := (Int × Unit)) (fun X47 s48 => /- i -/
 brB (decide (s48.1 ≤ s23.1))
 (sx a0.a a0.len s48.1 1 fun p49 =>
 ldT τ p49 fun x50 =>
 sx a0.a a0.len a1 1 fun p51 =>
 ldT τ p51 fun x52 =>
 callF P a4 #[τ.enc x50, τ.enc x52] (.int .i64) fun r53 =>
 brB (decide (r53 < (0 : Int)))
 (X47 ((IntKind.wrap .i64 (s48.1 + (1 : Int))), ()))
 (J24 (s48.1, ())))
 (J24 (s48.1, ())))
 (s23.2.1, ())))
 ((IntKind.wrap .i64 (s9.1 - (1 : Int))), (IntKind.wrap .i64 (s7.1 + (1 : Int))), ())))
 (fun J8 =>
 lfp (σ := (Int × Unit)) (fun X54 s55 => /- j -/
 brB (decide (s7.1 ≤ s55.1))
 (sx a0.a a0.len s55.1 1 fun p56 =>
 ldT τ p56 fun x57 =>
 sx a0.a a0.len a1 1 fun p58 =>
 ldT τ p58 fun x59 =>
 callF P a4 #[τ.enc x57, τ.enc x59] (.int .i64) fun r60 =>
 brB (!(decide (r60 < (0 : Int))))
 (X54 ((IntKind.wrap .i64 (s55.1 - (1 : Int))), ()))
 (J8 (s55.1, ())))
 (J8 (s55.1, ())))
 ((IntKind.wrap .i64 (a2 - (1 : Int))), ())))
 (fun J6 =>
 lfp (σ := (Int × Unit)) (fun X61 s62 => /- i -/
 brB (decide (s62.1 ≤ (IntKind.wrap .i64 (a2 - (1 : Int)))))
 (sx a0.a a0.len s62.1 1 fun p63 =>
 ldT τ p63 fun x64 =>
 sx a0.a a0.len a1 1 fun p65 =>
 ldT τ p65 fun x66 =>
 callF P a4 #[τ.enc x64, τ.enc x66] (.int .i64) fun r67 =>
 brB (decide (r67 < (0 : Int)))
 (X61 ((IntKind.wrap .i64 (s62.1 + (1 : Int))), ()))
 (J6 (s62.1, ())))
 (J6 (s62.1, ())))
 ((IntKind.wrap .i64 (a1 + (1 : Int))), ()))

def G_med (P : Program) (τ : Ty) (f : SF) (a0 : Sl) (a1 : Int) (a2 : Int) (a3 : Int) (a4 : Option Addr) (a5 : Value) (K : Int → HP) : HP :=
 callT P f.ord2 #[(.slice a0.a a0.len a0.cap), (.int .i64 a1), (.int .i64 a2), (.pointer a4), a5] (.tup (.cons (.int .i64) (.cons (.int .i64) .nil))) fun r0 =>
 callT P f.ord2 #[(.slice a0.a a0.len a0.cap), (.int .i64 r0.2.1), (.int .i64 a3), (.pointer a4), a5] (.tup (.cons (.int .i64) (.cons (.int .i64) .nil))) fun r1 =>
 callT P f.ord2 #[(.slice a0.a a0.len a0.cap), (.int .i64 r0.1), (.int .i64 r1.1), (.pointer a4), a5] (.tup (.cons (.int .i64) (.cons (.int .i64) .nil))) fun r2 =>
 K r2.2.1

def G_meda (P : Program) (τ : Ty) (f : SF) (a0 : Sl) (a1 : Int) (a2 : Option Addr) (a3 : Value) (K : Int → HP) : HP :=
 callT P f.med #[(.slice a0.a a0.len a0.cap), (.int .i64 (IntKind.wrap .i64 (a1 - (1 : Int)))), (.int .i64 a1), (.int .i64 (IntKind.wrap .i64 (a1 + (1 : Int)))), (.pointer a2), a3] (.int .i64) fun r0 =>
 K r0

def G_ord2 (P : Program) (τ : Ty) (f : SF) (a0 : Sl) (a1 : Int) (a2 : Int) (a3 : Option Addr) (a4 : Value) (K : (Int × (Int × Unit)) → HP) : HP :=
 sx a0.a a0.len a2 1 fun p0 =>
 ldT τ p0 fun x1 =>
 sx a0.a a0.len a1 1 fun p2 =>
 ldT τ p2 fun x3 =>
 callF P a4 #[τ.enc x1, τ.enc x3] (.int .i64) fun r4 =>
 brB (decide (r4 < (0 : Int)))
 (nn a3 fun p5 =>
 ldT (.int .i64) p5 fun x6 =>
 nn a3 fun p7 =>
 st1 p7 (.int .i64 (IntKind.wrap .i64 (x6 + (1 : Int)))) <|
 K (a2, a1, ()))
 (K (a1, a2, ()))

def G_npow (P : Program) (τ : Ty) (f : SF) (a0 : Int) (K : Int → HP) : HP :=
 callT P f.len #[(.int .u64 (IntKind.wrap .u64 a0))] (.int .i64) fun r0 =>
 ge0 r0 <|
 K (IntKind.wrap .u64 ((1 : Int) * 2 ^ (min (r0).toNat 64)))

def G_xsh (P : Program) (τ : Ty) (f : SF) (a0 : Option Addr) (K : Int → HP) : HP :=
 nn a0 fun p0 =>
 ldT (.int .u64) p0 fun x1 =>
 nn a0 fun p2 =>
 ldT (.int .u64) p2 fun x3 =>
 ge0 (13 : Int) <|
 nn a0 fun p4 =>
 st1 p4 (.int .u64 (bXor .u64 x1 (IntKind.wrap .u64 (x3 * 2 ^ (min ((13 : Int)).toNat 64))))) <|
 nn a0 fun p5 =>
 ldT (.int .u64) p5 fun x6 =>
 nn a0 fun p7 =>
 ldT (.int .u64) p7 fun x8 =>
 ge0 (7 : Int) <|
 nn a0 fun p9 =>
 st1 p9 (.int .u64 (bXor .u64 x6 (Int.fdiv x8 (2 ^ (min ((7 : Int)).toNat 64))))) <|
 nn a0 fun p10 =>
 ldT (.int .u64) p10 fun x11 =>
 nn a0 fun p12 =>
 ldT (.int .u64) p12 fun x13 =>
 ge0 (17 : Int) <|
 nn a0 fun p14 =>
 st1 p14 (.int .u64 (bXor .u64 x11 (IntKind.wrap .u64 (x13 * 2 ^ (min ((17 : Int)).toNat 64))))) <|
 nn a0 fun p15 =>
 ldT (.int .u64) p15 fun x16 =>
 K x16

def G_len (P : Program) (τ : Ty) (f : SF) (a0 : Int) (K : Int → HP) : HP :=
 callT P f.len64 #[(.int .u64 a0)] (.int .i64) fun r0 =>
 K r0

def G_len64 (P : Program) (τ : Ty) (f : SF) (a0 : Int) (K : Int → HP) : HP :=
 jn (σ := (Int × (Int × Unit))) (fun s1 => /- n x -/
 jn (σ := (Int × (Int × Unit))) (fun s3 => /- n x -/
 jn (σ := (Int × (Int × Unit))) (fun s5 => /- n x -/
 six (ByteArray.mk #[0, 1, 2, 2, 3, 3, 3, 3, 4, 4, 4, 4, 4, 4, 4, 4, 5, 5, 5, 5, 5, 5, 5, 5, 5, 5, 5, 5, 5, 5, 5, 5, 6, 6, 6, 6, 6, 6, 6, 6, 6, 6, 6, 6, 6, 6, 6, 6, 6, 6, 6, 6, 6, 6, 6, 6, 6, 6, 6, 6, 6, 6, 6, 6, 7, 7, 7, 7, 7, 7, 7, 7, 7, 7, 7, 7, 7, 7, 7, 7, 7, 7, 7, 7, 7, 7, 7, 7, 7, 7, 7, 7, 7, 7, 7, 7, 7, 7, 7, 7, 7, 7, 7, 7, 7, 7, 7, 7, 7, 7, 7, 7, 7, 7, 7, 7, 7, 7, 7, 7, 7, 7, 7, 7, 7, 7, 7, 7, 8, 8, 8, 8, 8, 8, 8, 8, 8, 8, 8, 8, 8, 8, 8, 8, 8, 8, 8, 8, 8, 8, 8, 8, 8, 8, 8, 8, 8, 8, 8, 8, 8, 8, 8, 8, 8, 8, 8, 8, 8, 8, 8, 8, 8, 8, 8, 8, 8, 8, 8, 8, 8, 8, 8, 8, 8, 8, 8, 8, 8, 8, 8, 8, 8, 8, 8, 8, 8, 8, 8, 8, 8, 8, 8, 8, 8, 8, 8, 8, 8, 8, 8, 8, 8, 8, 8, 8, 8, 8, 8, 8, 8, 8, 8, 8, 8, 8, 8, 8, 8, 8, 8, 8, 8, 8, 8, 8, 8, 8, 8, 8, 8, 8, 8, 8, 8, 8, 8, 8, 8, 8, 8, 8, 8, 8, 8, 8]) (IntKind.wrap .u8 s5.2.1) fun c6 =>
 K (IntKind.wrap .i64 (s5.1 + (IntKind.wrap .i64 c6))))
 (fun J4 =>
 brB (decide (s3.2.1 ≥ (256 : Int)))
 (ge0 (8 : Int) <|
 J4 ((IntKind.wrap .i64 (s3.1 + (8 : Int))), (Int.fdiv s3.2.1 (2 ^ (min ((8 : Int)).toNat 64))), ()))
 (J4 (s3.1, s3.2.1, ()))))
 (fun J2 =>
 brB (decide (s1.2.1 ≥ (65536 : Int)))
 (ge0 (16 : Int) <|
 J2 ((IntKind.wrap .i64 (s1.1 + (16 : Int))), (Int.fdiv s1.2.1 (2 ^ (min ((16 : Int)).toNat 64))), ()))
 (J2 (s1.1, s1.2.1, ()))))
 (fun J0 =>
 brB (decide (a0 ≥ (4294967296 : Int)))
 (ge0 (32 : Int) <|
 J0 ((32 : Int), (Int.fdiv a0 (2 ^ (min ((32 : Int)).toNat 64))), ()))
 (J0 ((0 : Int), a0, ())))

structure Sorts (P : Program) (τ : Ty) (f : SF) : Prop where
  pdq : ∀ {h : Heap} {a0 : Sl} {a1 : Int} {a2 : Int} {a3 : Int} {a4 : Value} (K : Unit → HP), G_pdq P τ f a0 a1 a2 a3 a4 K h → callT P f.pdq #[(.slice a0.a a0.len a0.cap), (.int .i64 a1), (.int .i64 a2), (.int .i64 a3), a4] (.tup .nil) K h
  ins : ∀ {h : Heap} {a0 : Sl} {a1 : Int} {a2 : Int} {a3 : Value} (K : Unit → HP), G_ins P τ f a0 a1 a2 a3 K h → callT P f.ins #[(.slice a0.a a0.len a0.cap), (.int .i64 a1), (.int .i64 a2), a3] (.tup .nil) K h
  heap : ∀ {h : Heap} {a0 : Sl} {a1 : Int} {a2 : Int} {a3 : Value} (K : Unit → HP), G_heap P τ f a0 a1 a2 a3 K h → callT P f.heap #[(.slice a0.a a0.len a0.cap), (.int .i64 a1), (.int .i64 a2), a3] (.tup .nil) K h
  sift : ∀ {h : Heap} {a0 : Sl} {a1 : Int} {a2 : Int} {a3 : Int} {a4 : Value} (K : Unit → HP), G_sift P τ f a0 a1 a2 a3 a4 K h → callT P f.sift #[(.slice a0.a a0.len a0.cap), (.int .i64 a1), (.int .i64 a2), (.int .i64 a3), a4] (.tup .nil) K h
  brk : ∀ {h : Heap} {a0 : Sl} {a1 : Int} {a2 : Int} {a3 : Value} (K : Unit → HP), G_brk P τ f a0 a1 a2 a3 K h → callT P f.brk #[(.slice a0.a a0.len a0.cap), (.int .i64 a1), (.int .i64 a2), a3] (.tup .nil) K h
  piv : ∀ {h : Heap} {a0 : Sl} {a1 : Int} {a2 : Int} {a3 : Value} (K : (Int × (Int × Unit)) → HP), G_piv P τ f a0 a1 a2 a3 K h → callT P f.piv #[(.slice a0.a a0.len a0.cap), (.int .i64 a1), (.int .i64 a2), a3] (.tup (.cons (.int .i64) (.cons (.int .i64) .nil))) K h
  rev : ∀ {h : Heap} {a0 : Sl} {a1 : Int} {a2 : Int} {a3 : Value} (K : Unit → HP), G_rev P τ f a0 a1 a2 a3 K h → callT P f.rev #[(.slice a0.a a0.len a0.cap), (.int .i64 a1), (.int .i64 a2), a3] (.tup .nil) K h
  pins : ∀ {h : Heap} {a0 : Sl} {a1 : Int} {a2 : Int} {a3 : Value} (K : Bool → HP), G_pins P τ f a0 a1 a2 a3 K h → callT P f.pins #[(.slice a0.a a0.len a0.cap), (.int .i64 a1), (.int .i64 a2), a3] .bool K h
  peq : ∀ {h : Heap} {a0 : Sl} {a1 : Int} {a2 : Int} {a3 : Int} {a4 : Value} (K : Int → HP), G_peq P τ f a0 a1 a2 a3 a4 K h → callT P f.peq #[(.slice a0.a a0.len a0.cap), (.int .i64 a1), (.int .i64 a2), (.int .i64 a3), a4] (.int .i64) K h
  part : ∀ {h : Heap} {a0 : Sl} {a1 : Int} {a2 : Int} {a3 : Int} {a4 : Value} (K : (Int × (Bool × Unit)) → HP), G_part P τ f a0 a1 a2 a3 a4 K h → callT P f.part #[(.slice a0.a a0.len a0.cap), (.int .i64 a1), (.int .i64 a2), (.int .i64 a3), a4] (.tup (.cons (.int .i64) (.cons .bool .nil))) K h
  med : ∀ {h : Heap} {a0 : Sl} {a1 : Int} {a2 : Int} {a3 : Int} {a4 : Option Addr} {a5 : Value} (K : Int → HP), G_med P τ f a0 a1 a2 a3 a4 a5 K h → callT P f.med #[(.slice a0.a a0.len a0.cap), (.int .i64 a1), (.int .i64 a2), (.int .i64 a3), (.pointer a4), a5] (.int .i64) K h
  meda : ∀ {h : Heap} {a0 : Sl} {a1 : Int} {a2 : Option Addr} {a3 : Value} (K : Int → HP), G_meda P τ f a0 a1 a2 a3 K h → callT P f.meda #[(.slice a0.a a0.len a0.cap), (.int .i64 a1), (.pointer a2), a3] (.int .i64) K h
  ord2 : ∀ {h : Heap} {a0 : Sl} {a1 : Int} {a2 : Int} {a3 : Option Addr} {a4 : Value} (K : (Int × (Int × Unit)) → HP), G_ord2 P τ f a0 a1 a2 a3 a4 K h → callT P f.ord2 #[(.slice a0.a a0.len a0.cap), (.int .i64 a1), (.int .i64 a2), (.pointer a3), a4] (.tup (.cons (.int .i64) (.cons (.int .i64) .nil))) K h
  npow : ∀ {h : Heap} {a0 : Int} (K : Int → HP), G_npow P τ f a0 K h → callT P f.npow #[(.int .i64 a0)] (.int .u64) K h
  xsh : ∀ {h : Heap} {a0 : Option Addr} (K : Int → HP), G_xsh P τ f a0 K h → callT P f.xsh #[(.pointer a0)] (.int .u64) K h
  len : ∀ {h : Heap} {a0 : Int} (K : Int → HP), G_len P τ f a0 K h → callT P f.len #[(.int .u64 a0)] (.int .i64) K h
  len64 : ∀ {h : Heap} {a0 : Int} (K : Int → HP), G_len64 P τ f a0 K h → callT P f.len64 #[(.int .u64 a0)] (.int .i64) K h

end Go.Sx
