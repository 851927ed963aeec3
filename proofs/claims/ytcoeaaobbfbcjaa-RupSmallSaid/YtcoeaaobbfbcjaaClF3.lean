/- The functions of the seat, each as a predicate over its values, printed by a program of ours, and that each is its text's. -/
import Derived.Test.YtcoeaaobbfbcjaaSx10
import Derived.KernelRfl
import Derived.Test.YtcoeaaobbfbcjaaProg
import Derived.Test.YtcoeaaobbfbcjaaClF0
set_option linter.unusedVariables false
namespace Go.Proofs.S
open Go Go.Sx Go.Proofs
/-- slices.reverseRangeCmpFunc[salvor/lits.Lit] -/
def F_slices_reverseRangeCmpFunc_lits_Lit (a0 : Sl) (a1 : Int) (a2 : Int) (a3 : Value) (K : Unit → HP) : HP :=
 lfp (σ := (Int × (Int × Unit))) (fun X0 s1 => /- j i -/
 brB (decide (s1.2.1 < s1.1))
 (sx a0.a a0.len s1.1 1 fun p2 =>
 ldT (.int .i64) p2 fun x3 =>
 sx a0.a a0.len s1.2.1 1 fun p4 =>
 ldT (.int .i64) p4 fun x5 =>
 sx a0.a a0.len s1.2.1 1 fun p6 =>
 st1 p6 (.int .i64 x3) <|
 sx a0.a a0.len s1.1 1 fun p7 =>
 st1 p7 (.int .i64 x5) <|
 X0 ((IntKind.wrap .i64 (s1.1 - (1 : Int))), (IntKind.wrap .i64 (s1.2.1 + (1 : Int))), ()))
 (K (())))
 ((IntKind.wrap .i64 (a2 - (1 : Int))), a1, ())
set_option maxRecDepth 100000 in
theorem E_slices_reverseRangeCmpFunc_lits_Lit (a0 : Sl) (a1 : Int) (a2 : Int) (a3 : Value) (K : Unit → HP) (h : Heap) : fnVC Try.prog [(1000000, .nil)] 34 Try.f122 [(.slice a0.a a0.len a0.cap), (.int .i64 a1), (.int .i64 a2), a3] (.tup .nil) K h = F_slices_reverseRangeCmpFunc_lits_Lit a0 a1 a2 a3 K h := by kernel_rfl
set_option maxRecDepth 100000 in
theorem S_slices_reverseRangeCmpFunc_lits_Lit{h : Heap} {a0 : Sl} {a1 : Int} {a2 : Int} {a3 : Value} (K : Unit → HP) (hF : F_slices_reverseRangeCmpFunc_lits_Lit a0 a1 a2 a3 K h) : CallsH Try.prog fn_slices_reverseRangeCmpFunc_lits_Lit #[(.slice a0.a a0.len a0.cap), (.int .i64 a1), (.int .i64 a2), a3] h fun v h' => ∃ x : Unit, v = Ty.enc (.tup .nil) x ∧ K x h' :=
  callsH_of_fn (P := Try.prog) (fn := Try.f122) (τ := (.tup .nil)) follows Try.func122 (by kernel_rfl) (by kernel_rfl) Try.call122 (Eq.mpr (E_slices_reverseRangeCmpFunc_lits_Lit a0 a1 a2 a3 K h) hF)


/-- slices.partialInsertionSortCmpFunc[salvor/lits.Lit] -/
def F_slices_partialInsertionSortCmpFunc_lits_Lit (a0 : Sl) (a1 : Int) (a2 : Int) (a3 : Value) (K : Bool → HP) : HP :=
 lfp (σ := (Int × (Int × (Bool × Unit)))) (fun X0 s1 => /- j i  -/
 brB (decide (s1.1 < (5 : Int)))
 (jn (σ := (Int × Unit)) (fun s3 => /- i -/
 brB (s3.1 == a2)
 (K true)
 (brB (decide ((IntKind.wrap .i64 (a2 - a1)) < (50 : Int)))
 (K false)
 (sx a0.a a0.len (IntKind.wrap .i64 (s3.1 - (1 : Int))) 1 fun p4 =>
 ldT (.int .i64) p4 fun x5 =>
 sx a0.a a0.len s3.1 1 fun p6 =>
 ldT (.int .i64) p6 fun x7 =>
 sx a0.a a0.len s3.1 1 fun p8 =>
 st1 p8 (.int .i64 x5) <|
 sx a0.a a0.len (IntKind.wrap .i64 (s3.1 - (1 : Int))) 1 fun p9 =>
 st1 p9 (.int .i64 x7) <|
 jn (σ := Unit) (fun s11 => /- -/
 jn (σ := Unit) (fun s13 => /- -/
 X0 ((IntKind.wrap .i64 (s1.1 + (1 : Int))), s3.1, s1.2.2.1, ()))
 (fun J12 =>
 brB (decide ((IntKind.wrap .i64 (a2 - s3.1)) ≥ (2 : Int)))
 (jn (σ := (Int × Unit)) (fun s15 => /- j -/
 J12 (()))
 (fun J14 =>
 lfp (σ := (Int × Unit)) (fun X16 s17 => /- j -/
 brB (decide (s17.1 < a2))
 (sx a0.a a0.len s17.1 1 fun p18 =>
 ldT (.int .i64) p18 fun x19 =>
 sx a0.a a0.len (IntKind.wrap .i64 (s17.1 - (1 : Int))) 1 fun p20 =>
 ldT (.int .i64) p20 fun x21 =>
 callF Try.prog a3 #[(.int .i64 x19), (.int .i64 x21)] (.int .i64) fun r22 =>
 brB (!(decide (r22 < (0 : Int))))
 (J14 (s17.1, ()))
 (sx a0.a a0.len (IntKind.wrap .i64 (s17.1 - (1 : Int))) 1 fun p23 =>
 ldT (.int .i64) p23 fun x24 =>
 sx a0.a a0.len s17.1 1 fun p25 =>
 ldT (.int .i64) p25 fun x26 =>
 sx a0.a a0.len s17.1 1 fun p27 =>
 st1 p27 (.int .i64 x24) <|
 sx a0.a a0.len (IntKind.wrap .i64 (s17.1 - (1 : Int))) 1 fun p28 =>
 st1 p28 (.int .i64 x26) <|
 X16 ((IntKind.wrap .i64 (s17.1 + (1 : Int))), ())))
 (J14 (s17.1, ())))
 ((IntKind.wrap .i64 (s3.1 + (1 : Int))), ())))
 (J12 (()))))
 (fun J10 =>
 brB (decide ((IntKind.wrap .i64 (s3.1 - a1)) ≥ (2 : Int)))
 (jn (σ := (Int × Unit)) (fun s30 => /- j -/
 J10 (()))
 (fun J29 =>
 lfp (σ := (Int × Unit)) (fun X31 s32 => /- j -/
 brB (decide (s32.1 ≥ (1 : Int)))
 (sx a0.a a0.len s32.1 1 fun p33 =>
 ldT (.int .i64) p33 fun x34 =>
 sx a0.a a0.len (IntKind.wrap .i64 (s32.1 - (1 : Int))) 1 fun p35 =>
 ldT (.int .i64) p35 fun x36 =>
 callF Try.prog a3 #[(.int .i64 x34), (.int .i64 x36)] (.int .i64) fun r37 =>
 brB (!(decide (r37 < (0 : Int))))
 (J29 (s32.1, ()))
 (sx a0.a a0.len (IntKind.wrap .i64 (s32.1 - (1 : Int))) 1 fun p38 =>
 ldT (.int .i64) p38 fun x39 =>
 sx a0.a a0.len s32.1 1 fun p40 =>
 ldT (.int .i64) p40 fun x41 =>
 sx a0.a a0.len s32.1 1 fun p42 =>
 st1 p42 (.int .i64 x39) <|
 sx a0.a a0.len (IntKind.wrap .i64 (s32.1 - (1 : Int))) 1 fun p43 =>
 st1 p43 (.int .i64 x41) <|
 X31 ((IntKind.wrap .i64 (s32.1 - (1 : Int))), ())))
 (J29 (s32.1, ())))
 ((IntKind.wrap .i64 (s3.1 - (1 : Int))), ())))
 (J10 (()))))))
 (fun J2 =>
 lfp (σ := (Int × Unit)) (fun X44 s45 => /- i -/
 brB (decide (s45.1 < a2))
 (sx a0.a a0.len s45.1 1 fun p46 =>
 ldT (.int .i64) p46 fun x47 =>
 sx a0.a a0.len (IntKind.wrap .i64 (s45.1 - (1 : Int))) 1 fun p48 =>
 ldT (.int .i64) p48 fun x49 =>
 callF Try.prog a3 #[(.int .i64 x47), (.int .i64 x49)] (.int .i64) fun r50 =>
 brB (!(decide (r50 < (0 : Int))))
 (X44 ((IntKind.wrap .i64 (s45.1 + (1 : Int))), ()))
 (J2 (s45.1, ())))
 (J2 (s45.1, ())))
 (s1.2.1, ())))
 (K false))
 ((0 : Int), (IntKind.wrap .i64 (a1 + (1 : Int))), false, ())
set_option maxRecDepth 100000 in
theorem E_slices_partialInsertionSortCmpFunc_lits_Lit (a0 : Sl) (a1 : Int) (a2 : Int) (a3 : Value) (K : Bool → HP) (h : Heap) : fnVC Try.prog [(1000000, .nil)] 141 Try.f123 [(.slice a0.a a0.len a0.cap), (.int .i64 a1), (.int .i64 a2), a3] .bool K h = F_slices_partialInsertionSortCmpFunc_lits_Lit a0 a1 a2 a3 K h := by kernel_rfl
set_option maxRecDepth 100000 in
theorem S_slices_partialInsertionSortCmpFunc_lits_Lit{h : Heap} {a0 : Sl} {a1 : Int} {a2 : Int} {a3 : Value} (K : Bool → HP) (hF : F_slices_partialInsertionSortCmpFunc_lits_Lit a0 a1 a2 a3 K h) : CallsH Try.prog fn_slices_partialInsertionSortCmpFunc_lits_Lit #[(.slice a0.a a0.len a0.cap), (.int .i64 a1), (.int .i64 a2), a3] h fun v h' => ∃ x : Bool, v = Ty.enc .bool x ∧ K x h' :=
  callsH_of_fn (P := Try.prog) (fn := Try.f123) (τ := .bool) follows Try.func123 (by kernel_rfl) (by kernel_rfl) Try.call123 (Eq.mpr (E_slices_partialInsertionSortCmpFunc_lits_Lit a0 a1 a2 a3 K h) hF)


/-- slices.partitionEqualCmpFunc[salvor/lits.Lit] -/
def F_slices_partitionEqualCmpFunc_lits_Lit (a0 : Sl) (a1 : Int) (a2 : Int) (a3 : Int) (a4 : Value) (K : Int → HP) : HP :=
 sx a0.a a0.len a3 1 fun p0 =>
 ldT (.int .i64) p0 fun x1 =>
 sx a0.a a0.len a1 1 fun p2 =>
 ldT (.int .i64) p2 fun x3 =>
 sx a0.a a0.len a1 1 fun p4 =>
 st1 p4 (.int .i64 x1) <|
 sx a0.a a0.len a3 1 fun p5 =>
 st1 p5 (.int .i64 x3) <|
 lfp (σ := (Int × (Int × Unit))) (fun X6 s7 => /- j i -/
 jn (σ := (Int × Unit)) (fun s9 => /- i -/
 jn (σ := (Int × Unit)) (fun s11 => /- j -/
 brB (decide (s9.1 > s11.1))
 (K s9.1)
 (sx a0.a a0.len s11.1 1 fun p12 =>
 ldT (.int .i64) p12 fun x13 =>
 sx a0.a a0.len s9.1 1 fun p14 =>
 ldT (.int .i64) p14 fun x15 =>
 sx a0.a a0.len s9.1 1 fun p16 =>
 st1 p16 (.int .i64 x13) <|
 sx a0.a a0.len s11.1 1 fun p17 =>
 st1 p17 (.int .i64 x15) <|
 X6 ((IntKind.wrap .i64 (s11.1 - (1 : Int))), (IntKind.wrap .i64 (s9.1 + (1 : Int))), ())))
 (fun J10 =>
 lfp (σ := (Int × Unit)) (fun X18 s19 => /- j -/
 brB (decide (s9.1 ≤ s19.1))
 (sx a0.a a0.len a1 1 fun p20 =>
 ldT (.int .i64) p20 fun x21 =>
 sx a0.a a0.len s19.1 1 fun p22 =>
 ldT (.int .i64) p22 fun x23 =>
 callF Try.prog a4 #[(.int .i64 x21), (.int .i64 x23)] (.int .i64) fun r24 =>
 brB (decide (r24 < (0 : Int)))
 (X18 ((IntKind.wrap .i64 (s19.1 - (1 : Int))), ()))
 (J10 (s19.1, ())))
 (J10 (s19.1, ())))
 (s7.1, ())))
 (fun J8 =>
 lfp (σ := (Int × Unit)) (fun X25 s26 => /- i -/
 brB (decide (s26.1 ≤ s7.1))
 (sx a0.a a0.len a1 1 fun p27 =>
 ldT (.int .i64) p27 fun x28 =>
 sx a0.a a0.len s26.1 1 fun p29 =>
 ldT (.int .i64) p29 fun x30 =>
 callF Try.prog a4 #[(.int .i64 x28), (.int .i64 x30)] (.int .i64) fun r31 =>
 brB (!(decide (r31 < (0 : Int))))
 (X25 ((IntKind.wrap .i64 (s26.1 + (1 : Int))), ()))
 (J8 (s26.1, ())))
 (J8 (s26.1, ())))
 (s7.2.1, ())))
 ((IntKind.wrap .i64 (a2 - (1 : Int))), (IntKind.wrap .i64 (a1 + (1 : Int))), ())
set_option maxRecDepth 100000 in
theorem E_slices_partitionEqualCmpFunc_lits_Lit (a0 : Sl) (a1 : Int) (a2 : Int) (a3 : Int) (a4 : Value) (K : Int → HP) (h : Heap) : fnVC Try.prog [(1000000, .nil)] 90 Try.f124 [(.slice a0.a a0.len a0.cap), (.int .i64 a1), (.int .i64 a2), (.int .i64 a3), a4] (.int .i64) K h = F_slices_partitionEqualCmpFunc_lits_Lit a0 a1 a2 a3 a4 K h := by kernel_rfl
set_option maxRecDepth 100000 in
theorem S_slices_partitionEqualCmpFunc_lits_Lit{h : Heap} {a0 : Sl} {a1 : Int} {a2 : Int} {a3 : Int} {a4 : Value} (K : Int → HP) (hF : F_slices_partitionEqualCmpFunc_lits_Lit a0 a1 a2 a3 a4 K h) : CallsH Try.prog fn_slices_partitionEqualCmpFunc_lits_Lit #[(.slice a0.a a0.len a0.cap), (.int .i64 a1), (.int .i64 a2), (.int .i64 a3), a4] h fun v h' => ∃ x : Int, v = Ty.enc (.int .i64) x ∧ K x h' :=
  callsH_of_fn (P := Try.prog) (fn := Try.f124) (τ := (.int .i64)) follows Try.func124 (by kernel_rfl) (by kernel_rfl) Try.call124 (Eq.mpr (E_slices_partitionEqualCmpFunc_lits_Lit a0 a1 a2 a3 a4 K h) hF)


/-- slices.partitionCmpFunc[salvor/lits.Lit] -/
def F_slices_partitionCmpFunc_lits_Lit (a0 : Sl) (a1 : Int) (a2 : Int) (a3 : Int) (a4 : Value) (K : (Int × (Bool × Unit)) → HP) : HP :=
 sx a0.a a0.len a3 1 fun p0 =>
 ldT (.int .i64) p0 fun x1 =>
 sx a0.a a0.len a1 1 fun p2 =>
 ldT (.int .i64) p2 fun x3 =>
 sx a0.a a0.len a1 1 fun p4 =>
 st1 p4 (.int .i64 x1) <|
 sx a0.a a0.len a3 1 fun p5 =>
 st1 p5 (.int .i64 x3) <|
 jn (σ := (Int × Unit)) (fun s7 => /- i -/
 jn (σ := (Int × Unit)) (fun s9 => /- j -/
 brB (decide (s7.1 > s9.1))
 (sx a0.a a0.len a1 1 fun p10 =>
 ldT (.int .i64) p10 fun x11 =>
 sx a0.a a0.len s9.1 1 fun p12 =>
 ldT (.int .i64) p12 fun x13 =>
 sx a0.a a0.len s9.1 1 fun p14 =>
 st1 p14 (.int .i64 x11) <|
 sx a0.a a0.len a1 1 fun p15 =>
 st1 p15 (.int .i64 x13) <|
 K (s9.1, true, ()))
 (sx a0.a a0.len s9.1 1 fun p16 =>
 ldT (.int .i64) p16 fun x17 =>
 sx a0.a a0.len s7.1 1 fun p18 =>
 ldT (.int .i64) p18 fun x19 =>
 sx a0.a a0.len s7.1 1 fun p20 =>
 st1 p20 (.int .i64 x17) <|
 sx a0.a a0.len s9.1 1 fun p21 =>
 st1 p21 (.int .i64 x19) <|
 lfp (σ := (Int × (Int × Unit))) (fun X22 s23 => /- j i -/
 jn (σ := (Int × Unit)) (fun s25 => /- i -/
 jn (σ := (Int × Unit)) (fun s27 => /- j -/
 brB (decide (s25.1 > s27.1))
 (sx a0.a a0.len a1 1 fun p28 =>
 ldT (.int .i64) p28 fun x29 =>
 sx a0.a a0.len s27.1 1 fun p30 =>
 ldT (.int .i64) p30 fun x31 =>
 sx a0.a a0.len s27.1 1 fun p32 =>
 st1 p32 (.int .i64 x29) <|
 sx a0.a a0.len a1 1 fun p33 =>
 st1 p33 (.int .i64 x31) <|
 K (s27.1, false, ()))
 (sx a0.a a0.len s27.1 1 fun p34 =>
 ldT (.int .i64) p34 fun x35 =>
 sx a0.a a0.len s25.1 1 fun p36 =>
 ldT (.int .i64) p36 fun x37 =>
 sx a0.a a0.len s25.1 1 fun p38 =>
 st1 p38 (.int .i64 x35) <|
 sx a0.a a0.len s27.1 1 fun p39 =>
 st1 p39 (.int .i64 x37) <|
 X22 ((IntKind.wrap .i64 (s27.1 - (1 : Int))), (IntKind.wrap .i64 (s25.1 + (1 : Int))), ())))
 (fun J26 =>
 lfp (σ := (Int × Unit)) (fun X40 s41 => /- j -/
 brB (decide (s25.1 ≤ s41.1))
 (sx a0.a a0.len s41.1 1 fun p42 =>
 ldT (.int .i64) p42 fun x43 =>
 sx a0.a a0.len a1 1 fun p44 =>
 ldT (.int .i64) p44 fun x45 =>
 callF Try.prog a4 #[(.int .i64 x43), (.int .i64 x45)] (.int .i64) fun r46 =>
 brB (!(decide (r46 < (0 : Int))))
 (X40 ((IntKind.wrap .i64 (s41.1 - (1 : Int))), ()))
 (J26 (s41.1, ())))
 (J26 (s41.1, ())))
 (s23.1, ())))
 (fun J24 =>
 lfp (σ := (Int × Unit)) (fun X47 s48 => /- i -/
 brB (decide (s48.1 ≤ s23.1))
 (sx a0.a a0.len s48.1 1 fun p49 =>
 ldT (.int .i64) p49 fun x50 =>
 sx a0.a a0.len a1 1 fun p51 =>
 ldT (.int .i64) p51 fun x52 =>
 callF Try.prog a4 #[(.int .i64 x50), (.int .i64 x52)] (.int .i64) fun r53 =>
 brB (decide (r53 < (0 : Int)))
 (X47 ((IntKind.wrap .i64 (s48.1 + (1 : Int))), ()))
 (J24 (s48.1, ())))
 (J24 (s48.1, ())))
 (s23.2.1, ())))
 ((IntKind.wrap .i64 (s9.1 - (1 : Int))), (IntKind.wrap .i64 (s7.1 + (1 : Int))), ())))
 (fun J8 =>
 lfp (σ := (Int × Unit)) (fun X54 s55 => /- j -/
 brB (decide (s7.1 ≤ s55.1))
 (sx a0.a a0.len s55.1 1 fun p56 =>
 ldT (.int .i64) p56 fun x57 =>
 sx a0.a a0.len a1 1 fun p58 =>
 ldT (.int .i64) p58 fun x59 =>
 callF Try.prog a4 #[(.int .i64 x57), (.int .i64 x59)] (.int .i64) fun r60 =>
 brB (!(decide (r60 < (0 : Int))))
 (X54 ((IntKind.wrap .i64 (s55.1 - (1 : Int))), ()))
 (J8 (s55.1, ())))
 (J8 (s55.1, ())))
 ((IntKind.wrap .i64 (a2 - (1 : Int))), ())))
 (fun J6 =>
 lfp (σ := (Int × Unit)) (fun X61 s62 => /- i -/
 brB (decide (s62.1 ≤ (IntKind.wrap .i64 (a2 - (1 : Int)))))
 (sx a0.a a0.len s62.1 1 fun p63 =>
 ldT (.int .i64) p63 fun x64 =>
 sx a0.a a0.len a1 1 fun p65 =>
 ldT (.int .i64) p65 fun x66 =>
 callF Try.prog a4 #[(.int .i64 x64), (.int .i64 x66)] (.int .i64) fun r67 =>
 brB (decide (r67 < (0 : Int)))
 (X61 ((IntKind.wrap .i64 (s62.1 + (1 : Int))), ()))
 (J6 (s62.1, ())))
 (J6 (s62.1, ())))
 ((IntKind.wrap .i64 (a1 + (1 : Int))), ()))
set_option maxRecDepth 100000 in
theorem E_slices_partitionCmpFunc_lits_Lit (a0 : Sl) (a1 : Int) (a2 : Int) (a3 : Int) (a4 : Value) (K : (Int × (Bool × Unit)) → HP) (h : Heap) : fnVC Try.prog [(1000000, .nil)] 178 Try.f125 [(.slice a0.a a0.len a0.cap), (.int .i64 a1), (.int .i64 a2), (.int .i64 a3), a4] (.tup (.cons (.int .i64) (.cons .bool .nil))) K h = F_slices_partitionCmpFunc_lits_Lit a0 a1 a2 a3 a4 K h := by kernel_rfl
set_option maxRecDepth 100000 in
theorem S_slices_partitionCmpFunc_lits_Lit{h : Heap} {a0 : Sl} {a1 : Int} {a2 : Int} {a3 : Int} {a4 : Value} (K : (Int × (Bool × Unit)) → HP) (hF : F_slices_partitionCmpFunc_lits_Lit a0 a1 a2 a3 a4 K h) : CallsH Try.prog fn_slices_partitionCmpFunc_lits_Lit #[(.slice a0.a a0.len a0.cap), (.int .i64 a1), (.int .i64 a2), (.int .i64 a3), a4] h fun v h' => ∃ x : (Int × (Bool × Unit)), v = Ty.enc (.tup (.cons (.int .i64) (.cons .bool .nil))) x ∧ K x h' :=
  callsH_of_fn (P := Try.prog) (fn := Try.f125) (τ := (.tup (.cons (.int .i64) (.cons .bool .nil)))) follows Try.func125 (by kernel_rfl) (by kernel_rfl) Try.call125 (Eq.mpr (E_slices_partitionCmpFunc_lits_Lit a0 a1 a2 a3 a4 K h) hF)


/-- math/bits.Len32 -/
def F_math_bits_Len32 (a0 : Int) (K : Int → HP) : HP :=
 jn (σ := (Int × (Int × Unit))) (fun s1 => /- n x -/
 jn (σ := (Int × (Int × Unit))) (fun s3 => /- n x -/
 six (ByteArray.mk #[0, 1, 2, 2, 3, 3, 3, 3, 4, 4, 4, 4, 4, 4, 4, 4, 5, 5, 5, 5, 5, 5, 5, 5, 5, 5, 5, 5, 5, 5, 5, 5, 6, 6, 6, 6, 6, 6, 6, 6, 6, 6, 6, 6, 6, 6, 6, 6, 6, 6, 6, 6, 6, 6, 6, 6, 6, 6, 6, 6, 6, 6, 6, 6, 7, 7, 7, 7, 7, 7, 7, 7, 7, 7, 7, 7, 7, 7, 7, 7, 7, 7, 7, 7, 7, 7, 7, 7, 7, 7, 7, 7, 7, 7, 7, 7, 7, 7, 7, 7, 7, 7, 7, 7, 7, 7, 7, 7, 7, 7, 7, 7, 7, 7, 7, 7, 7, 7, 7, 7, 7, 7, 7, 7, 7, 7, 7, 7, 8, 8, 8, 8, 8, 8, 8, 8, 8, 8, 8, 8, 8, 8, 8, 8, 8, 8, 8, 8, 8, 8, 8, 8, 8, 8, 8, 8, 8, 8, 8, 8, 8, 8, 8, 8, 8, 8, 8, 8, 8, 8, 8, 8, 8, 8, 8, 8, 8, 8, 8, 8, 8, 8, 8, 8, 8, 8, 8, 8, 8, 8, 8, 8, 8, 8, 8, 8, 8, 8, 8, 8, 8, 8, 8, 8, 8, 8, 8, 8, 8, 8, 8, 8, 8, 8, 8, 8, 8, 8, 8, 8, 8, 8, 8, 8, 8, 8, 8, 8, 8, 8, 8, 8, 8, 8, 8, 8, 8, 8, 8, 8, 8, 8, 8, 8, 8, 8, 8, 8, 8, 8, 8, 8, 8, 8, 8, 8]) (IntKind.wrap .u8 s3.2.1) fun c4 =>
 K (IntKind.wrap .i64 (s3.1 + (IntKind.wrap .i64 c4))))
 (fun J2 =>
 brB (decide (s1.2.1 ≥ (256 : Int)))
 (ge0 (8 : Int) <|
 J2 ((IntKind.wrap .i64 (s1.1 + (8 : Int))), (Int.fdiv s1.2.1 (2 ^ (min ((8 : Int)).toNat 32))), ()))
 (J2 (s1.1, s1.2.1, ()))))
 (fun J0 =>
 brB (decide (a0 ≥ (65536 : Int)))
 (ge0 (16 : Int) <|
 J0 ((16 : Int), (Int.fdiv a0 (2 ^ (min ((16 : Int)).toNat 32))), ()))
 (J0 ((0 : Int), a0, ())))
set_option maxRecDepth 100000 in
theorem E_math_bits_Len32 (a0 : Int) (K : Int → HP) (h : Heap) : fnVC Try.prog [(1000000, .nil)] 19 Try.f126 [(.int .u32 a0)] (.int .i64) K h = F_math_bits_Len32 a0 K h := by kernel_rfl
set_option maxRecDepth 100000 in
theorem S_math_bits_Len32{h : Heap} {a0 : Int} (K : Int → HP) (hF : F_math_bits_Len32 a0 K h) : CallsH Try.prog fn_math_bits_Len32 #[(.int .u32 a0)] h fun v h' => ∃ x : Int, v = Ty.enc (.int .i64) x ∧ K x h' :=
  callsH_of_fn (P := Try.prog) (fn := Try.f126) (τ := (.int .i64)) follows Try.func126 (by kernel_rfl) (by kernel_rfl) Try.call126 (Eq.mpr (E_math_bits_Len32 a0 K h) hF)


/-- math/bits.Len64 -/
def F_math_bits_Len64 (a0 : Int) (K : Int → HP) : HP :=
 jn (σ := (Int × (Int × Unit))) (fun s1 => /- n x -/
 jn (σ := (Int × (Int × Unit))) (fun s3 => /- n x -/
 jn (σ := (Int × (Int × Unit))) (fun s5 => /- n x -/
 six (ByteArray.mk #[0, 1, 2, 2, 3, 3, 3, 3, 4, 4, 4, 4, 4, 4, 4, 4, 5, 5, 5, 5, 5, 5, 5, 5, 5, 5, 5, 5, 5, 5, 5, 5, 6, 6, 6, 6, 6, 6, 6, 6, 6, 6, 6, 6, 6, 6, 6, 6, 6, 6, 6, 6, 6, 6, 6, 6, 6, 6, 6, 6, 6, 6, 6, 6, 7, 7, 7, 7, 7, 7, 7, 7, 7, 7, 7, 7, 7, 7, 7, 7, 7, 7, 7, 7, 7, 7, 7, 7, 7, 7, 7, 7, 7, 7, 7, 7, 7, 7, 7, 7, 7, 7, 7, 7, 7, 7, 7, 7, 7, 7, 7, 7, 7, 7, 7, 7, 7, 7, 7, 7, 7, 7, 7, 7, 7, 7, 7, 7, 8, 8, 8, 8, 8, 8, 8, 8, 8, 8, 8, 8, 8, 8, 8, 8, 8, 8, 8, 8, 8, 8, 8, 8, 8, 8, 8, 8, 8, 8, 8, 8, 8, 8, 8, 8, 8, 8, 8, 8, 8, 8, 8, 8, 8, 8, 8, 8, 8, 8, 8, 8, 8, 8, 8, 8, 8, 8, 8, 8, 8, 8, 8, 8, 8, 8, 8, 8, 8, 8, 8, 8, 8, 8, 8, 8, 8, 8, 8, 8, 8, 8, 8, 8, 8, 8, 8, 8, 8, 8, 8, 8, 8, 8, 8, 8, 8, 8, 8, 8, 8, 8, 8, 8, 8, 8, 8, 8, 8, 8, 8, 8, 8, 8, 8, 8, 8, 8, 8, 8, 8, 8, 8, 8, 8, 8, 8, 8]) (IntKind.wrap .u8 s5.2.1) fun c6 =>
 K (IntKind.wrap .i64 (s5.1 + (IntKind.wrap .i64 c6))))
 (fun J4 =>
 brB (decide (s3.2.1 ≥ (256 : Int)))
 (ge0 (8 : Int) <|
 J4 ((IntKind.wrap .i64 (s3.1 + (8 : Int))), (Int.fdiv s3.2.1 (2 ^ (min ((8 : Int)).toNat 64))), ()))
 (J4 (s3.1, s3.2.1, ()))))
 (fun J2 =>
 brB (decide (s1.2.1 ≥ (65536 : Int)))
 (ge0 (16 : Int) <|
 J2 ((IntKind.wrap .i64 (s1.1 + (16 : Int))), (Int.fdiv s1.2.1 (2 ^ (min ((16 : Int)).toNat 64))), ()))
 (J2 (s1.1, s1.2.1, ()))))
 (fun J0 =>
 brB (decide (a0 ≥ (4294967296 : Int)))
 (ge0 (32 : Int) <|
 J0 ((32 : Int), (Int.fdiv a0 (2 ^ (min ((32 : Int)).toNat 64))), ()))
 (J0 ((0 : Int), a0, ())))
set_option maxRecDepth 100000 in
theorem E_math_bits_Len64 (a0 : Int) (K : Int → HP) (h : Heap) : fnVC Try.prog [(1000000, .nil)] 25 Try.f127 [(.int .u64 a0)] (.int .i64) K h = F_math_bits_Len64 a0 K h := by kernel_rfl
set_option maxRecDepth 100000 in
theorem S_math_bits_Len64{h : Heap} {a0 : Int} (K : Int → HP) (hF : F_math_bits_Len64 a0 K h) : CallsH Try.prog fn_math_bits_Len64 #[(.int .u64 a0)] h fun v h' => ∃ x : Int, v = Ty.enc (.int .i64) x ∧ K x h' :=
  callsH_of_fn (P := Try.prog) (fn := Try.f127) (τ := (.int .i64)) follows Try.func127 (by kernel_rfl) (by kernel_rfl) Try.call127 (Eq.mpr (E_math_bits_Len64 a0 K h) hF)


/-- cmp.isNaN[int] -/
def F_cmp_isNaN_int (a0 : Int) (K : Bool → HP) : HP :=
 K (a0 != a0)
set_option maxRecDepth 100000 in
theorem E_cmp_isNaN_int (a0 : Int) (K : Bool → HP) (h : Heap) : fnVC Try.prog [(1000000, .nil)] 6 Try.f128 [(.int .i64 a0)] .bool K h = F_cmp_isNaN_int a0 K h := by kernel_rfl
set_option maxRecDepth 100000 in
theorem S_cmp_isNaN_int{h : Heap} {a0 : Int} (K : Bool → HP) (hF : F_cmp_isNaN_int a0 K h) : CallsH Try.prog fn_cmp_isNaN_int #[(.int .i64 a0)] h fun v h' => ∃ x : Bool, v = Ty.enc .bool x ∧ K x h' :=
  callsH_of_fn (P := Try.prog) (fn := Try.f128) (τ := .bool) follows Try.func128 (by kernel_rfl) (by kernel_rfl) Try.call128 (Eq.mpr (E_cmp_isNaN_int a0 K h) hF)


/-- cmp.isNaN[salvor/lits.Lit] -/
def F_cmp_isNaN_lits_Lit (a0 : Int) (K : Bool → HP) : HP :=
 K (a0 != a0)
set_option maxRecDepth 100000 in
theorem E_cmp_isNaN_lits_Lit (a0 : Int) (K : Bool → HP) (h : Heap) : fnVC Try.prog [(1000000, .nil)] 6 Try.f129 [(.int .i64 a0)] .bool K h = F_cmp_isNaN_lits_Lit a0 K h := by kernel_rfl
set_option maxRecDepth 100000 in
theorem S_cmp_isNaN_lits_Lit{h : Heap} {a0 : Int} (K : Bool → HP) (hF : F_cmp_isNaN_lits_Lit a0 K h) : CallsH Try.prog fn_cmp_isNaN_lits_Lit #[(.int .i64 a0)] h fun v h' => ∃ x : Bool, v = Ty.enc .bool x ∧ K x h' :=
  callsH_of_fn (P := Try.prog) (fn := Try.f129) (τ := .bool) follows Try.func129 (by kernel_rfl) (by kernel_rfl) Try.call129 (Eq.mpr (E_cmp_isNaN_lits_Lit a0 K h) hF)


/-- slices.Reverse[[]salvor/clauses.Clause,salvor/clauses.Clause] -/
def F_slices_Reverse_clauses_Clause_clauses_Clause (a0 : Sl) (K : Unit → HP) : HP :=
 lfp (σ := (Int × (Int × Unit))) (fun X0 s1 => /- j i -/
 brB (decide (s1.2.1 < s1.1))
 (sx a0.a a0.len s1.1 1 fun p2 =>
 ldT .sl p2 fun x3 =>
 sx a0.a a0.len s1.2.1 1 fun p4 =>
 ldT .sl p4 fun x5 =>
 sx a0.a a0.len s1.2.1 1 fun p6 =>
 st1 p6 (.slice x3.a x3.len x3.cap) <|
 sx a0.a a0.len s1.1 1 fun p7 =>
 st1 p7 (.slice x5.a x5.len x5.cap) <|
 X0 ((IntKind.wrap .i64 (s1.1 - (1 : Int))), (IntKind.wrap .i64 (s1.2.1 + (1 : Int))), ()))
 (K (())))
 ((IntKind.wrap .i64 ((a0.len : Int) - (1 : Int))), (0 : Int), ())
set_option maxRecDepth 100000 in
theorem E_slices_Reverse_clauses_Clause_clauses_Clause (a0 : Sl) (K : Unit → HP) (h : Heap) : fnVC Try.prog [(1000000, .nil)] 28 Try.f130 [(.slice a0.a a0.len a0.cap)] (.tup .nil) K h = F_slices_Reverse_clauses_Clause_clauses_Clause a0 K h := by kernel_rfl
set_option maxRecDepth 100000 in
theorem S_slices_Reverse_clauses_Clause_clauses_Clause{h : Heap} {a0 : Sl} (K : Unit → HP) (hF : F_slices_Reverse_clauses_Clause_clauses_Clause a0 K h) : CallsH Try.prog fn_slices_Reverse_clauses_Clause_clauses_Clause #[(.slice a0.a a0.len a0.cap)] h fun v h' => ∃ x : Unit, v = Ty.enc (.tup .nil) x ∧ K x h' :=
  callsH_of_fn (P := Try.prog) (fn := Try.f130) (τ := (.tup .nil)) follows Try.func130 (by kernel_rfl) (by kernel_rfl) Try.call130 (Eq.mpr (E_slices_Reverse_clauses_Clause_clauses_Clause a0 K h) hF)


/-- slices.AppendSeq[[]salvor/lits.Lit,salvor/lits.Lit] -/
def F_slices_AppendSeq_lits_Lit_lits_Lit (a0 : Sl) (a1 : Value) (K : Sl → HP) : HP := fun h0 => (
 nw #[(.slice a0.a a0.len a0.cap)] ty_sl_lits_Lit fun b0 =>
 RangeVC Try.prog (.cons (.int .i64) .nil) a1 (fun x1 wrap2 next3 jump4 =>
 wrap2 <|
 ldT .sl (⟨b0, 0, none⟩ : Addr) fun x5 =>
 nw #[(.int .i64 x1.1)] ty_lits_Lit fun b6 =>
 apd ty_lits_Lit 1 8 #[(.int .i64 (0 : Int))] ⟨x5.a, x5.len, x5.cap⟩ ⟨(some (⟨b6, 0, none⟩ : Addr)), 1, 1⟩ fun s7 =>
 st1 (⟨b0, 0, none⟩ : Addr) (.slice s7.a s7.len s7.cap) <|
 next3)
 (ldT .sl (⟨b0, 0, none⟩ : Addr) fun x8 =>
 mkd h0.size <|
 K ⟨x8.a, x8.len, x8.cap⟩)
 (mkd h0.size <|
 K ⟨none, 0, 0⟩)
 []
 []) h0
set_option maxRecDepth 100000 in
theorem E_slices_AppendSeq_lits_Lit_lits_Lit (a0 : Sl) (a1 : Value) (K : Sl → HP) (h : Heap) : fnVC Try.prog [(1000000, .nil), (7, (.cons (.int .i64) .nil))] 13 Try.f131 [(.slice a0.a a0.len a0.cap), a1] .sl K h = F_slices_AppendSeq_lits_Lit_lits_Lit a0 a1 K h := by kernel_rfl
set_option maxRecDepth 100000 in
theorem S_slices_AppendSeq_lits_Lit_lits_Lit{h : Heap} {a0 : Sl} {a1 : Value} (K : Sl → HP) (hF : F_slices_AppendSeq_lits_Lit_lits_Lit a0 a1 K h) : CallsH Try.prog fn_slices_AppendSeq_lits_Lit_lits_Lit #[(.slice a0.a a0.len a0.cap), a1] h fun v h' => ∃ x : Sl, v = Ty.enc .sl x ∧ K x h' :=
  callsH_of_fn (P := Try.prog) (fn := Try.f131) (τ := .sl) follows Try.func131 (by kernel_rfl) (by kernel_rfl) Try.call131 (Eq.mpr (E_slices_AppendSeq_lits_Lit_lits_Lit a0 a1 K h) hF)


/-- slices.siftDownCmpFunc[salvor/lits.Lit] -/
def F_slices_siftDownCmpFunc_lits_Lit (a0 : Sl) (a1 : Int) (a2 : Int) (a3 : Int) (a4 : Value) (K : Unit → HP) : HP :=
 lfp (σ := (Int × Unit)) (fun X0 s1 => /- root -/
 brB (decide ((IntKind.wrap .i64 ((IntKind.wrap .i64 ((2 : Int) * s1.1)) + (1 : Int))) ≥ a2))
 (K (()))
 (brB (decide ((IntKind.wrap .i64 ((IntKind.wrap .i64 ((IntKind.wrap .i64 ((2 : Int) * s1.1)) + (1 : Int))) + (1 : Int))) < a2))
 (sx a0.a a0.len (IntKind.wrap .i64 (a3 + (IntKind.wrap .i64 ((IntKind.wrap .i64 ((2 : Int) * s1.1)) + (1 : Int))))) 1 fun p2 =>
 ldT (.int .i64) p2 fun x3 =>
 sx a0.a a0.len (IntKind.wrap .i64 ((IntKind.wrap .i64 (a3 + (IntKind.wrap .i64 ((IntKind.wrap .i64 ((2 : Int) * s1.1)) + (1 : Int))))) + (1 : Int))) 1 fun p4 =>
 ldT (.int .i64) p4 fun x5 =>
 callF Try.prog a4 #[(.int .i64 x3), (.int .i64 x5)] (.int .i64) fun r6 =>
 jn (σ := (Int × Unit)) (fun s8 => /- child -/
 sx a0.a a0.len (IntKind.wrap .i64 (a3 + s1.1)) 1 fun p9 =>
 ldT (.int .i64) p9 fun x10 =>
 sx a0.a a0.len (IntKind.wrap .i64 (a3 + s8.1)) 1 fun p11 =>
 ldT (.int .i64) p11 fun x12 =>
 callF Try.prog a4 #[(.int .i64 x10), (.int .i64 x12)] (.int .i64) fun r13 =>
 brB (!(decide (r13 < (0 : Int))))
 (K (()))
 (sx a0.a a0.len (IntKind.wrap .i64 (a3 + s8.1)) 1 fun p14 =>
 ldT (.int .i64) p14 fun x15 =>
 sx a0.a a0.len (IntKind.wrap .i64 (a3 + s1.1)) 1 fun p16 =>
 ldT (.int .i64) p16 fun x17 =>
 sx a0.a a0.len (IntKind.wrap .i64 (a3 + s1.1)) 1 fun p18 =>
 st1 p18 (.int .i64 x15) <|
 sx a0.a a0.len (IntKind.wrap .i64 (a3 + s8.1)) 1 fun p19 =>
 st1 p19 (.int .i64 x17) <|
 X0 (s8.1, ())))
 (fun J7 =>
 brB (decide (r6 < (0 : Int)))
 (J7 ((IntKind.wrap .i64 ((IntKind.wrap .i64 ((IntKind.wrap .i64 ((2 : Int) * s1.1)) + (1 : Int))) + (1 : Int))), ()))
 (J7 ((IntKind.wrap .i64 ((IntKind.wrap .i64 ((2 : Int) * s1.1)) + (1 : Int))), ()))))
 (jn (σ := (Int × Unit)) (fun s21 => /- child -/
 sx a0.a a0.len (IntKind.wrap .i64 (a3 + s1.1)) 1 fun p22 =>
 ldT (.int .i64) p22 fun x23 =>
 sx a0.a a0.len (IntKind.wrap .i64 (a3 + s21.1)) 1 fun p24 =>
 ldT (.int .i64) p24 fun x25 =>
 callF Try.prog a4 #[(.int .i64 x23), (.int .i64 x25)] (.int .i64) fun r26 =>
 brB (!(decide (r26 < (0 : Int))))
 (K (()))
 (sx a0.a a0.len (IntKind.wrap .i64 (a3 + s21.1)) 1 fun p27 =>
 ldT (.int .i64) p27 fun x28 =>
 sx a0.a a0.len (IntKind.wrap .i64 (a3 + s1.1)) 1 fun p29 =>
 ldT (.int .i64) p29 fun x30 =>
 sx a0.a a0.len (IntKind.wrap .i64 (a3 + s1.1)) 1 fun p31 =>
 st1 p31 (.int .i64 x28) <|
 sx a0.a a0.len (IntKind.wrap .i64 (a3 + s21.1)) 1 fun p32 =>
 st1 p32 (.int .i64 x30) <|
 X0 (s21.1, ())))
 (fun J20 =>
 J20 ((IntKind.wrap .i64 ((IntKind.wrap .i64 ((2 : Int) * s1.1)) + (1 : Int))), ())))))
 (a1, ())
set_option maxRecDepth 100000 in
theorem E_slices_siftDownCmpFunc_lits_Lit (a0 : Sl) (a1 : Int) (a2 : Int) (a3 : Int) (a4 : Value) (K : Unit → HP) (h : Heap) : fnVC Try.prog [(1000000, .nil)] 82 Try.f132 [(.slice a0.a a0.len a0.cap), (.int .i64 a1), (.int .i64 a2), (.int .i64 a3), a4] (.tup .nil) K h = F_slices_siftDownCmpFunc_lits_Lit a0 a1 a2 a3 a4 K h := by kernel_rfl
set_option maxRecDepth 100000 in
theorem S_slices_siftDownCmpFunc_lits_Lit{h : Heap} {a0 : Sl} {a1 : Int} {a2 : Int} {a3 : Int} {a4 : Value} (K : Unit → HP) (hF : F_slices_siftDownCmpFunc_lits_Lit a0 a1 a2 a3 a4 K h) : CallsH Try.prog fn_slices_siftDownCmpFunc_lits_Lit #[(.slice a0.a a0.len a0.cap), (.int .i64 a1), (.int .i64 a2), (.int .i64 a3), a4] h fun v h' => ∃ x : Unit, v = Ty.enc (.tup .nil) x ∧ K x h' :=
  callsH_of_fn (P := Try.prog) (fn := Try.f132) (τ := (.tup .nil)) follows Try.func132 (by kernel_rfl) (by kernel_rfl) Try.call132 (Eq.mpr (E_slices_siftDownCmpFunc_lits_Lit a0 a1 a2 a3 a4 K h) hF)


/-- slices.nextPowerOfTwo -/
def F_slices_nextPowerOfTwo (a0 : Int) (K : Int → HP) : HP :=
 callT Try.prog fn_math_bits_Len #[(.int .u64 (IntKind.wrap .u64 a0))] (.int .i64) fun r0 =>
 ge0 r0 <|
 K (IntKind.wrap .u64 ((1 : Int) * 2 ^ (min (r0).toNat 64)))
set_option maxRecDepth 100000 in
theorem E_slices_nextPowerOfTwo (a0 : Int) (K : Int → HP) (h : Heap) : fnVC Try.prog [(1000000, .nil)] 7 Try.f133 [(.int .i64 a0)] (.int .u64) K h = F_slices_nextPowerOfTwo a0 K h := by kernel_rfl
set_option maxRecDepth 100000 in
theorem S_slices_nextPowerOfTwo{h : Heap} {a0 : Int} (K : Int → HP) (hF : F_slices_nextPowerOfTwo a0 K h) : CallsH Try.prog fn_slices_nextPowerOfTwo #[(.int .i64 a0)] h fun v h' => ∃ x : Int, v = Ty.enc (.int .u64) x ∧ K x h' :=
  callsH_of_fn (P := Try.prog) (fn := Try.f133) (τ := (.int .u64)) follows Try.func133 (by kernel_rfl) (by kernel_rfl) Try.call133 (Eq.mpr (E_slices_nextPowerOfTwo a0 K h) hF)


/-- (*slices.xorshift).Next -/
def F_slices_xorshift_Next (a0 : Option Addr) (K : Int → HP) : HP :=
 nn a0 fun p0 =>
 ldT (.int .u64) p0 fun x1 =>
 nn a0 fun p2 =>
 ldT (.int .u64) p2 fun x3 =>
 ge0 (13 : Int) <|
 nn a0 fun p4 =>
 st1 p4 (.int .u64 (bXor .u64 x1 (IntKind.wrap .u64 (x3 * 2 ^ (min ((13 : Int)).toNat 64))))) <|
 nn a0 fun p5 =>
 ldT (.int .u64) p5 fun x6 =>
 nn a0 fun p7 =>
 ldT (.int .u64) p7 fun x8 =>
 ge0 (7 : Int) <|
 nn a0 fun p9 =>
 st1 p9 (.int .u64 (bXor .u64 x6 (Int.fdiv x8 (2 ^ (min ((7 : Int)).toNat 64))))) <|
 nn a0 fun p10 =>
 ldT (.int .u64) p10 fun x11 =>
 nn a0 fun p12 =>
 ldT (.int .u64) p12 fun x13 =>
 ge0 (17 : Int) <|
 nn a0 fun p14 =>
 st1 p14 (.int .u64 (bXor .u64 x11 (IntKind.wrap .u64 (x13 * 2 ^ (min ((17 : Int)).toNat 64))))) <|
 nn a0 fun p15 =>
 ldT (.int .u64) p15 fun x16 =>
 K x16
set_option maxRecDepth 100000 in
theorem E_slices_xorshift_Next (a0 : Option Addr) (K : Int → HP) (h : Heap) : fnVC Try.prog [(1000000, .nil)] 33 Try.f134 [(.pointer a0)] (.int .u64) K h = F_slices_xorshift_Next a0 K h := by kernel_rfl
set_option maxRecDepth 100000 in
theorem S_slices_xorshift_Next{h : Heap} {a0 : Option Addr} (K : Int → HP) (hF : F_slices_xorshift_Next a0 K h) : CallsH Try.prog fn_slices_xorshift_Next #[(.pointer a0)] h fun v h' => ∃ x : Int, v = Ty.enc (.int .u64) x ∧ K x h' :=
  callsH_of_fn (P := Try.prog) (fn := Try.f134) (τ := (.int .u64)) follows Try.func134 (by kernel_rfl) (by kernel_rfl) Try.call134 (Eq.mpr (E_slices_xorshift_Next a0 K h) hF)


/-- slices.medianAdjacentCmpFunc[salvor/lits.Lit] -/
def F_slices_medianAdjacentCmpFunc_lits_Lit (a0 : Sl) (a1 : Int) (a2 : Option Addr) (a3 : Value) (K : Int → HP) : HP :=
 callT Try.prog fn_slices_medianCmpFunc_lits_Lit #[(.slice a0.a a0.len a0.cap), (.int .i64 (IntKind.wrap .i64 (a1 - (1 : Int)))), (.int .i64 a1), (.int .i64 (IntKind.wrap .i64 (a1 + (1 : Int)))), (.pointer a2), a3] (.int .i64) fun r0 =>
 K r0
set_option maxRecDepth 100000 in
theorem E_slices_medianAdjacentCmpFunc_lits_Lit (a0 : Sl) (a1 : Int) (a2 : Option Addr) (a3 : Value) (K : Int → HP) (h : Heap) : fnVC Try.prog [(1000000, .nil)] 18 Try.f135 [(.slice a0.a a0.len a0.cap), (.int .i64 a1), (.pointer a2), a3] (.int .i64) K h = F_slices_medianAdjacentCmpFunc_lits_Lit a0 a1 a2 a3 K h := by kernel_rfl
set_option maxRecDepth 100000 in
theorem S_slices_medianAdjacentCmpFunc_lits_Lit{h : Heap} {a0 : Sl} {a1 : Int} {a2 : Option Addr} {a3 : Value} (K : Int → HP) (hF : F_slices_medianAdjacentCmpFunc_lits_Lit a0 a1 a2 a3 K h) : CallsH Try.prog fn_slices_medianAdjacentCmpFunc_lits_Lit #[(.slice a0.a a0.len a0.cap), (.int .i64 a1), (.pointer a2), a3] h fun v h' => ∃ x : Int, v = Ty.enc (.int .i64) x ∧ K x h' :=
  callsH_of_fn (P := Try.prog) (fn := Try.f135) (τ := (.int .i64)) follows Try.func135 (by kernel_rfl) (by kernel_rfl) Try.call135 (Eq.mpr (E_slices_medianAdjacentCmpFunc_lits_Lit a0 a1 a2 a3 K h) hF)


/-- slices.medianCmpFunc[salvor/lits.Lit] -/
def F_slices_medianCmpFunc_lits_Lit (a0 : Sl) (a1 : Int) (a2 : Int) (a3 : Int) (a4 : Option Addr) (a5 : Value) (K : Int → HP) : HP :=
 callT Try.prog fn_slices_order2CmpFunc_lits_Lit #[(.slice a0.a a0.len a0.cap), (.int .i64 a1), (.int .i64 a2), (.pointer a4), a5] (.tup (.cons (.int .i64) (.cons (.int .i64) .nil))) fun r0 =>
 callT Try.prog fn_slices_order2CmpFunc_lits_Lit #[(.slice a0.a a0.len a0.cap), (.int .i64 r0.2.1), (.int .i64 a3), (.pointer a4), a5] (.tup (.cons (.int .i64) (.cons (.int .i64) .nil))) fun r1 =>
 callT Try.prog fn_slices_order2CmpFunc_lits_Lit #[(.slice a0.a a0.len a0.cap), (.int .i64 r0.1), (.int .i64 r1.1), (.pointer a4), a5] (.tup (.cons (.int .i64) (.cons (.int .i64) .nil))) fun r2 =>
 K r2.2.1
set_option maxRecDepth 100000 in
theorem E_slices_medianCmpFunc_lits_Lit (a0 : Sl) (a1 : Int) (a2 : Int) (a3 : Int) (a4 : Option Addr) (a5 : Value) (K : Int → HP) (h : Heap) : fnVC Try.prog [(1000000, .nil)] 41 Try.f136 [(.slice a0.a a0.len a0.cap), (.int .i64 a1), (.int .i64 a2), (.int .i64 a3), (.pointer a4), a5] (.int .i64) K h = F_slices_medianCmpFunc_lits_Lit a0 a1 a2 a3 a4 a5 K h := by kernel_rfl
set_option maxRecDepth 100000 in
theorem S_slices_medianCmpFunc_lits_Lit{h : Heap} {a0 : Sl} {a1 : Int} {a2 : Int} {a3 : Int} {a4 : Option Addr} {a5 : Value} (K : Int → HP) (hF : F_slices_medianCmpFunc_lits_Lit a0 a1 a2 a3 a4 a5 K h) : CallsH Try.prog fn_slices_medianCmpFunc_lits_Lit #[(.slice a0.a a0.len a0.cap), (.int .i64 a1), (.int .i64 a2), (.int .i64 a3), (.pointer a4), a5] h fun v h' => ∃ x : Int, v = Ty.enc (.int .i64) x ∧ K x h' :=
  callsH_of_fn (P := Try.prog) (fn := Try.f136) (τ := (.int .i64)) follows Try.func136 (by kernel_rfl) (by kernel_rfl) Try.call136 (Eq.mpr (E_slices_medianCmpFunc_lits_Lit a0 a1 a2 a3 a4 a5 K h) hF)


/-- slices.order2CmpFunc[salvor/lits.Lit] -/
def F_slices_order2CmpFunc_lits_Lit (a0 : Sl) (a1 : Int) (a2 : Int) (a3 : Option Addr) (a4 : Value) (K : (Int × (Int × Unit)) → HP) : HP :=
 sx a0.a a0.len a2 1 fun p0 =>
 ldT (.int .i64) p0 fun x1 =>
 sx a0.a a0.len a1 1 fun p2 =>
 ldT (.int .i64) p2 fun x3 =>
 callF Try.prog a4 #[(.int .i64 x1), (.int .i64 x3)] (.int .i64) fun r4 =>
 brB (decide (r4 < (0 : Int)))
 (nn a3 fun p5 =>
 ldT (.int .i64) p5 fun x6 =>
 nn a3 fun p7 =>
 st1 p7 (.int .i64 (IntKind.wrap .i64 (x6 + (1 : Int)))) <|
 K (a2, a1, ()))
 (K (a1, a2, ()))
set_option maxRecDepth 100000 in
theorem E_slices_order2CmpFunc_lits_Lit (a0 : Sl) (a1 : Int) (a2 : Int) (a3 : Option Addr) (a4 : Value) (K : (Int × (Int × Unit)) → HP) (h : Heap) : fnVC Try.prog [(1000000, .nil)] 32 Try.f137 [(.slice a0.a a0.len a0.cap), (.int .i64 a1), (.int .i64 a2), (.pointer a3), a4] (.tup (.cons (.int .i64) (.cons (.int .i64) .nil))) K h = F_slices_order2CmpFunc_lits_Lit a0 a1 a2 a3 a4 K h := by kernel_rfl
set_option maxRecDepth 100000 in
theorem S_slices_order2CmpFunc_lits_Lit{h : Heap} {a0 : Sl} {a1 : Int} {a2 : Int} {a3 : Option Addr} {a4 : Value} (K : (Int × (Int × Unit)) → HP) (hF : F_slices_order2CmpFunc_lits_Lit a0 a1 a2 a3 a4 K h) : CallsH Try.prog fn_slices_order2CmpFunc_lits_Lit #[(.slice a0.a a0.len a0.cap), (.int .i64 a1), (.int .i64 a2), (.pointer a3), a4] h fun v h' => ∃ x : (Int × (Int × Unit)), v = Ty.enc (.tup (.cons (.int .i64) (.cons (.int .i64) .nil))) x ∧ K x h' :=
  callsH_of_fn (P := Try.prog) (fn := Try.f137) (τ := (.tup (.cons (.int .i64) (.cons (.int .i64) .nil)))) follows Try.func137 (by kernel_rfl) (by kernel_rfl) Try.call137 (Eq.mpr (E_slices_order2CmpFunc_lits_Lit a0 a1 a2 a3 a4 K h) hF)


end Go.Proofs.S
