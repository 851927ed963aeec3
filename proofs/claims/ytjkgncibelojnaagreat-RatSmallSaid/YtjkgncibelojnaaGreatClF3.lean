/- The functions of the seat, each as a predicate over its values, printed by a program of ours, and that each is its text's. -/
import Derived.Test.YtjkgncibelojnaaGreatSx10
import Derived.KernelRfl
import Derived.Test.YtjkgncibelojnaaGreatProg
import Derived.Test.YtjkgncibelojnaaGreatClF0
set_option linter.unusedVariables false
set_option maxRecDepth 100000
namespace Go.Proofs.S
open Go Go.Sx Go.Proofs
def F_salvorlaw09_step (a0 : (Sl × (Sl × (Sl × Unit)))) (K : (Sl × (Sl × (Sl × Unit))) → HP) : HP :=
 nw #[(.slice a0.1.a a0.1.len a0.1.cap), (.slice a0.2.1.a a0.2.1.len a0.2.1.cap), (.slice a0.2.2.1.a a0.2.2.1.len a0.2.2.1.cap)] ty_rat_Step fun b0 =>
 nw #[(.slice none 0 0), (.slice none 0 0), (.slice none 0 0)] ty_salvorref09_Step fun b1 =>
 ldT .sl ⟨b0, 0, none⟩ fun x2 =>
 ldT .sl ((⟨b0, 0, none⟩ : Addr).add 1) fun x3 =>
 cj
 (callT Tryz.prog fn_salvorlaw08_Ints #[(.slice x2.a x2.len x2.cap)] .sl fun r4 =>
 ck ((⟨b0, 0, none⟩ : Addr).add 1) (.slice x3.a x3.len x3.cap) <|
 cj
 (callT Tryz.prog fn_slices_Clone_int_int #[(.slice x3.a x3.len x3.cap)] .sl fun r5 =>
 nw #[(.slice none 0 0), (.slice none 0 0), (.slice none 0 0)] ty_salvorref09_Step fun b6 =>
 st1 ⟨b6, 0, none⟩ (.slice r4.a r4.len r4.cap) <|
 st1 ((⟨b6, 0, none⟩ : Addr).add 1) (.slice r5.a r5.len r5.cap) <|
 st1 ((⟨b6, 0, none⟩ : Addr).add 2) (.slice none 0 0) <|
 ldT .sl ((⟨b0, 0, none⟩ : Addr).add 2) fun x7 =>
 lfp (σ := (Int × Unit)) (fun X8 s9 =>
 brB (decide (s9.1 < (x7.len : Int)))
 (sx x7.a x7.len s9.1 2 fun p10 =>
 ldA (.cons (.int .i64) (.cons .sl .nil)) p10 fun x11 =>
 nw #[(.int .i64 0), (.slice none 0 0)] ty_rat_Group fun b12 =>
 st1 ⟨b12, 0, none⟩ (.int .i64 x11.1) <|
 st1 ((⟨b12, 0, none⟩ : Addr).add 1) (.slice x11.2.1.a x11.2.1.len x11.2.1.cap) <|
 ldT .sl ((⟨b6, 0, none⟩ : Addr).add 2) fun x13 =>
 ldT (.int .i64) ⟨b12, 0, none⟩ fun x14 =>
 ldT .sl ((⟨b12, 0, none⟩ : Addr).add 1) fun x15 =>
 callT Tryz.prog fn_slices_Clone_int_int #[(.slice x15.a x15.len x15.cap)] .sl fun r16 =>
 ck ⟨b12, 0, none⟩ (.int .i64 x14) <|
 ck ((⟨b6, 0, none⟩ : Addr).add 2) (.slice x13.a x13.len x13.cap) <|
 nw #[(.int .i64 x14), (.slice r16.a r16.len r16.cap)] ty_salvorref09_Group fun b17 =>
 apd ty_salvorref09_Group 2 32 #[(.int .i64 0), (.slice none 0 0)] ⟨x13.a, x13.len, x13.cap⟩ ⟨(some ⟨b17, 0, none⟩), 1, 1⟩ fun s18 =>
 st1 ((⟨b6, 0, none⟩ : Addr).add 2) (.slice s18.a s18.len s18.cap) <|
 X8 ((IntKind.wrap .i64 (s9.1 + (1 : Int))), ()))
 (ldA (.cons .sl (.cons .sl (.cons .sl .nil))) ⟨b6, 0, none⟩ fun x19 =>
 st1 ⟨b1, 0, none⟩ (.slice x19.1.a x19.1.len x19.1.cap) <|
 st1 ((⟨b1, 0, none⟩ : Addr).add 1) (.slice x19.2.1.a x19.2.1.len x19.2.1.cap) <|
 st1 ((⟨b1, 0, none⟩ : Addr).add 2) (.slice x19.2.2.1.a x19.2.2.1.len x19.2.2.1.cap) <|
 ldA (.cons .sl (.cons .sl (.cons .sl .nil))) ⟨b1, 0, none⟩ fun x20 =>
 K (⟨x20.1.a, x20.1.len, x20.1.cap⟩, ⟨x20.2.1.a, x20.2.1.len, x20.2.1.cap⟩, ⟨x20.2.2.1.a, x20.2.2.1.len, x20.2.2.1.cap⟩, ())))
 ((0 : Int), ()))
 (nw #[(.slice none 0 0), (.slice none 0 0), (.slice none 0 0)] ty_salvorref09_Step fun b21 =>
 callT Tryz.prog fn_slices_Clone_int_int #[(.slice x3.a x3.len x3.cap)] .sl fun r22 =>
 st1 ⟨b21, 0, none⟩ (.slice r4.a r4.len r4.cap) <|
 st1 ((⟨b21, 0, none⟩ : Addr).add 1) (.slice r22.a r22.len r22.cap) <|
 st1 ((⟨b21, 0, none⟩ : Addr).add 2) (.slice none 0 0) <|
 ldT .sl ((⟨b0, 0, none⟩ : Addr).add 2) fun x23 =>
 lfp (σ := (Int × Unit)) (fun X24 s25 =>
 brB (decide (s25.1 < (x23.len : Int)))
 (sx x23.a x23.len s25.1 2 fun p26 =>
 ldA (.cons (.int .i64) (.cons .sl .nil)) p26 fun x27 =>
 nw #[(.int .i64 0), (.slice none 0 0)] ty_rat_Group fun b28 =>
 st1 ⟨b28, 0, none⟩ (.int .i64 x27.1) <|
 st1 ((⟨b28, 0, none⟩ : Addr).add 1) (.slice x27.2.1.a x27.2.1.len x27.2.1.cap) <|
 ldT .sl ((⟨b21, 0, none⟩ : Addr).add 2) fun x29 =>
 ldT (.int .i64) ⟨b28, 0, none⟩ fun x30 =>
 ldT .sl ((⟨b28, 0, none⟩ : Addr).add 1) fun x31 =>
 callT Tryz.prog fn_slices_Clone_int_int #[(.slice x31.a x31.len x31.cap)] .sl fun r32 =>
 ck ⟨b28, 0, none⟩ (.int .i64 x30) <|
 ck ((⟨b21, 0, none⟩ : Addr).add 2) (.slice x29.a x29.len x29.cap) <|
 nw #[(.int .i64 x30), (.slice r32.a r32.len r32.cap)] ty_salvorref09_Group fun b33 =>
 apd ty_salvorref09_Group 2 32 #[(.int .i64 0), (.slice none 0 0)] ⟨x29.a, x29.len, x29.cap⟩ ⟨(some ⟨b33, 0, none⟩), 1, 1⟩ fun s34 =>
 st1 ((⟨b21, 0, none⟩ : Addr).add 2) (.slice s34.a s34.len s34.cap) <|
 X24 ((IntKind.wrap .i64 (s25.1 + (1 : Int))), ()))
 (ldA (.cons .sl (.cons .sl (.cons .sl .nil))) ⟨b21, 0, none⟩ fun x35 =>
 st1 ⟨b1, 0, none⟩ (.slice x35.1.a x35.1.len x35.1.cap) <|
 st1 ((⟨b1, 0, none⟩ : Addr).add 1) (.slice x35.2.1.a x35.2.1.len x35.2.1.cap) <|
 st1 ((⟨b1, 0, none⟩ : Addr).add 2) (.slice x35.2.2.1.a x35.2.2.1.len x35.2.2.1.cap) <|
 ldA (.cons .sl (.cons .sl (.cons .sl .nil))) ⟨b1, 0, none⟩ fun x36 =>
 K (⟨x36.1.a, x36.1.len, x36.1.cap⟩, ⟨x36.2.1.a, x36.2.1.len, x36.2.1.cap⟩, ⟨x36.2.2.1.a, x36.2.2.1.len, x36.2.2.1.cap⟩, ())))
 ((0 : Int), ())))
 (nw #[(.slice none 0 0), (.slice none 0 0), (.slice none 0 0)] ty_salvorref09_Step fun b37 =>
 callT Tryz.prog fn_salvorlaw08_Ints #[(.slice x2.a x2.len x2.cap)] .sl fun r38 =>
 ck ((⟨b0, 0, none⟩ : Addr).add 1) (.slice x3.a x3.len x3.cap) <|
 callT Tryz.prog fn_slices_Clone_int_int #[(.slice x3.a x3.len x3.cap)] .sl fun r39 =>
 st1 ⟨b37, 0, none⟩ (.slice r38.a r38.len r38.cap) <|
 st1 ((⟨b37, 0, none⟩ : Addr).add 1) (.slice r39.a r39.len r39.cap) <|
 st1 ((⟨b37, 0, none⟩ : Addr).add 2) (.slice none 0 0) <|
 ldT .sl ((⟨b0, 0, none⟩ : Addr).add 2) fun x40 =>
 lfp (σ := (Int × Unit)) (fun X41 s42 =>
 brB (decide (s42.1 < (x40.len : Int)))
 (sx x40.a x40.len s42.1 2 fun p43 =>
 ldA (.cons (.int .i64) (.cons .sl .nil)) p43 fun x44 =>
 nw #[(.int .i64 0), (.slice none 0 0)] ty_rat_Group fun b45 =>
 st1 ⟨b45, 0, none⟩ (.int .i64 x44.1) <|
 st1 ((⟨b45, 0, none⟩ : Addr).add 1) (.slice x44.2.1.a x44.2.1.len x44.2.1.cap) <|
 ldT .sl ((⟨b37, 0, none⟩ : Addr).add 2) fun x46 =>
 ldT (.int .i64) ⟨b45, 0, none⟩ fun x47 =>
 ldT .sl ((⟨b45, 0, none⟩ : Addr).add 1) fun x48 =>
 callT Tryz.prog fn_slices_Clone_int_int #[(.slice x48.a x48.len x48.cap)] .sl fun r49 =>
 ck ⟨b45, 0, none⟩ (.int .i64 x47) <|
 ck ((⟨b37, 0, none⟩ : Addr).add 2) (.slice x46.a x46.len x46.cap) <|
 nw #[(.int .i64 x47), (.slice r49.a r49.len r49.cap)] ty_salvorref09_Group fun b50 =>
 apd ty_salvorref09_Group 2 32 #[(.int .i64 0), (.slice none 0 0)] ⟨x46.a, x46.len, x46.cap⟩ ⟨(some ⟨b50, 0, none⟩), 1, 1⟩ fun s51 =>
 st1 ((⟨b37, 0, none⟩ : Addr).add 2) (.slice s51.a s51.len s51.cap) <|
 X41 ((IntKind.wrap .i64 (s42.1 + (1 : Int))), ()))
 (ldA (.cons .sl (.cons .sl (.cons .sl .nil))) ⟨b37, 0, none⟩ fun x52 =>
 st1 ⟨b1, 0, none⟩ (.slice x52.1.a x52.1.len x52.1.cap) <|
 st1 ((⟨b1, 0, none⟩ : Addr).add 1) (.slice x52.2.1.a x52.2.1.len x52.2.1.cap) <|
 st1 ((⟨b1, 0, none⟩ : Addr).add 2) (.slice x52.2.2.1.a x52.2.2.1.len x52.2.2.1.cap) <|
 ldA (.cons .sl (.cons .sl (.cons .sl .nil))) ⟨b1, 0, none⟩ fun x53 =>
 K (⟨x53.1.a, x53.1.len, x53.1.cap⟩, ⟨x53.2.1.a, x53.2.1.len, x53.2.1.cap⟩, ⟨x53.2.2.1.a, x53.2.2.1.len, x53.2.2.1.cap⟩, ())))
 ((0 : Int), ()))
theorem E_salvorlaw09_step (a0 : (Sl × (Sl × (Sl × Unit)))) (K : (Sl × (Sl × (Sl × Unit))) → HP) (h : Heap) : fnVC Tryz.prog [(1000000, .bool)] 33 Tryz.f54 [(.agg #[(.slice a0.1.a a0.1.len a0.1.cap), (.slice a0.2.1.a a0.2.1.len a0.2.1.cap), (.slice a0.2.2.1.a a0.2.2.1.len a0.2.2.1.cap)])] (.agg (.cons .sl (.cons .sl (.cons .sl .nil)))) K h = F_salvorlaw09_step a0 K h := by kernel_rfl
theorem S_salvorlaw09_step{h : Heap} {a0 : (Sl × (Sl × (Sl × Unit)))} (K : (Sl × (Sl × (Sl × Unit))) → HP) (hF : F_salvorlaw09_step a0 K h) : CallsH Tryz.prog fn_salvorlaw09_step #[(.agg #[(.slice a0.1.a a0.1.len a0.1.cap), (.slice a0.2.1.a a0.2.1.len a0.2.1.cap), (.slice a0.2.2.1.a a0.2.2.1.len a0.2.2.1.cap)])] h fun v h' => ∃ x : (Sl × (Sl × (Sl × Unit))), v = Ty.enc (.agg (.cons .sl (.cons .sl (.cons .sl .nil)))) x ∧ K x h' :=
  callsH_of_fn (P := Tryz.prog) (fn := Tryz.f54) (τ := (.agg (.cons .sl (.cons .sl (.cons .sl .nil))))) follows Tryz.func54 (by kernel_rfl) (by kernel_rfl) Tryz.call54 (Eq.mpr (E_salvorlaw09_step a0 K h) hF)
def F_salvorref09_Right (a0 : Sl) (K : Bool → HP) : HP :=
 brB (decide ((a0.len : Int) > (1048576 : Int)))
 (K false)
 (lfp (σ := (Int × (Bool × Unit))) (fun X0 s1 =>
 brB (decide (s1.1 < (a0.len : Int)))
 (sx a0.a a0.len s1.1 2 fun p2 =>
 ldT (.int .i64) p2 fun x3 =>
 brB (decide (x3 < (1 : Int)))
 (K false)
 (sx a0.a a0.len s1.1 2 fun p4 =>
 ldT (.int .i64) p4 fun x5 =>
 brB (decide (x5 > (1073741824 : Int)))
 (K false)
 (brB (decide (s1.1 > (0 : Int)))
 (sx a0.a a0.len s1.1 2 fun p6 =>
 ldT (.int .i64) p6 fun x7 =>
 sx a0.a a0.len (IntKind.wrap .i64 (s1.1 - (1 : Int))) 2 fun p8 =>
 ldT (.int .i64) p8 fun x9 =>
 brB (decide (x7 ≤ x9))
 (K false)
 (sx a0.a a0.len s1.1 2 fun p10 =>
 ldT .sl (p10.add 1) fun x11 =>
 callT Tryz.prog fn_salvorref02_Right #[(.slice x11.a x11.len x11.cap)] .bool fun r12 =>
 brB (!r12)
 (K false)
 (X0 ((IntKind.wrap .i64 (s1.1 + (1 : Int))), s1.2.1, ()))))
 (sx a0.a a0.len s1.1 2 fun p13 =>
 ldT .sl (p13.add 1) fun x14 =>
 callT Tryz.prog fn_salvorref02_Right #[(.slice x14.a x14.len x14.cap)] .bool fun r15 =>
 brB (!r15)
 (K false)
 (X0 ((IntKind.wrap .i64 (s1.1 + (1 : Int))), s1.2.1, ()))))))
 (K true))
 ((0 : Int), false, ()))
theorem E_salvorref09_Right (a0 : Sl) (K : Bool → HP) (h : Heap) : fnVC Tryz.prog [(1000000, .bool)] 54 Tryz.f55 [(.slice a0.a a0.len a0.cap)] .bool K h = F_salvorref09_Right a0 K h := by kernel_rfl
theorem S_salvorref09_Right{h : Heap} {a0 : Sl} (K : Bool → HP) (hF : F_salvorref09_Right a0 K h) : CallsH Tryz.prog fn_salvorref09_Right #[(.slice a0.a a0.len a0.cap)] h fun v h' => ∃ x : Bool, v = Ty.enc .bool x ∧ K x h' :=
  callsH_of_fn (P := Tryz.prog) (fn := Tryz.f55) (τ := .bool) follows Tryz.func55 (by kernel_rfl) (by kernel_rfl) Tryz.call55 (Eq.mpr (E_salvorref09_Right a0 K h) hF)
def F_salvorref02_Right (a0 : Sl) (K : Bool → HP) : HP :=
 brB (decide ((a0.len : Int) > (4096 : Int)))
 (K false)
 (lfp (σ := (Int × (Bool × Unit))) (fun X0 s1 =>
 brB (decide (s1.1 < (a0.len : Int)))
 (sx a0.a a0.len s1.1 1 fun p2 =>
 ldT (.int .i64) p2 fun x3 =>
 callT Tryz.prog fn_salvorref01_Right #[(.int .i64 x3)] .bool fun r4 =>
 brB (!r4)
 (K false)
 (X0 ((IntKind.wrap .i64 (s1.1 + (1 : Int))), s1.2.1, ())))
 (K true))
 ((0 : Int), false, ()))
theorem E_salvorref02_Right (a0 : Sl) (K : Bool → HP) (h : Heap) : fnVC Tryz.prog [(1000000, .nil)] 19 Tryz.f56 [(.slice a0.a a0.len a0.cap)] .bool K h = F_salvorref02_Right a0 K h := by kernel_rfl
theorem S_salvorref02_Right{h : Heap} {a0 : Sl} (K : Bool → HP) (hF : F_salvorref02_Right a0 K h) : CallsH Tryz.prog fn_salvorref02_Right #[(.slice a0.a a0.len a0.cap)] h fun v h' => ∃ x : Bool, v = Ty.enc .bool x ∧ K x h' :=
  callsH_of_fn (P := Tryz.prog) (fn := Tryz.f56) (τ := .bool) follows Tryz.func56 (by kernel_rfl) (by kernel_rfl) Tryz.call56 (Eq.mpr (E_salvorref02_Right a0 K h) hF)
def F_salvorref09_Check (a0 : Sl) (a1 : (Sl × (Sl × (Sl × Unit)))) (K : (Int × (Int × (Int × Unit))) → HP) : HP :=
 nw #[(.slice a1.1.a a1.1.len a1.1.cap), (.slice a1.2.1.a a1.2.1.len a1.2.1.cap), (.slice a1.2.2.1.a a1.2.2.1.len a1.2.2.1.cap)] ty_salvorref09_Step fun b0 =>
 ldT .sl ⟨b0, 0, none⟩ fun x1 =>
 callT Tryz.prog fn_salvorref08_Assume #[(.slice x1.a x1.len x1.cap)] (.tup (.cons .sl (.cons .bool .nil))) fun r2 =>
 brB r2.2.1
 (K ((1 : Int), (0 : Int), (0 : Int), ()))
 (ldT .sl ((⟨b0, 0, none⟩ : Addr).add 1) fun x3 =>
 callT Tryz.prog fn_salvorref09_follow #[(.slice a0.a a0.len a0.cap), (.slice r2.1.a r2.1.len r2.1.cap), (.slice x3.a x3.len x3.cap)] (.tup (.cons .sl (.cons .bool (.cons (.int .i64) (.cons (.int .i64) .nil))))) fun r4 =>
 brB (r4.2.2.2.1 != (0 : Int))
 (K ((0 : Int), r4.2.2.1, r4.2.2.2.1, ()))
 (brB r4.2.1
 (K ((1 : Int), (0 : Int), (0 : Int), ()))
 (ldT .sl ⟨b0, 0, none⟩ fun x5 =>
 brB ((x5.len : Int) == (0 : Int))
 (K ((0 : Int), (0 : Int), (82 : Int), ()))
 (ldT .sl ⟨b0, 0, none⟩ fun x6 =>
 sx x6.a x6.len (0 : Int) 1 fun p7 =>
 ldT (.int .i64) p7 fun x8 =>
 callT Tryz.prog fn_salvorref09_Candidates #[(.slice a0.a a0.len a0.cap), (.int .i64 x8)] .sl fun r9 =>
 lfp (σ := (Int × (Int × (Int × (Int × Unit))))) (fun X10 s11 =>
 brB (decide (s11.1 < (r9.len : Int)))
 (lfp (σ := (Int × (Bool × Unit))) (fun X12 s13 =>
 ldT .sl ((⟨b0, 0, none⟩ : Addr).add 2) fun x14 =>
 brB (decide (s13.1 < (x14.len : Int)))
 (brB s13.2.1
 (X12 ((IntKind.wrap .i64 (s13.1 + (1 : Int))), true, ()))
 (ldT .sl ((⟨b0, 0, none⟩ : Addr).add 2) fun x15 =>
 sx x15.a x15.len s13.1 2 fun p16 =>
 ldT (.int .i64) p16 fun x17 =>
 sx r9.a r9.len s11.1 1 fun p18 =>
 ldT (.int .i64) p18 fun x19 =>
 X12 ((IntKind.wrap .i64 (s13.1 + (1 : Int))), (x17 == x19), ())))
 (brB (!s13.2.1)
 (sx r9.a r9.len s11.1 1 fun p20 =>
 ldT (.int .i64) p20 fun x21 =>
 K ((0 : Int), x21, (92 : Int), ()))
 (X10 ((IntKind.wrap .i64 (s11.1 + (1 : Int))), s11.2.1, s11.2.2.1, s11.2.2.2.1, ()))))
 ((0 : Int), false, ()))
 (lfp (σ := (Int × (Int × (Int × (Int × Unit))))) (fun X22 s23 =>
 ldT .sl ((⟨b0, 0, none⟩ : Addr).add 2) fun x24 =>
 brB (decide (s23.1 < (x24.len : Int)))
 (ldT .sl ((⟨b0, 0, none⟩ : Addr).add 2) fun x25 =>
 sx x25.a x25.len s23.1 2 fun p26 =>
 ldT (.int .i64) p26 fun x27 =>
 callT Tryz.prog fn_salvorref09_has #[(.slice r9.a r9.len r9.cap), (.int .i64 x27)] .bool fun r28 =>
 brB (!r28)
 (ldT .sl ((⟨b0, 0, none⟩ : Addr).add 2) fun x29 =>
 sx x29.a x29.len s23.1 2 fun p30 =>
 ldT (.int .i64) p30 fun x31 =>
 K ((0 : Int), x31, (92 : Int), ()))
 (brB (decide (s23.1 > (0 : Int)))
 (ldT .sl ((⟨b0, 0, none⟩ : Addr).add 2) fun x32 =>
 sx x32.a x32.len s23.1 2 fun p33 =>
 ldT (.int .i64) p33 fun x34 =>
 ldT .sl ((⟨b0, 0, none⟩ : Addr).add 2) fun x35 =>
 sx x35.a x35.len (IntKind.wrap .i64 (s23.1 - (1 : Int))) 2 fun p36 =>
 ldT (.int .i64) p36 fun x37 =>
 brB (decide (x34 ≤ x37))
 (ldT .sl ((⟨b0, 0, none⟩ : Addr).add 2) fun x38 =>
 sx x38.a x38.len s23.1 2 fun p39 =>
 ldT (.int .i64) p39 fun x40 =>
 K ((0 : Int), x40, (92 : Int), ()))
 (X22 ((IntKind.wrap .i64 (s23.1 + (1 : Int))), s23.2.1, s23.2.2.1, s23.2.2.2.1, ())))
 (X22 ((IntKind.wrap .i64 (s23.1 + (1 : Int))), s23.2.1, s23.2.2.1, s23.2.2.2.1, ()))))
 (lfp (σ := (Int × (Int × (Int × (Int × Unit))))) (fun X41 s42 =>
 ldT .sl ((⟨b0, 0, none⟩ : Addr).add 2) fun x43 =>
 brB (decide (s42.1 < (x43.len : Int)))
 (jn (σ := (Int × (Int × (Int × Unit)))) (fun s45 =>
 X41 ((IntKind.wrap .i64 (s42.1 + (1 : Int))), s45.1, s45.2.1, s45.2.2.1, ()))
 (fun J44 =>
 ldT .sl ((⟨b0, 0, none⟩ : Addr).add 2) fun x46 =>
 sx x46.a x46.len s42.1 2 fun p47 =>
 ldA (.cons (.int .i64) (.cons .sl .nil)) p47 fun x48 =>
 nw #[(.int .i64 0), (.slice none 0 0)] ty_salvorref09_Group fun b49 =>
 st1 ⟨b49, 0, none⟩ (.int .i64 x48.1) <|
 st1 ((⟨b49, 0, none⟩ : Addr).add 1) (.slice x48.2.1.a x48.2.1.len x48.2.1.cap) <|
 ldT (.int .i64) ⟨b49, 0, none⟩ fun x50 =>
 callT Tryz.prog fn_salvorref09_find #[(.slice a0.a a0.len a0.cap), (.int .i64 x50)] (.int .i64) fun r51 =>
 sx a0.a a0.len r51 2 fun p52 =>
 ldT .sl (p52.add 1) fun x53 =>
 callT Tryz.prog fn_salvorref09_open #[(.slice x53.a x53.len x53.cap), (.int .i64 x8), (.slice r4.1.a r4.1.len r4.1.cap)] (.tup (.cons .sl (.cons .bool .nil))) fun r54 =>
 brB (!r54.2.1)
 (J44 (s42.2.1, s42.2.2.1, s42.2.2.2.1, ()))
 (ldT .sl ((⟨b49, 0, none⟩ : Addr).add 1) fun x55 =>
 callT Tryz.prog fn_salvorref09_follow #[(.slice a0.a a0.len a0.cap), (.slice r54.1.a r54.1.len r54.1.cap), (.slice x55.a x55.len x55.cap)] (.tup (.cons .sl (.cons .bool (.cons (.int .i64) (.cons (.int .i64) .nil))))) fun r56 =>
 brB (r56.2.2.2.1 != (0 : Int))
 (K ((0 : Int), r56.2.2.1, r56.2.2.2.1, ()))
 (brB (!r56.2.1)
 (ldT (.int .i64) ⟨b49, 0, none⟩ fun x57 =>
 K ((0 : Int), x57, (93 : Int), ()))
 (J44 (s42.2.1, s42.2.2.1, s42.2.2.2.1, ()))))))
 (K ((2 : Int), (0 : Int), (0 : Int), ())))
 ((0 : Int), s23.2.1, s23.2.2.1, s23.2.2.2.1, ())))
 ((0 : Int), s11.2.1, s11.2.2.1, s11.2.2.2.1, ())))
 ((0 : Int), (0 : Int), (0 : Int), (0 : Int), ())))))
theorem E_salvorref09_Check (a0 : Sl) (a1 : (Sl × (Sl × (Sl × Unit)))) (K : (Int × (Int × (Int × Unit))) → HP) (h : Heap) : fnVC Tryz.prog [(1000000, .bool)] 181 Tryz.f57 [(.slice a0.a a0.len a0.cap), (.agg #[(.slice a1.1.a a1.1.len a1.1.cap), (.slice a1.2.1.a a1.2.1.len a1.2.1.cap), (.slice a1.2.2.1.a a1.2.2.1.len a1.2.2.1.cap)])] (.tup (.cons (.int .i64) (.cons (.int .i64) (.cons (.int .i64) .nil)))) K h = F_salvorref09_Check a0 a1 K h := by kernel_rfl
theorem S_salvorref09_Check{h : Heap} {a0 : Sl} {a1 : (Sl × (Sl × (Sl × Unit)))} (K : (Int × (Int × (Int × Unit))) → HP) (hF : F_salvorref09_Check a0 a1 K h) : CallsH Tryz.prog fn_salvorref09_Check #[(.slice a0.a a0.len a0.cap), (.agg #[(.slice a1.1.a a1.1.len a1.1.cap), (.slice a1.2.1.a a1.2.1.len a1.2.1.cap), (.slice a1.2.2.1.a a1.2.2.1.len a1.2.2.1.cap)])] h fun v h' => ∃ x : (Int × (Int × (Int × Unit))), v = Ty.enc (.tup (.cons (.int .i64) (.cons (.int .i64) (.cons (.int .i64) .nil)))) x ∧ K x h' :=
  callsH_of_fn (P := Tryz.prog) (fn := Tryz.f57) (τ := (.tup (.cons (.int .i64) (.cons (.int .i64) (.cons (.int .i64) .nil))))) follows Tryz.func57 (by kernel_rfl) (by kernel_rfl) Tryz.call57 (Eq.mpr (E_salvorref09_Check a0 a1 K h) hF)
def F_salvorlaw09_sameEntries (a0 : Sl) (a1 : Sl) (K : Bool → HP) : HP :=
 callT Tryz.prog fn_slices_EqualFunc_salvorref09_Entry_salvorref09_Entry_salvorref09_Entry_salvorref09_Entry #[(.slice a0.a a0.len a0.cap), (.slice a1.a a1.len a1.cap), (.func (.func fn_salvorlaw09_sameEntries_1) #[] #[])] .bool fun r0 =>
 K r0
theorem E_salvorlaw09_sameEntries (a0 : Sl) (a1 : Sl) (K : Bool → HP) (h : Heap) : fnVC Tryz.prog [(1000000, .bool)] 8 Tryz.f58 [(.slice a0.a a0.len a0.cap), (.slice a1.a a1.len a1.cap)] .bool K h = F_salvorlaw09_sameEntries a0 a1 K h := by kernel_rfl
theorem S_salvorlaw09_sameEntries{h : Heap} {a0 : Sl} {a1 : Sl} (K : Bool → HP) (hF : F_salvorlaw09_sameEntries a0 a1 K h) : CallsH Tryz.prog fn_salvorlaw09_sameEntries #[(.slice a0.a a0.len a0.cap), (.slice a1.a a1.len a1.cap)] h fun v h' => ∃ x : Bool, v = Ty.enc .bool x ∧ K x h' :=
  callsH_of_fn (P := Tryz.prog) (fn := Tryz.f58) (τ := .bool) follows Tryz.func58 (by kernel_rfl) (by kernel_rfl) Tryz.call58 (Eq.mpr (E_salvorlaw09_sameEntries a0 a1 K h) hF)
def F_salvorlaw09_sameStep (a0 : (Sl × (Sl × (Sl × Unit)))) (a1 : (Sl × (Sl × (Sl × Unit)))) (K : Bool → HP) : HP :=
 nw #[(.slice a0.1.a a0.1.len a0.1.cap), (.slice a0.2.1.a a0.2.1.len a0.2.1.cap), (.slice a0.2.2.1.a a0.2.2.1.len a0.2.2.1.cap)] ty_salvorref09_Step fun b0 =>
 nw #[(.slice a1.1.a a1.1.len a1.1.cap), (.slice a1.2.1.a a1.2.1.len a1.2.1.cap), (.slice a1.2.2.1.a a1.2.2.1.len a1.2.2.1.cap)] ty_salvorref09_Step fun b1 =>
 ldT .sl ⟨b0, 0, none⟩ fun x2 =>
 ldT .sl ⟨b1, 0, none⟩ fun x3 =>
 callT Tryz.prog fn_slices_Equal_int_int #[(.slice x2.a x2.len x2.cap), (.slice x3.a x3.len x3.cap)] .bool fun r4 =>
 jn (σ := Bool) (fun t6 =>
 jn (σ := Bool) (fun t8 =>
 K t8)
 (fun J7 =>
 brB t6
 (ldT .sl ((⟨b0, 0, none⟩ : Addr).add 2) fun x9 =>
 ldT .sl ((⟨b1, 0, none⟩ : Addr).add 2) fun x10 =>
 callT Tryz.prog fn_slices_EqualFunc_salvorref09_Group_salvorref09_Group_salvorref09_Group_salvorref09_Group #[(.slice x9.a x9.len x9.cap), (.slice x10.a x10.len x10.cap), (.func (.func fn_salvorlaw09_sameStep_1) #[] #[])] .bool fun r11 =>
 J7 (r11))
 (J7 false)))
 (fun J5 =>
 brB r4
 (ldT .sl ((⟨b0, 0, none⟩ : Addr).add 1) fun x12 =>
 ldT .sl ((⟨b1, 0, none⟩ : Addr).add 1) fun x13 =>
 callT Tryz.prog fn_slices_Equal_int_int #[(.slice x12.a x12.len x12.cap), (.slice x13.a x13.len x13.cap)] .bool fun r14 =>
 J5 (r14))
 (J5 false))
theorem E_salvorlaw09_sameStep (a0 : (Sl × (Sl × (Sl × Unit)))) (a1 : (Sl × (Sl × (Sl × Unit)))) (K : Bool → HP) (h : Heap) : fnVC Tryz.prog [(1000000, .bool)] 24 Tryz.f59 [(.agg #[(.slice a0.1.a a0.1.len a0.1.cap), (.slice a0.2.1.a a0.2.1.len a0.2.1.cap), (.slice a0.2.2.1.a a0.2.2.1.len a0.2.2.1.cap)]), (.agg #[(.slice a1.1.a a1.1.len a1.1.cap), (.slice a1.2.1.a a1.2.1.len a1.2.1.cap), (.slice a1.2.2.1.a a1.2.2.1.len a1.2.2.1.cap)])] .bool K h = F_salvorlaw09_sameStep a0 a1 K h := by kernel_rfl
theorem S_salvorlaw09_sameStep{h : Heap} {a0 : (Sl × (Sl × (Sl × Unit)))} {a1 : (Sl × (Sl × (Sl × Unit)))} (K : Bool → HP) (hF : F_salvorlaw09_sameStep a0 a1 K h) : CallsH Tryz.prog fn_salvorlaw09_sameStep #[(.agg #[(.slice a0.1.a a0.1.len a0.1.cap), (.slice a0.2.1.a a0.2.1.len a0.2.1.cap), (.slice a0.2.2.1.a a0.2.2.1.len a0.2.2.1.cap)]), (.agg #[(.slice a1.1.a a1.1.len a1.1.cap), (.slice a1.2.1.a a1.2.1.len a1.2.1.cap), (.slice a1.2.2.1.a a1.2.2.1.len a1.2.2.1.cap)])] h fun v h' => ∃ x : Bool, v = Ty.enc .bool x ∧ K x h' :=
  callsH_of_fn (P := Tryz.prog) (fn := Tryz.f59) (τ := .bool) follows Tryz.func59 (by kernel_rfl) (by kernel_rfl) Tryz.call59 (Eq.mpr (E_salvorlaw09_sameStep a0 a1 K h) hF)
def F_salvorlaw08_Ints (a0 : Sl) (K : Sl → HP) : HP :=
 lfp (σ := (Int × (Sl × Unit))) (fun X0 s1 =>
 brB (decide (s1.1 < (a0.len : Int)))
 (sx a0.a a0.len s1.1 1 fun p2 =>
 ldT (.int .i64) p2 fun x3 =>
 nw #[(.int .i64 x3)] ty_int fun b4 =>
 apd ty_int 1 8 #[(.int .i64 0)] ⟨s1.2.1.a, s1.2.1.len, s1.2.1.cap⟩ ⟨(some ⟨b4, 0, none⟩), 1, 1⟩ fun s5 =>
 X0 ((IntKind.wrap .i64 (s1.1 + (1 : Int))), ⟨s5.a, s5.len, s5.cap⟩, ()))
 (K ⟨s1.2.1.a, s1.2.1.len, s1.2.1.cap⟩))
 ((0 : Int), ⟨none, 0, 0⟩, ())
theorem E_salvorlaw08_Ints (a0 : Sl) (K : Sl → HP) (h : Heap) : fnVC Tryz.prog [(1000000, .bool)] 18 Tryz.f60 [(.slice a0.a a0.len a0.cap)] .sl K h = F_salvorlaw08_Ints a0 K h := by kernel_rfl
theorem S_salvorlaw08_Ints{h : Heap} {a0 : Sl} (K : Sl → HP) (hF : F_salvorlaw08_Ints a0 K h) : CallsH Tryz.prog fn_salvorlaw08_Ints #[(.slice a0.a a0.len a0.cap)] h fun v h' => ∃ x : Sl, v = Ty.enc .sl x ∧ K x h' :=
  callsH_of_fn (P := Tryz.prog) (fn := Tryz.f60) (τ := .sl) follows Tryz.func60 (by kernel_rfl) (by kernel_rfl) Tryz.call60 (Eq.mpr (E_salvorlaw08_Ints a0 K h) hF)
def F_salvorref09_Search (a0 : Sl) (a1 : Sl) (K : ((Sl × (Sl × (Sl × Unit))) × (Int × (Bool × Unit))) → HP) : HP :=
 nw #[(.slice none 0 0), (.slice none 0 0), (.slice none 0 0)] ty_salvorref09_Step fun b0 =>
 lfp (σ := (Int × (Sl × Unit))) (fun X1 s2 =>
 brB (decide (s2.1 < (a0.len : Int)))
 (sx a0.a a0.len s2.1 2 fun p3 =>
 ldT .sl (p3.add 1) fun x4 =>
 nw #[(.slice x4.a x4.len x4.cap)] ty_sl_int fun b5 =>
 apd ty_sl_int 1 24 #[(.slice none 0 0)] ⟨s2.2.1.a, s2.2.1.len, s2.2.1.cap⟩ ⟨(some ⟨b5, 0, none⟩), 1, 1⟩ fun s6 =>
 X1 ((IntKind.wrap .i64 (s2.1 + (1 : Int))), ⟨s6.a, s6.len, s6.cap⟩, ()))
 (callT Tryz.prog fn_salvorref08_Find #[(.slice a1.a a1.len a1.cap), (.slice s2.2.1.a s2.2.1.len s2.2.1.cap)] (.tup (.cons .sl (.cons .bool .nil))) fun r7 =>
 brB r7.2.1
 (callT Tryz.prog fn_salvorref09_named #[(.slice a0.a a0.len a0.cap), (.slice r7.1.a r7.1.len r7.1.cap)] .sl fun r8 =>
 st1 ⟨b0, 0, none⟩ (.slice a1.a a1.len a1.cap) <|
 st1 ((⟨b0, 0, none⟩ : Addr).add 1) (.slice r8.a r8.len r8.cap) <|
 st1 ((⟨b0, 0, none⟩ : Addr).add 2) (.slice none 0 0) <|
 ldA (.cons .sl (.cons .sl (.cons .sl .nil))) ⟨b0, 0, none⟩ fun x9 =>
 K ((⟨x9.1.a, x9.1.len, x9.1.cap⟩, ⟨x9.2.1.a, x9.2.1.len, x9.2.1.cap⟩, ⟨x9.2.2.1.a, x9.2.2.1.len, x9.2.2.1.cap⟩, ()), (1 : Int), true, ()))
 (brB ((a1.len : Int) == (0 : Int))
 (st1 ⟨b0, 0, none⟩ (.slice none 0 0) <|
 st1 ((⟨b0, 0, none⟩ : Addr).add 1) (.slice none 0 0) <|
 st1 ((⟨b0, 0, none⟩ : Addr).add 2) (.slice none 0 0) <|
 ldA (.cons .sl (.cons .sl (.cons .sl .nil))) ⟨b0, 0, none⟩ fun x10 =>
 K ((⟨x10.1.a, x10.1.len, x10.1.cap⟩, ⟨x10.2.1.a, x10.2.1.len, x10.2.1.cap⟩, ⟨x10.2.2.1.a, x10.2.2.1.len, x10.2.2.1.cap⟩, ()), (0 : Int), false, ()))
 (callT Tryz.prog fn_salvorref08_Assume #[(.slice a1.a a1.len a1.cap)] (.tup (.cons .sl (.cons .bool .nil))) fun r11 =>
 nw #[(.slice none 0 0), (.slice none 0 0), (.slice none 0 0)] ty_salvorref09_Step fun b12 =>
 st1 ⟨b12, 0, none⟩ (.slice a1.a a1.len a1.cap) <|
 st1 ((⟨b12, 0, none⟩ : Addr).add 1) (.slice none 0 0) <|
 st1 ((⟨b12, 0, none⟩ : Addr).add 2) (.slice none 0 0) <|
 lfp (σ := (Bool × (Sl × Unit))) (fun X13 s14 =>
 brB s14.1
 (lfp (σ := (Int × (Bool × (Sl × Unit)))) (fun X15 s16 =>
 jn (σ := Bool) (fun t18 =>
 brB t18
 (sx a0.a a0.len s16.1 2 fun p19 =>
 ldT .sl (p19.add 1) fun x20 =>
 callT Tryz.prog fn_salvorref08_Look #[(.slice x20.a x20.len x20.cap), (.slice s16.2.2.1.a s16.2.2.1.len s16.2.2.1.cap)] (.tup (.cons (.int .i64) (.cons (.int .i64) .nil))) fun r21 =>
 jn (σ := (Bool × (Sl × Unit))) (fun s23 =>
 X15 ((IntKind.wrap .i64 (s16.1 + (1 : Int))), s23.1, ⟨s23.2.1.a, s23.2.1.len, s23.2.1.cap⟩, ()))
 (fun J22 =>
 brB (r21.1 == (3 : Int))
 (nw #[(.int .i64 r21.2.1)] ty_int fun b24 =>
 apd ty_int 1 8 #[(.int .i64 0)] ⟨s16.2.2.1.a, s16.2.2.1.len, s16.2.2.1.cap⟩ ⟨(some ⟨b24, 0, none⟩), 1, 1⟩ fun s25 =>
 ldT .sl ((⟨b12, 0, none⟩ : Addr).add 1) fun x26 =>
 sx a0.a a0.len s16.1 2 fun p27 =>
 ldT (.int .i64) p27 fun x28 =>
 nw #[(.int .i64 x28)] ty_int fun b29 =>
 apd ty_int 1 8 #[(.int .i64 0)] ⟨x26.a, x26.len, x26.cap⟩ ⟨(some ⟨b29, 0, none⟩), 1, 1⟩ fun s30 =>
 st1 ((⟨b12, 0, none⟩ : Addr).add 1) (.slice s30.a s30.len s30.cap) <|
 J22 (true, ⟨s25.a, s25.len, s25.cap⟩, ()))
 (J22 (s16.2.1, ⟨s16.2.2.1.a, s16.2.2.1.len, s16.2.2.1.cap⟩, ()))))
 (X13 (s16.2.1, ⟨s16.2.2.1.a, s16.2.2.1.len, s16.2.2.1.cap⟩, ())))
 (fun J17 =>
 brB (decide (s16.1 < (a0.len : Int)))
 (J17 ((!s16.2.1)))
 (J17 false)))
 ((0 : Int), false, ⟨s14.2.1.a, s14.2.1.len, s14.2.1.cap⟩, ()))
 (sx a1.a a1.len (0 : Int) 1 fun p31 =>
 ldT (.int .i64) p31 fun x32 =>
 callT Tryz.prog fn_salvorref09_Candidates #[(.slice a0.a a0.len a0.cap), (.int .i64 x32)] .sl fun r33 =>
 lfp (σ := (Int × (Bool × (Int × Unit)))) (fun X34 s35 =>
 brB (decide (s35.1 < (r33.len : Int)))
 (sx r33.a r33.len s35.1 1 fun p36 =>
 ldT (.int .i64) p36 fun x37 =>
 nw #[(.int .i64 0), (.slice none 0 0)] ty_salvorref09_Group fun b38 =>
 st1 ⟨b38, 0, none⟩ (.int .i64 x37) <|
 st1 ((⟨b38, 0, none⟩ : Addr).add 1) (.slice none 0 0) <|
 sx r33.a r33.len s35.1 1 fun p39 =>
 ldT (.int .i64) p39 fun x40 =>
 sx a1.a a1.len (0 : Int) 1 fun p41 =>
 ldT (.int .i64) p41 fun x42 =>
 callT Tryz.prog fn_salvorref09_find #[(.slice a0.a a0.len a0.cap), (.int .i64 x40)] (.int .i64) fun r43 =>
 ck p41 (.int .i64 x42) <|
 sx a0.a a0.len r43 2 fun p44 =>
 ldT .sl (p44.add 1) fun x45 =>
 callT Tryz.prog fn_salvorref09_open #[(.slice x45.a x45.len x45.cap), (.int .i64 x42), (.slice s14.2.1.a s14.2.1.len s14.2.1.cap)] (.tup (.cons .sl (.cons .bool .nil))) fun r46 =>
 jn (σ := (Bool × (Int × Unit))) (fun s48 =>
 ldT .sl ((⟨b12, 0, none⟩ : Addr).add 2) fun x49 =>
 ldA (.cons (.int .i64) (.cons .sl .nil)) ⟨b38, 0, none⟩ fun x50 =>
 nw #[(.int .i64 x50.1), (.slice x50.2.1.a x50.2.1.len x50.2.1.cap)] ty_salvorref09_Group fun b51 =>
 apd ty_salvorref09_Group 2 32 #[(.int .i64 0), (.slice none 0 0)] ⟨x49.a, x49.len, x49.cap⟩ ⟨(some ⟨b51, 0, none⟩), 1, 1⟩ fun s52 =>
 st1 ((⟨b12, 0, none⟩ : Addr).add 2) (.slice s52.a s52.len s52.cap) <|
 X34 ((IntKind.wrap .i64 (s35.1 + (1 : Int))), s48.1, s48.2.1, ()))
 (fun J47 =>
 brB r46.2.1
 (lfp (σ := (Int × (Sl × Unit))) (fun X53 s54 =>
 brB (decide (s54.1 < (r46.1.len : Int)))
 (sx r46.1.a r46.1.len s54.1 1 fun p55 =>
 ldT (.int .i64) p55 fun x56 =>
 nw #[(.int .i64 (IntKind.wrap .i64 (0 - x56)))] ty_int fun b57 =>
 apd ty_int 1 8 #[(.int .i64 0)] ⟨s54.2.1.a, s54.2.1.len, s54.2.1.cap⟩ ⟨(some ⟨b57, 0, none⟩), 1, 1⟩ fun s58 =>
 X53 ((IntKind.wrap .i64 (s54.1 + (1 : Int))), ⟨s58.a, s58.len, s58.cap⟩, ()))
 (brB (decide ((s54.2.1.len : Int) > (4096 : Int)))
 (st1 ⟨b0, 0, none⟩ (.slice none 0 0) <|
 st1 ((⟨b0, 0, none⟩ : Addr).add 1) (.slice none 0 0) <|
 st1 ((⟨b0, 0, none⟩ : Addr).add 2) (.slice none 0 0) <|
 ldA (.cons .sl (.cons .sl (.cons .sl .nil))) ⟨b0, 0, none⟩ fun x59 =>
 K ((⟨x59.1.a, x59.1.len, x59.1.cap⟩, ⟨x59.2.1.a, x59.2.1.len, x59.2.1.cap⟩, ⟨x59.2.2.1.a, x59.2.2.1.len, x59.2.2.1.cap⟩, ()), (0 : Int), false, ()))
 (callT Tryz.prog fn_salvorref08_Find #[(.slice s54.2.1.a s54.2.1.len s54.2.1.cap), (.slice s2.2.1.a s2.2.1.len s2.2.1.cap)] (.tup (.cons .sl (.cons .bool .nil))) fun r60 =>
 brB (!r60.2.1)
 (st1 ⟨b0, 0, none⟩ (.slice none 0 0) <|
 st1 ((⟨b0, 0, none⟩ : Addr).add 1) (.slice none 0 0) <|
 st1 ((⟨b0, 0, none⟩ : Addr).add 2) (.slice none 0 0) <|
 ldA (.cons .sl (.cons .sl (.cons .sl .nil))) ⟨b0, 0, none⟩ fun x61 =>
 K ((⟨x61.1.a, x61.1.len, x61.1.cap⟩, ⟨x61.2.1.a, x61.2.1.len, x61.2.1.cap⟩, ⟨x61.2.2.1.a, x61.2.2.1.len, x61.2.2.1.cap⟩, ()), (0 : Int), false, ()))
 (callT Tryz.prog fn_salvorref09_named #[(.slice a0.a a0.len a0.cap), (.slice r60.1.a r60.1.len r60.1.cap)] .sl fun r62 =>
 st1 ((⟨b38, 0, none⟩ : Addr).add 1) (.slice r62.a r62.len r62.cap) <|
 J47 (s35.2.1, s35.2.2.1, ())))))
 ((0 : Int), ⟨none, 0, 0⟩, ()))
 (J47 (s35.2.1, s35.2.2.1, ()))))
 (ldA (.cons .sl (.cons .sl (.cons .sl .nil))) ⟨b12, 0, none⟩ fun x63 =>
 st1 ⟨b0, 0, none⟩ (.slice x63.1.a x63.1.len x63.1.cap) <|
 st1 ((⟨b0, 0, none⟩ : Addr).add 1) (.slice x63.2.1.a x63.2.1.len x63.2.1.cap) <|
 st1 ((⟨b0, 0, none⟩ : Addr).add 2) (.slice x63.2.2.1.a x63.2.2.1.len x63.2.2.1.cap) <|
 ldA (.cons .sl (.cons .sl (.cons .sl .nil))) ⟨b0, 0, none⟩ fun x64 =>
 K ((⟨x64.1.a, x64.1.len, x64.1.cap⟩, ⟨x64.2.1.a, x64.2.1.len, x64.2.1.cap⟩, ⟨x64.2.2.1.a, x64.2.2.1.len, x64.2.2.1.cap⟩, ()), (2 : Int), true, ())))
 ((0 : Int), false, (0 : Int), ())))
 (true, ⟨r11.1.a, r11.1.len, r11.1.cap⟩, ())))))
 ((0 : Int), ⟨none, 0, 0⟩, ())
theorem E_salvorref09_Search (a0 : Sl) (a1 : Sl) (K : ((Sl × (Sl × (Sl × Unit))) × (Int × (Bool × Unit))) → HP) (h : Heap) : fnVC Tryz.prog [(1000000, .bool)] 174 Tryz.f61 [(.slice a0.a a0.len a0.cap), (.slice a1.a a1.len a1.cap)] (.tup (.cons (.agg (.cons .sl (.cons .sl (.cons .sl .nil)))) (.cons (.int .i64) (.cons .bool .nil)))) K h = F_salvorref09_Search a0 a1 K h := by kernel_rfl
theorem S_salvorref09_Search{h : Heap} {a0 : Sl} {a1 : Sl} (K : ((Sl × (Sl × (Sl × Unit))) × (Int × (Bool × Unit))) → HP) (hF : F_salvorref09_Search a0 a1 K h) : CallsH Tryz.prog fn_salvorref09_Search #[(.slice a0.a a0.len a0.cap), (.slice a1.a a1.len a1.cap)] h fun v h' => ∃ x : ((Sl × (Sl × (Sl × Unit))) × (Int × (Bool × Unit))), v = Ty.enc (.tup (.cons (.agg (.cons .sl (.cons .sl (.cons .sl .nil)))) (.cons (.int .i64) (.cons .bool .nil)))) x ∧ K x h' :=
  callsH_of_fn (P := Tryz.prog) (fn := Tryz.f61) (τ := (.tup (.cons (.agg (.cons .sl (.cons .sl (.cons .sl .nil)))) (.cons (.int .i64) (.cons .bool .nil))))) follows Tryz.func61 (by kernel_rfl) (by kernel_rfl) Tryz.call61 (Eq.mpr (E_salvorref09_Search a0 a1 K h) hF)
def F_salvorref09_Find (a0 : Sl) (a1 : Int) (K : Int → HP) : HP :=
 callT Tryz.prog fn_salvorref09_find #[(.slice a0.a a0.len a0.cap), (.int .i64 a1)] (.int .i64) fun r0 =>
 K r0
theorem E_salvorref09_Find (a0 : Sl) (a1 : Int) (K : Int → HP) (h : Heap) : fnVC Tryz.prog [(1000000, .bool)] 8 Tryz.f62 [(.slice a0.a a0.len a0.cap), (.int .i64 a1)] (.int .i64) K h = F_salvorref09_Find a0 a1 K h := by kernel_rfl
theorem S_salvorref09_Find{h : Heap} {a0 : Sl} {a1 : Int} (K : Int → HP) (hF : F_salvorref09_Find a0 a1 K h) : CallsH Tryz.prog fn_salvorref09_Find #[(.slice a0.a a0.len a0.cap), (.int .i64 a1)] h fun v h' => ∃ x : Int, v = Ty.enc (.int .i64) x ∧ K x h' :=
  callsH_of_fn (P := Tryz.prog) (fn := Tryz.f62) (τ := (.int .i64)) follows Tryz.func62 (by kernel_rfl) (by kernel_rfl) Tryz.call62 (Eq.mpr (E_salvorref09_Find a0 a1 K h) hF)
def F_salvorref09_Literal (a0 : Int) (K : Int → HP) : HP :=
 callT Tryz.prog fn_salvorref01_Right #[(.int .i64 a0)] .bool fun r0 =>
 brB (!r0)
 (K (10 : Int))
 (K (0 : Int))
theorem E_salvorref09_Literal (a0 : Int) (K : Int → HP) (h : Heap) : fnVC Tryz.prog [(1000000, .bool)] 6 Tryz.f63 [(.int .i64 a0)] (.int .i64) K h = F_salvorref09_Literal a0 K h := by kernel_rfl
theorem S_salvorref09_Literal{h : Heap} {a0 : Int} (K : Int → HP) (hF : F_salvorref09_Literal a0 K h) : CallsH Tryz.prog fn_salvorref09_Literal #[(.int .i64 a0)] h fun v h' => ∃ x : Int, v = Ty.enc (.int .i64) x ∧ K x h' :=
  callsH_of_fn (P := Tryz.prog) (fn := Tryz.f63) (τ := (.int .i64)) follows Tryz.func63 (by kernel_rfl) (by kernel_rfl) Tryz.call63 (Eq.mpr (E_salvorref09_Literal a0 K h) hF)
def F_salvorref09_Candidates (a0 : Sl) (a1 : Int) (K : Sl → HP) : HP :=
 lfp (σ := (Int × (Sl × Unit))) (fun X0 s1 =>
 brB (decide (s1.1 < (a0.len : Int)))
 (sx a0.a a0.len s1.1 2 fun p2 =>
 ldT .sl (p2.add 1) fun x3 =>
 callT Tryz.prog fn_salvorref09_has #[(.slice x3.a x3.len x3.cap), (.int .i64 (IntKind.wrap .i64 (0 - a1)))] .bool fun r4 =>
 jn (σ := Bool) (fun t6 =>
 jn (σ := (Sl × Unit)) (fun s8 =>
 X0 ((IntKind.wrap .i64 (s1.1 + (1 : Int))), ⟨s8.1.a, s8.1.len, s8.1.cap⟩, ()))
 (fun J7 =>
 brB t6
 (sx a0.a a0.len s1.1 2 fun p9 =>
 ldT (.int .i64) p9 fun x10 =>
 nw #[(.int .i64 x10)] ty_int fun b11 =>
 apd ty_int 1 8 #[(.int .i64 0)] ⟨s1.2.1.a, s1.2.1.len, s1.2.1.cap⟩ ⟨(some ⟨b11, 0, none⟩), 1, 1⟩ fun s12 =>
 J7 (⟨s12.a, s12.len, s12.cap⟩, ()))
 (J7 (⟨s1.2.1.a, s1.2.1.len, s1.2.1.cap⟩, ()))))
 (fun J5 =>
 brB r4
 (sx a0.a a0.len s1.1 2 fun p13 =>
 ldT .sl (p13.add 1) fun x14 =>
 callT Tryz.prog fn_salvorref09_always #[(.slice x14.a x14.len x14.cap)] .bool fun r15 =>
 J5 ((!r15)))
 (J5 false)))
 (K ⟨s1.2.1.a, s1.2.1.len, s1.2.1.cap⟩))
 ((0 : Int), ⟨none, 0, 0⟩, ())
theorem E_salvorref09_Candidates (a0 : Sl) (a1 : Int) (K : Sl → HP) (h : Heap) : fnVC Tryz.prog [(1000000, .bool)] 39 Tryz.f64 [(.slice a0.a a0.len a0.cap), (.int .i64 a1)] .sl K h = F_salvorref09_Candidates a0 a1 K h := by kernel_rfl
theorem S_salvorref09_Candidates{h : Heap} {a0 : Sl} {a1 : Int} (K : Sl → HP) (hF : F_salvorref09_Candidates a0 a1 K h) : CallsH Tryz.prog fn_salvorref09_Candidates #[(.slice a0.a a0.len a0.cap), (.int .i64 a1)] h fun v h' => ∃ x : Sl, v = Ty.enc .sl x ∧ K x h' :=
  callsH_of_fn (P := Tryz.prog) (fn := Tryz.f64) (τ := .sl) follows Tryz.func64 (by kernel_rfl) (by kernel_rfl) Tryz.call64 (Eq.mpr (E_salvorref09_Candidates a0 a1 K h) hF)
def F_slices_IndexFunc_rat_Group_rat_Group (a0 : Sl) (a1 : Value) (K : Int → HP) : HP :=
 lfp (σ := (Int × (Int × Unit))) (fun X0 s1 =>
 brB (decide (s1.1 < (a0.len : Int)))
 (sx a0.a a0.len s1.1 2 fun p2 =>
 ldA (.cons (.int .i64) (.cons .sl .nil)) p2 fun x3 =>
 callF Tryz.prog a1 #[(.agg #[(.int .i64 x3.1), (.slice x3.2.1.a x3.2.1.len x3.2.1.cap)])] .bool fun r4 =>
 brB r4
 (K s1.1)
 (X0 ((IntKind.wrap .i64 (s1.1 + (1 : Int))), s1.2.1, ())))
 (K (-1 : Int)))
 ((0 : Int), (0 : Int), ())
theorem E_slices_IndexFunc_rat_Group_rat_Group (a0 : Sl) (a1 : Value) (K : Int → HP) (h : Heap) : fnVC Tryz.prog [(1000000, .nil)] 19 Tryz.f67 [(.slice a0.a a0.len a0.cap), a1] (.int .i64) K h = F_slices_IndexFunc_rat_Group_rat_Group a0 a1 K h := by kernel_rfl
theorem S_slices_IndexFunc_rat_Group_rat_Group{h : Heap} {a0 : Sl} {a1 : Value} (K : Int → HP) (hF : F_slices_IndexFunc_rat_Group_rat_Group a0 a1 K h) : CallsH Tryz.prog fn_slices_IndexFunc_rat_Group_rat_Group #[(.slice a0.a a0.len a0.cap), a1] h fun v h' => ∃ x : Int, v = Ty.enc (.int .i64) x ∧ K x h' :=
  callsH_of_fn (P := Tryz.prog) (fn := Tryz.f67) (τ := (.int .i64)) follows Tryz.func67 (by kernel_rfl) (by kernel_rfl) Tryz.call67 (Eq.mpr (E_slices_IndexFunc_rat_Group_rat_Group a0 a1 K h) hF)
def F_slices_Clone_int_int (a0 : Sl) (K : Sl → HP) : HP :=
 brB (Option.isNone a0.a)
 (K ⟨none, 0, 0⟩)
 (nw #[] ty_int fun b0 =>
 apd ty_int 1 8 #[(.int .i64 0)] ⟨(some ⟨b0, 0, none⟩), 0, 0⟩ ⟨a0.a, a0.len, a0.cap⟩ fun s1 =>
 K ⟨s1.a, s1.len, s1.cap⟩)
theorem E_slices_Clone_int_int (a0 : Sl) (K : Sl → HP) (h : Heap) : fnVC Tryz.prog [(1000000, .nil)] 8 Tryz.f68 [(.slice a0.a a0.len a0.cap)] .sl K h = F_slices_Clone_int_int a0 K h := by kernel_rfl
theorem S_slices_Clone_int_int{h : Heap} {a0 : Sl} (K : Sl → HP) (hF : F_slices_Clone_int_int a0 K h) : CallsH Tryz.prog fn_slices_Clone_int_int #[(.slice a0.a a0.len a0.cap)] h fun v h' => ∃ x : Sl, v = Ty.enc .sl x ∧ K x h' :=
  callsH_of_fn (P := Tryz.prog) (fn := Tryz.f68) (τ := .sl) follows Tryz.func68 (by kernel_rfl) (by kernel_rfl) Tryz.call68 (Eq.mpr (E_slices_Clone_int_int a0 K h) hF)
def F_salvorref09_Split (a0 : Sl) (K : (Sl × (Sl × (Int × Unit))) → HP) : HP :=
 lfp (σ := (Int × (Sl × (Sl × (Int × (Sl × (Sl × Unit))))))) (fun X0 s1 =>
 brB (decide (s1.1 < (a0.len : Int)))
 (sx a0.a a0.len s1.1 1 fun p2 =>
 ldT (.int .i64) p2 fun x3 =>
 jn (σ := Bool) (fun t5 =>
 jn (σ := Bool) (fun t7 =>
 brB t7
 (K (⟨none, 0, 0⟩, ⟨none, 0, 0⟩, (91 : Int), ()))
 (jn (σ := (Sl × (Sl × Unit))) (fun s9 =>
 X0 ((IntKind.wrap .i64 (s1.1 + (1 : Int))), ⟨s9.1.a, s9.1.len, s9.1.cap⟩, ⟨s9.2.1.a, s9.2.1.len, s9.2.1.cap⟩, s1.2.2.2.1, ⟨s1.2.2.2.2.1.a, s1.2.2.2.2.1.len, s1.2.2.2.2.1.cap⟩, ⟨s1.2.2.2.2.2.1.a, s1.2.2.2.2.2.1.len, s1.2.2.2.2.2.1.cap⟩, ()))
 (fun J8 =>
 brB (decide (x3 < (0 : Int)))
 (nw #[(.int .i64 (IntKind.wrap .i64 (0 - x3))), (.slice none 0 0)] ty_salvorref09_Group fun b10 =>
 apd ty_salvorref09_Group 2 32 #[(.int .i64 0), (.slice none 0 0)] ⟨s1.2.1.a, s1.2.1.len, s1.2.1.cap⟩ ⟨(some ⟨b10, 0, none⟩), 1, 1⟩ fun s11 =>
 J8 (⟨s11.a, s11.len, s11.cap⟩, ⟨s1.2.2.1.a, s1.2.2.1.len, s1.2.2.1.cap⟩, ()))
 (jn (σ := (Sl × Unit)) (fun s13 =>
 J8 (⟨s1.2.1.a, s1.2.1.len, s1.2.1.cap⟩, ⟨s13.1.a, s13.1.len, s13.1.cap⟩, ()))
 (fun J12 =>
 brB (decide ((IntKind.wrap .i64 ((s1.2.1.len : Int) - (1 : Int))) < (0 : Int)))
 (nw #[(.int .i64 x3)] ty_int fun b14 =>
 apd ty_int 1 8 #[(.int .i64 0)] ⟨s1.2.2.1.a, s1.2.2.1.len, s1.2.2.1.cap⟩ ⟨(some ⟨b14, 0, none⟩), 1, 1⟩ fun s15 =>
 J12 (⟨s15.a, s15.len, s15.cap⟩, ()))
 (nw #[] ty_int fun b16 =>
 sx s1.2.1.a s1.2.1.len (IntKind.wrap .i64 ((s1.2.1.len : Int) - (1 : Int))) 2 fun p17 =>
 ldT .sl (p17.add 1) fun x18 =>
 apd ty_int 1 8 #[(.int .i64 0)] ⟨(some ⟨b16, 0, none⟩), 0, 0⟩ ⟨x18.a, x18.len, x18.cap⟩ fun s19 =>
 nw #[(.int .i64 x3)] ty_int fun b20 =>
 apd ty_int 1 8 #[(.int .i64 0)] ⟨s19.a, s19.len, s19.cap⟩ ⟨(some ⟨b20, 0, none⟩), 1, 1⟩ fun s21 =>
 sx s1.2.1.a s1.2.1.len (IntKind.wrap .i64 ((s1.2.1.len : Int) - (1 : Int))) 2 fun p22 =>
 st1 (p22.add 1) (.slice s21.a s21.len s21.cap) <|
 J12 (⟨s1.2.2.1.a, s1.2.2.1.len, s1.2.2.1.cap⟩, ())))))))
 (fun J6 =>
 brB t5
 (J6 true)
 (J6 ((decide (x3 < (-1073741824 : Int)))))))
 (fun J4 =>
 brB (x3 == (0 : Int))
 (J4 true)
 (J4 ((decide (x3 > (1073741824 : Int)))))))
 (K (⟨s1.2.2.1.a, s1.2.2.1.len, s1.2.2.1.cap⟩, ⟨s1.2.1.a, s1.2.1.len, s1.2.1.cap⟩, (0 : Int), ())))
 ((0 : Int), ⟨none, 0, 0⟩, ⟨none, 0, 0⟩, (0 : Int), ⟨none, 0, 0⟩, ⟨none, 0, 0⟩, ())
theorem E_salvorref09_Split (a0 : Sl) (K : (Sl × (Sl × (Int × Unit))) → HP) (h : Heap) : fnVC Tryz.prog [(1000000, .bool)] 63 Tryz.f69 [(.slice a0.a a0.len a0.cap)] (.tup (.cons .sl (.cons .sl (.cons (.int .i64) .nil)))) K h = F_salvorref09_Split a0 K h := by kernel_rfl
theorem S_salvorref09_Split{h : Heap} {a0 : Sl} (K : (Sl × (Sl × (Int × Unit))) → HP) (hF : F_salvorref09_Split a0 K h) : CallsH Tryz.prog fn_salvorref09_Split #[(.slice a0.a a0.len a0.cap)] h fun v h' => ∃ x : (Sl × (Sl × (Int × Unit))), v = Ty.enc (.tup (.cons .sl (.cons .sl (.cons (.int .i64) .nil)))) x ∧ K x h' :=
  callsH_of_fn (P := Tryz.prog) (fn := Tryz.f69) (τ := (.tup (.cons .sl (.cons .sl (.cons (.int .i64) .nil))))) follows Tryz.func69 (by kernel_rfl) (by kernel_rfl) Tryz.call69 (Eq.mpr (E_salvorref09_Split a0 K h) hF)
def F_rat_Join (a0 : Sl) (a1 : Sl) (K : (Sl × (Int × Unit)) → HP) : HP :=
 callT Tryz.prog fn_slices_Clone_int_int #[(.slice a0.a a0.len a0.cap)] .sl fun r0 =>
 callT Tryz.prog fn_slices_Clone_int_int #[(.slice a0.a a0.len a0.cap)] .sl fun r1 =>
 lfp (σ := (Int × (Sl × (Sl × Unit)))) (fun X2 s3 =>
 brB (decide (s3.1 < (a1.len : Int)))
 (sx a1.a a1.len s3.1 2 fun p4 =>
 ldA (.cons (.int .i64) (.cons .sl .nil)) p4 fun x5 =>
 nw #[(.int .i64 0), (.slice none 0 0)] ty_rat_Group fun b6 =>
 st1 ⟨b6, 0, none⟩ (.int .i64 x5.1) <|
 st1 ((⟨b6, 0, none⟩ : Addr).add 1) (.slice x5.2.1.a x5.2.1.len x5.2.1.cap) <|
 ldT (.int .i64) ⟨b6, 0, none⟩ fun x7 =>
 ldT .sl ((⟨b6, 0, none⟩ : Addr).add 1) fun x8 =>
 nw #[(.int .i64 (IntKind.wrap .i64 (0 - x7)))] ty_int fun b9 =>
 apd ty_int 1 8 #[(.int .i64 0)] ⟨s3.2.2.1.a, s3.2.2.1.len, s3.2.2.1.cap⟩ ⟨(some ⟨b9, 0, none⟩), 1, 1⟩ fun s10 =>
 ck ((⟨b6, 0, none⟩ : Addr).add 1) (.slice x8.a x8.len x8.cap) <|
 apd ty_int 1 8 #[(.int .i64 0)] ⟨s10.a, s10.len, s10.cap⟩ ⟨x8.a, x8.len, x8.cap⟩ fun s11 =>
 ldT (.int .i64) ⟨b6, 0, none⟩ fun x12 =>
 ldT .sl ((⟨b6, 0, none⟩ : Addr).add 1) fun x13 =>
 nw #[(.int .i64 x12)] ty_int fun b14 =>
 apd ty_int 1 8 #[(.int .i64 0)] ⟨s3.2.1.a, s3.2.1.len, s3.2.1.cap⟩ ⟨(some ⟨b14, 0, none⟩), 1, 1⟩ fun s15 =>
 ck ((⟨b6, 0, none⟩ : Addr).add 1) (.slice x13.a x13.len x13.cap) <|
 apd ty_int 1 8 #[(.int .i64 0)] ⟨s15.a, s15.len, s15.cap⟩ ⟨x13.a, x13.len, x13.cap⟩ fun s16 =>
 X2 ((IntKind.wrap .i64 (s3.1 + (1 : Int))), ⟨s16.a, s16.len, s16.cap⟩, ⟨s11.a, s11.len, s11.cap⟩, ()))
 (callT Tryz.prog fn_slices_ContainsFunc_int_int #[(.slice s3.2.1.a s3.2.1.len s3.2.1.cap), (.func (.func fn_rat_Join_1) #[] #[])] .bool fun r17 =>
 brB r17
 (K (⟨none, 0, 0⟩, (91 : Int), ()))
 (K (⟨s3.2.2.1.a, s3.2.2.1.len, s3.2.2.1.cap⟩, (0 : Int), ()))))
 ((0 : Int), ⟨r1.a, r1.len, r1.cap⟩, ⟨r0.a, r0.len, r0.cap⟩, ())
theorem E_rat_Join (a0 : Sl) (a1 : Sl) (K : (Sl × (Int × Unit)) → HP) (h : Heap) : fnVC Tryz.prog [(1000000, .bool)] 41 Tryz.f70 [(.slice a0.a a0.len a0.cap), (.slice a1.a a1.len a1.cap)] (.tup (.cons .sl (.cons (.int .i64) .nil))) K h = F_rat_Join a0 a1 K h := by kernel_rfl
theorem S_rat_Join{h : Heap} {a0 : Sl} {a1 : Sl} (K : (Sl × (Int × Unit)) → HP) (hF : F_rat_Join a0 a1 K h) : CallsH Tryz.prog fn_rat_Join #[(.slice a0.a a0.len a0.cap), (.slice a1.a a1.len a1.cap)] h fun v h' => ∃ x : (Sl × (Int × Unit)), v = Ty.enc (.tup (.cons .sl (.cons (.int .i64) .nil))) x ∧ K x h' :=
  callsH_of_fn (P := Tryz.prog) (fn := Tryz.f70) (τ := (.tup (.cons .sl (.cons (.int .i64) .nil)))) follows Tryz.func70 (by kernel_rfl) (by kernel_rfl) Tryz.call70 (Eq.mpr (E_rat_Join a0 a1 K h) hF)
def F_salvorref09_Join (a0 : Sl) (a1 : Sl) (K : (Sl × (Int × Unit)) → HP) : HP :=
 lfp (σ := (Int × (Sl × (Int × (Sl × Unit))))) (fun X0 s1 =>
 brB (decide (s1.1 < (a0.len : Int)))
 (sx a0.a a0.len s1.1 1 fun p2 =>
 ldT (.int .i64) p2 fun x3 =>
 jn (σ := Bool) (fun t5 =>
 brB t5
 (K (⟨none, 0, 0⟩, (91 : Int), ()))
 (sx a0.a a0.len s1.1 1 fun p6 =>
 ldT (.int .i64) p6 fun x7 =>
 nw #[(.int .i64 x7)] ty_int fun b8 =>
 apd ty_int 1 8 #[(.int .i64 0)] ⟨s1.2.1.a, s1.2.1.len, s1.2.1.cap⟩ ⟨(some ⟨b8, 0, none⟩), 1, 1⟩ fun s9 =>
 X0 ((IntKind.wrap .i64 (s1.1 + (1 : Int))), ⟨s9.a, s9.len, s9.cap⟩, s1.2.2.1, ⟨s1.2.2.2.1.a, s1.2.2.2.1.len, s1.2.2.2.1.cap⟩, ())))
 (fun J4 =>
 brB (decide (x3 < (1 : Int)))
 (J4 true)
 (sx a0.a a0.len s1.1 1 fun p10 =>
 ldT (.int .i64) p10 fun x11 =>
 J4 ((decide (x11 > (1073741824 : Int)))))))
 (lfp (σ := (Int × (Sl × (Int × (Sl × Unit))))) (fun X12 s13 =>
 brB (decide (s13.1 < (a1.len : Int)))
 (sx a1.a a1.len s13.1 2 fun p14 =>
 ldT (.int .i64) p14 fun x15 =>
 jn (σ := Bool) (fun t17 =>
 brB t17
 (K (⟨none, 0, 0⟩, (91 : Int), ()))
 (sx a1.a a1.len s13.1 2 fun p18 =>
 ldT (.int .i64) p18 fun x19 =>
 nw #[(.int .i64 (IntKind.wrap .i64 (0 - x19)))] ty_int fun b20 =>
 apd ty_int 1 8 #[(.int .i64 0)] ⟨s13.2.1.a, s13.2.1.len, s13.2.1.cap⟩ ⟨(some ⟨b20, 0, none⟩), 1, 1⟩ fun s21 =>
 lfp (σ := (Int × (Sl × (Int × (Sl × Unit))))) (fun X22 s23 =>
 sx a1.a a1.len s13.1 2 fun p24 =>
 ldT .sl (p24.add 1) fun x25 =>
 brB (decide (s23.1 < (x25.len : Int)))
 (sx a1.a a1.len s13.1 2 fun p26 =>
 ldT .sl (p26.add 1) fun x27 =>
 sx x27.a x27.len s23.1 1 fun p28 =>
 ldT (.int .i64) p28 fun x29 =>
 jn (σ := Bool) (fun t31 =>
 brB t31
 (K (⟨none, 0, 0⟩, (91 : Int), ()))
 (sx a1.a a1.len s13.1 2 fun p32 =>
 ldT .sl (p32.add 1) fun x33 =>
 sx x33.a x33.len s23.1 1 fun p34 =>
 ldT (.int .i64) p34 fun x35 =>
 nw #[(.int .i64 x35)] ty_int fun b36 =>
 apd ty_int 1 8 #[(.int .i64 0)] ⟨s23.2.1.a, s23.2.1.len, s23.2.1.cap⟩ ⟨(some ⟨b36, 0, none⟩), 1, 1⟩ fun s37 =>
 X22 ((IntKind.wrap .i64 (s23.1 + (1 : Int))), ⟨s37.a, s37.len, s37.cap⟩, s23.2.2.1, ⟨s23.2.2.2.1.a, s23.2.2.2.1.len, s23.2.2.2.1.cap⟩, ())))
 (fun J30 =>
 brB (decide (x29 < (1 : Int)))
 (J30 true)
 (sx a1.a a1.len s13.1 2 fun p38 =>
 ldT .sl (p38.add 1) fun x39 =>
 sx x39.a x39.len s23.1 1 fun p40 =>
 ldT (.int .i64) p40 fun x41 =>
 J30 ((decide (x41 > (1073741824 : Int)))))))
 (X12 ((IntKind.wrap .i64 (s13.1 + (1 : Int))), ⟨s23.2.1.a, s23.2.1.len, s23.2.1.cap⟩, s23.2.2.1, ⟨s23.2.2.2.1.a, s23.2.2.2.1.len, s23.2.2.2.1.cap⟩, ())))
 ((0 : Int), ⟨s21.a, s21.len, s21.cap⟩, s13.2.2.1, ⟨s13.2.2.2.1.a, s13.2.2.2.1.len, s13.2.2.2.1.cap⟩, ())))
 (fun J16 =>
 brB (decide (x15 < (1 : Int)))
 (J16 true)
 (sx a1.a a1.len s13.1 2 fun p42 =>
 ldT (.int .i64) p42 fun x43 =>
 J16 ((decide (x43 > (1073741824 : Int)))))))
 (K (⟨s13.2.1.a, s13.2.1.len, s13.2.1.cap⟩, (0 : Int), ())))
 ((0 : Int), ⟨s1.2.1.a, s1.2.1.len, s1.2.1.cap⟩, s1.2.2.1, ⟨s1.2.2.2.1.a, s1.2.2.2.1.len, s1.2.2.2.1.cap⟩, ())))
 ((0 : Int), ⟨none, 0, 0⟩, (0 : Int), ⟨none, 0, 0⟩, ())
theorem E_salvorref09_Join (a0 : Sl) (a1 : Sl) (K : (Sl × (Int × Unit)) → HP) (h : Heap) : fnVC Tryz.prog [(1000000, .bool)] 106 Tryz.f71 [(.slice a0.a a0.len a0.cap), (.slice a1.a a1.len a1.cap)] (.tup (.cons .sl (.cons (.int .i64) .nil))) K h = F_salvorref09_Join a0 a1 K h := by kernel_rfl
theorem S_salvorref09_Join{h : Heap} {a0 : Sl} {a1 : Sl} (K : (Sl × (Int × Unit)) → HP) (hF : F_salvorref09_Join a0 a1 K h) : CallsH Tryz.prog fn_salvorref09_Join #[(.slice a0.a a0.len a0.cap), (.slice a1.a a1.len a1.cap)] h fun v h' => ∃ x : (Sl × (Int × Unit)), v = Ty.enc (.tup (.cons .sl (.cons (.int .i64) .nil))) x ∧ K x h' :=
  callsH_of_fn (P := Tryz.prog) (fn := Tryz.f71) (τ := (.tup (.cons .sl (.cons (.int .i64) .nil)))) follows Tryz.func71 (by kernel_rfl) (by kernel_rfl) Tryz.call71 (Eq.mpr (E_salvorref09_Join a0 a1 K h) hF)
def F_salvorref09_Repair (a0 : Sl) (a1 : Sl) (K : (Sl × (Int × Unit)) → HP) : HP :=
 callT Tryz.prog fn_salvorref02_Right #[(.slice a0.a a0.len a0.cap)] .bool fun r0 =>
 brB (!r0)
 (K (⟨none, 0, 0⟩, (20 : Int), ()))
 (callT Tryz.prog fn_salvorref08_Right #[(.slice a1.a a1.len a1.cap)] .bool fun r1 =>
 brB (!r1)
 (K (⟨none, 0, 0⟩, (80 : Int), ()))
 (brB ((a0.len : Int) == (0 : Int))
 (K (⟨none, 0, 0⟩, (82 : Int), ()))
 (callT Tryz.prog fn_salvorref08_Look #[(.slice a0.a a0.len a0.cap), (.slice a1.a a1.len a1.cap)] (.tup (.cons (.int .i64) (.cons (.int .i64) .nil))) fun r2 =>
 brB (r2.1 == (1 : Int))
 (nw #[] ty_int fun b3 =>
 apd ty_int 1 8 #[(.int .i64 0)] ⟨(some ⟨b3, 0, none⟩), 0, 0⟩ ⟨a1.a, a1.len, a1.cap⟩ fun s4 =>
 K (⟨s4.a, s4.len, s4.cap⟩, (0 : Int), ()))
 (lfp (σ := (Int × (Bool × (Sl × Unit)))) (fun X5 s6 =>
 brB (decide (s6.1 < (a1.len : Int)))
 (sx a1.a a1.len s6.1 1 fun p7 =>
 ldT (.int .i64) p7 fun x8 =>
 sx a0.a a0.len (0 : Int) 1 fun p9 =>
 ldT (.int .i64) p9 fun x10 =>
 jn (σ := (Bool × (Sl × Unit))) (fun s12 =>
 X5 ((IntKind.wrap .i64 (s6.1 + (1 : Int))), s12.1, ⟨s12.2.1.a, s12.2.1.len, s12.2.1.cap⟩, ()))
 (fun J11 =>
 brB (x8 == (IntKind.wrap .i64 (0 - x10)))
 (sx a0.a a0.len (0 : Int) 1 fun p13 =>
 ldT (.int .i64) p13 fun x14 =>
 nw #[(.int .i64 x14)] ty_int fun b15 =>
 apd ty_int 1 8 #[(.int .i64 0)] ⟨s6.2.2.1.a, s6.2.2.1.len, s6.2.2.1.cap⟩ ⟨(some ⟨b15, 0, none⟩), 1, 1⟩ fun s16 =>
 J11 (true, ⟨s16.a, s16.len, s16.cap⟩, ()))
 (sx a1.a a1.len s6.1 1 fun p17 =>
 ldT (.int .i64) p17 fun x18 =>
 nw #[(.int .i64 x18)] ty_int fun b19 =>
 apd ty_int 1 8 #[(.int .i64 0)] ⟨s6.2.2.1.a, s6.2.2.1.len, s6.2.2.1.cap⟩ ⟨(some ⟨b19, 0, none⟩), 1, 1⟩ fun s20 =>
 J11 (s6.2.1, ⟨s20.a, s20.len, s20.cap⟩, ()))))
 (jn (σ := (Sl × Unit)) (fun s22 =>
 K (⟨s22.1.a, s22.1.len, s22.1.cap⟩, (0 : Int), ()))
 (fun J21 =>
 brB (!s6.2.1)
 (sx a0.a a0.len (0 : Int) 1 fun p23 =>
 ldT (.int .i64) p23 fun x24 =>
 nw #[(.int .i64 x24)] ty_int fun b25 =>
 apd ty_int 1 8 #[(.int .i64 0)] ⟨s6.2.2.1.a, s6.2.2.1.len, s6.2.2.1.cap⟩ ⟨(some ⟨b25, 0, none⟩), 1, 1⟩ fun s26 =>
 J21 (⟨s26.a, s26.len, s26.cap⟩, ()))
 (J21 (⟨s6.2.2.1.a, s6.2.2.1.len, s6.2.2.1.cap⟩, ())))))
 ((0 : Int), false, ⟨none, 0, 0⟩, ())))))
theorem E_salvorref09_Repair (a0 : Sl) (a1 : Sl) (K : (Sl × (Int × Unit)) → HP) (h : Heap) : fnVC Tryz.prog [(1000000, .bool)] 68 Tryz.f72 [(.slice a0.a a0.len a0.cap), (.slice a1.a a1.len a1.cap)] (.tup (.cons .sl (.cons (.int .i64) .nil))) K h = F_salvorref09_Repair a0 a1 K h := by kernel_rfl
theorem S_salvorref09_Repair{h : Heap} {a0 : Sl} {a1 : Sl} (K : (Sl × (Int × Unit)) → HP) (hF : F_salvorref09_Repair a0 a1 K h) : CallsH Tryz.prog fn_salvorref09_Repair #[(.slice a0.a a0.len a0.cap), (.slice a1.a a1.len a1.cap)] h fun v h' => ∃ x : (Sl × (Int × Unit)), v = Ty.enc (.tup (.cons .sl (.cons (.int .i64) .nil))) x ∧ K x h' :=
  callsH_of_fn (P := Tryz.prog) (fn := Tryz.f72) (τ := (.tup (.cons .sl (.cons (.int .i64) .nil)))) follows Tryz.func72 (by kernel_rfl) (by kernel_rfl) Tryz.call72 (Eq.mpr (E_salvorref09_Repair a0 a1 K h) hF)
def F_clauses_Right (a0 : Sl) (K : Bool → HP) : HP :=
 brB (decide ((a0.len : Int) ≤ (4096 : Int)))
 (callT Tryz.prog fn_slices_ContainsFunc_clauses_Clause_lits_Lit #[(.slice a0.a a0.len a0.cap), (.func (.func fn_clauses_wrong) #[] #[])] .bool fun r0 =>
 K (!r0))
 (K false)
theorem E_clauses_Right (a0 : Sl) (K : Bool → HP) (h : Heap) : fnVC Tryz.prog [(1000000, .nil)] 11 Tryz.f78 [(.slice a0.a a0.len a0.cap)] .bool K h = F_clauses_Right a0 K h := by kernel_rfl
theorem S_clauses_Right{h : Heap} {a0 : Sl} (K : Bool → HP) (hF : F_clauses_Right a0 K h) : CallsH Tryz.prog fn_clauses_Right #[(.slice a0.a a0.len a0.cap)] h fun v h' => ∃ x : Bool, v = Ty.enc .bool x ∧ K x h' :=
  callsH_of_fn (P := Tryz.prog) (fn := Tryz.f78) (τ := .bool) follows Tryz.func78 (by kernel_rfl) (by kernel_rfl) Tryz.call78 (Eq.mpr (E_clauses_Right a0 K h) hF)
def F_rup_Look (a0 : Sl) (a1 : Sl) (K : (Int × (Int × (Int × Unit))) → HP) : HP :=
 callT Tryz.prog fn_rup_assigned #[(.slice a1.a a1.len a1.cap)] (.tup (.cons .val (.cons .bool .nil))) fun r0 =>
 callT Tryz.prog fn_clauses_Right #[(.slice a0.a a0.len a0.cap)] .bool fun r1 =>
 brB (!r1)
 (K ((0 : Int), (0 : Int), (20 : Int), ()))
 (brB (!r0.2.1)
 (K ((0 : Int), (0 : Int), (80 : Int), ()))
 (callT Tryz.prog fn_rup_values_look #[r0.1, (.slice a0.a a0.len a0.cap)] (.tup (.cons (.int .u8) (.cons (.int .i64) .nil))) fun r2 =>
 K (r2.1, r2.2.1, (0 : Int), ())))
theorem E_rup_Look (a0 : Sl) (a1 : Sl) (K : (Int × (Int × (Int × Unit))) → HP) (h : Heap) : fnVC Tryz.prog [(1000000, .bool)] 31 Tryz.f79 [(.slice a0.a a0.len a0.cap), (.slice a1.a a1.len a1.cap)] (.tup (.cons (.int .u8) (.cons (.int .i64) (.cons (.int .i64) .nil)))) K h = F_rup_Look a0 a1 K h := by kernel_rfl
theorem S_rup_Look{h : Heap} {a0 : Sl} {a1 : Sl} (K : (Int × (Int × (Int × Unit))) → HP) (hF : F_rup_Look a0 a1 K h) : CallsH Tryz.prog fn_rup_Look #[(.slice a0.a a0.len a0.cap), (.slice a1.a a1.len a1.cap)] h fun v h' => ∃ x : (Int × (Int × (Int × Unit))), v = Ty.enc (.tup (.cons (.int .u8) (.cons (.int .i64) (.cons (.int .i64) .nil)))) x ∧ K x h' :=
  callsH_of_fn (P := Tryz.prog) (fn := Tryz.f79) (τ := (.tup (.cons (.int .u8) (.cons (.int .i64) (.cons (.int .i64) .nil))))) follows Tryz.func79 (by kernel_rfl) (by kernel_rfl) Tryz.call79 (Eq.mpr (E_rup_Look a0 a1 K h) hF)
def F_slices_Clone_lits_Lit_lits_Lit (a0 : Sl) (K : Sl → HP) : HP :=
 brB (Option.isNone a0.a)
 (K ⟨none, 0, 0⟩)
 (nw #[] ty_lits_Lit fun b0 =>
 apd ty_lits_Lit 1 8 #[(.int .i64 0)] ⟨(some ⟨b0, 0, none⟩), 0, 0⟩ ⟨a0.a, a0.len, a0.cap⟩ fun s1 =>
 K ⟨s1.a, s1.len, s1.cap⟩)
theorem E_slices_Clone_lits_Lit_lits_Lit (a0 : Sl) (K : Sl → HP) (h : Heap) : fnVC Tryz.prog [(1000000, .nil)] 8 Tryz.f80 [(.slice a0.a a0.len a0.cap)] .sl K h = F_slices_Clone_lits_Lit_lits_Lit a0 K h := by kernel_rfl
theorem S_slices_Clone_lits_Lit_lits_Lit{h : Heap} {a0 : Sl} (K : Sl → HP) (hF : F_slices_Clone_lits_Lit_lits_Lit a0 K h) : CallsH Tryz.prog fn_slices_Clone_lits_Lit_lits_Lit #[(.slice a0.a a0.len a0.cap)] h fun v h' => ∃ x : Sl, v = Ty.enc .sl x ∧ K x h' :=
  callsH_of_fn (P := Tryz.prog) (fn := Tryz.f80) (τ := .sl) follows Tryz.func80 (by kernel_rfl) (by kernel_rfl) Tryz.call80 (Eq.mpr (E_slices_Clone_lits_Lit_lits_Lit a0 K h) hF)
def F_slices_EqualFunc_rat_Group_rat_Group_rat_Group_rat_Group (a0 : Sl) (a1 : Sl) (a2 : Value) (K : Bool → HP) : HP :=
 brB ((a0.len : Int) != (a1.len : Int))
 (K false)
 (lfp (σ := (Int × (Bool × Unit))) (fun X0 s1 =>
 brB (decide (s1.1 < (a0.len : Int)))
 (sx a0.a a0.len s1.1 2 fun p2 =>
 ldA (.cons (.int .i64) (.cons .sl .nil)) p2 fun x3 =>
 nw #[(.int .i64 0), (.slice none 0 0)] ty_rat_Group fun b4 =>
 st1 ⟨b4, 0, none⟩ (.int .i64 x3.1) <|
 st1 ((⟨b4, 0, none⟩ : Addr).add 1) (.slice x3.2.1.a x3.2.1.len x3.2.1.cap) <|
 sx a1.a a1.len s1.1 2 fun p5 =>
 ldA (.cons (.int .i64) (.cons .sl .nil)) p5 fun x6 =>
 nw #[(.int .i64 0), (.slice none 0 0)] ty_rat_Group fun b7 =>
 st1 ⟨b7, 0, none⟩ (.int .i64 x6.1) <|
 st1 ((⟨b7, 0, none⟩ : Addr).add 1) (.slice x6.2.1.a x6.2.1.len x6.2.1.cap) <|
 ldA (.cons (.int .i64) (.cons .sl .nil)) ⟨b4, 0, none⟩ fun x8 =>
 ldA (.cons (.int .i64) (.cons .sl .nil)) ⟨b7, 0, none⟩ fun x9 =>
 callF Tryz.prog a2 #[(.agg #[(.int .i64 x8.1), (.slice x8.2.1.a x8.2.1.len x8.2.1.cap)]), (.agg #[(.int .i64 x9.1), (.slice x9.2.1.a x9.2.1.len x9.2.1.cap)])] .bool fun r10 =>
 brB (!r10)
 (K false)
 (X0 ((IntKind.wrap .i64 (s1.1 + (1 : Int))), s1.2.1, ())))
 (K true))
 ((0 : Int), false, ()))
theorem E_slices_EqualFunc_rat_Group_rat_Group_rat_Group_rat_Group (a0 : Sl) (a1 : Sl) (a2 : Value) (K : Bool → HP) (h : Heap) : fnVC Tryz.prog [(1000000, .nil)] 32 Tryz.f81 [(.slice a0.a a0.len a0.cap), (.slice a1.a a1.len a1.cap), a2] .bool K h = F_slices_EqualFunc_rat_Group_rat_Group_rat_Group_rat_Group a0 a1 a2 K h := by kernel_rfl
theorem S_slices_EqualFunc_rat_Group_rat_Group_rat_Group_rat_Group{h : Heap} {a0 : Sl} {a1 : Sl} {a2 : Value} (K : Bool → HP) (hF : F_slices_EqualFunc_rat_Group_rat_Group_rat_Group_rat_Group a0 a1 a2 K h) : CallsH Tryz.prog fn_slices_EqualFunc_rat_Group_rat_Group_rat_Group_rat_Group #[(.slice a0.a a0.len a0.cap), (.slice a1.a a1.len a1.cap), a2] h fun v h' => ∃ x : Bool, v = Ty.enc .bool x ∧ K x h' :=
  callsH_of_fn (P := Tryz.prog) (fn := Tryz.f81) (τ := .bool) follows Tryz.func81 (by kernel_rfl) (by kernel_rfl) Tryz.call81 (Eq.mpr (E_slices_EqualFunc_rat_Group_rat_Group_rat_Group_rat_Group a0 a1 a2 K h) hF)
def F_salvorlaw09_sameGroups_1 (a0 : (Int × (Sl × Unit))) (a1 : (Int × (Sl × Unit))) (K : Bool → HP) : HP :=
 nw #[(.int .i64 a0.1), (.slice a0.2.1.a a0.2.1.len a0.2.1.cap)] ty_rat_Group fun b0 =>
 nw #[(.int .i64 a1.1), (.slice a1.2.1.a a1.2.1.len a1.2.1.cap)] ty_rat_Group fun b1 =>
 ldT (.int .i64) ⟨b0, 0, none⟩ fun x2 =>
 ldT (.int .i64) ⟨b1, 0, none⟩ fun x3 =>
 jn (σ := Bool) (fun t5 =>
 K t5)
 (fun J4 =>
 brB (x2 == x3)
 (ldT .sl ((⟨b0, 0, none⟩ : Addr).add 1) fun x6 =>
 ldT .sl ((⟨b1, 0, none⟩ : Addr).add 1) fun x7 =>
 callT Tryz.prog fn_slices_Equal_int_int #[(.slice x6.a x6.len x6.cap), (.slice x7.a x7.len x7.cap)] .bool fun r8 =>
 J4 (r8))
 (J4 false))
theorem E_salvorlaw09_sameGroups_1 (a0 : (Int × (Sl × Unit))) (a1 : (Int × (Sl × Unit))) (K : Bool → HP) (h : Heap) : fnVC Tryz.prog [(1000000, .bool)] 17 Tryz.f82 [(.agg #[(.int .i64 a0.1), (.slice a0.2.1.a a0.2.1.len a0.2.1.cap)]), (.agg #[(.int .i64 a1.1), (.slice a1.2.1.a a1.2.1.len a1.2.1.cap)])] .bool K h = F_salvorlaw09_sameGroups_1 a0 a1 K h := by kernel_rfl
theorem S_salvorlaw09_sameGroups_1{h : Heap} {a0 : (Int × (Sl × Unit))} {a1 : (Int × (Sl × Unit))} (K : Bool → HP) (hF : F_salvorlaw09_sameGroups_1 a0 a1 K h) : CallsH Tryz.prog fn_salvorlaw09_sameGroups_1 #[(.agg #[(.int .i64 a0.1), (.slice a0.2.1.a a0.2.1.len a0.2.1.cap)]), (.agg #[(.int .i64 a1.1), (.slice a1.2.1.a a1.2.1.len a1.2.1.cap)])] h fun v h' => ∃ x : Bool, v = Ty.enc .bool x ∧ K x h' :=
  callsH_of_fn (P := Tryz.prog) (fn := Tryz.f82) (τ := .bool) follows Tryz.func82 (by kernel_rfl) (by kernel_rfl) Tryz.call82 (Eq.mpr (E_salvorlaw09_sameGroups_1 a0 a1 K h) hF)
def F_rup_first (a0 : Sl) (K : Int → HP) : HP :=
 lfp (σ := (Int × (Int × Unit))) (fun X0 s1 =>
 brB (decide (s1.1 < (a0.len : Int)))
 (sx a0.a a0.len s1.1 1 fun p2 =>
 ldT (.int .i64) p2 fun x3 =>
 brB (x3 != (0 : Int))
 (K x3)
 (X0 ((IntKind.wrap .i64 (s1.1 + (1 : Int))), s1.2.1, ())))
 (K (0 : Int)))
 ((0 : Int), (0 : Int), ())
theorem E_rup_first (a0 : Sl) (K : Int → HP) (h : Heap) : fnVC Tryz.prog [(1000000, .bool)] 15 Tryz.f83 [(.slice a0.a a0.len a0.cap)] (.int .i64) K h = F_rup_first a0 K h := by kernel_rfl
theorem S_rup_first{h : Heap} {a0 : Sl} (K : Int → HP) (hF : F_rup_first a0 K h) : CallsH Tryz.prog fn_rup_first #[(.slice a0.a a0.len a0.cap)] h fun v h' => ∃ x : Int, v = Ty.enc (.int .i64) x ∧ K x h' :=
  callsH_of_fn (P := Tryz.prog) (fn := Tryz.f83) (τ := (.int .i64)) follows Tryz.func83 (by kernel_rfl) (by kernel_rfl) Tryz.call83 (Eq.mpr (E_rup_first a0 K h) hF)
def F_rup_wrong (a0 : Sl) (a1 : Sl) (K : Int → HP) : HP :=
 callT Tryz.prog fn_slices_Clone_clauses_Clause_clauses_Clause #[(.slice a0.a a0.len a0.cap)] .sl fun r0 =>
 apd ty_clauses_Clause 1 24 #[(.slice none 0 0)] ⟨r0.a, r0.len, r0.cap⟩ ⟨a1.a, a1.len, a1.cap⟩ fun s1 =>
 lfp (σ := (Int × (Int × Unit))) (fun X2 s3 =>
 brB (decide (s3.1 < (s1.len : Int)))
 (sx s1.a s1.len s3.1 1 fun p4 =>
 ldT .sl p4 fun x5 =>
 callT Tryz.prog fn_clauses_Right #[(.slice x5.a x5.len x5.cap)] .bool fun r6 =>
 brB (!r6)
 (K (20 : Int))
 (X2 ((IntKind.wrap .i64 (s3.1 + (1 : Int))), s3.2.1, ())))
 (K (0 : Int)))
 ((0 : Int), (0 : Int), ())
theorem E_rup_wrong (a0 : Sl) (a1 : Sl) (K : Int → HP) (h : Heap) : fnVC Tryz.prog [(1000000, .bool)] 20 Tryz.f84 [(.slice a0.a a0.len a0.cap), (.slice a1.a a1.len a1.cap)] (.int .i64) K h = F_rup_wrong a0 a1 K h := by kernel_rfl
theorem S_rup_wrong{h : Heap} {a0 : Sl} {a1 : Sl} (K : Int → HP) (hF : F_rup_wrong a0 a1 K h) : CallsH Tryz.prog fn_rup_wrong #[(.slice a0.a a0.len a0.cap), (.slice a1.a a1.len a1.cap)] h fun v h' => ∃ x : Int, v = Ty.enc (.int .i64) x ∧ K x h' :=
  callsH_of_fn (P := Tryz.prog) (fn := Tryz.f84) (τ := (.int .i64)) follows Tryz.func84 (by kernel_rfl) (by kernel_rfl) Tryz.call84 (Eq.mpr (E_rup_wrong a0 a1 K h) hF)
def F_rup_many (a0 : Sl) (K : Int → HP) : HP :=
 brB (decide ((a0.len : Int) > (65536 : Int)))
 (K (5 : Int))
 (K (0 : Int))
theorem E_rup_many (a0 : Sl) (K : Int → HP) (h : Heap) : fnVC Tryz.prog [(1000000, .bool)] 6 Tryz.f85 [(.slice a0.a a0.len a0.cap)] (.int .i64) K h = F_rup_many a0 K h := by kernel_rfl
theorem S_rup_many{h : Heap} {a0 : Sl} (K : Int → HP) (hF : F_rup_many a0 K h) : CallsH Tryz.prog fn_rup_many #[(.slice a0.a a0.len a0.cap)] h fun v h' => ∃ x : Int, v = Ty.enc (.int .i64) x ∧ K x h' :=
  callsH_of_fn (P := Tryz.prog) (fn := Tryz.f85) (τ := (.int .i64)) follows Tryz.func85 (by kernel_rfl) (by kernel_rfl) Tryz.call85 (Eq.mpr (E_rup_many a0 K h) hF)
def F_rup_assigned (a0 : Sl) (K : (Value × (Bool × Unit)) → HP) : HP :=
 mkm fun b0 =>
 lfp (σ := (Int × (Bool × (Value × Unit)))) (fun X1 s2 =>
 brB (decide (s2.1 < (a0.len : Int)))
 (sx a0.a a0.len s2.1 1 fun p3 =>
 ldT (.int .i64) p3 fun x4 =>
 callT Tryz.prog fn_lits_Right #[(.int .i64 x4)] .bool fun r5 =>
 jn (σ := Bool) (fun t7 =>
 brB t7
 (K ((Value.map none), false, ()))
 (callT Tryz.prog fn_rup_values_put #[(.map (some b0)), (.int .i64 x4)] (.tup .nil) fun r8 =>
 X1 ((IntKind.wrap .i64 (s2.1 + (1 : Int))), s2.2.1, s2.2.2.1, ())))
 (fun J6 =>
 brB (!r5)
 (J6 true)
 (callT Tryz.prog fn_rup_values_of #[(.map (some b0)), (.int .i64 x4)] (.int .i64) fun r9 =>
 J6 ((decide (r9 < (0 : Int)))))))
 (K ((.map (some b0)), true, ())))
 ((0 : Int), false, (Value.map none), ())
theorem E_rup_assigned (a0 : Sl) (K : (Value × (Bool × Unit)) → HP) (h : Heap) : fnVC Tryz.prog [(1000000, .bool)] 28 Tryz.f86 [(.slice a0.a a0.len a0.cap)] (.tup (.cons .val (.cons .bool .nil))) K h = F_rup_assigned a0 K h := by kernel_rfl
theorem S_rup_assigned{h : Heap} {a0 : Sl} (K : (Value × (Bool × Unit)) → HP) (hF : F_rup_assigned a0 K h) : CallsH Tryz.prog fn_rup_assigned #[(.slice a0.a a0.len a0.cap)] h fun v h' => ∃ x : (Value × (Bool × Unit)), v = Ty.enc (.tup (.cons .val (.cons .bool .nil))) x ∧ K x h' :=
  callsH_of_fn (P := Tryz.prog) (fn := Tryz.f86) (τ := (.tup (.cons .val (.cons .bool .nil)))) follows Tryz.func86 (by kernel_rfl) (by kernel_rfl) Tryz.call86 (Eq.mpr (E_rup_assigned a0 K h) hF)
def F_rup_values_next (a0 : Value) (a1 : Sl) (K : (Int × (Int × Unit)) → HP) : HP := fun h0 => (
 nw #[(.int .i64 0)] ty_int fun b0 =>
 nw #[(.int .i64 0)] ty_lits_Lit fun b1 =>
 nw #[(.int .u8 2), (.int .u8 3)] ty_uint8 fun b2 =>
 lfp (σ := (Int × Unit)) (fun X3 s4 =>
 brB (decide (s4.1 < (2 : Int)))
 (sx (some ⟨b2, 0, none⟩) 2 s4.1 1 fun p5 =>
 ldT (.int .u8) p5 fun x6 =>
 callT Tryz.prog fn_rup_values_moving #[a0, (.slice a1.a a1.len a1.cap), (.int .u8 x6)] .val fun r7 =>
 RangeVC Tryz.prog (.cons (.int .i64) (.cons (.int .i64) .nil)) r7 (fun x8 wrap9 next10 jump11 =>
 wrap9 <|
 st1 ⟨b0, 0, none⟩ (.int .i64 x8.1) <|
 st1 ⟨b1, 0, none⟩ (.int .i64 x8.2.1) <|
 jump11 .ret)
 (X3 ((IntKind.wrap .i64 (s4.1 + (1 : Int))), ()))
 (mkd h0.size <|
 ldT (.int .i64) ⟨b0, 0, none⟩ fun x12 =>
 ldT (.int .i64) ⟨b1, 0, none⟩ fun x13 =>
 K (x12, x13, ()))
 []
 [])
 (st1 ⟨b0, 0, none⟩ (.int .i64 (-1 : Int)) <|
 st1 ⟨b1, 0, none⟩ (.int .i64 0) <|
 mkd h0.size <|
 ldT (.int .i64) ⟨b0, 0, none⟩ fun x14 =>
 ldT (.int .i64) ⟨b1, 0, none⟩ fun x15 =>
 K (x14, x15, ())))
 ((0 : Int), ())) h0
theorem E_rup_values_next (a0 : Value) (a1 : Sl) (K : (Int × (Int × Unit)) → HP) (h : Heap) : fnVC Tryz.prog [(1000000, .bool), (20, (.cons (.int .i64) (.cons (.int .i64) .nil)))] 25 Tryz.f87 [a0, (.slice a1.a a1.len a1.cap)] (.tup (.cons (.int .i64) (.cons (.int .i64) .nil))) K h = F_rup_values_next a0 a1 K h := by kernel_rfl
theorem S_rup_values_next{h : Heap} {a0 : Value} {a1 : Sl} (K : (Int × (Int × Unit)) → HP) (hF : F_rup_values_next a0 a1 K h) : CallsH Tryz.prog fn_rup_values_next #[a0, (.slice a1.a a1.len a1.cap)] h fun v h' => ∃ x : (Int × (Int × Unit)), v = Ty.enc (.tup (.cons (.int .i64) (.cons (.int .i64) .nil))) x ∧ K x h' :=
  callsH_of_fn (P := Tryz.prog) (fn := Tryz.f87) (τ := (.tup (.cons (.int .i64) (.cons (.int .i64) .nil)))) follows Tryz.func87 (by kernel_rfl) (by kernel_rfl) Tryz.call87 (Eq.mpr (E_rup_values_next a0 a1 K h) hF)
def F_rup_values_put (a0 : Value) (a1 : Int) (K : Unit → HP) : HP :=
 callT Tryz.prog fn_lits_Var #[(.int .i64 a1)] (.int .i64) fun r0 =>
 mput .i64 a0 r0 (.int .i64 1) <|
 callT Tryz.prog fn_lits_Negated #[(.int .i64 a1)] .bool fun r1 =>
 jn (σ := Unit) (fun s3 =>
 K (()))
 (fun J2 =>
 brB r1
 (callT Tryz.prog fn_lits_Var #[(.int .i64 a1)] (.int .i64) fun r4 =>
 mput .i64 a0 r4 (.int .i64 (-1 : Int)) <|
 J2 (()))
 (J2 (())))
theorem E_rup_values_put (a0 : Value) (a1 : Int) (K : Unit → HP) (h : Heap) : fnVC Tryz.prog [(1000000, .bool)] 12 Tryz.f88 [a0, (.int .i64 a1)] (.tup .nil) K h = F_rup_values_put a0 a1 K h := by kernel_rfl
theorem S_rup_values_put{h : Heap} {a0 : Value} {a1 : Int} (K : Unit → HP) (hF : F_rup_values_put a0 a1 K h) : CallsH Tryz.prog fn_rup_values_put #[a0, (.int .i64 a1)] h fun v h' => ∃ x : Unit, v = Ty.enc (.tup .nil) x ∧ K x h' :=
  callsH_of_fn (P := Tryz.prog) (fn := Tryz.f88) (τ := (.tup .nil)) follows Tryz.func88 (by kernel_rfl) (by kernel_rfl) Tryz.call88 (Eq.mpr (E_rup_values_put a0 a1 K h) hF)
def F_rup_needed (a0 : Sl) (a1 : Sl) (K : Sl → HP) : HP :=
 mkm fun b0 =>
 lfp (σ := (Int × (Sl × Unit))) (fun X1 s2 =>
 brB (decide (s2.1 ≥ (0 : Int)))
 (jn (σ := (Sl × Unit)) (fun s4 =>
 X1 ((IntKind.wrap .i64 (s2.1 - (1 : Int))), ⟨s4.1.a, s4.1.len, s4.1.cap⟩, ()))
 (fun J3 =>
 jn (σ := Bool) (fun t6 =>
 brB t6
 (J3 (⟨s2.2.1.a, s2.2.1.len, s2.2.1.cap⟩, ()))
 (nw #[(.int .i64 s2.1)] ty_int fun b7 =>
 apd ty_int 1 8 #[(.int .i64 0)] ⟨s2.2.1.a, s2.2.1.len, s2.2.1.cap⟩ ⟨(some ⟨b7, 0, none⟩), 1, 1⟩ fun s8 =>
 sx a0.a a0.len s2.1 1 fun p9 =>
 ldT .sl p9 fun x10 =>
 lfp (σ := (Int × Unit)) (fun X11 s12 =>
 brB (decide (s12.1 < (x10.len : Int)))
 (sx x10.a x10.len s12.1 1 fun p13 =>
 ldT (.int .i64) p13 fun x14 =>
 callT Tryz.prog fn_lits_Neg #[(.int .i64 x14)] (.int .i64) fun r15 =>
 mput .i64 (.map (some b0)) r15 (.int .i64 1) <|
 X11 ((IntKind.wrap .i64 (s12.1 + (1 : Int))), ()))
 (J3 (⟨s8.a, s8.len, s8.cap⟩, ())))
 ((0 : Int), ())))
 (fun J5 =>
 brB (decide (s2.1 < (a1.len : Int)))
 (sx a1.a a1.len s2.1 1 fun p16 =>
 ldT (.int .i64) p16 fun x17 =>
 mget (.int .i64) .i64 (.int .i64 0) (.map (some b0)) x17 fun x18 =>
 J5 ((x18 == (0 : Int))))
 (J5 false))))
 (callT Tryz.prog fn_slices_Reverse_int_int #[(.slice s2.2.1.a s2.2.1.len s2.2.1.cap)] (.tup .nil) fun r19 =>
 K ⟨s2.2.1.a, s2.2.1.len, s2.2.1.cap⟩))
 ((IntKind.wrap .i64 ((a0.len : Int) - (1 : Int))), ⟨none, 0, 0⟩, ())
theorem E_rup_needed (a0 : Sl) (a1 : Sl) (K : Sl → HP) (h : Heap) : fnVC Tryz.prog [(1000000, .bool)] 51 Tryz.f89 [(.slice a0.a a0.len a0.cap), (.slice a1.a a1.len a1.cap)] .sl K h = F_rup_needed a0 a1 K h := by kernel_rfl
theorem S_rup_needed{h : Heap} {a0 : Sl} {a1 : Sl} (K : Sl → HP) (hF : F_rup_needed a0 a1 K h) : CallsH Tryz.prog fn_rup_needed #[(.slice a0.a a0.len a0.cap), (.slice a1.a a1.len a1.cap)] h fun v h' => ∃ x : Sl, v = Ty.enc .sl x ∧ K x h' :=
  callsH_of_fn (P := Tryz.prog) (fn := Tryz.f89) (τ := .sl) follows Tryz.func89 (by kernel_rfl) (by kernel_rfl) Tryz.call89 (Eq.mpr (E_rup_needed a0 a1 K h) hF)
def F_clauses_Norm (a0 : Sl) (K : (Sl × (Bool × (Int × Unit))) → HP) : HP :=
 callT Tryz.prog fn_clauses_Right #[(.slice a0.a a0.len a0.cap)] .bool fun r0 =>
 brB (!r0)
 (K (⟨none, 0, 0⟩, false, (20 : Int), ()))
 (callT Tryz.prog fn_clauses_normal #[(.slice a0.a a0.len a0.cap)] .sl fun r1 =>
 callT Tryz.prog fn_clauses_Always #[(.slice a0.a a0.len a0.cap)] .bool fun r2 =>
 K (⟨r1.a, r1.len, r1.cap⟩, r2, (0 : Int), ()))
theorem E_clauses_Norm (a0 : Sl) (K : (Sl × (Bool × (Int × Unit))) → HP) (h : Heap) : fnVC Tryz.prog [(1000000, .nil)] 12 Tryz.f90 [(.slice a0.a a0.len a0.cap)] (.tup (.cons .sl (.cons .bool (.cons (.int .i64) .nil)))) K h = F_clauses_Norm a0 K h := by kernel_rfl
theorem S_clauses_Norm{h : Heap} {a0 : Sl} (K : (Sl × (Bool × (Int × Unit))) → HP) (hF : F_clauses_Norm a0 K h) : CallsH Tryz.prog fn_clauses_Norm #[(.slice a0.a a0.len a0.cap)] h fun v h' => ∃ x : (Sl × (Bool × (Int × Unit))), v = Ty.enc (.tup (.cons .sl (.cons .bool (.cons (.int .i64) .nil)))) x ∧ K x h' :=
  callsH_of_fn (P := Tryz.prog) (fn := Tryz.f90) (τ := (.tup (.cons .sl (.cons .bool (.cons (.int .i64) .nil))))) follows Tryz.func90 (by kernel_rfl) (by kernel_rfl) Tryz.call90 (Eq.mpr (E_clauses_Norm a0 K h) hF)
def F_slices_SortFunc_lits_Lit_lits_Lit (a0 : Sl) (a1 : Value) (K : Unit → HP) : HP :=
 callT Tryz.prog fn_math_bits_Len #[(.int .u64 (IntKind.wrap .u64 (a0.len : Int)))] (.int .i64) fun r0 =>
 callT Tryz.prog fn_slices_pdqsortCmpFunc_lits_Lit #[(.slice a0.a a0.len a0.cap), (.int .i64 0), (.int .i64 (a0.len : Int)), (.int .i64 r0), a1] (.tup .nil) fun r1 =>
 K (())
theorem E_slices_SortFunc_lits_Lit_lits_Lit (a0 : Sl) (a1 : Value) (K : Unit → HP) (h : Heap) : fnVC Tryz.prog [(1000000, .nil)] 14 Tryz.f91 [(.slice a0.a a0.len a0.cap), a1] (.tup .nil) K h = F_slices_SortFunc_lits_Lit_lits_Lit a0 a1 K h := by kernel_rfl
theorem S_slices_SortFunc_lits_Lit_lits_Lit{h : Heap} {a0 : Sl} {a1 : Value} (K : Unit → HP) (hF : F_slices_SortFunc_lits_Lit_lits_Lit a0 a1 K h) : CallsH Tryz.prog fn_slices_SortFunc_lits_Lit_lits_Lit #[(.slice a0.a a0.len a0.cap), a1] h fun v h' => ∃ x : Unit, v = Ty.enc (.tup .nil) x ∧ K x h' :=
  callsH_of_fn (P := Tryz.prog) (fn := Tryz.f91) (τ := (.tup .nil)) follows Tryz.func91 (by kernel_rfl) (by kernel_rfl) Tryz.call91 (Eq.mpr (E_slices_SortFunc_lits_Lit_lits_Lit a0 a1 K h) hF)
def F_lits_Compare (a0 : Int) (a1 : Int) (K : Int → HP) : HP :=
 callT Tryz.prog fn_lits_Index #[(.int .i64 a0)] (.tup (.cons (.int .i64) (.cons (.int .i64) .nil))) fun r0 =>
 callT Tryz.prog fn_lits_Index #[(.int .i64 a1)] (.tup (.cons (.int .i64) (.cons (.int .i64) .nil))) fun r1 =>
 brB (r0.2.1 == (0 : Int))
 (brB (r1.2.1 == (0 : Int))
 (callT Tryz.prog fn_cmp_Compare_int #[(.int .i64 r0.1), (.int .i64 r1.1)] (.int .i64) fun r2 =>
 K r2)
 (brB (r0.2.1 == (0 : Int))
 (K (1 : Int))
 (brB (r1.2.1 == (0 : Int))
 (K (-1 : Int))
 (callT Tryz.prog fn_cmp_Compare_lits_Lit #[(.int .i64 a0), (.int .i64 a1)] (.int .i64) fun r3 =>
 K r3))))
 (brB (r0.2.1 == (0 : Int))
 (K (1 : Int))
 (brB (r1.2.1 == (0 : Int))
 (K (-1 : Int))
 (callT Tryz.prog fn_cmp_Compare_lits_Lit #[(.int .i64 a0), (.int .i64 a1)] (.int .i64) fun r4 =>
 K r4)))
theorem E_lits_Compare (a0 : Int) (a1 : Int) (K : Int → HP) (h : Heap) : fnVC Tryz.prog [(1000000, .nil)] 38 Tryz.f92 [(.int .i64 a0), (.int .i64 a1)] (.int .i64) K h = F_lits_Compare a0 a1 K h := by kernel_rfl
theorem S_lits_Compare{h : Heap} {a0 : Int} {a1 : Int} (K : Int → HP) (hF : F_lits_Compare a0 a1 K h) : CallsH Tryz.prog fn_lits_Compare #[(.int .i64 a0), (.int .i64 a1)] h fun v h' => ∃ x : Int, v = Ty.enc (.int .i64) x ∧ K x h' :=
  callsH_of_fn (P := Tryz.prog) (fn := Tryz.f92) (τ := (.int .i64)) follows Tryz.func92 (by kernel_rfl) (by kernel_rfl) Tryz.call92 (Eq.mpr (E_lits_Compare a0 a1 K h) hF)
def F_slices_Clip_lits_Lit_lits_Lit (a0 : Sl) (K : Sl → HP) : HP :=
 slM ⟨a0.a, a0.len, a0.cap⟩ 0 (a0.len : Int) (a0.len : Int) 1 fun s0 =>
 K ⟨s0.a, s0.len, s0.cap⟩
theorem E_slices_Clip_lits_Lit_lits_Lit (a0 : Sl) (K : Sl → HP) (h : Heap) : fnVC Tryz.prog [(1000000, .nil)] 9 Tryz.f93 [(.slice a0.a a0.len a0.cap)] .sl K h = F_slices_Clip_lits_Lit_lits_Lit a0 K h := by kernel_rfl
theorem S_slices_Clip_lits_Lit_lits_Lit{h : Heap} {a0 : Sl} (K : Sl → HP) (hF : F_slices_Clip_lits_Lit_lits_Lit a0 K h) : CallsH Tryz.prog fn_slices_Clip_lits_Lit_lits_Lit #[(.slice a0.a a0.len a0.cap)] h fun v h' => ∃ x : Sl, v = Ty.enc .sl x ∧ K x h' :=
  callsH_of_fn (P := Tryz.prog) (fn := Tryz.f93) (τ := .sl) follows Tryz.func93 (by kernel_rfl) (by kernel_rfl) Tryz.call93 (Eq.mpr (E_slices_Clip_lits_Lit_lits_Lit a0 K h) hF)
def F_rat_candidates_1 (a0 : Value) (c0 : Addr) (c1 : Addr) (K : Unit → HP) : HP :=
 ldT .sl c0 fun x0 =>
 lfp (σ := (Int × Unit)) (fun X1 s2 =>
 brB (decide (s2.1 < (x0.len : Int)))
 (sx x0.a x0.len s2.1 2 fun p3 =>
 ldA (.cons (.int .i64) (.cons .sl .nil)) p3 fun x4 =>
 nw #[(.int .i64 0), (.slice none 0 0)] ty_rat_Entry fun b5 =>
 st1 ⟨b5, 0, none⟩ (.int .i64 x4.1) <|
 st1 ((⟨b5, 0, none⟩ : Addr).add 1) (.slice x4.2.1.a x4.2.1.len x4.2.1.cap) <|
 ldT .sl ((⟨b5, 0, none⟩ : Addr).add 1) fun x6 =>
 ldT (.int .i64) c1 fun x7 =>
 callT Tryz.prog fn_lits_Neg #[(.int .i64 x7)] (.int .i64) fun r8 =>
 ck ((⟨b5, 0, none⟩ : Addr).add 1) (.slice x6.a x6.len x6.cap) <|
 callT Tryz.prog fn_slices_Contains_clauses_Clause_lits_Lit #[(.slice x6.a x6.len x6.cap), (.int .i64 r8)] .bool fun r9 =>
 brB r9
 (ldT .sl ((⟨b5, 0, none⟩ : Addr).add 1) fun x10 =>
 callT Tryz.prog fn_clauses_Always #[(.slice x10.a x10.len x10.cap)] .bool fun r11 =>
 brB (!r11)
 (callF Tryz.prog a0 #[(.int .i64 s2.1)] .bool fun r12 =>
 brB (!r12)
 (K (()))
 (X1 ((IntKind.wrap .i64 (s2.1 + (1 : Int))), ())))
 (X1 ((IntKind.wrap .i64 (s2.1 + (1 : Int))), ())))
 (X1 ((IntKind.wrap .i64 (s2.1 + (1 : Int))), ())))
 (K (())))
 ((0 : Int), ())
theorem E_rat_candidates_1 (a0 : Value) (c0 : Addr) (c1 : Addr) (K : Unit → HP) (h : Heap) : fnVC Tryz.prog [(1000000, .bool)] 31 Tryz.f94 [a0, (.pointer (some c0)), (.pointer (some c1))] (.tup .nil) K h = F_rat_candidates_1 a0 c0 c1 K h := by kernel_rfl
theorem S_rat_candidates_1{h : Heap} {a0 : Value} {c0 : Addr} {c1 : Addr} (K : Unit → HP) (hF : F_rat_candidates_1 a0 c0 c1 K h) : CallsH Tryz.prog fn_rat_candidates_1 #[a0, (.pointer (some c0)), (.pointer (some c1))] h fun v h' => ∃ x : Unit, v = Ty.enc (.tup .nil) x ∧ K x h' :=
  callsH_of_fn (P := Tryz.prog) (fn := Tryz.f94) (τ := (.tup .nil)) follows Tryz.func94 (by kernel_rfl) (by kernel_rfl) Tryz.call94 (Eq.mpr (E_rat_candidates_1 a0 c0 c1 K h) hF)
def F_slices_Contains_clauses_Clause_lits_Lit (a0 : Sl) (a1 : Int) (K : Bool → HP) : HP :=
 callT Tryz.prog fn_slices_Index_clauses_Clause_lits_Lit #[(.slice a0.a a0.len a0.cap), (.int .i64 a1)] (.int .i64) fun r0 =>
 K (decide (r0 ≥ (0 : Int)))
theorem E_slices_Contains_clauses_Clause_lits_Lit (a0 : Sl) (a1 : Int) (K : Bool → HP) (h : Heap) : fnVC Tryz.prog [(1000000, .nil)] 9 Tryz.f95 [(.slice a0.a a0.len a0.cap), (.int .i64 a1)] .bool K h = F_slices_Contains_clauses_Clause_lits_Lit a0 a1 K h := by kernel_rfl
theorem S_slices_Contains_clauses_Clause_lits_Lit{h : Heap} {a0 : Sl} {a1 : Int} (K : Bool → HP) (hF : F_slices_Contains_clauses_Clause_lits_Lit a0 a1 K h) : CallsH Tryz.prog fn_slices_Contains_clauses_Clause_lits_Lit #[(.slice a0.a a0.len a0.cap), (.int .i64 a1)] h fun v h' => ∃ x : Bool, v = Ty.enc .bool x ∧ K x h' :=
  callsH_of_fn (P := Tryz.prog) (fn := Tryz.f95) (τ := .bool) follows Tryz.func95 (by kernel_rfl) (by kernel_rfl) Tryz.call95 (Eq.mpr (E_slices_Contains_clauses_Clause_lits_Lit a0 a1 K h) hF)
def F_clauses_Always (a0 : Sl) (K : Bool → HP) : HP := fun h0 => (
 nw #[(.bool false)] ty_bool fun b0 =>
 callT Tryz.prog fn_clauses_Right #[(.slice a0.a a0.len a0.cap)] .bool fun r1 =>
 brB (!r1)
 (st1 ⟨b0, 0, none⟩ (.bool false) <|
 mkd h0.size <|
 ldT .bool ⟨b0, 0, none⟩ fun x2 =>
 K x2)
 (nw #[(.int .i64 0)] ty_lits_Lit fun b3 =>
 st1 ⟨b3, 0, none⟩ (.int .i64 0) <|
 callT Tryz.prog fn_clauses_sorted #[(.slice a0.a a0.len a0.cap)] .val fun r4 =>
 RangeVC Tryz.prog (.cons (.int .i64) .nil) r4 (fun x5 wrap6 next7 jump8 =>
 wrap6 <|
 ldT (.int .i64) ⟨b3, 0, none⟩ fun x9 =>
 brB (x9 != (0 : Int))
 (ldT (.int .i64) ⟨b3, 0, none⟩ fun x10 =>
 callT Tryz.prog fn_lits_Neg #[(.int .i64 x10)] (.int .i64) fun r11 =>
 brB (x5.1 == r11)
 (st1 ⟨b0, 0, none⟩ (.bool true) <|
 jump8 .ret)
 (st1 ⟨b3, 0, none⟩ (.int .i64 x5.1) <|
 next7))
 (st1 ⟨b3, 0, none⟩ (.int .i64 x5.1) <|
 next7))
 (st1 ⟨b0, 0, none⟩ (.bool false) <|
 mkd h0.size <|
 ldT .bool ⟨b0, 0, none⟩ fun x12 =>
 K x12)
 (mkd h0.size <|
 ldT .bool ⟨b0, 0, none⟩ fun x13 =>
 K x13)
 []
 [])) h0
theorem E_clauses_Always (a0 : Sl) (K : Bool → HP) (h : Heap) : fnVC Tryz.prog [(1000000, .nil), (10, (.cons (.int .i64) .nil))] 20 Tryz.f96 [(.slice a0.a a0.len a0.cap)] .bool K h = F_clauses_Always a0 K h := by kernel_rfl
theorem S_clauses_Always{h : Heap} {a0 : Sl} (K : Bool → HP) (hF : F_clauses_Always a0 K h) : CallsH Tryz.prog fn_clauses_Always #[(.slice a0.a a0.len a0.cap)] h fun v h' => ∃ x : Bool, v = Ty.enc .bool x ∧ K x h' :=
  callsH_of_fn (P := Tryz.prog) (fn := Tryz.f96) (τ := .bool) follows Tryz.func96 (by kernel_rfl) (by kernel_rfl) Tryz.call96 (Eq.mpr (E_clauses_Always a0 K h) hF)
def F_slices_Contains_lits_Lit_lits_Lit (a0 : Sl) (a1 : Int) (K : Bool → HP) : HP :=
 callT Tryz.prog fn_slices_Index_lits_Lit_lits_Lit #[(.slice a0.a a0.len a0.cap), (.int .i64 a1)] (.int .i64) fun r0 =>
 K (decide (r0 ≥ (0 : Int)))
theorem E_slices_Contains_lits_Lit_lits_Lit (a0 : Sl) (a1 : Int) (K : Bool → HP) (h : Heap) : fnVC Tryz.prog [(1000000, .nil)] 9 Tryz.f97 [(.slice a0.a a0.len a0.cap), (.int .i64 a1)] .bool K h = F_slices_Contains_lits_Lit_lits_Lit a0 a1 K h := by kernel_rfl
theorem S_slices_Contains_lits_Lit_lits_Lit{h : Heap} {a0 : Sl} {a1 : Int} (K : Bool → HP) (hF : F_slices_Contains_lits_Lit_lits_Lit a0 a1 K h) : CallsH Tryz.prog fn_slices_Contains_lits_Lit_lits_Lit #[(.slice a0.a a0.len a0.cap), (.int .i64 a1)] h fun v h' => ∃ x : Bool, v = Ty.enc .bool x ∧ K x h' :=
  callsH_of_fn (P := Tryz.prog) (fn := Tryz.f97) (τ := .bool) follows Tryz.func97 (by kernel_rfl) (by kernel_rfl) Tryz.call97 (Eq.mpr (E_slices_Contains_lits_Lit_lits_Lit a0 a1 K h) hF)
def F_slices_Grow_lits_Lit_lits_Lit (a0 : Sl) (a1 : Int) (K : Sl → HP) : HP :=
 jn (σ := Unit) (fun s1 =>
 jn (σ := (Sl × Unit)) (fun s3 =>
 K ⟨s3.1.a, s3.1.len, s3.1.cap⟩)
 (fun J2 =>
 brB (decide ((IntKind.wrap .i64 (a1 - (IntKind.wrap .i64 ((a0.cap : Int) - (a0.len : Int))))) > (0 : Int)))
 (slH ⟨a0.a, a0.len, a0.cap⟩ (a0.cap : Int) 1 fun s4 =>
 apz ty_lits_Lit 1 8 #[(.int .i64 0)] ⟨s4.a, s4.len, s4.cap⟩ (IntKind.wrap .i64 (a1 - (IntKind.wrap .i64 ((a0.cap : Int) - (a0.len : Int))))) fun s5 =>
 slH ⟨s5.a, s5.len, s5.cap⟩ (a0.len : Int) 1 fun s6 =>
 J2 (⟨s6.a, s6.len, s6.cap⟩, ()))
 (J2 (⟨a0.a, a0.len, a0.cap⟩, ()))))
 (fun J0 =>
 brB (decide (a1 < (0 : Int)))
 (fF /- not known -/)
 (J0 (())))
theorem E_slices_Grow_lits_Lit_lits_Lit (a0 : Sl) (a1 : Int) (K : Sl → HP) (h : Heap) : fnVC Tryz.prog [(1000000, .nil)] 27 Tryz.f98 [(.slice a0.a a0.len a0.cap), (.int .i64 a1)] .sl K h = F_slices_Grow_lits_Lit_lits_Lit a0 a1 K h := by kernel_rfl
theorem S_slices_Grow_lits_Lit_lits_Lit{h : Heap} {a0 : Sl} {a1 : Int} (K : Sl → HP) (hF : F_slices_Grow_lits_Lit_lits_Lit a0 a1 K h) : CallsH Tryz.prog fn_slices_Grow_lits_Lit_lits_Lit #[(.slice a0.a a0.len a0.cap), (.int .i64 a1)] h fun v h' => ∃ x : Sl, v = Ty.enc .sl x ∧ K x h' :=
  callsH_of_fn (P := Tryz.prog) (fn := Tryz.f98) (τ := .sl) follows Tryz.func98 (by kernel_rfl) (by kernel_rfl) Tryz.call98 (Eq.mpr (E_slices_Grow_lits_Lit_lits_Lit a0 a1 K h) hF)
def F_rat_groups_1 (a0 : (Int × (Sl × Unit))) (c0 : Addr) (K : Bool → HP) : HP :=
 nw #[(.int .i64 a0.1), (.slice a0.2.1.a a0.2.1.len a0.2.1.cap)] ty_rat_Group fun b0 =>
 ldT (.int .i64) ⟨b0, 0, none⟩ fun x1 =>
 ldT (.int .i64) c0 fun x2 =>
 K (x1 == x2)
theorem E_rat_groups_1 (a0 : (Int × (Sl × Unit))) (c0 : Addr) (K : Bool → HP) (h : Heap) : fnVC Tryz.prog [(1000000, .bool)] 8 Tryz.f99 [(.agg #[(.int .i64 a0.1), (.slice a0.2.1.a a0.2.1.len a0.2.1.cap)]), (.pointer (some c0))] .bool K h = F_rat_groups_1 a0 c0 K h := by kernel_rfl
theorem S_rat_groups_1{h : Heap} {a0 : (Int × (Sl × Unit))} {c0 : Addr} (K : Bool → HP) (hF : F_rat_groups_1 a0 c0 K h) : CallsH Tryz.prog fn_rat_groups_1 #[(.agg #[(.int .i64 a0.1), (.slice a0.2.1.a a0.2.1.len a0.2.1.cap)]), (.pointer (some c0))] h fun v h' => ∃ x : Bool, v = Ty.enc .bool x ∧ K x h' :=
  callsH_of_fn (P := Tryz.prog) (fn := Tryz.f99) (τ := .bool) follows Tryz.func99 (by kernel_rfl) (by kernel_rfl) Tryz.call99 (Eq.mpr (E_rat_groups_1 a0 c0 K h) hF)
def F_slices_BinarySearch_int_int (a0 : Sl) (a1 : Int) (K : (Int × (Bool × Unit)) → HP) : HP :=
 lfp (σ := (Int × (Int × Unit))) (fun X0 s1 =>
 brB (decide (s1.2.1 < s1.1))
 (ge0 (1 : Int) <|
 sx a0.a a0.len (IntKind.wrap .i64 (Int.fdiv (IntKind.wrap .u64 (IntKind.wrap .i64 (s1.2.1 + s1.1))) (2 ^ (min ((1 : Int)).toNat 64)))) 1 fun p2 =>
 ldT (.int .i64) p2 fun x3 =>
 callT Tryz.prog fn_cmp_Less_int #[(.int .i64 x3), (.int .i64 a1)] .bool fun r4 =>
 jn (σ := (Int × (Int × Unit))) (fun s6 =>
 X0 (s6.1, s6.2.1, ()))
 (fun J5 =>
 brB r4
 (J5 (s1.1, (IntKind.wrap .i64 ((IntKind.wrap .i64 (Int.fdiv (IntKind.wrap .u64 (IntKind.wrap .i64 (s1.2.1 + s1.1))) (2 ^ (min ((1 : Int)).toNat 64)))) + (1 : Int))), ()))
 (J5 ((IntKind.wrap .i64 (Int.fdiv (IntKind.wrap .u64 (IntKind.wrap .i64 (s1.2.1 + s1.1))) (2 ^ (min ((1 : Int)).toNat 64)))), s1.2.1, ()))))
 (brB (decide (s1.2.1 < (a0.len : Int)))
 (sx a0.a a0.len s1.2.1 1 fun p7 =>
 ldT (.int .i64) p7 fun x8 =>
 brB (x8 == a1)
 (K (s1.2.1, true, ()))
 (sx a0.a a0.len s1.2.1 1 fun p9 =>
 ldT (.int .i64) p9 fun x10 =>
 callT Tryz.prog fn_slices_isNaN_int #[(.int .i64 x10)] .bool fun r11 =>
 brB r11
 (callT Tryz.prog fn_slices_isNaN_int #[(.int .i64 a1)] .bool fun r12 =>
 K (s1.2.1, r12, ()))
 (K (s1.2.1, false, ()))))
 (K (s1.2.1, false, ()))))
 ((a0.len : Int), (0 : Int), ())
theorem E_slices_BinarySearch_int_int (a0 : Sl) (a1 : Int) (K : (Int × (Bool × Unit)) → HP) (h : Heap) : fnVC Tryz.prog [(1000000, .nil)] 54 Tryz.f100 [(.slice a0.a a0.len a0.cap), (.int .i64 a1)] (.tup (.cons (.int .i64) (.cons .bool .nil))) K h = F_slices_BinarySearch_int_int a0 a1 K h := by kernel_rfl
theorem S_slices_BinarySearch_int_int{h : Heap} {a0 : Sl} {a1 : Int} (K : (Int × (Bool × Unit)) → HP) (hF : F_slices_BinarySearch_int_int a0 a1 K h) : CallsH Tryz.prog fn_slices_BinarySearch_int_int #[(.slice a0.a a0.len a0.cap), (.int .i64 a1)] h fun v h' => ∃ x : (Int × (Bool × Unit)), v = Ty.enc (.tup (.cons (.int .i64) (.cons .bool .nil))) x ∧ K x h' :=
  callsH_of_fn (P := Tryz.prog) (fn := Tryz.f100) (τ := (.tup (.cons (.int .i64) (.cons .bool .nil)))) follows Tryz.func100 (by kernel_rfl) (by kernel_rfl) Tryz.call100 (Eq.mpr (E_slices_BinarySearch_int_int a0 a1 K h) hF)
def F_slices_BinarySearchFunc_rat_Entry_rat_Entry_int (a0 : Sl) (a1 : Int) (a2 : Value) (K : (Int × (Bool × Unit)) → HP) : HP :=
 lfp (σ := (Int × (Int × Unit))) (fun X0 s1 =>
 brB (decide (s1.2.1 < s1.1))
 (ge0 (1 : Int) <|
 sx a0.a a0.len (IntKind.wrap .i64 (Int.fdiv (IntKind.wrap .u64 (IntKind.wrap .i64 (s1.2.1 + s1.1))) (2 ^ (min ((1 : Int)).toNat 64)))) 2 fun p2 =>
 ldA (.cons (.int .i64) (.cons .sl .nil)) p2 fun x3 =>
 callF Tryz.prog a2 #[(.agg #[(.int .i64 x3.1), (.slice x3.2.1.a x3.2.1.len x3.2.1.cap)]), (.int .i64 a1)] (.int .i64) fun r4 =>
 jn (σ := (Int × (Int × Unit))) (fun s6 =>
 X0 (s6.1, s6.2.1, ()))
 (fun J5 =>
 brB (decide (r4 < (0 : Int)))
 (J5 (s1.1, (IntKind.wrap .i64 ((IntKind.wrap .i64 (Int.fdiv (IntKind.wrap .u64 (IntKind.wrap .i64 (s1.2.1 + s1.1))) (2 ^ (min ((1 : Int)).toNat 64)))) + (1 : Int))), ()))
 (J5 ((IntKind.wrap .i64 (Int.fdiv (IntKind.wrap .u64 (IntKind.wrap .i64 (s1.2.1 + s1.1))) (2 ^ (min ((1 : Int)).toNat 64)))), s1.2.1, ()))))
 (brB (decide (s1.2.1 < (a0.len : Int)))
 (sx a0.a a0.len s1.2.1 2 fun p7 =>
 ldA (.cons (.int .i64) (.cons .sl .nil)) p7 fun x8 =>
 callF Tryz.prog a2 #[(.agg #[(.int .i64 x8.1), (.slice x8.2.1.a x8.2.1.len x8.2.1.cap)]), (.int .i64 a1)] (.int .i64) fun r9 =>
 K (s1.2.1, (r9 == (0 : Int)), ()))
 (K (s1.2.1, false, ()))))
 ((a0.len : Int), (0 : Int), ())
theorem E_slices_BinarySearchFunc_rat_Entry_rat_Entry_int (a0 : Sl) (a1 : Int) (a2 : Value) (K : (Int × (Bool × Unit)) → HP) (h : Heap) : fnVC Tryz.prog [(1000000, .nil)] 49 Tryz.f101 [(.slice a0.a a0.len a0.cap), (.int .i64 a1), a2] (.tup (.cons (.int .i64) (.cons .bool .nil))) K h = F_slices_BinarySearchFunc_rat_Entry_rat_Entry_int a0 a1 a2 K h := by kernel_rfl
theorem S_slices_BinarySearchFunc_rat_Entry_rat_Entry_int{h : Heap} {a0 : Sl} {a1 : Int} {a2 : Value} (K : (Int × (Bool × Unit)) → HP) (hF : F_slices_BinarySearchFunc_rat_Entry_rat_Entry_int a0 a1 a2 K h) : CallsH Tryz.prog fn_slices_BinarySearchFunc_rat_Entry_rat_Entry_int #[(.slice a0.a a0.len a0.cap), (.int .i64 a1), a2] h fun v h' => ∃ x : (Int × (Bool × Unit)), v = Ty.enc (.tup (.cons (.int .i64) (.cons .bool .nil))) x ∧ K x h' :=
  callsH_of_fn (P := Tryz.prog) (fn := Tryz.f101) (τ := (.tup (.cons (.int .i64) (.cons .bool .nil)))) follows Tryz.func101 (by kernel_rfl) (by kernel_rfl) Tryz.call101 (Eq.mpr (E_slices_BinarySearchFunc_rat_Entry_rat_Entry_int a0 a1 a2 K h) hF)
def F_rat_find_1 (a0 : (Int × (Sl × Unit))) (a1 : Int) (K : Int → HP) : HP :=
 nw #[(.int .i64 a0.1), (.slice a0.2.1.a a0.2.1.len a0.2.1.cap)] ty_rat_Entry fun b0 =>
 ldT (.int .i64) ⟨b0, 0, none⟩ fun x1 =>
 brB (decide (x1 < a1))
 (K (-1 : Int))
 (ldT (.int .i64) ⟨b0, 0, none⟩ fun x2 =>
 brB (decide (x2 > a1))
 (K (1 : Int))
 (K (0 : Int)))
theorem E_rat_find_1 (a0 : (Int × (Sl × Unit))) (a1 : Int) (K : Int → HP) (h : Heap) : fnVC Tryz.prog [(1000000, .bool)] 15 Tryz.f102 [(.agg #[(.int .i64 a0.1), (.slice a0.2.1.a a0.2.1.len a0.2.1.cap)]), (.int .i64 a1)] (.int .i64) K h = F_rat_find_1 a0 a1 K h := by kernel_rfl
theorem S_rat_find_1{h : Heap} {a0 : (Int × (Sl × Unit))} {a1 : Int} (K : Int → HP) (hF : F_rat_find_1 a0 a1 K h) : CallsH Tryz.prog fn_rat_find_1 #[(.agg #[(.int .i64 a0.1), (.slice a0.2.1.a a0.2.1.len a0.2.1.cap)]), (.int .i64 a1)] h fun v h' => ∃ x : Int, v = Ty.enc (.int .i64) x ∧ K x h' :=
  callsH_of_fn (P := Tryz.prog) (fn := Tryz.f102) (τ := (.int .i64)) follows Tryz.func102 (by kernel_rfl) (by kernel_rfl) Tryz.call102 (Eq.mpr (E_rat_find_1 a0 a1 K h) hF)
def F_salvorref01_Right (a0 : Int) (K : Bool → HP) : HP :=
 brB (decide (a0 ≥ (1 : Int)))
 (brB (decide (a0 ≤ (1048576 : Int)))
 (K true)
 (brB (decide (a0 ≥ (-1048576 : Int)))
 (K (decide (a0 ≤ (-1 : Int))))
 (K false)))
 (brB (decide (a0 ≥ (-1048576 : Int)))
 (K (decide (a0 ≤ (-1 : Int))))
 (K false))
theorem E_salvorref01_Right (a0 : Int) (K : Bool → HP) (h : Heap) : fnVC Tryz.prog [(1000000, .nil)] 17 Tryz.f103 [(.int .i64 a0)] .bool K h = F_salvorref01_Right a0 K h := by kernel_rfl
theorem S_salvorref01_Right{h : Heap} {a0 : Int} (K : Bool → HP) (hF : F_salvorref01_Right a0 K h) : CallsH Tryz.prog fn_salvorref01_Right #[(.int .i64 a0)] h fun v h' => ∃ x : Bool, v = Ty.enc .bool x ∧ K x h' :=
  callsH_of_fn (P := Tryz.prog) (fn := Tryz.f103) (τ := .bool) follows Tryz.func103 (by kernel_rfl) (by kernel_rfl) Tryz.call103 (Eq.mpr (E_salvorref01_Right a0 K h) hF)
def F_salvorref08_Assume (a0 : Sl) (K : (Sl × (Bool × Unit)) → HP) : HP :=
 lfp (σ := (Int × (Sl × (Bool × (Sl × Unit))))) (fun X0 s1 =>
 lfp (σ := (Int × (Int × (Bool × (Sl × Unit))))) (fun X2 s3 =>
 brB (decide (s3.1 < (a0.len : Int)))
 (sx a0.a a0.len s3.1 1 fun p4 =>
 ldT (.int .i64) p4 fun x5 =>
 callT Tryz.prog fn_salvorref08_has #[(.slice a0.a a0.len a0.cap), (.int .i64 (IntKind.wrap .i64 (0 - x5)))] .bool fun r6 =>
 brB r6
 (K (⟨none, 0, 0⟩, true, ()))
 (sx a0.a a0.len s3.1 1 fun p7 =>
 ldT (.int .i64) p7 fun x8 =>
 callT Tryz.prog fn_salvorref01_Index #[(.int .i64 (IntKind.wrap .i64 (0 - x8)))] (.int .i64) fun r9 =>
 jn (σ := Bool) (fun t11 =>
 jn (σ := (Int × Unit)) (fun s13 =>
 X2 ((IntKind.wrap .i64 (s3.1 + (1 : Int))), s13.1, s3.2.2.1, ⟨s3.2.2.2.1.a, s3.2.2.2.1.len, s3.2.2.2.1.cap⟩, ()))
 (fun J12 =>
 brB t11
 (J12 (r9, ()))
 (J12 (s3.2.1, ()))))
 (fun J10 =>
 brB (decide (r9 > s1.1))
 (jn (σ := Bool) (fun t15 =>
 J10 (t15))
 (fun J14 =>
 brB (decide (s3.2.1 < (0 : Int)))
 (J14 true)
 (J14 ((decide (r9 < s3.2.1))))))
 (J10 false))))
 (brB (decide (s3.2.1 < (0 : Int)))
 (K (⟨s1.2.1.a, s1.2.1.len, s1.2.1.cap⟩, false, ()))
 (callT Tryz.prog fn_salvorref01_At #[(.int .i64 s3.2.1)] (.int .i64) fun r16 =>
 nw #[(.int .i64 r16)] ty_int fun b17 =>
 apd ty_int 1 8 #[(.int .i64 0)] ⟨s1.2.1.a, s1.2.1.len, s1.2.1.cap⟩ ⟨(some ⟨b17, 0, none⟩), 1, 1⟩ fun s18 =>
 X0 (s3.2.1, ⟨s18.a, s18.len, s18.cap⟩, s3.2.2.1, ⟨s3.2.2.2.1.a, s3.2.2.2.1.len, s3.2.2.2.1.cap⟩, ()))))
 ((0 : Int), (-1 : Int), s1.2.2.1, ⟨s1.2.2.2.1.a, s1.2.2.2.1.len, s1.2.2.2.1.cap⟩, ()))
 ((-1 : Int), ⟨none, 0, 0⟩, false, ⟨none, 0, 0⟩, ())
theorem E_salvorref08_Assume (a0 : Sl) (K : (Sl × (Bool × Unit)) → HP) (h : Heap) : fnVC Tryz.prog [(1000000, .bool)] 50 Tryz.f104 [(.slice a0.a a0.len a0.cap)] (.tup (.cons .sl (.cons .bool .nil))) K h = F_salvorref08_Assume a0 K h := by kernel_rfl
theorem S_salvorref08_Assume{h : Heap} {a0 : Sl} (K : (Sl × (Bool × Unit)) → HP) (hF : F_salvorref08_Assume a0 K h) : CallsH Tryz.prog fn_salvorref08_Assume #[(.slice a0.a a0.len a0.cap)] h fun v h' => ∃ x : (Sl × (Bool × Unit)), v = Ty.enc (.tup (.cons .sl (.cons .bool .nil))) x ∧ K x h' :=
  callsH_of_fn (P := Tryz.prog) (fn := Tryz.f104) (τ := (.tup (.cons .sl (.cons .bool .nil)))) follows Tryz.func104 (by kernel_rfl) (by kernel_rfl) Tryz.call104 (Eq.mpr (E_salvorref08_Assume a0 K h) hF)
def F_salvorref09_follow (a0 : Sl) (a1 : Sl) (a2 : Sl) (K : (Sl × (Bool × (Int × (Int × Unit)))) → HP) : HP :=
 nw #[] ty_int fun b0 =>
 apd ty_int 1 8 #[(.int .i64 0)] ⟨(some ⟨b0, 0, none⟩), 0, 0⟩ ⟨a1.a, a1.len, a1.cap⟩ fun s1 =>
 lfp (σ := (Int × (Sl × (Int × (Int × (Bool × (Sl × Unit))))))) (fun X2 s3 =>
 brB (decide (s3.1 < (a2.len : Int)))
 (sx a2.a a2.len s3.1 1 fun p4 =>
 ldT (.int .i64) p4 fun x5 =>
 callT Tryz.prog fn_salvorref09_find #[(.slice a0.a a0.len a0.cap), (.int .i64 x5)] (.int .i64) fun r6 =>
 brB (decide (r6 < (0 : Int)))
 (sx a2.a a2.len s3.1 1 fun p7 =>
 ldT (.int .i64) p7 fun x8 =>
 K (⟨none, 0, 0⟩, false, x8, (91 : Int), ()))
 (sx a0.a a0.len r6 2 fun p9 =>
 ldT .sl (p9.add 1) fun x10 =>
 callT Tryz.prog fn_salvorref08_Look #[(.slice x10.a x10.len x10.cap), (.slice s3.2.1.a s3.2.1.len s3.2.1.cap)] (.tup (.cons (.int .i64) (.cons (.int .i64) .nil))) fun r11 =>
 brB (r11.1 == (2 : Int))
 (K (⟨s3.2.1.a, s3.2.1.len, s3.2.1.cap⟩, true, (0 : Int), (0 : Int), ()))
 (brB (r11.1 != (3 : Int))
 (sx a2.a a2.len s3.1 1 fun p12 =>
 ldT (.int .i64) p12 fun x13 =>
 K (⟨none, 0, 0⟩, false, x13, (81 : Int), ()))
 (nw #[(.int .i64 r11.2.1)] ty_int fun b14 =>
 apd ty_int 1 8 #[(.int .i64 0)] ⟨s3.2.1.a, s3.2.1.len, s3.2.1.cap⟩ ⟨(some ⟨b14, 0, none⟩), 1, 1⟩ fun s15 =>
 X2 ((IntKind.wrap .i64 (s3.1 + (1 : Int))), ⟨s15.a, s15.len, s15.cap⟩, s3.2.2.1, s3.2.2.2.1, s3.2.2.2.2.1, ⟨s3.2.2.2.2.2.1.a, s3.2.2.2.2.2.1.len, s3.2.2.2.2.2.1.cap⟩, ())))))
 (K (⟨s3.2.1.a, s3.2.1.len, s3.2.1.cap⟩, false, (0 : Int), (0 : Int), ())))
 ((0 : Int), ⟨s1.a, s1.len, s1.cap⟩, (0 : Int), (0 : Int), false, ⟨none, 0, 0⟩, ())
theorem E_salvorref09_follow (a0 : Sl) (a1 : Sl) (a2 : Sl) (K : (Sl × (Bool × (Int × (Int × Unit)))) → HP) (h : Heap) : fnVC Tryz.prog [(1000000, .bool)] 60 Tryz.f105 [(.slice a0.a a0.len a0.cap), (.slice a1.a a1.len a1.cap), (.slice a2.a a2.len a2.cap)] (.tup (.cons .sl (.cons .bool (.cons (.int .i64) (.cons (.int .i64) .nil))))) K h = F_salvorref09_follow a0 a1 a2 K h := by kernel_rfl
theorem S_salvorref09_follow{h : Heap} {a0 : Sl} {a1 : Sl} {a2 : Sl} (K : (Sl × (Bool × (Int × (Int × Unit)))) → HP) (hF : F_salvorref09_follow a0 a1 a2 K h) : CallsH Tryz.prog fn_salvorref09_follow #[(.slice a0.a a0.len a0.cap), (.slice a1.a a1.len a1.cap), (.slice a2.a a2.len a2.cap)] h fun v h' => ∃ x : (Sl × (Bool × (Int × (Int × Unit)))), v = Ty.enc (.tup (.cons .sl (.cons .bool (.cons (.int .i64) (.cons (.int .i64) .nil))))) x ∧ K x h' :=
  callsH_of_fn (P := Tryz.prog) (fn := Tryz.f105) (τ := (.tup (.cons .sl (.cons .bool (.cons (.int .i64) (.cons (.int .i64) .nil)))))) follows Tryz.func105 (by kernel_rfl) (by kernel_rfl) Tryz.call105 (Eq.mpr (E_salvorref09_follow a0 a1 a2 K h) hF)
def F_salvorref09_has (a0 : Sl) (a1 : Int) (K : Bool → HP) : HP :=
 lfp (σ := (Int × (Bool × Unit))) (fun X0 s1 =>
 brB (decide (s1.1 < (a0.len : Int)))
 (sx a0.a a0.len s1.1 1 fun p2 =>
 ldT (.int .i64) p2 fun x3 =>
 brB (x3 == a1)
 (K true)
 (X0 ((IntKind.wrap .i64 (s1.1 + (1 : Int))), s1.2.1, ())))
 (K false))
 ((0 : Int), false, ())
theorem E_salvorref09_has (a0 : Sl) (a1 : Int) (K : Bool → HP) (h : Heap) : fnVC Tryz.prog [(1000000, .bool)] 18 Tryz.f106 [(.slice a0.a a0.len a0.cap), (.int .i64 a1)] .bool K h = F_salvorref09_has a0 a1 K h := by kernel_rfl
theorem S_salvorref09_has{h : Heap} {a0 : Sl} {a1 : Int} (K : Bool → HP) (hF : F_salvorref09_has a0 a1 K h) : CallsH Tryz.prog fn_salvorref09_has #[(.slice a0.a a0.len a0.cap), (.int .i64 a1)] h fun v h' => ∃ x : Bool, v = Ty.enc .bool x ∧ K x h' :=
  callsH_of_fn (P := Tryz.prog) (fn := Tryz.f106) (τ := .bool) follows Tryz.func106 (by kernel_rfl) (by kernel_rfl) Tryz.call106 (Eq.mpr (E_salvorref09_has a0 a1 K h) hF)
def F_salvorref09_open (a0 : Sl) (a1 : Int) (a2 : Sl) (K : (Sl × (Bool × Unit)) → HP) : HP :=
 nw #[] ty_int fun b0 =>
 apd ty_int 1 8 #[(.int .i64 0)] ⟨(some ⟨b0, 0, none⟩), 0, 0⟩ ⟨a2.a, a2.len, a2.cap⟩ fun s1 =>
 lfp (σ := (Int × (Sl × (Bool × (Sl × Unit))))) (fun X2 s3 =>
 brB (decide (s3.1 < (a0.len : Int)))
 (jn (σ := (Sl × (Bool × (Sl × Unit)))) (fun s5 =>
 X2 ((IntKind.wrap .i64 (s3.1 + (1 : Int))), ⟨s5.1.a, s5.1.len, s5.1.cap⟩, s5.2.1, ⟨s5.2.2.1.a, s5.2.2.1.len, s5.2.2.1.cap⟩, ()))
 (fun J4 =>
 sx a0.a a0.len s3.1 1 fun p6 =>
 ldT (.int .i64) p6 fun x7 =>
 brB (x7 == (IntKind.wrap .i64 (0 - a1)))
 (J4 (⟨s3.2.1.a, s3.2.1.len, s3.2.1.cap⟩, s3.2.2.1, ⟨s3.2.2.2.1.a, s3.2.2.2.1.len, s3.2.2.2.1.cap⟩, ()))
 (sx a0.a a0.len s3.1 1 fun p8 =>
 ldT (.int .i64) p8 fun x9 =>
 callT Tryz.prog fn_salvorref09_has #[(.slice a2.a a2.len a2.cap), (.int .i64 x9)] .bool fun r10 =>
 brB r10
 (K (⟨none, 0, 0⟩, false, ()))
 (sx a0.a a0.len s3.1 1 fun p11 =>
 ldT (.int .i64) p11 fun x12 =>
 nw #[(.int .i64 (IntKind.wrap .i64 (0 - x12)))] ty_int fun b13 =>
 apd ty_int 1 8 #[(.int .i64 0)] ⟨s3.2.1.a, s3.2.1.len, s3.2.1.cap⟩ ⟨(some ⟨b13, 0, none⟩), 1, 1⟩ fun s14 =>
 J4 (⟨s14.a, s14.len, s14.cap⟩, s3.2.2.1, ⟨s3.2.2.2.1.a, s3.2.2.2.1.len, s3.2.2.2.1.cap⟩, ())))))
 (K (⟨s3.2.1.a, s3.2.1.len, s3.2.1.cap⟩, true, ())))
 ((0 : Int), ⟨s1.a, s1.len, s1.cap⟩, false, ⟨none, 0, 0⟩, ())
theorem E_salvorref09_open (a0 : Sl) (a1 : Int) (a2 : Sl) (K : (Sl × (Bool × Unit)) → HP) (h : Heap) : fnVC Tryz.prog [(1000000, .bool)] 41 Tryz.f107 [(.slice a0.a a0.len a0.cap), (.int .i64 a1), (.slice a2.a a2.len a2.cap)] (.tup (.cons .sl (.cons .bool .nil))) K h = F_salvorref09_open a0 a1 a2 K h := by kernel_rfl
theorem S_salvorref09_open{h : Heap} {a0 : Sl} {a1 : Int} {a2 : Sl} (K : (Sl × (Bool × Unit)) → HP) (hF : F_salvorref09_open a0 a1 a2 K h) : CallsH Tryz.prog fn_salvorref09_open #[(.slice a0.a a0.len a0.cap), (.int .i64 a1), (.slice a2.a a2.len a2.cap)] h fun v h' => ∃ x : (Sl × (Bool × Unit)), v = Ty.enc (.tup (.cons .sl (.cons .bool .nil))) x ∧ K x h' :=
  callsH_of_fn (P := Tryz.prog) (fn := Tryz.f107) (τ := (.tup (.cons .sl (.cons .bool .nil)))) follows Tryz.func107 (by kernel_rfl) (by kernel_rfl) Tryz.call107 (Eq.mpr (E_salvorref09_open a0 a1 a2 K h) hF)
def F_salvorref09_find (a0 : Sl) (a1 : Int) (K : Int → HP) : HP :=
 lfp (σ := (Int × (Int × Unit))) (fun X0 s1 =>
 brB (decide (s1.1 < (a0.len : Int)))
 (sx a0.a a0.len s1.1 2 fun p2 =>
 ldT (.int .i64) p2 fun x3 =>
 brB (x3 == a1)
 (K s1.1)
 (X0 ((IntKind.wrap .i64 (s1.1 + (1 : Int))), s1.2.1, ())))
 (K (-1 : Int)))
 ((0 : Int), (0 : Int), ())
theorem E_salvorref09_find (a0 : Sl) (a1 : Int) (K : Int → HP) (h : Heap) : fnVC Tryz.prog [(1000000, .bool)] 20 Tryz.f108 [(.slice a0.a a0.len a0.cap), (.int .i64 a1)] (.int .i64) K h = F_salvorref09_find a0 a1 K h := by kernel_rfl
theorem S_salvorref09_find{h : Heap} {a0 : Sl} {a1 : Int} (K : Int → HP) (hF : F_salvorref09_find a0 a1 K h) : CallsH Tryz.prog fn_salvorref09_find #[(.slice a0.a a0.len a0.cap), (.int .i64 a1)] h fun v h' => ∃ x : Int, v = Ty.enc (.int .i64) x ∧ K x h' :=
  callsH_of_fn (P := Tryz.prog) (fn := Tryz.f108) (τ := (.int .i64)) follows Tryz.func108 (by kernel_rfl) (by kernel_rfl) Tryz.call108 (Eq.mpr (E_salvorref09_find a0 a1 K h) hF)
def F_slices_EqualFunc_salvorref09_Entry_salvorref09_Entry_salvorref09_Entry_salvorref09_Entry (a0 : Sl) (a1 : Sl) (a2 : Value) (K : Bool → HP) : HP :=
 brB ((a0.len : Int) != (a1.len : Int))
 (K false)
 (lfp (σ := (Int × (Bool × Unit))) (fun X0 s1 =>
 brB (decide (s1.1 < (a0.len : Int)))
 (sx a0.a a0.len s1.1 2 fun p2 =>
 ldA (.cons (.int .i64) (.cons .sl .nil)) p2 fun x3 =>
 nw #[(.int .i64 0), (.slice none 0 0)] ty_salvorref09_Entry fun b4 =>
 st1 ⟨b4, 0, none⟩ (.int .i64 x3.1) <|
 st1 ((⟨b4, 0, none⟩ : Addr).add 1) (.slice x3.2.1.a x3.2.1.len x3.2.1.cap) <|
 sx a1.a a1.len s1.1 2 fun p5 =>
 ldA (.cons (.int .i64) (.cons .sl .nil)) p5 fun x6 =>
 nw #[(.int .i64 0), (.slice none 0 0)] ty_salvorref09_Entry fun b7 =>
 st1 ⟨b7, 0, none⟩ (.int .i64 x6.1) <|
 st1 ((⟨b7, 0, none⟩ : Addr).add 1) (.slice x6.2.1.a x6.2.1.len x6.2.1.cap) <|
 ldA (.cons (.int .i64) (.cons .sl .nil)) ⟨b4, 0, none⟩ fun x8 =>
 ldA (.cons (.int .i64) (.cons .sl .nil)) ⟨b7, 0, none⟩ fun x9 =>
 callF Tryz.prog a2 #[(.agg #[(.int .i64 x8.1), (.slice x8.2.1.a x8.2.1.len x8.2.1.cap)]), (.agg #[(.int .i64 x9.1), (.slice x9.2.1.a x9.2.1.len x9.2.1.cap)])] .bool fun r10 =>
 brB (!r10)
 (K false)
 (X0 ((IntKind.wrap .i64 (s1.1 + (1 : Int))), s1.2.1, ())))
 (K true))
 ((0 : Int), false, ()))
theorem E_slices_EqualFunc_salvorref09_Entry_salvorref09_Entry_salvorref09_Entry_salvorref09_Entry (a0 : Sl) (a1 : Sl) (a2 : Value) (K : Bool → HP) (h : Heap) : fnVC Tryz.prog [(1000000, .nil)] 32 Tryz.f109 [(.slice a0.a a0.len a0.cap), (.slice a1.a a1.len a1.cap), a2] .bool K h = F_slices_EqualFunc_salvorref09_Entry_salvorref09_Entry_salvorref09_Entry_salvorref09_Entry a0 a1 a2 K h := by kernel_rfl
theorem S_slices_EqualFunc_salvorref09_Entry_salvorref09_Entry_salvorref09_Entry_salvorref09_Entry{h : Heap} {a0 : Sl} {a1 : Sl} {a2 : Value} (K : Bool → HP) (hF : F_slices_EqualFunc_salvorref09_Entry_salvorref09_Entry_salvorref09_Entry_salvorref09_Entry a0 a1 a2 K h) : CallsH Tryz.prog fn_slices_EqualFunc_salvorref09_Entry_salvorref09_Entry_salvorref09_Entry_salvorref09_Entry #[(.slice a0.a a0.len a0.cap), (.slice a1.a a1.len a1.cap), a2] h fun v h' => ∃ x : Bool, v = Ty.enc .bool x ∧ K x h' :=
  callsH_of_fn (P := Tryz.prog) (fn := Tryz.f109) (τ := .bool) follows Tryz.func109 (by kernel_rfl) (by kernel_rfl) Tryz.call109 (Eq.mpr (E_slices_EqualFunc_salvorref09_Entry_salvorref09_Entry_salvorref09_Entry_salvorref09_Entry a0 a1 a2 K h) hF)
def F_salvorlaw09_sameEntries_1 (a0 : (Int × (Sl × Unit))) (a1 : (Int × (Sl × Unit))) (K : Bool → HP) : HP :=
 nw #[(.int .i64 a0.1), (.slice a0.2.1.a a0.2.1.len a0.2.1.cap)] ty_salvorref09_Entry fun b0 =>
 nw #[(.int .i64 a1.1), (.slice a1.2.1.a a1.2.1.len a1.2.1.cap)] ty_salvorref09_Entry fun b1 =>
 ldT (.int .i64) ⟨b0, 0, none⟩ fun x2 =>
 ldT (.int .i64) ⟨b1, 0, none⟩ fun x3 =>
 jn (σ := Bool) (fun t5 =>
 K t5)
 (fun J4 =>
 brB (x2 == x3)
 (ldT .sl ((⟨b0, 0, none⟩ : Addr).add 1) fun x6 =>
 ldT .sl ((⟨b1, 0, none⟩ : Addr).add 1) fun x7 =>
 callT Tryz.prog fn_slices_Equal_int_int #[(.slice x6.a x6.len x6.cap), (.slice x7.a x7.len x7.cap)] .bool fun r8 =>
 J4 (r8))
 (J4 false))
theorem E_salvorlaw09_sameEntries_1 (a0 : (Int × (Sl × Unit))) (a1 : (Int × (Sl × Unit))) (K : Bool → HP) (h : Heap) : fnVC Tryz.prog [(1000000, .bool)] 17 Tryz.f110 [(.agg #[(.int .i64 a0.1), (.slice a0.2.1.a a0.2.1.len a0.2.1.cap)]), (.agg #[(.int .i64 a1.1), (.slice a1.2.1.a a1.2.1.len a1.2.1.cap)])] .bool K h = F_salvorlaw09_sameEntries_1 a0 a1 K h := by kernel_rfl
theorem S_salvorlaw09_sameEntries_1{h : Heap} {a0 : (Int × (Sl × Unit))} {a1 : (Int × (Sl × Unit))} (K : Bool → HP) (hF : F_salvorlaw09_sameEntries_1 a0 a1 K h) : CallsH Tryz.prog fn_salvorlaw09_sameEntries_1 #[(.agg #[(.int .i64 a0.1), (.slice a0.2.1.a a0.2.1.len a0.2.1.cap)]), (.agg #[(.int .i64 a1.1), (.slice a1.2.1.a a1.2.1.len a1.2.1.cap)])] h fun v h' => ∃ x : Bool, v = Ty.enc .bool x ∧ K x h' :=
  callsH_of_fn (P := Tryz.prog) (fn := Tryz.f110) (τ := .bool) follows Tryz.func110 (by kernel_rfl) (by kernel_rfl) Tryz.call110 (Eq.mpr (E_salvorlaw09_sameEntries_1 a0 a1 K h) hF)
def F_slices_EqualFunc_salvorref09_Group_salvorref09_Group_salvorref09_Group_salvorref09_Group (a0 : Sl) (a1 : Sl) (a2 : Value) (K : Bool → HP) : HP :=
 brB ((a0.len : Int) != (a1.len : Int))
 (K false)
 (lfp (σ := (Int × (Bool × Unit))) (fun X0 s1 =>
 brB (decide (s1.1 < (a0.len : Int)))
 (sx a0.a a0.len s1.1 2 fun p2 =>
 ldA (.cons (.int .i64) (.cons .sl .nil)) p2 fun x3 =>
 nw #[(.int .i64 0), (.slice none 0 0)] ty_salvorref09_Group fun b4 =>
 st1 ⟨b4, 0, none⟩ (.int .i64 x3.1) <|
 st1 ((⟨b4, 0, none⟩ : Addr).add 1) (.slice x3.2.1.a x3.2.1.len x3.2.1.cap) <|
 sx a1.a a1.len s1.1 2 fun p5 =>
 ldA (.cons (.int .i64) (.cons .sl .nil)) p5 fun x6 =>
 nw #[(.int .i64 0), (.slice none 0 0)] ty_salvorref09_Group fun b7 =>
 st1 ⟨b7, 0, none⟩ (.int .i64 x6.1) <|
 st1 ((⟨b7, 0, none⟩ : Addr).add 1) (.slice x6.2.1.a x6.2.1.len x6.2.1.cap) <|
 ldA (.cons (.int .i64) (.cons .sl .nil)) ⟨b4, 0, none⟩ fun x8 =>
 ldA (.cons (.int .i64) (.cons .sl .nil)) ⟨b7, 0, none⟩ fun x9 =>
 callF Tryz.prog a2 #[(.agg #[(.int .i64 x8.1), (.slice x8.2.1.a x8.2.1.len x8.2.1.cap)]), (.agg #[(.int .i64 x9.1), (.slice x9.2.1.a x9.2.1.len x9.2.1.cap)])] .bool fun r10 =>
 brB (!r10)
 (K false)
 (X0 ((IntKind.wrap .i64 (s1.1 + (1 : Int))), s1.2.1, ())))
 (K true))
 ((0 : Int), false, ()))
theorem E_slices_EqualFunc_salvorref09_Group_salvorref09_Group_salvorref09_Group_salvorref09_Group (a0 : Sl) (a1 : Sl) (a2 : Value) (K : Bool → HP) (h : Heap) : fnVC Tryz.prog [(1000000, .nil)] 32 Tryz.f111 [(.slice a0.a a0.len a0.cap), (.slice a1.a a1.len a1.cap), a2] .bool K h = F_slices_EqualFunc_salvorref09_Group_salvorref09_Group_salvorref09_Group_salvorref09_Group a0 a1 a2 K h := by kernel_rfl
theorem S_slices_EqualFunc_salvorref09_Group_salvorref09_Group_salvorref09_Group_salvorref09_Group{h : Heap} {a0 : Sl} {a1 : Sl} {a2 : Value} (K : Bool → HP) (hF : F_slices_EqualFunc_salvorref09_Group_salvorref09_Group_salvorref09_Group_salvorref09_Group a0 a1 a2 K h) : CallsH Tryz.prog fn_slices_EqualFunc_salvorref09_Group_salvorref09_Group_salvorref09_Group_salvorref09_Group #[(.slice a0.a a0.len a0.cap), (.slice a1.a a1.len a1.cap), a2] h fun v h' => ∃ x : Bool, v = Ty.enc .bool x ∧ K x h' :=
  callsH_of_fn (P := Tryz.prog) (fn := Tryz.f111) (τ := .bool) follows Tryz.func111 (by kernel_rfl) (by kernel_rfl) Tryz.call111 (Eq.mpr (E_slices_EqualFunc_salvorref09_Group_salvorref09_Group_salvorref09_Group_salvorref09_Group a0 a1 a2 K h) hF)
def F_salvorlaw09_sameStep_1 (a0 : (Int × (Sl × Unit))) (a1 : (Int × (Sl × Unit))) (K : Bool → HP) : HP :=
 nw #[(.int .i64 a0.1), (.slice a0.2.1.a a0.2.1.len a0.2.1.cap)] ty_salvorref09_Group fun b0 =>
 nw #[(.int .i64 a1.1), (.slice a1.2.1.a a1.2.1.len a1.2.1.cap)] ty_salvorref09_Group fun b1 =>
 ldT (.int .i64) ⟨b0, 0, none⟩ fun x2 =>
 ldT (.int .i64) ⟨b1, 0, none⟩ fun x3 =>
 jn (σ := Bool) (fun t5 =>
 K t5)
 (fun J4 =>
 brB (x2 == x3)
 (ldT .sl ((⟨b0, 0, none⟩ : Addr).add 1) fun x6 =>
 ldT .sl ((⟨b1, 0, none⟩ : Addr).add 1) fun x7 =>
 callT Tryz.prog fn_slices_Equal_int_int #[(.slice x6.a x6.len x6.cap), (.slice x7.a x7.len x7.cap)] .bool fun r8 =>
 J4 (r8))
 (J4 false))
theorem E_salvorlaw09_sameStep_1 (a0 : (Int × (Sl × Unit))) (a1 : (Int × (Sl × Unit))) (K : Bool → HP) (h : Heap) : fnVC Tryz.prog [(1000000, .bool)] 17 Tryz.f112 [(.agg #[(.int .i64 a0.1), (.slice a0.2.1.a a0.2.1.len a0.2.1.cap)]), (.agg #[(.int .i64 a1.1), (.slice a1.2.1.a a1.2.1.len a1.2.1.cap)])] .bool K h = F_salvorlaw09_sameStep_1 a0 a1 K h := by kernel_rfl
theorem S_salvorlaw09_sameStep_1{h : Heap} {a0 : (Int × (Sl × Unit))} {a1 : (Int × (Sl × Unit))} (K : Bool → HP) (hF : F_salvorlaw09_sameStep_1 a0 a1 K h) : CallsH Tryz.prog fn_salvorlaw09_sameStep_1 #[(.agg #[(.int .i64 a0.1), (.slice a0.2.1.a a0.2.1.len a0.2.1.cap)]), (.agg #[(.int .i64 a1.1), (.slice a1.2.1.a a1.2.1.len a1.2.1.cap)])] h fun v h' => ∃ x : Bool, v = Ty.enc .bool x ∧ K x h' :=
  callsH_of_fn (P := Tryz.prog) (fn := Tryz.f112) (τ := .bool) follows Tryz.func112 (by kernel_rfl) (by kernel_rfl) Tryz.call112 (Eq.mpr (E_salvorlaw09_sameStep_1 a0 a1 K h) hF)
end Go.Proofs.S
