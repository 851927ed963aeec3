/- The functions of the seat, each as a predicate over its values, printed by a program of ours, and that each is its text's. -/
import Derived.Test.YtjkgncibelojnaaSx10
import Derived.KernelRfl
import Derived.Test.YtjkgncibelojnaaProg
import Derived.Test.YtjkgncibelojnaaClF0
set_option linter.unusedVariables false
namespace Go.Proofs.S
open Go Go.Sx Go.Proofs
def F_salvorlaw09_RatTexts (a0 : Sl) (a1 : Int) (a2 : Int) (K : Bool → HP) : HP :=
 callT Try.prog fn_salvorlaw09_awake #[] .bool fun r0 =>
 brB (!r0)
 (K false)
 (slH ⟨a0.a, a0.len, a0.cap⟩ (if (40 : Int) < (a0.len : Int) then (40 : Int) else (a0.len : Int)) 1 fun s1 =>
 lfp (σ := (Int × (Sl × Unit))) (fun X2 s3 => /-  text -/
 brB (decide (s3.1 < (s1.len : Int)))
 (sx s1.a s1.len s3.1 1 fun p4 =>
 ldT (.int .i8) p4 fun x5 =>
 jn (σ := (Sl × Unit)) (fun s7 => /- text -/
 X2 ((IntKind.wrap .i64 (s3.1 + (1 : Int))), ⟨s7.1.a, s7.1.len, s7.1.cap⟩, ()))
 (fun J6 =>
 brB (x5 != (0 : Int))
 (nw #[(.int .i64 (IntKind.wrap .i64 x5))] ty_int fun b8 =>
 apd ty_int 1 8 #[(.int .i64 (0 : Int))] ⟨s3.2.1.a, s3.2.1.len, s3.2.1.cap⟩ ⟨(some (⟨b8, 0, none⟩ : Addr)), 1, 1⟩ fun s9 =>
 J6 (⟨s9.a, s9.len, s9.cap⟩, ()))
 (J6 (⟨s3.2.1.a, s3.2.1.len, s3.2.1.cap⟩, ()))))
 (callT Try.prog fn_rat_Split #[(.slice s3.2.1.a s3.2.1.len s3.2.1.cap)] (.tup (.cons .sl (.cons .sl (.cons (.int .i64) .nil)))) fun r10 =>
 callT Try.prog fn_rat_Join #[(.slice r10.1.a r10.1.len r10.1.cap), (.slice r10.2.1.a r10.2.1.len r10.2.1.cap)] (.tup (.cons .sl (.cons (.int .i64) .nil))) fun r11 =>
 jn (σ := Bool) (fun t13 =>
 brB t13
 (K false)
 (callT Try.prog fn_rat_Split #[(.slice r11.1.a r11.1.len r11.1.cap)] (.tup (.cons .sl (.cons .sl (.cons (.int .i64) .nil)))) fun r14 =>
 jn (σ := Bool) (fun t16 =>
 jn (σ := Bool) (fun t18 =>
 brB t18
 (K false)
 (jn (σ := (Int × Unit)) (fun s20 => /- n -/
 jn (σ := (Int × Unit)) (fun s22 => /- n -/
 nz (IntKind.wrap .i64 ((s3.2.1.len : Int) + (1 : Int))) <|
 cj
 (callT Try.prog fn_slices_Clone_int_int #[(.slice s3.2.1.a s3.2.1.len s3.2.1.cap)] .sl fun r23 =>
 nw #[(.int .i64 s22.1)] ty_int fun b24 =>
 callT Try.prog fn_slices_Insert_int_int #[(.slice r23.a r23.len r23.cap), (.int .i64 (Int.tmod (IntKind.wrap .i64 a2) (IntKind.wrap .i64 ((s3.2.1.len : Int) + (1 : Int))))), (.slice (some (⟨b24, 0, none⟩ : Addr)) 1 1)] .sl fun r25 =>
 callT Try.prog fn_rat_Split #[(.slice r25.a r25.len r25.cap)] (.tup (.cons .sl (.cons .sl (.cons (.int .i64) .nil)))) fun r26 =>
 callT Try.prog fn_slices_Clone_int_int #[(.slice r10.1.a r10.1.len r10.1.cap)] .sl fun r27 =>
 nw #[(.int .i64 s22.1)] ty_int fun b28 =>
 apd ty_int 1 8 #[(.int .i64 (0 : Int))] ⟨r27.a, r27.len, r27.cap⟩ ⟨(some (⟨b28, 0, none⟩ : Addr)), 1, 1⟩ fun s29 =>
 callT Try.prog fn_rat_Join #[(.slice s29.a s29.len s29.cap), (.slice r10.2.1.a r10.2.1.len r10.2.1.cap)] (.tup (.cons .sl (.cons (.int .i64) .nil))) fun r30 =>
 callT Try.prog fn_slices_Clone_rat_Group_rat_Group #[(.slice r10.2.1.a r10.2.1.len r10.2.1.cap)] .sl fun r31 =>
 nw #[(.int .i64 s22.1), (.slice none 0 0)] ty_rat_Group fun b32 =>
 apd ty_rat_Group 2 32 #[(.int .i64 (0 : Int)), (.slice none 0 0)] ⟨r31.a, r31.len, r31.cap⟩ ⟨(some (⟨b32, 0, none⟩ : Addr)), 1, 1⟩ fun s33 =>
 callT Try.prog fn_rat_Join #[(.slice r10.1.a r10.1.len r10.1.cap), (.slice s33.a s33.len s33.cap)] (.tup (.cons .sl (.cons (.int .i64) .nil))) fun r34 =>
 jn (σ := Bool) (fun t36 =>
 jn (σ := Bool) (fun t38 =>
 jn (σ := Bool) (fun t40 =>
 K t40)
 (fun J39 =>
 brB t38
 (J39 ((r34.2.1 == (91 : Int))))
 (J39 false)))
 (fun J37 =>
 brB t36
 (J37 ((r30.2.1 == (91 : Int))))
 (J37 false)))
 (fun J35 =>
 brB ((IntKind.wrap .i64 ((IntKind.wrap .i64 ((IntKind.wrap .i64 ((r26.1.len : Int) + (r26.2.1.len : Int))) + (r30.1.len : Int))) + (r34.1.len : Int))) == (0 : Int))
 (J35 ((r26.2.2.1 == (91 : Int))))
 (J35 false)))
 (nw #[(.int .i64 s22.1)] ty_int fun b41 =>
 callT Try.prog fn_slices_Clone_int_int #[(.slice s3.2.1.a s3.2.1.len s3.2.1.cap)] .sl fun r42 =>
 callT Try.prog fn_slices_Insert_int_int #[(.slice r42.a r42.len r42.cap), (.int .i64 (Int.tmod (IntKind.wrap .i64 a2) (IntKind.wrap .i64 ((s3.2.1.len : Int) + (1 : Int))))), (.slice (some (⟨b41, 0, none⟩ : Addr)) 1 1)] .sl fun r43 =>
 callT Try.prog fn_rat_Split #[(.slice r43.a r43.len r43.cap)] (.tup (.cons .sl (.cons .sl (.cons (.int .i64) .nil)))) fun r44 =>
 callT Try.prog fn_slices_Clone_int_int #[(.slice r10.1.a r10.1.len r10.1.cap)] .sl fun r45 =>
 nw #[(.int .i64 s22.1)] ty_int fun b46 =>
 apd ty_int 1 8 #[(.int .i64 (0 : Int))] ⟨r45.a, r45.len, r45.cap⟩ ⟨(some (⟨b46, 0, none⟩ : Addr)), 1, 1⟩ fun s47 =>
 callT Try.prog fn_rat_Join #[(.slice s47.a s47.len s47.cap), (.slice r10.2.1.a r10.2.1.len r10.2.1.cap)] (.tup (.cons .sl (.cons (.int .i64) .nil))) fun r48 =>
 callT Try.prog fn_slices_Clone_rat_Group_rat_Group #[(.slice r10.2.1.a r10.2.1.len r10.2.1.cap)] .sl fun r49 =>
 nw #[(.int .i64 s22.1), (.slice none 0 0)] ty_rat_Group fun b50 =>
 apd ty_rat_Group 2 32 #[(.int .i64 (0 : Int)), (.slice none 0 0)] ⟨r49.a, r49.len, r49.cap⟩ ⟨(some (⟨b50, 0, none⟩ : Addr)), 1, 1⟩ fun s51 =>
 callT Try.prog fn_rat_Join #[(.slice r10.1.a r10.1.len r10.1.cap), (.slice s51.a s51.len s51.cap)] (.tup (.cons .sl (.cons (.int .i64) .nil))) fun r52 =>
 jn (σ := Bool) (fun t54 =>
 jn (σ := Bool) (fun t56 =>
 jn (σ := Bool) (fun t58 =>
 K t58)
 (fun J57 =>
 brB t56
 (J57 ((r52.2.1 == (91 : Int))))
 (J57 false)))
 (fun J55 =>
 brB t54
 (J55 ((r48.2.1 == (91 : Int))))
 (J55 false)))
 (fun J53 =>
 brB ((IntKind.wrap .i64 ((IntKind.wrap .i64 ((IntKind.wrap .i64 ((r44.1.len : Int) + (r44.2.1.len : Int))) + (r48.1.len : Int))) + (r52.1.len : Int))) == (0 : Int))
 (J53 ((r44.2.2.1 == (91 : Int))))
 (J53 false))))
 (fun J21 =>
 brB (decide (s20.1 < (0 : Int)))
 (J21 ((if (-1073741825 : Int) < s20.1 then (-1073741825 : Int) else s20.1), ()))
 (J21 (s20.1, ()))))
 (fun J19 =>
 brB (decide (a1 > (0 : Int)))
 (J19 ((if (1073741825 : Int) > a1 then (1073741825 : Int) else a1), ()))
 (J19 (a1, ())))))
 (fun J17 =>
 brB t16
 (J17 true)
 (callT Try.prog fn_salvorlaw09_sameGroups #[(.slice r14.2.1.a r14.2.1.len r14.2.1.cap), (.slice r10.2.1.a r10.2.1.len r10.2.1.cap)] .bool fun r59 =>
 J17 ((!r59)))))
 (fun J15 =>
 brB (r14.2.2.1 != (0 : Int))
 (J15 true)
 (callT Try.prog fn_slices_Equal_int_int #[(.slice r14.1.a r14.1.len r14.1.cap), (.slice r10.1.a r10.1.len r10.1.cap)] .bool fun r60 =>
 J15 ((!r60))))))
 (fun J12 =>
 brB ((IntKind.wrap .i64 (r10.2.2.1 + r11.2.1)) != (0 : Int))
 (J12 true)
 (callT Try.prog fn_slices_Equal_int_int #[(.slice r11.1.a r11.1.len r11.1.cap), (.slice s3.2.1.a s3.2.1.len s3.2.1.cap)] .bool fun r61 =>
 J12 ((!r61))))))
 ((0 : Int), ⟨none, 0, 0⟩, ()))
set_option maxRecDepth 100000 in
theorem E_salvorlaw09_RatTexts (a0 : Sl) (a1 : Int) (a2 : Int) (K : Bool → HP) (h : Heap) : fnVC Try.prog [(1000000, .bool)] 153 Try.f4 [(.slice a0.a a0.len a0.cap), (.int .i64 a1), (.int .u8 a2)] .bool K h = F_salvorlaw09_RatTexts a0 a1 a2 K h := by kernel_rfl
def F_salvorlaw09_awake (K : Bool → HP) : HP :=
 callT Try.prog fn_salvorlaw09_three #[] .sl fun r0 =>
 nw #[(.int .i64 (4 : Int)), (.int .i64 (1 : Int))] ty_lits_Lit fun b1 =>
 nw #[(.int .i64 (1 : Int)), (.int .i64 (3 : Int))] ty_lits_Lit fun b2 =>
 nw #[(.int .i64 (1 : Int)), (.int .i64 (3 : Int))] ty_int fun b3 =>
 nw #[(.int .i64 (1 : Int)), (.int .i64 (3 : Int))] ty_lits_Lit fun b4 =>
 nw #[(.int .i64 (1 : Int))] ty_int fun b5 =>
 nw #[(.int .i64 (2 : Int)), (.slice none 0 0)] ty_rat_Group fun b6 =>
 nw #[(.int .i64 (-3 : Int)), (.int .i64 (1 : Int))] ty_lits_Lit fun b7 =>
 nw #[(.int .i64 (2 : Int)), (.slice none 0 0)] ty_rat_Group fun b8 =>
 nw #[(.int .i64 (-3 : Int)), (.int .i64 (1 : Int))] ty_lits_Lit fun b9 =>
 nw #[(.slice (some (⟨b1, 0, none⟩ : Addr)) 2 2), (.slice none 0 0), (.slice none 0 0), (.int .u8 (2 : Int)), (.int .i64 (0 : Int)), (.int .i64 (0 : Int)), (.slice (some (⟨b2, 0, none⟩ : Addr)) 2 2), (.slice (some (⟨b3, 0, none⟩ : Addr)) 2 2), (.slice none 0 0), (.int .u8 (0 : Int)), (.int .i64 (3 : Int)), (.int .i64 (81 : Int)), (.slice (some (⟨b4, 0, none⟩ : Addr)) 2 2), (.slice (some (⟨b5, 0, none⟩ : Addr)) 1 1), (.slice (some (⟨b6, 0, none⟩ : Addr)) 1 1), (.int .u8 (0 : Int)), (.int .i64 (2 : Int)), (.int .i64 (93 : Int)), (.slice (some (⟨b7, 0, none⟩ : Addr)) 2 2), (.slice none 0 0), (.slice (some (⟨b8, 0, none⟩ : Addr)) 1 1), (.int .u8 (2 : Int)), (.int .i64 (0 : Int)), (.int .i64 (0 : Int)), (.slice (some (⟨b9, 0, none⟩ : Addr)) 2 2), (.slice none 0 0), (.slice none 0 0), (.int .u8 (0 : Int)), (.int .i64 (2 : Int)), (.int .i64 (92 : Int))] ty_struct_s_rat_Step_kind_uint8_id_int_e_api_Errno fun b10 =>
 lfp (σ := (Int × (Bool × Unit))) (fun X11 s12 => /-   -/
 brB (decide (s12.1 < (5 : Int)))
 (sx (some (⟨b10, 0, none⟩ : Addr)) 5 s12.1 6 fun p13 =>
 ldA (.cons .sl (.cons .sl (.cons .sl (.cons (.int .u8) (.cons (.int .i64) (.cons (.int .i64) .nil)))))) p13 fun x14 =>
 nw #[(.slice none 0 0), (.slice none 0 0), (.slice none 0 0), (.int .u8 (0 : Int)), (.int .i64 (0 : Int)), (.int .i64 (0 : Int))] ty_struct_s_rat_Step_kind_uint8_id_int_e_api_Errno fun b15 =>
 st1 (⟨b15, 0, none⟩ : Addr) (.slice x14.1.a x14.1.len x14.1.cap) <|
 st1 ((⟨b15, 0, none⟩ : Addr).add 1) (.slice x14.2.1.a x14.2.1.len x14.2.1.cap) <|
 st1 ((⟨b15, 0, none⟩ : Addr).add 2) (.slice x14.2.2.1.a x14.2.2.1.len x14.2.2.1.cap) <|
 st1 ((⟨b15, 0, none⟩ : Addr).add 3) (.int .u8 x14.2.2.2.1) <|
 st1 ((⟨b15, 0, none⟩ : Addr).add 4) (.int .i64 x14.2.2.2.2.1) <|
 st1 ((⟨b15, 0, none⟩ : Addr).add 5) (.int .i64 x14.2.2.2.2.2.1) <|
 ldA (.cons .sl (.cons .sl (.cons .sl .nil))) (⟨b15, 0, none⟩ : Addr) fun x16 =>
 callT Try.prog fn_rat_Check #[(.slice r0.a r0.len r0.cap), (.agg #[(.slice x16.1.a x16.1.len x16.1.cap), (.slice x16.2.1.a x16.2.1.len x16.2.1.cap), (.slice x16.2.2.1.a x16.2.2.1.len x16.2.2.1.cap)])] (.tup (.cons (.int .u8) (.cons (.int .i64) (.cons (.int .i64) .nil)))) fun r17 =>
 ldT (.int .u8) ((⟨b15, 0, none⟩ : Addr).add 3) fun x18 =>
 jn (σ := Bool) (fun t20 =>
 jn (σ := Bool) (fun t22 =>
 brB t22
 (K false)
 (X11 ((IntKind.wrap .i64 (s12.1 + (1 : Int))), s12.2.1, ())))
 (fun J21 =>
 brB t20
 (J21 true)
 (ldT (.int .i64) ((⟨b15, 0, none⟩ : Addr).add 5) fun x23 =>
 J21 ((r17.2.2.1 != x23)))))
 (fun J19 =>
 brB (r17.1 != x18)
 (J19 true)
 (ldT (.int .i64) ((⟨b15, 0, none⟩ : Addr).add 4) fun x24 =>
 J19 ((r17.2.1 != x24)))))
 (nw #[(.int .i64 (5 : Int)), (.int .i64 (-7 : Int)), (.int .i64 (2 : Int)), (.int .i64 (3 : Int)), (.int .i64 (-8 : Int))] ty_int fun b25 =>
 callT Try.prog fn_rat_Split #[(.slice (some (⟨b25, 0, none⟩ : Addr)) 5 5)] (.tup (.cons .sl (.cons .sl (.cons (.int .i64) .nil)))) fun r26 =>
 nw #[(.int .i64 (-3 : Int)), (.int .i64 (1 : Int))] ty_lits_Lit fun b27 =>
 nw #[(.int .i64 (3 : Int)), (.int .i64 (-1 : Int))] ty_lits_Lit fun b28 =>
 callT Try.prog fn_rat_Repair #[(.slice (some (⟨b27, 0, none⟩ : Addr)) 2 2), (.slice (some (⟨b28, 0, none⟩ : Addr)) 2 2)] (.tup (.cons .sl (.cons (.int .i64) .nil))) fun r29 =>
 jn (σ := Bool) (fun t31 =>
 jn (σ := Bool) (fun t33 =>
 jn (σ := Bool) (fun t35 =>
 K t35)
 (fun J34 =>
 brB t33
 (nw #[(.int .i64 (-3 : Int)), (.int .i64 (-1 : Int))] ty_lits_Lit fun b36 =>
 callT Try.prog fn_slices_Equal_lits_Lit_lits_Lit #[(.slice r29.1.a r29.1.len r29.1.cap), (.slice (some (⟨b36, 0, none⟩ : Addr)) 2 2)] .bool fun r37 =>
 J34 (r37))
 (J34 false)))
 (fun J32 =>
 brB t31
 (nw #[(.int .i64 (2 : Int)), (.int .i64 (3 : Int))] ty_int fun b38 =>
 nw #[(.int .i64 (7 : Int)), (.slice (some (⟨b38, 0, none⟩ : Addr)) 2 2), (.int .i64 (8 : Int)), (.slice none 0 0)] ty_rat_Group fun b39 =>
 callT Try.prog fn_salvorlaw09_sameGroups #[(.slice r26.2.1.a r26.2.1.len r26.2.1.cap), (.slice (some (⟨b39, 0, none⟩ : Addr)) 2 2)] .bool fun r40 =>
 J32 (r40))
 (J32 false)))
 (fun J30 =>
 brB ((IntKind.wrap .i64 (r26.2.2.1 + r29.2.1)) == (0 : Int))
 (nw #[(.int .i64 (5 : Int))] ty_int fun b41 =>
 callT Try.prog fn_slices_Equal_int_int #[(.slice r26.1.a r26.1.len r26.1.cap), (.slice (some (⟨b41, 0, none⟩ : Addr)) 1 1)] .bool fun r42 =>
 J30 (r42))
 (J30 false))))
 ((0 : Int), false, ())
set_option maxRecDepth 100000 in
theorem E_salvorlaw09_awake (K : Bool → HP) (h : Heap) : fnVC Try.prog [(1000000, .bool)] 99 Try.f6 [] .bool K h = F_salvorlaw09_awake K h := by kernel_rfl
set_option maxRecDepth 100000 in
theorem S_salvorlaw09_awake{h : Heap} (K : Bool → HP) (hF : F_salvorlaw09_awake K h) : CallsH Try.prog fn_salvorlaw09_awake #[] h fun v h' => ∃ x : Bool, v = Ty.enc .bool x ∧ K x h' :=
  callsH_of_fn (P := Try.prog) (fn := Try.f6) (τ := .bool) follows Try.func6 (by kernel_rfl) (by kernel_rfl) Try.call6 (Eq.mpr (E_salvorlaw09_awake K h) hF)

def F_rat_Repair (a0 : Sl) (a1 : Sl) (K : (Sl × (Int × Unit)) → HP) : HP :=
 callT Try.prog fn_rup_Look #[(.slice a0.a a0.len a0.cap), (.slice a1.a a1.len a1.cap)] (.tup (.cons (.int .u8) (.cons (.int .i64) (.cons (.int .i64) .nil)))) fun r0 =>
 brB (r0.2.2.1 != (0 : Int))
 (K (⟨none, 0, 0⟩, r0.2.2.1, ()))
 (brB ((a0.len : Int) == (0 : Int))
 (K (⟨none, 0, 0⟩, (82 : Int), ()))
 (brB (r0.1 == (1 : Int))
 (callT Try.prog fn_slices_Clone_lits_Lit_lits_Lit #[(.slice a1.a a1.len a1.cap)] .sl fun r1 =>
 K (⟨r1.a, r1.len, r1.cap⟩, (0 : Int), ()))
 (callT Try.prog fn_slices_Clone_lits_Lit_lits_Lit #[(.slice a1.a a1.len a1.cap)] .sl fun r2 =>
 lfp (σ := (Int × (Bool × Unit))) (fun X3 s4 => /-  there -/
 brB (decide (s4.1 < (r2.len : Int)))
 (sx r2.a r2.len s4.1 1 fun p5 =>
 ldT (.int .i64) p5 fun x6 =>
 sx a0.a a0.len (0 : Int) 1 fun p7 =>
 ldT (.int .i64) p7 fun x8 =>
 callT Try.prog fn_lits_Neg #[(.int .i64 x8)] (.int .i64) fun r9 =>
 jn (σ := (Bool × Unit)) (fun s11 => /- there -/
 X3 ((IntKind.wrap .i64 (s4.1 + (1 : Int))), s11.1, ()))
 (fun J10 =>
 brB (x6 == r9)
 (sx a0.a a0.len (0 : Int) 1 fun p12 =>
 ldT (.int .i64) p12 fun x13 =>
 sx r2.a r2.len s4.1 1 fun p14 =>
 st1 p14 (.int .i64 x13) <|
 J10 (true, ()))
 (J10 (s4.2.1, ()))))
 (jn (σ := (Sl × Unit)) (fun s16 => /- out -/
 K (⟨s16.1.a, s16.1.len, s16.1.cap⟩, (0 : Int), ()))
 (fun J15 =>
 brB (!s4.2.1)
 (sx a0.a a0.len (0 : Int) 1 fun p17 =>
 ldT (.int .i64) p17 fun x18 =>
 nw #[(.int .i64 x18)] ty_lits_Lit fun b19 =>
 apd ty_lits_Lit 1 8 #[(.int .i64 (0 : Int))] ⟨r2.a, r2.len, r2.cap⟩ ⟨(some (⟨b19, 0, none⟩ : Addr)), 1, 1⟩ fun s20 =>
 J15 (⟨s20.a, s20.len, s20.cap⟩, ()))
 (J15 (⟨r2.a, r2.len, r2.cap⟩, ())))))
 ((0 : Int), false, ()))))
set_option maxRecDepth 100000 in
theorem E_rat_Repair (a0 : Sl) (a1 : Sl) (K : (Sl × (Int × Unit)) → HP) (h : Heap) : fnVC Try.prog [(1000000, .bool)] 64 Try.f8 [(.slice a0.a a0.len a0.cap), (.slice a1.a a1.len a1.cap)] (.tup (.cons .sl (.cons (.int .i64) .nil))) K h = F_rat_Repair a0 a1 K h := by kernel_rfl
set_option maxRecDepth 100000 in
theorem S_rat_Repair{h : Heap} {a0 : Sl} {a1 : Sl} (K : (Sl × (Int × Unit)) → HP) (hF : F_rat_Repair a0 a1 K h) : CallsH Try.prog fn_rat_Repair #[(.slice a0.a a0.len a0.cap), (.slice a1.a a1.len a1.cap)] h fun v h' => ∃ x : (Sl × (Int × Unit)), v = Ty.enc (.tup (.cons .sl (.cons (.int .i64) .nil))) x ∧ K x h' :=
  callsH_of_fn (P := Try.prog) (fn := Try.f8) (τ := (.tup (.cons .sl (.cons (.int .i64) .nil)))) follows Try.func8 (by kernel_rfl) (by kernel_rfl) Try.call8 (Eq.mpr (E_rat_Repair a0 a1 K h) hF)

def F_rup_Look (a0 : Sl) (a1 : Sl) (K : (Int × (Int × (Int × Unit))) → HP) : HP :=
 callT Try.prog fn_rup_assigned #[(.slice a1.a a1.len a1.cap)] (.tup (.cons .val (.cons .bool .nil))) fun r0 =>
 callT Try.prog fn_clauses_Right #[(.slice a0.a a0.len a0.cap)] .bool fun r1 =>
 brB (!r1)
 (K ((0 : Int), (0 : Int), (20 : Int), ()))
 (brB (!r0.2.1)
 (K ((0 : Int), (0 : Int), (80 : Int), ()))
 (callT Try.prog fn_rup_values_look #[r0.1, (.slice a0.a a0.len a0.cap)] (.tup (.cons (.int .u8) (.cons (.int .i64) .nil))) fun r2 =>
 K (r2.1, r2.2.1, (0 : Int), ())))
set_option maxRecDepth 100000 in
theorem E_rup_Look (a0 : Sl) (a1 : Sl) (K : (Int × (Int × (Int × Unit))) → HP) (h : Heap) : fnVC Try.prog [(1000000, .bool)] 31 Try.f10 [(.slice a0.a a0.len a0.cap), (.slice a1.a a1.len a1.cap)] (.tup (.cons (.int .u8) (.cons (.int .i64) (.cons (.int .i64) .nil)))) K h = F_rup_Look a0 a1 K h := by kernel_rfl
set_option maxRecDepth 100000 in
theorem S_rup_Look{h : Heap} {a0 : Sl} {a1 : Sl} (K : (Int × (Int × (Int × Unit))) → HP) (hF : F_rup_Look a0 a1 K h) : CallsH Try.prog fn_rup_Look #[(.slice a0.a a0.len a0.cap), (.slice a1.a a1.len a1.cap)] h fun v h' => ∃ x : (Int × (Int × (Int × Unit))), v = Ty.enc (.tup (.cons (.int .u8) (.cons (.int .i64) (.cons (.int .i64) .nil)))) x ∧ K x h' :=
  callsH_of_fn (P := Try.prog) (fn := Try.f10) (τ := (.tup (.cons (.int .u8) (.cons (.int .i64) (.cons (.int .i64) .nil))))) follows Try.func10 (by kernel_rfl) (by kernel_rfl) Try.call10 (Eq.mpr (E_rup_Look a0 a1 K h) hF)

def F_slices_Equal_lits_Lit_lits_Lit (a0 : Sl) (a1 : Sl) (K : Bool → HP) : HP :=
 brB ((a0.len : Int) != (a1.len : Int))
 (K false)
 (lfp (σ := (Int × (Bool × Unit))) (fun X0 s1 => /-   -/
 brB (decide (s1.1 < (a0.len : Int)))
 (sx a0.a a0.len s1.1 1 fun p2 =>
 ldT (.int .i64) p2 fun x3 =>
 sx a1.a a1.len s1.1 1 fun p4 =>
 ldT (.int .i64) p4 fun x5 =>
 brB (x3 != x5)
 (K false)
 (X0 ((IntKind.wrap .i64 (s1.1 + (1 : Int))), s1.2.1, ())))
 (K true))
 ((0 : Int), false, ()))
set_option maxRecDepth 100000 in
theorem E_slices_Equal_lits_Lit_lits_Lit (a0 : Sl) (a1 : Sl) (K : Bool → HP) (h : Heap) : fnVC Try.prog [(1000000, .nil)] 26 Try.f11 [(.slice a0.a a0.len a0.cap), (.slice a1.a a1.len a1.cap)] .bool K h = F_slices_Equal_lits_Lit_lits_Lit a0 a1 K h := by kernel_rfl
set_option maxRecDepth 100000 in
theorem S_slices_Equal_lits_Lit_lits_Lit{h : Heap} {a0 : Sl} {a1 : Sl} (K : Bool → HP) (hF : F_slices_Equal_lits_Lit_lits_Lit a0 a1 K h) : CallsH Try.prog fn_slices_Equal_lits_Lit_lits_Lit #[(.slice a0.a a0.len a0.cap), (.slice a1.a a1.len a1.cap)] h fun v h' => ∃ x : Bool, v = Ty.enc .bool x ∧ K x h' :=
  callsH_of_fn (P := Try.prog) (fn := Try.f11) (τ := .bool) follows Try.func11 (by kernel_rfl) (by kernel_rfl) Try.call11 (Eq.mpr (E_slices_Equal_lits_Lit_lits_Lit a0 a1 K h) hF)

def F_slices_Contains_lits_Lit_lits_Lit (a0 : Sl) (a1 : Int) (K : Bool → HP) : HP :=
 callT Try.prog fn_slices_Index_lits_Lit_lits_Lit #[(.slice a0.a a0.len a0.cap), (.int .i64 a1)] (.int .i64) fun r0 =>
 K (decide (r0 ≥ (0 : Int)))
set_option maxRecDepth 100000 in
theorem E_slices_Contains_lits_Lit_lits_Lit (a0 : Sl) (a1 : Int) (K : Bool → HP) (h : Heap) : fnVC Try.prog [(1000000, .nil)] 9 Try.f12 [(.slice a0.a a0.len a0.cap), (.int .i64 a1)] .bool K h = F_slices_Contains_lits_Lit_lits_Lit a0 a1 K h := by kernel_rfl
set_option maxRecDepth 100000 in
theorem S_slices_Contains_lits_Lit_lits_Lit{h : Heap} {a0 : Sl} {a1 : Int} (K : Bool → HP) (hF : F_slices_Contains_lits_Lit_lits_Lit a0 a1 K h) : CallsH Try.prog fn_slices_Contains_lits_Lit_lits_Lit #[(.slice a0.a a0.len a0.cap), (.int .i64 a1)] h fun v h' => ∃ x : Bool, v = Ty.enc .bool x ∧ K x h' :=
  callsH_of_fn (P := Try.prog) (fn := Try.f12) (τ := .bool) follows Try.func12 (by kernel_rfl) (by kernel_rfl) Try.call12 (Eq.mpr (E_slices_Contains_lits_Lit_lits_Lit a0 a1 K h) hF)

def F_rat_Split (a0 : Sl) (K : (Sl × (Sl × (Int × Unit))) → HP) : HP :=
 lfp (σ := (Int × (Sl × (Sl × (Int × (Sl × (Sl × Unit))))))) (fun X0 s1 => /-  groups out    -/
 brB (decide (s1.1 < (a0.len : Int)))
 (sx a0.a a0.len s1.1 1 fun p2 =>
 ldT (.int .i64) p2 fun x3 =>
 jn (σ := Bool) (fun t5 =>
 jn (σ := Bool) (fun t7 =>
 brB t7
 (K (⟨none, 0, 0⟩, ⟨none, 0, 0⟩, (91 : Int), ()))
 (jn (σ := (Sl × (Sl × Unit))) (fun s9 => /- groups out -/
 X0 ((IntKind.wrap .i64 (s1.1 + (1 : Int))), ⟨s9.1.a, s9.1.len, s9.1.cap⟩, ⟨s9.2.1.a, s9.2.1.len, s9.2.1.cap⟩, s1.2.2.2.1, ⟨s1.2.2.2.2.1.a, s1.2.2.2.2.1.len, s1.2.2.2.2.1.cap⟩, ⟨s1.2.2.2.2.2.1.a, s1.2.2.2.2.2.1.len, s1.2.2.2.2.2.1.cap⟩, ()))
 (fun J8 =>
 brB (decide (x3 < (0 : Int)))
 (nw #[(.int .i64 (IntKind.wrap .i64 (0 - x3))), (.slice none 0 0)] ty_rat_Group fun b10 =>
 apd ty_rat_Group 2 32 #[(.int .i64 (0 : Int)), (.slice none 0 0)] ⟨s1.2.1.a, s1.2.1.len, s1.2.1.cap⟩ ⟨(some (⟨b10, 0, none⟩ : Addr)), 1, 1⟩ fun s11 =>
 J8 (⟨s11.a, s11.len, s11.cap⟩, ⟨s1.2.2.1.a, s1.2.2.1.len, s1.2.2.1.cap⟩, ()))
 (jn (σ := (Sl × Unit)) (fun s13 => /- out -/
 J8 (⟨s1.2.1.a, s1.2.1.len, s1.2.1.cap⟩, ⟨s13.1.a, s13.1.len, s13.1.cap⟩, ()))
 (fun J12 =>
 brB (decide ((s1.2.1.len : Int) > (0 : Int)))
 (sx s1.2.1.a s1.2.1.len (IntKind.wrap .i64 ((s1.2.1.len : Int) - (1 : Int))) 2 fun p14 =>
 ldT .sl (p14.add 1) fun x15 =>
 nw #[(.int .i64 x3)] ty_int fun b16 =>
 apd ty_int 1 8 #[(.int .i64 (0 : Int))] ⟨x15.a, x15.len, x15.cap⟩ ⟨(some (⟨b16, 0, none⟩ : Addr)), 1, 1⟩ fun s17 =>
 st1 (p14.add 1) (.slice s17.a s17.len s17.cap) <|
 J12 (⟨s1.2.2.1.a, s1.2.2.1.len, s1.2.2.1.cap⟩, ()))
 (nw #[(.int .i64 x3)] ty_int fun b18 =>
 apd ty_int 1 8 #[(.int .i64 (0 : Int))] ⟨s1.2.2.1.a, s1.2.2.1.len, s1.2.2.1.cap⟩ ⟨(some (⟨b18, 0, none⟩ : Addr)), 1, 1⟩ fun s19 =>
 J12 (⟨s19.a, s19.len, s19.cap⟩, ())))))))
 (fun J6 =>
 brB t5
 (J6 true)
 (J6 ((decide (x3 < (-1073741824 : Int)))))))
 (fun J4 =>
 brB (x3 == (0 : Int))
 (J4 true)
 (J4 ((decide (x3 > (1073741824 : Int)))))))
 (K (⟨s1.2.2.1.a, s1.2.2.1.len, s1.2.2.1.cap⟩, ⟨s1.2.1.a, s1.2.1.len, s1.2.1.cap⟩, (0 : Int), ())))
 ((0 : Int), ⟨none, 0, 0⟩, ⟨none, 0, 0⟩, (0 : Int), ⟨none, 0, 0⟩, ⟨none, 0, 0⟩, ())
set_option maxRecDepth 100000 in
theorem E_rat_Split (a0 : Sl) (K : (Sl × (Sl × (Int × Unit))) → HP) (h : Heap) : fnVC Try.prog [(1000000, .bool)] 62 Try.f13 [(.slice a0.a a0.len a0.cap)] (.tup (.cons .sl (.cons .sl (.cons (.int .i64) .nil)))) K h = F_rat_Split a0 K h := by kernel_rfl
set_option maxRecDepth 100000 in
theorem S_rat_Split{h : Heap} {a0 : Sl} (K : (Sl × (Sl × (Int × Unit))) → HP) (hF : F_rat_Split a0 K h) : CallsH Try.prog fn_rat_Split #[(.slice a0.a a0.len a0.cap)] h fun v h' => ∃ x : (Sl × (Sl × (Int × Unit))), v = Ty.enc (.tup (.cons .sl (.cons .sl (.cons (.int .i64) .nil)))) x ∧ K x h' :=
  callsH_of_fn (P := Try.prog) (fn := Try.f13) (τ := (.tup (.cons .sl (.cons .sl (.cons (.int .i64) .nil))))) follows Try.func13 (by kernel_rfl) (by kernel_rfl) Try.call13 (Eq.mpr (E_rat_Split a0 K h) hF)

def F_rat_Join (a0 : Sl) (a1 : Sl) (K : (Sl × (Int × Unit)) → HP) : HP :=
 callT Try.prog fn_slices_Clone_int_int #[(.slice a0.a a0.len a0.cap)] .sl fun r0 =>
 callT Try.prog fn_slices_Clone_int_int #[(.slice a0.a a0.len a0.cap)] .sl fun r1 =>
 lfp (σ := (Int × (Sl × (Sl × Unit)))) (fun X2 s3 => /-  all out -/
 brB (decide (s3.1 < (a1.len : Int)))
 (sx a1.a a1.len s3.1 2 fun p4 =>
 ldA (.cons (.int .i64) (.cons .sl .nil)) p4 fun x5 =>
 nw #[(.int .i64 (0 : Int)), (.slice none 0 0)] ty_rat_Group fun b6 =>
 st1 (⟨b6, 0, none⟩ : Addr) (.int .i64 x5.1) <|
 st1 ((⟨b6, 0, none⟩ : Addr).add 1) (.slice x5.2.1.a x5.2.1.len x5.2.1.cap) <|
 ldT (.int .i64) (⟨b6, 0, none⟩ : Addr) fun x7 =>
 ldT .sl ((⟨b6, 0, none⟩ : Addr).add 1) fun x8 =>
 nw #[(.int .i64 (IntKind.wrap .i64 (0 - x7)))] ty_int fun b9 =>
 apd ty_int 1 8 #[(.int .i64 (0 : Int))] ⟨s3.2.2.1.a, s3.2.2.1.len, s3.2.2.1.cap⟩ ⟨(some (⟨b9, 0, none⟩ : Addr)), 1, 1⟩ fun s10 =>
 ck ((⟨b6, 0, none⟩ : Addr).add 1) (.slice x8.a x8.len x8.cap) <|
 apd ty_int 1 8 #[(.int .i64 (0 : Int))] ⟨s10.a, s10.len, s10.cap⟩ ⟨x8.a, x8.len, x8.cap⟩ fun s11 =>
 ldT (.int .i64) (⟨b6, 0, none⟩ : Addr) fun x12 =>
 ldT .sl ((⟨b6, 0, none⟩ : Addr).add 1) fun x13 =>
 nw #[(.int .i64 x12)] ty_int fun b14 =>
 apd ty_int 1 8 #[(.int .i64 (0 : Int))] ⟨s3.2.1.a, s3.2.1.len, s3.2.1.cap⟩ ⟨(some (⟨b14, 0, none⟩ : Addr)), 1, 1⟩ fun s15 =>
 ck ((⟨b6, 0, none⟩ : Addr).add 1) (.slice x13.a x13.len x13.cap) <|
 apd ty_int 1 8 #[(.int .i64 (0 : Int))] ⟨s15.a, s15.len, s15.cap⟩ ⟨x13.a, x13.len, x13.cap⟩ fun s16 =>
 X2 ((IntKind.wrap .i64 (s3.1 + (1 : Int))), ⟨s16.a, s16.len, s16.cap⟩, ⟨s11.a, s11.len, s11.cap⟩, ()))
 (callT Try.prog fn_slices_ContainsFunc_int_int #[(.slice s3.2.1.a s3.2.1.len s3.2.1.cap), (.func (.func fn_rat_Join_1) #[] #[])] .bool fun r17 =>
 brB r17
 (K (⟨none, 0, 0⟩, (91 : Int), ()))
 (K (⟨s3.2.2.1.a, s3.2.2.1.len, s3.2.2.1.cap⟩, (0 : Int), ()))))
 ((0 : Int), ⟨r1.a, r1.len, r1.cap⟩, ⟨r0.a, r0.len, r0.cap⟩, ())
set_option maxRecDepth 100000 in
theorem E_rat_Join (a0 : Sl) (a1 : Sl) (K : (Sl × (Int × Unit)) → HP) (h : Heap) : fnVC Try.prog [(1000000, .bool)] 41 Try.f14 [(.slice a0.a a0.len a0.cap), (.slice a1.a a1.len a1.cap)] (.tup (.cons .sl (.cons (.int .i64) .nil))) K h = F_rat_Join a0 a1 K h := by kernel_rfl
set_option maxRecDepth 100000 in
theorem S_rat_Join{h : Heap} {a0 : Sl} {a1 : Sl} (K : (Sl × (Int × Unit)) → HP) (hF : F_rat_Join a0 a1 K h) : CallsH Try.prog fn_rat_Join #[(.slice a0.a a0.len a0.cap), (.slice a1.a a1.len a1.cap)] h fun v h' => ∃ x : (Sl × (Int × Unit)), v = Ty.enc (.tup (.cons .sl (.cons (.int .i64) .nil))) x ∧ K x h' :=
  callsH_of_fn (P := Try.prog) (fn := Try.f14) (τ := (.tup (.cons .sl (.cons (.int .i64) .nil)))) follows Try.func14 (by kernel_rfl) (by kernel_rfl) Try.call14 (Eq.mpr (E_rat_Join a0 a1 K h) hF)

def F_slices_Equal_int_int (a0 : Sl) (a1 : Sl) (K : Bool → HP) : HP :=
 brB ((a0.len : Int) != (a1.len : Int))
 (K false)
 (lfp (σ := (Int × (Bool × Unit))) (fun X0 s1 => /-   -/
 brB (decide (s1.1 < (a0.len : Int)))
 (sx a0.a a0.len s1.1 1 fun p2 =>
 ldT (.int .i64) p2 fun x3 =>
 sx a1.a a1.len s1.1 1 fun p4 =>
 ldT (.int .i64) p4 fun x5 =>
 brB (x3 != x5)
 (K false)
 (X0 ((IntKind.wrap .i64 (s1.1 + (1 : Int))), s1.2.1, ())))
 (K true))
 ((0 : Int), false, ()))
set_option maxRecDepth 100000 in
theorem E_slices_Equal_int_int (a0 : Sl) (a1 : Sl) (K : Bool → HP) (h : Heap) : fnVC Try.prog [(1000000, .nil)] 26 Try.f15 [(.slice a0.a a0.len a0.cap), (.slice a1.a a1.len a1.cap)] .bool K h = F_slices_Equal_int_int a0 a1 K h := by kernel_rfl
set_option maxRecDepth 100000 in
theorem S_slices_Equal_int_int{h : Heap} {a0 : Sl} {a1 : Sl} (K : Bool → HP) (hF : F_slices_Equal_int_int a0 a1 K h) : CallsH Try.prog fn_slices_Equal_int_int #[(.slice a0.a a0.len a0.cap), (.slice a1.a a1.len a1.cap)] h fun v h' => ∃ x : Bool, v = Ty.enc .bool x ∧ K x h' :=
  callsH_of_fn (P := Try.prog) (fn := Try.f15) (τ := .bool) follows Try.func15 (by kernel_rfl) (by kernel_rfl) Try.call15 (Eq.mpr (E_slices_Equal_int_int a0 a1 K h) hF)

def F_salvorlaw09_sameGroups (a0 : Sl) (a1 : Sl) (K : Bool → HP) : HP :=
 callT Try.prog fn_slices_EqualFunc_rat_Group_rat_Group_rat_Group_rat_Group #[(.slice a0.a a0.len a0.cap), (.slice a1.a a1.len a1.cap), (.func (.func fn_salvorlaw09_sameGroups_1) #[] #[])] .bool fun r0 =>
 K r0
set_option maxRecDepth 100000 in
theorem E_salvorlaw09_sameGroups (a0 : Sl) (a1 : Sl) (K : Bool → HP) (h : Heap) : fnVC Try.prog [(1000000, .bool)] 8 Try.f16 [(.slice a0.a a0.len a0.cap), (.slice a1.a a1.len a1.cap)] .bool K h = F_salvorlaw09_sameGroups a0 a1 K h := by kernel_rfl
set_option maxRecDepth 100000 in
theorem S_salvorlaw09_sameGroups{h : Heap} {a0 : Sl} {a1 : Sl} (K : Bool → HP) (hF : F_salvorlaw09_sameGroups a0 a1 K h) : CallsH Try.prog fn_salvorlaw09_sameGroups #[(.slice a0.a a0.len a0.cap), (.slice a1.a a1.len a1.cap)] h fun v h' => ∃ x : Bool, v = Ty.enc .bool x ∧ K x h' :=
  callsH_of_fn (P := Try.prog) (fn := Try.f16) (τ := .bool) follows Try.func16 (by kernel_rfl) (by kernel_rfl) Try.call16 (Eq.mpr (E_salvorlaw09_sameGroups a0 a1 K h) hF)

def F_slices_Insert_int_int (a0 : Sl) (a1 : Int) (a2 : Sl) (K : Sl → HP) : HP :=
 slL ⟨a0.a, a0.len, a0.cap⟩ a1 1 fun s0 =>
 brB ((a2.len : Int) == (0 : Int))
 (K ⟨a0.a, a0.len, a0.cap⟩)
 (brB (a1 == (a0.len : Int))
 (apd ty_int 1 8 #[(.int .i64 (0 : Int))] ⟨a0.a, a0.len, a0.cap⟩ ⟨a2.a, a2.len, a2.cap⟩ fun s1 =>
 K ⟨s1.a, s1.len, s1.cap⟩)
 (brB (decide ((IntKind.wrap .i64 ((a0.len : Int) + (a2.len : Int))) > (a0.cap : Int)))
 (slH ⟨a0.a, a0.len, a0.cap⟩ a1 1 fun s2 =>
 apz ty_int 1 8 #[(.int .i64 (0 : Int))] ⟨s2.a, s2.len, s2.cap⟩ (IntKind.wrap .i64 ((IntKind.wrap .i64 ((a0.len : Int) + (a2.len : Int))) - a1)) fun s3 =>
 slL ⟨s3.a, s3.len, s3.cap⟩ a1 1 fun s4 =>
 cpy 1 ⟨s4.a, s4.len, s4.cap⟩ ⟨a2.a, a2.len, a2.cap⟩ fun n5 =>
 slL ⟨s3.a, s3.len, s3.cap⟩ (IntKind.wrap .i64 (a1 + (a2.len : Int))) 1 fun s6 =>
 slL ⟨a0.a, a0.len, a0.cap⟩ a1 1 fun s7 =>
 cpy 1 ⟨s6.a, s6.len, s6.cap⟩ ⟨s7.a, s7.len, s7.cap⟩ fun n8 =>
 K ⟨s3.a, s3.len, s3.cap⟩)
 (slH ⟨a0.a, a0.len, a0.cap⟩ (IntKind.wrap .i64 ((a0.len : Int) + (a2.len : Int))) 1 fun s9 =>
 slL ⟨s9.a, s9.len, s9.cap⟩ (IntKind.wrap .i64 (a1 + (a2.len : Int))) 1 fun s10 =>
 callT Try.prog fn_slices_overlaps_int #[(.slice a2.a a2.len a2.cap), (.slice s10.a s10.len s10.cap)] .bool fun r11 =>
 brB (!r11)
 (slL ⟨s9.a, s9.len, s9.cap⟩ (IntKind.wrap .i64 (a1 + (a2.len : Int))) 1 fun s12 =>
 slL ⟨s9.a, s9.len, s9.cap⟩ a1 1 fun s13 =>
 cpy 1 ⟨s12.a, s12.len, s12.cap⟩ ⟨s13.a, s13.len, s13.cap⟩ fun n14 =>
 slL ⟨s9.a, s9.len, s9.cap⟩ a1 1 fun s15 =>
 cpy 1 ⟨s15.a, s15.len, s15.cap⟩ ⟨a2.a, a2.len, a2.cap⟩ fun n16 =>
 K ⟨s9.a, s9.len, s9.cap⟩)
 (slL ⟨s9.a, s9.len, s9.cap⟩ (a0.len : Int) 1 fun s17 =>
 cpy 1 ⟨s17.a, s17.len, s17.cap⟩ ⟨a2.a, a2.len, a2.cap⟩ fun n18 =>
 slL ⟨s9.a, s9.len, s9.cap⟩ a1 1 fun s19 =>
 callT Try.prog fn_slices_rotateRight_int #[(.slice s19.a s19.len s19.cap), (.int .i64 (a2.len : Int))] (.tup .nil) fun r20 =>
 K ⟨s9.a, s9.len, s9.cap⟩))))
set_option maxRecDepth 100000 in
theorem E_slices_Insert_int_int (a0 : Sl) (a1 : Int) (a2 : Sl) (K : Sl → HP) (h : Heap) : fnVC Try.prog [(1000000, .nil)] 95 Try.f17 [(.slice a0.a a0.len a0.cap), (.int .i64 a1), (.slice a2.a a2.len a2.cap)] .sl K h = F_slices_Insert_int_int a0 a1 a2 K h := by kernel_rfl
set_option maxRecDepth 100000 in
theorem S_slices_Insert_int_int{h : Heap} {a0 : Sl} {a1 : Int} {a2 : Sl} (K : Sl → HP) (hF : F_slices_Insert_int_int a0 a1 a2 K h) : CallsH Try.prog fn_slices_Insert_int_int #[(.slice a0.a a0.len a0.cap), (.int .i64 a1), (.slice a2.a a2.len a2.cap)] h fun v h' => ∃ x : Sl, v = Ty.enc .sl x ∧ K x h' :=
  callsH_of_fn (P := Try.prog) (fn := Try.f17) (τ := .sl) follows Try.func17 (by kernel_rfl) (by kernel_rfl) Try.call17 (Eq.mpr (E_slices_Insert_int_int a0 a1 a2 K h) hF)

def F_slices_Clone_int_int (a0 : Sl) (K : Sl → HP) : HP :=
 brB (Option.isNone a0.a)
 (K ⟨none, 0, 0⟩)
 (nw #[] ty_int fun b0 =>
 apd ty_int 1 8 #[(.int .i64 (0 : Int))] ⟨(some (⟨b0, 0, none⟩ : Addr)), 0, 0⟩ ⟨a0.a, a0.len, a0.cap⟩ fun s1 =>
 K ⟨s1.a, s1.len, s1.cap⟩)
set_option maxRecDepth 100000 in
theorem E_slices_Clone_int_int (a0 : Sl) (K : Sl → HP) (h : Heap) : fnVC Try.prog [(1000000, .nil)] 8 Try.f18 [(.slice a0.a a0.len a0.cap)] .sl K h = F_slices_Clone_int_int a0 K h := by kernel_rfl
set_option maxRecDepth 100000 in
theorem S_slices_Clone_int_int{h : Heap} {a0 : Sl} (K : Sl → HP) (hF : F_slices_Clone_int_int a0 K h) : CallsH Try.prog fn_slices_Clone_int_int #[(.slice a0.a a0.len a0.cap)] h fun v h' => ∃ x : Sl, v = Ty.enc .sl x ∧ K x h' :=
  callsH_of_fn (P := Try.prog) (fn := Try.f18) (τ := .sl) follows Try.func18 (by kernel_rfl) (by kernel_rfl) Try.call18 (Eq.mpr (E_slices_Clone_int_int a0 K h) hF)

def F_slices_Clone_rat_Group_rat_Group (a0 : Sl) (K : Sl → HP) : HP :=
 brB (Option.isNone a0.a)
 (K ⟨none, 0, 0⟩)
 (nw #[] ty_rat_Group fun b0 =>
 apd ty_rat_Group 2 32 #[(.int .i64 (0 : Int)), (.slice none 0 0)] ⟨(some (⟨b0, 0, none⟩ : Addr)), 0, 0⟩ ⟨a0.a, a0.len, a0.cap⟩ fun s1 =>
 K ⟨s1.a, s1.len, s1.cap⟩)
set_option maxRecDepth 100000 in
theorem E_slices_Clone_rat_Group_rat_Group (a0 : Sl) (K : Sl → HP) (h : Heap) : fnVC Try.prog [(1000000, .nil)] 8 Try.f19 [(.slice a0.a a0.len a0.cap)] .sl K h = F_slices_Clone_rat_Group_rat_Group a0 K h := by kernel_rfl
set_option maxRecDepth 100000 in
theorem S_slices_Clone_rat_Group_rat_Group{h : Heap} {a0 : Sl} (K : Sl → HP) (hF : F_slices_Clone_rat_Group_rat_Group a0 K h) : CallsH Try.prog fn_slices_Clone_rat_Group_rat_Group #[(.slice a0.a a0.len a0.cap)] h fun v h' => ∃ x : Sl, v = Ty.enc .sl x ∧ K x h' :=
  callsH_of_fn (P := Try.prog) (fn := Try.f19) (τ := .sl) follows Try.func19 (by kernel_rfl) (by kernel_rfl) Try.call19 (Eq.mpr (E_slices_Clone_rat_Group_rat_Group a0 K h) hF)

def F_rat_Check (a0 : Sl) (a1 : (Sl × (Sl × (Sl × Unit)))) (K : (Int × (Int × (Int × Unit))) → HP) : HP :=
 nw #[(.slice a1.1.a a1.1.len a1.1.cap), (.slice a1.2.1.a a1.2.1.len a1.2.1.cap), (.slice a1.2.2.1.a a1.2.2.1.len a1.2.2.1.cap)] ty_rat_Step fun b0 =>
 callT Try.prog fn_rat_Right #[(.slice a0.a a0.len a0.cap)] .bool fun r1 =>
 brB (!r1)
 (K ((0 : Int), (0 : Int), (90 : Int), ()))
 (ldT .sl (⟨b0, 0, none⟩ : Addr) fun x2 =>
 callT Try.prog fn_rup_Assume #[(.slice x2.a x2.len x2.cap)] (.tup (.cons .sl (.cons .bool (.cons (.int .i64) .nil)))) fun r3 =>
 brB (r3.2.2.1 != (0 : Int))
 (K ((0 : Int), (0 : Int), r3.2.2.1, ()))
 (brB r3.2.1
 (K ((1 : Int), (0 : Int), (0 : Int), ()))
 (ldT .sl ((⟨b0, 0, none⟩ : Addr).add 1) fun x4 =>
 callT Try.prog fn_rat_follow #[(.slice a0.a a0.len a0.cap), (.slice r3.1.a r3.1.len r3.1.cap), (.slice x4.a x4.len x4.cap)] (.tup (.cons .sl (.cons .bool (.cons (.int .i64) (.cons (.int .i64) .nil))))) fun r5 =>
 brB (r5.2.2.2.1 != (0 : Int))
 (K ((0 : Int), r5.2.2.1, r5.2.2.2.1, ()))
 (brB r5.2.1
 (K ((1 : Int), (0 : Int), (0 : Int), ()))
 (ldT .sl (⟨b0, 0, none⟩ : Addr) fun x6 =>
 brB ((x6.len : Int) == (0 : Int))
 (K ((0 : Int), (0 : Int), (82 : Int), ()))
 (ldT .sl (⟨b0, 0, none⟩ : Addr) fun x7 =>
 sx x7.a x7.len (0 : Int) 1 fun p8 =>
 ldT (.int .i64) p8 fun x9 =>
 ldT .sl ((⟨b0, 0, none⟩ : Addr).add 2) fun x10 =>
 callT Try.prog fn_rat_groups #[(.slice a0.a a0.len a0.cap), (.int .i64 x9), (.slice x10.a x10.len x10.cap)] (.tup (.cons (.int .i64) (.cons (.int .i64) .nil))) fun r11 =>
 ldT .sl ((⟨b0, 0, none⟩ : Addr).add 2) fun x12 =>
 jn (σ := (Int × (Int × (Int × (Bool × Unit))))) (fun s14 => /-  e id conflict -/
 brB (s14.2.1 != (0 : Int))
 (K ((0 : Int), s14.2.2.1, s14.2.1, ()))
 (K ((2 : Int), (0 : Int), (0 : Int), ())))
 (fun J13 =>
 lfp (σ := (Int × (Int × (Int × (Bool × Unit))))) (fun X15 s16 => /-  e id conflict -/
 brB (decide (s16.1 < (x12.len : Int)))
 (jn (σ := (Int × (Int × (Bool × Unit)))) (fun s18 => /- e id conflict -/
 X15 ((IntKind.wrap .i64 (s16.1 + (1 : Int))), s18.1, s18.2.1, s18.2.2.1, ()))
 (fun J17 =>
 sx x12.a x12.len s16.1 2 fun p19 =>
 ldA (.cons (.int .i64) (.cons .sl .nil)) p19 fun x20 =>
 nw #[(.int .i64 (0 : Int)), (.slice none 0 0)] ty_rat_Group fun b21 =>
 st1 (⟨b21, 0, none⟩ : Addr) (.int .i64 x20.1) <|
 st1 ((⟨b21, 0, none⟩ : Addr).add 1) (.slice x20.2.1.a x20.2.1.len x20.2.1.cap) <|
 brB (s16.2.1 != (0 : Int))
 (J13 (s16.1, s16.2.1, s16.2.2.1, s16.2.2.2.1, ()))
 (ldT (.int .i64) (⟨b21, 0, none⟩ : Addr) fun x22 =>
 callT Try.prog fn_rat_find #[(.slice a0.a a0.len a0.cap), (.int .i64 x22)] (.tup (.cons (.int .i64) (.cons .bool .nil))) fun r23 =>
 sx a0.a a0.len r23.1 2 fun p24 =>
 ldT .sl (p24.add 1) fun x25 =>
 callT Try.prog fn_rat_rest #[(.slice x25.a x25.len x25.cap), (.int .i64 x9), (.slice r5.1.a r5.1.len r5.1.cap)] (.tup (.cons .sl (.cons .bool .nil))) fun r26 =>
 brB (!r26.2.1)
 (J17 (s16.2.1, s16.2.2.1, s16.2.2.2.1, ()))
 (ldT .sl ((⟨b21, 0, none⟩ : Addr).add 1) fun x27 =>
 nw #[(.slice r5.1.a r5.1.len r5.1.cap), (.slice r26.1.a r26.1.len r26.1.cap)] ty_sl_lits_Lit fun b28 =>
 callT Try.prog fn_slices_Concat_lits_Lit_lits_Lit #[(.slice (some (⟨b28, 0, none⟩ : Addr)) 2 2)] .sl fun r29 =>
 ck ((⟨b21, 0, none⟩ : Addr).add 1) (.slice x27.a x27.len x27.cap) <|
 callT Try.prog fn_rat_follow #[(.slice a0.a a0.len a0.cap), (.slice r29.a r29.len r29.cap), (.slice x27.a x27.len x27.cap)] (.tup (.cons .sl (.cons .bool (.cons (.int .i64) (.cons (.int .i64) .nil))))) fun r30 =>
 jn (σ := Bool) (fun t32 =>
 jn (σ := (Int × (Int × Unit))) (fun s34 => /- e id -/
 J17 (s34.1, s34.2.1, r30.2.1, ()))
 (fun J33 =>
 brB t32
 (ldT (.int .i64) (⟨b21, 0, none⟩ : Addr) fun x35 =>
 J33 ((93 : Int), x35, ()))
 (J33 (r30.2.2.2.1, r30.2.2.1, ()))))
 (fun J31 =>
 brB (r30.2.2.2.1 == (0 : Int))
 (J31 ((!r30.2.1)))
 (J31 false))))))
 (J13 (s16.1, s16.2.1, s16.2.2.1, s16.2.2.2.1, ())))
 ((0 : Int), r11.2.1, r11.1, r5.2.1, ()))))))))
set_option maxRecDepth 100000 in
theorem E_rat_Check (a0 : Sl) (a1 : (Sl × (Sl × (Sl × Unit)))) (K : (Int × (Int × (Int × Unit))) → HP) (h : Heap) : fnVC Try.prog [(1000000, .bool)] 125 Try.f22 [(.slice a0.a a0.len a0.cap), (.agg #[(.slice a1.1.a a1.1.len a1.1.cap), (.slice a1.2.1.a a1.2.1.len a1.2.1.cap), (.slice a1.2.2.1.a a1.2.2.1.len a1.2.2.1.cap)])] (.tup (.cons (.int .u8) (.cons (.int .i64) (.cons (.int .i64) .nil)))) K h = F_rat_Check a0 a1 K h := by kernel_rfl
set_option maxRecDepth 100000 in
theorem S_rat_Check{h : Heap} {a0 : Sl} {a1 : (Sl × (Sl × (Sl × Unit)))} (K : (Int × (Int × (Int × Unit))) → HP) (hF : F_rat_Check a0 a1 K h) : CallsH Try.prog fn_rat_Check #[(.slice a0.a a0.len a0.cap), (.agg #[(.slice a1.1.a a1.1.len a1.1.cap), (.slice a1.2.1.a a1.2.1.len a1.2.1.cap), (.slice a1.2.2.1.a a1.2.2.1.len a1.2.2.1.cap)])] h fun v h' => ∃ x : (Int × (Int × (Int × Unit))), v = Ty.enc (.tup (.cons (.int .u8) (.cons (.int .i64) (.cons (.int .i64) .nil)))) x ∧ K x h' :=
  callsH_of_fn (P := Try.prog) (fn := Try.f22) (τ := (.tup (.cons (.int .u8) (.cons (.int .i64) (.cons (.int .i64) .nil))))) follows Try.func22 (by kernel_rfl) (by kernel_rfl) Try.call22 (Eq.mpr (E_rat_Check a0 a1 K h) hF)

def F_rat_Right (a0 : Sl) (K : Bool → HP) : HP :=
 lfp (σ := (Int × (Int × (Bool × Unit)))) (fun X0 s1 => /-  last  -/
 brB (decide (s1.1 < (a0.len : Int)))
 (sx a0.a a0.len s1.1 2 fun p2 =>
 ldA (.cons (.int .i64) (.cons .sl .nil)) p2 fun x3 =>
 nw #[(.int .i64 (0 : Int)), (.slice none 0 0)] ty_rat_Entry fun b4 =>
 st1 (⟨b4, 0, none⟩ : Addr) (.int .i64 x3.1) <|
 st1 ((⟨b4, 0, none⟩ : Addr).add 1) (.slice x3.2.1.a x3.2.1.len x3.2.1.cap) <|
 ldT (.int .i64) (⟨b4, 0, none⟩ : Addr) fun x5 =>
 jn (σ := Bool) (fun t7 =>
 jn (σ := Bool) (fun t9 =>
 brB t9
 (K false)
 (ldT (.int .i64) (⟨b4, 0, none⟩ : Addr) fun x10 =>
 X0 ((IntKind.wrap .i64 (s1.1 + (1 : Int))), x10, s1.2.2.1, ())))
 (fun J8 =>
 brB t7
 (J8 true)
 (ldT .sl ((⟨b4, 0, none⟩ : Addr).add 1) fun x11 =>
 callT Try.prog fn_clauses_Right #[(.slice x11.a x11.len x11.cap)] .bool fun r12 =>
 J8 ((!r12)))))
 (fun J6 =>
 brB (decide (x5 ≤ s1.2.1))
 (J6 true)
 (ldT (.int .i64) (⟨b4, 0, none⟩ : Addr) fun x13 =>
 J6 ((decide (x13 > (1073741824 : Int)))))))
 (K (decide ((a0.len : Int) ≤ (1048576 : Int)))))
 ((0 : Int), (0 : Int), false, ())
set_option maxRecDepth 100000 in
theorem E_rat_Right (a0 : Sl) (K : Bool → HP) (h : Heap) : fnVC Try.prog [(1000000, .bool)] 33 Try.f23 [(.slice a0.a a0.len a0.cap)] .bool K h = F_rat_Right a0 K h := by kernel_rfl
set_option maxRecDepth 100000 in
theorem S_rat_Right{h : Heap} {a0 : Sl} (K : Bool → HP) (hF : F_rat_Right a0 K h) : CallsH Try.prog fn_rat_Right #[(.slice a0.a a0.len a0.cap)] h fun v h' => ∃ x : Bool, v = Ty.enc .bool x ∧ K x h' :=
  callsH_of_fn (P := Try.prog) (fn := Try.f23) (τ := .bool) follows Try.func23 (by kernel_rfl) (by kernel_rfl) Try.call23 (Eq.mpr (E_rat_Right a0 K h) hF)

def F_salvorlaw09_three (K : Sl → HP) : HP :=
 nw #[(.int .i64 (1 : Int)), (.int .i64 (2 : Int))] ty_lits_Lit fun b0 =>
 nw #[(.int .i64 (-1 : Int)), (.int .i64 (3 : Int))] ty_lits_Lit fun b1 =>
 nw #[(.int .i64 (-2 : Int)), (.int .i64 (-3 : Int))] ty_lits_Lit fun b2 =>
 nw #[(.int .i64 (1 : Int)), (.slice (some (⟨b0, 0, none⟩ : Addr)) 2 2), (.int .i64 (2 : Int)), (.slice (some (⟨b1, 0, none⟩ : Addr)) 2 2), (.int .i64 (3 : Int)), (.slice (some (⟨b2, 0, none⟩ : Addr)) 2 2)] ty_rat_Entry fun b3 =>
 K ⟨(some (⟨b3, 0, none⟩ : Addr)), 3, 3⟩
set_option maxRecDepth 100000 in
theorem E_salvorlaw09_three (K : Sl → HP) (h : Heap) : fnVC Try.prog [(1000000, .bool)] 8 Try.f24 [] .sl K h = F_salvorlaw09_three K h := by kernel_rfl
set_option maxRecDepth 100000 in
theorem S_salvorlaw09_three{h : Heap} (K : Sl → HP) (hF : F_salvorlaw09_three K h) : CallsH Try.prog fn_salvorlaw09_three #[] h fun v h' => ∃ x : Sl, v = Ty.enc .sl x ∧ K x h' :=
  callsH_of_fn (P := Try.prog) (fn := Try.f24) (τ := .sl) follows Try.func24 (by kernel_rfl) (by kernel_rfl) Try.call24 (Eq.mpr (E_salvorlaw09_three K h) hF)

def F_slices_Clone_lits_Lit_lits_Lit (a0 : Sl) (K : Sl → HP) : HP :=
 brB (Option.isNone a0.a)
 (K ⟨none, 0, 0⟩)
 (nw #[] ty_lits_Lit fun b0 =>
 apd ty_lits_Lit 1 8 #[(.int .i64 (0 : Int))] ⟨(some (⟨b0, 0, none⟩ : Addr)), 0, 0⟩ ⟨a0.a, a0.len, a0.cap⟩ fun s1 =>
 K ⟨s1.a, s1.len, s1.cap⟩)
set_option maxRecDepth 100000 in
theorem E_slices_Clone_lits_Lit_lits_Lit (a0 : Sl) (K : Sl → HP) (h : Heap) : fnVC Try.prog [(1000000, .nil)] 8 Try.f25 [(.slice a0.a a0.len a0.cap)] .sl K h = F_slices_Clone_lits_Lit_lits_Lit a0 K h := by kernel_rfl
set_option maxRecDepth 100000 in
theorem S_slices_Clone_lits_Lit_lits_Lit{h : Heap} {a0 : Sl} (K : Sl → HP) (hF : F_slices_Clone_lits_Lit_lits_Lit a0 K h) : CallsH Try.prog fn_slices_Clone_lits_Lit_lits_Lit #[(.slice a0.a a0.len a0.cap)] h fun v h' => ∃ x : Sl, v = Ty.enc .sl x ∧ K x h' :=
  callsH_of_fn (P := Try.prog) (fn := Try.f25) (τ := .sl) follows Try.func25 (by kernel_rfl) (by kernel_rfl) Try.call25 (Eq.mpr (E_slices_Clone_lits_Lit_lits_Lit a0 K h) hF)

def F_lits_Neg (a0 : Int) (K : Int → HP) : HP :=
 callT Try.prog fn_lits_Right #[(.int .i64 a0)] .bool fun r0 =>
 brB (!r0)
 (K (0 : Int))
 (K (IntKind.wrap .i64 (0 - a0)))
set_option maxRecDepth 100000 in
theorem E_lits_Neg (a0 : Int) (K : Int → HP) (h : Heap) : fnVC Try.prog [(1000000, .nil)] 8 Try.f26 [(.int .i64 a0)] (.int .i64) K h = F_lits_Neg a0 K h := by kernel_rfl
set_option maxRecDepth 100000 in
theorem S_lits_Neg{h : Heap} {a0 : Int} (K : Int → HP) (hF : F_lits_Neg a0 K h) : CallsH Try.prog fn_lits_Neg #[(.int .i64 a0)] h fun v h' => ∃ x : Int, v = Ty.enc (.int .i64) x ∧ K x h' :=
  callsH_of_fn (P := Try.prog) (fn := Try.f26) (τ := (.int .i64)) follows Try.func26 (by kernel_rfl) (by kernel_rfl) Try.call26 (Eq.mpr (E_lits_Neg a0 K h) hF)

def F_rup_assigned (a0 : Sl) (K : (Value × (Bool × Unit)) → HP) : HP :=
 mkm fun b0 =>
 lfp (σ := (Int × (Bool × (Value × Unit)))) (fun X1 s2 => /-    -/
 brB (decide (s2.1 < (a0.len : Int)))
 (sx a0.a a0.len s2.1 1 fun p3 =>
 ldT (.int .i64) p3 fun x4 =>
 callT Try.prog fn_lits_Right #[(.int .i64 x4)] .bool fun r5 =>
 jn (σ := Bool) (fun t7 =>
 brB t7
 (K ((Value.map none), false, ()))
 (callT Try.prog fn_rup_values_put #[(.map (some b0)), (.int .i64 x4)] (.tup .nil) fun r8 =>
 X1 ((IntKind.wrap .i64 (s2.1 + (1 : Int))), s2.2.1, s2.2.2.1, ())))
 (fun J6 =>
 brB (!r5)
 (J6 true)
 (callT Try.prog fn_rup_values_of #[(.map (some b0)), (.int .i64 x4)] (.int .i64) fun r9 =>
 J6 ((decide (r9 < (0 : Int)))))))
 (K ((.map (some b0)), true, ())))
 ((0 : Int), false, (Value.map none), ())
set_option maxRecDepth 100000 in
theorem E_rup_assigned (a0 : Sl) (K : (Value × (Bool × Unit)) → HP) (h : Heap) : fnVC Try.prog [(1000000, .bool)] 28 Try.f27 [(.slice a0.a a0.len a0.cap)] (.tup (.cons .val (.cons .bool .nil))) K h = F_rup_assigned a0 K h := by kernel_rfl
set_option maxRecDepth 100000 in
theorem S_rup_assigned{h : Heap} {a0 : Sl} (K : (Value × (Bool × Unit)) → HP) (hF : F_rup_assigned a0 K h) : CallsH Try.prog fn_rup_assigned #[(.slice a0.a a0.len a0.cap)] h fun v h' => ∃ x : (Value × (Bool × Unit)), v = Ty.enc (.tup (.cons .val (.cons .bool .nil))) x ∧ K x h' :=
  callsH_of_fn (P := Try.prog) (fn := Try.f27) (τ := (.tup (.cons .val (.cons .bool .nil)))) follows Try.func27 (by kernel_rfl) (by kernel_rfl) Try.call27 (Eq.mpr (E_rup_assigned a0 K h) hF)

def F_clauses_Right (a0 : Sl) (K : Bool → HP) : HP :=
 brB (decide ((a0.len : Int) ≤ (4096 : Int)))
 (callT Try.prog fn_slices_ContainsFunc_clauses_Clause_lits_Lit #[(.slice a0.a a0.len a0.cap), (.func (.func fn_clauses_wrong) #[] #[])] .bool fun r0 =>
 K (!r0))
 (K false)
set_option maxRecDepth 100000 in
theorem E_clauses_Right (a0 : Sl) (K : Bool → HP) (h : Heap) : fnVC Try.prog [(1000000, .nil)] 11 Try.f28 [(.slice a0.a a0.len a0.cap)] .bool K h = F_clauses_Right a0 K h := by kernel_rfl
set_option maxRecDepth 100000 in
theorem S_clauses_Right{h : Heap} {a0 : Sl} (K : Bool → HP) (hF : F_clauses_Right a0 K h) : CallsH Try.prog fn_clauses_Right #[(.slice a0.a a0.len a0.cap)] h fun v h' => ∃ x : Bool, v = Ty.enc .bool x ∧ K x h' :=
  callsH_of_fn (P := Try.prog) (fn := Try.f28) (τ := .bool) follows Try.func28 (by kernel_rfl) (by kernel_rfl) Try.call28 (Eq.mpr (E_clauses_Right a0 K h) hF)

def F_rup_values_look (a0 : Value) (a1 : Sl) (K : (Int × (Int × Unit)) → HP) : HP :=
 jn (σ := (Int × (Int × (Int × Unit)))) (fun s1 => /-  unit kind -/
 jn (σ := (Int × Unit)) (fun s3 => /- unit -/
 K (s1.2.2.1, s3.1, ()))
 (fun J2 =>
 brB (s1.2.2.1 != (3 : Int))
 (J2 ((0 : Int), ()))
 (J2 (s1.2.1, ()))))
 (fun J0 =>
 lfp (σ := (Int × (Int × (Int × Unit)))) (fun X4 s5 => /-  unit kind -/
 brB (decide (s5.1 < (a1.len : Int)))
 (jn (σ := (Int × (Int × Unit))) (fun s7 => /- unit kind -/
 X4 ((IntKind.wrap .i64 (s5.1 + (1 : Int))), s7.1, s7.2.1, ()))
 (fun J6 =>
 sx a1.a a1.len s5.1 1 fun p8 =>
 ldT (.int .i64) p8 fun x9 =>
 callT Try.prog fn_rup_values_of #[a0, (.int .i64 x9)] (.int .i64) fun r10 =>
 brB (decide (r10 > (0 : Int)))
 (J0 (s5.1, s5.2.1, (1 : Int), ()))
 (jn (σ := Bool) (fun t12 =>
 brB t12
 (J6 (s5.2.1, s5.2.2.1, ()))
 (jn (σ := (Int × (Int × Unit))) (fun s14 => /- unit kind -/
 J6 (s14.1, s14.2.1, ()))
 (fun J13 =>
 brB (s5.2.1 == (0 : Int))
 (J13 (x9, (3 : Int), ()))
 (J13 (s5.2.1, (4 : Int), ())))))
 (fun J11 =>
 brB (decide (r10 < (0 : Int)))
 (J11 true)
 (J11 ((x9 == s5.2.1)))))))
 (J0 (s5.1, s5.2.1, s5.2.2.1, ())))
 ((0 : Int), (0 : Int), (2 : Int), ()))
set_option maxRecDepth 100000 in
theorem E_rup_values_look (a0 : Value) (a1 : Sl) (K : (Int × (Int × Unit)) → HP) (h : Heap) : fnVC Try.prog [(1000000, .bool)] 40 Try.f29 [a0, (.slice a1.a a1.len a1.cap)] (.tup (.cons (.int .u8) (.cons (.int .i64) .nil))) K h = F_rup_values_look a0 a1 K h := by kernel_rfl
set_option maxRecDepth 100000 in
theorem S_rup_values_look{h : Heap} {a0 : Value} {a1 : Sl} (K : (Int × (Int × Unit)) → HP) (hF : F_rup_values_look a0 a1 K h) : CallsH Try.prog fn_rup_values_look #[a0, (.slice a1.a a1.len a1.cap)] h fun v h' => ∃ x : (Int × (Int × Unit)), v = Ty.enc (.tup (.cons (.int .u8) (.cons (.int .i64) .nil))) x ∧ K x h' :=
  callsH_of_fn (P := Try.prog) (fn := Try.f29) (τ := (.tup (.cons (.int .u8) (.cons (.int .i64) .nil)))) follows Try.func29 (by kernel_rfl) (by kernel_rfl) Try.call29 (Eq.mpr (E_rup_values_look a0 a1 K h) hF)

def F_slices_Index_lits_Lit_lits_Lit (a0 : Sl) (a1 : Int) (K : Int → HP) : HP :=
 lfp (σ := (Int × (Int × Unit))) (fun X0 s1 => /-   -/
 brB (decide (s1.1 < (a0.len : Int)))
 (sx a0.a a0.len s1.1 1 fun p2 =>
 ldT (.int .i64) p2 fun x3 =>
 brB (a1 == x3)
 (K s1.1)
 (X0 ((IntKind.wrap .i64 (s1.1 + (1 : Int))), s1.2.1, ())))
 (K (-1 : Int)))
 ((0 : Int), (0 : Int), ())
set_option maxRecDepth 100000 in
theorem E_slices_Index_lits_Lit_lits_Lit (a0 : Sl) (a1 : Int) (K : Int → HP) (h : Heap) : fnVC Try.prog [(1000000, .nil)] 19 Try.f30 [(.slice a0.a a0.len a0.cap), (.int .i64 a1)] (.int .i64) K h = F_slices_Index_lits_Lit_lits_Lit a0 a1 K h := by kernel_rfl
set_option maxRecDepth 100000 in
theorem S_slices_Index_lits_Lit_lits_Lit{h : Heap} {a0 : Sl} {a1 : Int} (K : Int → HP) (hF : F_slices_Index_lits_Lit_lits_Lit a0 a1 K h) : CallsH Try.prog fn_slices_Index_lits_Lit_lits_Lit #[(.slice a0.a a0.len a0.cap), (.int .i64 a1)] h fun v h' => ∃ x : Int, v = Ty.enc (.int .i64) x ∧ K x h' :=
  callsH_of_fn (P := Try.prog) (fn := Try.f30) (τ := (.int .i64)) follows Try.func30 (by kernel_rfl) (by kernel_rfl) Try.call30 (Eq.mpr (E_slices_Index_lits_Lit_lits_Lit a0 a1 K h) hF)

def F_slices_ContainsFunc_int_int (a0 : Sl) (a1 : Value) (K : Bool → HP) : HP :=
 callT Try.prog fn_slices_IndexFunc_int_int #[(.slice a0.a a0.len a0.cap), a1] (.int .i64) fun r0 =>
 K (decide (r0 ≥ (0 : Int)))
set_option maxRecDepth 100000 in
theorem E_slices_ContainsFunc_int_int (a0 : Sl) (a1 : Value) (K : Bool → HP) (h : Heap) : fnVC Try.prog [(1000000, .nil)] 9 Try.f31 [(.slice a0.a a0.len a0.cap), a1] .bool K h = F_slices_ContainsFunc_int_int a0 a1 K h := by kernel_rfl
set_option maxRecDepth 100000 in
theorem S_slices_ContainsFunc_int_int{h : Heap} {a0 : Sl} {a1 : Value} (K : Bool → HP) (hF : F_slices_ContainsFunc_int_int a0 a1 K h) : CallsH Try.prog fn_slices_ContainsFunc_int_int #[(.slice a0.a a0.len a0.cap), a1] h fun v h' => ∃ x : Bool, v = Ty.enc .bool x ∧ K x h' :=
  callsH_of_fn (P := Try.prog) (fn := Try.f31) (τ := .bool) follows Try.func31 (by kernel_rfl) (by kernel_rfl) Try.call31 (Eq.mpr (E_slices_ContainsFunc_int_int a0 a1 K h) hF)

def F_rat_Join_1 (a0 : Int) (K : Bool → HP) : HP :=
 jn (σ := Bool) (fun t1 =>
 K t1)
 (fun J0 =>
 brB (decide (a0 < (1 : Int)))
 (J0 true)
 (J0 ((decide (a0 > (1073741824 : Int))))))
set_option maxRecDepth 100000 in
theorem E_rat_Join_1 (a0 : Int) (K : Bool → HP) (h : Heap) : fnVC Try.prog [(1000000, .bool)] 9 Try.f32 [(.int .i64 a0)] .bool K h = F_rat_Join_1 a0 K h := by kernel_rfl
set_option maxRecDepth 100000 in
theorem S_rat_Join_1{h : Heap} {a0 : Int} (K : Bool → HP) (hF : F_rat_Join_1 a0 K h) : CallsH Try.prog fn_rat_Join_1 #[(.int .i64 a0)] h fun v h' => ∃ x : Bool, v = Ty.enc .bool x ∧ K x h' :=
  callsH_of_fn (P := Try.prog) (fn := Try.f32) (τ := .bool) follows Try.func32 (by kernel_rfl) (by kernel_rfl) Try.call32 (Eq.mpr (E_rat_Join_1 a0 K h) hF)

def F_slices_EqualFunc_rat_Group_rat_Group_rat_Group_rat_Group (a0 : Sl) (a1 : Sl) (a2 : Value) (K : Bool → HP) : HP :=
 brB ((a0.len : Int) != (a1.len : Int))
 (K false)
 (lfp (σ := (Int × (Bool × Unit))) (fun X0 s1 => /-   -/
 brB (decide (s1.1 < (a0.len : Int)))
 (sx a0.a a0.len s1.1 2 fun p2 =>
 ldA (.cons (.int .i64) (.cons .sl .nil)) p2 fun x3 =>
 nw #[(.int .i64 (0 : Int)), (.slice none 0 0)] ty_rat_Group fun b4 =>
 st1 (⟨b4, 0, none⟩ : Addr) (.int .i64 x3.1) <|
 st1 ((⟨b4, 0, none⟩ : Addr).add 1) (.slice x3.2.1.a x3.2.1.len x3.2.1.cap) <|
 sx a1.a a1.len s1.1 2 fun p5 =>
 ldA (.cons (.int .i64) (.cons .sl .nil)) p5 fun x6 =>
 nw #[(.int .i64 (0 : Int)), (.slice none 0 0)] ty_rat_Group fun b7 =>
 st1 (⟨b7, 0, none⟩ : Addr) (.int .i64 x6.1) <|
 st1 ((⟨b7, 0, none⟩ : Addr).add 1) (.slice x6.2.1.a x6.2.1.len x6.2.1.cap) <|
 ldA (.cons (.int .i64) (.cons .sl .nil)) (⟨b4, 0, none⟩ : Addr) fun x8 =>
 ldA (.cons (.int .i64) (.cons .sl .nil)) (⟨b7, 0, none⟩ : Addr) fun x9 =>
 callF Try.prog a2 #[(.agg #[(.int .i64 x8.1), (.slice x8.2.1.a x8.2.1.len x8.2.1.cap)]), (.agg #[(.int .i64 x9.1), (.slice x9.2.1.a x9.2.1.len x9.2.1.cap)])] .bool fun r10 =>
 brB (!r10)
 (K false)
 (X0 ((IntKind.wrap .i64 (s1.1 + (1 : Int))), s1.2.1, ())))
 (K true))
 ((0 : Int), false, ()))
set_option maxRecDepth 100000 in
theorem E_slices_EqualFunc_rat_Group_rat_Group_rat_Group_rat_Group (a0 : Sl) (a1 : Sl) (a2 : Value) (K : Bool → HP) (h : Heap) : fnVC Try.prog [(1000000, .nil)] 32 Try.f33 [(.slice a0.a a0.len a0.cap), (.slice a1.a a1.len a1.cap), a2] .bool K h = F_slices_EqualFunc_rat_Group_rat_Group_rat_Group_rat_Group a0 a1 a2 K h := by kernel_rfl
set_option maxRecDepth 100000 in
theorem S_slices_EqualFunc_rat_Group_rat_Group_rat_Group_rat_Group{h : Heap} {a0 : Sl} {a1 : Sl} {a2 : Value} (K : Bool → HP) (hF : F_slices_EqualFunc_rat_Group_rat_Group_rat_Group_rat_Group a0 a1 a2 K h) : CallsH Try.prog fn_slices_EqualFunc_rat_Group_rat_Group_rat_Group_rat_Group #[(.slice a0.a a0.len a0.cap), (.slice a1.a a1.len a1.cap), a2] h fun v h' => ∃ x : Bool, v = Ty.enc .bool x ∧ K x h' :=
  callsH_of_fn (P := Try.prog) (fn := Try.f33) (τ := .bool) follows Try.func33 (by kernel_rfl) (by kernel_rfl) Try.call33 (Eq.mpr (E_slices_EqualFunc_rat_Group_rat_Group_rat_Group_rat_Group a0 a1 a2 K h) hF)

def F_salvorlaw09_sameGroups_1 (a0 : (Int × (Sl × Unit))) (a1 : (Int × (Sl × Unit))) (K : Bool → HP) : HP :=
 nw #[(.int .i64 a0.1), (.slice a0.2.1.a a0.2.1.len a0.2.1.cap)] ty_rat_Group fun b0 =>
 nw #[(.int .i64 a1.1), (.slice a1.2.1.a a1.2.1.len a1.2.1.cap)] ty_rat_Group fun b1 =>
 ldT (.int .i64) (⟨b0, 0, none⟩ : Addr) fun x2 =>
 ldT (.int .i64) (⟨b1, 0, none⟩ : Addr) fun x3 =>
 jn (σ := Bool) (fun t5 =>
 K t5)
 (fun J4 =>
 brB (x2 == x3)
 (ldT .sl ((⟨b0, 0, none⟩ : Addr).add 1) fun x6 =>
 ldT .sl ((⟨b1, 0, none⟩ : Addr).add 1) fun x7 =>
 callT Try.prog fn_slices_Equal_int_int #[(.slice x6.a x6.len x6.cap), (.slice x7.a x7.len x7.cap)] .bool fun r8 =>
 J4 (r8))
 (J4 false))
set_option maxRecDepth 100000 in
theorem E_salvorlaw09_sameGroups_1 (a0 : (Int × (Sl × Unit))) (a1 : (Int × (Sl × Unit))) (K : Bool → HP) (h : Heap) : fnVC Try.prog [(1000000, .bool)] 17 Try.f34 [(.agg #[(.int .i64 a0.1), (.slice a0.2.1.a a0.2.1.len a0.2.1.cap)]), (.agg #[(.int .i64 a1.1), (.slice a1.2.1.a a1.2.1.len a1.2.1.cap)])] .bool K h = F_salvorlaw09_sameGroups_1 a0 a1 K h := by kernel_rfl
set_option maxRecDepth 100000 in
theorem S_salvorlaw09_sameGroups_1{h : Heap} {a0 : (Int × (Sl × Unit))} {a1 : (Int × (Sl × Unit))} (K : Bool → HP) (hF : F_salvorlaw09_sameGroups_1 a0 a1 K h) : CallsH Try.prog fn_salvorlaw09_sameGroups_1 #[(.agg #[(.int .i64 a0.1), (.slice a0.2.1.a a0.2.1.len a0.2.1.cap)]), (.agg #[(.int .i64 a1.1), (.slice a1.2.1.a a1.2.1.len a1.2.1.cap)])] h fun v h' => ∃ x : Bool, v = Ty.enc .bool x ∧ K x h' :=
  callsH_of_fn (P := Try.prog) (fn := Try.f34) (τ := .bool) follows Try.func34 (by kernel_rfl) (by kernel_rfl) Try.call34 (Eq.mpr (E_salvorlaw09_sameGroups_1 a0 a1 K h) hF)

def F_rup_Assume (a0 : Sl) (K : (Sl × (Bool × (Int × Unit))) → HP) : HP :=
 callT Try.prog fn_clauses_Norm #[(.slice a0.a a0.len a0.cap)] (.tup (.cons .sl (.cons .bool (.cons (.int .i64) .nil)))) fun r0 =>
 jn (σ := Bool) (fun t2 =>
 brB t2
 (K (⟨none, 0, 0⟩, r0.2.1, r0.2.2.1, ()))
 (lfp (σ := (Int × (Sl × Unit))) (fun X3 s4 => /-  out -/
 brB (decide (s4.1 < (r0.1.len : Int)))
 (sx r0.1.a r0.1.len s4.1 1 fun p5 =>
 ldT (.int .i64) p5 fun x6 =>
 callT Try.prog fn_lits_Neg #[(.int .i64 x6)] (.int .i64) fun r7 =>
 nw #[(.int .i64 r7)] ty_lits_Lit fun b8 =>
 apd ty_lits_Lit 1 8 #[(.int .i64 (0 : Int))] ⟨s4.2.1.a, s4.2.1.len, s4.2.1.cap⟩ ⟨(some (⟨b8, 0, none⟩ : Addr)), 1, 1⟩ fun s9 =>
 X3 ((IntKind.wrap .i64 (s4.1 + (1 : Int))), ⟨s9.a, s9.len, s9.cap⟩, ()))
 (callT Try.prog fn_slices_SortFunc_lits_Lit_lits_Lit #[(.slice s4.2.1.a s4.2.1.len s4.2.1.cap), (.func (.func fn_lits_Compare) #[] #[])] (.tup .nil) fun r10 =>
 K (⟨s4.2.1.a, s4.2.1.len, s4.2.1.cap⟩, false, (0 : Int), ())))
 ((0 : Int), ⟨none, 0, 0⟩, ())))
 (fun J1 =>
 brB (r0.2.2.1 != (0 : Int))
 (J1 true)
 (J1 (r0.2.1)))
set_option maxRecDepth 100000 in
theorem E_rup_Assume (a0 : Sl) (K : (Sl × (Bool × (Int × Unit))) → HP) (h : Heap) : fnVC Try.prog [(1000000, .bool)] 39 Try.f41 [(.slice a0.a a0.len a0.cap)] (.tup (.cons .sl (.cons .bool (.cons (.int .i64) .nil)))) K h = F_rup_Assume a0 K h := by kernel_rfl
set_option maxRecDepth 100000 in
theorem S_rup_Assume{h : Heap} {a0 : Sl} (K : (Sl × (Bool × (Int × Unit))) → HP) (hF : F_rup_Assume a0 K h) : CallsH Try.prog fn_rup_Assume #[(.slice a0.a a0.len a0.cap)] h fun v h' => ∃ x : (Sl × (Bool × (Int × Unit))), v = Ty.enc (.tup (.cons .sl (.cons .bool (.cons (.int .i64) .nil)))) x ∧ K x h' :=
  callsH_of_fn (P := Try.prog) (fn := Try.f41) (τ := (.tup (.cons .sl (.cons .bool (.cons (.int .i64) .nil))))) follows Try.func41 (by kernel_rfl) (by kernel_rfl) Try.call41 (Eq.mpr (E_rup_Assume a0 K h) hF)

def F_rat_candidates (a0 : Sl) (a1 : Int) (K : Value → HP) : HP :=
 nw #[(.slice a0.a a0.len a0.cap)] ty_sl_rat_Entry fun b0 =>
 nw #[(.int .i64 a1)] ty_lits_Lit fun b1 =>
 K (.func (.func fn_rat_candidates_1) #[] #[(.pointer (some (⟨b0, 0, none⟩ : Addr))), (.pointer (some (⟨b1, 0, none⟩ : Addr)))])
set_option maxRecDepth 100000 in
theorem E_rat_candidates (a0 : Sl) (a1 : Int) (K : Value → HP) (h : Heap) : fnVC Try.prog [(1000000, .bool)] 6 Try.f43 [(.slice a0.a a0.len a0.cap), (.int .i64 a1)] .val K h = F_rat_candidates a0 a1 K h := by kernel_rfl
set_option maxRecDepth 100000 in
theorem S_rat_candidates{h : Heap} {a0 : Sl} {a1 : Int} (K : Value → HP) (hF : F_rat_candidates a0 a1 K h) : CallsH Try.prog fn_rat_candidates #[(.slice a0.a a0.len a0.cap), (.int .i64 a1)] h fun v h' => ∃ x : Value, v = Ty.enc .val x ∧ K x h' :=
  callsH_of_fn (P := Try.prog) (fn := Try.f43) (τ := .val) follows Try.func43 (by kernel_rfl) (by kernel_rfl) Try.call43 (Eq.mpr (E_rat_candidates a0 a1 K h) hF)

def F_rat_rest (a0 : Sl) (a1 : Int) (a2 : Sl) (K : (Sl × (Bool × Unit)) → HP) : HP :=
 lfp (σ := (Int × (Sl × (Bool × (Sl × Unit))))) (fun X0 s1 => /-  out   -/
 brB (decide (s1.1 < (a0.len : Int)))
 (jn (σ := (Sl × (Bool × (Sl × Unit)))) (fun s3 => /- out   -/
 X0 ((IntKind.wrap .i64 (s1.1 + (1 : Int))), ⟨s3.1.a, s3.1.len, s3.1.cap⟩, s3.2.1, ⟨s3.2.2.1.a, s3.2.2.1.len, s3.2.2.1.cap⟩, ()))
 (fun J2 =>
 sx a0.a a0.len s1.1 1 fun p4 =>
 ldT (.int .i64) p4 fun x5 =>
 callT Try.prog fn_lits_Neg #[(.int .i64 a1)] (.int .i64) fun r6 =>
 brB (x5 == r6)
 (J2 (⟨s1.2.1.a, s1.2.1.len, s1.2.1.cap⟩, s1.2.2.1, ⟨s1.2.2.2.1.a, s1.2.2.2.1.len, s1.2.2.2.1.cap⟩, ()))
 (callT Try.prog fn_slices_Contains_lits_Lit_lits_Lit #[(.slice a2.a a2.len a2.cap), (.int .i64 x5)] .bool fun r7 =>
 brB r7
 (K (⟨none, 0, 0⟩, false, ()))
 (callT Try.prog fn_lits_Neg #[(.int .i64 x5)] (.int .i64) fun r8 =>
 nw #[(.int .i64 r8)] ty_lits_Lit fun b9 =>
 apd ty_lits_Lit 1 8 #[(.int .i64 (0 : Int))] ⟨s1.2.1.a, s1.2.1.len, s1.2.1.cap⟩ ⟨(some (⟨b9, 0, none⟩ : Addr)), 1, 1⟩ fun s10 =>
 J2 (⟨s10.a, s10.len, s10.cap⟩, s1.2.2.1, ⟨s1.2.2.2.1.a, s1.2.2.2.1.len, s1.2.2.2.1.cap⟩, ())))))
 (K (⟨s1.2.1.a, s1.2.1.len, s1.2.1.cap⟩, true, ())))
 ((0 : Int), ⟨none, 0, 0⟩, false, ⟨none, 0, 0⟩, ())
set_option maxRecDepth 100000 in
theorem E_rat_rest (a0 : Sl) (a1 : Int) (a2 : Sl) (K : (Sl × (Bool × Unit)) → HP) (h : Heap) : fnVC Try.prog [(1000000, .bool)] 33 Try.f44 [(.slice a0.a a0.len a0.cap), (.int .i64 a1), (.slice a2.a a2.len a2.cap)] (.tup (.cons .sl (.cons .bool .nil))) K h = F_rat_rest a0 a1 a2 K h := by kernel_rfl
set_option maxRecDepth 100000 in
theorem S_rat_rest{h : Heap} {a0 : Sl} {a1 : Int} {a2 : Sl} (K : (Sl × (Bool × Unit)) → HP) (hF : F_rat_rest a0 a1 a2 K h) : CallsH Try.prog fn_rat_rest #[(.slice a0.a a0.len a0.cap), (.int .i64 a1), (.slice a2.a a2.len a2.cap)] h fun v h' => ∃ x : (Sl × (Bool × Unit)), v = Ty.enc (.tup (.cons .sl (.cons .bool .nil))) x ∧ K x h' :=
  callsH_of_fn (P := Try.prog) (fn := Try.f44) (τ := (.tup (.cons .sl (.cons .bool .nil)))) follows Try.func44 (by kernel_rfl) (by kernel_rfl) Try.call44 (Eq.mpr (E_rat_rest a0 a1 a2 K h) hF)

def F_slices_Concat_lits_Lit_lits_Lit (a0 : Sl) (K : Sl → HP) : HP :=
 lfp (σ := (Int × (Int × Unit))) (fun X0 s1 => /-  size -/
 brB (decide (s1.1 < (a0.len : Int)))
 (sx a0.a a0.len s1.1 1 fun p2 =>
 ldT .sl p2 fun x3 =>
 jn (σ := Unit) (fun s5 => /- -/
 X0 ((IntKind.wrap .i64 (s1.1 + (1 : Int))), (IntKind.wrap .i64 (s1.2.1 + (x3.len : Int))), ()))
 (fun J4 =>
 brB (decide ((IntKind.wrap .i64 (s1.2.1 + (x3.len : Int))) < (0 : Int)))
 (fF /- not known -/)
 (J4 (()))))
 (callT Try.prog fn_slices_Grow_lits_Lit_lits_Lit #[(.slice none 0 0), (.int .i64 s1.2.1)] .sl fun r6 =>
 lfp (σ := (Int × (Sl × Unit))) (fun X7 s8 => /-  newslice -/
 brB (decide (s8.1 < (a0.len : Int)))
 (sx a0.a a0.len s8.1 1 fun p9 =>
 ldT .sl p9 fun x10 =>
 apd ty_lits_Lit 1 8 #[(.int .i64 (0 : Int))] ⟨s8.2.1.a, s8.2.1.len, s8.2.1.cap⟩ ⟨x10.a, x10.len, x10.cap⟩ fun s11 =>
 X7 ((IntKind.wrap .i64 (s8.1 + (1 : Int))), ⟨s11.a, s11.len, s11.cap⟩, ()))
 (K ⟨s8.2.1.a, s8.2.1.len, s8.2.1.cap⟩))
 ((0 : Int), ⟨r6.a, r6.len, r6.cap⟩, ())))
 ((0 : Int), (0 : Int), ())
set_option maxRecDepth 100000 in
theorem E_slices_Concat_lits_Lit_lits_Lit (a0 : Sl) (K : Sl → HP) (h : Heap) : fnVC Try.prog [(1000000, .nil)] 36 Try.f45 [(.slice a0.a a0.len a0.cap)] .sl K h = F_slices_Concat_lits_Lit_lits_Lit a0 K h := by kernel_rfl
set_option maxRecDepth 100000 in
theorem S_slices_Concat_lits_Lit_lits_Lit{h : Heap} {a0 : Sl} (K : Sl → HP) (hF : F_slices_Concat_lits_Lit_lits_Lit a0 K h) : CallsH Try.prog fn_slices_Concat_lits_Lit_lits_Lit #[(.slice a0.a a0.len a0.cap)] h fun v h' => ∃ x : Sl, v = Ty.enc .sl x ∧ K x h' :=
  callsH_of_fn (P := Try.prog) (fn := Try.f45) (τ := .sl) follows Try.func45 (by kernel_rfl) (by kernel_rfl) Try.call45 (Eq.mpr (E_slices_Concat_lits_Lit_lits_Lit a0 K h) hF)

def F_rat_follow (a0 : Sl) (a1 : Sl) (a2 : Sl) (K : (Sl × (Bool × (Int × (Int × Unit)))) → HP) : HP :=
 lfp (σ := (Int × (Int × (Int × (Bool × (Sl × (Sl × Unit))))))) (fun X0 s1 => /-      assigned -/
 brB (decide (s1.1 < (a2.len : Int)))
 (sx a2.a a2.len s1.1 1 fun p2 =>
 ldT (.int .i64) p2 fun x3 =>
 callT Try.prog fn_rat_find #[(.slice a0.a a0.len a0.cap), (.int .i64 x3)] (.tup (.cons (.int .i64) (.cons .bool .nil))) fun r4 =>
 brB (!r4.2.1)
 (K (⟨none, 0, 0⟩, false, x3, (91 : Int), ()))
 (sx a0.a a0.len r4.1 2 fun p5 =>
 ldT .sl (p5.add 1) fun x6 =>
 callT Try.prog fn_rup_Look #[(.slice x6.a x6.len x6.cap), (.slice s1.2.2.2.2.2.1.a s1.2.2.2.2.2.1.len s1.2.2.2.2.2.1.cap)] (.tup (.cons (.int .u8) (.cons (.int .i64) (.cons (.int .i64) .nil)))) fun r7 =>
 brB (r7.1 == (2 : Int))
 (K (⟨s1.2.2.2.2.2.1.a, s1.2.2.2.2.2.1.len, s1.2.2.2.2.2.1.cap⟩, true, (0 : Int), (0 : Int), ()))
 (brB (r7.1 == (3 : Int))
 (callT Try.prog fn_slices_Clip_lits_Lit_lits_Lit #[(.slice s1.2.2.2.2.2.1.a s1.2.2.2.2.2.1.len s1.2.2.2.2.2.1.cap)] .sl fun r8 =>
 nw #[(.int .i64 r7.2.1)] ty_lits_Lit fun b9 =>
 apd ty_lits_Lit 1 8 #[(.int .i64 (0 : Int))] ⟨r8.a, r8.len, r8.cap⟩ ⟨(some (⟨b9, 0, none⟩ : Addr)), 1, 1⟩ fun s10 =>
 X0 ((IntKind.wrap .i64 (s1.1 + (1 : Int))), s1.2.1, s1.2.2.1, s1.2.2.2.1, ⟨s1.2.2.2.2.1.a, s1.2.2.2.2.1.len, s1.2.2.2.2.1.cap⟩, ⟨s10.a, s10.len, s10.cap⟩, ()))
 (K (⟨none, 0, 0⟩, false, x3, (81 : Int), ())))))
 (K (⟨s1.2.2.2.2.2.1.a, s1.2.2.2.2.2.1.len, s1.2.2.2.2.2.1.cap⟩, false, (0 : Int), (0 : Int), ())))
 ((0 : Int), (0 : Int), (0 : Int), false, ⟨none, 0, 0⟩, ⟨a1.a, a1.len, a1.cap⟩, ())
set_option maxRecDepth 100000 in
theorem E_rat_follow (a0 : Sl) (a1 : Sl) (a2 : Sl) (K : (Sl × (Bool × (Int × (Int × Unit)))) → HP) (h : Heap) : fnVC Try.prog [(1000000, .bool)] 57 Try.f46 [(.slice a0.a a0.len a0.cap), (.slice a1.a a1.len a1.cap), (.slice a2.a a2.len a2.cap)] (.tup (.cons .sl (.cons .bool (.cons (.int .i64) (.cons (.int .i64) .nil))))) K h = F_rat_follow a0 a1 a2 K h := by kernel_rfl
set_option maxRecDepth 100000 in
theorem S_rat_follow{h : Heap} {a0 : Sl} {a1 : Sl} {a2 : Sl} (K : (Sl × (Bool × (Int × (Int × Unit)))) → HP) (hF : F_rat_follow a0 a1 a2 K h) : CallsH Try.prog fn_rat_follow #[(.slice a0.a a0.len a0.cap), (.slice a1.a a1.len a1.cap), (.slice a2.a a2.len a2.cap)] h fun v h' => ∃ x : (Sl × (Bool × (Int × (Int × Unit)))), v = Ty.enc (.tup (.cons .sl (.cons .bool (.cons (.int .i64) (.cons (.int .i64) .nil))))) x ∧ K x h' :=
  callsH_of_fn (P := Try.prog) (fn := Try.f46) (τ := (.tup (.cons .sl (.cons .bool (.cons (.int .i64) (.cons (.int .i64) .nil)))))) follows Try.func46 (by kernel_rfl) (by kernel_rfl) Try.call46 (Eq.mpr (E_rat_follow a0 a1 a2 K h) hF)

def F_rat_groups (a0 : Sl) (a1 : Int) (a2 : Sl) (K : (Int × (Int × Unit)) → HP) : HP := fun h0 => (
 nw #[(.slice a0.a a0.len a0.cap)] ty_sl_rat_Entry fun b0 =>
 nw #[(.slice none 0 0)] ty_sl_int fun b1 =>
 ldT .sl (⟨b0, 0, none⟩ : Addr) fun x2 =>
 callT Try.prog fn_rat_candidates #[(.slice x2.a x2.len x2.cap), (.int .i64 a1)] .val fun r3 =>
 RangeVC Try.prog (.cons (.int .i64) .nil) r3 (fun x4 wrap5 next6 jump7 =>
 wrap5 <|
 ldT .sl (⟨b1, 0, none⟩ : Addr) fun x8 =>
 ldT .sl (⟨b0, 0, none⟩ : Addr) fun x9 =>
 sx x9.a x9.len x4.1 2 fun p10 =>
 ldT (.int .i64) p10 fun x11 =>
 nw #[(.int .i64 x11)] ty_int fun b12 =>
 apd ty_int 1 8 #[(.int .i64 (0 : Int))] ⟨x8.a, x8.len, x8.cap⟩ ⟨(some (⟨b12, 0, none⟩ : Addr)), 1, 1⟩ fun s13 =>
 st1 (⟨b1, 0, none⟩ : Addr) (.slice s13.a s13.len s13.cap) <|
 next6)
 (ldT .sl (⟨b1, 0, none⟩ : Addr) fun x14 =>
 lfp (σ := (Int × (Int × (Int × Unit)))) (fun X15 s16 => /-    -/
 brB (decide (s16.1 < (x14.len : Int)))
 (sx x14.a x14.len s16.1 1 fun p17 =>
 ldT (.int .i64) p17 fun x18 =>
 nw #[(.int .i64 (0 : Int))] ty_int fun b19 =>
 st1 (⟨b19, 0, none⟩ : Addr) (.int .i64 x18) <|
 callT Try.prog fn_slices_ContainsFunc_rat_Group_rat_Group #[(.slice a2.a a2.len a2.cap), (.func (.func fn_rat_groups_1) #[] #[(.pointer (some (⟨b19, 0, none⟩ : Addr)))])] .bool fun r20 =>
 brB (!r20)
 (ldT (.int .i64) (⟨b19, 0, none⟩ : Addr) fun x21 =>
 mkd h0.size <|
 K (x21, (92 : Int), ()))
 (X15 ((IntKind.wrap .i64 (s16.1 + (1 : Int))), s16.2.1, s16.2.2.1, ())))
 (lfp (σ := (Int × (Int × (Int × (Int × Unit))))) (fun X22 s23 => /-  last   -/
 brB (decide (s23.1 < (a2.len : Int)))
 (sx a2.a a2.len s23.1 2 fun p24 =>
 ldA (.cons (.int .i64) (.cons .sl .nil)) p24 fun x25 =>
 nw #[(.int .i64 (0 : Int)), (.slice none 0 0)] ty_rat_Group fun b26 =>
 st1 (⟨b26, 0, none⟩ : Addr) (.int .i64 x25.1) <|
 st1 ((⟨b26, 0, none⟩ : Addr).add 1) (.slice x25.2.1.a x25.2.1.len x25.2.1.cap) <|
 ldT .sl (⟨b1, 0, none⟩ : Addr) fun x27 =>
 ldT (.int .i64) (⟨b26, 0, none⟩ : Addr) fun x28 =>
 callT Try.prog fn_slices_BinarySearch_int_int #[(.slice x27.a x27.len x27.cap), (.int .i64 x28)] (.tup (.cons (.int .i64) (.cons .bool .nil))) fun r29 =>
 jn (σ := Bool) (fun t31 =>
 brB t31
 (ldT (.int .i64) (⟨b26, 0, none⟩ : Addr) fun x32 =>
 mkd h0.size <|
 K (x32, (92 : Int), ()))
 (ldT (.int .i64) (⟨b26, 0, none⟩ : Addr) fun x33 =>
 X22 ((IntKind.wrap .i64 (s23.1 + (1 : Int))), x33, s23.2.2.1, s23.2.2.2.1, ())))
 (fun J30 =>
 brB (!r29.2.1)
 (J30 true)
 (ldT (.int .i64) (⟨b26, 0, none⟩ : Addr) fun x34 =>
 J30 ((decide (x34 ≤ s23.2.1))))))
 (mkd h0.size <|
 K ((0 : Int), (0 : Int), ())))
 ((0 : Int), (0 : Int), s16.2.1, s16.2.2.1, ())))
 ((0 : Int), (0 : Int), (0 : Int), ()))
 (mkd h0.size <|
 K ((0 : Int), (0 : Int), ()))
 []
 []) h0
set_option maxRecDepth 100000 in
theorem E_rat_groups (a0 : Sl) (a1 : Int) (a2 : Sl) (K : (Int × (Int × Unit)) → HP) (h : Heap) : fnVC Try.prog [(1000000, .bool), (20, (.cons (.int .i64) .nil))] 67 Try.f47 [(.slice a0.a a0.len a0.cap), (.int .i64 a1), (.slice a2.a a2.len a2.cap)] (.tup (.cons (.int .i64) (.cons (.int .i64) .nil))) K h = F_rat_groups a0 a1 a2 K h := by kernel_rfl
set_option maxRecDepth 100000 in
theorem S_rat_groups{h : Heap} {a0 : Sl} {a1 : Int} {a2 : Sl} (K : (Int × (Int × Unit)) → HP) (hF : F_rat_groups a0 a1 a2 K h) : CallsH Try.prog fn_rat_groups #[(.slice a0.a a0.len a0.cap), (.int .i64 a1), (.slice a2.a a2.len a2.cap)] h fun v h' => ∃ x : (Int × (Int × Unit)), v = Ty.enc (.tup (.cons (.int .i64) (.cons (.int .i64) .nil))) x ∧ K x h' :=
  callsH_of_fn (P := Try.prog) (fn := Try.f47) (τ := (.tup (.cons (.int .i64) (.cons (.int .i64) .nil)))) follows Try.func47 (by kernel_rfl) (by kernel_rfl) Try.call47 (Eq.mpr (E_rat_groups a0 a1 a2 K h) hF)

def F_rat_find (a0 : Sl) (a1 : Int) (K : (Int × (Bool × Unit)) → HP) : HP :=
 callT Try.prog fn_slices_BinarySearchFunc_rat_Entry_rat_Entry_int #[(.slice a0.a a0.len a0.cap), (.int .i64 a1), (.func (.func fn_rat_find_1) #[] #[])] (.tup (.cons (.int .i64) (.cons .bool .nil))) fun r0 =>
 K (r0.1, r0.2.1, ())
set_option maxRecDepth 100000 in
theorem E_rat_find (a0 : Sl) (a1 : Int) (K : (Int × (Bool × Unit)) → HP) (h : Heap) : fnVC Try.prog [(1000000, .bool)] 11 Try.f48 [(.slice a0.a a0.len a0.cap), (.int .i64 a1)] (.tup (.cons (.int .i64) (.cons .bool .nil))) K h = F_rat_find a0 a1 K h := by kernel_rfl
set_option maxRecDepth 100000 in
theorem S_rat_find{h : Heap} {a0 : Sl} {a1 : Int} (K : (Int × (Bool × Unit)) → HP) (hF : F_rat_find a0 a1 K h) : CallsH Try.prog fn_rat_find #[(.slice a0.a a0.len a0.cap), (.int .i64 a1)] h fun v h' => ∃ x : (Int × (Bool × Unit)), v = Ty.enc (.tup (.cons (.int .i64) (.cons .bool .nil))) x ∧ K x h' :=
  callsH_of_fn (P := Try.prog) (fn := Try.f48) (τ := (.tup (.cons (.int .i64) (.cons .bool .nil)))) follows Try.func48 (by kernel_rfl) (by kernel_rfl) Try.call48 (Eq.mpr (E_rat_find a0 a1 K h) hF)

def F_lits_Right (a0 : Int) (K : Bool → HP) : HP :=
 brB (a0 != (0 : Int))
 (brB (decide (a0 ≥ (-1048576 : Int)))
 (K (decide (a0 ≤ (1048576 : Int))))
 (K false))
 (K false)
set_option maxRecDepth 100000 in
theorem E_lits_Right (a0 : Int) (K : Bool → HP) (h : Heap) : fnVC Try.prog [(1000000, .nil)] 13 Try.f49 [(.int .i64 a0)] .bool K h = F_lits_Right a0 K h := by kernel_rfl
set_option maxRecDepth 100000 in
theorem S_lits_Right{h : Heap} {a0 : Int} (K : Bool → HP) (hF : F_lits_Right a0 K h) : CallsH Try.prog fn_lits_Right #[(.int .i64 a0)] h fun v h' => ∃ x : Bool, v = Ty.enc .bool x ∧ K x h' :=
  callsH_of_fn (P := Try.prog) (fn := Try.f49) (τ := .bool) follows Try.func49 (by kernel_rfl) (by kernel_rfl) Try.call49 (Eq.mpr (E_lits_Right a0 K h) hF)

def F_rup_values_of (a0 : Value) (a1 : Int) (K : Int → HP) : HP :=
 callT Try.prog fn_lits_Var #[(.int .i64 a1)] (.int .i64) fun r0 =>
 mget (.int .i64) .i64 (.int .i64 (0 : Int)) a0 r0 fun x1 =>
 callT Try.prog fn_lits_Negated #[(.int .i64 a1)] .bool fun r2 =>
 brB r2
 (K (IntKind.wrap .i64 (0 - x1)))
 (K x1)
set_option maxRecDepth 100000 in
theorem E_rup_values_of (a0 : Value) (a1 : Int) (K : Int → HP) (h : Heap) : fnVC Try.prog [(1000000, .bool)] 15 Try.f50 [a0, (.int .i64 a1)] (.int .i64) K h = F_rup_values_of a0 a1 K h := by kernel_rfl
set_option maxRecDepth 100000 in
theorem S_rup_values_of{h : Heap} {a0 : Value} {a1 : Int} (K : Int → HP) (hF : F_rup_values_of a0 a1 K h) : CallsH Try.prog fn_rup_values_of #[a0, (.int .i64 a1)] h fun v h' => ∃ x : Int, v = Ty.enc (.int .i64) x ∧ K x h' :=
  callsH_of_fn (P := Try.prog) (fn := Try.f50) (τ := (.int .i64)) follows Try.func50 (by kernel_rfl) (by kernel_rfl) Try.call50 (Eq.mpr (E_rup_values_of a0 a1 K h) hF)

def F_rup_values_put (a0 : Value) (a1 : Int) (K : Unit → HP) : HP :=
 callT Try.prog fn_lits_Var #[(.int .i64 a1)] (.int .i64) fun r0 =>
 mput .i64 a0 r0 (.int .i64 (1 : Int)) <|
 callT Try.prog fn_lits_Negated #[(.int .i64 a1)] .bool fun r1 =>
 jn (σ := Unit) (fun s3 => /- -/
 K (()))
 (fun J2 =>
 brB r1
 (callT Try.prog fn_lits_Var #[(.int .i64 a1)] (.int .i64) fun r4 =>
 mput .i64 a0 r4 (.int .i64 (-1 : Int)) <|
 J2 (()))
 (J2 (())))
set_option maxRecDepth 100000 in
theorem E_rup_values_put (a0 : Value) (a1 : Int) (K : Unit → HP) (h : Heap) : fnVC Try.prog [(1000000, .bool)] 12 Try.f51 [a0, (.int .i64 a1)] (.tup .nil) K h = F_rup_values_put a0 a1 K h := by kernel_rfl
set_option maxRecDepth 100000 in
theorem S_rup_values_put{h : Heap} {a0 : Value} {a1 : Int} (K : Unit → HP) (hF : F_rup_values_put a0 a1 K h) : CallsH Try.prog fn_rup_values_put #[a0, (.int .i64 a1)] h fun v h' => ∃ x : Unit, v = Ty.enc (.tup .nil) x ∧ K x h' :=
  callsH_of_fn (P := Try.prog) (fn := Try.f51) (τ := (.tup .nil)) follows Try.func51 (by kernel_rfl) (by kernel_rfl) Try.call51 (Eq.mpr (E_rup_values_put a0 a1 K h) hF)

def F_slices_ContainsFunc_clauses_Clause_lits_Lit (a0 : Sl) (a1 : Value) (K : Bool → HP) : HP :=
 callT Try.prog fn_slices_IndexFunc_clauses_Clause_lits_Lit #[(.slice a0.a a0.len a0.cap), a1] (.int .i64) fun r0 =>
 K (decide (r0 ≥ (0 : Int)))
set_option maxRecDepth 100000 in
theorem E_slices_ContainsFunc_clauses_Clause_lits_Lit (a0 : Sl) (a1 : Value) (K : Bool → HP) (h : Heap) : fnVC Try.prog [(1000000, .nil)] 9 Try.f52 [(.slice a0.a a0.len a0.cap), a1] .bool K h = F_slices_ContainsFunc_clauses_Clause_lits_Lit a0 a1 K h := by kernel_rfl
set_option maxRecDepth 100000 in
theorem S_slices_ContainsFunc_clauses_Clause_lits_Lit{h : Heap} {a0 : Sl} {a1 : Value} (K : Bool → HP) (hF : F_slices_ContainsFunc_clauses_Clause_lits_Lit a0 a1 K h) : CallsH Try.prog fn_slices_ContainsFunc_clauses_Clause_lits_Lit #[(.slice a0.a a0.len a0.cap), a1] h fun v h' => ∃ x : Bool, v = Ty.enc .bool x ∧ K x h' :=
  callsH_of_fn (P := Try.prog) (fn := Try.f52) (τ := .bool) follows Try.func52 (by kernel_rfl) (by kernel_rfl) Try.call52 (Eq.mpr (E_slices_ContainsFunc_clauses_Clause_lits_Lit a0 a1 K h) hF)

def F_clauses_wrong (a0 : Int) (K : Bool → HP) : HP :=
 callT Try.prog fn_lits_Right #[(.int .i64 a0)] .bool fun r0 =>
 K (!r0)
set_option maxRecDepth 100000 in
theorem E_clauses_wrong (a0 : Int) (K : Bool → HP) (h : Heap) : fnVC Try.prog [(1000000, .nil)] 6 Try.f53 [(.int .i64 a0)] .bool K h = F_clauses_wrong a0 K h := by kernel_rfl
set_option maxRecDepth 100000 in
theorem S_clauses_wrong{h : Heap} {a0 : Int} (K : Bool → HP) (hF : F_clauses_wrong a0 K h) : CallsH Try.prog fn_clauses_wrong #[(.int .i64 a0)] h fun v h' => ∃ x : Bool, v = Ty.enc .bool x ∧ K x h' :=
  callsH_of_fn (P := Try.prog) (fn := Try.f53) (τ := .bool) follows Try.func53 (by kernel_rfl) (by kernel_rfl) Try.call53 (Eq.mpr (E_clauses_wrong a0 K h) hF)

def F_slices_IndexFunc_int_int (a0 : Sl) (a1 : Value) (K : Int → HP) : HP :=
 lfp (σ := (Int × (Int × Unit))) (fun X0 s1 => /-   -/
 brB (decide (s1.1 < (a0.len : Int)))
 (sx a0.a a0.len s1.1 1 fun p2 =>
 ldT (.int .i64) p2 fun x3 =>
 callF Try.prog a1 #[(.int .i64 x3)] .bool fun r4 =>
 brB r4
 (K s1.1)
 (X0 ((IntKind.wrap .i64 (s1.1 + (1 : Int))), s1.2.1, ())))
 (K (-1 : Int)))
 ((0 : Int), (0 : Int), ())
set_option maxRecDepth 100000 in
theorem E_slices_IndexFunc_int_int (a0 : Sl) (a1 : Value) (K : Int → HP) (h : Heap) : fnVC Try.prog [(1000000, .nil)] 19 Try.f54 [(.slice a0.a a0.len a0.cap), a1] (.int .i64) K h = F_slices_IndexFunc_int_int a0 a1 K h := by kernel_rfl
set_option maxRecDepth 100000 in
theorem S_slices_IndexFunc_int_int{h : Heap} {a0 : Sl} {a1 : Value} (K : Int → HP) (hF : F_slices_IndexFunc_int_int a0 a1 K h) : CallsH Try.prog fn_slices_IndexFunc_int_int #[(.slice a0.a a0.len a0.cap), a1] h fun v h' => ∃ x : Int, v = Ty.enc (.int .i64) x ∧ K x h' :=
  callsH_of_fn (P := Try.prog) (fn := Try.f54) (τ := (.int .i64)) follows Try.func54 (by kernel_rfl) (by kernel_rfl) Try.call54 (Eq.mpr (E_slices_IndexFunc_int_int a0 a1 K h) hF)

end Go.Proofs.S
