/- The functions of the seat, each as a predicate over its values, printed by a program of ours, and that each is its text's. -/
import Derived.Test.YtjkgncibelojnaaGreatSx10
import Derived.KernelRfl
import Derived.Test.YtjkgncibelojnaaGreatProg
import Derived.Test.YtjkgncibelojnaaGreatClF0
set_option linter.unusedVariables false
namespace Go.Proofs.S
open Go Go.Sx Go.Proofs
def F_salvorlaw09_RatKeeps (a0 : Sl) (a1 : Sl) (a2 : Sl) (a3 : Sl) (K : Bool → HP) : HP :=
 callT Tryz.prog fn_salvorlaw09_awake #[] .bool fun r0 =>
 brB (!r0)
 (K false)
 (callT Tryz.prog fn_salvorlaw09_Made #[(.slice a0.a a0.len a0.cap), (.slice none 0 0), (.int .i64 (12 : Int))] .sl fun r1 =>
 callT Tryz.prog fn_salvorlaw08_Made #[(.slice a1.a a1.len a1.cap)] .sl fun r2 =>
 callT Tryz.prog fn_rat_Search #[(.slice r1.a r1.len r1.cap), (.slice r2.a r2.len r2.cap)] (.tup (.cons (.agg (.cons .sl (.cons .sl (.cons .sl .nil)))) (.cons (.int .u8) (.cons .bool (.cons (.int .i64) .nil))))) fun r3 =>
 nw #[(.slice none 0 0), (.slice none 0 0), (.slice none 0 0)] ty_rat_Step fun b4 =>
 st1 (⟨b4, 0, none⟩ : Addr) (.slice r3.1.1.a r3.1.1.len r3.1.1.cap) <|
 st1 ((⟨b4, 0, none⟩ : Addr).add 1) (.slice r3.1.2.1.a r3.1.2.1.len r3.1.2.1.cap) <|
 st1 ((⟨b4, 0, none⟩ : Addr).add 2) (.slice r3.1.2.2.1.a r3.1.2.2.1.len r3.1.2.2.1.cap) <|
 brB (r3.2.2.2.1 != (0 : Int))
 (K false)
 (jn (σ := (Bool × Unit)) (fun s6 => /-  -/
 nw #[(.slice none 0 0), (.slice none 0 0), (.slice none 0 0)] ty_rat_Step fun b7 =>
 st1 (⟨b7, 0, none⟩ : Addr) (.slice r2.a r2.len r2.cap) <|
 st1 ((⟨b7, 0, none⟩ : Addr).add 1) (.slice none 0 0) <|
 st1 ((⟨b7, 0, none⟩ : Addr).add 2) (.slice none 0 0) <|
 slH ⟨a2.a, a2.len, a2.cap⟩ (if (8 : Int) < (a2.len : Int) then (8 : Int) else (a2.len : Int)) 1 fun s8 =>
 lfp (σ := (Int × Unit)) (fun X9 s10 => /-  -/
 brB (decide (s10.1 < (s8.len : Int)))
 (sx s8.a s8.len s10.1 1 fun p11 =>
 ldT (.int .u8) p11 fun x12 =>
 ldT .sl ((⟨b7, 0, none⟩ : Addr).add 1) fun x13 =>
 nz (12 : Int) <|
 nw #[(.int .i64 (IntKind.wrap .i64 ((1 : Int) + (IntKind.wrap .i64 (Int.tmod x12 (12 : Int))))))] ty_int fun b14 =>
 apd ty_int 1 8 #[(.int .i64 (0 : Int))] ⟨x13.a, x13.len, x13.cap⟩ ⟨(some (⟨b14, 0, none⟩ : Addr)), 1, 1⟩ fun s15 =>
 st1 ((⟨b7, 0, none⟩ : Addr).add 1) (.slice s15.a s15.len s15.cap) <|
 X9 ((IntKind.wrap .i64 (s10.1 + (1 : Int))), ()))
 (slH ⟨a3.a, a3.len, a3.cap⟩ (if (6 : Int) < (a3.len : Int) then (6 : Int) else (a3.len : Int)) 1 fun s16 =>
 lfp (σ := (Int × Unit)) (fun X17 s18 => /-  -/
 brB (decide (s18.1 < (s16.len : Int)))
 (sx s16.a s16.len s18.1 1 fun p19 =>
 ldT .sl p19 fun x20 =>
 nw #[(.int .i64 (0 : Int)), (.slice none 0 0)] ty_rat_Group fun b21 =>
 st1 (⟨b21, 0, none⟩ : Addr) (.int .i64 (0 : Int)) <|
 st1 ((⟨b21, 0, none⟩ : Addr).add 1) (.slice none 0 0) <|
 slH ⟨x20.a, x20.len, x20.cap⟩ (if (6 : Int) < (x20.len : Int) then (6 : Int) else (x20.len : Int)) 1 fun s22 =>
 lfp (σ := (Int × Unit)) (fun X23 s24 => /-  -/
 brB (decide (s24.1 < (s22.len : Int)))
 (jn (σ := Unit) (fun s26 => /- -/
 X23 ((IntKind.wrap .i64 (s24.1 + (1 : Int))), ()))
 (fun J25 =>
 sx s22.a s22.len s24.1 1 fun p27 =>
 ldT (.int .u8) p27 fun x28 =>
 brB (s24.1 == (0 : Int))
 (nz (12 : Int) <|
 st1 (⟨b21, 0, none⟩ : Addr) (.int .i64 (IntKind.wrap .i64 ((1 : Int) + (IntKind.wrap .i64 (Int.tmod x28 (12 : Int)))))) <|
 J25 (()))
 (ldT .sl ((⟨b21, 0, none⟩ : Addr).add 1) fun x29 =>
 nz (12 : Int) <|
 nw #[(.int .i64 (IntKind.wrap .i64 ((1 : Int) + (IntKind.wrap .i64 (Int.tmod x28 (12 : Int))))))] ty_int fun b30 =>
 apd ty_int 1 8 #[(.int .i64 (0 : Int))] ⟨x29.a, x29.len, x29.cap⟩ ⟨(some (⟨b30, 0, none⟩ : Addr)), 1, 1⟩ fun s31 =>
 st1 ((⟨b21, 0, none⟩ : Addr).add 1) (.slice s31.a s31.len s31.cap) <|
 J25 (()))))
 (ldT .sl ((⟨b7, 0, none⟩ : Addr).add 2) fun x32 =>
 ldA (.cons (.int .i64) (.cons .sl .nil)) (⟨b21, 0, none⟩ : Addr) fun x33 =>
 nw #[(.int .i64 x33.1), (.slice x33.2.1.a x33.2.1.len x33.2.1.cap)] ty_rat_Group fun b34 =>
 apd ty_rat_Group 2 32 #[(.int .i64 (0 : Int)), (.slice none 0 0)] ⟨x32.a, x32.len, x32.cap⟩ ⟨(some (⟨b34, 0, none⟩ : Addr)), 1, 1⟩ fun s35 =>
 st1 ((⟨b7, 0, none⟩ : Addr).add 2) (.slice s35.a s35.len s35.cap) <|
 X17 ((IntKind.wrap .i64 (s18.1 + (1 : Int))), ())))
 ((0 : Int), ()))
 (ldA (.cons .sl (.cons .sl (.cons .sl .nil))) (⟨b7, 0, none⟩ : Addr) fun x36 =>
 callT Tryz.prog fn_rat_Check #[(.slice r1.a r1.len r1.cap), (.agg #[(.slice x36.1.a x36.1.len x36.1.cap), (.slice x36.2.1.a x36.2.1.len x36.2.1.cap), (.slice x36.2.2.1.a x36.2.2.1.len x36.2.2.1.cap)])] (.tup (.cons (.int .u8) (.cons (.int .i64) (.cons (.int .i64) .nil)))) fun r37 =>
 jn (σ := Bool) (fun t39 =>
 jn (σ := Bool) (fun t41 =>
 K t41)
 (fun J40 =>
 brB t39
 (J40 true)
 (jn (σ := Bool) (fun t43 =>
 jn (σ := Bool) (fun t45 =>
 J40 (t45))
 (fun J44 =>
 brB t43
 (callT Tryz.prog fn_salvorlaw09_keeps #[(.slice r1.a r1.len r1.cap), (.slice r2.a r2.len r2.cap), (.int .u8 r37.1)] .bool fun r46 =>
 J44 (r46))
 (J44 false)))
 (fun J42 =>
 brB (r37.2.2.1 == (0 : Int))
 (J42 ((r37.2.1 == (0 : Int))))
 (J42 false)))))
 (fun J38 =>
 brB (r37.2.2.1 != (0 : Int))
 (J38 ((r37.1 == (0 : Int))))
 (J38 false))))
 ((0 : Int), ())))
 ((0 : Int), ()))
 (fun J5 =>
 brB r3.2.2.1
 (ldA (.cons .sl (.cons .sl (.cons .sl .nil))) (⟨b4, 0, none⟩ : Addr) fun x47 =>
 callT Tryz.prog fn_rat_Check #[(.slice r1.a r1.len r1.cap), (.agg #[(.slice x47.1.a x47.1.len x47.1.cap), (.slice x47.2.1.a x47.2.1.len x47.2.1.cap), (.slice x47.2.2.1.a x47.2.2.1.len x47.2.2.1.cap)])] (.tup (.cons (.int .u8) (.cons (.int .i64) (.cons (.int .i64) .nil)))) fun r48 =>
 jn (σ := Bool) (fun t50 =>
 jn (σ := Bool) (fun t52 =>
 jn (σ := Bool) (fun t54 =>
 jn (σ := Bool) (fun t56 =>
 brB t56
 (K false)
 (J5 (false, ())))
 (fun J55 =>
 brB t54
 (J55 true)
 (callT Tryz.prog fn_salvorlaw09_keeps #[(.slice r1.a r1.len r1.cap), (.slice r2.a r2.len r2.cap), (.int .u8 r3.2.1)] .bool fun r57 =>
 J55 ((!r57)))))
 (fun J53 =>
 brB t52
 (J53 true)
 (ldT .sl (⟨b4, 0, none⟩ : Addr) fun x58 =>
 callT Tryz.prog fn_slices_Equal_clauses_Clause_lits_Lit #[(.slice x58.a x58.len x58.cap), (.slice r2.a r2.len r2.cap)] .bool fun r59 =>
 J53 ((!r59)))))
 (fun J51 =>
 brB t50
 (J51 true)
 (J51 ((r48.1 != r3.2.1)))))
 (fun J49 =>
 brB (r48.2.2.1 != (0 : Int))
 (J49 true)
 (J49 ((r48.2.1 != (0 : Int))))))
 (J5 (false, ())))))
set_option maxRecDepth 100000 in
theorem E_salvorlaw09_RatKeeps (a0 : Sl) (a1 : Sl) (a2 : Sl) (a3 : Sl) (K : Bool → HP) (h : Heap) : fnVC Tryz.prog [(1000000, .bool)] 172 Tryz.f8 [(.slice a0.a a0.len a0.cap), (.slice a1.a a1.len a1.cap), (.slice a2.a a2.len a2.cap), (.slice a3.a a3.len a3.cap)] .bool K h = F_salvorlaw09_RatKeeps a0 a1 a2 a3 K h := by kernel_rfl
def F_salvorlaw09_awake (K : Bool → HP) : HP :=
 callT Tryz.prog fn_salvorlaw09_three #[] .sl fun r0 =>
 nw #[(.int .i64 (4 : Int)), (.int .i64 (1 : Int))] ty_lits_Lit fun b1 =>
 nw #[(.int .i64 (1 : Int)), (.int .i64 (3 : Int))] ty_lits_Lit fun b2 =>
 nw #[(.int .i64 (1 : Int)), (.int .i64 (3 : Int))] ty_int fun b3 =>
 nw #[(.int .i64 (1 : Int)), (.int .i64 (3 : Int))] ty_lits_Lit fun b4 =>
 nw #[(.int .i64 (1 : Int))] ty_int fun b5 =>
 nw #[(.int .i64 (2 : Int)), (.slice none 0 0)] ty_rat_Group fun b6 =>
 nw #[(.int .i64 (-3 : Int)), (.int .i64 (1 : Int))] ty_lits_Lit fun b7 =>
 nw #[(.int .i64 (2 : Int)), (.slice none 0 0)] ty_rat_Group fun b8 =>
 nw #[(.int .i64 (-3 : Int)), (.int .i64 (1 : Int))] ty_lits_Lit fun b9 =>
 nw #[(.slice (some (⟨b1, 0, none⟩ : Addr)) 2 2), (.slice none 0 0), (.slice none 0 0), (.int .u8 (2 : Int)), (.int .i64 (0 : Int)), (.int .i64 (0 : Int)), (.slice (some (⟨b2, 0, none⟩ : Addr)) 2 2), (.slice (some (⟨b3, 0, none⟩ : Addr)) 2 2), (.slice none 0 0), (.int .u8 (0 : Int)), (.int .i64 (3 : Int)), (.int .i64 (81 : Int)), (.slice (some (⟨b4, 0, none⟩ : Addr)) 2 2), (.slice (some (⟨b5, 0, none⟩ : Addr)) 1 1), (.slice (some (⟨b6, 0, none⟩ : Addr)) 1 1), (.int .u8 (0 : Int)), (.int .i64 (2 : Int)), (.int .i64 (93 : Int)), (.slice (some (⟨b7, 0, none⟩ : Addr)) 2 2), (.slice none 0 0), (.slice (some (⟨b8, 0, none⟩ : Addr)) 1 1), (.int .u8 (2 : Int)), (.int .i64 (0 : Int)), (.int .i64 (0 : Int)), (.slice (some (⟨b9, 0, none⟩ : Addr)) 2 2), (.slice none 0 0), (.slice none 0 0), (.int .u8 (0 : Int)), (.int .i64 (2 : Int)), (.int .i64 (92 : Int))] ty_struct_s_rat_Step_kind_uint8_id_int_e_api_Errno fun b10 =>
 lfp (σ := (Int × (Bool × Unit))) (fun X11 s12 => /-   -/
 brB (decide (s12.1 < (5 : Int)))
 (sx (some (⟨b10, 0, none⟩ : Addr)) 5 s12.1 6 fun p13 =>
 ldA (.cons .sl (.cons .sl (.cons .sl (.cons (.int .u8) (.cons (.int .i64) (.cons (.int .i64) .nil)))))) p13 fun x14 =>
 nw #[(.slice none 0 0), (.slice none 0 0), (.slice none 0 0), (.int .u8 (0 : Int)), (.int .i64 (0 : Int)), (.int .i64 (0 : Int))] ty_struct_s_rat_Step_kind_uint8_id_int_e_api_Errno fun b15 =>
 st1 (⟨b15, 0, none⟩ : Addr) (.slice x14.1.a x14.1.len x14.1.cap) <|
 st1 ((⟨b15, 0, none⟩ : Addr).add 1) (.slice x14.2.1.a x14.2.1.len x14.2.1.cap) <|
 st1 ((⟨b15, 0, none⟩ : Addr).add 2) (.slice x14.2.2.1.a x14.2.2.1.len x14.2.2.1.cap) <|
 st1 ((⟨b15, 0, none⟩ : Addr).add 3) (.int .u8 x14.2.2.2.1) <|
 st1 ((⟨b15, 0, none⟩ : Addr).add 4) (.int .i64 x14.2.2.2.2.1) <|
 st1 ((⟨b15, 0, none⟩ : Addr).add 5) (.int .i64 x14.2.2.2.2.2.1) <|
 ldA (.cons .sl (.cons .sl (.cons .sl .nil))) (⟨b15, 0, none⟩ : Addr) fun x16 =>
 callT Tryz.prog fn_rat_Check #[(.slice r0.a r0.len r0.cap), (.agg #[(.slice x16.1.a x16.1.len x16.1.cap), (.slice x16.2.1.a x16.2.1.len x16.2.1.cap), (.slice x16.2.2.1.a x16.2.2.1.len x16.2.2.1.cap)])] (.tup (.cons (.int .u8) (.cons (.int .i64) (.cons (.int .i64) .nil)))) fun r17 =>
 ldT (.int .u8) ((⟨b15, 0, none⟩ : Addr).add 3) fun x18 =>
 jn (σ := Bool) (fun t20 =>
 jn (σ := Bool) (fun t22 =>
 brB t22
 (K false)
 (X11 ((IntKind.wrap .i64 (s12.1 + (1 : Int))), s12.2.1, ())))
 (fun J21 =>
 brB t20
 (J21 true)
 (ldT (.int .i64) ((⟨b15, 0, none⟩ : Addr).add 5) fun x23 =>
 J21 ((r17.2.2.1 != x23)))))
 (fun J19 =>
 brB (r17.1 != x18)
 (J19 true)
 (ldT (.int .i64) ((⟨b15, 0, none⟩ : Addr).add 4) fun x24 =>
 J19 ((r17.2.1 != x24)))))
 (nw #[(.int .i64 (5 : Int)), (.int .i64 (-7 : Int)), (.int .i64 (2 : Int)), (.int .i64 (3 : Int)), (.int .i64 (-8 : Int))] ty_int fun b25 =>
 callT Tryz.prog fn_rat_Split #[(.slice (some (⟨b25, 0, none⟩ : Addr)) 5 5)] (.tup (.cons .sl (.cons .sl (.cons (.int .i64) .nil)))) fun r26 =>
 nw #[(.int .i64 (-3 : Int)), (.int .i64 (1 : Int))] ty_lits_Lit fun b27 =>
 nw #[(.int .i64 (3 : Int)), (.int .i64 (-1 : Int))] ty_lits_Lit fun b28 =>
 callT Tryz.prog fn_rat_Repair #[(.slice (some (⟨b27, 0, none⟩ : Addr)) 2 2), (.slice (some (⟨b28, 0, none⟩ : Addr)) 2 2)] (.tup (.cons .sl (.cons (.int .i64) .nil))) fun r29 =>
 jn (σ := Bool) (fun t31 =>
 jn (σ := Bool) (fun t33 =>
 jn (σ := Bool) (fun t35 =>
 K t35)
 (fun J34 =>
 brB t33
 (nw #[(.int .i64 (-3 : Int)), (.int .i64 (-1 : Int))] ty_lits_Lit fun b36 =>
 callT Tryz.prog fn_slices_Equal_lits_Lit_lits_Lit #[(.slice r29.1.a r29.1.len r29.1.cap), (.slice (some (⟨b36, 0, none⟩ : Addr)) 2 2)] .bool fun r37 =>
 J34 (r37))
 (J34 false)))
 (fun J32 =>
 brB t31
 (nw #[(.int .i64 (2 : Int)), (.int .i64 (3 : Int))] ty_int fun b38 =>
 nw #[(.int .i64 (7 : Int)), (.slice (some (⟨b38, 0, none⟩ : Addr)) 2 2), (.int .i64 (8 : Int)), (.slice none 0 0)] ty_rat_Group fun b39 =>
 callT Tryz.prog fn_salvorlaw09_sameGroups #[(.slice r26.2.1.a r26.2.1.len r26.2.1.cap), (.slice (some (⟨b39, 0, none⟩ : Addr)) 2 2)] .bool fun r40 =>
 J32 (r40))
 (J32 false)))
 (fun J30 =>
 brB ((IntKind.wrap .i64 (r26.2.2.1 + r29.2.1)) == (0 : Int))
 (nw #[(.int .i64 (5 : Int))] ty_int fun b41 =>
 callT Tryz.prog fn_slices_Equal_int_int #[(.slice r26.1.a r26.1.len r26.1.cap), (.slice (some (⟨b41, 0, none⟩ : Addr)) 1 1)] .bool fun r42 =>
 J30 (r42))
 (J30 false))))
 ((0 : Int), false, ())
set_option maxRecDepth 100000 in
theorem E_salvorlaw09_awake (K : Bool → HP) (h : Heap) : fnVC Tryz.prog [(1000000, .bool)] 99 Tryz.f10 [] .bool K h = F_salvorlaw09_awake K h := by kernel_rfl
set_option maxRecDepth 100000 in
theorem S_salvorlaw09_awake{h : Heap} (K : Bool → HP) (hF : F_salvorlaw09_awake K h) : CallsH Tryz.prog fn_salvorlaw09_awake #[] h fun v h' => ∃ x : Bool, v = Ty.enc .bool x ∧ K x h' :=
  callsH_of_fn (P := Tryz.prog) (fn := Tryz.f10) (τ := .bool) follows Tryz.func10 (by kernel_rfl) (by kernel_rfl) Tryz.call10 (Eq.mpr (E_salvorlaw09_awake K h) hF)

def F_salvorlaw09_Made (a0 : Sl) (a1 : Sl) (a2 : Int) (K : Sl → HP) : HP :=
 callT Tryz.prog fn_salvorlaw08_All #[(.slice a0.a a0.len a0.cap), (.int .i64 a2)] .sl fun r0 =>
 lfp (σ := (Int × (Int × (Sl × Unit)))) (fun X1 s2 => /-  id out -/
 brB (decide (s2.1 < (r0.len : Int)))
 (sx r0.a r0.len s2.1 1 fun p3 =>
 ldT .sl p3 fun x4 =>
 jn (σ := (Int × Unit)) (fun s6 => /- id -/
 nw #[(.int .i64 s6.1), (.slice x4.a x4.len x4.cap)] ty_rat_Entry fun b7 =>
 apd ty_rat_Entry 2 32 #[(.int .i64 (0 : Int)), (.slice none 0 0)] ⟨s2.2.2.1.a, s2.2.2.1.len, s2.2.2.1.cap⟩ ⟨(some (⟨b7, 0, none⟩ : Addr)), 1, 1⟩ fun s8 =>
 X1 ((IntKind.wrap .i64 (s2.1 + (1 : Int))), s6.1, ⟨s8.a, s8.len, s8.cap⟩, ()))
 (fun J5 =>
 brB (decide (s2.1 < (a1.len : Int)))
 (sx a1.a a1.len s2.1 1 fun p9 =>
 ldT (.int .u8) p9 fun x10 =>
 nz (4 : Int) <|
 J5 ((IntKind.wrap .i64 ((IntKind.wrap .i64 (s2.2.1 + (1 : Int))) + (IntKind.wrap .i64 (Int.tmod x10 (4 : Int))))), ()))
 (J5 ((IntKind.wrap .i64 (s2.2.1 + (1 : Int))), ()))))
 (K ⟨s2.2.2.1.a, s2.2.2.1.len, s2.2.2.1.cap⟩))
 ((0 : Int), (0 : Int), ⟨none, 0, 0⟩, ())
set_option maxRecDepth 100000 in
theorem E_salvorlaw09_Made (a0 : Sl) (a1 : Sl) (a2 : Int) (K : Sl → HP) (h : Heap) : fnVC Tryz.prog [(1000000, .bool)] 42 Tryz.f11 [(.slice a0.a a0.len a0.cap), (.slice a1.a a1.len a1.cap), (.int .i64 a2)] .sl K h = F_salvorlaw09_Made a0 a1 a2 K h := by kernel_rfl
set_option maxRecDepth 100000 in
theorem S_salvorlaw09_Made{h : Heap} {a0 : Sl} {a1 : Sl} {a2 : Int} (K : Sl → HP) (hF : F_salvorlaw09_Made a0 a1 a2 K h) : CallsH Tryz.prog fn_salvorlaw09_Made #[(.slice a0.a a0.len a0.cap), (.slice a1.a a1.len a1.cap), (.int .i64 a2)] h fun v h' => ∃ x : Sl, v = Ty.enc .sl x ∧ K x h' :=
  callsH_of_fn (P := Tryz.prog) (fn := Tryz.f11) (τ := .sl) follows Tryz.func11 (by kernel_rfl) (by kernel_rfl) Tryz.call11 (Eq.mpr (E_salvorlaw09_Made a0 a1 a2 K h) hF)

def F_salvorlaw08_Made (a0 : Sl) (K : Sl → HP) : HP :=
 slH ⟨a0.a, a0.len, a0.cap⟩ (if (6 : Int) < (a0.len : Int) then (6 : Int) else (a0.len : Int)) 1 fun s0 =>
 lfp (σ := (Int × (Sl × Unit))) (fun X1 s2 => /-  out -/
 brB (decide (s2.1 < (s0.len : Int)))
 (sx s0.a s0.len s2.1 1 fun p3 =>
 ldT (.int .i8) p3 fun x4 =>
 nz (2 : Int) <|
 nz (6 : Int) <|
 jn (σ := (Int × Unit)) (fun s6 => /- v -/
 nw #[(.int .i64 s6.1)] ty_lits_Lit fun b7 =>
 apd ty_lits_Lit 1 8 #[(.int .i64 (0 : Int))] ⟨s2.2.1.a, s2.2.1.len, s2.2.1.cap⟩ ⟨(some (⟨b7, 0, none⟩ : Addr)), 1, 1⟩ fun s8 =>
 X1 ((IntKind.wrap .i64 (s2.1 + (1 : Int))), ⟨s8.a, s8.len, s8.cap⟩, ()))
 (fun J5 =>
 brB ((bAnd .i8 x4 (1 : Int)) == (1 : Int))
 (J5 ((IntKind.wrap .i64 (0 - (IntKind.wrap .i64 ((1 : Int) + (Int.tmod (IntKind.wrap .i64 (IntKind.wrap .u8 (Int.tdiv (IntKind.wrap .u8 x4) (2 : Int)))) (6 : Int)))))), ()))
 (J5 ((IntKind.wrap .i64 ((1 : Int) + (Int.tmod (IntKind.wrap .i64 (IntKind.wrap .u8 (Int.tdiv (IntKind.wrap .u8 x4) (2 : Int)))) (6 : Int)))), ()))))
 (K ⟨s2.2.1.a, s2.2.1.len, s2.2.1.cap⟩))
 ((0 : Int), ⟨none, 0, 0⟩, ())
set_option maxRecDepth 100000 in
theorem E_salvorlaw08_Made (a0 : Sl) (K : Sl → HP) (h : Heap) : fnVC Tryz.prog [(1000000, .bool)] 34 Tryz.f12 [(.slice a0.a a0.len a0.cap)] .sl K h = F_salvorlaw08_Made a0 K h := by kernel_rfl
set_option maxRecDepth 100000 in
theorem S_salvorlaw08_Made{h : Heap} {a0 : Sl} (K : Sl → HP) (hF : F_salvorlaw08_Made a0 K h) : CallsH Tryz.prog fn_salvorlaw08_Made #[(.slice a0.a a0.len a0.cap)] h fun v h' => ∃ x : Sl, v = Ty.enc .sl x ∧ K x h' :=
  callsH_of_fn (P := Tryz.prog) (fn := Tryz.f12) (τ := .sl) follows Tryz.func12 (by kernel_rfl) (by kernel_rfl) Tryz.call12 (Eq.mpr (E_salvorlaw08_Made a0 K h) hF)

end Go.Proofs.S
