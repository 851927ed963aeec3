/- The functions of the seat, each as a predicate over its values, printed by a program of ours, and that each is its text's. -/
import Derived.Test.YtjkgncibelojnaaGreatSx10
import Derived.KernelRfl
import Derived.Test.YtjkgncibelojnaaGreatProg
import Derived.Test.YtjkgncibelojnaaGreatClF0
set_option linter.unusedVariables false
set_option maxRecDepth 100000
namespace Go.Proofs.S
open Go Go.Sx Go.Proofs
def F_salvorlaw09_RatSmall (K : Bool → HP) : HP :=
 nw #[(.int .i64 1), (.int .i64 2)] ty_lits_Lit fun b0 =>
 nw #[(.int .i64 (-1 : Int)), (.int .i64 2)] ty_lits_Lit fun b1 =>
 nw #[(.int .i64 1), (.int .i64 (-2 : Int))] ty_lits_Lit fun b2 =>
 nw #[(.int .i64 (-1 : Int)), (.int .i64 (-2 : Int))] ty_lits_Lit fun b3 =>
 nw #[(.int .i64 1)] ty_lits_Lit fun b4 =>
 nw #[(.int .i64 (-2 : Int))] ty_lits_Lit fun b5 =>
 nw #[(.int .i64 1), (.int .i64 (-1 : Int))] ty_lits_Lit fun b6 =>
 nw #[(.slice (some ⟨b0, 0, none⟩) 2 2), (.slice (some ⟨b1, 0, none⟩) 2 2), (.slice (some ⟨b2, 0, none⟩) 2 2), (.slice (some ⟨b3, 0, none⟩) 2 2), (.slice (some ⟨b4, 0, none⟩) 1 1), (.slice (some ⟨b5, 0, none⟩) 1 1), (.slice (some ⟨b6, 0, none⟩) 2 2)] ty_clauses_Clause fun b7 =>
 nw #[(.int .i64 1)] ty_lits_Lit fun b8 =>
 nw #[(.int .i64 (-1 : Int))] ty_lits_Lit fun b9 =>
 nw #[(.int .i64 2)] ty_lits_Lit fun b10 =>
 nw #[(.int .i64 (-2 : Int))] ty_lits_Lit fun b11 =>
 nw #[(.int .i64 1), (.int .i64 2)] ty_lits_Lit fun b12 =>
 nw #[(.int .i64 2), (.int .i64 1)] ty_lits_Lit fun b13 =>
 nw #[(.int .i64 (-1 : Int)), (.int .i64 2)] ty_lits_Lit fun b14 =>
 nw #[(.int .i64 3), (.int .i64 1)] ty_lits_Lit fun b15 =>
 nw #[(.int .i64 (-3 : Int)), (.int .i64 (-1 : Int))] ty_lits_Lit fun b16 =>
 nw #[(.int .i64 1), (.int .i64 (-1 : Int))] ty_lits_Lit fun b17 =>
 nw #[(.int .i64 (-2 : Int)), (.int .i64 (-2 : Int))] ty_lits_Lit fun b18 =>
 nw #[(.slice none 0 0), (.slice (some ⟨b8, 0, none⟩) 1 1), (.slice (some ⟨b9, 0, none⟩) 1 1), (.slice (some ⟨b10, 0, none⟩) 1 1), (.slice (some ⟨b11, 0, none⟩) 1 1), (.slice (some ⟨b12, 0, none⟩) 2 2), (.slice (some ⟨b13, 0, none⟩) 2 2), (.slice (some ⟨b14, 0, none⟩) 2 2), (.slice (some ⟨b15, 0, none⟩) 2 2), (.slice (some ⟨b16, 0, none⟩) 2 2), (.slice (some ⟨b17, 0, none⟩) 2 2), (.slice (some ⟨b18, 0, none⟩) 2 2)] ty_clauses_Clause fun b19 =>
 nw #[(.int .i64 1)] ty_int fun b20 =>
 nw #[(.int .i64 2), (.int .i64 1)] ty_int fun b21 =>
 nw #[(.int .i64 3), (.int .i64 7)] ty_int fun b22 =>
 nw #[(.int .i64 7), (.int .i64 3), (.int .i64 1)] ty_int fun b23 =>
 nw #[(.int .i64 5)] ty_int fun b24 =>
 nw #[(.slice none 0 0), (.slice (some ⟨b20, 0, none⟩) 1 1), (.slice (some ⟨b21, 0, none⟩) 2 2), (.slice (some ⟨b22, 0, none⟩) 2 2), (.slice (some ⟨b23, 0, none⟩) 3 3), (.slice (some ⟨b24, 0, none⟩) 1 1)] ty_sl_int fun b25 =>
 lfp (σ := (Int × (Bool × Unit))) (fun X26 s27 =>
 brB (decide (s27.1 < (343 : Int)))
 (nz (7 : Int) <|
 sx (some ⟨b7, 0, none⟩) 7 (Int.tmod s27.1 (7 : Int)) 1 fun p28 =>
 ldT .sl p28 fun x29 =>
 nz (7 : Int) <|
 nz (7 : Int) <|
 sx (some ⟨b7, 0, none⟩) 7 (Int.tmod (IntKind.wrap .i64 (Int.tdiv s27.1 (7 : Int))) (7 : Int)) 1 fun p30 =>
 ldT .sl p30 fun x31 =>
 nz (49 : Int) <|
 sx (some ⟨b7, 0, none⟩) 7 (IntKind.wrap .i64 (Int.tdiv s27.1 (49 : Int))) 1 fun p32 =>
 ldT .sl p32 fun x33 =>
 nw #[(.int .i64 1), (.slice x29.a x29.len x29.cap), (.int .i64 3), (.slice x31.a x31.len x31.cap), (.int .i64 7), (.slice x33.a x33.len x33.cap)] ty_rat_Entry fun b34 =>
 lfp (σ := (Int × (Bool × Unit))) (fun X35 s36 =>
 brB (decide (s36.1 < (12 : Int)))
 (sx (some ⟨b19, 0, none⟩) 12 s36.1 1 fun p37 =>
 ldT .sl p37 fun x38 =>
 nz (6 : Int) <|
 sx (some ⟨b25, 0, none⟩) 6 (Int.tmod (IntKind.wrap .i64 (s27.1 + s36.1)) (6 : Int)) 1 fun p39 =>
 ldT .sl p39 fun x40 =>
 nz (6 : Int) <|
 sx (some ⟨b25, 0, none⟩) 6 (Int.tmod (IntKind.wrap .i64 (s27.1 + (IntKind.wrap .i64 ((2 : Int) * s36.1)))) (6 : Int)) 1 fun p41 =>
 ldT .sl p41 fun x42 =>
 nz (6 : Int) <|
 sx (some ⟨b25, 0, none⟩) 6 (Int.tmod (IntKind.wrap .i64 (s36.1 + (4 : Int))) (6 : Int)) 1 fun p43 =>
 ldT .sl p43 fun x44 =>
 nw #[(.int .i64 1), (.slice x40.a x40.len x40.cap), (.int .i64 3), (.slice x42.a x42.len x42.cap), (.int .i64 7), (.slice x44.a x44.len x44.cap)] ty_rat_Group fun b45 =>
 lfp (σ := (Int × (Sl × Unit))) (fun X46 s47 =>
 brB (decide (s47.1 < (3 : Int)))
 (sx (some ⟨b45, 0, none⟩) 3 s47.1 2 fun p48 =>
 ldA (.cons (.int .i64) (.cons .sl .nil)) p48 fun x49 =>
 nw #[(.int .i64 0), (.slice none 0 0)] ty_rat_Group fun b50 =>
 st1 ⟨b50, 0, none⟩ (.int .i64 x49.1) <|
 st1 ((⟨b50, 0, none⟩ : Addr).add 1) (.slice x49.2.1.a x49.2.1.len x49.2.1.cap) <|
 ge0 s47.1 <|
 jn (σ := (Sl × Unit)) (fun s52 =>
 X46 ((IntKind.wrap .i64 (s47.1 + (1 : Int))), ⟨s52.1.a, s52.1.len, s52.1.cap⟩, ()))
 (fun J51 =>
 brB ((bAnd .i64 (Int.fdiv (IntKind.wrap .i64 (s27.1 + (IntKind.wrap .i64 (s36.1 * (3 : Int))))) (2 ^ (min (s47.1).toNat 64))) (1 : Int)) == (1 : Int))
 (ldA (.cons (.int .i64) (.cons .sl .nil)) ⟨b50, 0, none⟩ fun x53 =>
 nw #[(.int .i64 x53.1), (.slice x53.2.1.a x53.2.1.len x53.2.1.cap)] ty_rat_Group fun b54 =>
 apd ty_rat_Group 2 32 #[(.int .i64 0), (.slice none 0 0)] ⟨s47.2.1.a, s47.2.1.len, s47.2.1.cap⟩ ⟨(some ⟨b54, 0, none⟩), 1, 1⟩ fun s55 =>
 J51 (⟨s55.a, s55.len, s55.cap⟩, ()))
 (J51 (⟨s47.2.1.a, s47.2.1.len, s47.2.1.cap⟩, ()))))
 (nz (6 : Int) <|
 sx (some ⟨b25, 0, none⟩) 6 (Int.tmod (IntKind.wrap .i64 (s27.1 + (IntKind.wrap .i64 ((5 : Int) * s36.1)))) (6 : Int)) 1 fun p56 =>
 ldT .sl p56 fun x57 =>
 callT Tryz.prog fn_salvorlaw09_checks #[(.slice (some ⟨b34, 0, none⟩) 3 3), (.agg #[(.slice x38.a x38.len x38.cap), (.slice x57.a x57.len x57.cap), (.slice s47.2.1.a s47.2.1.len s47.2.1.cap)])] .bool fun r58 =>
 jn (σ := Bool) (fun t60 =>
 jn (σ := Bool) (fun t62 =>
 brB t62
 (K false)
 (callT Tryz.prog fn_rat_Search #[(.slice (some ⟨b34, 0, none⟩) 3 3), (.slice x38.a x38.len x38.cap)] (.tup (.cons (.agg (.cons .sl (.cons .sl (.cons .sl .nil)))) (.cons (.int .u8) (.cons .bool (.cons (.int .i64) .nil))))) fun r63 =>
 nw #[(.slice none 0 0), (.slice none 0 0), (.slice none 0 0)] ty_rat_Step fun b64 =>
 st1 ⟨b64, 0, none⟩ (.slice r63.1.1.a r63.1.1.len r63.1.1.cap) <|
 st1 ((⟨b64, 0, none⟩ : Addr).add 1) (.slice r63.1.2.1.a r63.1.2.1.len r63.1.2.1.cap) <|
 st1 ((⟨b64, 0, none⟩ : Addr).add 2) (.slice r63.1.2.2.1.a r63.1.2.2.1.len r63.1.2.2.1.cap) <|
 jn (σ := Bool) (fun t66 =>
 brB t66
 (K false)
 (X35 ((IntKind.wrap .i64 (s36.1 + (1 : Int))), s36.2.1, ())))
 (fun J65 =>
 brB (r63.2.2.2.1 != (0 : Int))
 (J65 true)
 (jn (σ := Bool) (fun t68 =>
 J65 (t68))
 (fun J67 =>
 brB r63.2.2.1
 (ldA (.cons .sl (.cons .sl (.cons .sl .nil))) ⟨b64, 0, none⟩ fun x69 =>
 callT Tryz.prog fn_salvorlaw09_checks #[(.slice (some ⟨b34, 0, none⟩) 3 3), (.agg #[(.slice x69.1.a x69.1.len x69.1.cap), (.slice x69.2.1.a x69.2.1.len x69.2.1.cap), (.slice x69.2.2.1.a x69.2.2.1.len x69.2.2.1.cap)])] .bool fun r70 =>
 J67 ((!r70)))
 (J67 false))))))
 (fun J61 =>
 brB t60
 (J61 true)
 (nz (8 : Int) <|
 callT Tryz.prog fn_salvorlaw09_tells #[(.slice (some ⟨b34, 0, none⟩) 3 3), (.int .i64 (IntKind.wrap .i64 ((Int.tmod s27.1 (8 : Int)) - (4 : Int))))] .bool fun r71 =>
 J61 ((!r71)))))
 (fun J59 =>
 brB (!r58)
 (J59 true)
 (callT Tryz.prog fn_salvorlaw09_searches #[(.slice (some ⟨b34, 0, none⟩) 3 3), (.slice x38.a x38.len x38.cap)] .bool fun r72 =>
 J59 ((!r72))))))
 ((0 : Int), ⟨none, 0, 0⟩, ()))
 (X26 ((IntKind.wrap .i64 (s27.1 + (1 : Int))), s36.2.1, ())))
 ((0 : Int), s27.2.1, ()))
 (callT Tryz.prog fn_salvorlaw09_limits #[] .bool fun r73 =>
 jn (σ := Bool) (fun t75 =>
 K t75)
 (fun J74 =>
 brB r73
 (callT Tryz.prog fn_salvorlaw09_awake #[] .bool fun r76 =>
 J74 (r76))
 (J74 false))))
 ((0 : Int), false, ())
theorem E_salvorlaw09_RatSmall (K : Bool → HP) (h : Heap) : fnVC Tryz.prog [(1000000, .bool)] 170 Tryz.f4 [] .bool K h = F_salvorlaw09_RatSmall K h := by kernel_rfl
def F_salvorlaw09_awake (K : Bool → HP) : HP :=
 callT Tryz.prog fn_salvorlaw09_three #[] .sl fun r0 =>
 nw #[(.int .i64 4), (.int .i64 1)] ty_lits_Lit fun b1 =>
 nw #[(.int .i64 1), (.int .i64 3)] ty_lits_Lit fun b2 =>
 nw #[(.int .i64 1), (.int .i64 3)] ty_int fun b3 =>
 nw #[(.int .i64 1), (.int .i64 3)] ty_lits_Lit fun b4 =>
 nw #[(.int .i64 1)] ty_int fun b5 =>
 nw #[(.int .i64 2), (.slice none 0 0)] ty_rat_Group fun b6 =>
 nw #[(.int .i64 (-3 : Int)), (.int .i64 1)] ty_lits_Lit fun b7 =>
 nw #[(.int .i64 2), (.slice none 0 0)] ty_rat_Group fun b8 =>
 nw #[(.int .i64 (-3 : Int)), (.int .i64 1)] ty_lits_Lit fun b9 =>
 nw #[(.slice (some ⟨b1, 0, none⟩) 2 2), (.slice none 0 0), (.slice none 0 0), (.int .u8 2), (.int .i64 0), (.int .i64 0), (.slice (some ⟨b2, 0, none⟩) 2 2), (.slice (some ⟨b3, 0, none⟩) 2 2), (.slice none 0 0), (.int .u8 0), (.int .i64 3), (.int .i64 81), (.slice (some ⟨b4, 0, none⟩) 2 2), (.slice (some ⟨b5, 0, none⟩) 1 1), (.slice (some ⟨b6, 0, none⟩) 1 1), (.int .u8 0), (.int .i64 2), (.int .i64 93), (.slice (some ⟨b7, 0, none⟩) 2 2), (.slice none 0 0), (.slice (some ⟨b8, 0, none⟩) 1 1), (.int .u8 2), (.int .i64 0), (.int .i64 0), (.slice (some ⟨b9, 0, none⟩) 2 2), (.slice none 0 0), (.slice none 0 0), (.int .u8 0), (.int .i64 2), (.int .i64 92)] ty_struct_s_rat_Step_kind_uint8_id_int_e_api_Errno fun b10 =>
 lfp (σ := (Int × (Bool × Unit))) (fun X11 s12 =>
 brB (decide (s12.1 < (5 : Int)))
 (sx (some ⟨b10, 0, none⟩) 5 s12.1 6 fun p13 =>
 ldA (.cons .sl (.cons .sl (.cons .sl (.cons (.int .u8) (.cons (.int .i64) (.cons (.int .i64) .nil)))))) p13 fun x14 =>
 nw #[(.slice none 0 0), (.slice none 0 0), (.slice none 0 0), (.int .u8 0), (.int .i64 0), (.int .i64 0)] ty_struct_s_rat_Step_kind_uint8_id_int_e_api_Errno fun b15 =>
 st1 ⟨b15, 0, none⟩ (.slice x14.1.a x14.1.len x14.1.cap) <|
 st1 ((⟨b15, 0, none⟩ : Addr).add 1) (.slice x14.2.1.a x14.2.1.len x14.2.1.cap) <|
 st1 ((⟨b15, 0, none⟩ : Addr).add 2) (.slice x14.2.2.1.a x14.2.2.1.len x14.2.2.1.cap) <|
 st1 ((⟨b15, 0, none⟩ : Addr).add 3) (.int .u8 x14.2.2.2.1) <|
 st1 ((⟨b15, 0, none⟩ : Addr).add 4) (.int .i64 x14.2.2.2.2.1) <|
 st1 ((⟨b15, 0, none⟩ : Addr).add 5) (.int .i64 x14.2.2.2.2.2.1) <|
 ldA (.cons .sl (.cons .sl (.cons .sl .nil))) ⟨b15, 0, none⟩ fun x16 =>
 callT Tryz.prog fn_rat_Check #[(.slice r0.a r0.len r0.cap), (.agg #[(.slice x16.1.a x16.1.len x16.1.cap), (.slice x16.2.1.a x16.2.1.len x16.2.1.cap), (.slice x16.2.2.1.a x16.2.2.1.len x16.2.2.1.cap)])] (.tup (.cons (.int .u8) (.cons (.int .i64) (.cons (.int .i64) .nil)))) fun r17 =>
 ldT (.int .u8) ((⟨b15, 0, none⟩ : Addr).add 3) fun x18 =>
 jn (σ := Bool) (fun t20 =>
 jn (σ := Bool) (fun t22 =>
 brB t22
 (K false)
 (X11 ((IntKind.wrap .i64 (s12.1 + (1 : Int))), s12.2.1, ())))
 (fun J21 =>
 brB t20
 (J21 true)
 (ldT (.int .i64) ((⟨b15, 0, none⟩ : Addr).add 5) fun x23 =>
 J21 ((r17.2.2.1 != x23)))))
 (fun J19 =>
 brB (r17.1 != x18)
 (J19 true)
 (ldT (.int .i64) ((⟨b15, 0, none⟩ : Addr).add 4) fun x24 =>
 J19 ((r17.2.1 != x24)))))
 (nw #[(.int .i64 5), (.int .i64 (-7 : Int)), (.int .i64 2), (.int .i64 3), (.int .i64 (-8 : Int))] ty_int fun b25 =>
 callT Tryz.prog fn_rat_Split #[(.slice (some ⟨b25, 0, none⟩) 5 5)] (.tup (.cons .sl (.cons .sl (.cons (.int .i64) .nil)))) fun r26 =>
 nw #[(.int .i64 (-3 : Int)), (.int .i64 1)] ty_lits_Lit fun b27 =>
 nw #[(.int .i64 3), (.int .i64 (-1 : Int))] ty_lits_Lit fun b28 =>
 callT Tryz.prog fn_rat_Repair #[(.slice (some ⟨b27, 0, none⟩) 2 2), (.slice (some ⟨b28, 0, none⟩) 2 2)] (.tup (.cons .sl (.cons (.int .i64) .nil))) fun r29 =>
 jn (σ := Bool) (fun t31 =>
 jn (σ := Bool) (fun t33 =>
 jn (σ := Bool) (fun t35 =>
 K t35)
 (fun J34 =>
 brB t33
 (nw #[(.int .i64 (-3 : Int)), (.int .i64 (-1 : Int))] ty_lits_Lit fun b36 =>
 callT Tryz.prog fn_slices_Equal_lits_Lit_lits_Lit #[(.slice r29.1.a r29.1.len r29.1.cap), (.slice (some ⟨b36, 0, none⟩) 2 2)] .bool fun r37 =>
 J34 (r37))
 (J34 false)))
 (fun J32 =>
 brB t31
 (nw #[(.int .i64 2), (.int .i64 3)] ty_int fun b38 =>
 nw #[(.int .i64 7), (.slice (some ⟨b38, 0, none⟩) 2 2), (.int .i64 8), (.slice none 0 0)] ty_rat_Group fun b39 =>
 callT Tryz.prog fn_salvorlaw09_sameGroups #[(.slice r26.2.1.a r26.2.1.len r26.2.1.cap), (.slice (some ⟨b39, 0, none⟩) 2 2)] .bool fun r40 =>
 J32 (r40))
 (J32 false)))
 (fun J30 =>
 brB ((IntKind.wrap .i64 (r26.2.2.1 + r29.2.1)) == (0 : Int))
 (nw #[(.int .i64 5)] ty_int fun b41 =>
 callT Tryz.prog fn_slices_Equal_int_int #[(.slice r26.1.a r26.1.len r26.1.cap), (.slice (some ⟨b41, 0, none⟩) 1 1)] .bool fun r42 =>
 J30 (r42))
 (J30 false))))
 ((0 : Int), false, ())
theorem E_salvorlaw09_awake (K : Bool → HP) (h : Heap) : fnVC Tryz.prog [(1000000, .bool)] 99 Tryz.f10 [] .bool K h = F_salvorlaw09_awake K h := by kernel_rfl
theorem S_salvorlaw09_awake{h : Heap} (K : Bool → HP) (hF : F_salvorlaw09_awake K h) : CallsH Tryz.prog fn_salvorlaw09_awake #[] h fun v h' => ∃ x : Bool, v = Ty.enc .bool x ∧ K x h' :=
  callsH_of_fn (P := Tryz.prog) (fn := Tryz.f10) (τ := .bool) follows Tryz.func10 (by kernel_rfl) (by kernel_rfl) Tryz.call10 (Eq.mpr (E_salvorlaw09_awake K h) hF)
end Go.Proofs.S
