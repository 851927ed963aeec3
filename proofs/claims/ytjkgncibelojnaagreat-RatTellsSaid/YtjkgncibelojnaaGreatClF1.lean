/- The functions of the seat, each as a predicate over its values, printed by a program of ours, and that each is its text's. -/
import Derived.Test.YtjkgncibelojnaaGreatSx10
import Derived.KernelRfl
import Derived.Test.YtjkgncibelojnaaGreatProg
import Derived.Test.YtjkgncibelojnaaGreatClF0
set_option linter.unusedVariables false
namespace Go.Proofs.S
open Go Go.Sx Go.Proofs
def F_salvorlaw09_RatTells (a0 : Sl) (a1 : Int) (a2 : Sl) (a3 : Sl) (a4 : Sl) (a5 : Sl) (K : Bool → HP) : HP :=
 callT Tryz.prog fn_salvorlaw09_few #[(.slice a0.a a0.len a0.cap)] .bool fun r0 =>
 jn (σ := Bool) (fun t2 =>
 jn (σ := Bool) (fun t4 =>
 jn (σ := Bool) (fun t6 =>
 jn (σ := Bool) (fun t8 =>
 jn (σ := Bool) (fun t10 =>
 brB t10
 (callT Tryz.prog fn_salvorlaw09_awake #[] .bool fun r11 =>
 K r11)
 (callT Tryz.prog fn_salvorlaw09_tells #[(.slice a0.a a0.len a0.cap), (.int .i64 a1)] .bool fun r12 =>
 jn (σ := Bool) (fun t14 =>
 jn (σ := Bool) (fun t16 =>
 jn (σ := Bool) (fun t18 =>
 K t18)
 (fun J17 =>
 brB t16
 (callT Tryz.prog fn_salvorlaw09_awake #[] .bool fun r19 =>
 J17 (r19))
 (J17 false)))
 (fun J15 =>
 brB t14
 (callT Tryz.prog fn_salvorlaw09_repairs #[(.slice a4.a a4.len a4.cap), (.slice a5.a a5.len a5.cap)] .bool fun r20 =>
 J15 (r20))
 (J15 false)))
 (fun J13 =>
 brB r12
 (callT Tryz.prog fn_salvorlaw09_texts #[(.slice a2.a a2.len a2.cap), (.slice a3.a a3.len a3.cap)] .bool fun r21 =>
 J13 (r21))
 (J13 false))))
 (fun J9 =>
 brB t8
 (J9 true)
 (J9 ((decide ((a5.len : Int) > (40 : Int)))))))
 (fun J7 =>
 brB t6
 (J7 true)
 (J7 ((decide ((a4.len : Int) > (40 : Int)))))))
 (fun J5 =>
 brB t4
 (J5 true)
 (callT Tryz.prog fn_slices_ContainsFunc_rat_Group_rat_Group #[(.slice a3.a a3.len a3.cap), (.func (.func fn_salvorlaw09_RatTells_1) #[] #[])] .bool fun r22 =>
 J5 (r22))))
 (fun J3 =>
 brB t2
 (J3 true)
 (J3 ((decide ((a3.len : Int) > (20 : Int)))))))
 (fun J1 =>
 brB (!r0)
 (J1 true)
 (J1 ((decide ((a2.len : Int) > (40 : Int))))))
set_option maxRecDepth 100000 in
theorem E_salvorlaw09_RatTells (a0 : Sl) (a1 : Int) (a2 : Sl) (a3 : Sl) (a4 : Sl) (a5 : Sl) (K : Bool → HP) (h : Heap) : fnVC Tryz.prog [(1000000, .bool)] 57 Tryz.f6 [(.slice a0.a a0.len a0.cap), (.int .i64 a1), (.slice a2.a a2.len a2.cap), (.slice a3.a a3.len a3.cap), (.slice a4.a a4.len a4.cap), (.slice a5.a a5.len a5.cap)] .bool K h = F_salvorlaw09_RatTells a0 a1 a2 a3 a4 a5 K h := by kernel_rfl
def F_salvorlaw09_awake (K : Bool → HP) : HP :=
 callT Tryz.prog fn_salvorlaw09_three #[] .sl fun r0 =>
 nw #[(.int .i64 (4 : Int)), (.int .i64 (1 : Int))] ty_lits_Lit fun b1 =>
 nw #[(.int .i64 (1 : Int)), (.int .i64 (3 : Int))] ty_lits_Lit fun b2 =>
 nw #[(.int .i64 (1 : Int)), (.int .i64 (3 : Int))] ty_int fun b3 =>
 nw #[(.int .i64 (1 : Int)), (.int .i64 (3 : Int))] ty_lits_Lit fun b4 =>
 nw #[(.int .i64 (1 : Int))] ty_int fun b5 =>
 nw #[(.int .i64 (2 : Int)), (.slice none 0 0)] ty_rat_Group fun b6 =>
 nw #[(.int .i64 (-3 : Int)), (.int .i64 (1 : Int))] ty_lits_Lit fun b7 =>
 nw #[(.int .i64 (2 : Int)), (.slice none 0 0)] ty_rat_Group fun b8 =>
 nw #[(.int .i64 (-3 : Int)), (.int .i64 (1 : Int))] ty_lits_Lit fun b9 =>
 nw #[(.slice (some (⟨b1, 0, none⟩ : Addr)) 2 2), (.slice none 0 0), (.slice none 0 0), (.int .u8 (2 : Int)), (.int .i64 (0 : Int)), (.int .i64 (0 : Int)), (.slice (some (⟨b2, 0, none⟩ : Addr)) 2 2), (.slice (some (⟨b3, 0, none⟩ : Addr)) 2 2), (.slice none 0 0), (.int .u8 (0 : Int)), (.int .i64 (3 : Int)), (.int .i64 (81 : Int)), (.slice (some (⟨b4, 0, none⟩ : Addr)) 2 2), (.slice (some (⟨b5, 0, none⟩ : Addr)) 1 1), (.slice (some (⟨b6, 0, none⟩ : Addr)) 1 1), (.int .u8 (0 : Int)), (.int .i64 (2 : Int)), (.int .i64 (93 : Int)), (.slice (some (⟨b7, 0, none⟩ : Addr)) 2 2), (.slice none 0 0), (.slice (some (⟨b8, 0, none⟩ : Addr)) 1 1), (.int .u8 (2 : Int)), (.int .i64 (0 : Int)), (.int .i64 (0 : Int)), (.slice (some (⟨b9, 0, none⟩ : Addr)) 2 2), (.slice none 0 0), (.slice none 0 0), (.int .u8 (0 : Int)), (.int .i64 (2 : Int)), (.int .i64 (92 : Int))] ty_struct_s_rat_Step_kind_uint8_id_int_e_api_Errno fun b10 =>
 lfp (σ := (Int × (Bool × Unit))) (fun X11 s12 => /-   -/
 brB (decide (s12.1 < (5 : Int)))
 (sx (some (⟨b10, 0, none⟩ : Addr)) 5 s12.1 6 fun p13 =>
 ldA (.cons .sl (.cons .sl (.cons .sl (.cons (.int .u8) (.cons (.int .i64) (.cons (.int .i64) .nil)))))) p13 fun x14 =>
 nw #[(.slice none 0 0), (.slice none 0 0), (.slice none 0 0), (.int .u8 (0 : Int)), (.int .i64 (0 : Int)), (.int .i64 (0 : Int))] ty_struct_s_rat_Step_kind_uint8_id_int_e_api_Errno fun b15 =>
 st1 (⟨b15, 0, none⟩ : Addr) (.slice x14.1.a x14.1.len x14.1.cap) <|
 st1 ((⟨b15, 0, none⟩ : Addr).add 1) (.slice x14.2.1.a x14.2.1.len x14.2.1.cap) <|
 st1 ((⟨b15, 0, none⟩ : Addr).add 2) (.slice x14.2.2.1.a x14.2.2.1.len x14.2.2.1.cap) <|
 st1 ((⟨b15, 0, none⟩ : Addr).add 3) (.int .u8 x14.2.2.2.1) <|
 st1 ((⟨b15, 0, none⟩ : Addr).add 4) (.int .i64 x14.2.2.2.2.1) <|
 st1 ((⟨b15, 0, none⟩ : Addr).add 5) (.int .i64 x14.2.2.2.2.2.1) <|
 ldA (.cons .sl (.cons .sl (.cons .sl .nil))) (⟨b15, 0, none⟩ : Addr) fun x16 =>
 callT Tryz.prog fn_rat_Check #[(.slice r0.a r0.len r0.cap), (.agg #[(.slice x16.1.a x16.1.len x16.1.cap), (.slice x16.2.1.a x16.2.1.len x16.2.1.cap), (.slice x16.2.2.1.a x16.2.2.1.len x16.2.2.1.cap)])] (.tup (.cons (.int .u8) (.cons (.int .i64) (.cons (.int .i64) .nil)))) fun r17 =>
 ldT (.int .u8) ((⟨b15, 0, none⟩ : Addr).add 3) fun x18 =>
 jn (σ := Bool) (fun t20 =>
 jn (σ := Bool) (fun t22 =>
 brB t22
 (K false)
 (X11 ((IntKind.wrap .i64 (s12.1 + (1 : Int))), s12.2.1, ())))
 (fun J21 =>
 brB t20
 (J21 true)
 (ldT (.int .i64) ((⟨b15, 0, none⟩ : Addr).add 5) fun x23 =>
 J21 ((r17.2.2.1 != x23)))))
 (fun J19 =>
 brB (r17.1 != x18)
 (J19 true)
 (ldT (.int .i64) ((⟨b15, 0, none⟩ : Addr).add 4) fun x24 =>
 J19 ((r17.2.1 != x24)))))
 (nw #[(.int .i64 (5 : Int)), (.int .i64 (-7 : Int)), (.int .i64 (2 : Int)), (.int .i64 (3 : Int)), (.int .i64 (-8 : Int))] ty_int fun b25 =>
 callT Tryz.prog fn_rat_Split #[(.slice (some (⟨b25, 0, none⟩ : Addr)) 5 5)] (.tup (.cons .sl (.cons .sl (.cons (.int .i64) .nil)))) fun r26 =>
 nw #[(.int .i64 (-3 : Int)), (.int .i64 (1 : Int))] ty_lits_Lit fun b27 =>
 nw #[(.int .i64 (3 : Int)), (.int .i64 (-1 : Int))] ty_lits_Lit fun b28 =>
 callT Tryz.prog fn_rat_Repair #[(.slice (some (⟨b27, 0, none⟩ : Addr)) 2 2), (.slice (some (⟨b28, 0, none⟩ : Addr)) 2 2)] (.tup (.cons .sl (.cons (.int .i64) .nil))) fun r29 =>
 jn (σ := Bool) (fun t31 =>
 jn (σ := Bool) (fun t33 =>
 jn (σ := Bool) (fun t35 =>
 K t35)
 (fun J34 =>
 brB t33
 (nw #[(.int .i64 (-3 : Int)), (.int .i64 (-1 : Int))] ty_lits_Lit fun b36 =>
 callT Tryz.prog fn_slices_Equal_lits_Lit_lits_Lit #[(.slice r29.1.a r29.1.len r29.1.cap), (.slice (some (⟨b36, 0, none⟩ : Addr)) 2 2)] .bool fun r37 =>
 J34 (r37))
 (J34 false)))
 (fun J32 =>
 brB t31
 (nw #[(.int .i64 (2 : Int)), (.int .i64 (3 : Int))] ty_int fun b38 =>
 nw #[(.int .i64 (7 : Int)), (.slice (some (⟨b38, 0, none⟩ : Addr)) 2 2), (.int .i64 (8 : Int)), (.slice none 0 0)] ty_rat_Group fun b39 =>
 callT Tryz.prog fn_salvorlaw09_sameGroups #[(.slice r26.2.1.a r26.2.1.len r26.2.1.cap), (.slice (some (⟨b39, 0, none⟩ : Addr)) 2 2)] .bool fun r40 =>
 J32 (r40))
 (J32 false)))
 (fun J30 =>
 brB ((IntKind.wrap .i64 (r26.2.2.1 + r29.2.1)) == (0 : Int))
 (nw #[(.int .i64 (5 : Int))] ty_int fun b41 =>
 callT Tryz.prog fn_slices_Equal_int_int #[(.slice r26.1.a r26.1.len r26.1.cap), (.slice (some (⟨b41, 0, none⟩ : Addr)) 1 1)] .bool fun r42 =>
 J30 (r42))
 (J30 false))))
 ((0 : Int), false, ())
set_option maxRecDepth 100000 in
theorem E_salvorlaw09_awake (K : Bool → HP) (h : Heap) : fnVC Tryz.prog [(1000000, .bool)] 99 Tryz.f10 [] .bool K h = F_salvorlaw09_awake K h := by kernel_rfl
set_option maxRecDepth 100000 in
theorem S_salvorlaw09_awake{h : Heap} (K : Bool → HP) (hF : F_salvorlaw09_awake K h) : CallsH Tryz.prog fn_salvorlaw09_awake #[] h fun v h' => ∃ x : Bool, v = Ty.enc .bool x ∧ K x h' :=
  callsH_of_fn (P := Tryz.prog) (fn := Tryz.f10) (τ := .bool) follows Tryz.func10 (by kernel_rfl) (by kernel_rfl) Tryz.call10 (Eq.mpr (E_salvorlaw09_awake K h) hF)

end Go.Proofs.S
