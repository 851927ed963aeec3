/- The functions of the seat, each as a predicate over its values, printed by a program of ours, and that each is its text's. -/
import Derived.Test.YtjkgncibelojnaaGreatSx10
import Derived.KernelRfl
import Derived.Test.YtjkgncibelojnaaGreatProg
import Derived.Test.YtjkgncibelojnaaGreatClF0
set_option linter.unusedVariables false
namespace Go.Proofs.S
open Go Go.Sx Go.Proofs
def F_salvorlaw09_RatSearches (a0 : Sl) (a1 : Sl) (K : Bool → HP) : HP :=
 callT Tryz.prog fn_salvorlaw09_few #[(.slice a0.a a0.len a0.cap)] .bool fun r0 =>
 jn (σ := Bool) (fun t2 =>
 jn (σ := Bool) (fun t4 =>
 jn (σ := Bool) (fun t6 =>
 K t6)
 (fun J5 =>
 brB t4
 (callT Tryz.prog fn_salvorlaw09_awake #[] .bool fun r7 =>
 J5 (r7))
 (J5 false)))
 (fun J3 =>
 brB t2
 (J3 true)
 (callT Tryz.prog fn_salvorlaw09_searches #[(.slice a0.a a0.len a0.cap), (.slice a1.a a1.len a1.cap)] .bool fun r8 =>
 J3 (r8))))
 (fun J1 =>
 brB (!r0)
 (J1 true)
 (J1 ((decide ((a1.len : Int) > (12 : Int))))))
set_option maxRecDepth 100000 in
theorem E_salvorlaw09_RatSearches (a0 : Sl) (a1 : Sl) (K : Bool → HP) (h : Heap) : fnVC Tryz.prog [(1000000, .bool)] 21 Tryz.f7 [(.slice a0.a a0.len a0.cap), (.slice a1.a a1.len a1.cap)] .bool K h = F_salvorlaw09_RatSearches a0 a1 K h := by kernel_rfl
def F_salvorlaw09_awake (K : Bool → HP) : HP :=
 callT Tryz.prog fn_salvorlaw09_three #[] .sl fun r0 =>
 nw #[(.int .i64 (4 : Int)), (.int .i64 (1 : Int))] ty_lits_Lit fun b1 =>
 nw #[(.int .i64 (1 : Int)), (.int .i64 (3 : Int))] ty_lits_Lit fun b2 =>
 nw #[(.int .i64 (1 : Int)), (.int .i64 (3 : Int))] ty_int fun b3 =>
 nw #[(.int .i64 (1 : Int)), (.int .i64 (3 : Int))] ty_lits_Lit fun b4 =>
 nw #[(.int .i64 (1 : Int))] ty_int fun b5 =>
 nw #[(.int .i64 (2 : Int)), (.slice none 0 0)] ty_rat_Group fun b6 =>
 nw #[(.int .i64 (-3 : Int)), (.int .i64 (1 : Int))] ty_lits_Lit fun b7 =>
 nw #[(.int .i64 (2 : Int)), (.slice none 0 0)] ty_rat_Group fun b8 =>
 nw #[(.int .i64 (-3 : Int)), (.int .i64 (1 : Int))] ty_lits_Lit fun b9 =>
 nw #[(.slice (some (⟨b1, 0, none⟩ : Addr)) 2 2), (.slice none 0 0), (.slice none 0 0), (.int .u8 (2 : Int)), (.int .i64 (0 : Int)), (.int .i64 (0 : Int)), (.slice (some (⟨b2, 0, none⟩ : Addr)) 2 2), (.slice (some (⟨b3, 0, none⟩ : Addr)) 2 2), (.slice none 0 0), (.int .u8 (0 : Int)), (.int .i64 (3 : Int)), (.int .i64 (81 : Int)), (.slice (some (⟨b4, 0, none⟩ : Addr)) 2 2), (.slice (some (⟨b5, 0, none⟩ : Addr)) 1 1), (.slice (some (⟨b6, 0, none⟩ : Addr)) 1 1), (.int .u8 (0 : Int)), (.int .i64 (2 : Int)), (.int .i64 (93 : Int)), (.slice (some (⟨b7, 0, none⟩ : Addr)) 2 2), (.slice none 0 0), (.slice (some (⟨b8, 0, none⟩ : Addr)) 1 1), (.int .u8 (2 : Int)), (.int .i64 (0 : Int)), (.int .i64 (0 : Int)), (.slice (some (⟨b9, 0, none⟩ : Addr)) 2 2), (.slice none 0 0), (.slice none 0 0), (.int .u8 (0 : Int)), (.int .i64 (2 : Int)), (.int .i64 (92 : Int))] ty_struct_s_rat_Step_kind_uint8_id_int_e_api_Errno fun b10 =>
 lfp (σ := (Int × (Bool × Unit))) (fun X11 s12 => /-   -/
 brB (decide (s12.1 < (5 : Int)))
 (sx (some (⟨b10, 0, none⟩ : Addr)) 5 s12.1 6 fun p13 =>
 ldA (.cons .sl (.cons .sl (.cons .sl (.cons (.int .u8) (.cons (.int .i64) (.cons (.int .i64) .nil)))))) p13 fun x14 =>
 nw #[(.slice none 0 0), (.slice none 0 0), (.slice none 0 0), (.int .u8 (0 : Int)), (.int .i64 (0 : Int)), (.int .i64 (0 : Int))] ty_struct_s_rat_Step_kind_uint8_id_int_e_api_Errno fun b15 =>
 st1 (⟨b15, 0, none⟩ : Addr) (.slice x14.1.a x14.1.len x14.1.cap) <|
 st1 ((⟨b15, 0, none⟩ : Addr).add 1) (.slice x14.2.1.a x14.2.1.len x14.2.1.cap) <|
 st1 ((⟨b15, 0, none⟩ : Addr).add 2) (.slice x14.2.2.1.a x14.2.2.1.len x14.2.2.1.cap) <|
 st1 ((⟨b15, 0, none⟩ : Addr).add 3) (.int .u8 x14.2.2.2.1) <|
 st1 ((⟨b15, 0, none⟩ : Addr).add 4) (.int .i64 x14.2.2.2.2.1) <|
 st1 ((⟨b15, 0, none⟩ : Addr).add 5) (.int .i64 x14.2.2.2.2.2.1) <|
 ldA (.cons .sl (.cons .sl (.cons .sl .nil))) (⟨b15, 0, none⟩ : Addr) fun x16 =>
 callT Tryz.prog fn_rat_Check #[(.slice r0.a r0.len r0.cap), (.agg #[(.slice x16.1.a x16.1.len x16.1.cap), (.slice x16.2.1.a x16.2.1.len x16.2.1.cap), (.slice x16.2.2.1.a x16.2.2.1.len x16.2.2.1.cap)])] (.tup (.cons (.int .u8) (.cons (.int .i64) (.cons (.int .i64) .nil)))) fun r17 =>
 ldT (.int .u8) ((⟨b15, 0, none⟩ : Addr).add 3) fun x18 =>
 jn (σ := Bool) (fun t20 =>
 jn (σ := Bool) (fun t22 =>
 brB t22
 (K false)
 (X11 ((IntKind.wrap .i64 (s12.1 + (1 : Int))), s12.2.1, ())))
 (fun J21 =>
 brB t20
 (J21 true)
 (ldT (.int .i64) ((⟨b15, 0, none⟩ : Addr).add 5) fun x23 =>
 J21 ((r17.2.2.1 != x23)))))
 (fun J19 =>
 brB (r17.1 != x18)
 (J19 true)
 (ldT (.int .i64) ((⟨b15, 0, none⟩ : Addr).add 4) fun x24 =>
 J19 ((r17.2.1 != x24)))))
 (nw #[(.int .i64 (5 : Int)), (.int .i64 (-7 : Int)), (.int .i64 (2 : Int)), (.int .i64 (3 : Int)), (.int .i64 (-8 : Int))] ty_int fun b25 =>
 callT Tryz.prog fn_rat_Split #[(.slice (some (⟨b25, 0, none⟩ : Addr)) 5 5)] (.tup (.cons .sl (.cons .sl (.cons (.int .i64) .nil)))) fun r26 =>
 nw #[(.int .i64 (-3 : Int)), (.int .i64 (1 : Int))] ty_lits_Lit fun b27 =>
 nw #[(.int .i64 (3 : Int)), (.int .i64 (-1 : Int))] ty_lits_Lit fun b28 =>
 callT Tryz.prog fn_rat_Repair #[(.slice (some (⟨b27, 0, none⟩ : Addr)) 2 2), (.slice (some (⟨b28, 0, none⟩ : Addr)) 2 2)] (.tup (.cons .sl (.cons (.int .i64) .nil))) fun r29 =>
 jn (σ := Bool) (fun t31 =>
 jn (σ := Bool) (fun t33 =>
 jn (σ := Bool) (fun t35 =>
 K t35)
 (fun J34 =>
 brB t33
 (nw #[(.int .i64 (-3 : Int)), (.int .i64 (-1 : Int))] ty_lits_Lit fun b36 =>
 callT Tryz.prog fn_slices_Equal_lits_Lit_lits_Lit #[(.slice r29.1.a r29.1.len r29.1.cap), (.slice (some (⟨b36, 0, none⟩ : Addr)) 2 2)] .bool fun r37 =>
 J34 (r37))
 (J34 false)))
 (fun J32 =>
 brB t31
 (nw #[(.int .i64 (2 : Int)), (.int .i64 (3 : Int))] ty_int fun b38 =>
 nw #[(.int .i64 (7 : Int)), (.slice (some (⟨b38, 0, none⟩ : Addr)) 2 2), (.int .i64 (8 : Int)), (.slice none 0 0)] ty_rat_Group fun b39 =>
 callT Tryz.prog fn_salvorlaw09_sameGroups #[(.slice r26.2.1.a r26.2.1.len r26.2.1.cap), (.slice (some (⟨b39, 0, none⟩ : Addr)) 2 2)] .bool fun r40 =>
 J32 (r40))
 (J32 false)))
 (fun J30 =>
 brB ((IntKind.wrap .i64 (r26.2.2.1 + r29.2.1)) == (0 : Int))
 (nw #[(.int .i64 (5 : Int))] ty_int fun b41 =>
 callT Tryz.prog fn_slices_Equal_int_int #[(.slice r26.1.a r26.1.len r26.1.cap), (.slice (some (⟨b41, 0, none⟩ : Addr)) 1 1)] .bool fun r42 =>
 J30 (r42))
 (J30 false))))
 ((0 : Int), false, ())
set_option maxRecDepth 100000 in
theorem E_salvorlaw09_awake (K : Bool → HP) (h : Heap) : fnVC Tryz.prog [(1000000, .bool)] 99 Tryz.f10 [] .bool K h = F_salvorlaw09_awake K h := by kernel_rfl
set_option maxRecDepth 100000 in
theorem S_salvorlaw09_awake{h : Heap} (K : Bool → HP) (hF : F_salvorlaw09_awake K h) : CallsH Tryz.prog fn_salvorlaw09_awake #[] h fun v h' => ∃ x : Bool, v = Ty.enc .bool x ∧ K x h' :=
  callsH_of_fn (P := Tryz.prog) (fn := Tryz.f10) (τ := .bool) follows Tryz.func10 (by kernel_rfl) (by kernel_rfl) Tryz.call10 (Eq.mpr (E_salvorlaw09_awake K h) hF)

end Go.Proofs.S
