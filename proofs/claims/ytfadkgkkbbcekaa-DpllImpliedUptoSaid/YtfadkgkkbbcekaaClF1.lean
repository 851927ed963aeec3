/- The functions of the seat, each as a predicate over its values, printed by a program of ours, and that each is its text's. -/
import Derived.Test.YtfadkgkkbbcekaaSx10
import Derived.KernelRfl
import Derived.Test.YtfadkgkkbbcekaaProg
import Derived.Test.YtfadkgkkbbcekaaClF0
set_option linter.unusedVariables false
namespace Go.Proofs.S
open Go Go.Sx Go.Proofs
def F_salvorlaw19_DpllImplied (a0 : (Int × (Sl × Unit))) (a1 : Sl) (a2 : Int) (K : Bool → HP) : HP :=
 nw #[(.int .i64 a0.1), (.slice a0.2.1.a a0.2.1.len a0.2.1.cap)] ty_formula_Formula fun b0 =>
 ldA (.cons (.int .i64) (.cons .sl .nil)) (⟨b0, 0, none⟩ : Addr) fun x1 =>
 callT Try.prog fn_salvorlaw19_few #[(.agg #[(.int .i64 x1.1), (.slice x1.2.1.a x1.2.1.len x1.2.1.cap)])] .bool fun r2 =>
 jn (σ := Bool) (fun t4 =>
 jn (σ := Bool) (fun t6 =>
 jn (σ := Bool) (fun t8 =>
 jn (σ := Bool) (fun t10 =>
 K t10)
 (fun J9 =>
 brB t8
 (callT Try.prog fn_salvorlaw19_awake #[] .bool fun r11 =>
 J9 (r11))
 (J9 false)))
 (fun J7 =>
 brB t6
 (J7 true)
 (ldA (.cons (.int .i64) (.cons .sl .nil)) (⟨b0, 0, none⟩ : Addr) fun x12 =>
 callT Try.prog fn_salvorlaw19_implied #[(.agg #[(.int .i64 x12.1), (.slice x12.2.1.a x12.2.1.len x12.2.1.cap)]), (.slice a1.a a1.len a1.cap), (.int .i64 a2)] .bool fun r13 =>
 J7 (r13))))
 (fun J5 =>
 brB t4
 (J5 true)
 (callT Try.prog fn_salvorlaw19_fueled #[(.int .i64 a2)] .bool fun r14 =>
 J5 ((!r14)))))
 (fun J3 =>
 brB (!r2)
 (J3 true)
 (J3 ((decide ((a1.len : Int) > (20 : Int))))))
set_option maxRecDepth 100000 in
theorem E_salvorlaw19_DpllImplied (a0 : (Int × (Sl × Unit))) (a1 : Sl) (a2 : Int) (K : Bool → HP) (h : Heap) : fnVC Try.prog [(1000000, .bool)] 29 Try.f3 [(.agg #[(.int .i64 a0.1), (.slice a0.2.1.a a0.2.1.len a0.2.1.cap)]), (.slice a1.a a1.len a1.cap), (.int .i64 a2)] .bool K h = F_salvorlaw19_DpllImplied a0 a1 a2 K h := by kernel_rfl
def F_salvorlaw19_few (a0 : (Int × (Sl × Unit))) (K : Bool → HP) : HP :=
 nw #[(.int .i64 a0.1), (.slice a0.2.1.a a0.2.1.len a0.2.1.cap)] ty_formula_Formula fun b0 =>
 ldT .sl ((⟨b0, 0, none⟩ : Addr).add 1) fun x1 =>
 ldT .sl ((⟨b0, 0, none⟩ : Addr).add 1) fun x2 =>
 slH ⟨x1.a, x1.len, x1.cap⟩ (if (61 : Int) < (x2.len : Int) then (61 : Int) else (x2.len : Int)) 1 fun s3 =>
 lfp (σ := (Int × (Int × Unit))) (fun X4 s5 => /-  n -/
 brB (decide (s5.1 < (s3.len : Int)))
 (sx s3.a s3.len s5.1 1 fun p6 =>
 ldT .sl p6 fun x7 =>
 X4 ((IntKind.wrap .i64 (s5.1 + (1 : Int))), (IntKind.wrap .i64 (s5.2.1 + (x7.len : Int))), ()))
 (ldT (.int .i64) (⟨b0, 0, none⟩ : Addr) fun x8 =>
 jn (σ := Bool) (fun t10 =>
 jn (σ := Bool) (fun t12 =>
 jn (σ := Bool) (fun t14 =>
 K t14)
 (fun J13 =>
 brB t12
 (J13 ((decide (s5.2.1 ≤ (300 : Int)))))
 (J13 false)))
 (fun J11 =>
 brB t10
 (ldT .sl ((⟨b0, 0, none⟩ : Addr).add 1) fun x15 =>
 J11 ((decide ((x15.len : Int) ≤ (60 : Int)))))
 (J11 false)))
 (fun J9 =>
 brB (decide (x8 ≤ (12 : Int)))
 (J9 true)
 (ldT (.int .i64) (⟨b0, 0, none⟩ : Addr) fun x16 =>
 J9 ((decide (x16 > (1048576 : Int))))))))
 ((0 : Int), (0 : Int), ())
set_option maxRecDepth 100000 in
theorem E_salvorlaw19_few (a0 : (Int × (Sl × Unit))) (K : Bool → HP) (h : Heap) : fnVC Try.prog [(1000000, .bool)] 41 Try.f11 [(.agg #[(.int .i64 a0.1), (.slice a0.2.1.a a0.2.1.len a0.2.1.cap)])] .bool K h = F_salvorlaw19_few a0 K h := by kernel_rfl
set_option maxRecDepth 100000 in
theorem S_salvorlaw19_few{h : Heap} {a0 : (Int × (Sl × Unit))} (K : Bool → HP) (hF : F_salvorlaw19_few a0 K h) : CallsH Try.prog fn_salvorlaw19_few #[(.agg #[(.int .i64 a0.1), (.slice a0.2.1.a a0.2.1.len a0.2.1.cap)])] h fun v h' => ∃ x : Bool, v = Ty.enc .bool x ∧ K x h' :=
  callsH_of_fn (P := Try.prog) (fn := Try.f11) (τ := .bool) follows Try.func11 (by kernel_rfl) (by kernel_rfl) Try.call11 (Eq.mpr (E_salvorlaw19_few a0 K h) hF)

def F_salvorlaw19_fueled (a0 : Int) (K : Bool → HP) : HP :=
 jn (σ := Bool) (fun t1 =>
 K t1)
 (fun J0 =>
 brB (decide (a0 ≤ (300 : Int)))
 (J0 true)
 (J0 ((decide (a0 > (16777216 : Int))))))
set_option maxRecDepth 100000 in
theorem E_salvorlaw19_fueled (a0 : Int) (K : Bool → HP) (h : Heap) : fnVC Try.prog [(1000000, .bool)] 9 Try.f12 [(.int .i64 a0)] .bool K h = F_salvorlaw19_fueled a0 K h := by kernel_rfl
set_option maxRecDepth 100000 in
theorem S_salvorlaw19_fueled{h : Heap} {a0 : Int} (K : Bool → HP) (hF : F_salvorlaw19_fueled a0 K h) : CallsH Try.prog fn_salvorlaw19_fueled #[(.int .i64 a0)] h fun v h' => ∃ x : Bool, v = Ty.enc .bool x ∧ K x h' :=
  callsH_of_fn (P := Try.prog) (fn := Try.f12) (τ := .bool) follows Try.func12 (by kernel_rfl) (by kernel_rfl) Try.call12 (Eq.mpr (E_salvorlaw19_fueled a0 K h) hF)

def F_salvorlaw19_implied (a0 : (Int × (Sl × Unit))) (a1 : Sl) (a2 : Int) (K : Bool → HP) : HP :=
 nw #[(.int .i64 a0.1), (.slice a0.2.1.a a0.2.1.len a0.2.1.cap)] ty_formula_Formula fun b0 =>
 ldA (.cons (.int .i64) (.cons .sl .nil)) (⟨b0, 0, none⟩ : Addr) fun x1 =>
 callT Try.prog fn_salvorlaw02_Clause #[(.slice a1.a a1.len a1.cap)] .sl fun r2 =>
 ckA (⟨b0, 0, none⟩ : Addr) [(.int .i64 x1.1), (.slice x1.2.1.a x1.2.1.len x1.2.1.cap)] <|
 callT Try.prog fn_dpll_Implied #[(.agg #[(.int .i64 x1.1), (.slice x1.2.1.a x1.2.1.len x1.2.1.cap)]), (.slice r2.a r2.len r2.cap), (.int .i64 a2)] (.tup (.cons .bool (.cons (.int .i64) .nil))) fun r3 =>
 ldA (.cons (.int .i64) (.cons .sl .nil)) (⟨b0, 0, none⟩ : Addr) fun x4 =>
 callT Try.prog fn_salvorlaw05_Theirs #[(.agg #[(.int .i64 x4.1), (.slice x4.2.1.a x4.2.1.len x4.2.1.cap)])] (.agg (.cons (.int .i64) (.cons .sl .nil))) fun r5 =>
 nw #[(.int .i64 (0 : Int)), (.slice none 0 0)] ty_salvorref05_Formula fun b6 =>
 st1 (⟨b6, 0, none⟩ : Addr) (.int .i64 r5.1) <|
 st1 ((⟨b6, 0, none⟩ : Addr).add 1) (.slice r5.2.1.a r5.2.1.len r5.2.1.cap) <|
 ldA (.cons (.int .i64) (.cons .sl .nil)) (⟨b6, 0, none⟩ : Addr) fun x7 =>
 callT Try.prog fn_salvorref05_Check #[(.agg #[(.int .i64 x7.1), (.slice x7.2.1.a x7.2.1.len x7.2.1.cap)])] (.tup (.cons (.int .i64) (.cons (.int .i64) .nil))) fun r8 =>
 brB (r8.2.1 != (0 : Int))
 (jn (σ := Bool) (fun t10 =>
 K t10)
 (fun J9 =>
 brB (!r3.1)
 (J9 ((r3.2.1 == r8.2.1)))
 (J9 false)))
 (jn (σ := Bool) (fun t12 =>
 brB t12
 (jn (σ := Bool) (fun t14 =>
 K t14)
 (fun J13 =>
 brB (!r3.1)
 (J13 ((r3.2.1 == (2 : Int))))
 (J13 false)))
 (ldA (.cons (.int .i64) (.cons .sl .nil)) (⟨b6, 0, none⟩ : Addr) fun x15 =>
 callT Try.prog fn_salvorref19_Implied #[(.agg #[(.int .i64 x15.1), (.slice x15.2.1.a x15.2.1.len x15.2.1.cap)]), (.slice a1.a a1.len a1.cap), (.int .i64 a2)] (.tup (.cons .bool (.cons (.int .i64) .nil))) fun r16 =>
 jn (σ := Bool) (fun t18 =>
 K t18)
 (fun J17 =>
 brB (r3.1 == r16.1)
 (J17 ((r3.2.1 == r16.2.1)))
 (J17 false))))
 (fun J11 =>
 brB (decide (a2 < (0 : Int)))
 (J11 true)
 (J11 ((decide (a2 > (16777216 : Int)))))))
set_option maxRecDepth 100000 in
theorem E_salvorlaw19_implied (a0 : (Int × (Sl × Unit))) (a1 : Sl) (a2 : Int) (K : Bool → HP) (h : Heap) : fnVC Try.prog [(1000000, .bool)] 65 Try.f13 [(.agg #[(.int .i64 a0.1), (.slice a0.2.1.a a0.2.1.len a0.2.1.cap)]), (.slice a1.a a1.len a1.cap), (.int .i64 a2)] .bool K h = F_salvorlaw19_implied a0 a1 a2 K h := by kernel_rfl
set_option maxRecDepth 100000 in
theorem S_salvorlaw19_implied{h : Heap} {a0 : (Int × (Sl × Unit))} {a1 : Sl} {a2 : Int} (K : Bool → HP) (hF : F_salvorlaw19_implied a0 a1 a2 K h) : CallsH Try.prog fn_salvorlaw19_implied #[(.agg #[(.int .i64 a0.1), (.slice a0.2.1.a a0.2.1.len a0.2.1.cap)]), (.slice a1.a a1.len a1.cap), (.int .i64 a2)] h fun v h' => ∃ x : Bool, v = Ty.enc .bool x ∧ K x h' :=
  callsH_of_fn (P := Try.prog) (fn := Try.f13) (τ := .bool) follows Try.func13 (by kernel_rfl) (by kernel_rfl) Try.call13 (Eq.mpr (E_salvorlaw19_implied a0 a1 a2 K h) hF)

def F_salvorlaw19_awake (K : Bool → HP) : HP :=
 nw #[(.int .i64 (1 : Int)), (.int .i64 (2 : Int))] ty_int fun b0 =>
 nw #[(.int .i64 (-1 : Int)), (.int .i64 (3 : Int))] ty_int fun b1 =>
 nw #[(.slice (some (⟨b0, 0, none⟩ : Addr)) 2 2), (.slice (some (⟨b1, 0, none⟩ : Addr)) 2 2)] ty_sl_int fun b2 =>
 callT Try.prog fn_salvorlaw05_Of #[(.int .i64 (3 : Int)), (.slice (some (⟨b2, 0, none⟩ : Addr)) 2 2)] (.agg (.cons (.int .i64) (.cons .sl .nil))) fun r3 =>
 nw #[(.int .i64 (0 : Int)), (.slice none 0 0)] ty_formula_Formula fun b4 =>
 st1 (⟨b4, 0, none⟩ : Addr) (.int .i64 r3.1) <|
 st1 ((⟨b4, 0, none⟩ : Addr).add 1) (.slice r3.2.1.a r3.2.1.len r3.2.1.cap) <|
 ldA (.cons (.int .i64) (.cons .sl .nil)) (⟨b4, 0, none⟩ : Addr) fun x5 =>
 nw #[(.int .i64 (-2 : Int))] ty_lits_Lit fun b6 =>
 callT Try.prog fn_dpll_Follows #[(.agg #[(.int .i64 x5.1), (.slice x5.2.1.a x5.2.1.len x5.2.1.cap)]), (.slice (some (⟨b6, 0, none⟩ : Addr)) 1 1)] (.tup (.cons .sl (.cons (.int .i64) (.cons (.int .i64) .nil)))) fun r7 =>
 ldA (.cons (.int .i64) (.cons .sl .nil)) (⟨b4, 0, none⟩ : Addr) fun x8 =>
 callT Try.prog fn_dpll_Solve #[(.agg #[(.int .i64 x8.1), (.slice x8.2.1.a x8.2.1.len x8.2.1.cap)]), (.int .i64 (2 : Int))] (.tup (.cons (.agg (.cons .bool (.cons .sl (.cons (.int .i64) .nil)))) (.cons (.int .i64) .nil))) fun r9 =>
 nw #[(.bool false), (.slice none 0 0), (.int .i64 (0 : Int))] ty_dpll_Answer fun b10 =>
 st1 (⟨b10, 0, none⟩ : Addr) (.bool r9.1.1) <|
 st1 ((⟨b10, 0, none⟩ : Addr).add 1) (.slice r9.1.2.1.a r9.1.2.1.len r9.1.2.1.cap) <|
 st1 ((⟨b10, 0, none⟩ : Addr).add 2) (.int .i64 r9.1.2.2.1) <|
 ldA (.cons (.int .i64) (.cons .sl .nil)) (⟨b4, 0, none⟩ : Addr) fun x11 =>
 callT Try.prog fn_dpll_Solve #[(.agg #[(.int .i64 x11.1), (.slice x11.2.1.a x11.2.1.len x11.2.1.cap)]), (.int .i64 (1 : Int))] (.tup (.cons (.agg (.cons .bool (.cons .sl (.cons (.int .i64) .nil)))) (.cons (.int .i64) .nil))) fun r12 =>
 nw #[(.bool false), (.slice none 0 0), (.int .i64 (0 : Int))] ty_dpll_Answer fun b13 =>
 st1 (⟨b13, 0, none⟩ : Addr) (.bool r12.1.1) <|
 st1 ((⟨b13, 0, none⟩ : Addr).add 1) (.slice r12.1.2.1.a r12.1.2.1.len r12.1.2.1.cap) <|
 st1 ((⟨b13, 0, none⟩ : Addr).add 2) (.int .i64 r12.1.2.2.1) <|
 ldA (.cons (.int .i64) (.cons .sl .nil)) (⟨b4, 0, none⟩ : Addr) fun x14 =>
 nw #[(.int .i64 (-2 : Int)), (.int .i64 (-3 : Int))] ty_lits_Lit fun b15 =>
 callT Try.prog fn_dpll_Follows #[(.agg #[(.int .i64 x14.1), (.slice x14.2.1.a x14.2.1.len x14.2.1.cap)]), (.slice (some (⟨b15, 0, none⟩ : Addr)) 2 2)] (.tup (.cons .sl (.cons (.int .i64) (.cons (.int .i64) .nil)))) fun r16 =>
 nw #[(.int .i64 (1 : Int))] ty_int fun b17 =>
 nw #[(.int .i64 (-1 : Int))] ty_int fun b18 =>
 nw #[(.slice (some (⟨b17, 0, none⟩ : Addr)) 1 1), (.slice (some (⟨b18, 0, none⟩ : Addr)) 1 1)] ty_sl_int fun b19 =>
 callT Try.prog fn_salvorlaw05_Of #[(.int .i64 (1 : Int)), (.slice (some (⟨b19, 0, none⟩ : Addr)) 2 2)] (.agg (.cons (.int .i64) (.cons .sl .nil))) fun r20 =>
 callT Try.prog fn_dpll_Solve #[(.agg #[(.int .i64 r20.1), (.slice r20.2.1.a r20.2.1.len r20.2.1.cap)]), (.int .i64 (0 : Int))] (.tup (.cons (.agg (.cons .bool (.cons .sl (.cons (.int .i64) .nil)))) (.cons (.int .i64) .nil))) fun r21 =>
 nw #[(.bool false), (.slice none 0 0), (.int .i64 (0 : Int))] ty_dpll_Answer fun b22 =>
 st1 (⟨b22, 0, none⟩ : Addr) (.bool r21.1.1) <|
 st1 ((⟨b22, 0, none⟩ : Addr).add 1) (.slice r21.1.2.1.a r21.1.2.1.len r21.1.2.1.cap) <|
 st1 ((⟨b22, 0, none⟩ : Addr).add 2) (.int .i64 r21.1.2.2.1) <|
 ldA (.cons (.int .i64) (.cons .sl .nil)) (⟨b4, 0, none⟩ : Addr) fun x23 =>
 nw #[(.int .i64 (2 : Int)), (.int .i64 (3 : Int))] ty_lits_Lit fun b24 =>
 callT Try.prog fn_dpll_Implied #[(.agg #[(.int .i64 x23.1), (.slice x23.2.1.a x23.2.1.len x23.2.1.cap)]), (.slice (some (⟨b24, 0, none⟩ : Addr)) 2 2), (.int .i64 (9 : Int))] (.tup (.cons .bool (.cons (.int .i64) .nil))) fun r25 =>
 ldA (.cons (.int .i64) (.cons .sl .nil)) (⟨b4, 0, none⟩ : Addr) fun x26 =>
 nw #[(.int .i64 (2 : Int))] ty_lits_Lit fun b27 =>
 callT Try.prog fn_dpll_Implied #[(.agg #[(.int .i64 x26.1), (.slice x26.2.1.a x26.2.1.len x26.2.1.cap)]), (.slice (some (⟨b27, 0, none⟩ : Addr)) 1 1), (.int .i64 (9 : Int))] (.tup (.cons .bool (.cons (.int .i64) .nil))) fun r28 =>
 jn (σ := Bool) (fun t30 =>
 jn (σ := Bool) (fun t32 =>
 jn (σ := Bool) (fun t34 =>
 jn (σ := Bool) (fun t36 =>
 jn (σ := Bool) (fun t38 =>
 jn (σ := Bool) (fun t40 =>
 jn (σ := Bool) (fun t42 =>
 jn (σ := Bool) (fun t44 =>
 jn (σ := Bool) (fun t46 =>
 jn (σ := Bool) (fun t48 =>
 jn (σ := Bool) (fun t50 =>
 jn (σ := Bool) (fun t52 =>
 K t52)
 (fun J51 =>
 brB t50
 (J51 ((!r28.1)))
 (J51 false)))
 (fun J49 =>
 brB t48
 (J49 (r25.1))
 (J49 false)))
 (fun J47 =>
 brB t46
 (ldT (.int .i64) ((⟨b22, 0, none⟩ : Addr).add 2) fun x53 =>
 J47 ((x53 == (0 : Int))))
 (J47 false)))
 (fun J45 =>
 brB t44
 (ldT .bool (⟨b22, 0, none⟩ : Addr) fun x54 =>
 J45 ((!x54)))
 (J45 false)))
 (fun J43 =>
 brB t42
 (J43 ((r16.2.1 == (1 : Int))))
 (J43 false)))
 (fun J41 =>
 brB t40
 (nw #[(.int .i64 (1 : Int))] ty_lits_Lit fun b55 =>
 callT Try.prog fn_slices_Equal_lits_Lit_lits_Lit #[(.slice r16.1.a r16.1.len r16.1.cap), (.slice (some (⟨b55, 0, none⟩ : Addr)) 1 1)] .bool fun r56 =>
 J41 (r56))
 (J41 false)))
 (fun J39 =>
 brB t38
 (ldT (.int .i64) ((⟨b10, 0, none⟩ : Addr).add 2) fun x57 =>
 J39 ((x57 == (2 : Int))))
 (J39 false)))
 (fun J37 =>
 brB t36
 (ldT .sl ((⟨b10, 0, none⟩ : Addr).add 1) fun x58 =>
 nw #[(.bool false), (.bool true), (.bool false)] ty_bool fun b59 =>
 callT Try.prog fn_slices_Equal_bool_bool #[(.slice x58.a x58.len x58.cap), (.slice (some (⟨b59, 0, none⟩ : Addr)) 3 3)] .bool fun r60 =>
 J37 (r60))
 (J37 false)))
 (fun J35 =>
 brB t34
 (ldT .bool (⟨b10, 0, none⟩ : Addr) fun x61 =>
 J35 (x61))
 (J35 false)))
 (fun J33 =>
 brB t32
 (J33 ((r7.2.1 == (-1 : Int))))
 (J33 false)))
 (fun J31 =>
 brB t30
 (nw #[(.int .i64 (1 : Int)), (.int .i64 (3 : Int))] ty_lits_Lit fun b62 =>
 callT Try.prog fn_slices_Equal_lits_Lit_lits_Lit #[(.slice r7.1.a r7.1.len r7.1.cap), (.slice (some (⟨b62, 0, none⟩ : Addr)) 2 2)] .bool fun r63 =>
 J31 (r63))
 (J31 false)))
 (fun J29 =>
 brB ((IntKind.wrap .i64 ((IntKind.wrap .i64 ((IntKind.wrap .i64 ((IntKind.wrap .i64 ((IntKind.wrap .i64 (r7.2.2.1 + r9.2.1)) + r16.2.2.1)) + r21.2.1)) + r25.2.1)) + r28.2.1)) == (0 : Int))
 (J29 ((r12.2.1 == (190 : Int))))
 (J29 false))
set_option maxRecDepth 100000 in
theorem E_salvorlaw19_awake (K : Bool → HP) (h : Heap) : fnVC Try.prog [(1000000, .bool)] 132 Try.f14 [] .bool K h = F_salvorlaw19_awake K h := by kernel_rfl
set_option maxRecDepth 100000 in
theorem S_salvorlaw19_awake{h : Heap} (K : Bool → HP) (hF : F_salvorlaw19_awake K h) : CallsH Try.prog fn_salvorlaw19_awake #[] h fun v h' => ∃ x : Bool, v = Ty.enc .bool x ∧ K x h' :=
  callsH_of_fn (P := Try.prog) (fn := Try.f14) (τ := .bool) follows Try.func14 (by kernel_rfl) (by kernel_rfl) Try.call14 (Eq.mpr (E_salvorlaw19_awake K h) hF)

def F_formula_Copy (a0 : (Int × (Sl × Unit))) (K : (Int × (Sl × Unit)) → HP) : HP :=
 nw #[(.int .i64 a0.1), (.slice a0.2.1.a a0.2.1.len a0.2.1.cap)] ty_formula_Formula fun b0 =>
 nw #[(.int .i64 (0 : Int)), (.slice none 0 0)] ty_formula_Formula fun b1 =>
 ldT (.int .i64) (⟨b0, 0, none⟩ : Addr) fun x2 =>
 nw #[(.int .i64 (0 : Int)), (.slice none 0 0)] ty_formula_Formula fun b3 =>
 st1 (⟨b3, 0, none⟩ : Addr) (.int .i64 x2) <|
 st1 ((⟨b3, 0, none⟩ : Addr).add 1) (.slice none 0 0) <|
 ldT .sl ((⟨b0, 0, none⟩ : Addr).add 1) fun x4 =>
 lfp (σ := (Int × Unit)) (fun X5 s6 => /-  -/
 brB (decide (s6.1 < (x4.len : Int)))
 (sx x4.a x4.len s6.1 1 fun p7 =>
 ldT .sl p7 fun x8 =>
 ldT .sl ((⟨b3, 0, none⟩ : Addr).add 1) fun x9 =>
 callT Try.prog fn_slices_Clone_clauses_Clause_lits_Lit #[(.slice x8.a x8.len x8.cap)] .sl fun r10 =>
 ck ((⟨b3, 0, none⟩ : Addr).add 1) (.slice x9.a x9.len x9.cap) <|
 nw #[(.slice r10.a r10.len r10.cap)] ty_clauses_Clause fun b11 =>
 apd ty_clauses_Clause 1 24 #[(.slice none 0 0)] ⟨x9.a, x9.len, x9.cap⟩ ⟨(some (⟨b11, 0, none⟩ : Addr)), 1, 1⟩ fun s12 =>
 st1 ((⟨b3, 0, none⟩ : Addr).add 1) (.slice s12.a s12.len s12.cap) <|
 X5 ((IntKind.wrap .i64 (s6.1 + (1 : Int))), ()))
 (ldA (.cons (.int .i64) (.cons .sl .nil)) (⟨b3, 0, none⟩ : Addr) fun x13 =>
 st1 (⟨b1, 0, none⟩ : Addr) (.int .i64 x13.1) <|
 st1 ((⟨b1, 0, none⟩ : Addr).add 1) (.slice x13.2.1.a x13.2.1.len x13.2.1.cap) <|
 ldA (.cons (.int .i64) (.cons .sl .nil)) (⟨b1, 0, none⟩ : Addr) fun x14 =>
 K (x14.1, ⟨x14.2.1.a, x14.2.1.len, x14.2.1.cap⟩, ())))
 ((0 : Int), ())
set_option maxRecDepth 100000 in
theorem E_formula_Copy (a0 : (Int × (Sl × Unit))) (K : (Int × (Sl × Unit)) → HP) (h : Heap) : fnVC Try.prog [(1000000, .nil)] 25 Try.f17 [(.agg #[(.int .i64 a0.1), (.slice a0.2.1.a a0.2.1.len a0.2.1.cap)])] (.agg (.cons (.int .i64) (.cons .sl .nil))) K h = F_formula_Copy a0 K h := by kernel_rfl
set_option maxRecDepth 100000 in
theorem S_formula_Copy{h : Heap} {a0 : (Int × (Sl × Unit))} (K : (Int × (Sl × Unit)) → HP) (hF : F_formula_Copy a0 K h) : CallsH Try.prog fn_formula_Copy #[(.agg #[(.int .i64 a0.1), (.slice a0.2.1.a a0.2.1.len a0.2.1.cap)])] h fun v h' => ∃ x : (Int × (Sl × Unit)), v = Ty.enc (.agg (.cons (.int .i64) (.cons .sl .nil))) x ∧ K x h' :=
  callsH_of_fn (P := Try.prog) (fn := Try.f17) (τ := (.agg (.cons (.int .i64) (.cons .sl .nil)))) follows Try.func17 (by kernel_rfl) (by kernel_rfl) Try.call17 (Eq.mpr (E_formula_Copy a0 K h) hF)

def F_dpll_Under (a0 : (Int × (Sl × Unit))) (a1 : Sl) (a2 : Int) (K : ((Bool × (Sl × (Int × Unit))) × (Int × Unit)) → HP) : HP :=
 nw #[(.int .i64 a0.1), (.slice a0.2.1.a a0.2.1.len a0.2.1.cap)] ty_formula_Formula fun b0 =>
 nw #[(.bool false), (.slice none 0 0), (.int .i64 (0 : Int))] ty_dpll_Answer fun b1 =>
 ldA (.cons (.int .i64) (.cons .sl .nil)) (⟨b0, 0, none⟩ : Addr) fun x2 =>
 callT Try.prog fn_dpll_wrong #[(.agg #[(.int .i64 x2.1), (.slice x2.2.1.a x2.2.1.len x2.2.1.cap)]), (.int .i64 a2)] (.int .i64) fun r3 =>
 brB (r3 != (0 : Int))
 (st1 (⟨b1, 0, none⟩ : Addr) (.bool false) <|
 st1 ((⟨b1, 0, none⟩ : Addr).add 1) (.slice none 0 0) <|
 st1 ((⟨b1, 0, none⟩ : Addr).add 2) (.int .i64 (0 : Int)) <|
 ldA (.cons .bool (.cons .sl (.cons (.int .i64) .nil))) (⟨b1, 0, none⟩ : Addr) fun x4 =>
 K ((x4.1, ⟨x4.2.1.a, x4.2.1.len, x4.2.1.cap⟩, x4.2.2.1, ()), r3, ()))
 (ldA (.cons (.int .i64) (.cons .sl .nil)) (⟨b0, 0, none⟩ : Addr) fun x5 =>
 callT Try.prog fn_dpll_begin #[(.agg #[(.int .i64 x5.1), (.slice x5.2.1.a x5.2.1.len x5.2.1.cap)]), (.slice a1.a a1.len a1.cap), (.int .i64 a2)] (.tup (.cons .ptr (.cons (.int .i64) .nil))) fun r6 =>
 brB (r6.2.1 != (0 : Int))
 (st1 (⟨b1, 0, none⟩ : Addr) (.bool false) <|
 st1 ((⟨b1, 0, none⟩ : Addr).add 1) (.slice none 0 0) <|
 st1 ((⟨b1, 0, none⟩ : Addr).add 2) (.int .i64 (0 : Int)) <|
 ldA (.cons .bool (.cons .sl (.cons (.int .i64) .nil))) (⟨b1, 0, none⟩ : Addr) fun x7 =>
 K ((x7.1, ⟨x7.2.1.a, x7.2.1.len, x7.2.1.cap⟩, x7.2.2.1, ()), r6.2.1, ()))
 (nw #[(.bool false), (.slice none 0 0), (.int .i64 (0 : Int))] ty_dpll_Answer fun b8 =>
 callT Try.prog fn_dpll_search_models #[(.pointer r6.1), (.func (.func fn_dpll_Under_1) #[] #[(.pointer (some (⟨b8, 0, none⟩ : Addr)))])] .bool fun r9 =>
 nn r6.1 fun p10 =>
 ldT (.int .i64) (p10.add 3) fun x11 =>
 brB (decide (x11 > a2))
 (st1 (⟨b1, 0, none⟩ : Addr) (.bool false) <|
 st1 ((⟨b1, 0, none⟩ : Addr).add 1) (.slice none 0 0) <|
 st1 ((⟨b1, 0, none⟩ : Addr).add 2) (.int .i64 (0 : Int)) <|
 ldA (.cons .bool (.cons .sl (.cons (.int .i64) .nil))) (⟨b1, 0, none⟩ : Addr) fun x12 =>
 K ((x12.1, ⟨x12.2.1.a, x12.2.1.len, x12.2.1.cap⟩, x12.2.2.1, ()), (190 : Int), ()))
 (nn r6.1 fun p13 =>
 ldT (.int .i64) (p13.add 3) fun x14 =>
 st1 ((⟨b8, 0, none⟩ : Addr).add 2) (.int .i64 x14) <|
 ldA (.cons .bool (.cons .sl (.cons (.int .i64) .nil))) (⟨b8, 0, none⟩ : Addr) fun x15 =>
 st1 (⟨b1, 0, none⟩ : Addr) (.bool x15.1) <|
 st1 ((⟨b1, 0, none⟩ : Addr).add 1) (.slice x15.2.1.a x15.2.1.len x15.2.1.cap) <|
 st1 ((⟨b1, 0, none⟩ : Addr).add 2) (.int .i64 x15.2.2.1) <|
 ldA (.cons .bool (.cons .sl (.cons (.int .i64) .nil))) (⟨b1, 0, none⟩ : Addr) fun x16 =>
 K ((x16.1, ⟨x16.2.1.a, x16.2.1.len, x16.2.1.cap⟩, x16.2.2.1, ()), (0 : Int), ()))))
set_option maxRecDepth 100000 in
theorem E_dpll_Under (a0 : (Int × (Sl × Unit))) (a1 : Sl) (a2 : Int) (K : ((Bool × (Sl × (Int × Unit))) × (Int × Unit)) → HP) (h : Heap) : fnVC Try.prog [(1000000, .bool)] 46 Try.f18 [(.agg #[(.int .i64 a0.1), (.slice a0.2.1.a a0.2.1.len a0.2.1.cap)]), (.slice a1.a a1.len a1.cap), (.int .i64 a2)] (.tup (.cons (.agg (.cons .bool (.cons .sl (.cons (.int .i64) .nil)))) (.cons (.int .i64) .nil))) K h = F_dpll_Under a0 a1 a2 K h := by kernel_rfl
set_option maxRecDepth 100000 in
theorem S_dpll_Under{h : Heap} {a0 : (Int × (Sl × Unit))} {a1 : Sl} {a2 : Int} (K : ((Bool × (Sl × (Int × Unit))) × (Int × Unit)) → HP) (hF : F_dpll_Under a0 a1 a2 K h) : CallsH Try.prog fn_dpll_Under #[(.agg #[(.int .i64 a0.1), (.slice a0.2.1.a a0.2.1.len a0.2.1.cap)]), (.slice a1.a a1.len a1.cap), (.int .i64 a2)] h fun v h' => ∃ x : ((Bool × (Sl × (Int × Unit))) × (Int × Unit)), v = Ty.enc (.tup (.cons (.agg (.cons .bool (.cons .sl (.cons (.int .i64) .nil)))) (.cons (.int .i64) .nil))) x ∧ K x h' :=
  callsH_of_fn (P := Try.prog) (fn := Try.f18) (τ := (.tup (.cons (.agg (.cons .bool (.cons .sl (.cons (.int .i64) .nil)))) (.cons (.int .i64) .nil)))) follows Try.func18 (by kernel_rfl) (by kernel_rfl) Try.call18 (Eq.mpr (E_dpll_Under a0 a1 a2 K h) hF)

def F_dpll_Solve (a0 : (Int × (Sl × Unit))) (a1 : Int) (K : ((Bool × (Sl × (Int × Unit))) × (Int × Unit)) → HP) : HP :=
 nw #[(.int .i64 a0.1), (.slice a0.2.1.a a0.2.1.len a0.2.1.cap)] ty_formula_Formula fun b0 =>
 nw #[(.bool false), (.slice none 0 0), (.int .i64 (0 : Int))] ty_dpll_Answer fun b1 =>
 ldA (.cons (.int .i64) (.cons .sl .nil)) (⟨b0, 0, none⟩ : Addr) fun x2 =>
 callT Try.prog fn_dpll_Under #[(.agg #[(.int .i64 x2.1), (.slice x2.2.1.a x2.2.1.len x2.2.1.cap)]), (.slice none 0 0), (.int .i64 a1)] (.tup (.cons (.agg (.cons .bool (.cons .sl (.cons (.int .i64) .nil)))) (.cons (.int .i64) .nil))) fun r3 =>
 st1 (⟨b1, 0, none⟩ : Addr) (.bool r3.1.1) <|
 st1 ((⟨b1, 0, none⟩ : Addr).add 1) (.slice r3.1.2.1.a r3.1.2.1.len r3.1.2.1.cap) <|
 st1 ((⟨b1, 0, none⟩ : Addr).add 2) (.int .i64 r3.1.2.2.1) <|
 ldA (.cons .bool (.cons .sl (.cons (.int .i64) .nil))) (⟨b1, 0, none⟩ : Addr) fun x4 =>
 K ((x4.1, ⟨x4.2.1.a, x4.2.1.len, x4.2.1.cap⟩, x4.2.2.1, ()), r3.2.1, ())
set_option maxRecDepth 100000 in
theorem E_dpll_Solve (a0 : (Int × (Sl × Unit))) (a1 : Int) (K : ((Bool × (Sl × (Int × Unit))) × (Int × Unit)) → HP) (h : Heap) : fnVC Try.prog [(1000000, .bool)] 11 Try.f19 [(.agg #[(.int .i64 a0.1), (.slice a0.2.1.a a0.2.1.len a0.2.1.cap)]), (.int .i64 a1)] (.tup (.cons (.agg (.cons .bool (.cons .sl (.cons (.int .i64) .nil)))) (.cons (.int .i64) .nil))) K h = F_dpll_Solve a0 a1 K h := by kernel_rfl
set_option maxRecDepth 100000 in
theorem S_dpll_Solve{h : Heap} {a0 : (Int × (Sl × Unit))} {a1 : Int} (K : ((Bool × (Sl × (Int × Unit))) × (Int × Unit)) → HP) (hF : F_dpll_Solve a0 a1 K h) : CallsH Try.prog fn_dpll_Solve #[(.agg #[(.int .i64 a0.1), (.slice a0.2.1.a a0.2.1.len a0.2.1.cap)]), (.int .i64 a1)] h fun v h' => ∃ x : ((Bool × (Sl × (Int × Unit))) × (Int × Unit)), v = Ty.enc (.tup (.cons (.agg (.cons .bool (.cons .sl (.cons (.int .i64) .nil)))) (.cons (.int .i64) .nil))) x ∧ K x h' :=
  callsH_of_fn (P := Try.prog) (fn := Try.f19) (τ := (.tup (.cons (.agg (.cons .bool (.cons .sl (.cons (.int .i64) .nil)))) (.cons (.int .i64) .nil)))) follows Try.func19 (by kernel_rfl) (by kernel_rfl) Try.call19 (Eq.mpr (E_dpll_Solve a0 a1 K h) hF)

def F_clauses_Always (a0 : Sl) (K : Bool → HP) : HP := fun h0 => (
 nw #[(.bool false)] ty_bool fun b0 =>
 callT Try.prog fn_clauses_Right #[(.slice a0.a a0.len a0.cap)] .bool fun r1 =>
 brB (!r1)
 (st1 (⟨b0, 0, none⟩ : Addr) (.bool false) <|
 mkd h0.size <|
 ldT .bool (⟨b0, 0, none⟩ : Addr) fun x2 =>
 K x2)
 (nw #[(.int .i64 (0 : Int))] ty_lits_Lit fun b3 =>
 st1 (⟨b3, 0, none⟩ : Addr) (.int .i64 (0 : Int)) <|
 callT Try.prog fn_clauses_sorted #[(.slice a0.a a0.len a0.cap)] .val fun r4 =>
 RangeVC Try.prog (.cons (.int .i64) .nil) r4 (fun x5 wrap6 next7 jump8 =>
 wrap6 <|
 ldT (.int .i64) (⟨b3, 0, none⟩ : Addr) fun x9 =>
 brB (x9 != (0 : Int))
 (ldT (.int .i64) (⟨b3, 0, none⟩ : Addr) fun x10 =>
 callT Try.prog fn_lits_Neg #[(.int .i64 x10)] (.int .i64) fun r11 =>
 brB (x5.1 == r11)
 (st1 (⟨b0, 0, none⟩ : Addr) (.bool true) <|
 jump8 .ret)
 (st1 (⟨b3, 0, none⟩ : Addr) (.int .i64 x5.1) <|
 next7))
 (st1 (⟨b3, 0, none⟩ : Addr) (.int .i64 x5.1) <|
 next7))
 (st1 (⟨b0, 0, none⟩ : Addr) (.bool false) <|
 mkd h0.size <|
 ldT .bool (⟨b0, 0, none⟩ : Addr) fun x12 =>
 K x12)
 (mkd h0.size <|
 ldT .bool (⟨b0, 0, none⟩ : Addr) fun x13 =>
 K x13)
 []
 [])) h0
set_option maxRecDepth 100000 in
theorem E_clauses_Always (a0 : Sl) (K : Bool → HP) (h : Heap) : fnVC Try.prog [(1000000, .nil), (10, (.cons (.int .i64) .nil))] 20 Try.f20 [(.slice a0.a a0.len a0.cap)] .bool K h = F_clauses_Always a0 K h := by kernel_rfl
set_option maxRecDepth 100000 in
theorem S_clauses_Always{h : Heap} {a0 : Sl} (K : Bool → HP) (hF : F_clauses_Always a0 K h) : CallsH Try.prog fn_clauses_Always #[(.slice a0.a a0.len a0.cap)] h fun v h' => ∃ x : Bool, v = Ty.enc .bool x ∧ K x h' :=
  callsH_of_fn (P := Try.prog) (fn := Try.f20) (τ := .bool) follows Try.func20 (by kernel_rfl) (by kernel_rfl) Try.call20 (Eq.mpr (E_clauses_Always a0 K h) hF)

def F_slices_Equal_bool_bool (a0 : Sl) (a1 : Sl) (K : Bool → HP) : HP :=
 brB ((a0.len : Int) != (a1.len : Int))
 (K false)
 (lfp (σ := (Int × (Bool × Unit))) (fun X0 s1 => /-   -/
 brB (decide (s1.1 < (a0.len : Int)))
 (sx a0.a a0.len s1.1 1 fun p2 =>
 ldT .bool p2 fun x3 =>
 sx a1.a a1.len s1.1 1 fun p4 =>
 ldT .bool p4 fun x5 =>
 brB (!(x3 == x5))
 (K false)
 (X0 ((IntKind.wrap .i64 (s1.1 + (1 : Int))), s1.2.1, ())))
 (K true))
 ((0 : Int), false, ()))
set_option maxRecDepth 100000 in
theorem E_slices_Equal_bool_bool (a0 : Sl) (a1 : Sl) (K : Bool → HP) (h : Heap) : fnVC Try.prog [(1000000, .nil)] 26 Try.f21 [(.slice a0.a a0.len a0.cap), (.slice a1.a a1.len a1.cap)] .bool K h = F_slices_Equal_bool_bool a0 a1 K h := by kernel_rfl
set_option maxRecDepth 100000 in
theorem S_slices_Equal_bool_bool{h : Heap} {a0 : Sl} {a1 : Sl} (K : Bool → HP) (hF : F_slices_Equal_bool_bool a0 a1 K h) : CallsH Try.prog fn_slices_Equal_bool_bool #[(.slice a0.a a0.len a0.cap), (.slice a1.a a1.len a1.cap)] h fun v h' => ∃ x : Bool, v = Ty.enc .bool x ∧ K x h' :=
  callsH_of_fn (P := Try.prog) (fn := Try.f21) (τ := .bool) follows Try.func21 (by kernel_rfl) (by kernel_rfl) Try.call21 (Eq.mpr (E_slices_Equal_bool_bool a0 a1 K h) hF)

end Go.Proofs.S
