/- The functions of the seat, each as a predicate over its values, printed by a program of ours, and that each is its text's. -/
import Derived.Test.YtfadkgkkbbcekaaSx10
import Derived.KernelRfl
import Derived.Test.YtfadkgkkbbcekaaProg
import Derived.Test.YtfadkgkkbbcekaaClF0
set_option linter.unusedVariables false
namespace Go.Proofs.S
open Go Go.Sx Go.Proofs
def F_salvorlaw19_DpllUnderIs (a0 : Sl) (a1 : Sl) (K : Bool → HP) : HP :=
 callT Try.prog fn_salvorlaw05_Made #[(.slice a0.a a0.len a0.cap)] (.agg (.cons (.int .i64) (.cons .sl .nil))) fun r0 =>
 callT Try.prog fn_salvorlaw02_Made #[(.slice a1.a a1.len a1.cap)] .sl fun r1 =>
 nw #[(.int .i64 (0 : Int)), (.slice none 0 0)] ty_formula_Formula fun b2 =>
 st1 (⟨b2, 0, none⟩ : Addr) (.int .i64 r0.1) <|
 st1 ((⟨b2, 0, none⟩ : Addr).add 1) (.slice r0.2.1.a r0.2.1.len r0.2.1.cap) <|
 ldA (.cons (.int .i64) (.cons .sl .nil)) (⟨b2, 0, none⟩ : Addr) fun x3 =>
 callT Try.prog fn_formula_Copy #[(.agg #[(.int .i64 x3.1), (.slice x3.2.1.a x3.2.1.len x3.2.1.cap)])] (.agg (.cons (.int .i64) (.cons .sl .nil))) fun r4 =>
 nw #[(.int .i64 (0 : Int)), (.slice none 0 0)] ty_formula_Formula fun b5 =>
 st1 (⟨b5, 0, none⟩ : Addr) (.int .i64 r4.1) <|
 st1 ((⟨b5, 0, none⟩ : Addr).add 1) (.slice r4.2.1.a r4.2.1.len r4.2.1.cap) <|
 lfp (σ := (Int × Unit)) (fun X6 s7 => /-  -/
 brB (decide (s7.1 < (r1.len : Int)))
 (sx r1.a r1.len s7.1 1 fun p8 =>
 ldT (.int .i64) p8 fun x9 =>
 ldT .sl ((⟨b5, 0, none⟩ : Addr).add 1) fun x10 =>
 nw #[(.int .i64 x9)] ty_lits_Lit fun b11 =>
 nw #[(.slice (some (⟨b11, 0, none⟩ : Addr)) 1 1)] ty_clauses_Clause fun b12 =>
 apd ty_clauses_Clause 1 24 #[(.slice none 0 0)] ⟨x10.a, x10.len, x10.cap⟩ ⟨(some (⟨b12, 0, none⟩ : Addr)), 1, 1⟩ fun s13 =>
 st1 ((⟨b5, 0, none⟩ : Addr).add 1) (.slice s13.a s13.len s13.cap) <|
 X6 ((IntKind.wrap .i64 (s7.1 + (1 : Int))), ()))
 (ldA (.cons (.int .i64) (.cons .sl .nil)) (⟨b2, 0, none⟩ : Addr) fun x14 =>
 callT Try.prog fn_dpll_Under #[(.agg #[(.int .i64 x14.1), (.slice x14.2.1.a x14.2.1.len x14.2.1.cap)]), (.slice r1.a r1.len r1.cap), (.int .i64 (1000 : Int))] (.tup (.cons (.agg (.cons .bool (.cons .sl (.cons (.int .i64) .nil)))) (.cons (.int .i64) .nil))) fun r15 =>
 nw #[(.bool false), (.slice none 0 0), (.int .i64 (0 : Int))] ty_dpll_Answer fun b16 =>
 st1 (⟨b16, 0, none⟩ : Addr) (.bool r15.1.1) <|
 st1 ((⟨b16, 0, none⟩ : Addr).add 1) (.slice r15.1.2.1.a r15.1.2.1.len r15.1.2.1.cap) <|
 st1 ((⟨b16, 0, none⟩ : Addr).add 2) (.int .i64 r15.1.2.2.1) <|
 ldA (.cons (.int .i64) (.cons .sl .nil)) (⟨b5, 0, none⟩ : Addr) fun x17 =>
 callT Try.prog fn_dpll_Solve #[(.agg #[(.int .i64 x17.1), (.slice x17.2.1.a x17.2.1.len x17.2.1.cap)]), (.int .i64 (1000 : Int))] (.tup (.cons (.agg (.cons .bool (.cons .sl (.cons (.int .i64) .nil)))) (.cons (.int .i64) .nil))) fun r18 =>
 nw #[(.bool false), (.slice none 0 0), (.int .i64 (0 : Int))] ty_dpll_Answer fun b19 =>
 st1 (⟨b19, 0, none⟩ : Addr) (.bool r18.1.1) <|
 st1 ((⟨b19, 0, none⟩ : Addr).add 1) (.slice r18.1.2.1.a r18.1.2.1.len r18.1.2.1.cap) <|
 st1 ((⟨b19, 0, none⟩ : Addr).add 2) (.int .i64 r18.1.2.2.1) <|
 brB (r18.2.1 != (0 : Int))
 (K false)
 (callT Try.prog fn_clauses_Always #[(.slice r1.a r1.len r1.cap)] .bool fun r20 =>
 brB r20
 (jn (σ := Bool) (fun t22 =>
 jn (σ := Bool) (fun t24 =>
 K t24)
 (fun J23 =>
 brB t22
 (callT Try.prog fn_salvorlaw19_awake #[] .bool fun r25 =>
 J23 (r25))
 (J23 false)))
 (fun J21 =>
 brB (r15.2.1 == (52 : Int))
 (ldT .bool (⟨b19, 0, none⟩ : Addr) fun x26 =>
 J21 ((!x26)))
 (J21 false)))
 (jn (σ := Bool) (fun t28 =>
 jn (σ := Bool) (fun t30 =>
 jn (σ := Bool) (fun t32 =>
 jn (σ := Bool) (fun t34 =>
 K t34)
 (fun J33 =>
 brB t32
 (callT Try.prog fn_salvorlaw19_awake #[] .bool fun r35 =>
 J33 (r35))
 (J33 false)))
 (fun J31 =>
 brB t30
 (ldT (.int .i64) ((⟨b16, 0, none⟩ : Addr).add 2) fun x36 =>
 ldT (.int .i64) ((⟨b19, 0, none⟩ : Addr).add 2) fun x37 =>
 J31 ((x36 == x37)))
 (J31 false)))
 (fun J29 =>
 brB t28
 (ldT .sl ((⟨b16, 0, none⟩ : Addr).add 1) fun x38 =>
 ldT .sl ((⟨b19, 0, none⟩ : Addr).add 1) fun x39 =>
 callT Try.prog fn_slices_Equal_bool_bool #[(.slice x38.a x38.len x38.cap), (.slice x39.a x39.len x39.cap)] .bool fun r40 =>
 J29 (r40))
 (J29 false)))
 (fun J27 =>
 brB (r15.2.1 == (0 : Int))
 (ldT .bool (⟨b16, 0, none⟩ : Addr) fun x41 =>
 ldT .bool (⟨b19, 0, none⟩ : Addr) fun x42 =>
 J27 ((x41 == x42)))
 (J27 false))))))
 ((0 : Int), ())
set_option maxRecDepth 100000 in
theorem E_salvorlaw19_DpllUnderIs (a0 : Sl) (a1 : Sl) (K : Bool → HP) (h : Heap) : fnVC Try.prog [(1000000, .bool)] 85 Try.f4 [(.slice a0.a a0.len a0.cap), (.slice a1.a a1.len a1.cap)] .bool K h = F_salvorlaw19_DpllUnderIs a0 a1 K h := by kernel_rfl
set_option maxRecDepth 100000 in
theorem S_salvorlaw19_DpllUnderIs{h : Heap} {a0 : Sl} {a1 : Sl} (K : Bool → HP) (hF : F_salvorlaw19_DpllUnderIs a0 a1 K h) : CallsH Try.prog fn_salvorlaw19_DpllUnderIs #[(.slice a0.a a0.len a0.cap), (.slice a1.a a1.len a1.cap)] h fun v h' => ∃ x : Bool, v = Ty.enc .bool x ∧ K x h' :=
  callsH_of_fn (P := Try.prog) (fn := Try.f4) (τ := .bool) follows Try.func4 (by kernel_rfl) (by kernel_rfl) Try.call4 (Eq.mpr (E_salvorlaw19_DpllUnderIs a0 a1 K h) hF)

def F_salvorlaw19_DpllFuel (a0 : Sl) (a1 : Int) (K : Bool → HP) : HP :=
 callT Try.prog fn_salvorlaw05_Made #[(.slice a0.a a0.len a0.cap)] (.agg (.cons (.int .i64) (.cons .sl .nil))) fun r0 =>
 nw #[(.int .i64 (0 : Int)), (.slice none 0 0)] ty_formula_Formula fun b1 =>
 st1 (⟨b1, 0, none⟩ : Addr) (.int .i64 r0.1) <|
 st1 ((⟨b1, 0, none⟩ : Addr).add 1) (.slice r0.2.1.a r0.2.1.len r0.2.1.cap) <|
 ldA (.cons (.int .i64) (.cons .sl .nil)) (⟨b1, 0, none⟩ : Addr) fun x2 =>
 callT Try.prog fn_dpll_Solve #[(.agg #[(.int .i64 x2.1), (.slice x2.2.1.a x2.2.1.len x2.2.1.cap)]), (.int .i64 (1000 : Int))] (.tup (.cons (.agg (.cons .bool (.cons .sl (.cons (.int .i64) .nil)))) (.cons (.int .i64) .nil))) fun r3 =>
 nw #[(.bool false), (.slice none 0 0), (.int .i64 (0 : Int))] ty_dpll_Answer fun b4 =>
 st1 (⟨b4, 0, none⟩ : Addr) (.bool r3.1.1) <|
 st1 ((⟨b4, 0, none⟩ : Addr).add 1) (.slice r3.1.2.1.a r3.1.2.1.len r3.1.2.1.cap) <|
 st1 ((⟨b4, 0, none⟩ : Addr).add 2) (.int .i64 r3.1.2.2.1) <|
 ldA (.cons (.int .i64) (.cons .sl .nil)) (⟨b1, 0, none⟩ : Addr) fun x5 =>
 ldT (.int .i64) ((⟨b4, 0, none⟩ : Addr).add 2) fun x6 =>
 callT Try.prog fn_dpll_Solve #[(.agg #[(.int .i64 x5.1), (.slice x5.2.1.a x5.2.1.len x5.2.1.cap)]), (.int .i64 x6)] (.tup (.cons (.agg (.cons .bool (.cons .sl (.cons (.int .i64) .nil)))) (.cons (.int .i64) .nil))) fun r7 =>
 nw #[(.bool false), (.slice none 0 0), (.int .i64 (0 : Int))] ty_dpll_Answer fun b8 =>
 st1 (⟨b8, 0, none⟩ : Addr) (.bool r7.1.1) <|
 st1 ((⟨b8, 0, none⟩ : Addr).add 1) (.slice r7.1.2.1.a r7.1.2.1.len r7.1.2.1.cap) <|
 st1 ((⟨b8, 0, none⟩ : Addr).add 2) (.int .i64 r7.1.2.2.1) <|
 nz (601 : Int) <|
 ldA (.cons (.int .i64) (.cons .sl .nil)) (⟨b1, 0, none⟩ : Addr) fun x9 =>
 callT Try.prog fn_dpll_Solve #[(.agg #[(.int .i64 x9.1), (.slice x9.2.1.a x9.2.1.len x9.2.1.cap)]), (.int .i64 (IntKind.wrap .i64 (Int.tmod a1 (601 : Int))))] (.tup (.cons (.agg (.cons .bool (.cons .sl (.cons (.int .i64) .nil)))) (.cons (.int .i64) .nil))) fun r10 =>
 nw #[(.bool false), (.slice none 0 0), (.int .i64 (0 : Int))] ty_dpll_Answer fun b11 =>
 st1 (⟨b11, 0, none⟩ : Addr) (.bool r10.1.1) <|
 st1 ((⟨b11, 0, none⟩ : Addr).add 1) (.slice r10.1.2.1.a r10.1.2.1.len r10.1.2.1.cap) <|
 st1 ((⟨b11, 0, none⟩ : Addr).add 2) (.int .i64 r10.1.2.2.1) <|
 jn (σ := Bool) (fun t13 =>
 jn (σ := Bool) (fun t15 =>
 jn (σ := Bool) (fun t17 =>
 brB t17
 (K false)
 (ldT (.int .i64) ((⟨b4, 0, none⟩ : Addr).add 2) fun x18 =>
 brB (decide ((IntKind.wrap .i64 (Int.tmod a1 (601 : Int))) < x18))
 (jn (σ := Bool) (fun t20 =>
 jn (σ := Bool) (fun t22 =>
 jn (σ := Bool) (fun t24 =>
 jn (σ := Bool) (fun t26 =>
 K t26)
 (fun J25 =>
 brB t24
 (callT Try.prog fn_salvorlaw19_awake #[] .bool fun r27 =>
 J25 (r27))
 (J25 false)))
 (fun J23 =>
 brB t22
 (ldT (.int .i64) ((⟨b11, 0, none⟩ : Addr).add 2) fun x28 =>
 J23 ((x28 == (0 : Int))))
 (J23 false)))
 (fun J21 =>
 brB t20
 (ldT .sl ((⟨b11, 0, none⟩ : Addr).add 1) fun x29 =>
 J21 (((x29.len : Int) == (0 : Int))))
 (J21 false)))
 (fun J19 =>
 brB (r10.2.1 == (190 : Int))
 (ldT .bool (⟨b11, 0, none⟩ : Addr) fun x30 =>
 J19 ((!x30)))
 (J19 false)))
 (jn (σ := Bool) (fun t32 =>
 jn (σ := Bool) (fun t34 =>
 jn (σ := Bool) (fun t36 =>
 jn (σ := Bool) (fun t38 =>
 K t38)
 (fun J37 =>
 brB t36
 (callT Try.prog fn_salvorlaw19_awake #[] .bool fun r39 =>
 J37 (r39))
 (J37 false)))
 (fun J35 =>
 brB t34
 (ldT .sl ((⟨b11, 0, none⟩ : Addr).add 1) fun x40 =>
 ldT .sl ((⟨b4, 0, none⟩ : Addr).add 1) fun x41 =>
 callT Try.prog fn_slices_Equal_bool_bool #[(.slice x40.a x40.len x40.cap), (.slice x41.a x41.len x41.cap)] .bool fun r42 =>
 J35 (r42))
 (J35 false)))
 (fun J33 =>
 brB t32
 (ldT (.int .i64) ((⟨b11, 0, none⟩ : Addr).add 2) fun x43 =>
 ldT (.int .i64) ((⟨b4, 0, none⟩ : Addr).add 2) fun x44 =>
 J33 ((x43 == x44)))
 (J33 false)))
 (fun J31 =>
 brB (r10.2.1 == (0 : Int))
 (ldT .bool (⟨b11, 0, none⟩ : Addr) fun x45 =>
 ldT .bool (⟨b4, 0, none⟩ : Addr) fun x46 =>
 J31 ((x45 == x46)))
 (J31 false)))))
 (fun J16 =>
 brB t15
 (J16 true)
 (ldT .sl ((⟨b4, 0, none⟩ : Addr).add 1) fun x47 =>
 ldT .sl ((⟨b8, 0, none⟩ : Addr).add 1) fun x48 =>
 callT Try.prog fn_slices_Equal_bool_bool #[(.slice x47.a x47.len x47.cap), (.slice x48.a x48.len x48.cap)] .bool fun r49 =>
 J16 ((!r49)))))
 (fun J14 =>
 brB t13
 (J14 true)
 (ldT (.int .i64) ((⟨b4, 0, none⟩ : Addr).add 2) fun x50 =>
 ldT (.int .i64) ((⟨b8, 0, none⟩ : Addr).add 2) fun x51 =>
 J14 ((x50 != x51)))))
 (fun J12 =>
 brB ((IntKind.wrap .i64 (r3.2.1 + r7.2.1)) != (0 : Int))
 (J12 true)
 (ldT .bool (⟨b4, 0, none⟩ : Addr) fun x52 =>
 ldT .bool (⟨b8, 0, none⟩ : Addr) fun x53 =>
 J12 ((!(x52 == x53)))))
set_option maxRecDepth 100000 in
theorem E_salvorlaw19_DpllFuel (a0 : Sl) (a1 : Int) (K : Bool → HP) (h : Heap) : fnVC Try.prog [(1000000, .bool)] 113 Try.f5 [(.slice a0.a a0.len a0.cap), (.int .u16 a1)] .bool K h = F_salvorlaw19_DpllFuel a0 a1 K h := by kernel_rfl
set_option maxRecDepth 100000 in
theorem S_salvorlaw19_DpllFuel{h : Heap} {a0 : Sl} {a1 : Int} (K : Bool → HP) (hF : F_salvorlaw19_DpllFuel a0 a1 K h) : CallsH Try.prog fn_salvorlaw19_DpllFuel #[(.slice a0.a a0.len a0.cap), (.int .u16 a1)] h fun v h' => ∃ x : Bool, v = Ty.enc .bool x ∧ K x h' :=
  callsH_of_fn (P := Try.prog) (fn := Try.f5) (τ := .bool) follows Try.func5 (by kernel_rfl) (by kernel_rfl) Try.call5 (Eq.mpr (E_salvorlaw19_DpllFuel a0 a1 K h) hF)

def F_salvorlaw19_DpllFollows (a0 : Sl) (a1 : Sl) (K : Bool → HP) : HP := fun h0 => (
 nw #[(.bool false)] ty_bool fun b0 =>
 callT Try.prog fn_salvorlaw05_Made #[(.slice a0.a a0.len a0.cap)] (.agg (.cons (.int .i64) (.cons .sl .nil))) fun r1 =>
 nw #[(.int .i64 (0 : Int)), (.slice none 0 0)] ty_formula_Formula fun b2 =>
 st1 (⟨b2, 0, none⟩ : Addr) (.int .i64 r1.1) <|
 st1 ((⟨b2, 0, none⟩ : Addr).add 1) (.slice r1.2.1.a r1.2.1.len r1.2.1.cap) <|
 nw #[(.slice none 0 0)] ty_sl_lits_Lit fun b3 =>
 callT Try.prog fn_salvorlaw02_Made #[(.slice a1.a a1.len a1.cap)] .sl fun r4 =>
 lfp (σ := (Int × Unit)) (fun X5 s6 => /-  -/
 brB (decide (s6.1 < (r4.len : Int)))
 (sx r4.a r4.len s6.1 1 fun p7 =>
 ldT (.int .i64) p7 fun x8 =>
 ldT .sl (⟨b3, 0, none⟩ : Addr) fun x9 =>
 callT Try.prog fn_slices_Contains_lits_Lit_lits_Lit #[(.slice x9.a x9.len x9.cap), (.int .i64 (IntKind.wrap .i64 (0 - x8)))] .bool fun r10 =>
 jn (σ := Unit) (fun s12 => /- -/
 X5 ((IntKind.wrap .i64 (s6.1 + (1 : Int))), ()))
 (fun J11 =>
 brB (!r10)
 (ldT .sl (⟨b3, 0, none⟩ : Addr) fun x13 =>
 nw #[(.int .i64 x8)] ty_lits_Lit fun b14 =>
 apd ty_lits_Lit 1 8 #[(.int .i64 (0 : Int))] ⟨x13.a, x13.len, x13.cap⟩ ⟨(some (⟨b14, 0, none⟩ : Addr)), 1, 1⟩ fun s15 =>
 st1 (⟨b3, 0, none⟩ : Addr) (.slice s15.a s15.len s15.cap) <|
 J11 (()))
 (J11 (()))))
 (ldA (.cons (.int .i64) (.cons .sl .nil)) (⟨b2, 0, none⟩ : Addr) fun x16 =>
 ldT .sl (⟨b3, 0, none⟩ : Addr) fun x17 =>
 callT Try.prog fn_dpll_Follows #[(.agg #[(.int .i64 x16.1), (.slice x16.2.1.a x16.2.1.len x16.2.1.cap)]), (.slice x17.a x17.len x17.cap)] (.tup (.cons .sl (.cons (.int .i64) (.cons (.int .i64) .nil)))) fun r18 =>
 nw #[(.slice none 0 0)] ty_sl_lits_Lit fun b19 =>
 nw #[(.int .i64 (0 : Int))] ty_int fun b20 =>
 st1 (⟨b19, 0, none⟩ : Addr) (.slice r18.1.a r18.1.len r18.1.cap) <|
 st1 (⟨b20, 0, none⟩ : Addr) (.int .i64 r18.2.1) <|
 jn (σ := Bool) (fun t22 =>
 jn (σ := Bool) (fun t24 =>
 brB t24
 (st1 (⟨b0, 0, none⟩ : Addr) (.bool false) <|
 mkd h0.size <|
 ldT .bool (⟨b0, 0, none⟩ : Addr) fun x25 =>
 K x25)
 (ldT .sl (⟨b19, 0, none⟩ : Addr) fun x26 =>
 lfp (σ := (Int × Unit)) (fun X27 s28 => /-  -/
 brB (decide (s28.1 < (x26.len : Int)))
 (sx x26.a x26.len s28.1 1 fun p29 =>
 ldT (.int .i64) p29 fun x30 =>
 ldT .sl (⟨b3, 0, none⟩ : Addr) fun x31 =>
 callT Try.prog fn_slices_Contains_lits_Lit_lits_Lit #[(.slice x31.a x31.len x31.cap), (.int .i64 x30)] .bool fun r32 =>
 jn (σ := Bool) (fun t34 =>
 jn (σ := Bool) (fun t36 =>
 jn (σ := Bool) (fun t38 =>
 brB t38
 (st1 (⟨b0, 0, none⟩ : Addr) (.bool false) <|
 mkd h0.size <|
 ldT .bool (⟨b0, 0, none⟩ : Addr) fun x39 =>
 K x39)
 (X27 ((IntKind.wrap .i64 (s28.1 + (1 : Int))), ())))
 (fun J37 =>
 brB t36
 (J37 true)
 (ldT .sl (⟨b19, 0, none⟩ : Addr) fun x40 =>
 slH ⟨x40.a, x40.len, x40.cap⟩ s28.1 1 fun s41 =>
 callT Try.prog fn_slices_Contains_lits_Lit_lits_Lit #[(.slice s41.a s41.len s41.cap), (.int .i64 (IntKind.wrap .i64 (0 - x30)))] .bool fun r42 =>
 J37 (r42))))
 (fun J35 =>
 brB t34
 (J35 true)
 (ldT .sl (⟨b19, 0, none⟩ : Addr) fun x43 =>
 slH ⟨x43.a, x43.len, x43.cap⟩ s28.1 1 fun s44 =>
 callT Try.prog fn_slices_Contains_lits_Lit_lits_Lit #[(.slice s44.a s44.len s44.cap), (.int .i64 x30)] .bool fun r45 =>
 J35 (r45))))
 (fun J33 =>
 brB r32
 (J33 true)
 (ldT .sl (⟨b3, 0, none⟩ : Addr) fun x46 =>
 callT Try.prog fn_slices_Contains_lits_Lit_lits_Lit #[(.slice x46.a x46.len x46.cap), (.int .i64 (IntKind.wrap .i64 (0 - x30)))] .bool fun r47 =>
 J33 (r47))))
 (ldA (.cons (.int .i64) (.cons .sl .nil)) (⟨b2, 0, none⟩ : Addr) fun x48 =>
 callT Try.prog fn_formula_Models #[(.agg #[(.int .i64 x48.1), (.slice x48.2.1.a x48.2.1.len x48.2.1.cap)])] (.tup (.cons .val (.cons (.int .i64) .nil))) fun r49 =>
 jn (σ := Bool) (fun t51 =>
 brB t51
 (st1 (⟨b0, 0, none⟩ : Addr) (.bool false) <|
 mkd h0.size <|
 ldT .bool (⟨b0, 0, none⟩ : Addr) fun x52 =>
 K x52)
 (nw #[Value.nilFunc] ty_func_sl_bool_sl_lits_Lit_bool fun b53 =>
 st1 (⟨b53, 0, none⟩ : Addr) (.func (.func fn_salvorlaw19_DpllFollows_1) #[] #[]) <|
 RangeVC Try.prog (.cons .sl .nil) r49.1 (fun x54 wrap55 next56 jump57 =>
 wrap55 <|
 ldT .val (⟨b53, 0, none⟩ : Addr) fun x58 =>
 ldT .sl (⟨b3, 0, none⟩ : Addr) fun x59 =>
 callF Try.prog x58 #[(.slice x54.1.a x54.1.len x54.1.cap), (.slice x59.a x59.len x59.cap)] .bool fun r60 =>
 jn (σ := Bool) (fun t62 =>
 brB t62
 (st1 (⟨b0, 0, none⟩ : Addr) (.bool false) <|
 jump57 .ret)
 (next56))
 (fun J61 =>
 brB r60
 (ldT (.int .i64) (⟨b20, 0, none⟩ : Addr) fun x63 =>
 jn (σ := Bool) (fun t65 =>
 J61 (t65))
 (fun J64 =>
 brB (decide (x63 ≥ (0 : Int)))
 (J64 true)
 (ldT .val (⟨b53, 0, none⟩ : Addr) fun x66 =>
 ldT .sl (⟨b19, 0, none⟩ : Addr) fun x67 =>
 callF Try.prog x66 #[(.slice x54.1.a x54.1.len x54.1.cap), (.slice x67.a x67.len x67.cap)] .bool fun r68 =>
 J64 ((!r68)))))
 (J61 false)))
 (ldT .sl (⟨b3, 0, none⟩ : Addr) fun x69 =>
 ldT .sl (⟨b19, 0, none⟩ : Addr) fun x70 =>
 nw #[(.slice x69.a x69.len x69.cap), (.slice x70.a x70.len x70.cap)] ty_sl_lits_Lit fun b71 =>
 callT Try.prog fn_slices_Concat_lits_Lit_lits_Lit #[(.slice (some (⟨b71, 0, none⟩ : Addr)) 2 2)] .sl fun r72 =>
 ldA (.cons (.int .i64) (.cons .sl .nil)) (⟨b2, 0, none⟩ : Addr) fun x73 =>
 callT Try.prog fn_dpll_Follows #[(.agg #[(.int .i64 x73.1), (.slice x73.2.1.a x73.2.1.len x73.2.1.cap)]), (.slice r72.a r72.len r72.cap)] (.tup (.cons .sl (.cons (.int .i64) (.cons (.int .i64) .nil)))) fun r74 =>
 jn (σ := Bool) (fun t76 =>
 jn (σ := Bool) (fun t78 =>
 brB t78
 (st1 (⟨b0, 0, none⟩ : Addr) (.bool false) <|
 mkd h0.size <|
 ldT .bool (⟨b0, 0, none⟩ : Addr) fun x79 =>
 K x79)
 (ldT (.int .i64) (⟨b20, 0, none⟩ : Addr) fun x80 =>
 jn (σ := Unit) (fun s82 => /- -/
 callT Try.prog fn_salvorlaw19_awake #[] .bool fun r83 =>
 st1 (⟨b0, 0, none⟩ : Addr) (.bool r83) <|
 mkd h0.size <|
 ldT .bool (⟨b0, 0, none⟩ : Addr) fun x84 =>
 K x84)
 (fun J81 =>
 brB (decide (x80 ≥ (0 : Int)))
 (ldT .sl ((⟨b2, 0, none⟩ : Addr).add 1) fun x85 =>
 ldT (.int .i64) (⟨b20, 0, none⟩ : Addr) fun x86 =>
 sx x85.a x85.len x86 1 fun p87 =>
 ldT .sl p87 fun x88 =>
 lfp (σ := (Int × Unit)) (fun X89 s90 => /-  -/
 brB (decide (s90.1 < (x88.len : Int)))
 (sx x88.a x88.len s90.1 1 fun p91 =>
 ldT (.int .i64) p91 fun x92 =>
 callT Try.prog fn_slices_Contains_lits_Lit_lits_Lit #[(.slice r72.a r72.len r72.cap), (.int .i64 (IntKind.wrap .i64 (0 - x92)))] .bool fun r93 =>
 brB (!r93)
 (st1 (⟨b0, 0, none⟩ : Addr) (.bool false) <|
 mkd h0.size <|
 ldT .bool (⟨b0, 0, none⟩ : Addr) fun x94 =>
 K x94)
 (X89 ((IntKind.wrap .i64 (s90.1 + (1 : Int))), ())))
 (J81 (())))
 ((0 : Int), ()))
 (J81 (())))))
 (fun J77 =>
 brB t76
 (J77 true)
 (J77 (((r74.1.len : Int) != (0 : Int))))))
 (fun J75 =>
 brB (r74.2.2.1 != (0 : Int))
 (J75 true)
 (ldT (.int .i64) (⟨b20, 0, none⟩ : Addr) fun x95 =>
 J75 ((r74.2.1 != x95)))))
 (mkd h0.size <|
 ldT .bool (⟨b0, 0, none⟩ : Addr) fun x96 =>
 K x96)
 []
 []))
 (fun J50 =>
 brB (r49.2.1 != (0 : Int))
 (J50 true)
 (fnE r49.1 fun t97 =>
 J50 (t97)))))
 ((0 : Int), ())))
 (fun J23 =>
 brB t22
 (J23 true)
 (ldT (.int .i64) (⟨b20, 0, none⟩ : Addr) fun x98 =>
 ldT .sl ((⟨b2, 0, none⟩ : Addr).add 1) fun x99 =>
 J23 ((decide (x98 ≥ (x99.len : Int)))))))
 (fun J21 =>
 brB (r18.2.2.1 != (0 : Int))
 (J21 true)
 (ldT (.int .i64) (⟨b20, 0, none⟩ : Addr) fun x100 =>
 J21 ((decide (x100 < (-1 : Int))))))))
 ((0 : Int), ())) h0
set_option maxRecDepth 100000 in
theorem E_salvorlaw19_DpllFollows (a0 : Sl) (a1 : Sl) (K : Bool → HP) (h : Heap) : fnVC Try.prog [(1000000, .bool), (105, (.cons .sl .nil))] 163 Try.f9 [(.slice a0.a a0.len a0.cap), (.slice a1.a a1.len a1.cap)] .bool K h = F_salvorlaw19_DpllFollows a0 a1 K h := by kernel_rfl
set_option maxRecDepth 100000 in
theorem S_salvorlaw19_DpllFollows{h : Heap} {a0 : Sl} {a1 : Sl} (K : Bool → HP) (hF : F_salvorlaw19_DpllFollows a0 a1 K h) : CallsH Try.prog fn_salvorlaw19_DpllFollows #[(.slice a0.a a0.len a0.cap), (.slice a1.a a1.len a1.cap)] h fun v h' => ∃ x : Bool, v = Ty.enc .bool x ∧ K x h' :=
  callsH_of_fn (P := Try.prog) (fn := Try.f9) (τ := .bool) follows Try.func9 (by kernel_rfl) (by kernel_rfl) Try.call9 (Eq.mpr (E_salvorlaw19_DpllFollows a0 a1 K h) hF)

def F_salvorlaw19_DpllImplies (a0 : Sl) (a1 : Sl) (a2 : Int) (K : Bool → HP) : HP := fun h0 => (
 callT Try.prog fn_salvorlaw05_Made #[(.slice a0.a a0.len a0.cap)] (.agg (.cons (.int .i64) (.cons .sl .nil))) fun r0 =>
 callT Try.prog fn_salvorlaw02_Made #[(.slice a1.a a1.len a1.cap)] .sl fun r1 =>
 nw #[(.int .i64 (0 : Int)), (.slice none 0 0)] ty_formula_Formula fun b2 =>
 nw #[(.slice none 0 0)] ty_clauses_Clause fun b3 =>
 st1 (⟨b2, 0, none⟩ : Addr) (.int .i64 r0.1) <|
 st1 ((⟨b2, 0, none⟩ : Addr).add 1) (.slice r0.2.1.a r0.2.1.len r0.2.1.cap) <|
 st1 (⟨b3, 0, none⟩ : Addr) (.slice r1.a r1.len r1.cap) <|
 ldA (.cons (.int .i64) (.cons .sl .nil)) (⟨b2, 0, none⟩ : Addr) fun x4 =>
 ldT .sl (⟨b3, 0, none⟩ : Addr) fun x5 =>
 callT Try.prog fn_dpll_Implied #[(.agg #[(.int .i64 x4.1), (.slice x4.2.1.a x4.2.1.len x4.2.1.cap)]), (.slice x5.a x5.len x5.cap), (.int .i64 (1000 : Int))] (.tup (.cons .bool (.cons (.int .i64) .nil))) fun r6 =>
 ldA (.cons (.int .i64) (.cons .sl .nil)) (⟨b2, 0, none⟩ : Addr) fun x7 =>
 callT Try.prog fn_formula_Models #[(.agg #[(.int .i64 x7.1), (.slice x7.2.1.a x7.2.1.len x7.2.1.cap)])] (.tup (.cons .val (.cons (.int .i64) .nil))) fun r8 =>
 jn (σ := Bool) (fun t10 =>
 brB t10
 (mkd h0.size <|
 K false)
 (nw #[(.bool false)] ty_bool fun b11 =>
 st1 (⟨b11, 0, none⟩ : Addr) (.bool true) <|
 RangeVC Try.prog (.cons .sl .nil) r8.1 (fun x12 wrap13 next14 jump15 =>
 wrap13 <|
 ldT .bool (⟨b11, 0, none⟩ : Addr) fun x16 =>
 jn (σ := Bool) (fun t18 =>
 st1 (⟨b11, 0, none⟩ : Addr) (.bool t18) <|
 next14)
 (fun J17 =>
 brB x16
 (ldT .sl (⟨b3, 0, none⟩ : Addr) fun x19 =>
 callT Try.prog fn_formula_Holds #[(.slice x19.a x19.len x19.cap), (.slice x12.1.a x12.1.len x12.1.cap)] .bool fun r20 =>
 J17 (r20))
 (J17 false)))
 (ldT .bool (⟨b11, 0, none⟩ : Addr) fun x21 =>
 brB (!(r6.1 == x21))
 (mkd h0.size <|
 K false)
 (ldT .sl ((⟨b2, 0, none⟩ : Addr).add 1) fun x22 =>
 jn (σ := (Bool × Unit)) (fun s24 => /-  -/
 callT Try.prog fn_salvorlaw19_awake #[] .bool fun r25 =>
 mkd h0.size <|
 K r25)
 (fun J23 =>
 brB (decide ((x22.len : Int) > (0 : Int)))
 (ldT .sl ((⟨b2, 0, none⟩ : Addr).add 1) fun x26 =>
 nz (x22.len : Int) <|
 sx x26.a x26.len (Int.tmod (IntKind.wrap .i64 a2) (x22.len : Int)) 1 fun p27 =>
 ldT .sl p27 fun x28 =>
 ldT .sl ((⟨b2, 0, none⟩ : Addr).add 1) fun x29 =>
 nz (16 : Int) <|
 nz (x22.len : Int) <|
 sx x29.a x29.len (Int.tmod (IntKind.wrap .i64 (IntKind.wrap .u8 (Int.tdiv a2 (16 : Int)))) (x22.len : Int)) 1 fun p30 =>
 ldT .sl p30 fun x31 =>
 ldA (.cons (.int .i64) (.cons .sl .nil)) (⟨b2, 0, none⟩ : Addr) fun x32 =>
 callT Try.prog fn_dpll_Implied #[(.agg #[(.int .i64 x32.1), (.slice x32.2.1.a x32.2.1.len x32.2.1.cap)]), (.slice x28.a x28.len x28.cap), (.int .i64 (1000 : Int))] (.tup (.cons .bool (.cons (.int .i64) .nil))) fun r33 =>
 callT Try.prog fn_clauses_Clashes #[(.slice x28.a x28.len x28.cap), (.slice x31.a x31.len x31.cap)] (.tup (.cons .sl (.cons (.int .i64) .nil))) fun r34 =>
 jn (σ := Bool) (fun t36 =>
 brB t36
 (mkd h0.size <|
 K false)
 (lfp (σ := (Int × (Bool × Unit))) (fun X37 s38 => /-   -/
 brB (decide (s38.1 < (r34.1.len : Int)))
 (sx r34.1.a r34.1.len s38.1 1 fun p39 =>
 ldT (.int .i64) p39 fun x40 =>
 callT Try.prog fn_clauses_Resolve #[(.slice x28.a x28.len x28.cap), (.slice x31.a x31.len x31.cap), (.int .i64 x40)] (.tup (.cons .sl (.cons (.int .i64) .nil))) fun r41 =>
 ldA (.cons (.int .i64) (.cons .sl .nil)) (⟨b2, 0, none⟩ : Addr) fun x42 =>
 callT Try.prog fn_dpll_Implied #[(.agg #[(.int .i64 x42.1), (.slice x42.2.1.a x42.2.1.len x42.2.1.cap)]), (.slice r41.1.a r41.1.len r41.1.cap), (.int .i64 (1000 : Int))] (.tup (.cons .bool (.cons (.int .i64) .nil))) fun r43 =>
 jn (σ := Bool) (fun t45 =>
 brB t45
 (mkd h0.size <|
 K false)
 (X37 ((IntKind.wrap .i64 (s38.1 + (1 : Int))), s38.2.1, ())))
 (fun J44 =>
 brB ((IntKind.wrap .i64 (r41.2.1 + r43.2.1)) != (0 : Int))
 (J44 true)
 (J44 ((!r43.1)))))
 (J23 (s38.2.1, ())))
 ((0 : Int), false, ())))
 (fun J35 =>
 brB ((IntKind.wrap .i64 (r33.2.1 + r34.2.1)) != (0 : Int))
 (J35 true)
 (J35 ((!r33.1)))))
 (J23 (false, ())))))
 (mkd h0.size <|
 K false)
 []
 []))
 (fun J9 =>
 brB ((IntKind.wrap .i64 (r6.2.1 + r8.2.1)) != (0 : Int))
 (J9 true)
 (fnE r8.1 fun t46 =>
 J9 (t46)))) h0
set_option maxRecDepth 100000 in
theorem E_salvorlaw19_DpllImplies (a0 : Sl) (a1 : Sl) (a2 : Int) (K : Bool → HP) (h : Heap) : fnVC Try.prog [(1000000, .bool), (52, (.cons .sl .nil))] 133 Try.f10 [(.slice a0.a a0.len a0.cap), (.slice a1.a a1.len a1.cap), (.int .u8 a2)] .bool K h = F_salvorlaw19_DpllImplies a0 a1 a2 K h := by kernel_rfl
set_option maxRecDepth 100000 in
theorem S_salvorlaw19_DpllImplies{h : Heap} {a0 : Sl} {a1 : Sl} {a2 : Int} (K : Bool → HP) (hF : F_salvorlaw19_DpllImplies a0 a1 a2 K h) : CallsH Try.prog fn_salvorlaw19_DpllImplies #[(.slice a0.a a0.len a0.cap), (.slice a1.a a1.len a1.cap), (.int .u8 a2)] h fun v h' => ∃ x : Bool, v = Ty.enc .bool x ∧ K x h' :=
  callsH_of_fn (P := Try.prog) (fn := Try.f10) (τ := .bool) follows Try.func10 (by kernel_rfl) (by kernel_rfl) Try.call10 (Eq.mpr (E_salvorlaw19_DpllImplies a0 a1 a2 K h) hF)

def F_salvorlaw19_awake (K : Bool → HP) : HP :=
 nw #[(.int .i64 (1 : Int)), (.int .i64 (2 : Int))] ty_int fun b0 =>
 nw #[(.int .i64 (-1 : Int)), (.int .i64 (3 : Int))] ty_int fun b1 =>
 nw #[(.slice (some (⟨b0, 0, none⟩ : Addr)) 2 2), (.slice (some (⟨b1, 0, none⟩ : Addr)) 2 2)] ty_sl_int fun b2 =>
 callT Try.prog fn_salvorlaw05_Of #[(.int .i64 (3 : Int)), (.slice (some (⟨b2, 0, none⟩ : Addr)) 2 2)] (.agg (.cons (.int .i64) (.cons .sl .nil))) fun r3 =>
 nw #[(.int .i64 (0 : Int)), (.slice none 0 0)] ty_formula_Formula fun b4 =>
 st1 (⟨b4, 0, none⟩ : Addr) (.int .i64 r3.1) <|
 st1 ((⟨b4, 0, none⟩ : Addr).add 1) (.slice r3.2.1.a r3.2.1.len r3.2.1.cap) <|
 ldA (.cons (.int .i64) (.cons .sl .nil)) (⟨b4, 0, none⟩ : Addr) fun x5 =>
 nw #[(.int .i64 (-2 : Int))] ty_lits_Lit fun b6 =>
 callT Try.prog fn_dpll_Follows #[(.agg #[(.int .i64 x5.1), (.slice x5.2.1.a x5.2.1.len x5.2.1.cap)]), (.slice (some (⟨b6, 0, none⟩ : Addr)) 1 1)] (.tup (.cons .sl (.cons (.int .i64) (.cons (.int .i64) .nil)))) fun r7 =>
 ldA (.cons (.int .i64) (.cons .sl .nil)) (⟨b4, 0, none⟩ : Addr) fun x8 =>
 callT Try.prog fn_dpll_Solve #[(.agg #[(.int .i64 x8.1), (.slice x8.2.1.a x8.2.1.len x8.2.1.cap)]), (.int .i64 (2 : Int))] (.tup (.cons (.agg (.cons .bool (.cons .sl (.cons (.int .i64) .nil)))) (.cons (.int .i64) .nil))) fun r9 =>
 nw #[(.bool false), (.slice none 0 0), (.int .i64 (0 : Int))] ty_dpll_Answer fun b10 =>
 st1 (⟨b10, 0, none⟩ : Addr) (.bool r9.1.1) <|
 st1 ((⟨b10, 0, none⟩ : Addr).add 1) (.slice r9.1.2.1.a r9.1.2.1.len r9.1.2.1.cap) <|
 st1 ((⟨b10, 0, none⟩ : Addr).add 2) (.int .i64 r9.1.2.2.1) <|
 ldA (.cons (.int .i64) (.cons .sl .nil)) (⟨b4, 0, none⟩ : Addr) fun x11 =>
 callT Try.prog fn_dpll_Solve #[(.agg #[(.int .i64 x11.1), (.slice x11.2.1.a x11.2.1.len x11.2.1.cap)]), (.int .i64 (1 : Int))] (.tup (.cons (.agg (.cons .bool (.cons .sl (.cons (.int .i64) .nil)))) (.cons (.int .i64) .nil))) fun r12 =>
 nw #[(.bool false), (.slice none 0 0), (.int .i64 (0 : Int))] ty_dpll_Answer fun b13 =>
 st1 (⟨b13, 0, none⟩ : Addr) (.bool r12.1.1) <|
 st1 ((⟨b13, 0, none⟩ : Addr).add 1) (.slice r12.1.2.1.a r12.1.2.1.len r12.1.2.1.cap) <|
 st1 ((⟨b13, 0, none⟩ : Addr).add 2) (.int .i64 r12.1.2.2.1) <|
 ldA (.cons (.int .i64) (.cons .sl .nil)) (⟨b4, 0, none⟩ : Addr) fun x14 =>
 nw #[(.int .i64 (-2 : Int)), (.int .i64 (-3 : Int))] ty_lits_Lit fun b15 =>
 callT Try.prog fn_dpll_Follows #[(.agg #[(.int .i64 x14.1), (.slice x14.2.1.a x14.2.1.len x14.2.1.cap)]), (.slice (some (⟨b15, 0, none⟩ : Addr)) 2 2)] (.tup (.cons .sl (.cons (.int .i64) (.cons (.int .i64) .nil)))) fun r16 =>
 nw #[(.int .i64 (1 : Int))] ty_int fun b17 =>
 nw #[(.int .i64 (-1 : Int))] ty_int fun b18 =>
 nw #[(.slice (some (⟨b17, 0, none⟩ : Addr)) 1 1), (.slice (some (⟨b18, 0, none⟩ : Addr)) 1 1)] ty_sl_int fun b19 =>
 callT Try.prog fn_salvorlaw05_Of #[(.int .i64 (1 : Int)), (.slice (some (⟨b19, 0, none⟩ : Addr)) 2 2)] (.agg (.cons (.int .i64) (.cons .sl .nil))) fun r20 =>
 callT Try.prog fn_dpll_Solve #[(.agg #[(.int .i64 r20.1), (.slice r20.2.1.a r20.2.1.len r20.2.1.cap)]), (.int .i64 (0 : Int))] (.tup (.cons (.agg (.cons .bool (.cons .sl (.cons (.int .i64) .nil)))) (.cons (.int .i64) .nil))) fun r21 =>
 nw #[(.bool false), (.slice none 0 0), (.int .i64 (0 : Int))] ty_dpll_Answer fun b22 =>
 st1 (⟨b22, 0, none⟩ : Addr) (.bool r21.1.1) <|
 st1 ((⟨b22, 0, none⟩ : Addr).add 1) (.slice r21.1.2.1.a r21.1.2.1.len r21.1.2.1.cap) <|
 st1 ((⟨b22, 0, none⟩ : Addr).add 2) (.int .i64 r21.1.2.2.1) <|
 ldA (.cons (.int .i64) (.cons .sl .nil)) (⟨b4, 0, none⟩ : Addr) fun x23 =>
 nw #[(.int .i64 (2 : Int)), (.int .i64 (3 : Int))] ty_lits_Lit fun b24 =>
 callT Try.prog fn_dpll_Implied #[(.agg #[(.int .i64 x23.1), (.slice x23.2.1.a x23.2.1.len x23.2.1.cap)]), (.slice (some (⟨b24, 0, none⟩ : Addr)) 2 2), (.int .i64 (9 : Int))] (.tup (.cons .bool (.cons (.int .i64) .nil))) fun r25 =>
 ldA (.cons (.int .i64) (.cons .sl .nil)) (⟨b4, 0, none⟩ : Addr) fun x26 =>
 nw #[(.int .i64 (2 : Int))] ty_lits_Lit fun b27 =>
 callT Try.prog fn_dpll_Implied #[(.agg #[(.int .i64 x26.1), (.slice x26.2.1.a x26.2.1.len x26.2.1.cap)]), (.slice (some (⟨b27, 0, none⟩ : Addr)) 1 1), (.int .i64 (9 : Int))] (.tup (.cons .bool (.cons (.int .i64) .nil))) fun r28 =>
 jn (σ := Bool) (fun t30 =>
 jn (σ := Bool) (fun t32 =>
 jn (σ := Bool) (fun t34 =>
 jn (σ := Bool) (fun t36 =>
 jn (σ := Bool) (fun t38 =>
 jn (σ := Bool) (fun t40 =>
 jn (σ := Bool) (fun t42 =>
 jn (σ := Bool) (fun t44 =>
 jn (σ := Bool) (fun t46 =>
 jn (σ := Bool) (fun t48 =>
 jn (σ := Bool) (fun t50 =>
 jn (σ := Bool) (fun t52 =>
 K t52)
 (fun J51 =>
 brB t50
 (J51 ((!r28.1)))
 (J51 false)))
 (fun J49 =>
 brB t48
 (J49 (r25.1))
 (J49 false)))
 (fun J47 =>
 brB t46
 (ldT (.int .i64) ((⟨b22, 0, none⟩ : Addr).add 2) fun x53 =>
 J47 ((x53 == (0 : Int))))
 (J47 false)))
 (fun J45 =>
 brB t44
 (ldT .bool (⟨b22, 0, none⟩ : Addr) fun x54 =>
 J45 ((!x54)))
 (J45 false)))
 (fun J43 =>
 brB t42
 (J43 ((r16.2.1 == (1 : Int))))
 (J43 false)))
 (fun J41 =>
 brB t40
 (nw #[(.int .i64 (1 : Int))] ty_lits_Lit fun b55 =>
 callT Try.prog fn_slices_Equal_lits_Lit_lits_Lit #[(.slice r16.1.a r16.1.len r16.1.cap), (.slice (some (⟨b55, 0, none⟩ : Addr)) 1 1)] .bool fun r56 =>
 J41 (r56))
 (J41 false)))
 (fun J39 =>
 brB t38
 (ldT (.int .i64) ((⟨b10, 0, none⟩ : Addr).add 2) fun x57 =>
 J39 ((x57 == (2 : Int))))
 (J39 false)))
 (fun J37 =>
 brB t36
 (ldT .sl ((⟨b10, 0, none⟩ : Addr).add 1) fun x58 =>
 nw #[(.bool false), (.bool true), (.bool false)] ty_bool fun b59 =>
 callT Try.prog fn_slices_Equal_bool_bool #[(.slice x58.a x58.len x58.cap), (.slice (some (⟨b59, 0, none⟩ : Addr)) 3 3)] .bool fun r60 =>
 J37 (r60))
 (J37 false)))
 (fun J35 =>
 brB t34
 (ldT .bool (⟨b10, 0, none⟩ : Addr) fun x61 =>
 J35 (x61))
 (J35 false)))
 (fun J33 =>
 brB t32
 (J33 ((r7.2.1 == (-1 : Int))))
 (J33 false)))
 (fun J31 =>
 brB t30
 (nw #[(.int .i64 (1 : Int)), (.int .i64 (3 : Int))] ty_lits_Lit fun b62 =>
 callT Try.prog fn_slices_Equal_lits_Lit_lits_Lit #[(.slice r7.1.a r7.1.len r7.1.cap), (.slice (some (⟨b62, 0, none⟩ : Addr)) 2 2)] .bool fun r63 =>
 J31 (r63))
 (J31 false)))
 (fun J29 =>
 brB ((IntKind.wrap .i64 ((IntKind.wrap .i64 ((IntKind.wrap .i64 ((IntKind.wrap .i64 ((IntKind.wrap .i64 (r7.2.2.1 + r9.2.1)) + r16.2.2.1)) + r21.2.1)) + r25.2.1)) + r28.2.1)) == (0 : Int))
 (J29 ((r12.2.1 == (190 : Int))))
 (J29 false))
set_option maxRecDepth 100000 in
theorem E_salvorlaw19_awake (K : Bool → HP) (h : Heap) : fnVC Try.prog [(1000000, .bool)] 132 Try.f14 [] .bool K h = F_salvorlaw19_awake K h := by kernel_rfl
set_option maxRecDepth 100000 in
theorem S_salvorlaw19_awake{h : Heap} (K : Bool → HP) (hF : F_salvorlaw19_awake K h) : CallsH Try.prog fn_salvorlaw19_awake #[] h fun v h' => ∃ x : Bool, v = Ty.enc .bool x ∧ K x h' :=
  callsH_of_fn (P := Try.prog) (fn := Try.f14) (τ := .bool) follows Try.func14 (by kernel_rfl) (by kernel_rfl) Try.call14 (Eq.mpr (E_salvorlaw19_awake K h) hF)

def F_salvorlaw05_Made (a0 : Sl) (K : (Int × (Sl × Unit)) → HP) : HP :=
 nw #[(.int .i64 (0 : Int)), (.slice none 0 0)] ty_formula_Formula fun b0 =>
 nw #[(.int .i64 (0 : Int)), (.slice none 0 0)] ty_formula_Formula fun b1 =>
 st1 (⟨b1, 0, none⟩ : Addr) (.int .i64 (8 : Int)) <|
 st1 ((⟨b1, 0, none⟩ : Addr).add 1) (.slice none 0 0) <|
 slH ⟨a0.a, a0.len, a0.cap⟩ (if (30 : Int) < (a0.len : Int) then (30 : Int) else (a0.len : Int)) 1 fun s2 =>
 lfp (σ := (Int × Unit)) (fun X3 s4 => /-  -/
 brB (decide (s4.1 < (s2.len : Int)))
 (sx s2.a s2.len s4.1 1 fun p5 =>
 ldT .sl p5 fun x6 =>
 ldT .sl ((⟨b1, 0, none⟩ : Addr).add 1) fun x7 =>
 callT Try.prog fn_salvorlaw02_Made #[(.slice x6.a x6.len x6.cap)] .sl fun r8 =>
 ck ((⟨b1, 0, none⟩ : Addr).add 1) (.slice x7.a x7.len x7.cap) <|
 nw #[(.slice r8.a r8.len r8.cap)] ty_clauses_Clause fun b9 =>
 apd ty_clauses_Clause 1 24 #[(.slice none 0 0)] ⟨x7.a, x7.len, x7.cap⟩ ⟨(some (⟨b9, 0, none⟩ : Addr)), 1, 1⟩ fun s10 =>
 st1 ((⟨b1, 0, none⟩ : Addr).add 1) (.slice s10.a s10.len s10.cap) <|
 X3 ((IntKind.wrap .i64 (s4.1 + (1 : Int))), ()))
 (ldA (.cons (.int .i64) (.cons .sl .nil)) (⟨b1, 0, none⟩ : Addr) fun x11 =>
 st1 (⟨b0, 0, none⟩ : Addr) (.int .i64 x11.1) <|
 st1 ((⟨b0, 0, none⟩ : Addr).add 1) (.slice x11.2.1.a x11.2.1.len x11.2.1.cap) <|
 ldA (.cons (.int .i64) (.cons .sl .nil)) (⟨b0, 0, none⟩ : Addr) fun x12 =>
 K (x12.1, ⟨x12.2.1.a, x12.2.1.len, x12.2.1.cap⟩, ())))
 ((0 : Int), ())
set_option maxRecDepth 100000 in
theorem E_salvorlaw05_Made (a0 : Sl) (K : (Int × (Sl × Unit)) → HP) (h : Heap) : fnVC Try.prog [(1000000, .nil)] 26 Try.f15 [(.slice a0.a a0.len a0.cap)] (.agg (.cons (.int .i64) (.cons .sl .nil))) K h = F_salvorlaw05_Made a0 K h := by kernel_rfl
set_option maxRecDepth 100000 in
theorem S_salvorlaw05_Made{h : Heap} {a0 : Sl} (K : (Int × (Sl × Unit)) → HP) (hF : F_salvorlaw05_Made a0 K h) : CallsH Try.prog fn_salvorlaw05_Made #[(.slice a0.a a0.len a0.cap)] h fun v h' => ∃ x : (Int × (Sl × Unit)), v = Ty.enc (.agg (.cons (.int .i64) (.cons .sl .nil))) x ∧ K x h' :=
  callsH_of_fn (P := Try.prog) (fn := Try.f15) (τ := (.agg (.cons (.int .i64) (.cons .sl .nil)))) follows Try.func15 (by kernel_rfl) (by kernel_rfl) Try.call15 (Eq.mpr (E_salvorlaw05_Made a0 K h) hF)

def F_salvorlaw02_Made (a0 : Sl) (K : Sl → HP) : HP :=
 slH ⟨a0.a, a0.len, a0.cap⟩ (if (20 : Int) < (a0.len : Int) then (20 : Int) else (a0.len : Int)) 1 fun s0 =>
 lfp (σ := (Int × (Sl × Unit))) (fun X1 s2 => /-  out -/
 brB (decide (s2.1 < (s0.len : Int)))
 (sx s0.a s0.len s2.1 1 fun p3 =>
 ldT (.int .u8) p3 fun x4 =>
 nz (2 : Int) <|
 nz (8 : Int) <|
 nz (2 : Int) <|
 jn (σ := (Int × Unit)) (fun s6 => /- x -/
 nw #[(.int .i64 s6.1)] ty_lits_Lit fun b7 =>
 apd ty_lits_Lit 1 8 #[(.int .i64 (0 : Int))] ⟨s2.2.1.a, s2.2.1.len, s2.2.1.cap⟩ ⟨(some (⟨b7, 0, none⟩ : Addr)), 1, 1⟩ fun s8 =>
 X1 ((IntKind.wrap .i64 (s2.1 + (1 : Int))), ⟨s8.a, s8.len, s8.cap⟩, ()))
 (fun J5 =>
 brB ((Int.tmod x4 (2 : Int)) == (1 : Int))
 (J5 ((IntKind.wrap .i64 (0 - (IntKind.wrap .i64 (IntKind.wrap .u8 ((1 : Int) + (Int.tmod (IntKind.wrap .u8 (Int.tdiv x4 (2 : Int))) (8 : Int))))))), ()))
 (J5 ((IntKind.wrap .i64 (IntKind.wrap .u8 ((1 : Int) + (Int.tmod (IntKind.wrap .u8 (Int.tdiv x4 (2 : Int))) (8 : Int))))), ()))))
 (K ⟨s2.2.1.a, s2.2.1.len, s2.2.1.cap⟩))
 ((0 : Int), ⟨none, 0, 0⟩, ())
set_option maxRecDepth 100000 in
theorem E_salvorlaw02_Made (a0 : Sl) (K : Sl → HP) (h : Heap) : fnVC Try.prog [(1000000, .nil)] 33 Try.f16 [(.slice a0.a a0.len a0.cap)] .sl K h = F_salvorlaw02_Made a0 K h := by kernel_rfl
set_option maxRecDepth 100000 in
theorem S_salvorlaw02_Made{h : Heap} {a0 : Sl} (K : Sl → HP) (hF : F_salvorlaw02_Made a0 K h) : CallsH Try.prog fn_salvorlaw02_Made #[(.slice a0.a a0.len a0.cap)] h fun v h' => ∃ x : Sl, v = Ty.enc .sl x ∧ K x h' :=
  callsH_of_fn (P := Try.prog) (fn := Try.f16) (τ := .sl) follows Try.func16 (by kernel_rfl) (by kernel_rfl) Try.call16 (Eq.mpr (E_salvorlaw02_Made a0 K h) hF)

def F_formula_Copy (a0 : (Int × (Sl × Unit))) (K : (Int × (Sl × Unit)) → HP) : HP :=
 nw #[(.int .i64 a0.1), (.slice a0.2.1.a a0.2.1.len a0.2.1.cap)] ty_formula_Formula fun b0 =>
 nw #[(.int .i64 (0 : Int)), (.slice none 0 0)] ty_formula_Formula fun b1 =>
 ldT (.int .i64) (⟨b0, 0, none⟩ : Addr) fun x2 =>
 nw #[(.int .i64 (0 : Int)), (.slice none 0 0)] ty_formula_Formula fun b3 =>
 st1 (⟨b3, 0, none⟩ : Addr) (.int .i64 x2) <|
 st1 ((⟨b3, 0, none⟩ : Addr).add 1) (.slice none 0 0) <|
 ldT .sl ((⟨b0, 0, none⟩ : Addr).add 1) fun x4 =>
 lfp (σ := (Int × Unit)) (fun X5 s6 => /-  -/
 brB (decide (s6.1 < (x4.len : Int)))
 (sx x4.a x4.len s6.1 1 fun p7 =>
 ldT .sl p7 fun x8 =>
 ldT .sl ((⟨b3, 0, none⟩ : Addr).add 1) fun x9 =>
 callT Try.prog fn_slices_Clone_clauses_Clause_lits_Lit #[(.slice x8.a x8.len x8.cap)] .sl fun r10 =>
 ck ((⟨b3, 0, none⟩ : Addr).add 1) (.slice x9.a x9.len x9.cap) <|
 nw #[(.slice r10.a r10.len r10.cap)] ty_clauses_Clause fun b11 =>
 apd ty_clauses_Clause 1 24 #[(.slice none 0 0)] ⟨x9.a, x9.len, x9.cap⟩ ⟨(some (⟨b11, 0, none⟩ : Addr)), 1, 1⟩ fun s12 =>
 st1 ((⟨b3, 0, none⟩ : Addr).add 1) (.slice s12.a s12.len s12.cap) <|
 X5 ((IntKind.wrap .i64 (s6.1 + (1 : Int))), ()))
 (ldA (.cons (.int .i64) (.cons .sl .nil)) (⟨b3, 0, none⟩ : Addr) fun x13 =>
 st1 (⟨b1, 0, none⟩ : Addr) (.int .i64 x13.1) <|
 st1 ((⟨b1, 0, none⟩ : Addr).add 1) (.slice x13.2.1.a x13.2.1.len x13.2.1.cap) <|
 ldA (.cons (.int .i64) (.cons .sl .nil)) (⟨b1, 0, none⟩ : Addr) fun x14 =>
 K (x14.1, ⟨x14.2.1.a, x14.2.1.len, x14.2.1.cap⟩, ())))
 ((0 : Int), ())
set_option maxRecDepth 100000 in
theorem E_formula_Copy (a0 : (Int × (Sl × Unit))) (K : (Int × (Sl × Unit)) → HP) (h : Heap) : fnVC Try.prog [(1000000, .nil)] 25 Try.f17 [(.agg #[(.int .i64 a0.1), (.slice a0.2.1.a a0.2.1.len a0.2.1.cap)])] (.agg (.cons (.int .i64) (.cons .sl .nil))) K h = F_formula_Copy a0 K h := by kernel_rfl
set_option maxRecDepth 100000 in
theorem S_formula_Copy{h : Heap} {a0 : (Int × (Sl × Unit))} (K : (Int × (Sl × Unit)) → HP) (hF : F_formula_Copy a0 K h) : CallsH Try.prog fn_formula_Copy #[(.agg #[(.int .i64 a0.1), (.slice a0.2.1.a a0.2.1.len a0.2.1.cap)])] h fun v h' => ∃ x : (Int × (Sl × Unit)), v = Ty.enc (.agg (.cons (.int .i64) (.cons .sl .nil))) x ∧ K x h' :=
  callsH_of_fn (P := Try.prog) (fn := Try.f17) (τ := (.agg (.cons (.int .i64) (.cons .sl .nil)))) follows Try.func17 (by kernel_rfl) (by kernel_rfl) Try.call17 (Eq.mpr (E_formula_Copy a0 K h) hF)

def F_dpll_Under (a0 : (Int × (Sl × Unit))) (a1 : Sl) (a2 : Int) (K : ((Bool × (Sl × (Int × Unit))) × (Int × Unit)) → HP) : HP :=
 nw #[(.int .i64 a0.1), (.slice a0.2.1.a a0.2.1.len a0.2.1.cap)] ty_formula_Formula fun b0 =>
 nw #[(.bool false), (.slice none 0 0), (.int .i64 (0 : Int))] ty_dpll_Answer fun b1 =>
 ldA (.cons (.int .i64) (.cons .sl .nil)) (⟨b0, 0, none⟩ : Addr) fun x2 =>
 callT Try.prog fn_dpll_wrong #[(.agg #[(.int .i64 x2.1), (.slice x2.2.1.a x2.2.1.len x2.2.1.cap)]), (.int .i64 a2)] (.int .i64) fun r3 =>
 brB (r3 != (0 : Int))
 (st1 (⟨b1, 0, none⟩ : Addr) (.bool false) <|
 st1 ((⟨b1, 0, none⟩ : Addr).add 1) (.slice none 0 0) <|
 st1 ((⟨b1, 0, none⟩ : Addr).add 2) (.int .i64 (0 : Int)) <|
 ldA (.cons .bool (.cons .sl (.cons (.int .i64) .nil))) (⟨b1, 0, none⟩ : Addr) fun x4 =>
 K ((x4.1, ⟨x4.2.1.a, x4.2.1.len, x4.2.1.cap⟩, x4.2.2.1, ()), r3, ()))
 (ldA (.cons (.int .i64) (.cons .sl .nil)) (⟨b0, 0, none⟩ : Addr) fun x5 =>
 callT Try.prog fn_dpll_begin #[(.agg #[(.int .i64 x5.1), (.slice x5.2.1.a x5.2.1.len x5.2.1.cap)]), (.slice a1.a a1.len a1.cap), (.int .i64 a2)] (.tup (.cons .ptr (.cons (.int .i64) .nil))) fun r6 =>
 brB (r6.2.1 != (0 : Int))
 (st1 (⟨b1, 0, none⟩ : Addr) (.bool false) <|
 st1 ((⟨b1, 0, none⟩ : Addr).add 1) (.slice none 0 0) <|
 st1 ((⟨b1, 0, none⟩ : Addr).add 2) (.int .i64 (0 : Int)) <|
 ldA (.cons .bool (.cons .sl (.cons (.int .i64) .nil))) (⟨b1, 0, none⟩ : Addr) fun x7 =>
 K ((x7.1, ⟨x7.2.1.a, x7.2.1.len, x7.2.1.cap⟩, x7.2.2.1, ()), r6.2.1, ()))
 (nw #[(.bool false), (.slice none 0 0), (.int .i64 (0 : Int))] ty_dpll_Answer fun b8 =>
 callT Try.prog fn_dpll_search_models #[(.pointer r6.1), (.func (.func fn_dpll_Under_1) #[] #[(.pointer (some (⟨b8, 0, none⟩ : Addr)))])] .bool fun r9 =>
 nn r6.1 fun p10 =>
 ldT (.int .i64) (p10.add 3) fun x11 =>
 brB (decide (x11 > a2))
 (st1 (⟨b1, 0, none⟩ : Addr) (.bool false) <|
 st1 ((⟨b1, 0, none⟩ : Addr).add 1) (.slice none 0 0) <|
 st1 ((⟨b1, 0, none⟩ : Addr).add 2) (.int .i64 (0 : Int)) <|
 ldA (.cons .bool (.cons .sl (.cons (.int .i64) .nil))) (⟨b1, 0, none⟩ : Addr) fun x12 =>
 K ((x12.1, ⟨x12.2.1.a, x12.2.1.len, x12.2.1.cap⟩, x12.2.2.1, ()), (190 : Int), ()))
 (nn r6.1 fun p13 =>
 ldT (.int .i64) (p13.add 3) fun x14 =>
 st1 ((⟨b8, 0, none⟩ : Addr).add 2) (.int .i64 x14) <|
 ldA (.cons .bool (.cons .sl (.cons (.int .i64) .nil))) (⟨b8, 0, none⟩ : Addr) fun x15 =>
 st1 (⟨b1, 0, none⟩ : Addr) (.bool x15.1) <|
 st1 ((⟨b1, 0, none⟩ : Addr).add 1) (.slice x15.2.1.a x15.2.1.len x15.2.1.cap) <|
 st1 ((⟨b1, 0, none⟩ : Addr).add 2) (.int .i64 x15.2.2.1) <|
 ldA (.cons .bool (.cons .sl (.cons (.int .i64) .nil))) (⟨b1, 0, none⟩ : Addr) fun x16 =>
 K ((x16.1, ⟨x16.2.1.a, x16.2.1.len, x16.2.1.cap⟩, x16.2.2.1, ()), (0 : Int), ()))))
set_option maxRecDepth 100000 in
theorem E_dpll_Under (a0 : (Int × (Sl × Unit))) (a1 : Sl) (a2 : Int) (K : ((Bool × (Sl × (Int × Unit))) × (Int × Unit)) → HP) (h : Heap) : fnVC Try.prog [(1000000, .bool)] 46 Try.f18 [(.agg #[(.int .i64 a0.1), (.slice a0.2.1.a a0.2.1.len a0.2.1.cap)]), (.slice a1.a a1.len a1.cap), (.int .i64 a2)] (.tup (.cons (.agg (.cons .bool (.cons .sl (.cons (.int .i64) .nil)))) (.cons (.int .i64) .nil))) K h = F_dpll_Under a0 a1 a2 K h := by kernel_rfl
set_option maxRecDepth 100000 in
theorem S_dpll_Under{h : Heap} {a0 : (Int × (Sl × Unit))} {a1 : Sl} {a2 : Int} (K : ((Bool × (Sl × (Int × Unit))) × (Int × Unit)) → HP) (hF : F_dpll_Under a0 a1 a2 K h) : CallsH Try.prog fn_dpll_Under #[(.agg #[(.int .i64 a0.1), (.slice a0.2.1.a a0.2.1.len a0.2.1.cap)]), (.slice a1.a a1.len a1.cap), (.int .i64 a2)] h fun v h' => ∃ x : ((Bool × (Sl × (Int × Unit))) × (Int × Unit)), v = Ty.enc (.tup (.cons (.agg (.cons .bool (.cons .sl (.cons (.int .i64) .nil)))) (.cons (.int .i64) .nil))) x ∧ K x h' :=
  callsH_of_fn (P := Try.prog) (fn := Try.f18) (τ := (.tup (.cons (.agg (.cons .bool (.cons .sl (.cons (.int .i64) .nil)))) (.cons (.int .i64) .nil)))) follows Try.func18 (by kernel_rfl) (by kernel_rfl) Try.call18 (Eq.mpr (E_dpll_Under a0 a1 a2 K h) hF)

def F_dpll_Solve (a0 : (Int × (Sl × Unit))) (a1 : Int) (K : ((Bool × (Sl × (Int × Unit))) × (Int × Unit)) → HP) : HP :=
 nw #[(.int .i64 a0.1), (.slice a0.2.1.a a0.2.1.len a0.2.1.cap)] ty_formula_Formula fun b0 =>
 nw #[(.bool false), (.slice none 0 0), (.int .i64 (0 : Int))] ty_dpll_Answer fun b1 =>
 ldA (.cons (.int .i64) (.cons .sl .nil)) (⟨b0, 0, none⟩ : Addr) fun x2 =>
 callT Try.prog fn_dpll_Under #[(.agg #[(.int .i64 x2.1), (.slice x2.2.1.a x2.2.1.len x2.2.1.cap)]), (.slice none 0 0), (.int .i64 a1)] (.tup (.cons (.agg (.cons .bool (.cons .sl (.cons (.int .i64) .nil)))) (.cons (.int .i64) .nil))) fun r3 =>
 st1 (⟨b1, 0, none⟩ : Addr) (.bool r3.1.1) <|
 st1 ((⟨b1, 0, none⟩ : Addr).add 1) (.slice r3.1.2.1.a r3.1.2.1.len r3.1.2.1.cap) <|
 st1 ((⟨b1, 0, none⟩ : Addr).add 2) (.int .i64 r3.1.2.2.1) <|
 ldA (.cons .bool (.cons .sl (.cons (.int .i64) .nil))) (⟨b1, 0, none⟩ : Addr) fun x4 =>
 K ((x4.1, ⟨x4.2.1.a, x4.2.1.len, x4.2.1.cap⟩, x4.2.2.1, ()), r3.2.1, ())
set_option maxRecDepth 100000 in
theorem E_dpll_Solve (a0 : (Int × (Sl × Unit))) (a1 : Int) (K : ((Bool × (Sl × (Int × Unit))) × (Int × Unit)) → HP) (h : Heap) : fnVC Try.prog [(1000000, .bool)] 11 Try.f19 [(.agg #[(.int .i64 a0.1), (.slice a0.2.1.a a0.2.1.len a0.2.1.cap)]), (.int .i64 a1)] (.tup (.cons (.agg (.cons .bool (.cons .sl (.cons (.int .i64) .nil)))) (.cons (.int .i64) .nil))) K h = F_dpll_Solve a0 a1 K h := by kernel_rfl
set_option maxRecDepth 100000 in
theorem S_dpll_Solve{h : Heap} {a0 : (Int × (Sl × Unit))} {a1 : Int} (K : ((Bool × (Sl × (Int × Unit))) × (Int × Unit)) → HP) (hF : F_dpll_Solve a0 a1 K h) : CallsH Try.prog fn_dpll_Solve #[(.agg #[(.int .i64 a0.1), (.slice a0.2.1.a a0.2.1.len a0.2.1.cap)]), (.int .i64 a1)] h fun v h' => ∃ x : ((Bool × (Sl × (Int × Unit))) × (Int × Unit)), v = Ty.enc (.tup (.cons (.agg (.cons .bool (.cons .sl (.cons (.int .i64) .nil)))) (.cons (.int .i64) .nil))) x ∧ K x h' :=
  callsH_of_fn (P := Try.prog) (fn := Try.f19) (τ := (.tup (.cons (.agg (.cons .bool (.cons .sl (.cons (.int .i64) .nil)))) (.cons (.int .i64) .nil)))) follows Try.func19 (by kernel_rfl) (by kernel_rfl) Try.call19 (Eq.mpr (E_dpll_Solve a0 a1 K h) hF)

def F_clauses_Always (a0 : Sl) (K : Bool → HP) : HP := fun h0 => (
 nw #[(.bool false)] ty_bool fun b0 =>
 callT Try.prog fn_clauses_Right #[(.slice a0.a a0.len a0.cap)] .bool fun r1 =>
 brB (!r1)
 (st1 (⟨b0, 0, none⟩ : Addr) (.bool false) <|
 mkd h0.size <|
 ldT .bool (⟨b0, 0, none⟩ : Addr) fun x2 =>
 K x2)
 (nw #[(.int .i64 (0 : Int))] ty_lits_Lit fun b3 =>
 st1 (⟨b3, 0, none⟩ : Addr) (.int .i64 (0 : Int)) <|
 callT Try.prog fn_clauses_sorted #[(.slice a0.a a0.len a0.cap)] .val fun r4 =>
 RangeVC Try.prog (.cons (.int .i64) .nil) r4 (fun x5 wrap6 next7 jump8 =>
 wrap6 <|
 ldT (.int .i64) (⟨b3, 0, none⟩ : Addr) fun x9 =>
 brB (x9 != (0 : Int))
 (ldT (.int .i64) (⟨b3, 0, none⟩ : Addr) fun x10 =>
 callT Try.prog fn_lits_Neg #[(.int .i64 x10)] (.int .i64) fun r11 =>
 brB (x5.1 == r11)
 (st1 (⟨b0, 0, none⟩ : Addr) (.bool true) <|
 jump8 .ret)
 (st1 (⟨b3, 0, none⟩ : Addr) (.int .i64 x5.1) <|
 next7))
 (st1 (⟨b3, 0, none⟩ : Addr) (.int .i64 x5.1) <|
 next7))
 (st1 (⟨b0, 0, none⟩ : Addr) (.bool false) <|
 mkd h0.size <|
 ldT .bool (⟨b0, 0, none⟩ : Addr) fun x12 =>
 K x12)
 (mkd h0.size <|
 ldT .bool (⟨b0, 0, none⟩ : Addr) fun x13 =>
 K x13)
 []
 [])) h0
set_option maxRecDepth 100000 in
theorem E_clauses_Always (a0 : Sl) (K : Bool → HP) (h : Heap) : fnVC Try.prog [(1000000, .nil), (10, (.cons (.int .i64) .nil))] 20 Try.f20 [(.slice a0.a a0.len a0.cap)] .bool K h = F_clauses_Always a0 K h := by kernel_rfl
set_option maxRecDepth 100000 in
theorem S_clauses_Always{h : Heap} {a0 : Sl} (K : Bool → HP) (hF : F_clauses_Always a0 K h) : CallsH Try.prog fn_clauses_Always #[(.slice a0.a a0.len a0.cap)] h fun v h' => ∃ x : Bool, v = Ty.enc .bool x ∧ K x h' :=
  callsH_of_fn (P := Try.prog) (fn := Try.f20) (τ := .bool) follows Try.func20 (by kernel_rfl) (by kernel_rfl) Try.call20 (Eq.mpr (E_clauses_Always a0 K h) hF)

def F_slices_Equal_bool_bool (a0 : Sl) (a1 : Sl) (K : Bool → HP) : HP :=
 brB ((a0.len : Int) != (a1.len : Int))
 (K false)
 (lfp (σ := (Int × (Bool × Unit))) (fun X0 s1 => /-   -/
 brB (decide (s1.1 < (a0.len : Int)))
 (sx a0.a a0.len s1.1 1 fun p2 =>
 ldT .bool p2 fun x3 =>
 sx a1.a a1.len s1.1 1 fun p4 =>
 ldT .bool p4 fun x5 =>
 brB (!(x3 == x5))
 (K false)
 (X0 ((IntKind.wrap .i64 (s1.1 + (1 : Int))), s1.2.1, ())))
 (K true))
 ((0 : Int), false, ()))
set_option maxRecDepth 100000 in
theorem E_slices_Equal_bool_bool (a0 : Sl) (a1 : Sl) (K : Bool → HP) (h : Heap) : fnVC Try.prog [(1000000, .nil)] 26 Try.f21 [(.slice a0.a a0.len a0.cap), (.slice a1.a a1.len a1.cap)] .bool K h = F_slices_Equal_bool_bool a0 a1 K h := by kernel_rfl
set_option maxRecDepth 100000 in
theorem S_slices_Equal_bool_bool{h : Heap} {a0 : Sl} {a1 : Sl} (K : Bool → HP) (hF : F_slices_Equal_bool_bool a0 a1 K h) : CallsH Try.prog fn_slices_Equal_bool_bool #[(.slice a0.a a0.len a0.cap), (.slice a1.a a1.len a1.cap)] h fun v h' => ∃ x : Bool, v = Ty.enc .bool x ∧ K x h' :=
  callsH_of_fn (P := Try.prog) (fn := Try.f21) (τ := .bool) follows Try.func21 (by kernel_rfl) (by kernel_rfl) Try.call21 (Eq.mpr (E_slices_Equal_bool_bool a0 a1 K h) hF)

end Go.Proofs.S
