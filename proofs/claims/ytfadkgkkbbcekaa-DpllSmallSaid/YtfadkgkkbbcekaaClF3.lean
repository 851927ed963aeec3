/- The functions of the seat, each as a predicate over its values, printed by a program of ours, and that each is its text's. -/
import Derived.Test.YtfadkgkkbbcekaaSx10
import Derived.Test.YtfadkgkkbbcekaaSxDf
import Derived.KernelRfl
import Derived.Test.YtfadkgkkbbcekaaProg
import Derived.Test.YtfadkgkkbbcekaaClF0
set_option linter.unusedVariables false
namespace Go.Proofs.S
open Go Go.Sx Go.Proofs
def F_salvorlaw05_Of (a0 : Int) (a1 : Sl) (K : (Int × (Sl × Unit)) → HP) : HP :=
 nw #[(.int .i64 (0 : Int)), (.slice none 0 0)] ty_formula_Formula fun b0 =>
 nw #[(.int .i64 (0 : Int)), (.slice none 0 0)] ty_formula_Formula fun b1 =>
 st1 (⟨b1, 0, none⟩ : Addr) (.int .i64 a0) <|
 st1 ((⟨b1, 0, none⟩ : Addr).add 1) (.slice none 0 0) <|
 lfp (σ := (Int × Unit)) (fun X2 s3 => /-  -/
 brB (decide (s3.1 < (a1.len : Int)))
 (sx a1.a a1.len s3.1 1 fun p4 =>
 ldT .sl p4 fun x5 =>
 ldT .sl ((⟨b1, 0, none⟩ : Addr).add 1) fun x6 =>
 callT Try.prog fn_salvorlaw02_Clause #[(.slice x5.a x5.len x5.cap)] .sl fun r7 =>
 ck ((⟨b1, 0, none⟩ : Addr).add 1) (.slice x6.a x6.len x6.cap) <|
 nw #[(.slice r7.a r7.len r7.cap)] ty_clauses_Clause fun b8 =>
 apd ty_clauses_Clause 1 24 #[(.slice none 0 0)] ⟨x6.a, x6.len, x6.cap⟩ ⟨(some (⟨b8, 0, none⟩ : Addr)), 1, 1⟩ fun s9 =>
 st1 ((⟨b1, 0, none⟩ : Addr).add 1) (.slice s9.a s9.len s9.cap) <|
 X2 ((IntKind.wrap .i64 (s3.1 + (1 : Int))), ()))
 (ldA (.cons (.int .i64) (.cons .sl .nil)) (⟨b1, 0, none⟩ : Addr) fun x10 =>
 st1 (⟨b0, 0, none⟩ : Addr) (.int .i64 x10.1) <|
 st1 ((⟨b0, 0, none⟩ : Addr).add 1) (.slice x10.2.1.a x10.2.1.len x10.2.1.cap) <|
 ldA (.cons (.int .i64) (.cons .sl .nil)) (⟨b0, 0, none⟩ : Addr) fun x11 =>
 K (x11.1, ⟨x11.2.1.a, x11.2.1.len, x11.2.1.cap⟩, ())))
 ((0 : Int), ())
set_option maxRecDepth 100000 in
theorem E_salvorlaw05_Of (a0 : Int) (a1 : Sl) (K : (Int × (Sl × Unit)) → HP) (h : Heap) : fnVC Try.prog [(1000000, .nil)] 25 Try.f23 [(.int .i64 a0), (.slice a1.a a1.len a1.cap)] (.agg (.cons (.int .i64) (.cons .sl .nil))) K h = F_salvorlaw05_Of a0 a1 K h := by kernel_rfl
set_option maxRecDepth 100000 in
theorem S_salvorlaw05_Of{h : Heap} {a0 : Int} {a1 : Sl} (K : (Int × (Sl × Unit)) → HP) (hF : F_salvorlaw05_Of a0 a1 K h) : CallsH Try.prog fn_salvorlaw05_Of #[(.int .i64 a0), (.slice a1.a a1.len a1.cap)] h fun v h' => ∃ x : (Int × (Sl × Unit)), v = Ty.enc (.agg (.cons (.int .i64) (.cons .sl .nil))) x ∧ K x h' :=
  callsH_of_fn (P := Try.prog) (fn := Try.f23) (τ := (.agg (.cons (.int .i64) (.cons .sl .nil)))) follows Try.func23 (by kernel_rfl) (by kernel_rfl) Try.call23 (Eq.mpr (E_salvorlaw05_Of a0 a1 K h) hF)

def F_dpll_All (a0 : (Int × (Sl × Unit))) (K : (Value × (Int × Unit)) → HP) : HP :=
 nw #[(.int .i64 a0.1), (.slice a0.2.1.a a0.2.1.len a0.2.1.cap)] ty_formula_Formula fun b0 =>
 ldA (.cons (.int .i64) (.cons .sl .nil)) (⟨b0, 0, none⟩ : Addr) fun x1 =>
 callT Try.prog fn_formula_Check #[(.agg #[(.int .i64 x1.1), (.slice x1.2.1.a x1.2.1.len x1.2.1.cap)])] (.tup (.cons (.int .i64) (.cons (.int .i64) .nil))) fun r2 =>
 brB (r2.2.1 != (0 : Int))
 (K (Value.nilFunc, r2.2.1, ()))
 (ldA (.cons (.int .i64) (.cons .sl .nil)) (⟨b0, 0, none⟩ : Addr) fun x3 =>
 callT Try.prog fn_formula_Copy #[(.agg #[(.int .i64 x3.1), (.slice x3.2.1.a x3.2.1.len x3.2.1.cap)])] (.agg (.cons (.int .i64) (.cons .sl .nil))) fun r4 =>
 nw #[(.int .i64 (0 : Int)), (.slice none 0 0)] ty_formula_Formula fun b5 =>
 st1 (⟨b5, 0, none⟩ : Addr) (.int .i64 r4.1) <|
 st1 ((⟨b5, 0, none⟩ : Addr).add 1) (.slice r4.2.1.a r4.2.1.len r4.2.1.cap) <|
 K ((.func (.func fn_dpll_All_1) #[] #[(.pointer (some (⟨b5, 0, none⟩ : Addr)))]), (0 : Int), ()))
set_option maxRecDepth 100000 in
theorem E_dpll_All (a0 : (Int × (Sl × Unit))) (K : (Value × (Int × Unit)) → HP) (h : Heap) : fnVC Try.prog [(1000000, .bool)] 18 Try.f24 [(.agg #[(.int .i64 a0.1), (.slice a0.2.1.a a0.2.1.len a0.2.1.cap)])] (.tup (.cons .val (.cons (.int .i64) .nil))) K h = F_dpll_All a0 K h := by kernel_rfl
set_option maxRecDepth 100000 in
theorem S_dpll_All{h : Heap} {a0 : (Int × (Sl × Unit))} (K : (Value × (Int × Unit)) → HP) (hF : F_dpll_All a0 K h) : CallsH Try.prog fn_dpll_All #[(.agg #[(.int .i64 a0.1), (.slice a0.2.1.a a0.2.1.len a0.2.1.cap)])] h fun v h' => ∃ x : (Value × (Int × Unit)), v = Ty.enc (.tup (.cons .val (.cons (.int .i64) .nil))) x ∧ K x h' :=
  callsH_of_fn (P := Try.prog) (fn := Try.f24) (τ := (.tup (.cons .val (.cons (.int .i64) .nil)))) follows Try.func24 (by kernel_rfl) (by kernel_rfl) Try.call24 (Eq.mpr (E_dpll_All a0 K h) hF)

def F_slices_Contains_bool_bool (a0 : Sl) (a1 : Bool) (K : Bool → HP) : HP :=
 callT Try.prog fn_slices_Index_bool_bool #[(.slice a0.a a0.len a0.cap), (.bool a1)] (.int .i64) fun r0 =>
 K (decide (r0 ≥ (0 : Int)))
set_option maxRecDepth 100000 in
theorem E_slices_Contains_bool_bool (a0 : Sl) (a1 : Bool) (K : Bool → HP) (h : Heap) : fnVC Try.prog [(1000000, .nil)] 9 Try.f25 [(.slice a0.a a0.len a0.cap), (.bool a1)] .bool K h = F_slices_Contains_bool_bool a0 a1 K h := by kernel_rfl
set_option maxRecDepth 100000 in
theorem S_slices_Contains_bool_bool{h : Heap} {a0 : Sl} {a1 : Bool} (K : Bool → HP) (hF : F_slices_Contains_bool_bool a0 a1 K h) : CallsH Try.prog fn_slices_Contains_bool_bool #[(.slice a0.a a0.len a0.cap), (.bool a1)] h fun v h' => ∃ x : Bool, v = Ty.enc .bool x ∧ K x h' :=
  callsH_of_fn (P := Try.prog) (fn := Try.f25) (τ := .bool) follows Try.func25 (by kernel_rfl) (by kernel_rfl) Try.call25 (Eq.mpr (E_slices_Contains_bool_bool a0 a1 K h) hF)

def F_dpll_Implied (a0 : (Int × (Sl × Unit))) (a1 : Sl) (a2 : Int) (K : (Bool × (Int × Unit)) → HP) : HP :=
 nw #[(.int .i64 a0.1), (.slice a0.2.1.a a0.2.1.len a0.2.1.cap)] ty_formula_Formula fun b0 =>
 ldA (.cons (.int .i64) (.cons .sl .nil)) (⟨b0, 0, none⟩ : Addr) fun x1 =>
 callT Try.prog fn_dpll_wrong #[(.agg #[(.int .i64 x1.1), (.slice x1.2.1.a x1.2.1.len x1.2.1.cap)]), (.int .i64 a2)] (.int .i64) fun r2 =>
 brB (r2 != (0 : Int))
 (K (false, r2, ()))
 (callT Try.prog fn_clauses_Right #[(.slice a1.a a1.len a1.cap)] .bool fun r3 =>
 brB (!r3)
 (K (false, (20 : Int), ()))
 (ldT (.int .i64) (⟨b0, 0, none⟩ : Addr) fun x4 =>
 callT Try.prog fn_lits_Greatest #[(.slice a1.a a1.len a1.cap)] (.int .i64) fun r5 =>
 ck (⟨b0, 0, none⟩ : Addr) (.int .i64 x4) <|
 brB (decide (r5 > x4))
 (K (false, (51 : Int), ()))
 (callT Try.prog fn_clauses_Always #[(.slice a1.a a1.len a1.cap)] .bool fun r6 =>
 brB r6
 (K (true, (0 : Int), ()))
 (lfp (σ := (Int × (Sl × Unit))) (fun X7 s8 => /-  not -/
 brB (decide (s8.1 < (a1.len : Int)))
 (sx a1.a a1.len s8.1 1 fun p9 =>
 ldT (.int .i64) p9 fun x10 =>
 callT Try.prog fn_lits_Neg #[(.int .i64 x10)] (.int .i64) fun r11 =>
 nw #[(.int .i64 r11)] ty_lits_Lit fun b12 =>
 apd ty_lits_Lit 1 8 #[(.int .i64 (0 : Int))] ⟨s8.2.1.a, s8.2.1.len, s8.2.1.cap⟩ ⟨(some (⟨b12, 0, none⟩ : Addr)), 1, 1⟩ fun s13 =>
 X7 ((IntKind.wrap .i64 (s8.1 + (1 : Int))), ⟨s13.a, s13.len, s13.cap⟩, ()))
 (ldA (.cons (.int .i64) (.cons .sl .nil)) (⟨b0, 0, none⟩ : Addr) fun x14 =>
 callT Try.prog fn_dpll_Under #[(.agg #[(.int .i64 x14.1), (.slice x14.2.1.a x14.2.1.len x14.2.1.cap)]), (.slice s8.2.1.a s8.2.1.len s8.2.1.cap), (.int .i64 a2)] (.tup (.cons (.agg (.cons .bool (.cons .sl (.cons (.int .i64) .nil)))) (.cons (.int .i64) .nil))) fun r15 =>
 nw #[(.bool false), (.slice none 0 0), (.int .i64 (0 : Int))] ty_dpll_Answer fun b16 =>
 st1 (⟨b16, 0, none⟩ : Addr) (.bool r15.1.1) <|
 st1 ((⟨b16, 0, none⟩ : Addr).add 1) (.slice r15.1.2.1.a r15.1.2.1.len r15.1.2.1.cap) <|
 st1 ((⟨b16, 0, none⟩ : Addr).add 2) (.int .i64 r15.1.2.2.1) <|
 jn (σ := Bool) (fun t18 =>
 K (t18, r15.2.1, ()))
 (fun J17 =>
 brB (r15.2.1 == (0 : Int))
 (ldT .bool (⟨b16, 0, none⟩ : Addr) fun x19 =>
 J17 ((!x19)))
 (J17 false))))
 ((0 : Int), ⟨none, 0, 0⟩, ())))))
set_option maxRecDepth 100000 in
theorem E_dpll_Implied (a0 : (Int × (Sl × Unit))) (a1 : Sl) (a2 : Int) (K : (Bool × (Int × Unit)) → HP) (h : Heap) : fnVC Try.prog [(1000000, .bool)] 57 Try.f26 [(.agg #[(.int .i64 a0.1), (.slice a0.2.1.a a0.2.1.len a0.2.1.cap)]), (.slice a1.a a1.len a1.cap), (.int .i64 a2)] (.tup (.cons .bool (.cons (.int .i64) .nil))) K h = F_dpll_Implied a0 a1 a2 K h := by kernel_rfl
set_option maxRecDepth 100000 in
theorem S_dpll_Implied{h : Heap} {a0 : (Int × (Sl × Unit))} {a1 : Sl} {a2 : Int} (K : (Bool × (Int × Unit)) → HP) (hF : F_dpll_Implied a0 a1 a2 K h) : CallsH Try.prog fn_dpll_Implied #[(.agg #[(.int .i64 a0.1), (.slice a0.2.1.a a0.2.1.len a0.2.1.cap)]), (.slice a1.a a1.len a1.cap), (.int .i64 a2)] h fun v h' => ∃ x : (Bool × (Int × Unit)), v = Ty.enc (.tup (.cons .bool (.cons (.int .i64) .nil))) x ∧ K x h' :=
  callsH_of_fn (P := Try.prog) (fn := Try.f26) (τ := (.tup (.cons .bool (.cons (.int .i64) .nil)))) follows Try.func26 (by kernel_rfl) (by kernel_rfl) Try.call26 (Eq.mpr (E_dpll_Implied a0 a1 a2 K h) hF)

def F_dpll_Follows (a0 : (Int × (Sl × Unit))) (a1 : Sl) (K : (Sl × (Int × (Int × Unit))) → HP) : HP :=
 nw #[(.int .i64 a0.1), (.slice a0.2.1.a a0.2.1.len a0.2.1.cap)] ty_formula_Formula fun b0 =>
 ldA (.cons (.int .i64) (.cons .sl .nil)) (⟨b0, 0, none⟩ : Addr) fun x1 =>
 callT Try.prog fn_formula_Check #[(.agg #[(.int .i64 x1.1), (.slice x1.2.1.a x1.2.1.len x1.2.1.cap)])] (.tup (.cons (.int .i64) (.cons (.int .i64) .nil))) fun r2 =>
 brB (r2.2.1 != (0 : Int))
 (K (⟨none, 0, 0⟩, (-1 : Int), r2.2.1, ()))
 (ldA (.cons (.int .i64) (.cons .sl .nil)) (⟨b0, 0, none⟩ : Addr) fun x3 =>
 callT Try.prog fn_dpll_begin #[(.agg #[(.int .i64 x3.1), (.slice x3.2.1.a x3.2.1.len x3.2.1.cap)]), (.slice a1.a a1.len a1.cap), (.int .i64 (0 : Int))] (.tup (.cons .ptr (.cons (.int .i64) .nil))) fun r4 =>
 brB (r4.2.1 != (0 : Int))
 (K (⟨none, 0, 0⟩, (-1 : Int), r4.2.1, ()))
 (callT Try.prog fn_dpll_search_follow #[(.pointer r4.1)] (.tup (.cons .sl (.cons (.int .i64) .nil))) fun r5 =>
 K (⟨r5.1.a, r5.1.len, r5.1.cap⟩, r5.2.1, (0 : Int), ())))
set_option maxRecDepth 100000 in
theorem E_dpll_Follows (a0 : (Int × (Sl × Unit))) (a1 : Sl) (K : (Sl × (Int × (Int × Unit))) → HP) (h : Heap) : fnVC Try.prog [(1000000, .bool)] 37 Try.f31 [(.agg #[(.int .i64 a0.1), (.slice a0.2.1.a a0.2.1.len a0.2.1.cap)]), (.slice a1.a a1.len a1.cap)] (.tup (.cons .sl (.cons (.int .i64) (.cons (.int .i64) .nil)))) K h = F_dpll_Follows a0 a1 K h := by kernel_rfl
set_option maxRecDepth 100000 in
theorem S_dpll_Follows{h : Heap} {a0 : (Int × (Sl × Unit))} {a1 : Sl} (K : (Sl × (Int × (Int × Unit))) → HP) (hF : F_dpll_Follows a0 a1 K h) : CallsH Try.prog fn_dpll_Follows #[(.agg #[(.int .i64 a0.1), (.slice a0.2.1.a a0.2.1.len a0.2.1.cap)]), (.slice a1.a a1.len a1.cap)] h fun v h' => ∃ x : (Sl × (Int × (Int × Unit))), v = Ty.enc (.tup (.cons .sl (.cons (.int .i64) (.cons (.int .i64) .nil)))) x ∧ K x h' :=
  callsH_of_fn (P := Try.prog) (fn := Try.f31) (τ := (.tup (.cons .sl (.cons (.int .i64) (.cons (.int .i64) .nil))))) follows Try.func31 (by kernel_rfl) (by kernel_rfl) Try.call31 (Eq.mpr (E_dpll_Follows a0 a1 K h) hF)

def F_salvorlaw02_Clause (a0 : Sl) (K : Sl → HP) : HP :=
 lfp (σ := (Int × (Sl × Unit))) (fun X0 s1 => /-  out -/
 brB (decide (s1.1 < (a0.len : Int)))
 (sx a0.a a0.len s1.1 1 fun p2 =>
 ldT (.int .i64) p2 fun x3 =>
 nw #[(.int .i64 x3)] ty_lits_Lit fun b4 =>
 apd ty_lits_Lit 1 8 #[(.int .i64 (0 : Int))] ⟨s1.2.1.a, s1.2.1.len, s1.2.1.cap⟩ ⟨(some (⟨b4, 0, none⟩ : Addr)), 1, 1⟩ fun s5 =>
 X0 ((IntKind.wrap .i64 (s1.1 + (1 : Int))), ⟨s5.a, s5.len, s5.cap⟩, ()))
 (K ⟨s1.2.1.a, s1.2.1.len, s1.2.1.cap⟩))
 ((0 : Int), ⟨none, 0, 0⟩, ())
set_option maxRecDepth 100000 in
theorem E_salvorlaw02_Clause (a0 : Sl) (K : Sl → HP) (h : Heap) : fnVC Try.prog [(1000000, .nil)] 18 Try.f39 [(.slice a0.a a0.len a0.cap)] .sl K h = F_salvorlaw02_Clause a0 K h := by kernel_rfl
set_option maxRecDepth 100000 in
theorem S_salvorlaw02_Clause{h : Heap} {a0 : Sl} (K : Sl → HP) (hF : F_salvorlaw02_Clause a0 K h) : CallsH Try.prog fn_salvorlaw02_Clause #[(.slice a0.a a0.len a0.cap)] h fun v h' => ∃ x : Sl, v = Ty.enc .sl x ∧ K x h' :=
  callsH_of_fn (P := Try.prog) (fn := Try.f39) (τ := .sl) follows Try.func39 (by kernel_rfl) (by kernel_rfl) Try.call39 (Eq.mpr (E_salvorlaw02_Clause a0 K h) hF)

def F_salvorlaw05_Theirs (a0 : (Int × (Sl × Unit))) (K : (Int × (Sl × Unit)) → HP) : HP :=
 nw #[(.int .i64 a0.1), (.slice a0.2.1.a a0.2.1.len a0.2.1.cap)] ty_formula_Formula fun b0 =>
 nw #[(.int .i64 (0 : Int)), (.slice none 0 0)] ty_salvorref05_Formula fun b1 =>
 ldT (.int .i64) (⟨b0, 0, none⟩ : Addr) fun x2 =>
 nw #[(.int .i64 (0 : Int)), (.slice none 0 0)] ty_salvorref05_Formula fun b3 =>
 st1 (⟨b3, 0, none⟩ : Addr) (.int .i64 x2) <|
 st1 ((⟨b3, 0, none⟩ : Addr).add 1) (.slice none 0 0) <|
 ldT .sl ((⟨b0, 0, none⟩ : Addr).add 1) fun x4 =>
 lfp (σ := (Int × Unit)) (fun X5 s6 => /-  -/
 brB (decide (s6.1 < (x4.len : Int)))
 (sx x4.a x4.len s6.1 1 fun p7 =>
 ldT .sl p7 fun x8 =>
 ldT .sl ((⟨b3, 0, none⟩ : Addr).add 1) fun x9 =>
 callT Try.prog fn_salvorlaw02_Ints #[(.slice x8.a x8.len x8.cap)] .sl fun r10 =>
 ck ((⟨b3, 0, none⟩ : Addr).add 1) (.slice x9.a x9.len x9.cap) <|
 nw #[(.slice r10.a r10.len r10.cap)] ty_sl_int fun b11 =>
 apd ty_sl_int 1 24 #[(.slice none 0 0)] ⟨x9.a, x9.len, x9.cap⟩ ⟨(some (⟨b11, 0, none⟩ : Addr)), 1, 1⟩ fun s12 =>
 st1 ((⟨b3, 0, none⟩ : Addr).add 1) (.slice s12.a s12.len s12.cap) <|
 X5 ((IntKind.wrap .i64 (s6.1 + (1 : Int))), ()))
 (ldA (.cons (.int .i64) (.cons .sl .nil)) (⟨b3, 0, none⟩ : Addr) fun x13 =>
 st1 (⟨b1, 0, none⟩ : Addr) (.int .i64 x13.1) <|
 st1 ((⟨b1, 0, none⟩ : Addr).add 1) (.slice x13.2.1.a x13.2.1.len x13.2.1.cap) <|
 ldA (.cons (.int .i64) (.cons .sl .nil)) (⟨b1, 0, none⟩ : Addr) fun x14 =>
 K (x14.1, ⟨x14.2.1.a, x14.2.1.len, x14.2.1.cap⟩, ())))
 ((0 : Int), ())
set_option maxRecDepth 100000 in
theorem E_salvorlaw05_Theirs (a0 : (Int × (Sl × Unit))) (K : (Int × (Sl × Unit)) → HP) (h : Heap) : fnVC Try.prog [(1000000, .nil)] 25 Try.f40 [(.agg #[(.int .i64 a0.1), (.slice a0.2.1.a a0.2.1.len a0.2.1.cap)])] (.agg (.cons (.int .i64) (.cons .sl .nil))) K h = F_salvorlaw05_Theirs a0 K h := by kernel_rfl
set_option maxRecDepth 100000 in
theorem S_salvorlaw05_Theirs{h : Heap} {a0 : (Int × (Sl × Unit))} (K : (Int × (Sl × Unit)) → HP) (hF : F_salvorlaw05_Theirs a0 K h) : CallsH Try.prog fn_salvorlaw05_Theirs #[(.agg #[(.int .i64 a0.1), (.slice a0.2.1.a a0.2.1.len a0.2.1.cap)])] h fun v h' => ∃ x : (Int × (Sl × Unit)), v = Ty.enc (.agg (.cons (.int .i64) (.cons .sl .nil))) x ∧ K x h' :=
  callsH_of_fn (P := Try.prog) (fn := Try.f40) (τ := (.agg (.cons (.int .i64) (.cons .sl .nil)))) follows Try.func40 (by kernel_rfl) (by kernel_rfl) Try.call40 (Eq.mpr (E_salvorlaw05_Theirs a0 K h) hF)

def F_salvorref05_Check (a0 : (Int × (Sl × Unit))) (K : (Int × (Int × Unit)) → HP) : HP :=
 nw #[(.int .i64 a0.1), (.slice a0.2.1.a a0.2.1.len a0.2.1.cap)] ty_salvorref05_Formula fun b0 =>
 ldT (.int .i64) (⟨b0, 0, none⟩ : Addr) fun x1 =>
 jn (σ := Bool) (fun t3 =>
 brB t3
 (K ((-1 : Int), (50 : Int), ()))
 (ldT .sl ((⟨b0, 0, none⟩ : Addr).add 1) fun x4 =>
 brB (decide ((x4.len : Int) > (262144 : Int)))
 (K ((-1 : Int), (5 : Int), ()))
 (lfp (σ := (Int × (Int × (Int × Unit)))) (fun X5 s6 => /- i   -/
 ldT .sl ((⟨b0, 0, none⟩ : Addr).add 1) fun x7 =>
 brB (decide (s6.1 < (x7.len : Int)))
 (ldT .sl ((⟨b0, 0, none⟩ : Addr).add 1) fun x8 =>
 sx x8.a x8.len s6.1 1 fun p9 =>
 ldT .sl p9 fun x10 =>
 callT Try.prog fn_salvorref02_Right #[(.slice x10.a x10.len x10.cap)] .bool fun r11 =>
 brB (!r11)
 (K (s6.1, (20 : Int), ()))
 (lfp (σ := (Int × (Int × (Int × Unit)))) (fun X12 s13 => /- k   -/
 brB (decide (s13.1 < (x10.len : Int)))
 (sx x10.a x10.len s13.1 1 fun p14 =>
 ldT (.int .i64) p14 fun x15 =>
 ldT (.int .i64) (⟨b0, 0, none⟩ : Addr) fun x16 =>
 callT Try.prog fn_salvorref01_Var #[(.int .i64 x15)] (.int .i64) fun r17 =>
 ck (⟨b0, 0, none⟩ : Addr) (.int .i64 x16) <|
 brB (decide (r17 > x16))
 (K (s6.1, (51 : Int), ()))
 (X12 ((IntKind.wrap .i64 (s13.1 + (1 : Int))), s13.2.1, s13.2.2.1, ())))
 (X5 ((IntKind.wrap .i64 (s6.1 + (1 : Int))), s13.2.1, s13.2.2.1, ())))
 ((0 : Int), s6.2.1, s6.2.2.1, ())))
 (K ((-1 : Int), (0 : Int), ())))
 ((0 : Int), (0 : Int), (0 : Int), ()))))
 (fun J2 =>
 brB (decide (x1 < (0 : Int)))
 (J2 true)
 (ldT (.int .i64) (⟨b0, 0, none⟩ : Addr) fun x18 =>
 J2 ((decide (x18 > (1048576 : Int))))))
set_option maxRecDepth 100000 in
theorem E_salvorref05_Check (a0 : (Int × (Sl × Unit))) (K : (Int × (Int × Unit)) → HP) (h : Heap) : fnVC Try.prog [(1000000, .bool)] 50 Try.f41 [(.agg #[(.int .i64 a0.1), (.slice a0.2.1.a a0.2.1.len a0.2.1.cap)])] (.tup (.cons (.int .i64) (.cons (.int .i64) .nil))) K h = F_salvorref05_Check a0 K h := by kernel_rfl
set_option maxRecDepth 100000 in
theorem S_salvorref05_Check{h : Heap} {a0 : (Int × (Sl × Unit))} (K : (Int × (Int × Unit)) → HP) (hF : F_salvorref05_Check a0 K h) : CallsH Try.prog fn_salvorref05_Check #[(.agg #[(.int .i64 a0.1), (.slice a0.2.1.a a0.2.1.len a0.2.1.cap)])] h fun v h' => ∃ x : (Int × (Int × Unit)), v = Ty.enc (.tup (.cons (.int .i64) (.cons (.int .i64) .nil))) x ∧ K x h' :=
  callsH_of_fn (P := Try.prog) (fn := Try.f41) (τ := (.tup (.cons (.int .i64) (.cons (.int .i64) .nil)))) follows Try.func41 (by kernel_rfl) (by kernel_rfl) Try.call41 (Eq.mpr (E_salvorref05_Check a0 K h) hF)

def F_salvorref19_Implied (a0 : (Int × (Sl × Unit))) (a1 : Sl) (a2 : Int) (K : (Bool × (Int × Unit)) → HP) : HP :=
 nw #[(.int .i64 a0.1), (.slice a0.2.1.a a0.2.1.len a0.2.1.cap)] ty_salvorref05_Formula fun b0 =>
 callT Try.prog fn_salvorref02_Right #[(.slice a1.a a1.len a1.cap)] .bool fun r1 =>
 brB (!r1)
 (K (false, (20 : Int), ()))
 (ldT (.int .i64) (⟨b0, 0, none⟩ : Addr) fun x2 =>
 callT Try.prog fn_salvorref01_Greatest #[(.slice a1.a a1.len a1.cap)] (.int .i64) fun r3 =>
 ck (⟨b0, 0, none⟩ : Addr) (.int .i64 x2) <|
 brB (decide (r3 > x2))
 (K (false, (51 : Int), ()))
 (callT Try.prog fn_salvorref02_Always #[(.slice a1.a a1.len a1.cap)] .bool fun r4 =>
 brB r4
 (K (true, (0 : Int), ()))
 (lfp (σ := (Int × (Sl × Unit))) (fun X5 s6 => /- i not -/
 brB (decide (s6.1 < (a1.len : Int)))
 (sx a1.a a1.len s6.1 1 fun p7 =>
 ldT (.int .i64) p7 fun x8 =>
 nw #[(.int .i64 (IntKind.wrap .i64 (0 - x8)))] ty_int fun b9 =>
 apd ty_int 1 8 #[(.int .i64 (0 : Int))] ⟨s6.2.1.a, s6.2.1.len, s6.2.1.cap⟩ ⟨(some (⟨b9, 0, none⟩ : Addr)), 1, 1⟩ fun s10 =>
 X5 ((IntKind.wrap .i64 (s6.1 + (1 : Int))), ⟨s10.a, s10.len, s10.cap⟩, ()))
 (ldA (.cons (.int .i64) (.cons .sl .nil)) (⟨b0, 0, none⟩ : Addr) fun x11 =>
 callT Try.prog fn_salvorref19_Search #[(.agg #[(.int .i64 x11.1), (.slice x11.2.1.a x11.2.1.len x11.2.1.cap)]), (.slice s6.2.1.a s6.2.1.len s6.2.1.cap), (.int .i64 a2)] (.tup (.cons .sl (.cons .bool (.cons (.int .i64) .nil)))) fun r12 =>
 brB (decide (r12.2.2.1 > a2))
 (K (false, (190 : Int), ()))
 (K ((!r12.2.1), (0 : Int), ()))))
 ((0 : Int), ⟨none, 0, 0⟩, ()))))
set_option maxRecDepth 100000 in
theorem E_salvorref19_Implied (a0 : (Int × (Sl × Unit))) (a1 : Sl) (a2 : Int) (K : (Bool × (Int × Unit)) → HP) (h : Heap) : fnVC Try.prog [(1000000, .bool)] 50 Try.f42 [(.agg #[(.int .i64 a0.1), (.slice a0.2.1.a a0.2.1.len a0.2.1.cap)]), (.slice a1.a a1.len a1.cap), (.int .i64 a2)] (.tup (.cons .bool (.cons (.int .i64) .nil))) K h = F_salvorref19_Implied a0 a1 a2 K h := by kernel_rfl
set_option maxRecDepth 100000 in
theorem S_salvorref19_Implied{h : Heap} {a0 : (Int × (Sl × Unit))} {a1 : Sl} {a2 : Int} (K : (Bool × (Int × Unit)) → HP) (hF : F_salvorref19_Implied a0 a1 a2 K h) : CallsH Try.prog fn_salvorref19_Implied #[(.agg #[(.int .i64 a0.1), (.slice a0.2.1.a a0.2.1.len a0.2.1.cap)]), (.slice a1.a a1.len a1.cap), (.int .i64 a2)] h fun v h' => ∃ x : (Bool × (Int × Unit)), v = Ty.enc (.tup (.cons .bool (.cons (.int .i64) .nil))) x ∧ K x h' :=
  callsH_of_fn (P := Try.prog) (fn := Try.f42) (τ := (.tup (.cons .bool (.cons (.int .i64) .nil)))) follows Try.func42 (by kernel_rfl) (by kernel_rfl) Try.call42 (Eq.mpr (E_salvorref19_Implied a0 a1 a2 K h) hF)

def F_slices_Equal_lits_Lit_lits_Lit (a0 : Sl) (a1 : Sl) (K : Bool → HP) : HP :=
 brB ((a0.len : Int) != (a1.len : Int))
 (K false)
 (lfp (σ := (Int × (Bool × Unit))) (fun X0 s1 => /-   -/
 brB (decide (s1.1 < (a0.len : Int)))
 (sx a0.a a0.len s1.1 1 fun p2 =>
 ldT (.int .i64) p2 fun x3 =>
 sx a1.a a1.len s1.1 1 fun p4 =>
 ldT (.int .i64) p4 fun x5 =>
 brB (x3 != x5)
 (K false)
 (X0 ((IntKind.wrap .i64 (s1.1 + (1 : Int))), s1.2.1, ())))
 (K true))
 ((0 : Int), false, ()))
set_option maxRecDepth 100000 in
theorem E_slices_Equal_lits_Lit_lits_Lit (a0 : Sl) (a1 : Sl) (K : Bool → HP) (h : Heap) : fnVC Try.prog [(1000000, .nil)] 26 Try.f43 [(.slice a0.a a0.len a0.cap), (.slice a1.a a1.len a1.cap)] .bool K h = F_slices_Equal_lits_Lit_lits_Lit a0 a1 K h := by kernel_rfl
set_option maxRecDepth 100000 in
theorem S_slices_Equal_lits_Lit_lits_Lit{h : Heap} {a0 : Sl} {a1 : Sl} (K : Bool → HP) (hF : F_slices_Equal_lits_Lit_lits_Lit a0 a1 K h) : CallsH Try.prog fn_slices_Equal_lits_Lit_lits_Lit #[(.slice a0.a a0.len a0.cap), (.slice a1.a a1.len a1.cap)] h fun v h' => ∃ x : Bool, v = Ty.enc .bool x ∧ K x h' :=
  callsH_of_fn (P := Try.prog) (fn := Try.f43) (τ := .bool) follows Try.func43 (by kernel_rfl) (by kernel_rfl) Try.call43 (Eq.mpr (E_slices_Equal_lits_Lit_lits_Lit a0 a1 K h) hF)

def F_slices_Clone_clauses_Clause_lits_Lit (a0 : Sl) (K : Sl → HP) : HP :=
 brB (Option.isNone a0.a)
 (K ⟨none, 0, 0⟩)
 (nw #[] ty_lits_Lit fun b0 =>
 apd ty_lits_Lit 1 8 #[(.int .i64 (0 : Int))] ⟨(some (⟨b0, 0, none⟩ : Addr)), 0, 0⟩ ⟨a0.a, a0.len, a0.cap⟩ fun s1 =>
 K ⟨s1.a, s1.len, s1.cap⟩)
set_option maxRecDepth 100000 in
theorem E_slices_Clone_clauses_Clause_lits_Lit (a0 : Sl) (K : Sl → HP) (h : Heap) : fnVC Try.prog [(1000000, .nil)] 8 Try.f44 [(.slice a0.a a0.len a0.cap)] .sl K h = F_slices_Clone_clauses_Clause_lits_Lit a0 K h := by kernel_rfl
set_option maxRecDepth 100000 in
theorem S_slices_Clone_clauses_Clause_lits_Lit{h : Heap} {a0 : Sl} (K : Sl → HP) (hF : F_slices_Clone_clauses_Clause_lits_Lit a0 K h) : CallsH Try.prog fn_slices_Clone_clauses_Clause_lits_Lit #[(.slice a0.a a0.len a0.cap)] h fun v h' => ∃ x : Sl, v = Ty.enc .sl x ∧ K x h' :=
  callsH_of_fn (P := Try.prog) (fn := Try.f44) (τ := .sl) follows Try.func44 (by kernel_rfl) (by kernel_rfl) Try.call44 (Eq.mpr (E_slices_Clone_clauses_Clause_lits_Lit a0 K h) hF)

def F_dpll_wrong (a0 : (Int × (Sl × Unit))) (a1 : Int) (K : Int → HP) : HP :=
 nw #[(.int .i64 a0.1), (.slice a0.2.1.a a0.2.1.len a0.2.1.cap)] ty_formula_Formula fun b0 =>
 ldA (.cons (.int .i64) (.cons .sl .nil)) (⟨b0, 0, none⟩ : Addr) fun x1 =>
 callT Try.prog fn_formula_Check #[(.agg #[(.int .i64 x1.1), (.slice x1.2.1.a x1.2.1.len x1.2.1.cap)])] (.tup (.cons (.int .i64) (.cons (.int .i64) .nil))) fun r2 =>
 brB (r2.2.1 != (0 : Int))
 (K r2.2.1)
 (jn (σ := Bool) (fun t4 =>
 brB t4
 (K (2 : Int))
 (K (0 : Int)))
 (fun J3 =>
 brB (decide (a1 < (0 : Int)))
 (J3 true)
 (J3 ((decide (a1 > (16777216 : Int)))))))
set_option maxRecDepth 100000 in
theorem E_dpll_wrong (a0 : (Int × (Sl × Unit))) (a1 : Int) (K : Int → HP) (h : Heap) : fnVC Try.prog [(1000000, .bool)] 21 Try.f45 [(.agg #[(.int .i64 a0.1), (.slice a0.2.1.a a0.2.1.len a0.2.1.cap)]), (.int .i64 a1)] (.int .i64) K h = F_dpll_wrong a0 a1 K h := by kernel_rfl
set_option maxRecDepth 100000 in
theorem S_dpll_wrong{h : Heap} {a0 : (Int × (Sl × Unit))} {a1 : Int} (K : Int → HP) (hF : F_dpll_wrong a0 a1 K h) : CallsH Try.prog fn_dpll_wrong #[(.agg #[(.int .i64 a0.1), (.slice a0.2.1.a a0.2.1.len a0.2.1.cap)]), (.int .i64 a1)] h fun v h' => ∃ x : Int, v = Ty.enc (.int .i64) x ∧ K x h' :=
  callsH_of_fn (P := Try.prog) (fn := Try.f45) (τ := (.int .i64)) follows Try.func45 (by kernel_rfl) (by kernel_rfl) Try.call45 (Eq.mpr (E_dpll_wrong a0 a1 K h) hF)

def F_dpll_begin (a0 : (Int × (Sl × Unit))) (a1 : Sl) (a2 : Int) (K : (Option Addr × (Int × Unit)) → HP) : HP :=
 nw #[(.int .i64 a0.1), (.slice a0.2.1.a a0.2.1.len a0.2.1.cap)] ty_formula_Formula fun b0 =>
 ldT (.int .i64) (⟨b0, 0, none⟩ : Addr) fun x1 =>
 callT Try.prog fn_formula_Model #[(.int .i64 x1), (.slice a1.a a1.len a1.cap)] (.tup (.cons .sl (.cons (.int .i64) .nil))) fun r2 =>
 brB (r2.2.1 != (0 : Int))
 (K (none, r2.2.1, ()))
 (ldA (.cons (.int .i64) (.cons .sl .nil)) (⟨b0, 0, none⟩ : Addr) fun x3 =>
 ldT (.int .i64) (⟨b0, 0, none⟩ : Addr) fun x4 =>
 cj
 (callT Try.prog fn_formula_Copy #[(.agg #[(.int .i64 x3.1), (.slice x3.2.1.a x3.2.1.len x3.2.1.cap)])] (.agg (.cons (.int .i64) (.cons .sl .nil))) fun r5 =>
 ck (⟨b0, 0, none⟩ : Addr) (.int .i64 x4) <|
 mks ty_int 1 8 #[(.int .i64 (0 : Int))] (IntKind.wrap .i64 (x4 + (1 : Int))) (IntKind.wrap .i64 (x4 + (1 : Int))) fun s6 =>
 nw #[(.int .i64 r5.1), (.slice r5.2.1.a r5.2.1.len r5.2.1.cap), (.slice s6.a s6.len s6.cap), (.int .i64 (0 : Int)), (.int .i64 a2)] ty_dpll_search fun b7 =>
 lfp (σ := (Int × Unit)) (fun X8 s9 => /-  -/
 brB (decide (s9.1 < (a1.len : Int)))
 (sx a1.a a1.len s9.1 1 fun p10 =>
 ldT (.int .i64) p10 fun x11 =>
 callT Try.prog fn_dpll_search_set #[(.pointer (some (⟨b7, 0, none⟩ : Addr))), (.int .i64 x11)] (.tup .nil) fun r12 =>
 X8 ((IntKind.wrap .i64 (s9.1 + (1 : Int))), ()))
 (K ((some (⟨b7, 0, none⟩ : Addr)), (0 : Int), ())))
 ((0 : Int), ()))
 (mks ty_int 1 8 #[(.int .i64 (0 : Int))] (IntKind.wrap .i64 (x4 + (1 : Int))) (IntKind.wrap .i64 (x4 + (1 : Int))) fun s13 =>
 callT Try.prog fn_formula_Copy #[(.agg #[(.int .i64 x3.1), (.slice x3.2.1.a x3.2.1.len x3.2.1.cap)])] (.agg (.cons (.int .i64) (.cons .sl .nil))) fun r14 =>
 ck (⟨b0, 0, none⟩ : Addr) (.int .i64 x4) <|
 nw #[(.int .i64 r14.1), (.slice r14.2.1.a r14.2.1.len r14.2.1.cap), (.slice s13.a s13.len s13.cap), (.int .i64 (0 : Int)), (.int .i64 a2)] ty_dpll_search fun b15 =>
 lfp (σ := (Int × Unit)) (fun X16 s17 => /-  -/
 brB (decide (s17.1 < (a1.len : Int)))
 (sx a1.a a1.len s17.1 1 fun p18 =>
 ldT (.int .i64) p18 fun x19 =>
 callT Try.prog fn_dpll_search_set #[(.pointer (some (⟨b15, 0, none⟩ : Addr))), (.int .i64 x19)] (.tup .nil) fun r20 =>
 X16 ((IntKind.wrap .i64 (s17.1 + (1 : Int))), ()))
 (K ((some (⟨b15, 0, none⟩ : Addr)), (0 : Int), ())))
 ((0 : Int), ())))
set_option maxRecDepth 100000 in
theorem E_dpll_begin (a0 : (Int × (Sl × Unit))) (a1 : Sl) (a2 : Int) (K : (Option Addr × (Int × Unit)) → HP) (h : Heap) : fnVC Try.prog [(1000000, .bool)] 43 Try.f46 [(.agg #[(.int .i64 a0.1), (.slice a0.2.1.a a0.2.1.len a0.2.1.cap)]), (.slice a1.a a1.len a1.cap), (.int .i64 a2)] (.tup (.cons .ptr (.cons (.int .i64) .nil))) K h = F_dpll_begin a0 a1 a2 K h := by kernel_rfl
set_option maxRecDepth 100000 in
theorem S_dpll_begin{h : Heap} {a0 : (Int × (Sl × Unit))} {a1 : Sl} {a2 : Int} (K : (Option Addr × (Int × Unit)) → HP) (hF : F_dpll_begin a0 a1 a2 K h) : CallsH Try.prog fn_dpll_begin #[(.agg #[(.int .i64 a0.1), (.slice a0.2.1.a a0.2.1.len a0.2.1.cap)]), (.slice a1.a a1.len a1.cap), (.int .i64 a2)] h fun v h' => ∃ x : (Option Addr × (Int × Unit)), v = Ty.enc (.tup (.cons .ptr (.cons (.int .i64) .nil))) x ∧ K x h' :=
  callsH_of_fn (P := Try.prog) (fn := Try.f46) (τ := (.tup (.cons .ptr (.cons (.int .i64) .nil)))) follows Try.func46 (by kernel_rfl) (by kernel_rfl) Try.call46 (Eq.mpr (E_dpll_begin a0 a1 a2 K h) hF)

def F_dpll_search_models (a0 : Option Addr) (a1 : Value) (K : Bool → HP) : HP :=
 nw #[(.pointer a0)] ty_ptr_dpll_search fun b0 =>
 nw (Value.cells a1) ty_func_sl_bool_bool fun b1 =>
 ldT .ptr (⟨b0, 0, none⟩ : Addr) fun x2 =>
 callT Try.prog fn_dpll_search_follow #[(.pointer x2)] (.tup (.cons .sl (.cons (.int .i64) .nil))) fun r3 =>
 nw #[(.slice none 0 0)] ty_sl_lits_Lit fun b4 =>
 st1 (⟨b4, 0, none⟩ : Addr) (.slice r3.1.a r3.1.len r3.1.cap) <|
 brB (decide (r3.2.1 ≥ (0 : Int)))
 (dcl Try.prog fn_dpll_search_models_1 (#[] ++ #[] ++ #[(.pointer (some (⟨b4, 0, none⟩ : Addr))), (.pointer (some (⟨b0, 0, none⟩ : Addr)))]) (
 K true))
 (lfp (σ := (Int × Unit)) (fun X5 s6 => /- free -/
 ldT .ptr (⟨b0, 0, none⟩ : Addr) fun x7 =>
 nn x7 fun p8 =>
 ldT (.int .i64) p8 fun x9 =>
 jn (σ := Bool) (fun t11 =>
 brB t11
 (X5 ((IntKind.wrap .i64 (s6.1 + (1 : Int))), ()))
 (ldT .ptr (⟨b0, 0, none⟩ : Addr) fun x12 =>
 nn x12 fun p13 =>
 ldT (.int .i64) p13 fun x14 =>
 brB (decide (s6.1 > x14))
 (ldT .ptr (⟨b0, 0, none⟩ : Addr) fun x15 =>
 nn x15 fun p16 =>
 ldT (.int .i64) p16 fun x17 =>
 mks ty_bool 1 1 #[(.bool false)] x17 x17 fun s18 =>
 lfp (σ := (Int × Unit)) (fun X19 s20 => /-  -/
 brB (decide (s20.1 < (s18.len : Int)))
 (ldT .ptr (⟨b0, 0, none⟩ : Addr) fun x21 =>
 nn x21 fun p22 =>
 ldT .sl (p22.add 2) fun x23 =>
 sx x23.a x23.len (IntKind.wrap .i64 (s20.1 + (1 : Int))) 1 fun p24 =>
 ldT (.int .i64) p24 fun x25 =>
 sx s18.a s18.len s20.1 1 fun p26 =>
 st1 p26 (.bool (decide (x25 > (0 : Int)))) <|
 X19 ((IntKind.wrap .i64 (s20.1 + (1 : Int))), ()))
 (ldT .val (⟨b1, 0, none⟩ : Addr) fun x27 =>
 callF Try.prog x27 #[(.slice s18.a s18.len s18.cap)] .bool fun r28 =>
 dcl Try.prog fn_dpll_search_models_1 (#[] ++ #[] ++ #[(.pointer (some (⟨b4, 0, none⟩ : Addr))), (.pointer (some (⟨b0, 0, none⟩ : Addr)))]) (
 K r28)))
 ((0 : Int), ()))
 (callF Try.prog (.func (.func fn_dpll_search_models_2) #[] #[(.pointer (some (⟨b0, 0, none⟩ : Addr))), (.pointer (some (⟨b1, 0, none⟩ : Addr)))]) #[(.int .i64 (IntKind.wrap .i64 (0 - s6.1)))] .bool fun r29 =>
 jn (σ := Bool) (fun t31 =>
 dcl Try.prog fn_dpll_search_models_1 (#[] ++ #[] ++ #[(.pointer (some (⟨b4, 0, none⟩ : Addr))), (.pointer (some (⟨b0, 0, none⟩ : Addr)))]) (
 K t31))
 (fun J30 =>
 brB r29
 (callF Try.prog (.func (.func fn_dpll_search_models_2) #[] #[(.pointer (some (⟨b0, 0, none⟩ : Addr))), (.pointer (some (⟨b1, 0, none⟩ : Addr)))]) #[(.int .i64 s6.1)] .bool fun r32 =>
 J30 (r32))
 (J30 false)))))
 (fun J10 =>
 brB (decide (s6.1 ≤ x9))
 (ldT .ptr (⟨b0, 0, none⟩ : Addr) fun x33 =>
 nn x33 fun p34 =>
 ldT .sl (p34.add 2) fun x35 =>
 sx x35.a x35.len s6.1 1 fun p36 =>
 ldT (.int .i64) p36 fun x37 =>
 J10 ((x37 != (0 : Int))))
 (J10 false)))
 ((1 : Int), ()))
set_option maxRecDepth 100000 in
theorem E_dpll_search_models (a0 : Option Addr) (a1 : Value) (K : Bool → HP) (h : Heap) : fnDVC Try.prog [(1000000, .bool)] 82 Try.f47 [(.pointer a0), a1] .bool K h = F_dpll_search_models a0 a1 K h := by kernel_rfl
set_option maxRecDepth 100000 in
theorem S_dpll_search_models{h : Heap} {a0 : Option Addr} {a1 : Value} (K : Bool → HP) (hF : F_dpll_search_models a0 a1 K h) : CallsH Try.prog fn_dpll_search_models #[(.pointer a0), a1] h fun v h' => ∃ x : Bool, v = Ty.enc .bool x ∧ K x h' :=
  callsH_of_dfn (P := Try.prog) (fn := Try.f47) (τ := .bool) follows Try.func47 (by kernel_rfl) (by kernel_rfl) (by kernel_rfl) Try.call47 (Eq.mpr (E_dpll_search_models a0 a1 K h) hF)

def F_dpll_Under_1 (a0 : Sl) (c0 : Addr) (K : Bool → HP) : HP :=
 st1 c0 (.bool true) <|
 st1 (c0.add 1) (.slice a0.a a0.len a0.cap) <|
 K false
set_option maxRecDepth 100000 in
theorem E_dpll_Under_1 (a0 : Sl) (c0 : Addr) (K : Bool → HP) (h : Heap) : fnVC Try.prog [(1000000, .bool)] 7 Try.f48 [(.slice a0.a a0.len a0.cap), (.pointer (some c0))] .bool K h = F_dpll_Under_1 a0 c0 K h := by kernel_rfl
set_option maxRecDepth 100000 in
theorem S_dpll_Under_1{h : Heap} {a0 : Sl} {c0 : Addr} (K : Bool → HP) (hF : F_dpll_Under_1 a0 c0 K h) : CallsH Try.prog fn_dpll_Under_1 #[(.slice a0.a a0.len a0.cap), (.pointer (some c0))] h fun v h' => ∃ x : Bool, v = Ty.enc .bool x ∧ K x h' :=
  callsH_of_fn (P := Try.prog) (fn := Try.f48) (τ := .bool) follows Try.func48 (by kernel_rfl) (by kernel_rfl) Try.call48 (Eq.mpr (E_dpll_Under_1 a0 c0 K h) hF)

def F_clauses_Right (a0 : Sl) (K : Bool → HP) : HP :=
 brB (decide ((a0.len : Int) ≤ (4096 : Int)))
 (callT Try.prog fn_slices_ContainsFunc_clauses_Clause_lits_Lit #[(.slice a0.a a0.len a0.cap), (.func (.func fn_clauses_wrong) #[] #[])] .bool fun r0 =>
 K (!r0))
 (K false)
set_option maxRecDepth 100000 in
theorem E_clauses_Right (a0 : Sl) (K : Bool → HP) (h : Heap) : fnVC Try.prog [(1000000, .nil)] 11 Try.f49 [(.slice a0.a a0.len a0.cap)] .bool K h = F_clauses_Right a0 K h := by kernel_rfl
set_option maxRecDepth 100000 in
theorem S_clauses_Right{h : Heap} {a0 : Sl} (K : Bool → HP) (hF : F_clauses_Right a0 K h) : CallsH Try.prog fn_clauses_Right #[(.slice a0.a a0.len a0.cap)] h fun v h' => ∃ x : Bool, v = Ty.enc .bool x ∧ K x h' :=
  callsH_of_fn (P := Try.prog) (fn := Try.f49) (τ := .bool) follows Try.func49 (by kernel_rfl) (by kernel_rfl) Try.call49 (Eq.mpr (E_clauses_Right a0 K h) hF)

def F_clauses_sorted (a0 : Sl) (K : Value → HP) : HP :=
 nw #[(.slice a0.a a0.len a0.cap)] ty_clauses_Clause fun b0 =>
 K (.func (.func fn_clauses_sorted_1) #[] #[(.pointer (some (⟨b0, 0, none⟩ : Addr)))])
set_option maxRecDepth 100000 in
theorem E_clauses_sorted (a0 : Sl) (K : Value → HP) (h : Heap) : fnVC Try.prog [(1000000, .nil)] 4 Try.f50 [(.slice a0.a a0.len a0.cap)] .val K h = F_clauses_sorted a0 K h := by kernel_rfl
set_option maxRecDepth 100000 in
theorem S_clauses_sorted{h : Heap} {a0 : Sl} (K : Value → HP) (hF : F_clauses_sorted a0 K h) : CallsH Try.prog fn_clauses_sorted #[(.slice a0.a a0.len a0.cap)] h fun v h' => ∃ x : Value, v = Ty.enc .val x ∧ K x h' :=
  callsH_of_fn (P := Try.prog) (fn := Try.f50) (τ := .val) follows Try.func50 (by kernel_rfl) (by kernel_rfl) Try.call50 (Eq.mpr (E_clauses_sorted a0 K h) hF)

def F_lits_Neg (a0 : Int) (K : Int → HP) : HP :=
 callT Try.prog fn_lits_Right #[(.int .i64 a0)] .bool fun r0 =>
 brB (!r0)
 (K (0 : Int))
 (K (IntKind.wrap .i64 (0 - a0)))
set_option maxRecDepth 100000 in
theorem E_lits_Neg (a0 : Int) (K : Int → HP) (h : Heap) : fnVC Try.prog [(1000000, .nil)] 8 Try.f51 [(.int .i64 a0)] (.int .i64) K h = F_lits_Neg a0 K h := by kernel_rfl
set_option maxRecDepth 100000 in
theorem S_lits_Neg{h : Heap} {a0 : Int} (K : Int → HP) (hF : F_lits_Neg a0 K h) : CallsH Try.prog fn_lits_Neg #[(.int .i64 a0)] h fun v h' => ∃ x : Int, v = Ty.enc (.int .i64) x ∧ K x h' :=
  callsH_of_fn (P := Try.prog) (fn := Try.f51) (τ := (.int .i64)) follows Try.func51 (by kernel_rfl) (by kernel_rfl) Try.call51 (Eq.mpr (E_lits_Neg a0 K h) hF)

def F_salvorlaw05_Equal (a0 : (Int × (Sl × Unit))) (a1 : (Int × (Sl × Unit))) (K : Bool → HP) : HP :=
 nw #[(.int .i64 a0.1), (.slice a0.2.1.a a0.2.1.len a0.2.1.cap)] ty_formula_Formula fun b0 =>
 nw #[(.int .i64 a1.1), (.slice a1.2.1.a a1.2.1.len a1.2.1.cap)] ty_salvorref05_Formula fun b1 =>
 ldT (.int .i64) (⟨b0, 0, none⟩ : Addr) fun x2 =>
 ldT (.int .i64) (⟨b1, 0, none⟩ : Addr) fun x3 =>
 brB (x2 == x3)
 (ldT .sl ((⟨b0, 0, none⟩ : Addr).add 1) fun x4 =>
 ldT .sl ((⟨b1, 0, none⟩ : Addr).add 1) fun x5 =>
 callT Try.prog fn_slices_EqualFunc_clauses_Clause_int_clauses_Clause_int #[(.slice x4.a x4.len x4.cap), (.slice x5.a x5.len x5.cap), (.func (.func fn_salvorlaw05_Equal_1) #[] #[])] .bool fun r6 =>
 K r6)
 (K false)
set_option maxRecDepth 100000 in
theorem E_salvorlaw05_Equal (a0 : (Int × (Sl × Unit))) (a1 : (Int × (Sl × Unit))) (K : Bool → HP) (h : Heap) : fnVC Try.prog [(1000000, .nil)] 17 Try.f52 [(.agg #[(.int .i64 a0.1), (.slice a0.2.1.a a0.2.1.len a0.2.1.cap)]), (.agg #[(.int .i64 a1.1), (.slice a1.2.1.a a1.2.1.len a1.2.1.cap)])] .bool K h = F_salvorlaw05_Equal a0 a1 K h := by kernel_rfl
set_option maxRecDepth 100000 in
theorem S_salvorlaw05_Equal{h : Heap} {a0 : (Int × (Sl × Unit))} {a1 : (Int × (Sl × Unit))} (K : Bool → HP) (hF : F_salvorlaw05_Equal a0 a1 K h) : CallsH Try.prog fn_salvorlaw05_Equal #[(.agg #[(.int .i64 a0.1), (.slice a0.2.1.a a0.2.1.len a0.2.1.cap)]), (.agg #[(.int .i64 a1.1), (.slice a1.2.1.a a1.2.1.len a1.2.1.cap)])] h fun v h' => ∃ x : Bool, v = Ty.enc .bool x ∧ K x h' :=
  callsH_of_fn (P := Try.prog) (fn := Try.f52) (τ := .bool) follows Try.func52 (by kernel_rfl) (by kernel_rfl) Try.call52 (Eq.mpr (E_salvorlaw05_Equal a0 a1 K h) hF)

def F_slices_Equal_int_int (a0 : Sl) (a1 : Sl) (K : Bool → HP) : HP :=
 brB ((a0.len : Int) != (a1.len : Int))
 (K false)
 (lfp (σ := (Int × (Bool × Unit))) (fun X0 s1 => /-   -/
 brB (decide (s1.1 < (a0.len : Int)))
 (sx a0.a a0.len s1.1 1 fun p2 =>
 ldT (.int .i64) p2 fun x3 =>
 sx a1.a a1.len s1.1 1 fun p4 =>
 ldT (.int .i64) p4 fun x5 =>
 brB (x3 != x5)
 (K false)
 (X0 ((IntKind.wrap .i64 (s1.1 + (1 : Int))), s1.2.1, ())))
 (K true))
 ((0 : Int), false, ()))
set_option maxRecDepth 100000 in
theorem E_slices_Equal_int_int (a0 : Sl) (a1 : Sl) (K : Bool → HP) (h : Heap) : fnVC Try.prog [(1000000, .nil)] 26 Try.f53 [(.slice a0.a a0.len a0.cap), (.slice a1.a a1.len a1.cap)] .bool K h = F_slices_Equal_int_int a0 a1 K h := by kernel_rfl
set_option maxRecDepth 100000 in
theorem S_slices_Equal_int_int{h : Heap} {a0 : Sl} {a1 : Sl} (K : Bool → HP) (hF : F_slices_Equal_int_int a0 a1 K h) : CallsH Try.prog fn_slices_Equal_int_int #[(.slice a0.a a0.len a0.cap), (.slice a1.a a1.len a1.cap)] h fun v h' => ∃ x : Bool, v = Ty.enc .bool x ∧ K x h' :=
  callsH_of_fn (P := Try.prog) (fn := Try.f53) (τ := .bool) follows Try.func53 (by kernel_rfl) (by kernel_rfl) Try.call53 (Eq.mpr (E_slices_Equal_int_int a0 a1 K h) hF)

def F_salvorlaw02_Ints (a0 : Sl) (K : Sl → HP) : HP :=
 lfp (σ := (Int × (Sl × Unit))) (fun X0 s1 => /-  out -/
 brB (decide (s1.1 < (a0.len : Int)))
 (sx a0.a a0.len s1.1 1 fun p2 =>
 ldT (.int .i64) p2 fun x3 =>
 nw #[(.int .i64 x3)] ty_int fun b4 =>
 apd ty_int 1 8 #[(.int .i64 (0 : Int))] ⟨s1.2.1.a, s1.2.1.len, s1.2.1.cap⟩ ⟨(some (⟨b4, 0, none⟩ : Addr)), 1, 1⟩ fun s5 =>
 X0 ((IntKind.wrap .i64 (s1.1 + (1 : Int))), ⟨s5.a, s5.len, s5.cap⟩, ()))
 (K ⟨s1.2.1.a, s1.2.1.len, s1.2.1.cap⟩))
 ((0 : Int), ⟨none, 0, 0⟩, ())
set_option maxRecDepth 100000 in
theorem E_salvorlaw02_Ints (a0 : Sl) (K : Sl → HP) (h : Heap) : fnVC Try.prog [(1000000, .nil)] 18 Try.f54 [(.slice a0.a a0.len a0.cap)] .sl K h = F_salvorlaw02_Ints a0 K h := by kernel_rfl
set_option maxRecDepth 100000 in
theorem S_salvorlaw02_Ints{h : Heap} {a0 : Sl} (K : Sl → HP) (hF : F_salvorlaw02_Ints a0 K h) : CallsH Try.prog fn_salvorlaw02_Ints #[(.slice a0.a a0.len a0.cap)] h fun v h' => ∃ x : Sl, v = Ty.enc .sl x ∧ K x h' :=
  callsH_of_fn (P := Try.prog) (fn := Try.f54) (τ := .sl) follows Try.func54 (by kernel_rfl) (by kernel_rfl) Try.call54 (Eq.mpr (E_salvorlaw02_Ints a0 K h) hF)

def F_salvorref19_Wrong (a0 : Int) (a1 : Sl) (K : Int → HP) : HP :=
 callT Try.prog fn_salvorref05_Model #[(.int .i64 a0), (.slice a1.a a1.len a1.cap)] (.tup (.cons .sl (.cons (.int .i64) .nil))) fun r0 =>
 K r0.2.1
set_option maxRecDepth 100000 in
theorem E_salvorref19_Wrong (a0 : Int) (a1 : Sl) (K : Int → HP) (h : Heap) : fnVC Try.prog [(1000000, .bool)] 14 Try.f55 [(.int .i64 a0), (.slice a1.a a1.len a1.cap)] (.int .i64) K h = F_salvorref19_Wrong a0 a1 K h := by kernel_rfl
set_option maxRecDepth 100000 in
theorem S_salvorref19_Wrong{h : Heap} {a0 : Int} {a1 : Sl} (K : Int → HP) (hF : F_salvorref19_Wrong a0 a1 K h) : CallsH Try.prog fn_salvorref19_Wrong #[(.int .i64 a0), (.slice a1.a a1.len a1.cap)] h fun v h' => ∃ x : Int, v = Ty.enc (.int .i64) x ∧ K x h' :=
  callsH_of_fn (P := Try.prog) (fn := Try.f55) (τ := (.int .i64)) follows Try.func55 (by kernel_rfl) (by kernel_rfl) Try.call55 (Eq.mpr (E_salvorref19_Wrong a0 a1 K h) hF)

def F_salvorref19_Follows (a0 : (Int × (Sl × Unit))) (a1 : Sl) (K : (Sl × (Int × Unit)) → HP) : HP :=
 nw #[(.int .i64 a0.1), (.slice a0.2.1.a a0.2.1.len a0.2.1.cap)] ty_salvorref05_Formula fun b0 =>
 nw #[] ty_int fun b1 =>
 apd ty_int 1 8 #[(.int .i64 (0 : Int))] ⟨(some (⟨b1, 0, none⟩ : Addr)), 0, 0⟩ ⟨a1.a, a1.len, a1.cap⟩ fun s2 =>
 lfp (σ := (Sl × (Sl × (Int × (Sl × Unit))))) (fun X3 s4 => /- l out   -/
 lfp (σ := (Int × (Int × (Int × (Sl × Unit))))) (fun X5 s6 => /- i next   -/
 ldT .sl ((⟨b0, 0, none⟩ : Addr).add 1) fun x7 =>
 brB (decide (s6.1 < (x7.len : Int)))
 (ldT .sl ((⟨b0, 0, none⟩ : Addr).add 1) fun x8 =>
 sx x8.a x8.len s6.1 1 fun p9 =>
 ldT .sl p9 fun x10 =>
 callT Try.prog fn_salvorref19_open #[(.slice x10.a x10.len x10.cap), (.slice s4.1.a s4.1.len s4.1.cap)] (.tup (.cons .sl (.cons .bool .nil))) fun r11 =>
 jn (σ := Bool) (fun t13 =>
 brB t13
 (K (⟨s4.2.1.a, s4.2.1.len, s4.2.1.cap⟩, s6.1, ()))
 (jn (σ := Bool) (fun t15 =>
 jn (σ := Bool) (fun t17 =>
 jn (σ := (Int × Unit)) (fun s19 => /- next -/
 X5 ((IntKind.wrap .i64 (s6.1 + (1 : Int))), s19.1, s6.2.2.1, ⟨s6.2.2.2.1.a, s6.2.2.2.1.len, s6.2.2.2.1.cap⟩, ()))
 (fun J18 =>
 brB t17
 (sx r11.1.a r11.1.len (0 : Int) 1 fun p20 =>
 ldT (.int .i64) p20 fun x21 =>
 J18 (x21, ()))
 (J18 (s6.2.1, ()))))
 (fun J16 =>
 brB t15
 (J16 ((s6.2.1 == (0 : Int))))
 (J16 false)))
 (fun J14 =>
 brB (!r11.2.1)
 (J14 (((r11.1.len : Int) == (1 : Int))))
 (J14 false))))
 (fun J12 =>
 brB (!r11.2.1)
 (J12 (((r11.1.len : Int) == (0 : Int))))
 (J12 false)))
 (brB (s6.2.1 == (0 : Int))
 (K (⟨s4.2.1.a, s4.2.1.len, s4.2.1.cap⟩, (-1 : Int), ()))
 (nw #[(.int .i64 s6.2.1)] ty_int fun b22 =>
 apd ty_int 1 8 #[(.int .i64 (0 : Int))] ⟨s4.1.a, s4.1.len, s4.1.cap⟩ ⟨(some (⟨b22, 0, none⟩ : Addr)), 1, 1⟩ fun s23 =>
 nw #[(.int .i64 s6.2.1)] ty_int fun b24 =>
 apd ty_int 1 8 #[(.int .i64 (0 : Int))] ⟨s4.2.1.a, s4.2.1.len, s4.2.1.cap⟩ ⟨(some (⟨b24, 0, none⟩ : Addr)), 1, 1⟩ fun s25 =>
 X3 (⟨s23.a, s23.len, s23.cap⟩, ⟨s25.a, s25.len, s25.cap⟩, s6.2.2.1, ⟨s6.2.2.2.1.a, s6.2.2.2.1.len, s6.2.2.2.1.cap⟩, ()))))
 ((0 : Int), (0 : Int), s4.2.2.1, ⟨s4.2.2.2.1.a, s4.2.2.2.1.len, s4.2.2.2.1.cap⟩, ()))
 (⟨s2.a, s2.len, s2.cap⟩, ⟨none, 0, 0⟩, (0 : Int), ⟨none, 0, 0⟩, ())
set_option maxRecDepth 100000 in
theorem E_salvorref19_Follows (a0 : (Int × (Sl × Unit))) (a1 : Sl) (K : (Sl × (Int × Unit)) → HP) (h : Heap) : fnVC Try.prog [(1000000, .bool)] 65 Try.f56 [(.agg #[(.int .i64 a0.1), (.slice a0.2.1.a a0.2.1.len a0.2.1.cap)]), (.slice a1.a a1.len a1.cap)] (.tup (.cons .sl (.cons (.int .i64) .nil))) K h = F_salvorref19_Follows a0 a1 K h := by kernel_rfl
set_option maxRecDepth 100000 in
theorem S_salvorref19_Follows{h : Heap} {a0 : (Int × (Sl × Unit))} {a1 : Sl} (K : (Sl × (Int × Unit)) → HP) (hF : F_salvorref19_Follows a0 a1 K h) : CallsH Try.prog fn_salvorref19_Follows #[(.agg #[(.int .i64 a0.1), (.slice a0.2.1.a a0.2.1.len a0.2.1.cap)]), (.slice a1.a a1.len a1.cap)] h fun v h' => ∃ x : (Sl × (Int × Unit)), v = Ty.enc (.tup (.cons .sl (.cons (.int .i64) .nil))) x ∧ K x h' :=
  callsH_of_fn (P := Try.prog) (fn := Try.f56) (τ := (.tup (.cons .sl (.cons (.int .i64) .nil)))) follows Try.func56 (by kernel_rfl) (by kernel_rfl) Try.call56 (Eq.mpr (E_salvorref19_Follows a0 a1 K h) hF)

def F_salvorref19_Search (a0 : (Int × (Sl × Unit))) (a1 : Sl) (a2 : Int) (K : (Sl × (Bool × (Int × Unit))) → HP) : HP :=
 nw #[(.int .i64 a0.1), (.slice a0.2.1.a a0.2.1.len a0.2.1.cap)] ty_salvorref05_Formula fun b0 =>
 ldA (.cons (.int .i64) (.cons .sl .nil)) (⟨b0, 0, none⟩ : Addr) fun x1 =>
 callT Try.prog fn_salvorref19_Follows #[(.agg #[(.int .i64 x1.1), (.slice x1.2.1.a x1.2.1.len x1.2.1.cap)]), (.slice a1.a a1.len a1.cap)] (.tup (.cons .sl (.cons (.int .i64) .nil))) fun r2 =>
 brB (decide (r2.2.1 ≥ (0 : Int)))
 (K (⟨none, 0, 0⟩, false, (0 : Int), ()))
 (nw #[] ty_int fun b3 =>
 apd ty_int 1 8 #[(.int .i64 (0 : Int))] ⟨(some (⟨b3, 0, none⟩ : Addr)), 0, 0⟩ ⟨a1.a, a1.len, a1.cap⟩ fun s4 =>
 apd ty_int 1 8 #[(.int .i64 (0 : Int))] ⟨s4.a, s4.len, s4.cap⟩ ⟨r2.1.a, r2.1.len, r2.1.cap⟩ fun s5 =>
 lfp (σ := (Int × Unit)) (fun X6 s7 => /- free -/
 ldT (.int .i64) (⟨b0, 0, none⟩ : Addr) fun x8 =>
 jn (σ := Bool) (fun t10 =>
 brB t10
 (X6 ((IntKind.wrap .i64 (s7.1 + (1 : Int))), ()))
 (ldT (.int .i64) (⟨b0, 0, none⟩ : Addr) fun x11 =>
 brB (decide (s7.1 > x11))
 (ldT (.int .i64) (⟨b0, 0, none⟩ : Addr) fun x12 =>
 mks ty_int 1 8 #[(.int .i64 (0 : Int))] x12 x12 fun s13 =>
 lfp (σ := (Int × Unit)) (fun X14 s15 => /- v -/
 ldT (.int .i64) (⟨b0, 0, none⟩ : Addr) fun x16 =>
 brB (decide (s15.1 ≤ x16))
 (callT Try.prog fn_salvorref02_Has #[(.slice s5.a s5.len s5.cap), (.int .i64 s15.1)] .bool fun r17 =>
 jn (σ := Unit) (fun s19 => /- -/
 X14 ((IntKind.wrap .i64 (s15.1 + (1 : Int))), ()))
 (fun J18 =>
 brB r17
 (sx s13.a s13.len (IntKind.wrap .i64 (s15.1 - (1 : Int))) 1 fun p20 =>
 st1 p20 (.int .i64 (1 : Int)) <|
 J18 (()))
 (J18 (()))))
 (K (⟨s13.a, s13.len, s13.cap⟩, true, (0 : Int), ())))
 ((1 : Int), ()))
 (brB (decide (a2 < (1 : Int)))
 (K (⟨none, 0, 0⟩, false, (1 : Int), ()))
 (ldA (.cons (.int .i64) (.cons .sl .nil)) (⟨b0, 0, none⟩ : Addr) fun x21 =>
 cj
 (nw #[] ty_int fun b22 =>
 cj
 (apd ty_int 1 8 #[(.int .i64 (0 : Int))] ⟨(some (⟨b22, 0, none⟩ : Addr)), 0, 0⟩ ⟨s5.a, s5.len, s5.cap⟩ fun s23 =>
 ckA (⟨b0, 0, none⟩ : Addr) [(.int .i64 x21.1), (.slice x21.2.1.a x21.2.1.len x21.2.1.cap)] <|
 nw #[(.int .i64 (IntKind.wrap .i64 (0 - s7.1)))] ty_int fun b24 =>
 apd ty_int 1 8 #[(.int .i64 (0 : Int))] ⟨s23.a, s23.len, s23.cap⟩ ⟨(some (⟨b24, 0, none⟩ : Addr)), 1, 1⟩ fun s25 =>
 ckA (⟨b0, 0, none⟩ : Addr) [(.int .i64 x21.1), (.slice x21.2.1.a x21.2.1.len x21.2.1.cap)] <|
 callT Try.prog fn_salvorref19_Search #[(.agg #[(.int .i64 x21.1), (.slice x21.2.1.a x21.2.1.len x21.2.1.cap)]), (.slice s25.a s25.len s25.cap), (.int .i64 (IntKind.wrap .i64 (a2 - (1 : Int))))] (.tup (.cons .sl (.cons .bool (.cons (.int .i64) .nil)))) fun r26 =>
 jn (σ := Bool) (fun t28 =>
 brB t28
 (K (⟨r26.1.a, r26.1.len, r26.1.cap⟩, r26.2.1, (IntKind.wrap .i64 (r26.2.2.1 + (1 : Int))), ()))
 (brB (decide ((IntKind.wrap .i64 (r26.2.2.1 + (2 : Int))) > a2))
 (K (⟨none, 0, 0⟩, false, (IntKind.wrap .i64 (r26.2.2.1 + (2 : Int))), ()))
 (ldA (.cons (.int .i64) (.cons .sl .nil)) (⟨b0, 0, none⟩ : Addr) fun x29 =>
 cj
 (nw #[] ty_int fun b30 =>
 cj
 (apd ty_int 1 8 #[(.int .i64 (0 : Int))] ⟨(some (⟨b30, 0, none⟩ : Addr)), 0, 0⟩ ⟨s5.a, s5.len, s5.cap⟩ fun s31 =>
 ckA (⟨b0, 0, none⟩ : Addr) [(.int .i64 x29.1), (.slice x29.2.1.a x29.2.1.len x29.2.1.cap)] <|
 nw #[(.int .i64 s7.1)] ty_int fun b32 =>
 apd ty_int 1 8 #[(.int .i64 (0 : Int))] ⟨s31.a, s31.len, s31.cap⟩ ⟨(some (⟨b32, 0, none⟩ : Addr)), 1, 1⟩ fun s33 =>
 ckA (⟨b0, 0, none⟩ : Addr) [(.int .i64 x29.1), (.slice x29.2.1.a x29.2.1.len x29.2.1.cap)] <|
 callT Try.prog fn_salvorref19_Search #[(.agg #[(.int .i64 x29.1), (.slice x29.2.1.a x29.2.1.len x29.2.1.cap)]), (.slice s33.a s33.len s33.cap), (.int .i64 (IntKind.wrap .i64 ((IntKind.wrap .i64 (a2 - r26.2.2.1)) - (2 : Int))))] (.tup (.cons .sl (.cons .bool (.cons (.int .i64) .nil)))) fun r34 =>
 K (⟨r34.1.a, r34.1.len, r34.1.cap⟩, r34.2.1, (IntKind.wrap .i64 ((IntKind.wrap .i64 (r26.2.2.1 + (2 : Int))) + r34.2.2.1)), ()))
 (nw #[(.int .i64 s7.1)] ty_int fun b35 =>
 apd ty_int 1 8 #[(.int .i64 (0 : Int))] ⟨(some (⟨b30, 0, none⟩ : Addr)), 0, 0⟩ ⟨s5.a, s5.len, s5.cap⟩ fun s36 =>
 ckA (⟨b0, 0, none⟩ : Addr) [(.int .i64 x29.1), (.slice x29.2.1.a x29.2.1.len x29.2.1.cap)] <|
 apd ty_int 1 8 #[(.int .i64 (0 : Int))] ⟨s36.a, s36.len, s36.cap⟩ ⟨(some (⟨b35, 0, none⟩ : Addr)), 1, 1⟩ fun s37 =>
 ckA (⟨b0, 0, none⟩ : Addr) [(.int .i64 x29.1), (.slice x29.2.1.a x29.2.1.len x29.2.1.cap)] <|
 callT Try.prog fn_salvorref19_Search #[(.agg #[(.int .i64 x29.1), (.slice x29.2.1.a x29.2.1.len x29.2.1.cap)]), (.slice s37.a s37.len s37.cap), (.int .i64 (IntKind.wrap .i64 ((IntKind.wrap .i64 (a2 - r26.2.2.1)) - (2 : Int))))] (.tup (.cons .sl (.cons .bool (.cons (.int .i64) .nil)))) fun r38 =>
 K (⟨r38.1.a, r38.1.len, r38.1.cap⟩, r38.2.1, (IntKind.wrap .i64 ((IntKind.wrap .i64 (r26.2.2.1 + (2 : Int))) + r38.2.2.1)), ())))
 (nw #[(.int .i64 s7.1)] ty_int fun b39 =>
 nw #[] ty_int fun b40 =>
 apd ty_int 1 8 #[(.int .i64 (0 : Int))] ⟨(some (⟨b40, 0, none⟩ : Addr)), 0, 0⟩ ⟨s5.a, s5.len, s5.cap⟩ fun s41 =>
 ckA (⟨b0, 0, none⟩ : Addr) [(.int .i64 x29.1), (.slice x29.2.1.a x29.2.1.len x29.2.1.cap)] <|
 apd ty_int 1 8 #[(.int .i64 (0 : Int))] ⟨s41.a, s41.len, s41.cap⟩ ⟨(some (⟨b39, 0, none⟩ : Addr)), 1, 1⟩ fun s42 =>
 ckA (⟨b0, 0, none⟩ : Addr) [(.int .i64 x29.1), (.slice x29.2.1.a x29.2.1.len x29.2.1.cap)] <|
 callT Try.prog fn_salvorref19_Search #[(.agg #[(.int .i64 x29.1), (.slice x29.2.1.a x29.2.1.len x29.2.1.cap)]), (.slice s42.a s42.len s42.cap), (.int .i64 (IntKind.wrap .i64 ((IntKind.wrap .i64 (a2 - r26.2.2.1)) - (2 : Int))))] (.tup (.cons .sl (.cons .bool (.cons (.int .i64) .nil)))) fun r43 =>
 K (⟨r43.1.a, r43.1.len, r43.1.cap⟩, r43.2.1, (IntKind.wrap .i64 ((IntKind.wrap .i64 (r26.2.2.1 + (2 : Int))) + r43.2.2.1)), ())))))
 (fun J27 =>
 brB r26.2.1
 (J27 true)
 (J27 ((decide ((IntKind.wrap .i64 (r26.2.2.1 + (1 : Int))) > a2))))))
 (nw #[(.int .i64 (IntKind.wrap .i64 (0 - s7.1)))] ty_int fun b44 =>
 apd ty_int 1 8 #[(.int .i64 (0 : Int))] ⟨(some (⟨b22, 0, none⟩ : Addr)), 0, 0⟩ ⟨s5.a, s5.len, s5.cap⟩ fun s45 =>
 ckA (⟨b0, 0, none⟩ : Addr) [(.int .i64 x21.1), (.slice x21.2.1.a x21.2.1.len x21.2.1.cap)] <|
 apd ty_int 1 8 #[(.int .i64 (0 : Int))] ⟨s45.a, s45.len, s45.cap⟩ ⟨(some (⟨b44, 0, none⟩ : Addr)), 1, 1⟩ fun s46 =>
 ckA (⟨b0, 0, none⟩ : Addr) [(.int .i64 x21.1), (.slice x21.2.1.a x21.2.1.len x21.2.1.cap)] <|
 callT Try.prog fn_salvorref19_Search #[(.agg #[(.int .i64 x21.1), (.slice x21.2.1.a x21.2.1.len x21.2.1.cap)]), (.slice s46.a s46.len s46.cap), (.int .i64 (IntKind.wrap .i64 (a2 - (1 : Int))))] (.tup (.cons .sl (.cons .bool (.cons (.int .i64) .nil)))) fun r47 =>
 jn (σ := Bool) (fun t49 =>
 brB t49
 (K (⟨r47.1.a, r47.1.len, r47.1.cap⟩, r47.2.1, (IntKind.wrap .i64 (r47.2.2.1 + (1 : Int))), ()))
 (brB (decide ((IntKind.wrap .i64 (r47.2.2.1 + (2 : Int))) > a2))
 (K (⟨none, 0, 0⟩, false, (IntKind.wrap .i64 (r47.2.2.1 + (2 : Int))), ()))
 (ldA (.cons (.int .i64) (.cons .sl .nil)) (⟨b0, 0, none⟩ : Addr) fun x50 =>
 cj
 (nw #[] ty_int fun b51 =>
 cj
 (apd ty_int 1 8 #[(.int .i64 (0 : Int))] ⟨(some (⟨b51, 0, none⟩ : Addr)), 0, 0⟩ ⟨s5.a, s5.len, s5.cap⟩ fun s52 =>
 ckA (⟨b0, 0, none⟩ : Addr) [(.int .i64 x50.1), (.slice x50.2.1.a x50.2.1.len x50.2.1.cap)] <|
 nw #[(.int .i64 s7.1)] ty_int fun b53 =>
 apd ty_int 1 8 #[(.int .i64 (0 : Int))] ⟨s52.a, s52.len, s52.cap⟩ ⟨(some (⟨b53, 0, none⟩ : Addr)), 1, 1⟩ fun s54 =>
 ckA (⟨b0, 0, none⟩ : Addr) [(.int .i64 x50.1), (.slice x50.2.1.a x50.2.1.len x50.2.1.cap)] <|
 callT Try.prog fn_salvorref19_Search #[(.agg #[(.int .i64 x50.1), (.slice x50.2.1.a x50.2.1.len x50.2.1.cap)]), (.slice s54.a s54.len s54.cap), (.int .i64 (IntKind.wrap .i64 ((IntKind.wrap .i64 (a2 - r47.2.2.1)) - (2 : Int))))] (.tup (.cons .sl (.cons .bool (.cons (.int .i64) .nil)))) fun r55 =>
 K (⟨r55.1.a, r55.1.len, r55.1.cap⟩, r55.2.1, (IntKind.wrap .i64 ((IntKind.wrap .i64 (r47.2.2.1 + (2 : Int))) + r55.2.2.1)), ()))
 (nw #[(.int .i64 s7.1)] ty_int fun b56 =>
 apd ty_int 1 8 #[(.int .i64 (0 : Int))] ⟨(some (⟨b51, 0, none⟩ : Addr)), 0, 0⟩ ⟨s5.a, s5.len, s5.cap⟩ fun s57 =>
 ckA (⟨b0, 0, none⟩ : Addr) [(.int .i64 x50.1), (.slice x50.2.1.a x50.2.1.len x50.2.1.cap)] <|
 apd ty_int 1 8 #[(.int .i64 (0 : Int))] ⟨s57.a, s57.len, s57.cap⟩ ⟨(some (⟨b56, 0, none⟩ : Addr)), 1, 1⟩ fun s58 =>
 ckA (⟨b0, 0, none⟩ : Addr) [(.int .i64 x50.1), (.slice x50.2.1.a x50.2.1.len x50.2.1.cap)] <|
 callT Try.prog fn_salvorref19_Search #[(.agg #[(.int .i64 x50.1), (.slice x50.2.1.a x50.2.1.len x50.2.1.cap)]), (.slice s58.a s58.len s58.cap), (.int .i64 (IntKind.wrap .i64 ((IntKind.wrap .i64 (a2 - r47.2.2.1)) - (2 : Int))))] (.tup (.cons .sl (.cons .bool (.cons (.int .i64) .nil)))) fun r59 =>
 K (⟨r59.1.a, r59.1.len, r59.1.cap⟩, r59.2.1, (IntKind.wrap .i64 ((IntKind.wrap .i64 (r47.2.2.1 + (2 : Int))) + r59.2.2.1)), ())))
 (nw #[(.int .i64 s7.1)] ty_int fun b60 =>
 nw #[] ty_int fun b61 =>
 apd ty_int 1 8 #[(.int .i64 (0 : Int))] ⟨(some (⟨b61, 0, none⟩ : Addr)), 0, 0⟩ ⟨s5.a, s5.len, s5.cap⟩ fun s62 =>
 ckA (⟨b0, 0, none⟩ : Addr) [(.int .i64 x50.1), (.slice x50.2.1.a x50.2.1.len x50.2.1.cap)] <|
 apd ty_int 1 8 #[(.int .i64 (0 : Int))] ⟨s62.a, s62.len, s62.cap⟩ ⟨(some (⟨b60, 0, none⟩ : Addr)), 1, 1⟩ fun s63 =>
 ckA (⟨b0, 0, none⟩ : Addr) [(.int .i64 x50.1), (.slice x50.2.1.a x50.2.1.len x50.2.1.cap)] <|
 callT Try.prog fn_salvorref19_Search #[(.agg #[(.int .i64 x50.1), (.slice x50.2.1.a x50.2.1.len x50.2.1.cap)]), (.slice s63.a s63.len s63.cap), (.int .i64 (IntKind.wrap .i64 ((IntKind.wrap .i64 (a2 - r47.2.2.1)) - (2 : Int))))] (.tup (.cons .sl (.cons .bool (.cons (.int .i64) .nil)))) fun r64 =>
 K (⟨r64.1.a, r64.1.len, r64.1.cap⟩, r64.2.1, (IntKind.wrap .i64 ((IntKind.wrap .i64 (r47.2.2.1 + (2 : Int))) + r64.2.2.1)), ())))))
 (fun J48 =>
 brB r47.2.1
 (J48 true)
 (J48 ((decide ((IntKind.wrap .i64 (r47.2.2.1 + (1 : Int))) > a2)))))))
 (nw #[(.int .i64 (IntKind.wrap .i64 (0 - s7.1)))] ty_int fun b65 =>
 nw #[] ty_int fun b66 =>
 apd ty_int 1 8 #[(.int .i64 (0 : Int))] ⟨(some (⟨b66, 0, none⟩ : Addr)), 0, 0⟩ ⟨s5.a, s5.len, s5.cap⟩ fun s67 =>
 ckA (⟨b0, 0, none⟩ : Addr) [(.int .i64 x21.1), (.slice x21.2.1.a x21.2.1.len x21.2.1.cap)] <|
 apd ty_int 1 8 #[(.int .i64 (0 : Int))] ⟨s67.a, s67.len, s67.cap⟩ ⟨(some (⟨b65, 0, none⟩ : Addr)), 1, 1⟩ fun s68 =>
 ckA (⟨b0, 0, none⟩ : Addr) [(.int .i64 x21.1), (.slice x21.2.1.a x21.2.1.len x21.2.1.cap)] <|
 callT Try.prog fn_salvorref19_Search #[(.agg #[(.int .i64 x21.1), (.slice x21.2.1.a x21.2.1.len x21.2.1.cap)]), (.slice s68.a s68.len s68.cap), (.int .i64 (IntKind.wrap .i64 (a2 - (1 : Int))))] (.tup (.cons .sl (.cons .bool (.cons (.int .i64) .nil)))) fun r69 =>
 jn (σ := Bool) (fun t71 =>
 brB t71
 (K (⟨r69.1.a, r69.1.len, r69.1.cap⟩, r69.2.1, (IntKind.wrap .i64 (r69.2.2.1 + (1 : Int))), ()))
 (brB (decide ((IntKind.wrap .i64 (r69.2.2.1 + (2 : Int))) > a2))
 (K (⟨none, 0, 0⟩, false, (IntKind.wrap .i64 (r69.2.2.1 + (2 : Int))), ()))
 (ldA (.cons (.int .i64) (.cons .sl .nil)) (⟨b0, 0, none⟩ : Addr) fun x72 =>
 cj
 (nw #[] ty_int fun b73 =>
 cj
 (apd ty_int 1 8 #[(.int .i64 (0 : Int))] ⟨(some (⟨b73, 0, none⟩ : Addr)), 0, 0⟩ ⟨s5.a, s5.len, s5.cap⟩ fun s74 =>
 ckA (⟨b0, 0, none⟩ : Addr) [(.int .i64 x72.1), (.slice x72.2.1.a x72.2.1.len x72.2.1.cap)] <|
 nw #[(.int .i64 s7.1)] ty_int fun b75 =>
 apd ty_int 1 8 #[(.int .i64 (0 : Int))] ⟨s74.a, s74.len, s74.cap⟩ ⟨(some (⟨b75, 0, none⟩ : Addr)), 1, 1⟩ fun s76 =>
 ckA (⟨b0, 0, none⟩ : Addr) [(.int .i64 x72.1), (.slice x72.2.1.a x72.2.1.len x72.2.1.cap)] <|
 callT Try.prog fn_salvorref19_Search #[(.agg #[(.int .i64 x72.1), (.slice x72.2.1.a x72.2.1.len x72.2.1.cap)]), (.slice s76.a s76.len s76.cap), (.int .i64 (IntKind.wrap .i64 ((IntKind.wrap .i64 (a2 - r69.2.2.1)) - (2 : Int))))] (.tup (.cons .sl (.cons .bool (.cons (.int .i64) .nil)))) fun r77 =>
 K (⟨r77.1.a, r77.1.len, r77.1.cap⟩, r77.2.1, (IntKind.wrap .i64 ((IntKind.wrap .i64 (r69.2.2.1 + (2 : Int))) + r77.2.2.1)), ()))
 (nw #[(.int .i64 s7.1)] ty_int fun b78 =>
 apd ty_int 1 8 #[(.int .i64 (0 : Int))] ⟨(some (⟨b73, 0, none⟩ : Addr)), 0, 0⟩ ⟨s5.a, s5.len, s5.cap⟩ fun s79 =>
 ckA (⟨b0, 0, none⟩ : Addr) [(.int .i64 x72.1), (.slice x72.2.1.a x72.2.1.len x72.2.1.cap)] <|
 apd ty_int 1 8 #[(.int .i64 (0 : Int))] ⟨s79.a, s79.len, s79.cap⟩ ⟨(some (⟨b78, 0, none⟩ : Addr)), 1, 1⟩ fun s80 =>
 ckA (⟨b0, 0, none⟩ : Addr) [(.int .i64 x72.1), (.slice x72.2.1.a x72.2.1.len x72.2.1.cap)] <|
 callT Try.prog fn_salvorref19_Search #[(.agg #[(.int .i64 x72.1), (.slice x72.2.1.a x72.2.1.len x72.2.1.cap)]), (.slice s80.a s80.len s80.cap), (.int .i64 (IntKind.wrap .i64 ((IntKind.wrap .i64 (a2 - r69.2.2.1)) - (2 : Int))))] (.tup (.cons .sl (.cons .bool (.cons (.int .i64) .nil)))) fun r81 =>
 K (⟨r81.1.a, r81.1.len, r81.1.cap⟩, r81.2.1, (IntKind.wrap .i64 ((IntKind.wrap .i64 (r69.2.2.1 + (2 : Int))) + r81.2.2.1)), ())))
 (nw #[(.int .i64 s7.1)] ty_int fun b82 =>
 nw #[] ty_int fun b83 =>
 apd ty_int 1 8 #[(.int .i64 (0 : Int))] ⟨(some (⟨b83, 0, none⟩ : Addr)), 0, 0⟩ ⟨s5.a, s5.len, s5.cap⟩ fun s84 =>
 ckA (⟨b0, 0, none⟩ : Addr) [(.int .i64 x72.1), (.slice x72.2.1.a x72.2.1.len x72.2.1.cap)] <|
 apd ty_int 1 8 #[(.int .i64 (0 : Int))] ⟨s84.a, s84.len, s84.cap⟩ ⟨(some (⟨b82, 0, none⟩ : Addr)), 1, 1⟩ fun s85 =>
 ckA (⟨b0, 0, none⟩ : Addr) [(.int .i64 x72.1), (.slice x72.2.1.a x72.2.1.len x72.2.1.cap)] <|
 callT Try.prog fn_salvorref19_Search #[(.agg #[(.int .i64 x72.1), (.slice x72.2.1.a x72.2.1.len x72.2.1.cap)]), (.slice s85.a s85.len s85.cap), (.int .i64 (IntKind.wrap .i64 ((IntKind.wrap .i64 (a2 - r69.2.2.1)) - (2 : Int))))] (.tup (.cons .sl (.cons .bool (.cons (.int .i64) .nil)))) fun r86 =>
 K (⟨r86.1.a, r86.1.len, r86.1.cap⟩, r86.2.1, (IntKind.wrap .i64 ((IntKind.wrap .i64 (r69.2.2.1 + (2 : Int))) + r86.2.2.1)), ())))))
 (fun J70 =>
 brB r69.2.1
 (J70 true)
 (J70 ((decide ((IntKind.wrap .i64 (r69.2.2.1 + (1 : Int))) > a2))))))))))
 (fun J9 =>
 brB (decide (s7.1 ≤ x8))
 (callT Try.prog fn_salvorref02_Has #[(.slice s5.a s5.len s5.cap), (.int .i64 s7.1)] .bool fun r87 =>
 jn (σ := Bool) (fun t89 =>
 J9 (t89))
 (fun J88 =>
 brB r87
 (J88 true)
 (callT Try.prog fn_salvorref02_Has #[(.slice s5.a s5.len s5.cap), (.int .i64 (IntKind.wrap .i64 (0 - s7.1)))] .bool fun r90 =>
 J88 (r90))))
 (J9 false)))
 ((1 : Int), ()))
set_option maxRecDepth 100000 in
theorem E_salvorref19_Search (a0 : (Int × (Sl × Unit))) (a1 : Sl) (a2 : Int) (K : (Sl × (Bool × (Int × Unit))) → HP) (h : Heap) : fnVC Try.prog [(1000000, .bool)] 125 Try.f57 [(.agg #[(.int .i64 a0.1), (.slice a0.2.1.a a0.2.1.len a0.2.1.cap)]), (.slice a1.a a1.len a1.cap), (.int .i64 a2)] (.tup (.cons .sl (.cons .bool (.cons (.int .i64) .nil)))) K h = F_salvorref19_Search a0 a1 a2 K h := by kernel_rfl
set_option maxRecDepth 100000 in
theorem S_salvorref19_Search{h : Heap} {a0 : (Int × (Sl × Unit))} {a1 : Sl} {a2 : Int} (K : (Sl × (Bool × (Int × Unit))) → HP) (hF : F_salvorref19_Search a0 a1 a2 K h) : CallsH Try.prog fn_salvorref19_Search #[(.agg #[(.int .i64 a0.1), (.slice a0.2.1.a a0.2.1.len a0.2.1.cap)]), (.slice a1.a a1.len a1.cap), (.int .i64 a2)] h fun v h' => ∃ x : (Sl × (Bool × (Int × Unit))), v = Ty.enc (.tup (.cons .sl (.cons .bool (.cons (.int .i64) .nil)))) x ∧ K x h' :=
  callsH_of_fn (P := Try.prog) (fn := Try.f57) (τ := (.tup (.cons .sl (.cons .bool (.cons (.int .i64) .nil))))) follows Try.func57 (by kernel_rfl) (by kernel_rfl) Try.call57 (Eq.mpr (E_salvorref19_Search a0 a1 a2 K h) hF)

def F_salvorlaw05_Bits (a0 : Sl) (K : Sl → HP) : HP :=
 lfp (σ := (Int × (Sl × Unit))) (fun X0 s1 => /-  out -/
 brB (decide (s1.1 < (a0.len : Int)))
 (sx a0.a a0.len s1.1 1 fun p2 =>
 ldT .bool p2 fun x3 =>
 jn (σ := (Int × Unit)) (fun s5 => /- n -/
 nw #[(.int .i64 s5.1)] ty_int fun b6 =>
 apd ty_int 1 8 #[(.int .i64 (0 : Int))] ⟨s1.2.1.a, s1.2.1.len, s1.2.1.cap⟩ ⟨(some (⟨b6, 0, none⟩ : Addr)), 1, 1⟩ fun s7 =>
 X0 ((IntKind.wrap .i64 (s1.1 + (1 : Int))), ⟨s7.a, s7.len, s7.cap⟩, ()))
 (fun J4 =>
 brB x3
 (J4 ((1 : Int), ()))
 (J4 ((0 : Int), ()))))
 (K ⟨s1.2.1.a, s1.2.1.len, s1.2.1.cap⟩))
 ((0 : Int), ⟨none, 0, 0⟩, ())
set_option maxRecDepth 100000 in
theorem E_salvorlaw05_Bits (a0 : Sl) (K : Sl → HP) (h : Heap) : fnVC Try.prog [(1000000, .nil)] 20 Try.f58 [(.slice a0.a a0.len a0.cap)] .sl K h = F_salvorlaw05_Bits a0 K h := by kernel_rfl
set_option maxRecDepth 100000 in
theorem S_salvorlaw05_Bits{h : Heap} {a0 : Sl} (K : Sl → HP) (hF : F_salvorlaw05_Bits a0 K h) : CallsH Try.prog fn_salvorlaw05_Bits #[(.slice a0.a a0.len a0.cap)] h fun v h' => ∃ x : Sl, v = Ty.enc .sl x ∧ K x h' :=
  callsH_of_fn (P := Try.prog) (fn := Try.f58) (τ := .sl) follows Try.func58 (by kernel_rfl) (by kernel_rfl) Try.call58 (Eq.mpr (E_salvorlaw05_Bits a0 K h) hF)

def F_formula_Check (a0 : (Int × (Sl × Unit))) (K : (Int × (Int × Unit)) → HP) : HP :=
 nw #[(.int .i64 a0.1), (.slice a0.2.1.a a0.2.1.len a0.2.1.cap)] ty_formula_Formula fun b0 =>
 ldT (.int .i64) (⟨b0, 0, none⟩ : Addr) fun x1 =>
 callT Try.prog fn_formula_vars #[(.int .i64 x1)] .bool fun r2 =>
 brB (!r2)
 (K ((-1 : Int), (50 : Int), ()))
 (ldT .sl ((⟨b0, 0, none⟩ : Addr).add 1) fun x3 =>
 brB (decide ((x3.len : Int) > (262144 : Int)))
 (K ((-1 : Int), (5 : Int), ()))
 (ldT .sl ((⟨b0, 0, none⟩ : Addr).add 1) fun x4 =>
 lfp (σ := (Int × (Int × (Int × Unit)))) (fun X5 s6 => /-    -/
 brB (decide (s6.1 < (x4.len : Int)))
 (sx x4.a x4.len s6.1 1 fun p7 =>
 ldT .sl p7 fun x8 =>
 callT Try.prog fn_clauses_Right #[(.slice x8.a x8.len x8.cap)] .bool fun r9 =>
 brB (!r9)
 (K (s6.1, (20 : Int), ()))
 (ldT (.int .i64) (⟨b0, 0, none⟩ : Addr) fun x10 =>
 callT Try.prog fn_formula_beyond #[(.int .i64 x10)] .val fun r11 =>
 callT Try.prog fn_slices_ContainsFunc_clauses_Clause_lits_Lit #[(.slice x8.a x8.len x8.cap), r11] .bool fun r12 =>
 brB r12
 (K (s6.1, (51 : Int), ()))
 (X5 ((IntKind.wrap .i64 (s6.1 + (1 : Int))), s6.2.1, s6.2.2.1, ()))))
 (K ((-1 : Int), (0 : Int), ())))
 ((0 : Int), (0 : Int), (0 : Int), ())))
set_option maxRecDepth 100000 in
theorem E_formula_Check (a0 : (Int × (Sl × Unit))) (K : (Int × (Int × Unit)) → HP) (h : Heap) : fnVC Try.prog [(1000000, .nil)] 37 Try.f59 [(.agg #[(.int .i64 a0.1), (.slice a0.2.1.a a0.2.1.len a0.2.1.cap)])] (.tup (.cons (.int .i64) (.cons (.int .i64) .nil))) K h = F_formula_Check a0 K h := by kernel_rfl
set_option maxRecDepth 100000 in
theorem S_formula_Check{h : Heap} {a0 : (Int × (Sl × Unit))} (K : (Int × (Int × Unit)) → HP) (hF : F_formula_Check a0 K h) : CallsH Try.prog fn_formula_Check #[(.agg #[(.int .i64 a0.1), (.slice a0.2.1.a a0.2.1.len a0.2.1.cap)])] h fun v h' => ∃ x : (Int × (Int × Unit)), v = Ty.enc (.tup (.cons (.int .i64) (.cons (.int .i64) .nil))) x ∧ K x h' :=
  callsH_of_fn (P := Try.prog) (fn := Try.f59) (τ := (.tup (.cons (.int .i64) (.cons (.int .i64) .nil)))) follows Try.func59 (by kernel_rfl) (by kernel_rfl) Try.call59 (Eq.mpr (E_formula_Check a0 K h) hF)

def F_dpll_All_1 (a0 : Value) (c0 : Addr) (K : Unit → HP) : HP :=
 ldA (.cons (.int .i64) (.cons .sl .nil)) c0 fun x0 =>
 ldT (.int .i64) c0 fun x1 =>
 mks ty_int 1 8 #[(.int .i64 (0 : Int))] (IntKind.wrap .i64 (x1 + (1 : Int))) (IntKind.wrap .i64 (x1 + (1 : Int))) fun s2 =>
 nw #[(.int .i64 x0.1), (.slice x0.2.1.a x0.2.1.len x0.2.1.cap), (.slice s2.a s2.len s2.cap), (.int .i64 (0 : Int)), (.int .i64 (9223372036854775807 : Int))] ty_dpll_search fun b3 =>
 callT Try.prog fn_dpll_search_models #[(.pointer (some (⟨b3, 0, none⟩ : Addr))), a0] .bool fun r4 =>
 K (())
set_option maxRecDepth 100000 in
theorem E_dpll_All_1 (a0 : Value) (c0 : Addr) (K : Unit → HP) (h : Heap) : fnVC Try.prog [(1000000, .bool)] 14 Try.f60 [a0, (.pointer (some c0))] (.tup .nil) K h = F_dpll_All_1 a0 c0 K h := by kernel_rfl
set_option maxRecDepth 100000 in
theorem S_dpll_All_1{h : Heap} {a0 : Value} {c0 : Addr} (K : Unit → HP) (hF : F_dpll_All_1 a0 c0 K h) : CallsH Try.prog fn_dpll_All_1 #[a0, (.pointer (some c0))] h fun v h' => ∃ x : Unit, v = Ty.enc (.tup .nil) x ∧ K x h' :=
  callsH_of_fn (P := Try.prog) (fn := Try.f60) (τ := (.tup .nil)) follows Try.func60 (by kernel_rfl) (by kernel_rfl) Try.call60 (Eq.mpr (E_dpll_All_1 a0 c0 K h) hF)

def F_slices_Index_bool_bool (a0 : Sl) (a1 : Bool) (K : Int → HP) : HP :=
 lfp (σ := (Int × (Int × Unit))) (fun X0 s1 => /-   -/
 brB (decide (s1.1 < (a0.len : Int)))
 (sx a0.a a0.len s1.1 1 fun p2 =>
 ldT .bool p2 fun x3 =>
 brB (a1 == x3)
 (K s1.1)
 (X0 ((IntKind.wrap .i64 (s1.1 + (1 : Int))), s1.2.1, ())))
 (K (-1 : Int)))
 ((0 : Int), (0 : Int), ())
set_option maxRecDepth 100000 in
theorem E_slices_Index_bool_bool (a0 : Sl) (a1 : Bool) (K : Int → HP) (h : Heap) : fnVC Try.prog [(1000000, .nil)] 19 Try.f61 [(.slice a0.a a0.len a0.cap), (.bool a1)] (.int .i64) K h = F_slices_Index_bool_bool a0 a1 K h := by kernel_rfl
set_option maxRecDepth 100000 in
theorem S_slices_Index_bool_bool{h : Heap} {a0 : Sl} {a1 : Bool} (K : Int → HP) (hF : F_slices_Index_bool_bool a0 a1 K h) : CallsH Try.prog fn_slices_Index_bool_bool #[(.slice a0.a a0.len a0.cap), (.bool a1)] h fun v h' => ∃ x : Int, v = Ty.enc (.int .i64) x ∧ K x h' :=
  callsH_of_fn (P := Try.prog) (fn := Try.f61) (τ := (.int .i64)) follows Try.func61 (by kernel_rfl) (by kernel_rfl) Try.call61 (Eq.mpr (E_slices_Index_bool_bool a0 a1 K h) hF)

def F_lits_Greatest (a0 : Sl) (K : Int → HP) : HP := fun h0 => (
 nw #[(.int .i64 (0 : Int))] ty_int fun b0 =>
 st1 (⟨b0, 0, none⟩ : Addr) (.int .i64 (0 : Int)) <|
 callT Try.prog fn_lits_variables #[(.slice a0.a a0.len a0.cap)] .val fun r1 =>
 RangeVC Try.prog (.cons (.int .i64) .nil) r1 (fun x2 wrap3 next4 jump5 =>
 wrap3 <|
 ldT (.int .i64) (⟨b0, 0, none⟩ : Addr) fun x6 =>
 st1 (⟨b0, 0, none⟩ : Addr) (.int .i64 (if x2.1 > x6 then x2.1 else x6)) <|
 next4)
 (ldT (.int .i64) (⟨b0, 0, none⟩ : Addr) fun x7 =>
 mkd h0.size <|
 K x7)
 (mkd h0.size <|
 K (0 : Int))
 []
 []) h0
set_option maxRecDepth 100000 in
theorem E_lits_Greatest (a0 : Sl) (K : Int → HP) (h : Heap) : fnVC Try.prog [(1000000, .nil), (7, (.cons (.int .i64) .nil))] 12 Try.f62 [(.slice a0.a a0.len a0.cap)] (.int .i64) K h = F_lits_Greatest a0 K h := by kernel_rfl
set_option maxRecDepth 100000 in
theorem S_lits_Greatest{h : Heap} {a0 : Sl} (K : Int → HP) (hF : F_lits_Greatest a0 K h) : CallsH Try.prog fn_lits_Greatest #[(.slice a0.a a0.len a0.cap)] h fun v h' => ∃ x : Int, v = Ty.enc (.int .i64) x ∧ K x h' :=
  callsH_of_fn (P := Try.prog) (fn := Try.f62) (τ := (.int .i64)) follows Try.func62 (by kernel_rfl) (by kernel_rfl) Try.call62 (Eq.mpr (E_lits_Greatest a0 K h) hF)

def F_dpll_search_follow (a0 : Option Addr) (K : (Sl × (Int × Unit)) → HP) : HP :=
 lfp (σ := (Sl × (Int × (Sl × Unit)))) (fun X0 s1 => /- out   -/
 nn a0 fun p2 =>
 ldT .sl (p2.add 1) fun x3 =>
 lfp (σ := (Int × (Int × (Int × (Sl × Unit))))) (fun X4 s5 => /-  next   -/
 brB (decide (s5.1 < (x3.len : Int)))
 (jn (σ := (Int × (Int × (Sl × Unit)))) (fun s7 => /- next   -/
 X4 ((IntKind.wrap .i64 (s5.1 + (1 : Int))), s7.1, s7.2.1, ⟨s7.2.2.1.a, s7.2.2.1.len, s7.2.2.1.cap⟩, ()))
 (fun J6 =>
 sx x3.a x3.len s5.1 1 fun p8 =>
 ldT .sl p8 fun x9 =>
 callT Try.prog fn_dpll_search_last #[(.pointer a0), (.slice x9.a x9.len x9.cap)] (.tup (.cons (.int .i64) (.cons (.int .i64) .nil))) fun r10 =>
 brB (r10.2.1 == (0 : Int))
 (K (⟨s1.1.a, s1.1.len, s1.1.cap⟩, s5.1, ()))
 (jn (σ := Bool) (fun t12 =>
 brB t12
 (J6 (r10.1, s5.2.2.1, ⟨s5.2.2.2.1.a, s5.2.2.2.1.len, s5.2.2.2.1.cap⟩, ()))
 (J6 (s5.2.1, s5.2.2.1, ⟨s5.2.2.2.1.a, s5.2.2.2.1.len, s5.2.2.2.1.cap⟩, ())))
 (fun J11 =>
 brB (r10.2.1 == (1 : Int))
 (J11 ((s5.2.1 == (0 : Int))))
 (J11 false)))))
 (brB (s5.2.1 == (0 : Int))
 (K (⟨s1.1.a, s1.1.len, s1.1.cap⟩, (-1 : Int), ()))
 (callT Try.prog fn_dpll_search_set #[(.pointer a0), (.int .i64 s5.2.1)] (.tup .nil) fun r13 =>
 nw #[(.int .i64 s5.2.1)] ty_lits_Lit fun b14 =>
 apd ty_lits_Lit 1 8 #[(.int .i64 (0 : Int))] ⟨s1.1.a, s1.1.len, s1.1.cap⟩ ⟨(some (⟨b14, 0, none⟩ : Addr)), 1, 1⟩ fun s15 =>
 X0 (⟨s15.a, s15.len, s15.cap⟩, s5.2.2.1, ⟨s5.2.2.2.1.a, s5.2.2.2.1.len, s5.2.2.2.1.cap⟩, ()))))
 ((0 : Int), (0 : Int), s1.2.1, ⟨s1.2.2.1.a, s1.2.2.1.len, s1.2.2.1.cap⟩, ()))
 (⟨none, 0, 0⟩, (0 : Int), ⟨none, 0, 0⟩, ())
set_option maxRecDepth 100000 in
theorem E_dpll_search_follow (a0 : Option Addr) (K : (Sl × (Int × Unit)) → HP) (h : Heap) : fnVC Try.prog [(1000000, .bool)] 51 Try.f68 [(.pointer a0)] (.tup (.cons .sl (.cons (.int .i64) .nil))) K h = F_dpll_search_follow a0 K h := by kernel_rfl
set_option maxRecDepth 100000 in
theorem S_dpll_search_follow{h : Heap} {a0 : Option Addr} (K : (Sl × (Int × Unit)) → HP) (hF : F_dpll_search_follow a0 K h) : CallsH Try.prog fn_dpll_search_follow #[(.pointer a0)] h fun v h' => ∃ x : (Sl × (Int × Unit)), v = Ty.enc (.tup (.cons .sl (.cons (.int .i64) .nil))) x ∧ K x h' :=
  callsH_of_fn (P := Try.prog) (fn := Try.f68) (τ := (.tup (.cons .sl (.cons (.int .i64) .nil)))) follows Try.func68 (by kernel_rfl) (by kernel_rfl) Try.call68 (Eq.mpr (E_dpll_search_follow a0 K h) hF)

def F_slices_ContainsFunc_clauses_Clause_lits_Lit (a0 : Sl) (a1 : Value) (K : Bool → HP) : HP :=
 callT Try.prog fn_slices_IndexFunc_clauses_Clause_lits_Lit #[(.slice a0.a a0.len a0.cap), a1] (.int .i64) fun r0 =>
 K (decide (r0 ≥ (0 : Int)))
set_option maxRecDepth 100000 in
theorem E_slices_ContainsFunc_clauses_Clause_lits_Lit (a0 : Sl) (a1 : Value) (K : Bool → HP) (h : Heap) : fnVC Try.prog [(1000000, .nil)] 9 Try.f70 [(.slice a0.a a0.len a0.cap), a1] .bool K h = F_slices_ContainsFunc_clauses_Clause_lits_Lit a0 a1 K h := by kernel_rfl
set_option maxRecDepth 100000 in
theorem S_slices_ContainsFunc_clauses_Clause_lits_Lit{h : Heap} {a0 : Sl} {a1 : Value} (K : Bool → HP) (hF : F_slices_ContainsFunc_clauses_Clause_lits_Lit a0 a1 K h) : CallsH Try.prog fn_slices_ContainsFunc_clauses_Clause_lits_Lit #[(.slice a0.a a0.len a0.cap), a1] h fun v h' => ∃ x : Bool, v = Ty.enc .bool x ∧ K x h' :=
  callsH_of_fn (P := Try.prog) (fn := Try.f70) (τ := .bool) follows Try.func70 (by kernel_rfl) (by kernel_rfl) Try.call70 (Eq.mpr (E_slices_ContainsFunc_clauses_Clause_lits_Lit a0 a1 K h) hF)

def F_formula_beyond (a0 : Int) (K : Value → HP) : HP :=
 nw #[(.int .i64 a0)] ty_int fun b0 =>
 K (.func (.func fn_formula_beyond_1) #[] #[(.pointer (some (⟨b0, 0, none⟩ : Addr)))])
set_option maxRecDepth 100000 in
theorem E_formula_beyond (a0 : Int) (K : Value → HP) (h : Heap) : fnVC Try.prog [(1000000, .nil)] 4 Try.f71 [(.int .i64 a0)] .val K h = F_formula_beyond a0 K h := by kernel_rfl
set_option maxRecDepth 100000 in
theorem S_formula_beyond{h : Heap} {a0 : Int} (K : Value → HP) (hF : F_formula_beyond a0 K h) : CallsH Try.prog fn_formula_beyond #[(.int .i64 a0)] h fun v h' => ∃ x : Value, v = Ty.enc .val x ∧ K x h' :=
  callsH_of_fn (P := Try.prog) (fn := Try.f71) (τ := .val) follows Try.func71 (by kernel_rfl) (by kernel_rfl) Try.call71 (Eq.mpr (E_formula_beyond a0 K h) hF)

def F_lits_Compare (a0 : Int) (a1 : Int) (K : Int → HP) : HP :=
 callT Try.prog fn_lits_Index #[(.int .i64 a0)] (.tup (.cons (.int .i64) (.cons (.int .i64) .nil))) fun r0 =>
 callT Try.prog fn_lits_Index #[(.int .i64 a1)] (.tup (.cons (.int .i64) (.cons (.int .i64) .nil))) fun r1 =>
 brB (r0.2.1 == (0 : Int))
 (brB (r1.2.1 == (0 : Int))
 (callT Try.prog fn_cmp_Compare_int #[(.int .i64 r0.1), (.int .i64 r1.1)] (.int .i64) fun r2 =>
 K r2)
 (brB (r0.2.1 == (0 : Int))
 (K (1 : Int))
 (brB (r1.2.1 == (0 : Int))
 (K (-1 : Int))
 (callT Try.prog fn_cmp_Compare_lits_Lit #[(.int .i64 a0), (.int .i64 a1)] (.int .i64) fun r3 =>
 K r3))))
 (brB (r0.2.1 == (0 : Int))
 (K (1 : Int))
 (brB (r1.2.1 == (0 : Int))
 (K (-1 : Int))
 (callT Try.prog fn_cmp_Compare_lits_Lit #[(.int .i64 a0), (.int .i64 a1)] (.int .i64) fun r4 =>
 K r4)))
set_option maxRecDepth 100000 in
theorem E_lits_Compare (a0 : Int) (a1 : Int) (K : Int → HP) (h : Heap) : fnVC Try.prog [(1000000, .nil)] 38 Try.f77 [(.int .i64 a0), (.int .i64 a1)] (.int .i64) K h = F_lits_Compare a0 a1 K h := by kernel_rfl
set_option maxRecDepth 100000 in
theorem S_lits_Compare{h : Heap} {a0 : Int} {a1 : Int} (K : Int → HP) (hF : F_lits_Compare a0 a1 K h) : CallsH Try.prog fn_lits_Compare #[(.int .i64 a0), (.int .i64 a1)] h fun v h' => ∃ x : Int, v = Ty.enc (.int .i64) x ∧ K x h' :=
  callsH_of_fn (P := Try.prog) (fn := Try.f77) (τ := (.int .i64)) follows Try.func77 (by kernel_rfl) (by kernel_rfl) Try.call77 (Eq.mpr (E_lits_Compare a0 a1 K h) hF)

def F_clauses_wrong (a0 : Int) (K : Bool → HP) : HP :=
 callT Try.prog fn_lits_Right #[(.int .i64 a0)] .bool fun r0 =>
 K (!r0)
set_option maxRecDepth 100000 in
theorem E_clauses_wrong (a0 : Int) (K : Bool → HP) (h : Heap) : fnVC Try.prog [(1000000, .nil)] 6 Try.f78 [(.int .i64 a0)] .bool K h = F_clauses_wrong a0 K h := by kernel_rfl
set_option maxRecDepth 100000 in
theorem S_clauses_wrong{h : Heap} {a0 : Int} (K : Bool → HP) (hF : F_clauses_wrong a0 K h) : CallsH Try.prog fn_clauses_wrong #[(.int .i64 a0)] h fun v h' => ∃ x : Bool, v = Ty.enc .bool x ∧ K x h' :=
  callsH_of_fn (P := Try.prog) (fn := Try.f78) (τ := .bool) follows Try.func78 (by kernel_rfl) (by kernel_rfl) Try.call78 (Eq.mpr (E_clauses_wrong a0 K h) hF)

def F_salvorref02_Right (a0 : Sl) (K : Bool → HP) : HP :=
 brB (decide ((a0.len : Int) > (4096 : Int)))
 (K false)
 (lfp (σ := (Int × (Bool × Unit))) (fun X0 s1 => /- i  -/
 brB (decide (s1.1 < (a0.len : Int)))
 (sx a0.a a0.len s1.1 1 fun p2 =>
 ldT (.int .i64) p2 fun x3 =>
 callT Try.prog fn_salvorref01_Right #[(.int .i64 x3)] .bool fun r4 =>
 brB (!r4)
 (K false)
 (X0 ((IntKind.wrap .i64 (s1.1 + (1 : Int))), s1.2.1, ())))
 (K true))
 ((0 : Int), false, ()))
set_option maxRecDepth 100000 in
theorem E_salvorref02_Right (a0 : Sl) (K : Bool → HP) (h : Heap) : fnVC Try.prog [(1000000, .nil)] 19 Try.f82 [(.slice a0.a a0.len a0.cap)] .bool K h = F_salvorref02_Right a0 K h := by kernel_rfl
set_option maxRecDepth 100000 in
theorem S_salvorref02_Right{h : Heap} {a0 : Sl} (K : Bool → HP) (hF : F_salvorref02_Right a0 K h) : CallsH Try.prog fn_salvorref02_Right #[(.slice a0.a a0.len a0.cap)] h fun v h' => ∃ x : Bool, v = Ty.enc .bool x ∧ K x h' :=
  callsH_of_fn (P := Try.prog) (fn := Try.f82) (τ := .bool) follows Try.func82 (by kernel_rfl) (by kernel_rfl) Try.call82 (Eq.mpr (E_salvorref02_Right a0 K h) hF)

def F_salvorref01_Var (a0 : Int) (K : Int → HP) : HP :=
 callT Try.prog fn_salvorref01_Right #[(.int .i64 a0)] .bool fun r0 =>
 brB (!r0)
 (K (0 : Int))
 (brB (decide (a0 < (0 : Int)))
 (K (IntKind.wrap .i64 (0 - a0)))
 (K a0))
set_option maxRecDepth 100000 in
theorem E_salvorref01_Var (a0 : Int) (K : Int → HP) (h : Heap) : fnVC Try.prog [(1000000, .nil)] 11 Try.f83 [(.int .i64 a0)] (.int .i64) K h = F_salvorref01_Var a0 K h := by kernel_rfl
set_option maxRecDepth 100000 in
theorem S_salvorref01_Var{h : Heap} {a0 : Int} (K : Int → HP) (hF : F_salvorref01_Var a0 K h) : CallsH Try.prog fn_salvorref01_Var #[(.int .i64 a0)] h fun v h' => ∃ x : Int, v = Ty.enc (.int .i64) x ∧ K x h' :=
  callsH_of_fn (P := Try.prog) (fn := Try.f83) (τ := (.int .i64)) follows Try.func83 (by kernel_rfl) (by kernel_rfl) Try.call83 (Eq.mpr (E_salvorref01_Var a0 K h) hF)

def F_salvorref01_Greatest (a0 : Sl) (K : Int → HP) : HP :=
 lfp (σ := (Int × (Int × Unit))) (fun X0 s1 => /- i n -/
 brB (decide (s1.1 < (a0.len : Int)))
 (sx a0.a a0.len s1.1 1 fun p2 =>
 ldT (.int .i64) p2 fun x3 =>
 callT Try.prog fn_salvorref01_Var #[(.int .i64 x3)] (.int .i64) fun r4 =>
 jn (σ := (Int × Unit)) (fun s6 => /- n -/
 X0 ((IntKind.wrap .i64 (s1.1 + (1 : Int))), s6.1, ()))
 (fun J5 =>
 brB (decide (r4 > s1.2.1))
 (sx a0.a a0.len s1.1 1 fun p7 =>
 ldT (.int .i64) p7 fun x8 =>
 callT Try.prog fn_salvorref01_Var #[(.int .i64 x8)] (.int .i64) fun r9 =>
 J5 (r9, ()))
 (J5 (s1.2.1, ()))))
 (K s1.2.1))
 ((0 : Int), (0 : Int), ())
set_option maxRecDepth 100000 in
theorem E_salvorref01_Greatest (a0 : Sl) (K : Int → HP) (h : Heap) : fnVC Try.prog [(1000000, .nil)] 24 Try.f84 [(.slice a0.a a0.len a0.cap)] (.int .i64) K h = F_salvorref01_Greatest a0 K h := by kernel_rfl
set_option maxRecDepth 100000 in
theorem S_salvorref01_Greatest{h : Heap} {a0 : Sl} (K : Int → HP) (hF : F_salvorref01_Greatest a0 K h) : CallsH Try.prog fn_salvorref01_Greatest #[(.slice a0.a a0.len a0.cap)] h fun v h' => ∃ x : Int, v = Ty.enc (.int .i64) x ∧ K x h' :=
  callsH_of_fn (P := Try.prog) (fn := Try.f84) (τ := (.int .i64)) follows Try.func84 (by kernel_rfl) (by kernel_rfl) Try.call84 (Eq.mpr (E_salvorref01_Greatest a0 K h) hF)

def F_salvorref02_Always (a0 : Sl) (K : Bool → HP) : HP :=
 lfp (σ := (Int × (Bool × Unit))) (fun X0 s1 => /- i  -/
 brB (decide (s1.1 < (a0.len : Int)))
 (sx a0.a a0.len s1.1 1 fun p2 =>
 ldT (.int .i64) p2 fun x3 =>
 callT Try.prog fn_salvorref02_Has #[(.slice a0.a a0.len a0.cap), (.int .i64 (IntKind.wrap .i64 (0 - x3)))] .bool fun r4 =>
 brB r4
 (K true)
 (X0 ((IntKind.wrap .i64 (s1.1 + (1 : Int))), s1.2.1, ())))
 (K false))
 ((0 : Int), false, ())
set_option maxRecDepth 100000 in
theorem E_salvorref02_Always (a0 : Sl) (K : Bool → HP) (h : Heap) : fnVC Try.prog [(1000000, .nil)] 17 Try.f85 [(.slice a0.a a0.len a0.cap)] .bool K h = F_salvorref02_Always a0 K h := by kernel_rfl
set_option maxRecDepth 100000 in
theorem S_salvorref02_Always{h : Heap} {a0 : Sl} (K : Bool → HP) (hF : F_salvorref02_Always a0 K h) : CallsH Try.prog fn_salvorref02_Always #[(.slice a0.a a0.len a0.cap)] h fun v h' => ∃ x : Bool, v = Ty.enc .bool x ∧ K x h' :=
  callsH_of_fn (P := Try.prog) (fn := Try.f85) (τ := .bool) follows Try.func85 (by kernel_rfl) (by kernel_rfl) Try.call85 (Eq.mpr (E_salvorref02_Always a0 K h) hF)

end Go.Proofs.S
