/- The functions of the seat, each as a predicate over its values, printed by a program of ours, and that each is its text's. -/
import Derived.Test.YtmlamkoilggonaaGreatSx10
import Derived.KernelRfl
import Derived.Test.YtmlamkoilggonaaGreatProg
import Derived.Test.YtmlamkoilggonaaGreatClF0
set_option linter.unusedVariables false
namespace Go.Proofs.S
open Go Go.Sx Go.Proofs
def F_salvorlaw05_awake (K : Bool → HP) : HP :=
 nw #[(.int .i64 (1 : Int)), (.int .i64 (2 : Int))] ty_int fun b0 =>
 nw #[(.int .i64 (-1 : Int)), (.int .i64 (3 : Int))] ty_int fun b1 =>
 nw #[(.slice (some (⟨b0, 0, none⟩ : Addr)) 2 2), (.slice (some (⟨b1, 0, none⟩ : Addr)) 2 2)] ty_sl_int fun b2 =>
 callT Tryz.prog fn_salvorlaw05_Of #[(.int .i64 (3 : Int)), (.slice (some (⟨b2, 0, none⟩ : Addr)) 2 2)] (.agg (.cons (.int .i64) (.cons .sl .nil))) fun r3 =>
 nw #[(.int .i64 (0 : Int)), (.slice none 0 0)] ty_formula_Formula fun b4 =>
 st1 (⟨b4, 0, none⟩ : Addr) (.int .i64 r3.1) <|
 st1 ((⟨b4, 0, none⟩ : Addr).add 1) (.slice r3.2.1.a r3.2.1.len r3.2.1.cap) <|
 ldA (.cons (.int .i64) (.cons .sl .nil)) (⟨b4, 0, none⟩ : Addr) fun x5 =>
 callT Tryz.prog fn_formula_Count #[(.agg #[(.int .i64 x5.1), (.slice x5.2.1.a x5.2.1.len x5.2.1.cap)])] (.tup (.cons (.int .i64) (.cons (.int .i64) .nil))) fun r6 =>
 ldA (.cons (.int .i64) (.cons .sl .nil)) (⟨b4, 0, none⟩ : Addr) fun x7 =>
 callT Tryz.prog fn_formula_First #[(.agg #[(.int .i64 x7.1), (.slice x7.2.1.a x7.2.1.len x7.2.1.cap)])] (.tup (.cons .sl (.cons .bool (.cons (.int .i64) .nil)))) fun r8 =>
 ldA (.cons (.int .i64) (.cons .sl .nil)) (⟨b4, 0, none⟩ : Addr) fun x9 =>
 nw #[(.bool true), (.bool false), (.bool false)] ty_bool fun b10 =>
 callT Tryz.prog fn_formula_Fails #[(.agg #[(.int .i64 x9.1), (.slice x9.2.1.a x9.2.1.len x9.2.1.cap)]), (.slice (some (⟨b10, 0, none⟩ : Addr)) 3 3)] (.tup (.cons (.int .i64) (.cons .bool (.cons (.int .i64) .nil)))) fun r11 =>
 ldA (.cons (.int .i64) (.cons .sl .nil)) (⟨b4, 0, none⟩ : Addr) fun x12 =>
 callT Tryz.prog fn_formula_Assign #[(.agg #[(.int .i64 x12.1), (.slice x12.2.1.a x12.2.1.len x12.2.1.cap)]), (.int .i64 (1 : Int))] (.tup (.cons (.agg (.cons (.int .i64) (.cons .sl .nil))) (.cons (.int .i64) .nil))) fun r13 =>
 nw #[(.int .i64 (0 : Int)), (.slice none 0 0)] ty_formula_Formula fun b14 =>
 st1 (⟨b14, 0, none⟩ : Addr) (.int .i64 r13.1.1) <|
 st1 ((⟨b14, 0, none⟩ : Addr).add 1) (.slice r13.1.2.1.a r13.1.2.1.len r13.1.2.1.cap) <|
 ldA (.cons (.int .i64) (.cons .sl .nil)) (⟨b4, 0, none⟩ : Addr) fun x15 =>
 callT Tryz.prog fn_formula_Assign #[(.agg #[(.int .i64 x15.1), (.slice x15.2.1.a x15.2.1.len x15.2.1.cap)]), (.int .i64 (-1 : Int))] (.tup (.cons (.agg (.cons (.int .i64) (.cons .sl .nil))) (.cons (.int .i64) .nil))) fun r16 =>
 nw #[(.int .i64 (0 : Int)), (.slice none 0 0)] ty_formula_Formula fun b17 =>
 st1 (⟨b17, 0, none⟩ : Addr) (.int .i64 r16.1.1) <|
 st1 ((⟨b17, 0, none⟩ : Addr).add 1) (.slice r16.1.2.1.a r16.1.2.1.len r16.1.2.1.cap) <|
 nw #[(.int .i64 (2 : Int)), (.int .i64 (1 : Int)), (.int .i64 (2 : Int))] ty_int fun b18 =>
 nw #[(.int .i64 (3 : Int)), (.int .i64 (-3 : Int))] ty_int fun b19 =>
 nw #[(.int .i64 (1 : Int)), (.int .i64 (2 : Int))] ty_int fun b20 =>
 nw #[(.slice (some (⟨b18, 0, none⟩ : Addr)) 3 3), (.slice (some (⟨b19, 0, none⟩ : Addr)) 2 2), (.slice (some (⟨b20, 0, none⟩ : Addr)) 2 2)] ty_sl_int fun b21 =>
 callT Tryz.prog fn_salvorlaw05_Of #[(.int .i64 (3 : Int)), (.slice (some (⟨b21, 0, none⟩ : Addr)) 3 3)] (.agg (.cons (.int .i64) (.cons .sl .nil))) fun r22 =>
 callT Tryz.prog fn_formula_Norm #[(.agg #[(.int .i64 r22.1), (.slice r22.2.1.a r22.2.1.len r22.2.1.cap)])] (.tup (.cons (.agg (.cons (.int .i64) (.cons .sl .nil))) (.cons (.int .i64) .nil))) fun r23 =>
 nw #[(.int .i64 (0 : Int)), (.slice none 0 0)] ty_formula_Formula fun b24 =>
 st1 (⟨b24, 0, none⟩ : Addr) (.int .i64 r23.1.1) <|
 st1 ((⟨b24, 0, none⟩ : Addr).add 1) (.slice r23.1.2.1.a r23.1.2.1.len r23.1.2.1.cap) <|
 callT Tryz.prog fn_salvorlaw05_Of #[(.int .i64 (3 : Int)), (.slice none 0 0)] (.agg (.cons (.int .i64) (.cons .sl .nil))) fun r25 =>
 callT Tryz.prog fn_formula_Count #[(.agg #[(.int .i64 r25.1), (.slice r25.2.1.a r25.2.1.len r25.2.1.cap)])] (.tup (.cons (.int .i64) (.cons (.int .i64) .nil))) fun r26 =>
 nw #[(.slice none 0 0)] ty_sl_int fun b27 =>
 callT Tryz.prog fn_salvorlaw05_Of #[(.int .i64 (3 : Int)), (.slice (some (⟨b27, 0, none⟩ : Addr)) 1 1)] (.agg (.cons (.int .i64) (.cons .sl .nil))) fun r28 =>
 callT Tryz.prog fn_formula_Count #[(.agg #[(.int .i64 r28.1), (.slice r28.2.1.a r28.2.1.len r28.2.1.cap)])] (.tup (.cons (.int .i64) (.cons (.int .i64) .nil))) fun r29 =>
 brB ((IntKind.wrap .i64 ((IntKind.wrap .i64 ((IntKind.wrap .i64 ((IntKind.wrap .i64 ((IntKind.wrap .i64 ((IntKind.wrap .i64 ((IntKind.wrap .i64 (r6.2.1 + r8.2.2.1)) + r11.2.2.1)) + r13.2.1)) + r16.2.1)) + r23.2.1)) + r26.2.1)) + r29.2.1)) == (0 : Int))
 (brB (r6.1 == (4 : Int))
 (brB r8.2.1
 (nw #[(.bool false), (.bool true), (.bool false)] ty_bool fun b30 =>
 callT Tryz.prog fn_slices_Equal_bool_bool #[(.slice r8.1.a r8.1.len r8.1.cap), (.slice (some (⟨b30, 0, none⟩ : Addr)) 3 3)] .bool fun r31 =>
 brB r31
 (brB (r11.1 == (1 : Int))
 (brB r11.2.1
 (ldA (.cons (.int .i64) (.cons .sl .nil)) (⟨b14, 0, none⟩ : Addr) fun x32 =>
 nw #[(.int .i64 (3 : Int))] ty_int fun b33 =>
 nw #[(.slice (some (⟨b33, 0, none⟩ : Addr)) 1 1)] ty_sl_int fun b34 =>
 callT Tryz.prog fn_salvorlaw05_Of #[(.int .i64 (3 : Int)), (.slice (some (⟨b34, 0, none⟩ : Addr)) 1 1)] (.agg (.cons (.int .i64) (.cons .sl .nil))) fun r35 =>
 ckA (⟨b14, 0, none⟩ : Addr) [(.int .i64 x32.1), (.slice x32.2.1.a x32.2.1.len x32.2.1.cap)] <|
 callT Tryz.prog fn_formula_Same #[(.agg #[(.int .i64 x32.1), (.slice x32.2.1.a x32.2.1.len x32.2.1.cap)]), (.agg #[(.int .i64 r35.1), (.slice r35.2.1.a r35.2.1.len r35.2.1.cap)])] .bool fun r36 =>
 brB r36
 (ldA (.cons (.int .i64) (.cons .sl .nil)) (⟨b17, 0, none⟩ : Addr) fun x37 =>
 nw #[(.int .i64 (2 : Int))] ty_int fun b38 =>
 nw #[(.slice (some (⟨b38, 0, none⟩ : Addr)) 1 1)] ty_sl_int fun b39 =>
 callT Tryz.prog fn_salvorlaw05_Of #[(.int .i64 (3 : Int)), (.slice (some (⟨b39, 0, none⟩ : Addr)) 1 1)] (.agg (.cons (.int .i64) (.cons .sl .nil))) fun r40 =>
 ckA (⟨b17, 0, none⟩ : Addr) [(.int .i64 x37.1), (.slice x37.2.1.a x37.2.1.len x37.2.1.cap)] <|
 callT Tryz.prog fn_formula_Same #[(.agg #[(.int .i64 x37.1), (.slice x37.2.1.a x37.2.1.len x37.2.1.cap)]), (.agg #[(.int .i64 r40.1), (.slice r40.2.1.a r40.2.1.len r40.2.1.cap)])] .bool fun r41 =>
 brB r41
 (ldA (.cons (.int .i64) (.cons .sl .nil)) (⟨b24, 0, none⟩ : Addr) fun x42 =>
 nw #[(.int .i64 (1 : Int)), (.int .i64 (2 : Int))] ty_int fun b43 =>
 nw #[(.slice (some (⟨b43, 0, none⟩ : Addr)) 2 2)] ty_sl_int fun b44 =>
 callT Tryz.prog fn_salvorlaw05_Of #[(.int .i64 (3 : Int)), (.slice (some (⟨b44, 0, none⟩ : Addr)) 1 1)] (.agg (.cons (.int .i64) (.cons .sl .nil))) fun r45 =>
 ckA (⟨b24, 0, none⟩ : Addr) [(.int .i64 x42.1), (.slice x42.2.1.a x42.2.1.len x42.2.1.cap)] <|
 callT Tryz.prog fn_formula_Same #[(.agg #[(.int .i64 x42.1), (.slice x42.2.1.a x42.2.1.len x42.2.1.cap)]), (.agg #[(.int .i64 r45.1), (.slice r45.2.1.a r45.2.1.len r45.2.1.cap)])] .bool fun r46 =>
 brB r46
 (brB (r26.1 == (8 : Int))
 (K (r29.1 == (0 : Int)))
 (K false))
 (K false))
 (K false))
 (K false))
 (K false))
 (K false))
 (K false))
 (K false))
 (K false))
 (K false)
set_option maxRecDepth 100000 in
theorem E_salvorlaw05_awake (K : Bool → HP) (h : Heap) : fnVC Tryz.prog [(1000000, .nil)] 136 Tryz.f12 [] .bool K h = F_salvorlaw05_awake K h := by kernel_rfl
set_option maxRecDepth 100000 in
theorem S_salvorlaw05_awake{h : Heap} (K : Bool → HP) (hF : F_salvorlaw05_awake K h) : CallsH Tryz.prog fn_salvorlaw05_awake #[] h fun v h' => ∃ x : Bool, v = Ty.enc .bool x ∧ K x h' :=
  callsH_of_fn (P := Tryz.prog) (fn := Tryz.f12) (τ := .bool) follows Tryz.func12 (by kernel_rfl) (by kernel_rfl) Tryz.call12 (Eq.mpr (E_salvorlaw05_awake K h) hF)

def F_salvorlaw05_Of (a0 : Int) (a1 : Sl) (K : (Int × (Sl × Unit)) → HP) : HP :=
 nw #[(.int .i64 (0 : Int)), (.slice none 0 0)] ty_formula_Formula fun b0 =>
 nw #[(.int .i64 (0 : Int)), (.slice none 0 0)] ty_formula_Formula fun b1 =>
 st1 (⟨b1, 0, none⟩ : Addr) (.int .i64 a0) <|
 st1 ((⟨b1, 0, none⟩ : Addr).add 1) (.slice none 0 0) <|
 lfp (σ := (Int × Unit)) (fun X2 s3 => /-  -/
 brB (decide (s3.1 < (a1.len : Int)))
 (sx a1.a a1.len s3.1 1 fun p4 =>
 ldT .sl p4 fun x5 =>
 ldT .sl ((⟨b1, 0, none⟩ : Addr).add 1) fun x6 =>
 callT Tryz.prog fn_salvorlaw02_Clause #[(.slice x5.a x5.len x5.cap)] .sl fun r7 =>
 ck ((⟨b1, 0, none⟩ : Addr).add 1) (.slice x6.a x6.len x6.cap) <|
 nw #[(.slice r7.a r7.len r7.cap)] ty_clauses_Clause fun b8 =>
 apd ty_clauses_Clause 1 24 #[(.slice none 0 0)] ⟨x6.a, x6.len, x6.cap⟩ ⟨(some (⟨b8, 0, none⟩ : Addr)), 1, 1⟩ fun s9 =>
 st1 ((⟨b1, 0, none⟩ : Addr).add 1) (.slice s9.a s9.len s9.cap) <|
 X2 ((IntKind.wrap .i64 (s3.1 + (1 : Int))), ()))
 (ldA (.cons (.int .i64) (.cons .sl .nil)) (⟨b1, 0, none⟩ : Addr) fun x10 =>
 st1 (⟨b0, 0, none⟩ : Addr) (.int .i64 x10.1) <|
 st1 ((⟨b0, 0, none⟩ : Addr).add 1) (.slice x10.2.1.a x10.2.1.len x10.2.1.cap) <|
 ldA (.cons (.int .i64) (.cons .sl .nil)) (⟨b0, 0, none⟩ : Addr) fun x11 =>
 K (x11.1, ⟨x11.2.1.a, x11.2.1.len, x11.2.1.cap⟩, ())))
 ((0 : Int), ())
set_option maxRecDepth 100000 in
theorem E_salvorlaw05_Of (a0 : Int) (a1 : Sl) (K : (Int × (Sl × Unit)) → HP) (h : Heap) : fnVC Tryz.prog [(1000000, .nil)] 25 Tryz.f13 [(.int .i64 a0), (.slice a1.a a1.len a1.cap)] (.agg (.cons (.int .i64) (.cons .sl .nil))) K h = F_salvorlaw05_Of a0 a1 K h := by kernel_rfl
set_option maxRecDepth 100000 in
theorem S_salvorlaw05_Of{h : Heap} {a0 : Int} {a1 : Sl} (K : (Int × (Sl × Unit)) → HP) (hF : F_salvorlaw05_Of a0 a1 K h) : CallsH Tryz.prog fn_salvorlaw05_Of #[(.int .i64 a0), (.slice a1.a a1.len a1.cap)] h fun v h' => ∃ x : (Int × (Sl × Unit)), v = Ty.enc (.agg (.cons (.int .i64) (.cons .sl .nil))) x ∧ K x h' :=
  callsH_of_fn (P := Tryz.prog) (fn := Tryz.f13) (τ := (.agg (.cons (.int .i64) (.cons .sl .nil)))) follows Tryz.func13 (by kernel_rfl) (by kernel_rfl) Tryz.call13 (Eq.mpr (E_salvorlaw05_Of a0 a1 K h) hF)

def F_formula_Check (a0 : (Int × (Sl × Unit))) (K : (Int × (Int × Unit)) → HP) : HP :=
 nw #[(.int .i64 a0.1), (.slice a0.2.1.a a0.2.1.len a0.2.1.cap)] ty_formula_Formula fun b0 =>
 ldT (.int .i64) (⟨b0, 0, none⟩ : Addr) fun x1 =>
 callT Tryz.prog fn_formula_vars #[(.int .i64 x1)] .bool fun r2 =>
 brB (!r2)
 (K ((-1 : Int), (50 : Int), ()))
 (ldT .sl ((⟨b0, 0, none⟩ : Addr).add 1) fun x3 =>
 brB (decide ((x3.len : Int) > (262144 : Int)))
 (K ((-1 : Int), (5 : Int), ()))
 (ldT .sl ((⟨b0, 0, none⟩ : Addr).add 1) fun x4 =>
 lfp (σ := (Int × (Int × (Int × Unit)))) (fun X5 s6 => /-    -/
 brB (decide (s6.1 < (x4.len : Int)))
 (sx x4.a x4.len s6.1 1 fun p7 =>
 ldT .sl p7 fun x8 =>
 callT Tryz.prog fn_clauses_Right #[(.slice x8.a x8.len x8.cap)] .bool fun r9 =>
 brB (!r9)
 (K (s6.1, (20 : Int), ()))
 (ldT (.int .i64) (⟨b0, 0, none⟩ : Addr) fun x10 =>
 callT Tryz.prog fn_formula_beyond #[(.int .i64 x10)] .val fun r11 =>
 callT Tryz.prog fn_slices_ContainsFunc_clauses_Clause_lits_Lit #[(.slice x8.a x8.len x8.cap), r11] .bool fun r12 =>
 brB r12
 (K (s6.1, (51 : Int), ()))
 (X5 ((IntKind.wrap .i64 (s6.1 + (1 : Int))), s6.2.1, s6.2.2.1, ()))))
 (K ((-1 : Int), (0 : Int), ())))
 ((0 : Int), (0 : Int), (0 : Int), ())))
set_option maxRecDepth 100000 in
theorem E_formula_Check (a0 : (Int × (Sl × Unit))) (K : (Int × (Int × Unit)) → HP) (h : Heap) : fnVC Tryz.prog [(1000000, .nil)] 37 Tryz.f14 [(.agg #[(.int .i64 a0.1), (.slice a0.2.1.a a0.2.1.len a0.2.1.cap)])] (.tup (.cons (.int .i64) (.cons (.int .i64) .nil))) K h = F_formula_Check a0 K h := by kernel_rfl
set_option maxRecDepth 100000 in
theorem S_formula_Check{h : Heap} {a0 : (Int × (Sl × Unit))} (K : (Int × (Int × Unit)) → HP) (hF : F_formula_Check a0 K h) : CallsH Tryz.prog fn_formula_Check #[(.agg #[(.int .i64 a0.1), (.slice a0.2.1.a a0.2.1.len a0.2.1.cap)])] h fun v h' => ∃ x : (Int × (Int × Unit)), v = Ty.enc (.tup (.cons (.int .i64) (.cons (.int .i64) .nil))) x ∧ K x h' :=
  callsH_of_fn (P := Tryz.prog) (fn := Tryz.f14) (τ := (.tup (.cons (.int .i64) (.cons (.int .i64) .nil)))) follows Tryz.func14 (by kernel_rfl) (by kernel_rfl) Tryz.call14 (Eq.mpr (E_formula_Check a0 K h) hF)

def F_formula_Count (a0 : (Int × (Sl × Unit))) (K : (Int × (Int × Unit)) → HP) : HP := fun h0 => (
 nw #[(.int .i64 a0.1), (.slice a0.2.1.a a0.2.1.len a0.2.1.cap)] ty_formula_Formula fun b0 =>
 ldA (.cons (.int .i64) (.cons .sl .nil)) (⟨b0, 0, none⟩ : Addr) fun x1 =>
 callT Tryz.prog fn_formula_Models #[(.agg #[(.int .i64 x1.1), (.slice x1.2.1.a x1.2.1.len x1.2.1.cap)])] (.tup (.cons .val (.cons (.int .i64) .nil))) fun r2 =>
 brB (r2.2.1 != (0 : Int))
 (mkd h0.size <|
 K ((0 : Int), r2.2.1, ()))
 (nw #[(.int .i64 (0 : Int))] ty_int fun b3 =>
 st1 (⟨b3, 0, none⟩ : Addr) (.int .i64 (0 : Int)) <|
 RangeVC Tryz.prog (.cons .val .nil) r2.1 (fun x4 wrap5 next6 jump7 =>
 wrap5 <|
 ldT (.int .i64) (⟨b3, 0, none⟩ : Addr) fun x8 =>
 st1 (⟨b3, 0, none⟩ : Addr) (.int .i64 (IntKind.wrap .i64 (x8 + (1 : Int)))) <|
 next6)
 (ldT (.int .i64) (⟨b3, 0, none⟩ : Addr) fun x9 =>
 mkd h0.size <|
 K (x9, (0 : Int), ()))
 (mkd h0.size <|
 K ((0 : Int), (0 : Int), ()))
 []
 [])) h0
set_option maxRecDepth 100000 in
theorem E_formula_Count (a0 : (Int × (Sl × Unit))) (K : (Int × (Int × Unit)) → HP) (h : Heap) : fnVC Tryz.prog [(1000000, .nil), (16, (.cons .val .nil))] 20 Tryz.f15 [(.agg #[(.int .i64 a0.1), (.slice a0.2.1.a a0.2.1.len a0.2.1.cap)])] (.tup (.cons (.int .i64) (.cons (.int .i64) .nil))) K h = F_formula_Count a0 K h := by kernel_rfl
set_option maxRecDepth 100000 in
theorem S_formula_Count{h : Heap} {a0 : (Int × (Sl × Unit))} (K : (Int × (Int × Unit)) → HP) (hF : F_formula_Count a0 K h) : CallsH Tryz.prog fn_formula_Count #[(.agg #[(.int .i64 a0.1), (.slice a0.2.1.a a0.2.1.len a0.2.1.cap)])] h fun v h' => ∃ x : (Int × (Int × Unit)), v = Ty.enc (.tup (.cons (.int .i64) (.cons (.int .i64) .nil))) x ∧ K x h' :=
  callsH_of_fn (P := Tryz.prog) (fn := Tryz.f15) (τ := (.tup (.cons (.int .i64) (.cons (.int .i64) .nil)))) follows Tryz.func15 (by kernel_rfl) (by kernel_rfl) Tryz.call15 (Eq.mpr (E_formula_Count a0 K h) hF)

def F_formula_Model (a0 : Int) (a1 : Sl) (K : (Sl × (Int × Unit)) → HP) : HP :=
 callT Tryz.prog fn_formula_vars #[(.int .i64 a0)] .bool fun r0 =>
 brB (!r0)
 (K (⟨none, 0, 0⟩, (50 : Int), ()))
 (cj
 (mks ty_bool 1 1 #[(.bool false)] a0 a0 fun s1 =>
 cj
 (mks ty_bool 1 1 #[(.bool false)] a0 a0 fun s2 =>
 lfp (σ := (Int × (Int × (Sl × Unit)))) (fun X3 s4 => /-    -/
 brB (decide (s4.1 < (a1.len : Int)))
 (sx a1.a a1.len s4.1 1 fun p5 =>
 ldT (.int .i64) p5 fun x6 =>
 callT Tryz.prog fn_formula_beyond #[(.int .i64 a0)] .val fun r7 =>
 callF Tryz.prog r7 #[(.int .i64 x6)] .bool fun r8 =>
 brB r8
 (K (⟨none, 0, 0⟩, (51 : Int), ()))
 (callT Tryz.prog fn_lits_Var #[(.int .i64 x6)] (.int .i64) fun r9 =>
 sx s2.a s2.len (IntKind.wrap .i64 (r9 - (1 : Int))) 1 fun p10 =>
 ldT .bool p10 fun x11 =>
 brB x11
 (sx s1.a s1.len (IntKind.wrap .i64 (r9 - (1 : Int))) 1 fun p12 =>
 ldT .bool p12 fun x13 =>
 callT Tryz.prog fn_lits_Negated #[(.int .i64 x6)] .bool fun r14 =>
 ck p12 (.bool x13) <|
 brB (x13 == r14)
 (K (⟨none, 0, 0⟩, (52 : Int), ()))
 (callT Tryz.prog fn_lits_Negated #[(.int .i64 x6)] .bool fun r15 =>
 sx s1.a s1.len (IntKind.wrap .i64 (r9 - (1 : Int))) 1 fun p16 =>
 st1 p16 (.bool (!r15)) <|
 sx s2.a s2.len (IntKind.wrap .i64 (r9 - (1 : Int))) 1 fun p17 =>
 st1 p17 (.bool true) <|
 X3 ((IntKind.wrap .i64 (s4.1 + (1 : Int))), s4.2.1, ⟨s4.2.2.1.a, s4.2.2.1.len, s4.2.2.1.cap⟩, ())))
 (callT Tryz.prog fn_lits_Negated #[(.int .i64 x6)] .bool fun r18 =>
 sx s1.a s1.len (IntKind.wrap .i64 (r9 - (1 : Int))) 1 fun p19 =>
 st1 p19 (.bool (!r18)) <|
 sx s2.a s2.len (IntKind.wrap .i64 (r9 - (1 : Int))) 1 fun p20 =>
 st1 p20 (.bool true) <|
 X3 ((IntKind.wrap .i64 (s4.1 + (1 : Int))), s4.2.1, ⟨s4.2.2.1.a, s4.2.2.1.len, s4.2.2.1.cap⟩, ()))))
 (K (⟨s1.a, s1.len, s1.cap⟩, (0 : Int), ())))
 ((0 : Int), (0 : Int), ⟨none, 0, 0⟩, ()))
 (mks ty_bool 1 1 #[(.bool false)] a0 a0 fun s21 =>
 lfp (σ := (Int × (Int × (Sl × Unit)))) (fun X22 s23 => /-    -/
 brB (decide (s23.1 < (a1.len : Int)))
 (sx a1.a a1.len s23.1 1 fun p24 =>
 ldT (.int .i64) p24 fun x25 =>
 callT Tryz.prog fn_formula_beyond #[(.int .i64 a0)] .val fun r26 =>
 callF Tryz.prog r26 #[(.int .i64 x25)] .bool fun r27 =>
 brB r27
 (K (⟨none, 0, 0⟩, (51 : Int), ()))
 (callT Tryz.prog fn_lits_Var #[(.int .i64 x25)] (.int .i64) fun r28 =>
 sx s21.a s21.len (IntKind.wrap .i64 (r28 - (1 : Int))) 1 fun p29 =>
 ldT .bool p29 fun x30 =>
 brB x30
 (sx s1.a s1.len (IntKind.wrap .i64 (r28 - (1 : Int))) 1 fun p31 =>
 ldT .bool p31 fun x32 =>
 callT Tryz.prog fn_lits_Negated #[(.int .i64 x25)] .bool fun r33 =>
 ck p31 (.bool x32) <|
 brB (x32 == r33)
 (K (⟨none, 0, 0⟩, (52 : Int), ()))
 (callT Tryz.prog fn_lits_Negated #[(.int .i64 x25)] .bool fun r34 =>
 sx s1.a s1.len (IntKind.wrap .i64 (r28 - (1 : Int))) 1 fun p35 =>
 st1 p35 (.bool (!r34)) <|
 sx s21.a s21.len (IntKind.wrap .i64 (r28 - (1 : Int))) 1 fun p36 =>
 st1 p36 (.bool true) <|
 X22 ((IntKind.wrap .i64 (s23.1 + (1 : Int))), s23.2.1, ⟨s23.2.2.1.a, s23.2.2.1.len, s23.2.2.1.cap⟩, ())))
 (callT Tryz.prog fn_lits_Negated #[(.int .i64 x25)] .bool fun r37 =>
 sx s1.a s1.len (IntKind.wrap .i64 (r28 - (1 : Int))) 1 fun p38 =>
 st1 p38 (.bool (!r37)) <|
 sx s21.a s21.len (IntKind.wrap .i64 (r28 - (1 : Int))) 1 fun p39 =>
 st1 p39 (.bool true) <|
 X22 ((IntKind.wrap .i64 (s23.1 + (1 : Int))), s23.2.1, ⟨s23.2.2.1.a, s23.2.2.1.len, s23.2.2.1.cap⟩, ()))))
 (K (⟨s1.a, s1.len, s1.cap⟩, (0 : Int), ())))
 ((0 : Int), (0 : Int), ⟨none, 0, 0⟩, ())))
 (mks ty_bool 1 1 #[(.bool false)] a0 a0 fun s40 =>
 mks ty_bool 1 1 #[(.bool false)] a0 a0 fun s41 =>
 lfp (σ := (Int × (Int × (Sl × Unit)))) (fun X42 s43 => /-    -/
 brB (decide (s43.1 < (a1.len : Int)))
 (sx a1.a a1.len s43.1 1 fun p44 =>
 ldT (.int .i64) p44 fun x45 =>
 callT Tryz.prog fn_formula_beyond #[(.int .i64 a0)] .val fun r46 =>
 callF Tryz.prog r46 #[(.int .i64 x45)] .bool fun r47 =>
 brB r47
 (K (⟨none, 0, 0⟩, (51 : Int), ()))
 (callT Tryz.prog fn_lits_Var #[(.int .i64 x45)] (.int .i64) fun r48 =>
 sx s40.a s40.len (IntKind.wrap .i64 (r48 - (1 : Int))) 1 fun p49 =>
 ldT .bool p49 fun x50 =>
 brB x50
 (sx s41.a s41.len (IntKind.wrap .i64 (r48 - (1 : Int))) 1 fun p51 =>
 ldT .bool p51 fun x52 =>
 callT Tryz.prog fn_lits_Negated #[(.int .i64 x45)] .bool fun r53 =>
 ck p51 (.bool x52) <|
 brB (x52 == r53)
 (K (⟨none, 0, 0⟩, (52 : Int), ()))
 (callT Tryz.prog fn_lits_Negated #[(.int .i64 x45)] .bool fun r54 =>
 sx s41.a s41.len (IntKind.wrap .i64 (r48 - (1 : Int))) 1 fun p55 =>
 st1 p55 (.bool (!r54)) <|
 sx s40.a s40.len (IntKind.wrap .i64 (r48 - (1 : Int))) 1 fun p56 =>
 st1 p56 (.bool true) <|
 X42 ((IntKind.wrap .i64 (s43.1 + (1 : Int))), s43.2.1, ⟨s43.2.2.1.a, s43.2.2.1.len, s43.2.2.1.cap⟩, ())))
 (callT Tryz.prog fn_lits_Negated #[(.int .i64 x45)] .bool fun r57 =>
 sx s41.a s41.len (IntKind.wrap .i64 (r48 - (1 : Int))) 1 fun p58 =>
 st1 p58 (.bool (!r57)) <|
 sx s40.a s40.len (IntKind.wrap .i64 (r48 - (1 : Int))) 1 fun p59 =>
 st1 p59 (.bool true) <|
 X42 ((IntKind.wrap .i64 (s43.1 + (1 : Int))), s43.2.1, ⟨s43.2.2.1.a, s43.2.2.1.len, s43.2.2.1.cap⟩, ()))))
 (K (⟨s41.a, s41.len, s41.cap⟩, (0 : Int), ())))
 ((0 : Int), (0 : Int), ⟨none, 0, 0⟩, ())))
set_option maxRecDepth 100000 in
theorem E_formula_Model (a0 : Int) (a1 : Sl) (K : (Sl × (Int × Unit)) → HP) (h : Heap) : fnVC Tryz.prog [(1000000, .nil)] 55 Tryz.f16 [(.int .i64 a0), (.slice a1.a a1.len a1.cap)] (.tup (.cons .sl (.cons (.int .i64) .nil))) K h = F_formula_Model a0 a1 K h := by kernel_rfl
set_option maxRecDepth 100000 in
theorem S_formula_Model{h : Heap} {a0 : Int} {a1 : Sl} (K : (Sl × (Int × Unit)) → HP) (hF : F_formula_Model a0 a1 K h) : CallsH Tryz.prog fn_formula_Model #[(.int .i64 a0), (.slice a1.a a1.len a1.cap)] h fun v h' => ∃ x : (Sl × (Int × Unit)), v = Ty.enc (.tup (.cons .sl (.cons (.int .i64) .nil))) x ∧ K x h' :=
  callsH_of_fn (P := Tryz.prog) (fn := Tryz.f16) (τ := (.tup (.cons .sl (.cons (.int .i64) .nil)))) follows Tryz.func16 (by kernel_rfl) (by kernel_rfl) Tryz.call16 (Eq.mpr (E_formula_Model a0 a1 K h) hF)

def F_salvorlaw05_Made (a0 : Sl) (K : (Int × (Sl × Unit)) → HP) : HP :=
 nw #[(.int .i64 (0 : Int)), (.slice none 0 0)] ty_formula_Formula fun b0 =>
 nw #[(.int .i64 (0 : Int)), (.slice none 0 0)] ty_formula_Formula fun b1 =>
 st1 (⟨b1, 0, none⟩ : Addr) (.int .i64 (8 : Int)) <|
 st1 ((⟨b1, 0, none⟩ : Addr).add 1) (.slice none 0 0) <|
 slH ⟨a0.a, a0.len, a0.cap⟩ (if (30 : Int) < (a0.len : Int) then (30 : Int) else (a0.len : Int)) 1 fun s2 =>
 lfp (σ := (Int × Unit)) (fun X3 s4 => /-  -/
 brB (decide (s4.1 < (s2.len : Int)))
 (sx s2.a s2.len s4.1 1 fun p5 =>
 ldT .sl p5 fun x6 =>
 ldT .sl ((⟨b1, 0, none⟩ : Addr).add 1) fun x7 =>
 callT Tryz.prog fn_salvorlaw02_Made #[(.slice x6.a x6.len x6.cap)] .sl fun r8 =>
 ck ((⟨b1, 0, none⟩ : Addr).add 1) (.slice x7.a x7.len x7.cap) <|
 nw #[(.slice r8.a r8.len r8.cap)] ty_clauses_Clause fun b9 =>
 apd ty_clauses_Clause 1 24 #[(.slice none 0 0)] ⟨x7.a, x7.len, x7.cap⟩ ⟨(some (⟨b9, 0, none⟩ : Addr)), 1, 1⟩ fun s10 =>
 st1 ((⟨b1, 0, none⟩ : Addr).add 1) (.slice s10.a s10.len s10.cap) <|
 X3 ((IntKind.wrap .i64 (s4.1 + (1 : Int))), ()))
 (ldA (.cons (.int .i64) (.cons .sl .nil)) (⟨b1, 0, none⟩ : Addr) fun x11 =>
 st1 (⟨b0, 0, none⟩ : Addr) (.int .i64 x11.1) <|
 st1 ((⟨b0, 0, none⟩ : Addr).add 1) (.slice x11.2.1.a x11.2.1.len x11.2.1.cap) <|
 ldA (.cons (.int .i64) (.cons .sl .nil)) (⟨b0, 0, none⟩ : Addr) fun x12 =>
 K (x12.1, ⟨x12.2.1.a, x12.2.1.len, x12.2.1.cap⟩, ())))
 ((0 : Int), ())
set_option maxRecDepth 100000 in
theorem E_salvorlaw05_Made (a0 : Sl) (K : (Int × (Sl × Unit)) → HP) (h : Heap) : fnVC Tryz.prog [(1000000, .nil)] 26 Tryz.f17 [(.slice a0.a a0.len a0.cap)] (.agg (.cons (.int .i64) (.cons .sl .nil))) K h = F_salvorlaw05_Made a0 K h := by kernel_rfl
set_option maxRecDepth 100000 in
theorem S_salvorlaw05_Made{h : Heap} {a0 : Sl} (K : (Int × (Sl × Unit)) → HP) (hF : F_salvorlaw05_Made a0 K h) : CallsH Tryz.prog fn_salvorlaw05_Made #[(.slice a0.a a0.len a0.cap)] h fun v h' => ∃ x : (Int × (Sl × Unit)), v = Ty.enc (.agg (.cons (.int .i64) (.cons .sl .nil))) x ∧ K x h' :=
  callsH_of_fn (P := Tryz.prog) (fn := Tryz.f17) (τ := (.agg (.cons (.int .i64) (.cons .sl .nil)))) follows Tryz.func17 (by kernel_rfl) (by kernel_rfl) Tryz.call17 (Eq.mpr (E_salvorlaw05_Made a0 K h) hF)

def F_formula_Norm (a0 : (Int × (Sl × Unit))) (K : ((Int × (Sl × Unit)) × (Int × Unit)) → HP) : HP :=
 nw #[(.int .i64 a0.1), (.slice a0.2.1.a a0.2.1.len a0.2.1.cap)] ty_formula_Formula fun b0 =>
 nw #[(.int .i64 (0 : Int)), (.slice none 0 0)] ty_formula_Formula fun b1 =>
 ldA (.cons (.int .i64) (.cons .sl .nil)) (⟨b0, 0, none⟩ : Addr) fun x2 =>
 callT Tryz.prog fn_formula_Check #[(.agg #[(.int .i64 x2.1), (.slice x2.2.1.a x2.2.1.len x2.2.1.cap)])] (.tup (.cons (.int .i64) (.cons (.int .i64) .nil))) fun r3 =>
 brB (r3.2.1 != (0 : Int))
 (st1 (⟨b1, 0, none⟩ : Addr) (.int .i64 (0 : Int)) <|
 st1 ((⟨b1, 0, none⟩ : Addr).add 1) (.slice none 0 0) <|
 ldA (.cons (.int .i64) (.cons .sl .nil)) (⟨b1, 0, none⟩ : Addr) fun x4 =>
 K ((x4.1, ⟨x4.2.1.a, x4.2.1.len, x4.2.1.cap⟩, ()), r3.2.1, ()))
 (ldT (.int .i64) (⟨b0, 0, none⟩ : Addr) fun x5 =>
 nw #[(.int .i64 (0 : Int)), (.slice none 0 0)] ty_formula_Formula fun b6 =>
 st1 (⟨b6, 0, none⟩ : Addr) (.int .i64 x5) <|
 st1 ((⟨b6, 0, none⟩ : Addr).add 1) (.slice none 0 0) <|
 ldT .sl ((⟨b0, 0, none⟩ : Addr).add 1) fun x7 =>
 lfp (σ := (Int × Unit)) (fun X8 s9 => /-  -/
 brB (decide (s9.1 < (x7.len : Int)))
 (sx x7.a x7.len s9.1 1 fun p10 =>
 ldT .sl p10 fun x11 =>
 callT Tryz.prog fn_clauses_Norm #[(.slice x11.a x11.len x11.cap)] (.tup (.cons .sl (.cons .bool (.cons (.int .i64) .nil)))) fun r12 =>
 jn (σ := Unit) (fun s14 => /- -/
 X8 ((IntKind.wrap .i64 (s9.1 + (1 : Int))), ()))
 (fun J13 =>
 brB (!r12.2.1)
 (ldT .sl ((⟨b6, 0, none⟩ : Addr).add 1) fun x15 =>
 nw #[(.slice r12.1.a r12.1.len r12.1.cap)] ty_clauses_Clause fun b16 =>
 apd ty_clauses_Clause 1 24 #[(.slice none 0 0)] ⟨x15.a, x15.len, x15.cap⟩ ⟨(some (⟨b16, 0, none⟩ : Addr)), 1, 1⟩ fun s17 =>
 st1 ((⟨b6, 0, none⟩ : Addr).add 1) (.slice s17.a s17.len s17.cap) <|
 J13 (()))
 (J13 (()))))
 (ldT .sl ((⟨b6, 0, none⟩ : Addr).add 1) fun x18 =>
 callT Tryz.prog fn_slices_SortFunc_clauses_Clause_clauses_Clause #[(.slice x18.a x18.len x18.cap), (.func (.func fn_clauses_Compare) #[] #[])] (.tup .nil) fun r19 =>
 ldT .sl ((⟨b6, 0, none⟩ : Addr).add 1) fun x20 =>
 callT Tryz.prog fn_slices_CompactFunc_clauses_Clause_clauses_Clause #[(.slice x20.a x20.len x20.cap), (.func (.func fn_formula_Norm_1) #[] #[])] .sl fun r21 =>
 st1 ((⟨b6, 0, none⟩ : Addr).add 1) (.slice r21.a r21.len r21.cap) <|
 ldA (.cons (.int .i64) (.cons .sl .nil)) (⟨b6, 0, none⟩ : Addr) fun x22 =>
 st1 (⟨b1, 0, none⟩ : Addr) (.int .i64 x22.1) <|
 st1 ((⟨b1, 0, none⟩ : Addr).add 1) (.slice x22.2.1.a x22.2.1.len x22.2.1.cap) <|
 ldA (.cons (.int .i64) (.cons .sl .nil)) (⟨b1, 0, none⟩ : Addr) fun x23 =>
 K ((x23.1, ⟨x23.2.1.a, x23.2.1.len, x23.2.1.cap⟩, ()), (0 : Int), ())))
 ((0 : Int), ()))
set_option maxRecDepth 100000 in
theorem E_formula_Norm (a0 : (Int × (Sl × Unit))) (K : ((Int × (Sl × Unit)) × (Int × Unit)) → HP) (h : Heap) : fnVC Tryz.prog [(1000000, .nil)] 54 Tryz.f18 [(.agg #[(.int .i64 a0.1), (.slice a0.2.1.a a0.2.1.len a0.2.1.cap)])] (.tup (.cons (.agg (.cons (.int .i64) (.cons .sl .nil))) (.cons (.int .i64) .nil))) K h = F_formula_Norm a0 K h := by kernel_rfl
set_option maxRecDepth 100000 in
theorem S_formula_Norm{h : Heap} {a0 : (Int × (Sl × Unit))} (K : ((Int × (Sl × Unit)) × (Int × Unit)) → HP) (hF : F_formula_Norm a0 K h) : CallsH Tryz.prog fn_formula_Norm #[(.agg #[(.int .i64 a0.1), (.slice a0.2.1.a a0.2.1.len a0.2.1.cap)])] h fun v h' => ∃ x : ((Int × (Sl × Unit)) × (Int × Unit)), v = Ty.enc (.tup (.cons (.agg (.cons (.int .i64) (.cons .sl .nil))) (.cons (.int .i64) .nil))) x ∧ K x h' :=
  callsH_of_fn (P := Tryz.prog) (fn := Tryz.f18) (τ := (.tup (.cons (.agg (.cons (.int .i64) (.cons .sl .nil))) (.cons (.int .i64) .nil)))) follows Tryz.func18 (by kernel_rfl) (by kernel_rfl) Tryz.call18 (Eq.mpr (E_formula_Norm a0 K h) hF)

def F_salvorlaw05_collected (a0 : (Int × (Sl × Unit))) (K : (Sl × (Bool × Unit)) → HP) : HP := fun h0 => (
 nw #[(.int .i64 a0.1), (.slice a0.2.1.a a0.2.1.len a0.2.1.cap)] ty_formula_Formula fun b0 =>
 nw #[(.slice none 0 0)] ty_sl_sl_bool fun b1 =>
 nw #[(.bool false)] ty_bool fun b2 =>
 ldA (.cons (.int .i64) (.cons .sl .nil)) (⟨b0, 0, none⟩ : Addr) fun x3 =>
 callT Tryz.prog fn_formula_Models #[(.agg #[(.int .i64 x3.1), (.slice x3.2.1.a x3.2.1.len x3.2.1.cap)])] (.tup (.cons .val (.cons (.int .i64) .nil))) fun r4 =>
 brB (r4.2.1 != (0 : Int))
 (st1 (⟨b1, 0, none⟩ : Addr) (.slice none 0 0) <|
 st1 (⟨b2, 0, none⟩ : Addr) (.bool false) <|
 mkd h0.size <|
 ldT .sl (⟨b1, 0, none⟩ : Addr) fun x5 =>
 ldT .bool (⟨b2, 0, none⟩ : Addr) fun x6 =>
 K (⟨x5.a, x5.len, x5.cap⟩, x6, ()))
 (fnE r4.1 fun t7 =>
 brB t7
 (st1 (⟨b1, 0, none⟩ : Addr) (.slice none 0 0) <|
 st1 (⟨b2, 0, none⟩ : Addr) (.bool false) <|
 mkd h0.size <|
 ldT .sl (⟨b1, 0, none⟩ : Addr) fun x8 =>
 ldT .bool (⟨b2, 0, none⟩ : Addr) fun x9 =>
 K (⟨x8.a, x8.len, x8.cap⟩, x9, ()))
 (nw #[(.slice none 0 0)] ty_sl_sl_bool fun b10 =>
 RangeVC Tryz.prog (.cons .sl .nil) r4.1 (fun x11 wrap12 next13 jump14 =>
 wrap12 <|
 ldT .sl (⟨b10, 0, none⟩ : Addr) fun x15 =>
 brB (decide ((x15.len : Int) > (255 : Int)))
 (st1 (⟨b1, 0, none⟩ : Addr) (.slice none 0 0) <|
 st1 (⟨b2, 0, none⟩ : Addr) (.bool false) <|
 jump14 .ret)
 (ldT .sl (⟨b10, 0, none⟩ : Addr) fun x16 =>
 nw #[(.slice x11.1.a x11.1.len x11.1.cap)] ty_sl_bool fun b17 =>
 apd ty_sl_bool 1 24 #[(.slice none 0 0)] ⟨x16.a, x16.len, x16.cap⟩ ⟨(some (⟨b17, 0, none⟩ : Addr)), 1, 1⟩ fun s18 =>
 st1 (⟨b10, 0, none⟩ : Addr) (.slice s18.a s18.len s18.cap) <|
 next13))
 (ldT .sl (⟨b10, 0, none⟩ : Addr) fun x19 =>
 st1 (⟨b1, 0, none⟩ : Addr) (.slice x19.a x19.len x19.cap) <|
 st1 (⟨b2, 0, none⟩ : Addr) (.bool true) <|
 mkd h0.size <|
 ldT .sl (⟨b1, 0, none⟩ : Addr) fun x20 =>
 ldT .bool (⟨b2, 0, none⟩ : Addr) fun x21 =>
 K (⟨x20.a, x20.len, x20.cap⟩, x21, ()))
 (mkd h0.size <|
 ldT .sl (⟨b1, 0, none⟩ : Addr) fun x22 =>
 ldT .bool (⟨b2, 0, none⟩ : Addr) fun x23 =>
 K (⟨x22.a, x22.len, x22.cap⟩, x23, ()))
 []
 []))) h0
set_option maxRecDepth 100000 in
theorem E_salvorlaw05_collected (a0 : (Int × (Sl × Unit))) (K : (Sl × (Bool × Unit)) → HP) (h : Heap) : fnVC Tryz.prog [(1000000, .nil), (20, (.cons .sl .nil))] 29 Tryz.f19 [(.agg #[(.int .i64 a0.1), (.slice a0.2.1.a a0.2.1.len a0.2.1.cap)])] (.tup (.cons .sl (.cons .bool .nil))) K h = F_salvorlaw05_collected a0 K h := by kernel_rfl
set_option maxRecDepth 100000 in
theorem S_salvorlaw05_collected{h : Heap} {a0 : (Int × (Sl × Unit))} (K : (Sl × (Bool × Unit)) → HP) (hF : F_salvorlaw05_collected a0 K h) : CallsH Tryz.prog fn_salvorlaw05_collected #[(.agg #[(.int .i64 a0.1), (.slice a0.2.1.a a0.2.1.len a0.2.1.cap)])] h fun v h' => ∃ x : (Sl × (Bool × Unit)), v = Ty.enc (.tup (.cons .sl (.cons .bool .nil))) x ∧ K x h' :=
  callsH_of_fn (P := Tryz.prog) (fn := Tryz.f19) (τ := (.tup (.cons .sl (.cons .bool .nil)))) follows Tryz.func19 (by kernel_rfl) (by kernel_rfl) Tryz.call19 (Eq.mpr (E_salvorlaw05_collected a0 K h) hF)

def F_formula_Same (a0 : (Int × (Sl × Unit))) (a1 : (Int × (Sl × Unit))) (K : Bool → HP) : HP :=
 nw #[(.int .i64 a0.1), (.slice a0.2.1.a a0.2.1.len a0.2.1.cap)] ty_formula_Formula fun b0 =>
 nw #[(.int .i64 a1.1), (.slice a1.2.1.a a1.2.1.len a1.2.1.cap)] ty_formula_Formula fun b1 =>
 ldT (.int .i64) (⟨b0, 0, none⟩ : Addr) fun x2 =>
 ldT (.int .i64) (⟨b1, 0, none⟩ : Addr) fun x3 =>
 brB (x2 == x3)
 (ldT .sl ((⟨b0, 0, none⟩ : Addr).add 1) fun x4 =>
 ldT .sl ((⟨b1, 0, none⟩ : Addr).add 1) fun x5 =>
 callT Tryz.prog fn_slices_EqualFunc_clauses_Clause_clauses_Clause_clauses_Clause_clauses_Clause #[(.slice x4.a x4.len x4.cap), (.slice x5.a x5.len x5.cap), (.func (.func fn_formula_Same_1) #[] #[])] .bool fun r6 =>
 K r6)
 (K false)
set_option maxRecDepth 100000 in
theorem E_formula_Same (a0 : (Int × (Sl × Unit))) (a1 : (Int × (Sl × Unit))) (K : Bool → HP) (h : Heap) : fnVC Tryz.prog [(1000000, .nil)] 17 Tryz.f20 [(.agg #[(.int .i64 a0.1), (.slice a0.2.1.a a0.2.1.len a0.2.1.cap)]), (.agg #[(.int .i64 a1.1), (.slice a1.2.1.a a1.2.1.len a1.2.1.cap)])] .bool K h = F_formula_Same a0 a1 K h := by kernel_rfl
set_option maxRecDepth 100000 in
theorem S_formula_Same{h : Heap} {a0 : (Int × (Sl × Unit))} {a1 : (Int × (Sl × Unit))} (K : Bool → HP) (hF : F_formula_Same a0 a1 K h) : CallsH Tryz.prog fn_formula_Same #[(.agg #[(.int .i64 a0.1), (.slice a0.2.1.a a0.2.1.len a0.2.1.cap)]), (.agg #[(.int .i64 a1.1), (.slice a1.2.1.a a1.2.1.len a1.2.1.cap)])] h fun v h' => ∃ x : Bool, v = Ty.enc .bool x ∧ K x h' :=
  callsH_of_fn (P := Tryz.prog) (fn := Tryz.f20) (τ := .bool) follows Tryz.func20 (by kernel_rfl) (by kernel_rfl) Tryz.call20 (Eq.mpr (E_formula_Same a0 a1 K h) hF)

def F_slices_EqualFunc_bool_bool_bool_bool (a0 : Sl) (a1 : Sl) (a2 : Value) (K : Bool → HP) : HP :=
 brB ((a0.len : Int) != (a1.len : Int))
 (K false)
 (lfp (σ := (Int × (Bool × Unit))) (fun X0 s1 => /-   -/
 brB (decide (s1.1 < (a0.len : Int)))
 (sx a0.a a0.len s1.1 1 fun p2 =>
 ldT .sl p2 fun x3 =>
 sx a1.a a1.len s1.1 1 fun p4 =>
 ldT .sl p4 fun x5 =>
 callF Tryz.prog a2 #[(.slice x3.a x3.len x3.cap), (.slice x5.a x5.len x5.cap)] .bool fun r6 =>
 brB (!r6)
 (K false)
 (X0 ((IntKind.wrap .i64 (s1.1 + (1 : Int))), s1.2.1, ())))
 (K true))
 ((0 : Int), false, ()))
set_option maxRecDepth 100000 in
theorem E_slices_EqualFunc_bool_bool_bool_bool (a0 : Sl) (a1 : Sl) (a2 : Value) (K : Bool → HP) (h : Heap) : fnVC Tryz.prog [(1000000, .nil)] 32 Tryz.f21 [(.slice a0.a a0.len a0.cap), (.slice a1.a a1.len a1.cap), a2] .bool K h = F_slices_EqualFunc_bool_bool_bool_bool a0 a1 a2 K h := by kernel_rfl
set_option maxRecDepth 100000 in
theorem S_slices_EqualFunc_bool_bool_bool_bool{h : Heap} {a0 : Sl} {a1 : Sl} {a2 : Value} (K : Bool → HP) (hF : F_slices_EqualFunc_bool_bool_bool_bool a0 a1 a2 K h) : CallsH Tryz.prog fn_slices_EqualFunc_bool_bool_bool_bool #[(.slice a0.a a0.len a0.cap), (.slice a1.a a1.len a1.cap), a2] h fun v h' => ∃ x : Bool, v = Ty.enc .bool x ∧ K x h' :=
  callsH_of_fn (P := Tryz.prog) (fn := Tryz.f21) (τ := .bool) follows Tryz.func21 (by kernel_rfl) (by kernel_rfl) Tryz.call21 (Eq.mpr (E_slices_EqualFunc_bool_bool_bool_bool a0 a1 a2 K h) hF)

def F_salvorlaw05_FormulaNorm_1 (a0 : Sl) (a1 : Sl) (K : Bool → HP) : HP :=
 callT Tryz.prog fn_slices_Equal_bool_bool #[(.slice a0.a a0.len a0.cap), (.slice a1.a a1.len a1.cap)] .bool fun r0 =>
 K r0
set_option maxRecDepth 100000 in
theorem E_salvorlaw05_FormulaNorm_1 (a0 : Sl) (a1 : Sl) (K : Bool → HP) (h : Heap) : fnVC Tryz.prog [(1000000, .nil)] 8 Tryz.f22 [(.slice a0.a a0.len a0.cap), (.slice a1.a a1.len a1.cap)] .bool K h = F_salvorlaw05_FormulaNorm_1 a0 a1 K h := by kernel_rfl
set_option maxRecDepth 100000 in
theorem S_salvorlaw05_FormulaNorm_1{h : Heap} {a0 : Sl} {a1 : Sl} (K : Bool → HP) (hF : F_salvorlaw05_FormulaNorm_1 a0 a1 K h) : CallsH Tryz.prog fn_salvorlaw05_FormulaNorm_1 #[(.slice a0.a a0.len a0.cap), (.slice a1.a a1.len a1.cap)] h fun v h' => ∃ x : Bool, v = Ty.enc .bool x ∧ K x h' :=
  callsH_of_fn (P := Tryz.prog) (fn := Tryz.f22) (τ := .bool) follows Tryz.func22 (by kernel_rfl) (by kernel_rfl) Tryz.call22 (Eq.mpr (E_salvorlaw05_FormulaNorm_1 a0 a1 K h) hF)

def F_slices_Equal_bool_bool (a0 : Sl) (a1 : Sl) (K : Bool → HP) : HP :=
 brB ((a0.len : Int) != (a1.len : Int))
 (K false)
 (lfp (σ := (Int × (Bool × Unit))) (fun X0 s1 => /-   -/
 brB (decide (s1.1 < (a0.len : Int)))
 (sx a0.a a0.len s1.1 1 fun p2 =>
 ldT .bool p2 fun x3 =>
 sx a1.a a1.len s1.1 1 fun p4 =>
 ldT .bool p4 fun x5 =>
 brB (!(x3 == x5))
 (K false)
 (X0 ((IntKind.wrap .i64 (s1.1 + (1 : Int))), s1.2.1, ())))
 (K true))
 ((0 : Int), false, ()))
set_option maxRecDepth 100000 in
theorem E_slices_Equal_bool_bool (a0 : Sl) (a1 : Sl) (K : Bool → HP) (h : Heap) : fnVC Tryz.prog [(1000000, .nil)] 26 Tryz.f23 [(.slice a0.a a0.len a0.cap), (.slice a1.a a1.len a1.cap)] .bool K h = F_slices_Equal_bool_bool a0 a1 K h := by kernel_rfl
set_option maxRecDepth 100000 in
theorem S_slices_Equal_bool_bool{h : Heap} {a0 : Sl} {a1 : Sl} (K : Bool → HP) (hF : F_slices_Equal_bool_bool a0 a1 K h) : CallsH Tryz.prog fn_slices_Equal_bool_bool #[(.slice a0.a a0.len a0.cap), (.slice a1.a a1.len a1.cap)] h fun v h' => ∃ x : Bool, v = Ty.enc .bool x ∧ K x h' :=
  callsH_of_fn (P := Tryz.prog) (fn := Tryz.f23) (τ := .bool) follows Tryz.func23 (by kernel_rfl) (by kernel_rfl) Tryz.call23 (Eq.mpr (E_slices_Equal_bool_bool a0 a1 K h) hF)

def F_clauses_Normal (a0 : Sl) (K : Bool → HP) : HP :=
 callT Tryz.prog fn_clauses_Right #[(.slice a0.a a0.len a0.cap)] .bool fun r0 =>
 brB r0
 (callT Tryz.prog fn_clauses_normal #[(.slice a0.a a0.len a0.cap)] .sl fun r1 =>
 callT Tryz.prog fn_slices_Equal_clauses_Clause_lits_Lit #[(.slice a0.a a0.len a0.cap), (.slice r1.a r1.len r1.cap)] .bool fun r2 =>
 K r2)
 (K false)
set_option maxRecDepth 100000 in
theorem E_clauses_Normal (a0 : Sl) (K : Bool → HP) (h : Heap) : fnVC Tryz.prog [(1000000, .nil)] 11 Tryz.f24 [(.slice a0.a a0.len a0.cap)] .bool K h = F_clauses_Normal a0 K h := by kernel_rfl
set_option maxRecDepth 100000 in
theorem S_clauses_Normal{h : Heap} {a0 : Sl} (K : Bool → HP) (hF : F_clauses_Normal a0 K h) : CallsH Tryz.prog fn_clauses_Normal #[(.slice a0.a a0.len a0.cap)] h fun v h' => ∃ x : Bool, v = Ty.enc .bool x ∧ K x h' :=
  callsH_of_fn (P := Tryz.prog) (fn := Tryz.f24) (τ := .bool) follows Tryz.func24 (by kernel_rfl) (by kernel_rfl) Tryz.call24 (Eq.mpr (E_clauses_Normal a0 K h) hF)

def F_clauses_Always (a0 : Sl) (K : Bool → HP) : HP := fun h0 => (
 nw #[(.bool false)] ty_bool fun b0 =>
 callT Tryz.prog fn_clauses_Right #[(.slice a0.a a0.len a0.cap)] .bool fun r1 =>
 brB (!r1)
 (st1 (⟨b0, 0, none⟩ : Addr) (.bool false) <|
 mkd h0.size <|
 ldT .bool (⟨b0, 0, none⟩ : Addr) fun x2 =>
 K x2)
 (nw #[(.int .i64 (0 : Int))] ty_lits_Lit fun b3 =>
 st1 (⟨b3, 0, none⟩ : Addr) (.int .i64 (0 : Int)) <|
 callT Tryz.prog fn_clauses_sorted #[(.slice a0.a a0.len a0.cap)] .val fun r4 =>
 RangeVC Tryz.prog (.cons (.int .i64) .nil) r4 (fun x5 wrap6 next7 jump8 =>
 wrap6 <|
 ldT (.int .i64) (⟨b3, 0, none⟩ : Addr) fun x9 =>
 brB (x9 != (0 : Int))
 (ldT (.int .i64) (⟨b3, 0, none⟩ : Addr) fun x10 =>
 callT Tryz.prog fn_lits_Neg #[(.int .i64 x10)] (.int .i64) fun r11 =>
 brB (x5.1 == r11)
 (st1 (⟨b0, 0, none⟩ : Addr) (.bool true) <|
 jump8 .ret)
 (st1 (⟨b3, 0, none⟩ : Addr) (.int .i64 x5.1) <|
 next7))
 (st1 (⟨b3, 0, none⟩ : Addr) (.int .i64 x5.1) <|
 next7))
 (st1 (⟨b0, 0, none⟩ : Addr) (.bool false) <|
 mkd h0.size <|
 ldT .bool (⟨b0, 0, none⟩ : Addr) fun x12 =>
 K x12)
 (mkd h0.size <|
 ldT .bool (⟨b0, 0, none⟩ : Addr) fun x13 =>
 K x13)
 []
 [])) h0
set_option maxRecDepth 100000 in
theorem E_clauses_Always (a0 : Sl) (K : Bool → HP) (h : Heap) : fnVC Tryz.prog [(1000000, .nil), (10, (.cons (.int .i64) .nil))] 20 Tryz.f25 [(.slice a0.a a0.len a0.cap)] .bool K h = F_clauses_Always a0 K h := by kernel_rfl
set_option maxRecDepth 100000 in
theorem S_clauses_Always{h : Heap} {a0 : Sl} (K : Bool → HP) (hF : F_clauses_Always a0 K h) : CallsH Tryz.prog fn_clauses_Always #[(.slice a0.a a0.len a0.cap)] h fun v h' => ∃ x : Bool, v = Ty.enc .bool x ∧ K x h' :=
  callsH_of_fn (P := Tryz.prog) (fn := Tryz.f25) (τ := .bool) follows Tryz.func25 (by kernel_rfl) (by kernel_rfl) Tryz.call25 (Eq.mpr (E_clauses_Always a0 K h) hF)

def F_clauses_Compare (a0 : Sl) (a1 : Sl) (K : Int → HP) : HP :=
 callT Tryz.prog fn_clauses_Right #[(.slice a0.a a0.len a0.cap)] .bool fun r0 =>
 brB (!r0)
 (K (0 : Int))
 (callT Tryz.prog fn_clauses_Right #[(.slice a1.a a1.len a1.cap)] .bool fun r1 =>
 brB (!r1)
 (K (0 : Int))
 (callT Tryz.prog fn_clauses_normal #[(.slice a0.a a0.len a0.cap)] .sl fun r2 =>
 callT Tryz.prog fn_clauses_normal #[(.slice a1.a a1.len a1.cap)] .sl fun r3 =>
 callT Tryz.prog fn_cmp_Compare_int #[(.int .i64 (r2.len : Int)), (.int .i64 (r3.len : Int))] (.int .i64) fun r4 =>
 callT Tryz.prog fn_slices_CompareFunc_clauses_Clause_clauses_Clause_lits_Lit_lits_Lit #[(.slice r2.a r2.len r2.cap), (.slice r3.a r3.len r3.cap), (.func (.func fn_lits_Compare) #[] #[])] (.int .i64) fun r5 =>
 nw #[(.int .i64 r4), (.int .i64 r5)] ty_int fun b6 =>
 callT Tryz.prog fn_cmp_Or_int #[(.slice (some (⟨b6, 0, none⟩ : Addr)) 2 2)] (.int .i64) fun r7 =>
 K r7))
set_option maxRecDepth 100000 in
theorem E_clauses_Compare (a0 : Sl) (a1 : Sl) (K : Int → HP) (h : Heap) : fnVC Tryz.prog [(1000000, .nil)] 29 Tryz.f26 [(.slice a0.a a0.len a0.cap), (.slice a1.a a1.len a1.cap)] (.int .i64) K h = F_clauses_Compare a0 a1 K h := by kernel_rfl
set_option maxRecDepth 100000 in
theorem S_clauses_Compare{h : Heap} {a0 : Sl} {a1 : Sl} (K : Int → HP) (hF : F_clauses_Compare a0 a1 K h) : CallsH Tryz.prog fn_clauses_Compare #[(.slice a0.a a0.len a0.cap), (.slice a1.a a1.len a1.cap)] h fun v h' => ∃ x : Int, v = Ty.enc (.int .i64) x ∧ K x h' :=
  callsH_of_fn (P := Tryz.prog) (fn := Tryz.f26) (τ := (.int .i64)) follows Tryz.func26 (by kernel_rfl) (by kernel_rfl) Tryz.call26 (Eq.mpr (E_clauses_Compare a0 a1 K h) hF)

def F_slices_ContainsFunc_clauses_Clause_clauses_Clause (a0 : Sl) (a1 : Value) (K : Bool → HP) : HP :=
 callT Tryz.prog fn_slices_IndexFunc_clauses_Clause_clauses_Clause #[(.slice a0.a a0.len a0.cap), a1] (.int .i64) fun r0 =>
 K (decide (r0 ≥ (0 : Int)))
set_option maxRecDepth 100000 in
theorem E_slices_ContainsFunc_clauses_Clause_clauses_Clause (a0 : Sl) (a1 : Value) (K : Bool → HP) (h : Heap) : fnVC Tryz.prog [(1000000, .nil)] 9 Tryz.f27 [(.slice a0.a a0.len a0.cap), a1] .bool K h = F_slices_ContainsFunc_clauses_Clause_clauses_Clause a0 a1 K h := by kernel_rfl
set_option maxRecDepth 100000 in
theorem S_slices_ContainsFunc_clauses_Clause_clauses_Clause{h : Heap} {a0 : Sl} {a1 : Value} (K : Bool → HP) (hF : F_slices_ContainsFunc_clauses_Clause_clauses_Clause a0 a1 K h) : CallsH Tryz.prog fn_slices_ContainsFunc_clauses_Clause_clauses_Clause #[(.slice a0.a a0.len a0.cap), a1] h fun v h' => ∃ x : Bool, v = Ty.enc .bool x ∧ K x h' :=
  callsH_of_fn (P := Tryz.prog) (fn := Tryz.f27) (τ := .bool) follows Tryz.func27 (by kernel_rfl) (by kernel_rfl) Tryz.call27 (Eq.mpr (E_slices_ContainsFunc_clauses_Clause_clauses_Clause a0 a1 K h) hF)

def F_salvorlaw05_FormulaNorm_2 (a0 : Sl) (c0 : Addr) (K : Bool → HP) : HP :=
 ldT .sl c0 fun x0 =>
 callT Tryz.prog fn_clauses_Same #[(.slice a0.a a0.len a0.cap), (.slice x0.a x0.len x0.cap)] .bool fun r1 =>
 K r1
set_option maxRecDepth 100000 in
theorem E_salvorlaw05_FormulaNorm_2 (a0 : Sl) (c0 : Addr) (K : Bool → HP) (h : Heap) : fnVC Tryz.prog [(1000000, .nil)] 7 Tryz.f28 [(.slice a0.a a0.len a0.cap), (.pointer (some c0))] .bool K h = F_salvorlaw05_FormulaNorm_2 a0 c0 K h := by kernel_rfl
set_option maxRecDepth 100000 in
theorem S_salvorlaw05_FormulaNorm_2{h : Heap} {a0 : Sl} {c0 : Addr} (K : Bool → HP) (hF : F_salvorlaw05_FormulaNorm_2 a0 c0 K h) : CallsH Tryz.prog fn_salvorlaw05_FormulaNorm_2 #[(.slice a0.a a0.len a0.cap), (.pointer (some c0))] h fun v h' => ∃ x : Bool, v = Ty.enc .bool x ∧ K x h' :=
  callsH_of_fn (P := Tryz.prog) (fn := Tryz.f28) (τ := .bool) follows Tryz.func28 (by kernel_rfl) (by kernel_rfl) Tryz.call28 (Eq.mpr (E_salvorlaw05_FormulaNorm_2 a0 c0 K h) hF)

def F_clauses_Same (a0 : Sl) (a1 : Sl) (K : Bool → HP) : HP :=
 callT Tryz.prog fn_clauses_Right #[(.slice a0.a a0.len a0.cap)] .bool fun r0 =>
 brB r0
 (callT Tryz.prog fn_clauses_Right #[(.slice a1.a a1.len a1.cap)] .bool fun r1 =>
 brB r1
 (callT Tryz.prog fn_clauses_normal #[(.slice a0.a a0.len a0.cap)] .sl fun r2 =>
 callT Tryz.prog fn_clauses_normal #[(.slice a1.a a1.len a1.cap)] .sl fun r3 =>
 callT Tryz.prog fn_slices_Equal_clauses_Clause_lits_Lit #[(.slice r2.a r2.len r2.cap), (.slice r3.a r3.len r3.cap)] .bool fun r4 =>
 K r4)
 (K false))
 (K false)
set_option maxRecDepth 100000 in
theorem E_clauses_Same (a0 : Sl) (a1 : Sl) (K : Bool → HP) (h : Heap) : fnVC Tryz.prog [(1000000, .nil)] 18 Tryz.f29 [(.slice a0.a a0.len a0.cap), (.slice a1.a a1.len a1.cap)] .bool K h = F_clauses_Same a0 a1 K h := by kernel_rfl
set_option maxRecDepth 100000 in
theorem S_clauses_Same{h : Heap} {a0 : Sl} {a1 : Sl} (K : Bool → HP) (hF : F_clauses_Same a0 a1 K h) : CallsH Tryz.prog fn_clauses_Same #[(.slice a0.a a0.len a0.cap), (.slice a1.a a1.len a1.cap)] h fun v h' => ∃ x : Bool, v = Ty.enc .bool x ∧ K x h' :=
  callsH_of_fn (P := Tryz.prog) (fn := Tryz.f29) (τ := .bool) follows Tryz.func29 (by kernel_rfl) (by kernel_rfl) Tryz.call29 (Eq.mpr (E_clauses_Same a0 a1 K h) hF)

def F_slices_Concat_clauses_Clause_clauses_Clause (a0 : Sl) (K : Sl → HP) : HP :=
 lfp (σ := (Int × (Int × Unit))) (fun X0 s1 => /-  size -/
 brB (decide (s1.1 < (a0.len : Int)))
 (sx a0.a a0.len s1.1 1 fun p2 =>
 ldT .sl p2 fun x3 =>
 jn (σ := Unit) (fun s5 => /- -/
 X0 ((IntKind.wrap .i64 (s1.1 + (1 : Int))), (IntKind.wrap .i64 (s1.2.1 + (x3.len : Int))), ()))
 (fun J4 =>
 brB (decide ((IntKind.wrap .i64 (s1.2.1 + (x3.len : Int))) < (0 : Int)))
 (fF /- not known -/)
 (J4 (()))))
 (callT Tryz.prog fn_slices_Grow_clauses_Clause_clauses_Clause #[(.slice none 0 0), (.int .i64 s1.2.1)] .sl fun r6 =>
 lfp (σ := (Int × (Sl × Unit))) (fun X7 s8 => /-  newslice -/
 brB (decide (s8.1 < (a0.len : Int)))
 (sx a0.a a0.len s8.1 1 fun p9 =>
 ldT .sl p9 fun x10 =>
 apd ty_clauses_Clause 1 24 #[(.slice none 0 0)] ⟨s8.2.1.a, s8.2.1.len, s8.2.1.cap⟩ ⟨x10.a, x10.len, x10.cap⟩ fun s11 =>
 X7 ((IntKind.wrap .i64 (s8.1 + (1 : Int))), ⟨s11.a, s11.len, s11.cap⟩, ()))
 (K ⟨s8.2.1.a, s8.2.1.len, s8.2.1.cap⟩))
 ((0 : Int), ⟨r6.a, r6.len, r6.cap⟩, ())))
 ((0 : Int), (0 : Int), ())
set_option maxRecDepth 100000 in
theorem E_slices_Concat_clauses_Clause_clauses_Clause (a0 : Sl) (K : Sl → HP) (h : Heap) : fnVC Tryz.prog [(1000000, .nil)] 36 Tryz.f30 [(.slice a0.a a0.len a0.cap)] .sl K h = F_slices_Concat_clauses_Clause_clauses_Clause a0 K h := by kernel_rfl
set_option maxRecDepth 100000 in
theorem S_slices_Concat_clauses_Clause_clauses_Clause{h : Heap} {a0 : Sl} (K : Sl → HP) (hF : F_slices_Concat_clauses_Clause_clauses_Clause a0 K h) : CallsH Tryz.prog fn_slices_Concat_clauses_Clause_clauses_Clause #[(.slice a0.a a0.len a0.cap)] h fun v h' => ∃ x : Sl, v = Ty.enc .sl x ∧ K x h' :=
  callsH_of_fn (P := Tryz.prog) (fn := Tryz.f30) (τ := .sl) follows Tryz.func30 (by kernel_rfl) (by kernel_rfl) Tryz.call30 (Eq.mpr (E_slices_Concat_clauses_Clause_clauses_Clause a0 K h) hF)

def F_salvorlaw05_Bits (a0 : Sl) (K : Sl → HP) : HP :=
 lfp (σ := (Int × (Sl × Unit))) (fun X0 s1 => /-  out -/
 brB (decide (s1.1 < (a0.len : Int)))
 (sx a0.a a0.len s1.1 1 fun p2 =>
 ldT .bool p2 fun x3 =>
 jn (σ := (Int × Unit)) (fun s5 => /- n -/
 nw #[(.int .i64 s5.1)] ty_int fun b6 =>
 apd ty_int 1 8 #[(.int .i64 (0 : Int))] ⟨s1.2.1.a, s1.2.1.len, s1.2.1.cap⟩ ⟨(some (⟨b6, 0, none⟩ : Addr)), 1, 1⟩ fun s7 =>
 X0 ((IntKind.wrap .i64 (s1.1 + (1 : Int))), ⟨s7.a, s7.len, s7.cap⟩, ()))
 (fun J4 =>
 brB x3
 (J4 ((1 : Int), ()))
 (J4 ((0 : Int), ()))))
 (K ⟨s1.2.1.a, s1.2.1.len, s1.2.1.cap⟩))
 ((0 : Int), ⟨none, 0, 0⟩, ())
set_option maxRecDepth 100000 in
theorem E_salvorlaw05_Bits (a0 : Sl) (K : Sl → HP) (h : Heap) : fnVC Tryz.prog [(1000000, .nil)] 20 Tryz.f31 [(.slice a0.a a0.len a0.cap)] .sl K h = F_salvorlaw05_Bits a0 K h := by kernel_rfl
set_option maxRecDepth 100000 in
theorem S_salvorlaw05_Bits{h : Heap} {a0 : Sl} (K : Sl → HP) (hF : F_salvorlaw05_Bits a0 K h) : CallsH Tryz.prog fn_salvorlaw05_Bits #[(.slice a0.a a0.len a0.cap)] h fun v h' => ∃ x : Sl, v = Ty.enc .sl x ∧ K x h' :=
  callsH_of_fn (P := Tryz.prog) (fn := Tryz.f31) (τ := .sl) follows Tryz.func31 (by kernel_rfl) (by kernel_rfl) Tryz.call31 (Eq.mpr (E_salvorlaw05_Bits a0 K h) hF)

def F_salvorlaw02_Clause (a0 : Sl) (K : Sl → HP) : HP :=
 lfp (σ := (Int × (Sl × Unit))) (fun X0 s1 => /-  out -/
 brB (decide (s1.1 < (a0.len : Int)))
 (sx a0.a a0.len s1.1 1 fun p2 =>
 ldT (.int .i64) p2 fun x3 =>
 nw #[(.int .i64 x3)] ty_lits_Lit fun b4 =>
 apd ty_lits_Lit 1 8 #[(.int .i64 (0 : Int))] ⟨s1.2.1.a, s1.2.1.len, s1.2.1.cap⟩ ⟨(some (⟨b4, 0, none⟩ : Addr)), 1, 1⟩ fun s5 =>
 X0 ((IntKind.wrap .i64 (s1.1 + (1 : Int))), ⟨s5.a, s5.len, s5.cap⟩, ()))
 (K ⟨s1.2.1.a, s1.2.1.len, s1.2.1.cap⟩))
 ((0 : Int), ⟨none, 0, 0⟩, ())
set_option maxRecDepth 100000 in
theorem E_salvorlaw02_Clause (a0 : Sl) (K : Sl → HP) (h : Heap) : fnVC Tryz.prog [(1000000, .nil)] 18 Tryz.f32 [(.slice a0.a a0.len a0.cap)] .sl K h = F_salvorlaw02_Clause a0 K h := by kernel_rfl
set_option maxRecDepth 100000 in
theorem S_salvorlaw02_Clause{h : Heap} {a0 : Sl} (K : Sl → HP) (hF : F_salvorlaw02_Clause a0 K h) : CallsH Tryz.prog fn_salvorlaw02_Clause #[(.slice a0.a a0.len a0.cap)] h fun v h' => ∃ x : Sl, v = Ty.enc .sl x ∧ K x h' :=
  callsH_of_fn (P := Tryz.prog) (fn := Tryz.f32) (τ := .sl) follows Tryz.func32 (by kernel_rfl) (by kernel_rfl) Tryz.call32 (Eq.mpr (E_salvorlaw02_Clause a0 K h) hF)

def F_salvorref05_Model (a0 : Int) (a1 : Sl) (K : (Sl × (Int × Unit)) → HP) : HP :=
 brB (decide (a0 < (0 : Int)))
 (K (⟨none, 0, 0⟩, (50 : Int), ()))
 (brB (decide (a0 > (1048576 : Int)))
 (K (⟨none, 0, 0⟩, (50 : Int), ()))
 (mks ty_int 1 8 #[(.int .i64 (0 : Int))] a0 a0 fun s0 =>
 lfp (σ := (Int × (Int × (Sl × Unit)))) (fun X1 s2 => /- i   -/
 brB (decide (s2.1 < (a1.len : Int)))
 (sx a1.a a1.len s2.1 1 fun p3 =>
 ldT (.int .i64) p3 fun x4 =>
 callT Tryz.prog fn_salvorref01_Var #[(.int .i64 x4)] (.int .i64) fun r5 =>
 brB (decide (r5 < (1 : Int)))
 (K (⟨none, 0, 0⟩, (51 : Int), ()))
 (brB (decide (r5 > a0))
 (K (⟨none, 0, 0⟩, (51 : Int), ()))
 (slH ⟨a1.a, a1.len, a1.cap⟩ s2.1 1 fun s6 =>
 sx a1.a a1.len s2.1 1 fun p7 =>
 ldT (.int .i64) p7 fun x8 =>
 callT Tryz.prog fn_salvorref02_Has #[(.slice s6.a s6.len s6.cap), (.int .i64 (IntKind.wrap .i64 (0 - x8)))] .bool fun r9 =>
 brB r9
 (K (⟨none, 0, 0⟩, (52 : Int), ()))
 (sx a1.a a1.len s2.1 1 fun p10 =>
 ldT (.int .i64) p10 fun x11 =>
 jn (σ := Unit) (fun s13 => /- -/
 X1 ((IntKind.wrap .i64 (s2.1 + (1 : Int))), s2.2.1, ⟨s2.2.2.1.a, s2.2.2.1.len, s2.2.2.1.cap⟩, ()))
 (fun J12 =>
 brB (decide (x11 > (0 : Int)))
 (sx s0.a s0.len (IntKind.wrap .i64 (r5 - (1 : Int))) 1 fun p14 =>
 st1 p14 (.int .i64 (1 : Int)) <|
 J12 (()))
 (J12 (())))))))
 (K (⟨s0.a, s0.len, s0.cap⟩, (0 : Int), ())))
 ((0 : Int), (0 : Int), ⟨none, 0, 0⟩, ())))
set_option maxRecDepth 100000 in
theorem E_salvorref05_Model (a0 : Int) (a1 : Sl) (K : (Sl × (Int × Unit)) → HP) (h : Heap) : fnVC Tryz.prog [(1000000, .nil)] 54 Tryz.f33 [(.int .i64 a0), (.slice a1.a a1.len a1.cap)] (.tup (.cons .sl (.cons (.int .i64) .nil))) K h = F_salvorref05_Model a0 a1 K h := by kernel_rfl
set_option maxRecDepth 100000 in
theorem S_salvorref05_Model{h : Heap} {a0 : Int} {a1 : Sl} (K : (Sl × (Int × Unit)) → HP) (hF : F_salvorref05_Model a0 a1 K h) : CallsH Tryz.prog fn_salvorref05_Model #[(.int .i64 a0), (.slice a1.a a1.len a1.cap)] h fun v h' => ∃ x : (Sl × (Int × Unit)), v = Ty.enc (.tup (.cons .sl (.cons (.int .i64) .nil))) x ∧ K x h' :=
  callsH_of_fn (P := Tryz.prog) (fn := Tryz.f33) (τ := (.tup (.cons .sl (.cons (.int .i64) .nil)))) follows Tryz.func33 (by kernel_rfl) (by kernel_rfl) Tryz.call33 (Eq.mpr (E_salvorref05_Model a0 a1 K h) hF)

def F_formula_Holds (a0 : Sl) (a1 : Sl) (K : Bool → HP) : HP :=
 callT Tryz.prog fn_clauses_Right #[(.slice a0.a a0.len a0.cap)] .bool fun r0 =>
 brB r0
 (callT Tryz.prog fn_formula_beyond #[(.int .i64 (a1.len : Int))] .val fun r1 =>
 callT Tryz.prog fn_slices_ContainsFunc_clauses_Clause_lits_Lit #[(.slice a0.a a0.len a0.cap), r1] .bool fun r2 =>
 brB (!r2)
 (callT Tryz.prog fn_formula_in #[(.slice a1.a a1.len a1.cap)] .val fun r3 =>
 callT Tryz.prog fn_slices_ContainsFunc_clauses_Clause_lits_Lit #[(.slice a0.a a0.len a0.cap), r3] .bool fun r4 =>
 K r4)
 (K false))
 (K false)
set_option maxRecDepth 100000 in
theorem E_formula_Holds (a0 : Sl) (a1 : Sl) (K : Bool → HP) (h : Heap) : fnVC Tryz.prog [(1000000, .nil)] 21 Tryz.f34 [(.slice a0.a a0.len a0.cap), (.slice a1.a a1.len a1.cap)] .bool K h = F_formula_Holds a0 a1 K h := by kernel_rfl
set_option maxRecDepth 100000 in
theorem S_formula_Holds{h : Heap} {a0 : Sl} {a1 : Sl} (K : Bool → HP) (hF : F_formula_Holds a0 a1 K h) : CallsH Tryz.prog fn_formula_Holds #[(.slice a0.a a0.len a0.cap), (.slice a1.a a1.len a1.cap)] h fun v h' => ∃ x : Bool, v = Ty.enc .bool x ∧ K x h' :=
  callsH_of_fn (P := Tryz.prog) (fn := Tryz.f34) (τ := .bool) follows Tryz.func34 (by kernel_rfl) (by kernel_rfl) Tryz.call34 (Eq.mpr (E_formula_Holds a0 a1 K h) hF)

def F_salvorref05_Holds (a0 : Sl) (a1 : Sl) (K : Bool → HP) : HP :=
 callT Tryz.prog fn_salvorref02_Right #[(.slice a0.a a0.len a0.cap)] .bool fun r0 =>
 brB (!r0)
 (K false)
 (lfp (σ := (Int × (Bool × (Bool × Unit)))) (fun X1 s2 => /- i is  -/
 brB (decide (s2.1 < (a0.len : Int)))
 (sx a0.a a0.len s2.1 1 fun p3 =>
 ldT (.int .i64) p3 fun x4 =>
 callT Tryz.prog fn_salvorref01_Var #[(.int .i64 x4)] (.int .i64) fun r5 =>
 brB (decide (r5 > (a1.len : Int)))
 (K false)
 (sx a1.a a1.len (IntKind.wrap .i64 (r5 - (1 : Int))) 1 fun p6 =>
 ldT (.int .i64) p6 fun x7 =>
 brB (x7 == (1 : Int))
 (sx a0.a a0.len s2.1 1 fun p8 =>
 ldT (.int .i64) p8 fun x9 =>
 brB (decide (x9 > (0 : Int)))
 (jn (σ := (Bool × Unit)) (fun s11 => /- is -/
 X1 ((IntKind.wrap .i64 (s2.1 + (1 : Int))), s11.1, s2.2.2.1, ()))
 (fun J10 =>
 J10 (true, ())))
 (sx a1.a a1.len (IntKind.wrap .i64 (r5 - (1 : Int))) 1 fun p12 =>
 ldT (.int .i64) p12 fun x13 =>
 brB (x13 == (0 : Int))
 (sx a0.a a0.len s2.1 1 fun p14 =>
 ldT (.int .i64) p14 fun x15 =>
 jn (σ := (Bool × Unit)) (fun s17 => /- is -/
 X1 ((IntKind.wrap .i64 (s2.1 + (1 : Int))), s17.1, s2.2.2.1, ()))
 (fun J16 =>
 brB (decide (x15 < (0 : Int)))
 (J16 (true, ()))
 (J16 (s2.2.1, ()))))
 (jn (σ := (Bool × Unit)) (fun s19 => /- is -/
 X1 ((IntKind.wrap .i64 (s2.1 + (1 : Int))), s19.1, s2.2.2.1, ()))
 (fun J18 =>
 J18 (s2.2.1, ())))))
 (sx a1.a a1.len (IntKind.wrap .i64 (r5 - (1 : Int))) 1 fun p20 =>
 ldT (.int .i64) p20 fun x21 =>
 brB (x21 == (0 : Int))
 (sx a0.a a0.len s2.1 1 fun p22 =>
 ldT (.int .i64) p22 fun x23 =>
 jn (σ := (Bool × Unit)) (fun s25 => /- is -/
 X1 ((IntKind.wrap .i64 (s2.1 + (1 : Int))), s25.1, s2.2.2.1, ()))
 (fun J24 =>
 brB (decide (x23 < (0 : Int)))
 (J24 (true, ()))
 (J24 (s2.2.1, ()))))
 (jn (σ := (Bool × Unit)) (fun s27 => /- is -/
 X1 ((IntKind.wrap .i64 (s2.1 + (1 : Int))), s27.1, s2.2.2.1, ()))
 (fun J26 =>
 J26 (s2.2.1, ()))))))
 (K s2.2.1))
 ((0 : Int), false, false, ()))
set_option maxRecDepth 100000 in
theorem E_salvorref05_Holds (a0 : Sl) (a1 : Sl) (K : Bool → HP) (h : Heap) : fnVC Tryz.prog [(1000000, .nil)] 55 Tryz.f35 [(.slice a0.a a0.len a0.cap), (.slice a1.a a1.len a1.cap)] .bool K h = F_salvorref05_Holds a0 a1 K h := by kernel_rfl
set_option maxRecDepth 100000 in
theorem S_salvorref05_Holds{h : Heap} {a0 : Sl} {a1 : Sl} (K : Bool → HP) (hF : F_salvorref05_Holds a0 a1 K h) : CallsH Tryz.prog fn_salvorref05_Holds #[(.slice a0.a a0.len a0.cap), (.slice a1.a a1.len a1.cap)] h fun v h' => ∃ x : Bool, v = Ty.enc .bool x ∧ K x h' :=
  callsH_of_fn (P := Tryz.prog) (fn := Tryz.f35) (τ := .bool) follows Tryz.func35 (by kernel_rfl) (by kernel_rfl) Tryz.call35 (Eq.mpr (E_salvorref05_Holds a0 a1 K h) hF)

def F_slices_Equal_int_int (a0 : Sl) (a1 : Sl) (K : Bool → HP) : HP :=
 brB ((a0.len : Int) != (a1.len : Int))
 (K false)
 (lfp (σ := (Int × (Bool × Unit))) (fun X0 s1 => /-   -/
 brB (decide (s1.1 < (a0.len : Int)))
 (sx a0.a a0.len s1.1 1 fun p2 =>
 ldT (.int .i64) p2 fun x3 =>
 sx a1.a a1.len s1.1 1 fun p4 =>
 ldT (.int .i64) p4 fun x5 =>
 brB (x3 != x5)
 (K false)
 (X0 ((IntKind.wrap .i64 (s1.1 + (1 : Int))), s1.2.1, ())))
 (K true))
 ((0 : Int), false, ()))
set_option maxRecDepth 100000 in
theorem E_slices_Equal_int_int (a0 : Sl) (a1 : Sl) (K : Bool → HP) (h : Heap) : fnVC Tryz.prog [(1000000, .nil)] 26 Tryz.f36 [(.slice a0.a a0.len a0.cap), (.slice a1.a a1.len a1.cap)] .bool K h = F_slices_Equal_int_int a0 a1 K h := by kernel_rfl
set_option maxRecDepth 100000 in
theorem S_slices_Equal_int_int{h : Heap} {a0 : Sl} {a1 : Sl} (K : Bool → HP) (hF : F_slices_Equal_int_int a0 a1 K h) : CallsH Tryz.prog fn_slices_Equal_int_int #[(.slice a0.a a0.len a0.cap), (.slice a1.a a1.len a1.cap)] h fun v h' => ∃ x : Bool, v = Ty.enc .bool x ∧ K x h' :=
  callsH_of_fn (P := Tryz.prog) (fn := Tryz.f36) (τ := .bool) follows Tryz.func36 (by kernel_rfl) (by kernel_rfl) Tryz.call36 (Eq.mpr (E_slices_Equal_int_int a0 a1 K h) hF)

def F_salvorlaw02_Ints (a0 : Sl) (K : Sl → HP) : HP :=
 lfp (σ := (Int × (Sl × Unit))) (fun X0 s1 => /-  out -/
 brB (decide (s1.1 < (a0.len : Int)))
 (sx a0.a a0.len s1.1 1 fun p2 =>
 ldT (.int .i64) p2 fun x3 =>
 nw #[(.int .i64 x3)] ty_int fun b4 =>
 apd ty_int 1 8 #[(.int .i64 (0 : Int))] ⟨s1.2.1.a, s1.2.1.len, s1.2.1.cap⟩ ⟨(some (⟨b4, 0, none⟩ : Addr)), 1, 1⟩ fun s5 =>
 X0 ((IntKind.wrap .i64 (s1.1 + (1 : Int))), ⟨s5.a, s5.len, s5.cap⟩, ()))
 (K ⟨s1.2.1.a, s1.2.1.len, s1.2.1.cap⟩))
 ((0 : Int), ⟨none, 0, 0⟩, ())
set_option maxRecDepth 100000 in
theorem E_salvorlaw02_Ints (a0 : Sl) (K : Sl → HP) (h : Heap) : fnVC Tryz.prog [(1000000, .nil)] 18 Tryz.f37 [(.slice a0.a a0.len a0.cap)] .sl K h = F_salvorlaw02_Ints a0 K h := by kernel_rfl
set_option maxRecDepth 100000 in
theorem S_salvorlaw02_Ints{h : Heap} {a0 : Sl} (K : Sl → HP) (hF : F_salvorlaw02_Ints a0 K h) : CallsH Tryz.prog fn_salvorlaw02_Ints #[(.slice a0.a a0.len a0.cap)] h fun v h' => ∃ x : Sl, v = Ty.enc .sl x ∧ K x h' :=
  callsH_of_fn (P := Tryz.prog) (fn := Tryz.f37) (τ := .sl) follows Tryz.func37 (by kernel_rfl) (by kernel_rfl) Tryz.call37 (Eq.mpr (E_salvorlaw02_Ints a0 K h) hF)

def F_formula_Lits (a0 : Sl) (K : Sl → HP) : HP :=
 slH ⟨a0.a, a0.len, a0.cap⟩ (if (1048576 : Int) < (a0.len : Int) then (1048576 : Int) else (a0.len : Int)) 1 fun s0 =>
 lfp (σ := (Int × (Sl × Unit))) (fun X1 s2 => /-  out -/
 brB (decide (s2.1 < (s0.len : Int)))
 (sx s0.a s0.len s2.1 1 fun p3 =>
 ldT .bool p3 fun x4 =>
 callT Tryz.prog fn_lits_Of #[(.int .i64 (IntKind.wrap .i64 (s2.1 + (1 : Int)))), (.bool (!x4))] (.tup (.cons (.int .i64) (.cons (.int .i64) .nil))) fun r5 =>
 nw #[(.int .i64 r5.1)] ty_lits_Lit fun b6 =>
 apd ty_lits_Lit 1 8 #[(.int .i64 (0 : Int))] ⟨s2.2.1.a, s2.2.1.len, s2.2.1.cap⟩ ⟨(some (⟨b6, 0, none⟩ : Addr)), 1, 1⟩ fun s7 =>
 X1 ((IntKind.wrap .i64 (s2.1 + (1 : Int))), ⟨s7.a, s7.len, s7.cap⟩, ()))
 (K ⟨s2.2.1.a, s2.2.1.len, s2.2.1.cap⟩))
 ((0 : Int), ⟨none, 0, 0⟩, ())
set_option maxRecDepth 100000 in
theorem E_formula_Lits (a0 : Sl) (K : Sl → HP) (h : Heap) : fnVC Tryz.prog [(1000000, .nil)] 33 Tryz.f38 [(.slice a0.a a0.len a0.cap)] .sl K h = F_formula_Lits a0 K h := by kernel_rfl
set_option maxRecDepth 100000 in
theorem S_formula_Lits{h : Heap} {a0 : Sl} (K : Sl → HP) (hF : F_formula_Lits a0 K h) : CallsH Tryz.prog fn_formula_Lits #[(.slice a0.a a0.len a0.cap)] h fun v h' => ∃ x : Sl, v = Ty.enc .sl x ∧ K x h' :=
  callsH_of_fn (P := Tryz.prog) (fn := Tryz.f38) (τ := .sl) follows Tryz.func38 (by kernel_rfl) (by kernel_rfl) Tryz.call38 (Eq.mpr (E_formula_Lits a0 K h) hF)

def F_formula_First (a0 : (Int × (Sl × Unit))) (K : (Sl × (Bool × (Int × Unit))) → HP) : HP := fun h0 => (
 nw #[(.int .i64 a0.1), (.slice a0.2.1.a a0.2.1.len a0.2.1.cap)] ty_formula_Formula fun b0 =>
 nw #[(.slice none 0 0)] ty_sl_bool fun b1 =>
 nw #[(.bool false)] ty_bool fun b2 =>
 nw #[(.int .i64 (0 : Int))] ty_api_Errno fun b3 =>
 ldA (.cons (.int .i64) (.cons .sl .nil)) (⟨b0, 0, none⟩ : Addr) fun x4 =>
 callT Tryz.prog fn_formula_Models #[(.agg #[(.int .i64 x4.1), (.slice x4.2.1.a x4.2.1.len x4.2.1.cap)])] (.tup (.cons .val (.cons (.int .i64) .nil))) fun r5 =>
 brB (r5.2.1 != (0 : Int))
 (st1 (⟨b1, 0, none⟩ : Addr) (.slice none 0 0) <|
 st1 (⟨b2, 0, none⟩ : Addr) (.bool false) <|
 st1 (⟨b3, 0, none⟩ : Addr) (.int .i64 r5.2.1) <|
 mkd h0.size <|
 ldT .sl (⟨b1, 0, none⟩ : Addr) fun x6 =>
 ldT .bool (⟨b2, 0, none⟩ : Addr) fun x7 =>
 ldT (.int .i64) (⟨b3, 0, none⟩ : Addr) fun x8 =>
 K (⟨x6.a, x6.len, x6.cap⟩, x7, x8, ()))
 (RangeVC Tryz.prog (.cons .sl .nil) r5.1 (fun x9 wrap10 next11 jump12 =>
 wrap10 <|
 st1 (⟨b1, 0, none⟩ : Addr) (.slice x9.1.a x9.1.len x9.1.cap) <|
 st1 (⟨b2, 0, none⟩ : Addr) (.bool true) <|
 st1 (⟨b3, 0, none⟩ : Addr) (.int .i64 (0 : Int)) <|
 jump12 .ret)
 (st1 (⟨b1, 0, none⟩ : Addr) (.slice none 0 0) <|
 st1 (⟨b2, 0, none⟩ : Addr) (.bool false) <|
 st1 (⟨b3, 0, none⟩ : Addr) (.int .i64 (0 : Int)) <|
 mkd h0.size <|
 ldT .sl (⟨b1, 0, none⟩ : Addr) fun x13 =>
 ldT .bool (⟨b2, 0, none⟩ : Addr) fun x14 =>
 ldT (.int .i64) (⟨b3, 0, none⟩ : Addr) fun x15 =>
 K (⟨x13.a, x13.len, x13.cap⟩, x14, x15, ()))
 (mkd h0.size <|
 ldT .sl (⟨b1, 0, none⟩ : Addr) fun x16 =>
 ldT .bool (⟨b2, 0, none⟩ : Addr) fun x17 =>
 ldT (.int .i64) (⟨b3, 0, none⟩ : Addr) fun x18 =>
 K (⟨x16.a, x16.len, x16.cap⟩, x17, x18, ()))
 []
 [])) h0
set_option maxRecDepth 100000 in
theorem E_formula_First (a0 : (Int × (Sl × Unit))) (K : (Sl × (Bool × (Int × Unit))) → HP) (h : Heap) : fnVC Tryz.prog [(1000000, .nil), (17, (.cons .sl .nil))] 19 Tryz.f39 [(.agg #[(.int .i64 a0.1), (.slice a0.2.1.a a0.2.1.len a0.2.1.cap)])] (.tup (.cons .sl (.cons .bool (.cons (.int .i64) .nil)))) K h = F_formula_First a0 K h := by kernel_rfl
set_option maxRecDepth 100000 in
theorem S_formula_First{h : Heap} {a0 : (Int × (Sl × Unit))} (K : (Sl × (Bool × (Int × Unit))) → HP) (hF : F_formula_First a0 K h) : CallsH Tryz.prog fn_formula_First #[(.agg #[(.int .i64 a0.1), (.slice a0.2.1.a a0.2.1.len a0.2.1.cap)])] h fun v h' => ∃ x : (Sl × (Bool × (Int × Unit))), v = Ty.enc (.tup (.cons .sl (.cons .bool (.cons (.int .i64) .nil)))) x ∧ K x h' :=
  callsH_of_fn (P := Tryz.prog) (fn := Tryz.f39) (τ := (.tup (.cons .sl (.cons .bool (.cons (.int .i64) .nil))))) follows Tryz.func39 (by kernel_rfl) (by kernel_rfl) Tryz.call39 (Eq.mpr (E_formula_First a0 K h) hF)

def F_formula_Value (a0 : (Int × (Sl × Unit))) (a1 : Sl) (K : (Bool × (Int × Unit)) → HP) : HP :=
 nw #[(.int .i64 a0.1), (.slice a0.2.1.a a0.2.1.len a0.2.1.cap)] ty_formula_Formula fun b0 =>
 ldA (.cons (.int .i64) (.cons .sl .nil)) (⟨b0, 0, none⟩ : Addr) fun x1 =>
 callT Tryz.prog fn_formula_Fails #[(.agg #[(.int .i64 x1.1), (.slice x1.2.1.a x1.2.1.len x1.2.1.cap)]), (.slice a1.a a1.len a1.cap)] (.tup (.cons (.int .i64) (.cons .bool (.cons (.int .i64) .nil)))) fun r2 =>
 brB (r2.2.2.1 == (0 : Int))
 (K ((!r2.2.1), r2.2.2.1, ()))
 (K (false, r2.2.2.1, ()))
set_option maxRecDepth 100000 in
theorem E_formula_Value (a0 : (Int × (Sl × Unit))) (a1 : Sl) (K : (Bool × (Int × Unit)) → HP) (h : Heap) : fnVC Tryz.prog [(1000000, .nil)] 23 Tryz.f40 [(.agg #[(.int .i64 a0.1), (.slice a0.2.1.a a0.2.1.len a0.2.1.cap)]), (.slice a1.a a1.len a1.cap)] (.tup (.cons .bool (.cons (.int .i64) .nil))) K h = F_formula_Value a0 a1 K h := by kernel_rfl
set_option maxRecDepth 100000 in
theorem S_formula_Value{h : Heap} {a0 : (Int × (Sl × Unit))} {a1 : Sl} (K : (Bool × (Int × Unit)) → HP) (hF : F_formula_Value a0 a1 K h) : CallsH Tryz.prog fn_formula_Value #[(.agg #[(.int .i64 a0.1), (.slice a0.2.1.a a0.2.1.len a0.2.1.cap)]), (.slice a1.a a1.len a1.cap)] h fun v h' => ∃ x : (Bool × (Int × Unit)), v = Ty.enc (.tup (.cons .bool (.cons (.int .i64) .nil))) x ∧ K x h' :=
  callsH_of_fn (P := Tryz.prog) (fn := Tryz.f40) (τ := (.tup (.cons .bool (.cons (.int .i64) .nil)))) follows Tryz.func40 (by kernel_rfl) (by kernel_rfl) Tryz.call40 (Eq.mpr (E_formula_Value a0 a1 K h) hF)

def F_formula_Models (a0 : (Int × (Sl × Unit))) (K : (Value × (Int × Unit)) → HP) : HP :=
 nw #[(.int .i64 a0.1), (.slice a0.2.1.a a0.2.1.len a0.2.1.cap)] ty_formula_Formula fun b0 =>
 ldA (.cons (.int .i64) (.cons .sl .nil)) (⟨b0, 0, none⟩ : Addr) fun x1 =>
 callT Tryz.prog fn_formula_Check #[(.agg #[(.int .i64 x1.1), (.slice x1.2.1.a x1.2.1.len x1.2.1.cap)])] (.tup (.cons (.int .i64) (.cons (.int .i64) .nil))) fun r2 =>
 brB (r2.2.1 != (0 : Int))
 (K (Value.nilFunc, r2.2.1, ()))
 (ldT (.int .i64) (⟨b0, 0, none⟩ : Addr) fun x3 =>
 brB (decide (x3 > (16 : Int)))
 (K (Value.nilFunc, (5 : Int), ()))
 (ldA (.cons (.int .i64) (.cons .sl .nil)) (⟨b0, 0, none⟩ : Addr) fun x4 =>
 callT Tryz.prog fn_formula_Copy #[(.agg #[(.int .i64 x4.1), (.slice x4.2.1.a x4.2.1.len x4.2.1.cap)])] (.agg (.cons (.int .i64) (.cons .sl .nil))) fun r5 =>
 nw #[(.int .i64 (0 : Int)), (.slice none 0 0)] ty_formula_Formula fun b6 =>
 st1 (⟨b6, 0, none⟩ : Addr) (.int .i64 r5.1) <|
 st1 ((⟨b6, 0, none⟩ : Addr).add 1) (.slice r5.2.1.a r5.2.1.len r5.2.1.cap) <|
 K ((.func (.func fn_formula_Models_1) #[] #[(.pointer (some (⟨b6, 0, none⟩ : Addr)))]), (0 : Int), ())))
set_option maxRecDepth 100000 in
theorem E_formula_Models (a0 : (Int × (Sl × Unit))) (K : (Value × (Int × Unit)) → HP) (h : Heap) : fnVC Tryz.prog [(1000000, .nil)] 21 Tryz.f42 [(.agg #[(.int .i64 a0.1), (.slice a0.2.1.a a0.2.1.len a0.2.1.cap)])] (.tup (.cons .val (.cons (.int .i64) .nil))) K h = F_formula_Models a0 K h := by kernel_rfl
set_option maxRecDepth 100000 in
theorem S_formula_Models{h : Heap} {a0 : (Int × (Sl × Unit))} (K : (Value × (Int × Unit)) → HP) (hF : F_formula_Models a0 K h) : CallsH Tryz.prog fn_formula_Models #[(.agg #[(.int .i64 a0.1), (.slice a0.2.1.a a0.2.1.len a0.2.1.cap)])] h fun v h' => ∃ x : (Value × (Int × Unit)), v = Ty.enc (.tup (.cons .val (.cons (.int .i64) .nil))) x ∧ K x h' :=
  callsH_of_fn (P := Tryz.prog) (fn := Tryz.f42) (τ := (.tup (.cons .val (.cons (.int .i64) .nil)))) follows Tryz.func42 (by kernel_rfl) (by kernel_rfl) Tryz.call42 (Eq.mpr (E_formula_Models a0 K h) hF)

def F_formula_Fails (a0 : (Int × (Sl × Unit))) (a1 : Sl) (K : (Int × (Bool × (Int × Unit))) → HP) : HP :=
 nw #[(.int .i64 a0.1), (.slice a0.2.1.a a0.2.1.len a0.2.1.cap)] ty_formula_Formula fun b0 =>
 ldA (.cons (.int .i64) (.cons .sl .nil)) (⟨b0, 0, none⟩ : Addr) fun x1 =>
 callT Tryz.prog fn_formula_Check #[(.agg #[(.int .i64 x1.1), (.slice x1.2.1.a x1.2.1.len x1.2.1.cap)])] (.tup (.cons (.int .i64) (.cons (.int .i64) .nil))) fun r2 =>
 brB (r2.2.1 != (0 : Int))
 (K ((0 : Int), false, r2.2.1, ()))
 (ldT (.int .i64) (⟨b0, 0, none⟩ : Addr) fun x3 =>
 brB ((a1.len : Int) != x3)
 (K ((0 : Int), false, (52 : Int), ()))
 (ldA (.cons (.int .i64) (.cons .sl .nil)) (⟨b0, 0, none⟩ : Addr) fun x4 =>
 callT Tryz.prog fn_formula_fails #[(.agg #[(.int .i64 x4.1), (.slice x4.2.1.a x4.2.1.len x4.2.1.cap)]), (.slice a1.a a1.len a1.cap)] (.int .i64) fun r5 =>
 brB (decide (r5 ≥ (0 : Int)))
 (K (r5, true, (0 : Int), ()))
 (K ((0 : Int), false, (0 : Int), ()))))
set_option maxRecDepth 100000 in
theorem E_formula_Fails (a0 : (Int × (Sl × Unit))) (a1 : Sl) (K : (Int × (Bool × (Int × Unit))) → HP) (h : Heap) : fnVC Tryz.prog [(1000000, .nil)] 29 Tryz.f43 [(.agg #[(.int .i64 a0.1), (.slice a0.2.1.a a0.2.1.len a0.2.1.cap)]), (.slice a1.a a1.len a1.cap)] (.tup (.cons (.int .i64) (.cons .bool (.cons (.int .i64) .nil)))) K h = F_formula_Fails a0 a1 K h := by kernel_rfl
set_option maxRecDepth 100000 in
theorem S_formula_Fails{h : Heap} {a0 : (Int × (Sl × Unit))} {a1 : Sl} (K : (Int × (Bool × (Int × Unit))) → HP) (hF : F_formula_Fails a0 a1 K h) : CallsH Tryz.prog fn_formula_Fails #[(.agg #[(.int .i64 a0.1), (.slice a0.2.1.a a0.2.1.len a0.2.1.cap)]), (.slice a1.a a1.len a1.cap)] h fun v h' => ∃ x : (Int × (Bool × (Int × Unit))), v = Ty.enc (.tup (.cons (.int .i64) (.cons .bool (.cons (.int .i64) .nil)))) x ∧ K x h' :=
  callsH_of_fn (P := Tryz.prog) (fn := Tryz.f43) (τ := (.tup (.cons (.int .i64) (.cons .bool (.cons (.int .i64) .nil))))) follows Tryz.func43 (by kernel_rfl) (by kernel_rfl) Tryz.call43 (Eq.mpr (E_formula_Fails a0 a1 K h) hF)

def F_slices_ContainsFunc_bool_bool (a0 : Sl) (a1 : Value) (K : Bool → HP) : HP :=
 callT Tryz.prog fn_slices_IndexFunc_bool_bool #[(.slice a0.a a0.len a0.cap), a1] (.int .i64) fun r0 =>
 K (decide (r0 ≥ (0 : Int)))
set_option maxRecDepth 100000 in
theorem E_slices_ContainsFunc_bool_bool (a0 : Sl) (a1 : Value) (K : Bool → HP) (h : Heap) : fnVC Tryz.prog [(1000000, .nil)] 9 Tryz.f44 [(.slice a0.a a0.len a0.cap), a1] .bool K h = F_slices_ContainsFunc_bool_bool a0 a1 K h := by kernel_rfl
set_option maxRecDepth 100000 in
theorem S_slices_ContainsFunc_bool_bool{h : Heap} {a0 : Sl} {a1 : Value} (K : Bool → HP) (hF : F_slices_ContainsFunc_bool_bool a0 a1 K h) : CallsH Tryz.prog fn_slices_ContainsFunc_bool_bool #[(.slice a0.a a0.len a0.cap), a1] h fun v h' => ∃ x : Bool, v = Ty.enc .bool x ∧ K x h' :=
  callsH_of_fn (P := Tryz.prog) (fn := Tryz.f44) (τ := .bool) follows Tryz.func44 (by kernel_rfl) (by kernel_rfl) Tryz.call44 (Eq.mpr (E_slices_ContainsFunc_bool_bool a0 a1 K h) hF)

def F_clauses_Holds (a0 : Sl) (a1 : Sl) (K : Bool → HP) : HP := fun h0 => (
 nw #[(.slice a1.a a1.len a1.cap)] ty_sl_lits_Lit fun b0 =>
 callT Tryz.prog fn_clauses_Right #[(.slice a0.a a0.len a0.cap)] .bool fun r1 =>
 brB (!r1)
 (mkd h0.size <|
 K false)
 (nw #[(.bool false)] ty_bool fun b2 =>
 st1 (⟨b2, 0, none⟩ : Addr) (.bool false) <|
 callT Tryz.prog fn_clauses_sorted #[(.slice a0.a a0.len a0.cap)] .val fun r3 =>
 jn (σ := Unit) (fun s5 => /- -/
 ldT .bool (⟨b2, 0, none⟩ : Addr) fun x6 =>
 mkd h0.size <|
 K x6)
 (fun J4 =>
 RangeVC Tryz.prog (.cons (.int .i64) .nil) r3 (fun x7 wrap8 next9 jump10 =>
 wrap8 <|
 ldT .sl (⟨b0, 0, none⟩ : Addr) fun x11 =>
 lfp (σ := (Int × Unit)) (fun X12 s13 => /-  -/
 brB (decide (s13.1 < (x11.len : Int)))
 (sx x11.a x11.len s13.1 1 fun p14 =>
 ldT (.int .i64) p14 fun x15 =>
 brB (x7.1 == x15)
 (st1 (⟨b2, 0, none⟩ : Addr) (.bool true) <|
 jump10 (.exit 0))
 (X12 ((IntKind.wrap .i64 (s13.1 + (1 : Int))), ())))
 (next9))
 ((0 : Int), ()))
 (J4 (()))
 (mkd h0.size <|
 K false)
 [0]
 [(J4 (()))]))) h0
set_option maxRecDepth 100000 in
theorem E_clauses_Holds (a0 : Sl) (a1 : Sl) (K : Bool → HP) (h : Heap) : fnVC Tryz.prog [(1000000, .nil), (14, (.cons (.int .i64) .nil))] 26 Tryz.f46 [(.slice a0.a a0.len a0.cap), (.slice a1.a a1.len a1.cap)] .bool K h = F_clauses_Holds a0 a1 K h := by kernel_rfl
set_option maxRecDepth 100000 in
theorem S_clauses_Holds{h : Heap} {a0 : Sl} {a1 : Sl} (K : Bool → HP) (hF : F_clauses_Holds a0 a1 K h) : CallsH Tryz.prog fn_clauses_Holds #[(.slice a0.a a0.len a0.cap), (.slice a1.a a1.len a1.cap)] h fun v h' => ∃ x : Bool, v = Ty.enc .bool x ∧ K x h' :=
  callsH_of_fn (P := Tryz.prog) (fn := Tryz.f46) (τ := .bool) follows Tryz.func46 (by kernel_rfl) (by kernel_rfl) Tryz.call46 (Eq.mpr (E_clauses_Holds a0 a1 K h) hF)

def F_salvorlaw02_Made (a0 : Sl) (K : Sl → HP) : HP :=
 slH ⟨a0.a, a0.len, a0.cap⟩ (if (20 : Int) < (a0.len : Int) then (20 : Int) else (a0.len : Int)) 1 fun s0 =>
 lfp (σ := (Int × (Sl × Unit))) (fun X1 s2 => /-  out -/
 brB (decide (s2.1 < (s0.len : Int)))
 (sx s0.a s0.len s2.1 1 fun p3 =>
 ldT (.int .u8) p3 fun x4 =>
 nz (2 : Int) <|
 nz (8 : Int) <|
 nz (2 : Int) <|
 jn (σ := (Int × Unit)) (fun s6 => /- x -/
 nw #[(.int .i64 s6.1)] ty_lits_Lit fun b7 =>
 apd ty_lits_Lit 1 8 #[(.int .i64 (0 : Int))] ⟨s2.2.1.a, s2.2.1.len, s2.2.1.cap⟩ ⟨(some (⟨b7, 0, none⟩ : Addr)), 1, 1⟩ fun s8 =>
 X1 ((IntKind.wrap .i64 (s2.1 + (1 : Int))), ⟨s8.a, s8.len, s8.cap⟩, ()))
 (fun J5 =>
 brB ((Int.tmod x4 (2 : Int)) == (1 : Int))
 (J5 ((IntKind.wrap .i64 (0 - (IntKind.wrap .i64 (IntKind.wrap .u8 ((1 : Int) + (Int.tmod (IntKind.wrap .u8 (Int.tdiv x4 (2 : Int))) (8 : Int))))))), ()))
 (J5 ((IntKind.wrap .i64 (IntKind.wrap .u8 ((1 : Int) + (Int.tmod (IntKind.wrap .u8 (Int.tdiv x4 (2 : Int))) (8 : Int))))), ()))))
 (K ⟨s2.2.1.a, s2.2.1.len, s2.2.1.cap⟩))
 ((0 : Int), ⟨none, 0, 0⟩, ())
set_option maxRecDepth 100000 in
theorem E_salvorlaw02_Made (a0 : Sl) (K : Sl → HP) (h : Heap) : fnVC Tryz.prog [(1000000, .nil)] 33 Tryz.f47 [(.slice a0.a a0.len a0.cap)] .sl K h = F_salvorlaw02_Made a0 K h := by kernel_rfl
set_option maxRecDepth 100000 in
theorem S_salvorlaw02_Made{h : Heap} {a0 : Sl} (K : Sl → HP) (hF : F_salvorlaw02_Made a0 K h) : CallsH Tryz.prog fn_salvorlaw02_Made #[(.slice a0.a a0.len a0.cap)] h fun v h' => ∃ x : Sl, v = Ty.enc .sl x ∧ K x h' :=
  callsH_of_fn (P := Tryz.prog) (fn := Tryz.f47) (τ := .sl) follows Tryz.func47 (by kernel_rfl) (by kernel_rfl) Tryz.call47 (Eq.mpr (E_salvorlaw02_Made a0 K h) hF)

def F_formula_Copy (a0 : (Int × (Sl × Unit))) (K : (Int × (Sl × Unit)) → HP) : HP :=
 nw #[(.int .i64 a0.1), (.slice a0.2.1.a a0.2.1.len a0.2.1.cap)] ty_formula_Formula fun b0 =>
 nw #[(.int .i64 (0 : Int)), (.slice none 0 0)] ty_formula_Formula fun b1 =>
 ldT (.int .i64) (⟨b0, 0, none⟩ : Addr) fun x2 =>
 nw #[(.int .i64 (0 : Int)), (.slice none 0 0)] ty_formula_Formula fun b3 =>
 st1 (⟨b3, 0, none⟩ : Addr) (.int .i64 x2) <|
 st1 ((⟨b3, 0, none⟩ : Addr).add 1) (.slice none 0 0) <|
 ldT .sl ((⟨b0, 0, none⟩ : Addr).add 1) fun x4 =>
 lfp (σ := (Int × Unit)) (fun X5 s6 => /-  -/
 brB (decide (s6.1 < (x4.len : Int)))
 (sx x4.a x4.len s6.1 1 fun p7 =>
 ldT .sl p7 fun x8 =>
 ldT .sl ((⟨b3, 0, none⟩ : Addr).add 1) fun x9 =>
 callT Tryz.prog fn_slices_Clone_clauses_Clause_lits_Lit #[(.slice x8.a x8.len x8.cap)] .sl fun r10 =>
 ck ((⟨b3, 0, none⟩ : Addr).add 1) (.slice x9.a x9.len x9.cap) <|
 nw #[(.slice r10.a r10.len r10.cap)] ty_clauses_Clause fun b11 =>
 apd ty_clauses_Clause 1 24 #[(.slice none 0 0)] ⟨x9.a, x9.len, x9.cap⟩ ⟨(some (⟨b11, 0, none⟩ : Addr)), 1, 1⟩ fun s12 =>
 st1 ((⟨b3, 0, none⟩ : Addr).add 1) (.slice s12.a s12.len s12.cap) <|
 X5 ((IntKind.wrap .i64 (s6.1 + (1 : Int))), ()))
 (ldA (.cons (.int .i64) (.cons .sl .nil)) (⟨b3, 0, none⟩ : Addr) fun x13 =>
 st1 (⟨b1, 0, none⟩ : Addr) (.int .i64 x13.1) <|
 st1 ((⟨b1, 0, none⟩ : Addr).add 1) (.slice x13.2.1.a x13.2.1.len x13.2.1.cap) <|
 ldA (.cons (.int .i64) (.cons .sl .nil)) (⟨b1, 0, none⟩ : Addr) fun x14 =>
 K (x14.1, ⟨x14.2.1.a, x14.2.1.len, x14.2.1.cap⟩, ())))
 ((0 : Int), ())
set_option maxRecDepth 100000 in
theorem E_formula_Copy (a0 : (Int × (Sl × Unit))) (K : (Int × (Sl × Unit)) → HP) (h : Heap) : fnVC Tryz.prog [(1000000, .nil)] 25 Tryz.f48 [(.agg #[(.int .i64 a0.1), (.slice a0.2.1.a a0.2.1.len a0.2.1.cap)])] (.agg (.cons (.int .i64) (.cons .sl .nil))) K h = F_formula_Copy a0 K h := by kernel_rfl
set_option maxRecDepth 100000 in
theorem S_formula_Copy{h : Heap} {a0 : (Int × (Sl × Unit))} (K : (Int × (Sl × Unit)) → HP) (hF : F_formula_Copy a0 K h) : CallsH Tryz.prog fn_formula_Copy #[(.agg #[(.int .i64 a0.1), (.slice a0.2.1.a a0.2.1.len a0.2.1.cap)])] h fun v h' => ∃ x : (Int × (Sl × Unit)), v = Ty.enc (.agg (.cons (.int .i64) (.cons .sl .nil))) x ∧ K x h' :=
  callsH_of_fn (P := Tryz.prog) (fn := Tryz.f48) (τ := (.agg (.cons (.int .i64) (.cons .sl .nil)))) follows Tryz.func48 (by kernel_rfl) (by kernel_rfl) Tryz.call48 (Eq.mpr (E_formula_Copy a0 K h) hF)

def F_clauses_Clashes (a0 : Sl) (a1 : Sl) (K : (Sl × (Int × Unit)) → HP) : HP := fun h0 => (
 callT Tryz.prog fn_clauses_Right #[(.slice a0.a a0.len a0.cap)] .bool fun r0 =>
 brB (!r0)
 (mkd h0.size <|
 K (⟨none, 0, 0⟩, (20 : Int), ()))
 (callT Tryz.prog fn_clauses_Right #[(.slice a1.a a1.len a1.cap)] .bool fun r1 =>
 brB (!r1)
 (mkd h0.size <|
 K (⟨none, 0, 0⟩, (20 : Int), ()))
 (callT Tryz.prog fn_clauses_normal #[(.slice a1.a a1.len a1.cap)] .sl fun r2 =>
 nw #[(.slice none 0 0)] ty_clauses_Clause fun b3 =>
 st1 (⟨b3, 0, none⟩ : Addr) (.slice r2.a r2.len r2.cap) <|
 nw #[Value.nilFunc] ty_func_lits_Lit_bool fun b4 =>
 st1 (⟨b4, 0, none⟩ : Addr) (.func (.func fn_clauses_Clashes_1) #[] #[(.pointer (some (⟨b3, 0, none⟩ : Addr)))]) <|
 nw #[(.slice none 0 0)] ty_sl_lits_Lit fun b5 =>
 callT Tryz.prog fn_clauses_sorted #[(.slice a0.a a0.len a0.cap)] .val fun r6 =>
 RangeVC Tryz.prog (.cons (.int .i64) .nil) r6 (fun x7 wrap8 next9 jump10 =>
 wrap8 <|
 ldT .val (⟨b4, 0, none⟩ : Addr) fun x11 =>
 callF Tryz.prog x11 #[(.int .i64 x7.1)] .bool fun r12 =>
 jn (σ := Unit) (fun s14 => /- -/
 next9)
 (fun J13 =>
 brB r12
 (ldT .sl (⟨b5, 0, none⟩ : Addr) fun x15 =>
 nw #[(.int .i64 x7.1)] ty_lits_Lit fun b16 =>
 apd ty_lits_Lit 1 8 #[(.int .i64 (0 : Int))] ⟨x15.a, x15.len, x15.cap⟩ ⟨(some (⟨b16, 0, none⟩ : Addr)), 1, 1⟩ fun s17 =>
 st1 (⟨b5, 0, none⟩ : Addr) (.slice s17.a s17.len s17.cap) <|
 J13 (()))
 (J13 (()))))
 (ldT .sl (⟨b5, 0, none⟩ : Addr) fun x18 =>
 mkd h0.size <|
 K (⟨x18.a, x18.len, x18.cap⟩, (0 : Int), ()))
 (mkd h0.size <|
 K (⟨none, 0, 0⟩, (0 : Int), ()))
 []
 []))) h0
set_option maxRecDepth 100000 in
theorem E_clauses_Clashes (a0 : Sl) (a1 : Sl) (K : (Sl × (Int × Unit)) → HP) (h : Heap) : fnVC Tryz.prog [(1000000, .nil), (23, (.cons (.int .i64) .nil))] 32 Tryz.f49 [(.slice a0.a a0.len a0.cap), (.slice a1.a a1.len a1.cap)] (.tup (.cons .sl (.cons (.int .i64) .nil))) K h = F_clauses_Clashes a0 a1 K h := by kernel_rfl
set_option maxRecDepth 100000 in
theorem S_clauses_Clashes{h : Heap} {a0 : Sl} {a1 : Sl} (K : (Sl × (Int × Unit)) → HP) (hF : F_clauses_Clashes a0 a1 K h) : CallsH Tryz.prog fn_clauses_Clashes #[(.slice a0.a a0.len a0.cap), (.slice a1.a a1.len a1.cap)] h fun v h' => ∃ x : (Sl × (Int × Unit)), v = Ty.enc (.tup (.cons .sl (.cons (.int .i64) .nil))) x ∧ K x h' :=
  callsH_of_fn (P := Tryz.prog) (fn := Tryz.f49) (τ := (.tup (.cons .sl (.cons (.int .i64) .nil)))) follows Tryz.func49 (by kernel_rfl) (by kernel_rfl) Tryz.call49 (Eq.mpr (E_clauses_Clashes a0 a1 K h) hF)

def F_clauses_Resolve (a0 : Sl) (a1 : Sl) (a2 : Int) (K : (Sl × (Int × Unit)) → HP) : HP :=
 callT Tryz.prog fn_clauses_Right #[(.slice a0.a a0.len a0.cap)] .bool fun r0 =>
 brB (!r0)
 (K (⟨none, 0, 0⟩, (20 : Int), ()))
 (callT Tryz.prog fn_clauses_Right #[(.slice a1.a a1.len a1.cap)] .bool fun r1 =>
 brB (!r1)
 (K (⟨none, 0, 0⟩, (20 : Int), ()))
 (callT Tryz.prog fn_clauses_wrong #[(.int .i64 a2)] .bool fun r2 =>
 brB r2
 (K (⟨none, 0, 0⟩, (10 : Int), ()))
 (callT Tryz.prog fn_clauses_Has #[(.slice a0.a a0.len a0.cap), (.int .i64 a2)] .bool fun r3 =>
 brB (!r3)
 (K (⟨none, 0, 0⟩, (21 : Int), ()))
 (callT Tryz.prog fn_lits_Neg #[(.int .i64 a2)] (.int .i64) fun r4 =>
 callT Tryz.prog fn_clauses_Has #[(.slice a1.a a1.len a1.cap), (.int .i64 r4)] .bool fun r5 =>
 brB (!r5)
 (K (⟨none, 0, 0⟩, (21 : Int), ()))
 (callT Tryz.prog fn_clauses_Without #[(.slice a0.a a0.len a0.cap), (.int .i64 a2)] (.tup (.cons .sl (.cons (.int .i64) .nil))) fun r6 =>
 callT Tryz.prog fn_lits_Neg #[(.int .i64 a2)] (.int .i64) fun r7 =>
 callT Tryz.prog fn_clauses_Without #[(.slice a1.a a1.len a1.cap), (.int .i64 r7)] (.tup (.cons .sl (.cons (.int .i64) .nil))) fun r8 =>
 callT Tryz.prog fn_clauses_Union #[(.slice r6.1.a r6.1.len r6.1.cap), (.slice r8.1.a r8.1.len r8.1.cap)] (.tup (.cons .sl (.cons (.int .i64) .nil))) fun r9 =>
 K (⟨r9.1.a, r9.1.len, r9.1.cap⟩, r9.2.1, ()))))))
set_option maxRecDepth 100000 in
theorem E_clauses_Resolve (a0 : Sl) (a1 : Sl) (a2 : Int) (K : (Sl × (Int × Unit)) → HP) (h : Heap) : fnVC Tryz.prog [(1000000, .nil)] 54 Tryz.f50 [(.slice a0.a a0.len a0.cap), (.slice a1.a a1.len a1.cap), (.int .i64 a2)] (.tup (.cons .sl (.cons (.int .i64) .nil))) K h = F_clauses_Resolve a0 a1 a2 K h := by kernel_rfl
set_option maxRecDepth 100000 in
theorem S_clauses_Resolve{h : Heap} {a0 : Sl} {a1 : Sl} {a2 : Int} (K : (Sl × (Int × Unit)) → HP) (hF : F_clauses_Resolve a0 a1 a2 K h) : CallsH Tryz.prog fn_clauses_Resolve #[(.slice a0.a a0.len a0.cap), (.slice a1.a a1.len a1.cap), (.int .i64 a2)] h fun v h' => ∃ x : (Sl × (Int × Unit)), v = Ty.enc (.tup (.cons .sl (.cons (.int .i64) .nil))) x ∧ K x h' :=
  callsH_of_fn (P := Tryz.prog) (fn := Tryz.f50) (τ := (.tup (.cons .sl (.cons (.int .i64) .nil)))) follows Tryz.func50 (by kernel_rfl) (by kernel_rfl) Tryz.call50 (Eq.mpr (E_clauses_Resolve a0 a1 a2 K h) hF)

def F_salvorlaw05_FormulaMore_1 (a0 : Sl) (c0 : Addr) (K : Bool → HP) : HP :=
 ldT .sl c0 fun x0 =>
 callT Tryz.prog fn_formula_Holds #[(.slice x0.a x0.len x0.cap), (.slice a0.a a0.len a0.cap)] .bool fun r1 =>
 K (!r1)
set_option maxRecDepth 100000 in
theorem E_salvorlaw05_FormulaMore_1 (a0 : Sl) (c0 : Addr) (K : Bool → HP) (h : Heap) : fnVC Tryz.prog [(1000000, .nil)] 8 Tryz.f51 [(.slice a0.a a0.len a0.cap), (.pointer (some c0))] .bool K h = F_salvorlaw05_FormulaMore_1 a0 c0 K h := by kernel_rfl
set_option maxRecDepth 100000 in
theorem S_salvorlaw05_FormulaMore_1{h : Heap} {a0 : Sl} {c0 : Addr} (K : Bool → HP) (hF : F_salvorlaw05_FormulaMore_1 a0 c0 K h) : CallsH Tryz.prog fn_salvorlaw05_FormulaMore_1 #[(.slice a0.a a0.len a0.cap), (.pointer (some c0))] h fun v h' => ∃ x : Bool, v = Ty.enc .bool x ∧ K x h' :=
  callsH_of_fn (P := Tryz.prog) (fn := Tryz.f51) (τ := .bool) follows Tryz.func51 (by kernel_rfl) (by kernel_rfl) Tryz.call51 (Eq.mpr (E_salvorlaw05_FormulaMore_1 a0 c0 K h) hF)

def F_formula_Assign (a0 : (Int × (Sl × Unit))) (a1 : Int) (K : ((Int × (Sl × Unit)) × (Int × Unit)) → HP) : HP :=
 nw #[(.int .i64 a0.1), (.slice a0.2.1.a a0.2.1.len a0.2.1.cap)] ty_formula_Formula fun b0 =>
 nw #[(.int .i64 a1)] ty_lits_Lit fun b1 =>
 nw #[(.int .i64 (0 : Int)), (.slice none 0 0)] ty_formula_Formula fun b2 =>
 ldA (.cons (.int .i64) (.cons .sl .nil)) (⟨b0, 0, none⟩ : Addr) fun x3 =>
 callT Tryz.prog fn_formula_Check #[(.agg #[(.int .i64 x3.1), (.slice x3.2.1.a x3.2.1.len x3.2.1.cap)])] (.tup (.cons (.int .i64) (.cons (.int .i64) .nil))) fun r4 =>
 brB (r4.2.1 != (0 : Int))
 (st1 (⟨b2, 0, none⟩ : Addr) (.int .i64 (0 : Int)) <|
 st1 ((⟨b2, 0, none⟩ : Addr).add 1) (.slice none 0 0) <|
 ldA (.cons (.int .i64) (.cons .sl .nil)) (⟨b2, 0, none⟩ : Addr) fun x5 =>
 K ((x5.1, ⟨x5.2.1.a, x5.2.1.len, x5.2.1.cap⟩, ()), r4.2.1, ()))
 (ldT (.int .i64) (⟨b0, 0, none⟩ : Addr) fun x6 =>
 ldT (.int .i64) (⟨b1, 0, none⟩ : Addr) fun x7 =>
 callT Tryz.prog fn_formula_beyond #[(.int .i64 x6)] .val fun r8 =>
 ck (⟨b1, 0, none⟩ : Addr) (.int .i64 x7) <|
 callF Tryz.prog r8 #[(.int .i64 x7)] .bool fun r9 =>
 brB r9
 (st1 (⟨b2, 0, none⟩ : Addr) (.int .i64 (0 : Int)) <|
 st1 ((⟨b2, 0, none⟩ : Addr).add 1) (.slice none 0 0) <|
 ldA (.cons (.int .i64) (.cons .sl .nil)) (⟨b2, 0, none⟩ : Addr) fun x10 =>
 K ((x10.1, ⟨x10.2.1.a, x10.2.1.len, x10.2.1.cap⟩, ()), (51 : Int), ()))
 (ldT (.int .i64) (⟨b0, 0, none⟩ : Addr) fun x11 =>
 nw #[(.int .i64 (0 : Int)), (.slice none 0 0)] ty_formula_Formula fun b12 =>
 st1 (⟨b12, 0, none⟩ : Addr) (.int .i64 x11) <|
 st1 ((⟨b12, 0, none⟩ : Addr).add 1) (.slice none 0 0) <|
 ldT .sl ((⟨b0, 0, none⟩ : Addr).add 1) fun x13 =>
 lfp (σ := (Int × Unit)) (fun X14 s15 => /-  -/
 brB (decide (s15.1 < (x13.len : Int)))
 (sx x13.a x13.len s15.1 1 fun p16 =>
 ldT .sl p16 fun x17 =>
 ldT (.int .i64) (⟨b1, 0, none⟩ : Addr) fun x18 =>
 callT Tryz.prog fn_slices_Contains_clauses_Clause_lits_Lit #[(.slice x17.a x17.len x17.cap), (.int .i64 x18)] .bool fun r19 =>
 jn (σ := Unit) (fun s21 => /- -/
 X14 ((IntKind.wrap .i64 (s15.1 + (1 : Int))), ()))
 (fun J20 =>
 brB (!r19)
 (ldT .sl ((⟨b12, 0, none⟩ : Addr).add 1) fun x22 =>
 callT Tryz.prog fn_slices_Clone_clauses_Clause_lits_Lit #[(.slice x17.a x17.len x17.cap)] .sl fun r23 =>
 ck ((⟨b12, 0, none⟩ : Addr).add 1) (.slice x22.a x22.len x22.cap) <|
 callT Tryz.prog fn_slices_DeleteFunc_clauses_Clause_lits_Lit #[(.slice r23.a r23.len r23.cap), (.func (.func fn_formula_Assign_1) #[] #[(.pointer (some (⟨b1, 0, none⟩ : Addr)))])] .sl fun r24 =>
 ck ((⟨b12, 0, none⟩ : Addr).add 1) (.slice x22.a x22.len x22.cap) <|
 nw #[(.slice r24.a r24.len r24.cap)] ty_clauses_Clause fun b25 =>
 apd ty_clauses_Clause 1 24 #[(.slice none 0 0)] ⟨x22.a, x22.len, x22.cap⟩ ⟨(some (⟨b25, 0, none⟩ : Addr)), 1, 1⟩ fun s26 =>
 st1 ((⟨b12, 0, none⟩ : Addr).add 1) (.slice s26.a s26.len s26.cap) <|
 J20 (()))
 (J20 (()))))
 (ldA (.cons (.int .i64) (.cons .sl .nil)) (⟨b12, 0, none⟩ : Addr) fun x27 =>
 st1 (⟨b2, 0, none⟩ : Addr) (.int .i64 x27.1) <|
 st1 ((⟨b2, 0, none⟩ : Addr).add 1) (.slice x27.2.1.a x27.2.1.len x27.2.1.cap) <|
 ldA (.cons (.int .i64) (.cons .sl .nil)) (⟨b2, 0, none⟩ : Addr) fun x28 =>
 K ((x28.1, ⟨x28.2.1.a, x28.2.1.len, x28.2.1.cap⟩, ()), (0 : Int), ())))
 ((0 : Int), ())))
set_option maxRecDepth 100000 in
theorem E_formula_Assign (a0 : (Int × (Sl × Unit))) (a1 : Int) (K : ((Int × (Sl × Unit)) × (Int × Unit)) → HP) (h : Heap) : fnVC Tryz.prog [(1000000, .nil)] 51 Tryz.f52 [(.agg #[(.int .i64 a0.1), (.slice a0.2.1.a a0.2.1.len a0.2.1.cap)]), (.int .i64 a1)] (.tup (.cons (.agg (.cons (.int .i64) (.cons .sl .nil))) (.cons (.int .i64) .nil))) K h = F_formula_Assign a0 a1 K h := by kernel_rfl
set_option maxRecDepth 100000 in
theorem S_formula_Assign{h : Heap} {a0 : (Int × (Sl × Unit))} {a1 : Int} (K : ((Int × (Sl × Unit)) × (Int × Unit)) → HP) (hF : F_formula_Assign a0 a1 K h) : CallsH Tryz.prog fn_formula_Assign #[(.agg #[(.int .i64 a0.1), (.slice a0.2.1.a a0.2.1.len a0.2.1.cap)]), (.int .i64 a1)] h fun v h' => ∃ x : ((Int × (Sl × Unit)) × (Int × Unit)), v = Ty.enc (.tup (.cons (.agg (.cons (.int .i64) (.cons .sl .nil))) (.cons (.int .i64) .nil))) x ∧ K x h' :=
  callsH_of_fn (P := Tryz.prog) (fn := Tryz.f52) (τ := (.tup (.cons (.agg (.cons (.int .i64) (.cons .sl .nil))) (.cons (.int .i64) .nil)))) follows Tryz.func52 (by kernel_rfl) (by kernel_rfl) Tryz.call52 (Eq.mpr (E_formula_Assign a0 a1 K h) hF)

def F_lits_Var (a0 : Int) (K : Int → HP) : HP :=
 callT Tryz.prog fn_lits_Right #[(.int .i64 a0)] .bool fun r0 =>
 brB (!r0)
 (K (0 : Int))
 (K (if (IntKind.wrap .i64 (0 - a0)) > a0 then (IntKind.wrap .i64 (0 - a0)) else a0))
set_option maxRecDepth 100000 in
theorem E_lits_Var (a0 : Int) (K : Int → HP) (h : Heap) : fnVC Tryz.prog [(1000000, .nil)] 10 Tryz.f55 [(.int .i64 a0)] (.int .i64) K h = F_lits_Var a0 K h := by kernel_rfl
set_option maxRecDepth 100000 in
theorem S_lits_Var{h : Heap} {a0 : Int} (K : Int → HP) (hF : F_lits_Var a0 K h) : CallsH Tryz.prog fn_lits_Var #[(.int .i64 a0)] h fun v h' => ∃ x : Int, v = Ty.enc (.int .i64) x ∧ K x h' :=
  callsH_of_fn (P := Tryz.prog) (fn := Tryz.f55) (τ := (.int .i64)) follows Tryz.func55 (by kernel_rfl) (by kernel_rfl) Tryz.call55 (Eq.mpr (E_lits_Var a0 K h) hF)

def F_salvorlaw05_Theirs (a0 : (Int × (Sl × Unit))) (K : (Int × (Sl × Unit)) → HP) : HP :=
 nw #[(.int .i64 a0.1), (.slice a0.2.1.a a0.2.1.len a0.2.1.cap)] ty_formula_Formula fun b0 =>
 nw #[(.int .i64 (0 : Int)), (.slice none 0 0)] ty_salvorref05_Formula fun b1 =>
 ldT (.int .i64) (⟨b0, 0, none⟩ : Addr) fun x2 =>
 nw #[(.int .i64 (0 : Int)), (.slice none 0 0)] ty_salvorref05_Formula fun b3 =>
 st1 (⟨b3, 0, none⟩ : Addr) (.int .i64 x2) <|
 st1 ((⟨b3, 0, none⟩ : Addr).add 1) (.slice none 0 0) <|
 ldT .sl ((⟨b0, 0, none⟩ : Addr).add 1) fun x4 =>
 lfp (σ := (Int × Unit)) (fun X5 s6 => /-  -/
 brB (decide (s6.1 < (x4.len : Int)))
 (sx x4.a x4.len s6.1 1 fun p7 =>
 ldT .sl p7 fun x8 =>
 ldT .sl ((⟨b3, 0, none⟩ : Addr).add 1) fun x9 =>
 callT Tryz.prog fn_salvorlaw02_Ints #[(.slice x8.a x8.len x8.cap)] .sl fun r10 =>
 ck ((⟨b3, 0, none⟩ : Addr).add 1) (.slice x9.a x9.len x9.cap) <|
 nw #[(.slice r10.a r10.len r10.cap)] ty_sl_int fun b11 =>
 apd ty_sl_int 1 24 #[(.slice none 0 0)] ⟨x9.a, x9.len, x9.cap⟩ ⟨(some (⟨b11, 0, none⟩ : Addr)), 1, 1⟩ fun s12 =>
 st1 ((⟨b3, 0, none⟩ : Addr).add 1) (.slice s12.a s12.len s12.cap) <|
 X5 ((IntKind.wrap .i64 (s6.1 + (1 : Int))), ()))
 (ldA (.cons (.int .i64) (.cons .sl .nil)) (⟨b3, 0, none⟩ : Addr) fun x13 =>
 st1 (⟨b1, 0, none⟩ : Addr) (.int .i64 x13.1) <|
 st1 ((⟨b1, 0, none⟩ : Addr).add 1) (.slice x13.2.1.a x13.2.1.len x13.2.1.cap) <|
 ldA (.cons (.int .i64) (.cons .sl .nil)) (⟨b1, 0, none⟩ : Addr) fun x14 =>
 K (x14.1, ⟨x14.2.1.a, x14.2.1.len, x14.2.1.cap⟩, ())))
 ((0 : Int), ())
set_option maxRecDepth 100000 in
theorem E_salvorlaw05_Theirs (a0 : (Int × (Sl × Unit))) (K : (Int × (Sl × Unit)) → HP) (h : Heap) : fnVC Tryz.prog [(1000000, .nil)] 25 Tryz.f58 [(.agg #[(.int .i64 a0.1), (.slice a0.2.1.a a0.2.1.len a0.2.1.cap)])] (.agg (.cons (.int .i64) (.cons .sl .nil))) K h = F_salvorlaw05_Theirs a0 K h := by kernel_rfl
set_option maxRecDepth 100000 in
theorem S_salvorlaw05_Theirs{h : Heap} {a0 : (Int × (Sl × Unit))} (K : (Int × (Sl × Unit)) → HP) (hF : F_salvorlaw05_Theirs a0 K h) : CallsH Tryz.prog fn_salvorlaw05_Theirs #[(.agg #[(.int .i64 a0.1), (.slice a0.2.1.a a0.2.1.len a0.2.1.cap)])] h fun v h' => ∃ x : (Int × (Sl × Unit)), v = Ty.enc (.agg (.cons (.int .i64) (.cons .sl .nil))) x ∧ K x h' :=
  callsH_of_fn (P := Tryz.prog) (fn := Tryz.f58) (τ := (.agg (.cons (.int .i64) (.cons .sl .nil)))) follows Tryz.func58 (by kernel_rfl) (by kernel_rfl) Tryz.call58 (Eq.mpr (E_salvorlaw05_Theirs a0 K h) hF)

def F_salvorlaw05_Equal (a0 : (Int × (Sl × Unit))) (a1 : (Int × (Sl × Unit))) (K : Bool → HP) : HP :=
 nw #[(.int .i64 a0.1), (.slice a0.2.1.a a0.2.1.len a0.2.1.cap)] ty_formula_Formula fun b0 =>
 nw #[(.int .i64 a1.1), (.slice a1.2.1.a a1.2.1.len a1.2.1.cap)] ty_salvorref05_Formula fun b1 =>
 ldT (.int .i64) (⟨b0, 0, none⟩ : Addr) fun x2 =>
 ldT (.int .i64) (⟨b1, 0, none⟩ : Addr) fun x3 =>
 brB (x2 == x3)
 (ldT .sl ((⟨b0, 0, none⟩ : Addr).add 1) fun x4 =>
 ldT .sl ((⟨b1, 0, none⟩ : Addr).add 1) fun x5 =>
 callT Tryz.prog fn_slices_EqualFunc_clauses_Clause_int_clauses_Clause_int #[(.slice x4.a x4.len x4.cap), (.slice x5.a x5.len x5.cap), (.func (.func fn_salvorlaw05_Equal_1) #[] #[])] .bool fun r6 =>
 K r6)
 (K false)
set_option maxRecDepth 100000 in
theorem E_salvorlaw05_Equal (a0 : (Int × (Sl × Unit))) (a1 : (Int × (Sl × Unit))) (K : Bool → HP) (h : Heap) : fnVC Tryz.prog [(1000000, .nil)] 17 Tryz.f59 [(.agg #[(.int .i64 a0.1), (.slice a0.2.1.a a0.2.1.len a0.2.1.cap)]), (.agg #[(.int .i64 a1.1), (.slice a1.2.1.a a1.2.1.len a1.2.1.cap)])] .bool K h = F_salvorlaw05_Equal a0 a1 K h := by kernel_rfl
set_option maxRecDepth 100000 in
theorem S_salvorlaw05_Equal{h : Heap} {a0 : (Int × (Sl × Unit))} {a1 : (Int × (Sl × Unit))} (K : Bool → HP) (hF : F_salvorlaw05_Equal a0 a1 K h) : CallsH Tryz.prog fn_salvorlaw05_Equal #[(.agg #[(.int .i64 a0.1), (.slice a0.2.1.a a0.2.1.len a0.2.1.cap)]), (.agg #[(.int .i64 a1.1), (.slice a1.2.1.a a1.2.1.len a1.2.1.cap)])] h fun v h' => ∃ x : Bool, v = Ty.enc .bool x ∧ K x h' :=
  callsH_of_fn (P := Tryz.prog) (fn := Tryz.f59) (τ := .bool) follows Tryz.func59 (by kernel_rfl) (by kernel_rfl) Tryz.call59 (Eq.mpr (E_salvorlaw05_Equal a0 a1 K h) hF)

def F_salvorref05_Check (a0 : (Int × (Sl × Unit))) (K : (Int × (Int × Unit)) → HP) : HP :=
 nw #[(.int .i64 a0.1), (.slice a0.2.1.a a0.2.1.len a0.2.1.cap)] ty_salvorref05_Formula fun b0 =>
 ldT (.int .i64) (⟨b0, 0, none⟩ : Addr) fun x1 =>
 jn (σ := Bool) (fun t3 =>
 brB t3
 (K ((-1 : Int), (50 : Int), ()))
 (ldT .sl ((⟨b0, 0, none⟩ : Addr).add 1) fun x4 =>
 brB (decide ((x4.len : Int) > (262144 : Int)))
 (K ((-1 : Int), (5 : Int), ()))
 (lfp (σ := (Int × (Int × (Int × Unit)))) (fun X5 s6 => /- i   -/
 ldT .sl ((⟨b0, 0, none⟩ : Addr).add 1) fun x7 =>
 brB (decide (s6.1 < (x7.len : Int)))
 (ldT .sl ((⟨b0, 0, none⟩ : Addr).add 1) fun x8 =>
 sx x8.a x8.len s6.1 1 fun p9 =>
 ldT .sl p9 fun x10 =>
 callT Tryz.prog fn_salvorref02_Right #[(.slice x10.a x10.len x10.cap)] .bool fun r11 =>
 brB (!r11)
 (K (s6.1, (20 : Int), ()))
 (lfp (σ := (Int × (Int × (Int × Unit)))) (fun X12 s13 => /- k   -/
 brB (decide (s13.1 < (x10.len : Int)))
 (sx x10.a x10.len s13.1 1 fun p14 =>
 ldT (.int .i64) p14 fun x15 =>
 ldT (.int .i64) (⟨b0, 0, none⟩ : Addr) fun x16 =>
 callT Tryz.prog fn_salvorref01_Var #[(.int .i64 x15)] (.int .i64) fun r17 =>
 ck (⟨b0, 0, none⟩ : Addr) (.int .i64 x16) <|
 brB (decide (r17 > x16))
 (K (s6.1, (51 : Int), ()))
 (X12 ((IntKind.wrap .i64 (s13.1 + (1 : Int))), s13.2.1, s13.2.2.1, ())))
 (X5 ((IntKind.wrap .i64 (s6.1 + (1 : Int))), s13.2.1, s13.2.2.1, ())))
 ((0 : Int), s6.2.1, s6.2.2.1, ())))
 (K ((-1 : Int), (0 : Int), ())))
 ((0 : Int), (0 : Int), (0 : Int), ()))))
 (fun J2 =>
 brB (decide (x1 < (0 : Int)))
 (J2 true)
 (ldT (.int .i64) (⟨b0, 0, none⟩ : Addr) fun x18 =>
 J2 ((decide (x18 > (1048576 : Int))))))
set_option maxRecDepth 100000 in
theorem E_salvorref05_Check (a0 : (Int × (Sl × Unit))) (K : (Int × (Int × Unit)) → HP) (h : Heap) : fnVC Tryz.prog [(1000000, .bool)] 50 Tryz.f60 [(.agg #[(.int .i64 a0.1), (.slice a0.2.1.a a0.2.1.len a0.2.1.cap)])] (.tup (.cons (.int .i64) (.cons (.int .i64) .nil))) K h = F_salvorref05_Check a0 K h := by kernel_rfl
set_option maxRecDepth 100000 in
theorem S_salvorref05_Check{h : Heap} {a0 : (Int × (Sl × Unit))} (K : (Int × (Int × Unit)) → HP) (hF : F_salvorref05_Check a0 K h) : CallsH Tryz.prog fn_salvorref05_Check #[(.agg #[(.int .i64 a0.1), (.slice a0.2.1.a a0.2.1.len a0.2.1.cap)])] h fun v h' => ∃ x : (Int × (Int × Unit)), v = Ty.enc (.tup (.cons (.int .i64) (.cons (.int .i64) .nil))) x ∧ K x h' :=
  callsH_of_fn (P := Tryz.prog) (fn := Tryz.f60) (τ := (.tup (.cons (.int .i64) (.cons (.int .i64) .nil)))) follows Tryz.func60 (by kernel_rfl) (by kernel_rfl) Tryz.call60 (Eq.mpr (E_salvorref05_Check a0 K h) hF)

def F_salvorref05_Fails (a0 : (Int × (Sl × Unit))) (a1 : Sl) (K : Int → HP) : HP :=
 nw #[(.int .i64 a0.1), (.slice a0.2.1.a a0.2.1.len a0.2.1.cap)] ty_salvorref05_Formula fun b0 =>
 lfp (σ := (Int × (Int × Unit))) (fun X1 s2 => /- i  -/
 ldT .sl ((⟨b0, 0, none⟩ : Addr).add 1) fun x3 =>
 brB (decide (s2.1 < (x3.len : Int)))
 (ldT .sl ((⟨b0, 0, none⟩ : Addr).add 1) fun x4 =>
 sx x4.a x4.len s2.1 1 fun p5 =>
 ldT .sl p5 fun x6 =>
 callT Tryz.prog fn_salvorref05_Holds #[(.slice x6.a x6.len x6.cap), (.slice a1.a a1.len a1.cap)] .bool fun r7 =>
 brB (!r7)
 (K s2.1)
 (X1 ((IntKind.wrap .i64 (s2.1 + (1 : Int))), s2.2.1, ())))
 (K (-1 : Int)))
 ((0 : Int), (0 : Int), ())
set_option maxRecDepth 100000 in
theorem E_salvorref05_Fails (a0 : (Int × (Sl × Unit))) (a1 : Sl) (K : Int → HP) (h : Heap) : fnVC Tryz.prog [(1000000, .bool)] 22 Tryz.f61 [(.agg #[(.int .i64 a0.1), (.slice a0.2.1.a a0.2.1.len a0.2.1.cap)]), (.slice a1.a a1.len a1.cap)] (.int .i64) K h = F_salvorref05_Fails a0 a1 K h := by kernel_rfl
set_option maxRecDepth 100000 in
theorem S_salvorref05_Fails{h : Heap} {a0 : (Int × (Sl × Unit))} {a1 : Sl} (K : Int → HP) (hF : F_salvorref05_Fails a0 a1 K h) : CallsH Tryz.prog fn_salvorref05_Fails #[(.agg #[(.int .i64 a0.1), (.slice a0.2.1.a a0.2.1.len a0.2.1.cap)]), (.slice a1.a a1.len a1.cap)] h fun v h' => ∃ x : Int, v = Ty.enc (.int .i64) x ∧ K x h' :=
  callsH_of_fn (P := Tryz.prog) (fn := Tryz.f61) (τ := (.int .i64)) follows Tryz.func61 (by kernel_rfl) (by kernel_rfl) Tryz.call61 (Eq.mpr (E_salvorref05_Fails a0 a1 K h) hF)

def F_salvorref05_Assign (a0 : (Int × (Sl × Unit))) (a1 : Int) (K : (Int × (Sl × Unit)) → HP) : HP :=
 nw #[(.int .i64 a0.1), (.slice a0.2.1.a a0.2.1.len a0.2.1.cap)] ty_salvorref05_Formula fun b0 =>
 nw #[(.int .i64 (0 : Int)), (.slice none 0 0)] ty_salvorref05_Formula fun b1 =>
 ldT (.int .i64) (⟨b0, 0, none⟩ : Addr) fun x2 =>
 nw #[(.int .i64 (0 : Int)), (.slice none 0 0)] ty_salvorref05_Formula fun b3 =>
 st1 (⟨b3, 0, none⟩ : Addr) (.int .i64 x2) <|
 st1 ((⟨b3, 0, none⟩ : Addr).add 1) (.slice none 0 0) <|
 lfp (σ := (Int × Unit)) (fun X4 s5 => /- i -/
 ldT .sl ((⟨b0, 0, none⟩ : Addr).add 1) fun x6 =>
 brB (decide (s5.1 < (x6.len : Int)))
 (jn (σ := Unit) (fun s8 => /- -/
 X4 ((IntKind.wrap .i64 (s5.1 + (1 : Int))), ()))
 (fun J7 =>
 ldT .sl ((⟨b0, 0, none⟩ : Addr).add 1) fun x9 =>
 sx x9.a x9.len s5.1 1 fun p10 =>
 ldT .sl p10 fun x11 =>
 callT Tryz.prog fn_salvorref02_Has #[(.slice x11.a x11.len x11.cap), (.int .i64 a1)] .bool fun r12 =>
 brB r12
 (J7 (()))
 (lfp (σ := (Int × (Sl × Unit))) (fun X13 s14 => /- k c -/
 ldT .sl ((⟨b0, 0, none⟩ : Addr).add 1) fun x15 =>
 sx x15.a x15.len s5.1 1 fun p16 =>
 ldT .sl p16 fun x17 =>
 brB (decide (s14.1 < (x17.len : Int)))
 (ldT .sl ((⟨b0, 0, none⟩ : Addr).add 1) fun x18 =>
 sx x18.a x18.len s5.1 1 fun p19 =>
 ldT .sl p19 fun x20 =>
 sx x20.a x20.len s14.1 1 fun p21 =>
 ldT (.int .i64) p21 fun x22 =>
 jn (σ := (Sl × Unit)) (fun s24 => /- c -/
 X13 ((IntKind.wrap .i64 (s14.1 + (1 : Int))), ⟨s24.1.a, s24.1.len, s24.1.cap⟩, ()))
 (fun J23 =>
 brB (x22 != (IntKind.wrap .i64 (0 - a1)))
 (ldT .sl ((⟨b0, 0, none⟩ : Addr).add 1) fun x25 =>
 sx x25.a x25.len s5.1 1 fun p26 =>
 ldT .sl p26 fun x27 =>
 sx x27.a x27.len s14.1 1 fun p28 =>
 ldT (.int .i64) p28 fun x29 =>
 nw #[(.int .i64 x29)] ty_int fun b30 =>
 apd ty_int 1 8 #[(.int .i64 (0 : Int))] ⟨s14.2.1.a, s14.2.1.len, s14.2.1.cap⟩ ⟨(some (⟨b30, 0, none⟩ : Addr)), 1, 1⟩ fun s31 =>
 J23 (⟨s31.a, s31.len, s31.cap⟩, ()))
 (J23 (⟨s14.2.1.a, s14.2.1.len, s14.2.1.cap⟩, ()))))
 (ldT .sl ((⟨b3, 0, none⟩ : Addr).add 1) fun x32 =>
 nw #[(.slice s14.2.1.a s14.2.1.len s14.2.1.cap)] ty_sl_int fun b33 =>
 apd ty_sl_int 1 24 #[(.slice none 0 0)] ⟨x32.a, x32.len, x32.cap⟩ ⟨(some (⟨b33, 0, none⟩ : Addr)), 1, 1⟩ fun s34 =>
 st1 ((⟨b3, 0, none⟩ : Addr).add 1) (.slice s34.a s34.len s34.cap) <|
 J7 (())))
 ((0 : Int), ⟨none, 0, 0⟩, ()))))
 (ldA (.cons (.int .i64) (.cons .sl .nil)) (⟨b3, 0, none⟩ : Addr) fun x35 =>
 st1 (⟨b1, 0, none⟩ : Addr) (.int .i64 x35.1) <|
 st1 ((⟨b1, 0, none⟩ : Addr).add 1) (.slice x35.2.1.a x35.2.1.len x35.2.1.cap) <|
 ldA (.cons (.int .i64) (.cons .sl .nil)) (⟨b1, 0, none⟩ : Addr) fun x36 =>
 K (x36.1, ⟨x36.2.1.a, x36.2.1.len, x36.2.1.cap⟩, ())))
 ((0 : Int), ())
set_option maxRecDepth 100000 in
theorem E_salvorref05_Assign (a0 : (Int × (Sl × Unit))) (a1 : Int) (K : (Int × (Sl × Unit)) → HP) (h : Heap) : fnVC Tryz.prog [(1000000, .bool)] 65 Tryz.f62 [(.agg #[(.int .i64 a0.1), (.slice a0.2.1.a a0.2.1.len a0.2.1.cap)]), (.int .i64 a1)] (.agg (.cons (.int .i64) (.cons .sl .nil))) K h = F_salvorref05_Assign a0 a1 K h := by kernel_rfl
set_option maxRecDepth 100000 in
theorem S_salvorref05_Assign{h : Heap} {a0 : (Int × (Sl × Unit))} {a1 : Int} (K : (Int × (Sl × Unit)) → HP) (hF : F_salvorref05_Assign a0 a1 K h) : CallsH Tryz.prog fn_salvorref05_Assign #[(.agg #[(.int .i64 a0.1), (.slice a0.2.1.a a0.2.1.len a0.2.1.cap)]), (.int .i64 a1)] h fun v h' => ∃ x : (Int × (Sl × Unit)), v = Ty.enc (.agg (.cons (.int .i64) (.cons .sl .nil))) x ∧ K x h' :=
  callsH_of_fn (P := Tryz.prog) (fn := Tryz.f62) (τ := (.agg (.cons (.int .i64) (.cons .sl .nil)))) follows Tryz.func62 (by kernel_rfl) (by kernel_rfl) Tryz.call62 (Eq.mpr (E_salvorref05_Assign a0 a1 K h) hF)

def F_salvorref05_Norm (a0 : (Int × (Sl × Unit))) (K : (Int × (Sl × Unit)) → HP) : HP :=
 nw #[(.int .i64 a0.1), (.slice a0.2.1.a a0.2.1.len a0.2.1.cap)] ty_salvorref05_Formula fun b0 =>
 nw #[(.int .i64 (0 : Int)), (.slice none 0 0)] ty_salvorref05_Formula fun b1 =>
 ldT (.int .i64) (⟨b0, 0, none⟩ : Addr) fun x2 =>
 nw #[(.int .i64 (0 : Int)), (.slice none 0 0)] ty_salvorref05_Formula fun b3 =>
 st1 (⟨b3, 0, none⟩ : Addr) (.int .i64 x2) <|
 st1 ((⟨b3, 0, none⟩ : Addr).add 1) (.slice none 0 0) <|
 lfp (σ := Unit) (fun X4 s5 => /- -/
 lfp (σ := (Int × (Int × Unit))) (fun X6 s7 => /- i best -/
 ldT .sl ((⟨b0, 0, none⟩ : Addr).add 1) fun x8 =>
 brB (decide (s7.1 < (x8.len : Int)))
 (jn (σ := (Int × Unit)) (fun s10 => /- best -/
 X6 ((IntKind.wrap .i64 (s7.1 + (1 : Int))), s10.1, ()))
 (fun J9 =>
 ldT .sl ((⟨b0, 0, none⟩ : Addr).add 1) fun x11 =>
 sx x11.a x11.len s7.1 1 fun p12 =>
 ldT .sl p12 fun x13 =>
 callT Tryz.prog fn_salvorref02_Always #[(.slice x13.a x13.len x13.cap)] .bool fun r14 =>
 jn (σ := Bool) (fun t16 =>
 brB t16
 (J9 (s7.2.1, ()))
 (jn (σ := Bool) (fun t18 =>
 jn (σ := (Int × Unit)) (fun s20 => /- best -/
 J9 (s20.1, ()))
 (fun J19 =>
 brB t18
 (J19 (s7.1, ()))
 (J19 (s7.2.1, ()))))
 (fun J17 =>
 brB (decide (s7.2.1 < (0 : Int)))
 (J17 true)
 (ldT .sl ((⟨b0, 0, none⟩ : Addr).add 1) fun x21 =>
 sx x21.a x21.len s7.2.1 1 fun p22 =>
 ldT .sl p22 fun x23 =>
 callT Tryz.prog fn_salvorref02_Compare #[(.slice x13.a x13.len x13.cap), (.slice x23.a x23.len x23.cap)] (.int .i64) fun r24 =>
 J17 ((decide (r24 < (0 : Int))))))))
 (fun J15 =>
 brB r14
 (J15 true)
 (ldT .sl ((⟨b3, 0, none⟩ : Addr).add 1) fun x25 =>
 jn (σ := Bool) (fun t27 =>
 J15 (t27))
 (fun J26 =>
 brB (decide ((x25.len : Int) > (0 : Int)))
 (ldT .sl ((⟨b3, 0, none⟩ : Addr).add 1) fun x28 =>
 ldT .sl ((⟨b3, 0, none⟩ : Addr).add 1) fun x29 =>
 sx x28.a x28.len (IntKind.wrap .i64 ((x29.len : Int) - (1 : Int))) 1 fun p30 =>
 ldT .sl p30 fun x31 =>
 callT Tryz.prog fn_salvorref02_Compare #[(.slice x13.a x13.len x13.cap), (.slice x31.a x31.len x31.cap)] (.int .i64) fun r32 =>
 J26 ((decide (r32 ≤ (0 : Int)))))
 (J26 false))))))
 (brB (decide (s7.2.1 < (0 : Int)))
 (ldA (.cons (.int .i64) (.cons .sl .nil)) (⟨b3, 0, none⟩ : Addr) fun x33 =>
 st1 (⟨b1, 0, none⟩ : Addr) (.int .i64 x33.1) <|
 st1 ((⟨b1, 0, none⟩ : Addr).add 1) (.slice x33.2.1.a x33.2.1.len x33.2.1.cap) <|
 ldA (.cons (.int .i64) (.cons .sl .nil)) (⟨b1, 0, none⟩ : Addr) fun x34 =>
 K (x34.1, ⟨x34.2.1.a, x34.2.1.len, x34.2.1.cap⟩, ()))
 (ldT .sl ((⟨b3, 0, none⟩ : Addr).add 1) fun x35 =>
 ldT .sl ((⟨b0, 0, none⟩ : Addr).add 1) fun x36 =>
 sx x36.a x36.len s7.2.1 1 fun p37 =>
 ldT .sl p37 fun x38 =>
 callT Tryz.prog fn_salvorref02_Norm #[(.slice x38.a x38.len x38.cap)] .sl fun r39 =>
 ck ((⟨b3, 0, none⟩ : Addr).add 1) (.slice x35.a x35.len x35.cap) <|
 nw #[(.slice r39.a r39.len r39.cap)] ty_sl_int fun b40 =>
 apd ty_sl_int 1 24 #[(.slice none 0 0)] ⟨x35.a, x35.len, x35.cap⟩ ⟨(some (⟨b40, 0, none⟩ : Addr)), 1, 1⟩ fun s41 =>
 st1 ((⟨b3, 0, none⟩ : Addr).add 1) (.slice s41.a s41.len s41.cap) <|
 X4 (()))))
 ((0 : Int), (-1 : Int), ()))
 (())
set_option maxRecDepth 100000 in
theorem E_salvorref05_Norm (a0 : (Int × (Sl × Unit))) (K : (Int × (Sl × Unit)) → HP) (h : Heap) : fnVC Tryz.prog [(1000000, .bool)] 70 Tryz.f63 [(.agg #[(.int .i64 a0.1), (.slice a0.2.1.a a0.2.1.len a0.2.1.cap)])] (.agg (.cons (.int .i64) (.cons .sl .nil))) K h = F_salvorref05_Norm a0 K h := by kernel_rfl
set_option maxRecDepth 100000 in
theorem S_salvorref05_Norm{h : Heap} {a0 : (Int × (Sl × Unit))} (K : (Int × (Sl × Unit)) → HP) (hF : F_salvorref05_Norm a0 K h) : CallsH Tryz.prog fn_salvorref05_Norm #[(.agg #[(.int .i64 a0.1), (.slice a0.2.1.a a0.2.1.len a0.2.1.cap)])] h fun v h' => ∃ x : (Int × (Sl × Unit)), v = Ty.enc (.agg (.cons (.int .i64) (.cons .sl .nil))) x ∧ K x h' :=
  callsH_of_fn (P := Tryz.prog) (fn := Tryz.f63) (τ := (.agg (.cons (.int .i64) (.cons .sl .nil)))) follows Tryz.func63 (by kernel_rfl) (by kernel_rfl) Tryz.call63 (Eq.mpr (E_salvorref05_Norm a0 K h) hF)

def F_salvorlaw05_models (a0 : (Int × (Sl × Unit))) (a1 : Int) (a2 : Sl) (a3 : Bool) (a4 : Value) (K : Bool → HP) : HP := fun h0 => (
 nw #[(.int .i64 a0.1), (.slice a0.2.1.a a0.2.1.len a0.2.1.cap)] ty_salvorref05_Formula fun b0 =>
 nw #[(.bool false)] ty_bool fun b1 =>
 ldA (.cons (.int .i64) (.cons .sl .nil)) (⟨b0, 0, none⟩ : Addr) fun x2 =>
 callT Tryz.prog fn_salvorref05_Models #[(.agg #[(.int .i64 x2.1), (.slice x2.2.1.a x2.2.1.len x2.2.1.cap)])] .sl fun r3 =>
 nw #[(.slice none 0 0)] ty_sl_sl_int fun b4 =>
 st1 (⟨b4, 0, none⟩ : Addr) (.slice r3.a r3.len r3.cap) <|
 ldT .sl (⟨b4, 0, none⟩ : Addr) fun x5 =>
 brB (a1 != (x5.len : Int))
 (st1 (⟨b1, 0, none⟩ : Addr) (.bool false) <|
 mkd h0.size <|
 ldT .bool (⟨b1, 0, none⟩ : Addr) fun x6 =>
 K x6)
 (ldT .sl (⟨b4, 0, none⟩ : Addr) fun x7 =>
 brB (!(a3 == (decide ((x7.len : Int) > (0 : Int)))))
 (st1 (⟨b1, 0, none⟩ : Addr) (.bool false) <|
 mkd h0.size <|
 ldT .bool (⟨b1, 0, none⟩ : Addr) fun x8 =>
 K x8)
 (brB a3
 (ldT .sl (⟨b4, 0, none⟩ : Addr) fun x9 =>
 sx x9.a x9.len (0 : Int) 1 fun p10 =>
 ldT .sl p10 fun x11 =>
 callT Tryz.prog fn_salvorlaw05_Bits #[(.slice a2.a a2.len a2.cap)] .sl fun r12 =>
 ck p10 (.slice x11.a x11.len x11.cap) <|
 ck (⟨b4, 0, none⟩ : Addr) (.slice x9.a x9.len x9.cap) <|
 callT Tryz.prog fn_slices_Equal_int_int #[(.slice r12.a r12.len r12.cap), (.slice x11.a x11.len x11.cap)] .bool fun r13 =>
 brB (!r13)
 (st1 (⟨b1, 0, none⟩ : Addr) (.bool false) <|
 mkd h0.size <|
 ldT .bool (⟨b1, 0, none⟩ : Addr) fun x14 =>
 K x14)
 (brB (!a3)
 (brB ((a2.len : Int) != (0 : Int))
 (st1 (⟨b1, 0, none⟩ : Addr) (.bool false) <|
 mkd h0.size <|
 ldT .bool (⟨b1, 0, none⟩ : Addr) fun x15 =>
 K x15)
 (nw #[(.int .i64 (0 : Int))] ty_int fun b16 =>
 st1 (⟨b16, 0, none⟩ : Addr) (.int .i64 (0 : Int)) <|
 RangeVC Tryz.prog (.cons .sl .nil) a4 (fun x17 wrap18 next19 jump20 =>
 wrap18 <|
 ldT (.int .i64) (⟨b16, 0, none⟩ : Addr) fun x21 =>
 ldT .sl (⟨b4, 0, none⟩ : Addr) fun x22 =>
 brB (decide (x21 ≥ (x22.len : Int)))
 (st1 (⟨b1, 0, none⟩ : Addr) (.bool false) <|
 jump20 .ret)
 (ldT .sl (⟨b4, 0, none⟩ : Addr) fun x23 =>
 ldT (.int .i64) (⟨b16, 0, none⟩ : Addr) fun x24 =>
 sx x23.a x23.len x24 1 fun p25 =>
 ldT .sl p25 fun x26 =>
 callT Tryz.prog fn_salvorlaw05_Bits #[(.slice x17.1.a x17.1.len x17.1.cap)] .sl fun r27 =>
 ck p25 (.slice x26.a x26.len x26.cap) <|
 ck (⟨b16, 0, none⟩ : Addr) (.int .i64 x24) <|
 ck (⟨b4, 0, none⟩ : Addr) (.slice x23.a x23.len x23.cap) <|
 callT Tryz.prog fn_slices_Equal_int_int #[(.slice r27.a r27.len r27.cap), (.slice x26.a x26.len x26.cap)] .bool fun r28 =>
 brB (!r28)
 (st1 (⟨b1, 0, none⟩ : Addr) (.bool false) <|
 jump20 .ret)
 (lfp (σ := (Int × Unit)) (fun X29 s30 => /-  -/
 brB (decide (s30.1 < (x17.1.len : Int)))
 (sx x17.1.a x17.1.len s30.1 1 fun p31 =>
 ldT .bool p31 fun x32 =>
 sx x17.1.a x17.1.len s30.1 1 fun p33 =>
 st1 p33 (.bool (!x32)) <|
 X29 ((IntKind.wrap .i64 (s30.1 + (1 : Int))), ()))
 (ldT (.int .i64) (⟨b16, 0, none⟩ : Addr) fun x34 =>
 st1 (⟨b16, 0, none⟩ : Addr) (.int .i64 (IntKind.wrap .i64 (x34 + (1 : Int)))) <|
 next19))
 ((0 : Int), ()))))
 (ldT (.int .i64) (⟨b16, 0, none⟩ : Addr) fun x35 =>
 ldT .sl (⟨b4, 0, none⟩ : Addr) fun x36 =>
 st1 (⟨b1, 0, none⟩ : Addr) (.bool (x35 == (x36.len : Int))) <|
 mkd h0.size <|
 ldT .bool (⟨b1, 0, none⟩ : Addr) fun x37 =>
 K x37)
 (mkd h0.size <|
 ldT .bool (⟨b1, 0, none⟩ : Addr) fun x38 =>
 K x38)
 []
 []))
 (nw #[(.int .i64 (0 : Int))] ty_int fun b39 =>
 st1 (⟨b39, 0, none⟩ : Addr) (.int .i64 (0 : Int)) <|
 RangeVC Tryz.prog (.cons .sl .nil) a4 (fun x40 wrap41 next42 jump43 =>
 wrap41 <|
 ldT (.int .i64) (⟨b39, 0, none⟩ : Addr) fun x44 =>
 ldT .sl (⟨b4, 0, none⟩ : Addr) fun x45 =>
 brB (decide (x44 ≥ (x45.len : Int)))
 (st1 (⟨b1, 0, none⟩ : Addr) (.bool false) <|
 jump43 .ret)
 (ldT .sl (⟨b4, 0, none⟩ : Addr) fun x46 =>
 ldT (.int .i64) (⟨b39, 0, none⟩ : Addr) fun x47 =>
 sx x46.a x46.len x47 1 fun p48 =>
 ldT .sl p48 fun x49 =>
 callT Tryz.prog fn_salvorlaw05_Bits #[(.slice x40.1.a x40.1.len x40.1.cap)] .sl fun r50 =>
 ck p48 (.slice x49.a x49.len x49.cap) <|
 ck (⟨b39, 0, none⟩ : Addr) (.int .i64 x47) <|
 ck (⟨b4, 0, none⟩ : Addr) (.slice x46.a x46.len x46.cap) <|
 callT Tryz.prog fn_slices_Equal_int_int #[(.slice r50.a r50.len r50.cap), (.slice x49.a x49.len x49.cap)] .bool fun r51 =>
 brB (!r51)
 (st1 (⟨b1, 0, none⟩ : Addr) (.bool false) <|
 jump43 .ret)
 (lfp (σ := (Int × Unit)) (fun X52 s53 => /-  -/
 brB (decide (s53.1 < (x40.1.len : Int)))
 (sx x40.1.a x40.1.len s53.1 1 fun p54 =>
 ldT .bool p54 fun x55 =>
 sx x40.1.a x40.1.len s53.1 1 fun p56 =>
 st1 p56 (.bool (!x55)) <|
 X52 ((IntKind.wrap .i64 (s53.1 + (1 : Int))), ()))
 (ldT (.int .i64) (⟨b39, 0, none⟩ : Addr) fun x57 =>
 st1 (⟨b39, 0, none⟩ : Addr) (.int .i64 (IntKind.wrap .i64 (x57 + (1 : Int)))) <|
 next42))
 ((0 : Int), ()))))
 (ldT (.int .i64) (⟨b39, 0, none⟩ : Addr) fun x58 =>
 ldT .sl (⟨b4, 0, none⟩ : Addr) fun x59 =>
 st1 (⟨b1, 0, none⟩ : Addr) (.bool (x58 == (x59.len : Int))) <|
 mkd h0.size <|
 ldT .bool (⟨b1, 0, none⟩ : Addr) fun x60 =>
 K x60)
 (mkd h0.size <|
 ldT .bool (⟨b1, 0, none⟩ : Addr) fun x61 =>
 K x61)
 []
 [])))
 (brB (!a3)
 (brB ((a2.len : Int) != (0 : Int))
 (st1 (⟨b1, 0, none⟩ : Addr) (.bool false) <|
 mkd h0.size <|
 ldT .bool (⟨b1, 0, none⟩ : Addr) fun x62 =>
 K x62)
 (nw #[(.int .i64 (0 : Int))] ty_int fun b63 =>
 st1 (⟨b63, 0, none⟩ : Addr) (.int .i64 (0 : Int)) <|
 RangeVC Tryz.prog (.cons .sl .nil) a4 (fun x64 wrap65 next66 jump67 =>
 wrap65 <|
 ldT (.int .i64) (⟨b63, 0, none⟩ : Addr) fun x68 =>
 ldT .sl (⟨b4, 0, none⟩ : Addr) fun x69 =>
 brB (decide (x68 ≥ (x69.len : Int)))
 (st1 (⟨b1, 0, none⟩ : Addr) (.bool false) <|
 jump67 .ret)
 (ldT .sl (⟨b4, 0, none⟩ : Addr) fun x70 =>
 ldT (.int .i64) (⟨b63, 0, none⟩ : Addr) fun x71 =>
 sx x70.a x70.len x71 1 fun p72 =>
 ldT .sl p72 fun x73 =>
 callT Tryz.prog fn_salvorlaw05_Bits #[(.slice x64.1.a x64.1.len x64.1.cap)] .sl fun r74 =>
 ck p72 (.slice x73.a x73.len x73.cap) <|
 ck (⟨b63, 0, none⟩ : Addr) (.int .i64 x71) <|
 ck (⟨b4, 0, none⟩ : Addr) (.slice x70.a x70.len x70.cap) <|
 callT Tryz.prog fn_slices_Equal_int_int #[(.slice r74.a r74.len r74.cap), (.slice x73.a x73.len x73.cap)] .bool fun r75 =>
 brB (!r75)
 (st1 (⟨b1, 0, none⟩ : Addr) (.bool false) <|
 jump67 .ret)
 (lfp (σ := (Int × Unit)) (fun X76 s77 => /-  -/
 brB (decide (s77.1 < (x64.1.len : Int)))
 (sx x64.1.a x64.1.len s77.1 1 fun p78 =>
 ldT .bool p78 fun x79 =>
 sx x64.1.a x64.1.len s77.1 1 fun p80 =>
 st1 p80 (.bool (!x79)) <|
 X76 ((IntKind.wrap .i64 (s77.1 + (1 : Int))), ()))
 (ldT (.int .i64) (⟨b63, 0, none⟩ : Addr) fun x81 =>
 st1 (⟨b63, 0, none⟩ : Addr) (.int .i64 (IntKind.wrap .i64 (x81 + (1 : Int)))) <|
 next66))
 ((0 : Int), ()))))
 (ldT (.int .i64) (⟨b63, 0, none⟩ : Addr) fun x82 =>
 ldT .sl (⟨b4, 0, none⟩ : Addr) fun x83 =>
 st1 (⟨b1, 0, none⟩ : Addr) (.bool (x82 == (x83.len : Int))) <|
 mkd h0.size <|
 ldT .bool (⟨b1, 0, none⟩ : Addr) fun x84 =>
 K x84)
 (mkd h0.size <|
 ldT .bool (⟨b1, 0, none⟩ : Addr) fun x85 =>
 K x85)
 []
 []))
 (nw #[(.int .i64 (0 : Int))] ty_int fun b86 =>
 st1 (⟨b86, 0, none⟩ : Addr) (.int .i64 (0 : Int)) <|
 RangeVC Tryz.prog (.cons .sl .nil) a4 (fun x87 wrap88 next89 jump90 =>
 wrap88 <|
 ldT (.int .i64) (⟨b86, 0, none⟩ : Addr) fun x91 =>
 ldT .sl (⟨b4, 0, none⟩ : Addr) fun x92 =>
 brB (decide (x91 ≥ (x92.len : Int)))
 (st1 (⟨b1, 0, none⟩ : Addr) (.bool false) <|
 jump90 .ret)
 (ldT .sl (⟨b4, 0, none⟩ : Addr) fun x93 =>
 ldT (.int .i64) (⟨b86, 0, none⟩ : Addr) fun x94 =>
 sx x93.a x93.len x94 1 fun p95 =>
 ldT .sl p95 fun x96 =>
 callT Tryz.prog fn_salvorlaw05_Bits #[(.slice x87.1.a x87.1.len x87.1.cap)] .sl fun r97 =>
 ck p95 (.slice x96.a x96.len x96.cap) <|
 ck (⟨b86, 0, none⟩ : Addr) (.int .i64 x94) <|
 ck (⟨b4, 0, none⟩ : Addr) (.slice x93.a x93.len x93.cap) <|
 callT Tryz.prog fn_slices_Equal_int_int #[(.slice r97.a r97.len r97.cap), (.slice x96.a x96.len x96.cap)] .bool fun r98 =>
 brB (!r98)
 (st1 (⟨b1, 0, none⟩ : Addr) (.bool false) <|
 jump90 .ret)
 (lfp (σ := (Int × Unit)) (fun X99 s100 => /-  -/
 brB (decide (s100.1 < (x87.1.len : Int)))
 (sx x87.1.a x87.1.len s100.1 1 fun p101 =>
 ldT .bool p101 fun x102 =>
 sx x87.1.a x87.1.len s100.1 1 fun p103 =>
 st1 p103 (.bool (!x102)) <|
 X99 ((IntKind.wrap .i64 (s100.1 + (1 : Int))), ()))
 (ldT (.int .i64) (⟨b86, 0, none⟩ : Addr) fun x104 =>
 st1 (⟨b86, 0, none⟩ : Addr) (.int .i64 (IntKind.wrap .i64 (x104 + (1 : Int)))) <|
 next89))
 ((0 : Int), ()))))
 (ldT (.int .i64) (⟨b86, 0, none⟩ : Addr) fun x105 =>
 ldT .sl (⟨b4, 0, none⟩ : Addr) fun x106 =>
 st1 (⟨b1, 0, none⟩ : Addr) (.bool (x105 == (x106.len : Int))) <|
 mkd h0.size <|
 ldT .bool (⟨b1, 0, none⟩ : Addr) fun x107 =>
 K x107)
 (mkd h0.size <|
 ldT .bool (⟨b1, 0, none⟩ : Addr) fun x108 =>
 K x108)
 []
 []))))) h0
set_option maxRecDepth 100000 in
theorem E_salvorlaw05_models (a0 : (Int × (Sl × Unit))) (a1 : Int) (a2 : Sl) (a3 : Bool) (a4 : Value) (K : Bool → HP) (h : Heap) : fnVC Tryz.prog [(1000000, .bool), (50, (.cons .sl .nil))] 85 Tryz.f64 [(.agg #[(.int .i64 a0.1), (.slice a0.2.1.a a0.2.1.len a0.2.1.cap)]), (.int .i64 a1), (.slice a2.a a2.len a2.cap), (.bool a3), a4] .bool K h = F_salvorlaw05_models a0 a1 a2 a3 a4 K h := by kernel_rfl
set_option maxRecDepth 100000 in
theorem S_salvorlaw05_models{h : Heap} {a0 : (Int × (Sl × Unit))} {a1 : Int} {a2 : Sl} {a3 : Bool} {a4 : Value} (K : Bool → HP) (hF : F_salvorlaw05_models a0 a1 a2 a3 a4 K h) : CallsH Tryz.prog fn_salvorlaw05_models #[(.agg #[(.int .i64 a0.1), (.slice a0.2.1.a a0.2.1.len a0.2.1.cap)]), (.int .i64 a1), (.slice a2.a a2.len a2.cap), (.bool a3), a4] h fun v h' => ∃ x : Bool, v = Ty.enc .bool x ∧ K x h' :=
  callsH_of_fn (P := Tryz.prog) (fn := Tryz.f64) (τ := .bool) follows Tryz.func64 (by kernel_rfl) (by kernel_rfl) Tryz.call64 (Eq.mpr (E_salvorlaw05_models a0 a1 a2 a3 a4 K h) hF)

def F_formula_vars (a0 : Int) (K : Bool → HP) : HP :=
 brB (decide (a0 ≥ (0 : Int)))
 (K (decide (a0 ≤ (1048576 : Int))))
 (K false)
set_option maxRecDepth 100000 in
theorem E_formula_vars (a0 : Int) (K : Bool → HP) (h : Heap) : fnVC Tryz.prog [(1000000, .nil)] 9 Tryz.f65 [(.int .i64 a0)] .bool K h = F_formula_vars a0 K h := by kernel_rfl
set_option maxRecDepth 100000 in
theorem S_formula_vars{h : Heap} {a0 : Int} (K : Bool → HP) (hF : F_formula_vars a0 K h) : CallsH Tryz.prog fn_formula_vars #[(.int .i64 a0)] h fun v h' => ∃ x : Bool, v = Ty.enc .bool x ∧ K x h' :=
  callsH_of_fn (P := Tryz.prog) (fn := Tryz.f65) (τ := .bool) follows Tryz.func65 (by kernel_rfl) (by kernel_rfl) Tryz.call65 (Eq.mpr (E_formula_vars a0 K h) hF)

def F_clauses_Right (a0 : Sl) (K : Bool → HP) : HP :=
 brB (decide ((a0.len : Int) ≤ (4096 : Int)))
 (callT Tryz.prog fn_slices_ContainsFunc_clauses_Clause_lits_Lit #[(.slice a0.a a0.len a0.cap), (.func (.func fn_clauses_wrong) #[] #[])] .bool fun r0 =>
 K (!r0))
 (K false)
set_option maxRecDepth 100000 in
theorem E_clauses_Right (a0 : Sl) (K : Bool → HP) (h : Heap) : fnVC Tryz.prog [(1000000, .nil)] 11 Tryz.f66 [(.slice a0.a a0.len a0.cap)] .bool K h = F_clauses_Right a0 K h := by kernel_rfl
set_option maxRecDepth 100000 in
theorem S_clauses_Right{h : Heap} {a0 : Sl} (K : Bool → HP) (hF : F_clauses_Right a0 K h) : CallsH Tryz.prog fn_clauses_Right #[(.slice a0.a a0.len a0.cap)] h fun v h' => ∃ x : Bool, v = Ty.enc .bool x ∧ K x h' :=
  callsH_of_fn (P := Tryz.prog) (fn := Tryz.f66) (τ := .bool) follows Tryz.func66 (by kernel_rfl) (by kernel_rfl) Tryz.call66 (Eq.mpr (E_clauses_Right a0 K h) hF)

def F_slices_ContainsFunc_clauses_Clause_lits_Lit (a0 : Sl) (a1 : Value) (K : Bool → HP) : HP :=
 callT Tryz.prog fn_slices_IndexFunc_clauses_Clause_lits_Lit #[(.slice a0.a a0.len a0.cap), a1] (.int .i64) fun r0 =>
 K (decide (r0 ≥ (0 : Int)))
set_option maxRecDepth 100000 in
theorem E_slices_ContainsFunc_clauses_Clause_lits_Lit (a0 : Sl) (a1 : Value) (K : Bool → HP) (h : Heap) : fnVC Tryz.prog [(1000000, .nil)] 9 Tryz.f67 [(.slice a0.a a0.len a0.cap), a1] .bool K h = F_slices_ContainsFunc_clauses_Clause_lits_Lit a0 a1 K h := by kernel_rfl
set_option maxRecDepth 100000 in
theorem S_slices_ContainsFunc_clauses_Clause_lits_Lit{h : Heap} {a0 : Sl} {a1 : Value} (K : Bool → HP) (hF : F_slices_ContainsFunc_clauses_Clause_lits_Lit a0 a1 K h) : CallsH Tryz.prog fn_slices_ContainsFunc_clauses_Clause_lits_Lit #[(.slice a0.a a0.len a0.cap), a1] h fun v h' => ∃ x : Bool, v = Ty.enc .bool x ∧ K x h' :=
  callsH_of_fn (P := Tryz.prog) (fn := Tryz.f67) (τ := .bool) follows Tryz.func67 (by kernel_rfl) (by kernel_rfl) Tryz.call67 (Eq.mpr (E_slices_ContainsFunc_clauses_Clause_lits_Lit a0 a1 K h) hF)

end Go.Proofs.S
