/- The functions of the seat, each as a predicate over its values, printed by a program of ours, and that each is its text's. -/
import Derived.Test.YtjkgncibelojnaaGreatSx10
import Derived.KernelRfl
import Derived.Test.YtjkgncibelojnaaGreatProg
import Derived.Test.YtjkgncibelojnaaGreatClF0
set_option linter.unusedVariables false
set_option maxRecDepth 100000
namespace Go.Proofs.S
open Go Go.Sx Go.Proofs
def F_salvorref08_Find (a0 : Sl) (a1 : Sl) (K : (Sl × (Bool × Unit)) → HP) : HP :=
 callT Tryz.prog fn_salvorref08_Assume #[(.slice a0.a a0.len a0.cap)] (.tup (.cons .sl (.cons .bool .nil))) fun r0 =>
 brB r0.2.1
 (K (⟨none, 0, 0⟩, true, ()))
 (lfp (σ := (Sl × (Sl × (Sl × (Sl × (Bool × (Sl × Unit))))))) (fun X1 s2 =>
 lfp (σ := (Int × (Int × (Int × (Int × Unit))))) (fun X3 s4 =>
 brB (decide (s4.1 < (a1.len : Int)))
 (sx a1.a a1.len s4.1 1 fun p5 =>
 ldT .sl p5 fun x6 =>
 callT Tryz.prog fn_salvorref08_Look #[(.slice x6.a x6.len x6.cap), (.slice s2.2.2.2.1.a s2.2.2.2.1.len s2.2.2.2.1.cap)] (.tup (.cons (.int .i64) (.cons (.int .i64) .nil))) fun r7 =>
 jn (σ := Bool) (fun t9 =>
 jn (σ := Bool) (fun t11 =>
 jn (σ := (Int × (Int × (Int × Unit)))) (fun s13 =>
 X3 ((IntKind.wrap .i64 (s4.1 + (1 : Int))), s13.1, s13.2.1, s13.2.2.1, ()))
 (fun J12 =>
 brB t11
 (J12 (r7.2.1, r7.1, s4.1, ()))
 (J12 (s4.2.1, s4.2.2.1, s4.2.2.2.1, ()))))
 (fun J10 =>
 brB t9
 (J10 ((decide (r7.1 < s4.2.2.1))))
 (J10 false)))
 (fun J8 =>
 brB (r7.1 == (2 : Int))
 (J8 true)
 (J8 ((r7.1 == (3 : Int))))))
 (brB (decide (s4.2.2.2.1 < (0 : Int)))
 (K (⟨none, 0, 0⟩, false, ()))
 (nw #[(.int .i64 s4.2.2.2.1)] ty_int fun b14 =>
 apd ty_int 1 8 #[(.int .i64 0)] ⟨s2.2.2.1.a, s2.2.2.1.len, s2.2.2.1.cap⟩ ⟨(some ⟨b14, 0, none⟩), 1, 1⟩ fun s15 =>
 sx a1.a a1.len s4.2.2.2.1 1 fun p16 =>
 ldT .sl p16 fun x17 =>
 nw #[(.slice x17.a x17.len x17.cap)] ty_sl_int fun b18 =>
 apd ty_sl_int 1 24 #[(.slice none 0 0)] ⟨s2.1.a, s2.1.len, s2.1.cap⟩ ⟨(some ⟨b18, 0, none⟩), 1, 1⟩ fun s19 =>
 brB (s4.2.2.1 == (2 : Int))
 (callT Tryz.prog fn_salvorref08_without #[(.slice s19.a s19.len s19.cap), (.slice s2.2.1.a s2.2.1.len s2.2.1.cap)] .sl fun r20 =>
 lfp (σ := (Int × (Sl × Unit))) (fun X21 s22 =>
 brB (decide (s22.1 < (r20.len : Int)))
 (sx r20.a r20.len s22.1 1 fun p23 =>
 ldT (.int .i64) p23 fun x24 =>
 sx s15.a s15.len x24 1 fun p25 =>
 ldT (.int .i64) p25 fun x26 =>
 nw #[(.int .i64 x26)] ty_int fun b27 =>
 apd ty_int 1 8 #[(.int .i64 0)] ⟨s22.2.1.a, s22.2.1.len, s22.2.1.cap⟩ ⟨(some ⟨b27, 0, none⟩), 1, 1⟩ fun s28 =>
 X21 ((IntKind.wrap .i64 (s22.1 + (1 : Int))), ⟨s28.a, s28.len, s28.cap⟩, ()))
 (K (⟨s22.2.1.a, s22.2.1.len, s22.2.1.cap⟩, true, ())))
 ((0 : Int), ⟨none, 0, 0⟩, ()))
 (nw #[(.int .i64 s4.2.1)] ty_int fun b29 =>
 apd ty_int 1 8 #[(.int .i64 0)] ⟨s2.2.1.a, s2.2.1.len, s2.2.1.cap⟩ ⟨(some ⟨b29, 0, none⟩), 1, 1⟩ fun s30 =>
 nw #[(.int .i64 s4.2.1)] ty_int fun b31 =>
 apd ty_int 1 8 #[(.int .i64 0)] ⟨s2.2.2.2.1.a, s2.2.2.2.1.len, s2.2.2.2.1.cap⟩ ⟨(some ⟨b31, 0, none⟩), 1, 1⟩ fun s32 =>
 X1 (⟨s19.a, s19.len, s19.cap⟩, ⟨s30.a, s30.len, s30.cap⟩, ⟨s15.a, s15.len, s15.cap⟩, ⟨s32.a, s32.len, s32.cap⟩, s2.2.2.2.2.1, ⟨s2.2.2.2.2.2.1.a, s2.2.2.2.2.2.1.len, s2.2.2.2.2.2.1.cap⟩, ())))))
 ((0 : Int), (0 : Int), (9 : Int), (-1 : Int), ()))
 (⟨none, 0, 0⟩, ⟨none, 0, 0⟩, ⟨none, 0, 0⟩, ⟨r0.1.a, r0.1.len, r0.1.cap⟩, false, ⟨none, 0, 0⟩, ()))
theorem E_salvorref08_Find (a0 : Sl) (a1 : Sl) (K : (Sl × (Bool × Unit)) → HP) (h : Heap) : fnVC Tryz.prog [(1000000, .bool)] 98 Tryz.f113 [(.slice a0.a a0.len a0.cap), (.slice a1.a a1.len a1.cap)] (.tup (.cons .sl (.cons .bool .nil))) K h = F_salvorref08_Find a0 a1 K h := by kernel_rfl
theorem S_salvorref08_Find{h : Heap} {a0 : Sl} {a1 : Sl} (K : (Sl × (Bool × Unit)) → HP) (hF : F_salvorref08_Find a0 a1 K h) : CallsH Tryz.prog fn_salvorref08_Find #[(.slice a0.a a0.len a0.cap), (.slice a1.a a1.len a1.cap)] h fun v h' => ∃ x : (Sl × (Bool × Unit)), v = Ty.enc (.tup (.cons .sl (.cons .bool .nil))) x ∧ K x h' :=
  callsH_of_fn (P := Tryz.prog) (fn := Tryz.f113) (τ := (.tup (.cons .sl (.cons .bool .nil)))) follows Tryz.func113 (by kernel_rfl) (by kernel_rfl) Tryz.call113 (Eq.mpr (E_salvorref08_Find a0 a1 K h) hF)
def F_salvorref09_named (a0 : Sl) (a1 : Sl) (K : Sl → HP) : HP :=
 lfp (σ := (Int × (Sl × Unit))) (fun X0 s1 =>
 brB (decide (s1.1 < (a1.len : Int)))
 (sx a1.a a1.len s1.1 1 fun p2 =>
 ldT (.int .i64) p2 fun x3 =>
 sx a0.a a0.len x3 2 fun p4 =>
 ldT (.int .i64) p4 fun x5 =>
 nw #[(.int .i64 x5)] ty_int fun b6 =>
 apd ty_int 1 8 #[(.int .i64 0)] ⟨s1.2.1.a, s1.2.1.len, s1.2.1.cap⟩ ⟨(some ⟨b6, 0, none⟩), 1, 1⟩ fun s7 =>
 X0 ((IntKind.wrap .i64 (s1.1 + (1 : Int))), ⟨s7.a, s7.len, s7.cap⟩, ()))
 (K ⟨s1.2.1.a, s1.2.1.len, s1.2.1.cap⟩))
 ((0 : Int), ⟨none, 0, 0⟩, ())
theorem E_salvorref09_named (a0 : Sl) (a1 : Sl) (K : Sl → HP) (h : Heap) : fnVC Tryz.prog [(1000000, .bool)] 25 Tryz.f114 [(.slice a0.a a0.len a0.cap), (.slice a1.a a1.len a1.cap)] .sl K h = F_salvorref09_named a0 a1 K h := by kernel_rfl
theorem S_salvorref09_named{h : Heap} {a0 : Sl} {a1 : Sl} (K : Sl → HP) (hF : F_salvorref09_named a0 a1 K h) : CallsH Tryz.prog fn_salvorref09_named #[(.slice a0.a a0.len a0.cap), (.slice a1.a a1.len a1.cap)] h fun v h' => ∃ x : Sl, v = Ty.enc .sl x ∧ K x h' :=
  callsH_of_fn (P := Tryz.prog) (fn := Tryz.f114) (τ := .sl) follows Tryz.func114 (by kernel_rfl) (by kernel_rfl) Tryz.call114 (Eq.mpr (E_salvorref09_named a0 a1 K h) hF)
def F_salvorref08_Look (a0 : Sl) (a1 : Sl) (K : (Int × (Int × Unit)) → HP) : HP :=
 lfp (σ := (Int × (Sl × (Int × (Int × Unit))))) (fun X0 s1 =>
 brB (decide (s1.1 < (a0.len : Int)))
 (sx a0.a a0.len s1.1 1 fun p2 =>
 ldT (.int .i64) p2 fun x3 =>
 callT Tryz.prog fn_salvorref08_has #[(.slice a1.a a1.len a1.cap), (.int .i64 x3)] .bool fun r4 =>
 brB r4
 (K ((1 : Int), (0 : Int), ()))
 (sx a0.a a0.len s1.1 1 fun p5 =>
 ldT (.int .i64) p5 fun x6 =>
 callT Tryz.prog fn_salvorref08_has #[(.slice a1.a a1.len a1.cap), (.int .i64 (IntKind.wrap .i64 (0 - x6)))] .bool fun r7 =>
 jn (σ := Bool) (fun t9 =>
 jn (σ := (Sl × Unit)) (fun s11 =>
 X0 ((IntKind.wrap .i64 (s1.1 + (1 : Int))), ⟨s11.1.a, s11.1.len, s11.1.cap⟩, s1.2.2.1, s1.2.2.2.1, ()))
 (fun J10 =>
 brB t9
 (sx a0.a a0.len s1.1 1 fun p12 =>
 ldT (.int .i64) p12 fun x13 =>
 nw #[(.int .i64 x13)] ty_int fun b14 =>
 apd ty_int 1 8 #[(.int .i64 0)] ⟨s1.2.1.a, s1.2.1.len, s1.2.1.cap⟩ ⟨(some ⟨b14, 0, none⟩), 1, 1⟩ fun s15 =>
 J10 (⟨s15.a, s15.len, s15.cap⟩, ()))
 (J10 (⟨s1.2.1.a, s1.2.1.len, s1.2.1.cap⟩, ()))))
 (fun J8 =>
 brB (!r7)
 (sx a0.a a0.len s1.1 1 fun p16 =>
 ldT (.int .i64) p16 fun x17 =>
 callT Tryz.prog fn_salvorref08_has #[(.slice s1.2.1.a s1.2.1.len s1.2.1.cap), (.int .i64 x17)] .bool fun r18 =>
 J8 ((!r18)))
 (J8 false))))
 (brB ((s1.2.1.len : Int) == (0 : Int))
 (K ((2 : Int), (0 : Int), ()))
 (brB ((s1.2.1.len : Int) == (1 : Int))
 (sx s1.2.1.a s1.2.1.len (0 : Int) 1 fun p19 =>
 ldT (.int .i64) p19 fun x20 =>
 K ((3 : Int), x20, ()))
 (K ((4 : Int), (0 : Int), ())))))
 ((0 : Int), ⟨none, 0, 0⟩, (0 : Int), (0 : Int), ())
theorem E_salvorref08_Look (a0 : Sl) (a1 : Sl) (K : (Int × (Int × Unit)) → HP) (h : Heap) : fnVC Tryz.prog [(1000000, .bool)] 53 Tryz.f115 [(.slice a0.a a0.len a0.cap), (.slice a1.a a1.len a1.cap)] (.tup (.cons (.int .i64) (.cons (.int .i64) .nil))) K h = F_salvorref08_Look a0 a1 K h := by kernel_rfl
theorem S_salvorref08_Look{h : Heap} {a0 : Sl} {a1 : Sl} (K : (Int × (Int × Unit)) → HP) (hF : F_salvorref08_Look a0 a1 K h) : CallsH Tryz.prog fn_salvorref08_Look #[(.slice a0.a a0.len a0.cap), (.slice a1.a a1.len a1.cap)] h fun v h' => ∃ x : (Int × (Int × Unit)), v = Ty.enc (.tup (.cons (.int .i64) (.cons (.int .i64) .nil))) x ∧ K x h' :=
  callsH_of_fn (P := Tryz.prog) (fn := Tryz.f115) (τ := (.tup (.cons (.int .i64) (.cons (.int .i64) .nil)))) follows Tryz.func115 (by kernel_rfl) (by kernel_rfl) Tryz.call115 (Eq.mpr (E_salvorref08_Look a0 a1 K h) hF)
def F_salvorref09_always (a0 : Sl) (K : Bool → HP) : HP :=
 lfp (σ := (Int × (Bool × Unit))) (fun X0 s1 =>
 brB (decide (s1.1 < (a0.len : Int)))
 (sx a0.a a0.len s1.1 1 fun p2 =>
 ldT (.int .i64) p2 fun x3 =>
 callT Tryz.prog fn_salvorref09_has #[(.slice a0.a a0.len a0.cap), (.int .i64 (IntKind.wrap .i64 (0 - x3)))] .bool fun r4 =>
 brB r4
 (K true)
 (X0 ((IntKind.wrap .i64 (s1.1 + (1 : Int))), s1.2.1, ())))
 (K false))
 ((0 : Int), false, ())
theorem E_salvorref09_always (a0 : Sl) (K : Bool → HP) (h : Heap) : fnVC Tryz.prog [(1000000, .bool)] 17 Tryz.f116 [(.slice a0.a a0.len a0.cap)] .bool K h = F_salvorref09_always a0 K h := by kernel_rfl
theorem S_salvorref09_always{h : Heap} {a0 : Sl} (K : Bool → HP) (hF : F_salvorref09_always a0 K h) : CallsH Tryz.prog fn_salvorref09_always #[(.slice a0.a a0.len a0.cap)] h fun v h' => ∃ x : Bool, v = Ty.enc .bool x ∧ K x h' :=
  callsH_of_fn (P := Tryz.prog) (fn := Tryz.f116) (τ := .bool) follows Tryz.func116 (by kernel_rfl) (by kernel_rfl) Tryz.call116 (Eq.mpr (E_salvorref09_always a0 K h) hF)
def F_slices_ContainsFunc_int_int (a0 : Sl) (a1 : Value) (K : Bool → HP) : HP :=
 callT Tryz.prog fn_slices_IndexFunc_int_int #[(.slice a0.a a0.len a0.cap), a1] (.int .i64) fun r0 =>
 K (decide (r0 ≥ (0 : Int)))
theorem E_slices_ContainsFunc_int_int (a0 : Sl) (a1 : Value) (K : Bool → HP) (h : Heap) : fnVC Tryz.prog [(1000000, .nil)] 9 Tryz.f118 [(.slice a0.a a0.len a0.cap), a1] .bool K h = F_slices_ContainsFunc_int_int a0 a1 K h := by kernel_rfl
theorem S_slices_ContainsFunc_int_int{h : Heap} {a0 : Sl} {a1 : Value} (K : Bool → HP) (hF : F_slices_ContainsFunc_int_int a0 a1 K h) : CallsH Tryz.prog fn_slices_ContainsFunc_int_int #[(.slice a0.a a0.len a0.cap), a1] h fun v h' => ∃ x : Bool, v = Ty.enc .bool x ∧ K x h' :=
  callsH_of_fn (P := Tryz.prog) (fn := Tryz.f118) (τ := .bool) follows Tryz.func118 (by kernel_rfl) (by kernel_rfl) Tryz.call118 (Eq.mpr (E_slices_ContainsFunc_int_int a0 a1 K h) hF)
def F_rat_Join_1 (a0 : Int) (K : Bool → HP) : HP :=
 jn (σ := Bool) (fun t1 =>
 K t1)
 (fun J0 =>
 brB (decide (a0 < (1 : Int)))
 (J0 true)
 (J0 ((decide (a0 > (1073741824 : Int))))))
theorem E_rat_Join_1 (a0 : Int) (K : Bool → HP) (h : Heap) : fnVC Tryz.prog [(1000000, .bool)] 9 Tryz.f119 [(.int .i64 a0)] .bool K h = F_rat_Join_1 a0 K h := by kernel_rfl
theorem S_rat_Join_1{h : Heap} {a0 : Int} (K : Bool → HP) (hF : F_rat_Join_1 a0 K h) : CallsH Tryz.prog fn_rat_Join_1 #[(.int .i64 a0)] h fun v h' => ∃ x : Bool, v = Ty.enc .bool x ∧ K x h' :=
  callsH_of_fn (P := Tryz.prog) (fn := Tryz.f119) (τ := .bool) follows Tryz.func119 (by kernel_rfl) (by kernel_rfl) Tryz.call119 (Eq.mpr (E_rat_Join_1 a0 K h) hF)
def F_salvorref08_Right (a0 : Sl) (K : Bool → HP) : HP :=
 lfp (σ := (Int × (Bool × Unit))) (fun X0 s1 =>
 brB (decide (s1.1 < (a0.len : Int)))
 (sx a0.a a0.len s1.1 1 fun p2 =>
 ldT (.int .i64) p2 fun x3 =>
 callT Tryz.prog fn_salvorref01_Right #[(.int .i64 x3)] .bool fun r4 =>
 jn (σ := Bool) (fun t6 =>
 brB t6
 (K false)
 (X0 ((IntKind.wrap .i64 (s1.1 + (1 : Int))), s1.2.1, ())))
 (fun J5 =>
 brB (!r4)
 (J5 true)
 (sx a0.a a0.len s1.1 1 fun p7 =>
 ldT (.int .i64) p7 fun x8 =>
 callT Tryz.prog fn_salvorref08_has #[(.slice a0.a a0.len a0.cap), (.int .i64 (IntKind.wrap .i64 (0 - x8)))] .bool fun r9 =>
 J5 (r9))))
 (K true))
 ((0 : Int), false, ())
theorem E_salvorref08_Right (a0 : Sl) (K : Bool → HP) (h : Heap) : fnVC Tryz.prog [(1000000, .bool)] 25 Tryz.f120 [(.slice a0.a a0.len a0.cap)] .bool K h = F_salvorref08_Right a0 K h := by kernel_rfl
theorem S_salvorref08_Right{h : Heap} {a0 : Sl} (K : Bool → HP) (hF : F_salvorref08_Right a0 K h) : CallsH Tryz.prog fn_salvorref08_Right #[(.slice a0.a a0.len a0.cap)] h fun v h' => ∃ x : Bool, v = Ty.enc .bool x ∧ K x h' :=
  callsH_of_fn (P := Tryz.prog) (fn := Tryz.f120) (τ := .bool) follows Tryz.func120 (by kernel_rfl) (by kernel_rfl) Tryz.call120 (Eq.mpr (E_salvorref08_Right a0 K h) hF)
def F_slices_ContainsFunc_clauses_Clause_lits_Lit (a0 : Sl) (a1 : Value) (K : Bool → HP) : HP :=
 callT Tryz.prog fn_slices_IndexFunc_clauses_Clause_lits_Lit #[(.slice a0.a a0.len a0.cap), a1] (.int .i64) fun r0 =>
 K (decide (r0 ≥ (0 : Int)))
theorem E_slices_ContainsFunc_clauses_Clause_lits_Lit (a0 : Sl) (a1 : Value) (K : Bool → HP) (h : Heap) : fnVC Tryz.prog [(1000000, .nil)] 9 Tryz.f123 [(.slice a0.a a0.len a0.cap), a1] .bool K h = F_slices_ContainsFunc_clauses_Clause_lits_Lit a0 a1 K h := by kernel_rfl
theorem S_slices_ContainsFunc_clauses_Clause_lits_Lit{h : Heap} {a0 : Sl} {a1 : Value} (K : Bool → HP) (hF : F_slices_ContainsFunc_clauses_Clause_lits_Lit a0 a1 K h) : CallsH Tryz.prog fn_slices_ContainsFunc_clauses_Clause_lits_Lit #[(.slice a0.a a0.len a0.cap), a1] h fun v h' => ∃ x : Bool, v = Ty.enc .bool x ∧ K x h' :=
  callsH_of_fn (P := Tryz.prog) (fn := Tryz.f123) (τ := .bool) follows Tryz.func123 (by kernel_rfl) (by kernel_rfl) Tryz.call123 (Eq.mpr (E_slices_ContainsFunc_clauses_Clause_lits_Lit a0 a1 K h) hF)
def F_clauses_wrong (a0 : Int) (K : Bool → HP) : HP :=
 callT Tryz.prog fn_lits_Right #[(.int .i64 a0)] .bool fun r0 =>
 K (!r0)
theorem E_clauses_wrong (a0 : Int) (K : Bool → HP) (h : Heap) : fnVC Tryz.prog [(1000000, .nil)] 6 Tryz.f124 [(.int .i64 a0)] .bool K h = F_clauses_wrong a0 K h := by kernel_rfl
theorem S_clauses_wrong{h : Heap} {a0 : Int} (K : Bool → HP) (hF : F_clauses_wrong a0 K h) : CallsH Tryz.prog fn_clauses_wrong #[(.int .i64 a0)] h fun v h' => ∃ x : Bool, v = Ty.enc .bool x ∧ K x h' :=
  callsH_of_fn (P := Tryz.prog) (fn := Tryz.f124) (τ := .bool) follows Tryz.func124 (by kernel_rfl) (by kernel_rfl) Tryz.call124 (Eq.mpr (E_clauses_wrong a0 K h) hF)
def F_rup_values_look (a0 : Value) (a1 : Sl) (K : (Int × (Int × Unit)) → HP) : HP :=
 jn (σ := (Int × (Int × (Int × Unit)))) (fun s1 =>
 jn (σ := (Int × Unit)) (fun s3 =>
 K (s1.2.2.1, s3.1, ()))
 (fun J2 =>
 brB (s1.2.2.1 != (3 : Int))
 (J2 ((0 : Int), ()))
 (J2 (s1.2.1, ()))))
 (fun J0 =>
 lfp (σ := (Int × (Int × (Int × Unit)))) (fun X4 s5 =>
 brB (decide (s5.1 < (a1.len : Int)))
 (jn (σ := (Int × (Int × Unit))) (fun s7 =>
 X4 ((IntKind.wrap .i64 (s5.1 + (1 : Int))), s7.1, s7.2.1, ()))
 (fun J6 =>
 sx a1.a a1.len s5.1 1 fun p8 =>
 ldT (.int .i64) p8 fun x9 =>
 callT Tryz.prog fn_rup_values_of #[a0, (.int .i64 x9)] (.int .i64) fun r10 =>
 brB (decide (r10 > (0 : Int)))
 (J0 (s5.1, s5.2.1, (1 : Int), ()))
 (jn (σ := Bool) (fun t12 =>
 brB t12
 (J6 (s5.2.1, s5.2.2.1, ()))
 (jn (σ := (Int × (Int × Unit))) (fun s14 =>
 J6 (s14.1, s14.2.1, ()))
 (fun J13 =>
 brB (s5.2.1 == (0 : Int))
 (J13 (x9, (3 : Int), ()))
 (J13 (s5.2.1, (4 : Int), ())))))
 (fun J11 =>
 brB (decide (r10 < (0 : Int)))
 (J11 true)
 (J11 ((x9 == s5.2.1)))))))
 (J0 (s5.1, s5.2.1, s5.2.2.1, ())))
 ((0 : Int), (0 : Int), (2 : Int), ()))
theorem E_rup_values_look (a0 : Value) (a1 : Sl) (K : (Int × (Int × Unit)) → HP) (h : Heap) : fnVC Tryz.prog [(1000000, .bool)] 40 Tryz.f125 [a0, (.slice a1.a a1.len a1.cap)] (.tup (.cons (.int .u8) (.cons (.int .i64) .nil))) K h = F_rup_values_look a0 a1 K h := by kernel_rfl
theorem S_rup_values_look{h : Heap} {a0 : Value} {a1 : Sl} (K : (Int × (Int × Unit)) → HP) (hF : F_rup_values_look a0 a1 K h) : CallsH Tryz.prog fn_rup_values_look #[a0, (.slice a1.a a1.len a1.cap)] h fun v h' => ∃ x : (Int × (Int × Unit)), v = Ty.enc (.tup (.cons (.int .u8) (.cons (.int .i64) .nil))) x ∧ K x h' :=
  callsH_of_fn (P := Tryz.prog) (fn := Tryz.f125) (τ := (.tup (.cons (.int .u8) (.cons (.int .i64) .nil)))) follows Tryz.func125 (by kernel_rfl) (by kernel_rfl) Tryz.call125 (Eq.mpr (E_rup_values_look a0 a1 K h) hF)
def F_slices_Clone_clauses_Clause_clauses_Clause (a0 : Sl) (K : Sl → HP) : HP :=
 brB (Option.isNone a0.a)
 (K ⟨none, 0, 0⟩)
 (nw #[] ty_clauses_Clause fun b0 =>
 apd ty_clauses_Clause 1 24 #[(.slice none 0 0)] ⟨(some ⟨b0, 0, none⟩), 0, 0⟩ ⟨a0.a, a0.len, a0.cap⟩ fun s1 =>
 K ⟨s1.a, s1.len, s1.cap⟩)
theorem E_slices_Clone_clauses_Clause_clauses_Clause (a0 : Sl) (K : Sl → HP) (h : Heap) : fnVC Tryz.prog [(1000000, .nil)] 8 Tryz.f126 [(.slice a0.a a0.len a0.cap)] .sl K h = F_slices_Clone_clauses_Clause_clauses_Clause a0 K h := by kernel_rfl
theorem S_slices_Clone_clauses_Clause_clauses_Clause{h : Heap} {a0 : Sl} (K : Sl → HP) (hF : F_slices_Clone_clauses_Clause_clauses_Clause a0 K h) : CallsH Tryz.prog fn_slices_Clone_clauses_Clause_clauses_Clause #[(.slice a0.a a0.len a0.cap)] h fun v h' => ∃ x : Sl, v = Ty.enc .sl x ∧ K x h' :=
  callsH_of_fn (P := Tryz.prog) (fn := Tryz.f126) (τ := .sl) follows Tryz.func126 (by kernel_rfl) (by kernel_rfl) Tryz.call126 (Eq.mpr (E_slices_Clone_clauses_Clause_clauses_Clause a0 K h) hF)
def F_rup_values_of (a0 : Value) (a1 : Int) (K : Int → HP) : HP :=
 callT Tryz.prog fn_lits_Var #[(.int .i64 a1)] (.int .i64) fun r0 =>
 mget (.int .i64) .i64 (.int .i64 0) a0 r0 fun x1 =>
 callT Tryz.prog fn_lits_Negated #[(.int .i64 a1)] .bool fun r2 =>
 brB r2
 (K (IntKind.wrap .i64 (0 - x1)))
 (K x1)
theorem E_rup_values_of (a0 : Value) (a1 : Int) (K : Int → HP) (h : Heap) : fnVC Tryz.prog [(1000000, .bool)] 15 Tryz.f127 [a0, (.int .i64 a1)] (.int .i64) K h = F_rup_values_of a0 a1 K h := by kernel_rfl
theorem S_rup_values_of{h : Heap} {a0 : Value} {a1 : Int} (K : Int → HP) (hF : F_rup_values_of a0 a1 K h) : CallsH Tryz.prog fn_rup_values_of #[a0, (.int .i64 a1)] h fun v h' => ∃ x : Int, v = Ty.enc (.int .i64) x ∧ K x h' :=
  callsH_of_fn (P := Tryz.prog) (fn := Tryz.f127) (τ := (.int .i64)) follows Tryz.func127 (by kernel_rfl) (by kernel_rfl) Tryz.call127 (Eq.mpr (E_rup_values_of a0 a1 K h) hF)
def F_rup_values_moving (a0 : Value) (a1 : Sl) (a2 : Int) (K : Value → HP) : HP :=
 nw (Value.cells a0) ty_rup_values fun b0 =>
 nw #[(.slice a1.a a1.len a1.cap)] ty_sl_clauses_Clause fun b1 =>
 nw #[(.int .u8 a2)] ty_uint8 fun b2 =>
 K (.func (.func fn_rup_values_moving_1) #[] #[(.pointer (some ⟨b1, 0, none⟩)), (.pointer (some ⟨b0, 0, none⟩)), (.pointer (some ⟨b2, 0, none⟩))])
theorem E_rup_values_moving (a0 : Value) (a1 : Sl) (a2 : Int) (K : Value → HP) (h : Heap) : fnVC Tryz.prog [(1000000, .bool)] 8 Tryz.f128 [a0, (.slice a1.a a1.len a1.cap), (.int .u8 a2)] .val K h = F_rup_values_moving a0 a1 a2 K h := by kernel_rfl
theorem S_rup_values_moving{h : Heap} {a0 : Value} {a1 : Sl} {a2 : Int} (K : Value → HP) (hF : F_rup_values_moving a0 a1 a2 K h) : CallsH Tryz.prog fn_rup_values_moving #[a0, (.slice a1.a a1.len a1.cap), (.int .u8 a2)] h fun v h' => ∃ x : Value, v = Ty.enc .val x ∧ K x h' :=
  callsH_of_fn (P := Tryz.prog) (fn := Tryz.f128) (τ := .val) follows Tryz.func128 (by kernel_rfl) (by kernel_rfl) Tryz.call128 (Eq.mpr (E_rup_values_moving a0 a1 a2 K h) hF)
def F_lits_Var (a0 : Int) (K : Int → HP) : HP :=
 callT Tryz.prog fn_lits_Right #[(.int .i64 a0)] .bool fun r0 =>
 brB (!r0)
 (K (0 : Int))
 (K (if (IntKind.wrap .i64 (0 - a0)) > a0 then (IntKind.wrap .i64 (0 - a0)) else a0))
theorem E_lits_Var (a0 : Int) (K : Int → HP) (h : Heap) : fnVC Tryz.prog [(1000000, .nil)] 10 Tryz.f129 [(.int .i64 a0)] (.int .i64) K h = F_lits_Var a0 K h := by kernel_rfl
theorem S_lits_Var{h : Heap} {a0 : Int} (K : Int → HP) (hF : F_lits_Var a0 K h) : CallsH Tryz.prog fn_lits_Var #[(.int .i64 a0)] h fun v h' => ∃ x : Int, v = Ty.enc (.int .i64) x ∧ K x h' :=
  callsH_of_fn (P := Tryz.prog) (fn := Tryz.f129) (τ := (.int .i64)) follows Tryz.func129 (by kernel_rfl) (by kernel_rfl) Tryz.call129 (Eq.mpr (E_lits_Var a0 K h) hF)
def F_lits_Negated (a0 : Int) (K : Bool → HP) : HP :=
 callT Tryz.prog fn_lits_Right #[(.int .i64 a0)] .bool fun r0 =>
 brB r0
 (K (decide (a0 < (0 : Int))))
 (K false)
theorem E_lits_Negated (a0 : Int) (K : Bool → HP) (h : Heap) : fnVC Tryz.prog [(1000000, .nil)] 9 Tryz.f130 [(.int .i64 a0)] .bool K h = F_lits_Negated a0 K h := by kernel_rfl
theorem S_lits_Negated{h : Heap} {a0 : Int} (K : Bool → HP) (hF : F_lits_Negated a0 K h) : CallsH Tryz.prog fn_lits_Negated #[(.int .i64 a0)] h fun v h' => ∃ x : Bool, v = Ty.enc .bool x ∧ K x h' :=
  callsH_of_fn (P := Tryz.prog) (fn := Tryz.f130) (τ := .bool) follows Tryz.func130 (by kernel_rfl) (by kernel_rfl) Tryz.call130 (Eq.mpr (E_lits_Negated a0 K h) hF)
def F_slices_Reverse_int_int (a0 : Sl) (K : Unit → HP) : HP :=
 lfp (σ := (Int × (Int × Unit))) (fun X0 s1 =>
 brB (decide (s1.2.1 < s1.1))
 (sx a0.a a0.len s1.1 1 fun p2 =>
 ldT (.int .i64) p2 fun x3 =>
 sx a0.a a0.len s1.2.1 1 fun p4 =>
 ldT (.int .i64) p4 fun x5 =>
 sx a0.a a0.len s1.2.1 1 fun p6 =>
 st1 p6 (.int .i64 x3) <|
 sx a0.a a0.len s1.1 1 fun p7 =>
 st1 p7 (.int .i64 x5) <|
 X0 ((IntKind.wrap .i64 (s1.1 - (1 : Int))), (IntKind.wrap .i64 (s1.2.1 + (1 : Int))), ()))
 (K (())))
 ((IntKind.wrap .i64 ((a0.len : Int) - (1 : Int))), (0 : Int), ())
theorem E_slices_Reverse_int_int (a0 : Sl) (K : Unit → HP) (h : Heap) : fnVC Tryz.prog [(1000000, .nil)] 28 Tryz.f131 [(.slice a0.a a0.len a0.cap)] (.tup .nil) K h = F_slices_Reverse_int_int a0 K h := by kernel_rfl
theorem S_slices_Reverse_int_int{h : Heap} {a0 : Sl} (K : Unit → HP) (hF : F_slices_Reverse_int_int a0 K h) : CallsH Tryz.prog fn_slices_Reverse_int_int #[(.slice a0.a a0.len a0.cap)] h fun v h' => ∃ x : Unit, v = Ty.enc (.tup .nil) x ∧ K x h' :=
  callsH_of_fn (P := Tryz.prog) (fn := Tryz.f131) (τ := (.tup .nil)) follows Tryz.func131 (by kernel_rfl) (by kernel_rfl) Tryz.call131 (Eq.mpr (E_slices_Reverse_int_int a0 K h) hF)
def F_clauses_normal (a0 : Sl) (K : Sl → HP) : HP := fun h0 => (
 nw #[(.slice none 0 0)] ty_clauses_Clause fun b0 =>
 callT Tryz.prog fn_clauses_sorted #[(.slice a0.a a0.len a0.cap)] .val fun r1 =>
 RangeVC Tryz.prog (.cons (.int .i64) .nil) r1 (fun x2 wrap3 next4 jump5 =>
 wrap3 <|
 ldT .sl ⟨b0, 0, none⟩ fun x6 =>
 nw #[(.int .i64 x2.1)] ty_lits_Lit fun b7 =>
 apd ty_lits_Lit 1 8 #[(.int .i64 0)] ⟨x6.a, x6.len, x6.cap⟩ ⟨(some ⟨b7, 0, none⟩), 1, 1⟩ fun s8 =>
 st1 ⟨b0, 0, none⟩ (.slice s8.a s8.len s8.cap) <|
 next4)
 (ldT .sl ⟨b0, 0, none⟩ fun x9 =>
 mkd h0.size <|
 K ⟨x9.a, x9.len, x9.cap⟩)
 (mkd h0.size <|
 K ⟨none, 0, 0⟩)
 []
 []) h0
theorem E_clauses_normal (a0 : Sl) (K : Sl → HP) (h : Heap) : fnVC Tryz.prog [(1000000, .nil), (7, (.cons (.int .i64) .nil))] 13 Tryz.f132 [(.slice a0.a a0.len a0.cap)] .sl K h = F_clauses_normal a0 K h := by kernel_rfl
theorem S_clauses_normal{h : Heap} {a0 : Sl} (K : Sl → HP) (hF : F_clauses_normal a0 K h) : CallsH Tryz.prog fn_clauses_normal #[(.slice a0.a a0.len a0.cap)] h fun v h' => ∃ x : Sl, v = Ty.enc .sl x ∧ K x h' :=
  callsH_of_fn (P := Tryz.prog) (fn := Tryz.f132) (τ := .sl) follows Tryz.func132 (by kernel_rfl) (by kernel_rfl) Tryz.call132 (Eq.mpr (E_clauses_normal a0 K h) hF)
def F_slices_pdqsortCmpFunc_lits_Lit (a0 : Sl) (a1 : Int) (a2 : Int) (a3 : Int) (a4 : Value) (K : Unit → HP) : HP :=
 lfp (σ := (Bool × (Bool × (Int × (Int × (Int × Unit)))))) (fun X0 s1 =>
 jn (σ := (Bool × (Bool × (Int × (Int × (Int × Unit)))))) (fun s3 =>
 X0 (s3.1, s3.2.1, s3.2.2.1, s3.2.2.2.1, s3.2.2.2.2.1, ()))
 (fun J2 =>
 brB (decide ((IntKind.wrap .i64 (s1.2.2.2.1 - s1.2.2.1)) ≤ (12 : Int)))
 (callT Tryz.prog fn_slices_insertionSortCmpFunc_lits_Lit #[(.slice a0.a a0.len a0.cap), (.int .i64 s1.2.2.1), (.int .i64 s1.2.2.2.1), a4] (.tup .nil) fun r4 =>
 K (()))
 (brB (s1.2.2.2.2.1 == (0 : Int))
 (callT Tryz.prog fn_slices_heapSortCmpFunc_lits_Lit #[(.slice a0.a a0.len a0.cap), (.int .i64 s1.2.2.1), (.int .i64 s1.2.2.2.1), a4] (.tup .nil) fun r5 =>
 K (()))
 (jn (σ := (Int × Unit)) (fun s7 =>
 callT Tryz.prog fn_slices_choosePivotCmpFunc_lits_Lit #[(.slice a0.a a0.len a0.cap), (.int .i64 s1.2.2.1), (.int .i64 s1.2.2.2.1), a4] (.tup (.cons (.int .i64) (.cons (.int .i64) .nil))) fun r8 =>
 jn (σ := (Int × (Int × Unit))) (fun s10 =>
 brB s1.2.1
 (brB s1.1
 (jn (σ := Unit) (fun s12 =>
 brB (decide (s1.2.2.1 > (0 : Int)))
 (sx a0.a a0.len (IntKind.wrap .i64 (s1.2.2.1 - (1 : Int))) 1 fun p13 =>
 ldT (.int .i64) p13 fun x14 =>
 sx a0.a a0.len s10.2.1 1 fun p15 =>
 ldT (.int .i64) p15 fun x16 =>
 callF Tryz.prog a4 #[(.int .i64 x14), (.int .i64 x16)] (.int .i64) fun r17 =>
 brB (!(decide (r17 < (0 : Int))))
 (callT Tryz.prog fn_slices_partitionEqualCmpFunc_lits_Lit #[(.slice a0.a a0.len a0.cap), (.int .i64 s1.2.2.1), (.int .i64 s1.2.2.2.1), (.int .i64 s10.2.1), a4] (.int .i64) fun r18 =>
 J2 (s1.1, s1.2.1, r18, s1.2.2.2.1, s7.1, ()))
 (callT Tryz.prog fn_slices_partitionCmpFunc_lits_Lit #[(.slice a0.a a0.len a0.cap), (.int .i64 s1.2.2.1), (.int .i64 s1.2.2.2.1), (.int .i64 s10.2.1), a4] (.tup (.cons (.int .i64) (.cons .bool .nil))) fun r19 =>
 nz (8 : Int) <|
 jn (σ := (Bool × (Int × (Int × Unit)))) (fun s21 =>
 J2 (r19.2.1, s21.1, s21.2.1, s21.2.2.1, s7.1, ()))
 (fun J20 =>
 brB (decide ((IntKind.wrap .i64 (r19.1 - s1.2.2.1)) < (IntKind.wrap .i64 (s1.2.2.2.1 - r19.1))))
 (callT Tryz.prog fn_slices_pdqsortCmpFunc_lits_Lit #[(.slice a0.a a0.len a0.cap), (.int .i64 s1.2.2.1), (.int .i64 r19.1), (.int .i64 s7.1), a4] (.tup .nil) fun r22 =>
 J20 ((decide ((IntKind.wrap .i64 (r19.1 - s1.2.2.1)) ≥ (IntKind.wrap .i64 (Int.tdiv (IntKind.wrap .i64 (s1.2.2.2.1 - s1.2.2.1)) (8 : Int))))), (IntKind.wrap .i64 (r19.1 + (1 : Int))), s1.2.2.2.1, ()))
 (callT Tryz.prog fn_slices_pdqsortCmpFunc_lits_Lit #[(.slice a0.a a0.len a0.cap), (.int .i64 (IntKind.wrap .i64 (r19.1 + (1 : Int)))), (.int .i64 s1.2.2.2.1), (.int .i64 s7.1), a4] (.tup .nil) fun r23 =>
 J20 ((decide ((IntKind.wrap .i64 (s1.2.2.2.1 - r19.1)) ≥ (IntKind.wrap .i64 (Int.tdiv (IntKind.wrap .i64 (s1.2.2.2.1 - s1.2.2.1)) (8 : Int))))), s1.2.2.1, r19.1, ())))))
 (callT Tryz.prog fn_slices_partitionCmpFunc_lits_Lit #[(.slice a0.a a0.len a0.cap), (.int .i64 s1.2.2.1), (.int .i64 s1.2.2.2.1), (.int .i64 s10.2.1), a4] (.tup (.cons (.int .i64) (.cons .bool .nil))) fun r24 =>
 nz (8 : Int) <|
 jn (σ := (Bool × (Int × (Int × Unit)))) (fun s26 =>
 J2 (r24.2.1, s26.1, s26.2.1, s26.2.2.1, s7.1, ()))
 (fun J25 =>
 brB (decide ((IntKind.wrap .i64 (r24.1 - s1.2.2.1)) < (IntKind.wrap .i64 (s1.2.2.2.1 - r24.1))))
 (callT Tryz.prog fn_slices_pdqsortCmpFunc_lits_Lit #[(.slice a0.a a0.len a0.cap), (.int .i64 s1.2.2.1), (.int .i64 r24.1), (.int .i64 s7.1), a4] (.tup .nil) fun r27 =>
 J25 ((decide ((IntKind.wrap .i64 (r24.1 - s1.2.2.1)) ≥ (IntKind.wrap .i64 (Int.tdiv (IntKind.wrap .i64 (s1.2.2.2.1 - s1.2.2.1)) (8 : Int))))), (IntKind.wrap .i64 (r24.1 + (1 : Int))), s1.2.2.2.1, ()))
 (callT Tryz.prog fn_slices_pdqsortCmpFunc_lits_Lit #[(.slice a0.a a0.len a0.cap), (.int .i64 (IntKind.wrap .i64 (r24.1 + (1 : Int)))), (.int .i64 s1.2.2.2.1), (.int .i64 s7.1), a4] (.tup .nil) fun r28 =>
 J25 ((decide ((IntKind.wrap .i64 (s1.2.2.2.1 - r24.1)) ≥ (IntKind.wrap .i64 (Int.tdiv (IntKind.wrap .i64 (s1.2.2.2.1 - s1.2.2.1)) (8 : Int))))), s1.2.2.1, r24.1, ())))))
 (fun J11 =>
 brB (s10.1 == (1 : Int))
 (callT Tryz.prog fn_slices_partialInsertionSortCmpFunc_lits_Lit #[(.slice a0.a a0.len a0.cap), (.int .i64 s1.2.2.1), (.int .i64 s1.2.2.2.1), a4] .bool fun r29 =>
 brB r29
 (K (()))
 (J11 (())))
 (J11 (()))))
 (jn (σ := Unit) (fun s31 =>
 brB (decide (s1.2.2.1 > (0 : Int)))
 (sx a0.a a0.len (IntKind.wrap .i64 (s1.2.2.1 - (1 : Int))) 1 fun p32 =>
 ldT (.int .i64) p32 fun x33 =>
 sx a0.a a0.len s10.2.1 1 fun p34 =>
 ldT (.int .i64) p34 fun x35 =>
 callF Tryz.prog a4 #[(.int .i64 x33), (.int .i64 x35)] (.int .i64) fun r36 =>
 brB (!(decide (r36 < (0 : Int))))
 (callT Tryz.prog fn_slices_partitionEqualCmpFunc_lits_Lit #[(.slice a0.a a0.len a0.cap), (.int .i64 s1.2.2.1), (.int .i64 s1.2.2.2.1), (.int .i64 s10.2.1), a4] (.int .i64) fun r37 =>
 J2 (s1.1, s1.2.1, r37, s1.2.2.2.1, s7.1, ()))
 (callT Tryz.prog fn_slices_partitionCmpFunc_lits_Lit #[(.slice a0.a a0.len a0.cap), (.int .i64 s1.2.2.1), (.int .i64 s1.2.2.2.1), (.int .i64 s10.2.1), a4] (.tup (.cons (.int .i64) (.cons .bool .nil))) fun r38 =>
 nz (8 : Int) <|
 jn (σ := (Bool × (Int × (Int × Unit)))) (fun s40 =>
 J2 (r38.2.1, s40.1, s40.2.1, s40.2.2.1, s7.1, ()))
 (fun J39 =>
 brB (decide ((IntKind.wrap .i64 (r38.1 - s1.2.2.1)) < (IntKind.wrap .i64 (s1.2.2.2.1 - r38.1))))
 (callT Tryz.prog fn_slices_pdqsortCmpFunc_lits_Lit #[(.slice a0.a a0.len a0.cap), (.int .i64 s1.2.2.1), (.int .i64 r38.1), (.int .i64 s7.1), a4] (.tup .nil) fun r41 =>
 J39 ((decide ((IntKind.wrap .i64 (r38.1 - s1.2.2.1)) ≥ (IntKind.wrap .i64 (Int.tdiv (IntKind.wrap .i64 (s1.2.2.2.1 - s1.2.2.1)) (8 : Int))))), (IntKind.wrap .i64 (r38.1 + (1 : Int))), s1.2.2.2.1, ()))
 (callT Tryz.prog fn_slices_pdqsortCmpFunc_lits_Lit #[(.slice a0.a a0.len a0.cap), (.int .i64 (IntKind.wrap .i64 (r38.1 + (1 : Int)))), (.int .i64 s1.2.2.2.1), (.int .i64 s7.1), a4] (.tup .nil) fun r42 =>
 J39 ((decide ((IntKind.wrap .i64 (s1.2.2.2.1 - r38.1)) ≥ (IntKind.wrap .i64 (Int.tdiv (IntKind.wrap .i64 (s1.2.2.2.1 - s1.2.2.1)) (8 : Int))))), s1.2.2.1, r38.1, ())))))
 (callT Tryz.prog fn_slices_partitionCmpFunc_lits_Lit #[(.slice a0.a a0.len a0.cap), (.int .i64 s1.2.2.1), (.int .i64 s1.2.2.2.1), (.int .i64 s10.2.1), a4] (.tup (.cons (.int .i64) (.cons .bool .nil))) fun r43 =>
 nz (8 : Int) <|
 jn (σ := (Bool × (Int × (Int × Unit)))) (fun s45 =>
 J2 (r43.2.1, s45.1, s45.2.1, s45.2.2.1, s7.1, ()))
 (fun J44 =>
 brB (decide ((IntKind.wrap .i64 (r43.1 - s1.2.2.1)) < (IntKind.wrap .i64 (s1.2.2.2.1 - r43.1))))
 (callT Tryz.prog fn_slices_pdqsortCmpFunc_lits_Lit #[(.slice a0.a a0.len a0.cap), (.int .i64 s1.2.2.1), (.int .i64 r43.1), (.int .i64 s7.1), a4] (.tup .nil) fun r46 =>
 J44 ((decide ((IntKind.wrap .i64 (r43.1 - s1.2.2.1)) ≥ (IntKind.wrap .i64 (Int.tdiv (IntKind.wrap .i64 (s1.2.2.2.1 - s1.2.2.1)) (8 : Int))))), (IntKind.wrap .i64 (r43.1 + (1 : Int))), s1.2.2.2.1, ()))
 (callT Tryz.prog fn_slices_pdqsortCmpFunc_lits_Lit #[(.slice a0.a a0.len a0.cap), (.int .i64 (IntKind.wrap .i64 (r43.1 + (1 : Int)))), (.int .i64 s1.2.2.2.1), (.int .i64 s7.1), a4] (.tup .nil) fun r47 =>
 J44 ((decide ((IntKind.wrap .i64 (s1.2.2.2.1 - r43.1)) ≥ (IntKind.wrap .i64 (Int.tdiv (IntKind.wrap .i64 (s1.2.2.2.1 - s1.2.2.1)) (8 : Int))))), s1.2.2.1, r43.1, ())))))
 (fun J30 =>
 J30 (()))))
 (jn (σ := Unit) (fun s49 =>
 brB (decide (s1.2.2.1 > (0 : Int)))
 (sx a0.a a0.len (IntKind.wrap .i64 (s1.2.2.1 - (1 : Int))) 1 fun p50 =>
 ldT (.int .i64) p50 fun x51 =>
 sx a0.a a0.len s10.2.1 1 fun p52 =>
 ldT (.int .i64) p52 fun x53 =>
 callF Tryz.prog a4 #[(.int .i64 x51), (.int .i64 x53)] (.int .i64) fun r54 =>
 brB (!(decide (r54 < (0 : Int))))
 (callT Tryz.prog fn_slices_partitionEqualCmpFunc_lits_Lit #[(.slice a0.a a0.len a0.cap), (.int .i64 s1.2.2.1), (.int .i64 s1.2.2.2.1), (.int .i64 s10.2.1), a4] (.int .i64) fun r55 =>
 J2 (s1.1, s1.2.1, r55, s1.2.2.2.1, s7.1, ()))
 (callT Tryz.prog fn_slices_partitionCmpFunc_lits_Lit #[(.slice a0.a a0.len a0.cap), (.int .i64 s1.2.2.1), (.int .i64 s1.2.2.2.1), (.int .i64 s10.2.1), a4] (.tup (.cons (.int .i64) (.cons .bool .nil))) fun r56 =>
 nz (8 : Int) <|
 jn (σ := (Bool × (Int × (Int × Unit)))) (fun s58 =>
 J2 (r56.2.1, s58.1, s58.2.1, s58.2.2.1, s7.1, ()))
 (fun J57 =>
 brB (decide ((IntKind.wrap .i64 (r56.1 - s1.2.2.1)) < (IntKind.wrap .i64 (s1.2.2.2.1 - r56.1))))
 (callT Tryz.prog fn_slices_pdqsortCmpFunc_lits_Lit #[(.slice a0.a a0.len a0.cap), (.int .i64 s1.2.2.1), (.int .i64 r56.1), (.int .i64 s7.1), a4] (.tup .nil) fun r59 =>
 J57 ((decide ((IntKind.wrap .i64 (r56.1 - s1.2.2.1)) ≥ (IntKind.wrap .i64 (Int.tdiv (IntKind.wrap .i64 (s1.2.2.2.1 - s1.2.2.1)) (8 : Int))))), (IntKind.wrap .i64 (r56.1 + (1 : Int))), s1.2.2.2.1, ()))
 (callT Tryz.prog fn_slices_pdqsortCmpFunc_lits_Lit #[(.slice a0.a a0.len a0.cap), (.int .i64 (IntKind.wrap .i64 (r56.1 + (1 : Int)))), (.int .i64 s1.2.2.2.1), (.int .i64 s7.1), a4] (.tup .nil) fun r60 =>
 J57 ((decide ((IntKind.wrap .i64 (s1.2.2.2.1 - r56.1)) ≥ (IntKind.wrap .i64 (Int.tdiv (IntKind.wrap .i64 (s1.2.2.2.1 - s1.2.2.1)) (8 : Int))))), s1.2.2.1, r56.1, ())))))
 (callT Tryz.prog fn_slices_partitionCmpFunc_lits_Lit #[(.slice a0.a a0.len a0.cap), (.int .i64 s1.2.2.1), (.int .i64 s1.2.2.2.1), (.int .i64 s10.2.1), a4] (.tup (.cons (.int .i64) (.cons .bool .nil))) fun r61 =>
 nz (8 : Int) <|
 jn (σ := (Bool × (Int × (Int × Unit)))) (fun s63 =>
 J2 (r61.2.1, s63.1, s63.2.1, s63.2.2.1, s7.1, ()))
 (fun J62 =>
 brB (decide ((IntKind.wrap .i64 (r61.1 - s1.2.2.1)) < (IntKind.wrap .i64 (s1.2.2.2.1 - r61.1))))
 (callT Tryz.prog fn_slices_pdqsortCmpFunc_lits_Lit #[(.slice a0.a a0.len a0.cap), (.int .i64 s1.2.2.1), (.int .i64 r61.1), (.int .i64 s7.1), a4] (.tup .nil) fun r64 =>
 J62 ((decide ((IntKind.wrap .i64 (r61.1 - s1.2.2.1)) ≥ (IntKind.wrap .i64 (Int.tdiv (IntKind.wrap .i64 (s1.2.2.2.1 - s1.2.2.1)) (8 : Int))))), (IntKind.wrap .i64 (r61.1 + (1 : Int))), s1.2.2.2.1, ()))
 (callT Tryz.prog fn_slices_pdqsortCmpFunc_lits_Lit #[(.slice a0.a a0.len a0.cap), (.int .i64 (IntKind.wrap .i64 (r61.1 + (1 : Int)))), (.int .i64 s1.2.2.2.1), (.int .i64 s7.1), a4] (.tup .nil) fun r65 =>
 J62 ((decide ((IntKind.wrap .i64 (s1.2.2.2.1 - r61.1)) ≥ (IntKind.wrap .i64 (Int.tdiv (IntKind.wrap .i64 (s1.2.2.2.1 - s1.2.2.1)) (8 : Int))))), s1.2.2.1, r61.1, ())))))
 (fun J48 =>
 J48 (()))))
 (fun J9 =>
 brB (r8.2.1 == (2 : Int))
 (callT Tryz.prog fn_slices_reverseRangeCmpFunc_lits_Lit #[(.slice a0.a a0.len a0.cap), (.int .i64 s1.2.2.1), (.int .i64 s1.2.2.2.1), a4] (.tup .nil) fun r66 =>
 J9 ((1 : Int), (IntKind.wrap .i64 ((IntKind.wrap .i64 (s1.2.2.2.1 - (1 : Int))) - (IntKind.wrap .i64 (r8.1 - s1.2.2.1)))), ()))
 (J9 (r8.2.1, r8.1, ()))))
 (fun J6 =>
 brB (!s1.2.1)
 (callT Tryz.prog fn_slices_breakPatternsCmpFunc_lits_Lit #[(.slice a0.a a0.len a0.cap), (.int .i64 s1.2.2.1), (.int .i64 s1.2.2.2.1), a4] (.tup .nil) fun r67 =>
 J6 ((IntKind.wrap .i64 (s1.2.2.2.2.1 - (1 : Int))), ()))
 (J6 (s1.2.2.2.2.1, ())))))))
 (true, true, a1, a2, a3, ())
theorem E_slices_pdqsortCmpFunc_lits_Lit (a0 : Sl) (a1 : Int) (a2 : Int) (a3 : Int) (a4 : Value) (K : Unit → HP) (h : Heap) : fnVC Tryz.prog [(1000000, .nil)] 148 Tryz.f133 [(.slice a0.a a0.len a0.cap), (.int .i64 a1), (.int .i64 a2), (.int .i64 a3), a4] (.tup .nil) K h = F_slices_pdqsortCmpFunc_lits_Lit a0 a1 a2 a3 a4 K h := by kernel_rfl
theorem S_slices_pdqsortCmpFunc_lits_Lit{h : Heap} {a0 : Sl} {a1 : Int} {a2 : Int} {a3 : Int} {a4 : Value} (K : Unit → HP) (hF : F_slices_pdqsortCmpFunc_lits_Lit a0 a1 a2 a3 a4 K h) : CallsH Tryz.prog fn_slices_pdqsortCmpFunc_lits_Lit #[(.slice a0.a a0.len a0.cap), (.int .i64 a1), (.int .i64 a2), (.int .i64 a3), a4] h fun v h' => ∃ x : Unit, v = Ty.enc (.tup .nil) x ∧ K x h' :=
  callsH_of_fn (P := Tryz.prog) (fn := Tryz.f133) (τ := (.tup .nil)) follows Tryz.func133 (by kernel_rfl) (by kernel_rfl) Tryz.call133 (Eq.mpr (E_slices_pdqsortCmpFunc_lits_Lit a0 a1 a2 a3 a4 K h) hF)
def F_math_bits_Len (a0 : Int) (K : Int → HP) : HP :=
 callT Tryz.prog fn_math_bits_Len64 #[(.int .u64 a0)] (.int .i64) fun r0 =>
 K r0
theorem E_math_bits_Len (a0 : Int) (K : Int → HP) (h : Heap) : fnVC Tryz.prog [(1000000, .nil)] 8 Tryz.f134 [(.int .u64 a0)] (.int .i64) K h = F_math_bits_Len a0 K h := by kernel_rfl
theorem S_math_bits_Len{h : Heap} {a0 : Int} (K : Int → HP) (hF : F_math_bits_Len a0 K h) : CallsH Tryz.prog fn_math_bits_Len #[(.int .u64 a0)] h fun v h' => ∃ x : Int, v = Ty.enc (.int .i64) x ∧ K x h' :=
  callsH_of_fn (P := Tryz.prog) (fn := Tryz.f134) (τ := (.int .i64)) follows Tryz.func134 (by kernel_rfl) (by kernel_rfl) Tryz.call134 (Eq.mpr (E_math_bits_Len a0 K h) hF)
def F_lits_Index (a0 : Int) (K : (Int × (Int × Unit)) → HP) : HP :=
 callT Tryz.prog fn_lits_Right #[(.int .i64 a0)] .bool fun r0 =>
 brB (!r0)
 (K ((0 : Int), (10 : Int), ()))
 (callT Tryz.prog fn_lits_Var #[(.int .i64 a0)] (.int .i64) fun r1 =>
 jn (σ := (Int × Unit)) (fun s3 =>
 K (s3.1, (0 : Int), ()))
 (fun J2 =>
 brB (decide (a0 < (0 : Int)))
 (J2 ((IntKind.wrap .i64 ((IntKind.wrap .i64 ((2 : Int) * (IntKind.wrap .i64 (r1 - (1 : Int))))) + (1 : Int))), ()))
 (J2 ((IntKind.wrap .i64 ((2 : Int) * (IntKind.wrap .i64 (r1 - (1 : Int))))), ()))))
theorem E_lits_Index (a0 : Int) (K : (Int × (Int × Unit)) → HP) (h : Heap) : fnVC Tryz.prog [(1000000, .nil)] 17 Tryz.f135 [(.int .i64 a0)] (.tup (.cons (.int .i64) (.cons (.int .i64) .nil))) K h = F_lits_Index a0 K h := by kernel_rfl
theorem S_lits_Index{h : Heap} {a0 : Int} (K : (Int × (Int × Unit)) → HP) (hF : F_lits_Index a0 K h) : CallsH Tryz.prog fn_lits_Index #[(.int .i64 a0)] h fun v h' => ∃ x : (Int × (Int × Unit)), v = Ty.enc (.tup (.cons (.int .i64) (.cons (.int .i64) .nil))) x ∧ K x h' :=
  callsH_of_fn (P := Tryz.prog) (fn := Tryz.f135) (τ := (.tup (.cons (.int .i64) (.cons (.int .i64) .nil)))) follows Tryz.func135 (by kernel_rfl) (by kernel_rfl) Tryz.call135 (Eq.mpr (E_lits_Index a0 K h) hF)
def F_cmp_Compare_int (a0 : Int) (a1 : Int) (K : Int → HP) : HP :=
 callT Tryz.prog fn_cmp_isNaN_int #[(.int .i64 a0)] .bool fun r0 =>
 callT Tryz.prog fn_cmp_isNaN_int #[(.int .i64 a1)] .bool fun r1 =>
 brB r0
 (brB r1
 (K (0 : Int))
 (K (-1 : Int)))
 (brB r1
 (K (1 : Int))
 (brB (decide (a0 < a1))
 (K (-1 : Int))
 (brB (decide (a0 > a1))
 (K (1 : Int))
 (K (0 : Int)))))
theorem E_cmp_Compare_int (a0 : Int) (a1 : Int) (K : Int → HP) (h : Heap) : fnVC Tryz.prog [(1000000, .nil)] 20 Tryz.f136 [(.int .i64 a0), (.int .i64 a1)] (.int .i64) K h = F_cmp_Compare_int a0 a1 K h := by kernel_rfl
theorem S_cmp_Compare_int{h : Heap} {a0 : Int} {a1 : Int} (K : Int → HP) (hF : F_cmp_Compare_int a0 a1 K h) : CallsH Tryz.prog fn_cmp_Compare_int #[(.int .i64 a0), (.int .i64 a1)] h fun v h' => ∃ x : Int, v = Ty.enc (.int .i64) x ∧ K x h' :=
  callsH_of_fn (P := Tryz.prog) (fn := Tryz.f136) (τ := (.int .i64)) follows Tryz.func136 (by kernel_rfl) (by kernel_rfl) Tryz.call136 (Eq.mpr (E_cmp_Compare_int a0 a1 K h) hF)
def F_cmp_Compare_lits_Lit (a0 : Int) (a1 : Int) (K : Int → HP) : HP :=
 callT Tryz.prog fn_cmp_isNaN_lits_Lit #[(.int .i64 a0)] .bool fun r0 =>
 callT Tryz.prog fn_cmp_isNaN_lits_Lit #[(.int .i64 a1)] .bool fun r1 =>
 brB r0
 (brB r1
 (K (0 : Int))
 (K (-1 : Int)))
 (brB r1
 (K (1 : Int))
 (brB (decide (a0 < a1))
 (K (-1 : Int))
 (brB (decide (a0 > a1))
 (K (1 : Int))
 (K (0 : Int)))))
theorem E_cmp_Compare_lits_Lit (a0 : Int) (a1 : Int) (K : Int → HP) (h : Heap) : fnVC Tryz.prog [(1000000, .nil)] 20 Tryz.f137 [(.int .i64 a0), (.int .i64 a1)] (.int .i64) K h = F_cmp_Compare_lits_Lit a0 a1 K h := by kernel_rfl
theorem S_cmp_Compare_lits_Lit{h : Heap} {a0 : Int} {a1 : Int} (K : Int → HP) (hF : F_cmp_Compare_lits_Lit a0 a1 K h) : CallsH Tryz.prog fn_cmp_Compare_lits_Lit #[(.int .i64 a0), (.int .i64 a1)] h fun v h' => ∃ x : Int, v = Ty.enc (.int .i64) x ∧ K x h' :=
  callsH_of_fn (P := Tryz.prog) (fn := Tryz.f137) (τ := (.int .i64)) follows Tryz.func137 (by kernel_rfl) (by kernel_rfl) Tryz.call137 (Eq.mpr (E_cmp_Compare_lits_Lit a0 a1 K h) hF)
def F_slices_Index_clauses_Clause_lits_Lit (a0 : Sl) (a1 : Int) (K : Int → HP) : HP :=
 lfp (σ := (Int × (Int × Unit))) (fun X0 s1 =>
 brB (decide (s1.1 < (a0.len : Int)))
 (sx a0.a a0.len s1.1 1 fun p2 =>
 ldT (.int .i64) p2 fun x3 =>
 brB (a1 == x3)
 (K s1.1)
 (X0 ((IntKind.wrap .i64 (s1.1 + (1 : Int))), s1.2.1, ())))
 (K (-1 : Int)))
 ((0 : Int), (0 : Int), ())
theorem E_slices_Index_clauses_Clause_lits_Lit (a0 : Sl) (a1 : Int) (K : Int → HP) (h : Heap) : fnVC Tryz.prog [(1000000, .nil)] 19 Tryz.f138 [(.slice a0.a a0.len a0.cap), (.int .i64 a1)] (.int .i64) K h = F_slices_Index_clauses_Clause_lits_Lit a0 a1 K h := by kernel_rfl
theorem S_slices_Index_clauses_Clause_lits_Lit{h : Heap} {a0 : Sl} {a1 : Int} (K : Int → HP) (hF : F_slices_Index_clauses_Clause_lits_Lit a0 a1 K h) : CallsH Tryz.prog fn_slices_Index_clauses_Clause_lits_Lit #[(.slice a0.a a0.len a0.cap), (.int .i64 a1)] h fun v h' => ∃ x : Int, v = Ty.enc (.int .i64) x ∧ K x h' :=
  callsH_of_fn (P := Tryz.prog) (fn := Tryz.f138) (τ := (.int .i64)) follows Tryz.func138 (by kernel_rfl) (by kernel_rfl) Tryz.call138 (Eq.mpr (E_slices_Index_clauses_Clause_lits_Lit a0 a1 K h) hF)
def F_clauses_sorted (a0 : Sl) (K : Value → HP) : HP :=
 nw #[(.slice a0.a a0.len a0.cap)] ty_clauses_Clause fun b0 =>
 K (.func (.func fn_clauses_sorted_1) #[] #[(.pointer (some ⟨b0, 0, none⟩))])
theorem E_clauses_sorted (a0 : Sl) (K : Value → HP) (h : Heap) : fnVC Tryz.prog [(1000000, .nil)] 4 Tryz.f139 [(.slice a0.a a0.len a0.cap)] .val K h = F_clauses_sorted a0 K h := by kernel_rfl
theorem S_clauses_sorted{h : Heap} {a0 : Sl} (K : Value → HP) (hF : F_clauses_sorted a0 K h) : CallsH Tryz.prog fn_clauses_sorted #[(.slice a0.a a0.len a0.cap)] h fun v h' => ∃ x : Value, v = Ty.enc .val x ∧ K x h' :=
  callsH_of_fn (P := Tryz.prog) (fn := Tryz.f139) (τ := .val) follows Tryz.func139 (by kernel_rfl) (by kernel_rfl) Tryz.call139 (Eq.mpr (E_clauses_sorted a0 K h) hF)
def F_slices_Index_lits_Lit_lits_Lit (a0 : Sl) (a1 : Int) (K : Int → HP) : HP :=
 lfp (σ := (Int × (Int × Unit))) (fun X0 s1 =>
 brB (decide (s1.1 < (a0.len : Int)))
 (sx a0.a a0.len s1.1 1 fun p2 =>
 ldT (.int .i64) p2 fun x3 =>
 brB (a1 == x3)
 (K s1.1)
 (X0 ((IntKind.wrap .i64 (s1.1 + (1 : Int))), s1.2.1, ())))
 (K (-1 : Int)))
 ((0 : Int), (0 : Int), ())
theorem E_slices_Index_lits_Lit_lits_Lit (a0 : Sl) (a1 : Int) (K : Int → HP) (h : Heap) : fnVC Tryz.prog [(1000000, .nil)] 19 Tryz.f140 [(.slice a0.a a0.len a0.cap), (.int .i64 a1)] (.int .i64) K h = F_slices_Index_lits_Lit_lits_Lit a0 a1 K h := by kernel_rfl
theorem S_slices_Index_lits_Lit_lits_Lit{h : Heap} {a0 : Sl} {a1 : Int} (K : Int → HP) (hF : F_slices_Index_lits_Lit_lits_Lit a0 a1 K h) : CallsH Tryz.prog fn_slices_Index_lits_Lit_lits_Lit #[(.slice a0.a a0.len a0.cap), (.int .i64 a1)] h fun v h' => ∃ x : Int, v = Ty.enc (.int .i64) x ∧ K x h' :=
  callsH_of_fn (P := Tryz.prog) (fn := Tryz.f140) (τ := (.int .i64)) follows Tryz.func140 (by kernel_rfl) (by kernel_rfl) Tryz.call140 (Eq.mpr (E_slices_Index_lits_Lit_lits_Lit a0 a1 K h) hF)
def F_cmp_Less_int (a0 : Int) (a1 : Int) (K : Bool → HP) : HP :=
 callT Tryz.prog fn_cmp_isNaN_int #[(.int .i64 a0)] .bool fun r0 =>
 brB r0
 (callT Tryz.prog fn_cmp_isNaN_int #[(.int .i64 a1)] .bool fun r1 =>
 brB (!r1)
 (K true)
 (K (decide (a0 < a1))))
 (K (decide (a0 < a1)))
theorem E_cmp_Less_int (a0 : Int) (a1 : Int) (K : Bool → HP) (h : Heap) : fnVC Tryz.prog [(1000000, .nil)] 17 Tryz.f141 [(.int .i64 a0), (.int .i64 a1)] .bool K h = F_cmp_Less_int a0 a1 K h := by kernel_rfl
theorem S_cmp_Less_int{h : Heap} {a0 : Int} {a1 : Int} (K : Bool → HP) (hF : F_cmp_Less_int a0 a1 K h) : CallsH Tryz.prog fn_cmp_Less_int #[(.int .i64 a0), (.int .i64 a1)] h fun v h' => ∃ x : Bool, v = Ty.enc .bool x ∧ K x h' :=
  callsH_of_fn (P := Tryz.prog) (fn := Tryz.f141) (τ := .bool) follows Tryz.func141 (by kernel_rfl) (by kernel_rfl) Tryz.call141 (Eq.mpr (E_cmp_Less_int a0 a1 K h) hF)
def F_slices_isNaN_int (a0 : Int) (K : Bool → HP) : HP :=
 K (a0 != a0)
theorem E_slices_isNaN_int (a0 : Int) (K : Bool → HP) (h : Heap) : fnVC Tryz.prog [(1000000, .nil)] 6 Tryz.f142 [(.int .i64 a0)] .bool K h = F_slices_isNaN_int a0 K h := by kernel_rfl
theorem S_slices_isNaN_int{h : Heap} {a0 : Int} (K : Bool → HP) (hF : F_slices_isNaN_int a0 K h) : CallsH Tryz.prog fn_slices_isNaN_int #[(.int .i64 a0)] h fun v h' => ∃ x : Bool, v = Ty.enc .bool x ∧ K x h' :=
  callsH_of_fn (P := Tryz.prog) (fn := Tryz.f142) (τ := .bool) follows Tryz.func142 (by kernel_rfl) (by kernel_rfl) Tryz.call142 (Eq.mpr (E_slices_isNaN_int a0 K h) hF)
def F_salvorref08_has (a0 : Sl) (a1 : Int) (K : Bool → HP) : HP :=
 lfp (σ := (Int × (Bool × Unit))) (fun X0 s1 =>
 brB (decide (s1.1 < (a0.len : Int)))
 (sx a0.a a0.len s1.1 1 fun p2 =>
 ldT (.int .i64) p2 fun x3 =>
 brB (x3 == a1)
 (K true)
 (X0 ((IntKind.wrap .i64 (s1.1 + (1 : Int))), s1.2.1, ())))
 (K false))
 ((0 : Int), false, ())
theorem E_salvorref08_has (a0 : Sl) (a1 : Int) (K : Bool → HP) (h : Heap) : fnVC Tryz.prog [(1000000, .bool)] 18 Tryz.f143 [(.slice a0.a a0.len a0.cap), (.int .i64 a1)] .bool K h = F_salvorref08_has a0 a1 K h := by kernel_rfl
theorem S_salvorref08_has{h : Heap} {a0 : Sl} {a1 : Int} (K : Bool → HP) (hF : F_salvorref08_has a0 a1 K h) : CallsH Tryz.prog fn_salvorref08_has #[(.slice a0.a a0.len a0.cap), (.int .i64 a1)] h fun v h' => ∃ x : Bool, v = Ty.enc .bool x ∧ K x h' :=
  callsH_of_fn (P := Tryz.prog) (fn := Tryz.f143) (τ := .bool) follows Tryz.func143 (by kernel_rfl) (by kernel_rfl) Tryz.call143 (Eq.mpr (E_salvorref08_has a0 a1 K h) hF)
def F_salvorref01_Index (a0 : Int) (K : Int → HP) : HP :=
 callT Tryz.prog fn_salvorref01_Right #[(.int .i64 a0)] .bool fun r0 =>
 brB (!r0)
 (K (-1 : Int))
 (brB (decide (a0 < (0 : Int)))
 (K (IntKind.wrap .i64 ((IntKind.wrap .i64 ((2 : Int) * (IntKind.wrap .i64 ((IntKind.wrap .i64 (0 - a0)) - (1 : Int))))) + (1 : Int))))
 (K (IntKind.wrap .i64 ((2 : Int) * (IntKind.wrap .i64 (a0 - (1 : Int)))))))
theorem E_salvorref01_Index (a0 : Int) (K : Int → HP) (h : Heap) : fnVC Tryz.prog [(1000000, .nil)] 16 Tryz.f144 [(.int .i64 a0)] (.int .i64) K h = F_salvorref01_Index a0 K h := by kernel_rfl
theorem S_salvorref01_Index{h : Heap} {a0 : Int} (K : Int → HP) (hF : F_salvorref01_Index a0 K h) : CallsH Tryz.prog fn_salvorref01_Index #[(.int .i64 a0)] h fun v h' => ∃ x : Int, v = Ty.enc (.int .i64) x ∧ K x h' :=
  callsH_of_fn (P := Tryz.prog) (fn := Tryz.f144) (τ := (.int .i64)) follows Tryz.func144 (by kernel_rfl) (by kernel_rfl) Tryz.call144 (Eq.mpr (E_salvorref01_Index a0 K h) hF)
def F_salvorref01_At (a0 : Int) (K : Int → HP) : HP :=
 brB (decide (a0 < (0 : Int)))
 (K (0 : Int))
 (brB (decide (a0 > (2097151 : Int)))
 (K (0 : Int))
 (nz (2 : Int) <|
 nz (2 : Int) <|
 brB ((Int.tmod a0 (2 : Int)) == (1 : Int))
 (K (IntKind.wrap .i64 (0 - (IntKind.wrap .i64 ((IntKind.wrap .i64 (Int.tdiv a0 (2 : Int))) + (1 : Int))))))
 (K (IntKind.wrap .i64 ((IntKind.wrap .i64 (Int.tdiv a0 (2 : Int))) + (1 : Int))))))
theorem E_salvorref01_At (a0 : Int) (K : Int → HP) (h : Heap) : fnVC Tryz.prog [(1000000, .nil)] 19 Tryz.f145 [(.int .i64 a0)] (.int .i64) K h = F_salvorref01_At a0 K h := by kernel_rfl
theorem S_salvorref01_At{h : Heap} {a0 : Int} (K : Int → HP) (hF : F_salvorref01_At a0 K h) : CallsH Tryz.prog fn_salvorref01_At #[(.int .i64 a0)] h fun v h' => ∃ x : Int, v = Ty.enc (.int .i64) x ∧ K x h' :=
  callsH_of_fn (P := Tryz.prog) (fn := Tryz.f145) (τ := (.int .i64)) follows Tryz.func145 (by kernel_rfl) (by kernel_rfl) Tryz.call145 (Eq.mpr (E_salvorref01_At a0 K h) hF)
def F_salvorref08_without (a0 : Sl) (a1 : Sl) (K : Sl → HP) : HP :=
 mks ty_bool 1 1 #[(.bool false)] (a0.len : Int) (a0.len : Int) fun s0 =>
 sx s0.a s0.len (IntKind.wrap .i64 ((a0.len : Int) - (1 : Int))) 1 fun p1 =>
 st1 p1 (.bool true) <|
 lfp (σ := (Int × Unit)) (fun X2 s3 =>
 brB (decide (s3.1 ≥ (0 : Int)))
 (lfp (σ := (Int × Unit)) (fun X4 s5 =>
 brB (decide (s5.1 < (a0.len : Int)))
 (sx s0.a s0.len s5.1 1 fun p6 =>
 ldT .bool p6 fun x7 =>
 brB x7
 (sx a0.a a0.len s5.1 1 fun p8 =>
 ldT .sl p8 fun x9 =>
 sx a1.a a1.len s3.1 1 fun p10 =>
 ldT (.int .i64) p10 fun x11 =>
 callT Tryz.prog fn_salvorref08_has #[(.slice x9.a x9.len x9.cap), (.int .i64 (IntKind.wrap .i64 (0 - x11)))] .bool fun r12 =>
 jn (σ := Unit) (fun s14 =>
 X4 ((IntKind.wrap .i64 (s5.1 + (1 : Int))), ()))
 (fun J13 =>
 brB r12
 (sx s0.a s0.len s3.1 1 fun p15 =>
 st1 p15 (.bool true) <|
 J13 (()))
 (J13 (()))))
 (jn (σ := Unit) (fun s17 =>
 X4 ((IntKind.wrap .i64 (s5.1 + (1 : Int))), ()))
 (fun J16 =>
 J16 (()))))
 (X2 ((IntKind.wrap .i64 (s3.1 - (1 : Int))), ())))
 ((IntKind.wrap .i64 (s3.1 + (1 : Int))), ()))
 (lfp (σ := (Int × (Sl × Unit))) (fun X18 s19 =>
 brB (decide (s19.1 < (a0.len : Int)))
 (sx s0.a s0.len s19.1 1 fun p20 =>
 ldT .bool p20 fun x21 =>
 jn (σ := (Sl × Unit)) (fun s23 =>
 X18 ((IntKind.wrap .i64 (s19.1 + (1 : Int))), ⟨s23.1.a, s23.1.len, s23.1.cap⟩, ()))
 (fun J22 =>
 brB x21
 (nw #[(.int .i64 s19.1)] ty_int fun b24 =>
 apd ty_int 1 8 #[(.int .i64 0)] ⟨s19.2.1.a, s19.2.1.len, s19.2.1.cap⟩ ⟨(some ⟨b24, 0, none⟩), 1, 1⟩ fun s25 =>
 J22 (⟨s25.a, s25.len, s25.cap⟩, ()))
 (J22 (⟨s19.2.1.a, s19.2.1.len, s19.2.1.cap⟩, ()))))
 (K ⟨s19.2.1.a, s19.2.1.len, s19.2.1.cap⟩))
 ((0 : Int), ⟨none, 0, 0⟩, ())))
 ((IntKind.wrap .i64 ((a0.len : Int) - (2 : Int))), ())
theorem E_salvorref08_without (a0 : Sl) (a1 : Sl) (K : Sl → HP) (h : Heap) : fnVC Tryz.prog [(1000000, .bool)] 67 Tryz.f146 [(.slice a0.a a0.len a0.cap), (.slice a1.a a1.len a1.cap)] .sl K h = F_salvorref08_without a0 a1 K h := by kernel_rfl
theorem S_salvorref08_without{h : Heap} {a0 : Sl} {a1 : Sl} (K : Sl → HP) (hF : F_salvorref08_without a0 a1 K h) : CallsH Tryz.prog fn_salvorref08_without #[(.slice a0.a a0.len a0.cap), (.slice a1.a a1.len a1.cap)] h fun v h' => ∃ x : Sl, v = Ty.enc .sl x ∧ K x h' :=
  callsH_of_fn (P := Tryz.prog) (fn := Tryz.f146) (τ := .sl) follows Tryz.func146 (by kernel_rfl) (by kernel_rfl) Tryz.call146 (Eq.mpr (E_salvorref08_without a0 a1 K h) hF)
def F_slices_IndexFunc_int_int (a0 : Sl) (a1 : Value) (K : Int → HP) : HP :=
 lfp (σ := (Int × (Int × Unit))) (fun X0 s1 =>
 brB (decide (s1.1 < (a0.len : Int)))
 (sx a0.a a0.len s1.1 1 fun p2 =>
 ldT (.int .i64) p2 fun x3 =>
 callF Tryz.prog a1 #[(.int .i64 x3)] .bool fun r4 =>
 brB r4
 (K s1.1)
 (X0 ((IntKind.wrap .i64 (s1.1 + (1 : Int))), s1.2.1, ())))
 (K (-1 : Int)))
 ((0 : Int), (0 : Int), ())
theorem E_slices_IndexFunc_int_int (a0 : Sl) (a1 : Value) (K : Int → HP) (h : Heap) : fnVC Tryz.prog [(1000000, .nil)] 19 Tryz.f147 [(.slice a0.a a0.len a0.cap), a1] (.int .i64) K h = F_slices_IndexFunc_int_int a0 a1 K h := by kernel_rfl
theorem S_slices_IndexFunc_int_int{h : Heap} {a0 : Sl} {a1 : Value} (K : Int → HP) (hF : F_slices_IndexFunc_int_int a0 a1 K h) : CallsH Tryz.prog fn_slices_IndexFunc_int_int #[(.slice a0.a a0.len a0.cap), a1] h fun v h' => ∃ x : Int, v = Ty.enc (.int .i64) x ∧ K x h' :=
  callsH_of_fn (P := Tryz.prog) (fn := Tryz.f147) (τ := (.int .i64)) follows Tryz.func147 (by kernel_rfl) (by kernel_rfl) Tryz.call147 (Eq.mpr (E_slices_IndexFunc_int_int a0 a1 K h) hF)
def F_slices_IndexFunc_clauses_Clause_lits_Lit (a0 : Sl) (a1 : Value) (K : Int → HP) : HP :=
 lfp (σ := (Int × (Int × Unit))) (fun X0 s1 =>
 brB (decide (s1.1 < (a0.len : Int)))
 (sx a0.a a0.len s1.1 1 fun p2 =>
 ldT (.int .i64) p2 fun x3 =>
 callF Tryz.prog a1 #[(.int .i64 x3)] .bool fun r4 =>
 brB r4
 (K s1.1)
 (X0 ((IntKind.wrap .i64 (s1.1 + (1 : Int))), s1.2.1, ())))
 (K (-1 : Int)))
 ((0 : Int), (0 : Int), ())
theorem E_slices_IndexFunc_clauses_Clause_lits_Lit (a0 : Sl) (a1 : Value) (K : Int → HP) (h : Heap) : fnVC Tryz.prog [(1000000, .nil)] 19 Tryz.f149 [(.slice a0.a a0.len a0.cap), a1] (.int .i64) K h = F_slices_IndexFunc_clauses_Clause_lits_Lit a0 a1 K h := by kernel_rfl
theorem S_slices_IndexFunc_clauses_Clause_lits_Lit{h : Heap} {a0 : Sl} {a1 : Value} (K : Int → HP) (hF : F_slices_IndexFunc_clauses_Clause_lits_Lit a0 a1 K h) : CallsH Tryz.prog fn_slices_IndexFunc_clauses_Clause_lits_Lit #[(.slice a0.a a0.len a0.cap), a1] h fun v h' => ∃ x : Int, v = Ty.enc (.int .i64) x ∧ K x h' :=
  callsH_of_fn (P := Tryz.prog) (fn := Tryz.f149) (τ := (.int .i64)) follows Tryz.func149 (by kernel_rfl) (by kernel_rfl) Tryz.call149 (Eq.mpr (E_slices_IndexFunc_clauses_Clause_lits_Lit a0 a1 K h) hF)
def F_rup_values_moving_1 (a0 : Value) (c0 : Addr) (c1 : Addr) (c2 : Addr) (K : Unit → HP) : HP :=
 ldT .sl c0 fun x0 =>
 lfp (σ := (Int × Unit)) (fun X1 s2 =>
 brB (decide (s2.1 < (x0.len : Int)))
 (sx x0.a x0.len s2.1 1 fun p3 =>
 ldT .sl p3 fun x4 =>
 ldT .val c1 fun x5 =>
 callT Tryz.prog fn_rup_values_look #[x5, (.slice x4.a x4.len x4.cap)] (.tup (.cons (.int .u8) (.cons (.int .i64) .nil))) fun r6 =>
 ldT (.int .u8) c2 fun x7 =>
 jn (σ := Bool) (fun t9 =>
 brB t9
 (K (()))
 (X1 ((IntKind.wrap .i64 (s2.1 + (1 : Int))), ())))
 (fun J8 =>
 brB (r6.1 == x7)
 (callF Tryz.prog a0 #[(.int .i64 s2.1), (.int .i64 r6.2.1)] .bool fun r10 =>
 J8 ((!r10)))
 (J8 false)))
 (K (())))
 ((0 : Int), ())
theorem E_rup_values_moving_1 (a0 : Value) (c0 : Addr) (c1 : Addr) (c2 : Addr) (K : Unit → HP) (h : Heap) : fnVC Tryz.prog [(1000000, .bool)] 33 Tryz.f150 [a0, (.pointer (some c0)), (.pointer (some c1)), (.pointer (some c2))] (.tup .nil) K h = F_rup_values_moving_1 a0 c0 c1 c2 K h := by kernel_rfl
theorem S_rup_values_moving_1{h : Heap} {a0 : Value} {c0 : Addr} {c1 : Addr} {c2 : Addr} (K : Unit → HP) (hF : F_rup_values_moving_1 a0 c0 c1 c2 K h) : CallsH Tryz.prog fn_rup_values_moving_1 #[a0, (.pointer (some c0)), (.pointer (some c1)), (.pointer (some c2))] h fun v h' => ∃ x : Unit, v = Ty.enc (.tup .nil) x ∧ K x h' :=
  callsH_of_fn (P := Tryz.prog) (fn := Tryz.f150) (τ := (.tup .nil)) follows Tryz.func150 (by kernel_rfl) (by kernel_rfl) Tryz.call150 (Eq.mpr (E_rup_values_moving_1 a0 c0 c1 c2 K h) hF)
def F_slices_insertionSortCmpFunc_lits_Lit (a0 : Sl) (a1 : Int) (a2 : Int) (a3 : Value) (K : Unit → HP) : HP :=
 lfp (σ := (Int × Unit)) (fun X0 s1 =>
 brB (decide (s1.1 < a2))
 (jn (σ := (Int × Unit)) (fun s3 =>
 X0 ((IntKind.wrap .i64 (s1.1 + (1 : Int))), ()))
 (fun J2 =>
 lfp (σ := (Int × Unit)) (fun X4 s5 =>
 brB (decide (s5.1 > a1))
 (sx a0.a a0.len s5.1 1 fun p6 =>
 ldT (.int .i64) p6 fun x7 =>
 sx a0.a a0.len (IntKind.wrap .i64 (s5.1 - (1 : Int))) 1 fun p8 =>
 ldT (.int .i64) p8 fun x9 =>
 callF Tryz.prog a3 #[(.int .i64 x7), (.int .i64 x9)] (.int .i64) fun r10 =>
 brB (decide (r10 < (0 : Int)))
 (sx a0.a a0.len (IntKind.wrap .i64 (s5.1 - (1 : Int))) 1 fun p11 =>
 ldT (.int .i64) p11 fun x12 =>
 sx a0.a a0.len s5.1 1 fun p13 =>
 ldT (.int .i64) p13 fun x14 =>
 sx a0.a a0.len s5.1 1 fun p15 =>
 st1 p15 (.int .i64 x12) <|
 sx a0.a a0.len (IntKind.wrap .i64 (s5.1 - (1 : Int))) 1 fun p16 =>
 st1 p16 (.int .i64 x14) <|
 X4 ((IntKind.wrap .i64 (s5.1 - (1 : Int))), ()))
 (J2 (s5.1, ())))
 (J2 (s5.1, ())))
 (s1.1, ())))
 (K (())))
 ((IntKind.wrap .i64 (a1 + (1 : Int))), ())
theorem E_slices_insertionSortCmpFunc_lits_Lit (a0 : Sl) (a1 : Int) (a2 : Int) (a3 : Value) (K : Unit → HP) (h : Heap) : fnVC Tryz.prog [(1000000, .nil)] 53 Tryz.f151 [(.slice a0.a a0.len a0.cap), (.int .i64 a1), (.int .i64 a2), a3] (.tup .nil) K h = F_slices_insertionSortCmpFunc_lits_Lit a0 a1 a2 a3 K h := by kernel_rfl
theorem S_slices_insertionSortCmpFunc_lits_Lit{h : Heap} {a0 : Sl} {a1 : Int} {a2 : Int} {a3 : Value} (K : Unit → HP) (hF : F_slices_insertionSortCmpFunc_lits_Lit a0 a1 a2 a3 K h) : CallsH Tryz.prog fn_slices_insertionSortCmpFunc_lits_Lit #[(.slice a0.a a0.len a0.cap), (.int .i64 a1), (.int .i64 a2), a3] h fun v h' => ∃ x : Unit, v = Ty.enc (.tup .nil) x ∧ K x h' :=
  callsH_of_fn (P := Tryz.prog) (fn := Tryz.f151) (τ := (.tup .nil)) follows Tryz.func151 (by kernel_rfl) (by kernel_rfl) Tryz.call151 (Eq.mpr (E_slices_insertionSortCmpFunc_lits_Lit a0 a1 a2 a3 K h) hF)
def F_slices_heapSortCmpFunc_lits_Lit (a0 : Sl) (a1 : Int) (a2 : Int) (a3 : Value) (K : Unit → HP) : HP :=
 nz (2 : Int) <|
 lfp (σ := (Int × Unit)) (fun X0 s1 =>
 brB (decide (s1.1 ≥ (0 : Int)))
 (callT Tryz.prog fn_slices_siftDownCmpFunc_lits_Lit #[(.slice a0.a a0.len a0.cap), (.int .i64 s1.1), (.int .i64 (IntKind.wrap .i64 (a2 - a1))), (.int .i64 a1), a3] (.tup .nil) fun r2 =>
 X0 ((IntKind.wrap .i64 (s1.1 - (1 : Int))), ()))
 (lfp (σ := (Int × Unit)) (fun X3 s4 =>
 brB (decide (s4.1 ≥ (0 : Int)))
 (sx a0.a a0.len (IntKind.wrap .i64 (a1 + s4.1)) 1 fun p5 =>
 ldT (.int .i64) p5 fun x6 =>
 sx a0.a a0.len a1 1 fun p7 =>
 ldT (.int .i64) p7 fun x8 =>
 sx a0.a a0.len a1 1 fun p9 =>
 st1 p9 (.int .i64 x6) <|
 sx a0.a a0.len (IntKind.wrap .i64 (a1 + s4.1)) 1 fun p10 =>
 st1 p10 (.int .i64 x8) <|
 callT Tryz.prog fn_slices_siftDownCmpFunc_lits_Lit #[(.slice a0.a a0.len a0.cap), (.int .i64 0), (.int .i64 s4.1), (.int .i64 a1), a3] (.tup .nil) fun r11 =>
 X3 ((IntKind.wrap .i64 (s4.1 - (1 : Int))), ()))
 (K (())))
 ((IntKind.wrap .i64 ((IntKind.wrap .i64 (a2 - a1)) - (1 : Int))), ())))
 ((IntKind.wrap .i64 (Int.tdiv (IntKind.wrap .i64 ((IntKind.wrap .i64 (a2 - a1)) - (1 : Int))) (2 : Int))), ())
theorem E_slices_heapSortCmpFunc_lits_Lit (a0 : Sl) (a1 : Int) (a2 : Int) (a3 : Value) (K : Unit → HP) (h : Heap) : fnVC Tryz.prog [(1000000, .nil)] 60 Tryz.f152 [(.slice a0.a a0.len a0.cap), (.int .i64 a1), (.int .i64 a2), a3] (.tup .nil) K h = F_slices_heapSortCmpFunc_lits_Lit a0 a1 a2 a3 K h := by kernel_rfl
theorem S_slices_heapSortCmpFunc_lits_Lit{h : Heap} {a0 : Sl} {a1 : Int} {a2 : Int} {a3 : Value} (K : Unit → HP) (hF : F_slices_heapSortCmpFunc_lits_Lit a0 a1 a2 a3 K h) : CallsH Tryz.prog fn_slices_heapSortCmpFunc_lits_Lit #[(.slice a0.a a0.len a0.cap), (.int .i64 a1), (.int .i64 a2), a3] h fun v h' => ∃ x : Unit, v = Ty.enc (.tup .nil) x ∧ K x h' :=
  callsH_of_fn (P := Tryz.prog) (fn := Tryz.f152) (τ := (.tup .nil)) follows Tryz.func152 (by kernel_rfl) (by kernel_rfl) Tryz.call152 (Eq.mpr (E_slices_heapSortCmpFunc_lits_Lit a0 a1 a2 a3 K h) hF)
def F_slices_breakPatternsCmpFunc_lits_Lit (a0 : Sl) (a1 : Int) (a2 : Int) (a3 : Value) (K : Unit → HP) : HP :=
 jn (σ := Unit) (fun s1 =>
 K (()))
 (fun J0 =>
 brB (decide ((IntKind.wrap .i64 (a2 - a1)) ≥ (8 : Int)))
 (nw #[(.int .u64 0)] ty_slices_xorshift fun b2 =>
 st1 ⟨b2, 0, none⟩ (.int .u64 (IntKind.wrap .u64 (IntKind.wrap .i64 (a2 - a1)))) <|
 callT Tryz.prog fn_slices_nextPowerOfTwo #[(.int .i64 (IntKind.wrap .i64 (a2 - a1)))] (.int .u64) fun r3 =>
 nz (4 : Int) <|
 lfp (σ := (Int × Unit)) (fun X4 s5 =>
 nz (4 : Int) <|
 brB (decide (s5.1 ≤ (IntKind.wrap .i64 ((IntKind.wrap .i64 (a1 + (IntKind.wrap .i64 ((IntKind.wrap .i64 (Int.tdiv (IntKind.wrap .i64 (a2 - a1)) (4 : Int))) * (2 : Int))))) + (1 : Int)))))
 (callT Tryz.prog fn_slices_xorshift_Next #[(.pointer (some ⟨b2, 0, none⟩))] (.int .u64) fun r6 =>
 jn (σ := (Int × Unit)) (fun s8 =>
 sx a0.a a0.len (IntKind.wrap .i64 (a1 + s8.1)) 1 fun p9 =>
 ldT (.int .i64) p9 fun x10 =>
 sx a0.a a0.len s5.1 1 fun p11 =>
 ldT (.int .i64) p11 fun x12 =>
 sx a0.a a0.len s5.1 1 fun p13 =>
 st1 p13 (.int .i64 x10) <|
 sx a0.a a0.len (IntKind.wrap .i64 (a1 + s8.1)) 1 fun p14 =>
 st1 p14 (.int .i64 x12) <|
 X4 ((IntKind.wrap .i64 (s5.1 + (1 : Int))), ()))
 (fun J7 =>
 brB (decide ((IntKind.wrap .i64 (bAnd .u64 r6 (IntKind.wrap .u64 (r3 - (1 : Int))))) ≥ (IntKind.wrap .i64 (a2 - a1))))
 (J7 ((IntKind.wrap .i64 ((IntKind.wrap .i64 (bAnd .u64 r6 (IntKind.wrap .u64 (r3 - (1 : Int))))) - (IntKind.wrap .i64 (a2 - a1)))), ()))
 (J7 ((IntKind.wrap .i64 (bAnd .u64 r6 (IntKind.wrap .u64 (r3 - (1 : Int))))), ()))))
 (J0 (())))
 ((IntKind.wrap .i64 ((IntKind.wrap .i64 (a1 + (IntKind.wrap .i64 ((IntKind.wrap .i64 (Int.tdiv (IntKind.wrap .i64 (a2 - a1)) (4 : Int))) * (2 : Int))))) - (1 : Int))), ()))
 (J0 (())))
theorem E_slices_breakPatternsCmpFunc_lits_Lit (a0 : Sl) (a1 : Int) (a2 : Int) (a3 : Value) (K : Unit → HP) (h : Heap) : fnVC Tryz.prog [(1000000, .nil)] 67 Tryz.f153 [(.slice a0.a a0.len a0.cap), (.int .i64 a1), (.int .i64 a2), a3] (.tup .nil) K h = F_slices_breakPatternsCmpFunc_lits_Lit a0 a1 a2 a3 K h := by kernel_rfl
theorem S_slices_breakPatternsCmpFunc_lits_Lit{h : Heap} {a0 : Sl} {a1 : Int} {a2 : Int} {a3 : Value} (K : Unit → HP) (hF : F_slices_breakPatternsCmpFunc_lits_Lit a0 a1 a2 a3 K h) : CallsH Tryz.prog fn_slices_breakPatternsCmpFunc_lits_Lit #[(.slice a0.a a0.len a0.cap), (.int .i64 a1), (.int .i64 a2), a3] h fun v h' => ∃ x : Unit, v = Ty.enc (.tup .nil) x ∧ K x h' :=
  callsH_of_fn (P := Tryz.prog) (fn := Tryz.f153) (τ := (.tup .nil)) follows Tryz.func153 (by kernel_rfl) (by kernel_rfl) Tryz.call153 (Eq.mpr (E_slices_breakPatternsCmpFunc_lits_Lit a0 a1 a2 a3 K h) hF)
def F_slices_choosePivotCmpFunc_lits_Lit (a0 : Sl) (a1 : Int) (a2 : Int) (a3 : Value) (K : (Int × (Int × Unit)) → HP) : HP :=
 nw #[(.int .i64 0)] ty_int fun b0 =>
 nz (4 : Int) <|
 nz (4 : Int) <|
 nz (4 : Int) <|
 jn (σ := (Int × (Int × (Int × Unit)))) (fun s2 =>
 ldT (.int .i64) ⟨b0, 0, none⟩ fun x3 =>
 brB (x3 == (0 : Int))
 (K (s2.2.1, (1 : Int), ()))
 (brB (x3 == (12 : Int))
 (K (s2.2.1, (2 : Int), ()))
 (K (s2.2.1, (0 : Int), ()))))
 (fun J1 =>
 brB (decide ((IntKind.wrap .i64 (a2 - a1)) ≥ (8 : Int)))
 (jn (σ := (Int × (Int × (Int × Unit)))) (fun s5 =>
 callT Tryz.prog fn_slices_medianCmpFunc_lits_Lit #[(.slice a0.a a0.len a0.cap), (.int .i64 s5.2.2.1), (.int .i64 s5.2.1), (.int .i64 s5.1), (.pointer (some ⟨b0, 0, none⟩)), a3] (.int .i64) fun r6 =>
 J1 (s5.1, r6, s5.2.2.1, ()))
 (fun J4 =>
 brB (decide ((IntKind.wrap .i64 (a2 - a1)) ≥ (50 : Int)))
 (callT Tryz.prog fn_slices_medianAdjacentCmpFunc_lits_Lit #[(.slice a0.a a0.len a0.cap), (.int .i64 (IntKind.wrap .i64 (a1 + (IntKind.wrap .i64 ((IntKind.wrap .i64 (Int.tdiv (IntKind.wrap .i64 (a2 - a1)) (4 : Int))) * (1 : Int)))))), (.pointer (some ⟨b0, 0, none⟩)), a3] (.int .i64) fun r7 =>
 callT Tryz.prog fn_slices_medianAdjacentCmpFunc_lits_Lit #[(.slice a0.a a0.len a0.cap), (.int .i64 (IntKind.wrap .i64 (a1 + (IntKind.wrap .i64 ((IntKind.wrap .i64 (Int.tdiv (IntKind.wrap .i64 (a2 - a1)) (4 : Int))) * (2 : Int)))))), (.pointer (some ⟨b0, 0, none⟩)), a3] (.int .i64) fun r8 =>
 callT Tryz.prog fn_slices_medianAdjacentCmpFunc_lits_Lit #[(.slice a0.a a0.len a0.cap), (.int .i64 (IntKind.wrap .i64 (a1 + (IntKind.wrap .i64 ((IntKind.wrap .i64 (Int.tdiv (IntKind.wrap .i64 (a2 - a1)) (4 : Int))) * (3 : Int)))))), (.pointer (some ⟨b0, 0, none⟩)), a3] (.int .i64) fun r9 =>
 J4 (r9, r8, r7, ()))
 (J4 ((IntKind.wrap .i64 (a1 + (IntKind.wrap .i64 ((IntKind.wrap .i64 (Int.tdiv (IntKind.wrap .i64 (a2 - a1)) (4 : Int))) * (3 : Int))))), (IntKind.wrap .i64 (a1 + (IntKind.wrap .i64 ((IntKind.wrap .i64 (Int.tdiv (IntKind.wrap .i64 (a2 - a1)) (4 : Int))) * (2 : Int))))), (IntKind.wrap .i64 (a1 + (IntKind.wrap .i64 ((IntKind.wrap .i64 (Int.tdiv (IntKind.wrap .i64 (a2 - a1)) (4 : Int))) * (1 : Int))))), ()))))
 (J1 ((IntKind.wrap .i64 (a1 + (IntKind.wrap .i64 ((IntKind.wrap .i64 (Int.tdiv (IntKind.wrap .i64 (a2 - a1)) (4 : Int))) * (3 : Int))))), (IntKind.wrap .i64 (a1 + (IntKind.wrap .i64 ((IntKind.wrap .i64 (Int.tdiv (IntKind.wrap .i64 (a2 - a1)) (4 : Int))) * (2 : Int))))), (IntKind.wrap .i64 (a1 + (IntKind.wrap .i64 ((IntKind.wrap .i64 (Int.tdiv (IntKind.wrap .i64 (a2 - a1)) (4 : Int))) * (1 : Int))))), ())))
theorem E_slices_choosePivotCmpFunc_lits_Lit (a0 : Sl) (a1 : Int) (a2 : Int) (a3 : Value) (K : (Int × (Int × Unit)) → HP) (h : Heap) : fnVC Tryz.prog [(1000000, .nil)] 63 Tryz.f154 [(.slice a0.a a0.len a0.cap), (.int .i64 a1), (.int .i64 a2), a3] (.tup (.cons (.int .i64) (.cons (.int .i64) .nil))) K h = F_slices_choosePivotCmpFunc_lits_Lit a0 a1 a2 a3 K h := by kernel_rfl
theorem S_slices_choosePivotCmpFunc_lits_Lit{h : Heap} {a0 : Sl} {a1 : Int} {a2 : Int} {a3 : Value} (K : (Int × (Int × Unit)) → HP) (hF : F_slices_choosePivotCmpFunc_lits_Lit a0 a1 a2 a3 K h) : CallsH Tryz.prog fn_slices_choosePivotCmpFunc_lits_Lit #[(.slice a0.a a0.len a0.cap), (.int .i64 a1), (.int .i64 a2), a3] h fun v h' => ∃ x : (Int × (Int × Unit)), v = Ty.enc (.tup (.cons (.int .i64) (.cons (.int .i64) .nil))) x ∧ K x h' :=
  callsH_of_fn (P := Tryz.prog) (fn := Tryz.f154) (τ := (.tup (.cons (.int .i64) (.cons (.int .i64) .nil)))) follows Tryz.func154 (by kernel_rfl) (by kernel_rfl) Tryz.call154 (Eq.mpr (E_slices_choosePivotCmpFunc_lits_Lit a0 a1 a2 a3 K h) hF)
def F_slices_reverseRangeCmpFunc_lits_Lit (a0 : Sl) (a1 : Int) (a2 : Int) (a3 : Value) (K : Unit → HP) : HP :=
 lfp (σ := (Int × (Int × Unit))) (fun X0 s1 =>
 brB (decide (s1.2.1 < s1.1))
 (sx a0.a a0.len s1.1 1 fun p2 =>
 ldT (.int .i64) p2 fun x3 =>
 sx a0.a a0.len s1.2.1 1 fun p4 =>
 ldT (.int .i64) p4 fun x5 =>
 sx a0.a a0.len s1.2.1 1 fun p6 =>
 st1 p6 (.int .i64 x3) <|
 sx a0.a a0.len s1.1 1 fun p7 =>
 st1 p7 (.int .i64 x5) <|
 X0 ((IntKind.wrap .i64 (s1.1 - (1 : Int))), (IntKind.wrap .i64 (s1.2.1 + (1 : Int))), ()))
 (K (())))
 ((IntKind.wrap .i64 (a2 - (1 : Int))), a1, ())
theorem E_slices_reverseRangeCmpFunc_lits_Lit (a0 : Sl) (a1 : Int) (a2 : Int) (a3 : Value) (K : Unit → HP) (h : Heap) : fnVC Tryz.prog [(1000000, .nil)] 34 Tryz.f155 [(.slice a0.a a0.len a0.cap), (.int .i64 a1), (.int .i64 a2), a3] (.tup .nil) K h = F_slices_reverseRangeCmpFunc_lits_Lit a0 a1 a2 a3 K h := by kernel_rfl
theorem S_slices_reverseRangeCmpFunc_lits_Lit{h : Heap} {a0 : Sl} {a1 : Int} {a2 : Int} {a3 : Value} (K : Unit → HP) (hF : F_slices_reverseRangeCmpFunc_lits_Lit a0 a1 a2 a3 K h) : CallsH Tryz.prog fn_slices_reverseRangeCmpFunc_lits_Lit #[(.slice a0.a a0.len a0.cap), (.int .i64 a1), (.int .i64 a2), a3] h fun v h' => ∃ x : Unit, v = Ty.enc (.tup .nil) x ∧ K x h' :=
  callsH_of_fn (P := Tryz.prog) (fn := Tryz.f155) (τ := (.tup .nil)) follows Tryz.func155 (by kernel_rfl) (by kernel_rfl) Tryz.call155 (Eq.mpr (E_slices_reverseRangeCmpFunc_lits_Lit a0 a1 a2 a3 K h) hF)
def F_slices_partialInsertionSortCmpFunc_lits_Lit (a0 : Sl) (a1 : Int) (a2 : Int) (a3 : Value) (K : Bool → HP) : HP :=
 lfp (σ := (Int × (Int × (Bool × Unit)))) (fun X0 s1 =>
 brB (decide (s1.1 < (5 : Int)))
 (jn (σ := (Int × Unit)) (fun s3 =>
 brB (s3.1 == a2)
 (K true)
 (brB (decide ((IntKind.wrap .i64 (a2 - a1)) < (50 : Int)))
 (K false)
 (sx a0.a a0.len (IntKind.wrap .i64 (s3.1 - (1 : Int))) 1 fun p4 =>
 ldT (.int .i64) p4 fun x5 =>
 sx a0.a a0.len s3.1 1 fun p6 =>
 ldT (.int .i64) p6 fun x7 =>
 sx a0.a a0.len s3.1 1 fun p8 =>
 st1 p8 (.int .i64 x5) <|
 sx a0.a a0.len (IntKind.wrap .i64 (s3.1 - (1 : Int))) 1 fun p9 =>
 st1 p9 (.int .i64 x7) <|
 jn (σ := Unit) (fun s11 =>
 jn (σ := Unit) (fun s13 =>
 X0 ((IntKind.wrap .i64 (s1.1 + (1 : Int))), s3.1, s1.2.2.1, ()))
 (fun J12 =>
 brB (decide ((IntKind.wrap .i64 (a2 - s3.1)) ≥ (2 : Int)))
 (jn (σ := (Int × Unit)) (fun s15 =>
 J12 (()))
 (fun J14 =>
 lfp (σ := (Int × Unit)) (fun X16 s17 =>
 brB (decide (s17.1 < a2))
 (sx a0.a a0.len s17.1 1 fun p18 =>
 ldT (.int .i64) p18 fun x19 =>
 sx a0.a a0.len (IntKind.wrap .i64 (s17.1 - (1 : Int))) 1 fun p20 =>
 ldT (.int .i64) p20 fun x21 =>
 callF Tryz.prog a3 #[(.int .i64 x19), (.int .i64 x21)] (.int .i64) fun r22 =>
 brB (!(decide (r22 < (0 : Int))))
 (J14 (s17.1, ()))
 (sx a0.a a0.len (IntKind.wrap .i64 (s17.1 - (1 : Int))) 1 fun p23 =>
 ldT (.int .i64) p23 fun x24 =>
 sx a0.a a0.len s17.1 1 fun p25 =>
 ldT (.int .i64) p25 fun x26 =>
 sx a0.a a0.len s17.1 1 fun p27 =>
 st1 p27 (.int .i64 x24) <|
 sx a0.a a0.len (IntKind.wrap .i64 (s17.1 - (1 : Int))) 1 fun p28 =>
 st1 p28 (.int .i64 x26) <|
 X16 ((IntKind.wrap .i64 (s17.1 + (1 : Int))), ())))
 (J14 (s17.1, ())))
 ((IntKind.wrap .i64 (s3.1 + (1 : Int))), ())))
 (J12 (()))))
 (fun J10 =>
 brB (decide ((IntKind.wrap .i64 (s3.1 - a1)) ≥ (2 : Int)))
 (jn (σ := (Int × Unit)) (fun s30 =>
 J10 (()))
 (fun J29 =>
 lfp (σ := (Int × Unit)) (fun X31 s32 =>
 brB (decide (s32.1 ≥ (1 : Int)))
 (sx a0.a a0.len s32.1 1 fun p33 =>
 ldT (.int .i64) p33 fun x34 =>
 sx a0.a a0.len (IntKind.wrap .i64 (s32.1 - (1 : Int))) 1 fun p35 =>
 ldT (.int .i64) p35 fun x36 =>
 callF Tryz.prog a3 #[(.int .i64 x34), (.int .i64 x36)] (.int .i64) fun r37 =>
 brB (!(decide (r37 < (0 : Int))))
 (J29 (s32.1, ()))
 (sx a0.a a0.len (IntKind.wrap .i64 (s32.1 - (1 : Int))) 1 fun p38 =>
 ldT (.int .i64) p38 fun x39 =>
 sx a0.a a0.len s32.1 1 fun p40 =>
 ldT (.int .i64) p40 fun x41 =>
 sx a0.a a0.len s32.1 1 fun p42 =>
 st1 p42 (.int .i64 x39) <|
 sx a0.a a0.len (IntKind.wrap .i64 (s32.1 - (1 : Int))) 1 fun p43 =>
 st1 p43 (.int .i64 x41) <|
 X31 ((IntKind.wrap .i64 (s32.1 - (1 : Int))), ())))
 (J29 (s32.1, ())))
 ((IntKind.wrap .i64 (s3.1 - (1 : Int))), ())))
 (J10 (()))))))
 (fun J2 =>
 lfp (σ := (Int × Unit)) (fun X44 s45 =>
 brB (decide (s45.1 < a2))
 (sx a0.a a0.len s45.1 1 fun p46 =>
 ldT (.int .i64) p46 fun x47 =>
 sx a0.a a0.len (IntKind.wrap .i64 (s45.1 - (1 : Int))) 1 fun p48 =>
 ldT (.int .i64) p48 fun x49 =>
 callF Tryz.prog a3 #[(.int .i64 x47), (.int .i64 x49)] (.int .i64) fun r50 =>
 brB (!(decide (r50 < (0 : Int))))
 (X44 ((IntKind.wrap .i64 (s45.1 + (1 : Int))), ()))
 (J2 (s45.1, ())))
 (J2 (s45.1, ())))
 (s1.2.1, ())))
 (K false))
 ((0 : Int), (IntKind.wrap .i64 (a1 + (1 : Int))), false, ())
theorem E_slices_partialInsertionSortCmpFunc_lits_Lit (a0 : Sl) (a1 : Int) (a2 : Int) (a3 : Value) (K : Bool → HP) (h : Heap) : fnVC Tryz.prog [(1000000, .nil)] 141 Tryz.f156 [(.slice a0.a a0.len a0.cap), (.int .i64 a1), (.int .i64 a2), a3] .bool K h = F_slices_partialInsertionSortCmpFunc_lits_Lit a0 a1 a2 a3 K h := by kernel_rfl
theorem S_slices_partialInsertionSortCmpFunc_lits_Lit{h : Heap} {a0 : Sl} {a1 : Int} {a2 : Int} {a3 : Value} (K : Bool → HP) (hF : F_slices_partialInsertionSortCmpFunc_lits_Lit a0 a1 a2 a3 K h) : CallsH Tryz.prog fn_slices_partialInsertionSortCmpFunc_lits_Lit #[(.slice a0.a a0.len a0.cap), (.int .i64 a1), (.int .i64 a2), a3] h fun v h' => ∃ x : Bool, v = Ty.enc .bool x ∧ K x h' :=
  callsH_of_fn (P := Tryz.prog) (fn := Tryz.f156) (τ := .bool) follows Tryz.func156 (by kernel_rfl) (by kernel_rfl) Tryz.call156 (Eq.mpr (E_slices_partialInsertionSortCmpFunc_lits_Lit a0 a1 a2 a3 K h) hF)
def F_slices_partitionEqualCmpFunc_lits_Lit (a0 : Sl) (a1 : Int) (a2 : Int) (a3 : Int) (a4 : Value) (K : Int → HP) : HP :=
 sx a0.a a0.len a3 1 fun p0 =>
 ldT (.int .i64) p0 fun x1 =>
 sx a0.a a0.len a1 1 fun p2 =>
 ldT (.int .i64) p2 fun x3 =>
 sx a0.a a0.len a1 1 fun p4 =>
 st1 p4 (.int .i64 x1) <|
 sx a0.a a0.len a3 1 fun p5 =>
 st1 p5 (.int .i64 x3) <|
 lfp (σ := (Int × (Int × Unit))) (fun X6 s7 =>
 jn (σ := (Int × Unit)) (fun s9 =>
 jn (σ := (Int × Unit)) (fun s11 =>
 brB (decide (s9.1 > s11.1))
 (K s9.1)
 (sx a0.a a0.len s11.1 1 fun p12 =>
 ldT (.int .i64) p12 fun x13 =>
 sx a0.a a0.len s9.1 1 fun p14 =>
 ldT (.int .i64) p14 fun x15 =>
 sx a0.a a0.len s9.1 1 fun p16 =>
 st1 p16 (.int .i64 x13) <|
 sx a0.a a0.len s11.1 1 fun p17 =>
 st1 p17 (.int .i64 x15) <|
 X6 ((IntKind.wrap .i64 (s11.1 - (1 : Int))), (IntKind.wrap .i64 (s9.1 + (1 : Int))), ())))
 (fun J10 =>
 lfp (σ := (Int × Unit)) (fun X18 s19 =>
 brB (decide (s9.1 ≤ s19.1))
 (sx a0.a a0.len a1 1 fun p20 =>
 ldT (.int .i64) p20 fun x21 =>
 sx a0.a a0.len s19.1 1 fun p22 =>
 ldT (.int .i64) p22 fun x23 =>
 callF Tryz.prog a4 #[(.int .i64 x21), (.int .i64 x23)] (.int .i64) fun r24 =>
 brB (decide (r24 < (0 : Int)))
 (X18 ((IntKind.wrap .i64 (s19.1 - (1 : Int))), ()))
 (J10 (s19.1, ())))
 (J10 (s19.1, ())))
 (s7.1, ())))
 (fun J8 =>
 lfp (σ := (Int × Unit)) (fun X25 s26 =>
 brB (decide (s26.1 ≤ s7.1))
 (sx a0.a a0.len a1 1 fun p27 =>
 ldT (.int .i64) p27 fun x28 =>
 sx a0.a a0.len s26.1 1 fun p29 =>
 ldT (.int .i64) p29 fun x30 =>
 callF Tryz.prog a4 #[(.int .i64 x28), (.int .i64 x30)] (.int .i64) fun r31 =>
 brB (!(decide (r31 < (0 : Int))))
 (X25 ((IntKind.wrap .i64 (s26.1 + (1 : Int))), ()))
 (J8 (s26.1, ())))
 (J8 (s26.1, ())))
 (s7.2.1, ())))
 ((IntKind.wrap .i64 (a2 - (1 : Int))), (IntKind.wrap .i64 (a1 + (1 : Int))), ())
theorem E_slices_partitionEqualCmpFunc_lits_Lit (a0 : Sl) (a1 : Int) (a2 : Int) (a3 : Int) (a4 : Value) (K : Int → HP) (h : Heap) : fnVC Tryz.prog [(1000000, .nil)] 90 Tryz.f157 [(.slice a0.a a0.len a0.cap), (.int .i64 a1), (.int .i64 a2), (.int .i64 a3), a4] (.int .i64) K h = F_slices_partitionEqualCmpFunc_lits_Lit a0 a1 a2 a3 a4 K h := by kernel_rfl
theorem S_slices_partitionEqualCmpFunc_lits_Lit{h : Heap} {a0 : Sl} {a1 : Int} {a2 : Int} {a3 : Int} {a4 : Value} (K : Int → HP) (hF : F_slices_partitionEqualCmpFunc_lits_Lit a0 a1 a2 a3 a4 K h) : CallsH Tryz.prog fn_slices_partitionEqualCmpFunc_lits_Lit #[(.slice a0.a a0.len a0.cap), (.int .i64 a1), (.int .i64 a2), (.int .i64 a3), a4] h fun v h' => ∃ x : Int, v = Ty.enc (.int .i64) x ∧ K x h' :=
  callsH_of_fn (P := Tryz.prog) (fn := Tryz.f157) (τ := (.int .i64)) follows Tryz.func157 (by kernel_rfl) (by kernel_rfl) Tryz.call157 (Eq.mpr (E_slices_partitionEqualCmpFunc_lits_Lit a0 a1 a2 a3 a4 K h) hF)
def F_slices_partitionCmpFunc_lits_Lit (a0 : Sl) (a1 : Int) (a2 : Int) (a3 : Int) (a4 : Value) (K : (Int × (Bool × Unit)) → HP) : HP :=
 sx a0.a a0.len a3 1 fun p0 =>
 ldT (.int .i64) p0 fun x1 =>
 sx a0.a a0.len a1 1 fun p2 =>
 ldT (.int .i64) p2 fun x3 =>
 sx a0.a a0.len a1 1 fun p4 =>
 st1 p4 (.int .i64 x1) <|
 sx a0.a a0.len a3 1 fun p5 =>
 st1 p5 (.int .i64 x3) <|
 jn (σ := (Int × Unit)) (fun s7 =>
 jn (σ := (Int × Unit)) (fun s9 =>
 brB (decide (s7.1 > s9.1))
 (sx a0.a a0.len a1 1 fun p10 =>
 ldT (.int .i64) p10 fun x11 =>
 sx a0.a a0.len s9.1 1 fun p12 =>
 ldT (.int .i64) p12 fun x13 =>
 sx a0.a a0.len s9.1 1 fun p14 =>
 st1 p14 (.int .i64 x11) <|
 sx a0.a a0.len a1 1 fun p15 =>
 st1 p15 (.int .i64 x13) <|
 K (s9.1, true, ()))
 (sx a0.a a0.len s9.1 1 fun p16 =>
 ldT (.int .i64) p16 fun x17 =>
 sx a0.a a0.len s7.1 1 fun p18 =>
 ldT (.int .i64) p18 fun x19 =>
 sx a0.a a0.len s7.1 1 fun p20 =>
 st1 p20 (.int .i64 x17) <|
 sx a0.a a0.len s9.1 1 fun p21 =>
 st1 p21 (.int .i64 x19) <|
 lfp (σ := (Int × (Int × Unit))) (fun X22 s23 =>
 jn (σ := (Int × Unit)) (fun s25 =>
 jn (σ := (Int × Unit)) (fun s27 =>
 brB (decide (s25.1 > s27.1))
 (sx a0.a a0.len a1 1 fun p28 =>
 ldT (.int .i64) p28 fun x29 =>
 sx a0.a a0.len s27.1 1 fun p30 =>
 ldT (.int .i64) p30 fun x31 =>
 sx a0.a a0.len s27.1 1 fun p32 =>
 st1 p32 (.int .i64 x29) <|
 sx a0.a a0.len a1 1 fun p33 =>
 st1 p33 (.int .i64 x31) <|
 K (s27.1, false, ()))
 (sx a0.a a0.len s27.1 1 fun p34 =>
 ldT (.int .i64) p34 fun x35 =>
 sx a0.a a0.len s25.1 1 fun p36 =>
 ldT (.int .i64) p36 fun x37 =>
 sx a0.a a0.len s25.1 1 fun p38 =>
 st1 p38 (.int .i64 x35) <|
 sx a0.a a0.len s27.1 1 fun p39 =>
 st1 p39 (.int .i64 x37) <|
 X22 ((IntKind.wrap .i64 (s27.1 - (1 : Int))), (IntKind.wrap .i64 (s25.1 + (1 : Int))), ())))
 (fun J26 =>
 lfp (σ := (Int × Unit)) (fun X40 s41 =>
 brB (decide (s25.1 ≤ s41.1))
 (sx a0.a a0.len s41.1 1 fun p42 =>
 ldT (.int .i64) p42 fun x43 =>
 sx a0.a a0.len a1 1 fun p44 =>
 ldT (.int .i64) p44 fun x45 =>
 callF Tryz.prog a4 #[(.int .i64 x43), (.int .i64 x45)] (.int .i64) fun r46 =>
 brB (!(decide (r46 < (0 : Int))))
 (X40 ((IntKind.wrap .i64 (s41.1 - (1 : Int))), ()))
 (J26 (s41.1, ())))
 (J26 (s41.1, ())))
 (s23.1, ())))
 (fun J24 =>
 lfp (σ := (Int × Unit)) (fun X47 s48 =>
 brB (decide (s48.1 ≤ s23.1))
 (sx a0.a a0.len s48.1 1 fun p49 =>
 ldT (.int .i64) p49 fun x50 =>
 sx a0.a a0.len a1 1 fun p51 =>
 ldT (.int .i64) p51 fun x52 =>
 callF Tryz.prog a4 #[(.int .i64 x50), (.int .i64 x52)] (.int .i64) fun r53 =>
 brB (decide (r53 < (0 : Int)))
 (X47 ((IntKind.wrap .i64 (s48.1 + (1 : Int))), ()))
 (J24 (s48.1, ())))
 (J24 (s48.1, ())))
 (s23.2.1, ())))
 ((IntKind.wrap .i64 (s9.1 - (1 : Int))), (IntKind.wrap .i64 (s7.1 + (1 : Int))), ())))
 (fun J8 =>
 lfp (σ := (Int × Unit)) (fun X54 s55 =>
 brB (decide (s7.1 ≤ s55.1))
 (sx a0.a a0.len s55.1 1 fun p56 =>
 ldT (.int .i64) p56 fun x57 =>
 sx a0.a a0.len a1 1 fun p58 =>
 ldT (.int .i64) p58 fun x59 =>
 callF Tryz.prog a4 #[(.int .i64 x57), (.int .i64 x59)] (.int .i64) fun r60 =>
 brB (!(decide (r60 < (0 : Int))))
 (X54 ((IntKind.wrap .i64 (s55.1 - (1 : Int))), ()))
 (J8 (s55.1, ())))
 (J8 (s55.1, ())))
 ((IntKind.wrap .i64 (a2 - (1 : Int))), ())))
 (fun J6 =>
 lfp (σ := (Int × Unit)) (fun X61 s62 =>
 brB (decide (s62.1 ≤ (IntKind.wrap .i64 (a2 - (1 : Int)))))
 (sx a0.a a0.len s62.1 1 fun p63 =>
 ldT (.int .i64) p63 fun x64 =>
 sx a0.a a0.len a1 1 fun p65 =>
 ldT (.int .i64) p65 fun x66 =>
 callF Tryz.prog a4 #[(.int .i64 x64), (.int .i64 x66)] (.int .i64) fun r67 =>
 brB (decide (r67 < (0 : Int)))
 (X61 ((IntKind.wrap .i64 (s62.1 + (1 : Int))), ()))
 (J6 (s62.1, ())))
 (J6 (s62.1, ())))
 ((IntKind.wrap .i64 (a1 + (1 : Int))), ()))
theorem E_slices_partitionCmpFunc_lits_Lit (a0 : Sl) (a1 : Int) (a2 : Int) (a3 : Int) (a4 : Value) (K : (Int × (Bool × Unit)) → HP) (h : Heap) : fnVC Tryz.prog [(1000000, .nil)] 178 Tryz.f158 [(.slice a0.a a0.len a0.cap), (.int .i64 a1), (.int .i64 a2), (.int .i64 a3), a4] (.tup (.cons (.int .i64) (.cons .bool .nil))) K h = F_slices_partitionCmpFunc_lits_Lit a0 a1 a2 a3 a4 K h := by kernel_rfl
theorem S_slices_partitionCmpFunc_lits_Lit{h : Heap} {a0 : Sl} {a1 : Int} {a2 : Int} {a3 : Int} {a4 : Value} (K : (Int × (Bool × Unit)) → HP) (hF : F_slices_partitionCmpFunc_lits_Lit a0 a1 a2 a3 a4 K h) : CallsH Tryz.prog fn_slices_partitionCmpFunc_lits_Lit #[(.slice a0.a a0.len a0.cap), (.int .i64 a1), (.int .i64 a2), (.int .i64 a3), a4] h fun v h' => ∃ x : (Int × (Bool × Unit)), v = Ty.enc (.tup (.cons (.int .i64) (.cons .bool .nil))) x ∧ K x h' :=
  callsH_of_fn (P := Tryz.prog) (fn := Tryz.f158) (τ := (.tup (.cons (.int .i64) (.cons .bool .nil)))) follows Tryz.func158 (by kernel_rfl) (by kernel_rfl) Tryz.call158 (Eq.mpr (E_slices_partitionCmpFunc_lits_Lit a0 a1 a2 a3 a4 K h) hF)
def F_math_bits_Len64 (a0 : Int) (K : Int → HP) : HP :=
 jn (σ := (Int × (Int × Unit))) (fun s1 =>
 jn (σ := (Int × (Int × Unit))) (fun s3 =>
 jn (σ := (Int × (Int × Unit))) (fun s5 =>
 six (ByteArray.mk #[0, 1, 2, 2, 3, 3, 3, 3, 4, 4, 4, 4, 4, 4, 4, 4, 5, 5, 5, 5, 5, 5, 5, 5, 5, 5, 5, 5, 5, 5, 5, 5, 6, 6, 6, 6, 6, 6, 6, 6, 6, 6, 6, 6, 6, 6, 6, 6, 6, 6, 6, 6, 6, 6, 6, 6, 6, 6, 6, 6, 6, 6, 6, 6, 7, 7, 7, 7, 7, 7, 7, 7, 7, 7, 7, 7, 7, 7, 7, 7, 7, 7, 7, 7, 7, 7, 7, 7, 7, 7, 7, 7, 7, 7, 7, 7, 7, 7, 7, 7, 7, 7, 7, 7, 7, 7, 7, 7, 7, 7, 7, 7, 7, 7, 7, 7, 7, 7, 7, 7, 7, 7, 7, 7, 7, 7, 7, 7, 8, 8, 8, 8, 8, 8, 8, 8, 8, 8, 8, 8, 8, 8, 8, 8, 8, 8, 8, 8, 8, 8, 8, 8, 8, 8, 8, 8, 8, 8, 8, 8, 8, 8, 8, 8, 8, 8, 8, 8, 8, 8, 8, 8, 8, 8, 8, 8, 8, 8, 8, 8, 8, 8, 8, 8, 8, 8, 8, 8, 8, 8, 8, 8, 8, 8, 8, 8, 8, 8, 8, 8, 8, 8, 8, 8, 8, 8, 8, 8, 8, 8, 8, 8, 8, 8, 8, 8, 8, 8, 8, 8, 8, 8, 8, 8, 8, 8, 8, 8, 8, 8, 8, 8, 8, 8, 8, 8, 8, 8, 8, 8, 8, 8, 8, 8, 8, 8, 8, 8, 8, 8, 8, 8, 8, 8, 8, 8]) (IntKind.wrap .u8 s5.2.1) fun c6 =>
 K (IntKind.wrap .i64 (s5.1 + (IntKind.wrap .i64 c6))))
 (fun J4 =>
 brB (decide (s3.2.1 ≥ (256 : Int)))
 (ge0 (8 : Int) <|
 J4 ((IntKind.wrap .i64 (s3.1 + (8 : Int))), (Int.fdiv s3.2.1 (2 ^ (min ((8 : Int)).toNat 64))), ()))
 (J4 (s3.1, s3.2.1, ()))))
 (fun J2 =>
 brB (decide (s1.2.1 ≥ (65536 : Int)))
 (ge0 (16 : Int) <|
 J2 ((IntKind.wrap .i64 (s1.1 + (16 : Int))), (Int.fdiv s1.2.1 (2 ^ (min ((16 : Int)).toNat 64))), ()))
 (J2 (s1.1, s1.2.1, ()))))
 (fun J0 =>
 brB (decide (a0 ≥ (4294967296 : Int)))
 (ge0 (32 : Int) <|
 J0 ((32 : Int), (Int.fdiv a0 (2 ^ (min ((32 : Int)).toNat 64))), ()))
 (J0 ((0 : Int), a0, ())))
theorem E_math_bits_Len64 (a0 : Int) (K : Int → HP) (h : Heap) : fnVC Tryz.prog [(1000000, .nil)] 25 Tryz.f160 [(.int .u64 a0)] (.int .i64) K h = F_math_bits_Len64 a0 K h := by kernel_rfl
theorem S_math_bits_Len64{h : Heap} {a0 : Int} (K : Int → HP) (hF : F_math_bits_Len64 a0 K h) : CallsH Tryz.prog fn_math_bits_Len64 #[(.int .u64 a0)] h fun v h' => ∃ x : Int, v = Ty.enc (.int .i64) x ∧ K x h' :=
  callsH_of_fn (P := Tryz.prog) (fn := Tryz.f160) (τ := (.int .i64)) follows Tryz.func160 (by kernel_rfl) (by kernel_rfl) Tryz.call160 (Eq.mpr (E_math_bits_Len64 a0 K h) hF)
def F_cmp_isNaN_int (a0 : Int) (K : Bool → HP) : HP :=
 K (a0 != a0)
theorem E_cmp_isNaN_int (a0 : Int) (K : Bool → HP) (h : Heap) : fnVC Tryz.prog [(1000000, .nil)] 6 Tryz.f161 [(.int .i64 a0)] .bool K h = F_cmp_isNaN_int a0 K h := by kernel_rfl
theorem S_cmp_isNaN_int{h : Heap} {a0 : Int} (K : Bool → HP) (hF : F_cmp_isNaN_int a0 K h) : CallsH Tryz.prog fn_cmp_isNaN_int #[(.int .i64 a0)] h fun v h' => ∃ x : Bool, v = Ty.enc .bool x ∧ K x h' :=
  callsH_of_fn (P := Tryz.prog) (fn := Tryz.f161) (τ := .bool) follows Tryz.func161 (by kernel_rfl) (by kernel_rfl) Tryz.call161 (Eq.mpr (E_cmp_isNaN_int a0 K h) hF)
def F_cmp_isNaN_lits_Lit (a0 : Int) (K : Bool → HP) : HP :=
 K (a0 != a0)
theorem E_cmp_isNaN_lits_Lit (a0 : Int) (K : Bool → HP) (h : Heap) : fnVC Tryz.prog [(1000000, .nil)] 6 Tryz.f162 [(.int .i64 a0)] .bool K h = F_cmp_isNaN_lits_Lit a0 K h := by kernel_rfl
theorem S_cmp_isNaN_lits_Lit{h : Heap} {a0 : Int} (K : Bool → HP) (hF : F_cmp_isNaN_lits_Lit a0 K h) : CallsH Tryz.prog fn_cmp_isNaN_lits_Lit #[(.int .i64 a0)] h fun v h' => ∃ x : Bool, v = Ty.enc .bool x ∧ K x h' :=
  callsH_of_fn (P := Tryz.prog) (fn := Tryz.f162) (τ := .bool) follows Tryz.func162 (by kernel_rfl) (by kernel_rfl) Tryz.call162 (Eq.mpr (E_cmp_isNaN_lits_Lit a0 K h) hF)
def F_clauses_sorted_1 (a0 : Value) (c0 : Addr) (K : Unit → HP) : HP :=
 ldT .sl c0 fun x0 =>
 callT Tryz.prog fn_slices_Values_clauses_Clause_lits_Lit #[(.slice x0.a x0.len x0.cap)] .val fun r1 =>
 callT Tryz.prog fn_slices_SortedFunc_lits_Lit #[r1, (.func (.func fn_lits_Compare) #[] #[])] .sl fun r2 =>
 lfp (σ := (Int × (Int × Unit))) (fun X3 s4 =>
 brB (decide (s4.1 < (r2.len : Int)))
 (jn (σ := (Int × Unit)) (fun s6 =>
 X3 ((IntKind.wrap .i64 (s4.1 + (1 : Int))), s6.1, ()))
 (fun J5 =>
 sx r2.a r2.len s4.1 1 fun p7 =>
 ldT (.int .i64) p7 fun x8 =>
 brB (x8 == s4.2.1)
 (J5 (s4.2.1, ()))
 (callF Tryz.prog a0 #[(.int .i64 x8)] .bool fun r9 =>
 brB (!r9)
 (K (()))
 (J5 (x8, ())))))
 (K (())))
 ((0 : Int), (0 : Int), ())
theorem E_clauses_sorted_1 (a0 : Value) (c0 : Addr) (K : Unit → HP) (h : Heap) : fnVC Tryz.prog [(1000000, .nil)] 23 Tryz.f163 [a0, (.pointer (some c0))] (.tup .nil) K h = F_clauses_sorted_1 a0 c0 K h := by kernel_rfl
theorem S_clauses_sorted_1{h : Heap} {a0 : Value} {c0 : Addr} (K : Unit → HP) (hF : F_clauses_sorted_1 a0 c0 K h) : CallsH Tryz.prog fn_clauses_sorted_1 #[a0, (.pointer (some c0))] h fun v h' => ∃ x : Unit, v = Ty.enc (.tup .nil) x ∧ K x h' :=
  callsH_of_fn (P := Tryz.prog) (fn := Tryz.f163) (τ := (.tup .nil)) follows Tryz.func163 (by kernel_rfl) (by kernel_rfl) Tryz.call163 (Eq.mpr (E_clauses_sorted_1 a0 c0 K h) hF)
def F_slices_SortedFunc_lits_Lit (a0 : Value) (a1 : Value) (K : Sl → HP) : HP :=
 callT Tryz.prog fn_slices_Collect_lits_Lit #[a0] .sl fun r0 =>
 callT Tryz.prog fn_slices_SortFunc_lits_Lit_lits_Lit #[(.slice r0.a r0.len r0.cap), a1] (.tup .nil) fun r1 =>
 K ⟨r0.a, r0.len, r0.cap⟩
theorem E_slices_SortedFunc_lits_Lit (a0 : Value) (a1 : Value) (K : Sl → HP) (h : Heap) : fnVC Tryz.prog [(1000000, .nil)] 12 Tryz.f164 [a0, a1] .sl K h = F_slices_SortedFunc_lits_Lit a0 a1 K h := by kernel_rfl
theorem S_slices_SortedFunc_lits_Lit{h : Heap} {a0 : Value} {a1 : Value} (K : Sl → HP) (hF : F_slices_SortedFunc_lits_Lit a0 a1 K h) : CallsH Tryz.prog fn_slices_SortedFunc_lits_Lit #[a0, a1] h fun v h' => ∃ x : Sl, v = Ty.enc .sl x ∧ K x h' :=
  callsH_of_fn (P := Tryz.prog) (fn := Tryz.f164) (τ := .sl) follows Tryz.func164 (by kernel_rfl) (by kernel_rfl) Tryz.call164 (Eq.mpr (E_slices_SortedFunc_lits_Lit a0 a1 K h) hF)
def F_slices_Values_clauses_Clause_lits_Lit (a0 : Sl) (K : Value → HP) : HP :=
 nw #[(.slice a0.a a0.len a0.cap)] ty_clauses_Clause fun b0 =>
 K (.func (.func fn_slices_Values_clauses_Clause_lits_Lit_1) #[] #[(.pointer (some ⟨b0, 0, none⟩))])
theorem E_slices_Values_clauses_Clause_lits_Lit (a0 : Sl) (K : Value → HP) (h : Heap) : fnVC Tryz.prog [(1000000, .nil)] 4 Tryz.f165 [(.slice a0.a a0.len a0.cap)] .val K h = F_slices_Values_clauses_Clause_lits_Lit a0 K h := by kernel_rfl
theorem S_slices_Values_clauses_Clause_lits_Lit{h : Heap} {a0 : Sl} (K : Value → HP) (hF : F_slices_Values_clauses_Clause_lits_Lit a0 K h) : CallsH Tryz.prog fn_slices_Values_clauses_Clause_lits_Lit #[(.slice a0.a a0.len a0.cap)] h fun v h' => ∃ x : Value, v = Ty.enc .val x ∧ K x h' :=
  callsH_of_fn (P := Tryz.prog) (fn := Tryz.f165) (τ := .val) follows Tryz.func165 (by kernel_rfl) (by kernel_rfl) Tryz.call165 (Eq.mpr (E_slices_Values_clauses_Clause_lits_Lit a0 K h) hF)
def F_slices_siftDownCmpFunc_lits_Lit (a0 : Sl) (a1 : Int) (a2 : Int) (a3 : Int) (a4 : Value) (K : Unit → HP) : HP :=
 lfp (σ := (Int × Unit)) (fun X0 s1 =>
 brB (decide ((IntKind.wrap .i64 ((IntKind.wrap .i64 ((2 : Int) * s1.1)) + (1 : Int))) ≥ a2))
 (K (()))
 (brB (decide ((IntKind.wrap .i64 ((IntKind.wrap .i64 ((IntKind.wrap .i64 ((2 : Int) * s1.1)) + (1 : Int))) + (1 : Int))) < a2))
 (sx a0.a a0.len (IntKind.wrap .i64 (a3 + (IntKind.wrap .i64 ((IntKind.wrap .i64 ((2 : Int) * s1.1)) + (1 : Int))))) 1 fun p2 =>
 ldT (.int .i64) p2 fun x3 =>
 sx a0.a a0.len (IntKind.wrap .i64 ((IntKind.wrap .i64 (a3 + (IntKind.wrap .i64 ((IntKind.wrap .i64 ((2 : Int) * s1.1)) + (1 : Int))))) + (1 : Int))) 1 fun p4 =>
 ldT (.int .i64) p4 fun x5 =>
 callF Tryz.prog a4 #[(.int .i64 x3), (.int .i64 x5)] (.int .i64) fun r6 =>
 jn (σ := (Int × Unit)) (fun s8 =>
 sx a0.a a0.len (IntKind.wrap .i64 (a3 + s1.1)) 1 fun p9 =>
 ldT (.int .i64) p9 fun x10 =>
 sx a0.a a0.len (IntKind.wrap .i64 (a3 + s8.1)) 1 fun p11 =>
 ldT (.int .i64) p11 fun x12 =>
 callF Tryz.prog a4 #[(.int .i64 x10), (.int .i64 x12)] (.int .i64) fun r13 =>
 brB (!(decide (r13 < (0 : Int))))
 (K (()))
 (sx a0.a a0.len (IntKind.wrap .i64 (a3 + s8.1)) 1 fun p14 =>
 ldT (.int .i64) p14 fun x15 =>
 sx a0.a a0.len (IntKind.wrap .i64 (a3 + s1.1)) 1 fun p16 =>
 ldT (.int .i64) p16 fun x17 =>
 sx a0.a a0.len (IntKind.wrap .i64 (a3 + s1.1)) 1 fun p18 =>
 st1 p18 (.int .i64 x15) <|
 sx a0.a a0.len (IntKind.wrap .i64 (a3 + s8.1)) 1 fun p19 =>
 st1 p19 (.int .i64 x17) <|
 X0 (s8.1, ())))
 (fun J7 =>
 brB (decide (r6 < (0 : Int)))
 (J7 ((IntKind.wrap .i64 ((IntKind.wrap .i64 ((IntKind.wrap .i64 ((2 : Int) * s1.1)) + (1 : Int))) + (1 : Int))), ()))
 (J7 ((IntKind.wrap .i64 ((IntKind.wrap .i64 ((2 : Int) * s1.1)) + (1 : Int))), ()))))
 (jn (σ := (Int × Unit)) (fun s21 =>
 sx a0.a a0.len (IntKind.wrap .i64 (a3 + s1.1)) 1 fun p22 =>
 ldT (.int .i64) p22 fun x23 =>
 sx a0.a a0.len (IntKind.wrap .i64 (a3 + s21.1)) 1 fun p24 =>
 ldT (.int .i64) p24 fun x25 =>
 callF Tryz.prog a4 #[(.int .i64 x23), (.int .i64 x25)] (.int .i64) fun r26 =>
 brB (!(decide (r26 < (0 : Int))))
 (K (()))
 (sx a0.a a0.len (IntKind.wrap .i64 (a3 + s21.1)) 1 fun p27 =>
 ldT (.int .i64) p27 fun x28 =>
 sx a0.a a0.len (IntKind.wrap .i64 (a3 + s1.1)) 1 fun p29 =>
 ldT (.int .i64) p29 fun x30 =>
 sx a0.a a0.len (IntKind.wrap .i64 (a3 + s1.1)) 1 fun p31 =>
 st1 p31 (.int .i64 x28) <|
 sx a0.a a0.len (IntKind.wrap .i64 (a3 + s21.1)) 1 fun p32 =>
 st1 p32 (.int .i64 x30) <|
 X0 (s21.1, ())))
 (fun J20 =>
 J20 ((IntKind.wrap .i64 ((IntKind.wrap .i64 ((2 : Int) * s1.1)) + (1 : Int))), ())))))
 (a1, ())
theorem E_slices_siftDownCmpFunc_lits_Lit (a0 : Sl) (a1 : Int) (a2 : Int) (a3 : Int) (a4 : Value) (K : Unit → HP) (h : Heap) : fnVC Tryz.prog [(1000000, .nil)] 82 Tryz.f166 [(.slice a0.a a0.len a0.cap), (.int .i64 a1), (.int .i64 a2), (.int .i64 a3), a4] (.tup .nil) K h = F_slices_siftDownCmpFunc_lits_Lit a0 a1 a2 a3 a4 K h := by kernel_rfl
theorem S_slices_siftDownCmpFunc_lits_Lit{h : Heap} {a0 : Sl} {a1 : Int} {a2 : Int} {a3 : Int} {a4 : Value} (K : Unit → HP) (hF : F_slices_siftDownCmpFunc_lits_Lit a0 a1 a2 a3 a4 K h) : CallsH Tryz.prog fn_slices_siftDownCmpFunc_lits_Lit #[(.slice a0.a a0.len a0.cap), (.int .i64 a1), (.int .i64 a2), (.int .i64 a3), a4] h fun v h' => ∃ x : Unit, v = Ty.enc (.tup .nil) x ∧ K x h' :=
  callsH_of_fn (P := Tryz.prog) (fn := Tryz.f166) (τ := (.tup .nil)) follows Tryz.func166 (by kernel_rfl) (by kernel_rfl) Tryz.call166 (Eq.mpr (E_slices_siftDownCmpFunc_lits_Lit a0 a1 a2 a3 a4 K h) hF)
def F_slices_nextPowerOfTwo (a0 : Int) (K : Int → HP) : HP :=
 callT Tryz.prog fn_math_bits_Len #[(.int .u64 (IntKind.wrap .u64 a0))] (.int .i64) fun r0 =>
 ge0 r0 <|
 K (IntKind.wrap .u64 ((1 : Int) * 2 ^ (min (r0).toNat 64)))
theorem E_slices_nextPowerOfTwo (a0 : Int) (K : Int → HP) (h : Heap) : fnVC Tryz.prog [(1000000, .nil)] 7 Tryz.f167 [(.int .i64 a0)] (.int .u64) K h = F_slices_nextPowerOfTwo a0 K h := by kernel_rfl
theorem S_slices_nextPowerOfTwo{h : Heap} {a0 : Int} (K : Int → HP) (hF : F_slices_nextPowerOfTwo a0 K h) : CallsH Tryz.prog fn_slices_nextPowerOfTwo #[(.int .i64 a0)] h fun v h' => ∃ x : Int, v = Ty.enc (.int .u64) x ∧ K x h' :=
  callsH_of_fn (P := Tryz.prog) (fn := Tryz.f167) (τ := (.int .u64)) follows Tryz.func167 (by kernel_rfl) (by kernel_rfl) Tryz.call167 (Eq.mpr (E_slices_nextPowerOfTwo a0 K h) hF)
def F_slices_xorshift_Next (a0 : Option Addr) (K : Int → HP) : HP :=
 nn a0 fun p0 =>
 ldT (.int .u64) p0 fun x1 =>
 nn a0 fun p2 =>
 ldT (.int .u64) p2 fun x3 =>
 ge0 (13 : Int) <|
 nn a0 fun p4 =>
 st1 p4 (.int .u64 (bXor .u64 x1 (IntKind.wrap .u64 (x3 * 2 ^ (min ((13 : Int)).toNat 64))))) <|
 nn a0 fun p5 =>
 ldT (.int .u64) p5 fun x6 =>
 nn a0 fun p7 =>
 ldT (.int .u64) p7 fun x8 =>
 ge0 (7 : Int) <|
 nn a0 fun p9 =>
 st1 p9 (.int .u64 (bXor .u64 x6 (Int.fdiv x8 (2 ^ (min ((7 : Int)).toNat 64))))) <|
 nn a0 fun p10 =>
 ldT (.int .u64) p10 fun x11 =>
 nn a0 fun p12 =>
 ldT (.int .u64) p12 fun x13 =>
 ge0 (17 : Int) <|
 nn a0 fun p14 =>
 st1 p14 (.int .u64 (bXor .u64 x11 (IntKind.wrap .u64 (x13 * 2 ^ (min ((17 : Int)).toNat 64))))) <|
 nn a0 fun p15 =>
 ldT (.int .u64) p15 fun x16 =>
 K x16
theorem E_slices_xorshift_Next (a0 : Option Addr) (K : Int → HP) (h : Heap) : fnVC Tryz.prog [(1000000, .nil)] 33 Tryz.f168 [(.pointer a0)] (.int .u64) K h = F_slices_xorshift_Next a0 K h := by kernel_rfl
theorem S_slices_xorshift_Next{h : Heap} {a0 : Option Addr} (K : Int → HP) (hF : F_slices_xorshift_Next a0 K h) : CallsH Tryz.prog fn_slices_xorshift_Next #[(.pointer a0)] h fun v h' => ∃ x : Int, v = Ty.enc (.int .u64) x ∧ K x h' :=
  callsH_of_fn (P := Tryz.prog) (fn := Tryz.f168) (τ := (.int .u64)) follows Tryz.func168 (by kernel_rfl) (by kernel_rfl) Tryz.call168 (Eq.mpr (E_slices_xorshift_Next a0 K h) hF)
def F_slices_medianAdjacentCmpFunc_lits_Lit (a0 : Sl) (a1 : Int) (a2 : Option Addr) (a3 : Value) (K : Int → HP) : HP :=
 callT Tryz.prog fn_slices_medianCmpFunc_lits_Lit #[(.slice a0.a a0.len a0.cap), (.int .i64 (IntKind.wrap .i64 (a1 - (1 : Int)))), (.int .i64 a1), (.int .i64 (IntKind.wrap .i64 (a1 + (1 : Int)))), (.pointer a2), a3] (.int .i64) fun r0 =>
 K r0
theorem E_slices_medianAdjacentCmpFunc_lits_Lit (a0 : Sl) (a1 : Int) (a2 : Option Addr) (a3 : Value) (K : Int → HP) (h : Heap) : fnVC Tryz.prog [(1000000, .nil)] 18 Tryz.f169 [(.slice a0.a a0.len a0.cap), (.int .i64 a1), (.pointer a2), a3] (.int .i64) K h = F_slices_medianAdjacentCmpFunc_lits_Lit a0 a1 a2 a3 K h := by kernel_rfl
theorem S_slices_medianAdjacentCmpFunc_lits_Lit{h : Heap} {a0 : Sl} {a1 : Int} {a2 : Option Addr} {a3 : Value} (K : Int → HP) (hF : F_slices_medianAdjacentCmpFunc_lits_Lit a0 a1 a2 a3 K h) : CallsH Tryz.prog fn_slices_medianAdjacentCmpFunc_lits_Lit #[(.slice a0.a a0.len a0.cap), (.int .i64 a1), (.pointer a2), a3] h fun v h' => ∃ x : Int, v = Ty.enc (.int .i64) x ∧ K x h' :=
  callsH_of_fn (P := Tryz.prog) (fn := Tryz.f169) (τ := (.int .i64)) follows Tryz.func169 (by kernel_rfl) (by kernel_rfl) Tryz.call169 (Eq.mpr (E_slices_medianAdjacentCmpFunc_lits_Lit a0 a1 a2 a3 K h) hF)
def F_slices_medianCmpFunc_lits_Lit (a0 : Sl) (a1 : Int) (a2 : Int) (a3 : Int) (a4 : Option Addr) (a5 : Value) (K : Int → HP) : HP :=
 callT Tryz.prog fn_slices_order2CmpFunc_lits_Lit #[(.slice a0.a a0.len a0.cap), (.int .i64 a1), (.int .i64 a2), (.pointer a4), a5] (.tup (.cons (.int .i64) (.cons (.int .i64) .nil))) fun r0 =>
 callT Tryz.prog fn_slices_order2CmpFunc_lits_Lit #[(.slice a0.a a0.len a0.cap), (.int .i64 r0.2.1), (.int .i64 a3), (.pointer a4), a5] (.tup (.cons (.int .i64) (.cons (.int .i64) .nil))) fun r1 =>
 callT Tryz.prog fn_slices_order2CmpFunc_lits_Lit #[(.slice a0.a a0.len a0.cap), (.int .i64 r0.1), (.int .i64 r1.1), (.pointer a4), a5] (.tup (.cons (.int .i64) (.cons (.int .i64) .nil))) fun r2 =>
 K r2.2.1
theorem E_slices_medianCmpFunc_lits_Lit (a0 : Sl) (a1 : Int) (a2 : Int) (a3 : Int) (a4 : Option Addr) (a5 : Value) (K : Int → HP) (h : Heap) : fnVC Tryz.prog [(1000000, .nil)] 41 Tryz.f170 [(.slice a0.a a0.len a0.cap), (.int .i64 a1), (.int .i64 a2), (.int .i64 a3), (.pointer a4), a5] (.int .i64) K h = F_slices_medianCmpFunc_lits_Lit a0 a1 a2 a3 a4 a5 K h := by kernel_rfl
theorem S_slices_medianCmpFunc_lits_Lit{h : Heap} {a0 : Sl} {a1 : Int} {a2 : Int} {a3 : Int} {a4 : Option Addr} {a5 : Value} (K : Int → HP) (hF : F_slices_medianCmpFunc_lits_Lit a0 a1 a2 a3 a4 a5 K h) : CallsH Tryz.prog fn_slices_medianCmpFunc_lits_Lit #[(.slice a0.a a0.len a0.cap), (.int .i64 a1), (.int .i64 a2), (.int .i64 a3), (.pointer a4), a5] h fun v h' => ∃ x : Int, v = Ty.enc (.int .i64) x ∧ K x h' :=
  callsH_of_fn (P := Tryz.prog) (fn := Tryz.f170) (τ := (.int .i64)) follows Tryz.func170 (by kernel_rfl) (by kernel_rfl) Tryz.call170 (Eq.mpr (E_slices_medianCmpFunc_lits_Lit a0 a1 a2 a3 a4 a5 K h) hF)
def F_slices_Collect_lits_Lit (a0 : Value) (K : Sl → HP) : HP :=
 callT Tryz.prog fn_slices_AppendSeq_lits_Lit_lits_Lit #[(.slice none 0 0), a0] .sl fun r0 =>
 K ⟨r0.a, r0.len, r0.cap⟩
theorem E_slices_Collect_lits_Lit (a0 : Value) (K : Sl → HP) (h : Heap) : fnVC Tryz.prog [(1000000, .nil)] 5 Tryz.f171 [a0] .sl K h = F_slices_Collect_lits_Lit a0 K h := by kernel_rfl
theorem S_slices_Collect_lits_Lit{h : Heap} {a0 : Value} (K : Sl → HP) (hF : F_slices_Collect_lits_Lit a0 K h) : CallsH Tryz.prog fn_slices_Collect_lits_Lit #[a0] h fun v h' => ∃ x : Sl, v = Ty.enc .sl x ∧ K x h' :=
  callsH_of_fn (P := Tryz.prog) (fn := Tryz.f171) (τ := .sl) follows Tryz.func171 (by kernel_rfl) (by kernel_rfl) Tryz.call171 (Eq.mpr (E_slices_Collect_lits_Lit a0 K h) hF)
def F_slices_Values_clauses_Clause_lits_Lit_1 (a0 : Value) (c0 : Addr) (K : Unit → HP) : HP :=
 ldT .sl c0 fun x0 =>
 lfp (σ := (Int × Unit)) (fun X1 s2 =>
 brB (decide (s2.1 < (x0.len : Int)))
 (sx x0.a x0.len s2.1 1 fun p3 =>
 ldT (.int .i64) p3 fun x4 =>
 callF Tryz.prog a0 #[(.int .i64 x4)] .bool fun r5 =>
 brB (!r5)
 (K (()))
 (X1 ((IntKind.wrap .i64 (s2.1 + (1 : Int))), ())))
 (K (())))
 ((0 : Int), ())
theorem E_slices_Values_clauses_Clause_lits_Lit_1 (a0 : Value) (c0 : Addr) (K : Unit → HP) (h : Heap) : fnVC Tryz.prog [(1000000, .nil)] 16 Tryz.f172 [a0, (.pointer (some c0))] (.tup .nil) K h = F_slices_Values_clauses_Clause_lits_Lit_1 a0 c0 K h := by kernel_rfl
theorem S_slices_Values_clauses_Clause_lits_Lit_1{h : Heap} {a0 : Value} {c0 : Addr} (K : Unit → HP) (hF : F_slices_Values_clauses_Clause_lits_Lit_1 a0 c0 K h) : CallsH Tryz.prog fn_slices_Values_clauses_Clause_lits_Lit_1 #[a0, (.pointer (some c0))] h fun v h' => ∃ x : Unit, v = Ty.enc (.tup .nil) x ∧ K x h' :=
  callsH_of_fn (P := Tryz.prog) (fn := Tryz.f172) (τ := (.tup .nil)) follows Tryz.func172 (by kernel_rfl) (by kernel_rfl) Tryz.call172 (Eq.mpr (E_slices_Values_clauses_Clause_lits_Lit_1 a0 c0 K h) hF)
def F_slices_order2CmpFunc_lits_Lit (a0 : Sl) (a1 : Int) (a2 : Int) (a3 : Option Addr) (a4 : Value) (K : (Int × (Int × Unit)) → HP) : HP :=
 sx a0.a a0.len a2 1 fun p0 =>
 ldT (.int .i64) p0 fun x1 =>
 sx a0.a a0.len a1 1 fun p2 =>
 ldT (.int .i64) p2 fun x3 =>
 callF Tryz.prog a4 #[(.int .i64 x1), (.int .i64 x3)] (.int .i64) fun r4 =>
 brB (decide (r4 < (0 : Int)))
 (nn a3 fun p5 =>
 ldT (.int .i64) p5 fun x6 =>
 nn a3 fun p7 =>
 st1 p7 (.int .i64 (IntKind.wrap .i64 (x6 + (1 : Int)))) <|
 K (a2, a1, ()))
 (K (a1, a2, ()))
theorem E_slices_order2CmpFunc_lits_Lit (a0 : Sl) (a1 : Int) (a2 : Int) (a3 : Option Addr) (a4 : Value) (K : (Int × (Int × Unit)) → HP) (h : Heap) : fnVC Tryz.prog [(1000000, .nil)] 32 Tryz.f173 [(.slice a0.a a0.len a0.cap), (.int .i64 a1), (.int .i64 a2), (.pointer a3), a4] (.tup (.cons (.int .i64) (.cons (.int .i64) .nil))) K h = F_slices_order2CmpFunc_lits_Lit a0 a1 a2 a3 a4 K h := by kernel_rfl
theorem S_slices_order2CmpFunc_lits_Lit{h : Heap} {a0 : Sl} {a1 : Int} {a2 : Int} {a3 : Option Addr} {a4 : Value} (K : (Int × (Int × Unit)) → HP) (hF : F_slices_order2CmpFunc_lits_Lit a0 a1 a2 a3 a4 K h) : CallsH Tryz.prog fn_slices_order2CmpFunc_lits_Lit #[(.slice a0.a a0.len a0.cap), (.int .i64 a1), (.int .i64 a2), (.pointer a3), a4] h fun v h' => ∃ x : (Int × (Int × Unit)), v = Ty.enc (.tup (.cons (.int .i64) (.cons (.int .i64) .nil))) x ∧ K x h' :=
  callsH_of_fn (P := Tryz.prog) (fn := Tryz.f173) (τ := (.tup (.cons (.int .i64) (.cons (.int .i64) .nil)))) follows Tryz.func173 (by kernel_rfl) (by kernel_rfl) Tryz.call173 (Eq.mpr (E_slices_order2CmpFunc_lits_Lit a0 a1 a2 a3 a4 K h) hF)
def F_slices_AppendSeq_lits_Lit_lits_Lit (a0 : Sl) (a1 : Value) (K : Sl → HP) : HP := fun h0 => (
 nw #[(.slice a0.a a0.len a0.cap)] ty_sl_lits_Lit fun b0 =>
 RangeVC Tryz.prog (.cons (.int .i64) .nil) a1 (fun x1 wrap2 next3 jump4 =>
 wrap2 <|
 ldT .sl ⟨b0, 0, none⟩ fun x5 =>
 nw #[(.int .i64 x1.1)] ty_lits_Lit fun b6 =>
 apd ty_lits_Lit 1 8 #[(.int .i64 0)] ⟨x5.a, x5.len, x5.cap⟩ ⟨(some ⟨b6, 0, none⟩), 1, 1⟩ fun s7 =>
 st1 ⟨b0, 0, none⟩ (.slice s7.a s7.len s7.cap) <|
 next3)
 (ldT .sl ⟨b0, 0, none⟩ fun x8 =>
 mkd h0.size <|
 K ⟨x8.a, x8.len, x8.cap⟩)
 (mkd h0.size <|
 K ⟨none, 0, 0⟩)
 []
 []) h0
theorem E_slices_AppendSeq_lits_Lit_lits_Lit (a0 : Sl) (a1 : Value) (K : Sl → HP) (h : Heap) : fnVC Tryz.prog [(1000000, .nil), (7, (.cons (.int .i64) .nil))] 13 Tryz.f174 [(.slice a0.a a0.len a0.cap), a1] .sl K h = F_slices_AppendSeq_lits_Lit_lits_Lit a0 a1 K h := by kernel_rfl
theorem S_slices_AppendSeq_lits_Lit_lits_Lit{h : Heap} {a0 : Sl} {a1 : Value} (K : Sl → HP) (hF : F_slices_AppendSeq_lits_Lit_lits_Lit a0 a1 K h) : CallsH Tryz.prog fn_slices_AppendSeq_lits_Lit_lits_Lit #[(.slice a0.a a0.len a0.cap), a1] h fun v h' => ∃ x : Sl, v = Ty.enc .sl x ∧ K x h' :=
  callsH_of_fn (P := Tryz.prog) (fn := Tryz.f174) (τ := .sl) follows Tryz.func174 (by kernel_rfl) (by kernel_rfl) Tryz.call174 (Eq.mpr (E_slices_AppendSeq_lits_Lit_lits_Lit a0 a1 K h) hF)
end Go.Proofs.S
