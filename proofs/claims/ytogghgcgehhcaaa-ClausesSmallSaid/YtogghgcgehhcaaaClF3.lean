/- The functions of the seat, each as a predicate over its values, printed by a program of ours, and that each is its text's. -/
import Derived.Test.YtogghgcgehhcaaaSxH
import Derived.KernelRfl
import Derived.Test.YtogghgcgehhcaaaProg
import Derived.Test.YtogghgcgehhcaaaClF0
set_option linter.unusedVariables false
namespace Go.Proofs.S
open Go Go.Sx Go.Proofs
/-- salvor/salvorlaw02.ClausesWrong -/
def F_salvorlaw02_ClausesWrong (a0 : Sl) (a1 : Int) (a2 : Int) (K : Bool → HP) : HP :=
 callT Try.prog fn_salvorlaw02_Made #[(.slice a0.a a0.len a0.cap)] .sl fun r0 =>
 nw #[(.int .i64 (0 : Int)), (.int .i64 (if (-1048577 : Int) < a2 then (-1048577 : Int) else a2)), (.int .i64 (if (1048577 : Int) > a2 then (1048577 : Int) else a2))] ty_int fun b1 =>
 lfp (σ := (Int × (Bool × Unit))) (fun X2 s3 => /-   -/
 brB (decide (s3.1 < (3 : Int)))
 (sx (some (⟨b1, 0, none⟩ : Addr)) 3 s3.1 1 fun p4 =>
 ldT (.int .i64) p4 fun x5 =>
 nz (IntKind.wrap .i64 ((r0.len : Int) + (1 : Int))) <|
 cj
 (callT Try.prog fn_slices_Clone_clauses_Clause_lits_Lit #[(.slice r0.a r0.len r0.cap)] .sl fun r6 =>
 nw #[(.int .i64 x5)] ty_lits_Lit fun b7 =>
 callT Try.prog fn_slices_Insert_clauses_Clause_lits_Lit #[(.slice r6.a r6.len r6.cap), (.int .i64 (Int.tmod (IntKind.wrap .i64 a1) (IntKind.wrap .i64 ((r0.len : Int) + (1 : Int))))), (.slice (some (⟨b7, 0, none⟩ : Addr)) 1 1)] .sl fun r8 =>
 callT Try.prog fn_clauses_Norm #[(.slice r8.a r8.len r8.cap)] (.tup (.cons .sl (.cons .bool (.cons (.int .i64) .nil)))) fun r9 =>
 callT Try.prog fn_clauses_Union #[(.slice r0.a r0.len r0.cap), (.slice r8.a r8.len r8.cap)] (.tup (.cons .sl (.cons (.int .i64) .nil))) fun r10 =>
 callT Try.prog fn_clauses_Without #[(.slice r8.a r8.len r8.cap), (.int .i64 (0 : Int))] (.tup (.cons .sl (.cons (.int .i64) .nil))) fun r11 =>
 callT Try.prog fn_clauses_Clashes #[(.slice r8.a r8.len r8.cap), (.slice r0.a r0.len r0.cap)] (.tup (.cons .sl (.cons (.int .i64) .nil))) fun r12 =>
 callT Try.prog fn_clauses_Resolve #[(.slice r8.a r8.len r8.cap), (.slice r0.a r0.len r0.cap), (.int .i64 (0 : Int))] (.tup (.cons .sl (.cons (.int .i64) .nil))) fun r13 =>
 callT Try.prog fn_clauses_Without #[(.slice r0.a r0.len r0.cap), (.int .i64 x5)] (.tup (.cons .sl (.cons (.int .i64) .nil))) fun r14 =>
 callT Try.prog fn_clauses_Resolve #[(.slice r0.a r0.len r0.cap), (.slice r0.a r0.len r0.cap), (.int .i64 x5)] (.tup (.cons .sl (.cons (.int .i64) .nil))) fun r15 =>
 callT Try.prog fn_clauses_Right #[(.slice r8.a r8.len r8.cap)] .bool fun r16 =>
 brB r16
 (K false)
 (callT Try.prog fn_clauses_Normal #[(.slice r8.a r8.len r8.cap)] .bool fun r17 =>
 brB r17
 (K false)
 (callT Try.prog fn_clauses_Has #[(.slice r8.a r8.len r8.cap), (.int .i64 x5)] .bool fun r18 =>
 brB r18
 (K false)
 (callT Try.prog fn_clauses_Within #[(.slice r8.a r8.len r8.cap), (.slice r8.a r8.len r8.cap)] .bool fun r19 =>
 brB r19
 (K false)
 (callT Try.prog fn_clauses_Same #[(.slice r8.a r8.len r8.cap), (.slice r8.a r8.len r8.cap)] .bool fun r20 =>
 brB r20
 (K false)
 (callT Try.prog fn_clauses_Always #[(.slice r8.a r8.len r8.cap)] .bool fun r21 =>
 brB r21
 (K false)
 (brB (r9.2.2.1 != (20 : Int))
 (K false)
 (brB (r10.2.1 != r9.2.2.1)
 (K false)
 (brB (r11.2.1 != r9.2.2.1)
 (K false)
 (brB (r12.2.1 != r9.2.2.1)
 (K false)
 (brB (r13.2.1 != r9.2.2.1)
 (K false)
 (brB (r14.2.1 != (10 : Int))
 (K false)
 (brB (r15.2.1 != r14.2.1)
 (K false)
 (X2 ((IntKind.wrap .i64 (s3.1 + (1 : Int))), s3.2.1, ())))))))))))))))
 (nw #[(.int .i64 x5)] ty_lits_Lit fun b22 =>
 callT Try.prog fn_slices_Clone_clauses_Clause_lits_Lit #[(.slice r0.a r0.len r0.cap)] .sl fun r23 =>
 callT Try.prog fn_slices_Insert_clauses_Clause_lits_Lit #[(.slice r23.a r23.len r23.cap), (.int .i64 (Int.tmod (IntKind.wrap .i64 a1) (IntKind.wrap .i64 ((r0.len : Int) + (1 : Int))))), (.slice (some (⟨b22, 0, none⟩ : Addr)) 1 1)] .sl fun r24 =>
 callT Try.prog fn_clauses_Norm #[(.slice r24.a r24.len r24.cap)] (.tup (.cons .sl (.cons .bool (.cons (.int .i64) .nil)))) fun r25 =>
 callT Try.prog fn_clauses_Union #[(.slice r0.a r0.len r0.cap), (.slice r24.a r24.len r24.cap)] (.tup (.cons .sl (.cons (.int .i64) .nil))) fun r26 =>
 callT Try.prog fn_clauses_Without #[(.slice r24.a r24.len r24.cap), (.int .i64 (0 : Int))] (.tup (.cons .sl (.cons (.int .i64) .nil))) fun r27 =>
 callT Try.prog fn_clauses_Clashes #[(.slice r24.a r24.len r24.cap), (.slice r0.a r0.len r0.cap)] (.tup (.cons .sl (.cons (.int .i64) .nil))) fun r28 =>
 callT Try.prog fn_clauses_Resolve #[(.slice r24.a r24.len r24.cap), (.slice r0.a r0.len r0.cap), (.int .i64 (0 : Int))] (.tup (.cons .sl (.cons (.int .i64) .nil))) fun r29 =>
 callT Try.prog fn_clauses_Without #[(.slice r0.a r0.len r0.cap), (.int .i64 x5)] (.tup (.cons .sl (.cons (.int .i64) .nil))) fun r30 =>
 callT Try.prog fn_clauses_Resolve #[(.slice r0.a r0.len r0.cap), (.slice r0.a r0.len r0.cap), (.int .i64 x5)] (.tup (.cons .sl (.cons (.int .i64) .nil))) fun r31 =>
 callT Try.prog fn_clauses_Right #[(.slice r24.a r24.len r24.cap)] .bool fun r32 =>
 brB r32
 (K false)
 (callT Try.prog fn_clauses_Normal #[(.slice r24.a r24.len r24.cap)] .bool fun r33 =>
 brB r33
 (K false)
 (callT Try.prog fn_clauses_Has #[(.slice r24.a r24.len r24.cap), (.int .i64 x5)] .bool fun r34 =>
 brB r34
 (K false)
 (callT Try.prog fn_clauses_Within #[(.slice r24.a r24.len r24.cap), (.slice r24.a r24.len r24.cap)] .bool fun r35 =>
 brB r35
 (K false)
 (callT Try.prog fn_clauses_Same #[(.slice r24.a r24.len r24.cap), (.slice r24.a r24.len r24.cap)] .bool fun r36 =>
 brB r36
 (K false)
 (callT Try.prog fn_clauses_Always #[(.slice r24.a r24.len r24.cap)] .bool fun r37 =>
 brB r37
 (K false)
 (brB (r25.2.2.1 != (20 : Int))
 (K false)
 (brB (r26.2.1 != r25.2.2.1)
 (K false)
 (brB (r27.2.1 != r25.2.2.1)
 (K false)
 (brB (r28.2.1 != r25.2.2.1)
 (K false)
 (brB (r29.2.1 != r25.2.2.1)
 (K false)
 (brB (r30.2.1 != (10 : Int))
 (K false)
 (brB (r31.2.1 != r30.2.1)
 (K false)
 (X2 ((IntKind.wrap .i64 (s3.1 + (1 : Int))), s3.2.1, ()))))))))))))))))
 (nw #[(.int .i64 (-9 : Int))] ty_lits_Lit fun b38 =>
 callT Try.prog fn_clauses_Resolve #[(.slice r0.a r0.len r0.cap), (.slice (some (⟨b38, 0, none⟩ : Addr)) 1 1), (.int .i64 (9 : Int))] (.tup (.cons .sl (.cons (.int .i64) .nil))) fun r39 =>
 nw #[(.int .i64 (9 : Int))] ty_lits_Lit fun b40 =>
 apd ty_lits_Lit 1 8 #[(.int .i64 (0 : Int))] ⟨r0.a, r0.len, r0.cap⟩ ⟨(some (⟨b40, 0, none⟩ : Addr)), 1, 1⟩ fun s41 =>
 callT Try.prog fn_clauses_Resolve #[(.slice s41.a s41.len s41.cap), (.slice r0.a r0.len r0.cap), (.int .i64 (9 : Int))] (.tup (.cons .sl (.cons (.int .i64) .nil))) fun r42 =>
 brB (r39.2.1 == (21 : Int))
 (brB (r42.2.1 == r39.2.1)
 (callT Try.prog fn_salvorlaw02_awake #[] .bool fun r43 =>
 K r43)
 (K false))
 (K false)))
 ((0 : Int), false, ())
set_option maxRecDepth 100000 in
theorem E_salvorlaw02_ClausesWrong (a0 : Sl) (a1 : Int) (a2 : Int) (K : Bool → HP) (h : Heap) : fnVC Try.prog [(1000000, .nil)] 178 Try.f11 [(.slice a0.a a0.len a0.cap), (.int .u8 a1), (.int .i64 a2)] .bool K h = F_salvorlaw02_ClausesWrong a0 a1 a2 K h := by kernel_rfl
set_option maxRecDepth 100000 in
theorem S_salvorlaw02_ClausesWrong{h : Heap} {a0 : Sl} {a1 : Int} {a2 : Int} (K : Bool → HP) (hF : F_salvorlaw02_ClausesWrong a0 a1 a2 K h) : CallsH Try.prog fn_salvorlaw02_ClausesWrong #[(.slice a0.a a0.len a0.cap), (.int .u8 a1), (.int .i64 a2)] h fun v h' => ∃ x : Bool, v = Ty.enc .bool x ∧ K x h' :=
  callsH_of_fn (P := Try.prog) (fn := Try.f11) (τ := .bool) follows Try.func11 (by kernel_rfl) (by kernel_rfl) Try.call11 (Eq.mpr (E_salvorlaw02_ClausesWrong a0 a1 a2 K h) hF)


/-- salvor/salvorlaw02.Made -/
def F_salvorlaw02_Made (a0 : Sl) (K : Sl → HP) : HP :=
 slH ⟨a0.a, a0.len, a0.cap⟩ (if (20 : Int) < (a0.len : Int) then (20 : Int) else (a0.len : Int)) 1 fun s0 =>
 lfp (σ := (Int × (Sl × Unit))) (fun X1 s2 => /-  out -/
 brB (decide (s2.1 < (s0.len : Int)))
 (sx s0.a s0.len s2.1 1 fun p3 =>
 ldT (.int .u8) p3 fun x4 =>
 nz (2 : Int) <|
 nz (8 : Int) <|
 nz (2 : Int) <|
 jn (σ := (Int × Unit)) (fun s6 => /- x -/
 nw #[(.int .i64 s6.1)] ty_lits_Lit fun b7 =>
 apd ty_lits_Lit 1 8 #[(.int .i64 (0 : Int))] ⟨s2.2.1.a, s2.2.1.len, s2.2.1.cap⟩ ⟨(some (⟨b7, 0, none⟩ : Addr)), 1, 1⟩ fun s8 =>
 X1 ((IntKind.wrap .i64 (s2.1 + (1 : Int))), ⟨s8.a, s8.len, s8.cap⟩, ()))
 (fun J5 =>
 brB ((Int.tmod x4 (2 : Int)) == (1 : Int))
 (J5 ((IntKind.wrap .i64 (0 - (IntKind.wrap .i64 (IntKind.wrap .u8 ((1 : Int) + (Int.tmod (IntKind.wrap .u8 (Int.tdiv x4 (2 : Int))) (8 : Int))))))), ()))
 (J5 ((IntKind.wrap .i64 (IntKind.wrap .u8 ((1 : Int) + (Int.tmod (IntKind.wrap .u8 (Int.tdiv x4 (2 : Int))) (8 : Int))))), ()))))
 (K ⟨s2.2.1.a, s2.2.1.len, s2.2.1.cap⟩))
 ((0 : Int), ⟨none, 0, 0⟩, ())
set_option maxRecDepth 100000 in
theorem E_salvorlaw02_Made (a0 : Sl) (K : Sl → HP) (h : Heap) : fnVC Try.prog [(1000000, .nil)] 33 Try.f12 [(.slice a0.a a0.len a0.cap)] .sl K h = F_salvorlaw02_Made a0 K h := by kernel_rfl
set_option maxRecDepth 100000 in
theorem S_salvorlaw02_Made{h : Heap} {a0 : Sl} (K : Sl → HP) (hF : F_salvorlaw02_Made a0 K h) : CallsH Try.prog fn_salvorlaw02_Made #[(.slice a0.a a0.len a0.cap)] h fun v h' => ∃ x : Sl, v = Ty.enc .sl x ∧ K x h' :=
  callsH_of_fn (P := Try.prog) (fn := Try.f12) (τ := .sl) follows Try.func12 (by kernel_rfl) (by kernel_rfl) Try.call12 (Eq.mpr (E_salvorlaw02_Made a0 K h) hF)


/-- salvor/clauses.Resolve -/
def F_clauses_Resolve (a0 : Sl) (a1 : Sl) (a2 : Int) (K : (Sl × (Int × Unit)) → HP) : HP :=
 callT Try.prog fn_clauses_Right #[(.slice a0.a a0.len a0.cap)] .bool fun r0 =>
 brB (!r0)
 (K (⟨none, 0, 0⟩, (20 : Int), ()))
 (callT Try.prog fn_clauses_Right #[(.slice a1.a a1.len a1.cap)] .bool fun r1 =>
 brB (!r1)
 (K (⟨none, 0, 0⟩, (20 : Int), ()))
 (callT Try.prog fn_clauses_wrong #[(.int .i64 a2)] .bool fun r2 =>
 brB r2
 (K (⟨none, 0, 0⟩, (10 : Int), ()))
 (callT Try.prog fn_clauses_Has #[(.slice a0.a a0.len a0.cap), (.int .i64 a2)] .bool fun r3 =>
 brB (!r3)
 (K (⟨none, 0, 0⟩, (21 : Int), ()))
 (callT Try.prog fn_lits_Neg #[(.int .i64 a2)] (.int .i64) fun r4 =>
 callT Try.prog fn_clauses_Has #[(.slice a1.a a1.len a1.cap), (.int .i64 r4)] .bool fun r5 =>
 brB (!r5)
 (K (⟨none, 0, 0⟩, (21 : Int), ()))
 (callT Try.prog fn_clauses_Without #[(.slice a0.a a0.len a0.cap), (.int .i64 a2)] (.tup (.cons .sl (.cons (.int .i64) .nil))) fun r6 =>
 callT Try.prog fn_lits_Neg #[(.int .i64 a2)] (.int .i64) fun r7 =>
 callT Try.prog fn_clauses_Without #[(.slice a1.a a1.len a1.cap), (.int .i64 r7)] (.tup (.cons .sl (.cons (.int .i64) .nil))) fun r8 =>
 callT Try.prog fn_clauses_Union #[(.slice r6.1.a r6.1.len r6.1.cap), (.slice r8.1.a r8.1.len r8.1.cap)] (.tup (.cons .sl (.cons (.int .i64) .nil))) fun r9 =>
 K (⟨r9.1.a, r9.1.len, r9.1.cap⟩, r9.2.1, ()))))))
set_option maxRecDepth 100000 in
theorem E_clauses_Resolve (a0 : Sl) (a1 : Sl) (a2 : Int) (K : (Sl × (Int × Unit)) → HP) (h : Heap) : fnVC Try.prog [(1000000, .nil)] 54 Try.f13 [(.slice a0.a a0.len a0.cap), (.slice a1.a a1.len a1.cap), (.int .i64 a2)] (.tup (.cons .sl (.cons (.int .i64) .nil))) K h = F_clauses_Resolve a0 a1 a2 K h := by kernel_rfl
set_option maxRecDepth 100000 in
theorem S_clauses_Resolve{h : Heap} {a0 : Sl} {a1 : Sl} {a2 : Int} (K : (Sl × (Int × Unit)) → HP) (hF : F_clauses_Resolve a0 a1 a2 K h) : CallsH Try.prog fn_clauses_Resolve #[(.slice a0.a a0.len a0.cap), (.slice a1.a a1.len a1.cap), (.int .i64 a2)] h fun v h' => ∃ x : (Sl × (Int × Unit)), v = Ty.enc (.tup (.cons .sl (.cons (.int .i64) .nil))) x ∧ K x h' :=
  callsH_of_fn (P := Try.prog) (fn := Try.f13) (τ := (.tup (.cons .sl (.cons (.int .i64) .nil)))) follows Try.func13 (by kernel_rfl) (by kernel_rfl) Try.call13 (Eq.mpr (E_clauses_Resolve a0 a1 a2 K h) hF)


/-- salvor/clauses.Clashes -/
def F_clauses_Clashes (a0 : Sl) (a1 : Sl) (K : (Sl × (Int × Unit)) → HP) : HP := fun h0 => (
 callT Try.prog fn_clauses_Right #[(.slice a0.a a0.len a0.cap)] .bool fun r0 =>
 brB (!r0)
 (mkd h0.size <|
 K (⟨none, 0, 0⟩, (20 : Int), ()))
 (callT Try.prog fn_clauses_Right #[(.slice a1.a a1.len a1.cap)] .bool fun r1 =>
 brB (!r1)
 (mkd h0.size <|
 K (⟨none, 0, 0⟩, (20 : Int), ()))
 (callT Try.prog fn_clauses_normal #[(.slice a1.a a1.len a1.cap)] .sl fun r2 =>
 nw #[(.slice none 0 0)] ty_clauses_Clause fun b3 =>
 st1 (⟨b3, 0, none⟩ : Addr) (.slice r2.a r2.len r2.cap) <|
 nw #[Value.nilFunc] ty_func_lits_Lit_bool fun b4 =>
 st1 (⟨b4, 0, none⟩ : Addr) (.func (.func fn_clauses_Clashes_1) #[] #[(.pointer (some (⟨b3, 0, none⟩ : Addr)))]) <|
 nw #[(.slice none 0 0)] ty_sl_lits_Lit fun b5 =>
 callT Try.prog fn_clauses_sorted #[(.slice a0.a a0.len a0.cap)] .val fun r6 =>
 RangeVC Try.prog (.cons (.int .i64) .nil) r6 (fun x7 wrap8 next9 jump10 =>
 wrap8 <|
 ldT .val (⟨b4, 0, none⟩ : Addr) fun x11 =>
 callF Try.prog x11 #[(.int .i64 x7.1)] .bool fun r12 =>
 jn (σ := Unit) (fun s14 => /- -/
 next9)
 (fun J13 =>
 brB r12
 (ldT .sl (⟨b5, 0, none⟩ : Addr) fun x15 =>
 nw #[(.int .i64 x7.1)] ty_lits_Lit fun b16 =>
 apd ty_lits_Lit 1 8 #[(.int .i64 (0 : Int))] ⟨x15.a, x15.len, x15.cap⟩ ⟨(some (⟨b16, 0, none⟩ : Addr)), 1, 1⟩ fun s17 =>
 st1 (⟨b5, 0, none⟩ : Addr) (.slice s17.a s17.len s17.cap) <|
 J13 (()))
 (J13 (()))))
 (ldT .sl (⟨b5, 0, none⟩ : Addr) fun x18 =>
 mkd h0.size <|
 K (⟨x18.a, x18.len, x18.cap⟩, (0 : Int), ()))
 (mkd h0.size <|
 K (⟨none, 0, 0⟩, (0 : Int), ()))
 []
 []))) h0
set_option maxRecDepth 100000 in
theorem E_clauses_Clashes (a0 : Sl) (a1 : Sl) (K : (Sl × (Int × Unit)) → HP) (h : Heap) : fnVC Try.prog [(1000000, .nil), (23, (.cons (.int .i64) .nil))] 32 Try.f14 [(.slice a0.a a0.len a0.cap), (.slice a1.a a1.len a1.cap)] (.tup (.cons .sl (.cons (.int .i64) .nil))) K h = F_clauses_Clashes a0 a1 K h := by kernel_rfl
set_option maxRecDepth 100000 in
theorem S_clauses_Clashes{h : Heap} {a0 : Sl} {a1 : Sl} (K : (Sl × (Int × Unit)) → HP) (hF : F_clauses_Clashes a0 a1 K h) : CallsH Try.prog fn_clauses_Clashes #[(.slice a0.a a0.len a0.cap), (.slice a1.a a1.len a1.cap)] h fun v h' => ∃ x : (Sl × (Int × Unit)), v = Ty.enc (.tup (.cons .sl (.cons (.int .i64) .nil))) x ∧ K x h' :=
  callsH_of_fn (P := Try.prog) (fn := Try.f14) (τ := (.tup (.cons .sl (.cons (.int .i64) .nil)))) follows Try.func14 (by kernel_rfl) (by kernel_rfl) Try.call14 (Eq.mpr (E_clauses_Clashes a0 a1 K h) hF)


/-- slices.Contains[[]salvor/lits.Lit,salvor/lits.Lit] -/
def F_slices_Contains_lits_Lit_lits_Lit (a0 : Sl) (a1 : Int) (K : Bool → HP) : HP :=
 callT Try.prog fn_slices_Index_lits_Lit_lits_Lit #[(.slice a0.a a0.len a0.cap), (.int .i64 a1)] (.int .i64) fun r0 =>
 K (decide (r0 ≥ (0 : Int)))
set_option maxRecDepth 100000 in
theorem E_slices_Contains_lits_Lit_lits_Lit (a0 : Sl) (a1 : Int) (K : Bool → HP) (h : Heap) : fnVC Try.prog [(1000000, .nil)] 9 Try.f15 [(.slice a0.a a0.len a0.cap), (.int .i64 a1)] .bool K h = F_slices_Contains_lits_Lit_lits_Lit a0 a1 K h := by kernel_rfl
set_option maxRecDepth 100000 in
theorem S_slices_Contains_lits_Lit_lits_Lit{h : Heap} {a0 : Sl} {a1 : Int} (K : Bool → HP) (hF : F_slices_Contains_lits_Lit_lits_Lit a0 a1 K h) : CallsH Try.prog fn_slices_Contains_lits_Lit_lits_Lit #[(.slice a0.a a0.len a0.cap), (.int .i64 a1)] h fun v h' => ∃ x : Bool, v = Ty.enc .bool x ∧ K x h' :=
  callsH_of_fn (P := Try.prog) (fn := Try.f15) (τ := .bool) follows Try.func15 (by kernel_rfl) (by kernel_rfl) Try.call15 (Eq.mpr (E_slices_Contains_lits_Lit_lits_Lit a0 a1 K h) hF)


/-- salvor/clauses.Has -/
def F_clauses_Has (a0 : Sl) (a1 : Int) (K : Bool → HP) : HP :=
 callT Try.prog fn_clauses_Right #[(.slice a0.a a0.len a0.cap)] .bool fun r0 =>
 brB r0
 (callT Try.prog fn_slices_Contains_clauses_Clause_lits_Lit #[(.slice a0.a a0.len a0.cap), (.int .i64 a1)] .bool fun r1 =>
 K r1)
 (K false)
set_option maxRecDepth 100000 in
theorem E_clauses_Has (a0 : Sl) (a1 : Int) (K : Bool → HP) (h : Heap) : fnVC Try.prog [(1000000, .nil)] 12 Try.f16 [(.slice a0.a a0.len a0.cap), (.int .i64 a1)] .bool K h = F_clauses_Has a0 a1 K h := by kernel_rfl
set_option maxRecDepth 100000 in
theorem S_clauses_Has{h : Heap} {a0 : Sl} {a1 : Int} (K : Bool → HP) (hF : F_clauses_Has a0 a1 K h) : CallsH Try.prog fn_clauses_Has #[(.slice a0.a a0.len a0.cap), (.int .i64 a1)] h fun v h' => ∃ x : Bool, v = Ty.enc .bool x ∧ K x h' :=
  callsH_of_fn (P := Try.prog) (fn := Try.f16) (τ := .bool) follows Try.func16 (by kernel_rfl) (by kernel_rfl) Try.call16 (Eq.mpr (E_clauses_Has a0 a1 K h) hF)


/-- salvor/clauses.Always -/
def F_clauses_Always (a0 : Sl) (K : Bool → HP) : HP := fun h0 => (
 nw #[(.bool false)] ty_bool fun b0 =>
 callT Try.prog fn_clauses_Right #[(.slice a0.a a0.len a0.cap)] .bool fun r1 =>
 brB (!r1)
 (st1 (⟨b0, 0, none⟩ : Addr) (.bool false) <|
 mkd h0.size <|
 ldT .bool (⟨b0, 0, none⟩ : Addr) fun x2 =>
 K x2)
 (nw #[(.int .i64 (0 : Int))] ty_lits_Lit fun b3 =>
 st1 (⟨b3, 0, none⟩ : Addr) (.int .i64 (0 : Int)) <|
 callT Try.prog fn_clauses_sorted #[(.slice a0.a a0.len a0.cap)] .val fun r4 =>
 RangeVC Try.prog (.cons (.int .i64) .nil) r4 (fun x5 wrap6 next7 jump8 =>
 wrap6 <|
 ldT (.int .i64) (⟨b3, 0, none⟩ : Addr) fun x9 =>
 brB (x9 != (0 : Int))
 (ldT (.int .i64) (⟨b3, 0, none⟩ : Addr) fun x10 =>
 callT Try.prog fn_lits_Neg #[(.int .i64 x10)] (.int .i64) fun r11 =>
 brB (x5.1 == r11)
 (st1 (⟨b0, 0, none⟩ : Addr) (.bool true) <|
 jump8 .ret)
 (st1 (⟨b3, 0, none⟩ : Addr) (.int .i64 x5.1) <|
 next7))
 (st1 (⟨b3, 0, none⟩ : Addr) (.int .i64 x5.1) <|
 next7))
 (st1 (⟨b0, 0, none⟩ : Addr) (.bool false) <|
 mkd h0.size <|
 ldT .bool (⟨b0, 0, none⟩ : Addr) fun x12 =>
 K x12)
 (mkd h0.size <|
 ldT .bool (⟨b0, 0, none⟩ : Addr) fun x13 =>
 K x13)
 []
 [])) h0
set_option maxRecDepth 100000 in
theorem E_clauses_Always (a0 : Sl) (K : Bool → HP) (h : Heap) : fnVC Try.prog [(1000000, .nil), (10, (.cons (.int .i64) .nil))] 20 Try.f17 [(.slice a0.a a0.len a0.cap)] .bool K h = F_clauses_Always a0 K h := by kernel_rfl
set_option maxRecDepth 100000 in
theorem S_clauses_Always{h : Heap} {a0 : Sl} (K : Bool → HP) (hF : F_clauses_Always a0 K h) : CallsH Try.prog fn_clauses_Always #[(.slice a0.a a0.len a0.cap)] h fun v h' => ∃ x : Bool, v = Ty.enc .bool x ∧ K x h' :=
  callsH_of_fn (P := Try.prog) (fn := Try.f17) (τ := .bool) follows Try.func17 (by kernel_rfl) (by kernel_rfl) Try.call17 (Eq.mpr (E_clauses_Always a0 K h) hF)


/-- salvor/clauses.Without -/
def F_clauses_Without (a0 : Sl) (a1 : Int) (K : (Sl × (Int × Unit)) → HP) : HP :=
 nw #[(.int .i64 a1)] ty_lits_Lit fun b0 =>
 callT Try.prog fn_clauses_Right #[(.slice a0.a a0.len a0.cap)] .bool fun r1 =>
 brB (!r1)
 (K (⟨none, 0, 0⟩, (20 : Int), ()))
 (ldT (.int .i64) (⟨b0, 0, none⟩ : Addr) fun x2 =>
 callT Try.prog fn_clauses_wrong #[(.int .i64 x2)] .bool fun r3 =>
 brB r3
 (K (⟨none, 0, 0⟩, (10 : Int), ()))
 (callT Try.prog fn_clauses_normal #[(.slice a0.a a0.len a0.cap)] .sl fun r4 =>
 callT Try.prog fn_slices_DeleteFunc_clauses_Clause_lits_Lit #[(.slice r4.a r4.len r4.cap), (.func (.func fn_clauses_Without_1) #[] #[(.pointer (some (⟨b0, 0, none⟩ : Addr)))])] .sl fun r5 =>
 K (⟨r5.a, r5.len, r5.cap⟩, (0 : Int), ())))
set_option maxRecDepth 100000 in
theorem E_clauses_Without (a0 : Sl) (a1 : Int) (K : (Sl × (Int × Unit)) → HP) (h : Heap) : fnVC Try.prog [(1000000, .nil)] 17 Try.f18 [(.slice a0.a a0.len a0.cap), (.int .i64 a1)] (.tup (.cons .sl (.cons (.int .i64) .nil))) K h = F_clauses_Without a0 a1 K h := by kernel_rfl
set_option maxRecDepth 100000 in
theorem S_clauses_Without{h : Heap} {a0 : Sl} {a1 : Int} (K : (Sl × (Int × Unit)) → HP) (hF : F_clauses_Without a0 a1 K h) : CallsH Try.prog fn_clauses_Without #[(.slice a0.a a0.len a0.cap), (.int .i64 a1)] h fun v h' => ∃ x : (Sl × (Int × Unit)), v = Ty.enc (.tup (.cons .sl (.cons (.int .i64) .nil))) x ∧ K x h' :=
  callsH_of_fn (P := Try.prog) (fn := Try.f18) (τ := (.tup (.cons .sl (.cons (.int .i64) .nil)))) follows Try.func18 (by kernel_rfl) (by kernel_rfl) Try.call18 (Eq.mpr (E_clauses_Without a0 a1 K h) hF)


/-- salvor/salvorlaw02.Model -/
def F_salvorlaw02_Model (a0 : Int) (K : Sl → HP) : HP :=
 lfp (σ := (Int × (Sl × Unit))) (fun X0 s1 => /-  out -/
 brB (decide (s1.1 < (8 : Int)))
 (ge0 s1.1 <|
 jn (σ := (Int × Unit)) (fun s3 => /- l -/
 nw #[(.int .i64 s3.1)] ty_lits_Lit fun b4 =>
 apd ty_lits_Lit 1 8 #[(.int .i64 (0 : Int))] ⟨s1.2.1.a, s1.2.1.len, s1.2.1.cap⟩ ⟨(some (⟨b4, 0, none⟩ : Addr)), 1, 1⟩ fun s5 =>
 X0 ((IntKind.wrap .i64 (s1.1 + (1 : Int))), ⟨s5.a, s5.len, s5.cap⟩, ()))
 (fun J2 =>
 brB ((bAnd .u8 (Int.fdiv a0 (2 ^ (min (s1.1).toNat 8))) (1 : Int)) == (1 : Int))
 (J2 ((IntKind.wrap .i64 (0 - (IntKind.wrap .i64 (s1.1 + (1 : Int))))), ()))
 (J2 ((IntKind.wrap .i64 (s1.1 + (1 : Int))), ()))))
 (K ⟨s1.2.1.a, s1.2.1.len, s1.2.1.cap⟩))
 ((0 : Int), ⟨none, 0, 0⟩, ())
set_option maxRecDepth 100000 in
theorem E_salvorlaw02_Model (a0 : Int) (K : Sl → HP) (h : Heap) : fnVC Try.prog [(1000000, .nil)] 24 Try.f19 [(.int .u8 a0)] .sl K h = F_salvorlaw02_Model a0 K h := by kernel_rfl
set_option maxRecDepth 100000 in
theorem S_salvorlaw02_Model{h : Heap} {a0 : Int} (K : Sl → HP) (hF : F_salvorlaw02_Model a0 K h) : CallsH Try.prog fn_salvorlaw02_Model #[(.int .u8 a0)] h fun v h' => ∃ x : Sl, v = Ty.enc .sl x ∧ K x h' :=
  callsH_of_fn (P := Try.prog) (fn := Try.f19) (τ := .sl) follows Try.func19 (by kernel_rfl) (by kernel_rfl) Try.call19 (Eq.mpr (E_salvorlaw02_Model a0 K h) hF)


/-- salvor/clauses.Holds -/
def F_clauses_Holds (a0 : Sl) (a1 : Sl) (K : Bool → HP) : HP := fun h0 => (
 nw #[(.slice a1.a a1.len a1.cap)] ty_sl_lits_Lit fun b0 =>
 callT Try.prog fn_clauses_Right #[(.slice a0.a a0.len a0.cap)] .bool fun r1 =>
 brB (!r1)
 (mkd h0.size <|
 K false)
 (nw #[(.bool false)] ty_bool fun b2 =>
 st1 (⟨b2, 0, none⟩ : Addr) (.bool false) <|
 callT Try.prog fn_clauses_sorted #[(.slice a0.a a0.len a0.cap)] .val fun r3 =>
 jn (σ := Unit) (fun s5 => /- -/
 ldT .bool (⟨b2, 0, none⟩ : Addr) fun x6 =>
 mkd h0.size <|
 K x6)
 (fun J4 =>
 RangeVC Try.prog (.cons (.int .i64) .nil) r3 (fun x7 wrap8 next9 jump10 =>
 wrap8 <|
 ldT .sl (⟨b0, 0, none⟩ : Addr) fun x11 =>
 lfp (σ := (Int × Unit)) (fun X12 s13 => /-  -/
 brB (decide (s13.1 < (x11.len : Int)))
 (sx x11.a x11.len s13.1 1 fun p14 =>
 ldT (.int .i64) p14 fun x15 =>
 brB (x7.1 == x15)
 (st1 (⟨b2, 0, none⟩ : Addr) (.bool true) <|
 jump10 (.exit 0))
 (X12 ((IntKind.wrap .i64 (s13.1 + (1 : Int))), ())))
 (next9))
 ((0 : Int), ()))
 (J4 (()))
 (mkd h0.size <|
 K false)
 [0]
 [(J4 (()))]))) h0
set_option maxRecDepth 100000 in
theorem E_clauses_Holds (a0 : Sl) (a1 : Sl) (K : Bool → HP) (h : Heap) : fnVC Try.prog [(1000000, .nil), (14, (.cons (.int .i64) .nil))] 26 Try.f20 [(.slice a0.a a0.len a0.cap), (.slice a1.a a1.len a1.cap)] .bool K h = F_clauses_Holds a0 a1 K h := by kernel_rfl
set_option maxRecDepth 100000 in
theorem S_clauses_Holds{h : Heap} {a0 : Sl} {a1 : Sl} (K : Bool → HP) (hF : F_clauses_Holds a0 a1 K h) : CallsH Try.prog fn_clauses_Holds #[(.slice a0.a a0.len a0.cap), (.slice a1.a a1.len a1.cap)] h fun v h' => ∃ x : Bool, v = Ty.enc .bool x ∧ K x h' :=
  callsH_of_fn (P := Try.prog) (fn := Try.f20) (τ := .bool) follows Try.func20 (by kernel_rfl) (by kernel_rfl) Try.call20 (Eq.mpr (E_clauses_Holds a0 a1 K h) hF)


/-- salvor/salvorlaw02.awake -/
def F_salvorlaw02_awake (K : Bool → HP) : HP :=
 nw #[(.int .i64 (3 : Int)), (.int .i64 (-1 : Int)), (.int .i64 (3 : Int))] ty_lits_Lit fun b0 =>
 callT Try.prog fn_clauses_Norm #[(.slice (some (⟨b0, 0, none⟩ : Addr)) 3 3)] (.tup (.cons .sl (.cons .bool (.cons (.int .i64) .nil)))) fun r1 =>
 nw #[(.int .i64 (2 : Int)), (.int .i64 (-2 : Int))] ty_lits_Lit fun b2 =>
 callT Try.prog fn_clauses_Norm #[(.slice (some (⟨b2, 0, none⟩ : Addr)) 2 2)] (.tup (.cons .sl (.cons .bool (.cons (.int .i64) .nil)))) fun r3 =>
 nw #[(.int .i64 (1 : Int)), (.int .i64 (2 : Int))] ty_lits_Lit fun b4 =>
 nw #[(.int .i64 (-1 : Int)), (.int .i64 (3 : Int))] ty_lits_Lit fun b5 =>
 callT Try.prog fn_clauses_Resolve #[(.slice (some (⟨b4, 0, none⟩ : Addr)) 2 2), (.slice (some (⟨b5, 0, none⟩ : Addr)) 2 2), (.int .i64 (1 : Int))] (.tup (.cons .sl (.cons (.int .i64) .nil))) fun r6 =>
 nw #[(.int .i64 (1 : Int)), (.int .i64 (2 : Int))] ty_lits_Lit fun b7 =>
 nw #[(.int .i64 (-1 : Int)), (.int .i64 (3 : Int))] ty_lits_Lit fun b8 =>
 callT Try.prog fn_clauses_Resolve #[(.slice (some (⟨b7, 0, none⟩ : Addr)) 2 2), (.slice (some (⟨b8, 0, none⟩ : Addr)) 2 2), (.int .i64 (2 : Int))] (.tup (.cons .sl (.cons (.int .i64) .nil))) fun r9 =>
 nw #[(.int .i64 (1 : Int)), (.int .i64 (2 : Int))] ty_lits_Lit fun b10 =>
 nw #[(.int .i64 (-1 : Int)), (.int .i64 (-2 : Int))] ty_lits_Lit fun b11 =>
 callT Try.prog fn_clauses_Resolve #[(.slice (some (⟨b10, 0, none⟩ : Addr)) 2 2), (.slice (some (⟨b11, 0, none⟩ : Addr)) 2 2), (.int .i64 (1 : Int))] (.tup (.cons .sl (.cons (.int .i64) .nil))) fun r12 =>
 nw #[(.int .i64 (1 : Int)), (.int .i64 (2 : Int))] ty_lits_Lit fun b13 =>
 nw #[(.int .i64 (-1 : Int)), (.int .i64 (-2 : Int))] ty_lits_Lit fun b14 =>
 callT Try.prog fn_clauses_Clashes #[(.slice (some (⟨b13, 0, none⟩ : Addr)) 2 2), (.slice (some (⟨b14, 0, none⟩ : Addr)) 2 2)] (.tup (.cons .sl (.cons (.int .i64) .nil))) fun r15 =>
 brB ((IntKind.wrap .i64 ((IntKind.wrap .i64 ((IntKind.wrap .i64 ((IntKind.wrap .i64 (r1.2.2.1 + r3.2.2.1)) + r6.2.1)) + r12.2.1)) + r15.2.1)) == (0 : Int))
 (nw #[(.int .i64 (-1 : Int)), (.int .i64 (3 : Int))] ty_lits_Lit fun b16 =>
 callT Try.prog fn_slices_Equal_clauses_Clause_lits_Lit #[(.slice r1.1.a r1.1.len r1.1.cap), (.slice (some (⟨b16, 0, none⟩ : Addr)) 2 2)] .bool fun r17 =>
 brB r17
 (brB (!r1.2.1)
 (nw #[(.int .i64 (2 : Int)), (.int .i64 (-2 : Int))] ty_lits_Lit fun b18 =>
 callT Try.prog fn_slices_Equal_clauses_Clause_lits_Lit #[(.slice r3.1.a r3.1.len r3.1.cap), (.slice (some (⟨b18, 0, none⟩ : Addr)) 2 2)] .bool fun r19 =>
 brB r19
 (brB r3.2.1
 (nw #[(.int .i64 (2 : Int)), (.int .i64 (3 : Int))] ty_lits_Lit fun b20 =>
 callT Try.prog fn_slices_Equal_clauses_Clause_lits_Lit #[(.slice r6.1.a r6.1.len r6.1.cap), (.slice (some (⟨b20, 0, none⟩ : Addr)) 2 2)] .bool fun r21 =>
 brB r21
 (brB (r9.2.1 == (21 : Int))
 (nw #[(.int .i64 (2 : Int)), (.int .i64 (-2 : Int))] ty_lits_Lit fun b22 =>
 callT Try.prog fn_slices_Equal_clauses_Clause_lits_Lit #[(.slice r12.1.a r12.1.len r12.1.cap), (.slice (some (⟨b22, 0, none⟩ : Addr)) 2 2)] .bool fun r23 =>
 brB r23
 (nw #[(.int .i64 (1 : Int)), (.int .i64 (2 : Int))] ty_lits_Lit fun b24 =>
 callT Try.prog fn_slices_Equal_lits_Lit_lits_Lit #[(.slice r15.1.a r15.1.len r15.1.cap), (.slice (some (⟨b24, 0, none⟩ : Addr)) 2 2)] .bool fun r25 =>
 brB r25
 (nw #[(.int .i64 (1 : Int))] ty_lits_Lit fun b26 =>
 nw #[(.int .i64 (2 : Int)), (.int .i64 (1 : Int))] ty_lits_Lit fun b27 =>
 callT Try.prog fn_clauses_Within #[(.slice (some (⟨b26, 0, none⟩ : Addr)) 1 1), (.slice (some (⟨b27, 0, none⟩ : Addr)) 2 2)] .bool fun r28 =>
 brB r28
 (nw #[(.int .i64 (5 : Int))] ty_lits_Lit fun b29 =>
 nw #[(.int .i64 (1 : Int)), (.int .i64 (2 : Int))] ty_lits_Lit fun b30 =>
 callT Try.prog fn_clauses_Compare #[(.slice (some (⟨b29, 0, none⟩ : Addr)) 1 1), (.slice (some (⟨b30, 0, none⟩ : Addr)) 2 2)] (.int .i64) fun r31 =>
 brB (r31 == (-1 : Int))
 (nw #[(.int .i64 (1 : Int)), (.int .i64 (-2 : Int))] ty_lits_Lit fun b32 =>
 nw #[(.int .i64 (3 : Int)), (.int .i64 (-2 : Int))] ty_lits_Lit fun b33 =>
 callT Try.prog fn_clauses_Holds #[(.slice (some (⟨b32, 0, none⟩ : Addr)) 2 2), (.slice (some (⟨b33, 0, none⟩ : Addr)) 2 2)] .bool fun r34 =>
 brB r34
 (nw #[(.int .i64 (3 : Int)), (.int .i64 (-2 : Int))] ty_lits_Lit fun b35 =>
 callT Try.prog fn_clauses_Holds #[(.slice none 0 0), (.slice (some (⟨b35, 0, none⟩ : Addr)) 2 2)] .bool fun r36 =>
 K (!r36))
 (K false))
 (K false))
 (K false))
 (K false))
 (K false))
 (K false))
 (K false))
 (K false))
 (K false))
 (K false))
 (K false))
 (K false)
set_option maxRecDepth 100000 in
theorem E_salvorlaw02_awake (K : Bool → HP) (h : Heap) : fnVC Try.prog [(1000000, .nil)] 118 Try.f21 [] .bool K h = F_salvorlaw02_awake K h := by kernel_rfl
set_option maxRecDepth 100000 in
theorem S_salvorlaw02_awake{h : Heap} (K : Bool → HP) (hF : F_salvorlaw02_awake K h) : CallsH Try.prog fn_salvorlaw02_awake #[] h fun v h' => ∃ x : Bool, v = Ty.enc .bool x ∧ K x h' :=
  callsH_of_fn (P := Try.prog) (fn := Try.f21) (τ := .bool) follows Try.func21 (by kernel_rfl) (by kernel_rfl) Try.call21 (Eq.mpr (E_salvorlaw02_awake K h) hF)


/-- salvor/salvorlaw02.one -/
def F_salvorlaw02_one (a0 : Sl) (a1 : Int) (a2 : Sl) (K : Bool → HP) : HP :=
 callT Try.prog fn_salvorlaw02_Clause #[(.slice a0.a a0.len a0.cap)] .sl fun r0 =>
 callT Try.prog fn_salvorref02_Right #[(.slice a0.a a0.len a0.cap)] .bool fun r1 =>
 callT Try.prog fn_clauses_Norm #[(.slice r0.a r0.len r0.cap)] (.tup (.cons .sl (.cons .bool (.cons (.int .i64) .nil)))) fun r2 =>
 callT Try.prog fn_clauses_Without #[(.slice r0.a r0.len r0.cap), (.int .i64 a1)] (.tup (.cons .sl (.cons (.int .i64) .nil))) fun r3 =>
 callT Try.prog fn_clauses_Right #[(.slice r0.a r0.len r0.cap)] .bool fun r4 =>
 brB (!(r4 == r1))
 (K false)
 (callT Try.prog fn_clauses_Has #[(.slice r0.a r0.len r0.cap), (.int .i64 a1)] .bool fun r5 =>
 brB r1
 (callT Try.prog fn_salvorref02_Has #[(.slice a0.a a0.len a0.cap), (.int .i64 a1)] .bool fun r6 =>
 brB (!(r5 == r6))
 (K false)
 (callT Try.prog fn_clauses_Always #[(.slice r0.a r0.len r0.cap)] .bool fun r7 =>
 brB r1
 (callT Try.prog fn_salvorref02_Always #[(.slice a0.a a0.len a0.cap)] .bool fun r8 =>
 brB (!(r7 == r8))
 (K false)
 (callT Try.prog fn_salvorlaw02_Clause #[(.slice a2.a a2.len a2.cap)] .sl fun r9 =>
 callT Try.prog fn_clauses_Holds #[(.slice r0.a r0.len r0.cap), (.slice r9.a r9.len r9.cap)] .bool fun r10 =>
 brB r1
 (callT Try.prog fn_salvorref02_Holds #[(.slice a0.a a0.len a0.cap), (.slice a2.a a2.len a2.cap)] .bool fun r11 =>
 brB (!(r10 == r11))
 (K false)
 (callT Try.prog fn_salvorlaw02_Ints #[(.slice r0.a r0.len r0.cap)] .sl fun r12 =>
 callT Try.prog fn_slices_Equal_int_int #[(.slice r12.a r12.len r12.cap), (.slice a0.a a0.len a0.cap)] .bool fun r13 =>
 brB (!r13)
 (K false)
 (brB (!r1)
 (callT Try.prog fn_clauses_Normal #[(.slice r0.a r0.len r0.cap)] .bool fun r14 =>
 brB (!r14)
 (brB ((IntKind.wrap .i64 ((r2.1.len : Int) + (r3.1.len : Int))) == (0 : Int))
 (brB (!r2.2.1)
 (brB (r2.2.2.1 == (20 : Int))
 (K (r3.2.1 == r2.2.2.1))
 (K false))
 (K false))
 (K false))
 (K false))
 (callT Try.prog fn_salvorref02_Without #[(.slice a0.a a0.len a0.cap), (.int .i64 a1)] (.tup (.cons .sl (.cons (.int .i64) .nil))) fun r15 =>
 brB (r2.2.2.1 != (0 : Int))
 (K false)
 (callT Try.prog fn_salvorlaw02_Ints #[(.slice r2.1.a r2.1.len r2.1.cap)] .sl fun r16 =>
 callT Try.prog fn_salvorref02_Norm #[(.slice a0.a a0.len a0.cap)] .sl fun r17 =>
 callT Try.prog fn_slices_Equal_int_int #[(.slice r16.a r16.len r16.cap), (.slice r17.a r17.len r17.cap)] .bool fun r18 =>
 brB (!r18)
 (K false)
 (callT Try.prog fn_salvorref02_Always #[(.slice a0.a a0.len a0.cap)] .bool fun r19 =>
 brB (!(r2.2.1 == r19))
 (K false)
 (callT Try.prog fn_clauses_Normal #[(.slice r0.a r0.len r0.cap)] .bool fun r20 =>
 callT Try.prog fn_salvorref02_Norm #[(.slice a0.a a0.len a0.cap)] .sl fun r21 =>
 callT Try.prog fn_slices_Equal_int_int #[(.slice a0.a a0.len a0.cap), (.slice r21.a r21.len r21.cap)] .bool fun r22 =>
 brB (!(r20 == r22))
 (K false)
 (brB (r3.2.1 != r15.2.1)
 (K false)
 (callT Try.prog fn_salvorlaw02_Ints #[(.slice r3.1.a r3.1.len r3.1.cap)] .sl fun r23 =>
 callT Try.prog fn_slices_Equal_int_int #[(.slice r23.a r23.len r23.cap), (.slice r15.1.a r15.1.len r15.1.cap)] .bool fun r24 =>
 brB (!r24)
 (K false)
 (lfp (σ := (Int × Unit)) (fun X25 s26 => /-  -/
 brB (decide (s26.1 < (r2.1.len : Int)))
 (sx r2.1.a r2.1.len s26.1 1 fun p27 =>
 st1 p27 (.int .i64 (0 : Int)) <|
 X25 ((IntKind.wrap .i64 (s26.1 + (1 : Int))), ()))
 (lfp (σ := (Int × Unit)) (fun X28 s29 => /-  -/
 brB (decide (s29.1 < (r3.1.len : Int)))
 (sx r3.1.a r3.1.len s29.1 1 fun p30 =>
 st1 p30 (.int .i64 (0 : Int)) <|
 X28 ((IntKind.wrap .i64 (s29.1 + (1 : Int))), ()))
 (callT Try.prog fn_salvorlaw02_Ints #[(.slice r0.a r0.len r0.cap)] .sl fun r31 =>
 callT Try.prog fn_slices_Equal_int_int #[(.slice r31.a r31.len r31.cap), (.slice a0.a a0.len a0.cap)] .bool fun r32 =>
 K r32))
 ((0 : Int), ())))
 ((0 : Int), ())))))))))))
 (brB (!(r10 == false))
 (K false)
 (callT Try.prog fn_salvorlaw02_Ints #[(.slice r0.a r0.len r0.cap)] .sl fun r33 =>
 callT Try.prog fn_slices_Equal_int_int #[(.slice r33.a r33.len r33.cap), (.slice a0.a a0.len a0.cap)] .bool fun r34 =>
 brB (!r34)
 (K false)
 (brB (!r1)
 (callT Try.prog fn_clauses_Normal #[(.slice r0.a r0.len r0.cap)] .bool fun r35 =>
 brB (!r35)
 (brB ((IntKind.wrap .i64 ((r2.1.len : Int) + (r3.1.len : Int))) == (0 : Int))
 (brB (!r2.2.1)
 (brB (r2.2.2.1 == (20 : Int))
 (K (r3.2.1 == r2.2.2.1))
 (K false))
 (K false))
 (K false))
 (K false))
 (callT Try.prog fn_salvorref02_Without #[(.slice a0.a a0.len a0.cap), (.int .i64 a1)] (.tup (.cons .sl (.cons (.int .i64) .nil))) fun r36 =>
 brB (r2.2.2.1 != (0 : Int))
 (K false)
 (callT Try.prog fn_salvorlaw02_Ints #[(.slice r2.1.a r2.1.len r2.1.cap)] .sl fun r37 =>
 callT Try.prog fn_salvorref02_Norm #[(.slice a0.a a0.len a0.cap)] .sl fun r38 =>
 callT Try.prog fn_slices_Equal_int_int #[(.slice r37.a r37.len r37.cap), (.slice r38.a r38.len r38.cap)] .bool fun r39 =>
 brB (!r39)
 (K false)
 (callT Try.prog fn_salvorref02_Always #[(.slice a0.a a0.len a0.cap)] .bool fun r40 =>
 brB (!(r2.2.1 == r40))
 (K false)
 (callT Try.prog fn_clauses_Normal #[(.slice r0.a r0.len r0.cap)] .bool fun r41 =>
 callT Try.prog fn_salvorref02_Norm #[(.slice a0.a a0.len a0.cap)] .sl fun r42 =>
 callT Try.prog fn_slices_Equal_int_int #[(.slice a0.a a0.len a0.cap), (.slice r42.a r42.len r42.cap)] .bool fun r43 =>
 brB (!(r41 == r43))
 (K false)
 (brB (r3.2.1 != r36.2.1)
 (K false)
 (callT Try.prog fn_salvorlaw02_Ints #[(.slice r3.1.a r3.1.len r3.1.cap)] .sl fun r44 =>
 callT Try.prog fn_slices_Equal_int_int #[(.slice r44.a r44.len r44.cap), (.slice r36.1.a r36.1.len r36.1.cap)] .bool fun r45 =>
 brB (!r45)
 (K false)
 (lfp (σ := (Int × Unit)) (fun X46 s47 => /-  -/
 brB (decide (s47.1 < (r2.1.len : Int)))
 (sx r2.1.a r2.1.len s47.1 1 fun p48 =>
 st1 p48 (.int .i64 (0 : Int)) <|
 X46 ((IntKind.wrap .i64 (s47.1 + (1 : Int))), ()))
 (lfp (σ := (Int × Unit)) (fun X49 s50 => /-  -/
 brB (decide (s50.1 < (r3.1.len : Int)))
 (sx r3.1.a r3.1.len s50.1 1 fun p51 =>
 st1 p51 (.int .i64 (0 : Int)) <|
 X49 ((IntKind.wrap .i64 (s50.1 + (1 : Int))), ()))
 (callT Try.prog fn_salvorlaw02_Ints #[(.slice r0.a r0.len r0.cap)] .sl fun r52 =>
 callT Try.prog fn_slices_Equal_int_int #[(.slice r52.a r52.len r52.cap), (.slice a0.a a0.len a0.cap)] .bool fun r53 =>
 K r53))
 ((0 : Int), ())))
 ((0 : Int), ())))))))))))))
 (brB (!(r7 == false))
 (K false)
 (callT Try.prog fn_salvorlaw02_Clause #[(.slice a2.a a2.len a2.cap)] .sl fun r54 =>
 callT Try.prog fn_clauses_Holds #[(.slice r0.a r0.len r0.cap), (.slice r54.a r54.len r54.cap)] .bool fun r55 =>
 brB r1
 (callT Try.prog fn_salvorref02_Holds #[(.slice a0.a a0.len a0.cap), (.slice a2.a a2.len a2.cap)] .bool fun r56 =>
 brB (!(r55 == r56))
 (K false)
 (callT Try.prog fn_salvorlaw02_Ints #[(.slice r0.a r0.len r0.cap)] .sl fun r57 =>
 callT Try.prog fn_slices_Equal_int_int #[(.slice r57.a r57.len r57.cap), (.slice a0.a a0.len a0.cap)] .bool fun r58 =>
 brB (!r58)
 (K false)
 (brB (!r1)
 (callT Try.prog fn_clauses_Normal #[(.slice r0.a r0.len r0.cap)] .bool fun r59 =>
 brB (!r59)
 (brB ((IntKind.wrap .i64 ((r2.1.len : Int) + (r3.1.len : Int))) == (0 : Int))
 (brB (!r2.2.1)
 (brB (r2.2.2.1 == (20 : Int))
 (K (r3.2.1 == r2.2.2.1))
 (K false))
 (K false))
 (K false))
 (K false))
 (callT Try.prog fn_salvorref02_Without #[(.slice a0.a a0.len a0.cap), (.int .i64 a1)] (.tup (.cons .sl (.cons (.int .i64) .nil))) fun r60 =>
 brB (r2.2.2.1 != (0 : Int))
 (K false)
 (callT Try.prog fn_salvorlaw02_Ints #[(.slice r2.1.a r2.1.len r2.1.cap)] .sl fun r61 =>
 callT Try.prog fn_salvorref02_Norm #[(.slice a0.a a0.len a0.cap)] .sl fun r62 =>
 callT Try.prog fn_slices_Equal_int_int #[(.slice r61.a r61.len r61.cap), (.slice r62.a r62.len r62.cap)] .bool fun r63 =>
 brB (!r63)
 (K false)
 (callT Try.prog fn_salvorref02_Always #[(.slice a0.a a0.len a0.cap)] .bool fun r64 =>
 brB (!(r2.2.1 == r64))
 (K false)
 (callT Try.prog fn_clauses_Normal #[(.slice r0.a r0.len r0.cap)] .bool fun r65 =>
 callT Try.prog fn_salvorref02_Norm #[(.slice a0.a a0.len a0.cap)] .sl fun r66 =>
 callT Try.prog fn_slices_Equal_int_int #[(.slice a0.a a0.len a0.cap), (.slice r66.a r66.len r66.cap)] .bool fun r67 =>
 brB (!(r65 == r67))
 (K false)
 (brB (r3.2.1 != r60.2.1)
 (K false)
 (callT Try.prog fn_salvorlaw02_Ints #[(.slice r3.1.a r3.1.len r3.1.cap)] .sl fun r68 =>
 callT Try.prog fn_slices_Equal_int_int #[(.slice r68.a r68.len r68.cap), (.slice r60.1.a r60.1.len r60.1.cap)] .bool fun r69 =>
 brB (!r69)
 (K false)
 (lfp (σ := (Int × Unit)) (fun X70 s71 => /-  -/
 brB (decide (s71.1 < (r2.1.len : Int)))
 (sx r2.1.a r2.1.len s71.1 1 fun p72 =>
 st1 p72 (.int .i64 (0 : Int)) <|
 X70 ((IntKind.wrap .i64 (s71.1 + (1 : Int))), ()))
 (lfp (σ := (Int × Unit)) (fun X73 s74 => /-  -/
 brB (decide (s74.1 < (r3.1.len : Int)))
 (sx r3.1.a r3.1.len s74.1 1 fun p75 =>
 st1 p75 (.int .i64 (0 : Int)) <|
 X73 ((IntKind.wrap .i64 (s74.1 + (1 : Int))), ()))
 (callT Try.prog fn_salvorlaw02_Ints #[(.slice r0.a r0.len r0.cap)] .sl fun r76 =>
 callT Try.prog fn_slices_Equal_int_int #[(.slice r76.a r76.len r76.cap), (.slice a0.a a0.len a0.cap)] .bool fun r77 =>
 K r77))
 ((0 : Int), ())))
 ((0 : Int), ())))))))))))
 (brB (!(r55 == false))
 (K false)
 (callT Try.prog fn_salvorlaw02_Ints #[(.slice r0.a r0.len r0.cap)] .sl fun r78 =>
 callT Try.prog fn_slices_Equal_int_int #[(.slice r78.a r78.len r78.cap), (.slice a0.a a0.len a0.cap)] .bool fun r79 =>
 brB (!r79)
 (K false)
 (brB (!r1)
 (callT Try.prog fn_clauses_Normal #[(.slice r0.a r0.len r0.cap)] .bool fun r80 =>
 brB (!r80)
 (brB ((IntKind.wrap .i64 ((r2.1.len : Int) + (r3.1.len : Int))) == (0 : Int))
 (brB (!r2.2.1)
 (brB (r2.2.2.1 == (20 : Int))
 (K (r3.2.1 == r2.2.2.1))
 (K false))
 (K false))
 (K false))
 (K false))
 (callT Try.prog fn_salvorref02_Without #[(.slice a0.a a0.len a0.cap), (.int .i64 a1)] (.tup (.cons .sl (.cons (.int .i64) .nil))) fun r81 =>
 brB (r2.2.2.1 != (0 : Int))
 (K false)
 (callT Try.prog fn_salvorlaw02_Ints #[(.slice r2.1.a r2.1.len r2.1.cap)] .sl fun r82 =>
 callT Try.prog fn_salvorref02_Norm #[(.slice a0.a a0.len a0.cap)] .sl fun r83 =>
 callT Try.prog fn_slices_Equal_int_int #[(.slice r82.a r82.len r82.cap), (.slice r83.a r83.len r83.cap)] .bool fun r84 =>
 brB (!r84)
 (K false)
 (callT Try.prog fn_salvorref02_Always #[(.slice a0.a a0.len a0.cap)] .bool fun r85 =>
 brB (!(r2.2.1 == r85))
 (K false)
 (callT Try.prog fn_clauses_Normal #[(.slice r0.a r0.len r0.cap)] .bool fun r86 =>
 callT Try.prog fn_salvorref02_Norm #[(.slice a0.a a0.len a0.cap)] .sl fun r87 =>
 callT Try.prog fn_slices_Equal_int_int #[(.slice a0.a a0.len a0.cap), (.slice r87.a r87.len r87.cap)] .bool fun r88 =>
 brB (!(r86 == r88))
 (K false)
 (brB (r3.2.1 != r81.2.1)
 (K false)
 (callT Try.prog fn_salvorlaw02_Ints #[(.slice r3.1.a r3.1.len r3.1.cap)] .sl fun r89 =>
 callT Try.prog fn_slices_Equal_int_int #[(.slice r89.a r89.len r89.cap), (.slice r81.1.a r81.1.len r81.1.cap)] .bool fun r90 =>
 brB (!r90)
 (K false)
 (lfp (σ := (Int × Unit)) (fun X91 s92 => /-  -/
 brB (decide (s92.1 < (r2.1.len : Int)))
 (sx r2.1.a r2.1.len s92.1 1 fun p93 =>
 st1 p93 (.int .i64 (0 : Int)) <|
 X91 ((IntKind.wrap .i64 (s92.1 + (1 : Int))), ()))
 (lfp (σ := (Int × Unit)) (fun X94 s95 => /-  -/
 brB (decide (s95.1 < (r3.1.len : Int)))
 (sx r3.1.a r3.1.len s95.1 1 fun p96 =>
 st1 p96 (.int .i64 (0 : Int)) <|
 X94 ((IntKind.wrap .i64 (s95.1 + (1 : Int))), ()))
 (callT Try.prog fn_salvorlaw02_Ints #[(.slice r0.a r0.len r0.cap)] .sl fun r97 =>
 callT Try.prog fn_slices_Equal_int_int #[(.slice r97.a r97.len r97.cap), (.slice a0.a a0.len a0.cap)] .bool fun r98 =>
 K r98))
 ((0 : Int), ())))
 ((0 : Int), ())))))))))))))))
 (brB (!(r5 == false))
 (K false)
 (callT Try.prog fn_clauses_Always #[(.slice r0.a r0.len r0.cap)] .bool fun r99 =>
 brB r1
 (callT Try.prog fn_salvorref02_Always #[(.slice a0.a a0.len a0.cap)] .bool fun r100 =>
 brB (!(r99 == r100))
 (K false)
 (callT Try.prog fn_salvorlaw02_Clause #[(.slice a2.a a2.len a2.cap)] .sl fun r101 =>
 callT Try.prog fn_clauses_Holds #[(.slice r0.a r0.len r0.cap), (.slice r101.a r101.len r101.cap)] .bool fun r102 =>
 brB r1
 (callT Try.prog fn_salvorref02_Holds #[(.slice a0.a a0.len a0.cap), (.slice a2.a a2.len a2.cap)] .bool fun r103 =>
 brB (!(r102 == r103))
 (K false)
 (callT Try.prog fn_salvorlaw02_Ints #[(.slice r0.a r0.len r0.cap)] .sl fun r104 =>
 callT Try.prog fn_slices_Equal_int_int #[(.slice r104.a r104.len r104.cap), (.slice a0.a a0.len a0.cap)] .bool fun r105 =>
 brB (!r105)
 (K false)
 (brB (!r1)
 (callT Try.prog fn_clauses_Normal #[(.slice r0.a r0.len r0.cap)] .bool fun r106 =>
 brB (!r106)
 (brB ((IntKind.wrap .i64 ((r2.1.len : Int) + (r3.1.len : Int))) == (0 : Int))
 (brB (!r2.2.1)
 (brB (r2.2.2.1 == (20 : Int))
 (K (r3.2.1 == r2.2.2.1))
 (K false))
 (K false))
 (K false))
 (K false))
 (callT Try.prog fn_salvorref02_Without #[(.slice a0.a a0.len a0.cap), (.int .i64 a1)] (.tup (.cons .sl (.cons (.int .i64) .nil))) fun r107 =>
 brB (r2.2.2.1 != (0 : Int))
 (K false)
 (callT Try.prog fn_salvorlaw02_Ints #[(.slice r2.1.a r2.1.len r2.1.cap)] .sl fun r108 =>
 callT Try.prog fn_salvorref02_Norm #[(.slice a0.a a0.len a0.cap)] .sl fun r109 =>
 callT Try.prog fn_slices_Equal_int_int #[(.slice r108.a r108.len r108.cap), (.slice r109.a r109.len r109.cap)] .bool fun r110 =>
 brB (!r110)
 (K false)
 (callT Try.prog fn_salvorref02_Always #[(.slice a0.a a0.len a0.cap)] .bool fun r111 =>
 brB (!(r2.2.1 == r111))
 (K false)
 (callT Try.prog fn_clauses_Normal #[(.slice r0.a r0.len r0.cap)] .bool fun r112 =>
 callT Try.prog fn_salvorref02_Norm #[(.slice a0.a a0.len a0.cap)] .sl fun r113 =>
 callT Try.prog fn_slices_Equal_int_int #[(.slice a0.a a0.len a0.cap), (.slice r113.a r113.len r113.cap)] .bool fun r114 =>
 brB (!(r112 == r114))
 (K false)
 (brB (r3.2.1 != r107.2.1)
 (K false)
 (callT Try.prog fn_salvorlaw02_Ints #[(.slice r3.1.a r3.1.len r3.1.cap)] .sl fun r115 =>
 callT Try.prog fn_slices_Equal_int_int #[(.slice r115.a r115.len r115.cap), (.slice r107.1.a r107.1.len r107.1.cap)] .bool fun r116 =>
 brB (!r116)
 (K false)
 (lfp (σ := (Int × Unit)) (fun X117 s118 => /-  -/
 brB (decide (s118.1 < (r2.1.len : Int)))
 (sx r2.1.a r2.1.len s118.1 1 fun p119 =>
 st1 p119 (.int .i64 (0 : Int)) <|
 X117 ((IntKind.wrap .i64 (s118.1 + (1 : Int))), ()))
 (lfp (σ := (Int × Unit)) (fun X120 s121 => /-  -/
 brB (decide (s121.1 < (r3.1.len : Int)))
 (sx r3.1.a r3.1.len s121.1 1 fun p122 =>
 st1 p122 (.int .i64 (0 : Int)) <|
 X120 ((IntKind.wrap .i64 (s121.1 + (1 : Int))), ()))
 (callT Try.prog fn_salvorlaw02_Ints #[(.slice r0.a r0.len r0.cap)] .sl fun r123 =>
 callT Try.prog fn_slices_Equal_int_int #[(.slice r123.a r123.len r123.cap), (.slice a0.a a0.len a0.cap)] .bool fun r124 =>
 K r124))
 ((0 : Int), ())))
 ((0 : Int), ())))))))))))
 (brB (!(r102 == false))
 (K false)
 (callT Try.prog fn_salvorlaw02_Ints #[(.slice r0.a r0.len r0.cap)] .sl fun r125 =>
 callT Try.prog fn_slices_Equal_int_int #[(.slice r125.a r125.len r125.cap), (.slice a0.a a0.len a0.cap)] .bool fun r126 =>
 brB (!r126)
 (K false)
 (brB (!r1)
 (callT Try.prog fn_clauses_Normal #[(.slice r0.a r0.len r0.cap)] .bool fun r127 =>
 brB (!r127)
 (brB ((IntKind.wrap .i64 ((r2.1.len : Int) + (r3.1.len : Int))) == (0 : Int))
 (brB (!r2.2.1)
 (brB (r2.2.2.1 == (20 : Int))
 (K (r3.2.1 == r2.2.2.1))
 (K false))
 (K false))
 (K false))
 (K false))
 (callT Try.prog fn_salvorref02_Without #[(.slice a0.a a0.len a0.cap), (.int .i64 a1)] (.tup (.cons .sl (.cons (.int .i64) .nil))) fun r128 =>
 brB (r2.2.2.1 != (0 : Int))
 (K false)
 (callT Try.prog fn_salvorlaw02_Ints #[(.slice r2.1.a r2.1.len r2.1.cap)] .sl fun r129 =>
 callT Try.prog fn_salvorref02_Norm #[(.slice a0.a a0.len a0.cap)] .sl fun r130 =>
 callT Try.prog fn_slices_Equal_int_int #[(.slice r129.a r129.len r129.cap), (.slice r130.a r130.len r130.cap)] .bool fun r131 =>
 brB (!r131)
 (K false)
 (callT Try.prog fn_salvorref02_Always #[(.slice a0.a a0.len a0.cap)] .bool fun r132 =>
 brB (!(r2.2.1 == r132))
 (K false)
 (callT Try.prog fn_clauses_Normal #[(.slice r0.a r0.len r0.cap)] .bool fun r133 =>
 callT Try.prog fn_salvorref02_Norm #[(.slice a0.a a0.len a0.cap)] .sl fun r134 =>
 callT Try.prog fn_slices_Equal_int_int #[(.slice a0.a a0.len a0.cap), (.slice r134.a r134.len r134.cap)] .bool fun r135 =>
 brB (!(r133 == r135))
 (K false)
 (brB (r3.2.1 != r128.2.1)
 (K false)
 (callT Try.prog fn_salvorlaw02_Ints #[(.slice r3.1.a r3.1.len r3.1.cap)] .sl fun r136 =>
 callT Try.prog fn_slices_Equal_int_int #[(.slice r136.a r136.len r136.cap), (.slice r128.1.a r128.1.len r128.1.cap)] .bool fun r137 =>
 brB (!r137)
 (K false)
 (lfp (σ := (Int × Unit)) (fun X138 s139 => /-  -/
 brB (decide (s139.1 < (r2.1.len : Int)))
 (sx r2.1.a r2.1.len s139.1 1 fun p140 =>
 st1 p140 (.int .i64 (0 : Int)) <|
 X138 ((IntKind.wrap .i64 (s139.1 + (1 : Int))), ()))
 (lfp (σ := (Int × Unit)) (fun X141 s142 => /-  -/
 brB (decide (s142.1 < (r3.1.len : Int)))
 (sx r3.1.a r3.1.len s142.1 1 fun p143 =>
 st1 p143 (.int .i64 (0 : Int)) <|
 X141 ((IntKind.wrap .i64 (s142.1 + (1 : Int))), ()))
 (callT Try.prog fn_salvorlaw02_Ints #[(.slice r0.a r0.len r0.cap)] .sl fun r144 =>
 callT Try.prog fn_slices_Equal_int_int #[(.slice r144.a r144.len r144.cap), (.slice a0.a a0.len a0.cap)] .bool fun r145 =>
 K r145))
 ((0 : Int), ())))
 ((0 : Int), ())))))))))))))
 (brB (!(r99 == false))
 (K false)
 (callT Try.prog fn_salvorlaw02_Clause #[(.slice a2.a a2.len a2.cap)] .sl fun r146 =>
 callT Try.prog fn_clauses_Holds #[(.slice r0.a r0.len r0.cap), (.slice r146.a r146.len r146.cap)] .bool fun r147 =>
 brB r1
 (callT Try.prog fn_salvorref02_Holds #[(.slice a0.a a0.len a0.cap), (.slice a2.a a2.len a2.cap)] .bool fun r148 =>
 brB (!(r147 == r148))
 (K false)
 (callT Try.prog fn_salvorlaw02_Ints #[(.slice r0.a r0.len r0.cap)] .sl fun r149 =>
 callT Try.prog fn_slices_Equal_int_int #[(.slice r149.a r149.len r149.cap), (.slice a0.a a0.len a0.cap)] .bool fun r150 =>
 brB (!r150)
 (K false)
 (brB (!r1)
 (callT Try.prog fn_clauses_Normal #[(.slice r0.a r0.len r0.cap)] .bool fun r151 =>
 brB (!r151)
 (brB ((IntKind.wrap .i64 ((r2.1.len : Int) + (r3.1.len : Int))) == (0 : Int))
 (brB (!r2.2.1)
 (brB (r2.2.2.1 == (20 : Int))
 (K (r3.2.1 == r2.2.2.1))
 (K false))
 (K false))
 (K false))
 (K false))
 (callT Try.prog fn_salvorref02_Without #[(.slice a0.a a0.len a0.cap), (.int .i64 a1)] (.tup (.cons .sl (.cons (.int .i64) .nil))) fun r152 =>
 brB (r2.2.2.1 != (0 : Int))
 (K false)
 (callT Try.prog fn_salvorlaw02_Ints #[(.slice r2.1.a r2.1.len r2.1.cap)] .sl fun r153 =>
 callT Try.prog fn_salvorref02_Norm #[(.slice a0.a a0.len a0.cap)] .sl fun r154 =>
 callT Try.prog fn_slices_Equal_int_int #[(.slice r153.a r153.len r153.cap), (.slice r154.a r154.len r154.cap)] .bool fun r155 =>
 brB (!r155)
 (K false)
 (callT Try.prog fn_salvorref02_Always #[(.slice a0.a a0.len a0.cap)] .bool fun r156 =>
 brB (!(r2.2.1 == r156))
 (K false)
 (callT Try.prog fn_clauses_Normal #[(.slice r0.a r0.len r0.cap)] .bool fun r157 =>
 callT Try.prog fn_salvorref02_Norm #[(.slice a0.a a0.len a0.cap)] .sl fun r158 =>
 callT Try.prog fn_slices_Equal_int_int #[(.slice a0.a a0.len a0.cap), (.slice r158.a r158.len r158.cap)] .bool fun r159 =>
 brB (!(r157 == r159))
 (K false)
 (brB (r3.2.1 != r152.2.1)
 (K false)
 (callT Try.prog fn_salvorlaw02_Ints #[(.slice r3.1.a r3.1.len r3.1.cap)] .sl fun r160 =>
 callT Try.prog fn_slices_Equal_int_int #[(.slice r160.a r160.len r160.cap), (.slice r152.1.a r152.1.len r152.1.cap)] .bool fun r161 =>
 brB (!r161)
 (K false)
 (lfp (σ := (Int × Unit)) (fun X162 s163 => /-  -/
 brB (decide (s163.1 < (r2.1.len : Int)))
 (sx r2.1.a r2.1.len s163.1 1 fun p164 =>
 st1 p164 (.int .i64 (0 : Int)) <|
 X162 ((IntKind.wrap .i64 (s163.1 + (1 : Int))), ()))
 (lfp (σ := (Int × Unit)) (fun X165 s166 => /-  -/
 brB (decide (s166.1 < (r3.1.len : Int)))
 (sx r3.1.a r3.1.len s166.1 1 fun p167 =>
 st1 p167 (.int .i64 (0 : Int)) <|
 X165 ((IntKind.wrap .i64 (s166.1 + (1 : Int))), ()))
 (callT Try.prog fn_salvorlaw02_Ints #[(.slice r0.a r0.len r0.cap)] .sl fun r168 =>
 callT Try.prog fn_slices_Equal_int_int #[(.slice r168.a r168.len r168.cap), (.slice a0.a a0.len a0.cap)] .bool fun r169 =>
 K r169))
 ((0 : Int), ())))
 ((0 : Int), ())))))))))))
 (brB (!(r147 == false))
 (K false)
 (callT Try.prog fn_salvorlaw02_Ints #[(.slice r0.a r0.len r0.cap)] .sl fun r170 =>
 callT Try.prog fn_slices_Equal_int_int #[(.slice r170.a r170.len r170.cap), (.slice a0.a a0.len a0.cap)] .bool fun r171 =>
 brB (!r171)
 (K false)
 (brB (!r1)
 (callT Try.prog fn_clauses_Normal #[(.slice r0.a r0.len r0.cap)] .bool fun r172 =>
 brB (!r172)
 (brB ((IntKind.wrap .i64 ((r2.1.len : Int) + (r3.1.len : Int))) == (0 : Int))
 (brB (!r2.2.1)
 (brB (r2.2.2.1 == (20 : Int))
 (K (r3.2.1 == r2.2.2.1))
 (K false))
 (K false))
 (K false))
 (K false))
 (callT Try.prog fn_salvorref02_Without #[(.slice a0.a a0.len a0.cap), (.int .i64 a1)] (.tup (.cons .sl (.cons (.int .i64) .nil))) fun r173 =>
 brB (r2.2.2.1 != (0 : Int))
 (K false)
 (callT Try.prog fn_salvorlaw02_Ints #[(.slice r2.1.a r2.1.len r2.1.cap)] .sl fun r174 =>
 callT Try.prog fn_salvorref02_Norm #[(.slice a0.a a0.len a0.cap)] .sl fun r175 =>
 callT Try.prog fn_slices_Equal_int_int #[(.slice r174.a r174.len r174.cap), (.slice r175.a r175.len r175.cap)] .bool fun r176 =>
 brB (!r176)
 (K false)
 (callT Try.prog fn_salvorref02_Always #[(.slice a0.a a0.len a0.cap)] .bool fun r177 =>
 brB (!(r2.2.1 == r177))
 (K false)
 (callT Try.prog fn_clauses_Normal #[(.slice r0.a r0.len r0.cap)] .bool fun r178 =>
 callT Try.prog fn_salvorref02_Norm #[(.slice a0.a a0.len a0.cap)] .sl fun r179 =>
 callT Try.prog fn_slices_Equal_int_int #[(.slice a0.a a0.len a0.cap), (.slice r179.a r179.len r179.cap)] .bool fun r180 =>
 brB (!(r178 == r180))
 (K false)
 (brB (r3.2.1 != r173.2.1)
 (K false)
 (callT Try.prog fn_salvorlaw02_Ints #[(.slice r3.1.a r3.1.len r3.1.cap)] .sl fun r181 =>
 callT Try.prog fn_slices_Equal_int_int #[(.slice r181.a r181.len r181.cap), (.slice r173.1.a r173.1.len r173.1.cap)] .bool fun r182 =>
 brB (!r182)
 (K false)
 (lfp (σ := (Int × Unit)) (fun X183 s184 => /-  -/
 brB (decide (s184.1 < (r2.1.len : Int)))
 (sx r2.1.a r2.1.len s184.1 1 fun p185 =>
 st1 p185 (.int .i64 (0 : Int)) <|
 X183 ((IntKind.wrap .i64 (s184.1 + (1 : Int))), ()))
 (lfp (σ := (Int × Unit)) (fun X186 s187 => /-  -/
 brB (decide (s187.1 < (r3.1.len : Int)))
 (sx r3.1.a r3.1.len s187.1 1 fun p188 =>
 st1 p188 (.int .i64 (0 : Int)) <|
 X186 ((IntKind.wrap .i64 (s187.1 + (1 : Int))), ()))
 (callT Try.prog fn_salvorlaw02_Ints #[(.slice r0.a r0.len r0.cap)] .sl fun r189 =>
 callT Try.prog fn_slices_Equal_int_int #[(.slice r189.a r189.len r189.cap), (.slice a0.a a0.len a0.cap)] .bool fun r190 =>
 K r190))
 ((0 : Int), ())))
 ((0 : Int), ()))))))))))))))))
set_option maxRecDepth 100000 in
theorem E_salvorlaw02_one (a0 : Sl) (a1 : Int) (a2 : Sl) (K : Bool → HP) (h : Heap) : fnVC Try.prog [(1000000, .nil)] 173 Try.f22 [(.slice a0.a a0.len a0.cap), (.int .i64 a1), (.slice a2.a a2.len a2.cap)] .bool K h = F_salvorlaw02_one a0 a1 a2 K h := by kernel_rfl
set_option maxRecDepth 100000 in
theorem S_salvorlaw02_one{h : Heap} {a0 : Sl} {a1 : Int} {a2 : Sl} (K : Bool → HP) (hF : F_salvorlaw02_one a0 a1 a2 K h) : CallsH Try.prog fn_salvorlaw02_one #[(.slice a0.a a0.len a0.cap), (.int .i64 a1), (.slice a2.a a2.len a2.cap)] h fun v h' => ∃ x : Bool, v = Ty.enc .bool x ∧ K x h' :=
  callsH_of_fn (P := Try.prog) (fn := Try.f22) (τ := .bool) follows Try.func22 (by kernel_rfl) (by kernel_rfl) Try.call22 (Eq.mpr (E_salvorlaw02_one a0 a1 a2 K h) hF)


/-- salvor/salvorlaw02.pair -/
def F_salvorlaw02_pair (a0 : Sl) (a1 : Sl) (a2 : Int) (K : Bool → HP) : HP :=
 callT Try.prog fn_salvorlaw02_Clause #[(.slice a0.a a0.len a0.cap)] .sl fun r0 =>
 callT Try.prog fn_salvorlaw02_Clause #[(.slice a1.a a1.len a1.cap)] .sl fun r1 =>
 callT Try.prog fn_clauses_Union #[(.slice r0.a r0.len r0.cap), (.slice r1.a r1.len r1.cap)] (.tup (.cons .sl (.cons (.int .i64) .nil))) fun r2 =>
 callT Try.prog fn_clauses_Clashes #[(.slice r0.a r0.len r0.cap), (.slice r1.a r1.len r1.cap)] (.tup (.cons .sl (.cons (.int .i64) .nil))) fun r3 =>
 callT Try.prog fn_clauses_Resolve #[(.slice r0.a r0.len r0.cap), (.slice r1.a r1.len r1.cap), (.int .i64 a2)] (.tup (.cons .sl (.cons (.int .i64) .nil))) fun r4 =>
 callT Try.prog fn_salvorlaw02_Ints #[(.slice r0.a r0.len r0.cap)] .sl fun r5 =>
 callT Try.prog fn_slices_Equal_int_int #[(.slice r5.a r5.len r5.cap), (.slice a0.a a0.len a0.cap)] .bool fun r6 =>
 brB (!r6)
 (K false)
 (callT Try.prog fn_salvorlaw02_Ints #[(.slice r1.a r1.len r1.cap)] .sl fun r7 =>
 callT Try.prog fn_slices_Equal_int_int #[(.slice r7.a r7.len r7.cap), (.slice a1.a a1.len a1.cap)] .bool fun r8 =>
 brB (!r8)
 (K false)
 (callT Try.prog fn_salvorref02_Right #[(.slice a0.a a0.len a0.cap)] .bool fun r9 =>
 brB (!r9)
 (callT Try.prog fn_clauses_Same #[(.slice r0.a r0.len r0.cap), (.slice r1.a r1.len r1.cap)] .bool fun r10 =>
 brB (!r10)
 (callT Try.prog fn_clauses_Within #[(.slice r0.a r0.len r0.cap), (.slice r1.a r1.len r1.cap)] .bool fun r11 =>
 brB (!r11)
 (callT Try.prog fn_clauses_Compare #[(.slice r0.a r0.len r0.cap), (.slice r1.a r1.len r1.cap)] (.int .i64) fun r12 =>
 brB (r12 == (0 : Int))
 (brB ((IntKind.wrap .i64 ((IntKind.wrap .i64 ((r2.1.len : Int) + (r3.1.len : Int))) + (r4.1.len : Int))) == (0 : Int))
 (brB (r2.2.1 == (20 : Int))
 (brB (r3.2.1 == r2.2.1)
 (K (r4.2.1 == r2.2.1))
 (K false))
 (K false))
 (K false))
 (K false))
 (K false))
 (K false))
 (callT Try.prog fn_salvorref02_Right #[(.slice a1.a a1.len a1.cap)] .bool fun r13 =>
 brB (!r13)
 (callT Try.prog fn_clauses_Same #[(.slice r0.a r0.len r0.cap), (.slice r1.a r1.len r1.cap)] .bool fun r14 =>
 brB (!r14)
 (callT Try.prog fn_clauses_Within #[(.slice r0.a r0.len r0.cap), (.slice r1.a r1.len r1.cap)] .bool fun r15 =>
 brB (!r15)
 (callT Try.prog fn_clauses_Compare #[(.slice r0.a r0.len r0.cap), (.slice r1.a r1.len r1.cap)] (.int .i64) fun r16 =>
 brB (r16 == (0 : Int))
 (brB ((IntKind.wrap .i64 ((IntKind.wrap .i64 ((r2.1.len : Int) + (r3.1.len : Int))) + (r4.1.len : Int))) == (0 : Int))
 (brB (r2.2.1 == (20 : Int))
 (brB (r3.2.1 == r2.2.1)
 (K (r4.2.1 == r2.2.1))
 (K false))
 (K false))
 (K false))
 (K false))
 (K false))
 (K false))
 (callT Try.prog fn_salvorref02_Union #[(.slice a0.a a0.len a0.cap), (.slice a1.a a1.len a1.cap)] (.tup (.cons .sl (.cons (.int .i64) .nil))) fun r17 =>
 callT Try.prog fn_salvorref02_Resolve #[(.slice a0.a a0.len a0.cap), (.slice a1.a a1.len a1.cap), (.int .i64 a2)] (.tup (.cons .sl (.cons (.int .i64) .nil))) fun r18 =>
 callT Try.prog fn_salvorref02_Compare #[(.slice a0.a a0.len a0.cap), (.slice a1.a a1.len a1.cap)] (.int .i64) fun r19 =>
 callT Try.prog fn_clauses_Same #[(.slice r0.a r0.len r0.cap), (.slice r1.a r1.len r1.cap)] .bool fun r20 =>
 brB (r20 == (r19 == (0 : Int)))
 (callT Try.prog fn_clauses_Within #[(.slice r0.a r0.len r0.cap), (.slice r1.a r1.len r1.cap)] .bool fun r21 =>
 callT Try.prog fn_salvorref02_Within #[(.slice a0.a a0.len a0.cap), (.slice a1.a a1.len a1.cap)] .bool fun r22 =>
 brB (r21 == r22)
 (callT Try.prog fn_clauses_Compare #[(.slice r0.a r0.len r0.cap), (.slice r1.a r1.len r1.cap)] (.int .i64) fun r23 =>
 brB (r23 == r19)
 (callT Try.prog fn_salvorlaw02_Ints #[(.slice r2.1.a r2.1.len r2.1.cap)] .sl fun r24 =>
 callT Try.prog fn_slices_Equal_int_int #[(.slice r24.a r24.len r24.cap), (.slice r17.1.a r17.1.len r17.1.cap)] .bool fun r25 =>
 brB r25
 (brB (r2.2.1 == r17.2.1)
 (callT Try.prog fn_salvorlaw02_Ints #[(.slice r3.1.a r3.1.len r3.1.cap)] .sl fun r26 =>
 callT Try.prog fn_salvorref02_Clashes #[(.slice a0.a a0.len a0.cap), (.slice a1.a a1.len a1.cap)] .sl fun r27 =>
 callT Try.prog fn_slices_Equal_int_int #[(.slice r26.a r26.len r26.cap), (.slice r27.a r27.len r27.cap)] .bool fun r28 =>
 brB r28
 (brB (r3.2.1 == (0 : Int))
 (callT Try.prog fn_salvorlaw02_Ints #[(.slice r4.1.a r4.1.len r4.1.cap)] .sl fun r29 =>
 callT Try.prog fn_slices_Equal_int_int #[(.slice r29.a r29.len r29.cap), (.slice r18.1.a r18.1.len r18.1.cap)] .bool fun r30 =>
 brB r30
 (K (r4.2.1 == r18.2.1))
 (K false))
 (K false))
 (K false))
 (K false))
 (K false))
 (K false))
 (K false))
 (K false)))))
set_option maxRecDepth 100000 in
theorem E_salvorlaw02_pair (a0 : Sl) (a1 : Sl) (a2 : Int) (K : Bool → HP) (h : Heap) : fnVC Try.prog [(1000000, .nil)] 176 Try.f23 [(.slice a0.a a0.len a0.cap), (.slice a1.a a1.len a1.cap), (.int .i64 a2)] .bool K h = F_salvorlaw02_pair a0 a1 a2 K h := by kernel_rfl
set_option maxRecDepth 100000 in
theorem S_salvorlaw02_pair{h : Heap} {a0 : Sl} {a1 : Sl} {a2 : Int} (K : Bool → HP) (hF : F_salvorlaw02_pair a0 a1 a2 K h) : CallsH Try.prog fn_salvorlaw02_pair #[(.slice a0.a a0.len a0.cap), (.slice a1.a a1.len a1.cap), (.int .i64 a2)] h fun v h' => ∃ x : Bool, v = Ty.enc .bool x ∧ K x h' :=
  callsH_of_fn (P := Try.prog) (fn := Try.f23) (τ := .bool) follows Try.func23 (by kernel_rfl) (by kernel_rfl) Try.call23 (Eq.mpr (E_salvorlaw02_pair a0 a1 a2 K h) hF)


/-- salvor/clauses.Union -/
def F_clauses_Union (a0 : Sl) (a1 : Sl) (K : (Sl × (Int × Unit)) → HP) : HP :=
 callT Try.prog fn_clauses_Right #[(.slice a0.a a0.len a0.cap)] .bool fun r0 =>
 brB (!r0)
 (K (⟨none, 0, 0⟩, (20 : Int), ()))
 (callT Try.prog fn_clauses_Right #[(.slice a1.a a1.len a1.cap)] .bool fun r1 =>
 brB (!r1)
 (K (⟨none, 0, 0⟩, (20 : Int), ()))
 (nw #[(.slice a0.a a0.len a0.cap), (.slice a1.a a1.len a1.cap)] ty_clauses_Clause fun b2 =>
 callT Try.prog fn_slices_Concat_clauses_Clause_lits_Lit #[(.slice (some (⟨b2, 0, none⟩ : Addr)) 2 2)] .sl fun r3 =>
 callT Try.prog fn_clauses_normal #[(.slice r3.a r3.len r3.cap)] .sl fun r4 =>
 brB (decide ((r4.len : Int) > (4096 : Int)))
 (K (⟨none, 0, 0⟩, (5 : Int), ()))
 (K (⟨r4.a, r4.len, r4.cap⟩, (0 : Int), ()))))
set_option maxRecDepth 100000 in
theorem E_clauses_Union (a0 : Sl) (a1 : Sl) (K : (Sl × (Int × Unit)) → HP) (h : Heap) : fnVC Try.prog [(1000000, .nil)] 24 Try.f24 [(.slice a0.a a0.len a0.cap), (.slice a1.a a1.len a1.cap)] (.tup (.cons .sl (.cons (.int .i64) .nil))) K h = F_clauses_Union a0 a1 K h := by kernel_rfl
set_option maxRecDepth 100000 in
theorem S_clauses_Union{h : Heap} {a0 : Sl} {a1 : Sl} (K : (Sl × (Int × Unit)) → HP) (hF : F_clauses_Union a0 a1 K h) : CallsH Try.prog fn_clauses_Union #[(.slice a0.a a0.len a0.cap), (.slice a1.a a1.len a1.cap)] h fun v h' => ∃ x : (Sl × (Int × Unit)), v = Ty.enc (.tup (.cons .sl (.cons (.int .i64) .nil))) x ∧ K x h' :=
  callsH_of_fn (P := Try.prog) (fn := Try.f24) (τ := (.tup (.cons .sl (.cons (.int .i64) .nil)))) follows Try.func24 (by kernel_rfl) (by kernel_rfl) Try.call24 (Eq.mpr (E_clauses_Union a0 a1 K h) hF)


end Go.Proofs.S
