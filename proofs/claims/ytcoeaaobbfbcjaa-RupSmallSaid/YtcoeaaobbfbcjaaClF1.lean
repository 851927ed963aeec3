/- The functions of the seat, each as a predicate over its values, printed by a program of ours, and that each is its text's. -/
import Derived.Test.YtcoeaaobbfbcjaaSx10
import Derived.KernelRfl
import Derived.Test.YtcoeaaobbfbcjaaProg
import Derived.Test.YtcoeaaobbfbcjaaClF0
set_option linter.unusedVariables false
namespace Go.Proofs.S
open Go Go.Sx Go.Proofs
/-- salvor/salvorlaw08.RupSound -/
def F_salvorlaw08_RupSound (a0 : Sl) (a1 : Sl) (K : Bool → HP) : HP :=
 callT Try.prog fn_salvorlaw08_awake #[] .bool fun r0 =>
 brB (!r0)
 (K false)
 (callT Try.prog fn_salvorlaw08_Made #[(.slice a0.a a0.len a0.cap)] .sl fun r1 =>
 callT Try.prog fn_salvorlaw08_All #[(.slice a1.a a1.len a1.cap), (.int .i64 (14 : Int))] .sl fun r2 =>
 callT Try.prog fn_rup_Check #[(.slice r1.a r1.len r1.cap), (.slice r2.a r2.len r2.cap)] (.tup (.cons (.int .i64) (.cons (.int .i64) .nil))) fun r3 =>
 callT Try.prog fn_rup_Find #[(.slice r1.a r1.len r1.cap), (.slice r2.a r2.len r2.cap)] (.tup (.cons .sl (.cons .bool (.cons (.int .i64) .nil)))) fun r4 =>
 jn (σ := Bool) (fun t6 =>
 brB t6
 (K false)
 (lfp (σ := (Int × (Bool × Unit))) (fun X7 s8 => /- bits  -/
 brB (decide (s8.1 < (128 : Int)))
 (jn (σ := Bool) (fun t10 =>
 jn (σ := Bool) (fun t12 =>
 jn (σ := Bool) (fun t14 =>
 brB t14
 (K false)
 (X7 ((IntKind.wrap .i64 (s8.1 + (2 : Int))), s8.2.1, ())))
 (fun J13 =>
 brB t12
 (J13 true)
 (jn (σ := Bool) (fun t16 =>
 jn (σ := Bool) (fun t18 =>
 J13 (t18))
 (fun J17 =>
 brB t16
 (callT Try.prog fn_salvorlaw08_True #[(.slice r1.a r1.len r1.cap), (.int .i64 s8.1)] .bool fun r19 =>
 J17 ((!r19)))
 (J17 false)))
 (fun J15 =>
 brB r4.2.1
 (callT Try.prog fn_salvorlaw08_AllTrue #[(.slice r2.a r2.len r2.cap), (.int .i64 s8.1)] .bool fun r20 =>
 J15 (r20))
 (J15 false)))))
 (fun J11 =>
 brB t10
 (callT Try.prog fn_salvorlaw08_True #[(.slice r1.a r1.len r1.cap), (.int .i64 s8.1)] .bool fun r21 =>
 J11 ((!r21)))
 (J11 false)))
 (fun J9 =>
 brB (r3.2.1 == (0 : Int))
 (slH ⟨r2.a, r2.len, r2.cap⟩ r3.1 1 fun s22 =>
 callT Try.prog fn_salvorlaw08_AllTrue #[(.slice s22.a s22.len s22.cap), (.int .i64 s8.1)] .bool fun r23 =>
 J9 (r23))
 (J9 false)))
 (jn (σ := Bool) (fun t25 =>
 K t25)
 (fun J24 =>
 brB (r3.2.1 != (0 : Int))
 (J24 true)
 (jn (σ := Bool) (fun t27 =>
 J24 (t27))
 (fun J26 =>
 brB r4.2.1
 (jn (σ := Bool) (fun t29 =>
 J26 (t29))
 (fun J28 =>
 brB (decide ((r4.1.len : Int) > (0 : Int)))
 (J28 true)
 (callT Try.prog fn_clauses_Always #[(.slice r1.a r1.len r1.cap)] .bool fun r30 =>
 J28 (r30))))
 (J26 false))))))
 ((0 : Int), false, ())))
 (fun J5 =>
 brB (r4.2.2.1 != (0 : Int))
 (J5 true)
 (jn (σ := Bool) (fun t32 =>
 J5 (t32))
 (fun J31 =>
 brB (r3.2.1 == (0 : Int))
 (jn (σ := Bool) (fun t34 =>
 J31 (t34))
 (fun J33 =>
 brB (decide (r3.1 < (0 : Int)))
 (J33 true)
 (J33 ((decide (r3.1 > (r2.len : Int)))))))
 (J31 false)))))
set_option maxRecDepth 100000 in
theorem E_salvorlaw08_RupSound (a0 : Sl) (a1 : Sl) (K : Bool → HP) (h : Heap) : fnVC Try.prog [(1000000, .bool)] 95 Try.f3 [(.slice a0.a a0.len a0.cap), (.slice a1.a a1.len a1.cap)] .bool K h = F_salvorlaw08_RupSound a0 a1 K h := by kernel_rfl
set_option maxRecDepth 100000 in
theorem S_salvorlaw08_RupSound{h : Heap} {a0 : Sl} {a1 : Sl} (K : Bool → HP) (hF : F_salvorlaw08_RupSound a0 a1 K h) : CallsH Try.prog fn_salvorlaw08_RupSound #[(.slice a0.a a0.len a0.cap), (.slice a1.a a1.len a1.cap)] h fun v h' => ∃ x : Bool, v = Ty.enc .bool x ∧ K x h' :=
  callsH_of_fn (P := Try.prog) (fn := Try.f3) (τ := .bool) follows Try.func3 (by kernel_rfl) (by kernel_rfl) Try.call3 (Eq.mpr (E_salvorlaw08_RupSound a0 a1 K h) hF)


/-- salvor/salvorlaw08.RupLooks -/
def F_salvorlaw08_RupLooks (a0 : Sl) (a1 : Sl) (K : Bool → HP) : HP :=
 jn (σ := Bool) (fun t1 =>
 jn (σ := Bool) (fun t3 =>
 jn (σ := Bool) (fun t5 =>
 K t5)
 (fun J4 =>
 brB t3
 (callT Try.prog fn_salvorlaw08_awake #[] .bool fun r6 =>
 J4 (r6))
 (J4 false)))
 (fun J2 =>
 brB t1
 (J2 true)
 (callT Try.prog fn_salvorlaw08_looks #[(.slice a0.a a0.len a0.cap), (.slice a1.a a1.len a1.cap)] .bool fun r7 =>
 J2 (r7))))
 (fun J0 =>
 brB (decide ((a0.len : Int) > (60 : Int)))
 (J0 true)
 (J0 ((decide ((a1.len : Int) > (60 : Int))))))
set_option maxRecDepth 100000 in
theorem E_salvorlaw08_RupLooks (a0 : Sl) (a1 : Sl) (K : Bool → HP) (h : Heap) : fnVC Try.prog [(1000000, .bool)] 21 Try.f4 [(.slice a0.a a0.len a0.cap), (.slice a1.a a1.len a1.cap)] .bool K h = F_salvorlaw08_RupLooks a0 a1 K h := by kernel_rfl
set_option maxRecDepth 100000 in
theorem S_salvorlaw08_RupLooks{h : Heap} {a0 : Sl} {a1 : Sl} (K : Bool → HP) (hF : F_salvorlaw08_RupLooks a0 a1 K h) : CallsH Try.prog fn_salvorlaw08_RupLooks #[(.slice a0.a a0.len a0.cap), (.slice a1.a a1.len a1.cap)] h fun v h' => ∃ x : Bool, v = Ty.enc .bool x ∧ K x h' :=
  callsH_of_fn (P := Try.prog) (fn := Try.f4) (τ := .bool) follows Try.func4 (by kernel_rfl) (by kernel_rfl) Try.call4 (Eq.mpr (E_salvorlaw08_RupLooks a0 a1 K h) hF)


/-- salvor/salvorlaw08.RupNone -/
def F_salvorlaw08_RupNone (a0 : Sl) (a1 : Sl) (a2 : Sl) (K : Bool → HP) : HP :=
 callT Try.prog fn_salvorlaw08_awake #[] .bool fun r0 =>
 brB (!r0)
 (K false)
 (callT Try.prog fn_salvorlaw08_Made #[(.slice a0.a a0.len a0.cap)] .sl fun r1 =>
 callT Try.prog fn_salvorlaw08_All #[(.slice a1.a a1.len a1.cap), (.int .i64 (14 : Int))] .sl fun r2 =>
 callT Try.prog fn_rup_Find #[(.slice r1.a r1.len r1.cap), (.slice r2.a r2.len r2.cap)] (.tup (.cons .sl (.cons .bool (.cons (.int .i64) .nil)))) fun r3 =>
 jn (σ := Bool) (fun t5 =>
 brB t5
 (K (r3.2.2.1 == (0 : Int)))
 (slH ⟨a2.a, a2.len, a2.cap⟩ (if (20 : Int) < (a2.len : Int) then (20 : Int) else (a2.len : Int)) 1 fun s6 =>
 lfp (σ := (Int × (Sl × Unit))) (fun X7 s8 => /-  hints -/
 brB (decide (s8.1 < (s6.len : Int)))
 (sx s6.a s6.len s8.1 1 fun p9 =>
 ldT (.int .u8) p9 fun x10 =>
 jn (σ := (Sl × Unit)) (fun s12 => /- hints -/
 X7 ((IntKind.wrap .i64 (s8.1 + (1 : Int))), ⟨s12.1.a, s12.1.len, s12.1.cap⟩, ()))
 (fun J11 =>
 brB (decide ((r2.len : Int) > (0 : Int)))
 (nz (r2.len : Int) <|
 sx r2.a r2.len (Int.tmod (IntKind.wrap .i64 x10) (r2.len : Int)) 1 fun p13 =>
 ldT .sl p13 fun x14 =>
 nw #[(.slice x14.a x14.len x14.cap)] ty_clauses_Clause fun b15 =>
 apd ty_clauses_Clause 1 24 #[(.slice none 0 0)] ⟨s8.2.1.a, s8.2.1.len, s8.2.1.cap⟩ ⟨(some (⟨b15, 0, none⟩ : Addr)), 1, 1⟩ fun s16 =>
 J11 (⟨s16.a, s16.len, s16.cap⟩, ()))
 (J11 (⟨s8.2.1.a, s8.2.1.len, s8.2.1.cap⟩, ()))))
 (callT Try.prog fn_rup_Check #[(.slice r1.a r1.len r1.cap), (.slice s8.2.1.a s8.2.1.len s8.2.1.cap)] (.tup (.cons (.int .i64) (.cons (.int .i64) .nil))) fun r17 =>
 brB (r17.2.1 == (0 : Int))
 (K false)
 (callT Try.prog fn_rup_Assume #[(.slice r1.a r1.len r1.cap)] (.tup (.cons .sl (.cons .bool (.cons (.int .i64) .nil)))) fun r18 =>
 jn (σ := Bool) (fun t20 =>
 brB t20
 (K false)
 (lfp (σ := (Int × (Sl × (Bool × Unit)))) (fun X21 s22 => /-  assigned  -/
 brB (decide (s22.1 < (8 : Int)))
 (lfp (σ := (Int × (Sl × (Bool × Unit)))) (fun X23 s24 => /-  assigned  -/
 brB (decide (s24.1 < (r2.len : Int)))
 (sx r2.a r2.len s24.1 1 fun p25 =>
 ldT .sl p25 fun x26 =>
 callT Try.prog fn_rup_Look #[(.slice x26.a x26.len x26.cap), (.slice s24.2.1.a s24.2.1.len s24.2.1.cap)] (.tup (.cons (.int .u8) (.cons (.int .i64) (.cons (.int .i64) .nil)))) fun r27 =>
 jn (σ := Bool) (fun t29 =>
 brB t29
 (K false)
 (jn (σ := (Sl × Unit)) (fun s31 => /- assigned -/
 X23 ((IntKind.wrap .i64 (s24.1 + (1 : Int))), ⟨s31.1.a, s31.1.len, s31.1.cap⟩, s24.2.2.1, ()))
 (fun J30 =>
 brB (r27.1 == (3 : Int))
 (nw #[(.int .i64 r27.2.1)] ty_lits_Lit fun b32 =>
 apd ty_lits_Lit 1 8 #[(.int .i64 (0 : Int))] ⟨s24.2.1.a, s24.2.1.len, s24.2.1.cap⟩ ⟨(some (⟨b32, 0, none⟩ : Addr)), 1, 1⟩ fun s33 =>
 J30 (⟨s33.a, s33.len, s33.cap⟩, ()))
 (J30 (⟨s24.2.1.a, s24.2.1.len, s24.2.1.cap⟩, ())))))
 (fun J28 =>
 brB (r27.2.2.1 != (0 : Int))
 (J28 true)
 (J28 ((r27.1 == (2 : Int))))))
 (X21 ((IntKind.wrap .i64 (s22.1 + (1 : Int))), ⟨s24.2.1.a, s24.2.1.len, s24.2.1.cap⟩, s24.2.2.1, ())))
 ((0 : Int), ⟨s22.2.1.a, s22.2.1.len, s22.2.1.cap⟩, s22.2.2.1, ()))
 (callT Try.prog fn_rup_Right #[(.slice s22.2.1.a s22.2.1.len s22.2.1.cap)] .bool fun r34 =>
 K r34))
 ((0 : Int), ⟨r18.1.a, r18.1.len, r18.1.cap⟩, false, ())))
 (fun J19 =>
 brB (r18.2.2.1 != (0 : Int))
 (J19 true)
 (J19 (r18.2.1))))))
 ((0 : Int), ⟨none, 0, 0⟩, ())))
 (fun J4 =>
 brB (r3.2.2.1 != (0 : Int))
 (J4 true)
 (J4 (r3.2.1))))
set_option maxRecDepth 100000 in
theorem E_salvorlaw08_RupNone (a0 : Sl) (a1 : Sl) (a2 : Sl) (K : Bool → HP) (h : Heap) : fnVC Try.prog [(1000000, .bool)] 119 Try.f5 [(.slice a0.a a0.len a0.cap), (.slice a1.a a1.len a1.cap), (.slice a2.a a2.len a2.cap)] .bool K h = F_salvorlaw08_RupNone a0 a1 a2 K h := by kernel_rfl
set_option maxRecDepth 100000 in
theorem S_salvorlaw08_RupNone{h : Heap} {a0 : Sl} {a1 : Sl} {a2 : Sl} (K : Bool → HP) (hF : F_salvorlaw08_RupNone a0 a1 a2 K h) : CallsH Try.prog fn_salvorlaw08_RupNone #[(.slice a0.a a0.len a0.cap), (.slice a1.a a1.len a1.cap), (.slice a2.a a2.len a2.cap)] h fun v h' => ∃ x : Bool, v = Ty.enc .bool x ∧ K x h' :=
  callsH_of_fn (P := Try.prog) (fn := Try.f5) (τ := .bool) follows Try.func5 (by kernel_rfl) (by kernel_rfl) Try.call5 (Eq.mpr (E_salvorlaw08_RupNone a0 a1 a2 K h) hF)


/-- salvor/salvorlaw08.RupFinds -/
def F_salvorlaw08_RupFinds (a0 : Sl) (a1 : Sl) (K : Bool → HP) : HP :=
 jn (σ := Bool) (fun t1 =>
 jn (σ := Bool) (fun t3 =>
 jn (σ := Bool) (fun t5 =>
 K t5)
 (fun J4 =>
 brB t3
 (callT Try.prog fn_salvorlaw08_awake #[] .bool fun r6 =>
 J4 (r6))
 (J4 false)))
 (fun J2 =>
 brB t1
 (J2 true)
 (callT Try.prog fn_salvorlaw08_finds #[(.slice a0.a a0.len a0.cap), (.slice a1.a a1.len a1.cap)] .bool fun r7 =>
 J2 (r7))))
 (fun J0 =>
 brB (decide ((a0.len : Int) > (20 : Int)))
 (J0 true)
 (callT Try.prog fn_salvorlaw08_Few #[(.slice a1.a a1.len a1.cap), (.int .i64 (30 : Int)), (.int .i64 (12 : Int))] .bool fun r8 =>
 J0 ((!r8))))
set_option maxRecDepth 100000 in
theorem E_salvorlaw08_RupFinds (a0 : Sl) (a1 : Sl) (K : Bool → HP) (h : Heap) : fnVC Try.prog [(1000000, .bool)] 21 Try.f6 [(.slice a0.a a0.len a0.cap), (.slice a1.a a1.len a1.cap)] .bool K h = F_salvorlaw08_RupFinds a0 a1 K h := by kernel_rfl
set_option maxRecDepth 100000 in
theorem S_salvorlaw08_RupFinds{h : Heap} {a0 : Sl} {a1 : Sl} (K : Bool → HP) (hF : F_salvorlaw08_RupFinds a0 a1 K h) : CallsH Try.prog fn_salvorlaw08_RupFinds #[(.slice a0.a a0.len a0.cap), (.slice a1.a a1.len a1.cap)] h fun v h' => ∃ x : Bool, v = Ty.enc .bool x ∧ K x h' :=
  callsH_of_fn (P := Try.prog) (fn := Try.f6) (τ := .bool) follows Try.func6 (by kernel_rfl) (by kernel_rfl) Try.call6 (Eq.mpr (E_salvorlaw08_RupFinds a0 a1 K h) hF)


/-- salvor/salvorlaw08.RupMore -/
def F_salvorlaw08_RupMore (a0 : Sl) (a1 : Sl) (a2 : Sl) (a3 : Sl) (a4 : Int) (K : Bool → HP) : HP :=
 callT Try.prog fn_salvorlaw08_awake #[] .bool fun r0 =>
 brB (!r0)
 (K false)
 (callT Try.prog fn_salvorlaw08_Made #[(.slice a0.a a0.len a0.cap)] .sl fun r1 =>
 callT Try.prog fn_salvorlaw08_All #[(.slice a2.a a2.len a2.cap), (.int .i64 (10 : Int))] .sl fun r2 =>
 callT Try.prog fn_rup_Find #[(.slice r1.a r1.len r1.cap), (.slice r2.a r2.len r2.cap)] (.tup (.cons .sl (.cons .bool (.cons (.int .i64) .nil)))) fun r3 =>
 callT Try.prog fn_salvorlaw08_All #[(.slice a3.a a3.len a3.cap), (.int .i64 (5 : Int))] .sl fun r4 =>
 nw #[(.slice r4.a r4.len r4.cap), (.slice r2.a r2.len r2.cap)] ty_sl_clauses_Clause fun b5 =>
 callT Try.prog fn_slices_Concat_clauses_Clause_clauses_Clause #[(.slice (some (⟨b5, 0, none⟩ : Addr)) 2 2)] .sl fun r6 =>
 callT Try.prog fn_rup_Find #[(.slice r1.a r1.len r1.cap), (.slice r6.a r6.len r6.cap)] (.tup (.cons .sl (.cons .bool (.cons (.int .i64) .nil)))) fun r7 =>
 callT Try.prog fn_salvorlaw08_Made #[(.slice a1.a a1.len a1.cap)] .sl fun r8 =>
 nw #[(.slice r1.a r1.len r1.cap), (.slice r8.a r8.len r8.cap)] ty_clauses_Clause fun b9 =>
 callT Try.prog fn_slices_Concat_clauses_Clause_lits_Lit #[(.slice (some (⟨b9, 0, none⟩ : Addr)) 2 2)] .sl fun r10 =>
 callT Try.prog fn_rup_Find #[(.slice r10.a r10.len r10.cap), (.slice r2.a r2.len r2.cap)] (.tup (.cons .sl (.cons .bool (.cons (.int .i64) .nil)))) fun r11 =>
 jn (σ := Bool) (fun t13 =>
 brB t13
 (K false)
 (brB ((r2.len : Int) == (0 : Int))
 (K true)
 (nz (r2.len : Int) <|
 sx r2.a r2.len (Int.tmod (IntKind.wrap .i64 a4) (r2.len : Int)) 1 fun p14 =>
 ldT .sl p14 fun x15 =>
 callT Try.prog fn_salvorlaw08_Made #[(.slice a1.a a1.len a1.cap)] .sl fun r16 =>
 nw #[(.slice x15.a x15.len x15.cap), (.slice r16.a r16.len r16.cap)] ty_clauses_Clause fun b17 =>
 callT Try.prog fn_slices_Concat_clauses_Clause_lits_Lit #[(.slice (some (⟨b17, 0, none⟩ : Addr)) 2 2)] .sl fun r18 =>
 nw #[(.slice x15.a x15.len x15.cap)] ty_clauses_Clause fun b19 =>
 callT Try.prog fn_rup_Check #[(.slice r18.a r18.len r18.cap), (.slice (some (⟨b19, 0, none⟩ : Addr)) 1 1)] (.tup (.cons (.int .i64) (.cons (.int .i64) .nil))) fun r20 =>
 brB (r20.2.1 != (0 : Int))
 (K false)
 (jn (σ := Bool) (fun t22 =>
 K t22)
 (fun J21 =>
 brB (r20.1 == (1 : Int))
 (J21 true)
 (jn (σ := Bool) (fun t24 =>
 J21 (t24))
 (fun J23 =>
 brB (r20.1 == (0 : Int))
 (callT Try.prog fn_salvorlaw08_Made #[(.slice a1.a a1.len a1.cap)] .sl fun r25 =>
 nw #[(.slice x15.a x15.len x15.cap), (.slice r25.a r25.len r25.cap)] ty_clauses_Clause fun b26 =>
 callT Try.prog fn_slices_Concat_clauses_Clause_lits_Lit #[(.slice (some (⟨b26, 0, none⟩ : Addr)) 2 2)] .sl fun r27 =>
 callT Try.prog fn_clauses_Always #[(.slice r27.a r27.len r27.cap)] .bool fun r28 =>
 J23 (r28))
 (J23 false))))))))
 (fun J12 =>
 brB ((IntKind.wrap .i64 ((IntKind.wrap .i64 (r3.2.2.1 + r7.2.2.1)) + r11.2.2.1)) != (0 : Int))
 (J12 true)
 (jn (σ := Bool) (fun t30 =>
 J12 (t30))
 (fun J29 =>
 brB r3.2.1
 (jn (σ := Bool) (fun t32 =>
 J29 (t32))
 (fun J31 =>
 brB (!r7.2.1)
 (J31 true)
 (J31 ((!r11.2.1)))))
 (J29 false)))))
set_option maxRecDepth 100000 in
theorem E_salvorlaw08_RupMore (a0 : Sl) (a1 : Sl) (a2 : Sl) (a3 : Sl) (a4 : Int) (K : Bool → HP) (h : Heap) : fnVC Try.prog [(1000000, .bool)] 117 Try.f7 [(.slice a0.a a0.len a0.cap), (.slice a1.a a1.len a1.cap), (.slice a2.a a2.len a2.cap), (.slice a3.a a3.len a3.cap), (.int .u8 a4)] .bool K h = F_salvorlaw08_RupMore a0 a1 a2 a3 a4 K h := by kernel_rfl
set_option maxRecDepth 100000 in
theorem S_salvorlaw08_RupMore{h : Heap} {a0 : Sl} {a1 : Sl} {a2 : Sl} {a3 : Sl} {a4 : Int} (K : Bool → HP) (hF : F_salvorlaw08_RupMore a0 a1 a2 a3 a4 K h) : CallsH Try.prog fn_salvorlaw08_RupMore #[(.slice a0.a a0.len a0.cap), (.slice a1.a a1.len a1.cap), (.slice a2.a a2.len a2.cap), (.slice a3.a a3.len a3.cap), (.int .u8 a4)] h fun v h' => ∃ x : Bool, v = Ty.enc .bool x ∧ K x h' :=
  callsH_of_fn (P := Try.prog) (fn := Try.f7) (τ := .bool) follows Try.func7 (by kernel_rfl) (by kernel_rfl) Try.call7 (Eq.mpr (E_salvorlaw08_RupMore a0 a1 a2 a3 a4 K h) hF)


/-- salvor/salvorlaw08.RupFound -/
def F_salvorlaw08_RupFound (a0 : Sl) (a1 : Sl) (K : Bool → HP) : HP :=
 callT Try.prog fn_salvorlaw08_awake #[] .bool fun r0 =>
 brB (!r0)
 (K false)
 (callT Try.prog fn_salvorlaw08_Made #[(.slice a0.a a0.len a0.cap)] .sl fun r1 =>
 callT Try.prog fn_salvorlaw08_All #[(.slice a1.a a1.len a1.cap), (.int .i64 (14 : Int))] .sl fun r2 =>
 callT Try.prog fn_rup_Find #[(.slice r1.a r1.len r1.cap), (.slice r2.a r2.len r2.cap)] (.tup (.cons .sl (.cons .bool (.cons (.int .i64) .nil)))) fun r3 =>
 jn (σ := Bool) (fun t5 =>
 brB t5
 (jn (σ := Bool) (fun t7 =>
 K t7)
 (fun J6 =>
 brB (r3.2.2.1 == (0 : Int))
 (J6 (((r3.1.len : Int) == (0 : Int))))
 (J6 false)))
 (lfp (σ := (Int × (Sl × (Bool × Unit)))) (fun X8 s9 => /-  hints  -/
 brB (decide (s9.1 < (r3.1.len : Int)))
 (sx r3.1.a r3.1.len s9.1 1 fun p10 =>
 ldT (.int .i64) p10 fun x11 =>
 jn (σ := Bool) (fun t13 =>
 jn (σ := Bool) (fun t15 =>
 brB t15
 (K false)
 (sx r2.a r2.len x11 1 fun p16 =>
 ldT .sl p16 fun x17 =>
 nw #[(.slice x17.a x17.len x17.cap)] ty_clauses_Clause fun b18 =>
 apd ty_clauses_Clause 1 24 #[(.slice none 0 0)] ⟨s9.2.1.a, s9.2.1.len, s9.2.1.cap⟩ ⟨(some (⟨b18, 0, none⟩ : Addr)), 1, 1⟩ fun s19 =>
 X8 ((IntKind.wrap .i64 (s9.1 + (1 : Int))), ⟨s19.a, s19.len, s19.cap⟩, s9.2.2.1, ())))
 (fun J14 =>
 brB t13
 (J14 true)
 (slH ⟨r3.1.a, r3.1.len, r3.1.cap⟩ s9.1 1 fun s20 =>
 callT Try.prog fn_slices_Contains_int_int #[(.slice s20.a s20.len s20.cap), (.int .i64 x11)] .bool fun r21 =>
 J14 (r21))))
 (fun J12 =>
 brB (decide (x11 < (0 : Int)))
 (J12 true)
 (J12 ((decide (x11 ≥ (r2.len : Int)))))))
 (callT Try.prog fn_rup_Check #[(.slice r1.a r1.len r1.cap), (.slice s9.2.1.a s9.2.1.len s9.2.1.cap)] (.tup (.cons (.int .i64) (.cons (.int .i64) .nil))) fun r22 =>
 callT Try.prog fn_rup_Trim #[(.slice r1.a r1.len r1.cap), (.slice s9.2.1.a s9.2.1.len s9.2.1.cap)] (.tup (.cons .sl (.cons (.int .i64) .nil))) fun r23 =>
 jn (σ := Bool) (fun t25 =>
 jn (σ := Bool) (fun t27 =>
 brB t27
 (K false)
 (lfp (σ := (Int × (Bool × Unit))) (fun X28 s29 => /-   -/
 brB (decide (s29.1 < (s9.2.1.len : Int)))
 (sx r23.1.a r23.1.len s29.1 1 fun p30 =>
 ldT (.int .i64) p30 fun x31 =>
 brB (x31 != s29.1)
 (K false)
 (callT Try.prog fn_slices_Clone_clauses_Clause_clauses_Clause #[(.slice s9.2.1.a s9.2.1.len s9.2.1.cap)] .sl fun r32 =>
 callT Try.prog fn_slices_Delete_clauses_Clause_clauses_Clause #[(.slice r32.a r32.len r32.cap), (.int .i64 s29.1), (.int .i64 (IntKind.wrap .i64 (s29.1 + (1 : Int))))] .sl fun r33 =>
 callT Try.prog fn_rup_Check #[(.slice r1.a r1.len r1.cap), (.slice r33.a r33.len r33.cap)] (.tup (.cons (.int .i64) (.cons (.int .i64) .nil))) fun r34 =>
 jn (σ := Bool) (fun t36 =>
 brB t36
 (K false)
 (X28 ((IntKind.wrap .i64 (s29.1 + (1 : Int))), s29.2.1, ())))
 (fun J35 =>
 brB (r34.2.1 != (81 : Int))
 (J35 ((r34.2.1 != (82 : Int))))
 (J35 false))))
 (K true))
 ((0 : Int), s9.2.2.1, ())))
 (fun J26 =>
 brB t25
 (J26 true)
 (J26 (((r23.1.len : Int) != r22.1)))))
 (fun J24 =>
 brB ((IntKind.wrap .i64 (r22.2.1 + r23.2.1)) != (0 : Int))
 (J24 true)
 (J24 ((r22.1 != (s9.2.1.len : Int)))))))
 ((0 : Int), ⟨none, 0, 0⟩, false, ())))
 (fun J4 =>
 brB (r3.2.2.1 != (0 : Int))
 (J4 true)
 (J4 ((!r3.2.1)))))
set_option maxRecDepth 100000 in
theorem E_salvorlaw08_RupFound (a0 : Sl) (a1 : Sl) (K : Bool → HP) (h : Heap) : fnVC Try.prog [(1000000, .bool)] 133 Try.f8 [(.slice a0.a a0.len a0.cap), (.slice a1.a a1.len a1.cap)] .bool K h = F_salvorlaw08_RupFound a0 a1 K h := by kernel_rfl
set_option maxRecDepth 100000 in
theorem S_salvorlaw08_RupFound{h : Heap} {a0 : Sl} {a1 : Sl} (K : Bool → HP) (hF : F_salvorlaw08_RupFound a0 a1 K h) : CallsH Try.prog fn_salvorlaw08_RupFound #[(.slice a0.a a0.len a0.cap), (.slice a1.a a1.len a1.cap)] h fun v h' => ∃ x : Bool, v = Ty.enc .bool x ∧ K x h' :=
  callsH_of_fn (P := Try.prog) (fn := Try.f8) (τ := .bool) follows Try.func8 (by kernel_rfl) (by kernel_rfl) Try.call8 (Eq.mpr (E_salvorlaw08_RupFound a0 a1 K h) hF)


/-- salvor/salvorlaw08.RupSteps -/
def F_salvorlaw08_RupSteps (a0 : Sl) (a1 : Sl) (a2 : Int) (K : Bool → HP) : HP :=
 callT Try.prog fn_salvorlaw08_awake #[] .bool fun r0 =>
 brB (!r0)
 (K false)
 (callT Try.prog fn_salvorlaw08_Made #[(.slice a0.a a0.len a0.cap)] .sl fun r1 =>
 callT Try.prog fn_rup_Right #[(.slice r1.a r1.len r1.cap)] .bool fun r2 =>
 brB (!r2)
 (callT Try.prog fn_rup_Follow #[(.slice r1.a r1.len r1.cap), (.slice none 0 0)] (.tup (.cons .sl (.cons (.int .i64) (.cons .bool (.cons (.int .i64) .nil))))) fun r3 =>
 K (r3.2.2.2.1 == (80 : Int)))
 (callT Try.prog fn_salvorlaw08_All #[(.slice a1.a a1.len a1.cap), (.int .i64 (10 : Int))] .sl fun r4 =>
 callT Try.prog fn_rup_Follow #[(.slice r1.a r1.len r1.cap), (.slice r4.a r4.len r4.cap)] (.tup (.cons .sl (.cons (.int .i64) (.cons .bool (.cons (.int .i64) .nil))))) fun r5 =>
 nz (IntKind.wrap .i64 ((r4.len : Int) + (1 : Int))) <|
 slH ⟨r4.a, r4.len, r4.cap⟩ (Int.tmod (IntKind.wrap .i64 a2) (IntKind.wrap .i64 ((r4.len : Int) + (1 : Int)))) 1 fun s6 =>
 callT Try.prog fn_rup_Follow #[(.slice r1.a r1.len r1.cap), (.slice s6.a s6.len s6.cap)] (.tup (.cons .sl (.cons (.int .i64) (.cons .bool (.cons (.int .i64) .nil))))) fun r7 =>
 brB (r7.2.2.2.1 != (0 : Int))
 (jn (σ := Bool) (fun t9 =>
 jn (σ := Bool) (fun t11 =>
 K t11)
 (fun J10 =>
 brB t9
 (J10 (((r7.1.len : Int) == (0 : Int))))
 (J10 false)))
 (fun J8 =>
 brB (r5.2.2.2.1 == r7.2.2.2.1)
 (J8 ((r5.2.1 == r7.2.1)))
 (J8 false)))
 (brB r7.2.2.1
 (jn (σ := Bool) (fun t13 =>
 jn (σ := Bool) (fun t15 =>
 jn (σ := Bool) (fun t17 =>
 K t17)
 (fun J16 =>
 brB t15
 (callT Try.prog fn_slices_Equal_lits_Lit_lits_Lit #[(.slice r5.1.a r5.1.len r5.1.cap), (.slice r7.1.a r7.1.len r7.1.cap)] .bool fun r18 =>
 J16 (r18))
 (J16 false)))
 (fun J14 =>
 brB t13
 (J14 ((r5.2.1 == r7.2.1)))
 (J14 false)))
 (fun J12 =>
 brB (r5.2.2.2.1 == (0 : Int))
 (J12 (r5.2.2.1))
 (J12 false)))
 (slL ⟨r4.a, r4.len, r4.cap⟩ (Int.tmod (IntKind.wrap .i64 a2) (IntKind.wrap .i64 ((r4.len : Int) + (1 : Int)))) 1 fun s19 =>
 callT Try.prog fn_rup_Follow #[(.slice r7.1.a r7.1.len r7.1.cap), (.slice s19.a s19.len s19.cap)] (.tup (.cons .sl (.cons (.int .i64) (.cons .bool (.cons (.int .i64) .nil))))) fun r20 =>
 jn (σ := Bool) (fun t22 =>
 jn (σ := Bool) (fun t24 =>
 jn (σ := Bool) (fun t26 =>
 brB t26
 (K false)
 (brB (r5.2.2.2.1 != (0 : Int))
 (K (r5.2.2.2.1 == (81 : Int)))
 (jn (σ := Bool) (fun t28 =>
 jn (σ := Bool) (fun t30 =>
 brB t30
 (K false)
 (slL ⟨r5.1.a, r5.1.len, r5.1.cap⟩ (r1.len : Int) 1 fun s31 =>
 lfp (σ := (Int × (Bool × Unit))) (fun X32 s33 => /-   -/
 brB (decide (s33.1 < (s31.len : Int)))
 (sx s31.a s31.len s33.1 1 fun p34 =>
 ldT (.int .i64) p34 fun x35 =>
 jn (σ := Bool) (fun t37 =>
 jn (σ := Bool) (fun t39 =>
 brB t39
 (K false)
 (X32 ((IntKind.wrap .i64 (s33.1 + (1 : Int))), s33.2.1, ())))
 (fun J38 =>
 brB t37
 (J38 true)
 (slH ⟨r5.1.a, r5.1.len, r5.1.cap⟩ (IntKind.wrap .i64 ((r1.len : Int) + s33.1)) 1 fun s40 =>
 callT Try.prog fn_slices_Contains_lits_Lit_lits_Lit #[(.slice s40.a s40.len s40.cap), (.int .i64 x35)] .bool fun r41 =>
 J38 (r41))))
 (fun J36 =>
 brB (decide (s33.1 ≥ (r4.len : Int)))
 (J36 true)
 (sx r4.a r4.len s33.1 1 fun p42 =>
 ldT .sl p42 fun x43 =>
 callT Try.prog fn_clauses_Has #[(.slice x43.a x43.len x43.cap), (.int .i64 x35)] .bool fun r44 =>
 J36 ((!r44)))))
 (K true))
 ((0 : Int), false, ())))
 (fun J29 =>
 brB t28
 (J29 true)
 (callT Try.prog fn_rup_Right #[(.slice r5.1.a r5.1.len r5.1.cap)] .bool fun r45 =>
 J29 ((!r45)))))
 (fun J27 =>
 brB (decide ((r5.1.len : Int) < (r1.len : Int)))
 (J27 true)
 (slH ⟨r5.1.a, r5.1.len, r5.1.cap⟩ (r1.len : Int) 1 fun s46 =>
 callT Try.prog fn_slices_Equal_lits_Lit_lits_Lit #[(.slice s46.a s46.len s46.cap), (.slice r1.a r1.len r1.cap)] .bool fun r47 =>
 J27 ((!r47)))))))
 (fun J25 =>
 brB t24
 (J25 true)
 (callT Try.prog fn_slices_Equal_lits_Lit_lits_Lit #[(.slice r5.1.a r5.1.len r5.1.cap), (.slice r20.1.a r20.1.len r20.1.cap)] .bool fun r48 =>
 J25 ((!r48)))))
 (fun J23 =>
 brB t22
 (J23 true)
 (J23 ((!(r5.2.2.1 == r20.2.2.1))))))
 (fun J21 =>
 brB (r5.2.2.2.1 != r20.2.2.2.1)
 (J21 true)
 (J21 ((r5.2.1 != (IntKind.wrap .i64 ((Int.tmod (IntKind.wrap .i64 a2) (IntKind.wrap .i64 ((r4.len : Int) + (1 : Int)))) + r20.2.1))))))))))
set_option maxRecDepth 100000 in
theorem E_salvorlaw08_RupSteps (a0 : Sl) (a1 : Sl) (a2 : Int) (K : Bool → HP) (h : Heap) : fnVC Try.prog [(1000000, .bool)] 189 Try.f9 [(.slice a0.a a0.len a0.cap), (.slice a1.a a1.len a1.cap), (.int .u8 a2)] .bool K h = F_salvorlaw08_RupSteps a0 a1 a2 K h := by kernel_rfl
set_option maxRecDepth 100000 in
theorem S_salvorlaw08_RupSteps{h : Heap} {a0 : Sl} {a1 : Sl} {a2 : Int} (K : Bool → HP) (hF : F_salvorlaw08_RupSteps a0 a1 a2 K h) : CallsH Try.prog fn_salvorlaw08_RupSteps #[(.slice a0.a a0.len a0.cap), (.slice a1.a a1.len a1.cap), (.int .u8 a2)] h fun v h' => ∃ x : Bool, v = Ty.enc .bool x ∧ K x h' :=
  callsH_of_fn (P := Try.prog) (fn := Try.f9) (τ := .bool) follows Try.func9 (by kernel_rfl) (by kernel_rfl) Try.call9 (Eq.mpr (E_salvorlaw08_RupSteps a0 a1 a2 K h) hF)


/-- salvor/salvorlaw08.RupFollows -/
def F_salvorlaw08_RupFollows (a0 : Sl) (a1 : Sl) (a2 : Sl) (K : Bool → HP) : HP :=
 jn (σ := Bool) (fun t1 =>
 jn (σ := Bool) (fun t3 =>
 jn (σ := Bool) (fun t5 =>
 jn (σ := Bool) (fun t7 =>
 K t7)
 (fun J6 =>
 brB t5
 (callT Try.prog fn_salvorlaw08_awake #[] .bool fun r8 =>
 J6 (r8))
 (J6 false)))
 (fun J4 =>
 brB t3
 (J4 true)
 (callT Try.prog fn_salvorlaw08_follows #[(.slice a0.a a0.len a0.cap), (.slice a1.a a1.len a1.cap), (.slice a2.a a2.len a2.cap)] .bool fun r9 =>
 J4 (r9))))
 (fun J2 =>
 brB t1
 (J2 true)
 (callT Try.prog fn_salvorlaw08_Few #[(.slice a2.a a2.len a2.cap), (.int .i64 (40 : Int)), (.int .i64 (20 : Int))] .bool fun r10 =>
 J2 ((!r10)))))
 (fun J0 =>
 brB (decide ((a1.len : Int) > (40 : Int)))
 (J0 true)
 (J0 ((decide ((a0.len : Int) > (40 : Int))))))
set_option maxRecDepth 100000 in
theorem E_salvorlaw08_RupFollows (a0 : Sl) (a1 : Sl) (a2 : Sl) (K : Bool → HP) (h : Heap) : fnVC Try.prog [(1000000, .bool)] 29 Try.f10 [(.slice a0.a a0.len a0.cap), (.slice a1.a a1.len a1.cap), (.slice a2.a a2.len a2.cap)] .bool K h = F_salvorlaw08_RupFollows a0 a1 a2 K h := by kernel_rfl
set_option maxRecDepth 100000 in
theorem S_salvorlaw08_RupFollows{h : Heap} {a0 : Sl} {a1 : Sl} {a2 : Sl} (K : Bool → HP) (hF : F_salvorlaw08_RupFollows a0 a1 a2 K h) : CallsH Try.prog fn_salvorlaw08_RupFollows #[(.slice a0.a a0.len a0.cap), (.slice a1.a a1.len a1.cap), (.slice a2.a a2.len a2.cap)] h fun v h' => ∃ x : Bool, v = Ty.enc .bool x ∧ K x h' :=
  callsH_of_fn (P := Try.prog) (fn := Try.f10) (τ := .bool) follows Try.func10 (by kernel_rfl) (by kernel_rfl) Try.call10 (Eq.mpr (E_salvorlaw08_RupFollows a0 a1 a2 K h) hF)


/-- salvor/salvorlaw08.RupSmall -/
def F_salvorlaw08_RupSmall (K : Bool → HP) : HP :=
 nw #[(.int .i64 (1 : Int))] ty_lits_Lit fun b0 =>
 nw #[(.int .i64 (-1 : Int))] ty_lits_Lit fun b1 =>
 nw #[(.int .i64 (2 : Int))] ty_lits_Lit fun b2 =>
 nw #[(.int .i64 (-2 : Int))] ty_lits_Lit fun b3 =>
 nw #[(.int .i64 (1 : Int)), (.int .i64 (2 : Int))] ty_lits_Lit fun b4 =>
 nw #[(.int .i64 (1 : Int)), (.int .i64 (-2 : Int))] ty_lits_Lit fun b5 =>
 nw #[(.int .i64 (-1 : Int)), (.int .i64 (2 : Int))] ty_lits_Lit fun b6 =>
 nw #[(.int .i64 (-2 : Int)), (.int .i64 (-1 : Int))] ty_lits_Lit fun b7 =>
 nw #[(.int .i64 (1 : Int)), (.int .i64 (1 : Int))] ty_lits_Lit fun b8 =>
 nw #[(.int .i64 (1 : Int)), (.int .i64 (-1 : Int))] ty_lits_Lit fun b9 =>
 nw #[(.int .i64 (2 : Int)), (.int .i64 (1 : Int)), (.int .i64 (2 : Int))] ty_lits_Lit fun b10 =>
 nw #[(.slice none 0 0), (.slice (some (⟨b0, 0, none⟩ : Addr)) 1 1), (.slice (some (⟨b1, 0, none⟩ : Addr)) 1 1), (.slice (some (⟨b2, 0, none⟩ : Addr)) 1 1), (.slice (some (⟨b3, 0, none⟩ : Addr)) 1 1), (.slice (some (⟨b4, 0, none⟩ : Addr)) 2 2), (.slice (some (⟨b5, 0, none⟩ : Addr)) 2 2), (.slice (some (⟨b6, 0, none⟩ : Addr)) 2 2), (.slice (some (⟨b7, 0, none⟩ : Addr)) 2 2), (.slice (some (⟨b8, 0, none⟩ : Addr)) 2 2), (.slice (some (⟨b9, 0, none⟩ : Addr)) 2 2), (.slice (some (⟨b10, 0, none⟩ : Addr)) 3 3)] ty_clauses_Clause fun b11 =>
 nw #[(.int .i64 (1 : Int))] ty_lits_Lit fun b12 =>
 nw #[(.int .i64 (-1 : Int))] ty_lits_Lit fun b13 =>
 nw #[(.int .i64 (1 : Int)), (.int .i64 (2 : Int))] ty_lits_Lit fun b14 =>
 nw #[(.int .i64 (-2 : Int)), (.int .i64 (1 : Int))] ty_lits_Lit fun b15 =>
 nw #[(.int .i64 (-1 : Int)), (.int .i64 (-2 : Int))] ty_lits_Lit fun b16 =>
 nw #[(.int .i64 (1 : Int)), (.int .i64 (-1 : Int))] ty_lits_Lit fun b17 =>
 nw #[(.int .i64 (0 : Int))] ty_lits_Lit fun b18 =>
 nw #[(.int .i64 (2 : Int)), (.int .i64 (2 : Int))] ty_lits_Lit fun b19 =>
 nw #[(.int .i64 (1048577 : Int))] ty_lits_Lit fun b20 =>
 nw #[(.slice none 0 0), (.slice (some (⟨b12, 0, none⟩ : Addr)) 1 1), (.slice (some (⟨b13, 0, none⟩ : Addr)) 1 1), (.slice (some (⟨b14, 0, none⟩ : Addr)) 2 2), (.slice (some (⟨b15, 0, none⟩ : Addr)) 2 2), (.slice (some (⟨b16, 0, none⟩ : Addr)) 2 2), (.slice (some (⟨b17, 0, none⟩ : Addr)) 2 2), (.slice (some (⟨b18, 0, none⟩ : Addr)) 1 1), (.slice (some (⟨b19, 0, none⟩ : Addr)) 2 2), (.slice (some (⟨b20, 0, none⟩ : Addr)) 1 1)] ty_sl_lits_Lit fun b21 =>
 lfp (σ := (Int × (Bool × Unit))) (fun X22 s23 => /-   -/
 brB (decide (s23.1 < (12 : Int)))
 (sx (some (⟨b11, 0, none⟩ : Addr)) 12 s23.1 1 fun p24 =>
 ldT .sl p24 fun x25 =>
 lfp (σ := (Int × (Bool × Unit))) (fun X26 s27 => /-   -/
 brB (decide (s27.1 < (10 : Int)))
 (sx (some (⟨b21, 0, none⟩ : Addr)) 10 s27.1 1 fun p28 =>
 ldT .sl p28 fun x29 =>
 callT Try.prog fn_salvorlaw08_looks #[(.slice x25.a x25.len x25.cap), (.slice x29.a x29.len x29.cap)] .bool fun r30 =>
 brB (!r30)
 (K false)
 (X26 ((IntKind.wrap .i64 (s27.1 + (1 : Int))), s27.2.1, ())))
 (lfp (σ := (Int × (Bool × Unit))) (fun X31 s32 => /-   -/
 brB (decide (s32.1 < (12 : Int)))
 (sx (some (⟨b11, 0, none⟩ : Addr)) 12 s32.1 1 fun p33 =>
 ldT .sl p33 fun x34 =>
 lfp (σ := (Int × (Bool × Unit))) (fun X35 s36 => /-   -/
 brB (decide (s36.1 < (12 : Int)))
 (sx (some (⟨b11, 0, none⟩ : Addr)) 12 s36.1 1 fun p37 =>
 ldT .sl p37 fun x38 =>
 nz (12 : Int) <|
 sx (some (⟨b11, 0, none⟩ : Addr)) 12 (Int.tmod (IntKind.wrap .i64 (s32.1 + (IntKind.wrap .i64 ((2 : Int) * s36.1)))) (12 : Int)) 1 fun p39 =>
 ldT .sl p39 fun x40 =>
 nw #[(.int .i64 (3 : Int)), (.int .i64 (1 : Int))] ty_lits_Lit fun b41 =>
 nw #[(.slice x34.a x34.len x34.cap), (.slice x38.a x38.len x38.cap), (.slice x40.a x40.len x40.cap), (.slice (some (⟨b41, 0, none⟩ : Addr)) 2 2)] ty_clauses_Clause fun b42 =>
 nz (10 : Int) <|
 sx (some (⟨b21, 0, none⟩ : Addr)) 10 (Int.tmod (IntKind.wrap .i64 (s32.1 + s36.1)) (10 : Int)) 1 fun p43 =>
 ldT .sl p43 fun x44 =>
 callT Try.prog fn_salvorlaw08_follows #[(.slice x44.a x44.len x44.cap), (.slice x25.a x25.len x25.cap), (.slice (some (⟨b42, 0, none⟩ : Addr)) 4 4)] .bool fun r45 =>
 jn (σ := Bool) (fun t47 =>
 brB t47
 (K false)
 (X35 ((IntKind.wrap .i64 (s36.1 + (1 : Int))), s36.2.1, ())))
 (fun J46 =>
 brB (!r45)
 (J46 true)
 (callT Try.prog fn_salvorlaw08_finds #[(.slice x25.a x25.len x25.cap), (.slice (some (⟨b42, 0, none⟩ : Addr)) 4 4)] .bool fun r48 =>
 J46 ((!r48)))))
 (X31 ((IntKind.wrap .i64 (s32.1 + (1 : Int))), s36.2.1, ())))
 ((0 : Int), s32.2.1, ()))
 (X22 ((IntKind.wrap .i64 (s23.1 + (1 : Int))), s32.2.1, ())))
 ((0 : Int), s27.2.1, ())))
 ((0 : Int), s23.2.1, ()))
 (nw #[(.int .i64 (-9223372036854775808 : Int)), (.int .i64 (0 : Int)), (.int .i64 (1048576 : Int)), (.int .i64 (1048577 : Int)), (.int .i64 (-1048577 : Int)), (.int .i64 (9223372036854775807 : Int))] ty_lits_Lit fun b49 =>
 lfp (σ := (Int × (Bool × Unit))) (fun X50 s51 => /-   -/
 brB (decide (s51.1 < (6 : Int)))
 (sx (some (⟨b49, 0, none⟩ : Addr)) 6 s51.1 1 fun p52 =>
 ldT (.int .i64) p52 fun x53 =>
 nw #[(.int .i64 (1 : Int)), (.int .i64 x53)] ty_lits_Lit fun b54 =>
 callT Try.prog fn_salvorlaw08_looks #[(.slice (some (⟨b54, 0, none⟩ : Addr)) 2 2), (.slice none 0 0)] .bool fun r55 =>
 jn (σ := Bool) (fun t57 =>
 jn (σ := Bool) (fun t59 =>
 jn (σ := Bool) (fun t61 =>
 brB t61
 (K false)
 (X50 ((IntKind.wrap .i64 (s51.1 + (1 : Int))), s51.2.1, ())))
 (fun J60 =>
 brB t59
 (J60 true)
 (nw #[(.int .i64 (2 : Int))] ty_lits_Lit fun b62 =>
 nw #[(.int .i64 x53), (.int .i64 (2 : Int))] ty_lits_Lit fun b63 =>
 nw #[(.slice (some (⟨b63, 0, none⟩ : Addr)) 2 2)] ty_clauses_Clause fun b64 =>
 callT Try.prog fn_salvorlaw08_finds #[(.slice (some (⟨b62, 0, none⟩ : Addr)) 1 1), (.slice (some (⟨b64, 0, none⟩ : Addr)) 1 1)] .bool fun r65 =>
 J60 ((!r65)))))
 (fun J58 =>
 brB t57
 (J58 true)
 (nw #[(.int .i64 x53)] ty_lits_Lit fun b66 =>
 nw #[(.int .i64 x53)] ty_lits_Lit fun b67 =>
 nw #[(.int .i64 x53)] ty_lits_Lit fun b68 =>
 nw #[(.int .i64 (2 : Int))] ty_lits_Lit fun b69 =>
 nw #[(.slice (some (⟨b68, 0, none⟩ : Addr)) 1 1), (.slice (some (⟨b69, 0, none⟩ : Addr)) 1 1)] ty_clauses_Clause fun b70 =>
 callT Try.prog fn_salvorlaw08_follows #[(.slice (some (⟨b66, 0, none⟩ : Addr)) 1 1), (.slice (some (⟨b67, 0, none⟩ : Addr)) 1 1), (.slice (some (⟨b70, 0, none⟩ : Addr)) 2 2)] .bool fun r71 =>
 J58 ((!r71)))))
 (fun J56 =>
 brB (!r55)
 (J56 true)
 (nw #[(.int .i64 (1 : Int))] ty_lits_Lit fun b72 =>
 nw #[(.int .i64 x53)] ty_lits_Lit fun b73 =>
 callT Try.prog fn_salvorlaw08_looks #[(.slice (some (⟨b72, 0, none⟩ : Addr)) 1 1), (.slice (some (⟨b73, 0, none⟩ : Addr)) 1 1)] .bool fun r74 =>
 J56 ((!r74)))))
 (nw #[(.int .i64 (1 : Int)), (.int .i64 (2 : Int))] ty_lits_Lit fun b75 =>
 nw #[(.slice (some (⟨b75, 0, none⟩ : Addr)) 2 2)] ty_clauses_Clause fun b76 =>
 callT Try.prog fn_slices_Repeat_clauses_Clause_clauses_Clause #[(.slice (some (⟨b76, 0, none⟩ : Addr)) 1 1), (.int .i64 (65537 : Int))] .sl fun r77 =>
 nw #[(.int .i64 (3 : Int))] ty_lits_Lit fun b78 =>
 sx r77.a r77.len (0 : Int) 1 fun p79 =>
 st1 p79 (.slice (some (⟨b78, 0, none⟩ : Addr)) 1 1) <|
 callT Try.prog fn_rup_Follow #[(.slice none 0 0), (.slice r77.a r77.len r77.cap)] (.tup (.cons .sl (.cons (.int .i64) (.cons .bool (.cons (.int .i64) .nil))))) fun r80 =>
 nw #[(.int .i64 (4 : Int))] ty_lits_Lit fun b81 =>
 callT Try.prog fn_rup_Check #[(.slice (some (⟨b81, 0, none⟩ : Addr)) 1 1), (.slice r77.a r77.len r77.cap)] (.tup (.cons (.int .i64) (.cons (.int .i64) .nil))) fun r82 =>
 nw #[(.int .i64 (4 : Int))] ty_lits_Lit fun b83 =>
 callT Try.prog fn_rup_Find #[(.slice (some (⟨b83, 0, none⟩ : Addr)) 1 1), (.slice r77.a r77.len r77.cap)] (.tup (.cons .sl (.cons .bool (.cons (.int .i64) .nil)))) fun r84 =>
 nw #[(.int .i64 (1 : Int)), (.int .i64 (-1 : Int))] ty_lits_Lit fun b85 =>
 callT Try.prog fn_rup_Trim #[(.slice (some (⟨b85, 0, none⟩ : Addr)) 2 2), (.slice r77.a r77.len r77.cap)] (.tup (.cons .sl (.cons (.int .i64) .nil))) fun r86 =>
 nw #[(.int .i64 (4 : Int))] ty_lits_Lit fun b87 =>
 slL ⟨r77.a, r77.len, r77.cap⟩ (1 : Int) 1 fun s88 =>
 callT Try.prog fn_rup_Check #[(.slice (some (⟨b87, 0, none⟩ : Addr)) 1 1), (.slice s88.a s88.len s88.cap)] (.tup (.cons (.int .i64) (.cons (.int .i64) .nil))) fun r89 =>
 nw #[(.int .i64 (4 : Int))] ty_lits_Lit fun b90 =>
 slL ⟨r77.a, r77.len, r77.cap⟩ (1 : Int) 1 fun s91 =>
 callT Try.prog fn_rup_Find #[(.slice (some (⟨b90, 0, none⟩ : Addr)) 1 1), (.slice s91.a s91.len s91.cap)] (.tup (.cons .sl (.cons .bool (.cons (.int .i64) .nil)))) fun r92 =>
 jn (σ := Bool) (fun t94 =>
 jn (σ := Bool) (fun t96 =>
 jn (σ := Bool) (fun t98 =>
 jn (σ := Bool) (fun t100 =>
 jn (σ := Bool) (fun t102 =>
 jn (σ := Bool) (fun t104 =>
 jn (σ := Bool) (fun t106 =>
 jn (σ := Bool) (fun t108 =>
 jn (σ := Bool) (fun t110 =>
 K t110)
 (fun J109 =>
 brB t108
 (callT Try.prog fn_salvorlaw08_awake #[] .bool fun r111 =>
 J109 (r111))
 (J109 false)))
 (fun J107 =>
 brB t106
 (J107 ((r92.2.2.1 == (0 : Int))))
 (J107 false)))
 (fun J105 =>
 brB t104
 (J105 ((!r92.2.1)))
 (J105 false)))
 (fun J103 =>
 brB t102
 (J103 ((r89.2.1 == (81 : Int))))
 (J103 false)))
 (fun J101 =>
 brB t100
 (J101 ((r89.1 == (0 : Int))))
 (J101 false)))
 (fun J99 =>
 brB t98
 (J99 ((r86.2.1 == (5 : Int))))
 (J99 false)))
 (fun J97 =>
 brB t96
 (J97 ((r84.2.2.1 == (5 : Int))))
 (J97 false)))
 (fun J95 =>
 brB t94
 (J95 ((r82.2.1 == (5 : Int))))
 (J95 false)))
 (fun J93 =>
 brB (r80.2.1 == (0 : Int))
 (J93 ((r80.2.2.2.1 == (5 : Int))))
 (J93 false))))
 ((0 : Int), s23.2.1, ())))
 ((0 : Int), false, ())
set_option maxRecDepth 100000 in
theorem E_salvorlaw08_RupSmall (K : Bool → HP) (h : Heap) : fnVC Try.prog [(1000000, .bool)] 242 Try.f11 [] .bool K h = F_salvorlaw08_RupSmall K h := by kernel_rfl
set_option maxRecDepth 100000 in
theorem S_salvorlaw08_RupSmall{h : Heap} (K : Bool → HP) (hF : F_salvorlaw08_RupSmall K h) : CallsH Try.prog fn_salvorlaw08_RupSmall #[] h fun v h' => ∃ x : Bool, v = Ty.enc .bool x ∧ K x h' :=
  callsH_of_fn (P := Try.prog) (fn := Try.f11) (τ := .bool) follows Try.func11 (by kernel_rfl) (by kernel_rfl) Try.call11 (Eq.mpr (E_salvorlaw08_RupSmall K h) hF)


/-- salvor/salvorlaw08.RupWrong -/
def F_salvorlaw08_RupWrong (a0 : Sl) (a1 : Sl) (a2 : Int) (a3 : Int) (K : Bool → HP) : HP :=
 callT Try.prog fn_salvorlaw08_awake #[] .bool fun r0 =>
 brB (!r0)
 (K false)
 (callT Try.prog fn_salvorlaw08_Made #[(.slice a0.a a0.len a0.cap)] .sl fun r1 =>
 callT Try.prog fn_salvorlaw08_All #[(.slice a1.a a1.len a1.cap), (.int .i64 (8 : Int))] .sl fun r2 =>
 callT Try.prog fn_lits_Right #[(.int .i64 a2)] .bool fun r3 =>
 jn (σ := (Int × Unit)) (fun s5 => /- none -/
 nz (IntKind.wrap .i64 ((r2.len : Int) + (1 : Int))) <|
 cj
 (callT Try.prog fn_slices_Clone_clauses_Clause_clauses_Clause #[(.slice r2.a r2.len r2.cap)] .sl fun r6 =>
 nw #[(.int .i64 (1 : Int)), (.int .i64 s5.1)] ty_lits_Lit fun b7 =>
 nw #[(.slice (some (⟨b7, 0, none⟩ : Addr)) 2 2)] ty_clauses_Clause fun b8 =>
 callT Try.prog fn_slices_Insert_clauses_Clause_clauses_Clause #[(.slice r6.a r6.len r6.cap), (.int .i64 (Int.tmod (IntKind.wrap .i64 a3) (IntKind.wrap .i64 ((r2.len : Int) + (1 : Int))))), (.slice (some (⟨b8, 0, none⟩ : Addr)) 1 1)] .sl fun r9 =>
 callT Try.prog fn_rup_Check #[(.slice r1.a r1.len r1.cap), (.slice r9.a r9.len r9.cap)] (.tup (.cons (.int .i64) (.cons (.int .i64) .nil))) fun r10 =>
 callT Try.prog fn_rup_Find #[(.slice r1.a r1.len r1.cap), (.slice r9.a r9.len r9.cap)] (.tup (.cons .sl (.cons .bool (.cons (.int .i64) .nil)))) fun r11 =>
 nw #[(.int .i64 s5.1)] ty_lits_Lit fun b12 =>
 callT Try.prog fn_rup_Trim #[(.slice (some (⟨b12, 0, none⟩ : Addr)) 1 1), (.slice r2.a r2.len r2.cap)] (.tup (.cons .sl (.cons (.int .i64) .nil))) fun r13 =>
 nw #[(.int .i64 (1 : Int)), (.int .i64 (-1 : Int))] ty_lits_Lit fun b14 =>
 callT Try.prog fn_rup_Follow #[(.slice (some (⟨b14, 0, none⟩ : Addr)) 2 2), (.slice r9.a r9.len r9.cap)] (.tup (.cons .sl (.cons (.int .i64) (.cons .bool (.cons (.int .i64) .nil))))) fun r15 =>
 nw #[(.int .i64 s5.1)] ty_lits_Lit fun b16 =>
 callT Try.prog fn_rup_Follow #[(.slice (some (⟨b16, 0, none⟩ : Addr)) 1 1), (.slice r2.a r2.len r2.cap)] (.tup (.cons .sl (.cons (.int .i64) (.cons .bool (.cons (.int .i64) .nil))))) fun r17 =>
 nw #[(.int .i64 s5.1)] ty_lits_Lit fun b18 =>
 nw #[(.int .i64 s5.1)] ty_lits_Lit fun b19 =>
 callT Try.prog fn_rup_Look #[(.slice (some (⟨b18, 0, none⟩ : Addr)) 1 1), (.slice (some (⟨b19, 0, none⟩ : Addr)) 1 1)] (.tup (.cons (.int .u8) (.cons (.int .i64) (.cons (.int .i64) .nil)))) fun r20 =>
 nw #[(.int .i64 (3 : Int)), (.int .i64 (2 : Int)), (.int .i64 (-3 : Int))] ty_lits_Lit fun b21 =>
 callT Try.prog fn_rup_Look #[(.slice r1.a r1.len r1.cap), (.slice (some (⟨b21, 0, none⟩ : Addr)) 3 3)] (.tup (.cons (.int .u8) (.cons (.int .i64) (.cons (.int .i64) .nil)))) fun r22 =>
 nw #[(.int .i64 r10.2.1), (.int .i64 r11.2.2.1), (.int .i64 r13.2.1), (.int .i64 r15.2.2.2.1), (.int .i64 r20.2.2.1)] ty_api_Errno fun b23 =>
 lfp (σ := (Int × (Bool × Unit))) (fun X24 s25 => /-   -/
 brB (decide (s25.1 < (5 : Int)))
 (sx (some (⟨b23, 0, none⟩ : Addr)) 5 s25.1 1 fun p26 =>
 ldT (.int .i64) p26 fun x27 =>
 brB (x27 != (20 : Int))
 (K false)
 (X24 ((IntKind.wrap .i64 (s25.1 + (1 : Int))), s25.2.1, ())))
 (jn (σ := Bool) (fun t29 =>
 jn (σ := Bool) (fun t31 =>
 jn (σ := Bool) (fun t33 =>
 brB t33
 (K false)
 (nw #[(.int .i64 (7 : Int))] ty_lits_Lit fun b34 =>
 nw #[(.int .i64 (7 : Int)), (.int .i64 (8 : Int))] ty_lits_Lit fun b35 =>
 nw #[(.int .i64 (-8 : Int)), (.int .i64 (9 : Int))] ty_lits_Lit fun b36 =>
 nw #[(.int .i64 (10 : Int)), (.int .i64 (11 : Int))] ty_lits_Lit fun b37 =>
 nw #[(.slice (some (⟨b35, 0, none⟩ : Addr)) 2 2), (.slice (some (⟨b36, 0, none⟩ : Addr)) 2 2), (.slice (some (⟨b37, 0, none⟩ : Addr)) 2 2)] ty_clauses_Clause fun b38 =>
 callT Try.prog fn_rup_Check #[(.slice (some (⟨b34, 0, none⟩ : Addr)) 1 1), (.slice (some (⟨b38, 0, none⟩ : Addr)) 3 3)] (.tup (.cons (.int .i64) (.cons (.int .i64) .nil))) fun r39 =>
 nw #[(.int .i64 (7 : Int))] ty_lits_Lit fun b40 =>
 nw #[(.int .i64 (7 : Int)), (.int .i64 (8 : Int))] ty_lits_Lit fun b41 =>
 nw #[(.int .i64 (8 : Int)), (.int .i64 (9 : Int))] ty_lits_Lit fun b42 =>
 nw #[(.slice (some (⟨b41, 0, none⟩ : Addr)) 2 2), (.slice (some (⟨b42, 0, none⟩ : Addr)) 2 2)] ty_clauses_Clause fun b43 =>
 callT Try.prog fn_rup_Check #[(.slice (some (⟨b40, 0, none⟩ : Addr)) 1 1), (.slice (some (⟨b43, 0, none⟩ : Addr)) 2 2)] (.tup (.cons (.int .i64) (.cons (.int .i64) .nil))) fun r44 =>
 jn (σ := Bool) (fun t46 =>
 jn (σ := Bool) (fun t48 =>
 jn (σ := Bool) (fun t50 =>
 K t50)
 (fun J49 =>
 brB t48
 (J49 ((r44.2.1 == (81 : Int))))
 (J49 false)))
 (fun J47 =>
 brB t46
 (J47 ((r44.1 == (1 : Int))))
 (J47 false)))
 (fun J45 =>
 brB (r39.1 == (2 : Int))
 (J45 ((r39.2.1 == (81 : Int))))
 (J45 false))))
 (fun J32 =>
 brB t31
 (J32 true)
 (nw #[(.int .i64 s5.1)] ty_lits_Lit fun b51 =>
 callT Try.prog fn_rup_Right #[(.slice (some (⟨b51, 0, none⟩ : Addr)) 1 1)] .bool fun r52 =>
 J32 (r52))))
 (fun J30 =>
 brB t29
 (J30 true)
 (J30 ((r22.2.2.1 != (80 : Int))))))
 (fun J28 =>
 brB (r15.2.1 != (0 : Int))
 (J28 true)
 (J28 ((r17.2.2.2.1 != (80 : Int)))))))
 ((0 : Int), false, ()))
 (nw #[(.int .i64 (1 : Int)), (.int .i64 s5.1)] ty_lits_Lit fun b53 =>
 cj
 (callT Try.prog fn_slices_Clone_clauses_Clause_clauses_Clause #[(.slice r2.a r2.len r2.cap)] .sl fun r54 =>
 nw #[(.slice (some (⟨b53, 0, none⟩ : Addr)) 2 2)] ty_clauses_Clause fun b55 =>
 callT Try.prog fn_slices_Insert_clauses_Clause_clauses_Clause #[(.slice r54.a r54.len r54.cap), (.int .i64 (Int.tmod (IntKind.wrap .i64 a3) (IntKind.wrap .i64 ((r2.len : Int) + (1 : Int))))), (.slice (some (⟨b55, 0, none⟩ : Addr)) 1 1)] .sl fun r56 =>
 callT Try.prog fn_rup_Check #[(.slice r1.a r1.len r1.cap), (.slice r56.a r56.len r56.cap)] (.tup (.cons (.int .i64) (.cons (.int .i64) .nil))) fun r57 =>
 callT Try.prog fn_rup_Find #[(.slice r1.a r1.len r1.cap), (.slice r56.a r56.len r56.cap)] (.tup (.cons .sl (.cons .bool (.cons (.int .i64) .nil)))) fun r58 =>
 nw #[(.int .i64 s5.1)] ty_lits_Lit fun b59 =>
 callT Try.prog fn_rup_Trim #[(.slice (some (⟨b59, 0, none⟩ : Addr)) 1 1), (.slice r2.a r2.len r2.cap)] (.tup (.cons .sl (.cons (.int .i64) .nil))) fun r60 =>
 nw #[(.int .i64 (1 : Int)), (.int .i64 (-1 : Int))] ty_lits_Lit fun b61 =>
 callT Try.prog fn_rup_Follow #[(.slice (some (⟨b61, 0, none⟩ : Addr)) 2 2), (.slice r56.a r56.len r56.cap)] (.tup (.cons .sl (.cons (.int .i64) (.cons .bool (.cons (.int .i64) .nil))))) fun r62 =>
 nw #[(.int .i64 s5.1)] ty_lits_Lit fun b63 =>
 callT Try.prog fn_rup_Follow #[(.slice (some (⟨b63, 0, none⟩ : Addr)) 1 1), (.slice r2.a r2.len r2.cap)] (.tup (.cons .sl (.cons (.int .i64) (.cons .bool (.cons (.int .i64) .nil))))) fun r64 =>
 nw #[(.int .i64 s5.1)] ty_lits_Lit fun b65 =>
 nw #[(.int .i64 s5.1)] ty_lits_Lit fun b66 =>
 callT Try.prog fn_rup_Look #[(.slice (some (⟨b65, 0, none⟩ : Addr)) 1 1), (.slice (some (⟨b66, 0, none⟩ : Addr)) 1 1)] (.tup (.cons (.int .u8) (.cons (.int .i64) (.cons (.int .i64) .nil)))) fun r67 =>
 nw #[(.int .i64 (3 : Int)), (.int .i64 (2 : Int)), (.int .i64 (-3 : Int))] ty_lits_Lit fun b68 =>
 callT Try.prog fn_rup_Look #[(.slice r1.a r1.len r1.cap), (.slice (some (⟨b68, 0, none⟩ : Addr)) 3 3)] (.tup (.cons (.int .u8) (.cons (.int .i64) (.cons (.int .i64) .nil)))) fun r69 =>
 nw #[(.int .i64 r57.2.1), (.int .i64 r58.2.2.1), (.int .i64 r60.2.1), (.int .i64 r62.2.2.2.1), (.int .i64 r67.2.2.1)] ty_api_Errno fun b70 =>
 lfp (σ := (Int × (Bool × Unit))) (fun X71 s72 => /-   -/
 brB (decide (s72.1 < (5 : Int)))
 (sx (some (⟨b70, 0, none⟩ : Addr)) 5 s72.1 1 fun p73 =>
 ldT (.int .i64) p73 fun x74 =>
 brB (x74 != (20 : Int))
 (K false)
 (X71 ((IntKind.wrap .i64 (s72.1 + (1 : Int))), s72.2.1, ())))
 (jn (σ := Bool) (fun t76 =>
 jn (σ := Bool) (fun t78 =>
 jn (σ := Bool) (fun t80 =>
 brB t80
 (K false)
 (nw #[(.int .i64 (7 : Int))] ty_lits_Lit fun b81 =>
 nw #[(.int .i64 (7 : Int)), (.int .i64 (8 : Int))] ty_lits_Lit fun b82 =>
 nw #[(.int .i64 (-8 : Int)), (.int .i64 (9 : Int))] ty_lits_Lit fun b83 =>
 nw #[(.int .i64 (10 : Int)), (.int .i64 (11 : Int))] ty_lits_Lit fun b84 =>
 nw #[(.slice (some (⟨b82, 0, none⟩ : Addr)) 2 2), (.slice (some (⟨b83, 0, none⟩ : Addr)) 2 2), (.slice (some (⟨b84, 0, none⟩ : Addr)) 2 2)] ty_clauses_Clause fun b85 =>
 callT Try.prog fn_rup_Check #[(.slice (some (⟨b81, 0, none⟩ : Addr)) 1 1), (.slice (some (⟨b85, 0, none⟩ : Addr)) 3 3)] (.tup (.cons (.int .i64) (.cons (.int .i64) .nil))) fun r86 =>
 nw #[(.int .i64 (7 : Int))] ty_lits_Lit fun b87 =>
 nw #[(.int .i64 (7 : Int)), (.int .i64 (8 : Int))] ty_lits_Lit fun b88 =>
 nw #[(.int .i64 (8 : Int)), (.int .i64 (9 : Int))] ty_lits_Lit fun b89 =>
 nw #[(.slice (some (⟨b88, 0, none⟩ : Addr)) 2 2), (.slice (some (⟨b89, 0, none⟩ : Addr)) 2 2)] ty_clauses_Clause fun b90 =>
 callT Try.prog fn_rup_Check #[(.slice (some (⟨b87, 0, none⟩ : Addr)) 1 1), (.slice (some (⟨b90, 0, none⟩ : Addr)) 2 2)] (.tup (.cons (.int .i64) (.cons (.int .i64) .nil))) fun r91 =>
 jn (σ := Bool) (fun t93 =>
 jn (σ := Bool) (fun t95 =>
 jn (σ := Bool) (fun t97 =>
 K t97)
 (fun J96 =>
 brB t95
 (J96 ((r91.2.1 == (81 : Int))))
 (J96 false)))
 (fun J94 =>
 brB t93
 (J94 ((r91.1 == (1 : Int))))
 (J94 false)))
 (fun J92 =>
 brB (r86.1 == (2 : Int))
 (J92 ((r86.2.1 == (81 : Int))))
 (J92 false))))
 (fun J79 =>
 brB t78
 (J79 true)
 (nw #[(.int .i64 s5.1)] ty_lits_Lit fun b98 =>
 callT Try.prog fn_rup_Right #[(.slice (some (⟨b98, 0, none⟩ : Addr)) 1 1)] .bool fun r99 =>
 J79 (r99))))
 (fun J77 =>
 brB t76
 (J77 true)
 (J77 ((r69.2.2.1 != (80 : Int))))))
 (fun J75 =>
 brB (r62.2.1 != (0 : Int))
 (J75 true)
 (J75 ((r64.2.2.2.1 != (80 : Int)))))))
 ((0 : Int), false, ()))
 (nw #[(.slice (some (⟨b53, 0, none⟩ : Addr)) 2 2)] ty_clauses_Clause fun b100 =>
 callT Try.prog fn_slices_Clone_clauses_Clause_clauses_Clause #[(.slice r2.a r2.len r2.cap)] .sl fun r101 =>
 callT Try.prog fn_slices_Insert_clauses_Clause_clauses_Clause #[(.slice r101.a r101.len r101.cap), (.int .i64 (Int.tmod (IntKind.wrap .i64 a3) (IntKind.wrap .i64 ((r2.len : Int) + (1 : Int))))), (.slice (some (⟨b100, 0, none⟩ : Addr)) 1 1)] .sl fun r102 =>
 callT Try.prog fn_rup_Check #[(.slice r1.a r1.len r1.cap), (.slice r102.a r102.len r102.cap)] (.tup (.cons (.int .i64) (.cons (.int .i64) .nil))) fun r103 =>
 callT Try.prog fn_rup_Find #[(.slice r1.a r1.len r1.cap), (.slice r102.a r102.len r102.cap)] (.tup (.cons .sl (.cons .bool (.cons (.int .i64) .nil)))) fun r104 =>
 nw #[(.int .i64 s5.1)] ty_lits_Lit fun b105 =>
 callT Try.prog fn_rup_Trim #[(.slice (some (⟨b105, 0, none⟩ : Addr)) 1 1), (.slice r2.a r2.len r2.cap)] (.tup (.cons .sl (.cons (.int .i64) .nil))) fun r106 =>
 nw #[(.int .i64 (1 : Int)), (.int .i64 (-1 : Int))] ty_lits_Lit fun b107 =>
 callT Try.prog fn_rup_Follow #[(.slice (some (⟨b107, 0, none⟩ : Addr)) 2 2), (.slice r102.a r102.len r102.cap)] (.tup (.cons .sl (.cons (.int .i64) (.cons .bool (.cons (.int .i64) .nil))))) fun r108 =>
 nw #[(.int .i64 s5.1)] ty_lits_Lit fun b109 =>
 callT Try.prog fn_rup_Follow #[(.slice (some (⟨b109, 0, none⟩ : Addr)) 1 1), (.slice r2.a r2.len r2.cap)] (.tup (.cons .sl (.cons (.int .i64) (.cons .bool (.cons (.int .i64) .nil))))) fun r110 =>
 nw #[(.int .i64 s5.1)] ty_lits_Lit fun b111 =>
 nw #[(.int .i64 s5.1)] ty_lits_Lit fun b112 =>
 callT Try.prog fn_rup_Look #[(.slice (some (⟨b111, 0, none⟩ : Addr)) 1 1), (.slice (some (⟨b112, 0, none⟩ : Addr)) 1 1)] (.tup (.cons (.int .u8) (.cons (.int .i64) (.cons (.int .i64) .nil)))) fun r113 =>
 nw #[(.int .i64 (3 : Int)), (.int .i64 (2 : Int)), (.int .i64 (-3 : Int))] ty_lits_Lit fun b114 =>
 callT Try.prog fn_rup_Look #[(.slice r1.a r1.len r1.cap), (.slice (some (⟨b114, 0, none⟩ : Addr)) 3 3)] (.tup (.cons (.int .u8) (.cons (.int .i64) (.cons (.int .i64) .nil)))) fun r115 =>
 nw #[(.int .i64 r103.2.1), (.int .i64 r104.2.2.1), (.int .i64 r106.2.1), (.int .i64 r108.2.2.2.1), (.int .i64 r113.2.2.1)] ty_api_Errno fun b116 =>
 lfp (σ := (Int × (Bool × Unit))) (fun X117 s118 => /-   -/
 brB (decide (s118.1 < (5 : Int)))
 (sx (some (⟨b116, 0, none⟩ : Addr)) 5 s118.1 1 fun p119 =>
 ldT (.int .i64) p119 fun x120 =>
 brB (x120 != (20 : Int))
 (K false)
 (X117 ((IntKind.wrap .i64 (s118.1 + (1 : Int))), s118.2.1, ())))
 (jn (σ := Bool) (fun t122 =>
 jn (σ := Bool) (fun t124 =>
 jn (σ := Bool) (fun t126 =>
 brB t126
 (K false)
 (nw #[(.int .i64 (7 : Int))] ty_lits_Lit fun b127 =>
 nw #[(.int .i64 (7 : Int)), (.int .i64 (8 : Int))] ty_lits_Lit fun b128 =>
 nw #[(.int .i64 (-8 : Int)), (.int .i64 (9 : Int))] ty_lits_Lit fun b129 =>
 nw #[(.int .i64 (10 : Int)), (.int .i64 (11 : Int))] ty_lits_Lit fun b130 =>
 nw #[(.slice (some (⟨b128, 0, none⟩ : Addr)) 2 2), (.slice (some (⟨b129, 0, none⟩ : Addr)) 2 2), (.slice (some (⟨b130, 0, none⟩ : Addr)) 2 2)] ty_clauses_Clause fun b131 =>
 callT Try.prog fn_rup_Check #[(.slice (some (⟨b127, 0, none⟩ : Addr)) 1 1), (.slice (some (⟨b131, 0, none⟩ : Addr)) 3 3)] (.tup (.cons (.int .i64) (.cons (.int .i64) .nil))) fun r132 =>
 nw #[(.int .i64 (7 : Int))] ty_lits_Lit fun b133 =>
 nw #[(.int .i64 (7 : Int)), (.int .i64 (8 : Int))] ty_lits_Lit fun b134 =>
 nw #[(.int .i64 (8 : Int)), (.int .i64 (9 : Int))] ty_lits_Lit fun b135 =>
 nw #[(.slice (some (⟨b134, 0, none⟩ : Addr)) 2 2), (.slice (some (⟨b135, 0, none⟩ : Addr)) 2 2)] ty_clauses_Clause fun b136 =>
 callT Try.prog fn_rup_Check #[(.slice (some (⟨b133, 0, none⟩ : Addr)) 1 1), (.slice (some (⟨b136, 0, none⟩ : Addr)) 2 2)] (.tup (.cons (.int .i64) (.cons (.int .i64) .nil))) fun r137 =>
 jn (σ := Bool) (fun t139 =>
 jn (σ := Bool) (fun t141 =>
 jn (σ := Bool) (fun t143 =>
 K t143)
 (fun J142 =>
 brB t141
 (J142 ((r137.2.1 == (81 : Int))))
 (J142 false)))
 (fun J140 =>
 brB t139
 (J140 ((r137.1 == (1 : Int))))
 (J140 false)))
 (fun J138 =>
 brB (r132.1 == (2 : Int))
 (J138 ((r132.2.1 == (81 : Int))))
 (J138 false))))
 (fun J125 =>
 brB t124
 (J125 true)
 (nw #[(.int .i64 s5.1)] ty_lits_Lit fun b144 =>
 callT Try.prog fn_rup_Right #[(.slice (some (⟨b144, 0, none⟩ : Addr)) 1 1)] .bool fun r145 =>
 J125 (r145))))
 (fun J123 =>
 brB t122
 (J123 true)
 (J123 ((r115.2.2.1 != (80 : Int))))))
 (fun J121 =>
 brB (r108.2.1 != (0 : Int))
 (J121 true)
 (J121 ((r110.2.2.2.1 != (80 : Int)))))))
 ((0 : Int), false, ()))))
 (fun J4 =>
 brB r3
 (J4 ((0 : Int), ()))
 (J4 (a2, ()))))
set_option maxRecDepth 100000 in
theorem E_salvorlaw08_RupWrong (a0 : Sl) (a1 : Sl) (a2 : Int) (a3 : Int) (K : Bool → HP) (h : Heap) : fnVC Try.prog [(1000000, .bool)] 174 Try.f12 [(.slice a0.a a0.len a0.cap), (.slice a1.a a1.len a1.cap), (.int .i64 a2), (.int .u8 a3)] .bool K h = F_salvorlaw08_RupWrong a0 a1 a2 a3 K h := by kernel_rfl
set_option maxRecDepth 100000 in
theorem S_salvorlaw08_RupWrong{h : Heap} {a0 : Sl} {a1 : Sl} {a2 : Int} {a3 : Int} (K : Bool → HP) (hF : F_salvorlaw08_RupWrong a0 a1 a2 a3 K h) : CallsH Try.prog fn_salvorlaw08_RupWrong #[(.slice a0.a a0.len a0.cap), (.slice a1.a a1.len a1.cap), (.int .i64 a2), (.int .u8 a3)] h fun v h' => ∃ x : Bool, v = Ty.enc .bool x ∧ K x h' :=
  callsH_of_fn (P := Try.prog) (fn := Try.f12) (τ := .bool) follows Try.func12 (by kernel_rfl) (by kernel_rfl) Try.call12 (Eq.mpr (E_salvorlaw08_RupWrong a0 a1 a2 a3 K h) hF)


/-- salvor/salvorlaw08.awake -/
def F_salvorlaw08_awake (K : Bool → HP) : HP :=
 nw #[(.int .i64 (-1 : Int)), (.int .i64 (2 : Int))] ty_lits_Lit fun b0 =>
 nw #[(.int .i64 (1 : Int)), (.int .i64 (-2 : Int))] ty_lits_Lit fun b1 =>
 nw #[(.int .i64 (1 : Int)), (.int .i64 (3 : Int))] ty_lits_Lit fun b2 =>
 nw #[(.int .i64 (1 : Int)), (.int .i64 (3 : Int)), (.int .i64 (3 : Int))] ty_lits_Lit fun b3 =>
 nw #[(.int .i64 (2 : Int)), (.int .i64 (5 : Int))] ty_lits_Lit fun b4 =>
 nw #[(.int .i64 (3 : Int)), (.int .i64 (4 : Int))] ty_lits_Lit fun b5 =>
 nw #[(.slice (some (⟨b1, 0, none⟩ : Addr)) 2 2), (.int .u8 (2 : Int)), (.int .i64 (0 : Int)), (.slice (some (⟨b2, 0, none⟩ : Addr)) 2 2), (.int .u8 (3 : Int)), (.int .i64 (3 : Int)), (.slice (some (⟨b3, 0, none⟩ : Addr)) 3 3), (.int .u8 (3 : Int)), (.int .i64 (3 : Int)), (.slice (some (⟨b4, 0, none⟩ : Addr)) 2 2), (.int .u8 (1 : Int)), (.int .i64 (0 : Int)), (.slice (some (⟨b5, 0, none⟩ : Addr)) 2 2), (.int .u8 (4 : Int)), (.int .i64 (0 : Int)), (.slice none 0 0), (.int .u8 (2 : Int)), (.int .i64 (0 : Int))] ty_struct_c_clauses_Clause_kind_uint8_unit_lits_Lit fun b6 =>
 lfp (σ := (Int × (Bool × Unit))) (fun X7 s8 => /-   -/
 brB (decide (s8.1 < (6 : Int)))
 (sx (some (⟨b6, 0, none⟩ : Addr)) 6 s8.1 3 fun p9 =>
 ldA (.cons .sl (.cons (.int .u8) (.cons (.int .i64) .nil))) p9 fun x10 =>
 nw #[(.slice none 0 0), (.int .u8 (0 : Int)), (.int .i64 (0 : Int))] ty_struct_c_clauses_Clause_kind_uint8_unit_lits_Lit fun b11 =>
 st1 (⟨b11, 0, none⟩ : Addr) (.slice x10.1.a x10.1.len x10.1.cap) <|
 st1 ((⟨b11, 0, none⟩ : Addr).add 1) (.int .u8 x10.2.1) <|
 st1 ((⟨b11, 0, none⟩ : Addr).add 2) (.int .i64 x10.2.2.1) <|
 ldT .sl (⟨b11, 0, none⟩ : Addr) fun x12 =>
 callT Try.prog fn_rup_Look #[(.slice x12.a x12.len x12.cap), (.slice (some (⟨b0, 0, none⟩ : Addr)) 2 2)] (.tup (.cons (.int .u8) (.cons (.int .i64) (.cons (.int .i64) .nil)))) fun r13 =>
 ldT (.int .u8) ((⟨b11, 0, none⟩ : Addr).add 1) fun x14 =>
 jn (σ := Bool) (fun t16 =>
 jn (σ := Bool) (fun t18 =>
 brB t18
 (K false)
 (X7 ((IntKind.wrap .i64 (s8.1 + (1 : Int))), s8.2.1, ())))
 (fun J17 =>
 brB t16
 (J17 true)
 (J17 ((r13.2.2.1 != (0 : Int))))))
 (fun J15 =>
 brB (r13.1 != x14)
 (J15 true)
 (ldT (.int .i64) ((⟨b11, 0, none⟩ : Addr).add 2) fun x19 =>
 J15 ((r13.2.1 != x19)))))
 (nw #[(.int .i64 (3 : Int))] ty_lits_Lit fun b20 =>
 nw #[(.int .i64 (1 : Int)), (.int .i64 (3 : Int))] ty_lits_Lit fun b21 =>
 nw #[(.int .i64 (-1 : Int)), (.int .i64 (3 : Int))] ty_lits_Lit fun b22 =>
 nw #[(.int .i64 (1 : Int)), (.int .i64 (2 : Int))] ty_lits_Lit fun b23 =>
 nw #[(.slice (some (⟨b21, 0, none⟩ : Addr)) 2 2), (.slice (some (⟨b22, 0, none⟩ : Addr)) 2 2)] ty_clauses_Clause fun b24 =>
 callT Try.prog fn_rup_Check #[(.slice (some (⟨b20, 0, none⟩ : Addr)) 1 1), (.slice (some (⟨b24, 0, none⟩ : Addr)) 2 2)] (.tup (.cons (.int .i64) (.cons (.int .i64) .nil))) fun r25 =>
 nw #[(.slice (some (⟨b22, 0, none⟩ : Addr)) 2 2), (.slice (some (⟨b21, 0, none⟩ : Addr)) 2 2)] ty_clauses_Clause fun b26 =>
 callT Try.prog fn_rup_Check #[(.slice (some (⟨b20, 0, none⟩ : Addr)) 1 1), (.slice (some (⟨b26, 0, none⟩ : Addr)) 2 2)] (.tup (.cons (.int .i64) (.cons (.int .i64) .nil))) fun r27 =>
 nw #[(.slice (some (⟨b23, 0, none⟩ : Addr)) 2 2), (.slice (some (⟨b21, 0, none⟩ : Addr)) 2 2), (.slice (some (⟨b22, 0, none⟩ : Addr)) 2 2)] ty_clauses_Clause fun b28 =>
 callT Try.prog fn_rup_Check #[(.slice (some (⟨b20, 0, none⟩ : Addr)) 1 1), (.slice (some (⟨b28, 0, none⟩ : Addr)) 3 3)] (.tup (.cons (.int .i64) (.cons (.int .i64) .nil))) fun r29 =>
 nw #[(.slice (some (⟨b21, 0, none⟩ : Addr)) 2 2)] ty_clauses_Clause fun b30 =>
 callT Try.prog fn_rup_Check #[(.slice (some (⟨b20, 0, none⟩ : Addr)) 1 1), (.slice (some (⟨b30, 0, none⟩ : Addr)) 1 1)] (.tup (.cons (.int .i64) (.cons (.int .i64) .nil))) fun r31 =>
 nw #[(.int .i64 (5 : Int)), (.int .i64 (6 : Int))] ty_lits_Lit fun b32 =>
 nw #[(.int .i64 (3 : Int)), (.int .i64 (-4 : Int))] ty_lits_Lit fun b33 =>
 nw #[(.slice (some (⟨b32, 0, none⟩ : Addr)) 2 2), (.slice (some (⟨b21, 0, none⟩ : Addr)) 2 2), (.slice (some (⟨b33, 0, none⟩ : Addr)) 2 2), (.slice (some (⟨b22, 0, none⟩ : Addr)) 2 2)] ty_clauses_Clause fun b34 =>
 callT Try.prog fn_rup_Find #[(.slice (some (⟨b20, 0, none⟩ : Addr)) 1 1), (.slice (some (⟨b34, 0, none⟩ : Addr)) 4 4)] (.tup (.cons .sl (.cons .bool (.cons (.int .i64) .nil)))) fun r35 =>
 nw #[(.int .i64 (2 : Int)), (.int .i64 (-2 : Int))] ty_lits_Lit fun b36 =>
 callT Try.prog fn_rup_Check #[(.slice (some (⟨b36, 0, none⟩ : Addr)) 2 2), (.slice none 0 0)] (.tup (.cons (.int .i64) (.cons (.int .i64) .nil))) fun r37 =>
 jn (σ := Bool) (fun t39 =>
 jn (σ := Bool) (fun t41 =>
 jn (σ := Bool) (fun t43 =>
 jn (σ := Bool) (fun t45 =>
 jn (σ := Bool) (fun t47 =>
 jn (σ := Bool) (fun t49 =>
 jn (σ := Bool) (fun t51 =>
 jn (σ := Bool) (fun t53 =>
 jn (σ := Bool) (fun t55 =>
 K t55)
 (fun J54 =>
 brB t53
 (J54 ((r37.1 == (0 : Int))))
 (J54 false)))
 (fun J52 =>
 brB t51
 (nw #[(.int .i64 (1 : Int)), (.int .i64 (3 : Int))] ty_int fun b56 =>
 callT Try.prog fn_slices_Equal_int_int #[(.slice r35.1.a r35.1.len r35.1.cap), (.slice (some (⟨b56, 0, none⟩ : Addr)) 2 2)] .bool fun r57 =>
 J52 (r57))
 (J52 false)))
 (fun J50 =>
 brB t49
 (J50 (r35.2.1))
 (J50 false)))
 (fun J48 =>
 brB t47
 (J48 ((r31.2.1 == (82 : Int))))
 (J48 false)))
 (fun J46 =>
 brB t45
 (J46 ((r31.1 == (1 : Int))))
 (J46 false)))
 (fun J44 =>
 brB t43
 (J44 ((r29.2.1 == (81 : Int))))
 (J44 false)))
 (fun J42 =>
 brB t41
 (J42 ((r29.1 == (0 : Int))))
 (J42 false)))
 (fun J40 =>
 brB t39
 (J40 (((IntKind.wrap .i64 ((IntKind.wrap .i64 ((IntKind.wrap .i64 (r25.2.1 + r27.2.1)) + r35.2.2.1)) + r37.2.1)) == (0 : Int))))
 (J40 false)))
 (fun J38 =>
 brB (r25.1 == (2 : Int))
 (J38 ((r27.1 == (2 : Int))))
 (J38 false))))
 ((0 : Int), false, ())
set_option maxRecDepth 100000 in
theorem E_salvorlaw08_awake (K : Bool → HP) (h : Heap) : fnVC Try.prog [(1000000, .bool)] 161 Try.f13 [] .bool K h = F_salvorlaw08_awake K h := by kernel_rfl
set_option maxRecDepth 100000 in
theorem S_salvorlaw08_awake{h : Heap} (K : Bool → HP) (hF : F_salvorlaw08_awake K h) : CallsH Try.prog fn_salvorlaw08_awake #[] h fun v h' => ∃ x : Bool, v = Ty.enc .bool x ∧ K x h' :=
  callsH_of_fn (P := Try.prog) (fn := Try.f13) (τ := .bool) follows Try.func13 (by kernel_rfl) (by kernel_rfl) Try.call13 (Eq.mpr (E_salvorlaw08_awake K h) hF)


/-- salvor/salvorlaw08.Made -/
def F_salvorlaw08_Made (a0 : Sl) (K : Sl → HP) : HP :=
 slH ⟨a0.a, a0.len, a0.cap⟩ (if (6 : Int) < (a0.len : Int) then (6 : Int) else (a0.len : Int)) 1 fun s0 =>
 lfp (σ := (Int × (Sl × Unit))) (fun X1 s2 => /-  out -/
 brB (decide (s2.1 < (s0.len : Int)))
 (sx s0.a s0.len s2.1 1 fun p3 =>
 ldT (.int .i8) p3 fun x4 =>
 nz (2 : Int) <|
 nz (6 : Int) <|
 jn (σ := (Int × Unit)) (fun s6 => /- v -/
 nw #[(.int .i64 s6.1)] ty_lits_Lit fun b7 =>
 apd ty_lits_Lit 1 8 #[(.int .i64 (0 : Int))] ⟨s2.2.1.a, s2.2.1.len, s2.2.1.cap⟩ ⟨(some (⟨b7, 0, none⟩ : Addr)), 1, 1⟩ fun s8 =>
 X1 ((IntKind.wrap .i64 (s2.1 + (1 : Int))), ⟨s8.a, s8.len, s8.cap⟩, ()))
 (fun J5 =>
 brB ((bAnd .i8 x4 (1 : Int)) == (1 : Int))
 (J5 ((IntKind.wrap .i64 (0 - (IntKind.wrap .i64 ((1 : Int) + (Int.tmod (IntKind.wrap .i64 (IntKind.wrap .u8 (Int.tdiv (IntKind.wrap .u8 x4) (2 : Int)))) (6 : Int)))))), ()))
 (J5 ((IntKind.wrap .i64 ((1 : Int) + (Int.tmod (IntKind.wrap .i64 (IntKind.wrap .u8 (Int.tdiv (IntKind.wrap .u8 x4) (2 : Int)))) (6 : Int)))), ()))))
 (K ⟨s2.2.1.a, s2.2.1.len, s2.2.1.cap⟩))
 ((0 : Int), ⟨none, 0, 0⟩, ())
set_option maxRecDepth 100000 in
theorem E_salvorlaw08_Made (a0 : Sl) (K : Sl → HP) (h : Heap) : fnVC Try.prog [(1000000, .bool)] 34 Try.f14 [(.slice a0.a a0.len a0.cap)] .sl K h = F_salvorlaw08_Made a0 K h := by kernel_rfl
set_option maxRecDepth 100000 in
theorem S_salvorlaw08_Made{h : Heap} {a0 : Sl} (K : Sl → HP) (hF : F_salvorlaw08_Made a0 K h) : CallsH Try.prog fn_salvorlaw08_Made #[(.slice a0.a a0.len a0.cap)] h fun v h' => ∃ x : Sl, v = Ty.enc .sl x ∧ K x h' :=
  callsH_of_fn (P := Try.prog) (fn := Try.f14) (τ := .sl) follows Try.func14 (by kernel_rfl) (by kernel_rfl) Try.call14 (Eq.mpr (E_salvorlaw08_Made a0 K h) hF)


/-- salvor/salvorlaw08.All -/
def F_salvorlaw08_All (a0 : Sl) (a1 : Int) (K : Sl → HP) : HP :=
 slH ⟨a0.a, a0.len, a0.cap⟩ (if a1 < (a0.len : Int) then a1 else (a0.len : Int)) 1 fun s0 =>
 lfp (σ := (Int × (Sl × Unit))) (fun X1 s2 => /-  out -/
 brB (decide (s2.1 < (s0.len : Int)))
 (sx s0.a s0.len s2.1 1 fun p3 =>
 ldT .sl p3 fun x4 =>
 callT Try.prog fn_salvorlaw08_Made #[(.slice x4.a x4.len x4.cap)] .sl fun r5 =>
 nw #[(.slice r5.a r5.len r5.cap)] ty_clauses_Clause fun b6 =>
 apd ty_clauses_Clause 1 24 #[(.slice none 0 0)] ⟨s2.2.1.a, s2.2.1.len, s2.2.1.cap⟩ ⟨(some (⟨b6, 0, none⟩ : Addr)), 1, 1⟩ fun s7 =>
 X1 ((IntKind.wrap .i64 (s2.1 + (1 : Int))), ⟨s7.a, s7.len, s7.cap⟩, ()))
 (K ⟨s2.2.1.a, s2.2.1.len, s2.2.1.cap⟩))
 ((0 : Int), ⟨none, 0, 0⟩, ())
set_option maxRecDepth 100000 in
theorem E_salvorlaw08_All (a0 : Sl) (a1 : Int) (K : Sl → HP) (h : Heap) : fnVC Try.prog [(1000000, .bool)] 26 Try.f15 [(.slice a0.a a0.len a0.cap), (.int .i64 a1)] .sl K h = F_salvorlaw08_All a0 a1 K h := by kernel_rfl
set_option maxRecDepth 100000 in
theorem S_salvorlaw08_All{h : Heap} {a0 : Sl} {a1 : Int} (K : Sl → HP) (hF : F_salvorlaw08_All a0 a1 K h) : CallsH Try.prog fn_salvorlaw08_All #[(.slice a0.a a0.len a0.cap), (.int .i64 a1)] h fun v h' => ∃ x : Sl, v = Ty.enc .sl x ∧ K x h' :=
  callsH_of_fn (P := Try.prog) (fn := Try.f15) (τ := .sl) follows Try.func15 (by kernel_rfl) (by kernel_rfl) Try.call15 (Eq.mpr (E_salvorlaw08_All a0 a1 K h) hF)


/-- salvor/rup.Check -/
def F_rup_Check (a0 : Sl) (a1 : Sl) (K : (Int × (Int × Unit)) → HP) : HP :=
 callT Try.prog fn_rup_check #[(.slice a0.a a0.len a0.cap), (.slice a1.a a1.len a1.cap)] (.tup (.cons .sl (.cons (.int .i64) (.cons (.int .i64) .nil)))) fun r0 =>
 K (r0.2.1, r0.2.2.1, ())
set_option maxRecDepth 100000 in
theorem E_rup_Check (a0 : Sl) (a1 : Sl) (K : (Int × (Int × Unit)) → HP) (h : Heap) : fnVC Try.prog [(1000000, .bool)] 18 Try.f16 [(.slice a0.a a0.len a0.cap), (.slice a1.a a1.len a1.cap)] (.tup (.cons (.int .i64) (.cons (.int .i64) .nil))) K h = F_rup_Check a0 a1 K h := by kernel_rfl
set_option maxRecDepth 100000 in
theorem S_rup_Check{h : Heap} {a0 : Sl} {a1 : Sl} (K : (Int × (Int × Unit)) → HP) (hF : F_rup_Check a0 a1 K h) : CallsH Try.prog fn_rup_Check #[(.slice a0.a a0.len a0.cap), (.slice a1.a a1.len a1.cap)] h fun v h' => ∃ x : (Int × (Int × Unit)), v = Ty.enc (.tup (.cons (.int .i64) (.cons (.int .i64) .nil))) x ∧ K x h' :=
  callsH_of_fn (P := Try.prog) (fn := Try.f16) (τ := (.tup (.cons (.int .i64) (.cons (.int .i64) .nil)))) follows Try.func16 (by kernel_rfl) (by kernel_rfl) Try.call16 (Eq.mpr (E_rup_Check a0 a1 K h) hF)


/-- salvor/rup.Find -/
def F_rup_Find (a0 : Sl) (a1 : Sl) (K : (Sl × (Bool × (Int × Unit))) → HP) : HP :=
 nw #[(.slice a0.a a0.len a0.cap)] ty_clauses_Clause fun b0 =>
 callT Try.prog fn_rup_wrong #[(.slice a1.a a1.len a1.cap), (.slice (some (⟨b0, 0, none⟩ : Addr)) 1 1)] (.int .i64) fun r1 =>
 callT Try.prog fn_rup_many #[(.slice a1.a a1.len a1.cap)] (.int .i64) fun r2 =>
 nw #[(.int .i64 r1), (.int .i64 r2)] ty_api_Errno fun b3 =>
 callT Try.prog fn_rup_first #[(.slice (some (⟨b3, 0, none⟩ : Addr)) 2 2)] (.int .i64) fun r4 =>
 brB (r4 != (0 : Int))
 (K (⟨none, 0, 0⟩, false, r4, ()))
 (callT Try.prog fn_rup_Assume #[(.slice a0.a a0.len a0.cap)] (.tup (.cons .sl (.cons .bool (.cons (.int .i64) .nil)))) fun r5 =>
 brB r5.2.1
 (K (⟨none, 0, 0⟩, true, (0 : Int), ()))
 (callT Try.prog fn_rup_assigned #[(.slice r5.1.a r5.1.len r5.1.cap)] (.tup (.cons .val (.cons .bool .nil))) fun r6 =>
 lfp (σ := (Sl × (Sl × (Sl × (Int × (Bool × (Sl × Unit))))))) (fun X7 s8 => /- units hints taken    -/
 callT Try.prog fn_rup_values_next #[r6.1, (.slice a1.a a1.len a1.cap)] (.tup (.cons (.int .i64) (.cons (.int .i64) .nil))) fun r9 =>
 brB (decide (r9.1 < (0 : Int)))
 (K (⟨none, 0, 0⟩, false, (0 : Int), ()))
 (sx a1.a a1.len r9.1 1 fun p10 =>
 ldT .sl p10 fun x11 =>
 cj
 (nw #[(.int .i64 r9.1)] ty_int fun b12 =>
 cj
 (apd ty_int 1 8 #[(.int .i64 (0 : Int))] ⟨s8.2.2.1.a, s8.2.2.1.len, s8.2.2.1.cap⟩ ⟨(some (⟨b12, 0, none⟩ : Addr)), 1, 1⟩ fun s13 =>
 ck p10 (.slice x11.a x11.len x11.cap) <|
 nw #[(.slice x11.a x11.len x11.cap)] ty_clauses_Clause fun b14 =>
 apd ty_clauses_Clause 1 24 #[(.slice none 0 0)] ⟨s8.2.1.a, s8.2.1.len, s8.2.1.cap⟩ ⟨(some (⟨b14, 0, none⟩ : Addr)), 1, 1⟩ fun s15 =>
 brB (r9.2.1 == (0 : Int))
 (callT Try.prog fn_rup_needed #[(.slice s15.a s15.len s15.cap), (.slice s8.1.a s8.1.len s8.1.cap)] .sl fun r16 =>
 lfp (σ := (Int × (Sl × Unit))) (fun X17 s18 => /-  out -/
 brB (decide (s18.1 < (r16.len : Int)))
 (sx r16.a r16.len s18.1 1 fun p19 =>
 ldT (.int .i64) p19 fun x20 =>
 sx s13.a s13.len x20 1 fun p21 =>
 ldT (.int .i64) p21 fun x22 =>
 nw #[(.int .i64 x22)] ty_int fun b23 =>
 apd ty_int 1 8 #[(.int .i64 (0 : Int))] ⟨s18.2.1.a, s18.2.1.len, s18.2.1.cap⟩ ⟨(some (⟨b23, 0, none⟩ : Addr)), 1, 1⟩ fun s24 =>
 X17 ((IntKind.wrap .i64 (s18.1 + (1 : Int))), ⟨s24.a, s24.len, s24.cap⟩, ()))
 (K (⟨s18.2.1.a, s18.2.1.len, s18.2.1.cap⟩, true, (0 : Int), ())))
 ((0 : Int), ⟨none, 0, 0⟩, ()))
 (nw #[(.int .i64 r9.2.1)] ty_lits_Lit fun b25 =>
 apd ty_lits_Lit 1 8 #[(.int .i64 (0 : Int))] ⟨s8.1.a, s8.1.len, s8.1.cap⟩ ⟨(some (⟨b25, 0, none⟩ : Addr)), 1, 1⟩ fun s26 =>
 callT Try.prog fn_rup_values_put #[r6.1, (.int .i64 r9.2.1)] (.tup .nil) fun r27 =>
 X7 (⟨s26.a, s26.len, s26.cap⟩, ⟨s15.a, s15.len, s15.cap⟩, ⟨s13.a, s13.len, s13.cap⟩, s8.2.2.2.1, s8.2.2.2.2.1, ⟨s8.2.2.2.2.2.1.a, s8.2.2.2.2.2.1.len, s8.2.2.2.2.2.1.cap⟩, ())))
 (nw #[(.slice x11.a x11.len x11.cap)] ty_clauses_Clause fun b28 =>
 apd ty_int 1 8 #[(.int .i64 (0 : Int))] ⟨s8.2.2.1.a, s8.2.2.1.len, s8.2.2.1.cap⟩ ⟨(some (⟨b12, 0, none⟩ : Addr)), 1, 1⟩ fun s29 =>
 ck p10 (.slice x11.a x11.len x11.cap) <|
 apd ty_clauses_Clause 1 24 #[(.slice none 0 0)] ⟨s8.2.1.a, s8.2.1.len, s8.2.1.cap⟩ ⟨(some (⟨b28, 0, none⟩ : Addr)), 1, 1⟩ fun s30 =>
 brB (r9.2.1 == (0 : Int))
 (callT Try.prog fn_rup_needed #[(.slice s30.a s30.len s30.cap), (.slice s8.1.a s8.1.len s8.1.cap)] .sl fun r31 =>
 lfp (σ := (Int × (Sl × Unit))) (fun X32 s33 => /-  out -/
 brB (decide (s33.1 < (r31.len : Int)))
 (sx r31.a r31.len s33.1 1 fun p34 =>
 ldT (.int .i64) p34 fun x35 =>
 sx s29.a s29.len x35 1 fun p36 =>
 ldT (.int .i64) p36 fun x37 =>
 nw #[(.int .i64 x37)] ty_int fun b38 =>
 apd ty_int 1 8 #[(.int .i64 (0 : Int))] ⟨s33.2.1.a, s33.2.1.len, s33.2.1.cap⟩ ⟨(some (⟨b38, 0, none⟩ : Addr)), 1, 1⟩ fun s39 =>
 X32 ((IntKind.wrap .i64 (s33.1 + (1 : Int))), ⟨s39.a, s39.len, s39.cap⟩, ()))
 (K (⟨s33.2.1.a, s33.2.1.len, s33.2.1.cap⟩, true, (0 : Int), ())))
 ((0 : Int), ⟨none, 0, 0⟩, ()))
 (nw #[(.int .i64 r9.2.1)] ty_lits_Lit fun b40 =>
 apd ty_lits_Lit 1 8 #[(.int .i64 (0 : Int))] ⟨s8.1.a, s8.1.len, s8.1.cap⟩ ⟨(some (⟨b40, 0, none⟩ : Addr)), 1, 1⟩ fun s41 =>
 callT Try.prog fn_rup_values_put #[r6.1, (.int .i64 r9.2.1)] (.tup .nil) fun r42 =>
 X7 (⟨s41.a, s41.len, s41.cap⟩, ⟨s30.a, s30.len, s30.cap⟩, ⟨s29.a, s29.len, s29.cap⟩, s8.2.2.2.1, s8.2.2.2.2.1, ⟨s8.2.2.2.2.2.1.a, s8.2.2.2.2.2.1.len, s8.2.2.2.2.2.1.cap⟩, ()))))
 (nw #[(.slice x11.a x11.len x11.cap)] ty_clauses_Clause fun b43 =>
 nw #[(.int .i64 r9.1)] ty_int fun b44 =>
 apd ty_int 1 8 #[(.int .i64 (0 : Int))] ⟨s8.2.2.1.a, s8.2.2.1.len, s8.2.2.1.cap⟩ ⟨(some (⟨b44, 0, none⟩ : Addr)), 1, 1⟩ fun s45 =>
 ck p10 (.slice x11.a x11.len x11.cap) <|
 apd ty_clauses_Clause 1 24 #[(.slice none 0 0)] ⟨s8.2.1.a, s8.2.1.len, s8.2.1.cap⟩ ⟨(some (⟨b43, 0, none⟩ : Addr)), 1, 1⟩ fun s46 =>
 brB (r9.2.1 == (0 : Int))
 (callT Try.prog fn_rup_needed #[(.slice s46.a s46.len s46.cap), (.slice s8.1.a s8.1.len s8.1.cap)] .sl fun r47 =>
 lfp (σ := (Int × (Sl × Unit))) (fun X48 s49 => /-  out -/
 brB (decide (s49.1 < (r47.len : Int)))
 (sx r47.a r47.len s49.1 1 fun p50 =>
 ldT (.int .i64) p50 fun x51 =>
 sx s45.a s45.len x51 1 fun p52 =>
 ldT (.int .i64) p52 fun x53 =>
 nw #[(.int .i64 x53)] ty_int fun b54 =>
 apd ty_int 1 8 #[(.int .i64 (0 : Int))] ⟨s49.2.1.a, s49.2.1.len, s49.2.1.cap⟩ ⟨(some (⟨b54, 0, none⟩ : Addr)), 1, 1⟩ fun s55 =>
 X48 ((IntKind.wrap .i64 (s49.1 + (1 : Int))), ⟨s55.a, s55.len, s55.cap⟩, ()))
 (K (⟨s49.2.1.a, s49.2.1.len, s49.2.1.cap⟩, true, (0 : Int), ())))
 ((0 : Int), ⟨none, 0, 0⟩, ()))
 (nw #[(.int .i64 r9.2.1)] ty_lits_Lit fun b56 =>
 apd ty_lits_Lit 1 8 #[(.int .i64 (0 : Int))] ⟨s8.1.a, s8.1.len, s8.1.cap⟩ ⟨(some (⟨b56, 0, none⟩ : Addr)), 1, 1⟩ fun s57 =>
 callT Try.prog fn_rup_values_put #[r6.1, (.int .i64 r9.2.1)] (.tup .nil) fun r58 =>
 X7 (⟨s57.a, s57.len, s57.cap⟩, ⟨s46.a, s46.len, s46.cap⟩, ⟨s45.a, s45.len, s45.cap⟩, s8.2.2.2.1, s8.2.2.2.2.1, ⟨s8.2.2.2.2.2.1.a, s8.2.2.2.2.2.1.len, s8.2.2.2.2.2.1.cap⟩, ())))))
 (⟨none, 0, 0⟩, ⟨none, 0, 0⟩, ⟨none, 0, 0⟩, (0 : Int), false, ⟨none, 0, 0⟩, ())))
set_option maxRecDepth 100000 in
theorem E_rup_Find (a0 : Sl) (a1 : Sl) (K : (Sl × (Bool × (Int × Unit))) → HP) (h : Heap) : fnVC Try.prog [(1000000, .bool)] 89 Try.f17 [(.slice a0.a a0.len a0.cap), (.slice a1.a a1.len a1.cap)] (.tup (.cons .sl (.cons .bool (.cons (.int .i64) .nil)))) K h = F_rup_Find a0 a1 K h := by kernel_rfl
set_option maxRecDepth 100000 in
theorem S_rup_Find{h : Heap} {a0 : Sl} {a1 : Sl} (K : (Sl × (Bool × (Int × Unit))) → HP) (hF : F_rup_Find a0 a1 K h) : CallsH Try.prog fn_rup_Find #[(.slice a0.a a0.len a0.cap), (.slice a1.a a1.len a1.cap)] h fun v h' => ∃ x : (Sl × (Bool × (Int × Unit))), v = Ty.enc (.tup (.cons .sl (.cons .bool (.cons (.int .i64) .nil)))) x ∧ K x h' :=
  callsH_of_fn (P := Try.prog) (fn := Try.f17) (τ := (.tup (.cons .sl (.cons .bool (.cons (.int .i64) .nil))))) follows Try.func17 (by kernel_rfl) (by kernel_rfl) Try.call17 (Eq.mpr (E_rup_Find a0 a1 K h) hF)


/-- salvor/salvorlaw08.AllTrue -/
def F_salvorlaw08_AllTrue (a0 : Sl) (a1 : Int) (K : Bool → HP) : HP :=
 nw #[(.int .i64 a1)] ty_int fun b0 =>
 callT Try.prog fn_slices_ContainsFunc_clauses_Clause_clauses_Clause #[(.slice a0.a a0.len a0.cap), (.func (.func fn_salvorlaw08_AllTrue_1) #[] #[(.pointer (some (⟨b0, 0, none⟩ : Addr)))])] .bool fun r1 =>
 K (!r1)
set_option maxRecDepth 100000 in
theorem E_salvorlaw08_AllTrue (a0 : Sl) (a1 : Int) (K : Bool → HP) (h : Heap) : fnVC Try.prog [(1000000, .bool)] 9 Try.f18 [(.slice a0.a a0.len a0.cap), (.int .i64 a1)] .bool K h = F_salvorlaw08_AllTrue a0 a1 K h := by kernel_rfl
set_option maxRecDepth 100000 in
theorem S_salvorlaw08_AllTrue{h : Heap} {a0 : Sl} {a1 : Int} (K : Bool → HP) (hF : F_salvorlaw08_AllTrue a0 a1 K h) : CallsH Try.prog fn_salvorlaw08_AllTrue #[(.slice a0.a a0.len a0.cap), (.int .i64 a1)] h fun v h' => ∃ x : Bool, v = Ty.enc .bool x ∧ K x h' :=
  callsH_of_fn (P := Try.prog) (fn := Try.f18) (τ := .bool) follows Try.func18 (by kernel_rfl) (by kernel_rfl) Try.call18 (Eq.mpr (E_salvorlaw08_AllTrue a0 a1 K h) hF)


/-- salvor/salvorlaw08.True -/
def F_salvorlaw08_True (a0 : Sl) (a1 : Int) (K : Bool → HP) : HP :=
 lfp (σ := (Int × (Bool × Unit))) (fun X0 s1 => /-   -/
 brB (decide (s1.1 < (a0.len : Int)))
 (sx a0.a a0.len s1.1 1 fun p2 =>
 ldT (.int .i64) p2 fun x3 =>
 jn (σ := Bool) (fun t5 =>
 jn (σ := Bool) (fun t7 =>
 brB t7
 (K true)
 (X0 ((IntKind.wrap .i64 (s1.1 + (1 : Int))), s1.2.1, ())))
 (fun J6 =>
 brB t5
 (J6 true)
 (jn (σ := Bool) (fun t9 =>
 J6 (t9))
 (fun J8 =>
 brB (decide (x3 < (0 : Int)))
 (ge0 (IntKind.wrap .u64 (if (40 : Int) < (IntKind.wrap .i64 (0 - x3)) then (40 : Int) else (IntKind.wrap .i64 (0 - x3)))) <|
 J8 (((bAnd .i64 (Int.fdiv a1 (2 ^ (min ((IntKind.wrap .u64 (if (40 : Int) < (IntKind.wrap .i64 (0 - x3)) then (40 : Int) else (IntKind.wrap .i64 (0 - x3))))).toNat 64))) (1 : Int)) == (0 : Int))))
 (J8 false)))))
 (fun J4 =>
 brB (decide (x3 > (0 : Int)))
 (ge0 (IntKind.wrap .u64 (if (40 : Int) < x3 then (40 : Int) else x3)) <|
 J4 (((bAnd .i64 (Int.fdiv a1 (2 ^ (min ((IntKind.wrap .u64 (if (40 : Int) < x3 then (40 : Int) else x3))).toNat 64))) (1 : Int)) == (1 : Int))))
 (J4 false)))
 (K false))
 ((0 : Int), false, ())
set_option maxRecDepth 100000 in
theorem E_salvorlaw08_True (a0 : Sl) (a1 : Int) (K : Bool → HP) (h : Heap) : fnVC Try.prog [(1000000, .bool)] 39 Try.f19 [(.slice a0.a a0.len a0.cap), (.int .i64 a1)] .bool K h = F_salvorlaw08_True a0 a1 K h := by kernel_rfl
set_option maxRecDepth 100000 in
theorem S_salvorlaw08_True{h : Heap} {a0 : Sl} {a1 : Int} (K : Bool → HP) (hF : F_salvorlaw08_True a0 a1 K h) : CallsH Try.prog fn_salvorlaw08_True #[(.slice a0.a a0.len a0.cap), (.int .i64 a1)] h fun v h' => ∃ x : Bool, v = Ty.enc .bool x ∧ K x h' :=
  callsH_of_fn (P := Try.prog) (fn := Try.f19) (τ := .bool) follows Try.func19 (by kernel_rfl) (by kernel_rfl) Try.call19 (Eq.mpr (E_salvorlaw08_True a0 a1 K h) hF)


/-- salvor/clauses.Always -/
def F_clauses_Always (a0 : Sl) (K : Bool → HP) : HP := fun h0 => (
 nw #[(.bool false)] ty_bool fun b0 =>
 callT Try.prog fn_clauses_Right #[(.slice a0.a a0.len a0.cap)] .bool fun r1 =>
 brB (!r1)
 (st1 (⟨b0, 0, none⟩ : Addr) (.bool false) <|
 mkd h0.size <|
 ldT .bool (⟨b0, 0, none⟩ : Addr) fun x2 =>
 K x2)
 (nw #[(.int .i64 (0 : Int))] ty_lits_Lit fun b3 =>
 st1 (⟨b3, 0, none⟩ : Addr) (.int .i64 (0 : Int)) <|
 callT Try.prog fn_clauses_sorted #[(.slice a0.a a0.len a0.cap)] .val fun r4 =>
 RangeVC Try.prog (.cons (.int .i64) .nil) r4 (fun x5 wrap6 next7 jump8 =>
 wrap6 <|
 ldT (.int .i64) (⟨b3, 0, none⟩ : Addr) fun x9 =>
 brB (x9 != (0 : Int))
 (ldT (.int .i64) (⟨b3, 0, none⟩ : Addr) fun x10 =>
 callT Try.prog fn_lits_Neg #[(.int .i64 x10)] (.int .i64) fun r11 =>
 brB (x5.1 == r11)
 (st1 (⟨b0, 0, none⟩ : Addr) (.bool true) <|
 jump8 .ret)
 (st1 (⟨b3, 0, none⟩ : Addr) (.int .i64 x5.1) <|
 next7))
 (st1 (⟨b3, 0, none⟩ : Addr) (.int .i64 x5.1) <|
 next7))
 (st1 (⟨b0, 0, none⟩ : Addr) (.bool false) <|
 mkd h0.size <|
 ldT .bool (⟨b0, 0, none⟩ : Addr) fun x12 =>
 K x12)
 (mkd h0.size <|
 ldT .bool (⟨b0, 0, none⟩ : Addr) fun x13 =>
 K x13)
 []
 [])) h0
set_option maxRecDepth 100000 in
theorem E_clauses_Always (a0 : Sl) (K : Bool → HP) (h : Heap) : fnVC Try.prog [(1000000, .nil), (10, (.cons (.int .i64) .nil))] 20 Try.f20 [(.slice a0.a a0.len a0.cap)] .bool K h = F_clauses_Always a0 K h := by kernel_rfl
set_option maxRecDepth 100000 in
theorem S_clauses_Always{h : Heap} {a0 : Sl} (K : Bool → HP) (hF : F_clauses_Always a0 K h) : CallsH Try.prog fn_clauses_Always #[(.slice a0.a a0.len a0.cap)] h fun v h' => ∃ x : Bool, v = Ty.enc .bool x ∧ K x h' :=
  callsH_of_fn (P := Try.prog) (fn := Try.f20) (τ := .bool) follows Try.func20 (by kernel_rfl) (by kernel_rfl) Try.call20 (Eq.mpr (E_clauses_Always a0 K h) hF)


/-- salvor/salvorlaw08.looks -/
def F_salvorlaw08_looks (a0 : Sl) (a1 : Sl) (K : Bool → HP) : HP :=
 callT Try.prog fn_salvorlaw08_Ints #[(.slice a0.a a0.len a0.cap)] .sl fun r0 =>
 callT Try.prog fn_salvorlaw08_Ints #[(.slice a1.a a1.len a1.cap)] .sl fun r1 =>
 callT Try.prog fn_slices_Clone_clauses_Clause_lits_Lit #[(.slice a0.a a0.len a0.cap)] .sl fun r2 =>
 callT Try.prog fn_slices_Clone_lits_Lit_lits_Lit #[(.slice a1.a a1.len a1.cap)] .sl fun r3 =>
 callT Try.prog fn_rup_Look #[(.slice r2.a r2.len r2.cap), (.slice r3.a r3.len r3.cap)] (.tup (.cons (.int .u8) (.cons (.int .i64) (.cons (.int .i64) .nil)))) fun r4 =>
 callT Try.prog fn_salvorref02_Right #[(.slice r0.a r0.len r0.cap)] .bool fun r5 =>
 jn (σ := (Int × Unit)) (fun s7 => /- bad -/
 jn (σ := (Int × (Int × Unit))) (fun s9 => /- unit want -/
 callT Try.prog fn_rup_Right #[(.slice r3.a r3.len r3.cap)] .bool fun r10 =>
 callT Try.prog fn_salvorref08_Right #[(.slice r1.a r1.len r1.cap)] .bool fun r11 =>
 jn (σ := Bool) (fun t13 =>
 jn (σ := Bool) (fun t15 =>
 jn (σ := Bool) (fun t17 =>
 brB t17
 (K false)
 (callT Try.prog fn_rup_Assume #[(.slice r2.a r2.len r2.cap)] (.tup (.cons .sl (.cons .bool (.cons (.int .i64) .nil)))) fun r18 =>
 callT Try.prog fn_salvorref02_Right #[(.slice r0.a r0.len r0.cap)] .bool fun r19 =>
 brB (!r19)
 (jn (σ := Bool) (fun t21 =>
 jn (σ := Bool) (fun t23 =>
 K t23)
 (fun J22 =>
 brB t21
 (J22 ((r18.2.2.1 == (20 : Int))))
 (J22 false)))
 (fun J20 =>
 brB ((r18.1.len : Int) == (0 : Int))
 (J20 ((!r18.2.1)))
 (J20 false)))
 (callT Try.prog fn_salvorref08_Assume #[(.slice r0.a r0.len r0.cap)] (.tup (.cons .sl (.cons .bool .nil))) fun r24 =>
 callT Try.prog fn_salvorlaw08_Ints #[(.slice r18.1.a r18.1.len r18.1.cap)] .sl fun r25 =>
 callT Try.prog fn_slices_Equal_int_int #[(.slice r25.a r25.len r25.cap), (.slice r24.1.a r24.1.len r24.1.cap)] .bool fun r26 =>
 jn (σ := Bool) (fun t28 =>
 jn (σ := Bool) (fun t30 =>
 brB t30
 (K false)
 (lfp (σ := (Int × Unit)) (fun X31 s32 => /-  -/
 brB (decide (s32.1 < (r18.1.len : Int)))
 (sx r18.1.a r18.1.len s32.1 1 fun p33 =>
 st1 p33 (.int .i64 (99 : Int)) <|
 X31 ((IntKind.wrap .i64 (s32.1 + (1 : Int))), ()))
 (callT Try.prog fn_slices_Equal_clauses_Clause_lits_Lit #[(.slice r2.a r2.len r2.cap), (.slice a0.a a0.len a0.cap)] .bool fun r34 =>
 jn (σ := Bool) (fun t36 =>
 K t36)
 (fun J35 =>
 brB r34
 (callT Try.prog fn_slices_Equal_lits_Lit_lits_Lit #[(.slice r3.a r3.len r3.cap), (.slice a1.a a1.len a1.cap)] .bool fun r37 =>
 J35 (r37))
 (J35 false))))
 ((0 : Int), ())))
 (fun J29 =>
 brB t28
 (J29 true)
 (J29 ((r18.2.2.1 != (0 : Int))))))
 (fun J27 =>
 brB (!r26)
 (J27 true)
 (J27 ((!(r18.2.1 == r24.2.1))))))))
 (fun J16 =>
 brB t15
 (J16 true)
 (J16 ((r4.2.2.1 != s7.1)))))
 (fun J14 =>
 brB t13
 (J14 true)
 (J14 ((r4.2.1 != s9.1)))))
 (fun J12 =>
 brB (!(r10 == r11))
 (J12 true)
 (J12 (((IntKind.wrap .i64 r4.1) != s9.2.1)))))
 (fun J8 =>
 brB (s7.1 == (0 : Int))
 (callT Try.prog fn_salvorref08_Look #[(.slice r0.a r0.len r0.cap), (.slice r1.a r1.len r1.cap)] (.tup (.cons (.int .i64) (.cons (.int .i64) .nil))) fun r38 =>
 J8 (r38.2.1, r38.1, ()))
 (J8 ((0 : Int), (0 : Int), ()))))
 (fun J6 =>
 brB (!r5)
 (J6 ((20 : Int), ()))
 (callT Try.prog fn_salvorref08_Right #[(.slice r1.a r1.len r1.cap)] .bool fun r39 =>
 jn (σ := (Int × Unit)) (fun s41 => /- bad -/
 J6 (s41.1, ()))
 (fun J40 =>
 brB (!r39)
 (J40 ((80 : Int), ()))
 (J40 ((0 : Int), ())))))
set_option maxRecDepth 100000 in
theorem E_salvorlaw08_looks (a0 : Sl) (a1 : Sl) (K : Bool → HP) (h : Heap) : fnVC Try.prog [(1000000, .bool)] 128 Try.f21 [(.slice a0.a a0.len a0.cap), (.slice a1.a a1.len a1.cap)] .bool K h = F_salvorlaw08_looks a0 a1 K h := by kernel_rfl
set_option maxRecDepth 100000 in
theorem S_salvorlaw08_looks{h : Heap} {a0 : Sl} {a1 : Sl} (K : Bool → HP) (hF : F_salvorlaw08_looks a0 a1 K h) : CallsH Try.prog fn_salvorlaw08_looks #[(.slice a0.a a0.len a0.cap), (.slice a1.a a1.len a1.cap)] h fun v h' => ∃ x : Bool, v = Ty.enc .bool x ∧ K x h' :=
  callsH_of_fn (P := Try.prog) (fn := Try.f21) (τ := .bool) follows Try.func21 (by kernel_rfl) (by kernel_rfl) Try.call21 (Eq.mpr (E_salvorlaw08_looks a0 a1 K h) hF)


/-- salvor/rup.Assume -/
def F_rup_Assume (a0 : Sl) (K : (Sl × (Bool × (Int × Unit))) → HP) : HP :=
 callT Try.prog fn_clauses_Norm #[(.slice a0.a a0.len a0.cap)] (.tup (.cons .sl (.cons .bool (.cons (.int .i64) .nil)))) fun r0 =>
 jn (σ := Bool) (fun t2 =>
 brB t2
 (K (⟨none, 0, 0⟩, r0.2.1, r0.2.2.1, ()))
 (lfp (σ := (Int × (Sl × Unit))) (fun X3 s4 => /-  out -/
 brB (decide (s4.1 < (r0.1.len : Int)))
 (sx r0.1.a r0.1.len s4.1 1 fun p5 =>
 ldT (.int .i64) p5 fun x6 =>
 callT Try.prog fn_lits_Neg #[(.int .i64 x6)] (.int .i64) fun r7 =>
 nw #[(.int .i64 r7)] ty_lits_Lit fun b8 =>
 apd ty_lits_Lit 1 8 #[(.int .i64 (0 : Int))] ⟨s4.2.1.a, s4.2.1.len, s4.2.1.cap⟩ ⟨(some (⟨b8, 0, none⟩ : Addr)), 1, 1⟩ fun s9 =>
 X3 ((IntKind.wrap .i64 (s4.1 + (1 : Int))), ⟨s9.a, s9.len, s9.cap⟩, ()))
 (callT Try.prog fn_slices_SortFunc_lits_Lit_lits_Lit #[(.slice s4.2.1.a s4.2.1.len s4.2.1.cap), (.func (.func fn_lits_Compare) #[] #[])] (.tup .nil) fun r10 =>
 K (⟨s4.2.1.a, s4.2.1.len, s4.2.1.cap⟩, false, (0 : Int), ())))
 ((0 : Int), ⟨none, 0, 0⟩, ())))
 (fun J1 =>
 brB (r0.2.2.1 != (0 : Int))
 (J1 true)
 (J1 (r0.2.1)))
set_option maxRecDepth 100000 in
theorem E_rup_Assume (a0 : Sl) (K : (Sl × (Bool × (Int × Unit))) → HP) (h : Heap) : fnVC Try.prog [(1000000, .bool)] 39 Try.f22 [(.slice a0.a a0.len a0.cap)] (.tup (.cons .sl (.cons .bool (.cons (.int .i64) .nil)))) K h = F_rup_Assume a0 K h := by kernel_rfl
set_option maxRecDepth 100000 in
theorem S_rup_Assume{h : Heap} {a0 : Sl} (K : (Sl × (Bool × (Int × Unit))) → HP) (hF : F_rup_Assume a0 K h) : CallsH Try.prog fn_rup_Assume #[(.slice a0.a a0.len a0.cap)] h fun v h' => ∃ x : (Sl × (Bool × (Int × Unit))), v = Ty.enc (.tup (.cons .sl (.cons .bool (.cons (.int .i64) .nil)))) x ∧ K x h' :=
  callsH_of_fn (P := Try.prog) (fn := Try.f22) (τ := (.tup (.cons .sl (.cons .bool (.cons (.int .i64) .nil))))) follows Try.func22 (by kernel_rfl) (by kernel_rfl) Try.call22 (Eq.mpr (E_rup_Assume a0 K h) hF)


/-- salvor/rup.Look -/
def F_rup_Look (a0 : Sl) (a1 : Sl) (K : (Int × (Int × (Int × Unit))) → HP) : HP :=
 callT Try.prog fn_rup_assigned #[(.slice a1.a a1.len a1.cap)] (.tup (.cons .val (.cons .bool .nil))) fun r0 =>
 callT Try.prog fn_clauses_Right #[(.slice a0.a a0.len a0.cap)] .bool fun r1 =>
 brB (!r1)
 (K ((0 : Int), (0 : Int), (20 : Int), ()))
 (brB (!r0.2.1)
 (K ((0 : Int), (0 : Int), (80 : Int), ()))
 (callT Try.prog fn_rup_values_look #[r0.1, (.slice a0.a a0.len a0.cap)] (.tup (.cons (.int .u8) (.cons (.int .i64) .nil))) fun r2 =>
 K (r2.1, r2.2.1, (0 : Int), ())))
set_option maxRecDepth 100000 in
theorem E_rup_Look (a0 : Sl) (a1 : Sl) (K : (Int × (Int × (Int × Unit))) → HP) (h : Heap) : fnVC Try.prog [(1000000, .bool)] 31 Try.f23 [(.slice a0.a a0.len a0.cap), (.slice a1.a a1.len a1.cap)] (.tup (.cons (.int .u8) (.cons (.int .i64) (.cons (.int .i64) .nil)))) K h = F_rup_Look a0 a1 K h := by kernel_rfl
set_option maxRecDepth 100000 in
theorem S_rup_Look{h : Heap} {a0 : Sl} {a1 : Sl} (K : (Int × (Int × (Int × Unit))) → HP) (hF : F_rup_Look a0 a1 K h) : CallsH Try.prog fn_rup_Look #[(.slice a0.a a0.len a0.cap), (.slice a1.a a1.len a1.cap)] h fun v h' => ∃ x : (Int × (Int × (Int × Unit))), v = Ty.enc (.tup (.cons (.int .u8) (.cons (.int .i64) (.cons (.int .i64) .nil)))) x ∧ K x h' :=
  callsH_of_fn (P := Try.prog) (fn := Try.f23) (τ := (.tup (.cons (.int .u8) (.cons (.int .i64) (.cons (.int .i64) .nil))))) follows Try.func23 (by kernel_rfl) (by kernel_rfl) Try.call23 (Eq.mpr (E_rup_Look a0 a1 K h) hF)


/-- salvor/rup.Right -/
def F_rup_Right (a0 : Sl) (K : Bool → HP) : HP :=
 callT Try.prog fn_rup_assigned #[(.slice a0.a a0.len a0.cap)] (.tup (.cons .val (.cons .bool .nil))) fun r0 =>
 K r0.2.1
set_option maxRecDepth 100000 in
theorem E_rup_Right (a0 : Sl) (K : Bool → HP) (h : Heap) : fnVC Try.prog [(1000000, .bool)] 11 Try.f24 [(.slice a0.a a0.len a0.cap)] .bool K h = F_rup_Right a0 K h := by kernel_rfl
set_option maxRecDepth 100000 in
theorem S_rup_Right{h : Heap} {a0 : Sl} (K : Bool → HP) (hF : F_rup_Right a0 K h) : CallsH Try.prog fn_rup_Right #[(.slice a0.a a0.len a0.cap)] h fun v h' => ∃ x : Bool, v = Ty.enc .bool x ∧ K x h' :=
  callsH_of_fn (P := Try.prog) (fn := Try.f24) (τ := .bool) follows Try.func24 (by kernel_rfl) (by kernel_rfl) Try.call24 (Eq.mpr (E_rup_Right a0 K h) hF)


/-- salvor/salvorlaw08.Few -/
def F_salvorlaw08_Few (a0 : Sl) (a1 : Int) (a2 : Int) (K : Bool → HP) : HP :=
 nw #[(.int .i64 a2)] ty_int fun b0 =>
 jn (σ := Bool) (fun t2 =>
 K t2)
 (fun J1 =>
 brB (decide ((a0.len : Int) ≤ a1))
 (callT Try.prog fn_slices_ContainsFunc_clauses_Clause_clauses_Clause #[(.slice a0.a a0.len a0.cap), (.func (.func fn_salvorlaw08_Few_1) #[] #[(.pointer (some (⟨b0, 0, none⟩ : Addr)))])] .bool fun r3 =>
 J1 ((!r3)))
 (J1 false))
set_option maxRecDepth 100000 in
theorem E_salvorlaw08_Few (a0 : Sl) (a1 : Int) (a2 : Int) (K : Bool → HP) (h : Heap) : fnVC Try.prog [(1000000, .bool)] 17 Try.f25 [(.slice a0.a a0.len a0.cap), (.int .i64 a1), (.int .i64 a2)] .bool K h = F_salvorlaw08_Few a0 a1 a2 K h := by kernel_rfl
set_option maxRecDepth 100000 in
theorem S_salvorlaw08_Few{h : Heap} {a0 : Sl} {a1 : Int} {a2 : Int} (K : Bool → HP) (hF : F_salvorlaw08_Few a0 a1 a2 K h) : CallsH Try.prog fn_salvorlaw08_Few #[(.slice a0.a a0.len a0.cap), (.int .i64 a1), (.int .i64 a2)] h fun v h' => ∃ x : Bool, v = Ty.enc .bool x ∧ K x h' :=
  callsH_of_fn (P := Try.prog) (fn := Try.f25) (τ := .bool) follows Try.func25 (by kernel_rfl) (by kernel_rfl) Try.call25 (Eq.mpr (E_salvorlaw08_Few a0 a1 a2 K h) hF)


/-- salvor/salvorlaw08.finds -/
def F_salvorlaw08_finds (a0 : Sl) (a1 : Sl) (K : Bool → HP) : HP :=
 callT Try.prog fn_salvorlaw08_Copies #[(.slice a1.a a1.len a1.cap)] .sl fun r0 =>
 callT Try.prog fn_rup_Find #[(.slice a0.a a0.len a0.cap), (.slice r0.a r0.len r0.cap)] (.tup (.cons .sl (.cons .bool (.cons (.int .i64) .nil)))) fun r1 =>
 callT Try.prog fn_salvorlaw08_Ints #[(.slice a0.a a0.len a0.cap)] .sl fun r2 =>
 callT Try.prog fn_salvorref02_Right #[(.slice r2.a r2.len r2.cap)] .bool fun r3 =>
 jn (σ := Bool) (fun t5 =>
 brB t5
 (jn (σ := Bool) (fun t7 =>
 jn (σ := Bool) (fun t9 =>
 K t9)
 (fun J8 =>
 brB t7
 (J8 ((r1.2.2.1 == (20 : Int))))
 (J8 false)))
 (fun J6 =>
 brB ((r1.1.len : Int) == (0 : Int))
 (J6 ((!r1.2.1)))
 (J6 false)))
 (callT Try.prog fn_salvorlaw08_Ints #[(.slice a0.a a0.len a0.cap)] .sl fun r10 =>
 callT Try.prog fn_salvorlaw08_Lists #[(.slice a1.a a1.len a1.cap)] .sl fun r11 =>
 callT Try.prog fn_salvorref08_Find #[(.slice r10.a r10.len r10.cap), (.slice r11.a r11.len r11.cap)] (.tup (.cons .sl (.cons .bool .nil))) fun r12 =>
 callT Try.prog fn_slices_Equal_int_int #[(.slice r1.1.a r1.1.len r1.1.cap), (.slice r12.1.a r12.1.len r12.1.cap)] .bool fun r13 =>
 jn (σ := Bool) (fun t15 =>
 jn (σ := Bool) (fun t17 =>
 jn (σ := Bool) (fun t19 =>
 K t19)
 (fun J18 =>
 brB t17
 (callT Try.prog fn_salvorlaw08_SameLists #[(.slice r0.a r0.len r0.cap), (.slice a1.a a1.len a1.cap)] .bool fun r20 =>
 J18 (r20))
 (J18 false)))
 (fun J16 =>
 brB t15
 (J16 ((r1.2.2.1 == (0 : Int))))
 (J16 false)))
 (fun J14 =>
 brB r13
 (J14 ((r1.2.1 == r12.2.1)))
 (J14 false))))
 (fun J4 =>
 brB (!r3)
 (J4 true)
 (callT Try.prog fn_salvorlaw08_Lists #[(.slice a1.a a1.len a1.cap)] .sl fun r21 =>
 callT Try.prog fn_salvorref08_Clauses #[(.slice r21.a r21.len r21.cap)] .bool fun r22 =>
 J4 ((!r22))))
set_option maxRecDepth 100000 in
theorem E_salvorlaw08_finds (a0 : Sl) (a1 : Sl) (K : Bool → HP) (h : Heap) : fnVC Try.prog [(1000000, .bool)] 66 Try.f26 [(.slice a0.a a0.len a0.cap), (.slice a1.a a1.len a1.cap)] .bool K h = F_salvorlaw08_finds a0 a1 K h := by kernel_rfl
set_option maxRecDepth 100000 in
theorem S_salvorlaw08_finds{h : Heap} {a0 : Sl} {a1 : Sl} (K : Bool → HP) (hF : F_salvorlaw08_finds a0 a1 K h) : CallsH Try.prog fn_salvorlaw08_finds #[(.slice a0.a a0.len a0.cap), (.slice a1.a a1.len a1.cap)] h fun v h' => ∃ x : Bool, v = Ty.enc .bool x ∧ K x h' :=
  callsH_of_fn (P := Try.prog) (fn := Try.f26) (τ := .bool) follows Try.func26 (by kernel_rfl) (by kernel_rfl) Try.call26 (Eq.mpr (E_salvorlaw08_finds a0 a1 K h) hF)


/-- slices.Concat[[]salvor/clauses.Clause,salvor/clauses.Clause] -/
def F_slices_Concat_clauses_Clause_clauses_Clause (a0 : Sl) (K : Sl → HP) : HP :=
 lfp (σ := (Int × (Int × Unit))) (fun X0 s1 => /-  size -/
 brB (decide (s1.1 < (a0.len : Int)))
 (sx a0.a a0.len s1.1 1 fun p2 =>
 ldT .sl p2 fun x3 =>
 jn (σ := Unit) (fun s5 => /- -/
 X0 ((IntKind.wrap .i64 (s1.1 + (1 : Int))), (IntKind.wrap .i64 (s1.2.1 + (x3.len : Int))), ()))
 (fun J4 =>
 brB (decide ((IntKind.wrap .i64 (s1.2.1 + (x3.len : Int))) < (0 : Int)))
 (fF /- not known -/)
 (J4 (()))))
 (callT Try.prog fn_slices_Grow_clauses_Clause_clauses_Clause #[(.slice none 0 0), (.int .i64 s1.2.1)] .sl fun r6 =>
 lfp (σ := (Int × (Sl × Unit))) (fun X7 s8 => /-  newslice -/
 brB (decide (s8.1 < (a0.len : Int)))
 (sx a0.a a0.len s8.1 1 fun p9 =>
 ldT .sl p9 fun x10 =>
 apd ty_clauses_Clause 1 24 #[(.slice none 0 0)] ⟨s8.2.1.a, s8.2.1.len, s8.2.1.cap⟩ ⟨x10.a, x10.len, x10.cap⟩ fun s11 =>
 X7 ((IntKind.wrap .i64 (s8.1 + (1 : Int))), ⟨s11.a, s11.len, s11.cap⟩, ()))
 (K ⟨s8.2.1.a, s8.2.1.len, s8.2.1.cap⟩))
 ((0 : Int), ⟨r6.a, r6.len, r6.cap⟩, ())))
 ((0 : Int), (0 : Int), ())
set_option maxRecDepth 100000 in
theorem E_slices_Concat_clauses_Clause_clauses_Clause (a0 : Sl) (K : Sl → HP) (h : Heap) : fnVC Try.prog [(1000000, .nil)] 36 Try.f27 [(.slice a0.a a0.len a0.cap)] .sl K h = F_slices_Concat_clauses_Clause_clauses_Clause a0 K h := by kernel_rfl
set_option maxRecDepth 100000 in
theorem S_slices_Concat_clauses_Clause_clauses_Clause{h : Heap} {a0 : Sl} (K : Sl → HP) (hF : F_slices_Concat_clauses_Clause_clauses_Clause a0 K h) : CallsH Try.prog fn_slices_Concat_clauses_Clause_clauses_Clause #[(.slice a0.a a0.len a0.cap)] h fun v h' => ∃ x : Sl, v = Ty.enc .sl x ∧ K x h' :=
  callsH_of_fn (P := Try.prog) (fn := Try.f27) (τ := .sl) follows Try.func27 (by kernel_rfl) (by kernel_rfl) Try.call27 (Eq.mpr (E_slices_Concat_clauses_Clause_clauses_Clause a0 K h) hF)


/-- slices.Concat[salvor/clauses.Clause,salvor/lits.Lit] -/
def F_slices_Concat_clauses_Clause_lits_Lit (a0 : Sl) (K : Sl → HP) : HP :=
 lfp (σ := (Int × (Int × Unit))) (fun X0 s1 => /-  size -/
 brB (decide (s1.1 < (a0.len : Int)))
 (sx a0.a a0.len s1.1 1 fun p2 =>
 ldT .sl p2 fun x3 =>
 jn (σ := Unit) (fun s5 => /- -/
 X0 ((IntKind.wrap .i64 (s1.1 + (1 : Int))), (IntKind.wrap .i64 (s1.2.1 + (x3.len : Int))), ()))
 (fun J4 =>
 brB (decide ((IntKind.wrap .i64 (s1.2.1 + (x3.len : Int))) < (0 : Int)))
 (fF /- not known -/)
 (J4 (()))))
 (callT Try.prog fn_slices_Grow_clauses_Clause_lits_Lit #[(.slice none 0 0), (.int .i64 s1.2.1)] .sl fun r6 =>
 lfp (σ := (Int × (Sl × Unit))) (fun X7 s8 => /-  newslice -/
 brB (decide (s8.1 < (a0.len : Int)))
 (sx a0.a a0.len s8.1 1 fun p9 =>
 ldT .sl p9 fun x10 =>
 apd ty_lits_Lit 1 8 #[(.int .i64 (0 : Int))] ⟨s8.2.1.a, s8.2.1.len, s8.2.1.cap⟩ ⟨x10.a, x10.len, x10.cap⟩ fun s11 =>
 X7 ((IntKind.wrap .i64 (s8.1 + (1 : Int))), ⟨s11.a, s11.len, s11.cap⟩, ()))
 (K ⟨s8.2.1.a, s8.2.1.len, s8.2.1.cap⟩))
 ((0 : Int), ⟨r6.a, r6.len, r6.cap⟩, ())))
 ((0 : Int), (0 : Int), ())
set_option maxRecDepth 100000 in
theorem E_slices_Concat_clauses_Clause_lits_Lit (a0 : Sl) (K : Sl → HP) (h : Heap) : fnVC Try.prog [(1000000, .nil)] 36 Try.f28 [(.slice a0.a a0.len a0.cap)] .sl K h = F_slices_Concat_clauses_Clause_lits_Lit a0 K h := by kernel_rfl
set_option maxRecDepth 100000 in
theorem S_slices_Concat_clauses_Clause_lits_Lit{h : Heap} {a0 : Sl} (K : Sl → HP) (hF : F_slices_Concat_clauses_Clause_lits_Lit a0 K h) : CallsH Try.prog fn_slices_Concat_clauses_Clause_lits_Lit #[(.slice a0.a a0.len a0.cap)] h fun v h' => ∃ x : Sl, v = Ty.enc .sl x ∧ K x h' :=
  callsH_of_fn (P := Try.prog) (fn := Try.f28) (τ := .sl) follows Try.func28 (by kernel_rfl) (by kernel_rfl) Try.call28 (Eq.mpr (E_slices_Concat_clauses_Clause_lits_Lit a0 K h) hF)


/-- slices.Contains[[]int,int] -/
def F_slices_Contains_int_int (a0 : Sl) (a1 : Int) (K : Bool → HP) : HP :=
 callT Try.prog fn_slices_Index_int_int #[(.slice a0.a a0.len a0.cap), (.int .i64 a1)] (.int .i64) fun r0 =>
 K (decide (r0 ≥ (0 : Int)))
set_option maxRecDepth 100000 in
theorem E_slices_Contains_int_int (a0 : Sl) (a1 : Int) (K : Bool → HP) (h : Heap) : fnVC Try.prog [(1000000, .nil)] 9 Try.f29 [(.slice a0.a a0.len a0.cap), (.int .i64 a1)] .bool K h = F_slices_Contains_int_int a0 a1 K h := by kernel_rfl
set_option maxRecDepth 100000 in
theorem S_slices_Contains_int_int{h : Heap} {a0 : Sl} {a1 : Int} (K : Bool → HP) (hF : F_slices_Contains_int_int a0 a1 K h) : CallsH Try.prog fn_slices_Contains_int_int #[(.slice a0.a a0.len a0.cap), (.int .i64 a1)] h fun v h' => ∃ x : Bool, v = Ty.enc .bool x ∧ K x h' :=
  callsH_of_fn (P := Try.prog) (fn := Try.f29) (τ := .bool) follows Try.func29 (by kernel_rfl) (by kernel_rfl) Try.call29 (Eq.mpr (E_slices_Contains_int_int a0 a1 K h) hF)


/-- salvor/rup.Trim -/
def F_rup_Trim (a0 : Sl) (a1 : Sl) (K : (Sl × (Int × Unit)) → HP) : HP :=
 callT Try.prog fn_rup_check #[(.slice a0.a a0.len a0.cap), (.slice a1.a a1.len a1.cap)] (.tup (.cons .sl (.cons (.int .i64) (.cons (.int .i64) .nil)))) fun r0 =>
 jn (σ := Bool) (fun t2 =>
 brB t2
 (K (⟨none, 0, 0⟩, r0.2.2.1, ()))
 (slH ⟨a1.a, a1.len, a1.cap⟩ r0.2.1 1 fun s3 =>
 callT Try.prog fn_rup_needed #[(.slice s3.a s3.len s3.cap), (.slice r0.1.a r0.1.len r0.1.cap)] .sl fun r4 =>
 K (⟨r4.a, r4.len, r4.cap⟩, (0 : Int), ())))
 (fun J1 =>
 brB (r0.2.2.1 != (0 : Int))
 (J1 true)
 (J1 ((r0.2.1 == (0 : Int)))))
set_option maxRecDepth 100000 in
theorem E_rup_Trim (a0 : Sl) (a1 : Sl) (K : (Sl × (Int × Unit)) → HP) (h : Heap) : fnVC Try.prog [(1000000, .bool)] 28 Try.f30 [(.slice a0.a a0.len a0.cap), (.slice a1.a a1.len a1.cap)] (.tup (.cons .sl (.cons (.int .i64) .nil))) K h = F_rup_Trim a0 a1 K h := by kernel_rfl
set_option maxRecDepth 100000 in
theorem S_rup_Trim{h : Heap} {a0 : Sl} {a1 : Sl} (K : (Sl × (Int × Unit)) → HP) (hF : F_rup_Trim a0 a1 K h) : CallsH Try.prog fn_rup_Trim #[(.slice a0.a a0.len a0.cap), (.slice a1.a a1.len a1.cap)] h fun v h' => ∃ x : (Sl × (Int × Unit)), v = Ty.enc (.tup (.cons .sl (.cons (.int .i64) .nil))) x ∧ K x h' :=
  callsH_of_fn (P := Try.prog) (fn := Try.f30) (τ := (.tup (.cons .sl (.cons (.int .i64) .nil)))) follows Try.func30 (by kernel_rfl) (by kernel_rfl) Try.call30 (Eq.mpr (E_rup_Trim a0 a1 K h) hF)


/-- slices.Delete[[]salvor/clauses.Clause,salvor/clauses.Clause] -/
def F_slices_Delete_clauses_Clause_clauses_Clause (a0 : Sl) (a1 : Int) (a2 : Int) (K : Sl → HP) : HP :=
 slM ⟨a0.a, a0.len, a0.cap⟩ a1 a2 (a0.len : Int) 1 fun s0 =>
 brB (a1 == a2)
 (K ⟨a0.a, a0.len, a0.cap⟩)
 (slH ⟨a0.a, a0.len, a0.cap⟩ a1 1 fun s1 =>
 slL ⟨a0.a, a0.len, a0.cap⟩ a2 1 fun s2 =>
 apd ty_clauses_Clause 1 24 #[(.slice none 0 0)] ⟨s1.a, s1.len, s1.cap⟩ ⟨s2.a, s2.len, s2.cap⟩ fun s3 =>
 slB ⟨s3.a, s3.len, s3.cap⟩ (s3.len : Int) (a0.len : Int) 1 fun s4 =>
 clr #[(.slice none 0 0)] ⟨s4.a, s4.len, s4.cap⟩ <|
 K ⟨s3.a, s3.len, s3.cap⟩)
set_option maxRecDepth 100000 in
theorem E_slices_Delete_clauses_Clause_clauses_Clause (a0 : Sl) (a1 : Int) (a2 : Int) (K : Sl → HP) (h : Heap) : fnVC Try.prog [(1000000, .nil)] 33 Try.f31 [(.slice a0.a a0.len a0.cap), (.int .i64 a1), (.int .i64 a2)] .sl K h = F_slices_Delete_clauses_Clause_clauses_Clause a0 a1 a2 K h := by kernel_rfl
set_option maxRecDepth 100000 in
theorem S_slices_Delete_clauses_Clause_clauses_Clause{h : Heap} {a0 : Sl} {a1 : Int} {a2 : Int} (K : Sl → HP) (hF : F_slices_Delete_clauses_Clause_clauses_Clause a0 a1 a2 K h) : CallsH Try.prog fn_slices_Delete_clauses_Clause_clauses_Clause #[(.slice a0.a a0.len a0.cap), (.int .i64 a1), (.int .i64 a2)] h fun v h' => ∃ x : Sl, v = Ty.enc .sl x ∧ K x h' :=
  callsH_of_fn (P := Try.prog) (fn := Try.f31) (τ := .sl) follows Try.func31 (by kernel_rfl) (by kernel_rfl) Try.call31 (Eq.mpr (E_slices_Delete_clauses_Clause_clauses_Clause a0 a1 a2 K h) hF)


/-- slices.Clone[[]salvor/clauses.Clause,salvor/clauses.Clause] -/
def F_slices_Clone_clauses_Clause_clauses_Clause (a0 : Sl) (K : Sl → HP) : HP :=
 brB (Option.isNone a0.a)
 (K ⟨none, 0, 0⟩)
 (nw #[] ty_clauses_Clause fun b0 =>
 apd ty_clauses_Clause 1 24 #[(.slice none 0 0)] ⟨(some (⟨b0, 0, none⟩ : Addr)), 0, 0⟩ ⟨a0.a, a0.len, a0.cap⟩ fun s1 =>
 K ⟨s1.a, s1.len, s1.cap⟩)
set_option maxRecDepth 100000 in
theorem E_slices_Clone_clauses_Clause_clauses_Clause (a0 : Sl) (K : Sl → HP) (h : Heap) : fnVC Try.prog [(1000000, .nil)] 8 Try.f32 [(.slice a0.a a0.len a0.cap)] .sl K h = F_slices_Clone_clauses_Clause_clauses_Clause a0 K h := by kernel_rfl
set_option maxRecDepth 100000 in
theorem S_slices_Clone_clauses_Clause_clauses_Clause{h : Heap} {a0 : Sl} (K : Sl → HP) (hF : F_slices_Clone_clauses_Clause_clauses_Clause a0 K h) : CallsH Try.prog fn_slices_Clone_clauses_Clause_clauses_Clause #[(.slice a0.a a0.len a0.cap)] h fun v h' => ∃ x : Sl, v = Ty.enc .sl x ∧ K x h' :=
  callsH_of_fn (P := Try.prog) (fn := Try.f32) (τ := .sl) follows Try.func32 (by kernel_rfl) (by kernel_rfl) Try.call32 (Eq.mpr (E_slices_Clone_clauses_Clause_clauses_Clause a0 K h) hF)


/-- salvor/rup.Follow -/
def F_rup_Follow (a0 : Sl) (a1 : Sl) (K : (Sl × (Int × (Bool × (Int × Unit)))) → HP) : HP :=
 callT Try.prog fn_rup_wrong #[(.slice a1.a a1.len a1.cap), (.slice none 0 0)] (.int .i64) fun r0 =>
 callT Try.prog fn_rup_assigned #[(.slice a0.a a0.len a0.cap)] (.tup (.cons .val (.cons .bool .nil))) fun r1 =>
 jn (σ := Bool) (fun t3 =>
 jn (σ := (Int × Unit)) (fun s5 => /- e -/
 callT Try.prog fn_rup_many #[(.slice a1.a a1.len a1.cap)] (.int .i64) fun r6 =>
 nw #[(.int .i64 s5.1), (.int .i64 r6)] ty_api_Errno fun b7 =>
 callT Try.prog fn_rup_first #[(.slice (some (⟨b7, 0, none⟩ : Addr)) 2 2)] (.int .i64) fun r8 =>
 brB (r8 != (0 : Int))
 (K (⟨none, 0, 0⟩, (0 : Int), false, r8, ()))
 (callT Try.prog fn_rup_values_follow #[r1.1, (.slice a1.a a1.len a1.cap)] (.tup (.cons .sl (.cons (.int .i64) (.cons .bool (.cons (.int .i64) .nil))))) fun r9 =>
 brB (r9.2.2.2.1 != (0 : Int))
 (K (⟨none, 0, 0⟩, r9.2.1, false, r9.2.2.2.1, ()))
 (callT Try.prog fn_slices_Clone_lits_Lit_lits_Lit #[(.slice a0.a a0.len a0.cap)] .sl fun r10 =>
 apd ty_lits_Lit 1 8 #[(.int .i64 (0 : Int))] ⟨r10.a, r10.len, r10.cap⟩ ⟨r9.1.a, r9.1.len, r9.1.cap⟩ fun s11 =>
 K (⟨s11.a, s11.len, s11.cap⟩, r9.2.1, r9.2.2.1, (0 : Int), ()))))
 (fun J4 =>
 brB t3
 (J4 ((80 : Int), ()))
 (J4 (r0, ()))))
 (fun J2 =>
 brB (r0 == (0 : Int))
 (J2 ((!r1.2.1)))
 (J2 false))
set_option maxRecDepth 100000 in
theorem E_rup_Follow (a0 : Sl) (a1 : Sl) (K : (Sl × (Int × (Bool × (Int × Unit)))) → HP) (h : Heap) : fnVC Try.prog [(1000000, .bool)] 54 Try.f33 [(.slice a0.a a0.len a0.cap), (.slice a1.a a1.len a1.cap)] (.tup (.cons .sl (.cons (.int .i64) (.cons .bool (.cons (.int .i64) .nil))))) K h = F_rup_Follow a0 a1 K h := by kernel_rfl
set_option maxRecDepth 100000 in
theorem S_rup_Follow{h : Heap} {a0 : Sl} {a1 : Sl} (K : (Sl × (Int × (Bool × (Int × Unit)))) → HP) (hF : F_rup_Follow a0 a1 K h) : CallsH Try.prog fn_rup_Follow #[(.slice a0.a a0.len a0.cap), (.slice a1.a a1.len a1.cap)] h fun v h' => ∃ x : (Sl × (Int × (Bool × (Int × Unit)))), v = Ty.enc (.tup (.cons .sl (.cons (.int .i64) (.cons .bool (.cons (.int .i64) .nil))))) x ∧ K x h' :=
  callsH_of_fn (P := Try.prog) (fn := Try.f33) (τ := (.tup (.cons .sl (.cons (.int .i64) (.cons .bool (.cons (.int .i64) .nil)))))) follows Try.func33 (by kernel_rfl) (by kernel_rfl) Try.call33 (Eq.mpr (E_rup_Follow a0 a1 K h) hF)


/-- slices.Equal[[]salvor/lits.Lit,salvor/lits.Lit] -/
def F_slices_Equal_lits_Lit_lits_Lit (a0 : Sl) (a1 : Sl) (K : Bool → HP) : HP :=
 brB ((a0.len : Int) != (a1.len : Int))
 (K false)
 (lfp (σ := (Int × (Bool × Unit))) (fun X0 s1 => /-   -/
 brB (decide (s1.1 < (a0.len : Int)))
 (sx a0.a a0.len s1.1 1 fun p2 =>
 ldT (.int .i64) p2 fun x3 =>
 sx a1.a a1.len s1.1 1 fun p4 =>
 ldT (.int .i64) p4 fun x5 =>
 brB (x3 != x5)
 (K false)
 (X0 ((IntKind.wrap .i64 (s1.1 + (1 : Int))), s1.2.1, ())))
 (K true))
 ((0 : Int), false, ()))
set_option maxRecDepth 100000 in
theorem E_slices_Equal_lits_Lit_lits_Lit (a0 : Sl) (a1 : Sl) (K : Bool → HP) (h : Heap) : fnVC Try.prog [(1000000, .nil)] 26 Try.f34 [(.slice a0.a a0.len a0.cap), (.slice a1.a a1.len a1.cap)] .bool K h = F_slices_Equal_lits_Lit_lits_Lit a0 a1 K h := by kernel_rfl
set_option maxRecDepth 100000 in
theorem S_slices_Equal_lits_Lit_lits_Lit{h : Heap} {a0 : Sl} {a1 : Sl} (K : Bool → HP) (hF : F_slices_Equal_lits_Lit_lits_Lit a0 a1 K h) : CallsH Try.prog fn_slices_Equal_lits_Lit_lits_Lit #[(.slice a0.a a0.len a0.cap), (.slice a1.a a1.len a1.cap)] h fun v h' => ∃ x : Bool, v = Ty.enc .bool x ∧ K x h' :=
  callsH_of_fn (P := Try.prog) (fn := Try.f34) (τ := .bool) follows Try.func34 (by kernel_rfl) (by kernel_rfl) Try.call34 (Eq.mpr (E_slices_Equal_lits_Lit_lits_Lit a0 a1 K h) hF)


/-- salvor/clauses.Has -/
def F_clauses_Has (a0 : Sl) (a1 : Int) (K : Bool → HP) : HP :=
 callT Try.prog fn_clauses_Right #[(.slice a0.a a0.len a0.cap)] .bool fun r0 =>
 brB r0
 (callT Try.prog fn_slices_Contains_clauses_Clause_lits_Lit #[(.slice a0.a a0.len a0.cap), (.int .i64 a1)] .bool fun r1 =>
 K r1)
 (K false)
set_option maxRecDepth 100000 in
theorem E_clauses_Has (a0 : Sl) (a1 : Int) (K : Bool → HP) (h : Heap) : fnVC Try.prog [(1000000, .nil)] 12 Try.f35 [(.slice a0.a a0.len a0.cap), (.int .i64 a1)] .bool K h = F_clauses_Has a0 a1 K h := by kernel_rfl
set_option maxRecDepth 100000 in
theorem S_clauses_Has{h : Heap} {a0 : Sl} {a1 : Int} (K : Bool → HP) (hF : F_clauses_Has a0 a1 K h) : CallsH Try.prog fn_clauses_Has #[(.slice a0.a a0.len a0.cap), (.int .i64 a1)] h fun v h' => ∃ x : Bool, v = Ty.enc .bool x ∧ K x h' :=
  callsH_of_fn (P := Try.prog) (fn := Try.f35) (τ := .bool) follows Try.func35 (by kernel_rfl) (by kernel_rfl) Try.call35 (Eq.mpr (E_clauses_Has a0 a1 K h) hF)


/-- slices.Contains[[]salvor/lits.Lit,salvor/lits.Lit] -/
def F_slices_Contains_lits_Lit_lits_Lit (a0 : Sl) (a1 : Int) (K : Bool → HP) : HP :=
 callT Try.prog fn_slices_Index_lits_Lit_lits_Lit #[(.slice a0.a a0.len a0.cap), (.int .i64 a1)] (.int .i64) fun r0 =>
 K (decide (r0 ≥ (0 : Int)))
set_option maxRecDepth 100000 in
theorem E_slices_Contains_lits_Lit_lits_Lit (a0 : Sl) (a1 : Int) (K : Bool → HP) (h : Heap) : fnVC Try.prog [(1000000, .nil)] 9 Try.f36 [(.slice a0.a a0.len a0.cap), (.int .i64 a1)] .bool K h = F_slices_Contains_lits_Lit_lits_Lit a0 a1 K h := by kernel_rfl
set_option maxRecDepth 100000 in
theorem S_slices_Contains_lits_Lit_lits_Lit{h : Heap} {a0 : Sl} {a1 : Int} (K : Bool → HP) (hF : F_slices_Contains_lits_Lit_lits_Lit a0 a1 K h) : CallsH Try.prog fn_slices_Contains_lits_Lit_lits_Lit #[(.slice a0.a a0.len a0.cap), (.int .i64 a1)] h fun v h' => ∃ x : Bool, v = Ty.enc .bool x ∧ K x h' :=
  callsH_of_fn (P := Try.prog) (fn := Try.f36) (τ := .bool) follows Try.func36 (by kernel_rfl) (by kernel_rfl) Try.call36 (Eq.mpr (E_slices_Contains_lits_Lit_lits_Lit a0 a1 K h) hF)


/-- salvor/salvorlaw08.follows -/
def F_salvorlaw08_follows (a0 : Sl) (a1 : Sl) (a2 : Sl) (K : Bool → HP) : HP :=
 callT Try.prog fn_salvorlaw08_Ints #[(.slice a0.a a0.len a0.cap)] .sl fun r0 =>
 callT Try.prog fn_salvorlaw08_Ints #[(.slice a1.a a1.len a1.cap)] .sl fun r1 =>
 callT Try.prog fn_salvorlaw08_Lists #[(.slice a2.a a2.len a2.cap)] .sl fun r2 =>
 callT Try.prog fn_salvorlaw08_Copies #[(.slice a2.a a2.len a2.cap)] .sl fun r3 =>
 callT Try.prog fn_slices_Clone_lits_Lit_lits_Lit #[(.slice a0.a a0.len a0.cap)] .sl fun r4 =>
 callT Try.prog fn_rup_Follow #[(.slice r4.a r4.len r4.cap), (.slice r3.a r3.len r3.cap)] (.tup (.cons .sl (.cons (.int .i64) (.cons .bool (.cons (.int .i64) .nil))))) fun r5 =>
 callT Try.prog fn_salvorref08_Follow #[(.slice r0.a r0.len r0.cap), (.slice r2.a r2.len r2.cap)] (.tup (.cons .sl (.cons (.int .i64) (.cons .bool (.cons (.int .i64) .nil))))) fun r6 =>
 callT Try.prog fn_salvorlaw08_Ints #[(.slice r5.1.a r5.1.len r5.1.cap)] .sl fun r7 =>
 callT Try.prog fn_slices_Equal_int_int #[(.slice r7.a r7.len r7.cap), (.slice r6.1.a r6.1.len r6.1.cap)] .bool fun r8 =>
 jn (σ := Bool) (fun t10 =>
 jn (σ := Bool) (fun t12 =>
 jn (σ := Bool) (fun t14 =>
 brB t14
 (K false)
 (lfp (σ := (Int × Unit)) (fun X15 s16 => /-  -/
 brB (decide (s16.1 < (r5.1.len : Int)))
 (sx r5.1.a r5.1.len s16.1 1 fun p17 =>
 st1 p17 (.int .i64 (99 : Int)) <|
 X15 ((IntKind.wrap .i64 (s16.1 + (1 : Int))), ()))
 (callT Try.prog fn_rup_Check #[(.slice a1.a a1.len a1.cap), (.slice r3.a r3.len r3.cap)] (.tup (.cons (.int .i64) (.cons (.int .i64) .nil))) fun r18 =>
 callT Try.prog fn_salvorref08_Check #[(.slice r1.a r1.len r1.cap), (.slice r2.a r2.len r2.cap)] (.tup (.cons (.int .i64) (.cons (.int .i64) .nil))) fun r19 =>
 jn (σ := Bool) (fun t21 =>
 brB t21
 (K false)
 (callT Try.prog fn_rup_Trim #[(.slice a1.a a1.len a1.cap), (.slice r3.a r3.len r3.cap)] (.tup (.cons .sl (.cons (.int .i64) .nil))) fun r22 =>
 callT Try.prog fn_salvorref08_Trim #[(.slice r1.a r1.len r1.cap), (.slice r2.a r2.len r2.cap)] (.tup (.cons .sl (.cons (.int .i64) .nil))) fun r23 =>
 callT Try.prog fn_slices_Equal_int_int #[(.slice r22.1.a r22.1.len r22.1.cap), (.slice r23.1.a r23.1.len r23.1.cap)] .bool fun r24 =>
 jn (σ := Bool) (fun t26 =>
 jn (σ := Bool) (fun t28 =>
 jn (σ := Bool) (fun t30 =>
 jn (σ := Bool) (fun t32 =>
 K t32)
 (fun J31 =>
 brB t30
 (callT Try.prog fn_salvorlaw08_Ints #[(.slice a1.a a1.len a1.cap)] .sl fun r33 =>
 callT Try.prog fn_slices_Equal_int_int #[(.slice r33.a r33.len r33.cap), (.slice r1.a r1.len r1.cap)] .bool fun r34 =>
 J31 (r34))
 (J31 false)))
 (fun J29 =>
 brB t28
 (callT Try.prog fn_slices_Equal_lits_Lit_lits_Lit #[(.slice r4.a r4.len r4.cap), (.slice a0.a a0.len a0.cap)] .bool fun r35 =>
 J29 (r35))
 (J29 false)))
 (fun J27 =>
 brB t26
 (callT Try.prog fn_salvorlaw08_SameLists #[(.slice r3.a r3.len r3.cap), (.slice a2.a a2.len a2.cap)] .bool fun r36 =>
 J27 (r36))
 (J27 false)))
 (fun J25 =>
 brB r24
 (J25 ((r22.2.1 == r23.2.1)))
 (J25 false))))
 (fun J20 =>
 brB (r18.1 != r19.1)
 (J20 true)
 (J20 ((r18.2.1 != r19.2.1))))))
 ((0 : Int), ())))
 (fun J13 =>
 brB t12
 (J13 true)
 (J13 ((r5.2.2.2.1 != r6.2.2.2.1)))))
 (fun J11 =>
 brB t10
 (J11 true)
 (J11 ((!(r5.2.2.1 == r6.2.2.1))))))
 (fun J9 =>
 brB (!r8)
 (J9 true)
 (J9 ((r5.2.1 != r6.2.1))))
set_option maxRecDepth 100000 in
theorem E_salvorlaw08_follows (a0 : Sl) (a1 : Sl) (a2 : Sl) (K : Bool → HP) (h : Heap) : fnVC Try.prog [(1000000, .bool)] 136 Try.f37 [(.slice a0.a a0.len a0.cap), (.slice a1.a a1.len a1.cap), (.slice a2.a a2.len a2.cap)] .bool K h = F_salvorlaw08_follows a0 a1 a2 K h := by kernel_rfl
set_option maxRecDepth 100000 in
theorem S_salvorlaw08_follows{h : Heap} {a0 : Sl} {a1 : Sl} {a2 : Sl} (K : Bool → HP) (hF : F_salvorlaw08_follows a0 a1 a2 K h) : CallsH Try.prog fn_salvorlaw08_follows #[(.slice a0.a a0.len a0.cap), (.slice a1.a a1.len a1.cap), (.slice a2.a a2.len a2.cap)] h fun v h' => ∃ x : Bool, v = Ty.enc .bool x ∧ K x h' :=
  callsH_of_fn (P := Try.prog) (fn := Try.f37) (τ := .bool) follows Try.func37 (by kernel_rfl) (by kernel_rfl) Try.call37 (Eq.mpr (E_salvorlaw08_follows a0 a1 a2 K h) hF)


/-- slices.Repeat[[]salvor/clauses.Clause,salvor/clauses.Clause] -/
def F_slices_Repeat_clauses_Clause_clauses_Clause (a0 : Sl) (a1 : Int) (K : Sl → HP) : HP :=
 jn (σ := Unit) (fun s1 => /- -/
 callT Try.prog fn_math_bits_Mul #[(.int .u64 (IntKind.wrap .u64 (a0.len : Int))), (.int .u64 (IntKind.wrap .u64 a1))] (.tup (.cons (.int .u64) (.cons (.int .u64) .nil))) fun r2 =>
 brB (decide (r2.1 > (0 : Int)))
 (jn (σ := Unit) (fun s4 => /- -/
 mks ty_clauses_Clause 1 24 #[(.slice none 0 0)] (IntKind.wrap .i64 r2.2.1) (IntKind.wrap .i64 r2.2.1) fun s5 =>
 cpy 1 ⟨s5.a, s5.len, s5.cap⟩ ⟨a0.a, a0.len, a0.cap⟩ fun n6 =>
 lfp (σ := (Int × Unit)) (fun X7 s8 => /- n -/
 brB (decide (s8.1 < (s5.len : Int)))
 (slL ⟨s5.a, s5.len, s5.cap⟩ s8.1 1 fun s9 =>
 slH ⟨s5.a, s5.len, s5.cap⟩ s8.1 1 fun s10 =>
 cpy 1 ⟨s9.a, s9.len, s9.cap⟩ ⟨s10.a, s10.len, s10.cap⟩ fun n11 =>
 X7 ((IntKind.wrap .i64 (s8.1 + n11)), ()))
 (K ⟨s5.a, s5.len, s5.cap⟩))
 (n6, ()))
 (fun J3 =>
 fF /- not known -/))
 (jn (σ := Unit) (fun s13 => /- -/
 mks ty_clauses_Clause 1 24 #[(.slice none 0 0)] (IntKind.wrap .i64 r2.2.1) (IntKind.wrap .i64 r2.2.1) fun s14 =>
 cpy 1 ⟨s14.a, s14.len, s14.cap⟩ ⟨a0.a, a0.len, a0.cap⟩ fun n15 =>
 lfp (σ := (Int × Unit)) (fun X16 s17 => /- n -/
 brB (decide (s17.1 < (s14.len : Int)))
 (slL ⟨s14.a, s14.len, s14.cap⟩ s17.1 1 fun s18 =>
 slH ⟨s14.a, s14.len, s14.cap⟩ s17.1 1 fun s19 =>
 cpy 1 ⟨s18.a, s18.len, s18.cap⟩ ⟨s19.a, s19.len, s19.cap⟩ fun n20 =>
 X16 ((IntKind.wrap .i64 (s17.1 + n20)), ()))
 (K ⟨s14.a, s14.len, s14.cap⟩))
 (n15, ()))
 (fun J12 =>
 brB (decide (r2.2.1 > (9223372036854775807 : Int)))
 (fF /- not known -/)
 (J12 (())))))
 (fun J0 =>
 brB (decide (a1 < (0 : Int)))
 (fF /- not known -/)
 (J0 (())))
set_option maxRecDepth 100000 in
theorem E_slices_Repeat_clauses_Clause_clauses_Clause (a0 : Sl) (a1 : Int) (K : Sl → HP) (h : Heap) : fnVC Try.prog [(1000000, .nil)] 48 Try.f38 [(.slice a0.a a0.len a0.cap), (.int .i64 a1)] .sl K h = F_slices_Repeat_clauses_Clause_clauses_Clause a0 a1 K h := by kernel_rfl
set_option maxRecDepth 100000 in
theorem S_slices_Repeat_clauses_Clause_clauses_Clause{h : Heap} {a0 : Sl} {a1 : Int} (K : Sl → HP) (hF : F_slices_Repeat_clauses_Clause_clauses_Clause a0 a1 K h) : CallsH Try.prog fn_slices_Repeat_clauses_Clause_clauses_Clause #[(.slice a0.a a0.len a0.cap), (.int .i64 a1)] h fun v h' => ∃ x : Sl, v = Ty.enc .sl x ∧ K x h' :=
  callsH_of_fn (P := Try.prog) (fn := Try.f38) (τ := .sl) follows Try.func38 (by kernel_rfl) (by kernel_rfl) Try.call38 (Eq.mpr (E_slices_Repeat_clauses_Clause_clauses_Clause a0 a1 K h) hF)


/-- salvor/lits.Right -/
def F_lits_Right (a0 : Int) (K : Bool → HP) : HP :=
 brB (a0 != (0 : Int))
 (brB (decide (a0 ≥ (-1048576 : Int)))
 (K (decide (a0 ≤ (1048576 : Int))))
 (K false))
 (K false)
set_option maxRecDepth 100000 in
theorem E_lits_Right (a0 : Int) (K : Bool → HP) (h : Heap) : fnVC Try.prog [(1000000, .nil)] 13 Try.f39 [(.int .i64 a0)] .bool K h = F_lits_Right a0 K h := by kernel_rfl
set_option maxRecDepth 100000 in
theorem S_lits_Right{h : Heap} {a0 : Int} (K : Bool → HP) (hF : F_lits_Right a0 K h) : CallsH Try.prog fn_lits_Right #[(.int .i64 a0)] h fun v h' => ∃ x : Bool, v = Ty.enc .bool x ∧ K x h' :=
  callsH_of_fn (P := Try.prog) (fn := Try.f39) (τ := .bool) follows Try.func39 (by kernel_rfl) (by kernel_rfl) Try.call39 (Eq.mpr (E_lits_Right a0 K h) hF)


/-- slices.Insert[[]salvor/clauses.Clause,salvor/clauses.Clause] -/
def F_slices_Insert_clauses_Clause_clauses_Clause (a0 : Sl) (a1 : Int) (a2 : Sl) (K : Sl → HP) : HP :=
 slL ⟨a0.a, a0.len, a0.cap⟩ a1 1 fun s0 =>
 brB ((a2.len : Int) == (0 : Int))
 (K ⟨a0.a, a0.len, a0.cap⟩)
 (brB (a1 == (a0.len : Int))
 (apd ty_clauses_Clause 1 24 #[(.slice none 0 0)] ⟨a0.a, a0.len, a0.cap⟩ ⟨a2.a, a2.len, a2.cap⟩ fun s1 =>
 K ⟨s1.a, s1.len, s1.cap⟩)
 (brB (decide ((IntKind.wrap .i64 ((a0.len : Int) + (a2.len : Int))) > (a0.cap : Int)))
 (slH ⟨a0.a, a0.len, a0.cap⟩ a1 1 fun s2 =>
 apz ty_clauses_Clause 1 24 #[(.slice none 0 0)] ⟨s2.a, s2.len, s2.cap⟩ (IntKind.wrap .i64 ((IntKind.wrap .i64 ((a0.len : Int) + (a2.len : Int))) - a1)) fun s3 =>
 slL ⟨s3.a, s3.len, s3.cap⟩ a1 1 fun s4 =>
 cpy 1 ⟨s4.a, s4.len, s4.cap⟩ ⟨a2.a, a2.len, a2.cap⟩ fun n5 =>
 slL ⟨s3.a, s3.len, s3.cap⟩ (IntKind.wrap .i64 (a1 + (a2.len : Int))) 1 fun s6 =>
 slL ⟨a0.a, a0.len, a0.cap⟩ a1 1 fun s7 =>
 cpy 1 ⟨s6.a, s6.len, s6.cap⟩ ⟨s7.a, s7.len, s7.cap⟩ fun n8 =>
 K ⟨s3.a, s3.len, s3.cap⟩)
 (slH ⟨a0.a, a0.len, a0.cap⟩ (IntKind.wrap .i64 ((a0.len : Int) + (a2.len : Int))) 1 fun s9 =>
 slL ⟨s9.a, s9.len, s9.cap⟩ (IntKind.wrap .i64 (a1 + (a2.len : Int))) 1 fun s10 =>
 callT Try.prog fn_slices_overlaps_clauses_Clause #[(.slice a2.a a2.len a2.cap), (.slice s10.a s10.len s10.cap)] .bool fun r11 =>
 brB (!r11)
 (slL ⟨s9.a, s9.len, s9.cap⟩ (IntKind.wrap .i64 (a1 + (a2.len : Int))) 1 fun s12 =>
 slL ⟨s9.a, s9.len, s9.cap⟩ a1 1 fun s13 =>
 cpy 1 ⟨s12.a, s12.len, s12.cap⟩ ⟨s13.a, s13.len, s13.cap⟩ fun n14 =>
 slL ⟨s9.a, s9.len, s9.cap⟩ a1 1 fun s15 =>
 cpy 1 ⟨s15.a, s15.len, s15.cap⟩ ⟨a2.a, a2.len, a2.cap⟩ fun n16 =>
 K ⟨s9.a, s9.len, s9.cap⟩)
 (slL ⟨s9.a, s9.len, s9.cap⟩ (a0.len : Int) 1 fun s17 =>
 cpy 1 ⟨s17.a, s17.len, s17.cap⟩ ⟨a2.a, a2.len, a2.cap⟩ fun n18 =>
 slL ⟨s9.a, s9.len, s9.cap⟩ a1 1 fun s19 =>
 callT Try.prog fn_slices_rotateRight_clauses_Clause #[(.slice s19.a s19.len s19.cap), (.int .i64 (a2.len : Int))] (.tup .nil) fun r20 =>
 K ⟨s9.a, s9.len, s9.cap⟩))))
set_option maxRecDepth 100000 in
theorem E_slices_Insert_clauses_Clause_clauses_Clause (a0 : Sl) (a1 : Int) (a2 : Sl) (K : Sl → HP) (h : Heap) : fnVC Try.prog [(1000000, .nil)] 95 Try.f40 [(.slice a0.a a0.len a0.cap), (.int .i64 a1), (.slice a2.a a2.len a2.cap)] .sl K h = F_slices_Insert_clauses_Clause_clauses_Clause a0 a1 a2 K h := by kernel_rfl
set_option maxRecDepth 100000 in
theorem S_slices_Insert_clauses_Clause_clauses_Clause{h : Heap} {a0 : Sl} {a1 : Int} {a2 : Sl} (K : Sl → HP) (hF : F_slices_Insert_clauses_Clause_clauses_Clause a0 a1 a2 K h) : CallsH Try.prog fn_slices_Insert_clauses_Clause_clauses_Clause #[(.slice a0.a a0.len a0.cap), (.int .i64 a1), (.slice a2.a a2.len a2.cap)] h fun v h' => ∃ x : Sl, v = Ty.enc .sl x ∧ K x h' :=
  callsH_of_fn (P := Try.prog) (fn := Try.f40) (τ := .sl) follows Try.func40 (by kernel_rfl) (by kernel_rfl) Try.call40 (Eq.mpr (E_slices_Insert_clauses_Clause_clauses_Clause a0 a1 a2 K h) hF)


/-- slices.Equal[[]int,int] -/
def F_slices_Equal_int_int (a0 : Sl) (a1 : Sl) (K : Bool → HP) : HP :=
 brB ((a0.len : Int) != (a1.len : Int))
 (K false)
 (lfp (σ := (Int × (Bool × Unit))) (fun X0 s1 => /-   -/
 brB (decide (s1.1 < (a0.len : Int)))
 (sx a0.a a0.len s1.1 1 fun p2 =>
 ldT (.int .i64) p2 fun x3 =>
 sx a1.a a1.len s1.1 1 fun p4 =>
 ldT (.int .i64) p4 fun x5 =>
 brB (x3 != x5)
 (K false)
 (X0 ((IntKind.wrap .i64 (s1.1 + (1 : Int))), s1.2.1, ())))
 (K true))
 ((0 : Int), false, ()))
set_option maxRecDepth 100000 in
theorem E_slices_Equal_int_int (a0 : Sl) (a1 : Sl) (K : Bool → HP) (h : Heap) : fnVC Try.prog [(1000000, .nil)] 26 Try.f41 [(.slice a0.a a0.len a0.cap), (.slice a1.a a1.len a1.cap)] .bool K h = F_slices_Equal_int_int a0 a1 K h := by kernel_rfl
set_option maxRecDepth 100000 in
theorem S_slices_Equal_int_int{h : Heap} {a0 : Sl} {a1 : Sl} (K : Bool → HP) (hF : F_slices_Equal_int_int a0 a1 K h) : CallsH Try.prog fn_slices_Equal_int_int #[(.slice a0.a a0.len a0.cap), (.slice a1.a a1.len a1.cap)] h fun v h' => ∃ x : Bool, v = Ty.enc .bool x ∧ K x h' :=
  callsH_of_fn (P := Try.prog) (fn := Try.f41) (τ := .bool) follows Try.func41 (by kernel_rfl) (by kernel_rfl) Try.call41 (Eq.mpr (E_slices_Equal_int_int a0 a1 K h) hF)


/-- salvor/rup.check -/
def F_rup_check (a0 : Sl) (a1 : Sl) (K : (Sl × (Int × (Int × Unit))) → HP) : HP :=
 nw #[(.slice a0.a a0.len a0.cap)] ty_clauses_Clause fun b0 =>
 callT Try.prog fn_rup_wrong #[(.slice a1.a a1.len a1.cap), (.slice (some (⟨b0, 0, none⟩ : Addr)) 1 1)] (.int .i64) fun r1 =>
 callT Try.prog fn_rup_many #[(.slice a1.a a1.len a1.cap)] (.int .i64) fun r2 =>
 nw #[(.int .i64 r1), (.int .i64 r2)] ty_api_Errno fun b3 =>
 callT Try.prog fn_rup_first #[(.slice (some (⟨b3, 0, none⟩ : Addr)) 2 2)] (.int .i64) fun r4 =>
 brB (r4 != (0 : Int))
 (K (⟨none, 0, 0⟩, (0 : Int), r4, ()))
 (callT Try.prog fn_rup_Assume #[(.slice a0.a a0.len a0.cap)] (.tup (.cons .sl (.cons .bool (.cons (.int .i64) .nil)))) fun r5 =>
 brB r5.2.1
 (K (⟨none, 0, 0⟩, (0 : Int), (0 : Int), ()))
 (callT Try.prog fn_rup_assigned #[(.slice r5.1.a r5.1.len r5.1.cap)] (.tup (.cons .val (.cons .bool .nil))) fun r6 =>
 callT Try.prog fn_rup_values_follow #[r6.1, (.slice a1.a a1.len a1.cap)] (.tup (.cons .sl (.cons (.int .i64) (.cons .bool (.cons (.int .i64) .nil))))) fun r7 =>
 jn (σ := Bool) (fun t9 =>
 jn (σ := (Int × Unit)) (fun s11 => /- e -/
 K (⟨r7.1.a, r7.1.len, r7.1.cap⟩, r7.2.1, s11.1, ()))
 (fun J10 =>
 brB t9
 (J10 ((82 : Int), ()))
 (J10 (r7.2.2.2.1, ()))))
 (fun J8 =>
 brB (r7.2.2.2.1 == (0 : Int))
 (J8 ((!r7.2.2.1)))
 (J8 false))))
set_option maxRecDepth 100000 in
theorem E_rup_check (a0 : Sl) (a1 : Sl) (K : (Sl × (Int × (Int × Unit))) → HP) (h : Heap) : fnVC Try.prog [(1000000, .bool)] 57 Try.f42 [(.slice a0.a a0.len a0.cap), (.slice a1.a a1.len a1.cap)] (.tup (.cons .sl (.cons (.int .i64) (.cons (.int .i64) .nil)))) K h = F_rup_check a0 a1 K h := by kernel_rfl
set_option maxRecDepth 100000 in
theorem S_rup_check{h : Heap} {a0 : Sl} {a1 : Sl} (K : (Sl × (Int × (Int × Unit))) → HP) (hF : F_rup_check a0 a1 K h) : CallsH Try.prog fn_rup_check #[(.slice a0.a a0.len a0.cap), (.slice a1.a a1.len a1.cap)] h fun v h' => ∃ x : (Sl × (Int × (Int × Unit))), v = Ty.enc (.tup (.cons .sl (.cons (.int .i64) (.cons (.int .i64) .nil)))) x ∧ K x h' :=
  callsH_of_fn (P := Try.prog) (fn := Try.f42) (τ := (.tup (.cons .sl (.cons (.int .i64) (.cons (.int .i64) .nil))))) follows Try.func42 (by kernel_rfl) (by kernel_rfl) Try.call42 (Eq.mpr (E_rup_check a0 a1 K h) hF)


/-- salvor/rup.first -/
def F_rup_first (a0 : Sl) (K : Int → HP) : HP :=
 lfp (σ := (Int × (Int × Unit))) (fun X0 s1 => /-   -/
 brB (decide (s1.1 < (a0.len : Int)))
 (sx a0.a a0.len s1.1 1 fun p2 =>
 ldT (.int .i64) p2 fun x3 =>
 brB (x3 != (0 : Int))
 (K x3)
 (X0 ((IntKind.wrap .i64 (s1.1 + (1 : Int))), s1.2.1, ())))
 (K (0 : Int)))
 ((0 : Int), (0 : Int), ())
set_option maxRecDepth 100000 in
theorem E_rup_first (a0 : Sl) (K : Int → HP) (h : Heap) : fnVC Try.prog [(1000000, .bool)] 15 Try.f43 [(.slice a0.a a0.len a0.cap)] (.int .i64) K h = F_rup_first a0 K h := by kernel_rfl
set_option maxRecDepth 100000 in
theorem S_rup_first{h : Heap} {a0 : Sl} (K : Int → HP) (hF : F_rup_first a0 K h) : CallsH Try.prog fn_rup_first #[(.slice a0.a a0.len a0.cap)] h fun v h' => ∃ x : Int, v = Ty.enc (.int .i64) x ∧ K x h' :=
  callsH_of_fn (P := Try.prog) (fn := Try.f43) (τ := (.int .i64)) follows Try.func43 (by kernel_rfl) (by kernel_rfl) Try.call43 (Eq.mpr (E_rup_first a0 K h) hF)


/-- salvor/rup.wrong -/
def F_rup_wrong (a0 : Sl) (a1 : Sl) (K : Int → HP) : HP :=
 callT Try.prog fn_slices_Clone_clauses_Clause_clauses_Clause #[(.slice a0.a a0.len a0.cap)] .sl fun r0 =>
 apd ty_clauses_Clause 1 24 #[(.slice none 0 0)] ⟨r0.a, r0.len, r0.cap⟩ ⟨a1.a, a1.len, a1.cap⟩ fun s1 =>
 lfp (σ := (Int × (Int × Unit))) (fun X2 s3 => /-   -/
 brB (decide (s3.1 < (s1.len : Int)))
 (sx s1.a s1.len s3.1 1 fun p4 =>
 ldT .sl p4 fun x5 =>
 callT Try.prog fn_clauses_Right #[(.slice x5.a x5.len x5.cap)] .bool fun r6 =>
 brB (!r6)
 (K (20 : Int))
 (X2 ((IntKind.wrap .i64 (s3.1 + (1 : Int))), s3.2.1, ())))
 (K (0 : Int)))
 ((0 : Int), (0 : Int), ())
set_option maxRecDepth 100000 in
theorem E_rup_wrong (a0 : Sl) (a1 : Sl) (K : Int → HP) (h : Heap) : fnVC Try.prog [(1000000, .bool)] 20 Try.f44 [(.slice a0.a a0.len a0.cap), (.slice a1.a a1.len a1.cap)] (.int .i64) K h = F_rup_wrong a0 a1 K h := by kernel_rfl
set_option maxRecDepth 100000 in
theorem S_rup_wrong{h : Heap} {a0 : Sl} {a1 : Sl} (K : Int → HP) (hF : F_rup_wrong a0 a1 K h) : CallsH Try.prog fn_rup_wrong #[(.slice a0.a a0.len a0.cap), (.slice a1.a a1.len a1.cap)] h fun v h' => ∃ x : Int, v = Ty.enc (.int .i64) x ∧ K x h' :=
  callsH_of_fn (P := Try.prog) (fn := Try.f44) (τ := (.int .i64)) follows Try.func44 (by kernel_rfl) (by kernel_rfl) Try.call44 (Eq.mpr (E_rup_wrong a0 a1 K h) hF)


/-- salvor/rup.many -/
def F_rup_many (a0 : Sl) (K : Int → HP) : HP :=
 brB (decide ((a0.len : Int) > (65536 : Int)))
 (K (5 : Int))
 (K (0 : Int))
set_option maxRecDepth 100000 in
theorem E_rup_many (a0 : Sl) (K : Int → HP) (h : Heap) : fnVC Try.prog [(1000000, .bool)] 6 Try.f45 [(.slice a0.a a0.len a0.cap)] (.int .i64) K h = F_rup_many a0 K h := by kernel_rfl
set_option maxRecDepth 100000 in
theorem S_rup_many{h : Heap} {a0 : Sl} (K : Int → HP) (hF : F_rup_many a0 K h) : CallsH Try.prog fn_rup_many #[(.slice a0.a a0.len a0.cap)] h fun v h' => ∃ x : Int, v = Ty.enc (.int .i64) x ∧ K x h' :=
  callsH_of_fn (P := Try.prog) (fn := Try.f45) (τ := (.int .i64)) follows Try.func45 (by kernel_rfl) (by kernel_rfl) Try.call45 (Eq.mpr (E_rup_many a0 K h) hF)


/-- salvor/rup.assigned -/
def F_rup_assigned (a0 : Sl) (K : (Value × (Bool × Unit)) → HP) : HP :=
 mkm fun b0 =>
 lfp (σ := (Int × (Bool × (Value × Unit)))) (fun X1 s2 => /-    -/
 brB (decide (s2.1 < (a0.len : Int)))
 (sx a0.a a0.len s2.1 1 fun p3 =>
 ldT (.int .i64) p3 fun x4 =>
 callT Try.prog fn_lits_Right #[(.int .i64 x4)] .bool fun r5 =>
 jn (σ := Bool) (fun t7 =>
 brB t7
 (K ((Value.map none), false, ()))
 (callT Try.prog fn_rup_values_put #[(.map (some b0)), (.int .i64 x4)] (.tup .nil) fun r8 =>
 X1 ((IntKind.wrap .i64 (s2.1 + (1 : Int))), s2.2.1, s2.2.2.1, ())))
 (fun J6 =>
 brB (!r5)
 (J6 true)
 (callT Try.prog fn_rup_values_of #[(.map (some b0)), (.int .i64 x4)] (.int .i64) fun r9 =>
 J6 ((decide (r9 < (0 : Int)))))))
 (K ((.map (some b0)), true, ())))
 ((0 : Int), false, (Value.map none), ())
set_option maxRecDepth 100000 in
theorem E_rup_assigned (a0 : Sl) (K : (Value × (Bool × Unit)) → HP) (h : Heap) : fnVC Try.prog [(1000000, .bool)] 28 Try.f46 [(.slice a0.a a0.len a0.cap)] (.tup (.cons .val (.cons .bool .nil))) K h = F_rup_assigned a0 K h := by kernel_rfl
set_option maxRecDepth 100000 in
theorem S_rup_assigned{h : Heap} {a0 : Sl} (K : (Value × (Bool × Unit)) → HP) (hF : F_rup_assigned a0 K h) : CallsH Try.prog fn_rup_assigned #[(.slice a0.a a0.len a0.cap)] h fun v h' => ∃ x : (Value × (Bool × Unit)), v = Ty.enc (.tup (.cons .val (.cons .bool .nil))) x ∧ K x h' :=
  callsH_of_fn (P := Try.prog) (fn := Try.f46) (τ := (.tup (.cons .val (.cons .bool .nil)))) follows Try.func46 (by kernel_rfl) (by kernel_rfl) Try.call46 (Eq.mpr (E_rup_assigned a0 K h) hF)


end Go.Proofs.S
