/- The functions of the seat, each as a predicate over its values, printed by a program of ours, and that each is its text's. -/
import Derived.Test.YtjkgncibelojnaaGreatSx10
import Derived.KernelRfl
import Derived.Test.YtjkgncibelojnaaGreatProg
import Derived.Test.YtjkgncibelojnaaGreatClF0
set_option linter.unusedVariables false
namespace Go.Proofs.S
open Go Go.Sx Go.Proofs
def F_rat_Candidates (a0 : Sl) (a1 : Int) (K : (Sl × (Int × Unit)) → HP) : HP := fun h0 => (
 nw #[(.slice a0.a a0.len a0.cap)] ty_sl_rat_Entry fun b0 =>
 ldT .sl (⟨b0, 0, none⟩ : Addr) fun x1 =>
 callT Tryz.prog fn_rat_Right #[(.slice x1.a x1.len x1.cap)] .bool fun r2 =>
 brB (!r2)
 (mkd h0.size <|
 K (⟨none, 0, 0⟩, (90 : Int), ()))
 (callT Tryz.prog fn_lits_Right #[(.int .i64 a1)] .bool fun r3 =>
 brB (!r3)
 (mkd h0.size <|
 K (⟨none, 0, 0⟩, (10 : Int), ()))
 (nw #[(.slice none 0 0)] ty_sl_int fun b4 =>
 ldT .sl (⟨b0, 0, none⟩ : Addr) fun x5 =>
 callT Tryz.prog fn_rat_candidates #[(.slice x5.a x5.len x5.cap), (.int .i64 a1)] .val fun r6 =>
 RangeVC Tryz.prog (.cons (.int .i64) .nil) r6 (fun x7 wrap8 next9 jump10 =>
 wrap8 <|
 ldT .sl (⟨b4, 0, none⟩ : Addr) fun x11 =>
 ldT .sl (⟨b0, 0, none⟩ : Addr) fun x12 =>
 sx x12.a x12.len x7.1 2 fun p13 =>
 ldT (.int .i64) p13 fun x14 =>
 nw #[(.int .i64 x14)] ty_int fun b15 =>
 apd ty_int 1 8 #[(.int .i64 (0 : Int))] ⟨x11.a, x11.len, x11.cap⟩ ⟨(some (⟨b15, 0, none⟩ : Addr)), 1, 1⟩ fun s16 =>
 st1 (⟨b4, 0, none⟩ : Addr) (.slice s16.a s16.len s16.cap) <|
 next9)
 (ldT .sl (⟨b4, 0, none⟩ : Addr) fun x17 =>
 mkd h0.size <|
 K (⟨x17.a, x17.len, x17.cap⟩, (0 : Int), ()))
 (mkd h0.size <|
 K (⟨none, 0, 0⟩, (0 : Int), ()))
 []
 []))) h0
set_option maxRecDepth 100000 in
theorem E_rat_Candidates (a0 : Sl) (a1 : Int) (K : (Sl × (Int × Unit)) → HP) (h : Heap) : fnVC Tryz.prog [(1000000, .bool), (19, (.cons (.int .i64) .nil))] 29 Tryz.f14 [(.slice a0.a a0.len a0.cap), (.int .i64 a1)] (.tup (.cons .sl (.cons (.int .i64) .nil))) K h = F_rat_Candidates a0 a1 K h := by kernel_rfl
set_option maxRecDepth 100000 in
theorem S_rat_Candidates{h : Heap} {a0 : Sl} {a1 : Int} (K : (Sl × (Int × Unit)) → HP) (hF : F_rat_Candidates a0 a1 K h) : CallsH Tryz.prog fn_rat_Candidates #[(.slice a0.a a0.len a0.cap), (.int .i64 a1)] h fun v h' => ∃ x : (Sl × (Int × Unit)), v = Ty.enc (.tup (.cons .sl (.cons (.int .i64) .nil))) x ∧ K x h' :=
  callsH_of_fn (P := Tryz.prog) (fn := Tryz.f14) (τ := (.tup (.cons .sl (.cons (.int .i64) .nil)))) follows Tryz.func14 (by kernel_rfl) (by kernel_rfl) Tryz.call14 (Eq.mpr (E_rat_Candidates a0 a1 K h) hF)

def F_rat_Check (a0 : Sl) (a1 : (Sl × (Sl × (Sl × Unit)))) (K : (Int × (Int × (Int × Unit))) → HP) : HP :=
 nw #[(.slice a1.1.a a1.1.len a1.1.cap), (.slice a1.2.1.a a1.2.1.len a1.2.1.cap), (.slice a1.2.2.1.a a1.2.2.1.len a1.2.2.1.cap)] ty_rat_Step fun b0 =>
 callT Tryz.prog fn_rat_Right #[(.slice a0.a a0.len a0.cap)] .bool fun r1 =>
 brB (!r1)
 (K ((0 : Int), (0 : Int), (90 : Int), ()))
 (ldT .sl (⟨b0, 0, none⟩ : Addr) fun x2 =>
 callT Tryz.prog fn_rup_Assume #[(.slice x2.a x2.len x2.cap)] (.tup (.cons .sl (.cons .bool (.cons (.int .i64) .nil)))) fun r3 =>
 brB (r3.2.2.1 != (0 : Int))
 (K ((0 : Int), (0 : Int), r3.2.2.1, ()))
 (brB r3.2.1
 (K ((1 : Int), (0 : Int), (0 : Int), ()))
 (ldT .sl ((⟨b0, 0, none⟩ : Addr).add 1) fun x4 =>
 callT Tryz.prog fn_rat_follow #[(.slice a0.a a0.len a0.cap), (.slice r3.1.a r3.1.len r3.1.cap), (.slice x4.a x4.len x4.cap)] (.tup (.cons .sl (.cons .bool (.cons (.int .i64) (.cons (.int .i64) .nil))))) fun r5 =>
 brB (r5.2.2.2.1 != (0 : Int))
 (K ((0 : Int), r5.2.2.1, r5.2.2.2.1, ()))
 (brB r5.2.1
 (K ((1 : Int), (0 : Int), (0 : Int), ()))
 (ldT .sl (⟨b0, 0, none⟩ : Addr) fun x6 =>
 brB ((x6.len : Int) == (0 : Int))
 (K ((0 : Int), (0 : Int), (82 : Int), ()))
 (ldT .sl (⟨b0, 0, none⟩ : Addr) fun x7 =>
 sx x7.a x7.len (0 : Int) 1 fun p8 =>
 ldT (.int .i64) p8 fun x9 =>
 ldT .sl ((⟨b0, 0, none⟩ : Addr).add 2) fun x10 =>
 callT Tryz.prog fn_rat_groups #[(.slice a0.a a0.len a0.cap), (.int .i64 x9), (.slice x10.a x10.len x10.cap)] (.tup (.cons (.int .i64) (.cons (.int .i64) .nil))) fun r11 =>
 ldT .sl ((⟨b0, 0, none⟩ : Addr).add 2) fun x12 =>
 jn (σ := (Int × (Int × (Int × (Bool × Unit))))) (fun s14 => /-  e id conflict -/
 brB (s14.2.1 != (0 : Int))
 (K ((0 : Int), s14.2.2.1, s14.2.1, ()))
 (K ((2 : Int), (0 : Int), (0 : Int), ())))
 (fun J13 =>
 lfp (σ := (Int × (Int × (Int × (Bool × Unit))))) (fun X15 s16 => /-  e id conflict -/
 brB (decide (s16.1 < (x12.len : Int)))
 (jn (σ := (Int × (Int × (Bool × Unit)))) (fun s18 => /- e id conflict -/
 X15 ((IntKind.wrap .i64 (s16.1 + (1 : Int))), s18.1, s18.2.1, s18.2.2.1, ()))
 (fun J17 =>
 sx x12.a x12.len s16.1 2 fun p19 =>
 ldA (.cons (.int .i64) (.cons .sl .nil)) p19 fun x20 =>
 nw #[(.int .i64 (0 : Int)), (.slice none 0 0)] ty_rat_Group fun b21 =>
 st1 (⟨b21, 0, none⟩ : Addr) (.int .i64 x20.1) <|
 st1 ((⟨b21, 0, none⟩ : Addr).add 1) (.slice x20.2.1.a x20.2.1.len x20.2.1.cap) <|
 brB (s16.2.1 != (0 : Int))
 (J13 (s16.1, s16.2.1, s16.2.2.1, s16.2.2.2.1, ()))
 (ldT (.int .i64) (⟨b21, 0, none⟩ : Addr) fun x22 =>
 callT Tryz.prog fn_rat_find #[(.slice a0.a a0.len a0.cap), (.int .i64 x22)] (.tup (.cons (.int .i64) (.cons .bool .nil))) fun r23 =>
 sx a0.a a0.len r23.1 2 fun p24 =>
 ldT .sl (p24.add 1) fun x25 =>
 callT Tryz.prog fn_rat_rest #[(.slice x25.a x25.len x25.cap), (.int .i64 x9), (.slice r5.1.a r5.1.len r5.1.cap)] (.tup (.cons .sl (.cons .bool .nil))) fun r26 =>
 brB (!r26.2.1)
 (J17 (s16.2.1, s16.2.2.1, s16.2.2.2.1, ()))
 (ldT .sl ((⟨b21, 0, none⟩ : Addr).add 1) fun x27 =>
 nw #[(.slice r5.1.a r5.1.len r5.1.cap), (.slice r26.1.a r26.1.len r26.1.cap)] ty_sl_lits_Lit fun b28 =>
 callT Tryz.prog fn_slices_Concat_lits_Lit_lits_Lit #[(.slice (some (⟨b28, 0, none⟩ : Addr)) 2 2)] .sl fun r29 =>
 ck ((⟨b21, 0, none⟩ : Addr).add 1) (.slice x27.a x27.len x27.cap) <|
 callT Tryz.prog fn_rat_follow #[(.slice a0.a a0.len a0.cap), (.slice r29.a r29.len r29.cap), (.slice x27.a x27.len x27.cap)] (.tup (.cons .sl (.cons .bool (.cons (.int .i64) (.cons (.int .i64) .nil))))) fun r30 =>
 jn (σ := Bool) (fun t32 =>
 jn (σ := (Int × (Int × Unit))) (fun s34 => /- e id -/
 J17 (s34.1, s34.2.1, r30.2.1, ()))
 (fun J33 =>
 brB t32
 (ldT (.int .i64) (⟨b21, 0, none⟩ : Addr) fun x35 =>
 J33 ((93 : Int), x35, ()))
 (J33 (r30.2.2.2.1, r30.2.2.1, ()))))
 (fun J31 =>
 brB (r30.2.2.2.1 == (0 : Int))
 (J31 ((!r30.2.1)))
 (J31 false))))))
 (J13 (s16.1, s16.2.1, s16.2.2.1, s16.2.2.2.1, ())))
 ((0 : Int), r11.2.1, r11.1, r5.2.1, ()))))))))
set_option maxRecDepth 100000 in
theorem E_rat_Check (a0 : Sl) (a1 : (Sl × (Sl × (Sl × Unit)))) (K : (Int × (Int × (Int × Unit))) → HP) (h : Heap) : fnVC Tryz.prog [(1000000, .bool)] 125 Tryz.f16 [(.slice a0.a a0.len a0.cap), (.agg #[(.slice a1.1.a a1.1.len a1.1.cap), (.slice a1.2.1.a a1.2.1.len a1.2.1.cap), (.slice a1.2.2.1.a a1.2.2.1.len a1.2.2.1.cap)])] (.tup (.cons (.int .u8) (.cons (.int .i64) (.cons (.int .i64) .nil)))) K h = F_rat_Check a0 a1 K h := by kernel_rfl
set_option maxRecDepth 100000 in
theorem S_rat_Check{h : Heap} {a0 : Sl} {a1 : (Sl × (Sl × (Sl × Unit)))} (K : (Int × (Int × (Int × Unit))) → HP) (hF : F_rat_Check a0 a1 K h) : CallsH Tryz.prog fn_rat_Check #[(.slice a0.a a0.len a0.cap), (.agg #[(.slice a1.1.a a1.1.len a1.1.cap), (.slice a1.2.1.a a1.2.1.len a1.2.1.cap), (.slice a1.2.2.1.a a1.2.2.1.len a1.2.2.1.cap)])] h fun v h' => ∃ x : (Int × (Int × (Int × Unit))), v = Ty.enc (.tup (.cons (.int .u8) (.cons (.int .i64) (.cons (.int .i64) .nil)))) x ∧ K x h' :=
  callsH_of_fn (P := Tryz.prog) (fn := Tryz.f16) (τ := (.tup (.cons (.int .u8) (.cons (.int .i64) (.cons (.int .i64) .nil))))) follows Tryz.func16 (by kernel_rfl) (by kernel_rfl) Tryz.call16 (Eq.mpr (E_rat_Check a0 a1 K h) hF)

def F_salvorlaw09_tells (a0 : Sl) (a1 : Int) (K : Bool → HP) : HP :=
 callT Tryz.prog fn_salvorlaw09_Theirs #[(.slice a0.a a0.len a0.cap)] .sl fun r0 =>
 callT Tryz.prog fn_salvorref09_Right #[(.slice r0.a r0.len r0.cap)] .bool fun r1 =>
 callT Tryz.prog fn_rat_Find #[(.slice a0.a a0.len a0.cap), (.int .i64 a1)] (.tup (.cons (.int .i64) (.cons .bool (.cons (.int .i64) .nil)))) fun r2 =>
 callT Tryz.prog fn_rat_Candidates #[(.slice a0.a a0.len a0.cap), (.int .i64 a1)] (.tup (.cons .sl (.cons (.int .i64) .nil))) fun r3 =>
 callT Tryz.prog fn_rat_Right #[(.slice a0.a a0.len a0.cap)] .bool fun r4 =>
 brB (!(r4 == r1))
 (K false)
 (brB (!r1)
 (jn (σ := Bool) (fun t6 =>
 jn (σ := Bool) (fun t8 =>
 jn (σ := Bool) (fun t10 =>
 jn (σ := Bool) (fun t12 =>
 K t12)
 (fun J11 =>
 brB t10
 (J11 ((r3.2.1 == (90 : Int))))
 (J11 false)))
 (fun J9 =>
 brB t8
 (J9 (((r3.1.len : Int) == (0 : Int))))
 (J9 false)))
 (fun J7 =>
 brB t6
 (J7 ((r2.2.2.1 == (90 : Int))))
 (J7 false)))
 (fun J5 =>
 brB (r2.1 == (0 : Int))
 (J5 ((!r2.2.1)))
 (J5 false)))
 (callT Tryz.prog fn_salvorref09_Find #[(.slice r0.a r0.len r0.cap), (.int .i64 a1)] (.int .i64) fun r13 =>
 jn (σ := Bool) (fun t15 =>
 jn (σ := Bool) (fun t17 =>
 jn (σ := Bool) (fun t19 =>
 brB t19
 (K false)
 (jn (σ := Bool) (fun t21 =>
 jn (σ := Bool) (fun t23 =>
 K t23)
 (fun J22 =>
 brB t21
 (J22 true)
 (jn (σ := Bool) (fun t25 =>
 jn (σ := Bool) (fun t27 =>
 J22 (t27))
 (fun J26 =>
 brB t25
 (callT Tryz.prog fn_salvorlaw09_Theirs #[(.slice a0.a a0.len a0.cap)] .sl fun r28 =>
 callT Tryz.prog fn_salvorlaw09_sameEntries #[(.slice r28.a r28.len r28.cap), (.slice r0.a r0.len r0.cap)] .bool fun r29 =>
 J26 (r29))
 (J26 false)))
 (fun J24 =>
 brB (r3.2.1 == (0 : Int))
 (callT Tryz.prog fn_salvorref09_Candidates #[(.slice r0.a r0.len r0.cap), (.int .i64 a1)] .sl fun r30 =>
 callT Tryz.prog fn_slices_Equal_int_int #[(.slice r3.1.a r3.1.len r3.1.cap), (.slice r30.a r30.len r30.cap)] .bool fun r31 =>
 J24 (r31))
 (J24 false)))))
 (fun J20 =>
 brB (r3.2.1 != (0 : Int))
 (J20 (((r3.1.len : Int) == (0 : Int))))
 (J20 false))))
 (fun J18 =>
 brB t17
 (J18 true)
 (callT Tryz.prog fn_salvorref09_Literal #[(.int .i64 a1)] (.int .i64) fun r32 =>
 J18 ((r3.2.1 != r32)))))
 (fun J16 =>
 brB t15
 (J16 true)
 (J16 ((r2.2.2.1 != (0 : Int))))))
 (fun J14 =>
 brB (!(r2.2.1 == (decide (r13 ≥ (0 : Int)))))
 (J14 true)
 (J14 ((r2.1 != (if (0 : Int) > r13 then (0 : Int) else r13)))))))
set_option maxRecDepth 100000 in
theorem E_salvorlaw09_tells (a0 : Sl) (a1 : Int) (K : Bool → HP) (h : Heap) : fnVC Tryz.prog [(1000000, .bool)] 102 Tryz.f21 [(.slice a0.a a0.len a0.cap), (.int .i64 a1)] .bool K h = F_salvorlaw09_tells a0 a1 K h := by kernel_rfl
set_option maxRecDepth 100000 in
theorem S_salvorlaw09_tells{h : Heap} {a0 : Sl} {a1 : Int} (K : Bool → HP) (hF : F_salvorlaw09_tells a0 a1 K h) : CallsH Tryz.prog fn_salvorlaw09_tells #[(.slice a0.a a0.len a0.cap), (.int .i64 a1)] h fun v h' => ∃ x : Bool, v = Ty.enc .bool x ∧ K x h' :=
  callsH_of_fn (P := Tryz.prog) (fn := Tryz.f21) (τ := .bool) follows Tryz.func21 (by kernel_rfl) (by kernel_rfl) Tryz.call21 (Eq.mpr (E_salvorlaw09_tells a0 a1 K h) hF)

def F_salvorlaw09_few (a0 : Sl) (K : Bool → HP) : HP :=
 jn (σ := Bool) (fun t1 =>
 K t1)
 (fun J0 =>
 brB (decide ((a0.len : Int) ≤ (30 : Int)))
 (callT Tryz.prog fn_slices_ContainsFunc_rat_Entry_rat_Entry #[(.slice a0.a a0.len a0.cap), (.func (.func fn_salvorlaw09_few_1) #[] #[])] .bool fun r2 =>
 J0 ((!r2)))
 (J0 false))
set_option maxRecDepth 100000 in
theorem E_salvorlaw09_few (a0 : Sl) (K : Bool → HP) (h : Heap) : fnVC Tryz.prog [(1000000, .bool)] 11 Tryz.f23 [(.slice a0.a a0.len a0.cap)] .bool K h = F_salvorlaw09_few a0 K h := by kernel_rfl
set_option maxRecDepth 100000 in
theorem S_salvorlaw09_few{h : Heap} {a0 : Sl} (K : Bool → HP) (hF : F_salvorlaw09_few a0 K h) : CallsH Tryz.prog fn_salvorlaw09_few #[(.slice a0.a a0.len a0.cap)] h fun v h' => ∃ x : Bool, v = Ty.enc .bool x ∧ K x h' :=
  callsH_of_fn (P := Tryz.prog) (fn := Tryz.f23) (τ := .bool) follows Tryz.func23 (by kernel_rfl) (by kernel_rfl) Tryz.call23 (Eq.mpr (E_salvorlaw09_few a0 K h) hF)

def F_slices_ContainsFunc_rat_Group_rat_Group (a0 : Sl) (a1 : Value) (K : Bool → HP) : HP :=
 callT Tryz.prog fn_slices_IndexFunc_rat_Group_rat_Group #[(.slice a0.a a0.len a0.cap), a1] (.int .i64) fun r0 =>
 K (decide (r0 ≥ (0 : Int)))
set_option maxRecDepth 100000 in
theorem E_slices_ContainsFunc_rat_Group_rat_Group (a0 : Sl) (a1 : Value) (K : Bool → HP) (h : Heap) : fnVC Tryz.prog [(1000000, .nil)] 9 Tryz.f24 [(.slice a0.a a0.len a0.cap), a1] .bool K h = F_slices_ContainsFunc_rat_Group_rat_Group a0 a1 K h := by kernel_rfl
set_option maxRecDepth 100000 in
theorem S_slices_ContainsFunc_rat_Group_rat_Group{h : Heap} {a0 : Sl} {a1 : Value} (K : Bool → HP) (hF : F_slices_ContainsFunc_rat_Group_rat_Group a0 a1 K h) : CallsH Tryz.prog fn_slices_ContainsFunc_rat_Group_rat_Group #[(.slice a0.a a0.len a0.cap), a1] h fun v h' => ∃ x : Bool, v = Ty.enc .bool x ∧ K x h' :=
  callsH_of_fn (P := Tryz.prog) (fn := Tryz.f24) (τ := .bool) follows Tryz.func24 (by kernel_rfl) (by kernel_rfl) Tryz.call24 (Eq.mpr (E_slices_ContainsFunc_rat_Group_rat_Group a0 a1 K h) hF)

def F_salvorlaw09_RatTells_1 (a0 : (Int × (Sl × Unit))) (K : Bool → HP) : HP :=
 nw #[(.int .i64 a0.1), (.slice a0.2.1.a a0.2.1.len a0.2.1.cap)] ty_rat_Group fun b0 =>
 ldT .sl ((⟨b0, 0, none⟩ : Addr).add 1) fun x1 =>
 K (decide ((x1.len : Int) > (20 : Int)))
set_option maxRecDepth 100000 in
theorem E_salvorlaw09_RatTells_1 (a0 : (Int × (Sl × Unit))) (K : Bool → HP) (h : Heap) : fnVC Tryz.prog [(1000000, .bool)] 7 Tryz.f26 [(.agg #[(.int .i64 a0.1), (.slice a0.2.1.a a0.2.1.len a0.2.1.cap)])] .bool K h = F_salvorlaw09_RatTells_1 a0 K h := by kernel_rfl
set_option maxRecDepth 100000 in
theorem S_salvorlaw09_RatTells_1{h : Heap} {a0 : (Int × (Sl × Unit))} (K : Bool → HP) (hF : F_salvorlaw09_RatTells_1 a0 K h) : CallsH Tryz.prog fn_salvorlaw09_RatTells_1 #[(.agg #[(.int .i64 a0.1), (.slice a0.2.1.a a0.2.1.len a0.2.1.cap)])] h fun v h' => ∃ x : Bool, v = Ty.enc .bool x ∧ K x h' :=
  callsH_of_fn (P := Tryz.prog) (fn := Tryz.f26) (τ := .bool) follows Tryz.func26 (by kernel_rfl) (by kernel_rfl) Tryz.call26 (Eq.mpr (E_salvorlaw09_RatTells_1 a0 K h) hF)

def F_salvorlaw09_texts (a0 : Sl) (a1 : Sl) (K : Bool → HP) : HP :=
 callT Tryz.prog fn_slices_Clone_int_int #[(.slice a0.a a0.len a0.cap)] .sl fun r0 =>
 callT Tryz.prog fn_rat_Split #[(.slice r0.a r0.len r0.cap)] (.tup (.cons .sl (.cons .sl (.cons (.int .i64) .nil)))) fun r1 =>
 callT Tryz.prog fn_salvorref09_Split #[(.slice a0.a a0.len a0.cap)] (.tup (.cons .sl (.cons .sl (.cons (.int .i64) .nil)))) fun r2 =>
 callT Tryz.prog fn_slices_Equal_int_int #[(.slice r1.1.a r1.1.len r1.1.cap), (.slice r2.1.a r2.1.len r2.1.cap)] .bool fun r3 =>
 jn (σ := Bool) (fun t5 =>
 jn (σ := Bool) (fun t7 =>
 brB t7
 (K false)
 (lfp (σ := (Int × Unit)) (fun X8 s9 => /-  -/
 brB (decide (s9.1 < (r1.2.1.len : Int)))
 (sx r1.2.1.a r1.2.1.len s9.1 2 fun p10 =>
 ldA (.cons (.int .i64) (.cons .sl .nil)) p10 fun x11 =>
 nw #[(.int .i64 (0 : Int)), (.slice none 0 0)] ty_rat_Group fun b12 =>
 st1 (⟨b12, 0, none⟩ : Addr) (.int .i64 x11.1) <|
 st1 ((⟨b12, 0, none⟩ : Addr).add 1) (.slice x11.2.1.a x11.2.1.len x11.2.1.cap) <|
 ldT .sl ((⟨b12, 0, none⟩ : Addr).add 1) fun x13 =>
 lfp (σ := (Int × Unit)) (fun X14 s15 => /-  -/
 brB (decide (s15.1 < (x13.len : Int)))
 (ldT .sl ((⟨b12, 0, none⟩ : Addr).add 1) fun x16 =>
 sx x16.a x16.len s15.1 1 fun p17 =>
 st1 p17 (.int .i64 (-9 : Int)) <|
 X14 ((IntKind.wrap .i64 (s15.1 + (1 : Int))), ()))
 (X8 ((IntKind.wrap .i64 (s9.1 + (1 : Int))), ())))
 ((0 : Int), ()))
 (callT Tryz.prog fn_salvorlaw09_step #[(.agg #[(.slice none 0 0), (.slice none 0 0), (.slice a1.a a1.len a1.cap)])] (.agg (.cons .sl (.cons .sl (.cons .sl .nil)))) fun r18 =>
 nw #[(.slice none 0 0), (.slice none 0 0), (.slice none 0 0)] ty_salvorref09_Step fun b19 =>
 st1 (⟨b19, 0, none⟩ : Addr) (.slice r18.1.a r18.1.len r18.1.cap) <|
 st1 ((⟨b19, 0, none⟩ : Addr).add 1) (.slice r18.2.1.a r18.2.1.len r18.2.1.cap) <|
 st1 ((⟨b19, 0, none⟩ : Addr).add 2) (.slice r18.2.2.1.a r18.2.2.1.len r18.2.2.1.cap) <|
 callT Tryz.prog fn_rat_Join #[(.slice r0.a r0.len r0.cap), (.slice a1.a a1.len a1.cap)] (.tup (.cons .sl (.cons (.int .i64) .nil))) fun r20 =>
 ldT .sl ((⟨b19, 0, none⟩ : Addr).add 2) fun x21 =>
 callT Tryz.prog fn_salvorref09_Join #[(.slice a0.a a0.len a0.cap), (.slice x21.a x21.len x21.cap)] (.tup (.cons .sl (.cons (.int .i64) .nil))) fun r22 =>
 callT Tryz.prog fn_slices_Equal_int_int #[(.slice r20.1.a r20.1.len r20.1.cap), (.slice r22.1.a r22.1.len r22.1.cap)] .bool fun r23 =>
 jn (σ := Bool) (fun t25 =>
 brB t25
 (K false)
 (lfp (σ := (Int × Unit)) (fun X26 s27 => /-  -/
 brB (decide (s27.1 < (r20.1.len : Int)))
 (sx r20.1.a r20.1.len s27.1 1 fun p28 =>
 st1 p28 (.int .i64 (-9 : Int)) <|
 X26 ((IntKind.wrap .i64 (s27.1 + (1 : Int))), ()))
 (callT Tryz.prog fn_slices_Equal_int_int #[(.slice r0.a r0.len r0.cap), (.slice a0.a a0.len a0.cap)] .bool fun r29 =>
 brB r29
 (ldA (.cons .sl (.cons .sl (.cons .sl .nil))) (⟨b19, 0, none⟩ : Addr) fun x30 =>
 callT Tryz.prog fn_salvorlaw09_step #[(.agg #[(.slice none 0 0), (.slice none 0 0), (.slice a1.a a1.len a1.cap)])] (.agg (.cons .sl (.cons .sl (.cons .sl .nil)))) fun r31 =>
 ckA (⟨b19, 0, none⟩ : Addr) [(.slice x30.1.a x30.1.len x30.1.cap), (.slice x30.2.1.a x30.2.1.len x30.2.1.cap), (.slice x30.2.2.1.a x30.2.2.1.len x30.2.2.1.cap)] <|
 callT Tryz.prog fn_salvorlaw09_sameStep #[(.agg #[(.slice r31.1.a r31.1.len r31.1.cap), (.slice r31.2.1.a r31.2.1.len r31.2.1.cap), (.slice r31.2.2.1.a r31.2.2.1.len r31.2.2.1.cap)]), (.agg #[(.slice x30.1.a x30.1.len x30.1.cap), (.slice x30.2.1.a x30.2.1.len x30.2.1.cap), (.slice x30.2.2.1.a x30.2.2.1.len x30.2.2.1.cap)])] .bool fun r32 =>
 K r32)
 (K false)))
 ((0 : Int), ())))
 (fun J24 =>
 brB (!r23)
 (J24 true)
 (J24 ((r20.2.1 != r22.2.1))))))
 ((0 : Int), ())))
 (fun J6 =>
 brB t5
 (J6 true)
 (J6 ((r1.2.2.1 != r2.2.2.1)))))
 (fun J4 =>
 brB (!r3)
 (J4 true)
 (callT Tryz.prog fn_salvorlaw09_step #[(.agg #[(.slice none 0 0), (.slice none 0 0), (.slice r1.2.1.a r1.2.1.len r1.2.1.cap)])] (.agg (.cons .sl (.cons .sl (.cons .sl .nil)))) fun r33 =>
 callT Tryz.prog fn_salvorlaw09_sameStep #[(.agg #[(.slice r33.1.a r33.1.len r33.1.cap), (.slice r33.2.1.a r33.2.1.len r33.2.1.cap), (.slice r33.2.2.1.a r33.2.2.1.len r33.2.2.1.cap)]), (.agg #[(.slice none 0 0), (.slice none 0 0), (.slice r2.2.1.a r2.2.1.len r2.2.1.cap)])] .bool fun r34 =>
 J4 ((!r34))))
set_option maxRecDepth 100000 in
theorem E_salvorlaw09_texts (a0 : Sl) (a1 : Sl) (K : Bool → HP) (h : Heap) : fnVC Tryz.prog [(1000000, .bool)] 113 Tryz.f27 [(.slice a0.a a0.len a0.cap), (.slice a1.a a1.len a1.cap)] .bool K h = F_salvorlaw09_texts a0 a1 K h := by kernel_rfl
set_option maxRecDepth 100000 in
theorem S_salvorlaw09_texts{h : Heap} {a0 : Sl} {a1 : Sl} (K : Bool → HP) (hF : F_salvorlaw09_texts a0 a1 K h) : CallsH Tryz.prog fn_salvorlaw09_texts #[(.slice a0.a a0.len a0.cap), (.slice a1.a a1.len a1.cap)] h fun v h' => ∃ x : Bool, v = Ty.enc .bool x ∧ K x h' :=
  callsH_of_fn (P := Tryz.prog) (fn := Tryz.f27) (τ := .bool) follows Tryz.func27 (by kernel_rfl) (by kernel_rfl) Tryz.call27 (Eq.mpr (E_salvorlaw09_texts a0 a1 K h) hF)

def F_salvorlaw09_repairs (a0 : Sl) (a1 : Sl) (K : Bool → HP) : HP :=
 callT Tryz.prog fn_salvorlaw08_Ints #[(.slice a0.a a0.len a0.cap)] .sl fun r0 =>
 callT Tryz.prog fn_salvorlaw08_Ints #[(.slice a1.a a1.len a1.cap)] .sl fun r1 =>
 callT Tryz.prog fn_rat_Repair #[(.slice a0.a a0.len a0.cap), (.slice a1.a a1.len a1.cap)] (.tup (.cons .sl (.cons (.int .i64) .nil))) fun r2 =>
 callT Tryz.prog fn_salvorref09_Repair #[(.slice r0.a r0.len r0.cap), (.slice r1.a r1.len r1.cap)] (.tup (.cons .sl (.cons (.int .i64) .nil))) fun r3 =>
 callT Tryz.prog fn_salvorlaw08_Ints #[(.slice r2.1.a r2.1.len r2.1.cap)] .sl fun r4 =>
 callT Tryz.prog fn_slices_Equal_int_int #[(.slice r4.a r4.len r4.cap), (.slice r3.1.a r3.1.len r3.1.cap)] .bool fun r5 =>
 jn (σ := Bool) (fun t7 =>
 brB t7
 (K false)
 (lfp (σ := (Int × Unit)) (fun X8 s9 => /-  -/
 brB (decide (s9.1 < (r2.1.len : Int)))
 (sx r2.1.a r2.1.len s9.1 1 fun p10 =>
 st1 p10 (.int .i64 (99 : Int)) <|
 X8 ((IntKind.wrap .i64 (s9.1 + (1 : Int))), ()))
 (callT Tryz.prog fn_salvorlaw08_Ints #[(.slice a0.a a0.len a0.cap)] .sl fun r11 =>
 callT Tryz.prog fn_slices_Equal_int_int #[(.slice r11.a r11.len r11.cap), (.slice r0.a r0.len r0.cap)] .bool fun r12 =>
 jn (σ := Bool) (fun t14 =>
 K t14)
 (fun J13 =>
 brB r12
 (callT Tryz.prog fn_salvorlaw08_Ints #[(.slice a1.a a1.len a1.cap)] .sl fun r15 =>
 callT Tryz.prog fn_slices_Equal_int_int #[(.slice r15.a r15.len r15.cap), (.slice r1.a r1.len r1.cap)] .bool fun r16 =>
 J13 (r16))
 (J13 false))))
 ((0 : Int), ())))
 (fun J6 =>
 brB (!r5)
 (J6 true)
 (J6 ((r2.2.1 != r3.2.1))))
set_option maxRecDepth 100000 in
theorem E_salvorlaw09_repairs (a0 : Sl) (a1 : Sl) (K : Bool → HP) (h : Heap) : fnVC Tryz.prog [(1000000, .bool)] 57 Tryz.f28 [(.slice a0.a a0.len a0.cap), (.slice a1.a a1.len a1.cap)] .bool K h = F_salvorlaw09_repairs a0 a1 K h := by kernel_rfl
set_option maxRecDepth 100000 in
theorem S_salvorlaw09_repairs{h : Heap} {a0 : Sl} {a1 : Sl} (K : Bool → HP) (hF : F_salvorlaw09_repairs a0 a1 K h) : CallsH Tryz.prog fn_salvorlaw09_repairs #[(.slice a0.a a0.len a0.cap), (.slice a1.a a1.len a1.cap)] h fun v h' => ∃ x : Bool, v = Ty.enc .bool x ∧ K x h' :=
  callsH_of_fn (P := Tryz.prog) (fn := Tryz.f28) (τ := .bool) follows Tryz.func28 (by kernel_rfl) (by kernel_rfl) Tryz.call28 (Eq.mpr (E_salvorlaw09_repairs a0 a1 K h) hF)

def F_lits_Right (a0 : Int) (K : Bool → HP) : HP :=
 brB (a0 != (0 : Int))
 (brB (decide (a0 ≥ (-1048576 : Int)))
 (K (decide (a0 ≤ (1048576 : Int))))
 (K false))
 (K false)
set_option maxRecDepth 100000 in
theorem E_lits_Right (a0 : Int) (K : Bool → HP) (h : Heap) : fnVC Tryz.prog [(1000000, .nil)] 13 Tryz.f31 [(.int .i64 a0)] .bool K h = F_lits_Right a0 K h := by kernel_rfl
set_option maxRecDepth 100000 in
theorem S_lits_Right{h : Heap} {a0 : Int} (K : Bool → HP) (hF : F_lits_Right a0 K h) : CallsH Tryz.prog fn_lits_Right #[(.int .i64 a0)] h fun v h' => ∃ x : Bool, v = Ty.enc .bool x ∧ K x h' :=
  callsH_of_fn (P := Tryz.prog) (fn := Tryz.f31) (τ := .bool) follows Tryz.func31 (by kernel_rfl) (by kernel_rfl) Tryz.call31 (Eq.mpr (E_lits_Right a0 K h) hF)

def F_rat_Find (a0 : Sl) (a1 : Int) (K : (Int × (Bool × (Int × Unit))) → HP) : HP :=
 callT Tryz.prog fn_rat_Right #[(.slice a0.a a0.len a0.cap)] .bool fun r0 =>
 brB (!r0)
 (K ((0 : Int), false, (90 : Int), ()))
 (callT Tryz.prog fn_rat_find #[(.slice a0.a a0.len a0.cap), (.int .i64 a1)] (.tup (.cons (.int .i64) (.cons .bool .nil))) fun r1 =>
 jn (σ := (Int × Unit)) (fun s3 => /- i -/
 K (s3.1, r1.2.1, (0 : Int), ()))
 (fun J2 =>
 brB (!r1.2.1)
 (J2 ((0 : Int), ()))
 (J2 (r1.1, ()))))
set_option maxRecDepth 100000 in
theorem E_rat_Find (a0 : Sl) (a1 : Int) (K : (Int × (Bool × (Int × Unit))) → HP) (h : Heap) : fnVC Tryz.prog [(1000000, .bool)] 22 Tryz.f32 [(.slice a0.a a0.len a0.cap), (.int .i64 a1)] (.tup (.cons (.int .i64) (.cons .bool (.cons (.int .i64) .nil)))) K h = F_rat_Find a0 a1 K h := by kernel_rfl
set_option maxRecDepth 100000 in
theorem S_rat_Find{h : Heap} {a0 : Sl} {a1 : Int} (K : (Int × (Bool × (Int × Unit))) → HP) (hF : F_rat_Find a0 a1 K h) : CallsH Tryz.prog fn_rat_Find #[(.slice a0.a a0.len a0.cap), (.int .i64 a1)] h fun v h' => ∃ x : (Int × (Bool × (Int × Unit))), v = Ty.enc (.tup (.cons (.int .i64) (.cons .bool (.cons (.int .i64) .nil)))) x ∧ K x h' :=
  callsH_of_fn (P := Tryz.prog) (fn := Tryz.f32) (τ := (.tup (.cons (.int .i64) (.cons .bool (.cons (.int .i64) .nil))))) follows Tryz.func32 (by kernel_rfl) (by kernel_rfl) Tryz.call32 (Eq.mpr (E_rat_Find a0 a1 K h) hF)

def F_rat_Right (a0 : Sl) (K : Bool → HP) : HP :=
 lfp (σ := (Int × (Int × (Bool × Unit)))) (fun X0 s1 => /-  last  -/
 brB (decide (s1.1 < (a0.len : Int)))
 (sx a0.a a0.len s1.1 2 fun p2 =>
 ldA (.cons (.int .i64) (.cons .sl .nil)) p2 fun x3 =>
 nw #[(.int .i64 (0 : Int)), (.slice none 0 0)] ty_rat_Entry fun b4 =>
 st1 (⟨b4, 0, none⟩ : Addr) (.int .i64 x3.1) <|
 st1 ((⟨b4, 0, none⟩ : Addr).add 1) (.slice x3.2.1.a x3.2.1.len x3.2.1.cap) <|
 ldT (.int .i64) (⟨b4, 0, none⟩ : Addr) fun x5 =>
 jn (σ := Bool) (fun t7 =>
 jn (σ := Bool) (fun t9 =>
 brB t9
 (K false)
 (ldT (.int .i64) (⟨b4, 0, none⟩ : Addr) fun x10 =>
 X0 ((IntKind.wrap .i64 (s1.1 + (1 : Int))), x10, s1.2.2.1, ())))
 (fun J8 =>
 brB t7
 (J8 true)
 (ldT .sl ((⟨b4, 0, none⟩ : Addr).add 1) fun x11 =>
 callT Tryz.prog fn_clauses_Right #[(.slice x11.a x11.len x11.cap)] .bool fun r12 =>
 J8 ((!r12)))))
 (fun J6 =>
 brB (decide (x5 ≤ s1.2.1))
 (J6 true)
 (ldT (.int .i64) (⟨b4, 0, none⟩ : Addr) fun x13 =>
 J6 ((decide (x13 > (1073741824 : Int)))))))
 (K (decide ((a0.len : Int) ≤ (1048576 : Int)))))
 ((0 : Int), (0 : Int), false, ())
set_option maxRecDepth 100000 in
theorem E_rat_Right (a0 : Sl) (K : Bool → HP) (h : Heap) : fnVC Tryz.prog [(1000000, .bool)] 33 Tryz.f33 [(.slice a0.a a0.len a0.cap)] .bool K h = F_rat_Right a0 K h := by kernel_rfl
set_option maxRecDepth 100000 in
theorem S_rat_Right{h : Heap} {a0 : Sl} (K : Bool → HP) (hF : F_rat_Right a0 K h) : CallsH Tryz.prog fn_rat_Right #[(.slice a0.a a0.len a0.cap)] h fun v h' => ∃ x : Bool, v = Ty.enc .bool x ∧ K x h' :=
  callsH_of_fn (P := Tryz.prog) (fn := Tryz.f33) (τ := .bool) follows Tryz.func33 (by kernel_rfl) (by kernel_rfl) Tryz.call33 (Eq.mpr (E_rat_Right a0 K h) hF)

def F_salvorlaw09_three (K : Sl → HP) : HP :=
 nw #[(.int .i64 (1 : Int)), (.int .i64 (2 : Int))] ty_lits_Lit fun b0 =>
 nw #[(.int .i64 (-1 : Int)), (.int .i64 (3 : Int))] ty_lits_Lit fun b1 =>
 nw #[(.int .i64 (-2 : Int)), (.int .i64 (-3 : Int))] ty_lits_Lit fun b2 =>
 nw #[(.int .i64 (1 : Int)), (.slice (some (⟨b0, 0, none⟩ : Addr)) 2 2), (.int .i64 (2 : Int)), (.slice (some (⟨b1, 0, none⟩ : Addr)) 2 2), (.int .i64 (3 : Int)), (.slice (some (⟨b2, 0, none⟩ : Addr)) 2 2)] ty_rat_Entry fun b3 =>
 K ⟨(some (⟨b3, 0, none⟩ : Addr)), 3, 3⟩
set_option maxRecDepth 100000 in
theorem E_salvorlaw09_three (K : Sl → HP) (h : Heap) : fnVC Tryz.prog [(1000000, .bool)] 8 Tryz.f34 [] .sl K h = F_salvorlaw09_three K h := by kernel_rfl
set_option maxRecDepth 100000 in
theorem S_salvorlaw09_three{h : Heap} (K : Sl → HP) (hF : F_salvorlaw09_three K h) : CallsH Tryz.prog fn_salvorlaw09_three #[] h fun v h' => ∃ x : Sl, v = Ty.enc .sl x ∧ K x h' :=
  callsH_of_fn (P := Tryz.prog) (fn := Tryz.f34) (τ := .sl) follows Tryz.func34 (by kernel_rfl) (by kernel_rfl) Tryz.call34 (Eq.mpr (E_salvorlaw09_three K h) hF)

def F_rat_Split (a0 : Sl) (K : (Sl × (Sl × (Int × Unit))) → HP) : HP :=
 lfp (σ := (Int × (Sl × (Sl × (Int × (Sl × (Sl × Unit))))))) (fun X0 s1 => /-  groups out    -/
 brB (decide (s1.1 < (a0.len : Int)))
 (sx a0.a a0.len s1.1 1 fun p2 =>
 ldT (.int .i64) p2 fun x3 =>
 jn (σ := Bool) (fun t5 =>
 jn (σ := Bool) (fun t7 =>
 brB t7
 (K (⟨none, 0, 0⟩, ⟨none, 0, 0⟩, (91 : Int), ()))
 (jn (σ := (Sl × (Sl × Unit))) (fun s9 => /- groups out -/
 X0 ((IntKind.wrap .i64 (s1.1 + (1 : Int))), ⟨s9.1.a, s9.1.len, s9.1.cap⟩, ⟨s9.2.1.a, s9.2.1.len, s9.2.1.cap⟩, s1.2.2.2.1, ⟨s1.2.2.2.2.1.a, s1.2.2.2.2.1.len, s1.2.2.2.2.1.cap⟩, ⟨s1.2.2.2.2.2.1.a, s1.2.2.2.2.2.1.len, s1.2.2.2.2.2.1.cap⟩, ()))
 (fun J8 =>
 brB (decide (x3 < (0 : Int)))
 (nw #[(.int .i64 (IntKind.wrap .i64 (0 - x3))), (.slice none 0 0)] ty_rat_Group fun b10 =>
 apd ty_rat_Group 2 32 #[(.int .i64 (0 : Int)), (.slice none 0 0)] ⟨s1.2.1.a, s1.2.1.len, s1.2.1.cap⟩ ⟨(some (⟨b10, 0, none⟩ : Addr)), 1, 1⟩ fun s11 =>
 J8 (⟨s11.a, s11.len, s11.cap⟩, ⟨s1.2.2.1.a, s1.2.2.1.len, s1.2.2.1.cap⟩, ()))
 (jn (σ := (Sl × Unit)) (fun s13 => /- out -/
 J8 (⟨s1.2.1.a, s1.2.1.len, s1.2.1.cap⟩, ⟨s13.1.a, s13.1.len, s13.1.cap⟩, ()))
 (fun J12 =>
 brB (decide ((s1.2.1.len : Int) > (0 : Int)))
 (sx s1.2.1.a s1.2.1.len (IntKind.wrap .i64 ((s1.2.1.len : Int) - (1 : Int))) 2 fun p14 =>
 ldT .sl (p14.add 1) fun x15 =>
 nw #[(.int .i64 x3)] ty_int fun b16 =>
 apd ty_int 1 8 #[(.int .i64 (0 : Int))] ⟨x15.a, x15.len, x15.cap⟩ ⟨(some (⟨b16, 0, none⟩ : Addr)), 1, 1⟩ fun s17 =>
 st1 (p14.add 1) (.slice s17.a s17.len s17.cap) <|
 J12 (⟨s1.2.2.1.a, s1.2.2.1.len, s1.2.2.1.cap⟩, ()))
 (nw #[(.int .i64 x3)] ty_int fun b18 =>
 apd ty_int 1 8 #[(.int .i64 (0 : Int))] ⟨s1.2.2.1.a, s1.2.2.1.len, s1.2.2.1.cap⟩ ⟨(some (⟨b18, 0, none⟩ : Addr)), 1, 1⟩ fun s19 =>
 J12 (⟨s19.a, s19.len, s19.cap⟩, ())))))))
 (fun J6 =>
 brB t5
 (J6 true)
 (J6 ((decide (x3 < (-1073741824 : Int)))))))
 (fun J4 =>
 brB (x3 == (0 : Int))
 (J4 true)
 (J4 ((decide (x3 > (1073741824 : Int)))))))
 (K (⟨s1.2.2.1.a, s1.2.2.1.len, s1.2.2.1.cap⟩, ⟨s1.2.1.a, s1.2.1.len, s1.2.1.cap⟩, (0 : Int), ())))
 ((0 : Int), ⟨none, 0, 0⟩, ⟨none, 0, 0⟩, (0 : Int), ⟨none, 0, 0⟩, ⟨none, 0, 0⟩, ())
set_option maxRecDepth 100000 in
theorem E_rat_Split (a0 : Sl) (K : (Sl × (Sl × (Int × Unit))) → HP) (h : Heap) : fnVC Tryz.prog [(1000000, .bool)] 62 Tryz.f35 [(.slice a0.a a0.len a0.cap)] (.tup (.cons .sl (.cons .sl (.cons (.int .i64) .nil)))) K h = F_rat_Split a0 K h := by kernel_rfl
set_option maxRecDepth 100000 in
theorem S_rat_Split{h : Heap} {a0 : Sl} (K : (Sl × (Sl × (Int × Unit))) → HP) (hF : F_rat_Split a0 K h) : CallsH Tryz.prog fn_rat_Split #[(.slice a0.a a0.len a0.cap)] h fun v h' => ∃ x : (Sl × (Sl × (Int × Unit))), v = Ty.enc (.tup (.cons .sl (.cons .sl (.cons (.int .i64) .nil)))) x ∧ K x h' :=
  callsH_of_fn (P := Tryz.prog) (fn := Tryz.f35) (τ := (.tup (.cons .sl (.cons .sl (.cons (.int .i64) .nil))))) follows Tryz.func35 (by kernel_rfl) (by kernel_rfl) Tryz.call35 (Eq.mpr (E_rat_Split a0 K h) hF)

def F_rat_Repair (a0 : Sl) (a1 : Sl) (K : (Sl × (Int × Unit)) → HP) : HP :=
 callT Tryz.prog fn_rup_Look #[(.slice a0.a a0.len a0.cap), (.slice a1.a a1.len a1.cap)] (.tup (.cons (.int .u8) (.cons (.int .i64) (.cons (.int .i64) .nil)))) fun r0 =>
 brB (r0.2.2.1 != (0 : Int))
 (K (⟨none, 0, 0⟩, r0.2.2.1, ()))
 (brB ((a0.len : Int) == (0 : Int))
 (K (⟨none, 0, 0⟩, (82 : Int), ()))
 (brB (r0.1 == (1 : Int))
 (callT Tryz.prog fn_slices_Clone_lits_Lit_lits_Lit #[(.slice a1.a a1.len a1.cap)] .sl fun r1 =>
 K (⟨r1.a, r1.len, r1.cap⟩, (0 : Int), ()))
 (callT Tryz.prog fn_slices_Clone_lits_Lit_lits_Lit #[(.slice a1.a a1.len a1.cap)] .sl fun r2 =>
 lfp (σ := (Int × (Bool × Unit))) (fun X3 s4 => /-  there -/
 brB (decide (s4.1 < (r2.len : Int)))
 (sx r2.a r2.len s4.1 1 fun p5 =>
 ldT (.int .i64) p5 fun x6 =>
 sx a0.a a0.len (0 : Int) 1 fun p7 =>
 ldT (.int .i64) p7 fun x8 =>
 callT Tryz.prog fn_lits_Neg #[(.int .i64 x8)] (.int .i64) fun r9 =>
 jn (σ := (Bool × Unit)) (fun s11 => /- there -/
 X3 ((IntKind.wrap .i64 (s4.1 + (1 : Int))), s11.1, ()))
 (fun J10 =>
 brB (x6 == r9)
 (sx a0.a a0.len (0 : Int) 1 fun p12 =>
 ldT (.int .i64) p12 fun x13 =>
 sx r2.a r2.len s4.1 1 fun p14 =>
 st1 p14 (.int .i64 x13) <|
 J10 (true, ()))
 (J10 (s4.2.1, ()))))
 (jn (σ := (Sl × Unit)) (fun s16 => /- out -/
 K (⟨s16.1.a, s16.1.len, s16.1.cap⟩, (0 : Int), ()))
 (fun J15 =>
 brB (!s4.2.1)
 (sx a0.a a0.len (0 : Int) 1 fun p17 =>
 ldT (.int .i64) p17 fun x18 =>
 nw #[(.int .i64 x18)] ty_lits_Lit fun b19 =>
 apd ty_lits_Lit 1 8 #[(.int .i64 (0 : Int))] ⟨r2.a, r2.len, r2.cap⟩ ⟨(some (⟨b19, 0, none⟩ : Addr)), 1, 1⟩ fun s20 =>
 J15 (⟨s20.a, s20.len, s20.cap⟩, ()))
 (J15 (⟨r2.a, r2.len, r2.cap⟩, ())))))
 ((0 : Int), false, ()))))
set_option maxRecDepth 100000 in
theorem E_rat_Repair (a0 : Sl) (a1 : Sl) (K : (Sl × (Int × Unit)) → HP) (h : Heap) : fnVC Tryz.prog [(1000000, .bool)] 64 Tryz.f36 [(.slice a0.a a0.len a0.cap), (.slice a1.a a1.len a1.cap)] (.tup (.cons .sl (.cons (.int .i64) .nil))) K h = F_rat_Repair a0 a1 K h := by kernel_rfl
set_option maxRecDepth 100000 in
theorem S_rat_Repair{h : Heap} {a0 : Sl} {a1 : Sl} (K : (Sl × (Int × Unit)) → HP) (hF : F_rat_Repair a0 a1 K h) : CallsH Tryz.prog fn_rat_Repair #[(.slice a0.a a0.len a0.cap), (.slice a1.a a1.len a1.cap)] h fun v h' => ∃ x : (Sl × (Int × Unit)), v = Ty.enc (.tup (.cons .sl (.cons (.int .i64) .nil))) x ∧ K x h' :=
  callsH_of_fn (P := Tryz.prog) (fn := Tryz.f36) (τ := (.tup (.cons .sl (.cons (.int .i64) .nil)))) follows Tryz.func36 (by kernel_rfl) (by kernel_rfl) Tryz.call36 (Eq.mpr (E_rat_Repair a0 a1 K h) hF)

def F_slices_Equal_int_int (a0 : Sl) (a1 : Sl) (K : Bool → HP) : HP :=
 brB ((a0.len : Int) != (a1.len : Int))
 (K false)
 (lfp (σ := (Int × (Bool × Unit))) (fun X0 s1 => /-   -/
 brB (decide (s1.1 < (a0.len : Int)))
 (sx a0.a a0.len s1.1 1 fun p2 =>
 ldT (.int .i64) p2 fun x3 =>
 sx a1.a a1.len s1.1 1 fun p4 =>
 ldT (.int .i64) p4 fun x5 =>
 brB (x3 != x5)
 (K false)
 (X0 ((IntKind.wrap .i64 (s1.1 + (1 : Int))), s1.2.1, ())))
 (K true))
 ((0 : Int), false, ()))
set_option maxRecDepth 100000 in
theorem E_slices_Equal_int_int (a0 : Sl) (a1 : Sl) (K : Bool → HP) (h : Heap) : fnVC Tryz.prog [(1000000, .nil)] 26 Tryz.f37 [(.slice a0.a a0.len a0.cap), (.slice a1.a a1.len a1.cap)] .bool K h = F_slices_Equal_int_int a0 a1 K h := by kernel_rfl
set_option maxRecDepth 100000 in
theorem S_slices_Equal_int_int{h : Heap} {a0 : Sl} {a1 : Sl} (K : Bool → HP) (hF : F_slices_Equal_int_int a0 a1 K h) : CallsH Tryz.prog fn_slices_Equal_int_int #[(.slice a0.a a0.len a0.cap), (.slice a1.a a1.len a1.cap)] h fun v h' => ∃ x : Bool, v = Ty.enc .bool x ∧ K x h' :=
  callsH_of_fn (P := Tryz.prog) (fn := Tryz.f37) (τ := .bool) follows Tryz.func37 (by kernel_rfl) (by kernel_rfl) Tryz.call37 (Eq.mpr (E_slices_Equal_int_int a0 a1 K h) hF)

def F_salvorlaw09_sameGroups (a0 : Sl) (a1 : Sl) (K : Bool → HP) : HP :=
 callT Tryz.prog fn_slices_EqualFunc_rat_Group_rat_Group_rat_Group_rat_Group #[(.slice a0.a a0.len a0.cap), (.slice a1.a a1.len a1.cap), (.func (.func fn_salvorlaw09_sameGroups_1) #[] #[])] .bool fun r0 =>
 K r0
set_option maxRecDepth 100000 in
theorem E_salvorlaw09_sameGroups (a0 : Sl) (a1 : Sl) (K : Bool → HP) (h : Heap) : fnVC Tryz.prog [(1000000, .bool)] 8 Tryz.f38 [(.slice a0.a a0.len a0.cap), (.slice a1.a a1.len a1.cap)] .bool K h = F_salvorlaw09_sameGroups a0 a1 K h := by kernel_rfl
set_option maxRecDepth 100000 in
theorem S_salvorlaw09_sameGroups{h : Heap} {a0 : Sl} {a1 : Sl} (K : Bool → HP) (hF : F_salvorlaw09_sameGroups a0 a1 K h) : CallsH Tryz.prog fn_salvorlaw09_sameGroups #[(.slice a0.a a0.len a0.cap), (.slice a1.a a1.len a1.cap)] h fun v h' => ∃ x : Bool, v = Ty.enc .bool x ∧ K x h' :=
  callsH_of_fn (P := Tryz.prog) (fn := Tryz.f38) (τ := .bool) follows Tryz.func38 (by kernel_rfl) (by kernel_rfl) Tryz.call38 (Eq.mpr (E_salvorlaw09_sameGroups a0 a1 K h) hF)

def F_slices_Equal_lits_Lit_lits_Lit (a0 : Sl) (a1 : Sl) (K : Bool → HP) : HP :=
 brB ((a0.len : Int) != (a1.len : Int))
 (K false)
 (lfp (σ := (Int × (Bool × Unit))) (fun X0 s1 => /-   -/
 brB (decide (s1.1 < (a0.len : Int)))
 (sx a0.a a0.len s1.1 1 fun p2 =>
 ldT (.int .i64) p2 fun x3 =>
 sx a1.a a1.len s1.1 1 fun p4 =>
 ldT (.int .i64) p4 fun x5 =>
 brB (x3 != x5)
 (K false)
 (X0 ((IntKind.wrap .i64 (s1.1 + (1 : Int))), s1.2.1, ())))
 (K true))
 ((0 : Int), false, ()))
set_option maxRecDepth 100000 in
theorem E_slices_Equal_lits_Lit_lits_Lit (a0 : Sl) (a1 : Sl) (K : Bool → HP) (h : Heap) : fnVC Tryz.prog [(1000000, .nil)] 26 Tryz.f39 [(.slice a0.a a0.len a0.cap), (.slice a1.a a1.len a1.cap)] .bool K h = F_slices_Equal_lits_Lit_lits_Lit a0 a1 K h := by kernel_rfl
set_option maxRecDepth 100000 in
theorem S_slices_Equal_lits_Lit_lits_Lit{h : Heap} {a0 : Sl} {a1 : Sl} (K : Bool → HP) (hF : F_slices_Equal_lits_Lit_lits_Lit a0 a1 K h) : CallsH Tryz.prog fn_slices_Equal_lits_Lit_lits_Lit #[(.slice a0.a a0.len a0.cap), (.slice a1.a a1.len a1.cap)] h fun v h' => ∃ x : Bool, v = Ty.enc .bool x ∧ K x h' :=
  callsH_of_fn (P := Tryz.prog) (fn := Tryz.f39) (τ := .bool) follows Tryz.func39 (by kernel_rfl) (by kernel_rfl) Tryz.call39 (Eq.mpr (E_slices_Equal_lits_Lit_lits_Lit a0 a1 K h) hF)

def F_rup_Assume (a0 : Sl) (K : (Sl × (Bool × (Int × Unit))) → HP) : HP :=
 callT Tryz.prog fn_clauses_Norm #[(.slice a0.a a0.len a0.cap)] (.tup (.cons .sl (.cons .bool (.cons (.int .i64) .nil)))) fun r0 =>
 jn (σ := Bool) (fun t2 =>
 brB t2
 (K (⟨none, 0, 0⟩, r0.2.1, r0.2.2.1, ()))
 (lfp (σ := (Int × (Sl × Unit))) (fun X3 s4 => /-  out -/
 brB (decide (s4.1 < (r0.1.len : Int)))
 (sx r0.1.a r0.1.len s4.1 1 fun p5 =>
 ldT (.int .i64) p5 fun x6 =>
 callT Tryz.prog fn_lits_Neg #[(.int .i64 x6)] (.int .i64) fun r7 =>
 nw #[(.int .i64 r7)] ty_lits_Lit fun b8 =>
 apd ty_lits_Lit 1 8 #[(.int .i64 (0 : Int))] ⟨s4.2.1.a, s4.2.1.len, s4.2.1.cap⟩ ⟨(some (⟨b8, 0, none⟩ : Addr)), 1, 1⟩ fun s9 =>
 X3 ((IntKind.wrap .i64 (s4.1 + (1 : Int))), ⟨s9.a, s9.len, s9.cap⟩, ()))
 (callT Tryz.prog fn_slices_SortFunc_lits_Lit_lits_Lit #[(.slice s4.2.1.a s4.2.1.len s4.2.1.cap), (.func (.func fn_lits_Compare) #[] #[])] (.tup .nil) fun r10 =>
 K (⟨s4.2.1.a, s4.2.1.len, s4.2.1.cap⟩, false, (0 : Int), ())))
 ((0 : Int), ⟨none, 0, 0⟩, ())))
 (fun J1 =>
 brB (r0.2.2.1 != (0 : Int))
 (J1 true)
 (J1 (r0.2.1)))
set_option maxRecDepth 100000 in
theorem E_rup_Assume (a0 : Sl) (K : (Sl × (Bool × (Int × Unit))) → HP) (h : Heap) : fnVC Tryz.prog [(1000000, .bool)] 39 Tryz.f44 [(.slice a0.a a0.len a0.cap)] (.tup (.cons .sl (.cons .bool (.cons (.int .i64) .nil)))) K h = F_rup_Assume a0 K h := by kernel_rfl
set_option maxRecDepth 100000 in
theorem S_rup_Assume{h : Heap} {a0 : Sl} (K : (Sl × (Bool × (Int × Unit))) → HP) (hF : F_rup_Assume a0 K h) : CallsH Tryz.prog fn_rup_Assume #[(.slice a0.a a0.len a0.cap)] h fun v h' => ∃ x : (Sl × (Bool × (Int × Unit))), v = Ty.enc (.tup (.cons .sl (.cons .bool (.cons (.int .i64) .nil)))) x ∧ K x h' :=
  callsH_of_fn (P := Tryz.prog) (fn := Tryz.f44) (τ := (.tup (.cons .sl (.cons .bool (.cons (.int .i64) .nil))))) follows Tryz.func44 (by kernel_rfl) (by kernel_rfl) Tryz.call44 (Eq.mpr (E_rup_Assume a0 K h) hF)

def F_rat_candidates (a0 : Sl) (a1 : Int) (K : Value → HP) : HP :=
 nw #[(.slice a0.a a0.len a0.cap)] ty_sl_rat_Entry fun b0 =>
 nw #[(.int .i64 a1)] ty_lits_Lit fun b1 =>
 K (.func (.func fn_rat_candidates_1) #[] #[(.pointer (some (⟨b0, 0, none⟩ : Addr))), (.pointer (some (⟨b1, 0, none⟩ : Addr)))])
set_option maxRecDepth 100000 in
theorem E_rat_candidates (a0 : Sl) (a1 : Int) (K : Value → HP) (h : Heap) : fnVC Tryz.prog [(1000000, .bool)] 6 Tryz.f46 [(.slice a0.a a0.len a0.cap), (.int .i64 a1)] .val K h = F_rat_candidates a0 a1 K h := by kernel_rfl
set_option maxRecDepth 100000 in
theorem S_rat_candidates{h : Heap} {a0 : Sl} {a1 : Int} (K : Value → HP) (hF : F_rat_candidates a0 a1 K h) : CallsH Tryz.prog fn_rat_candidates #[(.slice a0.a a0.len a0.cap), (.int .i64 a1)] h fun v h' => ∃ x : Value, v = Ty.enc .val x ∧ K x h' :=
  callsH_of_fn (P := Tryz.prog) (fn := Tryz.f46) (τ := .val) follows Tryz.func46 (by kernel_rfl) (by kernel_rfl) Tryz.call46 (Eq.mpr (E_rat_candidates a0 a1 K h) hF)

def F_rat_rest (a0 : Sl) (a1 : Int) (a2 : Sl) (K : (Sl × (Bool × Unit)) → HP) : HP :=
 lfp (σ := (Int × (Sl × (Bool × (Sl × Unit))))) (fun X0 s1 => /-  out   -/
 brB (decide (s1.1 < (a0.len : Int)))
 (jn (σ := (Sl × (Bool × (Sl × Unit)))) (fun s3 => /- out   -/
 X0 ((IntKind.wrap .i64 (s1.1 + (1 : Int))), ⟨s3.1.a, s3.1.len, s3.1.cap⟩, s3.2.1, ⟨s3.2.2.1.a, s3.2.2.1.len, s3.2.2.1.cap⟩, ()))
 (fun J2 =>
 sx a0.a a0.len s1.1 1 fun p4 =>
 ldT (.int .i64) p4 fun x5 =>
 callT Tryz.prog fn_lits_Neg #[(.int .i64 a1)] (.int .i64) fun r6 =>
 brB (x5 == r6)
 (J2 (⟨s1.2.1.a, s1.2.1.len, s1.2.1.cap⟩, s1.2.2.1, ⟨s1.2.2.2.1.a, s1.2.2.2.1.len, s1.2.2.2.1.cap⟩, ()))
 (callT Tryz.prog fn_slices_Contains_lits_Lit_lits_Lit #[(.slice a2.a a2.len a2.cap), (.int .i64 x5)] .bool fun r7 =>
 brB r7
 (K (⟨none, 0, 0⟩, false, ()))
 (callT Tryz.prog fn_lits_Neg #[(.int .i64 x5)] (.int .i64) fun r8 =>
 nw #[(.int .i64 r8)] ty_lits_Lit fun b9 =>
 apd ty_lits_Lit 1 8 #[(.int .i64 (0 : Int))] ⟨s1.2.1.a, s1.2.1.len, s1.2.1.cap⟩ ⟨(some (⟨b9, 0, none⟩ : Addr)), 1, 1⟩ fun s10 =>
 J2 (⟨s10.a, s10.len, s10.cap⟩, s1.2.2.1, ⟨s1.2.2.2.1.a, s1.2.2.2.1.len, s1.2.2.2.1.cap⟩, ())))))
 (K (⟨s1.2.1.a, s1.2.1.len, s1.2.1.cap⟩, true, ())))
 ((0 : Int), ⟨none, 0, 0⟩, false, ⟨none, 0, 0⟩, ())
set_option maxRecDepth 100000 in
theorem E_rat_rest (a0 : Sl) (a1 : Int) (a2 : Sl) (K : (Sl × (Bool × Unit)) → HP) (h : Heap) : fnVC Tryz.prog [(1000000, .bool)] 33 Tryz.f47 [(.slice a0.a a0.len a0.cap), (.int .i64 a1), (.slice a2.a a2.len a2.cap)] (.tup (.cons .sl (.cons .bool .nil))) K h = F_rat_rest a0 a1 a2 K h := by kernel_rfl
set_option maxRecDepth 100000 in
theorem S_rat_rest{h : Heap} {a0 : Sl} {a1 : Int} {a2 : Sl} (K : (Sl × (Bool × Unit)) → HP) (hF : F_rat_rest a0 a1 a2 K h) : CallsH Tryz.prog fn_rat_rest #[(.slice a0.a a0.len a0.cap), (.int .i64 a1), (.slice a2.a a2.len a2.cap)] h fun v h' => ∃ x : (Sl × (Bool × Unit)), v = Ty.enc (.tup (.cons .sl (.cons .bool .nil))) x ∧ K x h' :=
  callsH_of_fn (P := Tryz.prog) (fn := Tryz.f47) (τ := (.tup (.cons .sl (.cons .bool .nil)))) follows Tryz.func47 (by kernel_rfl) (by kernel_rfl) Tryz.call47 (Eq.mpr (E_rat_rest a0 a1 a2 K h) hF)

def F_slices_Concat_lits_Lit_lits_Lit (a0 : Sl) (K : Sl → HP) : HP :=
 lfp (σ := (Int × (Int × Unit))) (fun X0 s1 => /-  size -/
 brB (decide (s1.1 < (a0.len : Int)))
 (sx a0.a a0.len s1.1 1 fun p2 =>
 ldT .sl p2 fun x3 =>
 jn (σ := Unit) (fun s5 => /- -/
 X0 ((IntKind.wrap .i64 (s1.1 + (1 : Int))), (IntKind.wrap .i64 (s1.2.1 + (x3.len : Int))), ()))
 (fun J4 =>
 brB (decide ((IntKind.wrap .i64 (s1.2.1 + (x3.len : Int))) < (0 : Int)))
 (fF /- not known -/)
 (J4 (()))))
 (callT Tryz.prog fn_slices_Grow_lits_Lit_lits_Lit #[(.slice none 0 0), (.int .i64 s1.2.1)] .sl fun r6 =>
 lfp (σ := (Int × (Sl × Unit))) (fun X7 s8 => /-  newslice -/
 brB (decide (s8.1 < (a0.len : Int)))
 (sx a0.a a0.len s8.1 1 fun p9 =>
 ldT .sl p9 fun x10 =>
 apd ty_lits_Lit 1 8 #[(.int .i64 (0 : Int))] ⟨s8.2.1.a, s8.2.1.len, s8.2.1.cap⟩ ⟨x10.a, x10.len, x10.cap⟩ fun s11 =>
 X7 ((IntKind.wrap .i64 (s8.1 + (1 : Int))), ⟨s11.a, s11.len, s11.cap⟩, ()))
 (K ⟨s8.2.1.a, s8.2.1.len, s8.2.1.cap⟩))
 ((0 : Int), ⟨r6.a, r6.len, r6.cap⟩, ())))
 ((0 : Int), (0 : Int), ())
set_option maxRecDepth 100000 in
theorem E_slices_Concat_lits_Lit_lits_Lit (a0 : Sl) (K : Sl → HP) (h : Heap) : fnVC Tryz.prog [(1000000, .nil)] 36 Tryz.f48 [(.slice a0.a a0.len a0.cap)] .sl K h = F_slices_Concat_lits_Lit_lits_Lit a0 K h := by kernel_rfl
set_option maxRecDepth 100000 in
theorem S_slices_Concat_lits_Lit_lits_Lit{h : Heap} {a0 : Sl} (K : Sl → HP) (hF : F_slices_Concat_lits_Lit_lits_Lit a0 K h) : CallsH Tryz.prog fn_slices_Concat_lits_Lit_lits_Lit #[(.slice a0.a a0.len a0.cap)] h fun v h' => ∃ x : Sl, v = Ty.enc .sl x ∧ K x h' :=
  callsH_of_fn (P := Tryz.prog) (fn := Tryz.f48) (τ := .sl) follows Tryz.func48 (by kernel_rfl) (by kernel_rfl) Tryz.call48 (Eq.mpr (E_slices_Concat_lits_Lit_lits_Lit a0 K h) hF)

def F_lits_Neg (a0 : Int) (K : Int → HP) : HP :=
 callT Tryz.prog fn_lits_Right #[(.int .i64 a0)] .bool fun r0 =>
 brB (!r0)
 (K (0 : Int))
 (K (IntKind.wrap .i64 (0 - a0)))
set_option maxRecDepth 100000 in
theorem E_lits_Neg (a0 : Int) (K : Int → HP) (h : Heap) : fnVC Tryz.prog [(1000000, .nil)] 8 Tryz.f49 [(.int .i64 a0)] (.int .i64) K h = F_lits_Neg a0 K h := by kernel_rfl
set_option maxRecDepth 100000 in
theorem S_lits_Neg{h : Heap} {a0 : Int} (K : Int → HP) (hF : F_lits_Neg a0 K h) : CallsH Tryz.prog fn_lits_Neg #[(.int .i64 a0)] h fun v h' => ∃ x : Int, v = Ty.enc (.int .i64) x ∧ K x h' :=
  callsH_of_fn (P := Tryz.prog) (fn := Tryz.f49) (τ := (.int .i64)) follows Tryz.func49 (by kernel_rfl) (by kernel_rfl) Tryz.call49 (Eq.mpr (E_lits_Neg a0 K h) hF)

def F_rat_follow (a0 : Sl) (a1 : Sl) (a2 : Sl) (K : (Sl × (Bool × (Int × (Int × Unit)))) → HP) : HP :=
 lfp (σ := (Int × (Int × (Int × (Bool × (Sl × (Sl × Unit))))))) (fun X0 s1 => /-      assigned -/
 brB (decide (s1.1 < (a2.len : Int)))
 (sx a2.a a2.len s1.1 1 fun p2 =>
 ldT (.int .i64) p2 fun x3 =>
 callT Tryz.prog fn_rat_find #[(.slice a0.a a0.len a0.cap), (.int .i64 x3)] (.tup (.cons (.int .i64) (.cons .bool .nil))) fun r4 =>
 brB (!r4.2.1)
 (K (⟨none, 0, 0⟩, false, x3, (91 : Int), ()))
 (sx a0.a a0.len r4.1 2 fun p5 =>
 ldT .sl (p5.add 1) fun x6 =>
 callT Tryz.prog fn_rup_Look #[(.slice x6.a x6.len x6.cap), (.slice s1.2.2.2.2.2.1.a s1.2.2.2.2.2.1.len s1.2.2.2.2.2.1.cap)] (.tup (.cons (.int .u8) (.cons (.int .i64) (.cons (.int .i64) .nil)))) fun r7 =>
 brB (r7.1 == (2 : Int))
 (K (⟨s1.2.2.2.2.2.1.a, s1.2.2.2.2.2.1.len, s1.2.2.2.2.2.1.cap⟩, true, (0 : Int), (0 : Int), ()))
 (brB (r7.1 == (3 : Int))
 (callT Tryz.prog fn_slices_Clip_lits_Lit_lits_Lit #[(.slice s1.2.2.2.2.2.1.a s1.2.2.2.2.2.1.len s1.2.2.2.2.2.1.cap)] .sl fun r8 =>
 nw #[(.int .i64 r7.2.1)] ty_lits_Lit fun b9 =>
 apd ty_lits_Lit 1 8 #[(.int .i64 (0 : Int))] ⟨r8.a, r8.len, r8.cap⟩ ⟨(some (⟨b9, 0, none⟩ : Addr)), 1, 1⟩ fun s10 =>
 X0 ((IntKind.wrap .i64 (s1.1 + (1 : Int))), s1.2.1, s1.2.2.1, s1.2.2.2.1, ⟨s1.2.2.2.2.1.a, s1.2.2.2.2.1.len, s1.2.2.2.2.1.cap⟩, ⟨s10.a, s10.len, s10.cap⟩, ()))
 (K (⟨none, 0, 0⟩, false, x3, (81 : Int), ())))))
 (K (⟨s1.2.2.2.2.2.1.a, s1.2.2.2.2.2.1.len, s1.2.2.2.2.2.1.cap⟩, false, (0 : Int), (0 : Int), ())))
 ((0 : Int), (0 : Int), (0 : Int), false, ⟨none, 0, 0⟩, ⟨a1.a, a1.len, a1.cap⟩, ())
set_option maxRecDepth 100000 in
theorem E_rat_follow (a0 : Sl) (a1 : Sl) (a2 : Sl) (K : (Sl × (Bool × (Int × (Int × Unit)))) → HP) (h : Heap) : fnVC Tryz.prog [(1000000, .bool)] 57 Tryz.f50 [(.slice a0.a a0.len a0.cap), (.slice a1.a a1.len a1.cap), (.slice a2.a a2.len a2.cap)] (.tup (.cons .sl (.cons .bool (.cons (.int .i64) (.cons (.int .i64) .nil))))) K h = F_rat_follow a0 a1 a2 K h := by kernel_rfl
set_option maxRecDepth 100000 in
theorem S_rat_follow{h : Heap} {a0 : Sl} {a1 : Sl} {a2 : Sl} (K : (Sl × (Bool × (Int × (Int × Unit)))) → HP) (hF : F_rat_follow a0 a1 a2 K h) : CallsH Tryz.prog fn_rat_follow #[(.slice a0.a a0.len a0.cap), (.slice a1.a a1.len a1.cap), (.slice a2.a a2.len a2.cap)] h fun v h' => ∃ x : (Sl × (Bool × (Int × (Int × Unit)))), v = Ty.enc (.tup (.cons .sl (.cons .bool (.cons (.int .i64) (.cons (.int .i64) .nil))))) x ∧ K x h' :=
  callsH_of_fn (P := Tryz.prog) (fn := Tryz.f50) (τ := (.tup (.cons .sl (.cons .bool (.cons (.int .i64) (.cons (.int .i64) .nil)))))) follows Tryz.func50 (by kernel_rfl) (by kernel_rfl) Tryz.call50 (Eq.mpr (E_rat_follow a0 a1 a2 K h) hF)

def F_rat_groups (a0 : Sl) (a1 : Int) (a2 : Sl) (K : (Int × (Int × Unit)) → HP) : HP := fun h0 => (
 nw #[(.slice a0.a a0.len a0.cap)] ty_sl_rat_Entry fun b0 =>
 nw #[(.slice none 0 0)] ty_sl_int fun b1 =>
 ldT .sl (⟨b0, 0, none⟩ : Addr) fun x2 =>
 callT Tryz.prog fn_rat_candidates #[(.slice x2.a x2.len x2.cap), (.int .i64 a1)] .val fun r3 =>
 RangeVC Tryz.prog (.cons (.int .i64) .nil) r3 (fun x4 wrap5 next6 jump7 =>
 wrap5 <|
 ldT .sl (⟨b1, 0, none⟩ : Addr) fun x8 =>
 ldT .sl (⟨b0, 0, none⟩ : Addr) fun x9 =>
 sx x9.a x9.len x4.1 2 fun p10 =>
 ldT (.int .i64) p10 fun x11 =>
 nw #[(.int .i64 x11)] ty_int fun b12 =>
 apd ty_int 1 8 #[(.int .i64 (0 : Int))] ⟨x8.a, x8.len, x8.cap⟩ ⟨(some (⟨b12, 0, none⟩ : Addr)), 1, 1⟩ fun s13 =>
 st1 (⟨b1, 0, none⟩ : Addr) (.slice s13.a s13.len s13.cap) <|
 next6)
 (ldT .sl (⟨b1, 0, none⟩ : Addr) fun x14 =>
 lfp (σ := (Int × (Int × (Int × Unit)))) (fun X15 s16 => /-    -/
 brB (decide (s16.1 < (x14.len : Int)))
 (sx x14.a x14.len s16.1 1 fun p17 =>
 ldT (.int .i64) p17 fun x18 =>
 nw #[(.int .i64 (0 : Int))] ty_int fun b19 =>
 st1 (⟨b19, 0, none⟩ : Addr) (.int .i64 x18) <|
 callT Tryz.prog fn_slices_ContainsFunc_rat_Group_rat_Group #[(.slice a2.a a2.len a2.cap), (.func (.func fn_rat_groups_1) #[] #[(.pointer (some (⟨b19, 0, none⟩ : Addr)))])] .bool fun r20 =>
 brB (!r20)
 (ldT (.int .i64) (⟨b19, 0, none⟩ : Addr) fun x21 =>
 mkd h0.size <|
 K (x21, (92 : Int), ()))
 (X15 ((IntKind.wrap .i64 (s16.1 + (1 : Int))), s16.2.1, s16.2.2.1, ())))
 (lfp (σ := (Int × (Int × (Int × (Int × Unit))))) (fun X22 s23 => /-  last   -/
 brB (decide (s23.1 < (a2.len : Int)))
 (sx a2.a a2.len s23.1 2 fun p24 =>
 ldA (.cons (.int .i64) (.cons .sl .nil)) p24 fun x25 =>
 nw #[(.int .i64 (0 : Int)), (.slice none 0 0)] ty_rat_Group fun b26 =>
 st1 (⟨b26, 0, none⟩ : Addr) (.int .i64 x25.1) <|
 st1 ((⟨b26, 0, none⟩ : Addr).add 1) (.slice x25.2.1.a x25.2.1.len x25.2.1.cap) <|
 ldT .sl (⟨b1, 0, none⟩ : Addr) fun x27 =>
 ldT (.int .i64) (⟨b26, 0, none⟩ : Addr) fun x28 =>
 callT Tryz.prog fn_slices_BinarySearch_int_int #[(.slice x27.a x27.len x27.cap), (.int .i64 x28)] (.tup (.cons (.int .i64) (.cons .bool .nil))) fun r29 =>
 jn (σ := Bool) (fun t31 =>
 brB t31
 (ldT (.int .i64) (⟨b26, 0, none⟩ : Addr) fun x32 =>
 mkd h0.size <|
 K (x32, (92 : Int), ()))
 (ldT (.int .i64) (⟨b26, 0, none⟩ : Addr) fun x33 =>
 X22 ((IntKind.wrap .i64 (s23.1 + (1 : Int))), x33, s23.2.2.1, s23.2.2.2.1, ())))
 (fun J30 =>
 brB (!r29.2.1)
 (J30 true)
 (ldT (.int .i64) (⟨b26, 0, none⟩ : Addr) fun x34 =>
 J30 ((decide (x34 ≤ s23.2.1))))))
 (mkd h0.size <|
 K ((0 : Int), (0 : Int), ())))
 ((0 : Int), (0 : Int), s16.2.1, s16.2.2.1, ())))
 ((0 : Int), (0 : Int), (0 : Int), ()))
 (mkd h0.size <|
 K ((0 : Int), (0 : Int), ()))
 []
 []) h0
set_option maxRecDepth 100000 in
theorem E_rat_groups (a0 : Sl) (a1 : Int) (a2 : Sl) (K : (Int × (Int × Unit)) → HP) (h : Heap) : fnVC Tryz.prog [(1000000, .bool), (20, (.cons (.int .i64) .nil))] 67 Tryz.f51 [(.slice a0.a a0.len a0.cap), (.int .i64 a1), (.slice a2.a a2.len a2.cap)] (.tup (.cons (.int .i64) (.cons (.int .i64) .nil))) K h = F_rat_groups a0 a1 a2 K h := by kernel_rfl
set_option maxRecDepth 100000 in
theorem S_rat_groups{h : Heap} {a0 : Sl} {a1 : Int} {a2 : Sl} (K : (Int × (Int × Unit)) → HP) (hF : F_rat_groups a0 a1 a2 K h) : CallsH Tryz.prog fn_rat_groups #[(.slice a0.a a0.len a0.cap), (.int .i64 a1), (.slice a2.a a2.len a2.cap)] h fun v h' => ∃ x : (Int × (Int × Unit)), v = Ty.enc (.tup (.cons (.int .i64) (.cons (.int .i64) .nil))) x ∧ K x h' :=
  callsH_of_fn (P := Tryz.prog) (fn := Tryz.f51) (τ := (.tup (.cons (.int .i64) (.cons (.int .i64) .nil)))) follows Tryz.func51 (by kernel_rfl) (by kernel_rfl) Tryz.call51 (Eq.mpr (E_rat_groups a0 a1 a2 K h) hF)

def F_rat_find (a0 : Sl) (a1 : Int) (K : (Int × (Bool × Unit)) → HP) : HP :=
 callT Tryz.prog fn_slices_BinarySearchFunc_rat_Entry_rat_Entry_int #[(.slice a0.a a0.len a0.cap), (.int .i64 a1), (.func (.func fn_rat_find_1) #[] #[])] (.tup (.cons (.int .i64) (.cons .bool .nil))) fun r0 =>
 K (r0.1, r0.2.1, ())
set_option maxRecDepth 100000 in
theorem E_rat_find (a0 : Sl) (a1 : Int) (K : (Int × (Bool × Unit)) → HP) (h : Heap) : fnVC Tryz.prog [(1000000, .bool)] 11 Tryz.f52 [(.slice a0.a a0.len a0.cap), (.int .i64 a1)] (.tup (.cons (.int .i64) (.cons .bool .nil))) K h = F_rat_find a0 a1 K h := by kernel_rfl
set_option maxRecDepth 100000 in
theorem S_rat_find{h : Heap} {a0 : Sl} {a1 : Int} (K : (Int × (Bool × Unit)) → HP) (hF : F_rat_find a0 a1 K h) : CallsH Tryz.prog fn_rat_find #[(.slice a0.a a0.len a0.cap), (.int .i64 a1)] h fun v h' => ∃ x : (Int × (Bool × Unit)), v = Ty.enc (.tup (.cons (.int .i64) (.cons .bool .nil))) x ∧ K x h' :=
  callsH_of_fn (P := Tryz.prog) (fn := Tryz.f52) (τ := (.tup (.cons (.int .i64) (.cons .bool .nil)))) follows Tryz.func52 (by kernel_rfl) (by kernel_rfl) Tryz.call52 (Eq.mpr (E_rat_find a0 a1 K h) hF)

def F_salvorlaw09_Theirs (a0 : Sl) (K : Sl → HP) : HP :=
 lfp (σ := (Int × (Sl × Unit))) (fun X0 s1 => /-  out -/
 brB (decide (s1.1 < (a0.len : Int)))
 (sx a0.a a0.len s1.1 2 fun p2 =>
 ldA (.cons (.int .i64) (.cons .sl .nil)) p2 fun x3 =>
 nw #[(.int .i64 (0 : Int)), (.slice none 0 0)] ty_rat_Entry fun b4 =>
 st1 (⟨b4, 0, none⟩ : Addr) (.int .i64 x3.1) <|
 st1 ((⟨b4, 0, none⟩ : Addr).add 1) (.slice x3.2.1.a x3.2.1.len x3.2.1.cap) <|
 ldT (.int .i64) (⟨b4, 0, none⟩ : Addr) fun x5 =>
 ldT .sl ((⟨b4, 0, none⟩ : Addr).add 1) fun x6 =>
 callT Tryz.prog fn_salvorlaw08_Ints #[(.slice x6.a x6.len x6.cap)] .sl fun r7 =>
 ck (⟨b4, 0, none⟩ : Addr) (.int .i64 x5) <|
 nw #[(.int .i64 x5), (.slice r7.a r7.len r7.cap)] ty_salvorref09_Entry fun b8 =>
 apd ty_salvorref09_Entry 2 32 #[(.int .i64 (0 : Int)), (.slice none 0 0)] ⟨s1.2.1.a, s1.2.1.len, s1.2.1.cap⟩ ⟨(some (⟨b8, 0, none⟩ : Addr)), 1, 1⟩ fun s9 =>
 X0 ((IntKind.wrap .i64 (s1.1 + (1 : Int))), ⟨s9.a, s9.len, s9.cap⟩, ()))
 (K ⟨s1.2.1.a, s1.2.1.len, s1.2.1.cap⟩))
 ((0 : Int), ⟨none, 0, 0⟩, ())
set_option maxRecDepth 100000 in
theorem E_salvorlaw09_Theirs (a0 : Sl) (K : Sl → HP) (h : Heap) : fnVC Tryz.prog [(1000000, .bool)] 23 Tryz.f53 [(.slice a0.a a0.len a0.cap)] .sl K h = F_salvorlaw09_Theirs a0 K h := by kernel_rfl
set_option maxRecDepth 100000 in
theorem S_salvorlaw09_Theirs{h : Heap} {a0 : Sl} (K : Sl → HP) (hF : F_salvorlaw09_Theirs a0 K h) : CallsH Tryz.prog fn_salvorlaw09_Theirs #[(.slice a0.a a0.len a0.cap)] h fun v h' => ∃ x : Sl, v = Ty.enc .sl x ∧ K x h' :=
  callsH_of_fn (P := Tryz.prog) (fn := Tryz.f53) (τ := .sl) follows Tryz.func53 (by kernel_rfl) (by kernel_rfl) Tryz.call53 (Eq.mpr (E_salvorlaw09_Theirs a0 K h) hF)

end Go.Proofs.S
