/- The functions of the seat, each as a predicate over its values, printed by a program of ours, and that each is its text's. -/
import Derived.Test.YtjkgncibelojnaaGreatSx10
import Derived.KernelRfl
import Derived.Test.YtjkgncibelojnaaGreatProg
import Derived.Test.YtjkgncibelojnaaGreatClF0
set_option linter.unusedVariables false
namespace Go.Proofs.S
open Go Go.Sx Go.Proofs
def F_slices_IndexFunc_rat_Group_rat_Group (a0 : Sl) (a1 : Value) (K : Int → HP) : HP :=
 lfp (σ := (Int × (Int × Unit))) (fun X0 s1 => /-   -/
 brB (decide (s1.1 < (a0.len : Int)))
 (sx a0.a a0.len s1.1 2 fun p2 =>
 ldA (.cons (.int .i64) (.cons .sl .nil)) p2 fun x3 =>
 callF Tryz.prog a1 #[(.agg #[(.int .i64 x3.1), (.slice x3.2.1.a x3.2.1.len x3.2.1.cap)])] .bool fun r4 =>
 brB r4
 (K s1.1)
 (X0 ((IntKind.wrap .i64 (s1.1 + (1 : Int))), s1.2.1, ())))
 (K (-1 : Int)))
 ((0 : Int), (0 : Int), ())
set_option maxRecDepth 100000 in
theorem E_slices_IndexFunc_rat_Group_rat_Group (a0 : Sl) (a1 : Value) (K : Int → HP) (h : Heap) : fnVC Tryz.prog [(1000000, .nil)] 19 Tryz.f67 [(.slice a0.a a0.len a0.cap), a1] (.int .i64) K h = F_slices_IndexFunc_rat_Group_rat_Group a0 a1 K h := by kernel_rfl
set_option maxRecDepth 100000 in
theorem S_slices_IndexFunc_rat_Group_rat_Group{h : Heap} {a0 : Sl} {a1 : Value} (K : Int → HP) (hF : F_slices_IndexFunc_rat_Group_rat_Group a0 a1 K h) : CallsH Tryz.prog fn_slices_IndexFunc_rat_Group_rat_Group #[(.slice a0.a a0.len a0.cap), a1] h fun v h' => ∃ x : Int, v = Ty.enc (.int .i64) x ∧ K x h' :=
  callsH_of_fn (P := Tryz.prog) (fn := Tryz.f67) (τ := (.int .i64)) follows Tryz.func67 (by kernel_rfl) (by kernel_rfl) Tryz.call67 (Eq.mpr (E_slices_IndexFunc_rat_Group_rat_Group a0 a1 K h) hF)

def F_clauses_Right (a0 : Sl) (K : Bool → HP) : HP :=
 brB (decide ((a0.len : Int) ≤ (4096 : Int)))
 (callT Tryz.prog fn_slices_ContainsFunc_clauses_Clause_lits_Lit #[(.slice a0.a a0.len a0.cap), (.func (.func fn_clauses_wrong) #[] #[])] .bool fun r0 =>
 K (!r0))
 (K false)
set_option maxRecDepth 100000 in
theorem E_clauses_Right (a0 : Sl) (K : Bool → HP) (h : Heap) : fnVC Tryz.prog [(1000000, .nil)] 11 Tryz.f78 [(.slice a0.a a0.len a0.cap)] .bool K h = F_clauses_Right a0 K h := by kernel_rfl
set_option maxRecDepth 100000 in
theorem S_clauses_Right{h : Heap} {a0 : Sl} (K : Bool → HP) (hF : F_clauses_Right a0 K h) : CallsH Tryz.prog fn_clauses_Right #[(.slice a0.a a0.len a0.cap)] h fun v h' => ∃ x : Bool, v = Ty.enc .bool x ∧ K x h' :=
  callsH_of_fn (P := Tryz.prog) (fn := Tryz.f78) (τ := .bool) follows Tryz.func78 (by kernel_rfl) (by kernel_rfl) Tryz.call78 (Eq.mpr (E_clauses_Right a0 K h) hF)

def F_rup_Look (a0 : Sl) (a1 : Sl) (K : (Int × (Int × (Int × Unit))) → HP) : HP :=
 callT Tryz.prog fn_rup_assigned #[(.slice a1.a a1.len a1.cap)] (.tup (.cons .val (.cons .bool .nil))) fun r0 =>
 callT Tryz.prog fn_clauses_Right #[(.slice a0.a a0.len a0.cap)] .bool fun r1 =>
 brB (!r1)
 (K ((0 : Int), (0 : Int), (20 : Int), ()))
 (brB (!r0.2.1)
 (K ((0 : Int), (0 : Int), (80 : Int), ()))
 (callT Tryz.prog fn_rup_values_look #[r0.1, (.slice a0.a a0.len a0.cap)] (.tup (.cons (.int .u8) (.cons (.int .i64) .nil))) fun r2 =>
 K (r2.1, r2.2.1, (0 : Int), ())))
set_option maxRecDepth 100000 in
theorem E_rup_Look (a0 : Sl) (a1 : Sl) (K : (Int × (Int × (Int × Unit))) → HP) (h : Heap) : fnVC Tryz.prog [(1000000, .bool)] 31 Tryz.f79 [(.slice a0.a a0.len a0.cap), (.slice a1.a a1.len a1.cap)] (.tup (.cons (.int .u8) (.cons (.int .i64) (.cons (.int .i64) .nil)))) K h = F_rup_Look a0 a1 K h := by kernel_rfl
set_option maxRecDepth 100000 in
theorem S_rup_Look{h : Heap} {a0 : Sl} {a1 : Sl} (K : (Int × (Int × (Int × Unit))) → HP) (hF : F_rup_Look a0 a1 K h) : CallsH Tryz.prog fn_rup_Look #[(.slice a0.a a0.len a0.cap), (.slice a1.a a1.len a1.cap)] h fun v h' => ∃ x : (Int × (Int × (Int × Unit))), v = Ty.enc (.tup (.cons (.int .u8) (.cons (.int .i64) (.cons (.int .i64) .nil)))) x ∧ K x h' :=
  callsH_of_fn (P := Tryz.prog) (fn := Tryz.f79) (τ := (.tup (.cons (.int .u8) (.cons (.int .i64) (.cons (.int .i64) .nil))))) follows Tryz.func79 (by kernel_rfl) (by kernel_rfl) Tryz.call79 (Eq.mpr (E_rup_Look a0 a1 K h) hF)

def F_slices_Clone_lits_Lit_lits_Lit (a0 : Sl) (K : Sl → HP) : HP :=
 brB (Option.isNone a0.a)
 (K ⟨none, 0, 0⟩)
 (nw #[] ty_lits_Lit fun b0 =>
 apd ty_lits_Lit 1 8 #[(.int .i64 (0 : Int))] ⟨(some (⟨b0, 0, none⟩ : Addr)), 0, 0⟩ ⟨a0.a, a0.len, a0.cap⟩ fun s1 =>
 K ⟨s1.a, s1.len, s1.cap⟩)
set_option maxRecDepth 100000 in
theorem E_slices_Clone_lits_Lit_lits_Lit (a0 : Sl) (K : Sl → HP) (h : Heap) : fnVC Tryz.prog [(1000000, .nil)] 8 Tryz.f80 [(.slice a0.a a0.len a0.cap)] .sl K h = F_slices_Clone_lits_Lit_lits_Lit a0 K h := by kernel_rfl
set_option maxRecDepth 100000 in
theorem S_slices_Clone_lits_Lit_lits_Lit{h : Heap} {a0 : Sl} (K : Sl → HP) (hF : F_slices_Clone_lits_Lit_lits_Lit a0 K h) : CallsH Tryz.prog fn_slices_Clone_lits_Lit_lits_Lit #[(.slice a0.a a0.len a0.cap)] h fun v h' => ∃ x : Sl, v = Ty.enc .sl x ∧ K x h' :=
  callsH_of_fn (P := Tryz.prog) (fn := Tryz.f80) (τ := .sl) follows Tryz.func80 (by kernel_rfl) (by kernel_rfl) Tryz.call80 (Eq.mpr (E_slices_Clone_lits_Lit_lits_Lit a0 K h) hF)

def F_slices_EqualFunc_rat_Group_rat_Group_rat_Group_rat_Group (a0 : Sl) (a1 : Sl) (a2 : Value) (K : Bool → HP) : HP :=
 brB ((a0.len : Int) != (a1.len : Int))
 (K false)
 (lfp (σ := (Int × (Bool × Unit))) (fun X0 s1 => /-   -/
 brB (decide (s1.1 < (a0.len : Int)))
 (sx a0.a a0.len s1.1 2 fun p2 =>
 ldA (.cons (.int .i64) (.cons .sl .nil)) p2 fun x3 =>
 nw #[(.int .i64 (0 : Int)), (.slice none 0 0)] ty_rat_Group fun b4 =>
 st1 (⟨b4, 0, none⟩ : Addr) (.int .i64 x3.1) <|
 st1 ((⟨b4, 0, none⟩ : Addr).add 1) (.slice x3.2.1.a x3.2.1.len x3.2.1.cap) <|
 sx a1.a a1.len s1.1 2 fun p5 =>
 ldA (.cons (.int .i64) (.cons .sl .nil)) p5 fun x6 =>
 nw #[(.int .i64 (0 : Int)), (.slice none 0 0)] ty_rat_Group fun b7 =>
 st1 (⟨b7, 0, none⟩ : Addr) (.int .i64 x6.1) <|
 st1 ((⟨b7, 0, none⟩ : Addr).add 1) (.slice x6.2.1.a x6.2.1.len x6.2.1.cap) <|
 ldA (.cons (.int .i64) (.cons .sl .nil)) (⟨b4, 0, none⟩ : Addr) fun x8 =>
 ldA (.cons (.int .i64) (.cons .sl .nil)) (⟨b7, 0, none⟩ : Addr) fun x9 =>
 callF Tryz.prog a2 #[(.agg #[(.int .i64 x8.1), (.slice x8.2.1.a x8.2.1.len x8.2.1.cap)]), (.agg #[(.int .i64 x9.1), (.slice x9.2.1.a x9.2.1.len x9.2.1.cap)])] .bool fun r10 =>
 brB (!r10)
 (K false)
 (X0 ((IntKind.wrap .i64 (s1.1 + (1 : Int))), s1.2.1, ())))
 (K true))
 ((0 : Int), false, ()))
set_option maxRecDepth 100000 in
theorem E_slices_EqualFunc_rat_Group_rat_Group_rat_Group_rat_Group (a0 : Sl) (a1 : Sl) (a2 : Value) (K : Bool → HP) (h : Heap) : fnVC Tryz.prog [(1000000, .nil)] 32 Tryz.f81 [(.slice a0.a a0.len a0.cap), (.slice a1.a a1.len a1.cap), a2] .bool K h = F_slices_EqualFunc_rat_Group_rat_Group_rat_Group_rat_Group a0 a1 a2 K h := by kernel_rfl
set_option maxRecDepth 100000 in
theorem S_slices_EqualFunc_rat_Group_rat_Group_rat_Group_rat_Group{h : Heap} {a0 : Sl} {a1 : Sl} {a2 : Value} (K : Bool → HP) (hF : F_slices_EqualFunc_rat_Group_rat_Group_rat_Group_rat_Group a0 a1 a2 K h) : CallsH Tryz.prog fn_slices_EqualFunc_rat_Group_rat_Group_rat_Group_rat_Group #[(.slice a0.a a0.len a0.cap), (.slice a1.a a1.len a1.cap), a2] h fun v h' => ∃ x : Bool, v = Ty.enc .bool x ∧ K x h' :=
  callsH_of_fn (P := Tryz.prog) (fn := Tryz.f81) (τ := .bool) follows Tryz.func81 (by kernel_rfl) (by kernel_rfl) Tryz.call81 (Eq.mpr (E_slices_EqualFunc_rat_Group_rat_Group_rat_Group_rat_Group a0 a1 a2 K h) hF)

def F_salvorlaw09_sameGroups_1 (a0 : (Int × (Sl × Unit))) (a1 : (Int × (Sl × Unit))) (K : Bool → HP) : HP :=
 nw #[(.int .i64 a0.1), (.slice a0.2.1.a a0.2.1.len a0.2.1.cap)] ty_rat_Group fun b0 =>
 nw #[(.int .i64 a1.1), (.slice a1.2.1.a a1.2.1.len a1.2.1.cap)] ty_rat_Group fun b1 =>
 ldT (.int .i64) (⟨b0, 0, none⟩ : Addr) fun x2 =>
 ldT (.int .i64) (⟨b1, 0, none⟩ : Addr) fun x3 =>
 jn (σ := Bool) (fun t5 =>
 K t5)
 (fun J4 =>
 brB (x2 == x3)
 (ldT .sl ((⟨b0, 0, none⟩ : Addr).add 1) fun x6 =>
 ldT .sl ((⟨b1, 0, none⟩ : Addr).add 1) fun x7 =>
 callT Tryz.prog fn_slices_Equal_int_int #[(.slice x6.a x6.len x6.cap), (.slice x7.a x7.len x7.cap)] .bool fun r8 =>
 J4 (r8))
 (J4 false))
set_option maxRecDepth 100000 in
theorem E_salvorlaw09_sameGroups_1 (a0 : (Int × (Sl × Unit))) (a1 : (Int × (Sl × Unit))) (K : Bool → HP) (h : Heap) : fnVC Tryz.prog [(1000000, .bool)] 17 Tryz.f82 [(.agg #[(.int .i64 a0.1), (.slice a0.2.1.a a0.2.1.len a0.2.1.cap)]), (.agg #[(.int .i64 a1.1), (.slice a1.2.1.a a1.2.1.len a1.2.1.cap)])] .bool K h = F_salvorlaw09_sameGroups_1 a0 a1 K h := by kernel_rfl
set_option maxRecDepth 100000 in
theorem S_salvorlaw09_sameGroups_1{h : Heap} {a0 : (Int × (Sl × Unit))} {a1 : (Int × (Sl × Unit))} (K : Bool → HP) (hF : F_salvorlaw09_sameGroups_1 a0 a1 K h) : CallsH Tryz.prog fn_salvorlaw09_sameGroups_1 #[(.agg #[(.int .i64 a0.1), (.slice a0.2.1.a a0.2.1.len a0.2.1.cap)]), (.agg #[(.int .i64 a1.1), (.slice a1.2.1.a a1.2.1.len a1.2.1.cap)])] h fun v h' => ∃ x : Bool, v = Ty.enc .bool x ∧ K x h' :=
  callsH_of_fn (P := Tryz.prog) (fn := Tryz.f82) (τ := .bool) follows Tryz.func82 (by kernel_rfl) (by kernel_rfl) Tryz.call82 (Eq.mpr (E_salvorlaw09_sameGroups_1 a0 a1 K h) hF)

def F_rup_first (a0 : Sl) (K : Int → HP) : HP :=
 lfp (σ := (Int × (Int × Unit))) (fun X0 s1 => /-   -/
 brB (decide (s1.1 < (a0.len : Int)))
 (sx a0.a a0.len s1.1 1 fun p2 =>
 ldT (.int .i64) p2 fun x3 =>
 brB (x3 != (0 : Int))
 (K x3)
 (X0 ((IntKind.wrap .i64 (s1.1 + (1 : Int))), s1.2.1, ())))
 (K (0 : Int)))
 ((0 : Int), (0 : Int), ())
set_option maxRecDepth 100000 in
theorem E_rup_first (a0 : Sl) (K : Int → HP) (h : Heap) : fnVC Tryz.prog [(1000000, .bool)] 15 Tryz.f83 [(.slice a0.a a0.len a0.cap)] (.int .i64) K h = F_rup_first a0 K h := by kernel_rfl
set_option maxRecDepth 100000 in
theorem S_rup_first{h : Heap} {a0 : Sl} (K : Int → HP) (hF : F_rup_first a0 K h) : CallsH Tryz.prog fn_rup_first #[(.slice a0.a a0.len a0.cap)] h fun v h' => ∃ x : Int, v = Ty.enc (.int .i64) x ∧ K x h' :=
  callsH_of_fn (P := Tryz.prog) (fn := Tryz.f83) (τ := (.int .i64)) follows Tryz.func83 (by kernel_rfl) (by kernel_rfl) Tryz.call83 (Eq.mpr (E_rup_first a0 K h) hF)

def F_rup_wrong (a0 : Sl) (a1 : Sl) (K : Int → HP) : HP :=
 callT Tryz.prog fn_slices_Clone_clauses_Clause_clauses_Clause #[(.slice a0.a a0.len a0.cap)] .sl fun r0 =>
 apd ty_clauses_Clause 1 24 #[(.slice none 0 0)] ⟨r0.a, r0.len, r0.cap⟩ ⟨a1.a, a1.len, a1.cap⟩ fun s1 =>
 lfp (σ := (Int × (Int × Unit))) (fun X2 s3 => /-   -/
 brB (decide (s3.1 < (s1.len : Int)))
 (sx s1.a s1.len s3.1 1 fun p4 =>
 ldT .sl p4 fun x5 =>
 callT Tryz.prog fn_clauses_Right #[(.slice x5.a x5.len x5.cap)] .bool fun r6 =>
 brB (!r6)
 (K (20 : Int))
 (X2 ((IntKind.wrap .i64 (s3.1 + (1 : Int))), s3.2.1, ())))
 (K (0 : Int)))
 ((0 : Int), (0 : Int), ())
set_option maxRecDepth 100000 in
theorem E_rup_wrong (a0 : Sl) (a1 : Sl) (K : Int → HP) (h : Heap) : fnVC Tryz.prog [(1000000, .bool)] 20 Tryz.f84 [(.slice a0.a a0.len a0.cap), (.slice a1.a a1.len a1.cap)] (.int .i64) K h = F_rup_wrong a0 a1 K h := by kernel_rfl
set_option maxRecDepth 100000 in
theorem S_rup_wrong{h : Heap} {a0 : Sl} {a1 : Sl} (K : Int → HP) (hF : F_rup_wrong a0 a1 K h) : CallsH Tryz.prog fn_rup_wrong #[(.slice a0.a a0.len a0.cap), (.slice a1.a a1.len a1.cap)] h fun v h' => ∃ x : Int, v = Ty.enc (.int .i64) x ∧ K x h' :=
  callsH_of_fn (P := Tryz.prog) (fn := Tryz.f84) (τ := (.int .i64)) follows Tryz.func84 (by kernel_rfl) (by kernel_rfl) Tryz.call84 (Eq.mpr (E_rup_wrong a0 a1 K h) hF)

def F_rup_many (a0 : Sl) (K : Int → HP) : HP :=
 brB (decide ((a0.len : Int) > (65536 : Int)))
 (K (5 : Int))
 (K (0 : Int))
set_option maxRecDepth 100000 in
theorem E_rup_many (a0 : Sl) (K : Int → HP) (h : Heap) : fnVC Tryz.prog [(1000000, .bool)] 6 Tryz.f85 [(.slice a0.a a0.len a0.cap)] (.int .i64) K h = F_rup_many a0 K h := by kernel_rfl
set_option maxRecDepth 100000 in
theorem S_rup_many{h : Heap} {a0 : Sl} (K : Int → HP) (hF : F_rup_many a0 K h) : CallsH Tryz.prog fn_rup_many #[(.slice a0.a a0.len a0.cap)] h fun v h' => ∃ x : Int, v = Ty.enc (.int .i64) x ∧ K x h' :=
  callsH_of_fn (P := Tryz.prog) (fn := Tryz.f85) (τ := (.int .i64)) follows Tryz.func85 (by kernel_rfl) (by kernel_rfl) Tryz.call85 (Eq.mpr (E_rup_many a0 K h) hF)

def F_rup_assigned (a0 : Sl) (K : (Value × (Bool × Unit)) → HP) : HP :=
 mkm fun b0 =>
 lfp (σ := (Int × (Bool × (Value × Unit)))) (fun X1 s2 => /-    -/
 brB (decide (s2.1 < (a0.len : Int)))
 (sx a0.a a0.len s2.1 1 fun p3 =>
 ldT (.int .i64) p3 fun x4 =>
 callT Tryz.prog fn_lits_Right #[(.int .i64 x4)] .bool fun r5 =>
 jn (σ := Bool) (fun t7 =>
 brB t7
 (K ((Value.map none), false, ()))
 (callT Tryz.prog fn_rup_values_put #[(.map (some b0)), (.int .i64 x4)] (.tup .nil) fun r8 =>
 X1 ((IntKind.wrap .i64 (s2.1 + (1 : Int))), s2.2.1, s2.2.2.1, ())))
 (fun J6 =>
 brB (!r5)
 (J6 true)
 (callT Tryz.prog fn_rup_values_of #[(.map (some b0)), (.int .i64 x4)] (.int .i64) fun r9 =>
 J6 ((decide (r9 < (0 : Int)))))))
 (K ((.map (some b0)), true, ())))
 ((0 : Int), false, (Value.map none), ())
set_option maxRecDepth 100000 in
theorem E_rup_assigned (a0 : Sl) (K : (Value × (Bool × Unit)) → HP) (h : Heap) : fnVC Tryz.prog [(1000000, .bool)] 28 Tryz.f86 [(.slice a0.a a0.len a0.cap)] (.tup (.cons .val (.cons .bool .nil))) K h = F_rup_assigned a0 K h := by kernel_rfl
set_option maxRecDepth 100000 in
theorem S_rup_assigned{h : Heap} {a0 : Sl} (K : (Value × (Bool × Unit)) → HP) (hF : F_rup_assigned a0 K h) : CallsH Tryz.prog fn_rup_assigned #[(.slice a0.a a0.len a0.cap)] h fun v h' => ∃ x : (Value × (Bool × Unit)), v = Ty.enc (.tup (.cons .val (.cons .bool .nil))) x ∧ K x h' :=
  callsH_of_fn (P := Tryz.prog) (fn := Tryz.f86) (τ := (.tup (.cons .val (.cons .bool .nil)))) follows Tryz.func86 (by kernel_rfl) (by kernel_rfl) Tryz.call86 (Eq.mpr (E_rup_assigned a0 K h) hF)

def F_rup_values_next (a0 : Value) (a1 : Sl) (K : (Int × (Int × Unit)) → HP) : HP := fun h0 => (
 nw #[(.int .i64 (0 : Int))] ty_int fun b0 =>
 nw #[(.int .i64 (0 : Int))] ty_lits_Lit fun b1 =>
 nw #[(.int .u8 (2 : Int)), (.int .u8 (3 : Int))] ty_uint8 fun b2 =>
 lfp (σ := (Int × Unit)) (fun X3 s4 => /-  -/
 brB (decide (s4.1 < (2 : Int)))
 (sx (some (⟨b2, 0, none⟩ : Addr)) 2 s4.1 1 fun p5 =>
 ldT (.int .u8) p5 fun x6 =>
 callT Tryz.prog fn_rup_values_moving #[a0, (.slice a1.a a1.len a1.cap), (.int .u8 x6)] .val fun r7 =>
 RangeVC Tryz.prog (.cons (.int .i64) (.cons (.int .i64) .nil)) r7 (fun x8 wrap9 next10 jump11 =>
 wrap9 <|
 st1 (⟨b0, 0, none⟩ : Addr) (.int .i64 x8.1) <|
 st1 (⟨b1, 0, none⟩ : Addr) (.int .i64 x8.2.1) <|
 jump11 .ret)
 (X3 ((IntKind.wrap .i64 (s4.1 + (1 : Int))), ()))
 (mkd h0.size <|
 ldT (.int .i64) (⟨b0, 0, none⟩ : Addr) fun x12 =>
 ldT (.int .i64) (⟨b1, 0, none⟩ : Addr) fun x13 =>
 K (x12, x13, ()))
 []
 [])
 (st1 (⟨b0, 0, none⟩ : Addr) (.int .i64 (-1 : Int)) <|
 st1 (⟨b1, 0, none⟩ : Addr) (.int .i64 (0 : Int)) <|
 mkd h0.size <|
 ldT (.int .i64) (⟨b0, 0, none⟩ : Addr) fun x14 =>
 ldT (.int .i64) (⟨b1, 0, none⟩ : Addr) fun x15 =>
 K (x14, x15, ())))
 ((0 : Int), ())) h0
set_option maxRecDepth 100000 in
theorem E_rup_values_next (a0 : Value) (a1 : Sl) (K : (Int × (Int × Unit)) → HP) (h : Heap) : fnVC Tryz.prog [(1000000, .bool), (20, (.cons (.int .i64) (.cons (.int .i64) .nil)))] 25 Tryz.f87 [a0, (.slice a1.a a1.len a1.cap)] (.tup (.cons (.int .i64) (.cons (.int .i64) .nil))) K h = F_rup_values_next a0 a1 K h := by kernel_rfl
set_option maxRecDepth 100000 in
theorem S_rup_values_next{h : Heap} {a0 : Value} {a1 : Sl} (K : (Int × (Int × Unit)) → HP) (hF : F_rup_values_next a0 a1 K h) : CallsH Tryz.prog fn_rup_values_next #[a0, (.slice a1.a a1.len a1.cap)] h fun v h' => ∃ x : (Int × (Int × Unit)), v = Ty.enc (.tup (.cons (.int .i64) (.cons (.int .i64) .nil))) x ∧ K x h' :=
  callsH_of_fn (P := Tryz.prog) (fn := Tryz.f87) (τ := (.tup (.cons (.int .i64) (.cons (.int .i64) .nil)))) follows Tryz.func87 (by kernel_rfl) (by kernel_rfl) Tryz.call87 (Eq.mpr (E_rup_values_next a0 a1 K h) hF)

def F_rup_values_put (a0 : Value) (a1 : Int) (K : Unit → HP) : HP :=
 callT Tryz.prog fn_lits_Var #[(.int .i64 a1)] (.int .i64) fun r0 =>
 mput .i64 a0 r0 (.int .i64 (1 : Int)) <|
 callT Tryz.prog fn_lits_Negated #[(.int .i64 a1)] .bool fun r1 =>
 jn (σ := Unit) (fun s3 => /- -/
 K (()))
 (fun J2 =>
 brB r1
 (callT Tryz.prog fn_lits_Var #[(.int .i64 a1)] (.int .i64) fun r4 =>
 mput .i64 a0 r4 (.int .i64 (-1 : Int)) <|
 J2 (()))
 (J2 (())))
set_option maxRecDepth 100000 in
theorem E_rup_values_put (a0 : Value) (a1 : Int) (K : Unit → HP) (h : Heap) : fnVC Tryz.prog [(1000000, .bool)] 12 Tryz.f88 [a0, (.int .i64 a1)] (.tup .nil) K h = F_rup_values_put a0 a1 K h := by kernel_rfl
set_option maxRecDepth 100000 in
theorem S_rup_values_put{h : Heap} {a0 : Value} {a1 : Int} (K : Unit → HP) (hF : F_rup_values_put a0 a1 K h) : CallsH Tryz.prog fn_rup_values_put #[a0, (.int .i64 a1)] h fun v h' => ∃ x : Unit, v = Ty.enc (.tup .nil) x ∧ K x h' :=
  callsH_of_fn (P := Tryz.prog) (fn := Tryz.f88) (τ := (.tup .nil)) follows Tryz.func88 (by kernel_rfl) (by kernel_rfl) Tryz.call88 (Eq.mpr (E_rup_values_put a0 a1 K h) hF)

def F_rup_needed (a0 : Sl) (a1 : Sl) (K : Sl → HP) : HP :=
 mkm fun b0 =>
 lfp (σ := (Int × (Sl × Unit))) (fun X1 s2 => /- i out -/
 brB (decide (s2.1 ≥ (0 : Int)))
 (jn (σ := (Sl × Unit)) (fun s4 => /- out -/
 X1 ((IntKind.wrap .i64 (s2.1 - (1 : Int))), ⟨s4.1.a, s4.1.len, s4.1.cap⟩, ()))
 (fun J3 =>
 jn (σ := Bool) (fun t6 =>
 brB t6
 (J3 (⟨s2.2.1.a, s2.2.1.len, s2.2.1.cap⟩, ()))
 (nw #[(.int .i64 s2.1)] ty_int fun b7 =>
 apd ty_int 1 8 #[(.int .i64 (0 : Int))] ⟨s2.2.1.a, s2.2.1.len, s2.2.1.cap⟩ ⟨(some (⟨b7, 0, none⟩ : Addr)), 1, 1⟩ fun s8 =>
 sx a0.a a0.len s2.1 1 fun p9 =>
 ldT .sl p9 fun x10 =>
 lfp (σ := (Int × Unit)) (fun X11 s12 => /-  -/
 brB (decide (s12.1 < (x10.len : Int)))
 (sx x10.a x10.len s12.1 1 fun p13 =>
 ldT (.int .i64) p13 fun x14 =>
 callT Tryz.prog fn_lits_Neg #[(.int .i64 x14)] (.int .i64) fun r15 =>
 mput .i64 (.map (some b0)) r15 (.int .i64 (1 : Int)) <|
 X11 ((IntKind.wrap .i64 (s12.1 + (1 : Int))), ()))
 (J3 (⟨s8.a, s8.len, s8.cap⟩, ())))
 ((0 : Int), ())))
 (fun J5 =>
 brB (decide (s2.1 < (a1.len : Int)))
 (sx a1.a a1.len s2.1 1 fun p16 =>
 ldT (.int .i64) p16 fun x17 =>
 mget (.int .i64) .i64 (.int .i64 (0 : Int)) (.map (some b0)) x17 fun x18 =>
 J5 ((x18 == (0 : Int))))
 (J5 false))))
 (callT Tryz.prog fn_slices_Reverse_int_int #[(.slice s2.2.1.a s2.2.1.len s2.2.1.cap)] (.tup .nil) fun r19 =>
 K ⟨s2.2.1.a, s2.2.1.len, s2.2.1.cap⟩))
 ((IntKind.wrap .i64 ((a0.len : Int) - (1 : Int))), ⟨none, 0, 0⟩, ())
set_option maxRecDepth 100000 in
theorem E_rup_needed (a0 : Sl) (a1 : Sl) (K : Sl → HP) (h : Heap) : fnVC Tryz.prog [(1000000, .bool)] 51 Tryz.f89 [(.slice a0.a a0.len a0.cap), (.slice a1.a a1.len a1.cap)] .sl K h = F_rup_needed a0 a1 K h := by kernel_rfl
set_option maxRecDepth 100000 in
theorem S_rup_needed{h : Heap} {a0 : Sl} {a1 : Sl} (K : Sl → HP) (hF : F_rup_needed a0 a1 K h) : CallsH Tryz.prog fn_rup_needed #[(.slice a0.a a0.len a0.cap), (.slice a1.a a1.len a1.cap)] h fun v h' => ∃ x : Sl, v = Ty.enc .sl x ∧ K x h' :=
  callsH_of_fn (P := Tryz.prog) (fn := Tryz.f89) (τ := .sl) follows Tryz.func89 (by kernel_rfl) (by kernel_rfl) Tryz.call89 (Eq.mpr (E_rup_needed a0 a1 K h) hF)

def F_clauses_Norm (a0 : Sl) (K : (Sl × (Bool × (Int × Unit))) → HP) : HP :=
 callT Tryz.prog fn_clauses_Right #[(.slice a0.a a0.len a0.cap)] .bool fun r0 =>
 brB (!r0)
 (K (⟨none, 0, 0⟩, false, (20 : Int), ()))
 (callT Tryz.prog fn_clauses_normal #[(.slice a0.a a0.len a0.cap)] .sl fun r1 =>
 callT Tryz.prog fn_clauses_Always #[(.slice a0.a a0.len a0.cap)] .bool fun r2 =>
 K (⟨r1.a, r1.len, r1.cap⟩, r2, (0 : Int), ()))
set_option maxRecDepth 100000 in
theorem E_clauses_Norm (a0 : Sl) (K : (Sl × (Bool × (Int × Unit))) → HP) (h : Heap) : fnVC Tryz.prog [(1000000, .nil)] 12 Tryz.f90 [(.slice a0.a a0.len a0.cap)] (.tup (.cons .sl (.cons .bool (.cons (.int .i64) .nil)))) K h = F_clauses_Norm a0 K h := by kernel_rfl
set_option maxRecDepth 100000 in
theorem S_clauses_Norm{h : Heap} {a0 : Sl} (K : (Sl × (Bool × (Int × Unit))) → HP) (hF : F_clauses_Norm a0 K h) : CallsH Tryz.prog fn_clauses_Norm #[(.slice a0.a a0.len a0.cap)] h fun v h' => ∃ x : (Sl × (Bool × (Int × Unit))), v = Ty.enc (.tup (.cons .sl (.cons .bool (.cons (.int .i64) .nil)))) x ∧ K x h' :=
  callsH_of_fn (P := Tryz.prog) (fn := Tryz.f90) (τ := (.tup (.cons .sl (.cons .bool (.cons (.int .i64) .nil))))) follows Tryz.func90 (by kernel_rfl) (by kernel_rfl) Tryz.call90 (Eq.mpr (E_clauses_Norm a0 K h) hF)

def F_slices_SortFunc_lits_Lit_lits_Lit (a0 : Sl) (a1 : Value) (K : Unit → HP) : HP :=
 callT Tryz.prog fn_math_bits_Len #[(.int .u64 (IntKind.wrap .u64 (a0.len : Int)))] (.int .i64) fun r0 =>
 callT Tryz.prog fn_slices_pdqsortCmpFunc_lits_Lit #[(.slice a0.a a0.len a0.cap), (.int .i64 (0 : Int)), (.int .i64 (a0.len : Int)), (.int .i64 r0), a1] (.tup .nil) fun r1 =>
 K (())
set_option maxRecDepth 100000 in
theorem E_slices_SortFunc_lits_Lit_lits_Lit (a0 : Sl) (a1 : Value) (K : Unit → HP) (h : Heap) : fnVC Tryz.prog [(1000000, .nil)] 14 Tryz.f91 [(.slice a0.a a0.len a0.cap), a1] (.tup .nil) K h = F_slices_SortFunc_lits_Lit_lits_Lit a0 a1 K h := by kernel_rfl
set_option maxRecDepth 100000 in
theorem S_slices_SortFunc_lits_Lit_lits_Lit{h : Heap} {a0 : Sl} {a1 : Value} (K : Unit → HP) (hF : F_slices_SortFunc_lits_Lit_lits_Lit a0 a1 K h) : CallsH Tryz.prog fn_slices_SortFunc_lits_Lit_lits_Lit #[(.slice a0.a a0.len a0.cap), a1] h fun v h' => ∃ x : Unit, v = Ty.enc (.tup .nil) x ∧ K x h' :=
  callsH_of_fn (P := Tryz.prog) (fn := Tryz.f91) (τ := (.tup .nil)) follows Tryz.func91 (by kernel_rfl) (by kernel_rfl) Tryz.call91 (Eq.mpr (E_slices_SortFunc_lits_Lit_lits_Lit a0 a1 K h) hF)

def F_lits_Compare (a0 : Int) (a1 : Int) (K : Int → HP) : HP :=
 callT Tryz.prog fn_lits_Index #[(.int .i64 a0)] (.tup (.cons (.int .i64) (.cons (.int .i64) .nil))) fun r0 =>
 callT Tryz.prog fn_lits_Index #[(.int .i64 a1)] (.tup (.cons (.int .i64) (.cons (.int .i64) .nil))) fun r1 =>
 brB (r0.2.1 == (0 : Int))
 (brB (r1.2.1 == (0 : Int))
 (callT Tryz.prog fn_cmp_Compare_int #[(.int .i64 r0.1), (.int .i64 r1.1)] (.int .i64) fun r2 =>
 K r2)
 (brB (r0.2.1 == (0 : Int))
 (K (1 : Int))
 (brB (r1.2.1 == (0 : Int))
 (K (-1 : Int))
 (callT Tryz.prog fn_cmp_Compare_lits_Lit #[(.int .i64 a0), (.int .i64 a1)] (.int .i64) fun r3 =>
 K r3))))
 (brB (r0.2.1 == (0 : Int))
 (K (1 : Int))
 (brB (r1.2.1 == (0 : Int))
 (K (-1 : Int))
 (callT Tryz.prog fn_cmp_Compare_lits_Lit #[(.int .i64 a0), (.int .i64 a1)] (.int .i64) fun r4 =>
 K r4)))
set_option maxRecDepth 100000 in
theorem E_lits_Compare (a0 : Int) (a1 : Int) (K : Int → HP) (h : Heap) : fnVC Tryz.prog [(1000000, .nil)] 38 Tryz.f92 [(.int .i64 a0), (.int .i64 a1)] (.int .i64) K h = F_lits_Compare a0 a1 K h := by kernel_rfl
set_option maxRecDepth 100000 in
theorem S_lits_Compare{h : Heap} {a0 : Int} {a1 : Int} (K : Int → HP) (hF : F_lits_Compare a0 a1 K h) : CallsH Tryz.prog fn_lits_Compare #[(.int .i64 a0), (.int .i64 a1)] h fun v h' => ∃ x : Int, v = Ty.enc (.int .i64) x ∧ K x h' :=
  callsH_of_fn (P := Tryz.prog) (fn := Tryz.f92) (τ := (.int .i64)) follows Tryz.func92 (by kernel_rfl) (by kernel_rfl) Tryz.call92 (Eq.mpr (E_lits_Compare a0 a1 K h) hF)

def F_slices_Clip_lits_Lit_lits_Lit (a0 : Sl) (K : Sl → HP) : HP :=
 slM ⟨a0.a, a0.len, a0.cap⟩ 0 (a0.len : Int) (a0.len : Int) 1 fun s0 =>
 K ⟨s0.a, s0.len, s0.cap⟩
set_option maxRecDepth 100000 in
theorem E_slices_Clip_lits_Lit_lits_Lit (a0 : Sl) (K : Sl → HP) (h : Heap) : fnVC Tryz.prog [(1000000, .nil)] 9 Tryz.f93 [(.slice a0.a a0.len a0.cap)] .sl K h = F_slices_Clip_lits_Lit_lits_Lit a0 K h := by kernel_rfl
set_option maxRecDepth 100000 in
theorem S_slices_Clip_lits_Lit_lits_Lit{h : Heap} {a0 : Sl} (K : Sl → HP) (hF : F_slices_Clip_lits_Lit_lits_Lit a0 K h) : CallsH Tryz.prog fn_slices_Clip_lits_Lit_lits_Lit #[(.slice a0.a a0.len a0.cap)] h fun v h' => ∃ x : Sl, v = Ty.enc .sl x ∧ K x h' :=
  callsH_of_fn (P := Tryz.prog) (fn := Tryz.f93) (τ := .sl) follows Tryz.func93 (by kernel_rfl) (by kernel_rfl) Tryz.call93 (Eq.mpr (E_slices_Clip_lits_Lit_lits_Lit a0 K h) hF)

def F_rat_candidates_1 (a0 : Value) (c0 : Addr) (c1 : Addr) (K : Unit → HP) : HP :=
 ldT .sl c0 fun x0 =>
 lfp (σ := (Int × Unit)) (fun X1 s2 => /-  -/
 brB (decide (s2.1 < (x0.len : Int)))
 (sx x0.a x0.len s2.1 2 fun p3 =>
 ldA (.cons (.int .i64) (.cons .sl .nil)) p3 fun x4 =>
 nw #[(.int .i64 (0 : Int)), (.slice none 0 0)] ty_rat_Entry fun b5 =>
 st1 (⟨b5, 0, none⟩ : Addr) (.int .i64 x4.1) <|
 st1 ((⟨b5, 0, none⟩ : Addr).add 1) (.slice x4.2.1.a x4.2.1.len x4.2.1.cap) <|
 ldT .sl ((⟨b5, 0, none⟩ : Addr).add 1) fun x6 =>
 ldT (.int .i64) c1 fun x7 =>
 callT Tryz.prog fn_lits_Neg #[(.int .i64 x7)] (.int .i64) fun r8 =>
 ck ((⟨b5, 0, none⟩ : Addr).add 1) (.slice x6.a x6.len x6.cap) <|
 callT Tryz.prog fn_slices_Contains_clauses_Clause_lits_Lit #[(.slice x6.a x6.len x6.cap), (.int .i64 r8)] .bool fun r9 =>
 brB r9
 (ldT .sl ((⟨b5, 0, none⟩ : Addr).add 1) fun x10 =>
 callT Tryz.prog fn_clauses_Always #[(.slice x10.a x10.len x10.cap)] .bool fun r11 =>
 brB (!r11)
 (callF Tryz.prog a0 #[(.int .i64 s2.1)] .bool fun r12 =>
 brB (!r12)
 (K (()))
 (X1 ((IntKind.wrap .i64 (s2.1 + (1 : Int))), ())))
 (X1 ((IntKind.wrap .i64 (s2.1 + (1 : Int))), ())))
 (X1 ((IntKind.wrap .i64 (s2.1 + (1 : Int))), ())))
 (K (())))
 ((0 : Int), ())
set_option maxRecDepth 100000 in
theorem E_rat_candidates_1 (a0 : Value) (c0 : Addr) (c1 : Addr) (K : Unit → HP) (h : Heap) : fnVC Tryz.prog [(1000000, .bool)] 31 Tryz.f94 [a0, (.pointer (some c0)), (.pointer (some c1))] (.tup .nil) K h = F_rat_candidates_1 a0 c0 c1 K h := by kernel_rfl
set_option maxRecDepth 100000 in
theorem S_rat_candidates_1{h : Heap} {a0 : Value} {c0 : Addr} {c1 : Addr} (K : Unit → HP) (hF : F_rat_candidates_1 a0 c0 c1 K h) : CallsH Tryz.prog fn_rat_candidates_1 #[a0, (.pointer (some c0)), (.pointer (some c1))] h fun v h' => ∃ x : Unit, v = Ty.enc (.tup .nil) x ∧ K x h' :=
  callsH_of_fn (P := Tryz.prog) (fn := Tryz.f94) (τ := (.tup .nil)) follows Tryz.func94 (by kernel_rfl) (by kernel_rfl) Tryz.call94 (Eq.mpr (E_rat_candidates_1 a0 c0 c1 K h) hF)

def F_slices_Contains_clauses_Clause_lits_Lit (a0 : Sl) (a1 : Int) (K : Bool → HP) : HP :=
 callT Tryz.prog fn_slices_Index_clauses_Clause_lits_Lit #[(.slice a0.a a0.len a0.cap), (.int .i64 a1)] (.int .i64) fun r0 =>
 K (decide (r0 ≥ (0 : Int)))
set_option maxRecDepth 100000 in
theorem E_slices_Contains_clauses_Clause_lits_Lit (a0 : Sl) (a1 : Int) (K : Bool → HP) (h : Heap) : fnVC Tryz.prog [(1000000, .nil)] 9 Tryz.f95 [(.slice a0.a a0.len a0.cap), (.int .i64 a1)] .bool K h = F_slices_Contains_clauses_Clause_lits_Lit a0 a1 K h := by kernel_rfl
set_option maxRecDepth 100000 in
theorem S_slices_Contains_clauses_Clause_lits_Lit{h : Heap} {a0 : Sl} {a1 : Int} (K : Bool → HP) (hF : F_slices_Contains_clauses_Clause_lits_Lit a0 a1 K h) : CallsH Tryz.prog fn_slices_Contains_clauses_Clause_lits_Lit #[(.slice a0.a a0.len a0.cap), (.int .i64 a1)] h fun v h' => ∃ x : Bool, v = Ty.enc .bool x ∧ K x h' :=
  callsH_of_fn (P := Tryz.prog) (fn := Tryz.f95) (τ := .bool) follows Tryz.func95 (by kernel_rfl) (by kernel_rfl) Tryz.call95 (Eq.mpr (E_slices_Contains_clauses_Clause_lits_Lit a0 a1 K h) hF)

def F_clauses_Always (a0 : Sl) (K : Bool → HP) : HP := fun h0 => (
 nw #[(.bool false)] ty_bool fun b0 =>
 callT Tryz.prog fn_clauses_Right #[(.slice a0.a a0.len a0.cap)] .bool fun r1 =>
 brB (!r1)
 (st1 (⟨b0, 0, none⟩ : Addr) (.bool false) <|
 mkd h0.size <|
 ldT .bool (⟨b0, 0, none⟩ : Addr) fun x2 =>
 K x2)
 (nw #[(.int .i64 (0 : Int))] ty_lits_Lit fun b3 =>
 st1 (⟨b3, 0, none⟩ : Addr) (.int .i64 (0 : Int)) <|
 callT Tryz.prog fn_clauses_sorted #[(.slice a0.a a0.len a0.cap)] .val fun r4 =>
 RangeVC Tryz.prog (.cons (.int .i64) .nil) r4 (fun x5 wrap6 next7 jump8 =>
 wrap6 <|
 ldT (.int .i64) (⟨b3, 0, none⟩ : Addr) fun x9 =>
 brB (x9 != (0 : Int))
 (ldT (.int .i64) (⟨b3, 0, none⟩ : Addr) fun x10 =>
 callT Tryz.prog fn_lits_Neg #[(.int .i64 x10)] (.int .i64) fun r11 =>
 brB (x5.1 == r11)
 (st1 (⟨b0, 0, none⟩ : Addr) (.bool true) <|
 jump8 .ret)
 (st1 (⟨b3, 0, none⟩ : Addr) (.int .i64 x5.1) <|
 next7))
 (st1 (⟨b3, 0, none⟩ : Addr) (.int .i64 x5.1) <|
 next7))
 (st1 (⟨b0, 0, none⟩ : Addr) (.bool false) <|
 mkd h0.size <|
 ldT .bool (⟨b0, 0, none⟩ : Addr) fun x12 =>
 K x12)
 (mkd h0.size <|
 ldT .bool (⟨b0, 0, none⟩ : Addr) fun x13 =>
 K x13)
 []
 [])) h0
set_option maxRecDepth 100000 in
theorem E_clauses_Always (a0 : Sl) (K : Bool → HP) (h : Heap) : fnVC Tryz.prog [(1000000, .nil), (10, (.cons (.int .i64) .nil))] 20 Tryz.f96 [(.slice a0.a a0.len a0.cap)] .bool K h = F_clauses_Always a0 K h := by kernel_rfl
set_option maxRecDepth 100000 in
theorem S_clauses_Always{h : Heap} {a0 : Sl} (K : Bool → HP) (hF : F_clauses_Always a0 K h) : CallsH Tryz.prog fn_clauses_Always #[(.slice a0.a a0.len a0.cap)] h fun v h' => ∃ x : Bool, v = Ty.enc .bool x ∧ K x h' :=
  callsH_of_fn (P := Tryz.prog) (fn := Tryz.f96) (τ := .bool) follows Tryz.func96 (by kernel_rfl) (by kernel_rfl) Tryz.call96 (Eq.mpr (E_clauses_Always a0 K h) hF)

def F_slices_Contains_lits_Lit_lits_Lit (a0 : Sl) (a1 : Int) (K : Bool → HP) : HP :=
 callT Tryz.prog fn_slices_Index_lits_Lit_lits_Lit #[(.slice a0.a a0.len a0.cap), (.int .i64 a1)] (.int .i64) fun r0 =>
 K (decide (r0 ≥ (0 : Int)))
set_option maxRecDepth 100000 in
theorem E_slices_Contains_lits_Lit_lits_Lit (a0 : Sl) (a1 : Int) (K : Bool → HP) (h : Heap) : fnVC Tryz.prog [(1000000, .nil)] 9 Tryz.f97 [(.slice a0.a a0.len a0.cap), (.int .i64 a1)] .bool K h = F_slices_Contains_lits_Lit_lits_Lit a0 a1 K h := by kernel_rfl
set_option maxRecDepth 100000 in
theorem S_slices_Contains_lits_Lit_lits_Lit{h : Heap} {a0 : Sl} {a1 : Int} (K : Bool → HP) (hF : F_slices_Contains_lits_Lit_lits_Lit a0 a1 K h) : CallsH Tryz.prog fn_slices_Contains_lits_Lit_lits_Lit #[(.slice a0.a a0.len a0.cap), (.int .i64 a1)] h fun v h' => ∃ x : Bool, v = Ty.enc .bool x ∧ K x h' :=
  callsH_of_fn (P := Tryz.prog) (fn := Tryz.f97) (τ := .bool) follows Tryz.func97 (by kernel_rfl) (by kernel_rfl) Tryz.call97 (Eq.mpr (E_slices_Contains_lits_Lit_lits_Lit a0 a1 K h) hF)

def F_slices_Grow_lits_Lit_lits_Lit (a0 : Sl) (a1 : Int) (K : Sl → HP) : HP :=
 jn (σ := Unit) (fun s1 => /- -/
 jn (σ := (Sl × Unit)) (fun s3 => /- s -/
 K ⟨s3.1.a, s3.1.len, s3.1.cap⟩)
 (fun J2 =>
 brB (decide ((IntKind.wrap .i64 (a1 - (IntKind.wrap .i64 ((a0.cap : Int) - (a0.len : Int))))) > (0 : Int)))
 (slH ⟨a0.a, a0.len, a0.cap⟩ (a0.cap : Int) 1 fun s4 =>
 apz ty_lits_Lit 1 8 #[(.int .i64 (0 : Int))] ⟨s4.a, s4.len, s4.cap⟩ (IntKind.wrap .i64 (a1 - (IntKind.wrap .i64 ((a0.cap : Int) - (a0.len : Int))))) fun s5 =>
 slH ⟨s5.a, s5.len, s5.cap⟩ (a0.len : Int) 1 fun s6 =>
 J2 (⟨s6.a, s6.len, s6.cap⟩, ()))
 (J2 (⟨a0.a, a0.len, a0.cap⟩, ()))))
 (fun J0 =>
 brB (decide (a1 < (0 : Int)))
 (fF /- not known -/)
 (J0 (())))
set_option maxRecDepth 100000 in
theorem E_slices_Grow_lits_Lit_lits_Lit (a0 : Sl) (a1 : Int) (K : Sl → HP) (h : Heap) : fnVC Tryz.prog [(1000000, .nil)] 27 Tryz.f98 [(.slice a0.a a0.len a0.cap), (.int .i64 a1)] .sl K h = F_slices_Grow_lits_Lit_lits_Lit a0 a1 K h := by kernel_rfl
set_option maxRecDepth 100000 in
theorem S_slices_Grow_lits_Lit_lits_Lit{h : Heap} {a0 : Sl} {a1 : Int} (K : Sl → HP) (hF : F_slices_Grow_lits_Lit_lits_Lit a0 a1 K h) : CallsH Tryz.prog fn_slices_Grow_lits_Lit_lits_Lit #[(.slice a0.a a0.len a0.cap), (.int .i64 a1)] h fun v h' => ∃ x : Sl, v = Ty.enc .sl x ∧ K x h' :=
  callsH_of_fn (P := Tryz.prog) (fn := Tryz.f98) (τ := .sl) follows Tryz.func98 (by kernel_rfl) (by kernel_rfl) Tryz.call98 (Eq.mpr (E_slices_Grow_lits_Lit_lits_Lit a0 a1 K h) hF)

def F_rat_groups_1 (a0 : (Int × (Sl × Unit))) (c0 : Addr) (K : Bool → HP) : HP :=
 nw #[(.int .i64 a0.1), (.slice a0.2.1.a a0.2.1.len a0.2.1.cap)] ty_rat_Group fun b0 =>
 ldT (.int .i64) (⟨b0, 0, none⟩ : Addr) fun x1 =>
 ldT (.int .i64) c0 fun x2 =>
 K (x1 == x2)
set_option maxRecDepth 100000 in
theorem E_rat_groups_1 (a0 : (Int × (Sl × Unit))) (c0 : Addr) (K : Bool → HP) (h : Heap) : fnVC Tryz.prog [(1000000, .bool)] 8 Tryz.f99 [(.agg #[(.int .i64 a0.1), (.slice a0.2.1.a a0.2.1.len a0.2.1.cap)]), (.pointer (some c0))] .bool K h = F_rat_groups_1 a0 c0 K h := by kernel_rfl
set_option maxRecDepth 100000 in
theorem S_rat_groups_1{h : Heap} {a0 : (Int × (Sl × Unit))} {c0 : Addr} (K : Bool → HP) (hF : F_rat_groups_1 a0 c0 K h) : CallsH Tryz.prog fn_rat_groups_1 #[(.agg #[(.int .i64 a0.1), (.slice a0.2.1.a a0.2.1.len a0.2.1.cap)]), (.pointer (some c0))] h fun v h' => ∃ x : Bool, v = Ty.enc .bool x ∧ K x h' :=
  callsH_of_fn (P := Tryz.prog) (fn := Tryz.f99) (τ := .bool) follows Tryz.func99 (by kernel_rfl) (by kernel_rfl) Tryz.call99 (Eq.mpr (E_rat_groups_1 a0 c0 K h) hF)

def F_slices_BinarySearch_int_int (a0 : Sl) (a1 : Int) (K : (Int × (Bool × Unit)) → HP) : HP :=
 lfp (σ := (Int × (Int × Unit))) (fun X0 s1 => /- j i -/
 brB (decide (s1.2.1 < s1.1))
 (ge0 (1 : Int) <|
 sx a0.a a0.len (IntKind.wrap .i64 (Int.fdiv (IntKind.wrap .u64 (IntKind.wrap .i64 (s1.2.1 + s1.1))) (2 ^ (min ((1 : Int)).toNat 64)))) 1 fun p2 =>
 ldT (.int .i64) p2 fun x3 =>
 callT Tryz.prog fn_cmp_Less_int #[(.int .i64 x3), (.int .i64 a1)] .bool fun r4 =>
 jn (σ := (Int × (Int × Unit))) (fun s6 => /- j i -/
 X0 (s6.1, s6.2.1, ()))
 (fun J5 =>
 brB r4
 (J5 (s1.1, (IntKind.wrap .i64 ((IntKind.wrap .i64 (Int.fdiv (IntKind.wrap .u64 (IntKind.wrap .i64 (s1.2.1 + s1.1))) (2 ^ (min ((1 : Int)).toNat 64)))) + (1 : Int))), ()))
 (J5 ((IntKind.wrap .i64 (Int.fdiv (IntKind.wrap .u64 (IntKind.wrap .i64 (s1.2.1 + s1.1))) (2 ^ (min ((1 : Int)).toNat 64)))), s1.2.1, ()))))
 (brB (decide (s1.2.1 < (a0.len : Int)))
 (sx a0.a a0.len s1.2.1 1 fun p7 =>
 ldT (.int .i64) p7 fun x8 =>
 brB (x8 == a1)
 (K (s1.2.1, true, ()))
 (sx a0.a a0.len s1.2.1 1 fun p9 =>
 ldT (.int .i64) p9 fun x10 =>
 callT Tryz.prog fn_slices_isNaN_int #[(.int .i64 x10)] .bool fun r11 =>
 brB r11
 (callT Tryz.prog fn_slices_isNaN_int #[(.int .i64 a1)] .bool fun r12 =>
 K (s1.2.1, r12, ()))
 (K (s1.2.1, false, ()))))
 (K (s1.2.1, false, ()))))
 ((a0.len : Int), (0 : Int), ())
set_option maxRecDepth 100000 in
theorem E_slices_BinarySearch_int_int (a0 : Sl) (a1 : Int) (K : (Int × (Bool × Unit)) → HP) (h : Heap) : fnVC Tryz.prog [(1000000, .nil)] 54 Tryz.f100 [(.slice a0.a a0.len a0.cap), (.int .i64 a1)] (.tup (.cons (.int .i64) (.cons .bool .nil))) K h = F_slices_BinarySearch_int_int a0 a1 K h := by kernel_rfl
set_option maxRecDepth 100000 in
theorem S_slices_BinarySearch_int_int{h : Heap} {a0 : Sl} {a1 : Int} (K : (Int × (Bool × Unit)) → HP) (hF : F_slices_BinarySearch_int_int a0 a1 K h) : CallsH Tryz.prog fn_slices_BinarySearch_int_int #[(.slice a0.a a0.len a0.cap), (.int .i64 a1)] h fun v h' => ∃ x : (Int × (Bool × Unit)), v = Ty.enc (.tup (.cons (.int .i64) (.cons .bool .nil))) x ∧ K x h' :=
  callsH_of_fn (P := Tryz.prog) (fn := Tryz.f100) (τ := (.tup (.cons (.int .i64) (.cons .bool .nil)))) follows Tryz.func100 (by kernel_rfl) (by kernel_rfl) Tryz.call100 (Eq.mpr (E_slices_BinarySearch_int_int a0 a1 K h) hF)

def F_slices_BinarySearchFunc_rat_Entry_rat_Entry_int (a0 : Sl) (a1 : Int) (a2 : Value) (K : (Int × (Bool × Unit)) → HP) : HP :=
 lfp (σ := (Int × (Int × Unit))) (fun X0 s1 => /- j i -/
 brB (decide (s1.2.1 < s1.1))
 (ge0 (1 : Int) <|
 sx a0.a a0.len (IntKind.wrap .i64 (Int.fdiv (IntKind.wrap .u64 (IntKind.wrap .i64 (s1.2.1 + s1.1))) (2 ^ (min ((1 : Int)).toNat 64)))) 2 fun p2 =>
 ldA (.cons (.int .i64) (.cons .sl .nil)) p2 fun x3 =>
 callF Tryz.prog a2 #[(.agg #[(.int .i64 x3.1), (.slice x3.2.1.a x3.2.1.len x3.2.1.cap)]), (.int .i64 a1)] (.int .i64) fun r4 =>
 jn (σ := (Int × (Int × Unit))) (fun s6 => /- j i -/
 X0 (s6.1, s6.2.1, ()))
 (fun J5 =>
 brB (decide (r4 < (0 : Int)))
 (J5 (s1.1, (IntKind.wrap .i64 ((IntKind.wrap .i64 (Int.fdiv (IntKind.wrap .u64 (IntKind.wrap .i64 (s1.2.1 + s1.1))) (2 ^ (min ((1 : Int)).toNat 64)))) + (1 : Int))), ()))
 (J5 ((IntKind.wrap .i64 (Int.fdiv (IntKind.wrap .u64 (IntKind.wrap .i64 (s1.2.1 + s1.1))) (2 ^ (min ((1 : Int)).toNat 64)))), s1.2.1, ()))))
 (brB (decide (s1.2.1 < (a0.len : Int)))
 (sx a0.a a0.len s1.2.1 2 fun p7 =>
 ldA (.cons (.int .i64) (.cons .sl .nil)) p7 fun x8 =>
 callF Tryz.prog a2 #[(.agg #[(.int .i64 x8.1), (.slice x8.2.1.a x8.2.1.len x8.2.1.cap)]), (.int .i64 a1)] (.int .i64) fun r9 =>
 K (s1.2.1, (r9 == (0 : Int)), ()))
 (K (s1.2.1, false, ()))))
 ((a0.len : Int), (0 : Int), ())
set_option maxRecDepth 100000 in
theorem E_slices_BinarySearchFunc_rat_Entry_rat_Entry_int (a0 : Sl) (a1 : Int) (a2 : Value) (K : (Int × (Bool × Unit)) → HP) (h : Heap) : fnVC Tryz.prog [(1000000, .nil)] 49 Tryz.f101 [(.slice a0.a a0.len a0.cap), (.int .i64 a1), a2] (.tup (.cons (.int .i64) (.cons .bool .nil))) K h = F_slices_BinarySearchFunc_rat_Entry_rat_Entry_int a0 a1 a2 K h := by kernel_rfl
set_option maxRecDepth 100000 in
theorem S_slices_BinarySearchFunc_rat_Entry_rat_Entry_int{h : Heap} {a0 : Sl} {a1 : Int} {a2 : Value} (K : (Int × (Bool × Unit)) → HP) (hF : F_slices_BinarySearchFunc_rat_Entry_rat_Entry_int a0 a1 a2 K h) : CallsH Tryz.prog fn_slices_BinarySearchFunc_rat_Entry_rat_Entry_int #[(.slice a0.a a0.len a0.cap), (.int .i64 a1), a2] h fun v h' => ∃ x : (Int × (Bool × Unit)), v = Ty.enc (.tup (.cons (.int .i64) (.cons .bool .nil))) x ∧ K x h' :=
  callsH_of_fn (P := Tryz.prog) (fn := Tryz.f101) (τ := (.tup (.cons (.int .i64) (.cons .bool .nil)))) follows Tryz.func101 (by kernel_rfl) (by kernel_rfl) Tryz.call101 (Eq.mpr (E_slices_BinarySearchFunc_rat_Entry_rat_Entry_int a0 a1 a2 K h) hF)

def F_rat_find_1 (a0 : (Int × (Sl × Unit))) (a1 : Int) (K : Int → HP) : HP :=
 nw #[(.int .i64 a0.1), (.slice a0.2.1.a a0.2.1.len a0.2.1.cap)] ty_rat_Entry fun b0 =>
 ldT (.int .i64) (⟨b0, 0, none⟩ : Addr) fun x1 =>
 brB (decide (x1 < a1))
 (K (-1 : Int))
 (ldT (.int .i64) (⟨b0, 0, none⟩ : Addr) fun x2 =>
 brB (decide (x2 > a1))
 (K (1 : Int))
 (K (0 : Int)))
set_option maxRecDepth 100000 in
theorem E_rat_find_1 (a0 : (Int × (Sl × Unit))) (a1 : Int) (K : Int → HP) (h : Heap) : fnVC Tryz.prog [(1000000, .bool)] 15 Tryz.f102 [(.agg #[(.int .i64 a0.1), (.slice a0.2.1.a a0.2.1.len a0.2.1.cap)]), (.int .i64 a1)] (.int .i64) K h = F_rat_find_1 a0 a1 K h := by kernel_rfl
set_option maxRecDepth 100000 in
theorem S_rat_find_1{h : Heap} {a0 : (Int × (Sl × Unit))} {a1 : Int} (K : Int → HP) (hF : F_rat_find_1 a0 a1 K h) : CallsH Tryz.prog fn_rat_find_1 #[(.agg #[(.int .i64 a0.1), (.slice a0.2.1.a a0.2.1.len a0.2.1.cap)]), (.int .i64 a1)] h fun v h' => ∃ x : Int, v = Ty.enc (.int .i64) x ∧ K x h' :=
  callsH_of_fn (P := Tryz.prog) (fn := Tryz.f102) (τ := (.int .i64)) follows Tryz.func102 (by kernel_rfl) (by kernel_rfl) Tryz.call102 (Eq.mpr (E_rat_find_1 a0 a1 K h) hF)

end Go.Proofs.S
