/- The functions of the seat, each as a predicate over its values, printed by a program of ours, and that each is its text's. -/
import Derived.Test.YtcoeaaobbfbcjaaSx10
import Derived.KernelRfl
import Derived.Test.YtcoeaaobbfbcjaaProg
import Derived.Test.YtcoeaaobbfbcjaaClF0
set_option linter.unusedVariables false
namespace Go.Proofs.S
open Go Go.Sx Go.Proofs
/-- (salvor/rup.values).next -/
def F_rup_values_next (a0 : Value) (a1 : Sl) (K : (Int × (Int × Unit)) → HP) : HP := fun h0 => (
 nw #[(.int .i64 (0 : Int))] ty_int fun b0 =>
 nw #[(.int .i64 (0 : Int))] ty_lits_Lit fun b1 =>
 nw #[(.int .u8 (2 : Int)), (.int .u8 (3 : Int))] ty_uint8 fun b2 =>
 lfp (σ := (Int × Unit)) (fun X3 s4 => /-  -/
 brB (decide (s4.1 < (2 : Int)))
 (sx (some (⟨b2, 0, none⟩ : Addr)) 2 s4.1 1 fun p5 =>
 ldT (.int .u8) p5 fun x6 =>
 callT Try.prog fn_rup_values_moving #[a0, (.slice a1.a a1.len a1.cap), (.int .u8 x6)] .val fun r7 =>
 RangeVC Try.prog (.cons (.int .i64) (.cons (.int .i64) .nil)) r7 (fun x8 wrap9 next10 jump11 =>
 wrap9 <|
 st1 (⟨b0, 0, none⟩ : Addr) (.int .i64 x8.1) <|
 st1 (⟨b1, 0, none⟩ : Addr) (.int .i64 x8.2.1) <|
 jump11 .ret)
 (X3 ((IntKind.wrap .i64 (s4.1 + (1 : Int))), ()))
 (mkd h0.size <|
 ldT (.int .i64) (⟨b0, 0, none⟩ : Addr) fun x12 =>
 ldT (.int .i64) (⟨b1, 0, none⟩ : Addr) fun x13 =>
 K (x12, x13, ()))
 []
 [])
 (st1 (⟨b0, 0, none⟩ : Addr) (.int .i64 (-1 : Int)) <|
 st1 (⟨b1, 0, none⟩ : Addr) (.int .i64 (0 : Int)) <|
 mkd h0.size <|
 ldT (.int .i64) (⟨b0, 0, none⟩ : Addr) fun x14 =>
 ldT (.int .i64) (⟨b1, 0, none⟩ : Addr) fun x15 =>
 K (x14, x15, ())))
 ((0 : Int), ())) h0
set_option maxRecDepth 100000 in
theorem E_rup_values_next (a0 : Value) (a1 : Sl) (K : (Int × (Int × Unit)) → HP) (h : Heap) : fnVC Try.prog [(1000000, .bool), (20, (.cons (.int .i64) (.cons (.int .i64) .nil)))] 25 Try.f47 [a0, (.slice a1.a a1.len a1.cap)] (.tup (.cons (.int .i64) (.cons (.int .i64) .nil))) K h = F_rup_values_next a0 a1 K h := by kernel_rfl
set_option maxRecDepth 100000 in
theorem S_rup_values_next{h : Heap} {a0 : Value} {a1 : Sl} (K : (Int × (Int × Unit)) → HP) (hF : F_rup_values_next a0 a1 K h) : CallsH Try.prog fn_rup_values_next #[a0, (.slice a1.a a1.len a1.cap)] h fun v h' => ∃ x : (Int × (Int × Unit)), v = Ty.enc (.tup (.cons (.int .i64) (.cons (.int .i64) .nil))) x ∧ K x h' :=
  callsH_of_fn (P := Try.prog) (fn := Try.f47) (τ := (.tup (.cons (.int .i64) (.cons (.int .i64) .nil)))) follows Try.func47 (by kernel_rfl) (by kernel_rfl) Try.call47 (Eq.mpr (E_rup_values_next a0 a1 K h) hF)


/-- (salvor/rup.values).put -/
def F_rup_values_put (a0 : Value) (a1 : Int) (K : Unit → HP) : HP :=
 callT Try.prog fn_lits_Var #[(.int .i64 a1)] (.int .i64) fun r0 =>
 mput .i64 a0 r0 (.int .i64 (1 : Int)) <|
 callT Try.prog fn_lits_Negated #[(.int .i64 a1)] .bool fun r1 =>
 jn (σ := Unit) (fun s3 => /- -/
 K (()))
 (fun J2 =>
 brB r1
 (callT Try.prog fn_lits_Var #[(.int .i64 a1)] (.int .i64) fun r4 =>
 mput .i64 a0 r4 (.int .i64 (-1 : Int)) <|
 J2 (()))
 (J2 (())))
set_option maxRecDepth 100000 in
theorem E_rup_values_put (a0 : Value) (a1 : Int) (K : Unit → HP) (h : Heap) : fnVC Try.prog [(1000000, .bool)] 12 Try.f48 [a0, (.int .i64 a1)] (.tup .nil) K h = F_rup_values_put a0 a1 K h := by kernel_rfl
set_option maxRecDepth 100000 in
theorem S_rup_values_put{h : Heap} {a0 : Value} {a1 : Int} (K : Unit → HP) (hF : F_rup_values_put a0 a1 K h) : CallsH Try.prog fn_rup_values_put #[a0, (.int .i64 a1)] h fun v h' => ∃ x : Unit, v = Ty.enc (.tup .nil) x ∧ K x h' :=
  callsH_of_fn (P := Try.prog) (fn := Try.f48) (τ := (.tup .nil)) follows Try.func48 (by kernel_rfl) (by kernel_rfl) Try.call48 (Eq.mpr (E_rup_values_put a0 a1 K h) hF)


/-- salvor/rup.needed -/
def F_rup_needed (a0 : Sl) (a1 : Sl) (K : Sl → HP) : HP :=
 mkm fun b0 =>
 lfp (σ := (Int × (Sl × Unit))) (fun X1 s2 => /- i out -/
 brB (decide (s2.1 ≥ (0 : Int)))
 (jn (σ := (Sl × Unit)) (fun s4 => /- out -/
 X1 ((IntKind.wrap .i64 (s2.1 - (1 : Int))), ⟨s4.1.a, s4.1.len, s4.1.cap⟩, ()))
 (fun J3 =>
 jn (σ := Bool) (fun t6 =>
 brB t6
 (J3 (⟨s2.2.1.a, s2.2.1.len, s2.2.1.cap⟩, ()))
 (nw #[(.int .i64 s2.1)] ty_int fun b7 =>
 apd ty_int 1 8 #[(.int .i64 (0 : Int))] ⟨s2.2.1.a, s2.2.1.len, s2.2.1.cap⟩ ⟨(some (⟨b7, 0, none⟩ : Addr)), 1, 1⟩ fun s8 =>
 sx a0.a a0.len s2.1 1 fun p9 =>
 ldT .sl p9 fun x10 =>
 lfp (σ := (Int × Unit)) (fun X11 s12 => /-  -/
 brB (decide (s12.1 < (x10.len : Int)))
 (sx x10.a x10.len s12.1 1 fun p13 =>
 ldT (.int .i64) p13 fun x14 =>
 callT Try.prog fn_lits_Neg #[(.int .i64 x14)] (.int .i64) fun r15 =>
 mput .i64 (.map (some b0)) r15 (.int .i64 (1 : Int)) <|
 X11 ((IntKind.wrap .i64 (s12.1 + (1 : Int))), ()))
 (J3 (⟨s8.a, s8.len, s8.cap⟩, ())))
 ((0 : Int), ())))
 (fun J5 =>
 brB (decide (s2.1 < (a1.len : Int)))
 (sx a1.a a1.len s2.1 1 fun p16 =>
 ldT (.int .i64) p16 fun x17 =>
 mget (.int .i64) .i64 (.int .i64 (0 : Int)) (.map (some b0)) x17 fun x18 =>
 J5 ((x18 == (0 : Int))))
 (J5 false))))
 (callT Try.prog fn_slices_Reverse_int_int #[(.slice s2.2.1.a s2.2.1.len s2.2.1.cap)] (.tup .nil) fun r19 =>
 K ⟨s2.2.1.a, s2.2.1.len, s2.2.1.cap⟩))
 ((IntKind.wrap .i64 ((a0.len : Int) - (1 : Int))), ⟨none, 0, 0⟩, ())
set_option maxRecDepth 100000 in
theorem E_rup_needed (a0 : Sl) (a1 : Sl) (K : Sl → HP) (h : Heap) : fnVC Try.prog [(1000000, .bool)] 51 Try.f49 [(.slice a0.a a0.len a0.cap), (.slice a1.a a1.len a1.cap)] .sl K h = F_rup_needed a0 a1 K h := by kernel_rfl
set_option maxRecDepth 100000 in
theorem S_rup_needed{h : Heap} {a0 : Sl} {a1 : Sl} (K : Sl → HP) (hF : F_rup_needed a0 a1 K h) : CallsH Try.prog fn_rup_needed #[(.slice a0.a a0.len a0.cap), (.slice a1.a a1.len a1.cap)] h fun v h' => ∃ x : Sl, v = Ty.enc .sl x ∧ K x h' :=
  callsH_of_fn (P := Try.prog) (fn := Try.f49) (τ := .sl) follows Try.func49 (by kernel_rfl) (by kernel_rfl) Try.call49 (Eq.mpr (E_rup_needed a0 a1 K h) hF)


/-- slices.ContainsFunc[[]salvor/clauses.Clause,salvor/clauses.Clause] -/
def F_slices_ContainsFunc_clauses_Clause_clauses_Clause (a0 : Sl) (a1 : Value) (K : Bool → HP) : HP :=
 callT Try.prog fn_slices_IndexFunc_clauses_Clause_clauses_Clause #[(.slice a0.a a0.len a0.cap), a1] (.int .i64) fun r0 =>
 K (decide (r0 ≥ (0 : Int)))
set_option maxRecDepth 100000 in
theorem E_slices_ContainsFunc_clauses_Clause_clauses_Clause (a0 : Sl) (a1 : Value) (K : Bool → HP) (h : Heap) : fnVC Try.prog [(1000000, .nil)] 9 Try.f50 [(.slice a0.a a0.len a0.cap), a1] .bool K h = F_slices_ContainsFunc_clauses_Clause_clauses_Clause a0 a1 K h := by kernel_rfl
set_option maxRecDepth 100000 in
theorem S_slices_ContainsFunc_clauses_Clause_clauses_Clause{h : Heap} {a0 : Sl} {a1 : Value} (K : Bool → HP) (hF : F_slices_ContainsFunc_clauses_Clause_clauses_Clause a0 a1 K h) : CallsH Try.prog fn_slices_ContainsFunc_clauses_Clause_clauses_Clause #[(.slice a0.a a0.len a0.cap), a1] h fun v h' => ∃ x : Bool, v = Ty.enc .bool x ∧ K x h' :=
  callsH_of_fn (P := Try.prog) (fn := Try.f50) (τ := .bool) follows Try.func50 (by kernel_rfl) (by kernel_rfl) Try.call50 (Eq.mpr (E_slices_ContainsFunc_clauses_Clause_clauses_Clause a0 a1 K h) hF)


/-- salvor/salvorlaw08.AllTrue$1 -/
def F_salvorlaw08_AllTrue_1 (a0 : Sl) (c0 : Addr) (K : Bool → HP) : HP :=
 ldT (.int .i64) c0 fun x0 =>
 callT Try.prog fn_salvorlaw08_True #[(.slice a0.a a0.len a0.cap), (.int .i64 x0)] .bool fun r1 =>
 K (!r1)
set_option maxRecDepth 100000 in
theorem E_salvorlaw08_AllTrue_1 (a0 : Sl) (c0 : Addr) (K : Bool → HP) (h : Heap) : fnVC Try.prog [(1000000, .bool)] 8 Try.f51 [(.slice a0.a a0.len a0.cap), (.pointer (some c0))] .bool K h = F_salvorlaw08_AllTrue_1 a0 c0 K h := by kernel_rfl
set_option maxRecDepth 100000 in
theorem S_salvorlaw08_AllTrue_1{h : Heap} {a0 : Sl} {c0 : Addr} (K : Bool → HP) (hF : F_salvorlaw08_AllTrue_1 a0 c0 K h) : CallsH Try.prog fn_salvorlaw08_AllTrue_1 #[(.slice a0.a a0.len a0.cap), (.pointer (some c0))] h fun v h' => ∃ x : Bool, v = Ty.enc .bool x ∧ K x h' :=
  callsH_of_fn (P := Try.prog) (fn := Try.f51) (τ := .bool) follows Try.func51 (by kernel_rfl) (by kernel_rfl) Try.call51 (Eq.mpr (E_salvorlaw08_AllTrue_1 a0 c0 K h) hF)


/-- salvor/clauses.Right -/
def F_clauses_Right (a0 : Sl) (K : Bool → HP) : HP :=
 brB (decide ((a0.len : Int) ≤ (4096 : Int)))
 (callT Try.prog fn_slices_ContainsFunc_clauses_Clause_lits_Lit #[(.slice a0.a a0.len a0.cap), (.func (.func fn_clauses_wrong) #[] #[])] .bool fun r0 =>
 K (!r0))
 (K false)
set_option maxRecDepth 100000 in
theorem E_clauses_Right (a0 : Sl) (K : Bool → HP) (h : Heap) : fnVC Try.prog [(1000000, .nil)] 11 Try.f52 [(.slice a0.a a0.len a0.cap)] .bool K h = F_clauses_Right a0 K h := by kernel_rfl
set_option maxRecDepth 100000 in
theorem S_clauses_Right{h : Heap} {a0 : Sl} (K : Bool → HP) (hF : F_clauses_Right a0 K h) : CallsH Try.prog fn_clauses_Right #[(.slice a0.a a0.len a0.cap)] h fun v h' => ∃ x : Bool, v = Ty.enc .bool x ∧ K x h' :=
  callsH_of_fn (P := Try.prog) (fn := Try.f52) (τ := .bool) follows Try.func52 (by kernel_rfl) (by kernel_rfl) Try.call52 (Eq.mpr (E_clauses_Right a0 K h) hF)


/-- salvor/clauses.sorted -/
def F_clauses_sorted (a0 : Sl) (K : Value → HP) : HP :=
 nw #[(.slice a0.a a0.len a0.cap)] ty_clauses_Clause fun b0 =>
 K (.func (.func fn_clauses_sorted_1) #[] #[(.pointer (some (⟨b0, 0, none⟩ : Addr)))])
set_option maxRecDepth 100000 in
theorem E_clauses_sorted (a0 : Sl) (K : Value → HP) (h : Heap) : fnVC Try.prog [(1000000, .nil)] 4 Try.f53 [(.slice a0.a a0.len a0.cap)] .val K h = F_clauses_sorted a0 K h := by kernel_rfl
set_option maxRecDepth 100000 in
theorem S_clauses_sorted{h : Heap} {a0 : Sl} (K : Value → HP) (hF : F_clauses_sorted a0 K h) : CallsH Try.prog fn_clauses_sorted #[(.slice a0.a a0.len a0.cap)] h fun v h' => ∃ x : Value, v = Ty.enc .val x ∧ K x h' :=
  callsH_of_fn (P := Try.prog) (fn := Try.f53) (τ := .val) follows Try.func53 (by kernel_rfl) (by kernel_rfl) Try.call53 (Eq.mpr (E_clauses_sorted a0 K h) hF)


/-- salvor/lits.Neg -/
def F_lits_Neg (a0 : Int) (K : Int → HP) : HP :=
 callT Try.prog fn_lits_Right #[(.int .i64 a0)] .bool fun r0 =>
 brB (!r0)
 (K (0 : Int))
 (K (IntKind.wrap .i64 (0 - a0)))
set_option maxRecDepth 100000 in
theorem E_lits_Neg (a0 : Int) (K : Int → HP) (h : Heap) : fnVC Try.prog [(1000000, .nil)] 8 Try.f54 [(.int .i64 a0)] (.int .i64) K h = F_lits_Neg a0 K h := by kernel_rfl
set_option maxRecDepth 100000 in
theorem S_lits_Neg{h : Heap} {a0 : Int} (K : Int → HP) (hF : F_lits_Neg a0 K h) : CallsH Try.prog fn_lits_Neg #[(.int .i64 a0)] h fun v h' => ∃ x : Int, v = Ty.enc (.int .i64) x ∧ K x h' :=
  callsH_of_fn (P := Try.prog) (fn := Try.f54) (τ := (.int .i64)) follows Try.func54 (by kernel_rfl) (by kernel_rfl) Try.call54 (Eq.mpr (E_lits_Neg a0 K h) hF)


/-- salvor/salvorlaw08.Ints -/
def F_salvorlaw08_Ints (a0 : Sl) (K : Sl → HP) : HP :=
 lfp (σ := (Int × (Sl × Unit))) (fun X0 s1 => /-  out -/
 brB (decide (s1.1 < (a0.len : Int)))
 (sx a0.a a0.len s1.1 1 fun p2 =>
 ldT (.int .i64) p2 fun x3 =>
 nw #[(.int .i64 x3)] ty_int fun b4 =>
 apd ty_int 1 8 #[(.int .i64 (0 : Int))] ⟨s1.2.1.a, s1.2.1.len, s1.2.1.cap⟩ ⟨(some (⟨b4, 0, none⟩ : Addr)), 1, 1⟩ fun s5 =>
 X0 ((IntKind.wrap .i64 (s1.1 + (1 : Int))), ⟨s5.a, s5.len, s5.cap⟩, ()))
 (K ⟨s1.2.1.a, s1.2.1.len, s1.2.1.cap⟩))
 ((0 : Int), ⟨none, 0, 0⟩, ())
set_option maxRecDepth 100000 in
theorem E_salvorlaw08_Ints (a0 : Sl) (K : Sl → HP) (h : Heap) : fnVC Try.prog [(1000000, .bool)] 18 Try.f55 [(.slice a0.a a0.len a0.cap)] .sl K h = F_salvorlaw08_Ints a0 K h := by kernel_rfl
set_option maxRecDepth 100000 in
theorem S_salvorlaw08_Ints{h : Heap} {a0 : Sl} (K : Sl → HP) (hF : F_salvorlaw08_Ints a0 K h) : CallsH Try.prog fn_salvorlaw08_Ints #[(.slice a0.a a0.len a0.cap)] h fun v h' => ∃ x : Sl, v = Ty.enc .sl x ∧ K x h' :=
  callsH_of_fn (P := Try.prog) (fn := Try.f55) (τ := .sl) follows Try.func55 (by kernel_rfl) (by kernel_rfl) Try.call55 (Eq.mpr (E_salvorlaw08_Ints a0 K h) hF)


/-- slices.Clone[salvor/clauses.Clause,salvor/lits.Lit] -/
def F_slices_Clone_clauses_Clause_lits_Lit (a0 : Sl) (K : Sl → HP) : HP :=
 brB (Option.isNone a0.a)
 (K ⟨none, 0, 0⟩)
 (nw #[] ty_lits_Lit fun b0 =>
 apd ty_lits_Lit 1 8 #[(.int .i64 (0 : Int))] ⟨(some (⟨b0, 0, none⟩ : Addr)), 0, 0⟩ ⟨a0.a, a0.len, a0.cap⟩ fun s1 =>
 K ⟨s1.a, s1.len, s1.cap⟩)
set_option maxRecDepth 100000 in
theorem E_slices_Clone_clauses_Clause_lits_Lit (a0 : Sl) (K : Sl → HP) (h : Heap) : fnVC Try.prog [(1000000, .nil)] 8 Try.f56 [(.slice a0.a a0.len a0.cap)] .sl K h = F_slices_Clone_clauses_Clause_lits_Lit a0 K h := by kernel_rfl
set_option maxRecDepth 100000 in
theorem S_slices_Clone_clauses_Clause_lits_Lit{h : Heap} {a0 : Sl} (K : Sl → HP) (hF : F_slices_Clone_clauses_Clause_lits_Lit a0 K h) : CallsH Try.prog fn_slices_Clone_clauses_Clause_lits_Lit #[(.slice a0.a a0.len a0.cap)] h fun v h' => ∃ x : Sl, v = Ty.enc .sl x ∧ K x h' :=
  callsH_of_fn (P := Try.prog) (fn := Try.f56) (τ := .sl) follows Try.func56 (by kernel_rfl) (by kernel_rfl) Try.call56 (Eq.mpr (E_slices_Clone_clauses_Clause_lits_Lit a0 K h) hF)


/-- slices.Clone[[]salvor/lits.Lit,salvor/lits.Lit] -/
def F_slices_Clone_lits_Lit_lits_Lit (a0 : Sl) (K : Sl → HP) : HP :=
 brB (Option.isNone a0.a)
 (K ⟨none, 0, 0⟩)
 (nw #[] ty_lits_Lit fun b0 =>
 apd ty_lits_Lit 1 8 #[(.int .i64 (0 : Int))] ⟨(some (⟨b0, 0, none⟩ : Addr)), 0, 0⟩ ⟨a0.a, a0.len, a0.cap⟩ fun s1 =>
 K ⟨s1.a, s1.len, s1.cap⟩)
set_option maxRecDepth 100000 in
theorem E_slices_Clone_lits_Lit_lits_Lit (a0 : Sl) (K : Sl → HP) (h : Heap) : fnVC Try.prog [(1000000, .nil)] 8 Try.f57 [(.slice a0.a a0.len a0.cap)] .sl K h = F_slices_Clone_lits_Lit_lits_Lit a0 K h := by kernel_rfl
set_option maxRecDepth 100000 in
theorem S_slices_Clone_lits_Lit_lits_Lit{h : Heap} {a0 : Sl} (K : Sl → HP) (hF : F_slices_Clone_lits_Lit_lits_Lit a0 K h) : CallsH Try.prog fn_slices_Clone_lits_Lit_lits_Lit #[(.slice a0.a a0.len a0.cap)] h fun v h' => ∃ x : Sl, v = Ty.enc .sl x ∧ K x h' :=
  callsH_of_fn (P := Try.prog) (fn := Try.f57) (τ := .sl) follows Try.func57 (by kernel_rfl) (by kernel_rfl) Try.call57 (Eq.mpr (E_slices_Clone_lits_Lit_lits_Lit a0 K h) hF)


/-- salvor/salvorref02.Right -/
def F_salvorref02_Right (a0 : Sl) (K : Bool → HP) : HP :=
 brB (decide ((a0.len : Int) > (4096 : Int)))
 (K false)
 (lfp (σ := (Int × (Bool × Unit))) (fun X0 s1 => /- i  -/
 brB (decide (s1.1 < (a0.len : Int)))
 (sx a0.a a0.len s1.1 1 fun p2 =>
 ldT (.int .i64) p2 fun x3 =>
 callT Try.prog fn_salvorref01_Right #[(.int .i64 x3)] .bool fun r4 =>
 brB (!r4)
 (K false)
 (X0 ((IntKind.wrap .i64 (s1.1 + (1 : Int))), s1.2.1, ())))
 (K true))
 ((0 : Int), false, ()))
set_option maxRecDepth 100000 in
theorem E_salvorref02_Right (a0 : Sl) (K : Bool → HP) (h : Heap) : fnVC Try.prog [(1000000, .nil)] 19 Try.f58 [(.slice a0.a a0.len a0.cap)] .bool K h = F_salvorref02_Right a0 K h := by kernel_rfl
set_option maxRecDepth 100000 in
theorem S_salvorref02_Right{h : Heap} {a0 : Sl} (K : Bool → HP) (hF : F_salvorref02_Right a0 K h) : CallsH Try.prog fn_salvorref02_Right #[(.slice a0.a a0.len a0.cap)] h fun v h' => ∃ x : Bool, v = Ty.enc .bool x ∧ K x h' :=
  callsH_of_fn (P := Try.prog) (fn := Try.f58) (τ := .bool) follows Try.func58 (by kernel_rfl) (by kernel_rfl) Try.call58 (Eq.mpr (E_salvorref02_Right a0 K h) hF)


/-- salvor/salvorref08.Right -/
def F_salvorref08_Right (a0 : Sl) (K : Bool → HP) : HP :=
 lfp (σ := (Int × (Bool × Unit))) (fun X0 s1 => /- i  -/
 brB (decide (s1.1 < (a0.len : Int)))
 (sx a0.a a0.len s1.1 1 fun p2 =>
 ldT (.int .i64) p2 fun x3 =>
 callT Try.prog fn_salvorref01_Right #[(.int .i64 x3)] .bool fun r4 =>
 jn (σ := Bool) (fun t6 =>
 brB t6
 (K false)
 (X0 ((IntKind.wrap .i64 (s1.1 + (1 : Int))), s1.2.1, ())))
 (fun J5 =>
 brB (!r4)
 (J5 true)
 (sx a0.a a0.len s1.1 1 fun p7 =>
 ldT (.int .i64) p7 fun x8 =>
 callT Try.prog fn_salvorref08_has #[(.slice a0.a a0.len a0.cap), (.int .i64 (IntKind.wrap .i64 (0 - x8)))] .bool fun r9 =>
 J5 (r9))))
 (K true))
 ((0 : Int), false, ())
set_option maxRecDepth 100000 in
theorem E_salvorref08_Right (a0 : Sl) (K : Bool → HP) (h : Heap) : fnVC Try.prog [(1000000, .bool)] 25 Try.f59 [(.slice a0.a a0.len a0.cap)] .bool K h = F_salvorref08_Right a0 K h := by kernel_rfl
set_option maxRecDepth 100000 in
theorem S_salvorref08_Right{h : Heap} {a0 : Sl} (K : Bool → HP) (hF : F_salvorref08_Right a0 K h) : CallsH Try.prog fn_salvorref08_Right #[(.slice a0.a a0.len a0.cap)] h fun v h' => ∃ x : Bool, v = Ty.enc .bool x ∧ K x h' :=
  callsH_of_fn (P := Try.prog) (fn := Try.f59) (τ := .bool) follows Try.func59 (by kernel_rfl) (by kernel_rfl) Try.call59 (Eq.mpr (E_salvorref08_Right a0 K h) hF)


/-- salvor/salvorref08.Look -/
def F_salvorref08_Look (a0 : Sl) (a1 : Sl) (K : (Int × (Int × Unit)) → HP) : HP :=
 lfp (σ := (Int × (Sl × (Int × (Int × Unit))))) (fun X0 s1 => /- i free   -/
 brB (decide (s1.1 < (a0.len : Int)))
 (sx a0.a a0.len s1.1 1 fun p2 =>
 ldT (.int .i64) p2 fun x3 =>
 callT Try.prog fn_salvorref08_has #[(.slice a1.a a1.len a1.cap), (.int .i64 x3)] .bool fun r4 =>
 brB r4
 (K ((1 : Int), (0 : Int), ()))
 (sx a0.a a0.len s1.1 1 fun p5 =>
 ldT (.int .i64) p5 fun x6 =>
 callT Try.prog fn_salvorref08_has #[(.slice a1.a a1.len a1.cap), (.int .i64 (IntKind.wrap .i64 (0 - x6)))] .bool fun r7 =>
 jn (σ := Bool) (fun t9 =>
 jn (σ := (Sl × Unit)) (fun s11 => /- free -/
 X0 ((IntKind.wrap .i64 (s1.1 + (1 : Int))), ⟨s11.1.a, s11.1.len, s11.1.cap⟩, s1.2.2.1, s1.2.2.2.1, ()))
 (fun J10 =>
 brB t9
 (sx a0.a a0.len s1.1 1 fun p12 =>
 ldT (.int .i64) p12 fun x13 =>
 nw #[(.int .i64 x13)] ty_int fun b14 =>
 apd ty_int 1 8 #[(.int .i64 (0 : Int))] ⟨s1.2.1.a, s1.2.1.len, s1.2.1.cap⟩ ⟨(some (⟨b14, 0, none⟩ : Addr)), 1, 1⟩ fun s15 =>
 J10 (⟨s15.a, s15.len, s15.cap⟩, ()))
 (J10 (⟨s1.2.1.a, s1.2.1.len, s1.2.1.cap⟩, ()))))
 (fun J8 =>
 brB (!r7)
 (sx a0.a a0.len s1.1 1 fun p16 =>
 ldT (.int .i64) p16 fun x17 =>
 callT Try.prog fn_salvorref08_has #[(.slice s1.2.1.a s1.2.1.len s1.2.1.cap), (.int .i64 x17)] .bool fun r18 =>
 J8 ((!r18)))
 (J8 false))))
 (brB ((s1.2.1.len : Int) == (0 : Int))
 (K ((2 : Int), (0 : Int), ()))
 (brB ((s1.2.1.len : Int) == (1 : Int))
 (sx s1.2.1.a s1.2.1.len (0 : Int) 1 fun p19 =>
 ldT (.int .i64) p19 fun x20 =>
 K ((3 : Int), x20, ()))
 (K ((4 : Int), (0 : Int), ())))))
 ((0 : Int), ⟨none, 0, 0⟩, (0 : Int), (0 : Int), ())
set_option maxRecDepth 100000 in
theorem E_salvorref08_Look (a0 : Sl) (a1 : Sl) (K : (Int × (Int × Unit)) → HP) (h : Heap) : fnVC Try.prog [(1000000, .bool)] 53 Try.f60 [(.slice a0.a a0.len a0.cap), (.slice a1.a a1.len a1.cap)] (.tup (.cons (.int .i64) (.cons (.int .i64) .nil))) K h = F_salvorref08_Look a0 a1 K h := by kernel_rfl
set_option maxRecDepth 100000 in
theorem S_salvorref08_Look{h : Heap} {a0 : Sl} {a1 : Sl} (K : (Int × (Int × Unit)) → HP) (hF : F_salvorref08_Look a0 a1 K h) : CallsH Try.prog fn_salvorref08_Look #[(.slice a0.a a0.len a0.cap), (.slice a1.a a1.len a1.cap)] h fun v h' => ∃ x : (Int × (Int × Unit)), v = Ty.enc (.tup (.cons (.int .i64) (.cons (.int .i64) .nil))) x ∧ K x h' :=
  callsH_of_fn (P := Try.prog) (fn := Try.f60) (τ := (.tup (.cons (.int .i64) (.cons (.int .i64) .nil)))) follows Try.func60 (by kernel_rfl) (by kernel_rfl) Try.call60 (Eq.mpr (E_salvorref08_Look a0 a1 K h) hF)


/-- salvor/salvorref08.Assume -/
def F_salvorref08_Assume (a0 : Sl) (K : (Sl × (Bool × Unit)) → HP) : HP :=
 lfp (σ := (Int × (Sl × (Bool × (Sl × Unit))))) (fun X0 s1 => /- last out   -/
 lfp (σ := (Int × (Int × (Bool × (Sl × Unit))))) (fun X2 s3 => /- i best   -/
 brB (decide (s3.1 < (a0.len : Int)))
 (sx a0.a a0.len s3.1 1 fun p4 =>
 ldT (.int .i64) p4 fun x5 =>
 callT Try.prog fn_salvorref08_has #[(.slice a0.a a0.len a0.cap), (.int .i64 (IntKind.wrap .i64 (0 - x5)))] .bool fun r6 =>
 brB r6
 (K (⟨none, 0, 0⟩, true, ()))
 (sx a0.a a0.len s3.1 1 fun p7 =>
 ldT (.int .i64) p7 fun x8 =>
 callT Try.prog fn_salvorref01_Index #[(.int .i64 (IntKind.wrap .i64 (0 - x8)))] (.int .i64) fun r9 =>
 jn (σ := Bool) (fun t11 =>
 jn (σ := (Int × Unit)) (fun s13 => /- best -/
 X2 ((IntKind.wrap .i64 (s3.1 + (1 : Int))), s13.1, s3.2.2.1, ⟨s3.2.2.2.1.a, s3.2.2.2.1.len, s3.2.2.2.1.cap⟩, ()))
 (fun J12 =>
 brB t11
 (J12 (r9, ()))
 (J12 (s3.2.1, ()))))
 (fun J10 =>
 brB (decide (r9 > s1.1))
 (jn (σ := Bool) (fun t15 =>
 J10 (t15))
 (fun J14 =>
 brB (decide (s3.2.1 < (0 : Int)))
 (J14 true)
 (J14 ((decide (r9 < s3.2.1))))))
 (J10 false))))
 (brB (decide (s3.2.1 < (0 : Int)))
 (K (⟨s1.2.1.a, s1.2.1.len, s1.2.1.cap⟩, false, ()))
 (callT Try.prog fn_salvorref01_At #[(.int .i64 s3.2.1)] (.int .i64) fun r16 =>
 nw #[(.int .i64 r16)] ty_int fun b17 =>
 apd ty_int 1 8 #[(.int .i64 (0 : Int))] ⟨s1.2.1.a, s1.2.1.len, s1.2.1.cap⟩ ⟨(some (⟨b17, 0, none⟩ : Addr)), 1, 1⟩ fun s18 =>
 X0 (s3.2.1, ⟨s18.a, s18.len, s18.cap⟩, s3.2.2.1, ⟨s3.2.2.2.1.a, s3.2.2.2.1.len, s3.2.2.2.1.cap⟩, ()))))
 ((0 : Int), (-1 : Int), s1.2.2.1, ⟨s1.2.2.2.1.a, s1.2.2.2.1.len, s1.2.2.2.1.cap⟩, ()))
 ((-1 : Int), ⟨none, 0, 0⟩, false, ⟨none, 0, 0⟩, ())
set_option maxRecDepth 100000 in
theorem E_salvorref08_Assume (a0 : Sl) (K : (Sl × (Bool × Unit)) → HP) (h : Heap) : fnVC Try.prog [(1000000, .bool)] 50 Try.f61 [(.slice a0.a a0.len a0.cap)] (.tup (.cons .sl (.cons .bool .nil))) K h = F_salvorref08_Assume a0 K h := by kernel_rfl
set_option maxRecDepth 100000 in
theorem S_salvorref08_Assume{h : Heap} {a0 : Sl} (K : (Sl × (Bool × Unit)) → HP) (hF : F_salvorref08_Assume a0 K h) : CallsH Try.prog fn_salvorref08_Assume #[(.slice a0.a a0.len a0.cap)] h fun v h' => ∃ x : (Sl × (Bool × Unit)), v = Ty.enc (.tup (.cons .sl (.cons .bool .nil))) x ∧ K x h' :=
  callsH_of_fn (P := Try.prog) (fn := Try.f61) (τ := (.tup (.cons .sl (.cons .bool .nil)))) follows Try.func61 (by kernel_rfl) (by kernel_rfl) Try.call61 (Eq.mpr (E_salvorref08_Assume a0 K h) hF)


/-- slices.Equal[salvor/clauses.Clause,salvor/lits.Lit] -/
def F_slices_Equal_clauses_Clause_lits_Lit (a0 : Sl) (a1 : Sl) (K : Bool → HP) : HP :=
 brB ((a0.len : Int) != (a1.len : Int))
 (K false)
 (lfp (σ := (Int × (Bool × Unit))) (fun X0 s1 => /-   -/
 brB (decide (s1.1 < (a0.len : Int)))
 (sx a0.a a0.len s1.1 1 fun p2 =>
 ldT (.int .i64) p2 fun x3 =>
 sx a1.a a1.len s1.1 1 fun p4 =>
 ldT (.int .i64) p4 fun x5 =>
 brB (x3 != x5)
 (K false)
 (X0 ((IntKind.wrap .i64 (s1.1 + (1 : Int))), s1.2.1, ())))
 (K true))
 ((0 : Int), false, ()))
set_option maxRecDepth 100000 in
theorem E_slices_Equal_clauses_Clause_lits_Lit (a0 : Sl) (a1 : Sl) (K : Bool → HP) (h : Heap) : fnVC Try.prog [(1000000, .nil)] 26 Try.f62 [(.slice a0.a a0.len a0.cap), (.slice a1.a a1.len a1.cap)] .bool K h = F_slices_Equal_clauses_Clause_lits_Lit a0 a1 K h := by kernel_rfl
set_option maxRecDepth 100000 in
theorem S_slices_Equal_clauses_Clause_lits_Lit{h : Heap} {a0 : Sl} {a1 : Sl} (K : Bool → HP) (hF : F_slices_Equal_clauses_Clause_lits_Lit a0 a1 K h) : CallsH Try.prog fn_slices_Equal_clauses_Clause_lits_Lit #[(.slice a0.a a0.len a0.cap), (.slice a1.a a1.len a1.cap)] h fun v h' => ∃ x : Bool, v = Ty.enc .bool x ∧ K x h' :=
  callsH_of_fn (P := Try.prog) (fn := Try.f62) (τ := .bool) follows Try.func62 (by kernel_rfl) (by kernel_rfl) Try.call62 (Eq.mpr (E_slices_Equal_clauses_Clause_lits_Lit a0 a1 K h) hF)


/-- salvor/clauses.Norm -/
def F_clauses_Norm (a0 : Sl) (K : (Sl × (Bool × (Int × Unit))) → HP) : HP :=
 callT Try.prog fn_clauses_Right #[(.slice a0.a a0.len a0.cap)] .bool fun r0 =>
 brB (!r0)
 (K (⟨none, 0, 0⟩, false, (20 : Int), ()))
 (callT Try.prog fn_clauses_normal #[(.slice a0.a a0.len a0.cap)] .sl fun r1 =>
 callT Try.prog fn_clauses_Always #[(.slice a0.a a0.len a0.cap)] .bool fun r2 =>
 K (⟨r1.a, r1.len, r1.cap⟩, r2, (0 : Int), ()))
set_option maxRecDepth 100000 in
theorem E_clauses_Norm (a0 : Sl) (K : (Sl × (Bool × (Int × Unit))) → HP) (h : Heap) : fnVC Try.prog [(1000000, .nil)] 12 Try.f63 [(.slice a0.a a0.len a0.cap)] (.tup (.cons .sl (.cons .bool (.cons (.int .i64) .nil)))) K h = F_clauses_Norm a0 K h := by kernel_rfl
set_option maxRecDepth 100000 in
theorem S_clauses_Norm{h : Heap} {a0 : Sl} (K : (Sl × (Bool × (Int × Unit))) → HP) (hF : F_clauses_Norm a0 K h) : CallsH Try.prog fn_clauses_Norm #[(.slice a0.a a0.len a0.cap)] h fun v h' => ∃ x : (Sl × (Bool × (Int × Unit))), v = Ty.enc (.tup (.cons .sl (.cons .bool (.cons (.int .i64) .nil)))) x ∧ K x h' :=
  callsH_of_fn (P := Try.prog) (fn := Try.f63) (τ := (.tup (.cons .sl (.cons .bool (.cons (.int .i64) .nil))))) follows Try.func63 (by kernel_rfl) (by kernel_rfl) Try.call63 (Eq.mpr (E_clauses_Norm a0 K h) hF)


/-- slices.SortFunc[[]salvor/lits.Lit,salvor/lits.Lit] -/
def F_slices_SortFunc_lits_Lit_lits_Lit (a0 : Sl) (a1 : Value) (K : Unit → HP) : HP :=
 callT Try.prog fn_math_bits_Len #[(.int .u64 (IntKind.wrap .u64 (a0.len : Int)))] (.int .i64) fun r0 =>
 callT Try.prog fn_slices_pdqsortCmpFunc_lits_Lit #[(.slice a0.a a0.len a0.cap), (.int .i64 (0 : Int)), (.int .i64 (a0.len : Int)), (.int .i64 r0), a1] (.tup .nil) fun r1 =>
 K (())
set_option maxRecDepth 100000 in
theorem E_slices_SortFunc_lits_Lit_lits_Lit (a0 : Sl) (a1 : Value) (K : Unit → HP) (h : Heap) : fnVC Try.prog [(1000000, .nil)] 14 Try.f64 [(.slice a0.a a0.len a0.cap), a1] (.tup .nil) K h = F_slices_SortFunc_lits_Lit_lits_Lit a0 a1 K h := by kernel_rfl
set_option maxRecDepth 100000 in
theorem S_slices_SortFunc_lits_Lit_lits_Lit{h : Heap} {a0 : Sl} {a1 : Value} (K : Unit → HP) (hF : F_slices_SortFunc_lits_Lit_lits_Lit a0 a1 K h) : CallsH Try.prog fn_slices_SortFunc_lits_Lit_lits_Lit #[(.slice a0.a a0.len a0.cap), a1] h fun v h' => ∃ x : Unit, v = Ty.enc (.tup .nil) x ∧ K x h' :=
  callsH_of_fn (P := Try.prog) (fn := Try.f64) (τ := (.tup .nil)) follows Try.func64 (by kernel_rfl) (by kernel_rfl) Try.call64 (Eq.mpr (E_slices_SortFunc_lits_Lit_lits_Lit a0 a1 K h) hF)


/-- salvor/lits.Compare -/
def F_lits_Compare (a0 : Int) (a1 : Int) (K : Int → HP) : HP :=
 callT Try.prog fn_lits_Index #[(.int .i64 a0)] (.tup (.cons (.int .i64) (.cons (.int .i64) .nil))) fun r0 =>
 callT Try.prog fn_lits_Index #[(.int .i64 a1)] (.tup (.cons (.int .i64) (.cons (.int .i64) .nil))) fun r1 =>
 brB (r0.2.1 == (0 : Int))
 (brB (r1.2.1 == (0 : Int))
 (callT Try.prog fn_cmp_Compare_int #[(.int .i64 r0.1), (.int .i64 r1.1)] (.int .i64) fun r2 =>
 K r2)
 (brB (r0.2.1 == (0 : Int))
 (K (1 : Int))
 (brB (r1.2.1 == (0 : Int))
 (K (-1 : Int))
 (callT Try.prog fn_cmp_Compare_lits_Lit #[(.int .i64 a0), (.int .i64 a1)] (.int .i64) fun r3 =>
 K r3))))
 (brB (r0.2.1 == (0 : Int))
 (K (1 : Int))
 (brB (r1.2.1 == (0 : Int))
 (K (-1 : Int))
 (callT Try.prog fn_cmp_Compare_lits_Lit #[(.int .i64 a0), (.int .i64 a1)] (.int .i64) fun r4 =>
 K r4)))
set_option maxRecDepth 100000 in
theorem E_lits_Compare (a0 : Int) (a1 : Int) (K : Int → HP) (h : Heap) : fnVC Try.prog [(1000000, .nil)] 38 Try.f65 [(.int .i64 a0), (.int .i64 a1)] (.int .i64) K h = F_lits_Compare a0 a1 K h := by kernel_rfl
set_option maxRecDepth 100000 in
theorem S_lits_Compare{h : Heap} {a0 : Int} {a1 : Int} (K : Int → HP) (hF : F_lits_Compare a0 a1 K h) : CallsH Try.prog fn_lits_Compare #[(.int .i64 a0), (.int .i64 a1)] h fun v h' => ∃ x : Int, v = Ty.enc (.int .i64) x ∧ K x h' :=
  callsH_of_fn (P := Try.prog) (fn := Try.f65) (τ := (.int .i64)) follows Try.func65 (by kernel_rfl) (by kernel_rfl) Try.call65 (Eq.mpr (E_lits_Compare a0 a1 K h) hF)


/-- (salvor/rup.values).look -/
def F_rup_values_look (a0 : Value) (a1 : Sl) (K : (Int × (Int × Unit)) → HP) : HP :=
 jn (σ := (Int × (Int × (Int × Unit)))) (fun s1 => /-  unit kind -/
 jn (σ := (Int × Unit)) (fun s3 => /- unit -/
 K (s1.2.2.1, s3.1, ()))
 (fun J2 =>
 brB (s1.2.2.1 != (3 : Int))
 (J2 ((0 : Int), ()))
 (J2 (s1.2.1, ()))))
 (fun J0 =>
 lfp (σ := (Int × (Int × (Int × Unit)))) (fun X4 s5 => /-  unit kind -/
 brB (decide (s5.1 < (a1.len : Int)))
 (jn (σ := (Int × (Int × Unit))) (fun s7 => /- unit kind -/
 X4 ((IntKind.wrap .i64 (s5.1 + (1 : Int))), s7.1, s7.2.1, ()))
 (fun J6 =>
 sx a1.a a1.len s5.1 1 fun p8 =>
 ldT (.int .i64) p8 fun x9 =>
 callT Try.prog fn_rup_values_of #[a0, (.int .i64 x9)] (.int .i64) fun r10 =>
 brB (decide (r10 > (0 : Int)))
 (J0 (s5.1, s5.2.1, (1 : Int), ()))
 (jn (σ := Bool) (fun t12 =>
 brB t12
 (J6 (s5.2.1, s5.2.2.1, ()))
 (jn (σ := (Int × (Int × Unit))) (fun s14 => /- unit kind -/
 J6 (s14.1, s14.2.1, ()))
 (fun J13 =>
 brB (s5.2.1 == (0 : Int))
 (J13 (x9, (3 : Int), ()))
 (J13 (s5.2.1, (4 : Int), ())))))
 (fun J11 =>
 brB (decide (r10 < (0 : Int)))
 (J11 true)
 (J11 ((x9 == s5.2.1)))))))
 (J0 (s5.1, s5.2.1, s5.2.2.1, ())))
 ((0 : Int), (0 : Int), (2 : Int), ()))
set_option maxRecDepth 100000 in
theorem E_rup_values_look (a0 : Value) (a1 : Sl) (K : (Int × (Int × Unit)) → HP) (h : Heap) : fnVC Try.prog [(1000000, .bool)] 40 Try.f66 [a0, (.slice a1.a a1.len a1.cap)] (.tup (.cons (.int .u8) (.cons (.int .i64) .nil))) K h = F_rup_values_look a0 a1 K h := by kernel_rfl
set_option maxRecDepth 100000 in
theorem S_rup_values_look{h : Heap} {a0 : Value} {a1 : Sl} (K : (Int × (Int × Unit)) → HP) (hF : F_rup_values_look a0 a1 K h) : CallsH Try.prog fn_rup_values_look #[a0, (.slice a1.a a1.len a1.cap)] h fun v h' => ∃ x : (Int × (Int × Unit)), v = Ty.enc (.tup (.cons (.int .u8) (.cons (.int .i64) .nil))) x ∧ K x h' :=
  callsH_of_fn (P := Try.prog) (fn := Try.f66) (τ := (.tup (.cons (.int .u8) (.cons (.int .i64) .nil)))) follows Try.func66 (by kernel_rfl) (by kernel_rfl) Try.call66 (Eq.mpr (E_rup_values_look a0 a1 K h) hF)


/-- salvor/salvorlaw08.Few$1 -/
def F_salvorlaw08_Few_1 (a0 : Sl) (c0 : Addr) (K : Bool → HP) : HP :=
 ldT (.int .i64) c0 fun x0 =>
 K (decide ((a0.len : Int) > x0))
set_option maxRecDepth 100000 in
theorem E_salvorlaw08_Few_1 (a0 : Sl) (c0 : Addr) (K : Bool → HP) (h : Heap) : fnVC Try.prog [(1000000, .bool)] 8 Try.f67 [(.slice a0.a a0.len a0.cap), (.pointer (some c0))] .bool K h = F_salvorlaw08_Few_1 a0 c0 K h := by kernel_rfl
set_option maxRecDepth 100000 in
theorem S_salvorlaw08_Few_1{h : Heap} {a0 : Sl} {c0 : Addr} (K : Bool → HP) (hF : F_salvorlaw08_Few_1 a0 c0 K h) : CallsH Try.prog fn_salvorlaw08_Few_1 #[(.slice a0.a a0.len a0.cap), (.pointer (some c0))] h fun v h' => ∃ x : Bool, v = Ty.enc .bool x ∧ K x h' :=
  callsH_of_fn (P := Try.prog) (fn := Try.f67) (τ := .bool) follows Try.func67 (by kernel_rfl) (by kernel_rfl) Try.call67 (Eq.mpr (E_salvorlaw08_Few_1 a0 c0 K h) hF)


/-- salvor/salvorlaw08.Copies -/
def F_salvorlaw08_Copies (a0 : Sl) (K : Sl → HP) : HP :=
 lfp (σ := (Int × (Sl × Unit))) (fun X0 s1 => /-  out -/
 brB (decide (s1.1 < (a0.len : Int)))
 (sx a0.a a0.len s1.1 1 fun p2 =>
 ldT .sl p2 fun x3 =>
 callT Try.prog fn_slices_Clone_clauses_Clause_lits_Lit #[(.slice x3.a x3.len x3.cap)] .sl fun r4 =>
 nw #[(.slice r4.a r4.len r4.cap)] ty_clauses_Clause fun b5 =>
 apd ty_clauses_Clause 1 24 #[(.slice none 0 0)] ⟨s1.2.1.a, s1.2.1.len, s1.2.1.cap⟩ ⟨(some (⟨b5, 0, none⟩ : Addr)), 1, 1⟩ fun s6 =>
 X0 ((IntKind.wrap .i64 (s1.1 + (1 : Int))), ⟨s6.a, s6.len, s6.cap⟩, ()))
 (K ⟨s1.2.1.a, s1.2.1.len, s1.2.1.cap⟩))
 ((0 : Int), ⟨none, 0, 0⟩, ())
set_option maxRecDepth 100000 in
theorem E_salvorlaw08_Copies (a0 : Sl) (K : Sl → HP) (h : Heap) : fnVC Try.prog [(1000000, .bool)] 19 Try.f68 [(.slice a0.a a0.len a0.cap)] .sl K h = F_salvorlaw08_Copies a0 K h := by kernel_rfl
set_option maxRecDepth 100000 in
theorem S_salvorlaw08_Copies{h : Heap} {a0 : Sl} (K : Sl → HP) (hF : F_salvorlaw08_Copies a0 K h) : CallsH Try.prog fn_salvorlaw08_Copies #[(.slice a0.a a0.len a0.cap)] h fun v h' => ∃ x : Sl, v = Ty.enc .sl x ∧ K x h' :=
  callsH_of_fn (P := Try.prog) (fn := Try.f68) (τ := .sl) follows Try.func68 (by kernel_rfl) (by kernel_rfl) Try.call68 (Eq.mpr (E_salvorlaw08_Copies a0 K h) hF)


/-- salvor/salvorref08.Clauses -/
def F_salvorref08_Clauses (a0 : Sl) (K : Bool → HP) : HP :=
 lfp (σ := (Int × (Bool × Unit))) (fun X0 s1 => /- i  -/
 brB (decide (s1.1 < (a0.len : Int)))
 (sx a0.a a0.len s1.1 1 fun p2 =>
 ldT .sl p2 fun x3 =>
 callT Try.prog fn_salvorref02_Right #[(.slice x3.a x3.len x3.cap)] .bool fun r4 =>
 brB (!r4)
 (K false)
 (X0 ((IntKind.wrap .i64 (s1.1 + (1 : Int))), s1.2.1, ())))
 (K true))
 ((0 : Int), false, ())
set_option maxRecDepth 100000 in
theorem E_salvorref08_Clauses (a0 : Sl) (K : Bool → HP) (h : Heap) : fnVC Try.prog [(1000000, .bool)] 16 Try.f69 [(.slice a0.a a0.len a0.cap)] .bool K h = F_salvorref08_Clauses a0 K h := by kernel_rfl
set_option maxRecDepth 100000 in
theorem S_salvorref08_Clauses{h : Heap} {a0 : Sl} (K : Bool → HP) (hF : F_salvorref08_Clauses a0 K h) : CallsH Try.prog fn_salvorref08_Clauses #[(.slice a0.a a0.len a0.cap)] h fun v h' => ∃ x : Bool, v = Ty.enc .bool x ∧ K x h' :=
  callsH_of_fn (P := Try.prog) (fn := Try.f69) (τ := .bool) follows Try.func69 (by kernel_rfl) (by kernel_rfl) Try.call69 (Eq.mpr (E_salvorref08_Clauses a0 K h) hF)


/-- salvor/salvorlaw08.Lists -/
def F_salvorlaw08_Lists (a0 : Sl) (K : Sl → HP) : HP :=
 lfp (σ := (Int × (Sl × Unit))) (fun X0 s1 => /-  out -/
 brB (decide (s1.1 < (a0.len : Int)))
 (sx a0.a a0.len s1.1 1 fun p2 =>
 ldT .sl p2 fun x3 =>
 callT Try.prog fn_salvorlaw08_Ints #[(.slice x3.a x3.len x3.cap)] .sl fun r4 =>
 nw #[(.slice r4.a r4.len r4.cap)] ty_sl_int fun b5 =>
 apd ty_sl_int 1 24 #[(.slice none 0 0)] ⟨s1.2.1.a, s1.2.1.len, s1.2.1.cap⟩ ⟨(some (⟨b5, 0, none⟩ : Addr)), 1, 1⟩ fun s6 =>
 X0 ((IntKind.wrap .i64 (s1.1 + (1 : Int))), ⟨s6.a, s6.len, s6.cap⟩, ()))
 (K ⟨s1.2.1.a, s1.2.1.len, s1.2.1.cap⟩))
 ((0 : Int), ⟨none, 0, 0⟩, ())
set_option maxRecDepth 100000 in
theorem E_salvorlaw08_Lists (a0 : Sl) (K : Sl → HP) (h : Heap) : fnVC Try.prog [(1000000, .bool)] 19 Try.f70 [(.slice a0.a a0.len a0.cap)] .sl K h = F_salvorlaw08_Lists a0 K h := by kernel_rfl
set_option maxRecDepth 100000 in
theorem S_salvorlaw08_Lists{h : Heap} {a0 : Sl} (K : Sl → HP) (hF : F_salvorlaw08_Lists a0 K h) : CallsH Try.prog fn_salvorlaw08_Lists #[(.slice a0.a a0.len a0.cap)] h fun v h' => ∃ x : Sl, v = Ty.enc .sl x ∧ K x h' :=
  callsH_of_fn (P := Try.prog) (fn := Try.f70) (τ := .sl) follows Try.func70 (by kernel_rfl) (by kernel_rfl) Try.call70 (Eq.mpr (E_salvorlaw08_Lists a0 K h) hF)


/-- salvor/salvorref08.Find -/
def F_salvorref08_Find (a0 : Sl) (a1 : Sl) (K : (Sl × (Bool × Unit)) → HP) : HP :=
 callT Try.prog fn_salvorref08_Assume #[(.slice a0.a a0.len a0.cap)] (.tup (.cons .sl (.cons .bool .nil))) fun r0 =>
 brB r0.2.1
 (K (⟨none, 0, 0⟩, true, ()))
 (lfp (σ := (Sl × (Sl × (Sl × (Sl × (Bool × (Sl × Unit))))))) (fun X1 s2 => /- hints units taken assigned   -/
 lfp (σ := (Int × (Int × (Int × (Int × Unit))))) (fun X3 s4 => /- i x kind best -/
 brB (decide (s4.1 < (a1.len : Int)))
 (sx a1.a a1.len s4.1 1 fun p5 =>
 ldT .sl p5 fun x6 =>
 callT Try.prog fn_salvorref08_Look #[(.slice x6.a x6.len x6.cap), (.slice s2.2.2.2.1.a s2.2.2.2.1.len s2.2.2.2.1.cap)] (.tup (.cons (.int .i64) (.cons (.int .i64) .nil))) fun r7 =>
 jn (σ := Bool) (fun t9 =>
 jn (σ := Bool) (fun t11 =>
 jn (σ := (Int × (Int × (Int × Unit)))) (fun s13 => /- x kind best -/
 X3 ((IntKind.wrap .i64 (s4.1 + (1 : Int))), s13.1, s13.2.1, s13.2.2.1, ()))
 (fun J12 =>
 brB t11
 (J12 (r7.2.1, r7.1, s4.1, ()))
 (J12 (s4.2.1, s4.2.2.1, s4.2.2.2.1, ()))))
 (fun J10 =>
 brB t9
 (J10 ((decide (r7.1 < s4.2.2.1))))
 (J10 false)))
 (fun J8 =>
 brB (r7.1 == (2 : Int))
 (J8 true)
 (J8 ((r7.1 == (3 : Int))))))
 (brB (decide (s4.2.2.2.1 < (0 : Int)))
 (K (⟨none, 0, 0⟩, false, ()))
 (nw #[(.int .i64 s4.2.2.2.1)] ty_int fun b14 =>
 apd ty_int 1 8 #[(.int .i64 (0 : Int))] ⟨s2.2.2.1.a, s2.2.2.1.len, s2.2.2.1.cap⟩ ⟨(some (⟨b14, 0, none⟩ : Addr)), 1, 1⟩ fun s15 =>
 sx a1.a a1.len s4.2.2.2.1 1 fun p16 =>
 ldT .sl p16 fun x17 =>
 nw #[(.slice x17.a x17.len x17.cap)] ty_sl_int fun b18 =>
 apd ty_sl_int 1 24 #[(.slice none 0 0)] ⟨s2.1.a, s2.1.len, s2.1.cap⟩ ⟨(some (⟨b18, 0, none⟩ : Addr)), 1, 1⟩ fun s19 =>
 brB (s4.2.2.1 == (2 : Int))
 (callT Try.prog fn_salvorref08_without #[(.slice s19.a s19.len s19.cap), (.slice s2.2.1.a s2.2.1.len s2.2.1.cap)] .sl fun r20 =>
 lfp (σ := (Int × (Sl × Unit))) (fun X21 s22 => /- i out -/
 brB (decide (s22.1 < (r20.len : Int)))
 (sx r20.a r20.len s22.1 1 fun p23 =>
 ldT (.int .i64) p23 fun x24 =>
 sx s15.a s15.len x24 1 fun p25 =>
 ldT (.int .i64) p25 fun x26 =>
 nw #[(.int .i64 x26)] ty_int fun b27 =>
 apd ty_int 1 8 #[(.int .i64 (0 : Int))] ⟨s22.2.1.a, s22.2.1.len, s22.2.1.cap⟩ ⟨(some (⟨b27, 0, none⟩ : Addr)), 1, 1⟩ fun s28 =>
 X21 ((IntKind.wrap .i64 (s22.1 + (1 : Int))), ⟨s28.a, s28.len, s28.cap⟩, ()))
 (K (⟨s22.2.1.a, s22.2.1.len, s22.2.1.cap⟩, true, ())))
 ((0 : Int), ⟨none, 0, 0⟩, ()))
 (nw #[(.int .i64 s4.2.1)] ty_int fun b29 =>
 apd ty_int 1 8 #[(.int .i64 (0 : Int))] ⟨s2.2.1.a, s2.2.1.len, s2.2.1.cap⟩ ⟨(some (⟨b29, 0, none⟩ : Addr)), 1, 1⟩ fun s30 =>
 nw #[(.int .i64 s4.2.1)] ty_int fun b31 =>
 apd ty_int 1 8 #[(.int .i64 (0 : Int))] ⟨s2.2.2.2.1.a, s2.2.2.2.1.len, s2.2.2.2.1.cap⟩ ⟨(some (⟨b31, 0, none⟩ : Addr)), 1, 1⟩ fun s32 =>
 X1 (⟨s19.a, s19.len, s19.cap⟩, ⟨s30.a, s30.len, s30.cap⟩, ⟨s15.a, s15.len, s15.cap⟩, ⟨s32.a, s32.len, s32.cap⟩, s2.2.2.2.2.1, ⟨s2.2.2.2.2.2.1.a, s2.2.2.2.2.2.1.len, s2.2.2.2.2.2.1.cap⟩, ())))))
 ((0 : Int), (0 : Int), (9 : Int), (-1 : Int), ()))
 (⟨none, 0, 0⟩, ⟨none, 0, 0⟩, ⟨none, 0, 0⟩, ⟨r0.1.a, r0.1.len, r0.1.cap⟩, false, ⟨none, 0, 0⟩, ()))
set_option maxRecDepth 100000 in
theorem E_salvorref08_Find (a0 : Sl) (a1 : Sl) (K : (Sl × (Bool × Unit)) → HP) (h : Heap) : fnVC Try.prog [(1000000, .bool)] 98 Try.f71 [(.slice a0.a a0.len a0.cap), (.slice a1.a a1.len a1.cap)] (.tup (.cons .sl (.cons .bool .nil))) K h = F_salvorref08_Find a0 a1 K h := by kernel_rfl
set_option maxRecDepth 100000 in
theorem S_salvorref08_Find{h : Heap} {a0 : Sl} {a1 : Sl} (K : (Sl × (Bool × Unit)) → HP) (hF : F_salvorref08_Find a0 a1 K h) : CallsH Try.prog fn_salvorref08_Find #[(.slice a0.a a0.len a0.cap), (.slice a1.a a1.len a1.cap)] h fun v h' => ∃ x : (Sl × (Bool × Unit)), v = Ty.enc (.tup (.cons .sl (.cons .bool .nil))) x ∧ K x h' :=
  callsH_of_fn (P := Try.prog) (fn := Try.f71) (τ := (.tup (.cons .sl (.cons .bool .nil)))) follows Try.func71 (by kernel_rfl) (by kernel_rfl) Try.call71 (Eq.mpr (E_salvorref08_Find a0 a1 K h) hF)


/-- salvor/salvorlaw08.SameLists -/
def F_salvorlaw08_SameLists (a0 : Sl) (a1 : Sl) (K : Bool → HP) : HP :=
 callT Try.prog fn_slices_EqualFunc_clauses_Clause_clauses_Clause_clauses_Clause_clauses_Clause #[(.slice a0.a a0.len a0.cap), (.slice a1.a a1.len a1.cap), (.func (.func fn_salvorlaw08_SameLists_1) #[] #[])] .bool fun r0 =>
 K r0
set_option maxRecDepth 100000 in
theorem E_salvorlaw08_SameLists (a0 : Sl) (a1 : Sl) (K : Bool → HP) (h : Heap) : fnVC Try.prog [(1000000, .bool)] 8 Try.f72 [(.slice a0.a a0.len a0.cap), (.slice a1.a a1.len a1.cap)] .bool K h = F_salvorlaw08_SameLists a0 a1 K h := by kernel_rfl
set_option maxRecDepth 100000 in
theorem S_salvorlaw08_SameLists{h : Heap} {a0 : Sl} {a1 : Sl} (K : Bool → HP) (hF : F_salvorlaw08_SameLists a0 a1 K h) : CallsH Try.prog fn_salvorlaw08_SameLists #[(.slice a0.a a0.len a0.cap), (.slice a1.a a1.len a1.cap)] h fun v h' => ∃ x : Bool, v = Ty.enc .bool x ∧ K x h' :=
  callsH_of_fn (P := Try.prog) (fn := Try.f72) (τ := .bool) follows Try.func72 (by kernel_rfl) (by kernel_rfl) Try.call72 (Eq.mpr (E_salvorlaw08_SameLists a0 a1 K h) hF)


/-- slices.Grow[[]salvor/clauses.Clause,salvor/clauses.Clause] -/
def F_slices_Grow_clauses_Clause_clauses_Clause (a0 : Sl) (a1 : Int) (K : Sl → HP) : HP :=
 jn (σ := Unit) (fun s1 => /- -/
 jn (σ := (Sl × Unit)) (fun s3 => /- s -/
 K ⟨s3.1.a, s3.1.len, s3.1.cap⟩)
 (fun J2 =>
 brB (decide ((IntKind.wrap .i64 (a1 - (IntKind.wrap .i64 ((a0.cap : Int) - (a0.len : Int))))) > (0 : Int)))
 (slH ⟨a0.a, a0.len, a0.cap⟩ (a0.cap : Int) 1 fun s4 =>
 apz ty_clauses_Clause 1 24 #[(.slice none 0 0)] ⟨s4.a, s4.len, s4.cap⟩ (IntKind.wrap .i64 (a1 - (IntKind.wrap .i64 ((a0.cap : Int) - (a0.len : Int))))) fun s5 =>
 slH ⟨s5.a, s5.len, s5.cap⟩ (a0.len : Int) 1 fun s6 =>
 J2 (⟨s6.a, s6.len, s6.cap⟩, ()))
 (J2 (⟨a0.a, a0.len, a0.cap⟩, ()))))
 (fun J0 =>
 brB (decide (a1 < (0 : Int)))
 (fF /- not known -/)
 (J0 (())))
set_option maxRecDepth 100000 in
theorem E_slices_Grow_clauses_Clause_clauses_Clause (a0 : Sl) (a1 : Int) (K : Sl → HP) (h : Heap) : fnVC Try.prog [(1000000, .nil)] 27 Try.f73 [(.slice a0.a a0.len a0.cap), (.int .i64 a1)] .sl K h = F_slices_Grow_clauses_Clause_clauses_Clause a0 a1 K h := by kernel_rfl
set_option maxRecDepth 100000 in
theorem S_slices_Grow_clauses_Clause_clauses_Clause{h : Heap} {a0 : Sl} {a1 : Int} (K : Sl → HP) (hF : F_slices_Grow_clauses_Clause_clauses_Clause a0 a1 K h) : CallsH Try.prog fn_slices_Grow_clauses_Clause_clauses_Clause #[(.slice a0.a a0.len a0.cap), (.int .i64 a1)] h fun v h' => ∃ x : Sl, v = Ty.enc .sl x ∧ K x h' :=
  callsH_of_fn (P := Try.prog) (fn := Try.f73) (τ := .sl) follows Try.func73 (by kernel_rfl) (by kernel_rfl) Try.call73 (Eq.mpr (E_slices_Grow_clauses_Clause_clauses_Clause a0 a1 K h) hF)


/-- slices.Grow[salvor/clauses.Clause,salvor/lits.Lit] -/
def F_slices_Grow_clauses_Clause_lits_Lit (a0 : Sl) (a1 : Int) (K : Sl → HP) : HP :=
 jn (σ := Unit) (fun s1 => /- -/
 jn (σ := (Sl × Unit)) (fun s3 => /- s -/
 K ⟨s3.1.a, s3.1.len, s3.1.cap⟩)
 (fun J2 =>
 brB (decide ((IntKind.wrap .i64 (a1 - (IntKind.wrap .i64 ((a0.cap : Int) - (a0.len : Int))))) > (0 : Int)))
 (slH ⟨a0.a, a0.len, a0.cap⟩ (a0.cap : Int) 1 fun s4 =>
 apz ty_lits_Lit 1 8 #[(.int .i64 (0 : Int))] ⟨s4.a, s4.len, s4.cap⟩ (IntKind.wrap .i64 (a1 - (IntKind.wrap .i64 ((a0.cap : Int) - (a0.len : Int))))) fun s5 =>
 slH ⟨s5.a, s5.len, s5.cap⟩ (a0.len : Int) 1 fun s6 =>
 J2 (⟨s6.a, s6.len, s6.cap⟩, ()))
 (J2 (⟨a0.a, a0.len, a0.cap⟩, ()))))
 (fun J0 =>
 brB (decide (a1 < (0 : Int)))
 (fF /- not known -/)
 (J0 (())))
set_option maxRecDepth 100000 in
theorem E_slices_Grow_clauses_Clause_lits_Lit (a0 : Sl) (a1 : Int) (K : Sl → HP) (h : Heap) : fnVC Try.prog [(1000000, .nil)] 27 Try.f74 [(.slice a0.a a0.len a0.cap), (.int .i64 a1)] .sl K h = F_slices_Grow_clauses_Clause_lits_Lit a0 a1 K h := by kernel_rfl
set_option maxRecDepth 100000 in
theorem S_slices_Grow_clauses_Clause_lits_Lit{h : Heap} {a0 : Sl} {a1 : Int} (K : Sl → HP) (hF : F_slices_Grow_clauses_Clause_lits_Lit a0 a1 K h) : CallsH Try.prog fn_slices_Grow_clauses_Clause_lits_Lit #[(.slice a0.a a0.len a0.cap), (.int .i64 a1)] h fun v h' => ∃ x : Sl, v = Ty.enc .sl x ∧ K x h' :=
  callsH_of_fn (P := Try.prog) (fn := Try.f74) (τ := .sl) follows Try.func74 (by kernel_rfl) (by kernel_rfl) Try.call74 (Eq.mpr (E_slices_Grow_clauses_Clause_lits_Lit a0 a1 K h) hF)


/-- slices.Index[[]int,int] -/
def F_slices_Index_int_int (a0 : Sl) (a1 : Int) (K : Int → HP) : HP :=
 lfp (σ := (Int × (Int × Unit))) (fun X0 s1 => /-   -/
 brB (decide (s1.1 < (a0.len : Int)))
 (sx a0.a a0.len s1.1 1 fun p2 =>
 ldT (.int .i64) p2 fun x3 =>
 brB (a1 == x3)
 (K s1.1)
 (X0 ((IntKind.wrap .i64 (s1.1 + (1 : Int))), s1.2.1, ())))
 (K (-1 : Int)))
 ((0 : Int), (0 : Int), ())
set_option maxRecDepth 100000 in
theorem E_slices_Index_int_int (a0 : Sl) (a1 : Int) (K : Int → HP) (h : Heap) : fnVC Try.prog [(1000000, .nil)] 19 Try.f75 [(.slice a0.a a0.len a0.cap), (.int .i64 a1)] (.int .i64) K h = F_slices_Index_int_int a0 a1 K h := by kernel_rfl
set_option maxRecDepth 100000 in
theorem S_slices_Index_int_int{h : Heap} {a0 : Sl} {a1 : Int} (K : Int → HP) (hF : F_slices_Index_int_int a0 a1 K h) : CallsH Try.prog fn_slices_Index_int_int #[(.slice a0.a a0.len a0.cap), (.int .i64 a1)] h fun v h' => ∃ x : Int, v = Ty.enc (.int .i64) x ∧ K x h' :=
  callsH_of_fn (P := Try.prog) (fn := Try.f75) (τ := (.int .i64)) follows Try.func75 (by kernel_rfl) (by kernel_rfl) Try.call75 (Eq.mpr (E_slices_Index_int_int a0 a1 K h) hF)


/-- (salvor/rup.values).follow -/
def F_rup_values_follow (a0 : Value) (a1 : Sl) (K : (Sl × (Int × (Bool × (Int × Unit)))) → HP) : HP :=
 lfp (σ := (Int × (Sl × (Int × (Bool × (Int × (Sl × Unit))))))) (fun X0 s1 => /-  out     -/
 brB (decide (s1.1 < (a1.len : Int)))
 (sx a1.a a1.len s1.1 1 fun p2 =>
 ldT .sl p2 fun x3 =>
 callT Try.prog fn_rup_values_look #[a0, (.slice x3.a x3.len x3.cap)] (.tup (.cons (.int .u8) (.cons (.int .i64) .nil))) fun r4 =>
 brB (r4.1 == (2 : Int))
 (K (⟨s1.2.1.a, s1.2.1.len, s1.2.1.cap⟩, (IntKind.wrap .i64 (s1.1 + (1 : Int))), true, (0 : Int), ()))
 (brB (r4.1 == (3 : Int))
 (nw #[(.int .i64 r4.2.1)] ty_lits_Lit fun b5 =>
 apd ty_lits_Lit 1 8 #[(.int .i64 (0 : Int))] ⟨s1.2.1.a, s1.2.1.len, s1.2.1.cap⟩ ⟨(some (⟨b5, 0, none⟩ : Addr)), 1, 1⟩ fun s6 =>
 callT Try.prog fn_rup_values_put #[a0, (.int .i64 r4.2.1)] (.tup .nil) fun r7 =>
 X0 ((IntKind.wrap .i64 (s1.1 + (1 : Int))), ⟨s6.a, s6.len, s6.cap⟩, s1.2.2.1, s1.2.2.2.1, s1.2.2.2.2.1, ⟨s1.2.2.2.2.2.1.a, s1.2.2.2.2.2.1.len, s1.2.2.2.2.2.1.cap⟩, ()))
 (K (⟨none, 0, 0⟩, s1.1, false, (81 : Int), ()))))
 (K (⟨s1.2.1.a, s1.2.1.len, s1.2.1.cap⟩, (a1.len : Int), false, (0 : Int), ())))
 ((0 : Int), ⟨none, 0, 0⟩, (0 : Int), false, (0 : Int), ⟨none, 0, 0⟩, ())
set_option maxRecDepth 100000 in
theorem E_rup_values_follow (a0 : Value) (a1 : Sl) (K : (Sl × (Int × (Bool × (Int × Unit)))) → HP) (h : Heap) : fnVC Try.prog [(1000000, .bool)] 46 Try.f76 [a0, (.slice a1.a a1.len a1.cap)] (.tup (.cons .sl (.cons (.int .i64) (.cons .bool (.cons (.int .i64) .nil))))) K h = F_rup_values_follow a0 a1 K h := by kernel_rfl
set_option maxRecDepth 100000 in
theorem S_rup_values_follow{h : Heap} {a0 : Value} {a1 : Sl} (K : (Sl × (Int × (Bool × (Int × Unit)))) → HP) (hF : F_rup_values_follow a0 a1 K h) : CallsH Try.prog fn_rup_values_follow #[a0, (.slice a1.a a1.len a1.cap)] h fun v h' => ∃ x : (Sl × (Int × (Bool × (Int × Unit)))), v = Ty.enc (.tup (.cons .sl (.cons (.int .i64) (.cons .bool (.cons (.int .i64) .nil))))) x ∧ K x h' :=
  callsH_of_fn (P := Try.prog) (fn := Try.f76) (τ := (.tup (.cons .sl (.cons (.int .i64) (.cons .bool (.cons (.int .i64) .nil)))))) follows Try.func76 (by kernel_rfl) (by kernel_rfl) Try.call76 (Eq.mpr (E_rup_values_follow a0 a1 K h) hF)


/-- slices.Contains[salvor/clauses.Clause,salvor/lits.Lit] -/
def F_slices_Contains_clauses_Clause_lits_Lit (a0 : Sl) (a1 : Int) (K : Bool → HP) : HP :=
 callT Try.prog fn_slices_Index_clauses_Clause_lits_Lit #[(.slice a0.a a0.len a0.cap), (.int .i64 a1)] (.int .i64) fun r0 =>
 K (decide (r0 ≥ (0 : Int)))
set_option maxRecDepth 100000 in
theorem E_slices_Contains_clauses_Clause_lits_Lit (a0 : Sl) (a1 : Int) (K : Bool → HP) (h : Heap) : fnVC Try.prog [(1000000, .nil)] 9 Try.f77 [(.slice a0.a a0.len a0.cap), (.int .i64 a1)] .bool K h = F_slices_Contains_clauses_Clause_lits_Lit a0 a1 K h := by kernel_rfl
set_option maxRecDepth 100000 in
theorem S_slices_Contains_clauses_Clause_lits_Lit{h : Heap} {a0 : Sl} {a1 : Int} (K : Bool → HP) (hF : F_slices_Contains_clauses_Clause_lits_Lit a0 a1 K h) : CallsH Try.prog fn_slices_Contains_clauses_Clause_lits_Lit #[(.slice a0.a a0.len a0.cap), (.int .i64 a1)] h fun v h' => ∃ x : Bool, v = Ty.enc .bool x ∧ K x h' :=
  callsH_of_fn (P := Try.prog) (fn := Try.f77) (τ := .bool) follows Try.func77 (by kernel_rfl) (by kernel_rfl) Try.call77 (Eq.mpr (E_slices_Contains_clauses_Clause_lits_Lit a0 a1 K h) hF)


/-- slices.Index[[]salvor/lits.Lit,salvor/lits.Lit] -/
def F_slices_Index_lits_Lit_lits_Lit (a0 : Sl) (a1 : Int) (K : Int → HP) : HP :=
 lfp (σ := (Int × (Int × Unit))) (fun X0 s1 => /-   -/
 brB (decide (s1.1 < (a0.len : Int)))
 (sx a0.a a0.len s1.1 1 fun p2 =>
 ldT (.int .i64) p2 fun x3 =>
 brB (a1 == x3)
 (K s1.1)
 (X0 ((IntKind.wrap .i64 (s1.1 + (1 : Int))), s1.2.1, ())))
 (K (-1 : Int)))
 ((0 : Int), (0 : Int), ())
set_option maxRecDepth 100000 in
theorem E_slices_Index_lits_Lit_lits_Lit (a0 : Sl) (a1 : Int) (K : Int → HP) (h : Heap) : fnVC Try.prog [(1000000, .nil)] 19 Try.f78 [(.slice a0.a a0.len a0.cap), (.int .i64 a1)] (.int .i64) K h = F_slices_Index_lits_Lit_lits_Lit a0 a1 K h := by kernel_rfl
set_option maxRecDepth 100000 in
theorem S_slices_Index_lits_Lit_lits_Lit{h : Heap} {a0 : Sl} {a1 : Int} (K : Int → HP) (hF : F_slices_Index_lits_Lit_lits_Lit a0 a1 K h) : CallsH Try.prog fn_slices_Index_lits_Lit_lits_Lit #[(.slice a0.a a0.len a0.cap), (.int .i64 a1)] h fun v h' => ∃ x : Int, v = Ty.enc (.int .i64) x ∧ K x h' :=
  callsH_of_fn (P := Try.prog) (fn := Try.f78) (τ := (.int .i64)) follows Try.func78 (by kernel_rfl) (by kernel_rfl) Try.call78 (Eq.mpr (E_slices_Index_lits_Lit_lits_Lit a0 a1 K h) hF)


/-- salvor/salvorref08.Follow -/
def F_salvorref08_Follow (a0 : Sl) (a1 : Sl) (K : (Sl × (Int × (Bool × (Int × Unit)))) → HP) : HP :=
 callT Try.prog fn_salvorref08_Clauses #[(.slice a1.a a1.len a1.cap)] .bool fun r0 =>
 brB (!r0)
 (K (⟨none, 0, 0⟩, (0 : Int), false, (20 : Int), ()))
 (callT Try.prog fn_salvorref08_Right #[(.slice a0.a a0.len a0.cap)] .bool fun r1 =>
 brB (!r1)
 (K (⟨none, 0, 0⟩, (0 : Int), false, (80 : Int), ()))
 (brB (decide ((a1.len : Int) > (65536 : Int)))
 (K (⟨none, 0, 0⟩, (0 : Int), false, (5 : Int), ()))
 (callT Try.prog fn_salvorref08_follow #[(.slice a0.a a0.len a0.cap), (.slice a1.a a1.len a1.cap)] (.tup (.cons .sl (.cons (.int .i64) (.cons .bool (.cons (.int .i64) .nil))))) fun r2 =>
 K (⟨r2.1.a, r2.1.len, r2.1.cap⟩, r2.2.1, r2.2.2.1, r2.2.2.2.1, ()))))
set_option maxRecDepth 100000 in
theorem E_salvorref08_Follow (a0 : Sl) (a1 : Sl) (K : (Sl × (Int × (Bool × (Int × Unit)))) → HP) (h : Heap) : fnVC Try.prog [(1000000, .bool)] 24 Try.f79 [(.slice a0.a a0.len a0.cap), (.slice a1.a a1.len a1.cap)] (.tup (.cons .sl (.cons (.int .i64) (.cons .bool (.cons (.int .i64) .nil))))) K h = F_salvorref08_Follow a0 a1 K h := by kernel_rfl
set_option maxRecDepth 100000 in
theorem S_salvorref08_Follow{h : Heap} {a0 : Sl} {a1 : Sl} (K : (Sl × (Int × (Bool × (Int × Unit)))) → HP) (hF : F_salvorref08_Follow a0 a1 K h) : CallsH Try.prog fn_salvorref08_Follow #[(.slice a0.a a0.len a0.cap), (.slice a1.a a1.len a1.cap)] h fun v h' => ∃ x : (Sl × (Int × (Bool × (Int × Unit)))), v = Ty.enc (.tup (.cons .sl (.cons (.int .i64) (.cons .bool (.cons (.int .i64) .nil))))) x ∧ K x h' :=
  callsH_of_fn (P := Try.prog) (fn := Try.f79) (τ := (.tup (.cons .sl (.cons (.int .i64) (.cons .bool (.cons (.int .i64) .nil)))))) follows Try.func79 (by kernel_rfl) (by kernel_rfl) Try.call79 (Eq.mpr (E_salvorref08_Follow a0 a1 K h) hF)


/-- salvor/salvorref08.Check -/
def F_salvorref08_Check (a0 : Sl) (a1 : Sl) (K : (Int × (Int × Unit)) → HP) : HP :=
 callT Try.prog fn_salvorref02_Right #[(.slice a0.a a0.len a0.cap)] .bool fun r0 =>
 jn (σ := Bool) (fun t2 =>
 brB t2
 (K ((0 : Int), (20 : Int), ()))
 (brB (decide ((a1.len : Int) > (65536 : Int)))
 (K ((0 : Int), (5 : Int), ()))
 (callT Try.prog fn_salvorref08_Assume #[(.slice a0.a a0.len a0.cap)] (.tup (.cons .sl (.cons .bool .nil))) fun r3 =>
 brB r3.2.1
 (K ((0 : Int), (0 : Int), ()))
 (callT Try.prog fn_salvorref08_follow #[(.slice r3.1.a r3.1.len r3.1.cap), (.slice a1.a a1.len a1.cap)] (.tup (.cons .sl (.cons (.int .i64) (.cons .bool (.cons (.int .i64) .nil))))) fun r4 =>
 jn (σ := Bool) (fun t6 =>
 jn (σ := (Int × Unit)) (fun s8 => /- e -/
 K (r4.2.1, s8.1, ()))
 (fun J7 =>
 brB t6
 (J7 ((82 : Int), ()))
 (J7 (r4.2.2.2.1, ()))))
 (fun J5 =>
 brB (r4.2.2.2.1 == (0 : Int))
 (J5 ((!r4.2.2.1)))
 (J5 false))))))
 (fun J1 =>
 brB (!r0)
 (J1 true)
 (callT Try.prog fn_salvorref08_Clauses #[(.slice a1.a a1.len a1.cap)] .bool fun r9 =>
 J1 ((!r9))))
set_option maxRecDepth 100000 in
theorem E_salvorref08_Check (a0 : Sl) (a1 : Sl) (K : (Int × (Int × Unit)) → HP) (h : Heap) : fnVC Try.prog [(1000000, .bool)] 45 Try.f80 [(.slice a0.a a0.len a0.cap), (.slice a1.a a1.len a1.cap)] (.tup (.cons (.int .i64) (.cons (.int .i64) .nil))) K h = F_salvorref08_Check a0 a1 K h := by kernel_rfl
set_option maxRecDepth 100000 in
theorem S_salvorref08_Check{h : Heap} {a0 : Sl} {a1 : Sl} (K : (Int × (Int × Unit)) → HP) (hF : F_salvorref08_Check a0 a1 K h) : CallsH Try.prog fn_salvorref08_Check #[(.slice a0.a a0.len a0.cap), (.slice a1.a a1.len a1.cap)] h fun v h' => ∃ x : (Int × (Int × Unit)), v = Ty.enc (.tup (.cons (.int .i64) (.cons (.int .i64) .nil))) x ∧ K x h' :=
  callsH_of_fn (P := Try.prog) (fn := Try.f80) (τ := (.tup (.cons (.int .i64) (.cons (.int .i64) .nil)))) follows Try.func80 (by kernel_rfl) (by kernel_rfl) Try.call80 (Eq.mpr (E_salvorref08_Check a0 a1 K h) hF)


/-- salvor/salvorref08.Trim -/
def F_salvorref08_Trim (a0 : Sl) (a1 : Sl) (K : (Sl × (Int × Unit)) → HP) : HP :=
 callT Try.prog fn_salvorref08_Check #[(.slice a0.a a0.len a0.cap), (.slice a1.a a1.len a1.cap)] (.tup (.cons (.int .i64) (.cons (.int .i64) .nil))) fun r0 =>
 jn (σ := Bool) (fun t2 =>
 brB t2
 (K (⟨none, 0, 0⟩, r0.2.1, ()))
 (callT Try.prog fn_salvorref08_Assume #[(.slice a0.a a0.len a0.cap)] (.tup (.cons .sl (.cons .bool .nil))) fun r3 =>
 slH ⟨a1.a, a1.len, a1.cap⟩ r0.1 1 fun s4 =>
 callT Try.prog fn_salvorref08_follow #[(.slice r3.1.a r3.1.len r3.1.cap), (.slice s4.a s4.len s4.cap)] (.tup (.cons .sl (.cons (.int .i64) (.cons .bool (.cons (.int .i64) .nil))))) fun r5 =>
 slH ⟨a1.a, a1.len, a1.cap⟩ r0.1 1 fun s6 =>
 slL ⟨r5.1.a, r5.1.len, r5.1.cap⟩ (r3.1.len : Int) 1 fun s7 =>
 callT Try.prog fn_salvorref08_without #[(.slice s6.a s6.len s6.cap), (.slice s7.a s7.len s7.cap)] .sl fun r8 =>
 K (⟨r8.a, r8.len, r8.cap⟩, (0 : Int), ())))
 (fun J1 =>
 brB (r0.2.1 != (0 : Int))
 (J1 true)
 (J1 ((r0.1 == (0 : Int)))))
set_option maxRecDepth 100000 in
theorem E_salvorref08_Trim (a0 : Sl) (a1 : Sl) (K : (Sl × (Int × Unit)) → HP) (h : Heap) : fnVC Try.prog [(1000000, .bool)] 50 Try.f81 [(.slice a0.a a0.len a0.cap), (.slice a1.a a1.len a1.cap)] (.tup (.cons .sl (.cons (.int .i64) .nil))) K h = F_salvorref08_Trim a0 a1 K h := by kernel_rfl
set_option maxRecDepth 100000 in
theorem S_salvorref08_Trim{h : Heap} {a0 : Sl} {a1 : Sl} (K : (Sl × (Int × Unit)) → HP) (hF : F_salvorref08_Trim a0 a1 K h) : CallsH Try.prog fn_salvorref08_Trim #[(.slice a0.a a0.len a0.cap), (.slice a1.a a1.len a1.cap)] h fun v h' => ∃ x : (Sl × (Int × Unit)), v = Ty.enc (.tup (.cons .sl (.cons (.int .i64) .nil))) x ∧ K x h' :=
  callsH_of_fn (P := Try.prog) (fn := Try.f81) (τ := (.tup (.cons .sl (.cons (.int .i64) .nil)))) follows Try.func81 (by kernel_rfl) (by kernel_rfl) Try.call81 (Eq.mpr (E_salvorref08_Trim a0 a1 K h) hF)


/-- math/bits.Mul -/
def F_math_bits_Mul (a0 : Int) (a1 : Int) (K : (Int × (Int × Unit)) → HP) : HP :=
 callT Try.prog fn_math_bits_Mul64 #[(.int .u64 a0), (.int .u64 a1)] (.tup (.cons (.int .u64) (.cons (.int .u64) .nil))) fun r0 =>
 K (r0.1, r0.2.1, ())
set_option maxRecDepth 100000 in
theorem E_math_bits_Mul (a0 : Int) (a1 : Int) (K : (Int × (Int × Unit)) → HP) (h : Heap) : fnVC Try.prog [(1000000, .nil)] 30 Try.f82 [(.int .u64 a0), (.int .u64 a1)] (.tup (.cons (.int .u64) (.cons (.int .u64) .nil))) K h = F_math_bits_Mul a0 a1 K h := by kernel_rfl
set_option maxRecDepth 100000 in
theorem S_math_bits_Mul{h : Heap} {a0 : Int} {a1 : Int} (K : (Int × (Int × Unit)) → HP) (hF : F_math_bits_Mul a0 a1 K h) : CallsH Try.prog fn_math_bits_Mul #[(.int .u64 a0), (.int .u64 a1)] h fun v h' => ∃ x : (Int × (Int × Unit)), v = Ty.enc (.tup (.cons (.int .u64) (.cons (.int .u64) .nil))) x ∧ K x h' :=
  callsH_of_fn (P := Try.prog) (fn := Try.f82) (τ := (.tup (.cons (.int .u64) (.cons (.int .u64) .nil)))) follows Try.func82 (by kernel_rfl) (by kernel_rfl) Try.call82 (Eq.mpr (E_math_bits_Mul a0 a1 K h) hF)


/-- slices.rotateRight[salvor/clauses.Clause] -/
def F_slices_rotateRight_clauses_Clause (a0 : Sl) (a1 : Int) (K : Unit → HP) : HP :=
 callT Try.prog fn_slices_rotateLeft_clauses_Clause #[(.slice a0.a a0.len a0.cap), (.int .i64 (IntKind.wrap .i64 ((a0.len : Int) - a1)))] (.tup .nil) fun r0 =>
 K (())
set_option maxRecDepth 100000 in
theorem E_slices_rotateRight_clauses_Clause (a0 : Sl) (a1 : Int) (K : Unit → HP) (h : Heap) : fnVC Try.prog [(1000000, .nil)] 10 Try.f84 [(.slice a0.a a0.len a0.cap), (.int .i64 a1)] (.tup .nil) K h = F_slices_rotateRight_clauses_Clause a0 a1 K h := by kernel_rfl
set_option maxRecDepth 100000 in
theorem S_slices_rotateRight_clauses_Clause{h : Heap} {a0 : Sl} {a1 : Int} (K : Unit → HP) (hF : F_slices_rotateRight_clauses_Clause a0 a1 K h) : CallsH Try.prog fn_slices_rotateRight_clauses_Clause #[(.slice a0.a a0.len a0.cap), (.int .i64 a1)] h fun v h' => ∃ x : Unit, v = Ty.enc (.tup .nil) x ∧ K x h' :=
  callsH_of_fn (P := Try.prog) (fn := Try.f84) (τ := (.tup .nil)) follows Try.func84 (by kernel_rfl) (by kernel_rfl) Try.call84 (Eq.mpr (E_slices_rotateRight_clauses_Clause a0 a1 K h) hF)


/-- (salvor/rup.values).of -/
def F_rup_values_of (a0 : Value) (a1 : Int) (K : Int → HP) : HP :=
 callT Try.prog fn_lits_Var #[(.int .i64 a1)] (.int .i64) fun r0 =>
 mget (.int .i64) .i64 (.int .i64 (0 : Int)) a0 r0 fun x1 =>
 callT Try.prog fn_lits_Negated #[(.int .i64 a1)] .bool fun r2 =>
 brB r2
 (K (IntKind.wrap .i64 (0 - x1)))
 (K x1)
set_option maxRecDepth 100000 in
theorem E_rup_values_of (a0 : Value) (a1 : Int) (K : Int → HP) (h : Heap) : fnVC Try.prog [(1000000, .bool)] 15 Try.f85 [a0, (.int .i64 a1)] (.int .i64) K h = F_rup_values_of a0 a1 K h := by kernel_rfl
set_option maxRecDepth 100000 in
theorem S_rup_values_of{h : Heap} {a0 : Value} {a1 : Int} (K : Int → HP) (hF : F_rup_values_of a0 a1 K h) : CallsH Try.prog fn_rup_values_of #[a0, (.int .i64 a1)] h fun v h' => ∃ x : Int, v = Ty.enc (.int .i64) x ∧ K x h' :=
  callsH_of_fn (P := Try.prog) (fn := Try.f85) (τ := (.int .i64)) follows Try.func85 (by kernel_rfl) (by kernel_rfl) Try.call85 (Eq.mpr (E_rup_values_of a0 a1 K h) hF)


/-- (salvor/rup.values).moving -/
def F_rup_values_moving (a0 : Value) (a1 : Sl) (a2 : Int) (K : Value → HP) : HP :=
 nw (Value.cells a0) ty_rup_values fun b0 =>
 nw #[(.slice a1.a a1.len a1.cap)] ty_sl_clauses_Clause fun b1 =>
 nw #[(.int .u8 a2)] ty_uint8 fun b2 =>
 K (.func (.func fn_rup_values_moving_1) #[] #[(.pointer (some (⟨b1, 0, none⟩ : Addr))), (.pointer (some (⟨b0, 0, none⟩ : Addr))), (.pointer (some (⟨b2, 0, none⟩ : Addr)))])
set_option maxRecDepth 100000 in
theorem E_rup_values_moving (a0 : Value) (a1 : Sl) (a2 : Int) (K : Value → HP) (h : Heap) : fnVC Try.prog [(1000000, .bool)] 8 Try.f86 [a0, (.slice a1.a a1.len a1.cap), (.int .u8 a2)] .val K h = F_rup_values_moving a0 a1 a2 K h := by kernel_rfl
set_option maxRecDepth 100000 in
theorem S_rup_values_moving{h : Heap} {a0 : Value} {a1 : Sl} {a2 : Int} (K : Value → HP) (hF : F_rup_values_moving a0 a1 a2 K h) : CallsH Try.prog fn_rup_values_moving #[a0, (.slice a1.a a1.len a1.cap), (.int .u8 a2)] h fun v h' => ∃ x : Value, v = Ty.enc .val x ∧ K x h' :=
  callsH_of_fn (P := Try.prog) (fn := Try.f86) (τ := .val) follows Try.func86 (by kernel_rfl) (by kernel_rfl) Try.call86 (Eq.mpr (E_rup_values_moving a0 a1 a2 K h) hF)


/-- salvor/lits.Var -/
def F_lits_Var (a0 : Int) (K : Int → HP) : HP :=
 callT Try.prog fn_lits_Right #[(.int .i64 a0)] .bool fun r0 =>
 brB (!r0)
 (K (0 : Int))
 (K (if (IntKind.wrap .i64 (0 - a0)) > a0 then (IntKind.wrap .i64 (0 - a0)) else a0))
set_option maxRecDepth 100000 in
theorem E_lits_Var (a0 : Int) (K : Int → HP) (h : Heap) : fnVC Try.prog [(1000000, .nil)] 10 Try.f87 [(.int .i64 a0)] (.int .i64) K h = F_lits_Var a0 K h := by kernel_rfl
set_option maxRecDepth 100000 in
theorem S_lits_Var{h : Heap} {a0 : Int} (K : Int → HP) (hF : F_lits_Var a0 K h) : CallsH Try.prog fn_lits_Var #[(.int .i64 a0)] h fun v h' => ∃ x : Int, v = Ty.enc (.int .i64) x ∧ K x h' :=
  callsH_of_fn (P := Try.prog) (fn := Try.f87) (τ := (.int .i64)) follows Try.func87 (by kernel_rfl) (by kernel_rfl) Try.call87 (Eq.mpr (E_lits_Var a0 K h) hF)


/-- salvor/lits.Negated -/
def F_lits_Negated (a0 : Int) (K : Bool → HP) : HP :=
 callT Try.prog fn_lits_Right #[(.int .i64 a0)] .bool fun r0 =>
 brB r0
 (K (decide (a0 < (0 : Int))))
 (K false)
set_option maxRecDepth 100000 in
theorem E_lits_Negated (a0 : Int) (K : Bool → HP) (h : Heap) : fnVC Try.prog [(1000000, .nil)] 9 Try.f88 [(.int .i64 a0)] .bool K h = F_lits_Negated a0 K h := by kernel_rfl
set_option maxRecDepth 100000 in
theorem S_lits_Negated{h : Heap} {a0 : Int} (K : Bool → HP) (hF : F_lits_Negated a0 K h) : CallsH Try.prog fn_lits_Negated #[(.int .i64 a0)] h fun v h' => ∃ x : Bool, v = Ty.enc .bool x ∧ K x h' :=
  callsH_of_fn (P := Try.prog) (fn := Try.f88) (τ := .bool) follows Try.func88 (by kernel_rfl) (by kernel_rfl) Try.call88 (Eq.mpr (E_lits_Negated a0 K h) hF)


/-- slices.Reverse[[]int,int] -/
def F_slices_Reverse_int_int (a0 : Sl) (K : Unit → HP) : HP :=
 lfp (σ := (Int × (Int × Unit))) (fun X0 s1 => /- j i -/
 brB (decide (s1.2.1 < s1.1))
 (sx a0.a a0.len s1.1 1 fun p2 =>
 ldT (.int .i64) p2 fun x3 =>
 sx a0.a a0.len s1.2.1 1 fun p4 =>
 ldT (.int .i64) p4 fun x5 =>
 sx a0.a a0.len s1.2.1 1 fun p6 =>
 st1 p6 (.int .i64 x3) <|
 sx a0.a a0.len s1.1 1 fun p7 =>
 st1 p7 (.int .i64 x5) <|
 X0 ((IntKind.wrap .i64 (s1.1 - (1 : Int))), (IntKind.wrap .i64 (s1.2.1 + (1 : Int))), ()))
 (K (())))
 ((IntKind.wrap .i64 ((a0.len : Int) - (1 : Int))), (0 : Int), ())
set_option maxRecDepth 100000 in
theorem E_slices_Reverse_int_int (a0 : Sl) (K : Unit → HP) (h : Heap) : fnVC Try.prog [(1000000, .nil)] 28 Try.f89 [(.slice a0.a a0.len a0.cap)] (.tup .nil) K h = F_slices_Reverse_int_int a0 K h := by kernel_rfl
set_option maxRecDepth 100000 in
theorem S_slices_Reverse_int_int{h : Heap} {a0 : Sl} (K : Unit → HP) (hF : F_slices_Reverse_int_int a0 K h) : CallsH Try.prog fn_slices_Reverse_int_int #[(.slice a0.a a0.len a0.cap)] h fun v h' => ∃ x : Unit, v = Ty.enc (.tup .nil) x ∧ K x h' :=
  callsH_of_fn (P := Try.prog) (fn := Try.f89) (τ := (.tup .nil)) follows Try.func89 (by kernel_rfl) (by kernel_rfl) Try.call89 (Eq.mpr (E_slices_Reverse_int_int a0 K h) hF)


/-- slices.IndexFunc[[]salvor/clauses.Clause,salvor/clauses.Clause] -/
def F_slices_IndexFunc_clauses_Clause_clauses_Clause (a0 : Sl) (a1 : Value) (K : Int → HP) : HP :=
 lfp (σ := (Int × (Int × Unit))) (fun X0 s1 => /-   -/
 brB (decide (s1.1 < (a0.len : Int)))
 (sx a0.a a0.len s1.1 1 fun p2 =>
 ldT .sl p2 fun x3 =>
 callF Try.prog a1 #[(.slice x3.a x3.len x3.cap)] .bool fun r4 =>
 brB r4
 (K s1.1)
 (X0 ((IntKind.wrap .i64 (s1.1 + (1 : Int))), s1.2.1, ())))
 (K (-1 : Int)))
 ((0 : Int), (0 : Int), ())
set_option maxRecDepth 100000 in
theorem E_slices_IndexFunc_clauses_Clause_clauses_Clause (a0 : Sl) (a1 : Value) (K : Int → HP) (h : Heap) : fnVC Try.prog [(1000000, .nil)] 19 Try.f90 [(.slice a0.a a0.len a0.cap), a1] (.int .i64) K h = F_slices_IndexFunc_clauses_Clause_clauses_Clause a0 a1 K h := by kernel_rfl
set_option maxRecDepth 100000 in
theorem S_slices_IndexFunc_clauses_Clause_clauses_Clause{h : Heap} {a0 : Sl} {a1 : Value} (K : Int → HP) (hF : F_slices_IndexFunc_clauses_Clause_clauses_Clause a0 a1 K h) : CallsH Try.prog fn_slices_IndexFunc_clauses_Clause_clauses_Clause #[(.slice a0.a a0.len a0.cap), a1] h fun v h' => ∃ x : Int, v = Ty.enc (.int .i64) x ∧ K x h' :=
  callsH_of_fn (P := Try.prog) (fn := Try.f90) (τ := (.int .i64)) follows Try.func90 (by kernel_rfl) (by kernel_rfl) Try.call90 (Eq.mpr (E_slices_IndexFunc_clauses_Clause_clauses_Clause a0 a1 K h) hF)


/-- slices.ContainsFunc[salvor/clauses.Clause,salvor/lits.Lit] -/
def F_slices_ContainsFunc_clauses_Clause_lits_Lit (a0 : Sl) (a1 : Value) (K : Bool → HP) : HP :=
 callT Try.prog fn_slices_IndexFunc_clauses_Clause_lits_Lit #[(.slice a0.a a0.len a0.cap), a1] (.int .i64) fun r0 =>
 K (decide (r0 ≥ (0 : Int)))
set_option maxRecDepth 100000 in
theorem E_slices_ContainsFunc_clauses_Clause_lits_Lit (a0 : Sl) (a1 : Value) (K : Bool → HP) (h : Heap) : fnVC Try.prog [(1000000, .nil)] 9 Try.f91 [(.slice a0.a a0.len a0.cap), a1] .bool K h = F_slices_ContainsFunc_clauses_Clause_lits_Lit a0 a1 K h := by kernel_rfl
set_option maxRecDepth 100000 in
theorem S_slices_ContainsFunc_clauses_Clause_lits_Lit{h : Heap} {a0 : Sl} {a1 : Value} (K : Bool → HP) (hF : F_slices_ContainsFunc_clauses_Clause_lits_Lit a0 a1 K h) : CallsH Try.prog fn_slices_ContainsFunc_clauses_Clause_lits_Lit #[(.slice a0.a a0.len a0.cap), a1] h fun v h' => ∃ x : Bool, v = Ty.enc .bool x ∧ K x h' :=
  callsH_of_fn (P := Try.prog) (fn := Try.f91) (τ := .bool) follows Try.func91 (by kernel_rfl) (by kernel_rfl) Try.call91 (Eq.mpr (E_slices_ContainsFunc_clauses_Clause_lits_Lit a0 a1 K h) hF)


/-- salvor/clauses.wrong -/
def F_clauses_wrong (a0 : Int) (K : Bool → HP) : HP :=
 callT Try.prog fn_lits_Right #[(.int .i64 a0)] .bool fun r0 =>
 K (!r0)
set_option maxRecDepth 100000 in
theorem E_clauses_wrong (a0 : Int) (K : Bool → HP) (h : Heap) : fnVC Try.prog [(1000000, .nil)] 6 Try.f92 [(.int .i64 a0)] .bool K h = F_clauses_wrong a0 K h := by kernel_rfl
set_option maxRecDepth 100000 in
theorem S_clauses_wrong{h : Heap} {a0 : Int} (K : Bool → HP) (hF : F_clauses_wrong a0 K h) : CallsH Try.prog fn_clauses_wrong #[(.int .i64 a0)] h fun v h' => ∃ x : Bool, v = Ty.enc .bool x ∧ K x h' :=
  callsH_of_fn (P := Try.prog) (fn := Try.f92) (τ := .bool) follows Try.func92 (by kernel_rfl) (by kernel_rfl) Try.call92 (Eq.mpr (E_clauses_wrong a0 K h) hF)


/-- salvor/clauses.sorted$1 -/
def F_clauses_sorted_1 (a0 : Value) (c0 : Addr) (K : Unit → HP) : HP :=
 ldT .sl c0 fun x0 =>
 callT Try.prog fn_slices_Values_clauses_Clause_lits_Lit #[(.slice x0.a x0.len x0.cap)] .val fun r1 =>
 callT Try.prog fn_slices_SortedFunc_lits_Lit #[r1, (.func (.func fn_lits_Compare) #[] #[])] .sl fun r2 =>
 lfp (σ := (Int × (Int × Unit))) (fun X3 s4 => /-  last -/
 brB (decide (s4.1 < (r2.len : Int)))
 (jn (σ := (Int × Unit)) (fun s6 => /- last -/
 X3 ((IntKind.wrap .i64 (s4.1 + (1 : Int))), s6.1, ()))
 (fun J5 =>
 sx r2.a r2.len s4.1 1 fun p7 =>
 ldT (.int .i64) p7 fun x8 =>
 brB (x8 == s4.2.1)
 (J5 (s4.2.1, ()))
 (callF Try.prog a0 #[(.int .i64 x8)] .bool fun r9 =>
 brB (!r9)
 (K (()))
 (J5 (x8, ())))))
 (K (())))
 ((0 : Int), (0 : Int), ())
set_option maxRecDepth 100000 in
theorem E_clauses_sorted_1 (a0 : Value) (c0 : Addr) (K : Unit → HP) (h : Heap) : fnVC Try.prog [(1000000, .nil)] 23 Try.f93 [a0, (.pointer (some c0))] (.tup .nil) K h = F_clauses_sorted_1 a0 c0 K h := by kernel_rfl
set_option maxRecDepth 100000 in
theorem S_clauses_sorted_1{h : Heap} {a0 : Value} {c0 : Addr} (K : Unit → HP) (hF : F_clauses_sorted_1 a0 c0 K h) : CallsH Try.prog fn_clauses_sorted_1 #[a0, (.pointer (some c0))] h fun v h' => ∃ x : Unit, v = Ty.enc (.tup .nil) x ∧ K x h' :=
  callsH_of_fn (P := Try.prog) (fn := Try.f93) (τ := (.tup .nil)) follows Try.func93 (by kernel_rfl) (by kernel_rfl) Try.call93 (Eq.mpr (E_clauses_sorted_1 a0 c0 K h) hF)


/-- slices.SortedFunc[salvor/lits.Lit] -/
def F_slices_SortedFunc_lits_Lit (a0 : Value) (a1 : Value) (K : Sl → HP) : HP :=
 callT Try.prog fn_slices_Collect_lits_Lit #[a0] .sl fun r0 =>
 callT Try.prog fn_slices_SortFunc_lits_Lit_lits_Lit #[(.slice r0.a r0.len r0.cap), a1] (.tup .nil) fun r1 =>
 K ⟨r0.a, r0.len, r0.cap⟩
set_option maxRecDepth 100000 in
theorem E_slices_SortedFunc_lits_Lit (a0 : Value) (a1 : Value) (K : Sl → HP) (h : Heap) : fnVC Try.prog [(1000000, .nil)] 12 Try.f94 [a0, a1] .sl K h = F_slices_SortedFunc_lits_Lit a0 a1 K h := by kernel_rfl
set_option maxRecDepth 100000 in
theorem S_slices_SortedFunc_lits_Lit{h : Heap} {a0 : Value} {a1 : Value} (K : Sl → HP) (hF : F_slices_SortedFunc_lits_Lit a0 a1 K h) : CallsH Try.prog fn_slices_SortedFunc_lits_Lit #[a0, a1] h fun v h' => ∃ x : Sl, v = Ty.enc .sl x ∧ K x h' :=
  callsH_of_fn (P := Try.prog) (fn := Try.f94) (τ := .sl) follows Try.func94 (by kernel_rfl) (by kernel_rfl) Try.call94 (Eq.mpr (E_slices_SortedFunc_lits_Lit a0 a1 K h) hF)


/-- slices.Values[salvor/clauses.Clause,salvor/lits.Lit] -/
def F_slices_Values_clauses_Clause_lits_Lit (a0 : Sl) (K : Value → HP) : HP :=
 nw #[(.slice a0.a a0.len a0.cap)] ty_clauses_Clause fun b0 =>
 K (.func (.func fn_slices_Values_clauses_Clause_lits_Lit_1) #[] #[(.pointer (some (⟨b0, 0, none⟩ : Addr)))])
set_option maxRecDepth 100000 in
theorem E_slices_Values_clauses_Clause_lits_Lit (a0 : Sl) (K : Value → HP) (h : Heap) : fnVC Try.prog [(1000000, .nil)] 4 Try.f95 [(.slice a0.a a0.len a0.cap)] .val K h = F_slices_Values_clauses_Clause_lits_Lit a0 K h := by kernel_rfl
set_option maxRecDepth 100000 in
theorem S_slices_Values_clauses_Clause_lits_Lit{h : Heap} {a0 : Sl} (K : Value → HP) (hF : F_slices_Values_clauses_Clause_lits_Lit a0 K h) : CallsH Try.prog fn_slices_Values_clauses_Clause_lits_Lit #[(.slice a0.a a0.len a0.cap)] h fun v h' => ∃ x : Value, v = Ty.enc .val x ∧ K x h' :=
  callsH_of_fn (P := Try.prog) (fn := Try.f95) (τ := .val) follows Try.func95 (by kernel_rfl) (by kernel_rfl) Try.call95 (Eq.mpr (E_slices_Values_clauses_Clause_lits_Lit a0 K h) hF)


/-- salvor/salvorref01.Right -/
def F_salvorref01_Right (a0 : Int) (K : Bool → HP) : HP :=
 brB (decide (a0 ≥ (1 : Int)))
 (brB (decide (a0 ≤ (1048576 : Int)))
 (K true)
 (brB (decide (a0 ≥ (-1048576 : Int)))
 (K (decide (a0 ≤ (-1 : Int))))
 (K false)))
 (brB (decide (a0 ≥ (-1048576 : Int)))
 (K (decide (a0 ≤ (-1 : Int))))
 (K false))
set_option maxRecDepth 100000 in
theorem E_salvorref01_Right (a0 : Int) (K : Bool → HP) (h : Heap) : fnVC Try.prog [(1000000, .nil)] 17 Try.f96 [(.int .i64 a0)] .bool K h = F_salvorref01_Right a0 K h := by kernel_rfl
set_option maxRecDepth 100000 in
theorem S_salvorref01_Right{h : Heap} {a0 : Int} (K : Bool → HP) (hF : F_salvorref01_Right a0 K h) : CallsH Try.prog fn_salvorref01_Right #[(.int .i64 a0)] h fun v h' => ∃ x : Bool, v = Ty.enc .bool x ∧ K x h' :=
  callsH_of_fn (P := Try.prog) (fn := Try.f96) (τ := .bool) follows Try.func96 (by kernel_rfl) (by kernel_rfl) Try.call96 (Eq.mpr (E_salvorref01_Right a0 K h) hF)


/-- salvor/salvorref08.has -/
def F_salvorref08_has (a0 : Sl) (a1 : Int) (K : Bool → HP) : HP :=
 lfp (σ := (Int × (Bool × Unit))) (fun X0 s1 => /- i  -/
 brB (decide (s1.1 < (a0.len : Int)))
 (sx a0.a a0.len s1.1 1 fun p2 =>
 ldT (.int .i64) p2 fun x3 =>
 brB (x3 == a1)
 (K true)
 (X0 ((IntKind.wrap .i64 (s1.1 + (1 : Int))), s1.2.1, ())))
 (K false))
 ((0 : Int), false, ())
set_option maxRecDepth 100000 in
theorem E_salvorref08_has (a0 : Sl) (a1 : Int) (K : Bool → HP) (h : Heap) : fnVC Try.prog [(1000000, .bool)] 18 Try.f97 [(.slice a0.a a0.len a0.cap), (.int .i64 a1)] .bool K h = F_salvorref08_has a0 a1 K h := by kernel_rfl
set_option maxRecDepth 100000 in
theorem S_salvorref08_has{h : Heap} {a0 : Sl} {a1 : Int} (K : Bool → HP) (hF : F_salvorref08_has a0 a1 K h) : CallsH Try.prog fn_salvorref08_has #[(.slice a0.a a0.len a0.cap), (.int .i64 a1)] h fun v h' => ∃ x : Bool, v = Ty.enc .bool x ∧ K x h' :=
  callsH_of_fn (P := Try.prog) (fn := Try.f97) (τ := .bool) follows Try.func97 (by kernel_rfl) (by kernel_rfl) Try.call97 (Eq.mpr (E_salvorref08_has a0 a1 K h) hF)


/-- salvor/salvorref01.Index -/
def F_salvorref01_Index (a0 : Int) (K : Int → HP) : HP :=
 callT Try.prog fn_salvorref01_Right #[(.int .i64 a0)] .bool fun r0 =>
 brB (!r0)
 (K (-1 : Int))
 (brB (decide (a0 < (0 : Int)))
 (K (IntKind.wrap .i64 ((IntKind.wrap .i64 ((2 : Int) * (IntKind.wrap .i64 ((IntKind.wrap .i64 (0 - a0)) - (1 : Int))))) + (1 : Int))))
 (K (IntKind.wrap .i64 ((2 : Int) * (IntKind.wrap .i64 (a0 - (1 : Int)))))))
set_option maxRecDepth 100000 in
theorem E_salvorref01_Index (a0 : Int) (K : Int → HP) (h : Heap) : fnVC Try.prog [(1000000, .nil)] 16 Try.f98 [(.int .i64 a0)] (.int .i64) K h = F_salvorref01_Index a0 K h := by kernel_rfl
set_option maxRecDepth 100000 in
theorem S_salvorref01_Index{h : Heap} {a0 : Int} (K : Int → HP) (hF : F_salvorref01_Index a0 K h) : CallsH Try.prog fn_salvorref01_Index #[(.int .i64 a0)] h fun v h' => ∃ x : Int, v = Ty.enc (.int .i64) x ∧ K x h' :=
  callsH_of_fn (P := Try.prog) (fn := Try.f98) (τ := (.int .i64)) follows Try.func98 (by kernel_rfl) (by kernel_rfl) Try.call98 (Eq.mpr (E_salvorref01_Index a0 K h) hF)


/-- salvor/salvorref01.At -/
def F_salvorref01_At (a0 : Int) (K : Int → HP) : HP :=
 brB (decide (a0 < (0 : Int)))
 (K (0 : Int))
 (brB (decide (a0 > (2097151 : Int)))
 (K (0 : Int))
 (nz (2 : Int) <|
 nz (2 : Int) <|
 brB ((Int.tmod a0 (2 : Int)) == (1 : Int))
 (K (IntKind.wrap .i64 (0 - (IntKind.wrap .i64 ((IntKind.wrap .i64 (Int.tdiv a0 (2 : Int))) + (1 : Int))))))
 (K (IntKind.wrap .i64 ((IntKind.wrap .i64 (Int.tdiv a0 (2 : Int))) + (1 : Int))))))
set_option maxRecDepth 100000 in
theorem E_salvorref01_At (a0 : Int) (K : Int → HP) (h : Heap) : fnVC Try.prog [(1000000, .nil)] 19 Try.f99 [(.int .i64 a0)] (.int .i64) K h = F_salvorref01_At a0 K h := by kernel_rfl
set_option maxRecDepth 100000 in
theorem S_salvorref01_At{h : Heap} {a0 : Int} (K : Int → HP) (hF : F_salvorref01_At a0 K h) : CallsH Try.prog fn_salvorref01_At #[(.int .i64 a0)] h fun v h' => ∃ x : Int, v = Ty.enc (.int .i64) x ∧ K x h' :=
  callsH_of_fn (P := Try.prog) (fn := Try.f99) (τ := (.int .i64)) follows Try.func99 (by kernel_rfl) (by kernel_rfl) Try.call99 (Eq.mpr (E_salvorref01_At a0 K h) hF)


/-- salvor/clauses.normal -/
def F_clauses_normal (a0 : Sl) (K : Sl → HP) : HP := fun h0 => (
 nw #[(.slice none 0 0)] ty_clauses_Clause fun b0 =>
 callT Try.prog fn_clauses_sorted #[(.slice a0.a a0.len a0.cap)] .val fun r1 =>
 RangeVC Try.prog (.cons (.int .i64) .nil) r1 (fun x2 wrap3 next4 jump5 =>
 wrap3 <|
 ldT .sl (⟨b0, 0, none⟩ : Addr) fun x6 =>
 nw #[(.int .i64 x2.1)] ty_lits_Lit fun b7 =>
 apd ty_lits_Lit 1 8 #[(.int .i64 (0 : Int))] ⟨x6.a, x6.len, x6.cap⟩ ⟨(some (⟨b7, 0, none⟩ : Addr)), 1, 1⟩ fun s8 =>
 st1 (⟨b0, 0, none⟩ : Addr) (.slice s8.a s8.len s8.cap) <|
 next4)
 (ldT .sl (⟨b0, 0, none⟩ : Addr) fun x9 =>
 mkd h0.size <|
 K ⟨x9.a, x9.len, x9.cap⟩)
 (mkd h0.size <|
 K ⟨none, 0, 0⟩)
 []
 []) h0
set_option maxRecDepth 100000 in
theorem E_clauses_normal (a0 : Sl) (K : Sl → HP) (h : Heap) : fnVC Try.prog [(1000000, .nil), (7, (.cons (.int .i64) .nil))] 13 Try.f100 [(.slice a0.a a0.len a0.cap)] .sl K h = F_clauses_normal a0 K h := by kernel_rfl
set_option maxRecDepth 100000 in
theorem S_clauses_normal{h : Heap} {a0 : Sl} (K : Sl → HP) (hF : F_clauses_normal a0 K h) : CallsH Try.prog fn_clauses_normal #[(.slice a0.a a0.len a0.cap)] h fun v h' => ∃ x : Sl, v = Ty.enc .sl x ∧ K x h' :=
  callsH_of_fn (P := Try.prog) (fn := Try.f100) (τ := .sl) follows Try.func100 (by kernel_rfl) (by kernel_rfl) Try.call100 (Eq.mpr (E_clauses_normal a0 K h) hF)


/-- slices.pdqsortCmpFunc[salvor/lits.Lit] -/
def F_slices_pdqsortCmpFunc_lits_Lit (a0 : Sl) (a1 : Int) (a2 : Int) (a3 : Int) (a4 : Value) (K : Unit → HP) : HP :=
 lfp (σ := (Bool × (Bool × (Int × (Int × (Int × Unit)))))) (fun X0 s1 => /- wasPartitioned wasBalanced a b limit -/
 jn (σ := (Bool × (Bool × (Int × (Int × (Int × Unit)))))) (fun s3 => /- wasPartitioned wasBalanced a b limit -/
 X0 (s3.1, s3.2.1, s3.2.2.1, s3.2.2.2.1, s3.2.2.2.2.1, ()))
 (fun J2 =>
 brB (decide ((IntKind.wrap .i64 (s1.2.2.2.1 - s1.2.2.1)) ≤ (12 : Int)))
 (callT Try.prog fn_slices_insertionSortCmpFunc_lits_Lit #[(.slice a0.a a0.len a0.cap), (.int .i64 s1.2.2.1), (.int .i64 s1.2.2.2.1), a4] (.tup .nil) fun r4 =>
 K (()))
 (brB (s1.2.2.2.2.1 == (0 : Int))
 (callT Try.prog fn_slices_heapSortCmpFunc_lits_Lit #[(.slice a0.a a0.len a0.cap), (.int .i64 s1.2.2.1), (.int .i64 s1.2.2.2.1), a4] (.tup .nil) fun r5 =>
 K (()))
 (jn (σ := (Int × Unit)) (fun s7 => /- limit -/
 callT Try.prog fn_slices_choosePivotCmpFunc_lits_Lit #[(.slice a0.a a0.len a0.cap), (.int .i64 s1.2.2.1), (.int .i64 s1.2.2.2.1), a4] (.tup (.cons (.int .i64) (.cons (.int .i64) .nil))) fun r8 =>
 jn (σ := (Int × (Int × Unit))) (fun s10 => /- hint pivot -/
 brB s1.2.1
 (brB s1.1
 (jn (σ := Unit) (fun s12 => /- -/
 brB (decide (s1.2.2.1 > (0 : Int)))
 (sx a0.a a0.len (IntKind.wrap .i64 (s1.2.2.1 - (1 : Int))) 1 fun p13 =>
 ldT (.int .i64) p13 fun x14 =>
 sx a0.a a0.len s10.2.1 1 fun p15 =>
 ldT (.int .i64) p15 fun x16 =>
 callF Try.prog a4 #[(.int .i64 x14), (.int .i64 x16)] (.int .i64) fun r17 =>
 brB (!(decide (r17 < (0 : Int))))
 (callT Try.prog fn_slices_partitionEqualCmpFunc_lits_Lit #[(.slice a0.a a0.len a0.cap), (.int .i64 s1.2.2.1), (.int .i64 s1.2.2.2.1), (.int .i64 s10.2.1), a4] (.int .i64) fun r18 =>
 J2 (s1.1, s1.2.1, r18, s1.2.2.2.1, s7.1, ()))
 (callT Try.prog fn_slices_partitionCmpFunc_lits_Lit #[(.slice a0.a a0.len a0.cap), (.int .i64 s1.2.2.1), (.int .i64 s1.2.2.2.1), (.int .i64 s10.2.1), a4] (.tup (.cons (.int .i64) (.cons .bool .nil))) fun r19 =>
 nz (8 : Int) <|
 jn (σ := (Bool × (Int × (Int × Unit)))) (fun s21 => /- wasBalanced a b -/
 J2 (r19.2.1, s21.1, s21.2.1, s21.2.2.1, s7.1, ()))
 (fun J20 =>
 brB (decide ((IntKind.wrap .i64 (r19.1 - s1.2.2.1)) < (IntKind.wrap .i64 (s1.2.2.2.1 - r19.1))))
 (callT Try.prog fn_slices_pdqsortCmpFunc_lits_Lit #[(.slice a0.a a0.len a0.cap), (.int .i64 s1.2.2.1), (.int .i64 r19.1), (.int .i64 s7.1), a4] (.tup .nil) fun r22 =>
 J20 ((decide ((IntKind.wrap .i64 (r19.1 - s1.2.2.1)) ≥ (IntKind.wrap .i64 (Int.tdiv (IntKind.wrap .i64 (s1.2.2.2.1 - s1.2.2.1)) (8 : Int))))), (IntKind.wrap .i64 (r19.1 + (1 : Int))), s1.2.2.2.1, ()))
 (callT Try.prog fn_slices_pdqsortCmpFunc_lits_Lit #[(.slice a0.a a0.len a0.cap), (.int .i64 (IntKind.wrap .i64 (r19.1 + (1 : Int)))), (.int .i64 s1.2.2.2.1), (.int .i64 s7.1), a4] (.tup .nil) fun r23 =>
 J20 ((decide ((IntKind.wrap .i64 (s1.2.2.2.1 - r19.1)) ≥ (IntKind.wrap .i64 (Int.tdiv (IntKind.wrap .i64 (s1.2.2.2.1 - s1.2.2.1)) (8 : Int))))), s1.2.2.1, r19.1, ())))))
 (callT Try.prog fn_slices_partitionCmpFunc_lits_Lit #[(.slice a0.a a0.len a0.cap), (.int .i64 s1.2.2.1), (.int .i64 s1.2.2.2.1), (.int .i64 s10.2.1), a4] (.tup (.cons (.int .i64) (.cons .bool .nil))) fun r24 =>
 nz (8 : Int) <|
 jn (σ := (Bool × (Int × (Int × Unit)))) (fun s26 => /- wasBalanced a b -/
 J2 (r24.2.1, s26.1, s26.2.1, s26.2.2.1, s7.1, ()))
 (fun J25 =>
 brB (decide ((IntKind.wrap .i64 (r24.1 - s1.2.2.1)) < (IntKind.wrap .i64 (s1.2.2.2.1 - r24.1))))
 (callT Try.prog fn_slices_pdqsortCmpFunc_lits_Lit #[(.slice a0.a a0.len a0.cap), (.int .i64 s1.2.2.1), (.int .i64 r24.1), (.int .i64 s7.1), a4] (.tup .nil) fun r27 =>
 J25 ((decide ((IntKind.wrap .i64 (r24.1 - s1.2.2.1)) ≥ (IntKind.wrap .i64 (Int.tdiv (IntKind.wrap .i64 (s1.2.2.2.1 - s1.2.2.1)) (8 : Int))))), (IntKind.wrap .i64 (r24.1 + (1 : Int))), s1.2.2.2.1, ()))
 (callT Try.prog fn_slices_pdqsortCmpFunc_lits_Lit #[(.slice a0.a a0.len a0.cap), (.int .i64 (IntKind.wrap .i64 (r24.1 + (1 : Int)))), (.int .i64 s1.2.2.2.1), (.int .i64 s7.1), a4] (.tup .nil) fun r28 =>
 J25 ((decide ((IntKind.wrap .i64 (s1.2.2.2.1 - r24.1)) ≥ (IntKind.wrap .i64 (Int.tdiv (IntKind.wrap .i64 (s1.2.2.2.1 - s1.2.2.1)) (8 : Int))))), s1.2.2.1, r24.1, ())))))
 (fun J11 =>
 brB (s10.1 == (1 : Int))
 (callT Try.prog fn_slices_partialInsertionSortCmpFunc_lits_Lit #[(.slice a0.a a0.len a0.cap), (.int .i64 s1.2.2.1), (.int .i64 s1.2.2.2.1), a4] .bool fun r29 =>
 brB r29
 (K (()))
 (J11 (())))
 (J11 (()))))
 (jn (σ := Unit) (fun s31 => /- -/
 brB (decide (s1.2.2.1 > (0 : Int)))
 (sx a0.a a0.len (IntKind.wrap .i64 (s1.2.2.1 - (1 : Int))) 1 fun p32 =>
 ldT (.int .i64) p32 fun x33 =>
 sx a0.a a0.len s10.2.1 1 fun p34 =>
 ldT (.int .i64) p34 fun x35 =>
 callF Try.prog a4 #[(.int .i64 x33), (.int .i64 x35)] (.int .i64) fun r36 =>
 brB (!(decide (r36 < (0 : Int))))
 (callT Try.prog fn_slices_partitionEqualCmpFunc_lits_Lit #[(.slice a0.a a0.len a0.cap), (.int .i64 s1.2.2.1), (.int .i64 s1.2.2.2.1), (.int .i64 s10.2.1), a4] (.int .i64) fun r37 =>
 J2 (s1.1, s1.2.1, r37, s1.2.2.2.1, s7.1, ()))
 (callT Try.prog fn_slices_partitionCmpFunc_lits_Lit #[(.slice a0.a a0.len a0.cap), (.int .i64 s1.2.2.1), (.int .i64 s1.2.2.2.1), (.int .i64 s10.2.1), a4] (.tup (.cons (.int .i64) (.cons .bool .nil))) fun r38 =>
 nz (8 : Int) <|
 jn (σ := (Bool × (Int × (Int × Unit)))) (fun s40 => /- wasBalanced a b -/
 J2 (r38.2.1, s40.1, s40.2.1, s40.2.2.1, s7.1, ()))
 (fun J39 =>
 brB (decide ((IntKind.wrap .i64 (r38.1 - s1.2.2.1)) < (IntKind.wrap .i64 (s1.2.2.2.1 - r38.1))))
 (callT Try.prog fn_slices_pdqsortCmpFunc_lits_Lit #[(.slice a0.a a0.len a0.cap), (.int .i64 s1.2.2.1), (.int .i64 r38.1), (.int .i64 s7.1), a4] (.tup .nil) fun r41 =>
 J39 ((decide ((IntKind.wrap .i64 (r38.1 - s1.2.2.1)) ≥ (IntKind.wrap .i64 (Int.tdiv (IntKind.wrap .i64 (s1.2.2.2.1 - s1.2.2.1)) (8 : Int))))), (IntKind.wrap .i64 (r38.1 + (1 : Int))), s1.2.2.2.1, ()))
 (callT Try.prog fn_slices_pdqsortCmpFunc_lits_Lit #[(.slice a0.a a0.len a0.cap), (.int .i64 (IntKind.wrap .i64 (r38.1 + (1 : Int)))), (.int .i64 s1.2.2.2.1), (.int .i64 s7.1), a4] (.tup .nil) fun r42 =>
 J39 ((decide ((IntKind.wrap .i64 (s1.2.2.2.1 - r38.1)) ≥ (IntKind.wrap .i64 (Int.tdiv (IntKind.wrap .i64 (s1.2.2.2.1 - s1.2.2.1)) (8 : Int))))), s1.2.2.1, r38.1, ())))))
 (callT Try.prog fn_slices_partitionCmpFunc_lits_Lit #[(.slice a0.a a0.len a0.cap), (.int .i64 s1.2.2.1), (.int .i64 s1.2.2.2.1), (.int .i64 s10.2.1), a4] (.tup (.cons (.int .i64) (.cons .bool .nil))) fun r43 =>
 nz (8 : Int) <|
 jn (σ := (Bool × (Int × (Int × Unit)))) (fun s45 => /- wasBalanced a b -/
 J2 (r43.2.1, s45.1, s45.2.1, s45.2.2.1, s7.1, ()))
 (fun J44 =>
 brB (decide ((IntKind.wrap .i64 (r43.1 - s1.2.2.1)) < (IntKind.wrap .i64 (s1.2.2.2.1 - r43.1))))
 (callT Try.prog fn_slices_pdqsortCmpFunc_lits_Lit #[(.slice a0.a a0.len a0.cap), (.int .i64 s1.2.2.1), (.int .i64 r43.1), (.int .i64 s7.1), a4] (.tup .nil) fun r46 =>
 J44 ((decide ((IntKind.wrap .i64 (r43.1 - s1.2.2.1)) ≥ (IntKind.wrap .i64 (Int.tdiv (IntKind.wrap .i64 (s1.2.2.2.1 - s1.2.2.1)) (8 : Int))))), (IntKind.wrap .i64 (r43.1 + (1 : Int))), s1.2.2.2.1, ()))
 (callT Try.prog fn_slices_pdqsortCmpFunc_lits_Lit #[(.slice a0.a a0.len a0.cap), (.int .i64 (IntKind.wrap .i64 (r43.1 + (1 : Int)))), (.int .i64 s1.2.2.2.1), (.int .i64 s7.1), a4] (.tup .nil) fun r47 =>
 J44 ((decide ((IntKind.wrap .i64 (s1.2.2.2.1 - r43.1)) ≥ (IntKind.wrap .i64 (Int.tdiv (IntKind.wrap .i64 (s1.2.2.2.1 - s1.2.2.1)) (8 : Int))))), s1.2.2.1, r43.1, ())))))
 (fun J30 =>
 J30 (()))))
 (jn (σ := Unit) (fun s49 => /- -/
 brB (decide (s1.2.2.1 > (0 : Int)))
 (sx a0.a a0.len (IntKind.wrap .i64 (s1.2.2.1 - (1 : Int))) 1 fun p50 =>
 ldT (.int .i64) p50 fun x51 =>
 sx a0.a a0.len s10.2.1 1 fun p52 =>
 ldT (.int .i64) p52 fun x53 =>
 callF Try.prog a4 #[(.int .i64 x51), (.int .i64 x53)] (.int .i64) fun r54 =>
 brB (!(decide (r54 < (0 : Int))))
 (callT Try.prog fn_slices_partitionEqualCmpFunc_lits_Lit #[(.slice a0.a a0.len a0.cap), (.int .i64 s1.2.2.1), (.int .i64 s1.2.2.2.1), (.int .i64 s10.2.1), a4] (.int .i64) fun r55 =>
 J2 (s1.1, s1.2.1, r55, s1.2.2.2.1, s7.1, ()))
 (callT Try.prog fn_slices_partitionCmpFunc_lits_Lit #[(.slice a0.a a0.len a0.cap), (.int .i64 s1.2.2.1), (.int .i64 s1.2.2.2.1), (.int .i64 s10.2.1), a4] (.tup (.cons (.int .i64) (.cons .bool .nil))) fun r56 =>
 nz (8 : Int) <|
 jn (σ := (Bool × (Int × (Int × Unit)))) (fun s58 => /- wasBalanced a b -/
 J2 (r56.2.1, s58.1, s58.2.1, s58.2.2.1, s7.1, ()))
 (fun J57 =>
 brB (decide ((IntKind.wrap .i64 (r56.1 - s1.2.2.1)) < (IntKind.wrap .i64 (s1.2.2.2.1 - r56.1))))
 (callT Try.prog fn_slices_pdqsortCmpFunc_lits_Lit #[(.slice a0.a a0.len a0.cap), (.int .i64 s1.2.2.1), (.int .i64 r56.1), (.int .i64 s7.1), a4] (.tup .nil) fun r59 =>
 J57 ((decide ((IntKind.wrap .i64 (r56.1 - s1.2.2.1)) ≥ (IntKind.wrap .i64 (Int.tdiv (IntKind.wrap .i64 (s1.2.2.2.1 - s1.2.2.1)) (8 : Int))))), (IntKind.wrap .i64 (r56.1 + (1 : Int))), s1.2.2.2.1, ()))
 (callT Try.prog fn_slices_pdqsortCmpFunc_lits_Lit #[(.slice a0.a a0.len a0.cap), (.int .i64 (IntKind.wrap .i64 (r56.1 + (1 : Int)))), (.int .i64 s1.2.2.2.1), (.int .i64 s7.1), a4] (.tup .nil) fun r60 =>
 J57 ((decide ((IntKind.wrap .i64 (s1.2.2.2.1 - r56.1)) ≥ (IntKind.wrap .i64 (Int.tdiv (IntKind.wrap .i64 (s1.2.2.2.1 - s1.2.2.1)) (8 : Int))))), s1.2.2.1, r56.1, ())))))
 (callT Try.prog fn_slices_partitionCmpFunc_lits_Lit #[(.slice a0.a a0.len a0.cap), (.int .i64 s1.2.2.1), (.int .i64 s1.2.2.2.1), (.int .i64 s10.2.1), a4] (.tup (.cons (.int .i64) (.cons .bool .nil))) fun r61 =>
 nz (8 : Int) <|
 jn (σ := (Bool × (Int × (Int × Unit)))) (fun s63 => /- wasBalanced a b -/
 J2 (r61.2.1, s63.1, s63.2.1, s63.2.2.1, s7.1, ()))
 (fun J62 =>
 brB (decide ((IntKind.wrap .i64 (r61.1 - s1.2.2.1)) < (IntKind.wrap .i64 (s1.2.2.2.1 - r61.1))))
 (callT Try.prog fn_slices_pdqsortCmpFunc_lits_Lit #[(.slice a0.a a0.len a0.cap), (.int .i64 s1.2.2.1), (.int .i64 r61.1), (.int .i64 s7.1), a4] (.tup .nil) fun r64 =>
 J62 ((decide ((IntKind.wrap .i64 (r61.1 - s1.2.2.1)) ≥ (IntKind.wrap .i64 (Int.tdiv (IntKind.wrap .i64 (s1.2.2.2.1 - s1.2.2.1)) (8 : Int))))), (IntKind.wrap .i64 (r61.1 + (1 : Int))), s1.2.2.2.1, ()))
 (callT Try.prog fn_slices_pdqsortCmpFunc_lits_Lit #[(.slice a0.a a0.len a0.cap), (.int .i64 (IntKind.wrap .i64 (r61.1 + (1 : Int)))), (.int .i64 s1.2.2.2.1), (.int .i64 s7.1), a4] (.tup .nil) fun r65 =>
 J62 ((decide ((IntKind.wrap .i64 (s1.2.2.2.1 - r61.1)) ≥ (IntKind.wrap .i64 (Int.tdiv (IntKind.wrap .i64 (s1.2.2.2.1 - s1.2.2.1)) (8 : Int))))), s1.2.2.1, r61.1, ())))))
 (fun J48 =>
 J48 (()))))
 (fun J9 =>
 brB (r8.2.1 == (2 : Int))
 (callT Try.prog fn_slices_reverseRangeCmpFunc_lits_Lit #[(.slice a0.a a0.len a0.cap), (.int .i64 s1.2.2.1), (.int .i64 s1.2.2.2.1), a4] (.tup .nil) fun r66 =>
 J9 ((1 : Int), (IntKind.wrap .i64 ((IntKind.wrap .i64 (s1.2.2.2.1 - (1 : Int))) - (IntKind.wrap .i64 (r8.1 - s1.2.2.1)))), ()))
 (J9 (r8.2.1, r8.1, ()))))
 (fun J6 =>
 brB (!s1.2.1)
 (callT Try.prog fn_slices_breakPatternsCmpFunc_lits_Lit #[(.slice a0.a a0.len a0.cap), (.int .i64 s1.2.2.1), (.int .i64 s1.2.2.2.1), a4] (.tup .nil) fun r67 =>
 J6 ((IntKind.wrap .i64 (s1.2.2.2.2.1 - (1 : Int))), ()))
 (J6 (s1.2.2.2.2.1, ())))))))
 (true, true, a1, a2, a3, ())
set_option maxRecDepth 100000 in
theorem E_slices_pdqsortCmpFunc_lits_Lit (a0 : Sl) (a1 : Int) (a2 : Int) (a3 : Int) (a4 : Value) (K : Unit → HP) (h : Heap) : fnVC Try.prog [(1000000, .nil)] 148 Try.f101 [(.slice a0.a a0.len a0.cap), (.int .i64 a1), (.int .i64 a2), (.int .i64 a3), a4] (.tup .nil) K h = F_slices_pdqsortCmpFunc_lits_Lit a0 a1 a2 a3 a4 K h := by kernel_rfl
set_option maxRecDepth 100000 in
theorem S_slices_pdqsortCmpFunc_lits_Lit{h : Heap} {a0 : Sl} {a1 : Int} {a2 : Int} {a3 : Int} {a4 : Value} (K : Unit → HP) (hF : F_slices_pdqsortCmpFunc_lits_Lit a0 a1 a2 a3 a4 K h) : CallsH Try.prog fn_slices_pdqsortCmpFunc_lits_Lit #[(.slice a0.a a0.len a0.cap), (.int .i64 a1), (.int .i64 a2), (.int .i64 a3), a4] h fun v h' => ∃ x : Unit, v = Ty.enc (.tup .nil) x ∧ K x h' :=
  callsH_of_fn (P := Try.prog) (fn := Try.f101) (τ := (.tup .nil)) follows Try.func101 (by kernel_rfl) (by kernel_rfl) Try.call101 (Eq.mpr (E_slices_pdqsortCmpFunc_lits_Lit a0 a1 a2 a3 a4 K h) hF)


/-- math/bits.Len -/
def F_math_bits_Len (a0 : Int) (K : Int → HP) : HP :=
 callT Try.prog fn_math_bits_Len64 #[(.int .u64 a0)] (.int .i64) fun r0 =>
 K r0
set_option maxRecDepth 100000 in
theorem E_math_bits_Len (a0 : Int) (K : Int → HP) (h : Heap) : fnVC Try.prog [(1000000, .nil)] 8 Try.f102 [(.int .u64 a0)] (.int .i64) K h = F_math_bits_Len a0 K h := by kernel_rfl
set_option maxRecDepth 100000 in
theorem S_math_bits_Len{h : Heap} {a0 : Int} (K : Int → HP) (hF : F_math_bits_Len a0 K h) : CallsH Try.prog fn_math_bits_Len #[(.int .u64 a0)] h fun v h' => ∃ x : Int, v = Ty.enc (.int .i64) x ∧ K x h' :=
  callsH_of_fn (P := Try.prog) (fn := Try.f102) (τ := (.int .i64)) follows Try.func102 (by kernel_rfl) (by kernel_rfl) Try.call102 (Eq.mpr (E_math_bits_Len a0 K h) hF)


/-- salvor/lits.Index -/
def F_lits_Index (a0 : Int) (K : (Int × (Int × Unit)) → HP) : HP :=
 callT Try.prog fn_lits_Right #[(.int .i64 a0)] .bool fun r0 =>
 brB (!r0)
 (K ((0 : Int), (10 : Int), ()))
 (callT Try.prog fn_lits_Var #[(.int .i64 a0)] (.int .i64) fun r1 =>
 jn (σ := (Int × Unit)) (fun s3 => /- i -/
 K (s3.1, (0 : Int), ()))
 (fun J2 =>
 brB (decide (a0 < (0 : Int)))
 (J2 ((IntKind.wrap .i64 ((IntKind.wrap .i64 ((2 : Int) * (IntKind.wrap .i64 (r1 - (1 : Int))))) + (1 : Int))), ()))
 (J2 ((IntKind.wrap .i64 ((2 : Int) * (IntKind.wrap .i64 (r1 - (1 : Int))))), ()))))
set_option maxRecDepth 100000 in
theorem E_lits_Index (a0 : Int) (K : (Int × (Int × Unit)) → HP) (h : Heap) : fnVC Try.prog [(1000000, .nil)] 17 Try.f103 [(.int .i64 a0)] (.tup (.cons (.int .i64) (.cons (.int .i64) .nil))) K h = F_lits_Index a0 K h := by kernel_rfl
set_option maxRecDepth 100000 in
theorem S_lits_Index{h : Heap} {a0 : Int} (K : (Int × (Int × Unit)) → HP) (hF : F_lits_Index a0 K h) : CallsH Try.prog fn_lits_Index #[(.int .i64 a0)] h fun v h' => ∃ x : (Int × (Int × Unit)), v = Ty.enc (.tup (.cons (.int .i64) (.cons (.int .i64) .nil))) x ∧ K x h' :=
  callsH_of_fn (P := Try.prog) (fn := Try.f103) (τ := (.tup (.cons (.int .i64) (.cons (.int .i64) .nil)))) follows Try.func103 (by kernel_rfl) (by kernel_rfl) Try.call103 (Eq.mpr (E_lits_Index a0 K h) hF)


/-- cmp.Compare[int] -/
def F_cmp_Compare_int (a0 : Int) (a1 : Int) (K : Int → HP) : HP :=
 callT Try.prog fn_cmp_isNaN_int #[(.int .i64 a0)] .bool fun r0 =>
 callT Try.prog fn_cmp_isNaN_int #[(.int .i64 a1)] .bool fun r1 =>
 brB r0
 (brB r1
 (K (0 : Int))
 (K (-1 : Int)))
 (brB r1
 (K (1 : Int))
 (brB (decide (a0 < a1))
 (K (-1 : Int))
 (brB (decide (a0 > a1))
 (K (1 : Int))
 (K (0 : Int)))))
set_option maxRecDepth 100000 in
theorem E_cmp_Compare_int (a0 : Int) (a1 : Int) (K : Int → HP) (h : Heap) : fnVC Try.prog [(1000000, .nil)] 20 Try.f104 [(.int .i64 a0), (.int .i64 a1)] (.int .i64) K h = F_cmp_Compare_int a0 a1 K h := by kernel_rfl
set_option maxRecDepth 100000 in
theorem S_cmp_Compare_int{h : Heap} {a0 : Int} {a1 : Int} (K : Int → HP) (hF : F_cmp_Compare_int a0 a1 K h) : CallsH Try.prog fn_cmp_Compare_int #[(.int .i64 a0), (.int .i64 a1)] h fun v h' => ∃ x : Int, v = Ty.enc (.int .i64) x ∧ K x h' :=
  callsH_of_fn (P := Try.prog) (fn := Try.f104) (τ := (.int .i64)) follows Try.func104 (by kernel_rfl) (by kernel_rfl) Try.call104 (Eq.mpr (E_cmp_Compare_int a0 a1 K h) hF)


/-- cmp.Compare[salvor/lits.Lit] -/
def F_cmp_Compare_lits_Lit (a0 : Int) (a1 : Int) (K : Int → HP) : HP :=
 callT Try.prog fn_cmp_isNaN_lits_Lit #[(.int .i64 a0)] .bool fun r0 =>
 callT Try.prog fn_cmp_isNaN_lits_Lit #[(.int .i64 a1)] .bool fun r1 =>
 brB r0
 (brB r1
 (K (0 : Int))
 (K (-1 : Int)))
 (brB r1
 (K (1 : Int))
 (brB (decide (a0 < a1))
 (K (-1 : Int))
 (brB (decide (a0 > a1))
 (K (1 : Int))
 (K (0 : Int)))))
set_option maxRecDepth 100000 in
theorem E_cmp_Compare_lits_Lit (a0 : Int) (a1 : Int) (K : Int → HP) (h : Heap) : fnVC Try.prog [(1000000, .nil)] 20 Try.f105 [(.int .i64 a0), (.int .i64 a1)] (.int .i64) K h = F_cmp_Compare_lits_Lit a0 a1 K h := by kernel_rfl
set_option maxRecDepth 100000 in
theorem S_cmp_Compare_lits_Lit{h : Heap} {a0 : Int} {a1 : Int} (K : Int → HP) (hF : F_cmp_Compare_lits_Lit a0 a1 K h) : CallsH Try.prog fn_cmp_Compare_lits_Lit #[(.int .i64 a0), (.int .i64 a1)] h fun v h' => ∃ x : Int, v = Ty.enc (.int .i64) x ∧ K x h' :=
  callsH_of_fn (P := Try.prog) (fn := Try.f105) (τ := (.int .i64)) follows Try.func105 (by kernel_rfl) (by kernel_rfl) Try.call105 (Eq.mpr (E_cmp_Compare_lits_Lit a0 a1 K h) hF)


/-- salvor/salvorref08.without -/
def F_salvorref08_without (a0 : Sl) (a1 : Sl) (K : Sl → HP) : HP :=
 mks ty_bool 1 1 #[(.bool false)] (a0.len : Int) (a0.len : Int) fun s0 =>
 sx s0.a s0.len (IntKind.wrap .i64 ((a0.len : Int) - (1 : Int))) 1 fun p1 =>
 st1 p1 (.bool true) <|
 lfp (σ := (Int × Unit)) (fun X2 s3 => /- i -/
 brB (decide (s3.1 ≥ (0 : Int)))
 (lfp (σ := (Int × Unit)) (fun X4 s5 => /- k -/
 brB (decide (s5.1 < (a0.len : Int)))
 (sx s0.a s0.len s5.1 1 fun p6 =>
 ldT .bool p6 fun x7 =>
 brB x7
 (sx a0.a a0.len s5.1 1 fun p8 =>
 ldT .sl p8 fun x9 =>
 sx a1.a a1.len s3.1 1 fun p10 =>
 ldT (.int .i64) p10 fun x11 =>
 callT Try.prog fn_salvorref08_has #[(.slice x9.a x9.len x9.cap), (.int .i64 (IntKind.wrap .i64 (0 - x11)))] .bool fun r12 =>
 jn (σ := Unit) (fun s14 => /- -/
 X4 ((IntKind.wrap .i64 (s5.1 + (1 : Int))), ()))
 (fun J13 =>
 brB r12
 (sx s0.a s0.len s3.1 1 fun p15 =>
 st1 p15 (.bool true) <|
 J13 (()))
 (J13 (()))))
 (jn (σ := Unit) (fun s17 => /- -/
 X4 ((IntKind.wrap .i64 (s5.1 + (1 : Int))), ()))
 (fun J16 =>
 J16 (()))))
 (X2 ((IntKind.wrap .i64 (s3.1 - (1 : Int))), ())))
 ((IntKind.wrap .i64 (s3.1 + (1 : Int))), ()))
 (lfp (σ := (Int × (Sl × Unit))) (fun X18 s19 => /- i out -/
 brB (decide (s19.1 < (a0.len : Int)))
 (sx s0.a s0.len s19.1 1 fun p20 =>
 ldT .bool p20 fun x21 =>
 jn (σ := (Sl × Unit)) (fun s23 => /- out -/
 X18 ((IntKind.wrap .i64 (s19.1 + (1 : Int))), ⟨s23.1.a, s23.1.len, s23.1.cap⟩, ()))
 (fun J22 =>
 brB x21
 (nw #[(.int .i64 s19.1)] ty_int fun b24 =>
 apd ty_int 1 8 #[(.int .i64 (0 : Int))] ⟨s19.2.1.a, s19.2.1.len, s19.2.1.cap⟩ ⟨(some (⟨b24, 0, none⟩ : Addr)), 1, 1⟩ fun s25 =>
 J22 (⟨s25.a, s25.len, s25.cap⟩, ()))
 (J22 (⟨s19.2.1.a, s19.2.1.len, s19.2.1.cap⟩, ()))))
 (K ⟨s19.2.1.a, s19.2.1.len, s19.2.1.cap⟩))
 ((0 : Int), ⟨none, 0, 0⟩, ())))
 ((IntKind.wrap .i64 ((a0.len : Int) - (2 : Int))), ())
set_option maxRecDepth 100000 in
theorem E_salvorref08_without (a0 : Sl) (a1 : Sl) (K : Sl → HP) (h : Heap) : fnVC Try.prog [(1000000, .bool)] 67 Try.f106 [(.slice a0.a a0.len a0.cap), (.slice a1.a a1.len a1.cap)] .sl K h = F_salvorref08_without a0 a1 K h := by kernel_rfl
set_option maxRecDepth 100000 in
theorem S_salvorref08_without{h : Heap} {a0 : Sl} {a1 : Sl} (K : Sl → HP) (hF : F_salvorref08_without a0 a1 K h) : CallsH Try.prog fn_salvorref08_without #[(.slice a0.a a0.len a0.cap), (.slice a1.a a1.len a1.cap)] h fun v h' => ∃ x : Sl, v = Ty.enc .sl x ∧ K x h' :=
  callsH_of_fn (P := Try.prog) (fn := Try.f106) (τ := .sl) follows Try.func106 (by kernel_rfl) (by kernel_rfl) Try.call106 (Eq.mpr (E_salvorref08_without a0 a1 K h) hF)


/-- slices.EqualFunc[[]salvor/clauses.Clause,[]salvor/clauses.Clause,salvor/clauses.Clause,salvor/clauses.Clause] -/
def F_slices_EqualFunc_clauses_Clause_clauses_Clause_clauses_Clause_clauses_Clause (a0 : Sl) (a1 : Sl) (a2 : Value) (K : Bool → HP) : HP :=
 brB ((a0.len : Int) != (a1.len : Int))
 (K false)
 (lfp (σ := (Int × (Bool × Unit))) (fun X0 s1 => /-   -/
 brB (decide (s1.1 < (a0.len : Int)))
 (sx a0.a a0.len s1.1 1 fun p2 =>
 ldT .sl p2 fun x3 =>
 sx a1.a a1.len s1.1 1 fun p4 =>
 ldT .sl p4 fun x5 =>
 callF Try.prog a2 #[(.slice x3.a x3.len x3.cap), (.slice x5.a x5.len x5.cap)] .bool fun r6 =>
 brB (!r6)
 (K false)
 (X0 ((IntKind.wrap .i64 (s1.1 + (1 : Int))), s1.2.1, ())))
 (K true))
 ((0 : Int), false, ()))
set_option maxRecDepth 100000 in
theorem E_slices_EqualFunc_clauses_Clause_clauses_Clause_clauses_Clause_clauses_Clause (a0 : Sl) (a1 : Sl) (a2 : Value) (K : Bool → HP) (h : Heap) : fnVC Try.prog [(1000000, .nil)] 32 Try.f107 [(.slice a0.a a0.len a0.cap), (.slice a1.a a1.len a1.cap), a2] .bool K h = F_slices_EqualFunc_clauses_Clause_clauses_Clause_clauses_Clause_clauses_Clause a0 a1 a2 K h := by kernel_rfl
set_option maxRecDepth 100000 in
theorem S_slices_EqualFunc_clauses_Clause_clauses_Clause_clauses_Clause_clauses_Clause{h : Heap} {a0 : Sl} {a1 : Sl} {a2 : Value} (K : Bool → HP) (hF : F_slices_EqualFunc_clauses_Clause_clauses_Clause_clauses_Clause_clauses_Clause a0 a1 a2 K h) : CallsH Try.prog fn_slices_EqualFunc_clauses_Clause_clauses_Clause_clauses_Clause_clauses_Clause #[(.slice a0.a a0.len a0.cap), (.slice a1.a a1.len a1.cap), a2] h fun v h' => ∃ x : Bool, v = Ty.enc .bool x ∧ K x h' :=
  callsH_of_fn (P := Try.prog) (fn := Try.f107) (τ := .bool) follows Try.func107 (by kernel_rfl) (by kernel_rfl) Try.call107 (Eq.mpr (E_slices_EqualFunc_clauses_Clause_clauses_Clause_clauses_Clause_clauses_Clause a0 a1 a2 K h) hF)


/-- salvor/salvorlaw08.SameLists$1 -/
def F_salvorlaw08_SameLists_1 (a0 : Sl) (a1 : Sl) (K : Bool → HP) : HP :=
 callT Try.prog fn_slices_Equal_clauses_Clause_lits_Lit #[(.slice a0.a a0.len a0.cap), (.slice a1.a a1.len a1.cap)] .bool fun r0 =>
 K r0
set_option maxRecDepth 100000 in
theorem E_salvorlaw08_SameLists_1 (a0 : Sl) (a1 : Sl) (K : Bool → HP) (h : Heap) : fnVC Try.prog [(1000000, .bool)] 8 Try.f108 [(.slice a0.a a0.len a0.cap), (.slice a1.a a1.len a1.cap)] .bool K h = F_salvorlaw08_SameLists_1 a0 a1 K h := by kernel_rfl
set_option maxRecDepth 100000 in
theorem S_salvorlaw08_SameLists_1{h : Heap} {a0 : Sl} {a1 : Sl} (K : Bool → HP) (hF : F_salvorlaw08_SameLists_1 a0 a1 K h) : CallsH Try.prog fn_salvorlaw08_SameLists_1 #[(.slice a0.a a0.len a0.cap), (.slice a1.a a1.len a1.cap)] h fun v h' => ∃ x : Bool, v = Ty.enc .bool x ∧ K x h' :=
  callsH_of_fn (P := Try.prog) (fn := Try.f108) (τ := .bool) follows Try.func108 (by kernel_rfl) (by kernel_rfl) Try.call108 (Eq.mpr (E_salvorlaw08_SameLists_1 a0 a1 K h) hF)


/-- slices.Index[salvor/clauses.Clause,salvor/lits.Lit] -/
def F_slices_Index_clauses_Clause_lits_Lit (a0 : Sl) (a1 : Int) (K : Int → HP) : HP :=
 lfp (σ := (Int × (Int × Unit))) (fun X0 s1 => /-   -/
 brB (decide (s1.1 < (a0.len : Int)))
 (sx a0.a a0.len s1.1 1 fun p2 =>
 ldT (.int .i64) p2 fun x3 =>
 brB (a1 == x3)
 (K s1.1)
 (X0 ((IntKind.wrap .i64 (s1.1 + (1 : Int))), s1.2.1, ())))
 (K (-1 : Int)))
 ((0 : Int), (0 : Int), ())
set_option maxRecDepth 100000 in
theorem E_slices_Index_clauses_Clause_lits_Lit (a0 : Sl) (a1 : Int) (K : Int → HP) (h : Heap) : fnVC Try.prog [(1000000, .nil)] 19 Try.f109 [(.slice a0.a a0.len a0.cap), (.int .i64 a1)] (.int .i64) K h = F_slices_Index_clauses_Clause_lits_Lit a0 a1 K h := by kernel_rfl
set_option maxRecDepth 100000 in
theorem S_slices_Index_clauses_Clause_lits_Lit{h : Heap} {a0 : Sl} {a1 : Int} (K : Int → HP) (hF : F_slices_Index_clauses_Clause_lits_Lit a0 a1 K h) : CallsH Try.prog fn_slices_Index_clauses_Clause_lits_Lit #[(.slice a0.a a0.len a0.cap), (.int .i64 a1)] h fun v h' => ∃ x : Int, v = Ty.enc (.int .i64) x ∧ K x h' :=
  callsH_of_fn (P := Try.prog) (fn := Try.f109) (τ := (.int .i64)) follows Try.func109 (by kernel_rfl) (by kernel_rfl) Try.call109 (Eq.mpr (E_slices_Index_clauses_Clause_lits_Lit a0 a1 K h) hF)


/-- salvor/salvorref08.follow -/
def F_salvorref08_follow (a0 : Sl) (a1 : Sl) (K : (Sl × (Int × (Bool × (Int × Unit)))) → HP) : HP :=
 nw #[] ty_int fun b0 =>
 apd ty_int 1 8 #[(.int .i64 (0 : Int))] ⟨(some (⟨b0, 0, none⟩ : Addr)), 0, 0⟩ ⟨a0.a, a0.len, a0.cap⟩ fun s1 =>
 lfp (σ := (Int × (Sl × (Int × (Bool × (Int × (Sl × Unit))))))) (fun X2 s3 => /- i all     -/
 brB (decide (s3.1 < (a1.len : Int)))
 (sx a1.a a1.len s3.1 1 fun p4 =>
 ldT .sl p4 fun x5 =>
 callT Try.prog fn_salvorref08_Look #[(.slice x5.a x5.len x5.cap), (.slice s3.2.1.a s3.2.1.len s3.2.1.cap)] (.tup (.cons (.int .i64) (.cons (.int .i64) .nil))) fun r6 =>
 brB (r6.1 == (2 : Int))
 (K (⟨s3.2.1.a, s3.2.1.len, s3.2.1.cap⟩, (IntKind.wrap .i64 (s3.1 + (1 : Int))), true, (0 : Int), ()))
 (brB (r6.1 != (3 : Int))
 (K (⟨none, 0, 0⟩, s3.1, false, (81 : Int), ()))
 (nw #[(.int .i64 r6.2.1)] ty_int fun b7 =>
 apd ty_int 1 8 #[(.int .i64 (0 : Int))] ⟨s3.2.1.a, s3.2.1.len, s3.2.1.cap⟩ ⟨(some (⟨b7, 0, none⟩ : Addr)), 1, 1⟩ fun s8 =>
 X2 ((IntKind.wrap .i64 (s3.1 + (1 : Int))), ⟨s8.a, s8.len, s8.cap⟩, s3.2.2.1, s3.2.2.2.1, s3.2.2.2.2.1, ⟨s3.2.2.2.2.2.1.a, s3.2.2.2.2.2.1.len, s3.2.2.2.2.2.1.cap⟩, ()))))
 (K (⟨s3.2.1.a, s3.2.1.len, s3.2.1.cap⟩, (a1.len : Int), false, (0 : Int), ())))
 ((0 : Int), ⟨s1.a, s1.len, s1.cap⟩, (0 : Int), false, (0 : Int), ⟨none, 0, 0⟩, ())
set_option maxRecDepth 100000 in
theorem E_salvorref08_follow (a0 : Sl) (a1 : Sl) (K : (Sl × (Int × (Bool × (Int × Unit)))) → HP) (h : Heap) : fnVC Try.prog [(1000000, .bool)] 45 Try.f110 [(.slice a0.a a0.len a0.cap), (.slice a1.a a1.len a1.cap)] (.tup (.cons .sl (.cons (.int .i64) (.cons .bool (.cons (.int .i64) .nil))))) K h = F_salvorref08_follow a0 a1 K h := by kernel_rfl
set_option maxRecDepth 100000 in
theorem S_salvorref08_follow{h : Heap} {a0 : Sl} {a1 : Sl} (K : (Sl × (Int × (Bool × (Int × Unit)))) → HP) (hF : F_salvorref08_follow a0 a1 K h) : CallsH Try.prog fn_salvorref08_follow #[(.slice a0.a a0.len a0.cap), (.slice a1.a a1.len a1.cap)] h fun v h' => ∃ x : (Sl × (Int × (Bool × (Int × Unit)))), v = Ty.enc (.tup (.cons .sl (.cons (.int .i64) (.cons .bool (.cons (.int .i64) .nil))))) x ∧ K x h' :=
  callsH_of_fn (P := Try.prog) (fn := Try.f110) (τ := (.tup (.cons .sl (.cons (.int .i64) (.cons .bool (.cons (.int .i64) .nil)))))) follows Try.func110 (by kernel_rfl) (by kernel_rfl) Try.call110 (Eq.mpr (E_salvorref08_follow a0 a1 K h) hF)


/-- math/bits.Mul32 -/
def F_math_bits_Mul32 (a0 : Int) (a1 : Int) (K : (Int × (Int × Unit)) → HP) : HP :=
 ge0 (32 : Int) <|
 K ((IntKind.wrap .u32 (Int.fdiv (IntKind.wrap .u64 ((IntKind.wrap .u64 a0) * (IntKind.wrap .u64 a1))) (2 ^ (min ((32 : Int)).toNat 64)))), (IntKind.wrap .u32 (IntKind.wrap .u64 ((IntKind.wrap .u64 a0) * (IntKind.wrap .u64 a1)))), ())
set_option maxRecDepth 100000 in
theorem E_math_bits_Mul32 (a0 : Int) (a1 : Int) (K : (Int × (Int × Unit)) → HP) (h : Heap) : fnVC Try.prog [(1000000, .nil)] 17 Try.f111 [(.int .u32 a0), (.int .u32 a1)] (.tup (.cons (.int .u32) (.cons (.int .u32) .nil))) K h = F_math_bits_Mul32 a0 a1 K h := by kernel_rfl
set_option maxRecDepth 100000 in
theorem S_math_bits_Mul32{h : Heap} {a0 : Int} {a1 : Int} (K : (Int × (Int × Unit)) → HP) (hF : F_math_bits_Mul32 a0 a1 K h) : CallsH Try.prog fn_math_bits_Mul32 #[(.int .u32 a0), (.int .u32 a1)] h fun v h' => ∃ x : (Int × (Int × Unit)), v = Ty.enc (.tup (.cons (.int .u32) (.cons (.int .u32) .nil))) x ∧ K x h' :=
  callsH_of_fn (P := Try.prog) (fn := Try.f111) (τ := (.tup (.cons (.int .u32) (.cons (.int .u32) .nil)))) follows Try.func111 (by kernel_rfl) (by kernel_rfl) Try.call111 (Eq.mpr (E_math_bits_Mul32 a0 a1 K h) hF)


/-- math/bits.Mul64 -/
def F_math_bits_Mul64 (a0 : Int) (a1 : Int) (K : (Int × (Int × Unit)) → HP) : HP :=
 ge0 (32 : Int) <|
 ge0 (32 : Int) <|
 ge0 (32 : Int) <|
 ge0 (32 : Int) <|
 ge0 (32 : Int) <|
 K ((IntKind.wrap .u64 ((IntKind.wrap .u64 ((IntKind.wrap .u64 ((Int.fdiv a0 (2 ^ (min ((32 : Int)).toNat 64))) * (Int.fdiv a1 (2 ^ (min ((32 : Int)).toNat 64))))) + (Int.fdiv (IntKind.wrap .u64 ((IntKind.wrap .u64 ((Int.fdiv a0 (2 ^ (min ((32 : Int)).toNat 64))) * (bAnd .u64 a1 (4294967295 : Int)))) + (Int.fdiv (IntKind.wrap .u64 ((bAnd .u64 a0 (4294967295 : Int)) * (bAnd .u64 a1 (4294967295 : Int)))) (2 ^ (min ((32 : Int)).toNat 64))))) (2 ^ (min ((32 : Int)).toNat 64))))) + (Int.fdiv (IntKind.wrap .u64 ((bAnd .u64 (IntKind.wrap .u64 ((IntKind.wrap .u64 ((Int.fdiv a0 (2 ^ (min ((32 : Int)).toNat 64))) * (bAnd .u64 a1 (4294967295 : Int)))) + (Int.fdiv (IntKind.wrap .u64 ((bAnd .u64 a0 (4294967295 : Int)) * (bAnd .u64 a1 (4294967295 : Int)))) (2 ^ (min ((32 : Int)).toNat 64))))) (4294967295 : Int)) + (IntKind.wrap .u64 ((bAnd .u64 a0 (4294967295 : Int)) * (Int.fdiv a1 (2 ^ (min ((32 : Int)).toNat 64))))))) (2 ^ (min ((32 : Int)).toNat 64))))), (IntKind.wrap .u64 (a0 * a1)), ())
set_option maxRecDepth 100000 in
theorem E_math_bits_Mul64 (a0 : Int) (a1 : Int) (K : (Int × (Int × Unit)) → HP) (h : Heap) : fnVC Try.prog [(1000000, .nil)] 51 Try.f112 [(.int .u64 a0), (.int .u64 a1)] (.tup (.cons (.int .u64) (.cons (.int .u64) .nil))) K h = F_math_bits_Mul64 a0 a1 K h := by kernel_rfl
set_option maxRecDepth 100000 in
theorem S_math_bits_Mul64{h : Heap} {a0 : Int} {a1 : Int} (K : (Int × (Int × Unit)) → HP) (hF : F_math_bits_Mul64 a0 a1 K h) : CallsH Try.prog fn_math_bits_Mul64 #[(.int .u64 a0), (.int .u64 a1)] h fun v h' => ∃ x : (Int × (Int × Unit)), v = Ty.enc (.tup (.cons (.int .u64) (.cons (.int .u64) .nil))) x ∧ K x h' :=
  callsH_of_fn (P := Try.prog) (fn := Try.f112) (τ := (.tup (.cons (.int .u64) (.cons (.int .u64) .nil)))) follows Try.func112 (by kernel_rfl) (by kernel_rfl) Try.call112 (Eq.mpr (E_math_bits_Mul64 a0 a1 K h) hF)


/-- slices.rotateLeft[salvor/clauses.Clause] -/
def F_slices_rotateLeft_clauses_Clause (a0 : Sl) (a1 : Int) (K : Unit → HP) : HP :=
 slH ⟨a0.a, a0.len, a0.cap⟩ a1 1 fun s0 =>
 callT Try.prog fn_slices_Reverse_clauses_Clause_clauses_Clause #[(.slice s0.a s0.len s0.cap)] (.tup .nil) fun r1 =>
 slL ⟨a0.a, a0.len, a0.cap⟩ a1 1 fun s2 =>
 callT Try.prog fn_slices_Reverse_clauses_Clause_clauses_Clause #[(.slice s2.a s2.len s2.cap)] (.tup .nil) fun r3 =>
 callT Try.prog fn_slices_Reverse_clauses_Clause_clauses_Clause #[(.slice a0.a a0.len a0.cap)] (.tup .nil) fun r4 =>
 K (())
set_option maxRecDepth 100000 in
theorem E_slices_rotateLeft_clauses_Clause (a0 : Sl) (a1 : Int) (K : Unit → HP) (h : Heap) : fnVC Try.prog [(1000000, .nil)] 14 Try.f113 [(.slice a0.a a0.len a0.cap), (.int .i64 a1)] (.tup .nil) K h = F_slices_rotateLeft_clauses_Clause a0 a1 K h := by kernel_rfl
set_option maxRecDepth 100000 in
theorem S_slices_rotateLeft_clauses_Clause{h : Heap} {a0 : Sl} {a1 : Int} (K : Unit → HP) (hF : F_slices_rotateLeft_clauses_Clause a0 a1 K h) : CallsH Try.prog fn_slices_rotateLeft_clauses_Clause #[(.slice a0.a a0.len a0.cap), (.int .i64 a1)] h fun v h' => ∃ x : Unit, v = Ty.enc (.tup .nil) x ∧ K x h' :=
  callsH_of_fn (P := Try.prog) (fn := Try.f113) (τ := (.tup .nil)) follows Try.func113 (by kernel_rfl) (by kernel_rfl) Try.call113 (Eq.mpr (E_slices_rotateLeft_clauses_Clause a0 a1 K h) hF)


/-- (salvor/rup.values).moving$1 -/
def F_rup_values_moving_1 (a0 : Value) (c0 : Addr) (c1 : Addr) (c2 : Addr) (K : Unit → HP) : HP :=
 ldT .sl c0 fun x0 =>
 lfp (σ := (Int × Unit)) (fun X1 s2 => /-  -/
 brB (decide (s2.1 < (x0.len : Int)))
 (sx x0.a x0.len s2.1 1 fun p3 =>
 ldT .sl p3 fun x4 =>
 ldT .val c1 fun x5 =>
 callT Try.prog fn_rup_values_look #[x5, (.slice x4.a x4.len x4.cap)] (.tup (.cons (.int .u8) (.cons (.int .i64) .nil))) fun r6 =>
 ldT (.int .u8) c2 fun x7 =>
 jn (σ := Bool) (fun t9 =>
 brB t9
 (K (()))
 (X1 ((IntKind.wrap .i64 (s2.1 + (1 : Int))), ())))
 (fun J8 =>
 brB (r6.1 == x7)
 (callF Try.prog a0 #[(.int .i64 s2.1), (.int .i64 r6.2.1)] .bool fun r10 =>
 J8 ((!r10)))
 (J8 false)))
 (K (())))
 ((0 : Int), ())
set_option maxRecDepth 100000 in
theorem E_rup_values_moving_1 (a0 : Value) (c0 : Addr) (c1 : Addr) (c2 : Addr) (K : Unit → HP) (h : Heap) : fnVC Try.prog [(1000000, .bool)] 33 Try.f114 [a0, (.pointer (some c0)), (.pointer (some c1)), (.pointer (some c2))] (.tup .nil) K h = F_rup_values_moving_1 a0 c0 c1 c2 K h := by kernel_rfl
set_option maxRecDepth 100000 in
theorem S_rup_values_moving_1{h : Heap} {a0 : Value} {c0 : Addr} {c1 : Addr} {c2 : Addr} (K : Unit → HP) (hF : F_rup_values_moving_1 a0 c0 c1 c2 K h) : CallsH Try.prog fn_rup_values_moving_1 #[a0, (.pointer (some c0)), (.pointer (some c1)), (.pointer (some c2))] h fun v h' => ∃ x : Unit, v = Ty.enc (.tup .nil) x ∧ K x h' :=
  callsH_of_fn (P := Try.prog) (fn := Try.f114) (τ := (.tup .nil)) follows Try.func114 (by kernel_rfl) (by kernel_rfl) Try.call114 (Eq.mpr (E_rup_values_moving_1 a0 c0 c1 c2 K h) hF)


/-- slices.IndexFunc[salvor/clauses.Clause,salvor/lits.Lit] -/
def F_slices_IndexFunc_clauses_Clause_lits_Lit (a0 : Sl) (a1 : Value) (K : Int → HP) : HP :=
 lfp (σ := (Int × (Int × Unit))) (fun X0 s1 => /-   -/
 brB (decide (s1.1 < (a0.len : Int)))
 (sx a0.a a0.len s1.1 1 fun p2 =>
 ldT (.int .i64) p2 fun x3 =>
 callF Try.prog a1 #[(.int .i64 x3)] .bool fun r4 =>
 brB r4
 (K s1.1)
 (X0 ((IntKind.wrap .i64 (s1.1 + (1 : Int))), s1.2.1, ())))
 (K (-1 : Int)))
 ((0 : Int), (0 : Int), ())
set_option maxRecDepth 100000 in
theorem E_slices_IndexFunc_clauses_Clause_lits_Lit (a0 : Sl) (a1 : Value) (K : Int → HP) (h : Heap) : fnVC Try.prog [(1000000, .nil)] 19 Try.f115 [(.slice a0.a a0.len a0.cap), a1] (.int .i64) K h = F_slices_IndexFunc_clauses_Clause_lits_Lit a0 a1 K h := by kernel_rfl
set_option maxRecDepth 100000 in
theorem S_slices_IndexFunc_clauses_Clause_lits_Lit{h : Heap} {a0 : Sl} {a1 : Value} (K : Int → HP) (hF : F_slices_IndexFunc_clauses_Clause_lits_Lit a0 a1 K h) : CallsH Try.prog fn_slices_IndexFunc_clauses_Clause_lits_Lit #[(.slice a0.a a0.len a0.cap), a1] h fun v h' => ∃ x : Int, v = Ty.enc (.int .i64) x ∧ K x h' :=
  callsH_of_fn (P := Try.prog) (fn := Try.f115) (τ := (.int .i64)) follows Try.func115 (by kernel_rfl) (by kernel_rfl) Try.call115 (Eq.mpr (E_slices_IndexFunc_clauses_Clause_lits_Lit a0 a1 K h) hF)


/-- slices.Collect[salvor/lits.Lit] -/
def F_slices_Collect_lits_Lit (a0 : Value) (K : Sl → HP) : HP :=
 callT Try.prog fn_slices_AppendSeq_lits_Lit_lits_Lit #[(.slice none 0 0), a0] .sl fun r0 =>
 K ⟨r0.a, r0.len, r0.cap⟩
set_option maxRecDepth 100000 in
theorem E_slices_Collect_lits_Lit (a0 : Value) (K : Sl → HP) (h : Heap) : fnVC Try.prog [(1000000, .nil)] 5 Try.f116 [a0] .sl K h = F_slices_Collect_lits_Lit a0 K h := by kernel_rfl
set_option maxRecDepth 100000 in
theorem S_slices_Collect_lits_Lit{h : Heap} {a0 : Value} (K : Sl → HP) (hF : F_slices_Collect_lits_Lit a0 K h) : CallsH Try.prog fn_slices_Collect_lits_Lit #[a0] h fun v h' => ∃ x : Sl, v = Ty.enc .sl x ∧ K x h' :=
  callsH_of_fn (P := Try.prog) (fn := Try.f116) (τ := .sl) follows Try.func116 (by kernel_rfl) (by kernel_rfl) Try.call116 (Eq.mpr (E_slices_Collect_lits_Lit a0 K h) hF)


/-- slices.Values[salvor/clauses.Clause,salvor/lits.Lit]$1 -/
def F_slices_Values_clauses_Clause_lits_Lit_1 (a0 : Value) (c0 : Addr) (K : Unit → HP) : HP :=
 ldT .sl c0 fun x0 =>
 lfp (σ := (Int × Unit)) (fun X1 s2 => /-  -/
 brB (decide (s2.1 < (x0.len : Int)))
 (sx x0.a x0.len s2.1 1 fun p3 =>
 ldT (.int .i64) p3 fun x4 =>
 callF Try.prog a0 #[(.int .i64 x4)] .bool fun r5 =>
 brB (!r5)
 (K (()))
 (X1 ((IntKind.wrap .i64 (s2.1 + (1 : Int))), ())))
 (K (())))
 ((0 : Int), ())
set_option maxRecDepth 100000 in
theorem E_slices_Values_clauses_Clause_lits_Lit_1 (a0 : Value) (c0 : Addr) (K : Unit → HP) (h : Heap) : fnVC Try.prog [(1000000, .nil)] 16 Try.f117 [a0, (.pointer (some c0))] (.tup .nil) K h = F_slices_Values_clauses_Clause_lits_Lit_1 a0 c0 K h := by kernel_rfl
set_option maxRecDepth 100000 in
theorem S_slices_Values_clauses_Clause_lits_Lit_1{h : Heap} {a0 : Value} {c0 : Addr} (K : Unit → HP) (hF : F_slices_Values_clauses_Clause_lits_Lit_1 a0 c0 K h) : CallsH Try.prog fn_slices_Values_clauses_Clause_lits_Lit_1 #[a0, (.pointer (some c0))] h fun v h' => ∃ x : Unit, v = Ty.enc (.tup .nil) x ∧ K x h' :=
  callsH_of_fn (P := Try.prog) (fn := Try.f117) (τ := (.tup .nil)) follows Try.func117 (by kernel_rfl) (by kernel_rfl) Try.call117 (Eq.mpr (E_slices_Values_clauses_Clause_lits_Lit_1 a0 c0 K h) hF)


/-- slices.insertionSortCmpFunc[salvor/lits.Lit] -/
def F_slices_insertionSortCmpFunc_lits_Lit (a0 : Sl) (a1 : Int) (a2 : Int) (a3 : Value) (K : Unit → HP) : HP :=
 lfp (σ := (Int × Unit)) (fun X0 s1 => /- i -/
 brB (decide (s1.1 < a2))
 (jn (σ := (Int × Unit)) (fun s3 => /- j -/
 X0 ((IntKind.wrap .i64 (s1.1 + (1 : Int))), ()))
 (fun J2 =>
 lfp (σ := (Int × Unit)) (fun X4 s5 => /- j -/
 brB (decide (s5.1 > a1))
 (sx a0.a a0.len s5.1 1 fun p6 =>
 ldT (.int .i64) p6 fun x7 =>
 sx a0.a a0.len (IntKind.wrap .i64 (s5.1 - (1 : Int))) 1 fun p8 =>
 ldT (.int .i64) p8 fun x9 =>
 callF Try.prog a3 #[(.int .i64 x7), (.int .i64 x9)] (.int .i64) fun r10 =>
 brB (decide (r10 < (0 : Int)))
 (sx a0.a a0.len (IntKind.wrap .i64 (s5.1 - (1 : Int))) 1 fun p11 =>
 ldT (.int .i64) p11 fun x12 =>
 sx a0.a a0.len s5.1 1 fun p13 =>
 ldT (.int .i64) p13 fun x14 =>
 sx a0.a a0.len s5.1 1 fun p15 =>
 st1 p15 (.int .i64 x12) <|
 sx a0.a a0.len (IntKind.wrap .i64 (s5.1 - (1 : Int))) 1 fun p16 =>
 st1 p16 (.int .i64 x14) <|
 X4 ((IntKind.wrap .i64 (s5.1 - (1 : Int))), ()))
 (J2 (s5.1, ())))
 (J2 (s5.1, ())))
 (s1.1, ())))
 (K (())))
 ((IntKind.wrap .i64 (a1 + (1 : Int))), ())
set_option maxRecDepth 100000 in
theorem E_slices_insertionSortCmpFunc_lits_Lit (a0 : Sl) (a1 : Int) (a2 : Int) (a3 : Value) (K : Unit → HP) (h : Heap) : fnVC Try.prog [(1000000, .nil)] 53 Try.f118 [(.slice a0.a a0.len a0.cap), (.int .i64 a1), (.int .i64 a2), a3] (.tup .nil) K h = F_slices_insertionSortCmpFunc_lits_Lit a0 a1 a2 a3 K h := by kernel_rfl
set_option maxRecDepth 100000 in
theorem S_slices_insertionSortCmpFunc_lits_Lit{h : Heap} {a0 : Sl} {a1 : Int} {a2 : Int} {a3 : Value} (K : Unit → HP) (hF : F_slices_insertionSortCmpFunc_lits_Lit a0 a1 a2 a3 K h) : CallsH Try.prog fn_slices_insertionSortCmpFunc_lits_Lit #[(.slice a0.a a0.len a0.cap), (.int .i64 a1), (.int .i64 a2), a3] h fun v h' => ∃ x : Unit, v = Ty.enc (.tup .nil) x ∧ K x h' :=
  callsH_of_fn (P := Try.prog) (fn := Try.f118) (τ := (.tup .nil)) follows Try.func118 (by kernel_rfl) (by kernel_rfl) Try.call118 (Eq.mpr (E_slices_insertionSortCmpFunc_lits_Lit a0 a1 a2 a3 K h) hF)


/-- slices.heapSortCmpFunc[salvor/lits.Lit] -/
def F_slices_heapSortCmpFunc_lits_Lit (a0 : Sl) (a1 : Int) (a2 : Int) (a3 : Value) (K : Unit → HP) : HP :=
 nz (2 : Int) <|
 lfp (σ := (Int × Unit)) (fun X0 s1 => /- i -/
 brB (decide (s1.1 ≥ (0 : Int)))
 (callT Try.prog fn_slices_siftDownCmpFunc_lits_Lit #[(.slice a0.a a0.len a0.cap), (.int .i64 s1.1), (.int .i64 (IntKind.wrap .i64 (a2 - a1))), (.int .i64 a1), a3] (.tup .nil) fun r2 =>
 X0 ((IntKind.wrap .i64 (s1.1 - (1 : Int))), ()))
 (lfp (σ := (Int × Unit)) (fun X3 s4 => /- i -/
 brB (decide (s4.1 ≥ (0 : Int)))
 (sx a0.a a0.len (IntKind.wrap .i64 (a1 + s4.1)) 1 fun p5 =>
 ldT (.int .i64) p5 fun x6 =>
 sx a0.a a0.len a1 1 fun p7 =>
 ldT (.int .i64) p7 fun x8 =>
 sx a0.a a0.len a1 1 fun p9 =>
 st1 p9 (.int .i64 x6) <|
 sx a0.a a0.len (IntKind.wrap .i64 (a1 + s4.1)) 1 fun p10 =>
 st1 p10 (.int .i64 x8) <|
 callT Try.prog fn_slices_siftDownCmpFunc_lits_Lit #[(.slice a0.a a0.len a0.cap), (.int .i64 (0 : Int)), (.int .i64 s4.1), (.int .i64 a1), a3] (.tup .nil) fun r11 =>
 X3 ((IntKind.wrap .i64 (s4.1 - (1 : Int))), ()))
 (K (())))
 ((IntKind.wrap .i64 ((IntKind.wrap .i64 (a2 - a1)) - (1 : Int))), ())))
 ((IntKind.wrap .i64 (Int.tdiv (IntKind.wrap .i64 ((IntKind.wrap .i64 (a2 - a1)) - (1 : Int))) (2 : Int))), ())
set_option maxRecDepth 100000 in
theorem E_slices_heapSortCmpFunc_lits_Lit (a0 : Sl) (a1 : Int) (a2 : Int) (a3 : Value) (K : Unit → HP) (h : Heap) : fnVC Try.prog [(1000000, .nil)] 60 Try.f119 [(.slice a0.a a0.len a0.cap), (.int .i64 a1), (.int .i64 a2), a3] (.tup .nil) K h = F_slices_heapSortCmpFunc_lits_Lit a0 a1 a2 a3 K h := by kernel_rfl
set_option maxRecDepth 100000 in
theorem S_slices_heapSortCmpFunc_lits_Lit{h : Heap} {a0 : Sl} {a1 : Int} {a2 : Int} {a3 : Value} (K : Unit → HP) (hF : F_slices_heapSortCmpFunc_lits_Lit a0 a1 a2 a3 K h) : CallsH Try.prog fn_slices_heapSortCmpFunc_lits_Lit #[(.slice a0.a a0.len a0.cap), (.int .i64 a1), (.int .i64 a2), a3] h fun v h' => ∃ x : Unit, v = Ty.enc (.tup .nil) x ∧ K x h' :=
  callsH_of_fn (P := Try.prog) (fn := Try.f119) (τ := (.tup .nil)) follows Try.func119 (by kernel_rfl) (by kernel_rfl) Try.call119 (Eq.mpr (E_slices_heapSortCmpFunc_lits_Lit a0 a1 a2 a3 K h) hF)


/-- slices.breakPatternsCmpFunc[salvor/lits.Lit] -/
def F_slices_breakPatternsCmpFunc_lits_Lit (a0 : Sl) (a1 : Int) (a2 : Int) (a3 : Value) (K : Unit → HP) : HP :=
 jn (σ := Unit) (fun s1 => /- -/
 K (()))
 (fun J0 =>
 brB (decide ((IntKind.wrap .i64 (a2 - a1)) ≥ (8 : Int)))
 (nw #[(.int .u64 (0 : Int))] ty_slices_xorshift fun b2 =>
 st1 (⟨b2, 0, none⟩ : Addr) (.int .u64 (IntKind.wrap .u64 (IntKind.wrap .i64 (a2 - a1)))) <|
 callT Try.prog fn_slices_nextPowerOfTwo #[(.int .i64 (IntKind.wrap .i64 (a2 - a1)))] (.int .u64) fun r3 =>
 nz (4 : Int) <|
 lfp (σ := (Int × Unit)) (fun X4 s5 => /- idx -/
 nz (4 : Int) <|
 brB (decide (s5.1 ≤ (IntKind.wrap .i64 ((IntKind.wrap .i64 (a1 + (IntKind.wrap .i64 ((IntKind.wrap .i64 (Int.tdiv (IntKind.wrap .i64 (a2 - a1)) (4 : Int))) * (2 : Int))))) + (1 : Int)))))
 (callT Try.prog fn_slices_xorshift_Next #[(.pointer (some (⟨b2, 0, none⟩ : Addr)))] (.int .u64) fun r6 =>
 jn (σ := (Int × Unit)) (fun s8 => /- other -/
 sx a0.a a0.len (IntKind.wrap .i64 (a1 + s8.1)) 1 fun p9 =>
 ldT (.int .i64) p9 fun x10 =>
 sx a0.a a0.len s5.1 1 fun p11 =>
 ldT (.int .i64) p11 fun x12 =>
 sx a0.a a0.len s5.1 1 fun p13 =>
 st1 p13 (.int .i64 x10) <|
 sx a0.a a0.len (IntKind.wrap .i64 (a1 + s8.1)) 1 fun p14 =>
 st1 p14 (.int .i64 x12) <|
 X4 ((IntKind.wrap .i64 (s5.1 + (1 : Int))), ()))
 (fun J7 =>
 brB (decide ((IntKind.wrap .i64 (bAnd .u64 r6 (IntKind.wrap .u64 (r3 - (1 : Int))))) ≥ (IntKind.wrap .i64 (a2 - a1))))
 (J7 ((IntKind.wrap .i64 ((IntKind.wrap .i64 (bAnd .u64 r6 (IntKind.wrap .u64 (r3 - (1 : Int))))) - (IntKind.wrap .i64 (a2 - a1)))), ()))
 (J7 ((IntKind.wrap .i64 (bAnd .u64 r6 (IntKind.wrap .u64 (r3 - (1 : Int))))), ()))))
 (J0 (())))
 ((IntKind.wrap .i64 ((IntKind.wrap .i64 (a1 + (IntKind.wrap .i64 ((IntKind.wrap .i64 (Int.tdiv (IntKind.wrap .i64 (a2 - a1)) (4 : Int))) * (2 : Int))))) - (1 : Int))), ()))
 (J0 (())))
set_option maxRecDepth 100000 in
theorem E_slices_breakPatternsCmpFunc_lits_Lit (a0 : Sl) (a1 : Int) (a2 : Int) (a3 : Value) (K : Unit → HP) (h : Heap) : fnVC Try.prog [(1000000, .nil)] 67 Try.f120 [(.slice a0.a a0.len a0.cap), (.int .i64 a1), (.int .i64 a2), a3] (.tup .nil) K h = F_slices_breakPatternsCmpFunc_lits_Lit a0 a1 a2 a3 K h := by kernel_rfl
set_option maxRecDepth 100000 in
theorem S_slices_breakPatternsCmpFunc_lits_Lit{h : Heap} {a0 : Sl} {a1 : Int} {a2 : Int} {a3 : Value} (K : Unit → HP) (hF : F_slices_breakPatternsCmpFunc_lits_Lit a0 a1 a2 a3 K h) : CallsH Try.prog fn_slices_breakPatternsCmpFunc_lits_Lit #[(.slice a0.a a0.len a0.cap), (.int .i64 a1), (.int .i64 a2), a3] h fun v h' => ∃ x : Unit, v = Ty.enc (.tup .nil) x ∧ K x h' :=
  callsH_of_fn (P := Try.prog) (fn := Try.f120) (τ := (.tup .nil)) follows Try.func120 (by kernel_rfl) (by kernel_rfl) Try.call120 (Eq.mpr (E_slices_breakPatternsCmpFunc_lits_Lit a0 a1 a2 a3 K h) hF)


/-- slices.choosePivotCmpFunc[salvor/lits.Lit] -/
def F_slices_choosePivotCmpFunc_lits_Lit (a0 : Sl) (a1 : Int) (a2 : Int) (a3 : Value) (K : (Int × (Int × Unit)) → HP) : HP :=
 nw #[(.int .i64 (0 : Int))] ty_int fun b0 =>
 nz (4 : Int) <|
 nz (4 : Int) <|
 nz (4 : Int) <|
 jn (σ := (Int × (Int × (Int × Unit)))) (fun s2 => /- k j i -/
 ldT (.int .i64) (⟨b0, 0, none⟩ : Addr) fun x3 =>
 brB (x3 == (0 : Int))
 (K (s2.2.1, (1 : Int), ()))
 (brB (x3 == (12 : Int))
 (K (s2.2.1, (2 : Int), ()))
 (K (s2.2.1, (0 : Int), ()))))
 (fun J1 =>
 brB (decide ((IntKind.wrap .i64 (a2 - a1)) ≥ (8 : Int)))
 (jn (σ := (Int × (Int × (Int × Unit)))) (fun s5 => /- k j i -/
 callT Try.prog fn_slices_medianCmpFunc_lits_Lit #[(.slice a0.a a0.len a0.cap), (.int .i64 s5.2.2.1), (.int .i64 s5.2.1), (.int .i64 s5.1), (.pointer (some (⟨b0, 0, none⟩ : Addr))), a3] (.int .i64) fun r6 =>
 J1 (s5.1, r6, s5.2.2.1, ()))
 (fun J4 =>
 brB (decide ((IntKind.wrap .i64 (a2 - a1)) ≥ (50 : Int)))
 (callT Try.prog fn_slices_medianAdjacentCmpFunc_lits_Lit #[(.slice a0.a a0.len a0.cap), (.int .i64 (IntKind.wrap .i64 (a1 + (IntKind.wrap .i64 ((IntKind.wrap .i64 (Int.tdiv (IntKind.wrap .i64 (a2 - a1)) (4 : Int))) * (1 : Int)))))), (.pointer (some (⟨b0, 0, none⟩ : Addr))), a3] (.int .i64) fun r7 =>
 callT Try.prog fn_slices_medianAdjacentCmpFunc_lits_Lit #[(.slice a0.a a0.len a0.cap), (.int .i64 (IntKind.wrap .i64 (a1 + (IntKind.wrap .i64 ((IntKind.wrap .i64 (Int.tdiv (IntKind.wrap .i64 (a2 - a1)) (4 : Int))) * (2 : Int)))))), (.pointer (some (⟨b0, 0, none⟩ : Addr))), a3] (.int .i64) fun r8 =>
 callT Try.prog fn_slices_medianAdjacentCmpFunc_lits_Lit #[(.slice a0.a a0.len a0.cap), (.int .i64 (IntKind.wrap .i64 (a1 + (IntKind.wrap .i64 ((IntKind.wrap .i64 (Int.tdiv (IntKind.wrap .i64 (a2 - a1)) (4 : Int))) * (3 : Int)))))), (.pointer (some (⟨b0, 0, none⟩ : Addr))), a3] (.int .i64) fun r9 =>
 J4 (r9, r8, r7, ()))
 (J4 ((IntKind.wrap .i64 (a1 + (IntKind.wrap .i64 ((IntKind.wrap .i64 (Int.tdiv (IntKind.wrap .i64 (a2 - a1)) (4 : Int))) * (3 : Int))))), (IntKind.wrap .i64 (a1 + (IntKind.wrap .i64 ((IntKind.wrap .i64 (Int.tdiv (IntKind.wrap .i64 (a2 - a1)) (4 : Int))) * (2 : Int))))), (IntKind.wrap .i64 (a1 + (IntKind.wrap .i64 ((IntKind.wrap .i64 (Int.tdiv (IntKind.wrap .i64 (a2 - a1)) (4 : Int))) * (1 : Int))))), ()))))
 (J1 ((IntKind.wrap .i64 (a1 + (IntKind.wrap .i64 ((IntKind.wrap .i64 (Int.tdiv (IntKind.wrap .i64 (a2 - a1)) (4 : Int))) * (3 : Int))))), (IntKind.wrap .i64 (a1 + (IntKind.wrap .i64 ((IntKind.wrap .i64 (Int.tdiv (IntKind.wrap .i64 (a2 - a1)) (4 : Int))) * (2 : Int))))), (IntKind.wrap .i64 (a1 + (IntKind.wrap .i64 ((IntKind.wrap .i64 (Int.tdiv (IntKind.wrap .i64 (a2 - a1)) (4 : Int))) * (1 : Int))))), ())))
set_option maxRecDepth 100000 in
theorem E_slices_choosePivotCmpFunc_lits_Lit (a0 : Sl) (a1 : Int) (a2 : Int) (a3 : Value) (K : (Int × (Int × Unit)) → HP) (h : Heap) : fnVC Try.prog [(1000000, .nil)] 63 Try.f121 [(.slice a0.a a0.len a0.cap), (.int .i64 a1), (.int .i64 a2), a3] (.tup (.cons (.int .i64) (.cons (.int .i64) .nil))) K h = F_slices_choosePivotCmpFunc_lits_Lit a0 a1 a2 a3 K h := by kernel_rfl
set_option maxRecDepth 100000 in
theorem S_slices_choosePivotCmpFunc_lits_Lit{h : Heap} {a0 : Sl} {a1 : Int} {a2 : Int} {a3 : Value} (K : (Int × (Int × Unit)) → HP) (hF : F_slices_choosePivotCmpFunc_lits_Lit a0 a1 a2 a3 K h) : CallsH Try.prog fn_slices_choosePivotCmpFunc_lits_Lit #[(.slice a0.a a0.len a0.cap), (.int .i64 a1), (.int .i64 a2), a3] h fun v h' => ∃ x : (Int × (Int × Unit)), v = Ty.enc (.tup (.cons (.int .i64) (.cons (.int .i64) .nil))) x ∧ K x h' :=
  callsH_of_fn (P := Try.prog) (fn := Try.f121) (τ := (.tup (.cons (.int .i64) (.cons (.int .i64) .nil)))) follows Try.func121 (by kernel_rfl) (by kernel_rfl) Try.call121 (Eq.mpr (E_slices_choosePivotCmpFunc_lits_Lit a0 a1 a2 a3 K h) hF)


end Go.Proofs.S
