/- The functions of the seat, each as a predicate over its values, printed by a program of ours, and that each is its text's. -/
import Derived.Test.YtmlamkoilggonaaGreatSx10
import Derived.KernelRfl
import Derived.Test.YtmlamkoilggonaaGreatProg
import Derived.Test.YtmlamkoilggonaaGreatClF0
set_option linter.unusedVariables false
namespace Go.Proofs.S
open Go Go.Sx Go.Proofs
def F_formula_beyond (a0 : Int) (K : Value → HP) : HP :=
 nw #[(.int .i64 a0)] ty_int fun b0 =>
 K (.func (.func fn_formula_beyond_1) #[] #[(.pointer (some (⟨b0, 0, none⟩ : Addr)))])
set_option maxRecDepth 100000 in
theorem E_formula_beyond (a0 : Int) (K : Value → HP) (h : Heap) : fnVC Tryz.prog [(1000000, .nil)] 4 Tryz.f68 [(.int .i64 a0)] .val K h = F_formula_beyond a0 K h := by kernel_rfl
set_option maxRecDepth 100000 in
theorem S_formula_beyond{h : Heap} {a0 : Int} (K : Value → HP) (hF : F_formula_beyond a0 K h) : CallsH Tryz.prog fn_formula_beyond #[(.int .i64 a0)] h fun v h' => ∃ x : Value, v = Ty.enc .val x ∧ K x h' :=
  callsH_of_fn (P := Tryz.prog) (fn := Tryz.f68) (τ := .val) follows Tryz.func68 (by kernel_rfl) (by kernel_rfl) Tryz.call68 (Eq.mpr (E_formula_beyond a0 K h) hF)

def F_lits_Negated (a0 : Int) (K : Bool → HP) : HP :=
 callT Tryz.prog fn_lits_Right #[(.int .i64 a0)] .bool fun r0 =>
 brB r0
 (K (decide (a0 < (0 : Int))))
 (K false)
set_option maxRecDepth 100000 in
theorem E_lits_Negated (a0 : Int) (K : Bool → HP) (h : Heap) : fnVC Tryz.prog [(1000000, .nil)] 9 Tryz.f69 [(.int .i64 a0)] .bool K h = F_lits_Negated a0 K h := by kernel_rfl
set_option maxRecDepth 100000 in
theorem S_lits_Negated{h : Heap} {a0 : Int} (K : Bool → HP) (hF : F_lits_Negated a0 K h) : CallsH Tryz.prog fn_lits_Negated #[(.int .i64 a0)] h fun v h' => ∃ x : Bool, v = Ty.enc .bool x ∧ K x h' :=
  callsH_of_fn (P := Tryz.prog) (fn := Tryz.f69) (τ := .bool) follows Tryz.func69 (by kernel_rfl) (by kernel_rfl) Tryz.call69 (Eq.mpr (E_lits_Negated a0 K h) hF)

def F_clauses_Norm (a0 : Sl) (K : (Sl × (Bool × (Int × Unit))) → HP) : HP :=
 callT Tryz.prog fn_clauses_Right #[(.slice a0.a a0.len a0.cap)] .bool fun r0 =>
 brB (!r0)
 (K (⟨none, 0, 0⟩, false, (20 : Int), ()))
 (callT Tryz.prog fn_clauses_normal #[(.slice a0.a a0.len a0.cap)] .sl fun r1 =>
 callT Tryz.prog fn_clauses_Always #[(.slice a0.a a0.len a0.cap)] .bool fun r2 =>
 K (⟨r1.a, r1.len, r1.cap⟩, r2, (0 : Int), ()))
set_option maxRecDepth 100000 in
theorem E_clauses_Norm (a0 : Sl) (K : (Sl × (Bool × (Int × Unit))) → HP) (h : Heap) : fnVC Tryz.prog [(1000000, .nil)] 12 Tryz.f70 [(.slice a0.a a0.len a0.cap)] (.tup (.cons .sl (.cons .bool (.cons (.int .i64) .nil)))) K h = F_clauses_Norm a0 K h := by kernel_rfl
set_option maxRecDepth 100000 in
theorem S_clauses_Norm{h : Heap} {a0 : Sl} (K : (Sl × (Bool × (Int × Unit))) → HP) (hF : F_clauses_Norm a0 K h) : CallsH Tryz.prog fn_clauses_Norm #[(.slice a0.a a0.len a0.cap)] h fun v h' => ∃ x : (Sl × (Bool × (Int × Unit))), v = Ty.enc (.tup (.cons .sl (.cons .bool (.cons (.int .i64) .nil)))) x ∧ K x h' :=
  callsH_of_fn (P := Tryz.prog) (fn := Tryz.f70) (τ := (.tup (.cons .sl (.cons .bool (.cons (.int .i64) .nil))))) follows Tryz.func70 (by kernel_rfl) (by kernel_rfl) Tryz.call70 (Eq.mpr (E_clauses_Norm a0 K h) hF)

def F_slices_SortFunc_clauses_Clause_clauses_Clause (a0 : Sl) (a1 : Value) (K : Unit → HP) : HP :=
 callT Tryz.prog fn_math_bits_Len #[(.int .u64 (IntKind.wrap .u64 (a0.len : Int)))] (.int .i64) fun r0 =>
 callT Tryz.prog fn_slices_pdqsortCmpFunc_clauses_Clause #[(.slice a0.a a0.len a0.cap), (.int .i64 (0 : Int)), (.int .i64 (a0.len : Int)), (.int .i64 r0), a1] (.tup .nil) fun r1 =>
 K (())
set_option maxRecDepth 100000 in
theorem E_slices_SortFunc_clauses_Clause_clauses_Clause (a0 : Sl) (a1 : Value) (K : Unit → HP) (h : Heap) : fnVC Tryz.prog [(1000000, .nil)] 14 Tryz.f71 [(.slice a0.a a0.len a0.cap), a1] (.tup .nil) K h = F_slices_SortFunc_clauses_Clause_clauses_Clause a0 a1 K h := by kernel_rfl
set_option maxRecDepth 100000 in
theorem S_slices_SortFunc_clauses_Clause_clauses_Clause{h : Heap} {a0 : Sl} {a1 : Value} (K : Unit → HP) (hF : F_slices_SortFunc_clauses_Clause_clauses_Clause a0 a1 K h) : CallsH Tryz.prog fn_slices_SortFunc_clauses_Clause_clauses_Clause #[(.slice a0.a a0.len a0.cap), a1] h fun v h' => ∃ x : Unit, v = Ty.enc (.tup .nil) x ∧ K x h' :=
  callsH_of_fn (P := Tryz.prog) (fn := Tryz.f71) (τ := (.tup .nil)) follows Tryz.func71 (by kernel_rfl) (by kernel_rfl) Tryz.call71 (Eq.mpr (E_slices_SortFunc_clauses_Clause_clauses_Clause a0 a1 K h) hF)

def F_slices_CompactFunc_clauses_Clause_clauses_Clause (a0 : Sl) (a1 : Value) (K : Sl → HP) : HP :=
 brB (decide ((a0.len : Int) < (2 : Int)))
 (K ⟨a0.a, a0.len, a0.cap⟩)
 (lfp (σ := (Int × (Sl × Unit))) (fun X0 s1 => /- k  -/
 brB (decide (s1.1 < (a0.len : Int)))
 (sx a0.a a0.len s1.1 1 fun p2 =>
 ldT .sl p2 fun x3 =>
 sx a0.a a0.len (IntKind.wrap .i64 (s1.1 - (1 : Int))) 1 fun p4 =>
 ldT .sl p4 fun x5 =>
 callF Tryz.prog a1 #[(.slice x3.a x3.len x3.cap), (.slice x5.a x5.len x5.cap)] .bool fun r6 =>
 brB r6
 (slL ⟨a0.a, a0.len, a0.cap⟩ s1.1 1 fun s7 =>
 lfp (σ := (Int × (Int × Unit))) (fun X8 s9 => /- k2 k -/
 brB (decide (s9.1 < (s7.len : Int)))
 (sx s7.a s7.len s9.1 1 fun p10 =>
 ldT .sl p10 fun x11 =>
 sx s7.a s7.len (IntKind.wrap .i64 (s9.1 - (1 : Int))) 1 fun p12 =>
 ldT .sl p12 fun x13 =>
 callF Tryz.prog a1 #[(.slice x11.a x11.len x11.cap), (.slice x13.a x13.len x13.cap)] .bool fun r14 =>
 jn (σ := (Int × Unit)) (fun s16 => /- k -/
 X8 ((IntKind.wrap .i64 (s9.1 + (1 : Int))), s16.1, ()))
 (fun J15 =>
 brB (!r14)
 (sx s7.a s7.len s9.1 1 fun p17 =>
 ldT .sl p17 fun x18 =>
 sx a0.a a0.len s9.2.1 1 fun p19 =>
 st1 p19 (.slice x18.a x18.len x18.cap) <|
 J15 ((IntKind.wrap .i64 (s9.2.1 + (1 : Int))), ()))
 (J15 (s9.2.1, ()))))
 (slL ⟨a0.a, a0.len, a0.cap⟩ s9.2.1 1 fun s20 =>
 clr #[(.slice none 0 0)] ⟨s20.a, s20.len, s20.cap⟩ <|
 slH ⟨a0.a, a0.len, a0.cap⟩ s9.2.1 1 fun s21 =>
 K ⟨s21.a, s21.len, s21.cap⟩))
 ((1 : Int), s1.1, ()))
 (X0 ((IntKind.wrap .i64 (s1.1 + (1 : Int))), ⟨s1.2.1.a, s1.2.1.len, s1.2.1.cap⟩, ())))
 (K ⟨a0.a, a0.len, a0.cap⟩))
 ((1 : Int), ⟨none, 0, 0⟩, ()))
set_option maxRecDepth 100000 in
theorem E_slices_CompactFunc_clauses_Clause_clauses_Clause (a0 : Sl) (a1 : Value) (K : Sl → HP) (h : Heap) : fnVC Tryz.prog [(1000000, .nil)] 66 Tryz.f72 [(.slice a0.a a0.len a0.cap), a1] .sl K h = F_slices_CompactFunc_clauses_Clause_clauses_Clause a0 a1 K h := by kernel_rfl
set_option maxRecDepth 100000 in
theorem S_slices_CompactFunc_clauses_Clause_clauses_Clause{h : Heap} {a0 : Sl} {a1 : Value} (K : Sl → HP) (hF : F_slices_CompactFunc_clauses_Clause_clauses_Clause a0 a1 K h) : CallsH Tryz.prog fn_slices_CompactFunc_clauses_Clause_clauses_Clause #[(.slice a0.a a0.len a0.cap), a1] h fun v h' => ∃ x : Sl, v = Ty.enc .sl x ∧ K x h' :=
  callsH_of_fn (P := Tryz.prog) (fn := Tryz.f72) (τ := .sl) follows Tryz.func72 (by kernel_rfl) (by kernel_rfl) Tryz.call72 (Eq.mpr (E_slices_CompactFunc_clauses_Clause_clauses_Clause a0 a1 K h) hF)

def F_formula_Norm_1 (a0 : Sl) (a1 : Sl) (K : Bool → HP) : HP :=
 callT Tryz.prog fn_slices_Equal_clauses_Clause_lits_Lit #[(.slice a0.a a0.len a0.cap), (.slice a1.a a1.len a1.cap)] .bool fun r0 =>
 K r0
set_option maxRecDepth 100000 in
theorem E_formula_Norm_1 (a0 : Sl) (a1 : Sl) (K : Bool → HP) (h : Heap) : fnVC Tryz.prog [(1000000, .nil)] 8 Tryz.f73 [(.slice a0.a a0.len a0.cap), (.slice a1.a a1.len a1.cap)] .bool K h = F_formula_Norm_1 a0 a1 K h := by kernel_rfl
set_option maxRecDepth 100000 in
theorem S_formula_Norm_1{h : Heap} {a0 : Sl} {a1 : Sl} (K : Bool → HP) (hF : F_formula_Norm_1 a0 a1 K h) : CallsH Tryz.prog fn_formula_Norm_1 #[(.slice a0.a a0.len a0.cap), (.slice a1.a a1.len a1.cap)] h fun v h' => ∃ x : Bool, v = Ty.enc .bool x ∧ K x h' :=
  callsH_of_fn (P := Tryz.prog) (fn := Tryz.f73) (τ := .bool) follows Tryz.func73 (by kernel_rfl) (by kernel_rfl) Tryz.call73 (Eq.mpr (E_formula_Norm_1 a0 a1 K h) hF)

def F_slices_Equal_clauses_Clause_lits_Lit (a0 : Sl) (a1 : Sl) (K : Bool → HP) : HP :=
 brB ((a0.len : Int) != (a1.len : Int))
 (K false)
 (lfp (σ := (Int × (Bool × Unit))) (fun X0 s1 => /-   -/
 brB (decide (s1.1 < (a0.len : Int)))
 (sx a0.a a0.len s1.1 1 fun p2 =>
 ldT (.int .i64) p2 fun x3 =>
 sx a1.a a1.len s1.1 1 fun p4 =>
 ldT (.int .i64) p4 fun x5 =>
 brB (x3 != x5)
 (K false)
 (X0 ((IntKind.wrap .i64 (s1.1 + (1 : Int))), s1.2.1, ())))
 (K true))
 ((0 : Int), false, ()))
set_option maxRecDepth 100000 in
theorem E_slices_Equal_clauses_Clause_lits_Lit (a0 : Sl) (a1 : Sl) (K : Bool → HP) (h : Heap) : fnVC Tryz.prog [(1000000, .nil)] 26 Tryz.f74 [(.slice a0.a a0.len a0.cap), (.slice a1.a a1.len a1.cap)] .bool K h = F_slices_Equal_clauses_Clause_lits_Lit a0 a1 K h := by kernel_rfl
set_option maxRecDepth 100000 in
theorem S_slices_Equal_clauses_Clause_lits_Lit{h : Heap} {a0 : Sl} {a1 : Sl} (K : Bool → HP) (hF : F_slices_Equal_clauses_Clause_lits_Lit a0 a1 K h) : CallsH Tryz.prog fn_slices_Equal_clauses_Clause_lits_Lit #[(.slice a0.a a0.len a0.cap), (.slice a1.a a1.len a1.cap)] h fun v h' => ∃ x : Bool, v = Ty.enc .bool x ∧ K x h' :=
  callsH_of_fn (P := Tryz.prog) (fn := Tryz.f74) (τ := .bool) follows Tryz.func74 (by kernel_rfl) (by kernel_rfl) Tryz.call74 (Eq.mpr (E_slices_Equal_clauses_Clause_lits_Lit a0 a1 K h) hF)

def F_slices_EqualFunc_clauses_Clause_clauses_Clause_clauses_Clause_clauses_Clause (a0 : Sl) (a1 : Sl) (a2 : Value) (K : Bool → HP) : HP :=
 brB ((a0.len : Int) != (a1.len : Int))
 (K false)
 (lfp (σ := (Int × (Bool × Unit))) (fun X0 s1 => /-   -/
 brB (decide (s1.1 < (a0.len : Int)))
 (sx a0.a a0.len s1.1 1 fun p2 =>
 ldT .sl p2 fun x3 =>
 sx a1.a a1.len s1.1 1 fun p4 =>
 ldT .sl p4 fun x5 =>
 callF Tryz.prog a2 #[(.slice x3.a x3.len x3.cap), (.slice x5.a x5.len x5.cap)] .bool fun r6 =>
 brB (!r6)
 (K false)
 (X0 ((IntKind.wrap .i64 (s1.1 + (1 : Int))), s1.2.1, ())))
 (K true))
 ((0 : Int), false, ()))
set_option maxRecDepth 100000 in
theorem E_slices_EqualFunc_clauses_Clause_clauses_Clause_clauses_Clause_clauses_Clause (a0 : Sl) (a1 : Sl) (a2 : Value) (K : Bool → HP) (h : Heap) : fnVC Tryz.prog [(1000000, .nil)] 32 Tryz.f75 [(.slice a0.a a0.len a0.cap), (.slice a1.a a1.len a1.cap), a2] .bool K h = F_slices_EqualFunc_clauses_Clause_clauses_Clause_clauses_Clause_clauses_Clause a0 a1 a2 K h := by kernel_rfl
set_option maxRecDepth 100000 in
theorem S_slices_EqualFunc_clauses_Clause_clauses_Clause_clauses_Clause_clauses_Clause{h : Heap} {a0 : Sl} {a1 : Sl} {a2 : Value} (K : Bool → HP) (hF : F_slices_EqualFunc_clauses_Clause_clauses_Clause_clauses_Clause_clauses_Clause a0 a1 a2 K h) : CallsH Tryz.prog fn_slices_EqualFunc_clauses_Clause_clauses_Clause_clauses_Clause_clauses_Clause #[(.slice a0.a a0.len a0.cap), (.slice a1.a a1.len a1.cap), a2] h fun v h' => ∃ x : Bool, v = Ty.enc .bool x ∧ K x h' :=
  callsH_of_fn (P := Tryz.prog) (fn := Tryz.f75) (τ := .bool) follows Tryz.func75 (by kernel_rfl) (by kernel_rfl) Tryz.call75 (Eq.mpr (E_slices_EqualFunc_clauses_Clause_clauses_Clause_clauses_Clause_clauses_Clause a0 a1 a2 K h) hF)

def F_formula_Same_1 (a0 : Sl) (a1 : Sl) (K : Bool → HP) : HP :=
 callT Tryz.prog fn_slices_Equal_clauses_Clause_lits_Lit #[(.slice a0.a a0.len a0.cap), (.slice a1.a a1.len a1.cap)] .bool fun r0 =>
 K r0
set_option maxRecDepth 100000 in
theorem E_formula_Same_1 (a0 : Sl) (a1 : Sl) (K : Bool → HP) (h : Heap) : fnVC Tryz.prog [(1000000, .nil)] 8 Tryz.f76 [(.slice a0.a a0.len a0.cap), (.slice a1.a a1.len a1.cap)] .bool K h = F_formula_Same_1 a0 a1 K h := by kernel_rfl
set_option maxRecDepth 100000 in
theorem S_formula_Same_1{h : Heap} {a0 : Sl} {a1 : Sl} (K : Bool → HP) (hF : F_formula_Same_1 a0 a1 K h) : CallsH Tryz.prog fn_formula_Same_1 #[(.slice a0.a a0.len a0.cap), (.slice a1.a a1.len a1.cap)] h fun v h' => ∃ x : Bool, v = Ty.enc .bool x ∧ K x h' :=
  callsH_of_fn (P := Tryz.prog) (fn := Tryz.f76) (τ := .bool) follows Tryz.func76 (by kernel_rfl) (by kernel_rfl) Tryz.call76 (Eq.mpr (E_formula_Same_1 a0 a1 K h) hF)

def F_clauses_normal (a0 : Sl) (K : Sl → HP) : HP := fun h0 => (
 nw #[(.slice none 0 0)] ty_clauses_Clause fun b0 =>
 callT Tryz.prog fn_clauses_sorted #[(.slice a0.a a0.len a0.cap)] .val fun r1 =>
 RangeVC Tryz.prog (.cons (.int .i64) .nil) r1 (fun x2 wrap3 next4 jump5 =>
 wrap3 <|
 ldT .sl (⟨b0, 0, none⟩ : Addr) fun x6 =>
 nw #[(.int .i64 x2.1)] ty_lits_Lit fun b7 =>
 apd ty_lits_Lit 1 8 #[(.int .i64 (0 : Int))] ⟨x6.a, x6.len, x6.cap⟩ ⟨(some (⟨b7, 0, none⟩ : Addr)), 1, 1⟩ fun s8 =>
 st1 (⟨b0, 0, none⟩ : Addr) (.slice s8.a s8.len s8.cap) <|
 next4)
 (ldT .sl (⟨b0, 0, none⟩ : Addr) fun x9 =>
 mkd h0.size <|
 K ⟨x9.a, x9.len, x9.cap⟩)
 (mkd h0.size <|
 K ⟨none, 0, 0⟩)
 []
 []) h0
set_option maxRecDepth 100000 in
theorem E_clauses_normal (a0 : Sl) (K : Sl → HP) (h : Heap) : fnVC Tryz.prog [(1000000, .nil), (7, (.cons (.int .i64) .nil))] 13 Tryz.f77 [(.slice a0.a a0.len a0.cap)] .sl K h = F_clauses_normal a0 K h := by kernel_rfl
set_option maxRecDepth 100000 in
theorem S_clauses_normal{h : Heap} {a0 : Sl} (K : Sl → HP) (hF : F_clauses_normal a0 K h) : CallsH Tryz.prog fn_clauses_normal #[(.slice a0.a a0.len a0.cap)] h fun v h' => ∃ x : Sl, v = Ty.enc .sl x ∧ K x h' :=
  callsH_of_fn (P := Tryz.prog) (fn := Tryz.f77) (τ := .sl) follows Tryz.func77 (by kernel_rfl) (by kernel_rfl) Tryz.call77 (Eq.mpr (E_clauses_normal a0 K h) hF)

def F_clauses_sorted (a0 : Sl) (K : Value → HP) : HP :=
 nw #[(.slice a0.a a0.len a0.cap)] ty_clauses_Clause fun b0 =>
 K (.func (.func fn_clauses_sorted_1) #[] #[(.pointer (some (⟨b0, 0, none⟩ : Addr)))])
set_option maxRecDepth 100000 in
theorem E_clauses_sorted (a0 : Sl) (K : Value → HP) (h : Heap) : fnVC Tryz.prog [(1000000, .nil)] 4 Tryz.f78 [(.slice a0.a a0.len a0.cap)] .val K h = F_clauses_sorted a0 K h := by kernel_rfl
set_option maxRecDepth 100000 in
theorem S_clauses_sorted{h : Heap} {a0 : Sl} (K : Value → HP) (hF : F_clauses_sorted a0 K h) : CallsH Tryz.prog fn_clauses_sorted #[(.slice a0.a a0.len a0.cap)] h fun v h' => ∃ x : Value, v = Ty.enc .val x ∧ K x h' :=
  callsH_of_fn (P := Tryz.prog) (fn := Tryz.f78) (τ := .val) follows Tryz.func78 (by kernel_rfl) (by kernel_rfl) Tryz.call78 (Eq.mpr (E_clauses_sorted a0 K h) hF)

def F_lits_Neg (a0 : Int) (K : Int → HP) : HP :=
 callT Tryz.prog fn_lits_Right #[(.int .i64 a0)] .bool fun r0 =>
 brB (!r0)
 (K (0 : Int))
 (K (IntKind.wrap .i64 (0 - a0)))
set_option maxRecDepth 100000 in
theorem E_lits_Neg (a0 : Int) (K : Int → HP) (h : Heap) : fnVC Tryz.prog [(1000000, .nil)] 8 Tryz.f79 [(.int .i64 a0)] (.int .i64) K h = F_lits_Neg a0 K h := by kernel_rfl
set_option maxRecDepth 100000 in
theorem S_lits_Neg{h : Heap} {a0 : Int} (K : Int → HP) (hF : F_lits_Neg a0 K h) : CallsH Tryz.prog fn_lits_Neg #[(.int .i64 a0)] h fun v h' => ∃ x : Int, v = Ty.enc (.int .i64) x ∧ K x h' :=
  callsH_of_fn (P := Tryz.prog) (fn := Tryz.f79) (τ := (.int .i64)) follows Tryz.func79 (by kernel_rfl) (by kernel_rfl) Tryz.call79 (Eq.mpr (E_lits_Neg a0 K h) hF)

def F_cmp_Or_int (a0 : Sl) (K : Int → HP) : HP :=
 lfp (σ := (Int × (Int × Unit))) (fun X0 s1 => /-   -/
 brB (decide (s1.1 < (a0.len : Int)))
 (sx a0.a a0.len s1.1 1 fun p2 =>
 ldT (.int .i64) p2 fun x3 =>
 brB (x3 != (0 : Int))
 (K x3)
 (X0 ((IntKind.wrap .i64 (s1.1 + (1 : Int))), s1.2.1, ())))
 (K (0 : Int)))
 ((0 : Int), (0 : Int), ())
set_option maxRecDepth 100000 in
theorem E_cmp_Or_int (a0 : Sl) (K : Int → HP) (h : Heap) : fnVC Tryz.prog [(1000000, .nil)] 18 Tryz.f80 [(.slice a0.a a0.len a0.cap)] (.int .i64) K h = F_cmp_Or_int a0 K h := by kernel_rfl
set_option maxRecDepth 100000 in
theorem S_cmp_Or_int{h : Heap} {a0 : Sl} (K : Int → HP) (hF : F_cmp_Or_int a0 K h) : CallsH Tryz.prog fn_cmp_Or_int #[(.slice a0.a a0.len a0.cap)] h fun v h' => ∃ x : Int, v = Ty.enc (.int .i64) x ∧ K x h' :=
  callsH_of_fn (P := Tryz.prog) (fn := Tryz.f80) (τ := (.int .i64)) follows Tryz.func80 (by kernel_rfl) (by kernel_rfl) Tryz.call80 (Eq.mpr (E_cmp_Or_int a0 K h) hF)

def F_cmp_Compare_int (a0 : Int) (a1 : Int) (K : Int → HP) : HP :=
 callT Tryz.prog fn_cmp_isNaN_int #[(.int .i64 a0)] .bool fun r0 =>
 callT Tryz.prog fn_cmp_isNaN_int #[(.int .i64 a1)] .bool fun r1 =>
 brB r0
 (brB r1
 (K (0 : Int))
 (K (-1 : Int)))
 (brB r1
 (K (1 : Int))
 (brB (decide (a0 < a1))
 (K (-1 : Int))
 (brB (decide (a0 > a1))
 (K (1 : Int))
 (K (0 : Int)))))
set_option maxRecDepth 100000 in
theorem E_cmp_Compare_int (a0 : Int) (a1 : Int) (K : Int → HP) (h : Heap) : fnVC Tryz.prog [(1000000, .nil)] 20 Tryz.f81 [(.int .i64 a0), (.int .i64 a1)] (.int .i64) K h = F_cmp_Compare_int a0 a1 K h := by kernel_rfl
set_option maxRecDepth 100000 in
theorem S_cmp_Compare_int{h : Heap} {a0 : Int} {a1 : Int} (K : Int → HP) (hF : F_cmp_Compare_int a0 a1 K h) : CallsH Tryz.prog fn_cmp_Compare_int #[(.int .i64 a0), (.int .i64 a1)] h fun v h' => ∃ x : Int, v = Ty.enc (.int .i64) x ∧ K x h' :=
  callsH_of_fn (P := Tryz.prog) (fn := Tryz.f81) (τ := (.int .i64)) follows Tryz.func81 (by kernel_rfl) (by kernel_rfl) Tryz.call81 (Eq.mpr (E_cmp_Compare_int a0 a1 K h) hF)

def F_slices_CompareFunc_clauses_Clause_clauses_Clause_lits_Lit_lits_Lit (a0 : Sl) (a1 : Sl) (a2 : Value) (K : Int → HP) : HP :=
 lfp (σ := (Int × (Int × Unit))) (fun X0 s1 => /-   -/
 brB (decide (s1.1 < (a0.len : Int)))
 (sx a0.a a0.len s1.1 1 fun p2 =>
 ldT (.int .i64) p2 fun x3 =>
 brB (decide (s1.1 ≥ (a1.len : Int)))
 (K (1 : Int))
 (sx a1.a a1.len s1.1 1 fun p4 =>
 ldT (.int .i64) p4 fun x5 =>
 callF Tryz.prog a2 #[(.int .i64 x3), (.int .i64 x5)] (.int .i64) fun r6 =>
 brB (r6 != (0 : Int))
 (K r6)
 (X0 ((IntKind.wrap .i64 (s1.1 + (1 : Int))), s1.2.1, ()))))
 (brB (decide ((a0.len : Int) < (a1.len : Int)))
 (K (-1 : Int))
 (K (0 : Int))))
 ((0 : Int), (0 : Int), ())
set_option maxRecDepth 100000 in
theorem E_slices_CompareFunc_clauses_Clause_clauses_Clause_lits_Lit_lits_Lit (a0 : Sl) (a1 : Sl) (a2 : Value) (K : Int → HP) (h : Heap) : fnVC Tryz.prog [(1000000, .nil)] 39 Tryz.f82 [(.slice a0.a a0.len a0.cap), (.slice a1.a a1.len a1.cap), a2] (.int .i64) K h = F_slices_CompareFunc_clauses_Clause_clauses_Clause_lits_Lit_lits_Lit a0 a1 a2 K h := by kernel_rfl
set_option maxRecDepth 100000 in
theorem S_slices_CompareFunc_clauses_Clause_clauses_Clause_lits_Lit_lits_Lit{h : Heap} {a0 : Sl} {a1 : Sl} {a2 : Value} (K : Int → HP) (hF : F_slices_CompareFunc_clauses_Clause_clauses_Clause_lits_Lit_lits_Lit a0 a1 a2 K h) : CallsH Tryz.prog fn_slices_CompareFunc_clauses_Clause_clauses_Clause_lits_Lit_lits_Lit #[(.slice a0.a a0.len a0.cap), (.slice a1.a a1.len a1.cap), a2] h fun v h' => ∃ x : Int, v = Ty.enc (.int .i64) x ∧ K x h' :=
  callsH_of_fn (P := Tryz.prog) (fn := Tryz.f82) (τ := (.int .i64)) follows Tryz.func82 (by kernel_rfl) (by kernel_rfl) Tryz.call82 (Eq.mpr (E_slices_CompareFunc_clauses_Clause_clauses_Clause_lits_Lit_lits_Lit a0 a1 a2 K h) hF)

def F_lits_Compare (a0 : Int) (a1 : Int) (K : Int → HP) : HP :=
 callT Tryz.prog fn_lits_Index #[(.int .i64 a0)] (.tup (.cons (.int .i64) (.cons (.int .i64) .nil))) fun r0 =>
 callT Tryz.prog fn_lits_Index #[(.int .i64 a1)] (.tup (.cons (.int .i64) (.cons (.int .i64) .nil))) fun r1 =>
 brB (r0.2.1 == (0 : Int))
 (brB (r1.2.1 == (0 : Int))
 (callT Tryz.prog fn_cmp_Compare_int #[(.int .i64 r0.1), (.int .i64 r1.1)] (.int .i64) fun r2 =>
 K r2)
 (brB (r0.2.1 == (0 : Int))
 (K (1 : Int))
 (brB (r1.2.1 == (0 : Int))
 (K (-1 : Int))
 (callT Tryz.prog fn_cmp_Compare_lits_Lit #[(.int .i64 a0), (.int .i64 a1)] (.int .i64) fun r3 =>
 K r3))))
 (brB (r0.2.1 == (0 : Int))
 (K (1 : Int))
 (brB (r1.2.1 == (0 : Int))
 (K (-1 : Int))
 (callT Tryz.prog fn_cmp_Compare_lits_Lit #[(.int .i64 a0), (.int .i64 a1)] (.int .i64) fun r4 =>
 K r4)))
set_option maxRecDepth 100000 in
theorem E_lits_Compare (a0 : Int) (a1 : Int) (K : Int → HP) (h : Heap) : fnVC Tryz.prog [(1000000, .nil)] 38 Tryz.f83 [(.int .i64 a0), (.int .i64 a1)] (.int .i64) K h = F_lits_Compare a0 a1 K h := by kernel_rfl
set_option maxRecDepth 100000 in
theorem S_lits_Compare{h : Heap} {a0 : Int} {a1 : Int} (K : Int → HP) (hF : F_lits_Compare a0 a1 K h) : CallsH Tryz.prog fn_lits_Compare #[(.int .i64 a0), (.int .i64 a1)] h fun v h' => ∃ x : Int, v = Ty.enc (.int .i64) x ∧ K x h' :=
  callsH_of_fn (P := Tryz.prog) (fn := Tryz.f83) (τ := (.int .i64)) follows Tryz.func83 (by kernel_rfl) (by kernel_rfl) Tryz.call83 (Eq.mpr (E_lits_Compare a0 a1 K h) hF)

def F_slices_IndexFunc_clauses_Clause_clauses_Clause (a0 : Sl) (a1 : Value) (K : Int → HP) : HP :=
 lfp (σ := (Int × (Int × Unit))) (fun X0 s1 => /-   -/
 brB (decide (s1.1 < (a0.len : Int)))
 (sx a0.a a0.len s1.1 1 fun p2 =>
 ldT .sl p2 fun x3 =>
 callF Tryz.prog a1 #[(.slice x3.a x3.len x3.cap)] .bool fun r4 =>
 brB r4
 (K s1.1)
 (X0 ((IntKind.wrap .i64 (s1.1 + (1 : Int))), s1.2.1, ())))
 (K (-1 : Int)))
 ((0 : Int), (0 : Int), ())
set_option maxRecDepth 100000 in
theorem E_slices_IndexFunc_clauses_Clause_clauses_Clause (a0 : Sl) (a1 : Value) (K : Int → HP) (h : Heap) : fnVC Tryz.prog [(1000000, .nil)] 19 Tryz.f84 [(.slice a0.a a0.len a0.cap), a1] (.int .i64) K h = F_slices_IndexFunc_clauses_Clause_clauses_Clause a0 a1 K h := by kernel_rfl
set_option maxRecDepth 100000 in
theorem S_slices_IndexFunc_clauses_Clause_clauses_Clause{h : Heap} {a0 : Sl} {a1 : Value} (K : Int → HP) (hF : F_slices_IndexFunc_clauses_Clause_clauses_Clause a0 a1 K h) : CallsH Tryz.prog fn_slices_IndexFunc_clauses_Clause_clauses_Clause #[(.slice a0.a a0.len a0.cap), a1] h fun v h' => ∃ x : Int, v = Ty.enc (.int .i64) x ∧ K x h' :=
  callsH_of_fn (P := Tryz.prog) (fn := Tryz.f84) (τ := (.int .i64)) follows Tryz.func84 (by kernel_rfl) (by kernel_rfl) Tryz.call84 (Eq.mpr (E_slices_IndexFunc_clauses_Clause_clauses_Clause a0 a1 K h) hF)

def F_slices_Grow_clauses_Clause_clauses_Clause (a0 : Sl) (a1 : Int) (K : Sl → HP) : HP :=
 jn (σ := Unit) (fun s1 => /- -/
 jn (σ := (Sl × Unit)) (fun s3 => /- s -/
 K ⟨s3.1.a, s3.1.len, s3.1.cap⟩)
 (fun J2 =>
 brB (decide ((IntKind.wrap .i64 (a1 - (IntKind.wrap .i64 ((a0.cap : Int) - (a0.len : Int))))) > (0 : Int)))
 (slH ⟨a0.a, a0.len, a0.cap⟩ (a0.cap : Int) 1 fun s4 =>
 apz ty_clauses_Clause 1 24 #[(.slice none 0 0)] ⟨s4.a, s4.len, s4.cap⟩ (IntKind.wrap .i64 (a1 - (IntKind.wrap .i64 ((a0.cap : Int) - (a0.len : Int))))) fun s5 =>
 slH ⟨s5.a, s5.len, s5.cap⟩ (a0.len : Int) 1 fun s6 =>
 J2 (⟨s6.a, s6.len, s6.cap⟩, ()))
 (J2 (⟨a0.a, a0.len, a0.cap⟩, ()))))
 (fun J0 =>
 brB (decide (a1 < (0 : Int)))
 (fF /- not known -/)
 (J0 (())))
set_option maxRecDepth 100000 in
theorem E_slices_Grow_clauses_Clause_clauses_Clause (a0 : Sl) (a1 : Int) (K : Sl → HP) (h : Heap) : fnVC Tryz.prog [(1000000, .nil)] 27 Tryz.f85 [(.slice a0.a a0.len a0.cap), (.int .i64 a1)] .sl K h = F_slices_Grow_clauses_Clause_clauses_Clause a0 a1 K h := by kernel_rfl
set_option maxRecDepth 100000 in
theorem S_slices_Grow_clauses_Clause_clauses_Clause{h : Heap} {a0 : Sl} {a1 : Int} (K : Sl → HP) (hF : F_slices_Grow_clauses_Clause_clauses_Clause a0 a1 K h) : CallsH Tryz.prog fn_slices_Grow_clauses_Clause_clauses_Clause #[(.slice a0.a a0.len a0.cap), (.int .i64 a1)] h fun v h' => ∃ x : Sl, v = Ty.enc .sl x ∧ K x h' :=
  callsH_of_fn (P := Tryz.prog) (fn := Tryz.f85) (τ := .sl) follows Tryz.func85 (by kernel_rfl) (by kernel_rfl) Tryz.call85 (Eq.mpr (E_slices_Grow_clauses_Clause_clauses_Clause a0 a1 K h) hF)

def F_salvorref01_Var (a0 : Int) (K : Int → HP) : HP :=
 callT Tryz.prog fn_salvorref01_Right #[(.int .i64 a0)] .bool fun r0 =>
 brB (!r0)
 (K (0 : Int))
 (brB (decide (a0 < (0 : Int)))
 (K (IntKind.wrap .i64 (0 - a0)))
 (K a0))
set_option maxRecDepth 100000 in
theorem E_salvorref01_Var (a0 : Int) (K : Int → HP) (h : Heap) : fnVC Tryz.prog [(1000000, .nil)] 11 Tryz.f86 [(.int .i64 a0)] (.int .i64) K h = F_salvorref01_Var a0 K h := by kernel_rfl
set_option maxRecDepth 100000 in
theorem S_salvorref01_Var{h : Heap} {a0 : Int} (K : Int → HP) (hF : F_salvorref01_Var a0 K h) : CallsH Tryz.prog fn_salvorref01_Var #[(.int .i64 a0)] h fun v h' => ∃ x : Int, v = Ty.enc (.int .i64) x ∧ K x h' :=
  callsH_of_fn (P := Tryz.prog) (fn := Tryz.f86) (τ := (.int .i64)) follows Tryz.func86 (by kernel_rfl) (by kernel_rfl) Tryz.call86 (Eq.mpr (E_salvorref01_Var a0 K h) hF)

def F_salvorref02_Has (a0 : Sl) (a1 : Int) (K : Bool → HP) : HP :=
 lfp (σ := (Int × (Bool × Unit))) (fun X0 s1 => /- i  -/
 brB (decide (s1.1 < (a0.len : Int)))
 (sx a0.a a0.len s1.1 1 fun p2 =>
 ldT (.int .i64) p2 fun x3 =>
 brB (x3 == a1)
 (K true)
 (X0 ((IntKind.wrap .i64 (s1.1 + (1 : Int))), s1.2.1, ())))
 (K false))
 ((0 : Int), false, ())
set_option maxRecDepth 100000 in
theorem E_salvorref02_Has (a0 : Sl) (a1 : Int) (K : Bool → HP) (h : Heap) : fnVC Tryz.prog [(1000000, .nil)] 18 Tryz.f87 [(.slice a0.a a0.len a0.cap), (.int .i64 a1)] .bool K h = F_salvorref02_Has a0 a1 K h := by kernel_rfl
set_option maxRecDepth 100000 in
theorem S_salvorref02_Has{h : Heap} {a0 : Sl} {a1 : Int} (K : Bool → HP) (hF : F_salvorref02_Has a0 a1 K h) : CallsH Tryz.prog fn_salvorref02_Has #[(.slice a0.a a0.len a0.cap), (.int .i64 a1)] h fun v h' => ∃ x : Bool, v = Ty.enc .bool x ∧ K x h' :=
  callsH_of_fn (P := Tryz.prog) (fn := Tryz.f87) (τ := .bool) follows Tryz.func87 (by kernel_rfl) (by kernel_rfl) Tryz.call87 (Eq.mpr (E_salvorref02_Has a0 a1 K h) hF)

def F_formula_in (a0 : Sl) (K : Value → HP) : HP :=
 nw #[(.slice a0.a a0.len a0.cap)] ty_sl_bool fun b0 =>
 K (.func (.func fn_formula_in_1) #[] #[(.pointer (some (⟨b0, 0, none⟩ : Addr)))])
set_option maxRecDepth 100000 in
theorem E_formula_in (a0 : Sl) (K : Value → HP) (h : Heap) : fnVC Tryz.prog [(1000000, .nil)] 4 Tryz.f88 [(.slice a0.a a0.len a0.cap)] .val K h = F_formula_in a0 K h := by kernel_rfl
set_option maxRecDepth 100000 in
theorem S_formula_in{h : Heap} {a0 : Sl} (K : Value → HP) (hF : F_formula_in a0 K h) : CallsH Tryz.prog fn_formula_in #[(.slice a0.a a0.len a0.cap)] h fun v h' => ∃ x : Value, v = Ty.enc .val x ∧ K x h' :=
  callsH_of_fn (P := Tryz.prog) (fn := Tryz.f88) (τ := .val) follows Tryz.func88 (by kernel_rfl) (by kernel_rfl) Tryz.call88 (Eq.mpr (E_formula_in a0 K h) hF)

def F_salvorref02_Right (a0 : Sl) (K : Bool → HP) : HP :=
 brB (decide ((a0.len : Int) > (4096 : Int)))
 (K false)
 (lfp (σ := (Int × (Bool × Unit))) (fun X0 s1 => /- i  -/
 brB (decide (s1.1 < (a0.len : Int)))
 (sx a0.a a0.len s1.1 1 fun p2 =>
 ldT (.int .i64) p2 fun x3 =>
 callT Tryz.prog fn_salvorref01_Right #[(.int .i64 x3)] .bool fun r4 =>
 brB (!r4)
 (K false)
 (X0 ((IntKind.wrap .i64 (s1.1 + (1 : Int))), s1.2.1, ())))
 (K true))
 ((0 : Int), false, ()))
set_option maxRecDepth 100000 in
theorem E_salvorref02_Right (a0 : Sl) (K : Bool → HP) (h : Heap) : fnVC Tryz.prog [(1000000, .nil)] 19 Tryz.f89 [(.slice a0.a a0.len a0.cap)] .bool K h = F_salvorref02_Right a0 K h := by kernel_rfl
set_option maxRecDepth 100000 in
theorem S_salvorref02_Right{h : Heap} {a0 : Sl} (K : Bool → HP) (hF : F_salvorref02_Right a0 K h) : CallsH Tryz.prog fn_salvorref02_Right #[(.slice a0.a a0.len a0.cap)] h fun v h' => ∃ x : Bool, v = Ty.enc .bool x ∧ K x h' :=
  callsH_of_fn (P := Tryz.prog) (fn := Tryz.f89) (τ := .bool) follows Tryz.func89 (by kernel_rfl) (by kernel_rfl) Tryz.call89 (Eq.mpr (E_salvorref02_Right a0 K h) hF)

def F_lits_Of (a0 : Int) (a1 : Bool) (K : (Int × (Int × Unit)) → HP) : HP :=
 brB (decide (a0 < (1 : Int)))
 (K ((0 : Int), (10 : Int), ()))
 (brB (decide (a0 > (1048576 : Int)))
 (K ((0 : Int), (10 : Int), ()))
 (brB a1
 (K ((IntKind.wrap .i64 (0 - a0)), (0 : Int), ()))
 (K (a0, (0 : Int), ()))))
set_option maxRecDepth 100000 in
theorem E_lits_Of (a0 : Int) (a1 : Bool) (K : (Int × (Int × Unit)) → HP) (h : Heap) : fnVC Tryz.prog [(1000000, .nil)] 16 Tryz.f90 [(.int .i64 a0), (.bool a1)] (.tup (.cons (.int .i64) (.cons (.int .i64) .nil))) K h = F_lits_Of a0 a1 K h := by kernel_rfl
set_option maxRecDepth 100000 in
theorem S_lits_Of{h : Heap} {a0 : Int} {a1 : Bool} (K : (Int × (Int × Unit)) → HP) (hF : F_lits_Of a0 a1 K h) : CallsH Tryz.prog fn_lits_Of #[(.int .i64 a0), (.bool a1)] h fun v h' => ∃ x : (Int × (Int × Unit)), v = Ty.enc (.tup (.cons (.int .i64) (.cons (.int .i64) .nil))) x ∧ K x h' :=
  callsH_of_fn (P := Tryz.prog) (fn := Tryz.f90) (τ := (.tup (.cons (.int .i64) (.cons (.int .i64) .nil)))) follows Tryz.func90 (by kernel_rfl) (by kernel_rfl) Tryz.call90 (Eq.mpr (E_lits_Of a0 a1 K h) hF)

def F_formula_Models_1 (a0 : Value) (c0 : Addr) (K : Unit → HP) : HP :=
 ldT (.int .i64) c0 fun x0 =>
 ge0 x0 <|
 lfp (σ := (Int × Unit)) (fun X1 s2 => /-  -/
 brB (decide (s2.1 < (IntKind.wrap .i64 ((1 : Int) * 2 ^ (min (x0).toNat 64)))))
 (ldT (.int .i64) c0 fun x3 =>
 mks ty_bool 1 1 #[(.bool false)] x3 x3 fun s4 =>
 lfp (σ := (Int × Unit)) (fun X5 s6 => /-  -/
 brB (decide (s6.1 < (s4.len : Int)))
 (ldT (.int .i64) c0 fun x7 =>
 ge0 (IntKind.wrap .i64 ((IntKind.wrap .i64 (x7 - (1 : Int))) - s6.1)) <|
 sx s4.a s4.len s6.1 1 fun p8 =>
 st1 p8 (.bool ((bAnd .i64 (Int.fdiv s2.1 (2 ^ (min ((IntKind.wrap .i64 ((IntKind.wrap .i64 (x7 - (1 : Int))) - s6.1))).toNat 64))) (1 : Int)) == (1 : Int))) <|
 X5 ((IntKind.wrap .i64 (s6.1 + (1 : Int))), ()))
 (ldA (.cons (.int .i64) (.cons .sl .nil)) c0 fun x9 =>
 callT Tryz.prog fn_formula_fails #[(.agg #[(.int .i64 x9.1), (.slice x9.2.1.a x9.2.1.len x9.2.1.cap)]), (.slice s4.a s4.len s4.cap)] (.int .i64) fun r10 =>
 brB (decide (r10 < (0 : Int)))
 (callF Tryz.prog a0 #[(.slice s4.a s4.len s4.cap)] .bool fun r11 =>
 brB (!r11)
 (K (()))
 (X1 ((IntKind.wrap .i64 (s2.1 + (1 : Int))), ())))
 (X1 ((IntKind.wrap .i64 (s2.1 + (1 : Int))), ()))))
 ((0 : Int), ()))
 (K (())))
 ((0 : Int), ())
set_option maxRecDepth 100000 in
theorem E_formula_Models_1 (a0 : Value) (c0 : Addr) (K : Unit → HP) (h : Heap) : fnVC Tryz.prog [(1000000, .nil)] 44 Tryz.f91 [a0, (.pointer (some c0))] (.tup .nil) K h = F_formula_Models_1 a0 c0 K h := by kernel_rfl
set_option maxRecDepth 100000 in
theorem S_formula_Models_1{h : Heap} {a0 : Value} {c0 : Addr} (K : Unit → HP) (hF : F_formula_Models_1 a0 c0 K h) : CallsH Tryz.prog fn_formula_Models_1 #[a0, (.pointer (some c0))] h fun v h' => ∃ x : Unit, v = Ty.enc (.tup .nil) x ∧ K x h' :=
  callsH_of_fn (P := Tryz.prog) (fn := Tryz.f91) (τ := (.tup .nil)) follows Tryz.func91 (by kernel_rfl) (by kernel_rfl) Tryz.call91 (Eq.mpr (E_formula_Models_1 a0 c0 K h) hF)

def F_formula_fails (a0 : (Int × (Sl × Unit))) (a1 : Sl) (K : Int → HP) : HP :=
 nw #[(.int .i64 a0.1), (.slice a0.2.1.a a0.2.1.len a0.2.1.cap)] ty_formula_Formula fun b0 =>
 callT Tryz.prog fn_formula_in #[(.slice a1.a a1.len a1.cap)] .val fun r1 =>
 ldT .sl ((⟨b0, 0, none⟩ : Addr).add 1) fun x2 =>
 jn (σ := (Int × (Int × Unit))) (fun s4 => /-  at -/
 K s4.2.1)
 (fun J3 =>
 lfp (σ := (Int × (Int × Unit))) (fun X5 s6 => /-  at -/
 brB (decide (s6.1 < (x2.len : Int)))
 (sx x2.a x2.len s6.1 1 fun p7 =>
 ldT .sl p7 fun x8 =>
 callT Tryz.prog fn_slices_ContainsFunc_clauses_Clause_lits_Lit #[(.slice x8.a x8.len x8.cap), r1] .bool fun r9 =>
 brB (!r9)
 (J3 (s6.1, s6.1, ()))
 (X5 ((IntKind.wrap .i64 (s6.1 + (1 : Int))), s6.2.1, ())))
 (J3 (s6.1, s6.2.1, ())))
 ((0 : Int), (-1 : Int), ()))
set_option maxRecDepth 100000 in
theorem E_formula_fails (a0 : (Int × (Sl × Unit))) (a1 : Sl) (K : Int → HP) (h : Heap) : fnVC Tryz.prog [(1000000, .nil)] 26 Tryz.f92 [(.agg #[(.int .i64 a0.1), (.slice a0.2.1.a a0.2.1.len a0.2.1.cap)]), (.slice a1.a a1.len a1.cap)] (.int .i64) K h = F_formula_fails a0 a1 K h := by kernel_rfl
set_option maxRecDepth 100000 in
theorem S_formula_fails{h : Heap} {a0 : (Int × (Sl × Unit))} {a1 : Sl} (K : Int → HP) (hF : F_formula_fails a0 a1 K h) : CallsH Tryz.prog fn_formula_fails #[(.agg #[(.int .i64 a0.1), (.slice a0.2.1.a a0.2.1.len a0.2.1.cap)]), (.slice a1.a a1.len a1.cap)] h fun v h' => ∃ x : Int, v = Ty.enc (.int .i64) x ∧ K x h' :=
  callsH_of_fn (P := Tryz.prog) (fn := Tryz.f92) (τ := (.int .i64)) follows Tryz.func92 (by kernel_rfl) (by kernel_rfl) Tryz.call92 (Eq.mpr (E_formula_fails a0 a1 K h) hF)

def F_slices_IndexFunc_bool_bool (a0 : Sl) (a1 : Value) (K : Int → HP) : HP :=
 lfp (σ := (Int × (Int × Unit))) (fun X0 s1 => /-   -/
 brB (decide (s1.1 < (a0.len : Int)))
 (sx a0.a a0.len s1.1 1 fun p2 =>
 ldT .sl p2 fun x3 =>
 callF Tryz.prog a1 #[(.slice x3.a x3.len x3.cap)] .bool fun r4 =>
 brB r4
 (K s1.1)
 (X0 ((IntKind.wrap .i64 (s1.1 + (1 : Int))), s1.2.1, ())))
 (K (-1 : Int)))
 ((0 : Int), (0 : Int), ())
set_option maxRecDepth 100000 in
theorem E_slices_IndexFunc_bool_bool (a0 : Sl) (a1 : Value) (K : Int → HP) (h : Heap) : fnVC Tryz.prog [(1000000, .nil)] 19 Tryz.f93 [(.slice a0.a a0.len a0.cap), a1] (.int .i64) K h = F_slices_IndexFunc_bool_bool a0 a1 K h := by kernel_rfl
set_option maxRecDepth 100000 in
theorem S_slices_IndexFunc_bool_bool{h : Heap} {a0 : Sl} {a1 : Value} (K : Int → HP) (hF : F_slices_IndexFunc_bool_bool a0 a1 K h) : CallsH Tryz.prog fn_slices_IndexFunc_bool_bool #[(.slice a0.a a0.len a0.cap), a1] h fun v h' => ∃ x : Int, v = Ty.enc (.int .i64) x ∧ K x h' :=
  callsH_of_fn (P := Tryz.prog) (fn := Tryz.f93) (τ := (.int .i64)) follows Tryz.func93 (by kernel_rfl) (by kernel_rfl) Tryz.call93 (Eq.mpr (E_slices_IndexFunc_bool_bool a0 a1 K h) hF)

def F_slices_Clone_clauses_Clause_lits_Lit (a0 : Sl) (K : Sl → HP) : HP :=
 brB (Option.isNone a0.a)
 (K ⟨none, 0, 0⟩)
 (nw #[] ty_lits_Lit fun b0 =>
 apd ty_lits_Lit 1 8 #[(.int .i64 (0 : Int))] ⟨(some (⟨b0, 0, none⟩ : Addr)), 0, 0⟩ ⟨a0.a, a0.len, a0.cap⟩ fun s1 =>
 K ⟨s1.a, s1.len, s1.cap⟩)
set_option maxRecDepth 100000 in
theorem E_slices_Clone_clauses_Clause_lits_Lit (a0 : Sl) (K : Sl → HP) (h : Heap) : fnVC Tryz.prog [(1000000, .nil)] 8 Tryz.f94 [(.slice a0.a a0.len a0.cap)] .sl K h = F_slices_Clone_clauses_Clause_lits_Lit a0 K h := by kernel_rfl
set_option maxRecDepth 100000 in
theorem S_slices_Clone_clauses_Clause_lits_Lit{h : Heap} {a0 : Sl} (K : Sl → HP) (hF : F_slices_Clone_clauses_Clause_lits_Lit a0 K h) : CallsH Tryz.prog fn_slices_Clone_clauses_Clause_lits_Lit #[(.slice a0.a a0.len a0.cap)] h fun v h' => ∃ x : Sl, v = Ty.enc .sl x ∧ K x h' :=
  callsH_of_fn (P := Tryz.prog) (fn := Tryz.f94) (τ := .sl) follows Tryz.func94 (by kernel_rfl) (by kernel_rfl) Tryz.call94 (Eq.mpr (E_slices_Clone_clauses_Clause_lits_Lit a0 K h) hF)

def F_clauses_Clashes_1 (a0 : Int) (c0 : Addr) (K : Bool → HP) : HP :=
 ldT .sl c0 fun x0 =>
 callT Tryz.prog fn_lits_Neg #[(.int .i64 a0)] (.int .i64) fun r1 =>
 ck c0 (.slice x0.a x0.len x0.cap) <|
 callT Tryz.prog fn_slices_BinarySearchFunc_clauses_Clause_lits_Lit_lits_Lit #[(.slice x0.a x0.len x0.cap), (.int .i64 r1), (.func (.func fn_lits_Compare) #[] #[])] (.tup (.cons (.int .i64) (.cons .bool .nil))) fun r2 =>
 K r2.2.1
set_option maxRecDepth 100000 in
theorem E_clauses_Clashes_1 (a0 : Int) (c0 : Addr) (K : Bool → HP) (h : Heap) : fnVC Tryz.prog [(1000000, .nil)] 14 Tryz.f95 [(.int .i64 a0), (.pointer (some c0))] .bool K h = F_clauses_Clashes_1 a0 c0 K h := by kernel_rfl
set_option maxRecDepth 100000 in
theorem S_clauses_Clashes_1{h : Heap} {a0 : Int} {c0 : Addr} (K : Bool → HP) (hF : F_clauses_Clashes_1 a0 c0 K h) : CallsH Tryz.prog fn_clauses_Clashes_1 #[(.int .i64 a0), (.pointer (some c0))] h fun v h' => ∃ x : Bool, v = Ty.enc .bool x ∧ K x h' :=
  callsH_of_fn (P := Tryz.prog) (fn := Tryz.f95) (τ := .bool) follows Tryz.func95 (by kernel_rfl) (by kernel_rfl) Tryz.call95 (Eq.mpr (E_clauses_Clashes_1 a0 c0 K h) hF)

def F_slices_BinarySearchFunc_clauses_Clause_lits_Lit_lits_Lit (a0 : Sl) (a1 : Int) (a2 : Value) (K : (Int × (Bool × Unit)) → HP) : HP :=
 lfp (σ := (Int × (Int × Unit))) (fun X0 s1 => /- j i -/
 brB (decide (s1.2.1 < s1.1))
 (ge0 (1 : Int) <|
 sx a0.a a0.len (IntKind.wrap .i64 (Int.fdiv (IntKind.wrap .u64 (IntKind.wrap .i64 (s1.2.1 + s1.1))) (2 ^ (min ((1 : Int)).toNat 64)))) 1 fun p2 =>
 ldT (.int .i64) p2 fun x3 =>
 callF Tryz.prog a2 #[(.int .i64 x3), (.int .i64 a1)] (.int .i64) fun r4 =>
 jn (σ := (Int × (Int × Unit))) (fun s6 => /- j i -/
 X0 (s6.1, s6.2.1, ()))
 (fun J5 =>
 brB (decide (r4 < (0 : Int)))
 (J5 (s1.1, (IntKind.wrap .i64 ((IntKind.wrap .i64 (Int.fdiv (IntKind.wrap .u64 (IntKind.wrap .i64 (s1.2.1 + s1.1))) (2 ^ (min ((1 : Int)).toNat 64)))) + (1 : Int))), ()))
 (J5 ((IntKind.wrap .i64 (Int.fdiv (IntKind.wrap .u64 (IntKind.wrap .i64 (s1.2.1 + s1.1))) (2 ^ (min ((1 : Int)).toNat 64)))), s1.2.1, ()))))
 (brB (decide (s1.2.1 < (a0.len : Int)))
 (sx a0.a a0.len s1.2.1 1 fun p7 =>
 ldT (.int .i64) p7 fun x8 =>
 callF Tryz.prog a2 #[(.int .i64 x8), (.int .i64 a1)] (.int .i64) fun r9 =>
 K (s1.2.1, (r9 == (0 : Int)), ()))
 (K (s1.2.1, false, ()))))
 ((a0.len : Int), (0 : Int), ())
set_option maxRecDepth 100000 in
theorem E_slices_BinarySearchFunc_clauses_Clause_lits_Lit_lits_Lit (a0 : Sl) (a1 : Int) (a2 : Value) (K : (Int × (Bool × Unit)) → HP) (h : Heap) : fnVC Tryz.prog [(1000000, .nil)] 49 Tryz.f96 [(.slice a0.a a0.len a0.cap), (.int .i64 a1), a2] (.tup (.cons (.int .i64) (.cons .bool .nil))) K h = F_slices_BinarySearchFunc_clauses_Clause_lits_Lit_lits_Lit a0 a1 a2 K h := by kernel_rfl
set_option maxRecDepth 100000 in
theorem S_slices_BinarySearchFunc_clauses_Clause_lits_Lit_lits_Lit{h : Heap} {a0 : Sl} {a1 : Int} {a2 : Value} (K : (Int × (Bool × Unit)) → HP) (hF : F_slices_BinarySearchFunc_clauses_Clause_lits_Lit_lits_Lit a0 a1 a2 K h) : CallsH Tryz.prog fn_slices_BinarySearchFunc_clauses_Clause_lits_Lit_lits_Lit #[(.slice a0.a a0.len a0.cap), (.int .i64 a1), a2] h fun v h' => ∃ x : (Int × (Bool × Unit)), v = Ty.enc (.tup (.cons (.int .i64) (.cons .bool .nil))) x ∧ K x h' :=
  callsH_of_fn (P := Tryz.prog) (fn := Tryz.f96) (τ := (.tup (.cons (.int .i64) (.cons .bool .nil)))) follows Tryz.func96 (by kernel_rfl) (by kernel_rfl) Tryz.call96 (Eq.mpr (E_slices_BinarySearchFunc_clauses_Clause_lits_Lit_lits_Lit a0 a1 a2 K h) hF)

def F_clauses_wrong (a0 : Int) (K : Bool → HP) : HP :=
 callT Tryz.prog fn_lits_Right #[(.int .i64 a0)] .bool fun r0 =>
 K (!r0)
set_option maxRecDepth 100000 in
theorem E_clauses_wrong (a0 : Int) (K : Bool → HP) (h : Heap) : fnVC Tryz.prog [(1000000, .nil)] 6 Tryz.f97 [(.int .i64 a0)] .bool K h = F_clauses_wrong a0 K h := by kernel_rfl
set_option maxRecDepth 100000 in
theorem S_clauses_wrong{h : Heap} {a0 : Int} (K : Bool → HP) (hF : F_clauses_wrong a0 K h) : CallsH Tryz.prog fn_clauses_wrong #[(.int .i64 a0)] h fun v h' => ∃ x : Bool, v = Ty.enc .bool x ∧ K x h' :=
  callsH_of_fn (P := Tryz.prog) (fn := Tryz.f97) (τ := .bool) follows Tryz.func97 (by kernel_rfl) (by kernel_rfl) Tryz.call97 (Eq.mpr (E_clauses_wrong a0 K h) hF)

def F_clauses_Has (a0 : Sl) (a1 : Int) (K : Bool → HP) : HP :=
 callT Tryz.prog fn_clauses_Right #[(.slice a0.a a0.len a0.cap)] .bool fun r0 =>
 brB r0
 (callT Tryz.prog fn_slices_Contains_clauses_Clause_lits_Lit #[(.slice a0.a a0.len a0.cap), (.int .i64 a1)] .bool fun r1 =>
 K r1)
 (K false)
set_option maxRecDepth 100000 in
theorem E_clauses_Has (a0 : Sl) (a1 : Int) (K : Bool → HP) (h : Heap) : fnVC Tryz.prog [(1000000, .nil)] 12 Tryz.f98 [(.slice a0.a a0.len a0.cap), (.int .i64 a1)] .bool K h = F_clauses_Has a0 a1 K h := by kernel_rfl
set_option maxRecDepth 100000 in
theorem S_clauses_Has{h : Heap} {a0 : Sl} {a1 : Int} (K : Bool → HP) (hF : F_clauses_Has a0 a1 K h) : CallsH Tryz.prog fn_clauses_Has #[(.slice a0.a a0.len a0.cap), (.int .i64 a1)] h fun v h' => ∃ x : Bool, v = Ty.enc .bool x ∧ K x h' :=
  callsH_of_fn (P := Tryz.prog) (fn := Tryz.f98) (τ := .bool) follows Tryz.func98 (by kernel_rfl) (by kernel_rfl) Tryz.call98 (Eq.mpr (E_clauses_Has a0 a1 K h) hF)

def F_clauses_Without (a0 : Sl) (a1 : Int) (K : (Sl × (Int × Unit)) → HP) : HP :=
 nw #[(.int .i64 a1)] ty_lits_Lit fun b0 =>
 callT Tryz.prog fn_clauses_Right #[(.slice a0.a a0.len a0.cap)] .bool fun r1 =>
 brB (!r1)
 (K (⟨none, 0, 0⟩, (20 : Int), ()))
 (ldT (.int .i64) (⟨b0, 0, none⟩ : Addr) fun x2 =>
 callT Tryz.prog fn_clauses_wrong #[(.int .i64 x2)] .bool fun r3 =>
 brB r3
 (K (⟨none, 0, 0⟩, (10 : Int), ()))
 (callT Tryz.prog fn_clauses_normal #[(.slice a0.a a0.len a0.cap)] .sl fun r4 =>
 callT Tryz.prog fn_slices_DeleteFunc_clauses_Clause_lits_Lit #[(.slice r4.a r4.len r4.cap), (.func (.func fn_clauses_Without_1) #[] #[(.pointer (some (⟨b0, 0, none⟩ : Addr)))])] .sl fun r5 =>
 K (⟨r5.a, r5.len, r5.cap⟩, (0 : Int), ())))
set_option maxRecDepth 100000 in
theorem E_clauses_Without (a0 : Sl) (a1 : Int) (K : (Sl × (Int × Unit)) → HP) (h : Heap) : fnVC Tryz.prog [(1000000, .nil)] 17 Tryz.f99 [(.slice a0.a a0.len a0.cap), (.int .i64 a1)] (.tup (.cons .sl (.cons (.int .i64) .nil))) K h = F_clauses_Without a0 a1 K h := by kernel_rfl
set_option maxRecDepth 100000 in
theorem S_clauses_Without{h : Heap} {a0 : Sl} {a1 : Int} (K : (Sl × (Int × Unit)) → HP) (hF : F_clauses_Without a0 a1 K h) : CallsH Tryz.prog fn_clauses_Without #[(.slice a0.a a0.len a0.cap), (.int .i64 a1)] h fun v h' => ∃ x : (Sl × (Int × Unit)), v = Ty.enc (.tup (.cons .sl (.cons (.int .i64) .nil))) x ∧ K x h' :=
  callsH_of_fn (P := Tryz.prog) (fn := Tryz.f99) (τ := (.tup (.cons .sl (.cons (.int .i64) .nil)))) follows Tryz.func99 (by kernel_rfl) (by kernel_rfl) Tryz.call99 (Eq.mpr (E_clauses_Without a0 a1 K h) hF)

def F_clauses_Union (a0 : Sl) (a1 : Sl) (K : (Sl × (Int × Unit)) → HP) : HP :=
 callT Tryz.prog fn_clauses_Right #[(.slice a0.a a0.len a0.cap)] .bool fun r0 =>
 brB (!r0)
 (K (⟨none, 0, 0⟩, (20 : Int), ()))
 (callT Tryz.prog fn_clauses_Right #[(.slice a1.a a1.len a1.cap)] .bool fun r1 =>
 brB (!r1)
 (K (⟨none, 0, 0⟩, (20 : Int), ()))
 (nw #[(.slice a0.a a0.len a0.cap), (.slice a1.a a1.len a1.cap)] ty_clauses_Clause fun b2 =>
 callT Tryz.prog fn_slices_Concat_clauses_Clause_lits_Lit #[(.slice (some (⟨b2, 0, none⟩ : Addr)) 2 2)] .sl fun r3 =>
 callT Tryz.prog fn_clauses_normal #[(.slice r3.a r3.len r3.cap)] .sl fun r4 =>
 brB (decide ((r4.len : Int) > (4096 : Int)))
 (K (⟨none, 0, 0⟩, (5 : Int), ()))
 (K (⟨r4.a, r4.len, r4.cap⟩, (0 : Int), ()))))
set_option maxRecDepth 100000 in
theorem E_clauses_Union (a0 : Sl) (a1 : Sl) (K : (Sl × (Int × Unit)) → HP) (h : Heap) : fnVC Tryz.prog [(1000000, .nil)] 24 Tryz.f100 [(.slice a0.a a0.len a0.cap), (.slice a1.a a1.len a1.cap)] (.tup (.cons .sl (.cons (.int .i64) .nil))) K h = F_clauses_Union a0 a1 K h := by kernel_rfl
set_option maxRecDepth 100000 in
theorem S_clauses_Union{h : Heap} {a0 : Sl} {a1 : Sl} (K : (Sl × (Int × Unit)) → HP) (hF : F_clauses_Union a0 a1 K h) : CallsH Tryz.prog fn_clauses_Union #[(.slice a0.a a0.len a0.cap), (.slice a1.a a1.len a1.cap)] h fun v h' => ∃ x : (Sl × (Int × Unit)), v = Ty.enc (.tup (.cons .sl (.cons (.int .i64) .nil))) x ∧ K x h' :=
  callsH_of_fn (P := Tryz.prog) (fn := Tryz.f100) (τ := (.tup (.cons .sl (.cons (.int .i64) .nil)))) follows Tryz.func100 (by kernel_rfl) (by kernel_rfl) Tryz.call100 (Eq.mpr (E_clauses_Union a0 a1 K h) hF)

def F_slices_Contains_clauses_Clause_lits_Lit (a0 : Sl) (a1 : Int) (K : Bool → HP) : HP :=
 callT Tryz.prog fn_slices_Index_clauses_Clause_lits_Lit #[(.slice a0.a a0.len a0.cap), (.int .i64 a1)] (.int .i64) fun r0 =>
 K (decide (r0 ≥ (0 : Int)))
set_option maxRecDepth 100000 in
theorem E_slices_Contains_clauses_Clause_lits_Lit (a0 : Sl) (a1 : Int) (K : Bool → HP) (h : Heap) : fnVC Tryz.prog [(1000000, .nil)] 9 Tryz.f101 [(.slice a0.a a0.len a0.cap), (.int .i64 a1)] .bool K h = F_slices_Contains_clauses_Clause_lits_Lit a0 a1 K h := by kernel_rfl
set_option maxRecDepth 100000 in
theorem S_slices_Contains_clauses_Clause_lits_Lit{h : Heap} {a0 : Sl} {a1 : Int} (K : Bool → HP) (hF : F_slices_Contains_clauses_Clause_lits_Lit a0 a1 K h) : CallsH Tryz.prog fn_slices_Contains_clauses_Clause_lits_Lit #[(.slice a0.a a0.len a0.cap), (.int .i64 a1)] h fun v h' => ∃ x : Bool, v = Ty.enc .bool x ∧ K x h' :=
  callsH_of_fn (P := Tryz.prog) (fn := Tryz.f101) (τ := .bool) follows Tryz.func101 (by kernel_rfl) (by kernel_rfl) Tryz.call101 (Eq.mpr (E_slices_Contains_clauses_Clause_lits_Lit a0 a1 K h) hF)

def F_slices_DeleteFunc_clauses_Clause_lits_Lit (a0 : Sl) (a1 : Value) (K : Sl → HP) : HP :=
 callT Tryz.prog fn_slices_IndexFunc_clauses_Clause_lits_Lit #[(.slice a0.a a0.len a0.cap), a1] (.int .i64) fun r0 =>
 brB (r0 == (-1 : Int))
 (K ⟨a0.a, a0.len, a0.cap⟩)
 (lfp (σ := (Int × (Int × Unit))) (fun X1 s2 => /- j i -/
 brB (decide (s2.1 < (a0.len : Int)))
 (sx a0.a a0.len s2.1 1 fun p3 =>
 ldT (.int .i64) p3 fun x4 =>
 callF Tryz.prog a1 #[(.int .i64 x4)] .bool fun r5 =>
 jn (σ := (Int × Unit)) (fun s7 => /- i -/
 X1 ((IntKind.wrap .i64 (s2.1 + (1 : Int))), s7.1, ()))
 (fun J6 =>
 brB (!r5)
 (sx a0.a a0.len s2.2.1 1 fun p8 =>
 st1 p8 (.int .i64 x4) <|
 J6 ((IntKind.wrap .i64 (s2.2.1 + (1 : Int))), ()))
 (J6 (s2.2.1, ()))))
 (slL ⟨a0.a, a0.len, a0.cap⟩ s2.2.1 1 fun s9 =>
 clr #[(.int .i64 (0 : Int))] ⟨s9.a, s9.len, s9.cap⟩ <|
 slH ⟨a0.a, a0.len, a0.cap⟩ s2.2.1 1 fun s10 =>
 K ⟨s10.a, s10.len, s10.cap⟩))
 ((IntKind.wrap .i64 (r0 + (1 : Int))), r0, ()))
set_option maxRecDepth 100000 in
theorem E_slices_DeleteFunc_clauses_Clause_lits_Lit (a0 : Sl) (a1 : Value) (K : Sl → HP) (h : Heap) : fnVC Tryz.prog [(1000000, .nil)] 42 Tryz.f102 [(.slice a0.a a0.len a0.cap), a1] .sl K h = F_slices_DeleteFunc_clauses_Clause_lits_Lit a0 a1 K h := by kernel_rfl
set_option maxRecDepth 100000 in
theorem S_slices_DeleteFunc_clauses_Clause_lits_Lit{h : Heap} {a0 : Sl} {a1 : Value} (K : Sl → HP) (hF : F_slices_DeleteFunc_clauses_Clause_lits_Lit a0 a1 K h) : CallsH Tryz.prog fn_slices_DeleteFunc_clauses_Clause_lits_Lit #[(.slice a0.a a0.len a0.cap), a1] h fun v h' => ∃ x : Sl, v = Ty.enc .sl x ∧ K x h' :=
  callsH_of_fn (P := Tryz.prog) (fn := Tryz.f102) (τ := .sl) follows Tryz.func102 (by kernel_rfl) (by kernel_rfl) Tryz.call102 (Eq.mpr (E_slices_DeleteFunc_clauses_Clause_lits_Lit a0 a1 K h) hF)

def F_formula_Assign_1 (a0 : Int) (c0 : Addr) (K : Bool → HP) : HP :=
 ldT (.int .i64) c0 fun x0 =>
 K (a0 == (IntKind.wrap .i64 (0 - x0)))
set_option maxRecDepth 100000 in
theorem E_formula_Assign_1 (a0 : Int) (c0 : Addr) (K : Bool → HP) (h : Heap) : fnVC Tryz.prog [(1000000, .nil)] 8 Tryz.f103 [(.int .i64 a0), (.pointer (some c0))] .bool K h = F_formula_Assign_1 a0 c0 K h := by kernel_rfl
set_option maxRecDepth 100000 in
theorem S_formula_Assign_1{h : Heap} {a0 : Int} {c0 : Addr} (K : Bool → HP) (hF : F_formula_Assign_1 a0 c0 K h) : CallsH Tryz.prog fn_formula_Assign_1 #[(.int .i64 a0), (.pointer (some c0))] h fun v h' => ∃ x : Bool, v = Ty.enc .bool x ∧ K x h' :=
  callsH_of_fn (P := Tryz.prog) (fn := Tryz.f103) (τ := .bool) follows Tryz.func103 (by kernel_rfl) (by kernel_rfl) Tryz.call103 (Eq.mpr (E_formula_Assign_1 a0 c0 K h) hF)

def F_lits_Right (a0 : Int) (K : Bool → HP) : HP :=
 brB (a0 != (0 : Int))
 (brB (decide (a0 ≥ (-1048576 : Int)))
 (K (decide (a0 ≤ (1048576 : Int))))
 (K false))
 (K false)
set_option maxRecDepth 100000 in
theorem E_lits_Right (a0 : Int) (K : Bool → HP) (h : Heap) : fnVC Tryz.prog [(1000000, .nil)] 13 Tryz.f109 [(.int .i64 a0)] .bool K h = F_lits_Right a0 K h := by kernel_rfl
set_option maxRecDepth 100000 in
theorem S_lits_Right{h : Heap} {a0 : Int} (K : Bool → HP) (hF : F_lits_Right a0 K h) : CallsH Tryz.prog fn_lits_Right #[(.int .i64 a0)] h fun v h' => ∃ x : Bool, v = Ty.enc .bool x ∧ K x h' :=
  callsH_of_fn (P := Tryz.prog) (fn := Tryz.f109) (τ := .bool) follows Tryz.func109 (by kernel_rfl) (by kernel_rfl) Tryz.call109 (Eq.mpr (E_lits_Right a0 K h) hF)

def F_slices_EqualFunc_clauses_Clause_int_clauses_Clause_int (a0 : Sl) (a1 : Sl) (a2 : Value) (K : Bool → HP) : HP :=
 brB ((a0.len : Int) != (a1.len : Int))
 (K false)
 (lfp (σ := (Int × (Bool × Unit))) (fun X0 s1 => /-   -/
 brB (decide (s1.1 < (a0.len : Int)))
 (sx a0.a a0.len s1.1 1 fun p2 =>
 ldT .sl p2 fun x3 =>
 sx a1.a a1.len s1.1 1 fun p4 =>
 ldT .sl p4 fun x5 =>
 callF Tryz.prog a2 #[(.slice x3.a x3.len x3.cap), (.slice x5.a x5.len x5.cap)] .bool fun r6 =>
 brB (!r6)
 (K false)
 (X0 ((IntKind.wrap .i64 (s1.1 + (1 : Int))), s1.2.1, ())))
 (K true))
 ((0 : Int), false, ()))
set_option maxRecDepth 100000 in
theorem E_slices_EqualFunc_clauses_Clause_int_clauses_Clause_int (a0 : Sl) (a1 : Sl) (a2 : Value) (K : Bool → HP) (h : Heap) : fnVC Tryz.prog [(1000000, .nil)] 32 Tryz.f110 [(.slice a0.a a0.len a0.cap), (.slice a1.a a1.len a1.cap), a2] .bool K h = F_slices_EqualFunc_clauses_Clause_int_clauses_Clause_int a0 a1 a2 K h := by kernel_rfl
set_option maxRecDepth 100000 in
theorem S_slices_EqualFunc_clauses_Clause_int_clauses_Clause_int{h : Heap} {a0 : Sl} {a1 : Sl} {a2 : Value} (K : Bool → HP) (hF : F_slices_EqualFunc_clauses_Clause_int_clauses_Clause_int a0 a1 a2 K h) : CallsH Tryz.prog fn_slices_EqualFunc_clauses_Clause_int_clauses_Clause_int #[(.slice a0.a a0.len a0.cap), (.slice a1.a a1.len a1.cap), a2] h fun v h' => ∃ x : Bool, v = Ty.enc .bool x ∧ K x h' :=
  callsH_of_fn (P := Tryz.prog) (fn := Tryz.f110) (τ := .bool) follows Tryz.func110 (by kernel_rfl) (by kernel_rfl) Tryz.call110 (Eq.mpr (E_slices_EqualFunc_clauses_Clause_int_clauses_Clause_int a0 a1 a2 K h) hF)

def F_salvorlaw05_Equal_1 (a0 : Sl) (a1 : Sl) (K : Bool → HP) : HP :=
 callT Tryz.prog fn_salvorlaw02_Ints #[(.slice a0.a a0.len a0.cap)] .sl fun r0 =>
 callT Tryz.prog fn_slices_Equal_int_int #[(.slice r0.a r0.len r0.cap), (.slice a1.a a1.len a1.cap)] .bool fun r1 =>
 K r1
set_option maxRecDepth 100000 in
theorem E_salvorlaw05_Equal_1 (a0 : Sl) (a1 : Sl) (K : Bool → HP) (h : Heap) : fnVC Tryz.prog [(1000000, .nil)] 9 Tryz.f111 [(.slice a0.a a0.len a0.cap), (.slice a1.a a1.len a1.cap)] .bool K h = F_salvorlaw05_Equal_1 a0 a1 K h := by kernel_rfl
set_option maxRecDepth 100000 in
theorem S_salvorlaw05_Equal_1{h : Heap} {a0 : Sl} {a1 : Sl} (K : Bool → HP) (hF : F_salvorlaw05_Equal_1 a0 a1 K h) : CallsH Tryz.prog fn_salvorlaw05_Equal_1 #[(.slice a0.a a0.len a0.cap), (.slice a1.a a1.len a1.cap)] h fun v h' => ∃ x : Bool, v = Ty.enc .bool x ∧ K x h' :=
  callsH_of_fn (P := Tryz.prog) (fn := Tryz.f111) (τ := .bool) follows Tryz.func111 (by kernel_rfl) (by kernel_rfl) Tryz.call111 (Eq.mpr (E_salvorlaw05_Equal_1 a0 a1 K h) hF)

def F_salvorref02_Always (a0 : Sl) (K : Bool → HP) : HP :=
 lfp (σ := (Int × (Bool × Unit))) (fun X0 s1 => /- i  -/
 brB (decide (s1.1 < (a0.len : Int)))
 (sx a0.a a0.len s1.1 1 fun p2 =>
 ldT (.int .i64) p2 fun x3 =>
 callT Tryz.prog fn_salvorref02_Has #[(.slice a0.a a0.len a0.cap), (.int .i64 (IntKind.wrap .i64 (0 - x3)))] .bool fun r4 =>
 brB r4
 (K true)
 (X0 ((IntKind.wrap .i64 (s1.1 + (1 : Int))), s1.2.1, ())))
 (K false))
 ((0 : Int), false, ())
set_option maxRecDepth 100000 in
theorem E_salvorref02_Always (a0 : Sl) (K : Bool → HP) (h : Heap) : fnVC Tryz.prog [(1000000, .nil)] 17 Tryz.f112 [(.slice a0.a a0.len a0.cap)] .bool K h = F_salvorref02_Always a0 K h := by kernel_rfl
set_option maxRecDepth 100000 in
theorem S_salvorref02_Always{h : Heap} {a0 : Sl} (K : Bool → HP) (hF : F_salvorref02_Always a0 K h) : CallsH Tryz.prog fn_salvorref02_Always #[(.slice a0.a a0.len a0.cap)] h fun v h' => ∃ x : Bool, v = Ty.enc .bool x ∧ K x h' :=
  callsH_of_fn (P := Tryz.prog) (fn := Tryz.f112) (τ := .bool) follows Tryz.func112 (by kernel_rfl) (by kernel_rfl) Tryz.call112 (Eq.mpr (E_salvorref02_Always a0 K h) hF)

def F_salvorref02_Compare (a0 : Sl) (a1 : Sl) (K : Int → HP) : HP :=
 callT Tryz.prog fn_salvorref02_Norm #[(.slice a0.a a0.len a0.cap)] .sl fun r0 =>
 callT Tryz.prog fn_salvorref02_Norm #[(.slice a1.a a1.len a1.cap)] .sl fun r1 =>
 brB ((r0.len : Int) != (r1.len : Int))
 (brB (decide ((r0.len : Int) < (r1.len : Int)))
 (K (-1 : Int))
 (K (1 : Int)))
 (lfp (σ := (Int × (Int × Unit))) (fun X2 s3 => /- i  -/
 brB (decide (s3.1 < (r0.len : Int)))
 (sx r0.a r0.len s3.1 1 fun p4 =>
 ldT (.int .i64) p4 fun x5 =>
 sx r1.a r1.len s3.1 1 fun p6 =>
 ldT (.int .i64) p6 fun x7 =>
 callT Tryz.prog fn_salvorref01_Compare #[(.int .i64 x5), (.int .i64 x7)] (.int .i64) fun r8 =>
 brB (r8 != (0 : Int))
 (K r8)
 (X2 ((IntKind.wrap .i64 (s3.1 + (1 : Int))), s3.2.1, ())))
 (K (0 : Int)))
 ((0 : Int), (0 : Int), ()))
set_option maxRecDepth 100000 in
theorem E_salvorref02_Compare (a0 : Sl) (a1 : Sl) (K : Int → HP) (h : Heap) : fnVC Tryz.prog [(1000000, .nil)] 41 Tryz.f113 [(.slice a0.a a0.len a0.cap), (.slice a1.a a1.len a1.cap)] (.int .i64) K h = F_salvorref02_Compare a0 a1 K h := by kernel_rfl
set_option maxRecDepth 100000 in
theorem S_salvorref02_Compare{h : Heap} {a0 : Sl} {a1 : Sl} (K : Int → HP) (hF : F_salvorref02_Compare a0 a1 K h) : CallsH Tryz.prog fn_salvorref02_Compare #[(.slice a0.a a0.len a0.cap), (.slice a1.a a1.len a1.cap)] h fun v h' => ∃ x : Int, v = Ty.enc (.int .i64) x ∧ K x h' :=
  callsH_of_fn (P := Tryz.prog) (fn := Tryz.f113) (τ := (.int .i64)) follows Tryz.func113 (by kernel_rfl) (by kernel_rfl) Tryz.call113 (Eq.mpr (E_salvorref02_Compare a0 a1 K h) hF)

def F_salvorref02_Norm (a0 : Sl) (K : Sl → HP) : HP :=
 lfp (σ := (Int × (Sl × (Sl × Unit)))) (fun X0 s1 => /- last out  -/
 lfp (σ := (Int × (Int × Unit))) (fun X2 s3 => /- i best -/
 brB (decide (s3.1 < (a0.len : Int)))
 (sx a0.a a0.len s3.1 1 fun p4 =>
 ldT (.int .i64) p4 fun x5 =>
 callT Tryz.prog fn_salvorref01_Index #[(.int .i64 x5)] (.int .i64) fun r6 =>
 brB (decide (r6 > s1.1))
 (brB (decide (s3.2.1 < (0 : Int)))
 (jn (σ := (Int × Unit)) (fun s8 => /- best -/
 X2 ((IntKind.wrap .i64 (s3.1 + (1 : Int))), s8.1, ()))
 (fun J7 =>
 J7 (r6, ())))
 (jn (σ := (Int × Unit)) (fun s10 => /- best -/
 X2 ((IntKind.wrap .i64 (s3.1 + (1 : Int))), s10.1, ()))
 (fun J9 =>
 brB (decide (r6 < s3.2.1))
 (J9 (r6, ()))
 (J9 (s3.2.1, ())))))
 (jn (σ := (Int × Unit)) (fun s12 => /- best -/
 X2 ((IntKind.wrap .i64 (s3.1 + (1 : Int))), s12.1, ()))
 (fun J11 =>
 J11 (s3.2.1, ()))))
 (brB (decide (s3.2.1 < (0 : Int)))
 (K ⟨s1.2.1.a, s1.2.1.len, s1.2.1.cap⟩)
 (callT Tryz.prog fn_salvorref01_At #[(.int .i64 s3.2.1)] (.int .i64) fun r13 =>
 nw #[(.int .i64 r13)] ty_int fun b14 =>
 apd ty_int 1 8 #[(.int .i64 (0 : Int))] ⟨s1.2.1.a, s1.2.1.len, s1.2.1.cap⟩ ⟨(some (⟨b14, 0, none⟩ : Addr)), 1, 1⟩ fun s15 =>
 X0 (s3.2.1, ⟨s15.a, s15.len, s15.cap⟩, ⟨s1.2.2.1.a, s1.2.2.1.len, s1.2.2.1.cap⟩, ()))))
 ((0 : Int), (-1 : Int), ()))
 ((-1 : Int), ⟨none, 0, 0⟩, ⟨none, 0, 0⟩, ())
set_option maxRecDepth 100000 in
theorem E_salvorref02_Norm (a0 : Sl) (K : Sl → HP) (h : Heap) : fnVC Tryz.prog [(1000000, .nil)] 41 Tryz.f114 [(.slice a0.a a0.len a0.cap)] .sl K h = F_salvorref02_Norm a0 K h := by kernel_rfl
set_option maxRecDepth 100000 in
theorem S_salvorref02_Norm{h : Heap} {a0 : Sl} (K : Sl → HP) (hF : F_salvorref02_Norm a0 K h) : CallsH Tryz.prog fn_salvorref02_Norm #[(.slice a0.a a0.len a0.cap)] h fun v h' => ∃ x : Sl, v = Ty.enc .sl x ∧ K x h' :=
  callsH_of_fn (P := Tryz.prog) (fn := Tryz.f114) (τ := .sl) follows Tryz.func114 (by kernel_rfl) (by kernel_rfl) Tryz.call114 (Eq.mpr (E_salvorref02_Norm a0 K h) hF)

def F_salvorref05_Models (a0 : (Int × (Sl × Unit))) (K : Sl → HP) : HP :=
 nw #[(.int .i64 a0.1), (.slice a0.2.1.a a0.2.1.len a0.2.1.cap)] ty_salvorref05_Formula fun b0 =>
 ldT (.int .i64) (⟨b0, 0, none⟩ : Addr) fun x1 =>
 mks ty_int 1 8 #[(.int .i64 (0 : Int))] x1 x1 fun s2 =>
 lfp (σ := (Bool × (Sl × (Sl × Unit)))) (fun X3 s4 => /- more m out -/
 brB s4.1
 (ldA (.cons (.int .i64) (.cons .sl .nil)) (⟨b0, 0, none⟩ : Addr) fun x5 =>
 callT Tryz.prog fn_salvorref05_Fails #[(.agg #[(.int .i64 x5.1), (.slice x5.2.1.a x5.2.1.len x5.2.1.cap)]), (.slice s4.2.1.a s4.2.1.len s4.2.1.cap)] (.int .i64) fun r6 =>
 jn (σ := (Sl × Unit)) (fun s8 => /- out -/
 callT Tryz.prog fn_salvorref05_next #[(.slice s4.2.1.a s4.2.1.len s4.2.1.cap)] (.tup (.cons .sl (.cons .bool .nil))) fun r9 =>
 X3 (r9.2.1, ⟨r9.1.a, r9.1.len, r9.1.cap⟩, ⟨s8.1.a, s8.1.len, s8.1.cap⟩, ()))
 (fun J7 =>
 brB (decide (r6 < (0 : Int)))
 (nw #[(.slice s4.2.1.a s4.2.1.len s4.2.1.cap)] ty_sl_int fun b10 =>
 apd ty_sl_int 1 24 #[(.slice none 0 0)] ⟨s4.2.2.1.a, s4.2.2.1.len, s4.2.2.1.cap⟩ ⟨(some (⟨b10, 0, none⟩ : Addr)), 1, 1⟩ fun s11 =>
 J7 (⟨s11.a, s11.len, s11.cap⟩, ()))
 (J7 (⟨s4.2.2.1.a, s4.2.2.1.len, s4.2.2.1.cap⟩, ()))))
 (K ⟨s4.2.2.1.a, s4.2.2.1.len, s4.2.2.1.cap⟩))
 (true, ⟨s2.a, s2.len, s2.cap⟩, ⟨none, 0, 0⟩, ())
set_option maxRecDepth 100000 in
theorem E_salvorref05_Models (a0 : (Int × (Sl × Unit))) (K : Sl → HP) (h : Heap) : fnVC Tryz.prog [(1000000, .bool)] 24 Tryz.f115 [(.agg #[(.int .i64 a0.1), (.slice a0.2.1.a a0.2.1.len a0.2.1.cap)])] .sl K h = F_salvorref05_Models a0 K h := by kernel_rfl
set_option maxRecDepth 100000 in
theorem S_salvorref05_Models{h : Heap} {a0 : (Int × (Sl × Unit))} (K : Sl → HP) (hF : F_salvorref05_Models a0 K h) : CallsH Tryz.prog fn_salvorref05_Models #[(.agg #[(.int .i64 a0.1), (.slice a0.2.1.a a0.2.1.len a0.2.1.cap)])] h fun v h' => ∃ x : Sl, v = Ty.enc .sl x ∧ K x h' :=
  callsH_of_fn (P := Tryz.prog) (fn := Tryz.f115) (τ := .sl) follows Tryz.func115 (by kernel_rfl) (by kernel_rfl) Tryz.call115 (Eq.mpr (E_salvorref05_Models a0 K h) hF)

def F_slices_IndexFunc_clauses_Clause_lits_Lit (a0 : Sl) (a1 : Value) (K : Int → HP) : HP :=
 lfp (σ := (Int × (Int × Unit))) (fun X0 s1 => /-   -/
 brB (decide (s1.1 < (a0.len : Int)))
 (sx a0.a a0.len s1.1 1 fun p2 =>
 ldT (.int .i64) p2 fun x3 =>
 callF Tryz.prog a1 #[(.int .i64 x3)] .bool fun r4 =>
 brB r4
 (K s1.1)
 (X0 ((IntKind.wrap .i64 (s1.1 + (1 : Int))), s1.2.1, ())))
 (K (-1 : Int)))
 ((0 : Int), (0 : Int), ())
set_option maxRecDepth 100000 in
theorem E_slices_IndexFunc_clauses_Clause_lits_Lit (a0 : Sl) (a1 : Value) (K : Int → HP) (h : Heap) : fnVC Tryz.prog [(1000000, .nil)] 19 Tryz.f116 [(.slice a0.a a0.len a0.cap), a1] (.int .i64) K h = F_slices_IndexFunc_clauses_Clause_lits_Lit a0 a1 K h := by kernel_rfl
set_option maxRecDepth 100000 in
theorem S_slices_IndexFunc_clauses_Clause_lits_Lit{h : Heap} {a0 : Sl} {a1 : Value} (K : Int → HP) (hF : F_slices_IndexFunc_clauses_Clause_lits_Lit a0 a1 K h) : CallsH Tryz.prog fn_slices_IndexFunc_clauses_Clause_lits_Lit #[(.slice a0.a a0.len a0.cap), a1] h fun v h' => ∃ x : Int, v = Ty.enc (.int .i64) x ∧ K x h' :=
  callsH_of_fn (P := Tryz.prog) (fn := Tryz.f116) (τ := (.int .i64)) follows Tryz.func116 (by kernel_rfl) (by kernel_rfl) Tryz.call116 (Eq.mpr (E_slices_IndexFunc_clauses_Clause_lits_Lit a0 a1 K h) hF)

def F_formula_beyond_1 (a0 : Int) (c0 : Addr) (K : Bool → HP) : HP :=
 callT Tryz.prog fn_lits_Right #[(.int .i64 a0)] .bool fun r0 =>
 brB (!r0)
 (K true)
 (ldT (.int .i64) c0 fun x1 =>
 callT Tryz.prog fn_lits_Var #[(.int .i64 a0)] (.int .i64) fun r2 =>
 ck c0 (.int .i64 x1) <|
 K (decide (r2 > x1)))
set_option maxRecDepth 100000 in
theorem E_formula_beyond_1 (a0 : Int) (c0 : Addr) (K : Bool → HP) (h : Heap) : fnVC Tryz.prog [(1000000, .nil)] 13 Tryz.f117 [(.int .i64 a0), (.pointer (some c0))] .bool K h = F_formula_beyond_1 a0 c0 K h := by kernel_rfl
set_option maxRecDepth 100000 in
theorem S_formula_beyond_1{h : Heap} {a0 : Int} {c0 : Addr} (K : Bool → HP) (hF : F_formula_beyond_1 a0 c0 K h) : CallsH Tryz.prog fn_formula_beyond_1 #[(.int .i64 a0), (.pointer (some c0))] h fun v h' => ∃ x : Bool, v = Ty.enc .bool x ∧ K x h' :=
  callsH_of_fn (P := Tryz.prog) (fn := Tryz.f117) (τ := .bool) follows Tryz.func117 (by kernel_rfl) (by kernel_rfl) Tryz.call117 (Eq.mpr (E_formula_beyond_1 a0 c0 K h) hF)

def F_slices_pdqsortCmpFunc_clauses_Clause (a0 : Sl) (a1 : Int) (a2 : Int) (a3 : Int) (a4 : Value) (K : Unit → HP) : HP :=
 lfp (σ := (Bool × (Bool × (Int × (Int × (Int × Unit)))))) (fun X0 s1 => /- wasPartitioned wasBalanced a b limit -/
 jn (σ := (Bool × (Bool × (Int × (Int × (Int × Unit)))))) (fun s3 => /- wasPartitioned wasBalanced a b limit -/
 X0 (s3.1, s3.2.1, s3.2.2.1, s3.2.2.2.1, s3.2.2.2.2.1, ()))
 (fun J2 =>
 brB (decide ((IntKind.wrap .i64 (s1.2.2.2.1 - s1.2.2.1)) ≤ (12 : Int)))
 (callT Tryz.prog fn_slices_insertionSortCmpFunc_clauses_Clause #[(.slice a0.a a0.len a0.cap), (.int .i64 s1.2.2.1), (.int .i64 s1.2.2.2.1), a4] (.tup .nil) fun r4 =>
 K (()))
 (brB (s1.2.2.2.2.1 == (0 : Int))
 (callT Tryz.prog fn_slices_heapSortCmpFunc_clauses_Clause #[(.slice a0.a a0.len a0.cap), (.int .i64 s1.2.2.1), (.int .i64 s1.2.2.2.1), a4] (.tup .nil) fun r5 =>
 K (()))
 (jn (σ := (Int × Unit)) (fun s7 => /- limit -/
 callT Tryz.prog fn_slices_choosePivotCmpFunc_clauses_Clause #[(.slice a0.a a0.len a0.cap), (.int .i64 s1.2.2.1), (.int .i64 s1.2.2.2.1), a4] (.tup (.cons (.int .i64) (.cons (.int .i64) .nil))) fun r8 =>
 jn (σ := (Int × (Int × Unit))) (fun s10 => /- hint pivot -/
 brB s1.2.1
 (brB s1.1
 (jn (σ := Unit) (fun s12 => /- -/
 brB (decide (s1.2.2.1 > (0 : Int)))
 (sx a0.a a0.len (IntKind.wrap .i64 (s1.2.2.1 - (1 : Int))) 1 fun p13 =>
 ldT .sl p13 fun x14 =>
 sx a0.a a0.len s10.2.1 1 fun p15 =>
 ldT .sl p15 fun x16 =>
 callF Tryz.prog a4 #[(.slice x14.a x14.len x14.cap), (.slice x16.a x16.len x16.cap)] (.int .i64) fun r17 =>
 brB (!(decide (r17 < (0 : Int))))
 (callT Tryz.prog fn_slices_partitionEqualCmpFunc_clauses_Clause #[(.slice a0.a a0.len a0.cap), (.int .i64 s1.2.2.1), (.int .i64 s1.2.2.2.1), (.int .i64 s10.2.1), a4] (.int .i64) fun r18 =>
 J2 (s1.1, s1.2.1, r18, s1.2.2.2.1, s7.1, ()))
 (callT Tryz.prog fn_slices_partitionCmpFunc_clauses_Clause #[(.slice a0.a a0.len a0.cap), (.int .i64 s1.2.2.1), (.int .i64 s1.2.2.2.1), (.int .i64 s10.2.1), a4] (.tup (.cons (.int .i64) (.cons .bool .nil))) fun r19 =>
 nz (8 : Int) <|
 jn (σ := (Bool × (Int × (Int × Unit)))) (fun s21 => /- wasBalanced a b -/
 J2 (r19.2.1, s21.1, s21.2.1, s21.2.2.1, s7.1, ()))
 (fun J20 =>
 brB (decide ((IntKind.wrap .i64 (r19.1 - s1.2.2.1)) < (IntKind.wrap .i64 (s1.2.2.2.1 - r19.1))))
 (callT Tryz.prog fn_slices_pdqsortCmpFunc_clauses_Clause #[(.slice a0.a a0.len a0.cap), (.int .i64 s1.2.2.1), (.int .i64 r19.1), (.int .i64 s7.1), a4] (.tup .nil) fun r22 =>
 J20 ((decide ((IntKind.wrap .i64 (r19.1 - s1.2.2.1)) ≥ (IntKind.wrap .i64 (Int.tdiv (IntKind.wrap .i64 (s1.2.2.2.1 - s1.2.2.1)) (8 : Int))))), (IntKind.wrap .i64 (r19.1 + (1 : Int))), s1.2.2.2.1, ()))
 (callT Tryz.prog fn_slices_pdqsortCmpFunc_clauses_Clause #[(.slice a0.a a0.len a0.cap), (.int .i64 (IntKind.wrap .i64 (r19.1 + (1 : Int)))), (.int .i64 s1.2.2.2.1), (.int .i64 s7.1), a4] (.tup .nil) fun r23 =>
 J20 ((decide ((IntKind.wrap .i64 (s1.2.2.2.1 - r19.1)) ≥ (IntKind.wrap .i64 (Int.tdiv (IntKind.wrap .i64 (s1.2.2.2.1 - s1.2.2.1)) (8 : Int))))), s1.2.2.1, r19.1, ())))))
 (callT Tryz.prog fn_slices_partitionCmpFunc_clauses_Clause #[(.slice a0.a a0.len a0.cap), (.int .i64 s1.2.2.1), (.int .i64 s1.2.2.2.1), (.int .i64 s10.2.1), a4] (.tup (.cons (.int .i64) (.cons .bool .nil))) fun r24 =>
 nz (8 : Int) <|
 jn (σ := (Bool × (Int × (Int × Unit)))) (fun s26 => /- wasBalanced a b -/
 J2 (r24.2.1, s26.1, s26.2.1, s26.2.2.1, s7.1, ()))
 (fun J25 =>
 brB (decide ((IntKind.wrap .i64 (r24.1 - s1.2.2.1)) < (IntKind.wrap .i64 (s1.2.2.2.1 - r24.1))))
 (callT Tryz.prog fn_slices_pdqsortCmpFunc_clauses_Clause #[(.slice a0.a a0.len a0.cap), (.int .i64 s1.2.2.1), (.int .i64 r24.1), (.int .i64 s7.1), a4] (.tup .nil) fun r27 =>
 J25 ((decide ((IntKind.wrap .i64 (r24.1 - s1.2.2.1)) ≥ (IntKind.wrap .i64 (Int.tdiv (IntKind.wrap .i64 (s1.2.2.2.1 - s1.2.2.1)) (8 : Int))))), (IntKind.wrap .i64 (r24.1 + (1 : Int))), s1.2.2.2.1, ()))
 (callT Tryz.prog fn_slices_pdqsortCmpFunc_clauses_Clause #[(.slice a0.a a0.len a0.cap), (.int .i64 (IntKind.wrap .i64 (r24.1 + (1 : Int)))), (.int .i64 s1.2.2.2.1), (.int .i64 s7.1), a4] (.tup .nil) fun r28 =>
 J25 ((decide ((IntKind.wrap .i64 (s1.2.2.2.1 - r24.1)) ≥ (IntKind.wrap .i64 (Int.tdiv (IntKind.wrap .i64 (s1.2.2.2.1 - s1.2.2.1)) (8 : Int))))), s1.2.2.1, r24.1, ())))))
 (fun J11 =>
 brB (s10.1 == (1 : Int))
 (callT Tryz.prog fn_slices_partialInsertionSortCmpFunc_clauses_Clause #[(.slice a0.a a0.len a0.cap), (.int .i64 s1.2.2.1), (.int .i64 s1.2.2.2.1), a4] .bool fun r29 =>
 brB r29
 (K (()))
 (J11 (())))
 (J11 (()))))
 (jn (σ := Unit) (fun s31 => /- -/
 brB (decide (s1.2.2.1 > (0 : Int)))
 (sx a0.a a0.len (IntKind.wrap .i64 (s1.2.2.1 - (1 : Int))) 1 fun p32 =>
 ldT .sl p32 fun x33 =>
 sx a0.a a0.len s10.2.1 1 fun p34 =>
 ldT .sl p34 fun x35 =>
 callF Tryz.prog a4 #[(.slice x33.a x33.len x33.cap), (.slice x35.a x35.len x35.cap)] (.int .i64) fun r36 =>
 brB (!(decide (r36 < (0 : Int))))
 (callT Tryz.prog fn_slices_partitionEqualCmpFunc_clauses_Clause #[(.slice a0.a a0.len a0.cap), (.int .i64 s1.2.2.1), (.int .i64 s1.2.2.2.1), (.int .i64 s10.2.1), a4] (.int .i64) fun r37 =>
 J2 (s1.1, s1.2.1, r37, s1.2.2.2.1, s7.1, ()))
 (callT Tryz.prog fn_slices_partitionCmpFunc_clauses_Clause #[(.slice a0.a a0.len a0.cap), (.int .i64 s1.2.2.1), (.int .i64 s1.2.2.2.1), (.int .i64 s10.2.1), a4] (.tup (.cons (.int .i64) (.cons .bool .nil))) fun r38 =>
 nz (8 : Int) <|
 jn (σ := (Bool × (Int × (Int × Unit)))) (fun s40 => /- wasBalanced a b -/
 J2 (r38.2.1, s40.1, s40.2.1, s40.2.2.1, s7.1, ()))
 (fun J39 =>
 brB (decide ((IntKind.wrap .i64 (r38.1 - s1.2.2.1)) < (IntKind.wrap .i64 (s1.2.2.2.1 - r38.1))))
 (callT Tryz.prog fn_slices_pdqsortCmpFunc_clauses_Clause #[(.slice a0.a a0.len a0.cap), (.int .i64 s1.2.2.1), (.int .i64 r38.1), (.int .i64 s7.1), a4] (.tup .nil) fun r41 =>
 J39 ((decide ((IntKind.wrap .i64 (r38.1 - s1.2.2.1)) ≥ (IntKind.wrap .i64 (Int.tdiv (IntKind.wrap .i64 (s1.2.2.2.1 - s1.2.2.1)) (8 : Int))))), (IntKind.wrap .i64 (r38.1 + (1 : Int))), s1.2.2.2.1, ()))
 (callT Tryz.prog fn_slices_pdqsortCmpFunc_clauses_Clause #[(.slice a0.a a0.len a0.cap), (.int .i64 (IntKind.wrap .i64 (r38.1 + (1 : Int)))), (.int .i64 s1.2.2.2.1), (.int .i64 s7.1), a4] (.tup .nil) fun r42 =>
 J39 ((decide ((IntKind.wrap .i64 (s1.2.2.2.1 - r38.1)) ≥ (IntKind.wrap .i64 (Int.tdiv (IntKind.wrap .i64 (s1.2.2.2.1 - s1.2.2.1)) (8 : Int))))), s1.2.2.1, r38.1, ())))))
 (callT Tryz.prog fn_slices_partitionCmpFunc_clauses_Clause #[(.slice a0.a a0.len a0.cap), (.int .i64 s1.2.2.1), (.int .i64 s1.2.2.2.1), (.int .i64 s10.2.1), a4] (.tup (.cons (.int .i64) (.cons .bool .nil))) fun r43 =>
 nz (8 : Int) <|
 jn (σ := (Bool × (Int × (Int × Unit)))) (fun s45 => /- wasBalanced a b -/
 J2 (r43.2.1, s45.1, s45.2.1, s45.2.2.1, s7.1, ()))
 (fun J44 =>
 brB (decide ((IntKind.wrap .i64 (r43.1 - s1.2.2.1)) < (IntKind.wrap .i64 (s1.2.2.2.1 - r43.1))))
 (callT Tryz.prog fn_slices_pdqsortCmpFunc_clauses_Clause #[(.slice a0.a a0.len a0.cap), (.int .i64 s1.2.2.1), (.int .i64 r43.1), (.int .i64 s7.1), a4] (.tup .nil) fun r46 =>
 J44 ((decide ((IntKind.wrap .i64 (r43.1 - s1.2.2.1)) ≥ (IntKind.wrap .i64 (Int.tdiv (IntKind.wrap .i64 (s1.2.2.2.1 - s1.2.2.1)) (8 : Int))))), (IntKind.wrap .i64 (r43.1 + (1 : Int))), s1.2.2.2.1, ()))
 (callT Tryz.prog fn_slices_pdqsortCmpFunc_clauses_Clause #[(.slice a0.a a0.len a0.cap), (.int .i64 (IntKind.wrap .i64 (r43.1 + (1 : Int)))), (.int .i64 s1.2.2.2.1), (.int .i64 s7.1), a4] (.tup .nil) fun r47 =>
 J44 ((decide ((IntKind.wrap .i64 (s1.2.2.2.1 - r43.1)) ≥ (IntKind.wrap .i64 (Int.tdiv (IntKind.wrap .i64 (s1.2.2.2.1 - s1.2.2.1)) (8 : Int))))), s1.2.2.1, r43.1, ())))))
 (fun J30 =>
 J30 (()))))
 (jn (σ := Unit) (fun s49 => /- -/
 brB (decide (s1.2.2.1 > (0 : Int)))
 (sx a0.a a0.len (IntKind.wrap .i64 (s1.2.2.1 - (1 : Int))) 1 fun p50 =>
 ldT .sl p50 fun x51 =>
 sx a0.a a0.len s10.2.1 1 fun p52 =>
 ldT .sl p52 fun x53 =>
 callF Tryz.prog a4 #[(.slice x51.a x51.len x51.cap), (.slice x53.a x53.len x53.cap)] (.int .i64) fun r54 =>
 brB (!(decide (r54 < (0 : Int))))
 (callT Tryz.prog fn_slices_partitionEqualCmpFunc_clauses_Clause #[(.slice a0.a a0.len a0.cap), (.int .i64 s1.2.2.1), (.int .i64 s1.2.2.2.1), (.int .i64 s10.2.1), a4] (.int .i64) fun r55 =>
 J2 (s1.1, s1.2.1, r55, s1.2.2.2.1, s7.1, ()))
 (callT Tryz.prog fn_slices_partitionCmpFunc_clauses_Clause #[(.slice a0.a a0.len a0.cap), (.int .i64 s1.2.2.1), (.int .i64 s1.2.2.2.1), (.int .i64 s10.2.1), a4] (.tup (.cons (.int .i64) (.cons .bool .nil))) fun r56 =>
 nz (8 : Int) <|
 jn (σ := (Bool × (Int × (Int × Unit)))) (fun s58 => /- wasBalanced a b -/
 J2 (r56.2.1, s58.1, s58.2.1, s58.2.2.1, s7.1, ()))
 (fun J57 =>
 brB (decide ((IntKind.wrap .i64 (r56.1 - s1.2.2.1)) < (IntKind.wrap .i64 (s1.2.2.2.1 - r56.1))))
 (callT Tryz.prog fn_slices_pdqsortCmpFunc_clauses_Clause #[(.slice a0.a a0.len a0.cap), (.int .i64 s1.2.2.1), (.int .i64 r56.1), (.int .i64 s7.1), a4] (.tup .nil) fun r59 =>
 J57 ((decide ((IntKind.wrap .i64 (r56.1 - s1.2.2.1)) ≥ (IntKind.wrap .i64 (Int.tdiv (IntKind.wrap .i64 (s1.2.2.2.1 - s1.2.2.1)) (8 : Int))))), (IntKind.wrap .i64 (r56.1 + (1 : Int))), s1.2.2.2.1, ()))
 (callT Tryz.prog fn_slices_pdqsortCmpFunc_clauses_Clause #[(.slice a0.a a0.len a0.cap), (.int .i64 (IntKind.wrap .i64 (r56.1 + (1 : Int)))), (.int .i64 s1.2.2.2.1), (.int .i64 s7.1), a4] (.tup .nil) fun r60 =>
 J57 ((decide ((IntKind.wrap .i64 (s1.2.2.2.1 - r56.1)) ≥ (IntKind.wrap .i64 (Int.tdiv (IntKind.wrap .i64 (s1.2.2.2.1 - s1.2.2.1)) (8 : Int))))), s1.2.2.1, r56.1, ())))))
 (callT Tryz.prog fn_slices_partitionCmpFunc_clauses_Clause #[(.slice a0.a a0.len a0.cap), (.int .i64 s1.2.2.1), (.int .i64 s1.2.2.2.1), (.int .i64 s10.2.1), a4] (.tup (.cons (.int .i64) (.cons .bool .nil))) fun r61 =>
 nz (8 : Int) <|
 jn (σ := (Bool × (Int × (Int × Unit)))) (fun s63 => /- wasBalanced a b -/
 J2 (r61.2.1, s63.1, s63.2.1, s63.2.2.1, s7.1, ()))
 (fun J62 =>
 brB (decide ((IntKind.wrap .i64 (r61.1 - s1.2.2.1)) < (IntKind.wrap .i64 (s1.2.2.2.1 - r61.1))))
 (callT Tryz.prog fn_slices_pdqsortCmpFunc_clauses_Clause #[(.slice a0.a a0.len a0.cap), (.int .i64 s1.2.2.1), (.int .i64 r61.1), (.int .i64 s7.1), a4] (.tup .nil) fun r64 =>
 J62 ((decide ((IntKind.wrap .i64 (r61.1 - s1.2.2.1)) ≥ (IntKind.wrap .i64 (Int.tdiv (IntKind.wrap .i64 (s1.2.2.2.1 - s1.2.2.1)) (8 : Int))))), (IntKind.wrap .i64 (r61.1 + (1 : Int))), s1.2.2.2.1, ()))
 (callT Tryz.prog fn_slices_pdqsortCmpFunc_clauses_Clause #[(.slice a0.a a0.len a0.cap), (.int .i64 (IntKind.wrap .i64 (r61.1 + (1 : Int)))), (.int .i64 s1.2.2.2.1), (.int .i64 s7.1), a4] (.tup .nil) fun r65 =>
 J62 ((decide ((IntKind.wrap .i64 (s1.2.2.2.1 - r61.1)) ≥ (IntKind.wrap .i64 (Int.tdiv (IntKind.wrap .i64 (s1.2.2.2.1 - s1.2.2.1)) (8 : Int))))), s1.2.2.1, r61.1, ())))))
 (fun J48 =>
 J48 (()))))
 (fun J9 =>
 brB (r8.2.1 == (2 : Int))
 (callT Tryz.prog fn_slices_reverseRangeCmpFunc_clauses_Clause #[(.slice a0.a a0.len a0.cap), (.int .i64 s1.2.2.1), (.int .i64 s1.2.2.2.1), a4] (.tup .nil) fun r66 =>
 J9 ((1 : Int), (IntKind.wrap .i64 ((IntKind.wrap .i64 (s1.2.2.2.1 - (1 : Int))) - (IntKind.wrap .i64 (r8.1 - s1.2.2.1)))), ()))
 (J9 (r8.2.1, r8.1, ()))))
 (fun J6 =>
 brB (!s1.2.1)
 (callT Tryz.prog fn_slices_breakPatternsCmpFunc_clauses_Clause #[(.slice a0.a a0.len a0.cap), (.int .i64 s1.2.2.1), (.int .i64 s1.2.2.2.1), a4] (.tup .nil) fun r67 =>
 J6 ((IntKind.wrap .i64 (s1.2.2.2.2.1 - (1 : Int))), ()))
 (J6 (s1.2.2.2.2.1, ())))))))
 (true, true, a1, a2, a3, ())
set_option maxRecDepth 100000 in
theorem E_slices_pdqsortCmpFunc_clauses_Clause (a0 : Sl) (a1 : Int) (a2 : Int) (a3 : Int) (a4 : Value) (K : Unit → HP) (h : Heap) : fnVC Tryz.prog [(1000000, .nil)] 148 Tryz.f118 [(.slice a0.a a0.len a0.cap), (.int .i64 a1), (.int .i64 a2), (.int .i64 a3), a4] (.tup .nil) K h = F_slices_pdqsortCmpFunc_clauses_Clause a0 a1 a2 a3 a4 K h := by kernel_rfl
set_option maxRecDepth 100000 in
theorem S_slices_pdqsortCmpFunc_clauses_Clause{h : Heap} {a0 : Sl} {a1 : Int} {a2 : Int} {a3 : Int} {a4 : Value} (K : Unit → HP) (hF : F_slices_pdqsortCmpFunc_clauses_Clause a0 a1 a2 a3 a4 K h) : CallsH Tryz.prog fn_slices_pdqsortCmpFunc_clauses_Clause #[(.slice a0.a a0.len a0.cap), (.int .i64 a1), (.int .i64 a2), (.int .i64 a3), a4] h fun v h' => ∃ x : Unit, v = Ty.enc (.tup .nil) x ∧ K x h' :=
  callsH_of_fn (P := Tryz.prog) (fn := Tryz.f118) (τ := (.tup .nil)) follows Tryz.func118 (by kernel_rfl) (by kernel_rfl) Tryz.call118 (Eq.mpr (E_slices_pdqsortCmpFunc_clauses_Clause a0 a1 a2 a3 a4 K h) hF)

def F_math_bits_Len (a0 : Int) (K : Int → HP) : HP :=
 callT Tryz.prog fn_math_bits_Len64 #[(.int .u64 a0)] (.int .i64) fun r0 =>
 K r0
set_option maxRecDepth 100000 in
theorem E_math_bits_Len (a0 : Int) (K : Int → HP) (h : Heap) : fnVC Tryz.prog [(1000000, .nil)] 8 Tryz.f119 [(.int .u64 a0)] (.int .i64) K h = F_math_bits_Len a0 K h := by kernel_rfl
set_option maxRecDepth 100000 in
theorem S_math_bits_Len{h : Heap} {a0 : Int} (K : Int → HP) (hF : F_math_bits_Len a0 K h) : CallsH Tryz.prog fn_math_bits_Len #[(.int .u64 a0)] h fun v h' => ∃ x : Int, v = Ty.enc (.int .i64) x ∧ K x h' :=
  callsH_of_fn (P := Tryz.prog) (fn := Tryz.f119) (τ := (.int .i64)) follows Tryz.func119 (by kernel_rfl) (by kernel_rfl) Tryz.call119 (Eq.mpr (E_math_bits_Len a0 K h) hF)

def F_clauses_sorted_1 (a0 : Value) (c0 : Addr) (K : Unit → HP) : HP :=
 ldT .sl c0 fun x0 =>
 callT Tryz.prog fn_slices_Values_clauses_Clause_lits_Lit #[(.slice x0.a x0.len x0.cap)] .val fun r1 =>
 callT Tryz.prog fn_slices_SortedFunc_lits_Lit #[r1, (.func (.func fn_lits_Compare) #[] #[])] .sl fun r2 =>
 lfp (σ := (Int × (Int × Unit))) (fun X3 s4 => /-  last -/
 brB (decide (s4.1 < (r2.len : Int)))
 (jn (σ := (Int × Unit)) (fun s6 => /- last -/
 X3 ((IntKind.wrap .i64 (s4.1 + (1 : Int))), s6.1, ()))
 (fun J5 =>
 sx r2.a r2.len s4.1 1 fun p7 =>
 ldT (.int .i64) p7 fun x8 =>
 brB (x8 == s4.2.1)
 (J5 (s4.2.1, ()))
 (callF Tryz.prog a0 #[(.int .i64 x8)] .bool fun r9 =>
 brB (!r9)
 (K (()))
 (J5 (x8, ())))))
 (K (())))
 ((0 : Int), (0 : Int), ())
set_option maxRecDepth 100000 in
theorem E_clauses_sorted_1 (a0 : Value) (c0 : Addr) (K : Unit → HP) (h : Heap) : fnVC Tryz.prog [(1000000, .nil)] 23 Tryz.f120 [a0, (.pointer (some c0))] (.tup .nil) K h = F_clauses_sorted_1 a0 c0 K h := by kernel_rfl
set_option maxRecDepth 100000 in
theorem S_clauses_sorted_1{h : Heap} {a0 : Value} {c0 : Addr} (K : Unit → HP) (hF : F_clauses_sorted_1 a0 c0 K h) : CallsH Tryz.prog fn_clauses_sorted_1 #[a0, (.pointer (some c0))] h fun v h' => ∃ x : Unit, v = Ty.enc (.tup .nil) x ∧ K x h' :=
  callsH_of_fn (P := Tryz.prog) (fn := Tryz.f120) (τ := (.tup .nil)) follows Tryz.func120 (by kernel_rfl) (by kernel_rfl) Tryz.call120 (Eq.mpr (E_clauses_sorted_1 a0 c0 K h) hF)

def F_slices_SortedFunc_lits_Lit (a0 : Value) (a1 : Value) (K : Sl → HP) : HP :=
 callT Tryz.prog fn_slices_Collect_lits_Lit #[a0] .sl fun r0 =>
 callT Tryz.prog fn_slices_SortFunc_lits_Lit_lits_Lit #[(.slice r0.a r0.len r0.cap), a1] (.tup .nil) fun r1 =>
 K ⟨r0.a, r0.len, r0.cap⟩
set_option maxRecDepth 100000 in
theorem E_slices_SortedFunc_lits_Lit (a0 : Value) (a1 : Value) (K : Sl → HP) (h : Heap) : fnVC Tryz.prog [(1000000, .nil)] 12 Tryz.f121 [a0, a1] .sl K h = F_slices_SortedFunc_lits_Lit a0 a1 K h := by kernel_rfl
set_option maxRecDepth 100000 in
theorem S_slices_SortedFunc_lits_Lit{h : Heap} {a0 : Value} {a1 : Value} (K : Sl → HP) (hF : F_slices_SortedFunc_lits_Lit a0 a1 K h) : CallsH Tryz.prog fn_slices_SortedFunc_lits_Lit #[a0, a1] h fun v h' => ∃ x : Sl, v = Ty.enc .sl x ∧ K x h' :=
  callsH_of_fn (P := Tryz.prog) (fn := Tryz.f121) (τ := .sl) follows Tryz.func121 (by kernel_rfl) (by kernel_rfl) Tryz.call121 (Eq.mpr (E_slices_SortedFunc_lits_Lit a0 a1 K h) hF)

def F_slices_Values_clauses_Clause_lits_Lit (a0 : Sl) (K : Value → HP) : HP :=
 nw #[(.slice a0.a a0.len a0.cap)] ty_clauses_Clause fun b0 =>
 K (.func (.func fn_slices_Values_clauses_Clause_lits_Lit_1) #[] #[(.pointer (some (⟨b0, 0, none⟩ : Addr)))])
set_option maxRecDepth 100000 in
theorem E_slices_Values_clauses_Clause_lits_Lit (a0 : Sl) (K : Value → HP) (h : Heap) : fnVC Tryz.prog [(1000000, .nil)] 4 Tryz.f122 [(.slice a0.a a0.len a0.cap)] .val K h = F_slices_Values_clauses_Clause_lits_Lit a0 K h := by kernel_rfl
set_option maxRecDepth 100000 in
theorem S_slices_Values_clauses_Clause_lits_Lit{h : Heap} {a0 : Sl} (K : Value → HP) (hF : F_slices_Values_clauses_Clause_lits_Lit a0 K h) : CallsH Tryz.prog fn_slices_Values_clauses_Clause_lits_Lit #[(.slice a0.a a0.len a0.cap)] h fun v h' => ∃ x : Value, v = Ty.enc .val x ∧ K x h' :=
  callsH_of_fn (P := Tryz.prog) (fn := Tryz.f122) (τ := .val) follows Tryz.func122 (by kernel_rfl) (by kernel_rfl) Tryz.call122 (Eq.mpr (E_slices_Values_clauses_Clause_lits_Lit a0 K h) hF)

def F_cmp_isNaN_int (a0 : Int) (K : Bool → HP) : HP :=
 K (a0 != a0)
set_option maxRecDepth 100000 in
theorem E_cmp_isNaN_int (a0 : Int) (K : Bool → HP) (h : Heap) : fnVC Tryz.prog [(1000000, .nil)] 6 Tryz.f123 [(.int .i64 a0)] .bool K h = F_cmp_isNaN_int a0 K h := by kernel_rfl
set_option maxRecDepth 100000 in
theorem S_cmp_isNaN_int{h : Heap} {a0 : Int} (K : Bool → HP) (hF : F_cmp_isNaN_int a0 K h) : CallsH Tryz.prog fn_cmp_isNaN_int #[(.int .i64 a0)] h fun v h' => ∃ x : Bool, v = Ty.enc .bool x ∧ K x h' :=
  callsH_of_fn (P := Tryz.prog) (fn := Tryz.f123) (τ := .bool) follows Tryz.func123 (by kernel_rfl) (by kernel_rfl) Tryz.call123 (Eq.mpr (E_cmp_isNaN_int a0 K h) hF)

def F_lits_Index (a0 : Int) (K : (Int × (Int × Unit)) → HP) : HP :=
 callT Tryz.prog fn_lits_Right #[(.int .i64 a0)] .bool fun r0 =>
 brB (!r0)
 (K ((0 : Int), (10 : Int), ()))
 (callT Tryz.prog fn_lits_Var #[(.int .i64 a0)] (.int .i64) fun r1 =>
 jn (σ := (Int × Unit)) (fun s3 => /- i -/
 K (s3.1, (0 : Int), ()))
 (fun J2 =>
 brB (decide (a0 < (0 : Int)))
 (J2 ((IntKind.wrap .i64 ((IntKind.wrap .i64 ((2 : Int) * (IntKind.wrap .i64 (r1 - (1 : Int))))) + (1 : Int))), ()))
 (J2 ((IntKind.wrap .i64 ((2 : Int) * (IntKind.wrap .i64 (r1 - (1 : Int))))), ()))))
set_option maxRecDepth 100000 in
theorem E_lits_Index (a0 : Int) (K : (Int × (Int × Unit)) → HP) (h : Heap) : fnVC Tryz.prog [(1000000, .nil)] 17 Tryz.f124 [(.int .i64 a0)] (.tup (.cons (.int .i64) (.cons (.int .i64) .nil))) K h = F_lits_Index a0 K h := by kernel_rfl
set_option maxRecDepth 100000 in
theorem S_lits_Index{h : Heap} {a0 : Int} (K : (Int × (Int × Unit)) → HP) (hF : F_lits_Index a0 K h) : CallsH Tryz.prog fn_lits_Index #[(.int .i64 a0)] h fun v h' => ∃ x : (Int × (Int × Unit)), v = Ty.enc (.tup (.cons (.int .i64) (.cons (.int .i64) .nil))) x ∧ K x h' :=
  callsH_of_fn (P := Tryz.prog) (fn := Tryz.f124) (τ := (.tup (.cons (.int .i64) (.cons (.int .i64) .nil)))) follows Tryz.func124 (by kernel_rfl) (by kernel_rfl) Tryz.call124 (Eq.mpr (E_lits_Index a0 K h) hF)

def F_cmp_Compare_lits_Lit (a0 : Int) (a1 : Int) (K : Int → HP) : HP :=
 callT Tryz.prog fn_cmp_isNaN_lits_Lit #[(.int .i64 a0)] .bool fun r0 =>
 callT Tryz.prog fn_cmp_isNaN_lits_Lit #[(.int .i64 a1)] .bool fun r1 =>
 brB r0
 (brB r1
 (K (0 : Int))
 (K (-1 : Int)))
 (brB r1
 (K (1 : Int))
 (brB (decide (a0 < a1))
 (K (-1 : Int))
 (brB (decide (a0 > a1))
 (K (1 : Int))
 (K (0 : Int)))))
set_option maxRecDepth 100000 in
theorem E_cmp_Compare_lits_Lit (a0 : Int) (a1 : Int) (K : Int → HP) (h : Heap) : fnVC Tryz.prog [(1000000, .nil)] 20 Tryz.f125 [(.int .i64 a0), (.int .i64 a1)] (.int .i64) K h = F_cmp_Compare_lits_Lit a0 a1 K h := by kernel_rfl
set_option maxRecDepth 100000 in
theorem S_cmp_Compare_lits_Lit{h : Heap} {a0 : Int} {a1 : Int} (K : Int → HP) (hF : F_cmp_Compare_lits_Lit a0 a1 K h) : CallsH Tryz.prog fn_cmp_Compare_lits_Lit #[(.int .i64 a0), (.int .i64 a1)] h fun v h' => ∃ x : Int, v = Ty.enc (.int .i64) x ∧ K x h' :=
  callsH_of_fn (P := Tryz.prog) (fn := Tryz.f125) (τ := (.int .i64)) follows Tryz.func125 (by kernel_rfl) (by kernel_rfl) Tryz.call125 (Eq.mpr (E_cmp_Compare_lits_Lit a0 a1 K h) hF)

def F_salvorref01_Right (a0 : Int) (K : Bool → HP) : HP :=
 brB (decide (a0 ≥ (1 : Int)))
 (brB (decide (a0 ≤ (1048576 : Int)))
 (K true)
 (brB (decide (a0 ≥ (-1048576 : Int)))
 (K (decide (a0 ≤ (-1 : Int))))
 (K false)))
 (brB (decide (a0 ≥ (-1048576 : Int)))
 (K (decide (a0 ≤ (-1 : Int))))
 (K false))
set_option maxRecDepth 100000 in
theorem E_salvorref01_Right (a0 : Int) (K : Bool → HP) (h : Heap) : fnVC Tryz.prog [(1000000, .nil)] 17 Tryz.f126 [(.int .i64 a0)] .bool K h = F_salvorref01_Right a0 K h := by kernel_rfl
set_option maxRecDepth 100000 in
theorem S_salvorref01_Right{h : Heap} {a0 : Int} (K : Bool → HP) (hF : F_salvorref01_Right a0 K h) : CallsH Tryz.prog fn_salvorref01_Right #[(.int .i64 a0)] h fun v h' => ∃ x : Bool, v = Ty.enc .bool x ∧ K x h' :=
  callsH_of_fn (P := Tryz.prog) (fn := Tryz.f126) (τ := .bool) follows Tryz.func126 (by kernel_rfl) (by kernel_rfl) Tryz.call126 (Eq.mpr (E_salvorref01_Right a0 K h) hF)

def F_formula_in_1 (a0 : Int) (c0 : Addr) (K : Bool → HP) : HP :=
 ldT .sl c0 fun x0 =>
 callT Tryz.prog fn_lits_Var #[(.int .i64 a0)] (.int .i64) fun r1 =>
 ck c0 (.slice x0.a x0.len x0.cap) <|
 sx x0.a x0.len (IntKind.wrap .i64 (r1 - (1 : Int))) 1 fun p2 =>
 ldT .bool p2 fun x3 =>
 callT Tryz.prog fn_lits_Negated #[(.int .i64 a0)] .bool fun r4 =>
 ck p2 (.bool x3) <|
 ck c0 (.slice x0.a x0.len x0.cap) <|
 K (!(x3 == r4))
set_option maxRecDepth 100000 in
theorem E_formula_in_1 (a0 : Int) (c0 : Addr) (K : Bool → HP) (h : Heap) : fnVC Tryz.prog [(1000000, .nil)] 13 Tryz.f127 [(.int .i64 a0), (.pointer (some c0))] .bool K h = F_formula_in_1 a0 c0 K h := by kernel_rfl
set_option maxRecDepth 100000 in
theorem S_formula_in_1{h : Heap} {a0 : Int} {c0 : Addr} (K : Bool → HP) (hF : F_formula_in_1 a0 c0 K h) : CallsH Tryz.prog fn_formula_in_1 #[(.int .i64 a0), (.pointer (some c0))] h fun v h' => ∃ x : Bool, v = Ty.enc .bool x ∧ K x h' :=
  callsH_of_fn (P := Tryz.prog) (fn := Tryz.f127) (τ := .bool) follows Tryz.func127 (by kernel_rfl) (by kernel_rfl) Tryz.call127 (Eq.mpr (E_formula_in_1 a0 c0 K h) hF)

def F_clauses_Without_1 (a0 : Int) (c0 : Addr) (K : Bool → HP) : HP :=
 ldT (.int .i64) c0 fun x0 =>
 K (a0 == x0)
set_option maxRecDepth 100000 in
theorem E_clauses_Without_1 (a0 : Int) (c0 : Addr) (K : Bool → HP) (h : Heap) : fnVC Tryz.prog [(1000000, .nil)] 7 Tryz.f128 [(.int .i64 a0), (.pointer (some c0))] .bool K h = F_clauses_Without_1 a0 c0 K h := by kernel_rfl
set_option maxRecDepth 100000 in
theorem S_clauses_Without_1{h : Heap} {a0 : Int} {c0 : Addr} (K : Bool → HP) (hF : F_clauses_Without_1 a0 c0 K h) : CallsH Tryz.prog fn_clauses_Without_1 #[(.int .i64 a0), (.pointer (some c0))] h fun v h' => ∃ x : Bool, v = Ty.enc .bool x ∧ K x h' :=
  callsH_of_fn (P := Tryz.prog) (fn := Tryz.f128) (τ := .bool) follows Tryz.func128 (by kernel_rfl) (by kernel_rfl) Tryz.call128 (Eq.mpr (E_clauses_Without_1 a0 c0 K h) hF)

def F_slices_Concat_clauses_Clause_lits_Lit (a0 : Sl) (K : Sl → HP) : HP :=
 lfp (σ := (Int × (Int × Unit))) (fun X0 s1 => /-  size -/
 brB (decide (s1.1 < (a0.len : Int)))
 (sx a0.a a0.len s1.1 1 fun p2 =>
 ldT .sl p2 fun x3 =>
 jn (σ := Unit) (fun s5 => /- -/
 X0 ((IntKind.wrap .i64 (s1.1 + (1 : Int))), (IntKind.wrap .i64 (s1.2.1 + (x3.len : Int))), ()))
 (fun J4 =>
 brB (decide ((IntKind.wrap .i64 (s1.2.1 + (x3.len : Int))) < (0 : Int)))
 (fF /- not known -/)
 (J4 (()))))
 (callT Tryz.prog fn_slices_Grow_clauses_Clause_lits_Lit #[(.slice none 0 0), (.int .i64 s1.2.1)] .sl fun r6 =>
 lfp (σ := (Int × (Sl × Unit))) (fun X7 s8 => /-  newslice -/
 brB (decide (s8.1 < (a0.len : Int)))
 (sx a0.a a0.len s8.1 1 fun p9 =>
 ldT .sl p9 fun x10 =>
 apd ty_lits_Lit 1 8 #[(.int .i64 (0 : Int))] ⟨s8.2.1.a, s8.2.1.len, s8.2.1.cap⟩ ⟨x10.a, x10.len, x10.cap⟩ fun s11 =>
 X7 ((IntKind.wrap .i64 (s8.1 + (1 : Int))), ⟨s11.a, s11.len, s11.cap⟩, ()))
 (K ⟨s8.2.1.a, s8.2.1.len, s8.2.1.cap⟩))
 ((0 : Int), ⟨r6.a, r6.len, r6.cap⟩, ())))
 ((0 : Int), (0 : Int), ())
set_option maxRecDepth 100000 in
theorem E_slices_Concat_clauses_Clause_lits_Lit (a0 : Sl) (K : Sl → HP) (h : Heap) : fnVC Tryz.prog [(1000000, .nil)] 36 Tryz.f129 [(.slice a0.a a0.len a0.cap)] .sl K h = F_slices_Concat_clauses_Clause_lits_Lit a0 K h := by kernel_rfl
set_option maxRecDepth 100000 in
theorem S_slices_Concat_clauses_Clause_lits_Lit{h : Heap} {a0 : Sl} (K : Sl → HP) (hF : F_slices_Concat_clauses_Clause_lits_Lit a0 K h) : CallsH Tryz.prog fn_slices_Concat_clauses_Clause_lits_Lit #[(.slice a0.a a0.len a0.cap)] h fun v h' => ∃ x : Sl, v = Ty.enc .sl x ∧ K x h' :=
  callsH_of_fn (P := Tryz.prog) (fn := Tryz.f129) (τ := .sl) follows Tryz.func129 (by kernel_rfl) (by kernel_rfl) Tryz.call129 (Eq.mpr (E_slices_Concat_clauses_Clause_lits_Lit a0 K h) hF)

def F_slices_Index_clauses_Clause_lits_Lit (a0 : Sl) (a1 : Int) (K : Int → HP) : HP :=
 lfp (σ := (Int × (Int × Unit))) (fun X0 s1 => /-   -/
 brB (decide (s1.1 < (a0.len : Int)))
 (sx a0.a a0.len s1.1 1 fun p2 =>
 ldT (.int .i64) p2 fun x3 =>
 brB (a1 == x3)
 (K s1.1)
 (X0 ((IntKind.wrap .i64 (s1.1 + (1 : Int))), s1.2.1, ())))
 (K (-1 : Int)))
 ((0 : Int), (0 : Int), ())
set_option maxRecDepth 100000 in
theorem E_slices_Index_clauses_Clause_lits_Lit (a0 : Sl) (a1 : Int) (K : Int → HP) (h : Heap) : fnVC Tryz.prog [(1000000, .nil)] 19 Tryz.f130 [(.slice a0.a a0.len a0.cap), (.int .i64 a1)] (.int .i64) K h = F_slices_Index_clauses_Clause_lits_Lit a0 a1 K h := by kernel_rfl
set_option maxRecDepth 100000 in
theorem S_slices_Index_clauses_Clause_lits_Lit{h : Heap} {a0 : Sl} {a1 : Int} (K : Int → HP) (hF : F_slices_Index_clauses_Clause_lits_Lit a0 a1 K h) : CallsH Tryz.prog fn_slices_Index_clauses_Clause_lits_Lit #[(.slice a0.a a0.len a0.cap), (.int .i64 a1)] h fun v h' => ∃ x : Int, v = Ty.enc (.int .i64) x ∧ K x h' :=
  callsH_of_fn (P := Tryz.prog) (fn := Tryz.f130) (τ := (.int .i64)) follows Tryz.func130 (by kernel_rfl) (by kernel_rfl) Tryz.call130 (Eq.mpr (E_slices_Index_clauses_Clause_lits_Lit a0 a1 K h) hF)

def F_salvorref01_Compare (a0 : Int) (a1 : Int) (K : Int → HP) : HP :=
 callT Tryz.prog fn_salvorref01_Index #[(.int .i64 a0)] (.int .i64) fun r0 =>
 callT Tryz.prog fn_salvorref01_Index #[(.int .i64 a1)] (.int .i64) fun r1 =>
 brB (decide (r0 < (0 : Int)))
 (jn (σ := (Int × (Int × Unit))) (fun s3 => /- y x -/
 brB (decide (s3.2.1 < s3.1))
 (K (-1 : Int))
 (brB (decide (s3.2.1 > s3.1))
 (K (1 : Int))
 (K (0 : Int))))
 (fun J2 =>
 brB (decide (r1 < (0 : Int)))
 (J2 (a1, a0, ()))
 (J2 (r1, r0, ()))))
 (jn (σ := (Int × (Int × Unit))) (fun s5 => /- y x -/
 brB (decide (s5.2.1 < s5.1))
 (K (-1 : Int))
 (brB (decide (s5.2.1 > s5.1))
 (K (1 : Int))
 (K (0 : Int))))
 (fun J4 =>
 J4 (r1, r0, ())))
set_option maxRecDepth 100000 in
theorem E_salvorref01_Compare (a0 : Int) (a1 : Int) (K : Int → HP) (h : Heap) : fnVC Tryz.prog [(1000000, .nil)] 25 Tryz.f136 [(.int .i64 a0), (.int .i64 a1)] (.int .i64) K h = F_salvorref01_Compare a0 a1 K h := by kernel_rfl
set_option maxRecDepth 100000 in
theorem S_salvorref01_Compare{h : Heap} {a0 : Int} {a1 : Int} (K : Int → HP) (hF : F_salvorref01_Compare a0 a1 K h) : CallsH Tryz.prog fn_salvorref01_Compare #[(.int .i64 a0), (.int .i64 a1)] h fun v h' => ∃ x : Int, v = Ty.enc (.int .i64) x ∧ K x h' :=
  callsH_of_fn (P := Tryz.prog) (fn := Tryz.f136) (τ := (.int .i64)) follows Tryz.func136 (by kernel_rfl) (by kernel_rfl) Tryz.call136 (Eq.mpr (E_salvorref01_Compare a0 a1 K h) hF)

def F_salvorref01_Index (a0 : Int) (K : Int → HP) : HP :=
 callT Tryz.prog fn_salvorref01_Right #[(.int .i64 a0)] .bool fun r0 =>
 brB (!r0)
 (K (-1 : Int))
 (brB (decide (a0 < (0 : Int)))
 (K (IntKind.wrap .i64 ((IntKind.wrap .i64 ((2 : Int) * (IntKind.wrap .i64 ((IntKind.wrap .i64 (0 - a0)) - (1 : Int))))) + (1 : Int))))
 (K (IntKind.wrap .i64 ((2 : Int) * (IntKind.wrap .i64 (a0 - (1 : Int)))))))
set_option maxRecDepth 100000 in
theorem E_salvorref01_Index (a0 : Int) (K : Int → HP) (h : Heap) : fnVC Tryz.prog [(1000000, .nil)] 16 Tryz.f137 [(.int .i64 a0)] (.int .i64) K h = F_salvorref01_Index a0 K h := by kernel_rfl
set_option maxRecDepth 100000 in
theorem S_salvorref01_Index{h : Heap} {a0 : Int} (K : Int → HP) (hF : F_salvorref01_Index a0 K h) : CallsH Tryz.prog fn_salvorref01_Index #[(.int .i64 a0)] h fun v h' => ∃ x : Int, v = Ty.enc (.int .i64) x ∧ K x h' :=
  callsH_of_fn (P := Tryz.prog) (fn := Tryz.f137) (τ := (.int .i64)) follows Tryz.func137 (by kernel_rfl) (by kernel_rfl) Tryz.call137 (Eq.mpr (E_salvorref01_Index a0 K h) hF)

def F_salvorref01_At (a0 : Int) (K : Int → HP) : HP :=
 brB (decide (a0 < (0 : Int)))
 (K (0 : Int))
 (brB (decide (a0 > (2097151 : Int)))
 (K (0 : Int))
 (nz (2 : Int) <|
 nz (2 : Int) <|
 brB ((Int.tmod a0 (2 : Int)) == (1 : Int))
 (K (IntKind.wrap .i64 (0 - (IntKind.wrap .i64 ((IntKind.wrap .i64 (Int.tdiv a0 (2 : Int))) + (1 : Int))))))
 (K (IntKind.wrap .i64 ((IntKind.wrap .i64 (Int.tdiv a0 (2 : Int))) + (1 : Int))))))
set_option maxRecDepth 100000 in
theorem E_salvorref01_At (a0 : Int) (K : Int → HP) (h : Heap) : fnVC Tryz.prog [(1000000, .nil)] 19 Tryz.f138 [(.int .i64 a0)] (.int .i64) K h = F_salvorref01_At a0 K h := by kernel_rfl
set_option maxRecDepth 100000 in
theorem S_salvorref01_At{h : Heap} {a0 : Int} (K : Int → HP) (hF : F_salvorref01_At a0 K h) : CallsH Tryz.prog fn_salvorref01_At #[(.int .i64 a0)] h fun v h' => ∃ x : Int, v = Ty.enc (.int .i64) x ∧ K x h' :=
  callsH_of_fn (P := Tryz.prog) (fn := Tryz.f138) (τ := (.int .i64)) follows Tryz.func138 (by kernel_rfl) (by kernel_rfl) Tryz.call138 (Eq.mpr (E_salvorref01_At a0 K h) hF)

def F_salvorref05_next (a0 : Sl) (K : (Sl × (Bool × Unit)) → HP) : HP :=
 nw #[] ty_int fun b0 =>
 apd ty_int 1 8 #[(.int .i64 (0 : Int))] ⟨(some (⟨b0, 0, none⟩ : Addr)), 0, 0⟩ ⟨a0.a, a0.len, a0.cap⟩ fun s1 =>
 lfp (σ := (Int × (Bool × (Sl × Unit)))) (fun X2 s3 => /- i   -/
 brB (decide (s3.1 ≥ (0 : Int)))
 (sx s1.a s1.len s3.1 1 fun p4 =>
 ldT (.int .i64) p4 fun x5 =>
 brB (x5 == (0 : Int))
 (sx s1.a s1.len s3.1 1 fun p6 =>
 st1 p6 (.int .i64 (1 : Int)) <|
 K (⟨s1.a, s1.len, s1.cap⟩, true, ()))
 (sx s1.a s1.len s3.1 1 fun p7 =>
 st1 p7 (.int .i64 (0 : Int)) <|
 X2 ((IntKind.wrap .i64 (s3.1 - (1 : Int))), s3.2.1, ⟨s3.2.2.1.a, s3.2.2.1.len, s3.2.2.1.cap⟩, ())))
 (K (⟨s1.a, s1.len, s1.cap⟩, false, ())))
 ((IntKind.wrap .i64 ((s1.len : Int) - (1 : Int))), false, ⟨none, 0, 0⟩, ())
set_option maxRecDepth 100000 in
theorem E_salvorref05_next (a0 : Sl) (K : (Sl × (Bool × Unit)) → HP) (h : Heap) : fnVC Tryz.prog [(1000000, .bool)] 29 Tryz.f139 [(.slice a0.a a0.len a0.cap)] (.tup (.cons .sl (.cons .bool .nil))) K h = F_salvorref05_next a0 K h := by kernel_rfl
set_option maxRecDepth 100000 in
theorem S_salvorref05_next{h : Heap} {a0 : Sl} (K : (Sl × (Bool × Unit)) → HP) (hF : F_salvorref05_next a0 K h) : CallsH Tryz.prog fn_salvorref05_next #[(.slice a0.a a0.len a0.cap)] h fun v h' => ∃ x : (Sl × (Bool × Unit)), v = Ty.enc (.tup (.cons .sl (.cons .bool .nil))) x ∧ K x h' :=
  callsH_of_fn (P := Tryz.prog) (fn := Tryz.f139) (τ := (.tup (.cons .sl (.cons .bool .nil)))) follows Tryz.func139 (by kernel_rfl) (by kernel_rfl) Tryz.call139 (Eq.mpr (E_salvorref05_next a0 K h) hF)

def F_slices_insertionSortCmpFunc_clauses_Clause (a0 : Sl) (a1 : Int) (a2 : Int) (a3 : Value) (K : Unit → HP) : HP :=
 lfp (σ := (Int × Unit)) (fun X0 s1 => /- i -/
 brB (decide (s1.1 < a2))
 (jn (σ := (Int × Unit)) (fun s3 => /- j -/
 X0 ((IntKind.wrap .i64 (s1.1 + (1 : Int))), ()))
 (fun J2 =>
 lfp (σ := (Int × Unit)) (fun X4 s5 => /- j -/
 brB (decide (s5.1 > a1))
 (sx a0.a a0.len s5.1 1 fun p6 =>
 ldT .sl p6 fun x7 =>
 sx a0.a a0.len (IntKind.wrap .i64 (s5.1 - (1 : Int))) 1 fun p8 =>
 ldT .sl p8 fun x9 =>
 callF Tryz.prog a3 #[(.slice x7.a x7.len x7.cap), (.slice x9.a x9.len x9.cap)] (.int .i64) fun r10 =>
 brB (decide (r10 < (0 : Int)))
 (sx a0.a a0.len (IntKind.wrap .i64 (s5.1 - (1 : Int))) 1 fun p11 =>
 ldT .sl p11 fun x12 =>
 sx a0.a a0.len s5.1 1 fun p13 =>
 ldT .sl p13 fun x14 =>
 sx a0.a a0.len s5.1 1 fun p15 =>
 st1 p15 (.slice x12.a x12.len x12.cap) <|
 sx a0.a a0.len (IntKind.wrap .i64 (s5.1 - (1 : Int))) 1 fun p16 =>
 st1 p16 (.slice x14.a x14.len x14.cap) <|
 X4 ((IntKind.wrap .i64 (s5.1 - (1 : Int))), ()))
 (J2 (s5.1, ())))
 (J2 (s5.1, ())))
 (s1.1, ())))
 (K (())))
 ((IntKind.wrap .i64 (a1 + (1 : Int))), ())
set_option maxRecDepth 100000 in
theorem E_slices_insertionSortCmpFunc_clauses_Clause (a0 : Sl) (a1 : Int) (a2 : Int) (a3 : Value) (K : Unit → HP) (h : Heap) : fnVC Tryz.prog [(1000000, .nil)] 53 Tryz.f140 [(.slice a0.a a0.len a0.cap), (.int .i64 a1), (.int .i64 a2), a3] (.tup .nil) K h = F_slices_insertionSortCmpFunc_clauses_Clause a0 a1 a2 a3 K h := by kernel_rfl
set_option maxRecDepth 100000 in
theorem S_slices_insertionSortCmpFunc_clauses_Clause{h : Heap} {a0 : Sl} {a1 : Int} {a2 : Int} {a3 : Value} (K : Unit → HP) (hF : F_slices_insertionSortCmpFunc_clauses_Clause a0 a1 a2 a3 K h) : CallsH Tryz.prog fn_slices_insertionSortCmpFunc_clauses_Clause #[(.slice a0.a a0.len a0.cap), (.int .i64 a1), (.int .i64 a2), a3] h fun v h' => ∃ x : Unit, v = Ty.enc (.tup .nil) x ∧ K x h' :=
  callsH_of_fn (P := Tryz.prog) (fn := Tryz.f140) (τ := (.tup .nil)) follows Tryz.func140 (by kernel_rfl) (by kernel_rfl) Tryz.call140 (Eq.mpr (E_slices_insertionSortCmpFunc_clauses_Clause a0 a1 a2 a3 K h) hF)

def F_slices_heapSortCmpFunc_clauses_Clause (a0 : Sl) (a1 : Int) (a2 : Int) (a3 : Value) (K : Unit → HP) : HP :=
 nz (2 : Int) <|
 lfp (σ := (Int × Unit)) (fun X0 s1 => /- i -/
 brB (decide (s1.1 ≥ (0 : Int)))
 (callT Tryz.prog fn_slices_siftDownCmpFunc_clauses_Clause #[(.slice a0.a a0.len a0.cap), (.int .i64 s1.1), (.int .i64 (IntKind.wrap .i64 (a2 - a1))), (.int .i64 a1), a3] (.tup .nil) fun r2 =>
 X0 ((IntKind.wrap .i64 (s1.1 - (1 : Int))), ()))
 (lfp (σ := (Int × Unit)) (fun X3 s4 => /- i -/
 brB (decide (s4.1 ≥ (0 : Int)))
 (sx a0.a a0.len (IntKind.wrap .i64 (a1 + s4.1)) 1 fun p5 =>
 ldT .sl p5 fun x6 =>
 sx a0.a a0.len a1 1 fun p7 =>
 ldT .sl p7 fun x8 =>
 sx a0.a a0.len a1 1 fun p9 =>
 st1 p9 (.slice x6.a x6.len x6.cap) <|
 sx a0.a a0.len (IntKind.wrap .i64 (a1 + s4.1)) 1 fun p10 =>
 st1 p10 (.slice x8.a x8.len x8.cap) <|
 callT Tryz.prog fn_slices_siftDownCmpFunc_clauses_Clause #[(.slice a0.a a0.len a0.cap), (.int .i64 (0 : Int)), (.int .i64 s4.1), (.int .i64 a1), a3] (.tup .nil) fun r11 =>
 X3 ((IntKind.wrap .i64 (s4.1 - (1 : Int))), ()))
 (K (())))
 ((IntKind.wrap .i64 ((IntKind.wrap .i64 (a2 - a1)) - (1 : Int))), ())))
 ((IntKind.wrap .i64 (Int.tdiv (IntKind.wrap .i64 ((IntKind.wrap .i64 (a2 - a1)) - (1 : Int))) (2 : Int))), ())
set_option maxRecDepth 100000 in
theorem E_slices_heapSortCmpFunc_clauses_Clause (a0 : Sl) (a1 : Int) (a2 : Int) (a3 : Value) (K : Unit → HP) (h : Heap) : fnVC Tryz.prog [(1000000, .nil)] 60 Tryz.f141 [(.slice a0.a a0.len a0.cap), (.int .i64 a1), (.int .i64 a2), a3] (.tup .nil) K h = F_slices_heapSortCmpFunc_clauses_Clause a0 a1 a2 a3 K h := by kernel_rfl
set_option maxRecDepth 100000 in
theorem S_slices_heapSortCmpFunc_clauses_Clause{h : Heap} {a0 : Sl} {a1 : Int} {a2 : Int} {a3 : Value} (K : Unit → HP) (hF : F_slices_heapSortCmpFunc_clauses_Clause a0 a1 a2 a3 K h) : CallsH Tryz.prog fn_slices_heapSortCmpFunc_clauses_Clause #[(.slice a0.a a0.len a0.cap), (.int .i64 a1), (.int .i64 a2), a3] h fun v h' => ∃ x : Unit, v = Ty.enc (.tup .nil) x ∧ K x h' :=
  callsH_of_fn (P := Tryz.prog) (fn := Tryz.f141) (τ := (.tup .nil)) follows Tryz.func141 (by kernel_rfl) (by kernel_rfl) Tryz.call141 (Eq.mpr (E_slices_heapSortCmpFunc_clauses_Clause a0 a1 a2 a3 K h) hF)

def F_slices_breakPatternsCmpFunc_clauses_Clause (a0 : Sl) (a1 : Int) (a2 : Int) (a3 : Value) (K : Unit → HP) : HP :=
 jn (σ := Unit) (fun s1 => /- -/
 K (()))
 (fun J0 =>
 brB (decide ((IntKind.wrap .i64 (a2 - a1)) ≥ (8 : Int)))
 (nw #[(.int .u64 (0 : Int))] ty_slices_xorshift fun b2 =>
 st1 (⟨b2, 0, none⟩ : Addr) (.int .u64 (IntKind.wrap .u64 (IntKind.wrap .i64 (a2 - a1)))) <|
 callT Tryz.prog fn_slices_nextPowerOfTwo #[(.int .i64 (IntKind.wrap .i64 (a2 - a1)))] (.int .u64) fun r3 =>
 nz (4 : Int) <|
 lfp (σ := (Int × Unit)) (fun X4 s5 => /- idx -/
 nz (4 : Int) <|
 brB (decide (s5.1 ≤ (IntKind.wrap .i64 ((IntKind.wrap .i64 (a1 + (IntKind.wrap .i64 ((IntKind.wrap .i64 (Int.tdiv (IntKind.wrap .i64 (a2 - a1)) (4 : Int))) * (2 : Int))))) + (1 : Int)))))
 (callT Tryz.prog fn_slices_xorshift_Next #[(.pointer (some (⟨b2, 0, none⟩ : Addr)))] (.int .u64) fun r6 =>
 jn (σ := (Int × Unit)) (fun s8 => /- other -/
 sx a0.a a0.len (IntKind.wrap .i64 (a1 + s8.1)) 1 fun p9 =>
 ldT .sl p9 fun x10 =>
 sx a0.a a0.len s5.1 1 fun p11 =>
 ldT .sl p11 fun x12 =>
 sx a0.a a0.len s5.1 1 fun p13 =>
 st1 p13 (.slice x10.a x10.len x10.cap) <|
 sx a0.a a0.len (IntKind.wrap .i64 (a1 + s8.1)) 1 fun p14 =>
 st1 p14 (.slice x12.a x12.len x12.cap) <|
 X4 ((IntKind.wrap .i64 (s5.1 + (1 : Int))), ()))
 (fun J7 =>
 brB (decide ((IntKind.wrap .i64 (bAnd .u64 r6 (IntKind.wrap .u64 (r3 - (1 : Int))))) ≥ (IntKind.wrap .i64 (a2 - a1))))
 (J7 ((IntKind.wrap .i64 ((IntKind.wrap .i64 (bAnd .u64 r6 (IntKind.wrap .u64 (r3 - (1 : Int))))) - (IntKind.wrap .i64 (a2 - a1)))), ()))
 (J7 ((IntKind.wrap .i64 (bAnd .u64 r6 (IntKind.wrap .u64 (r3 - (1 : Int))))), ()))))
 (J0 (())))
 ((IntKind.wrap .i64 ((IntKind.wrap .i64 (a1 + (IntKind.wrap .i64 ((IntKind.wrap .i64 (Int.tdiv (IntKind.wrap .i64 (a2 - a1)) (4 : Int))) * (2 : Int))))) - (1 : Int))), ()))
 (J0 (())))
set_option maxRecDepth 100000 in
theorem E_slices_breakPatternsCmpFunc_clauses_Clause (a0 : Sl) (a1 : Int) (a2 : Int) (a3 : Value) (K : Unit → HP) (h : Heap) : fnVC Tryz.prog [(1000000, .nil)] 67 Tryz.f142 [(.slice a0.a a0.len a0.cap), (.int .i64 a1), (.int .i64 a2), a3] (.tup .nil) K h = F_slices_breakPatternsCmpFunc_clauses_Clause a0 a1 a2 a3 K h := by kernel_rfl
set_option maxRecDepth 100000 in
theorem S_slices_breakPatternsCmpFunc_clauses_Clause{h : Heap} {a0 : Sl} {a1 : Int} {a2 : Int} {a3 : Value} (K : Unit → HP) (hF : F_slices_breakPatternsCmpFunc_clauses_Clause a0 a1 a2 a3 K h) : CallsH Tryz.prog fn_slices_breakPatternsCmpFunc_clauses_Clause #[(.slice a0.a a0.len a0.cap), (.int .i64 a1), (.int .i64 a2), a3] h fun v h' => ∃ x : Unit, v = Ty.enc (.tup .nil) x ∧ K x h' :=
  callsH_of_fn (P := Tryz.prog) (fn := Tryz.f142) (τ := (.tup .nil)) follows Tryz.func142 (by kernel_rfl) (by kernel_rfl) Tryz.call142 (Eq.mpr (E_slices_breakPatternsCmpFunc_clauses_Clause a0 a1 a2 a3 K h) hF)

def F_slices_choosePivotCmpFunc_clauses_Clause (a0 : Sl) (a1 : Int) (a2 : Int) (a3 : Value) (K : (Int × (Int × Unit)) → HP) : HP :=
 nw #[(.int .i64 (0 : Int))] ty_int fun b0 =>
 nz (4 : Int) <|
 nz (4 : Int) <|
 nz (4 : Int) <|
 jn (σ := (Int × (Int × (Int × Unit)))) (fun s2 => /- k j i -/
 ldT (.int .i64) (⟨b0, 0, none⟩ : Addr) fun x3 =>
 brB (x3 == (0 : Int))
 (K (s2.2.1, (1 : Int), ()))
 (brB (x3 == (12 : Int))
 (K (s2.2.1, (2 : Int), ()))
 (K (s2.2.1, (0 : Int), ()))))
 (fun J1 =>
 brB (decide ((IntKind.wrap .i64 (a2 - a1)) ≥ (8 : Int)))
 (jn (σ := (Int × (Int × (Int × Unit)))) (fun s5 => /- k j i -/
 callT Tryz.prog fn_slices_medianCmpFunc_clauses_Clause #[(.slice a0.a a0.len a0.cap), (.int .i64 s5.2.2.1), (.int .i64 s5.2.1), (.int .i64 s5.1), (.pointer (some (⟨b0, 0, none⟩ : Addr))), a3] (.int .i64) fun r6 =>
 J1 (s5.1, r6, s5.2.2.1, ()))
 (fun J4 =>
 brB (decide ((IntKind.wrap .i64 (a2 - a1)) ≥ (50 : Int)))
 (callT Tryz.prog fn_slices_medianAdjacentCmpFunc_clauses_Clause #[(.slice a0.a a0.len a0.cap), (.int .i64 (IntKind.wrap .i64 (a1 + (IntKind.wrap .i64 ((IntKind.wrap .i64 (Int.tdiv (IntKind.wrap .i64 (a2 - a1)) (4 : Int))) * (1 : Int)))))), (.pointer (some (⟨b0, 0, none⟩ : Addr))), a3] (.int .i64) fun r7 =>
 callT Tryz.prog fn_slices_medianAdjacentCmpFunc_clauses_Clause #[(.slice a0.a a0.len a0.cap), (.int .i64 (IntKind.wrap .i64 (a1 + (IntKind.wrap .i64 ((IntKind.wrap .i64 (Int.tdiv (IntKind.wrap .i64 (a2 - a1)) (4 : Int))) * (2 : Int)))))), (.pointer (some (⟨b0, 0, none⟩ : Addr))), a3] (.int .i64) fun r8 =>
 callT Tryz.prog fn_slices_medianAdjacentCmpFunc_clauses_Clause #[(.slice a0.a a0.len a0.cap), (.int .i64 (IntKind.wrap .i64 (a1 + (IntKind.wrap .i64 ((IntKind.wrap .i64 (Int.tdiv (IntKind.wrap .i64 (a2 - a1)) (4 : Int))) * (3 : Int)))))), (.pointer (some (⟨b0, 0, none⟩ : Addr))), a3] (.int .i64) fun r9 =>
 J4 (r9, r8, r7, ()))
 (J4 ((IntKind.wrap .i64 (a1 + (IntKind.wrap .i64 ((IntKind.wrap .i64 (Int.tdiv (IntKind.wrap .i64 (a2 - a1)) (4 : Int))) * (3 : Int))))), (IntKind.wrap .i64 (a1 + (IntKind.wrap .i64 ((IntKind.wrap .i64 (Int.tdiv (IntKind.wrap .i64 (a2 - a1)) (4 : Int))) * (2 : Int))))), (IntKind.wrap .i64 (a1 + (IntKind.wrap .i64 ((IntKind.wrap .i64 (Int.tdiv (IntKind.wrap .i64 (a2 - a1)) (4 : Int))) * (1 : Int))))), ()))))
 (J1 ((IntKind.wrap .i64 (a1 + (IntKind.wrap .i64 ((IntKind.wrap .i64 (Int.tdiv (IntKind.wrap .i64 (a2 - a1)) (4 : Int))) * (3 : Int))))), (IntKind.wrap .i64 (a1 + (IntKind.wrap .i64 ((IntKind.wrap .i64 (Int.tdiv (IntKind.wrap .i64 (a2 - a1)) (4 : Int))) * (2 : Int))))), (IntKind.wrap .i64 (a1 + (IntKind.wrap .i64 ((IntKind.wrap .i64 (Int.tdiv (IntKind.wrap .i64 (a2 - a1)) (4 : Int))) * (1 : Int))))), ())))
set_option maxRecDepth 100000 in
theorem E_slices_choosePivotCmpFunc_clauses_Clause (a0 : Sl) (a1 : Int) (a2 : Int) (a3 : Value) (K : (Int × (Int × Unit)) → HP) (h : Heap) : fnVC Tryz.prog [(1000000, .nil)] 63 Tryz.f143 [(.slice a0.a a0.len a0.cap), (.int .i64 a1), (.int .i64 a2), a3] (.tup (.cons (.int .i64) (.cons (.int .i64) .nil))) K h = F_slices_choosePivotCmpFunc_clauses_Clause a0 a1 a2 a3 K h := by kernel_rfl
set_option maxRecDepth 100000 in
theorem S_slices_choosePivotCmpFunc_clauses_Clause{h : Heap} {a0 : Sl} {a1 : Int} {a2 : Int} {a3 : Value} (K : (Int × (Int × Unit)) → HP) (hF : F_slices_choosePivotCmpFunc_clauses_Clause a0 a1 a2 a3 K h) : CallsH Tryz.prog fn_slices_choosePivotCmpFunc_clauses_Clause #[(.slice a0.a a0.len a0.cap), (.int .i64 a1), (.int .i64 a2), a3] h fun v h' => ∃ x : (Int × (Int × Unit)), v = Ty.enc (.tup (.cons (.int .i64) (.cons (.int .i64) .nil))) x ∧ K x h' :=
  callsH_of_fn (P := Tryz.prog) (fn := Tryz.f143) (τ := (.tup (.cons (.int .i64) (.cons (.int .i64) .nil)))) follows Tryz.func143 (by kernel_rfl) (by kernel_rfl) Tryz.call143 (Eq.mpr (E_slices_choosePivotCmpFunc_clauses_Clause a0 a1 a2 a3 K h) hF)

def F_slices_reverseRangeCmpFunc_clauses_Clause (a0 : Sl) (a1 : Int) (a2 : Int) (a3 : Value) (K : Unit → HP) : HP :=
 lfp (σ := (Int × (Int × Unit))) (fun X0 s1 => /- j i -/
 brB (decide (s1.2.1 < s1.1))
 (sx a0.a a0.len s1.1 1 fun p2 =>
 ldT .sl p2 fun x3 =>
 sx a0.a a0.len s1.2.1 1 fun p4 =>
 ldT .sl p4 fun x5 =>
 sx a0.a a0.len s1.2.1 1 fun p6 =>
 st1 p6 (.slice x3.a x3.len x3.cap) <|
 sx a0.a a0.len s1.1 1 fun p7 =>
 st1 p7 (.slice x5.a x5.len x5.cap) <|
 X0 ((IntKind.wrap .i64 (s1.1 - (1 : Int))), (IntKind.wrap .i64 (s1.2.1 + (1 : Int))), ()))
 (K (())))
 ((IntKind.wrap .i64 (a2 - (1 : Int))), a1, ())
set_option maxRecDepth 100000 in
theorem E_slices_reverseRangeCmpFunc_clauses_Clause (a0 : Sl) (a1 : Int) (a2 : Int) (a3 : Value) (K : Unit → HP) (h : Heap) : fnVC Tryz.prog [(1000000, .nil)] 34 Tryz.f144 [(.slice a0.a a0.len a0.cap), (.int .i64 a1), (.int .i64 a2), a3] (.tup .nil) K h = F_slices_reverseRangeCmpFunc_clauses_Clause a0 a1 a2 a3 K h := by kernel_rfl
set_option maxRecDepth 100000 in
theorem S_slices_reverseRangeCmpFunc_clauses_Clause{h : Heap} {a0 : Sl} {a1 : Int} {a2 : Int} {a3 : Value} (K : Unit → HP) (hF : F_slices_reverseRangeCmpFunc_clauses_Clause a0 a1 a2 a3 K h) : CallsH Tryz.prog fn_slices_reverseRangeCmpFunc_clauses_Clause #[(.slice a0.a a0.len a0.cap), (.int .i64 a1), (.int .i64 a2), a3] h fun v h' => ∃ x : Unit, v = Ty.enc (.tup .nil) x ∧ K x h' :=
  callsH_of_fn (P := Tryz.prog) (fn := Tryz.f144) (τ := (.tup .nil)) follows Tryz.func144 (by kernel_rfl) (by kernel_rfl) Tryz.call144 (Eq.mpr (E_slices_reverseRangeCmpFunc_clauses_Clause a0 a1 a2 a3 K h) hF)

end Go.Proofs.S
