/- The functions of the seat, each as a predicate over its values, printed by a program of ours, and that each is its text's. -/
import Derived.Test.YtogghgcgehhcaaaSxH
import Derived.KernelRfl
import Derived.Test.YtogghgcgehhcaaaProg
import Derived.Test.YtogghgcgehhcaaaClF0
set_option linter.unusedVariables false
namespace Go.Proofs.S
open Go Go.Sx Go.Proofs
/-- salvor/clauses.Within -/
def F_clauses_Within (a0 : Sl) (a1 : Sl) (K : Bool → HP) : HP := fun h0 => (
 nw #[(.bool false)] ty_bool fun b0 =>
 callT Try.prog fn_clauses_Right #[(.slice a0.a a0.len a0.cap)] .bool fun r1 =>
 brB (!r1)
 (st1 (⟨b0, 0, none⟩ : Addr) (.bool false) <|
 mkd h0.size <|
 ldT .bool (⟨b0, 0, none⟩ : Addr) fun x2 =>
 K x2)
 (callT Try.prog fn_clauses_Right #[(.slice a1.a a1.len a1.cap)] .bool fun r3 =>
 brB (!r3)
 (st1 (⟨b0, 0, none⟩ : Addr) (.bool false) <|
 mkd h0.size <|
 ldT .bool (⟨b0, 0, none⟩ : Addr) fun x4 =>
 K x4)
 (callT Try.prog fn_clauses_normal #[(.slice a1.a a1.len a1.cap)] .sl fun r5 =>
 nw #[(.slice none 0 0)] ty_clauses_Clause fun b6 =>
 st1 (⟨b6, 0, none⟩ : Addr) (.slice r5.a r5.len r5.cap) <|
 callT Try.prog fn_clauses_sorted #[(.slice a0.a a0.len a0.cap)] .val fun r7 =>
 RangeVC Try.prog (.cons (.int .i64) .nil) r7 (fun x8 wrap9 next10 jump11 =>
 wrap9 <|
 ldT .sl (⟨b6, 0, none⟩ : Addr) fun x12 =>
 callT Try.prog fn_slices_BinarySearchFunc_clauses_Clause_lits_Lit_lits_Lit #[(.slice x12.a x12.len x12.cap), (.int .i64 x8.1), (.func (.func fn_lits_Compare) #[] #[])] (.tup (.cons (.int .i64) (.cons .bool .nil))) fun r13 =>
 brB (!r13.2.1)
 (st1 (⟨b0, 0, none⟩ : Addr) (.bool false) <|
 jump11 .ret)
 (next10))
 (st1 (⟨b0, 0, none⟩ : Addr) (.bool true) <|
 mkd h0.size <|
 ldT .bool (⟨b0, 0, none⟩ : Addr) fun x14 =>
 K x14)
 (mkd h0.size <|
 ldT .bool (⟨b0, 0, none⟩ : Addr) fun x15 =>
 K x15)
 []
 []))) h0
set_option maxRecDepth 100000 in
theorem E_clauses_Within (a0 : Sl) (a1 : Sl) (K : Bool → HP) (h : Heap) : fnVC Try.prog [(1000000, .nil), (21, (.cons (.int .i64) .nil))] 30 Try.f25 [(.slice a0.a a0.len a0.cap), (.slice a1.a a1.len a1.cap)] .bool K h = F_clauses_Within a0 a1 K h := by kernel_rfl
set_option maxRecDepth 100000 in
theorem S_clauses_Within{h : Heap} {a0 : Sl} {a1 : Sl} (K : Bool → HP) (hF : F_clauses_Within a0 a1 K h) : CallsH Try.prog fn_clauses_Within #[(.slice a0.a a0.len a0.cap), (.slice a1.a a1.len a1.cap)] h fun v h' => ∃ x : Bool, v = Ty.enc .bool x ∧ K x h' :=
  callsH_of_fn (P := Try.prog) (fn := Try.f25) (τ := .bool) follows Try.func25 (by kernel_rfl) (by kernel_rfl) Try.call25 (Eq.mpr (E_clauses_Within a0 a1 K h) hF)


/-- salvor/clauses.Same -/
def F_clauses_Same (a0 : Sl) (a1 : Sl) (K : Bool → HP) : HP :=
 callT Try.prog fn_clauses_Right #[(.slice a0.a a0.len a0.cap)] .bool fun r0 =>
 brB r0
 (callT Try.prog fn_clauses_Right #[(.slice a1.a a1.len a1.cap)] .bool fun r1 =>
 brB r1
 (callT Try.prog fn_clauses_normal #[(.slice a0.a a0.len a0.cap)] .sl fun r2 =>
 callT Try.prog fn_clauses_normal #[(.slice a1.a a1.len a1.cap)] .sl fun r3 =>
 callT Try.prog fn_slices_Equal_clauses_Clause_lits_Lit #[(.slice r2.a r2.len r2.cap), (.slice r3.a r3.len r3.cap)] .bool fun r4 =>
 K r4)
 (K false))
 (K false)
set_option maxRecDepth 100000 in
theorem E_clauses_Same (a0 : Sl) (a1 : Sl) (K : Bool → HP) (h : Heap) : fnVC Try.prog [(1000000, .nil)] 18 Try.f26 [(.slice a0.a a0.len a0.cap), (.slice a1.a a1.len a1.cap)] .bool K h = F_clauses_Same a0 a1 K h := by kernel_rfl
set_option maxRecDepth 100000 in
theorem S_clauses_Same{h : Heap} {a0 : Sl} {a1 : Sl} (K : Bool → HP) (hF : F_clauses_Same a0 a1 K h) : CallsH Try.prog fn_clauses_Same #[(.slice a0.a a0.len a0.cap), (.slice a1.a a1.len a1.cap)] h fun v h' => ∃ x : Bool, v = Ty.enc .bool x ∧ K x h' :=
  callsH_of_fn (P := Try.prog) (fn := Try.f26) (τ := .bool) follows Try.func26 (by kernel_rfl) (by kernel_rfl) Try.call26 (Eq.mpr (E_clauses_Same a0 a1 K h) hF)


/-- salvor/clauses.Norm -/
def F_clauses_Norm (a0 : Sl) (K : (Sl × (Bool × (Int × Unit))) → HP) : HP :=
 callT Try.prog fn_clauses_Right #[(.slice a0.a a0.len a0.cap)] .bool fun r0 =>
 brB (!r0)
 (K (⟨none, 0, 0⟩, false, (20 : Int), ()))
 (callT Try.prog fn_clauses_normal #[(.slice a0.a a0.len a0.cap)] .sl fun r1 =>
 callT Try.prog fn_clauses_Always #[(.slice a0.a a0.len a0.cap)] .bool fun r2 =>
 K (⟨r1.a, r1.len, r1.cap⟩, r2, (0 : Int), ()))
set_option maxRecDepth 100000 in
theorem E_clauses_Norm (a0 : Sl) (K : (Sl × (Bool × (Int × Unit))) → HP) (h : Heap) : fnVC Try.prog [(1000000, .nil)] 12 Try.f27 [(.slice a0.a a0.len a0.cap)] (.tup (.cons .sl (.cons .bool (.cons (.int .i64) .nil)))) K h = F_clauses_Norm a0 K h := by kernel_rfl
set_option maxRecDepth 100000 in
theorem S_clauses_Norm{h : Heap} {a0 : Sl} (K : (Sl × (Bool × (Int × Unit))) → HP) (hF : F_clauses_Norm a0 K h) : CallsH Try.prog fn_clauses_Norm #[(.slice a0.a a0.len a0.cap)] h fun v h' => ∃ x : (Sl × (Bool × (Int × Unit))), v = Ty.enc (.tup (.cons .sl (.cons .bool (.cons (.int .i64) .nil)))) x ∧ K x h' :=
  callsH_of_fn (P := Try.prog) (fn := Try.f27) (τ := (.tup (.cons .sl (.cons .bool (.cons (.int .i64) .nil))))) follows Try.func27 (by kernel_rfl) (by kernel_rfl) Try.call27 (Eq.mpr (E_clauses_Norm a0 K h) hF)


/-- salvor/clauses.Compare -/
def F_clauses_Compare (a0 : Sl) (a1 : Sl) (K : Int → HP) : HP :=
 callT Try.prog fn_clauses_Right #[(.slice a0.a a0.len a0.cap)] .bool fun r0 =>
 brB (!r0)
 (K (0 : Int))
 (callT Try.prog fn_clauses_Right #[(.slice a1.a a1.len a1.cap)] .bool fun r1 =>
 brB (!r1)
 (K (0 : Int))
 (callT Try.prog fn_clauses_normal #[(.slice a0.a a0.len a0.cap)] .sl fun r2 =>
 callT Try.prog fn_clauses_normal #[(.slice a1.a a1.len a1.cap)] .sl fun r3 =>
 callT Try.prog fn_cmp_Compare_int #[(.int .i64 (r2.len : Int)), (.int .i64 (r3.len : Int))] (.int .i64) fun r4 =>
 callT Try.prog fn_slices_CompareFunc_clauses_Clause_clauses_Clause_lits_Lit_lits_Lit #[(.slice r2.a r2.len r2.cap), (.slice r3.a r3.len r3.cap), (.func (.func fn_lits_Compare) #[] #[])] (.int .i64) fun r5 =>
 nw #[(.int .i64 r4), (.int .i64 r5)] ty_int fun b6 =>
 callT Try.prog fn_cmp_Or_int #[(.slice (some (⟨b6, 0, none⟩ : Addr)) 2 2)] (.int .i64) fun r7 =>
 K r7))
set_option maxRecDepth 100000 in
theorem E_clauses_Compare (a0 : Sl) (a1 : Sl) (K : Int → HP) (h : Heap) : fnVC Try.prog [(1000000, .nil)] 29 Try.f28 [(.slice a0.a a0.len a0.cap), (.slice a1.a a1.len a1.cap)] (.int .i64) K h = F_clauses_Compare a0 a1 K h := by kernel_rfl
set_option maxRecDepth 100000 in
theorem S_clauses_Compare{h : Heap} {a0 : Sl} {a1 : Sl} (K : Int → HP) (hF : F_clauses_Compare a0 a1 K h) : CallsH Try.prog fn_clauses_Compare #[(.slice a0.a a0.len a0.cap), (.slice a1.a a1.len a1.cap)] h fun v h' => ∃ x : Int, v = Ty.enc (.int .i64) x ∧ K x h' :=
  callsH_of_fn (P := Try.prog) (fn := Try.f28) (τ := (.int .i64)) follows Try.func28 (by kernel_rfl) (by kernel_rfl) Try.call28 (Eq.mpr (E_clauses_Compare a0 a1 K h) hF)


/-- slices.Equal[salvor/clauses.Clause,salvor/lits.Lit] -/
def F_slices_Equal_clauses_Clause_lits_Lit (a0 : Sl) (a1 : Sl) (K : Bool → HP) : HP :=
 brB ((a0.len : Int) != (a1.len : Int))
 (K false)
 (lfp (σ := (Int × (Bool × Unit))) (fun X0 s1 => /-   -/
 brB (decide (s1.1 < (a0.len : Int)))
 (sx a0.a a0.len s1.1 1 fun p2 =>
 ldT (.int .i64) p2 fun x3 =>
 sx a1.a a1.len s1.1 1 fun p4 =>
 ldT (.int .i64) p4 fun x5 =>
 brB (x3 != x5)
 (K false)
 (X0 ((IntKind.wrap .i64 (s1.1 + (1 : Int))), s1.2.1, ())))
 (K true))
 ((0 : Int), false, ()))
set_option maxRecDepth 100000 in
theorem E_slices_Equal_clauses_Clause_lits_Lit (a0 : Sl) (a1 : Sl) (K : Bool → HP) (h : Heap) : fnVC Try.prog [(1000000, .nil)] 26 Try.f29 [(.slice a0.a a0.len a0.cap), (.slice a1.a a1.len a1.cap)] .bool K h = F_slices_Equal_clauses_Clause_lits_Lit a0 a1 K h := by kernel_rfl
set_option maxRecDepth 100000 in
theorem S_slices_Equal_clauses_Clause_lits_Lit{h : Heap} {a0 : Sl} {a1 : Sl} (K : Bool → HP) (hF : F_slices_Equal_clauses_Clause_lits_Lit a0 a1 K h) : CallsH Try.prog fn_slices_Equal_clauses_Clause_lits_Lit #[(.slice a0.a a0.len a0.cap), (.slice a1.a a1.len a1.cap)] h fun v h' => ∃ x : Bool, v = Ty.enc .bool x ∧ K x h' :=
  callsH_of_fn (P := Try.prog) (fn := Try.f29) (τ := .bool) follows Try.func29 (by kernel_rfl) (by kernel_rfl) Try.call29 (Eq.mpr (E_slices_Equal_clauses_Clause_lits_Lit a0 a1 K h) hF)


/-- salvor/salvorlaw02.Clause -/
def F_salvorlaw02_Clause (a0 : Sl) (K : Sl → HP) : HP :=
 lfp (σ := (Int × (Sl × Unit))) (fun X0 s1 => /-  out -/
 brB (decide (s1.1 < (a0.len : Int)))
 (sx a0.a a0.len s1.1 1 fun p2 =>
 ldT (.int .i64) p2 fun x3 =>
 nw #[(.int .i64 x3)] ty_lits_Lit fun b4 =>
 apd ty_lits_Lit 1 8 #[(.int .i64 (0 : Int))] ⟨s1.2.1.a, s1.2.1.len, s1.2.1.cap⟩ ⟨(some (⟨b4, 0, none⟩ : Addr)), 1, 1⟩ fun s5 =>
 X0 ((IntKind.wrap .i64 (s1.1 + (1 : Int))), ⟨s5.a, s5.len, s5.cap⟩, ()))
 (K ⟨s1.2.1.a, s1.2.1.len, s1.2.1.cap⟩))
 ((0 : Int), ⟨none, 0, 0⟩, ())
set_option maxRecDepth 100000 in
theorem E_salvorlaw02_Clause (a0 : Sl) (K : Sl → HP) (h : Heap) : fnVC Try.prog [(1000000, .nil)] 18 Try.f30 [(.slice a0.a a0.len a0.cap)] .sl K h = F_salvorlaw02_Clause a0 K h := by kernel_rfl
set_option maxRecDepth 100000 in
theorem S_salvorlaw02_Clause{h : Heap} {a0 : Sl} (K : Sl → HP) (hF : F_salvorlaw02_Clause a0 K h) : CallsH Try.prog fn_salvorlaw02_Clause #[(.slice a0.a a0.len a0.cap)] h fun v h' => ∃ x : Sl, v = Ty.enc .sl x ∧ K x h' :=
  callsH_of_fn (P := Try.prog) (fn := Try.f30) (τ := .sl) follows Try.func30 (by kernel_rfl) (by kernel_rfl) Try.call30 (Eq.mpr (E_salvorlaw02_Clause a0 K h) hF)


/-- salvor/clauses.Right -/
def F_clauses_Right (a0 : Sl) (K : Bool → HP) : HP :=
 brB (decide ((a0.len : Int) ≤ (4096 : Int)))
 (callT Try.prog fn_slices_ContainsFunc_clauses_Clause_lits_Lit #[(.slice a0.a a0.len a0.cap), (.func (.func fn_clauses_wrong) #[] #[])] .bool fun r0 =>
 K (!r0))
 (K false)
set_option maxRecDepth 100000 in
theorem E_clauses_Right (a0 : Sl) (K : Bool → HP) (h : Heap) : fnVC Try.prog [(1000000, .nil)] 11 Try.f31 [(.slice a0.a a0.len a0.cap)] .bool K h = F_clauses_Right a0 K h := by kernel_rfl
set_option maxRecDepth 100000 in
theorem S_clauses_Right{h : Heap} {a0 : Sl} (K : Bool → HP) (hF : F_clauses_Right a0 K h) : CallsH Try.prog fn_clauses_Right #[(.slice a0.a a0.len a0.cap)] h fun v h' => ∃ x : Bool, v = Ty.enc .bool x ∧ K x h' :=
  callsH_of_fn (P := Try.prog) (fn := Try.f31) (τ := .bool) follows Try.func31 (by kernel_rfl) (by kernel_rfl) Try.call31 (Eq.mpr (E_clauses_Right a0 K h) hF)


/-- salvor/salvorref01.Right -/
def F_salvorref01_Right (a0 : Int) (K : Bool → HP) : HP :=
 brB (decide (a0 ≥ (1 : Int)))
 (brB (decide (a0 ≤ (1048576 : Int)))
 (K true)
 (brB (decide (a0 ≥ (-1048576 : Int)))
 (K (decide (a0 ≤ (-1 : Int))))
 (K false)))
 (brB (decide (a0 ≥ (-1048576 : Int)))
 (K (decide (a0 ≤ (-1 : Int))))
 (K false))
set_option maxRecDepth 100000 in
theorem E_salvorref01_Right (a0 : Int) (K : Bool → HP) (h : Heap) : fnVC Try.prog [(1000000, .nil)] 17 Try.f32 [(.int .i64 a0)] .bool K h = F_salvorref01_Right a0 K h := by kernel_rfl
set_option maxRecDepth 100000 in
theorem S_salvorref01_Right{h : Heap} {a0 : Int} (K : Bool → HP) (hF : F_salvorref01_Right a0 K h) : CallsH Try.prog fn_salvorref01_Right #[(.int .i64 a0)] h fun v h' => ∃ x : Bool, v = Ty.enc .bool x ∧ K x h' :=
  callsH_of_fn (P := Try.prog) (fn := Try.f32) (τ := .bool) follows Try.func32 (by kernel_rfl) (by kernel_rfl) Try.call32 (Eq.mpr (E_salvorref01_Right a0 K h) hF)


/-- salvor/clauses.Normal -/
def F_clauses_Normal (a0 : Sl) (K : Bool → HP) : HP :=
 callT Try.prog fn_clauses_Right #[(.slice a0.a a0.len a0.cap)] .bool fun r0 =>
 brB r0
 (callT Try.prog fn_clauses_normal #[(.slice a0.a a0.len a0.cap)] .sl fun r1 =>
 callT Try.prog fn_slices_Equal_clauses_Clause_lits_Lit #[(.slice a0.a a0.len a0.cap), (.slice r1.a r1.len r1.cap)] .bool fun r2 =>
 K r2)
 (K false)
set_option maxRecDepth 100000 in
theorem E_clauses_Normal (a0 : Sl) (K : Bool → HP) (h : Heap) : fnVC Try.prog [(1000000, .nil)] 11 Try.f33 [(.slice a0.a a0.len a0.cap)] .bool K h = F_clauses_Normal a0 K h := by kernel_rfl
set_option maxRecDepth 100000 in
theorem S_clauses_Normal{h : Heap} {a0 : Sl} (K : Bool → HP) (hF : F_clauses_Normal a0 K h) : CallsH Try.prog fn_clauses_Normal #[(.slice a0.a a0.len a0.cap)] h fun v h' => ∃ x : Bool, v = Ty.enc .bool x ∧ K x h' :=
  callsH_of_fn (P := Try.prog) (fn := Try.f33) (τ := .bool) follows Try.func33 (by kernel_rfl) (by kernel_rfl) Try.call33 (Eq.mpr (E_clauses_Normal a0 K h) hF)


/-- slices.IsSortedFunc[salvor/clauses.Clause,salvor/lits.Lit] -/
def F_slices_IsSortedFunc_clauses_Clause_lits_Lit (a0 : Sl) (a1 : Value) (K : Bool → HP) : HP :=
 lfp (σ := (Int × (Bool × Unit))) (fun X0 s1 => /- i  -/
 brB (decide (s1.1 > (0 : Int)))
 (sx a0.a a0.len s1.1 1 fun p2 =>
 ldT (.int .i64) p2 fun x3 =>
 sx a0.a a0.len (IntKind.wrap .i64 (s1.1 - (1 : Int))) 1 fun p4 =>
 ldT (.int .i64) p4 fun x5 =>
 callF Try.prog a1 #[(.int .i64 x3), (.int .i64 x5)] (.int .i64) fun r6 =>
 brB (decide (r6 < (0 : Int)))
 (K false)
 (X0 ((IntKind.wrap .i64 (s1.1 - (1 : Int))), s1.2.1, ())))
 (K true))
 ((IntKind.wrap .i64 ((a0.len : Int) - (1 : Int))), false, ())
set_option maxRecDepth 100000 in
theorem E_slices_IsSortedFunc_clauses_Clause_lits_Lit (a0 : Sl) (a1 : Value) (K : Bool → HP) (h : Heap) : fnVC Try.prog [(1000000, .nil)] 25 Try.f34 [(.slice a0.a a0.len a0.cap), a1] .bool K h = F_slices_IsSortedFunc_clauses_Clause_lits_Lit a0 a1 K h := by kernel_rfl
set_option maxRecDepth 100000 in
theorem S_slices_IsSortedFunc_clauses_Clause_lits_Lit{h : Heap} {a0 : Sl} {a1 : Value} (K : Bool → HP) (hF : F_slices_IsSortedFunc_clauses_Clause_lits_Lit a0 a1 K h) : CallsH Try.prog fn_slices_IsSortedFunc_clauses_Clause_lits_Lit #[(.slice a0.a a0.len a0.cap), a1] h fun v h' => ∃ x : Bool, v = Ty.enc .bool x ∧ K x h' :=
  callsH_of_fn (P := Try.prog) (fn := Try.f34) (τ := .bool) follows Try.func34 (by kernel_rfl) (by kernel_rfl) Try.call34 (Eq.mpr (E_slices_IsSortedFunc_clauses_Clause_lits_Lit a0 a1 K h) hF)


/-- salvor/lits.Compare -/
def F_lits_Compare (a0 : Int) (a1 : Int) (K : Int → HP) : HP :=
 callT Try.prog fn_lits_Index #[(.int .i64 a0)] (.tup (.cons (.int .i64) (.cons (.int .i64) .nil))) fun r0 =>
 callT Try.prog fn_lits_Index #[(.int .i64 a1)] (.tup (.cons (.int .i64) (.cons (.int .i64) .nil))) fun r1 =>
 brB (r0.2.1 == (0 : Int))
 (brB (r1.2.1 == (0 : Int))
 (callT Try.prog fn_cmp_Compare_int #[(.int .i64 r0.1), (.int .i64 r1.1)] (.int .i64) fun r2 =>
 K r2)
 (brB (r0.2.1 == (0 : Int))
 (K (1 : Int))
 (brB (r1.2.1 == (0 : Int))
 (K (-1 : Int))
 (callT Try.prog fn_cmp_Compare_lits_Lit #[(.int .i64 a0), (.int .i64 a1)] (.int .i64) fun r3 =>
 K r3))))
 (brB (r0.2.1 == (0 : Int))
 (K (1 : Int))
 (brB (r1.2.1 == (0 : Int))
 (K (-1 : Int))
 (callT Try.prog fn_cmp_Compare_lits_Lit #[(.int .i64 a0), (.int .i64 a1)] (.int .i64) fun r4 =>
 K r4)))
set_option maxRecDepth 100000 in
theorem E_lits_Compare (a0 : Int) (a1 : Int) (K : Int → HP) (h : Heap) : fnVC Try.prog [(1000000, .nil)] 38 Try.f35 [(.int .i64 a0), (.int .i64 a1)] (.int .i64) K h = F_lits_Compare a0 a1 K h := by kernel_rfl
set_option maxRecDepth 100000 in
theorem S_lits_Compare{h : Heap} {a0 : Int} {a1 : Int} (K : Int → HP) (hF : F_lits_Compare a0 a1 K h) : CallsH Try.prog fn_lits_Compare #[(.int .i64 a0), (.int .i64 a1)] h fun v h' => ∃ x : Int, v = Ty.enc (.int .i64) x ∧ K x h' :=
  callsH_of_fn (P := Try.prog) (fn := Try.f35) (τ := (.int .i64)) follows Try.func35 (by kernel_rfl) (by kernel_rfl) Try.call35 (Eq.mpr (E_lits_Compare a0 a1 K h) hF)


/-- slices.Contains[salvor/clauses.Clause,salvor/lits.Lit] -/
def F_slices_Contains_clauses_Clause_lits_Lit (a0 : Sl) (a1 : Int) (K : Bool → HP) : HP :=
 callT Try.prog fn_slices_Index_clauses_Clause_lits_Lit #[(.slice a0.a a0.len a0.cap), (.int .i64 a1)] (.int .i64) fun r0 =>
 K (decide (r0 ≥ (0 : Int)))
set_option maxRecDepth 100000 in
theorem E_slices_Contains_clauses_Clause_lits_Lit (a0 : Sl) (a1 : Int) (K : Bool → HP) (h : Heap) : fnVC Try.prog [(1000000, .nil)] 9 Try.f36 [(.slice a0.a a0.len a0.cap), (.int .i64 a1)] .bool K h = F_slices_Contains_clauses_Clause_lits_Lit a0 a1 K h := by kernel_rfl
set_option maxRecDepth 100000 in
theorem S_slices_Contains_clauses_Clause_lits_Lit{h : Heap} {a0 : Sl} {a1 : Int} (K : Bool → HP) (hF : F_slices_Contains_clauses_Clause_lits_Lit a0 a1 K h) : CallsH Try.prog fn_slices_Contains_clauses_Clause_lits_Lit #[(.slice a0.a a0.len a0.cap), (.int .i64 a1)] h fun v h' => ∃ x : Bool, v = Ty.enc .bool x ∧ K x h' :=
  callsH_of_fn (P := Try.prog) (fn := Try.f36) (τ := .bool) follows Try.func36 (by kernel_rfl) (by kernel_rfl) Try.call36 (Eq.mpr (E_slices_Contains_clauses_Clause_lits_Lit a0 a1 K h) hF)


/-- slices.Concat[salvor/clauses.Clause,salvor/lits.Lit] -/
def F_slices_Concat_clauses_Clause_lits_Lit (a0 : Sl) (K : Sl → HP) : HP :=
 lfp (σ := (Int × (Int × Unit))) (fun X0 s1 => /-  size -/
 brB (decide (s1.1 < (a0.len : Int)))
 (sx a0.a a0.len s1.1 1 fun p2 =>
 ldT .sl p2 fun x3 =>
 jn (σ := Unit) (fun s5 => /- -/
 X0 ((IntKind.wrap .i64 (s1.1 + (1 : Int))), (IntKind.wrap .i64 (s1.2.1 + (x3.len : Int))), ()))
 (fun J4 =>
 brB (decide ((IntKind.wrap .i64 (s1.2.1 + (x3.len : Int))) < (0 : Int)))
 (fF /- not known -/)
 (J4 (()))))
 (callT Try.prog fn_slices_Grow_clauses_Clause_lits_Lit #[(.slice none 0 0), (.int .i64 s1.2.1)] .sl fun r6 =>
 lfp (σ := (Int × (Sl × Unit))) (fun X7 s8 => /-  newslice -/
 brB (decide (s8.1 < (a0.len : Int)))
 (sx a0.a a0.len s8.1 1 fun p9 =>
 ldT .sl p9 fun x10 =>
 apd ty_lits_Lit 1 8 #[(.int .i64 (0 : Int))] ⟨s8.2.1.a, s8.2.1.len, s8.2.1.cap⟩ ⟨x10.a, x10.len, x10.cap⟩ fun s11 =>
 X7 ((IntKind.wrap .i64 (s8.1 + (1 : Int))), ⟨s11.a, s11.len, s11.cap⟩, ()))
 (K ⟨s8.2.1.a, s8.2.1.len, s8.2.1.cap⟩))
 ((0 : Int), ⟨r6.a, r6.len, r6.cap⟩, ())))
 ((0 : Int), (0 : Int), ())
set_option maxRecDepth 100000 in
theorem E_slices_Concat_clauses_Clause_lits_Lit (a0 : Sl) (K : Sl → HP) (h : Heap) : fnVC Try.prog [(1000000, .nil)] 36 Try.f37 [(.slice a0.a a0.len a0.cap)] .sl K h = F_slices_Concat_clauses_Clause_lits_Lit a0 K h := by kernel_rfl
set_option maxRecDepth 100000 in
theorem S_slices_Concat_clauses_Clause_lits_Lit{h : Heap} {a0 : Sl} (K : Sl → HP) (hF : F_slices_Concat_clauses_Clause_lits_Lit a0 K h) : CallsH Try.prog fn_slices_Concat_clauses_Clause_lits_Lit #[(.slice a0.a a0.len a0.cap)] h fun v h' => ∃ x : Sl, v = Ty.enc .sl x ∧ K x h' :=
  callsH_of_fn (P := Try.prog) (fn := Try.f37) (τ := .sl) follows Try.func37 (by kernel_rfl) (by kernel_rfl) Try.call37 (Eq.mpr (E_slices_Concat_clauses_Clause_lits_Lit a0 K h) hF)


/-- slices.Insert[salvor/clauses.Clause,salvor/lits.Lit] -/
def F_slices_Insert_clauses_Clause_lits_Lit (a0 : Sl) (a1 : Int) (a2 : Sl) (K : Sl → HP) : HP :=
 slL ⟨a0.a, a0.len, a0.cap⟩ a1 1 fun s0 =>
 brB ((a2.len : Int) == (0 : Int))
 (K ⟨a0.a, a0.len, a0.cap⟩)
 (brB (a1 == (a0.len : Int))
 (apd ty_lits_Lit 1 8 #[(.int .i64 (0 : Int))] ⟨a0.a, a0.len, a0.cap⟩ ⟨a2.a, a2.len, a2.cap⟩ fun s1 =>
 K ⟨s1.a, s1.len, s1.cap⟩)
 (brB (decide ((IntKind.wrap .i64 ((a0.len : Int) + (a2.len : Int))) > (a0.cap : Int)))
 (slH ⟨a0.a, a0.len, a0.cap⟩ a1 1 fun s2 =>
 apz ty_lits_Lit 1 8 #[(.int .i64 (0 : Int))] ⟨s2.a, s2.len, s2.cap⟩ (IntKind.wrap .i64 ((IntKind.wrap .i64 ((a0.len : Int) + (a2.len : Int))) - a1)) fun s3 =>
 slL ⟨s3.a, s3.len, s3.cap⟩ a1 1 fun s4 =>
 cpy 1 ⟨s4.a, s4.len, s4.cap⟩ ⟨a2.a, a2.len, a2.cap⟩ fun n5 =>
 slL ⟨s3.a, s3.len, s3.cap⟩ (IntKind.wrap .i64 (a1 + (a2.len : Int))) 1 fun s6 =>
 slL ⟨a0.a, a0.len, a0.cap⟩ a1 1 fun s7 =>
 cpy 1 ⟨s6.a, s6.len, s6.cap⟩ ⟨s7.a, s7.len, s7.cap⟩ fun n8 =>
 K ⟨s3.a, s3.len, s3.cap⟩)
 (slH ⟨a0.a, a0.len, a0.cap⟩ (IntKind.wrap .i64 ((a0.len : Int) + (a2.len : Int))) 1 fun s9 =>
 slL ⟨s9.a, s9.len, s9.cap⟩ (IntKind.wrap .i64 (a1 + (a2.len : Int))) 1 fun s10 =>
 callT Try.prog fn_slices_overlaps_lits_Lit #[(.slice a2.a a2.len a2.cap), (.slice s10.a s10.len s10.cap)] .bool fun r11 =>
 brB (!r11)
 (slL ⟨s9.a, s9.len, s9.cap⟩ (IntKind.wrap .i64 (a1 + (a2.len : Int))) 1 fun s12 =>
 slL ⟨s9.a, s9.len, s9.cap⟩ a1 1 fun s13 =>
 cpy 1 ⟨s12.a, s12.len, s12.cap⟩ ⟨s13.a, s13.len, s13.cap⟩ fun n14 =>
 slL ⟨s9.a, s9.len, s9.cap⟩ a1 1 fun s15 =>
 cpy 1 ⟨s15.a, s15.len, s15.cap⟩ ⟨a2.a, a2.len, a2.cap⟩ fun n16 =>
 K ⟨s9.a, s9.len, s9.cap⟩)
 (slL ⟨s9.a, s9.len, s9.cap⟩ (a0.len : Int) 1 fun s17 =>
 cpy 1 ⟨s17.a, s17.len, s17.cap⟩ ⟨a2.a, a2.len, a2.cap⟩ fun n18 =>
 slL ⟨s9.a, s9.len, s9.cap⟩ a1 1 fun s19 =>
 callT Try.prog fn_slices_rotateRight_lits_Lit #[(.slice s19.a s19.len s19.cap), (.int .i64 (a2.len : Int))] (.tup .nil) fun r20 =>
 K ⟨s9.a, s9.len, s9.cap⟩))))
set_option maxRecDepth 100000 in
theorem E_slices_Insert_clauses_Clause_lits_Lit (a0 : Sl) (a1 : Int) (a2 : Sl) (K : Sl → HP) (h : Heap) : fnVC Try.prog [(1000000, .nil)] 95 Try.f38 [(.slice a0.a a0.len a0.cap), (.int .i64 a1), (.slice a2.a a2.len a2.cap)] .sl K h = F_slices_Insert_clauses_Clause_lits_Lit a0 a1 a2 K h := by kernel_rfl
set_option maxRecDepth 100000 in
theorem S_slices_Insert_clauses_Clause_lits_Lit{h : Heap} {a0 : Sl} {a1 : Int} {a2 : Sl} (K : Sl → HP) (hF : F_slices_Insert_clauses_Clause_lits_Lit a0 a1 a2 K h) : CallsH Try.prog fn_slices_Insert_clauses_Clause_lits_Lit #[(.slice a0.a a0.len a0.cap), (.int .i64 a1), (.slice a2.a a2.len a2.cap)] h fun v h' => ∃ x : Sl, v = Ty.enc .sl x ∧ K x h' :=
  callsH_of_fn (P := Try.prog) (fn := Try.f38) (τ := .sl) follows Try.func38 (by kernel_rfl) (by kernel_rfl) Try.call38 (Eq.mpr (E_slices_Insert_clauses_Clause_lits_Lit a0 a1 a2 K h) hF)


/-- slices.Clone[salvor/clauses.Clause,salvor/lits.Lit] -/
def F_slices_Clone_clauses_Clause_lits_Lit (a0 : Sl) (K : Sl → HP) : HP :=
 brB (Option.isNone a0.a)
 (K ⟨none, 0, 0⟩)
 (nw #[] ty_lits_Lit fun b0 =>
 apd ty_lits_Lit 1 8 #[(.int .i64 (0 : Int))] ⟨(some (⟨b0, 0, none⟩ : Addr)), 0, 0⟩ ⟨a0.a, a0.len, a0.cap⟩ fun s1 =>
 K ⟨s1.a, s1.len, s1.cap⟩)
set_option maxRecDepth 100000 in
theorem E_slices_Clone_clauses_Clause_lits_Lit (a0 : Sl) (K : Sl → HP) (h : Heap) : fnVC Try.prog [(1000000, .nil)] 8 Try.f39 [(.slice a0.a a0.len a0.cap)] .sl K h = F_slices_Clone_clauses_Clause_lits_Lit a0 K h := by kernel_rfl
set_option maxRecDepth 100000 in
theorem S_slices_Clone_clauses_Clause_lits_Lit{h : Heap} {a0 : Sl} (K : Sl → HP) (hF : F_slices_Clone_clauses_Clause_lits_Lit a0 K h) : CallsH Try.prog fn_slices_Clone_clauses_Clause_lits_Lit #[(.slice a0.a a0.len a0.cap)] h fun v h' => ∃ x : Sl, v = Ty.enc .sl x ∧ K x h' :=
  callsH_of_fn (P := Try.prog) (fn := Try.f39) (τ := .sl) follows Try.func39 (by kernel_rfl) (by kernel_rfl) Try.call39 (Eq.mpr (E_slices_Clone_clauses_Clause_lits_Lit a0 K h) hF)


/-- salvor/clauses.wrong -/
def F_clauses_wrong (a0 : Int) (K : Bool → HP) : HP :=
 callT Try.prog fn_lits_Right #[(.int .i64 a0)] .bool fun r0 =>
 K (!r0)
set_option maxRecDepth 100000 in
theorem E_clauses_wrong (a0 : Int) (K : Bool → HP) (h : Heap) : fnVC Try.prog [(1000000, .nil)] 6 Try.f40 [(.int .i64 a0)] .bool K h = F_clauses_wrong a0 K h := by kernel_rfl
set_option maxRecDepth 100000 in
theorem S_clauses_wrong{h : Heap} {a0 : Int} (K : Bool → HP) (hF : F_clauses_wrong a0 K h) : CallsH Try.prog fn_clauses_wrong #[(.int .i64 a0)] h fun v h' => ∃ x : Bool, v = Ty.enc .bool x ∧ K x h' :=
  callsH_of_fn (P := Try.prog) (fn := Try.f40) (τ := .bool) follows Try.func40 (by kernel_rfl) (by kernel_rfl) Try.call40 (Eq.mpr (E_clauses_wrong a0 K h) hF)


/-- salvor/lits.Neg -/
def F_lits_Neg (a0 : Int) (K : Int → HP) : HP :=
 callT Try.prog fn_lits_Right #[(.int .i64 a0)] .bool fun r0 =>
 brB (!r0)
 (K (0 : Int))
 (K (IntKind.wrap .i64 (0 - a0)))
set_option maxRecDepth 100000 in
theorem E_lits_Neg (a0 : Int) (K : Int → HP) (h : Heap) : fnVC Try.prog [(1000000, .nil)] 8 Try.f41 [(.int .i64 a0)] (.int .i64) K h = F_lits_Neg a0 K h := by kernel_rfl
set_option maxRecDepth 100000 in
theorem S_lits_Neg{h : Heap} {a0 : Int} (K : Int → HP) (hF : F_lits_Neg a0 K h) : CallsH Try.prog fn_lits_Neg #[(.int .i64 a0)] h fun v h' => ∃ x : Int, v = Ty.enc (.int .i64) x ∧ K x h' :=
  callsH_of_fn (P := Try.prog) (fn := Try.f41) (τ := (.int .i64)) follows Try.func41 (by kernel_rfl) (by kernel_rfl) Try.call41 (Eq.mpr (E_lits_Neg a0 K h) hF)


/-- salvor/clauses.normal -/
def F_clauses_normal (a0 : Sl) (K : Sl → HP) : HP := fun h0 => (
 nw #[(.slice none 0 0)] ty_clauses_Clause fun b0 =>
 callT Try.prog fn_clauses_sorted #[(.slice a0.a a0.len a0.cap)] .val fun r1 =>
 RangeVC Try.prog (.cons (.int .i64) .nil) r1 (fun x2 wrap3 next4 jump5 =>
 wrap3 <|
 ldT .sl (⟨b0, 0, none⟩ : Addr) fun x6 =>
 nw #[(.int .i64 x2.1)] ty_lits_Lit fun b7 =>
 apd ty_lits_Lit 1 8 #[(.int .i64 (0 : Int))] ⟨x6.a, x6.len, x6.cap⟩ ⟨(some (⟨b7, 0, none⟩ : Addr)), 1, 1⟩ fun s8 =>
 st1 (⟨b0, 0, none⟩ : Addr) (.slice s8.a s8.len s8.cap) <|
 next4)
 (ldT .sl (⟨b0, 0, none⟩ : Addr) fun x9 =>
 mkd h0.size <|
 K ⟨x9.a, x9.len, x9.cap⟩)
 (mkd h0.size <|
 K ⟨none, 0, 0⟩)
 []
 []) h0
set_option maxRecDepth 100000 in
theorem E_clauses_normal (a0 : Sl) (K : Sl → HP) (h : Heap) : fnVC Try.prog [(1000000, .nil), (7, (.cons (.int .i64) .nil))] 13 Try.f42 [(.slice a0.a a0.len a0.cap)] .sl K h = F_clauses_normal a0 K h := by kernel_rfl
set_option maxRecDepth 100000 in
theorem S_clauses_normal{h : Heap} {a0 : Sl} (K : Sl → HP) (hF : F_clauses_normal a0 K h) : CallsH Try.prog fn_clauses_normal #[(.slice a0.a a0.len a0.cap)] h fun v h' => ∃ x : Sl, v = Ty.enc .sl x ∧ K x h' :=
  callsH_of_fn (P := Try.prog) (fn := Try.f42) (τ := .sl) follows Try.func42 (by kernel_rfl) (by kernel_rfl) Try.call42 (Eq.mpr (E_clauses_normal a0 K h) hF)


/-- salvor/clauses.Clashes$1 -/
def F_clauses_Clashes_1 (a0 : Int) (c0 : Addr) (K : Bool → HP) : HP :=
 ldT .sl c0 fun x0 =>
 callT Try.prog fn_lits_Neg #[(.int .i64 a0)] (.int .i64) fun r1 =>
 ck c0 (.slice x0.a x0.len x0.cap) <|
 callT Try.prog fn_slices_BinarySearchFunc_clauses_Clause_lits_Lit_lits_Lit #[(.slice x0.a x0.len x0.cap), (.int .i64 r1), (.func (.func fn_lits_Compare) #[] #[])] (.tup (.cons (.int .i64) (.cons .bool .nil))) fun r2 =>
 K r2.2.1
set_option maxRecDepth 100000 in
theorem E_clauses_Clashes_1 (a0 : Int) (c0 : Addr) (K : Bool → HP) (h : Heap) : fnVC Try.prog [(1000000, .nil)] 14 Try.f43 [(.int .i64 a0), (.pointer (some c0))] .bool K h = F_clauses_Clashes_1 a0 c0 K h := by kernel_rfl
set_option maxRecDepth 100000 in
theorem S_clauses_Clashes_1{h : Heap} {a0 : Int} {c0 : Addr} (K : Bool → HP) (hF : F_clauses_Clashes_1 a0 c0 K h) : CallsH Try.prog fn_clauses_Clashes_1 #[(.int .i64 a0), (.pointer (some c0))] h fun v h' => ∃ x : Bool, v = Ty.enc .bool x ∧ K x h' :=
  callsH_of_fn (P := Try.prog) (fn := Try.f43) (τ := .bool) follows Try.func43 (by kernel_rfl) (by kernel_rfl) Try.call43 (Eq.mpr (E_clauses_Clashes_1 a0 c0 K h) hF)


/-- slices.BinarySearchFunc[salvor/clauses.Clause,salvor/lits.Lit,salvor/lits.Lit] -/
def F_slices_BinarySearchFunc_clauses_Clause_lits_Lit_lits_Lit (a0 : Sl) (a1 : Int) (a2 : Value) (K : (Int × (Bool × Unit)) → HP) : HP :=
 lfp (σ := (Int × (Int × Unit))) (fun X0 s1 => /- j i -/
 brB (decide (s1.2.1 < s1.1))
 (ge0 (1 : Int) <|
 sx a0.a a0.len (IntKind.wrap .i64 (Int.fdiv (IntKind.wrap .u64 (IntKind.wrap .i64 (s1.2.1 + s1.1))) (2 ^ (min ((1 : Int)).toNat 64)))) 1 fun p2 =>
 ldT (.int .i64) p2 fun x3 =>
 callF Try.prog a2 #[(.int .i64 x3), (.int .i64 a1)] (.int .i64) fun r4 =>
 jn (σ := (Int × (Int × Unit))) (fun s6 => /- j i -/
 X0 (s6.1, s6.2.1, ()))
 (fun J5 =>
 brB (decide (r4 < (0 : Int)))
 (J5 (s1.1, (IntKind.wrap .i64 ((IntKind.wrap .i64 (Int.fdiv (IntKind.wrap .u64 (IntKind.wrap .i64 (s1.2.1 + s1.1))) (2 ^ (min ((1 : Int)).toNat 64)))) + (1 : Int))), ()))
 (J5 ((IntKind.wrap .i64 (Int.fdiv (IntKind.wrap .u64 (IntKind.wrap .i64 (s1.2.1 + s1.1))) (2 ^ (min ((1 : Int)).toNat 64)))), s1.2.1, ()))))
 (brB (decide (s1.2.1 < (a0.len : Int)))
 (sx a0.a a0.len s1.2.1 1 fun p7 =>
 ldT (.int .i64) p7 fun x8 =>
 callF Try.prog a2 #[(.int .i64 x8), (.int .i64 a1)] (.int .i64) fun r9 =>
 K (s1.2.1, (r9 == (0 : Int)), ()))
 (K (s1.2.1, false, ()))))
 ((a0.len : Int), (0 : Int), ())
set_option maxRecDepth 100000 in
theorem E_slices_BinarySearchFunc_clauses_Clause_lits_Lit_lits_Lit (a0 : Sl) (a1 : Int) (a2 : Value) (K : (Int × (Bool × Unit)) → HP) (h : Heap) : fnVC Try.prog [(1000000, .nil)] 49 Try.f44 [(.slice a0.a a0.len a0.cap), (.int .i64 a1), a2] (.tup (.cons (.int .i64) (.cons .bool .nil))) K h = F_slices_BinarySearchFunc_clauses_Clause_lits_Lit_lits_Lit a0 a1 a2 K h := by kernel_rfl
set_option maxRecDepth 100000 in
theorem S_slices_BinarySearchFunc_clauses_Clause_lits_Lit_lits_Lit{h : Heap} {a0 : Sl} {a1 : Int} {a2 : Value} (K : (Int × (Bool × Unit)) → HP) (hF : F_slices_BinarySearchFunc_clauses_Clause_lits_Lit_lits_Lit a0 a1 a2 K h) : CallsH Try.prog fn_slices_BinarySearchFunc_clauses_Clause_lits_Lit_lits_Lit #[(.slice a0.a a0.len a0.cap), (.int .i64 a1), a2] h fun v h' => ∃ x : (Int × (Bool × Unit)), v = Ty.enc (.tup (.cons (.int .i64) (.cons .bool .nil))) x ∧ K x h' :=
  callsH_of_fn (P := Try.prog) (fn := Try.f44) (τ := (.tup (.cons (.int .i64) (.cons .bool .nil)))) follows Try.func44 (by kernel_rfl) (by kernel_rfl) Try.call44 (Eq.mpr (E_slices_BinarySearchFunc_clauses_Clause_lits_Lit_lits_Lit a0 a1 a2 K h) hF)


/-- salvor/clauses.sorted -/
def F_clauses_sorted (a0 : Sl) (K : Value → HP) : HP :=
 nw #[(.slice a0.a a0.len a0.cap)] ty_clauses_Clause fun b0 =>
 K (.func (.func fn_clauses_sorted_1) #[] #[(.pointer (some (⟨b0, 0, none⟩ : Addr)))])
set_option maxRecDepth 100000 in
theorem E_clauses_sorted (a0 : Sl) (K : Value → HP) (h : Heap) : fnVC Try.prog [(1000000, .nil)] 4 Try.f45 [(.slice a0.a a0.len a0.cap)] .val K h = F_clauses_sorted a0 K h := by kernel_rfl
set_option maxRecDepth 100000 in
theorem S_clauses_sorted{h : Heap} {a0 : Sl} (K : Value → HP) (hF : F_clauses_sorted a0 K h) : CallsH Try.prog fn_clauses_sorted #[(.slice a0.a a0.len a0.cap)] h fun v h' => ∃ x : Value, v = Ty.enc .val x ∧ K x h' :=
  callsH_of_fn (P := Try.prog) (fn := Try.f45) (τ := .val) follows Try.func45 (by kernel_rfl) (by kernel_rfl) Try.call45 (Eq.mpr (E_clauses_sorted a0 K h) hF)


/-- slices.Index[[]salvor/lits.Lit,salvor/lits.Lit] -/
def F_slices_Index_lits_Lit_lits_Lit (a0 : Sl) (a1 : Int) (K : Int → HP) : HP :=
 lfp (σ := (Int × (Int × Unit))) (fun X0 s1 => /-   -/
 brB (decide (s1.1 < (a0.len : Int)))
 (sx a0.a a0.len s1.1 1 fun p2 =>
 ldT (.int .i64) p2 fun x3 =>
 brB (a1 == x3)
 (K s1.1)
 (X0 ((IntKind.wrap .i64 (s1.1 + (1 : Int))), s1.2.1, ())))
 (K (-1 : Int)))
 ((0 : Int), (0 : Int), ())
set_option maxRecDepth 100000 in
theorem E_slices_Index_lits_Lit_lits_Lit (a0 : Sl) (a1 : Int) (K : Int → HP) (h : Heap) : fnVC Try.prog [(1000000, .nil)] 19 Try.f46 [(.slice a0.a a0.len a0.cap), (.int .i64 a1)] (.int .i64) K h = F_slices_Index_lits_Lit_lits_Lit a0 a1 K h := by kernel_rfl
set_option maxRecDepth 100000 in
theorem S_slices_Index_lits_Lit_lits_Lit{h : Heap} {a0 : Sl} {a1 : Int} (K : Int → HP) (hF : F_slices_Index_lits_Lit_lits_Lit a0 a1 K h) : CallsH Try.prog fn_slices_Index_lits_Lit_lits_Lit #[(.slice a0.a a0.len a0.cap), (.int .i64 a1)] h fun v h' => ∃ x : Int, v = Ty.enc (.int .i64) x ∧ K x h' :=
  callsH_of_fn (P := Try.prog) (fn := Try.f46) (τ := (.int .i64)) follows Try.func46 (by kernel_rfl) (by kernel_rfl) Try.call46 (Eq.mpr (E_slices_Index_lits_Lit_lits_Lit a0 a1 K h) hF)


/-- slices.DeleteFunc[salvor/clauses.Clause,salvor/lits.Lit] -/
def F_slices_DeleteFunc_clauses_Clause_lits_Lit (a0 : Sl) (a1 : Value) (K : Sl → HP) : HP :=
 callT Try.prog fn_slices_IndexFunc_clauses_Clause_lits_Lit #[(.slice a0.a a0.len a0.cap), a1] (.int .i64) fun r0 =>
 brB (r0 == (-1 : Int))
 (K ⟨a0.a, a0.len, a0.cap⟩)
 (lfp (σ := (Int × (Int × Unit))) (fun X1 s2 => /- j i -/
 brB (decide (s2.1 < (a0.len : Int)))
 (sx a0.a a0.len s2.1 1 fun p3 =>
 ldT (.int .i64) p3 fun x4 =>
 callF Try.prog a1 #[(.int .i64 x4)] .bool fun r5 =>
 jn (σ := (Int × Unit)) (fun s7 => /- i -/
 X1 ((IntKind.wrap .i64 (s2.1 + (1 : Int))), s7.1, ()))
 (fun J6 =>
 brB (!r5)
 (sx a0.a a0.len s2.2.1 1 fun p8 =>
 st1 p8 (.int .i64 x4) <|
 J6 ((IntKind.wrap .i64 (s2.2.1 + (1 : Int))), ()))
 (J6 (s2.2.1, ()))))
 (slL ⟨a0.a, a0.len, a0.cap⟩ s2.2.1 1 fun s9 =>
 clr #[(.int .i64 (0 : Int))] ⟨s9.a, s9.len, s9.cap⟩ <|
 slH ⟨a0.a, a0.len, a0.cap⟩ s2.2.1 1 fun s10 =>
 K ⟨s10.a, s10.len, s10.cap⟩))
 ((IntKind.wrap .i64 (r0 + (1 : Int))), r0, ()))
set_option maxRecDepth 100000 in
theorem E_slices_DeleteFunc_clauses_Clause_lits_Lit (a0 : Sl) (a1 : Value) (K : Sl → HP) (h : Heap) : fnVC Try.prog [(1000000, .nil)] 42 Try.f47 [(.slice a0.a a0.len a0.cap), a1] .sl K h = F_slices_DeleteFunc_clauses_Clause_lits_Lit a0 a1 K h := by kernel_rfl
set_option maxRecDepth 100000 in
theorem S_slices_DeleteFunc_clauses_Clause_lits_Lit{h : Heap} {a0 : Sl} {a1 : Value} (K : Sl → HP) (hF : F_slices_DeleteFunc_clauses_Clause_lits_Lit a0 a1 K h) : CallsH Try.prog fn_slices_DeleteFunc_clauses_Clause_lits_Lit #[(.slice a0.a a0.len a0.cap), a1] h fun v h' => ∃ x : Sl, v = Ty.enc .sl x ∧ K x h' :=
  callsH_of_fn (P := Try.prog) (fn := Try.f47) (τ := .sl) follows Try.func47 (by kernel_rfl) (by kernel_rfl) Try.call47 (Eq.mpr (E_slices_DeleteFunc_clauses_Clause_lits_Lit a0 a1 K h) hF)


/-- salvor/clauses.Without$1 -/
def F_clauses_Without_1 (a0 : Int) (c0 : Addr) (K : Bool → HP) : HP :=
 ldT (.int .i64) c0 fun x0 =>
 K (a0 == x0)
set_option maxRecDepth 100000 in
theorem E_clauses_Without_1 (a0 : Int) (c0 : Addr) (K : Bool → HP) (h : Heap) : fnVC Try.prog [(1000000, .nil)] 7 Try.f48 [(.int .i64 a0), (.pointer (some c0))] .bool K h = F_clauses_Without_1 a0 c0 K h := by kernel_rfl
set_option maxRecDepth 100000 in
theorem S_clauses_Without_1{h : Heap} {a0 : Int} {c0 : Addr} (K : Bool → HP) (hF : F_clauses_Without_1 a0 c0 K h) : CallsH Try.prog fn_clauses_Without_1 #[(.int .i64 a0), (.pointer (some c0))] h fun v h' => ∃ x : Bool, v = Ty.enc .bool x ∧ K x h' :=
  callsH_of_fn (P := Try.prog) (fn := Try.f48) (τ := .bool) follows Try.func48 (by kernel_rfl) (by kernel_rfl) Try.call48 (Eq.mpr (E_clauses_Without_1 a0 c0 K h) hF)


/-- slices.Equal[[]salvor/lits.Lit,salvor/lits.Lit] -/
def F_slices_Equal_lits_Lit_lits_Lit (a0 : Sl) (a1 : Sl) (K : Bool → HP) : HP :=
 brB ((a0.len : Int) != (a1.len : Int))
 (K false)
 (lfp (σ := (Int × (Bool × Unit))) (fun X0 s1 => /-   -/
 brB (decide (s1.1 < (a0.len : Int)))
 (sx a0.a a0.len s1.1 1 fun p2 =>
 ldT (.int .i64) p2 fun x3 =>
 sx a1.a a1.len s1.1 1 fun p4 =>
 ldT (.int .i64) p4 fun x5 =>
 brB (x3 != x5)
 (K false)
 (X0 ((IntKind.wrap .i64 (s1.1 + (1 : Int))), s1.2.1, ())))
 (K true))
 ((0 : Int), false, ()))
set_option maxRecDepth 100000 in
theorem E_slices_Equal_lits_Lit_lits_Lit (a0 : Sl) (a1 : Sl) (K : Bool → HP) (h : Heap) : fnVC Try.prog [(1000000, .nil)] 26 Try.f49 [(.slice a0.a a0.len a0.cap), (.slice a1.a a1.len a1.cap)] .bool K h = F_slices_Equal_lits_Lit_lits_Lit a0 a1 K h := by kernel_rfl
set_option maxRecDepth 100000 in
theorem S_slices_Equal_lits_Lit_lits_Lit{h : Heap} {a0 : Sl} {a1 : Sl} (K : Bool → HP) (hF : F_slices_Equal_lits_Lit_lits_Lit a0 a1 K h) : CallsH Try.prog fn_slices_Equal_lits_Lit_lits_Lit #[(.slice a0.a a0.len a0.cap), (.slice a1.a a1.len a1.cap)] h fun v h' => ∃ x : Bool, v = Ty.enc .bool x ∧ K x h' :=
  callsH_of_fn (P := Try.prog) (fn := Try.f49) (τ := .bool) follows Try.func49 (by kernel_rfl) (by kernel_rfl) Try.call49 (Eq.mpr (E_slices_Equal_lits_Lit_lits_Lit a0 a1 K h) hF)


/-- salvor/salvorref02.Right -/
def F_salvorref02_Right (a0 : Sl) (K : Bool → HP) : HP :=
 brB (decide ((a0.len : Int) > (4096 : Int)))
 (K false)
 (lfp (σ := (Int × (Bool × Unit))) (fun X0 s1 => /- i  -/
 brB (decide (s1.1 < (a0.len : Int)))
 (sx a0.a a0.len s1.1 1 fun p2 =>
 ldT (.int .i64) p2 fun x3 =>
 callT Try.prog fn_salvorref01_Right #[(.int .i64 x3)] .bool fun r4 =>
 brB (!r4)
 (K false)
 (X0 ((IntKind.wrap .i64 (s1.1 + (1 : Int))), s1.2.1, ())))
 (K true))
 ((0 : Int), false, ()))
set_option maxRecDepth 100000 in
theorem E_salvorref02_Right (a0 : Sl) (K : Bool → HP) (h : Heap) : fnVC Try.prog [(1000000, .nil)] 19 Try.f50 [(.slice a0.a a0.len a0.cap)] .bool K h = F_salvorref02_Right a0 K h := by kernel_rfl
set_option maxRecDepth 100000 in
theorem S_salvorref02_Right{h : Heap} {a0 : Sl} (K : Bool → HP) (hF : F_salvorref02_Right a0 K h) : CallsH Try.prog fn_salvorref02_Right #[(.slice a0.a a0.len a0.cap)] h fun v h' => ∃ x : Bool, v = Ty.enc .bool x ∧ K x h' :=
  callsH_of_fn (P := Try.prog) (fn := Try.f50) (τ := .bool) follows Try.func50 (by kernel_rfl) (by kernel_rfl) Try.call50 (Eq.mpr (E_salvorref02_Right a0 K h) hF)


/-- salvor/salvorref02.Has -/
def F_salvorref02_Has (a0 : Sl) (a1 : Int) (K : Bool → HP) : HP :=
 lfp (σ := (Int × (Bool × Unit))) (fun X0 s1 => /- i  -/
 brB (decide (s1.1 < (a0.len : Int)))
 (sx a0.a a0.len s1.1 1 fun p2 =>
 ldT (.int .i64) p2 fun x3 =>
 brB (x3 == a1)
 (K true)
 (X0 ((IntKind.wrap .i64 (s1.1 + (1 : Int))), s1.2.1, ())))
 (K false))
 ((0 : Int), false, ())
set_option maxRecDepth 100000 in
theorem E_salvorref02_Has (a0 : Sl) (a1 : Int) (K : Bool → HP) (h : Heap) : fnVC Try.prog [(1000000, .nil)] 18 Try.f51 [(.slice a0.a a0.len a0.cap), (.int .i64 a1)] .bool K h = F_salvorref02_Has a0 a1 K h := by kernel_rfl
set_option maxRecDepth 100000 in
theorem S_salvorref02_Has{h : Heap} {a0 : Sl} {a1 : Int} (K : Bool → HP) (hF : F_salvorref02_Has a0 a1 K h) : CallsH Try.prog fn_salvorref02_Has #[(.slice a0.a a0.len a0.cap), (.int .i64 a1)] h fun v h' => ∃ x : Bool, v = Ty.enc .bool x ∧ K x h' :=
  callsH_of_fn (P := Try.prog) (fn := Try.f51) (τ := .bool) follows Try.func51 (by kernel_rfl) (by kernel_rfl) Try.call51 (Eq.mpr (E_salvorref02_Has a0 a1 K h) hF)


/-- salvor/salvorref02.Always -/
def F_salvorref02_Always (a0 : Sl) (K : Bool → HP) : HP :=
 lfp (σ := (Int × (Bool × Unit))) (fun X0 s1 => /- i  -/
 brB (decide (s1.1 < (a0.len : Int)))
 (sx a0.a a0.len s1.1 1 fun p2 =>
 ldT (.int .i64) p2 fun x3 =>
 callT Try.prog fn_salvorref02_Has #[(.slice a0.a a0.len a0.cap), (.int .i64 (IntKind.wrap .i64 (0 - x3)))] .bool fun r4 =>
 brB r4
 (K true)
 (X0 ((IntKind.wrap .i64 (s1.1 + (1 : Int))), s1.2.1, ())))
 (K false))
 ((0 : Int), false, ())
set_option maxRecDepth 100000 in
theorem E_salvorref02_Always (a0 : Sl) (K : Bool → HP) (h : Heap) : fnVC Try.prog [(1000000, .nil)] 17 Try.f52 [(.slice a0.a a0.len a0.cap)] .bool K h = F_salvorref02_Always a0 K h := by kernel_rfl
set_option maxRecDepth 100000 in
theorem S_salvorref02_Always{h : Heap} {a0 : Sl} (K : Bool → HP) (hF : F_salvorref02_Always a0 K h) : CallsH Try.prog fn_salvorref02_Always #[(.slice a0.a a0.len a0.cap)] h fun v h' => ∃ x : Bool, v = Ty.enc .bool x ∧ K x h' :=
  callsH_of_fn (P := Try.prog) (fn := Try.f52) (τ := .bool) follows Try.func52 (by kernel_rfl) (by kernel_rfl) Try.call52 (Eq.mpr (E_salvorref02_Always a0 K h) hF)


/-- salvor/salvorref02.Holds -/
def F_salvorref02_Holds (a0 : Sl) (a1 : Sl) (K : Bool → HP) : HP :=
 lfp (σ := (Int × (Bool × Unit))) (fun X0 s1 => /- i  -/
 brB (decide (s1.1 < (a1.len : Int)))
 (sx a1.a a1.len s1.1 1 fun p2 =>
 ldT (.int .i64) p2 fun x3 =>
 callT Try.prog fn_salvorref02_Has #[(.slice a0.a a0.len a0.cap), (.int .i64 x3)] .bool fun r4 =>
 brB r4
 (K true)
 (X0 ((IntKind.wrap .i64 (s1.1 + (1 : Int))), s1.2.1, ())))
 (K false))
 ((0 : Int), false, ())
set_option maxRecDepth 100000 in
theorem E_salvorref02_Holds (a0 : Sl) (a1 : Sl) (K : Bool → HP) (h : Heap) : fnVC Try.prog [(1000000, .nil)] 18 Try.f53 [(.slice a0.a a0.len a0.cap), (.slice a1.a a1.len a1.cap)] .bool K h = F_salvorref02_Holds a0 a1 K h := by kernel_rfl
set_option maxRecDepth 100000 in
theorem S_salvorref02_Holds{h : Heap} {a0 : Sl} {a1 : Sl} (K : Bool → HP) (hF : F_salvorref02_Holds a0 a1 K h) : CallsH Try.prog fn_salvorref02_Holds #[(.slice a0.a a0.len a0.cap), (.slice a1.a a1.len a1.cap)] h fun v h' => ∃ x : Bool, v = Ty.enc .bool x ∧ K x h' :=
  callsH_of_fn (P := Try.prog) (fn := Try.f53) (τ := .bool) follows Try.func53 (by kernel_rfl) (by kernel_rfl) Try.call53 (Eq.mpr (E_salvorref02_Holds a0 a1 K h) hF)


/-- slices.Equal[[]int,int] -/
def F_slices_Equal_int_int (a0 : Sl) (a1 : Sl) (K : Bool → HP) : HP :=
 brB ((a0.len : Int) != (a1.len : Int))
 (K false)
 (lfp (σ := (Int × (Bool × Unit))) (fun X0 s1 => /-   -/
 brB (decide (s1.1 < (a0.len : Int)))
 (sx a0.a a0.len s1.1 1 fun p2 =>
 ldT (.int .i64) p2 fun x3 =>
 sx a1.a a1.len s1.1 1 fun p4 =>
 ldT (.int .i64) p4 fun x5 =>
 brB (x3 != x5)
 (K false)
 (X0 ((IntKind.wrap .i64 (s1.1 + (1 : Int))), s1.2.1, ())))
 (K true))
 ((0 : Int), false, ()))
set_option maxRecDepth 100000 in
theorem E_slices_Equal_int_int (a0 : Sl) (a1 : Sl) (K : Bool → HP) (h : Heap) : fnVC Try.prog [(1000000, .nil)] 26 Try.f54 [(.slice a0.a a0.len a0.cap), (.slice a1.a a1.len a1.cap)] .bool K h = F_slices_Equal_int_int a0 a1 K h := by kernel_rfl
set_option maxRecDepth 100000 in
theorem S_slices_Equal_int_int{h : Heap} {a0 : Sl} {a1 : Sl} (K : Bool → HP) (hF : F_slices_Equal_int_int a0 a1 K h) : CallsH Try.prog fn_slices_Equal_int_int #[(.slice a0.a a0.len a0.cap), (.slice a1.a a1.len a1.cap)] h fun v h' => ∃ x : Bool, v = Ty.enc .bool x ∧ K x h' :=
  callsH_of_fn (P := Try.prog) (fn := Try.f54) (τ := .bool) follows Try.func54 (by kernel_rfl) (by kernel_rfl) Try.call54 (Eq.mpr (E_slices_Equal_int_int a0 a1 K h) hF)


/-- salvor/salvorlaw02.Ints -/
def F_salvorlaw02_Ints (a0 : Sl) (K : Sl → HP) : HP :=
 lfp (σ := (Int × (Sl × Unit))) (fun X0 s1 => /-  out -/
 brB (decide (s1.1 < (a0.len : Int)))
 (sx a0.a a0.len s1.1 1 fun p2 =>
 ldT (.int .i64) p2 fun x3 =>
 nw #[(.int .i64 x3)] ty_int fun b4 =>
 apd ty_int 1 8 #[(.int .i64 (0 : Int))] ⟨s1.2.1.a, s1.2.1.len, s1.2.1.cap⟩ ⟨(some (⟨b4, 0, none⟩ : Addr)), 1, 1⟩ fun s5 =>
 X0 ((IntKind.wrap .i64 (s1.1 + (1 : Int))), ⟨s5.a, s5.len, s5.cap⟩, ()))
 (K ⟨s1.2.1.a, s1.2.1.len, s1.2.1.cap⟩))
 ((0 : Int), ⟨none, 0, 0⟩, ())
set_option maxRecDepth 100000 in
theorem E_salvorlaw02_Ints (a0 : Sl) (K : Sl → HP) (h : Heap) : fnVC Try.prog [(1000000, .nil)] 18 Try.f55 [(.slice a0.a a0.len a0.cap)] .sl K h = F_salvorlaw02_Ints a0 K h := by kernel_rfl
set_option maxRecDepth 100000 in
theorem S_salvorlaw02_Ints{h : Heap} {a0 : Sl} (K : Sl → HP) (hF : F_salvorlaw02_Ints a0 K h) : CallsH Try.prog fn_salvorlaw02_Ints #[(.slice a0.a a0.len a0.cap)] h fun v h' => ∃ x : Sl, v = Ty.enc .sl x ∧ K x h' :=
  callsH_of_fn (P := Try.prog) (fn := Try.f55) (τ := .sl) follows Try.func55 (by kernel_rfl) (by kernel_rfl) Try.call55 (Eq.mpr (E_salvorlaw02_Ints a0 K h) hF)


/-- salvor/salvorref02.Without -/
def F_salvorref02_Without (a0 : Sl) (a1 : Int) (K : (Sl × (Int × Unit)) → HP) : HP :=
 callT Try.prog fn_salvorref01_Right #[(.int .i64 a1)] .bool fun r0 =>
 brB (!r0)
 (K (⟨none, 0, 0⟩, (10 : Int), ()))
 (lfp (σ := (Int × (Sl × Unit))) (fun X1 s2 => /- i out -/
 brB (decide (s2.1 < (a0.len : Int)))
 (sx a0.a a0.len s2.1 1 fun p3 =>
 ldT (.int .i64) p3 fun x4 =>
 jn (σ := (Sl × Unit)) (fun s6 => /- out -/
 X1 ((IntKind.wrap .i64 (s2.1 + (1 : Int))), ⟨s6.1.a, s6.1.len, s6.1.cap⟩, ()))
 (fun J5 =>
 brB (x4 != a1)
 (sx a0.a a0.len s2.1 1 fun p7 =>
 ldT (.int .i64) p7 fun x8 =>
 nw #[(.int .i64 x8)] ty_int fun b9 =>
 apd ty_int 1 8 #[(.int .i64 (0 : Int))] ⟨s2.2.1.a, s2.2.1.len, s2.2.1.cap⟩ ⟨(some (⟨b9, 0, none⟩ : Addr)), 1, 1⟩ fun s10 =>
 J5 (⟨s10.a, s10.len, s10.cap⟩, ()))
 (J5 (⟨s2.2.1.a, s2.2.1.len, s2.2.1.cap⟩, ()))))
 (callT Try.prog fn_salvorref02_Norm #[(.slice s2.2.1.a s2.2.1.len s2.2.1.cap)] .sl fun r11 =>
 K (⟨r11.a, r11.len, r11.cap⟩, (0 : Int), ())))
 ((0 : Int), ⟨none, 0, 0⟩, ()))
set_option maxRecDepth 100000 in
theorem E_salvorref02_Without (a0 : Sl) (a1 : Int) (K : (Sl × (Int × Unit)) → HP) (h : Heap) : fnVC Try.prog [(1000000, .nil)] 32 Try.f56 [(.slice a0.a a0.len a0.cap), (.int .i64 a1)] (.tup (.cons .sl (.cons (.int .i64) .nil))) K h = F_salvorref02_Without a0 a1 K h := by kernel_rfl
set_option maxRecDepth 100000 in
theorem S_salvorref02_Without{h : Heap} {a0 : Sl} {a1 : Int} (K : (Sl × (Int × Unit)) → HP) (hF : F_salvorref02_Without a0 a1 K h) : CallsH Try.prog fn_salvorref02_Without #[(.slice a0.a a0.len a0.cap), (.int .i64 a1)] h fun v h' => ∃ x : (Sl × (Int × Unit)), v = Ty.enc (.tup (.cons .sl (.cons (.int .i64) .nil))) x ∧ K x h' :=
  callsH_of_fn (P := Try.prog) (fn := Try.f56) (τ := (.tup (.cons .sl (.cons (.int .i64) .nil)))) follows Try.func56 (by kernel_rfl) (by kernel_rfl) Try.call56 (Eq.mpr (E_salvorref02_Without a0 a1 K h) hF)


/-- salvor/salvorref02.Norm -/
def F_salvorref02_Norm (a0 : Sl) (K : Sl → HP) : HP :=
 lfp (σ := (Int × (Sl × (Sl × Unit)))) (fun X0 s1 => /- last out  -/
 lfp (σ := (Int × (Int × Unit))) (fun X2 s3 => /- i best -/
 brB (decide (s3.1 < (a0.len : Int)))
 (sx a0.a a0.len s3.1 1 fun p4 =>
 ldT (.int .i64) p4 fun x5 =>
 callT Try.prog fn_salvorref01_Index #[(.int .i64 x5)] (.int .i64) fun r6 =>
 brB (decide (r6 > s1.1))
 (brB (decide (s3.2.1 < (0 : Int)))
 (jn (σ := (Int × Unit)) (fun s8 => /- best -/
 X2 ((IntKind.wrap .i64 (s3.1 + (1 : Int))), s8.1, ()))
 (fun J7 =>
 J7 (r6, ())))
 (jn (σ := (Int × Unit)) (fun s10 => /- best -/
 X2 ((IntKind.wrap .i64 (s3.1 + (1 : Int))), s10.1, ()))
 (fun J9 =>
 brB (decide (r6 < s3.2.1))
 (J9 (r6, ()))
 (J9 (s3.2.1, ())))))
 (jn (σ := (Int × Unit)) (fun s12 => /- best -/
 X2 ((IntKind.wrap .i64 (s3.1 + (1 : Int))), s12.1, ()))
 (fun J11 =>
 J11 (s3.2.1, ()))))
 (brB (decide (s3.2.1 < (0 : Int)))
 (K ⟨s1.2.1.a, s1.2.1.len, s1.2.1.cap⟩)
 (callT Try.prog fn_salvorref01_At #[(.int .i64 s3.2.1)] (.int .i64) fun r13 =>
 nw #[(.int .i64 r13)] ty_int fun b14 =>
 apd ty_int 1 8 #[(.int .i64 (0 : Int))] ⟨s1.2.1.a, s1.2.1.len, s1.2.1.cap⟩ ⟨(some (⟨b14, 0, none⟩ : Addr)), 1, 1⟩ fun s15 =>
 X0 (s3.2.1, ⟨s15.a, s15.len, s15.cap⟩, ⟨s1.2.2.1.a, s1.2.2.1.len, s1.2.2.1.cap⟩, ()))))
 ((0 : Int), (-1 : Int), ()))
 ((-1 : Int), ⟨none, 0, 0⟩, ⟨none, 0, 0⟩, ())
set_option maxRecDepth 100000 in
theorem E_salvorref02_Norm (a0 : Sl) (K : Sl → HP) (h : Heap) : fnVC Try.prog [(1000000, .nil)] 41 Try.f57 [(.slice a0.a a0.len a0.cap)] .sl K h = F_salvorref02_Norm a0 K h := by kernel_rfl
set_option maxRecDepth 100000 in
theorem S_salvorref02_Norm{h : Heap} {a0 : Sl} (K : Sl → HP) (hF : F_salvorref02_Norm a0 K h) : CallsH Try.prog fn_salvorref02_Norm #[(.slice a0.a a0.len a0.cap)] h fun v h' => ∃ x : Sl, v = Ty.enc .sl x ∧ K x h' :=
  callsH_of_fn (P := Try.prog) (fn := Try.f57) (τ := .sl) follows Try.func57 (by kernel_rfl) (by kernel_rfl) Try.call57 (Eq.mpr (E_salvorref02_Norm a0 K h) hF)


/-- salvor/salvorref02.Union -/
def F_salvorref02_Union (a0 : Sl) (a1 : Sl) (K : (Sl × (Int × Unit)) → HP) : HP :=
 nw #[] ty_int fun b0 =>
 apd ty_int 1 8 #[(.int .i64 (0 : Int))] ⟨(some (⟨b0, 0, none⟩ : Addr)), 0, 0⟩ ⟨a0.a, a0.len, a0.cap⟩ fun s1 =>
 apd ty_int 1 8 #[(.int .i64 (0 : Int))] ⟨s1.a, s1.len, s1.cap⟩ ⟨a1.a, a1.len, a1.cap⟩ fun s2 =>
 callT Try.prog fn_salvorref02_Norm #[(.slice s2.a s2.len s2.cap)] .sl fun r3 =>
 brB (decide ((r3.len : Int) > (4096 : Int)))
 (K (⟨none, 0, 0⟩, (5 : Int), ()))
 (K (⟨r3.a, r3.len, r3.cap⟩, (0 : Int), ()))
set_option maxRecDepth 100000 in
theorem E_salvorref02_Union (a0 : Sl) (a1 : Sl) (K : (Sl × (Int × Unit)) → HP) (h : Heap) : fnVC Try.prog [(1000000, .nil)] 17 Try.f58 [(.slice a0.a a0.len a0.cap), (.slice a1.a a1.len a1.cap)] (.tup (.cons .sl (.cons (.int .i64) .nil))) K h = F_salvorref02_Union a0 a1 K h := by kernel_rfl
set_option maxRecDepth 100000 in
theorem S_salvorref02_Union{h : Heap} {a0 : Sl} {a1 : Sl} (K : (Sl × (Int × Unit)) → HP) (hF : F_salvorref02_Union a0 a1 K h) : CallsH Try.prog fn_salvorref02_Union #[(.slice a0.a a0.len a0.cap), (.slice a1.a a1.len a1.cap)] h fun v h' => ∃ x : (Sl × (Int × Unit)), v = Ty.enc (.tup (.cons .sl (.cons (.int .i64) .nil))) x ∧ K x h' :=
  callsH_of_fn (P := Try.prog) (fn := Try.f58) (τ := (.tup (.cons .sl (.cons (.int .i64) .nil)))) follows Try.func58 (by kernel_rfl) (by kernel_rfl) Try.call58 (Eq.mpr (E_salvorref02_Union a0 a1 K h) hF)


/-- salvor/salvorref02.Resolve -/
def F_salvorref02_Resolve (a0 : Sl) (a1 : Sl) (a2 : Int) (K : (Sl × (Int × Unit)) → HP) : HP :=
 callT Try.prog fn_salvorref01_Right #[(.int .i64 a2)] .bool fun r0 =>
 brB (!r0)
 (K (⟨none, 0, 0⟩, (10 : Int), ()))
 (callT Try.prog fn_salvorref02_Has #[(.slice a0.a a0.len a0.cap), (.int .i64 a2)] .bool fun r1 =>
 brB (!r1)
 (K (⟨none, 0, 0⟩, (21 : Int), ()))
 (callT Try.prog fn_salvorref02_Has #[(.slice a1.a a1.len a1.cap), (.int .i64 (IntKind.wrap .i64 (0 - a2)))] .bool fun r2 =>
 brB (!r2)
 (K (⟨none, 0, 0⟩, (21 : Int), ()))
 (callT Try.prog fn_salvorref02_Without #[(.slice a0.a a0.len a0.cap), (.int .i64 a2)] (.tup (.cons .sl (.cons (.int .i64) .nil))) fun r3 =>
 callT Try.prog fn_salvorref02_Without #[(.slice a1.a a1.len a1.cap), (.int .i64 (IntKind.wrap .i64 (0 - a2)))] (.tup (.cons .sl (.cons (.int .i64) .nil))) fun r4 =>
 callT Try.prog fn_salvorref02_Union #[(.slice r3.1.a r3.1.len r3.1.cap), (.slice r4.1.a r4.1.len r4.1.cap)] (.tup (.cons .sl (.cons (.int .i64) .nil))) fun r5 =>
 K (⟨r5.1.a, r5.1.len, r5.1.cap⟩, r5.2.1, ()))))
set_option maxRecDepth 100000 in
theorem E_salvorref02_Resolve (a0 : Sl) (a1 : Sl) (a2 : Int) (K : (Sl × (Int × Unit)) → HP) (h : Heap) : fnVC Try.prog [(1000000, .nil)] 44 Try.f59 [(.slice a0.a a0.len a0.cap), (.slice a1.a a1.len a1.cap), (.int .i64 a2)] (.tup (.cons .sl (.cons (.int .i64) .nil))) K h = F_salvorref02_Resolve a0 a1 a2 K h := by kernel_rfl
set_option maxRecDepth 100000 in
theorem S_salvorref02_Resolve{h : Heap} {a0 : Sl} {a1 : Sl} {a2 : Int} (K : (Sl × (Int × Unit)) → HP) (hF : F_salvorref02_Resolve a0 a1 a2 K h) : CallsH Try.prog fn_salvorref02_Resolve #[(.slice a0.a a0.len a0.cap), (.slice a1.a a1.len a1.cap), (.int .i64 a2)] h fun v h' => ∃ x : (Sl × (Int × Unit)), v = Ty.enc (.tup (.cons .sl (.cons (.int .i64) .nil))) x ∧ K x h' :=
  callsH_of_fn (P := Try.prog) (fn := Try.f59) (τ := (.tup (.cons .sl (.cons (.int .i64) .nil)))) follows Try.func59 (by kernel_rfl) (by kernel_rfl) Try.call59 (Eq.mpr (E_salvorref02_Resolve a0 a1 a2 K h) hF)


/-- salvor/salvorref02.Compare -/
def F_salvorref02_Compare (a0 : Sl) (a1 : Sl) (K : Int → HP) : HP :=
 callT Try.prog fn_salvorref02_Norm #[(.slice a0.a a0.len a0.cap)] .sl fun r0 =>
 callT Try.prog fn_salvorref02_Norm #[(.slice a1.a a1.len a1.cap)] .sl fun r1 =>
 brB ((r0.len : Int) != (r1.len : Int))
 (brB (decide ((r0.len : Int) < (r1.len : Int)))
 (K (-1 : Int))
 (K (1 : Int)))
 (lfp (σ := (Int × (Int × Unit))) (fun X2 s3 => /- i  -/
 brB (decide (s3.1 < (r0.len : Int)))
 (sx r0.a r0.len s3.1 1 fun p4 =>
 ldT (.int .i64) p4 fun x5 =>
 sx r1.a r1.len s3.1 1 fun p6 =>
 ldT (.int .i64) p6 fun x7 =>
 callT Try.prog fn_salvorref01_Compare #[(.int .i64 x5), (.int .i64 x7)] (.int .i64) fun r8 =>
 brB (r8 != (0 : Int))
 (K r8)
 (X2 ((IntKind.wrap .i64 (s3.1 + (1 : Int))), s3.2.1, ())))
 (K (0 : Int)))
 ((0 : Int), (0 : Int), ()))
set_option maxRecDepth 100000 in
theorem E_salvorref02_Compare (a0 : Sl) (a1 : Sl) (K : Int → HP) (h : Heap) : fnVC Try.prog [(1000000, .nil)] 41 Try.f60 [(.slice a0.a a0.len a0.cap), (.slice a1.a a1.len a1.cap)] (.int .i64) K h = F_salvorref02_Compare a0 a1 K h := by kernel_rfl
set_option maxRecDepth 100000 in
theorem S_salvorref02_Compare{h : Heap} {a0 : Sl} {a1 : Sl} (K : Int → HP) (hF : F_salvorref02_Compare a0 a1 K h) : CallsH Try.prog fn_salvorref02_Compare #[(.slice a0.a a0.len a0.cap), (.slice a1.a a1.len a1.cap)] h fun v h' => ∃ x : Int, v = Ty.enc (.int .i64) x ∧ K x h' :=
  callsH_of_fn (P := Try.prog) (fn := Try.f60) (τ := (.int .i64)) follows Try.func60 (by kernel_rfl) (by kernel_rfl) Try.call60 (Eq.mpr (E_salvorref02_Compare a0 a1 K h) hF)


/-- salvor/salvorref02.Within -/
def F_salvorref02_Within (a0 : Sl) (a1 : Sl) (K : Bool → HP) : HP :=
 lfp (σ := (Int × (Bool × Unit))) (fun X0 s1 => /- i  -/
 brB (decide (s1.1 < (a0.len : Int)))
 (sx a0.a a0.len s1.1 1 fun p2 =>
 ldT (.int .i64) p2 fun x3 =>
 callT Try.prog fn_salvorref02_Has #[(.slice a1.a a1.len a1.cap), (.int .i64 x3)] .bool fun r4 =>
 brB (!r4)
 (K false)
 (X0 ((IntKind.wrap .i64 (s1.1 + (1 : Int))), s1.2.1, ())))
 (K true))
 ((0 : Int), false, ())
set_option maxRecDepth 100000 in
theorem E_salvorref02_Within (a0 : Sl) (a1 : Sl) (K : Bool → HP) (h : Heap) : fnVC Try.prog [(1000000, .nil)] 19 Try.f61 [(.slice a0.a a0.len a0.cap), (.slice a1.a a1.len a1.cap)] .bool K h = F_salvorref02_Within a0 a1 K h := by kernel_rfl
set_option maxRecDepth 100000 in
theorem S_salvorref02_Within{h : Heap} {a0 : Sl} {a1 : Sl} (K : Bool → HP) (hF : F_salvorref02_Within a0 a1 K h) : CallsH Try.prog fn_salvorref02_Within #[(.slice a0.a a0.len a0.cap), (.slice a1.a a1.len a1.cap)] h fun v h' => ∃ x : Bool, v = Ty.enc .bool x ∧ K x h' :=
  callsH_of_fn (P := Try.prog) (fn := Try.f61) (τ := .bool) follows Try.func61 (by kernel_rfl) (by kernel_rfl) Try.call61 (Eq.mpr (E_salvorref02_Within a0 a1 K h) hF)


/-- salvor/salvorref02.Clashes -/
def F_salvorref02_Clashes (a0 : Sl) (a1 : Sl) (K : Sl → HP) : HP :=
 lfp (σ := (Int × (Sl × Unit))) (fun X0 s1 => /- i out -/
 brB (decide (s1.1 < (a0.len : Int)))
 (sx a0.a a0.len s1.1 1 fun p2 =>
 ldT (.int .i64) p2 fun x3 =>
 callT Try.prog fn_salvorref02_Has #[(.slice a1.a a1.len a1.cap), (.int .i64 (IntKind.wrap .i64 (0 - x3)))] .bool fun r4 =>
 jn (σ := (Sl × Unit)) (fun s6 => /- out -/
 X0 ((IntKind.wrap .i64 (s1.1 + (1 : Int))), ⟨s6.1.a, s6.1.len, s6.1.cap⟩, ()))
 (fun J5 =>
 brB r4
 (sx a0.a a0.len s1.1 1 fun p7 =>
 ldT (.int .i64) p7 fun x8 =>
 nw #[(.int .i64 x8)] ty_int fun b9 =>
 apd ty_int 1 8 #[(.int .i64 (0 : Int))] ⟨s1.2.1.a, s1.2.1.len, s1.2.1.cap⟩ ⟨(some (⟨b9, 0, none⟩ : Addr)), 1, 1⟩ fun s10 =>
 J5 (⟨s10.a, s10.len, s10.cap⟩, ()))
 (J5 (⟨s1.2.1.a, s1.2.1.len, s1.2.1.cap⟩, ()))))
 (callT Try.prog fn_salvorref02_Norm #[(.slice s1.2.1.a s1.2.1.len s1.2.1.cap)] .sl fun r11 =>
 K ⟨r11.a, r11.len, r11.cap⟩))
 ((0 : Int), ⟨none, 0, 0⟩, ())
set_option maxRecDepth 100000 in
theorem E_salvorref02_Clashes (a0 : Sl) (a1 : Sl) (K : Sl → HP) (h : Heap) : fnVC Try.prog [(1000000, .nil)] 29 Try.f62 [(.slice a0.a a0.len a0.cap), (.slice a1.a a1.len a1.cap)] .sl K h = F_salvorref02_Clashes a0 a1 K h := by kernel_rfl
set_option maxRecDepth 100000 in
theorem S_salvorref02_Clashes{h : Heap} {a0 : Sl} {a1 : Sl} (K : Sl → HP) (hF : F_salvorref02_Clashes a0 a1 K h) : CallsH Try.prog fn_salvorref02_Clashes #[(.slice a0.a a0.len a0.cap), (.slice a1.a a1.len a1.cap)] h fun v h' => ∃ x : Sl, v = Ty.enc .sl x ∧ K x h' :=
  callsH_of_fn (P := Try.prog) (fn := Try.f62) (τ := .sl) follows Try.func62 (by kernel_rfl) (by kernel_rfl) Try.call62 (Eq.mpr (E_salvorref02_Clashes a0 a1 K h) hF)


/-- cmp.Or[int] -/
def F_cmp_Or_int (a0 : Sl) (K : Int → HP) : HP :=
 lfp (σ := (Int × (Int × Unit))) (fun X0 s1 => /-   -/
 brB (decide (s1.1 < (a0.len : Int)))
 (sx a0.a a0.len s1.1 1 fun p2 =>
 ldT (.int .i64) p2 fun x3 =>
 brB (x3 != (0 : Int))
 (K x3)
 (X0 ((IntKind.wrap .i64 (s1.1 + (1 : Int))), s1.2.1, ())))
 (K (0 : Int)))
 ((0 : Int), (0 : Int), ())
set_option maxRecDepth 100000 in
theorem E_cmp_Or_int (a0 : Sl) (K : Int → HP) (h : Heap) : fnVC Try.prog [(1000000, .nil)] 18 Try.f63 [(.slice a0.a a0.len a0.cap)] (.int .i64) K h = F_cmp_Or_int a0 K h := by kernel_rfl
set_option maxRecDepth 100000 in
theorem S_cmp_Or_int{h : Heap} {a0 : Sl} (K : Int → HP) (hF : F_cmp_Or_int a0 K h) : CallsH Try.prog fn_cmp_Or_int #[(.slice a0.a a0.len a0.cap)] h fun v h' => ∃ x : Int, v = Ty.enc (.int .i64) x ∧ K x h' :=
  callsH_of_fn (P := Try.prog) (fn := Try.f63) (τ := (.int .i64)) follows Try.func63 (by kernel_rfl) (by kernel_rfl) Try.call63 (Eq.mpr (E_cmp_Or_int a0 K h) hF)


/-- cmp.Compare[int] -/
def F_cmp_Compare_int (a0 : Int) (a1 : Int) (K : Int → HP) : HP :=
 callT Try.prog fn_cmp_isNaN_int #[(.int .i64 a0)] .bool fun r0 =>
 callT Try.prog fn_cmp_isNaN_int #[(.int .i64 a1)] .bool fun r1 =>
 brB r0
 (brB r1
 (K (0 : Int))
 (K (-1 : Int)))
 (brB r1
 (K (1 : Int))
 (brB (decide (a0 < a1))
 (K (-1 : Int))
 (brB (decide (a0 > a1))
 (K (1 : Int))
 (K (0 : Int)))))
set_option maxRecDepth 100000 in
theorem E_cmp_Compare_int (a0 : Int) (a1 : Int) (K : Int → HP) (h : Heap) : fnVC Try.prog [(1000000, .nil)] 20 Try.f64 [(.int .i64 a0), (.int .i64 a1)] (.int .i64) K h = F_cmp_Compare_int a0 a1 K h := by kernel_rfl
set_option maxRecDepth 100000 in
theorem S_cmp_Compare_int{h : Heap} {a0 : Int} {a1 : Int} (K : Int → HP) (hF : F_cmp_Compare_int a0 a1 K h) : CallsH Try.prog fn_cmp_Compare_int #[(.int .i64 a0), (.int .i64 a1)] h fun v h' => ∃ x : Int, v = Ty.enc (.int .i64) x ∧ K x h' :=
  callsH_of_fn (P := Try.prog) (fn := Try.f64) (τ := (.int .i64)) follows Try.func64 (by kernel_rfl) (by kernel_rfl) Try.call64 (Eq.mpr (E_cmp_Compare_int a0 a1 K h) hF)


/-- slices.CompareFunc[salvor/clauses.Clause,salvor/clauses.Clause,salvor/lits.Lit,salvor/lits.Lit] -/
def F_slices_CompareFunc_clauses_Clause_clauses_Clause_lits_Lit_lits_Lit (a0 : Sl) (a1 : Sl) (a2 : Value) (K : Int → HP) : HP :=
 lfp (σ := (Int × (Int × Unit))) (fun X0 s1 => /-   -/
 brB (decide (s1.1 < (a0.len : Int)))
 (sx a0.a a0.len s1.1 1 fun p2 =>
 ldT (.int .i64) p2 fun x3 =>
 brB (decide (s1.1 ≥ (a1.len : Int)))
 (K (1 : Int))
 (sx a1.a a1.len s1.1 1 fun p4 =>
 ldT (.int .i64) p4 fun x5 =>
 callF Try.prog a2 #[(.int .i64 x3), (.int .i64 x5)] (.int .i64) fun r6 =>
 brB (r6 != (0 : Int))
 (K r6)
 (X0 ((IntKind.wrap .i64 (s1.1 + (1 : Int))), s1.2.1, ()))))
 (brB (decide ((a0.len : Int) < (a1.len : Int)))
 (K (-1 : Int))
 (K (0 : Int))))
 ((0 : Int), (0 : Int), ())
set_option maxRecDepth 100000 in
theorem E_slices_CompareFunc_clauses_Clause_clauses_Clause_lits_Lit_lits_Lit (a0 : Sl) (a1 : Sl) (a2 : Value) (K : Int → HP) (h : Heap) : fnVC Try.prog [(1000000, .nil)] 39 Try.f65 [(.slice a0.a a0.len a0.cap), (.slice a1.a a1.len a1.cap), a2] (.int .i64) K h = F_slices_CompareFunc_clauses_Clause_clauses_Clause_lits_Lit_lits_Lit a0 a1 a2 K h := by kernel_rfl
set_option maxRecDepth 100000 in
theorem S_slices_CompareFunc_clauses_Clause_clauses_Clause_lits_Lit_lits_Lit{h : Heap} {a0 : Sl} {a1 : Sl} {a2 : Value} (K : Int → HP) (hF : F_slices_CompareFunc_clauses_Clause_clauses_Clause_lits_Lit_lits_Lit a0 a1 a2 K h) : CallsH Try.prog fn_slices_CompareFunc_clauses_Clause_clauses_Clause_lits_Lit_lits_Lit #[(.slice a0.a a0.len a0.cap), (.slice a1.a a1.len a1.cap), a2] h fun v h' => ∃ x : Int, v = Ty.enc (.int .i64) x ∧ K x h' :=
  callsH_of_fn (P := Try.prog) (fn := Try.f65) (τ := (.int .i64)) follows Try.func65 (by kernel_rfl) (by kernel_rfl) Try.call65 (Eq.mpr (E_slices_CompareFunc_clauses_Clause_clauses_Clause_lits_Lit_lits_Lit a0 a1 a2 K h) hF)


/-- slices.ContainsFunc[salvor/clauses.Clause,salvor/lits.Lit] -/
def F_slices_ContainsFunc_clauses_Clause_lits_Lit (a0 : Sl) (a1 : Value) (K : Bool → HP) : HP :=
 callT Try.prog fn_slices_IndexFunc_clauses_Clause_lits_Lit #[(.slice a0.a a0.len a0.cap), a1] (.int .i64) fun r0 =>
 K (decide (r0 ≥ (0 : Int)))
set_option maxRecDepth 100000 in
theorem E_slices_ContainsFunc_clauses_Clause_lits_Lit (a0 : Sl) (a1 : Value) (K : Bool → HP) (h : Heap) : fnVC Try.prog [(1000000, .nil)] 9 Try.f66 [(.slice a0.a a0.len a0.cap), a1] .bool K h = F_slices_ContainsFunc_clauses_Clause_lits_Lit a0 a1 K h := by kernel_rfl
set_option maxRecDepth 100000 in
theorem S_slices_ContainsFunc_clauses_Clause_lits_Lit{h : Heap} {a0 : Sl} {a1 : Value} (K : Bool → HP) (hF : F_slices_ContainsFunc_clauses_Clause_lits_Lit a0 a1 K h) : CallsH Try.prog fn_slices_ContainsFunc_clauses_Clause_lits_Lit #[(.slice a0.a a0.len a0.cap), a1] h fun v h' => ∃ x : Bool, v = Ty.enc .bool x ∧ K x h' :=
  callsH_of_fn (P := Try.prog) (fn := Try.f66) (τ := .bool) follows Try.func66 (by kernel_rfl) (by kernel_rfl) Try.call66 (Eq.mpr (E_slices_ContainsFunc_clauses_Clause_lits_Lit a0 a1 K h) hF)


end Go.Proofs.S
