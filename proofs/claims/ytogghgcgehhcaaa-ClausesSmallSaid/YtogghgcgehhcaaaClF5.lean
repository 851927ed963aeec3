/- The functions of the seat, each as a predicate over its values, printed by a program of ours, and that each is its text's. -/
import Derived.Test.YtogghgcgehhcaaaSxH
import Derived.KernelRfl
import Derived.Test.YtogghgcgehhcaaaProg
import Derived.Test.YtogghgcgehhcaaaClF0
set_option linter.unusedVariables false
namespace Go.Proofs.S
open Go Go.Sx Go.Proofs
/-- salvor/lits.Index -/
def F_lits_Index (a0 : Int) (K : (Int × (Int × Unit)) → HP) : HP :=
 callT Try.prog fn_lits_Right #[(.int .i64 a0)] .bool fun r0 =>
 brB (!r0)
 (K ((0 : Int), (10 : Int), ()))
 (callT Try.prog fn_lits_Var #[(.int .i64 a0)] (.int .i64) fun r1 =>
 jn (σ := (Int × Unit)) (fun s3 => /- i -/
 K (s3.1, (0 : Int), ()))
 (fun J2 =>
 brB (decide (a0 < (0 : Int)))
 (J2 ((IntKind.wrap .i64 ((IntKind.wrap .i64 ((2 : Int) * (IntKind.wrap .i64 (r1 - (1 : Int))))) + (1 : Int))), ()))
 (J2 ((IntKind.wrap .i64 ((2 : Int) * (IntKind.wrap .i64 (r1 - (1 : Int))))), ()))))
set_option maxRecDepth 100000 in
theorem E_lits_Index (a0 : Int) (K : (Int × (Int × Unit)) → HP) (h : Heap) : fnVC Try.prog [(1000000, .nil)] 17 Try.f67 [(.int .i64 a0)] (.tup (.cons (.int .i64) (.cons (.int .i64) .nil))) K h = F_lits_Index a0 K h := by kernel_rfl
set_option maxRecDepth 100000 in
theorem S_lits_Index{h : Heap} {a0 : Int} (K : (Int × (Int × Unit)) → HP) (hF : F_lits_Index a0 K h) : CallsH Try.prog fn_lits_Index #[(.int .i64 a0)] h fun v h' => ∃ x : (Int × (Int × Unit)), v = Ty.enc (.tup (.cons (.int .i64) (.cons (.int .i64) .nil))) x ∧ K x h' :=
  callsH_of_fn (P := Try.prog) (fn := Try.f67) (τ := (.tup (.cons (.int .i64) (.cons (.int .i64) .nil)))) follows Try.func67 (by kernel_rfl) (by kernel_rfl) Try.call67 (Eq.mpr (E_lits_Index a0 K h) hF)


/-- cmp.Compare[salvor/lits.Lit] -/
def F_cmp_Compare_lits_Lit (a0 : Int) (a1 : Int) (K : Int → HP) : HP :=
 callT Try.prog fn_cmp_isNaN_lits_Lit #[(.int .i64 a0)] .bool fun r0 =>
 callT Try.prog fn_cmp_isNaN_lits_Lit #[(.int .i64 a1)] .bool fun r1 =>
 brB r0
 (brB r1
 (K (0 : Int))
 (K (-1 : Int)))
 (brB r1
 (K (1 : Int))
 (brB (decide (a0 < a1))
 (K (-1 : Int))
 (brB (decide (a0 > a1))
 (K (1 : Int))
 (K (0 : Int)))))
set_option maxRecDepth 100000 in
theorem E_cmp_Compare_lits_Lit (a0 : Int) (a1 : Int) (K : Int → HP) (h : Heap) : fnVC Try.prog [(1000000, .nil)] 20 Try.f68 [(.int .i64 a0), (.int .i64 a1)] (.int .i64) K h = F_cmp_Compare_lits_Lit a0 a1 K h := by kernel_rfl
set_option maxRecDepth 100000 in
theorem S_cmp_Compare_lits_Lit{h : Heap} {a0 : Int} {a1 : Int} (K : Int → HP) (hF : F_cmp_Compare_lits_Lit a0 a1 K h) : CallsH Try.prog fn_cmp_Compare_lits_Lit #[(.int .i64 a0), (.int .i64 a1)] h fun v h' => ∃ x : Int, v = Ty.enc (.int .i64) x ∧ K x h' :=
  callsH_of_fn (P := Try.prog) (fn := Try.f68) (τ := (.int .i64)) follows Try.func68 (by kernel_rfl) (by kernel_rfl) Try.call68 (Eq.mpr (E_cmp_Compare_lits_Lit a0 a1 K h) hF)


/-- slices.Index[salvor/clauses.Clause,salvor/lits.Lit] -/
def F_slices_Index_clauses_Clause_lits_Lit (a0 : Sl) (a1 : Int) (K : Int → HP) : HP :=
 lfp (σ := (Int × (Int × Unit))) (fun X0 s1 => /-   -/
 brB (decide (s1.1 < (a0.len : Int)))
 (sx a0.a a0.len s1.1 1 fun p2 =>
 ldT (.int .i64) p2 fun x3 =>
 brB (a1 == x3)
 (K s1.1)
 (X0 ((IntKind.wrap .i64 (s1.1 + (1 : Int))), s1.2.1, ())))
 (K (-1 : Int)))
 ((0 : Int), (0 : Int), ())
set_option maxRecDepth 100000 in
theorem E_slices_Index_clauses_Clause_lits_Lit (a0 : Sl) (a1 : Int) (K : Int → HP) (h : Heap) : fnVC Try.prog [(1000000, .nil)] 19 Try.f69 [(.slice a0.a a0.len a0.cap), (.int .i64 a1)] (.int .i64) K h = F_slices_Index_clauses_Clause_lits_Lit a0 a1 K h := by kernel_rfl
set_option maxRecDepth 100000 in
theorem S_slices_Index_clauses_Clause_lits_Lit{h : Heap} {a0 : Sl} {a1 : Int} (K : Int → HP) (hF : F_slices_Index_clauses_Clause_lits_Lit a0 a1 K h) : CallsH Try.prog fn_slices_Index_clauses_Clause_lits_Lit #[(.slice a0.a a0.len a0.cap), (.int .i64 a1)] h fun v h' => ∃ x : Int, v = Ty.enc (.int .i64) x ∧ K x h' :=
  callsH_of_fn (P := Try.prog) (fn := Try.f69) (τ := (.int .i64)) follows Try.func69 (by kernel_rfl) (by kernel_rfl) Try.call69 (Eq.mpr (E_slices_Index_clauses_Clause_lits_Lit a0 a1 K h) hF)


/-- slices.Grow[salvor/clauses.Clause,salvor/lits.Lit] -/
def F_slices_Grow_clauses_Clause_lits_Lit (a0 : Sl) (a1 : Int) (K : Sl → HP) : HP :=
 jn (σ := Unit) (fun s1 => /- -/
 jn (σ := (Sl × Unit)) (fun s3 => /- s -/
 K ⟨s3.1.a, s3.1.len, s3.1.cap⟩)
 (fun J2 =>
 brB (decide ((IntKind.wrap .i64 (a1 - (IntKind.wrap .i64 ((a0.cap : Int) - (a0.len : Int))))) > (0 : Int)))
 (slH ⟨a0.a, a0.len, a0.cap⟩ (a0.cap : Int) 1 fun s4 =>
 apz ty_lits_Lit 1 8 #[(.int .i64 (0 : Int))] ⟨s4.a, s4.len, s4.cap⟩ (IntKind.wrap .i64 (a1 - (IntKind.wrap .i64 ((a0.cap : Int) - (a0.len : Int))))) fun s5 =>
 slH ⟨s5.a, s5.len, s5.cap⟩ (a0.len : Int) 1 fun s6 =>
 J2 (⟨s6.a, s6.len, s6.cap⟩, ()))
 (J2 (⟨a0.a, a0.len, a0.cap⟩, ()))))
 (fun J0 =>
 brB (decide (a1 < (0 : Int)))
 (fF /- not known -/)
 (J0 (())))
set_option maxRecDepth 100000 in
theorem E_slices_Grow_clauses_Clause_lits_Lit (a0 : Sl) (a1 : Int) (K : Sl → HP) (h : Heap) : fnVC Try.prog [(1000000, .nil)] 27 Try.f70 [(.slice a0.a a0.len a0.cap), (.int .i64 a1)] .sl K h = F_slices_Grow_clauses_Clause_lits_Lit a0 a1 K h := by kernel_rfl
set_option maxRecDepth 100000 in
theorem S_slices_Grow_clauses_Clause_lits_Lit{h : Heap} {a0 : Sl} {a1 : Int} (K : Sl → HP) (hF : F_slices_Grow_clauses_Clause_lits_Lit a0 a1 K h) : CallsH Try.prog fn_slices_Grow_clauses_Clause_lits_Lit #[(.slice a0.a a0.len a0.cap), (.int .i64 a1)] h fun v h' => ∃ x : Sl, v = Ty.enc .sl x ∧ K x h' :=
  callsH_of_fn (P := Try.prog) (fn := Try.f70) (τ := .sl) follows Try.func70 (by kernel_rfl) (by kernel_rfl) Try.call70 (Eq.mpr (E_slices_Grow_clauses_Clause_lits_Lit a0 a1 K h) hF)


/-- slices.rotateRight[salvor/lits.Lit] -/
def F_slices_rotateRight_lits_Lit (a0 : Sl) (a1 : Int) (K : Unit → HP) : HP :=
 callT Try.prog fn_slices_rotateLeft_lits_Lit #[(.slice a0.a a0.len a0.cap), (.int .i64 (IntKind.wrap .i64 ((a0.len : Int) - a1)))] (.tup .nil) fun r0 =>
 K (())
set_option maxRecDepth 100000 in
theorem E_slices_rotateRight_lits_Lit (a0 : Sl) (a1 : Int) (K : Unit → HP) (h : Heap) : fnVC Try.prog [(1000000, .nil)] 10 Try.f72 [(.slice a0.a a0.len a0.cap), (.int .i64 a1)] (.tup .nil) K h = F_slices_rotateRight_lits_Lit a0 a1 K h := by kernel_rfl
set_option maxRecDepth 100000 in
theorem S_slices_rotateRight_lits_Lit{h : Heap} {a0 : Sl} {a1 : Int} (K : Unit → HP) (hF : F_slices_rotateRight_lits_Lit a0 a1 K h) : CallsH Try.prog fn_slices_rotateRight_lits_Lit #[(.slice a0.a a0.len a0.cap), (.int .i64 a1)] h fun v h' => ∃ x : Unit, v = Ty.enc (.tup .nil) x ∧ K x h' :=
  callsH_of_fn (P := Try.prog) (fn := Try.f72) (τ := (.tup .nil)) follows Try.func72 (by kernel_rfl) (by kernel_rfl) Try.call72 (Eq.mpr (E_slices_rotateRight_lits_Lit a0 a1 K h) hF)


/-- salvor/lits.Right -/
def F_lits_Right (a0 : Int) (K : Bool → HP) : HP :=
 brB (a0 != (0 : Int))
 (brB (decide (a0 ≥ (-1048576 : Int)))
 (K (decide (a0 ≤ (1048576 : Int))))
 (K false))
 (K false)
set_option maxRecDepth 100000 in
theorem E_lits_Right (a0 : Int) (K : Bool → HP) (h : Heap) : fnVC Try.prog [(1000000, .nil)] 13 Try.f73 [(.int .i64 a0)] .bool K h = F_lits_Right a0 K h := by kernel_rfl
set_option maxRecDepth 100000 in
theorem S_lits_Right{h : Heap} {a0 : Int} (K : Bool → HP) (hF : F_lits_Right a0 K h) : CallsH Try.prog fn_lits_Right #[(.int .i64 a0)] h fun v h' => ∃ x : Bool, v = Ty.enc .bool x ∧ K x h' :=
  callsH_of_fn (P := Try.prog) (fn := Try.f73) (τ := .bool) follows Try.func73 (by kernel_rfl) (by kernel_rfl) Try.call73 (Eq.mpr (E_lits_Right a0 K h) hF)


/-- salvor/clauses.sorted$1 -/
def F_clauses_sorted_1 (a0 : Value) (c0 : Addr) (K : Unit → HP) : HP :=
 ldT .sl c0 fun x0 =>
 callT Try.prog fn_slices_Values_clauses_Clause_lits_Lit #[(.slice x0.a x0.len x0.cap)] .val fun r1 =>
 callT Try.prog fn_slices_SortedFunc_lits_Lit #[r1, (.func (.func fn_lits_Compare) #[] #[])] .sl fun r2 =>
 lfp (σ := (Int × (Int × Unit))) (fun X3 s4 => /-  last -/
 brB (decide (s4.1 < (r2.len : Int)))
 (jn (σ := (Int × Unit)) (fun s6 => /- last -/
 X3 ((IntKind.wrap .i64 (s4.1 + (1 : Int))), s6.1, ()))
 (fun J5 =>
 sx r2.a r2.len s4.1 1 fun p7 =>
 ldT (.int .i64) p7 fun x8 =>
 brB (x8 == s4.2.1)
 (J5 (s4.2.1, ()))
 (callF Try.prog a0 #[(.int .i64 x8)] .bool fun r9 =>
 brB (!r9)
 (K (()))
 (J5 (x8, ())))))
 (K (())))
 ((0 : Int), (0 : Int), ())
set_option maxRecDepth 100000 in
theorem E_clauses_sorted_1 (a0 : Value) (c0 : Addr) (K : Unit → HP) (h : Heap) : fnVC Try.prog [(1000000, .nil)] 23 Try.f74 [a0, (.pointer (some c0))] (.tup .nil) K h = F_clauses_sorted_1 a0 c0 K h := by kernel_rfl
set_option maxRecDepth 100000 in
theorem S_clauses_sorted_1{h : Heap} {a0 : Value} {c0 : Addr} (K : Unit → HP) (hF : F_clauses_sorted_1 a0 c0 K h) : CallsH Try.prog fn_clauses_sorted_1 #[a0, (.pointer (some c0))] h fun v h' => ∃ x : Unit, v = Ty.enc (.tup .nil) x ∧ K x h' :=
  callsH_of_fn (P := Try.prog) (fn := Try.f74) (τ := (.tup .nil)) follows Try.func74 (by kernel_rfl) (by kernel_rfl) Try.call74 (Eq.mpr (E_clauses_sorted_1 a0 c0 K h) hF)


/-- slices.SortedFunc[salvor/lits.Lit] -/
def F_slices_SortedFunc_lits_Lit (a0 : Value) (a1 : Value) (K : Sl → HP) : HP :=
 callT Try.prog fn_slices_Collect_lits_Lit #[a0] .sl fun r0 =>
 callT Try.prog fn_slices_SortFunc_lits_Lit_lits_Lit #[(.slice r0.a r0.len r0.cap), a1] (.tup .nil) fun r1 =>
 K ⟨r0.a, r0.len, r0.cap⟩
set_option maxRecDepth 100000 in
theorem E_slices_SortedFunc_lits_Lit (a0 : Value) (a1 : Value) (K : Sl → HP) (h : Heap) : fnVC Try.prog [(1000000, .nil)] 12 Try.f75 [a0, a1] .sl K h = F_slices_SortedFunc_lits_Lit a0 a1 K h := by kernel_rfl
set_option maxRecDepth 100000 in
theorem S_slices_SortedFunc_lits_Lit{h : Heap} {a0 : Value} {a1 : Value} (K : Sl → HP) (hF : F_slices_SortedFunc_lits_Lit a0 a1 K h) : CallsH Try.prog fn_slices_SortedFunc_lits_Lit #[a0, a1] h fun v h' => ∃ x : Sl, v = Ty.enc .sl x ∧ K x h' :=
  callsH_of_fn (P := Try.prog) (fn := Try.f75) (τ := .sl) follows Try.func75 (by kernel_rfl) (by kernel_rfl) Try.call75 (Eq.mpr (E_slices_SortedFunc_lits_Lit a0 a1 K h) hF)


/-- slices.Values[salvor/clauses.Clause,salvor/lits.Lit] -/
def F_slices_Values_clauses_Clause_lits_Lit (a0 : Sl) (K : Value → HP) : HP :=
 nw #[(.slice a0.a a0.len a0.cap)] ty_clauses_Clause fun b0 =>
 K (.func (.func fn_slices_Values_clauses_Clause_lits_Lit_1) #[] #[(.pointer (some (⟨b0, 0, none⟩ : Addr)))])
set_option maxRecDepth 100000 in
theorem E_slices_Values_clauses_Clause_lits_Lit (a0 : Sl) (K : Value → HP) (h : Heap) : fnVC Try.prog [(1000000, .nil)] 4 Try.f76 [(.slice a0.a a0.len a0.cap)] .val K h = F_slices_Values_clauses_Clause_lits_Lit a0 K h := by kernel_rfl
set_option maxRecDepth 100000 in
theorem S_slices_Values_clauses_Clause_lits_Lit{h : Heap} {a0 : Sl} (K : Value → HP) (hF : F_slices_Values_clauses_Clause_lits_Lit a0 K h) : CallsH Try.prog fn_slices_Values_clauses_Clause_lits_Lit #[(.slice a0.a a0.len a0.cap)] h fun v h' => ∃ x : Value, v = Ty.enc .val x ∧ K x h' :=
  callsH_of_fn (P := Try.prog) (fn := Try.f76) (τ := .val) follows Try.func76 (by kernel_rfl) (by kernel_rfl) Try.call76 (Eq.mpr (E_slices_Values_clauses_Clause_lits_Lit a0 K h) hF)


/-- slices.IndexFunc[salvor/clauses.Clause,salvor/lits.Lit] -/
def F_slices_IndexFunc_clauses_Clause_lits_Lit (a0 : Sl) (a1 : Value) (K : Int → HP) : HP :=
 lfp (σ := (Int × (Int × Unit))) (fun X0 s1 => /-   -/
 brB (decide (s1.1 < (a0.len : Int)))
 (sx a0.a a0.len s1.1 1 fun p2 =>
 ldT (.int .i64) p2 fun x3 =>
 callF Try.prog a1 #[(.int .i64 x3)] .bool fun r4 =>
 brB r4
 (K s1.1)
 (X0 ((IntKind.wrap .i64 (s1.1 + (1 : Int))), s1.2.1, ())))
 (K (-1 : Int)))
 ((0 : Int), (0 : Int), ())
set_option maxRecDepth 100000 in
theorem E_slices_IndexFunc_clauses_Clause_lits_Lit (a0 : Sl) (a1 : Value) (K : Int → HP) (h : Heap) : fnVC Try.prog [(1000000, .nil)] 19 Try.f77 [(.slice a0.a a0.len a0.cap), a1] (.int .i64) K h = F_slices_IndexFunc_clauses_Clause_lits_Lit a0 a1 K h := by kernel_rfl
set_option maxRecDepth 100000 in
theorem S_slices_IndexFunc_clauses_Clause_lits_Lit{h : Heap} {a0 : Sl} {a1 : Value} (K : Int → HP) (hF : F_slices_IndexFunc_clauses_Clause_lits_Lit a0 a1 K h) : CallsH Try.prog fn_slices_IndexFunc_clauses_Clause_lits_Lit #[(.slice a0.a a0.len a0.cap), a1] h fun v h' => ∃ x : Int, v = Ty.enc (.int .i64) x ∧ K x h' :=
  callsH_of_fn (P := Try.prog) (fn := Try.f77) (τ := (.int .i64)) follows Try.func77 (by kernel_rfl) (by kernel_rfl) Try.call77 (Eq.mpr (E_slices_IndexFunc_clauses_Clause_lits_Lit a0 a1 K h) hF)


/-- salvor/salvorref01.Index -/
def F_salvorref01_Index (a0 : Int) (K : Int → HP) : HP :=
 callT Try.prog fn_salvorref01_Right #[(.int .i64 a0)] .bool fun r0 =>
 brB (!r0)
 (K (-1 : Int))
 (brB (decide (a0 < (0 : Int)))
 (K (IntKind.wrap .i64 ((IntKind.wrap .i64 ((2 : Int) * (IntKind.wrap .i64 ((IntKind.wrap .i64 (0 - a0)) - (1 : Int))))) + (1 : Int))))
 (K (IntKind.wrap .i64 ((2 : Int) * (IntKind.wrap .i64 (a0 - (1 : Int)))))))
set_option maxRecDepth 100000 in
theorem E_salvorref01_Index (a0 : Int) (K : Int → HP) (h : Heap) : fnVC Try.prog [(1000000, .nil)] 16 Try.f78 [(.int .i64 a0)] (.int .i64) K h = F_salvorref01_Index a0 K h := by kernel_rfl
set_option maxRecDepth 100000 in
theorem S_salvorref01_Index{h : Heap} {a0 : Int} (K : Int → HP) (hF : F_salvorref01_Index a0 K h) : CallsH Try.prog fn_salvorref01_Index #[(.int .i64 a0)] h fun v h' => ∃ x : Int, v = Ty.enc (.int .i64) x ∧ K x h' :=
  callsH_of_fn (P := Try.prog) (fn := Try.f78) (τ := (.int .i64)) follows Try.func78 (by kernel_rfl) (by kernel_rfl) Try.call78 (Eq.mpr (E_salvorref01_Index a0 K h) hF)


/-- salvor/salvorref01.At -/
def F_salvorref01_At (a0 : Int) (K : Int → HP) : HP :=
 brB (decide (a0 < (0 : Int)))
 (K (0 : Int))
 (brB (decide (a0 > (2097151 : Int)))
 (K (0 : Int))
 (nz (2 : Int) <|
 nz (2 : Int) <|
 brB ((Int.tmod a0 (2 : Int)) == (1 : Int))
 (K (IntKind.wrap .i64 (0 - (IntKind.wrap .i64 ((IntKind.wrap .i64 (Int.tdiv a0 (2 : Int))) + (1 : Int))))))
 (K (IntKind.wrap .i64 ((IntKind.wrap .i64 (Int.tdiv a0 (2 : Int))) + (1 : Int))))))
set_option maxRecDepth 100000 in
theorem E_salvorref01_At (a0 : Int) (K : Int → HP) (h : Heap) : fnVC Try.prog [(1000000, .nil)] 19 Try.f79 [(.int .i64 a0)] (.int .i64) K h = F_salvorref01_At a0 K h := by kernel_rfl
set_option maxRecDepth 100000 in
theorem S_salvorref01_At{h : Heap} {a0 : Int} (K : Int → HP) (hF : F_salvorref01_At a0 K h) : CallsH Try.prog fn_salvorref01_At #[(.int .i64 a0)] h fun v h' => ∃ x : Int, v = Ty.enc (.int .i64) x ∧ K x h' :=
  callsH_of_fn (P := Try.prog) (fn := Try.f79) (τ := (.int .i64)) follows Try.func79 (by kernel_rfl) (by kernel_rfl) Try.call79 (Eq.mpr (E_salvorref01_At a0 K h) hF)


/-- salvor/salvorref01.Compare -/
def F_salvorref01_Compare (a0 : Int) (a1 : Int) (K : Int → HP) : HP :=
 callT Try.prog fn_salvorref01_Index #[(.int .i64 a0)] (.int .i64) fun r0 =>
 callT Try.prog fn_salvorref01_Index #[(.int .i64 a1)] (.int .i64) fun r1 =>
 brB (decide (r0 < (0 : Int)))
 (jn (σ := (Int × (Int × Unit))) (fun s3 => /- y x -/
 brB (decide (s3.2.1 < s3.1))
 (K (-1 : Int))
 (brB (decide (s3.2.1 > s3.1))
 (K (1 : Int))
 (K (0 : Int))))
 (fun J2 =>
 brB (decide (r1 < (0 : Int)))
 (J2 (a1, a0, ()))
 (J2 (r1, r0, ()))))
 (jn (σ := (Int × (Int × Unit))) (fun s5 => /- y x -/
 brB (decide (s5.2.1 < s5.1))
 (K (-1 : Int))
 (brB (decide (s5.2.1 > s5.1))
 (K (1 : Int))
 (K (0 : Int))))
 (fun J4 =>
 J4 (r1, r0, ())))
set_option maxRecDepth 100000 in
theorem E_salvorref01_Compare (a0 : Int) (a1 : Int) (K : Int → HP) (h : Heap) : fnVC Try.prog [(1000000, .nil)] 25 Try.f80 [(.int .i64 a0), (.int .i64 a1)] (.int .i64) K h = F_salvorref01_Compare a0 a1 K h := by kernel_rfl
set_option maxRecDepth 100000 in
theorem S_salvorref01_Compare{h : Heap} {a0 : Int} {a1 : Int} (K : Int → HP) (hF : F_salvorref01_Compare a0 a1 K h) : CallsH Try.prog fn_salvorref01_Compare #[(.int .i64 a0), (.int .i64 a1)] h fun v h' => ∃ x : Int, v = Ty.enc (.int .i64) x ∧ K x h' :=
  callsH_of_fn (P := Try.prog) (fn := Try.f80) (τ := (.int .i64)) follows Try.func80 (by kernel_rfl) (by kernel_rfl) Try.call80 (Eq.mpr (E_salvorref01_Compare a0 a1 K h) hF)


/-- cmp.isNaN[int] -/
def F_cmp_isNaN_int (a0 : Int) (K : Bool → HP) : HP :=
 K (a0 != a0)
set_option maxRecDepth 100000 in
theorem E_cmp_isNaN_int (a0 : Int) (K : Bool → HP) (h : Heap) : fnVC Try.prog [(1000000, .nil)] 6 Try.f81 [(.int .i64 a0)] .bool K h = F_cmp_isNaN_int a0 K h := by kernel_rfl
set_option maxRecDepth 100000 in
theorem S_cmp_isNaN_int{h : Heap} {a0 : Int} (K : Bool → HP) (hF : F_cmp_isNaN_int a0 K h) : CallsH Try.prog fn_cmp_isNaN_int #[(.int .i64 a0)] h fun v h' => ∃ x : Bool, v = Ty.enc .bool x ∧ K x h' :=
  callsH_of_fn (P := Try.prog) (fn := Try.f81) (τ := .bool) follows Try.func81 (by kernel_rfl) (by kernel_rfl) Try.call81 (Eq.mpr (E_cmp_isNaN_int a0 K h) hF)


/-- salvor/lits.Var -/
def F_lits_Var (a0 : Int) (K : Int → HP) : HP :=
 callT Try.prog fn_lits_Right #[(.int .i64 a0)] .bool fun r0 =>
 brB (!r0)
 (K (0 : Int))
 (K (if (IntKind.wrap .i64 (0 - a0)) > a0 then (IntKind.wrap .i64 (0 - a0)) else a0))
set_option maxRecDepth 100000 in
theorem E_lits_Var (a0 : Int) (K : Int → HP) (h : Heap) : fnVC Try.prog [(1000000, .nil)] 10 Try.f82 [(.int .i64 a0)] (.int .i64) K h = F_lits_Var a0 K h := by kernel_rfl
set_option maxRecDepth 100000 in
theorem S_lits_Var{h : Heap} {a0 : Int} (K : Int → HP) (hF : F_lits_Var a0 K h) : CallsH Try.prog fn_lits_Var #[(.int .i64 a0)] h fun v h' => ∃ x : Int, v = Ty.enc (.int .i64) x ∧ K x h' :=
  callsH_of_fn (P := Try.prog) (fn := Try.f82) (τ := (.int .i64)) follows Try.func82 (by kernel_rfl) (by kernel_rfl) Try.call82 (Eq.mpr (E_lits_Var a0 K h) hF)


/-- cmp.isNaN[salvor/lits.Lit] -/
def F_cmp_isNaN_lits_Lit (a0 : Int) (K : Bool → HP) : HP :=
 K (a0 != a0)
set_option maxRecDepth 100000 in
theorem E_cmp_isNaN_lits_Lit (a0 : Int) (K : Bool → HP) (h : Heap) : fnVC Try.prog [(1000000, .nil)] 6 Try.f83 [(.int .i64 a0)] .bool K h = F_cmp_isNaN_lits_Lit a0 K h := by kernel_rfl
set_option maxRecDepth 100000 in
theorem S_cmp_isNaN_lits_Lit{h : Heap} {a0 : Int} (K : Bool → HP) (hF : F_cmp_isNaN_lits_Lit a0 K h) : CallsH Try.prog fn_cmp_isNaN_lits_Lit #[(.int .i64 a0)] h fun v h' => ∃ x : Bool, v = Ty.enc .bool x ∧ K x h' :=
  callsH_of_fn (P := Try.prog) (fn := Try.f83) (τ := .bool) follows Try.func83 (by kernel_rfl) (by kernel_rfl) Try.call83 (Eq.mpr (E_cmp_isNaN_lits_Lit a0 K h) hF)


/-- slices.rotateLeft[salvor/lits.Lit] -/
def F_slices_rotateLeft_lits_Lit (a0 : Sl) (a1 : Int) (K : Unit → HP) : HP :=
 slH ⟨a0.a, a0.len, a0.cap⟩ a1 1 fun s0 =>
 callT Try.prog fn_slices_Reverse_lits_Lit_lits_Lit #[(.slice s0.a s0.len s0.cap)] (.tup .nil) fun r1 =>
 slL ⟨a0.a, a0.len, a0.cap⟩ a1 1 fun s2 =>
 callT Try.prog fn_slices_Reverse_lits_Lit_lits_Lit #[(.slice s2.a s2.len s2.cap)] (.tup .nil) fun r3 =>
 callT Try.prog fn_slices_Reverse_lits_Lit_lits_Lit #[(.slice a0.a a0.len a0.cap)] (.tup .nil) fun r4 =>
 K (())
set_option maxRecDepth 100000 in
theorem E_slices_rotateLeft_lits_Lit (a0 : Sl) (a1 : Int) (K : Unit → HP) (h : Heap) : fnVC Try.prog [(1000000, .nil)] 14 Try.f84 [(.slice a0.a a0.len a0.cap), (.int .i64 a1)] (.tup .nil) K h = F_slices_rotateLeft_lits_Lit a0 a1 K h := by kernel_rfl
set_option maxRecDepth 100000 in
theorem S_slices_rotateLeft_lits_Lit{h : Heap} {a0 : Sl} {a1 : Int} (K : Unit → HP) (hF : F_slices_rotateLeft_lits_Lit a0 a1 K h) : CallsH Try.prog fn_slices_rotateLeft_lits_Lit #[(.slice a0.a a0.len a0.cap), (.int .i64 a1)] h fun v h' => ∃ x : Unit, v = Ty.enc (.tup .nil) x ∧ K x h' :=
  callsH_of_fn (P := Try.prog) (fn := Try.f84) (τ := (.tup .nil)) follows Try.func84 (by kernel_rfl) (by kernel_rfl) Try.call84 (Eq.mpr (E_slices_rotateLeft_lits_Lit a0 a1 K h) hF)


/-- slices.Collect[salvor/lits.Lit] -/
def F_slices_Collect_lits_Lit (a0 : Value) (K : Sl → HP) : HP :=
 callT Try.prog fn_slices_AppendSeq_lits_Lit_lits_Lit #[(.slice none 0 0), a0] .sl fun r0 =>
 K ⟨r0.a, r0.len, r0.cap⟩
set_option maxRecDepth 100000 in
theorem E_slices_Collect_lits_Lit (a0 : Value) (K : Sl → HP) (h : Heap) : fnVC Try.prog [(1000000, .nil)] 5 Try.f85 [a0] .sl K h = F_slices_Collect_lits_Lit a0 K h := by kernel_rfl
set_option maxRecDepth 100000 in
theorem S_slices_Collect_lits_Lit{h : Heap} {a0 : Value} (K : Sl → HP) (hF : F_slices_Collect_lits_Lit a0 K h) : CallsH Try.prog fn_slices_Collect_lits_Lit #[a0] h fun v h' => ∃ x : Sl, v = Ty.enc .sl x ∧ K x h' :=
  callsH_of_fn (P := Try.prog) (fn := Try.f85) (τ := .sl) follows Try.func85 (by kernel_rfl) (by kernel_rfl) Try.call85 (Eq.mpr (E_slices_Collect_lits_Lit a0 K h) hF)


/-- slices.SortFunc[[]salvor/lits.Lit,salvor/lits.Lit] -/
def F_slices_SortFunc_lits_Lit_lits_Lit (a0 : Sl) (a1 : Value) (K : Unit → HP) : HP :=
 callT Try.prog fn_math_bits_Len #[(.int .u64 (IntKind.wrap .u64 (a0.len : Int)))] (.int .i64) fun r0 =>
 callT Try.prog fn_slices_pdqsortCmpFunc_lits_Lit #[(.slice a0.a a0.len a0.cap), (.int .i64 (0 : Int)), (.int .i64 (a0.len : Int)), (.int .i64 r0), a1] (.tup .nil) fun r1 =>
 K (())
set_option maxRecDepth 100000 in
theorem E_slices_SortFunc_lits_Lit_lits_Lit (a0 : Sl) (a1 : Value) (K : Unit → HP) (h : Heap) : fnVC Try.prog [(1000000, .nil)] 14 Try.f86 [(.slice a0.a a0.len a0.cap), a1] (.tup .nil) K h = F_slices_SortFunc_lits_Lit_lits_Lit a0 a1 K h := by kernel_rfl
set_option maxRecDepth 100000 in
theorem S_slices_SortFunc_lits_Lit_lits_Lit{h : Heap} {a0 : Sl} {a1 : Value} (K : Unit → HP) (hF : F_slices_SortFunc_lits_Lit_lits_Lit a0 a1 K h) : CallsH Try.prog fn_slices_SortFunc_lits_Lit_lits_Lit #[(.slice a0.a a0.len a0.cap), a1] h fun v h' => ∃ x : Unit, v = Ty.enc (.tup .nil) x ∧ K x h' :=
  callsH_of_fn (P := Try.prog) (fn := Try.f86) (τ := (.tup .nil)) follows Try.func86 (by kernel_rfl) (by kernel_rfl) Try.call86 (Eq.mpr (E_slices_SortFunc_lits_Lit_lits_Lit a0 a1 K h) hF)


/-- slices.Values[salvor/clauses.Clause,salvor/lits.Lit]$1 -/
def F_slices_Values_clauses_Clause_lits_Lit_1 (a0 : Value) (c0 : Addr) (K : Unit → HP) : HP :=
 ldT .sl c0 fun x0 =>
 lfp (σ := (Int × Unit)) (fun X1 s2 => /-  -/
 brB (decide (s2.1 < (x0.len : Int)))
 (sx x0.a x0.len s2.1 1 fun p3 =>
 ldT (.int .i64) p3 fun x4 =>
 callF Try.prog a0 #[(.int .i64 x4)] .bool fun r5 =>
 brB (!r5)
 (K (()))
 (X1 ((IntKind.wrap .i64 (s2.1 + (1 : Int))), ())))
 (K (())))
 ((0 : Int), ())
set_option maxRecDepth 100000 in
theorem E_slices_Values_clauses_Clause_lits_Lit_1 (a0 : Value) (c0 : Addr) (K : Unit → HP) (h : Heap) : fnVC Try.prog [(1000000, .nil)] 16 Try.f87 [a0, (.pointer (some c0))] (.tup .nil) K h = F_slices_Values_clauses_Clause_lits_Lit_1 a0 c0 K h := by kernel_rfl
set_option maxRecDepth 100000 in
theorem S_slices_Values_clauses_Clause_lits_Lit_1{h : Heap} {a0 : Value} {c0 : Addr} (K : Unit → HP) (hF : F_slices_Values_clauses_Clause_lits_Lit_1 a0 c0 K h) : CallsH Try.prog fn_slices_Values_clauses_Clause_lits_Lit_1 #[a0, (.pointer (some c0))] h fun v h' => ∃ x : Unit, v = Ty.enc (.tup .nil) x ∧ K x h' :=
  callsH_of_fn (P := Try.prog) (fn := Try.f87) (τ := (.tup .nil)) follows Try.func87 (by kernel_rfl) (by kernel_rfl) Try.call87 (Eq.mpr (E_slices_Values_clauses_Clause_lits_Lit_1 a0 c0 K h) hF)


/-- slices.Reverse[[]salvor/lits.Lit,salvor/lits.Lit] -/
def F_slices_Reverse_lits_Lit_lits_Lit (a0 : Sl) (K : Unit → HP) : HP :=
 lfp (σ := (Int × (Int × Unit))) (fun X0 s1 => /- j i -/
 brB (decide (s1.2.1 < s1.1))
 (sx a0.a a0.len s1.1 1 fun p2 =>
 ldT (.int .i64) p2 fun x3 =>
 sx a0.a a0.len s1.2.1 1 fun p4 =>
 ldT (.int .i64) p4 fun x5 =>
 sx a0.a a0.len s1.2.1 1 fun p6 =>
 st1 p6 (.int .i64 x3) <|
 sx a0.a a0.len s1.1 1 fun p7 =>
 st1 p7 (.int .i64 x5) <|
 X0 ((IntKind.wrap .i64 (s1.1 - (1 : Int))), (IntKind.wrap .i64 (s1.2.1 + (1 : Int))), ()))
 (K (())))
 ((IntKind.wrap .i64 ((a0.len : Int) - (1 : Int))), (0 : Int), ())
set_option maxRecDepth 100000 in
theorem E_slices_Reverse_lits_Lit_lits_Lit (a0 : Sl) (K : Unit → HP) (h : Heap) : fnVC Try.prog [(1000000, .nil)] 28 Try.f88 [(.slice a0.a a0.len a0.cap)] (.tup .nil) K h = F_slices_Reverse_lits_Lit_lits_Lit a0 K h := by kernel_rfl
set_option maxRecDepth 100000 in
theorem S_slices_Reverse_lits_Lit_lits_Lit{h : Heap} {a0 : Sl} (K : Unit → HP) (hF : F_slices_Reverse_lits_Lit_lits_Lit a0 K h) : CallsH Try.prog fn_slices_Reverse_lits_Lit_lits_Lit #[(.slice a0.a a0.len a0.cap)] h fun v h' => ∃ x : Unit, v = Ty.enc (.tup .nil) x ∧ K x h' :=
  callsH_of_fn (P := Try.prog) (fn := Try.f88) (τ := (.tup .nil)) follows Try.func88 (by kernel_rfl) (by kernel_rfl) Try.call88 (Eq.mpr (E_slices_Reverse_lits_Lit_lits_Lit a0 K h) hF)


/-- slices.AppendSeq[[]salvor/lits.Lit,salvor/lits.Lit] -/
def F_slices_AppendSeq_lits_Lit_lits_Lit (a0 : Sl) (a1 : Value) (K : Sl → HP) : HP := fun h0 => (
 nw #[(.slice a0.a a0.len a0.cap)] ty_sl_lits_Lit fun b0 =>
 RangeVC Try.prog (.cons (.int .i64) .nil) a1 (fun x1 wrap2 next3 jump4 =>
 wrap2 <|
 ldT .sl (⟨b0, 0, none⟩ : Addr) fun x5 =>
 nw #[(.int .i64 x1.1)] ty_lits_Lit fun b6 =>
 apd ty_lits_Lit 1 8 #[(.int .i64 (0 : Int))] ⟨x5.a, x5.len, x5.cap⟩ ⟨(some (⟨b6, 0, none⟩ : Addr)), 1, 1⟩ fun s7 =>
 st1 (⟨b0, 0, none⟩ : Addr) (.slice s7.a s7.len s7.cap) <|
 next3)
 (ldT .sl (⟨b0, 0, none⟩ : Addr) fun x8 =>
 mkd h0.size <|
 K ⟨x8.a, x8.len, x8.cap⟩)
 (mkd h0.size <|
 K ⟨none, 0, 0⟩)
 []
 []) h0
set_option maxRecDepth 100000 in
theorem E_slices_AppendSeq_lits_Lit_lits_Lit (a0 : Sl) (a1 : Value) (K : Sl → HP) (h : Heap) : fnVC Try.prog [(1000000, .nil), (7, (.cons (.int .i64) .nil))] 13 Try.f89 [(.slice a0.a a0.len a0.cap), a1] .sl K h = F_slices_AppendSeq_lits_Lit_lits_Lit a0 a1 K h := by kernel_rfl
set_option maxRecDepth 100000 in
theorem S_slices_AppendSeq_lits_Lit_lits_Lit{h : Heap} {a0 : Sl} {a1 : Value} (K : Sl → HP) (hF : F_slices_AppendSeq_lits_Lit_lits_Lit a0 a1 K h) : CallsH Try.prog fn_slices_AppendSeq_lits_Lit_lits_Lit #[(.slice a0.a a0.len a0.cap), a1] h fun v h' => ∃ x : Sl, v = Ty.enc .sl x ∧ K x h' :=
  callsH_of_fn (P := Try.prog) (fn := Try.f89) (τ := .sl) follows Try.func89 (by kernel_rfl) (by kernel_rfl) Try.call89 (Eq.mpr (E_slices_AppendSeq_lits_Lit_lits_Lit a0 a1 K h) hF)


/-- slices.pdqsortCmpFunc[salvor/lits.Lit] -/
def F_slices_pdqsortCmpFunc_lits_Lit (a0 : Sl) (a1 : Int) (a2 : Int) (a3 : Int) (a4 : Value) (K : Unit → HP) : HP :=
 lfp (σ := (Bool × (Bool × (Int × (Int × (Int × Unit)))))) (fun X0 s1 => /- wasPartitioned wasBalanced a b limit -/
 jn (σ := (Bool × (Bool × (Int × (Int × (Int × Unit)))))) (fun s3 => /- wasPartitioned wasBalanced a b limit -/
 X0 (s3.1, s3.2.1, s3.2.2.1, s3.2.2.2.1, s3.2.2.2.2.1, ()))
 (fun J2 =>
 brB (decide ((IntKind.wrap .i64 (s1.2.2.2.1 - s1.2.2.1)) ≤ (12 : Int)))
 (callT Try.prog fn_slices_insertionSortCmpFunc_lits_Lit #[(.slice a0.a a0.len a0.cap), (.int .i64 s1.2.2.1), (.int .i64 s1.2.2.2.1), a4] (.tup .nil) fun r4 =>
 K (()))
 (brB (s1.2.2.2.2.1 == (0 : Int))
 (callT Try.prog fn_slices_heapSortCmpFunc_lits_Lit #[(.slice a0.a a0.len a0.cap), (.int .i64 s1.2.2.1), (.int .i64 s1.2.2.2.1), a4] (.tup .nil) fun r5 =>
 K (()))
 (jn (σ := (Int × Unit)) (fun s7 => /- limit -/
 callT Try.prog fn_slices_choosePivotCmpFunc_lits_Lit #[(.slice a0.a a0.len a0.cap), (.int .i64 s1.2.2.1), (.int .i64 s1.2.2.2.1), a4] (.tup (.cons (.int .i64) (.cons (.int .i64) .nil))) fun r8 =>
 jn (σ := (Int × (Int × Unit))) (fun s10 => /- hint pivot -/
 brB s1.2.1
 (brB s1.1
 (jn (σ := Unit) (fun s12 => /- -/
 brB (decide (s1.2.2.1 > (0 : Int)))
 (sx a0.a a0.len (IntKind.wrap .i64 (s1.2.2.1 - (1 : Int))) 1 fun p13 =>
 ldT (.int .i64) p13 fun x14 =>
 sx a0.a a0.len s10.2.1 1 fun p15 =>
 ldT (.int .i64) p15 fun x16 =>
 callF Try.prog a4 #[(.int .i64 x14), (.int .i64 x16)] (.int .i64) fun r17 =>
 brB (!(decide (r17 < (0 : Int))))
 (callT Try.prog fn_slices_partitionEqualCmpFunc_lits_Lit #[(.slice a0.a a0.len a0.cap), (.int .i64 s1.2.2.1), (.int .i64 s1.2.2.2.1), (.int .i64 s10.2.1), a4] (.int .i64) fun r18 =>
 J2 (s1.1, s1.2.1, r18, s1.2.2.2.1, s7.1, ()))
 (callT Try.prog fn_slices_partitionCmpFunc_lits_Lit #[(.slice a0.a a0.len a0.cap), (.int .i64 s1.2.2.1), (.int .i64 s1.2.2.2.1), (.int .i64 s10.2.1), a4] (.tup (.cons (.int .i64) (.cons .bool .nil))) fun r19 =>
 nz (8 : Int) <|
 jn (σ := (Bool × (Int × (Int × Unit)))) (fun s21 => /- wasBalanced a b -/
 J2 (r19.2.1, s21.1, s21.2.1, s21.2.2.1, s7.1, ()))
 (fun J20 =>
 brB (decide ((IntKind.wrap .i64 (r19.1 - s1.2.2.1)) < (IntKind.wrap .i64 (s1.2.2.2.1 - r19.1))))
 (callT Try.prog fn_slices_pdqsortCmpFunc_lits_Lit #[(.slice a0.a a0.len a0.cap), (.int .i64 s1.2.2.1), (.int .i64 r19.1), (.int .i64 s7.1), a4] (.tup .nil) fun r22 =>
 J20 ((decide ((IntKind.wrap .i64 (r19.1 - s1.2.2.1)) ≥ (IntKind.wrap .i64 (Int.tdiv (IntKind.wrap .i64 (s1.2.2.2.1 - s1.2.2.1)) (8 : Int))))), (IntKind.wrap .i64 (r19.1 + (1 : Int))), s1.2.2.2.1, ()))
 (callT Try.prog fn_slices_pdqsortCmpFunc_lits_Lit #[(.slice a0.a a0.len a0.cap), (.int .i64 (IntKind.wrap .i64 (r19.1 + (1 : Int)))), (.int .i64 s1.2.2.2.1), (.int .i64 s7.1), a4] (.tup .nil) fun r23 =>
 J20 ((decide ((IntKind.wrap .i64 (s1.2.2.2.1 - r19.1)) ≥ (IntKind.wrap .i64 (Int.tdiv (IntKind.wrap .i64 (s1.2.2.2.1 - s1.2.2.1)) (8 : Int))))), s1.2.2.1, r19.1, ())))))
 (callT Try.prog fn_slices_partitionCmpFunc_lits_Lit #[(.slice a0.a a0.len a0.cap), (.int .i64 s1.2.2.1), (.int .i64 s1.2.2.2.1), (.int .i64 s10.2.1), a4] (.tup (.cons (.int .i64) (.cons .bool .nil))) fun r24 =>
 nz (8 : Int) <|
 jn (σ := (Bool × (Int × (Int × Unit)))) (fun s26 => /- wasBalanced a b -/
 J2 (r24.2.1, s26.1, s26.2.1, s26.2.2.1, s7.1, ()))
 (fun J25 =>
 brB (decide ((IntKind.wrap .i64 (r24.1 - s1.2.2.1)) < (IntKind.wrap .i64 (s1.2.2.2.1 - r24.1))))
 (callT Try.prog fn_slices_pdqsortCmpFunc_lits_Lit #[(.slice a0.a a0.len a0.cap), (.int .i64 s1.2.2.1), (.int .i64 r24.1), (.int .i64 s7.1), a4] (.tup .nil) fun r27 =>
 J25 ((decide ((IntKind.wrap .i64 (r24.1 - s1.2.2.1)) ≥ (IntKind.wrap .i64 (Int.tdiv (IntKind.wrap .i64 (s1.2.2.2.1 - s1.2.2.1)) (8 : Int))))), (IntKind.wrap .i64 (r24.1 + (1 : Int))), s1.2.2.2.1, ()))
 (callT Try.prog fn_slices_pdqsortCmpFunc_lits_Lit #[(.slice a0.a a0.len a0.cap), (.int .i64 (IntKind.wrap .i64 (r24.1 + (1 : Int)))), (.int .i64 s1.2.2.2.1), (.int .i64 s7.1), a4] (.tup .nil) fun r28 =>
 J25 ((decide ((IntKind.wrap .i64 (s1.2.2.2.1 - r24.1)) ≥ (IntKind.wrap .i64 (Int.tdiv (IntKind.wrap .i64 (s1.2.2.2.1 - s1.2.2.1)) (8 : Int))))), s1.2.2.1, r24.1, ())))))
 (fun J11 =>
 brB (s10.1 == (1 : Int))
 (callT Try.prog fn_slices_partialInsertionSortCmpFunc_lits_Lit #[(.slice a0.a a0.len a0.cap), (.int .i64 s1.2.2.1), (.int .i64 s1.2.2.2.1), a4] .bool fun r29 =>
 brB r29
 (K (()))
 (J11 (())))
 (J11 (()))))
 (jn (σ := Unit) (fun s31 => /- -/
 brB (decide (s1.2.2.1 > (0 : Int)))
 (sx a0.a a0.len (IntKind.wrap .i64 (s1.2.2.1 - (1 : Int))) 1 fun p32 =>
 ldT (.int .i64) p32 fun x33 =>
 sx a0.a a0.len s10.2.1 1 fun p34 =>
 ldT (.int .i64) p34 fun x35 =>
 callF Try.prog a4 #[(.int .i64 x33), (.int .i64 x35)] (.int .i64) fun r36 =>
 brB (!(decide (r36 < (0 : Int))))
 (callT Try.prog fn_slices_partitionEqualCmpFunc_lits_Lit #[(.slice a0.a a0.len a0.cap), (.int .i64 s1.2.2.1), (.int .i64 s1.2.2.2.1), (.int .i64 s10.2.1), a4] (.int .i64) fun r37 =>
 J2 (s1.1, s1.2.1, r37, s1.2.2.2.1, s7.1, ()))
 (callT Try.prog fn_slices_partitionCmpFunc_lits_Lit #[(.slice a0.a a0.len a0.cap), (.int .i64 s1.2.2.1), (.int .i64 s1.2.2.2.1), (.int .i64 s10.2.1), a4] (.tup (.cons (.int .i64) (.cons .bool .nil))) fun r38 =>
 nz (8 : Int) <|
 jn (σ := (Bool × (Int × (Int × Unit)))) (fun s40 => /- wasBalanced a b -/
 J2 (r38.2.1, s40.1, s40.2.1, s40.2.2.1, s7.1, ()))
 (fun J39 =>
 brB (decide ((IntKind.wrap .i64 (r38.1 - s1.2.2.1)) < (IntKind.wrap .i64 (s1.2.2.2.1 - r38.1))))
 (callT Try.prog fn_slices_pdqsortCmpFunc_lits_Lit #[(.slice a0.a a0.len a0.cap), (.int .i64 s1.2.2.1), (.int .i64 r38.1), (.int .i64 s7.1), a4] (.tup .nil) fun r41 =>
 J39 ((decide ((IntKind.wrap .i64 (r38.1 - s1.2.2.1)) ≥ (IntKind.wrap .i64 (Int.tdiv (IntKind.wrap .i64 (s1.2.2.2.1 - s1.2.2.1)) (8 : Int))))), (IntKind.wrap .i64 (r38.1 + (1 : Int))), s1.2.2.2.1, ()))
 (callT Try.prog fn_slices_pdqsortCmpFunc_lits_Lit #[(.slice a0.a a0.len a0.cap), (.int .i64 (IntKind.wrap .i64 (r38.1 + (1 : Int)))), (.int .i64 s1.2.2.2.1), (.int .i64 s7.1), a4] (.tup .nil) fun r42 =>
 J39 ((decide ((IntKind.wrap .i64 (s1.2.2.2.1 - r38.1)) ≥ (IntKind.wrap .i64 (Int.tdiv (IntKind.wrap .i64 (s1.2.2.2.1 - s1.2.2.1)) (8 : Int))))), s1.2.2.1, r38.1, ())))))
 (callT Try.prog fn_slices_partitionCmpFunc_lits_Lit #[(.slice a0.a a0.len a0.cap), (.int .i64 s1.2.2.1), (.int .i64 s1.2.2.2.1), (.int .i64 s10.2.1), a4] (.tup (.cons (.int .i64) (.cons .bool .nil))) fun r43 =>
 nz (8 : Int) <|
 jn (σ := (Bool × (Int × (Int × Unit)))) (fun s45 => /- wasBalanced a b -/
 J2 (r43.2.1, s45.1, s45.2.1, s45.2.2.1, s7.1, ()))
 (fun J44 =>
 brB (decide ((IntKind.wrap .i64 (r43.1 - s1.2.2.1)) < (IntKind.wrap .i64 (s1.2.2.2.1 - r43.1))))
 (callT Try.prog fn_slices_pdqsortCmpFunc_lits_Lit #[(.slice a0.a a0.len a0.cap), (.int .i64 s1.2.2.1), (.int .i64 r43.1), (.int .i64 s7.1), a4] (.tup .nil) fun r46 =>
 J44 ((decide ((IntKind.wrap .i64 (r43.1 - s1.2.2.1)) ≥ (IntKind.wrap .i64 (Int.tdiv (IntKind.wrap .i64 (s1.2.2.2.1 - s1.2.2.1)) (8 : Int))))), (IntKind.wrap .i64 (r43.1 + (1 : Int))), s1.2.2.2.1, ()))
 (callT Try.prog fn_slices_pdqsortCmpFunc_lits_Lit #[(.slice a0.a a0.len a0.cap), (.int .i64 (IntKind.wrap .i64 (r43.1 + (1 : Int)))), (.int .i64 s1.2.2.2.1), (.int .i64 s7.1), a4] (.tup .nil) fun r47 =>
 J44 ((decide ((IntKind.wrap .i64 (s1.2.2.2.1 - r43.1)) ≥ (IntKind.wrap .i64 (Int.tdiv (IntKind.wrap .i64 (s1.2.2.2.1 - s1.2.2.1)) (8 : Int))))), s1.2.2.1, r43.1, ())))))
 (fun J30 =>
 J30 (()))))
 (jn (σ := Unit) (fun s49 => /- -/
 brB (decide (s1.2.2.1 > (0 : Int)))
 (sx a0.a a0.len (IntKind.wrap .i64 (s1.2.2.1 - (1 : Int))) 1 fun p50 =>
 ldT (.int .i64) p50 fun x51 =>
 sx a0.a a0.len s10.2.1 1 fun p52 =>
 ldT (.int .i64) p52 fun x53 =>
 callF Try.prog a4 #[(.int .i64 x51), (.int .i64 x53)] (.int .i64) fun r54 =>
 brB (!(decide (r54 < (0 : Int))))
 (callT Try.prog fn_slices_partitionEqualCmpFunc_lits_Lit #[(.slice a0.a a0.len a0.cap), (.int .i64 s1.2.2.1), (.int .i64 s1.2.2.2.1), (.int .i64 s10.2.1), a4] (.int .i64) fun r55 =>
 J2 (s1.1, s1.2.1, r55, s1.2.2.2.1, s7.1, ()))
 (callT Try.prog fn_slices_partitionCmpFunc_lits_Lit #[(.slice a0.a a0.len a0.cap), (.int .i64 s1.2.2.1), (.int .i64 s1.2.2.2.1), (.int .i64 s10.2.1), a4] (.tup (.cons (.int .i64) (.cons .bool .nil))) fun r56 =>
 nz (8 : Int) <|
 jn (σ := (Bool × (Int × (Int × Unit)))) (fun s58 => /- wasBalanced a b -/
 J2 (r56.2.1, s58.1, s58.2.1, s58.2.2.1, s7.1, ()))
 (fun J57 =>
 brB (decide ((IntKind.wrap .i64 (r56.1 - s1.2.2.1)) < (IntKind.wrap .i64 (s1.2.2.2.1 - r56.1))))
 (callT Try.prog fn_slices_pdqsortCmpFunc_lits_Lit #[(.slice a0.a a0.len a0.cap), (.int .i64 s1.2.2.1), (.int .i64 r56.1), (.int .i64 s7.1), a4] (.tup .nil) fun r59 =>
 J57 ((decide ((IntKind.wrap .i64 (r56.1 - s1.2.2.1)) ≥ (IntKind.wrap .i64 (Int.tdiv (IntKind.wrap .i64 (s1.2.2.2.1 - s1.2.2.1)) (8 : Int))))), (IntKind.wrap .i64 (r56.1 + (1 : Int))), s1.2.2.2.1, ()))
 (callT Try.prog fn_slices_pdqsortCmpFunc_lits_Lit #[(.slice a0.a a0.len a0.cap), (.int .i64 (IntKind.wrap .i64 (r56.1 + (1 : Int)))), (.int .i64 s1.2.2.2.1), (.int .i64 s7.1), a4] (.tup .nil) fun r60 =>
 J57 ((decide ((IntKind.wrap .i64 (s1.2.2.2.1 - r56.1)) ≥ (IntKind.wrap .i64 (Int.tdiv (IntKind.wrap .i64 (s1.2.2.2.1 - s1.2.2.1)) (8 : Int))))), s1.2.2.1, r56.1, ())))))
 (callT Try.prog fn_slices_partitionCmpFunc_lits_Lit #[(.slice a0.a a0.len a0.cap), (.int .i64 s1.2.2.1), (.int .i64 s1.2.2.2.1), (.int .i64 s10.2.1), a4] (.tup (.cons (.int .i64) (.cons .bool .nil))) fun r61 =>
 nz (8 : Int) <|
 jn (σ := (Bool × (Int × (Int × Unit)))) (fun s63 => /- wasBalanced a b -/
 J2 (r61.2.1, s63.1, s63.2.1, s63.2.2.1, s7.1, ()))
 (fun J62 =>
 brB (decide ((IntKind.wrap .i64 (r61.1 - s1.2.2.1)) < (IntKind.wrap .i64 (s1.2.2.2.1 - r61.1))))
 (callT Try.prog fn_slices_pdqsortCmpFunc_lits_Lit #[(.slice a0.a a0.len a0.cap), (.int .i64 s1.2.2.1), (.int .i64 r61.1), (.int .i64 s7.1), a4] (.tup .nil) fun r64 =>
 J62 ((decide ((IntKind.wrap .i64 (r61.1 - s1.2.2.1)) ≥ (IntKind.wrap .i64 (Int.tdiv (IntKind.wrap .i64 (s1.2.2.2.1 - s1.2.2.1)) (8 : Int))))), (IntKind.wrap .i64 (r61.1 + (1 : Int))), s1.2.2.2.1, ()))
 (callT Try.prog fn_slices_pdqsortCmpFunc_lits_Lit #[(.slice a0.a a0.len a0.cap), (.int .i64 (IntKind.wrap .i64 (r61.1 + (1 : Int)))), (.int .i64 s1.2.2.2.1), (.int .i64 s7.1), a4] (.tup .nil) fun r65 =>
 J62 ((decide ((IntKind.wrap .i64 (s1.2.2.2.1 - r61.1)) ≥ (IntKind.wrap .i64 (Int.tdiv (IntKind.wrap .i64 (s1.2.2.2.1 - s1.2.2.1)) (8 : Int))))), s1.2.2.1, r61.1, ())))))
 (fun J48 =>
 J48 (()))))
 (fun J9 =>
 brB (r8.2.1 == (2 : Int))
 (callT Try.prog fn_slices_reverseRangeCmpFunc_lits_Lit #[(.slice a0.a a0.len a0.cap), (.int .i64 s1.2.2.1), (.int .i64 s1.2.2.2.1), a4] (.tup .nil) fun r66 =>
 J9 ((1 : Int), (IntKind.wrap .i64 ((IntKind.wrap .i64 (s1.2.2.2.1 - (1 : Int))) - (IntKind.wrap .i64 (r8.1 - s1.2.2.1)))), ()))
 (J9 (r8.2.1, r8.1, ()))))
 (fun J6 =>
 brB (!s1.2.1)
 (callT Try.prog fn_slices_breakPatternsCmpFunc_lits_Lit #[(.slice a0.a a0.len a0.cap), (.int .i64 s1.2.2.1), (.int .i64 s1.2.2.2.1), a4] (.tup .nil) fun r67 =>
 J6 ((IntKind.wrap .i64 (s1.2.2.2.2.1 - (1 : Int))), ()))
 (J6 (s1.2.2.2.2.1, ())))))))
 (true, true, a1, a2, a3, ())
set_option maxRecDepth 100000 in
theorem E_slices_pdqsortCmpFunc_lits_Lit (a0 : Sl) (a1 : Int) (a2 : Int) (a3 : Int) (a4 : Value) (K : Unit → HP) (h : Heap) : fnVC Try.prog [(1000000, .nil)] 148 Try.f90 [(.slice a0.a a0.len a0.cap), (.int .i64 a1), (.int .i64 a2), (.int .i64 a3), a4] (.tup .nil) K h = F_slices_pdqsortCmpFunc_lits_Lit a0 a1 a2 a3 a4 K h := by kernel_rfl
set_option maxRecDepth 100000 in
theorem S_slices_pdqsortCmpFunc_lits_Lit{h : Heap} {a0 : Sl} {a1 : Int} {a2 : Int} {a3 : Int} {a4 : Value} (K : Unit → HP) (hF : F_slices_pdqsortCmpFunc_lits_Lit a0 a1 a2 a3 a4 K h) : CallsH Try.prog fn_slices_pdqsortCmpFunc_lits_Lit #[(.slice a0.a a0.len a0.cap), (.int .i64 a1), (.int .i64 a2), (.int .i64 a3), a4] h fun v h' => ∃ x : Unit, v = Ty.enc (.tup .nil) x ∧ K x h' :=
  callsH_of_fn (P := Try.prog) (fn := Try.f90) (τ := (.tup .nil)) follows Try.func90 (by kernel_rfl) (by kernel_rfl) Try.call90 (Eq.mpr (E_slices_pdqsortCmpFunc_lits_Lit a0 a1 a2 a3 a4 K h) hF)


/-- math/bits.Len -/
def F_math_bits_Len (a0 : Int) (K : Int → HP) : HP :=
 callT Try.prog fn_math_bits_Len64 #[(.int .u64 a0)] (.int .i64) fun r0 =>
 K r0
set_option maxRecDepth 100000 in
theorem E_math_bits_Len (a0 : Int) (K : Int → HP) (h : Heap) : fnVC Try.prog [(1000000, .nil)] 8 Try.f91 [(.int .u64 a0)] (.int .i64) K h = F_math_bits_Len a0 K h := by kernel_rfl
set_option maxRecDepth 100000 in
theorem S_math_bits_Len{h : Heap} {a0 : Int} (K : Int → HP) (hF : F_math_bits_Len a0 K h) : CallsH Try.prog fn_math_bits_Len #[(.int .u64 a0)] h fun v h' => ∃ x : Int, v = Ty.enc (.int .i64) x ∧ K x h' :=
  callsH_of_fn (P := Try.prog) (fn := Try.f91) (τ := (.int .i64)) follows Try.func91 (by kernel_rfl) (by kernel_rfl) Try.call91 (Eq.mpr (E_math_bits_Len a0 K h) hF)


/-- slices.insertionSortCmpFunc[salvor/lits.Lit] -/
def F_slices_insertionSortCmpFunc_lits_Lit (a0 : Sl) (a1 : Int) (a2 : Int) (a3 : Value) (K : Unit → HP) : HP :=
 lfp (σ := (Int × Unit)) (fun X0 s1 => /- i -/
 brB (decide (s1.1 < a2))
 (jn (σ := (Int × Unit)) (fun s3 => /- j -/
 X0 ((IntKind.wrap .i64 (s1.1 + (1 : Int))), ()))
 (fun J2 =>
 lfp (σ := (Int × Unit)) (fun X4 s5 => /- j -/
 brB (decide (s5.1 > a1))
 (sx a0.a a0.len s5.1 1 fun p6 =>
 ldT (.int .i64) p6 fun x7 =>
 sx a0.a a0.len (IntKind.wrap .i64 (s5.1 - (1 : Int))) 1 fun p8 =>
 ldT (.int .i64) p8 fun x9 =>
 callF Try.prog a3 #[(.int .i64 x7), (.int .i64 x9)] (.int .i64) fun r10 =>
 brB (decide (r10 < (0 : Int)))
 (sx a0.a a0.len (IntKind.wrap .i64 (s5.1 - (1 : Int))) 1 fun p11 =>
 ldT (.int .i64) p11 fun x12 =>
 sx a0.a a0.len s5.1 1 fun p13 =>
 ldT (.int .i64) p13 fun x14 =>
 sx a0.a a0.len s5.1 1 fun p15 =>
 st1 p15 (.int .i64 x12) <|
 sx a0.a a0.len (IntKind.wrap .i64 (s5.1 - (1 : Int))) 1 fun p16 =>
 st1 p16 (.int .i64 x14) <|
 X4 ((IntKind.wrap .i64 (s5.1 - (1 : Int))), ()))
 (J2 (s5.1, ())))
 (J2 (s5.1, ())))
 (s1.1, ())))
 (K (())))
 ((IntKind.wrap .i64 (a1 + (1 : Int))), ())
set_option maxRecDepth 100000 in
theorem E_slices_insertionSortCmpFunc_lits_Lit (a0 : Sl) (a1 : Int) (a2 : Int) (a3 : Value) (K : Unit → HP) (h : Heap) : fnVC Try.prog [(1000000, .nil)] 53 Try.f92 [(.slice a0.a a0.len a0.cap), (.int .i64 a1), (.int .i64 a2), a3] (.tup .nil) K h = F_slices_insertionSortCmpFunc_lits_Lit a0 a1 a2 a3 K h := by kernel_rfl
set_option maxRecDepth 100000 in
theorem S_slices_insertionSortCmpFunc_lits_Lit{h : Heap} {a0 : Sl} {a1 : Int} {a2 : Int} {a3 : Value} (K : Unit → HP) (hF : F_slices_insertionSortCmpFunc_lits_Lit a0 a1 a2 a3 K h) : CallsH Try.prog fn_slices_insertionSortCmpFunc_lits_Lit #[(.slice a0.a a0.len a0.cap), (.int .i64 a1), (.int .i64 a2), a3] h fun v h' => ∃ x : Unit, v = Ty.enc (.tup .nil) x ∧ K x h' :=
  callsH_of_fn (P := Try.prog) (fn := Try.f92) (τ := (.tup .nil)) follows Try.func92 (by kernel_rfl) (by kernel_rfl) Try.call92 (Eq.mpr (E_slices_insertionSortCmpFunc_lits_Lit a0 a1 a2 a3 K h) hF)


/-- slices.heapSortCmpFunc[salvor/lits.Lit] -/
def F_slices_heapSortCmpFunc_lits_Lit (a0 : Sl) (a1 : Int) (a2 : Int) (a3 : Value) (K : Unit → HP) : HP :=
 nz (2 : Int) <|
 lfp (σ := (Int × Unit)) (fun X0 s1 => /- i -/
 brB (decide (s1.1 ≥ (0 : Int)))
 (callT Try.prog fn_slices_siftDownCmpFunc_lits_Lit #[(.slice a0.a a0.len a0.cap), (.int .i64 s1.1), (.int .i64 (IntKind.wrap .i64 (a2 - a1))), (.int .i64 a1), a3] (.tup .nil) fun r2 =>
 X0 ((IntKind.wrap .i64 (s1.1 - (1 : Int))), ()))
 (lfp (σ := (Int × Unit)) (fun X3 s4 => /- i -/
 brB (decide (s4.1 ≥ (0 : Int)))
 (sx a0.a a0.len (IntKind.wrap .i64 (a1 + s4.1)) 1 fun p5 =>
 ldT (.int .i64) p5 fun x6 =>
 sx a0.a a0.len a1 1 fun p7 =>
 ldT (.int .i64) p7 fun x8 =>
 sx a0.a a0.len a1 1 fun p9 =>
 st1 p9 (.int .i64 x6) <|
 sx a0.a a0.len (IntKind.wrap .i64 (a1 + s4.1)) 1 fun p10 =>
 st1 p10 (.int .i64 x8) <|
 callT Try.prog fn_slices_siftDownCmpFunc_lits_Lit #[(.slice a0.a a0.len a0.cap), (.int .i64 (0 : Int)), (.int .i64 s4.1), (.int .i64 a1), a3] (.tup .nil) fun r11 =>
 X3 ((IntKind.wrap .i64 (s4.1 - (1 : Int))), ()))
 (K (())))
 ((IntKind.wrap .i64 ((IntKind.wrap .i64 (a2 - a1)) - (1 : Int))), ())))
 ((IntKind.wrap .i64 (Int.tdiv (IntKind.wrap .i64 ((IntKind.wrap .i64 (a2 - a1)) - (1 : Int))) (2 : Int))), ())
set_option maxRecDepth 100000 in
theorem E_slices_heapSortCmpFunc_lits_Lit (a0 : Sl) (a1 : Int) (a2 : Int) (a3 : Value) (K : Unit → HP) (h : Heap) : fnVC Try.prog [(1000000, .nil)] 60 Try.f93 [(.slice a0.a a0.len a0.cap), (.int .i64 a1), (.int .i64 a2), a3] (.tup .nil) K h = F_slices_heapSortCmpFunc_lits_Lit a0 a1 a2 a3 K h := by kernel_rfl
set_option maxRecDepth 100000 in
theorem S_slices_heapSortCmpFunc_lits_Lit{h : Heap} {a0 : Sl} {a1 : Int} {a2 : Int} {a3 : Value} (K : Unit → HP) (hF : F_slices_heapSortCmpFunc_lits_Lit a0 a1 a2 a3 K h) : CallsH Try.prog fn_slices_heapSortCmpFunc_lits_Lit #[(.slice a0.a a0.len a0.cap), (.int .i64 a1), (.int .i64 a2), a3] h fun v h' => ∃ x : Unit, v = Ty.enc (.tup .nil) x ∧ K x h' :=
  callsH_of_fn (P := Try.prog) (fn := Try.f93) (τ := (.tup .nil)) follows Try.func93 (by kernel_rfl) (by kernel_rfl) Try.call93 (Eq.mpr (E_slices_heapSortCmpFunc_lits_Lit a0 a1 a2 a3 K h) hF)


/-- slices.breakPatternsCmpFunc[salvor/lits.Lit] -/
def F_slices_breakPatternsCmpFunc_lits_Lit (a0 : Sl) (a1 : Int) (a2 : Int) (a3 : Value) (K : Unit → HP) : HP :=
 jn (σ := Unit) (fun s1 => /- -/
 K (()))
 (fun J0 =>
 brB (decide ((IntKind.wrap .i64 (a2 - a1)) ≥ (8 : Int)))
 (nw #[(.int .u64 (0 : Int))] ty_slices_xorshift fun b2 =>
 st1 (⟨b2, 0, none⟩ : Addr) (.int .u64 (IntKind.wrap .u64 (IntKind.wrap .i64 (a2 - a1)))) <|
 callT Try.prog fn_slices_nextPowerOfTwo #[(.int .i64 (IntKind.wrap .i64 (a2 - a1)))] (.int .u64) fun r3 =>
 nz (4 : Int) <|
 lfp (σ := (Int × Unit)) (fun X4 s5 => /- idx -/
 nz (4 : Int) <|
 brB (decide (s5.1 ≤ (IntKind.wrap .i64 ((IntKind.wrap .i64 (a1 + (IntKind.wrap .i64 ((IntKind.wrap .i64 (Int.tdiv (IntKind.wrap .i64 (a2 - a1)) (4 : Int))) * (2 : Int))))) + (1 : Int)))))
 (callT Try.prog fn_slices_xorshift_Next #[(.pointer (some (⟨b2, 0, none⟩ : Addr)))] (.int .u64) fun r6 =>
 jn (σ := (Int × Unit)) (fun s8 => /- other -/
 sx a0.a a0.len (IntKind.wrap .i64 (a1 + s8.1)) 1 fun p9 =>
 ldT (.int .i64) p9 fun x10 =>
 sx a0.a a0.len s5.1 1 fun p11 =>
 ldT (.int .i64) p11 fun x12 =>
 sx a0.a a0.len s5.1 1 fun p13 =>
 st1 p13 (.int .i64 x10) <|
 sx a0.a a0.len (IntKind.wrap .i64 (a1 + s8.1)) 1 fun p14 =>
 st1 p14 (.int .i64 x12) <|
 X4 ((IntKind.wrap .i64 (s5.1 + (1 : Int))), ()))
 (fun J7 =>
 brB (decide ((IntKind.wrap .i64 (bAnd .u64 r6 (IntKind.wrap .u64 (r3 - (1 : Int))))) ≥ (IntKind.wrap .i64 (a2 - a1))))
 (J7 ((IntKind.wrap .i64 ((IntKind.wrap .i64 (bAnd .u64 r6 (IntKind.wrap .u64 (r3 - (1 : Int))))) - (IntKind.wrap .i64 (a2 - a1)))), ()))
 (J7 ((IntKind.wrap .i64 (bAnd .u64 r6 (IntKind.wrap .u64 (r3 - (1 : Int))))), ()))))
 (J0 (())))
 ((IntKind.wrap .i64 ((IntKind.wrap .i64 (a1 + (IntKind.wrap .i64 ((IntKind.wrap .i64 (Int.tdiv (IntKind.wrap .i64 (a2 - a1)) (4 : Int))) * (2 : Int))))) - (1 : Int))), ()))
 (J0 (())))
set_option maxRecDepth 100000 in
theorem E_slices_breakPatternsCmpFunc_lits_Lit (a0 : Sl) (a1 : Int) (a2 : Int) (a3 : Value) (K : Unit → HP) (h : Heap) : fnVC Try.prog [(1000000, .nil)] 67 Try.f94 [(.slice a0.a a0.len a0.cap), (.int .i64 a1), (.int .i64 a2), a3] (.tup .nil) K h = F_slices_breakPatternsCmpFunc_lits_Lit a0 a1 a2 a3 K h := by kernel_rfl
set_option maxRecDepth 100000 in
theorem S_slices_breakPatternsCmpFunc_lits_Lit{h : Heap} {a0 : Sl} {a1 : Int} {a2 : Int} {a3 : Value} (K : Unit → HP) (hF : F_slices_breakPatternsCmpFunc_lits_Lit a0 a1 a2 a3 K h) : CallsH Try.prog fn_slices_breakPatternsCmpFunc_lits_Lit #[(.slice a0.a a0.len a0.cap), (.int .i64 a1), (.int .i64 a2), a3] h fun v h' => ∃ x : Unit, v = Ty.enc (.tup .nil) x ∧ K x h' :=
  callsH_of_fn (P := Try.prog) (fn := Try.f94) (τ := (.tup .nil)) follows Try.func94 (by kernel_rfl) (by kernel_rfl) Try.call94 (Eq.mpr (E_slices_breakPatternsCmpFunc_lits_Lit a0 a1 a2 a3 K h) hF)


/-- slices.choosePivotCmpFunc[salvor/lits.Lit] -/
def F_slices_choosePivotCmpFunc_lits_Lit (a0 : Sl) (a1 : Int) (a2 : Int) (a3 : Value) (K : (Int × (Int × Unit)) → HP) : HP :=
 nw #[(.int .i64 (0 : Int))] ty_int fun b0 =>
 nz (4 : Int) <|
 nz (4 : Int) <|
 nz (4 : Int) <|
 jn (σ := (Int × (Int × (Int × Unit)))) (fun s2 => /- k j i -/
 ldT (.int .i64) (⟨b0, 0, none⟩ : Addr) fun x3 =>
 brB (x3 == (0 : Int))
 (K (s2.2.1, (1 : Int), ()))
 (brB (x3 == (12 : Int))
 (K (s2.2.1, (2 : Int), ()))
 (K (s2.2.1, (0 : Int), ()))))
 (fun J1 =>
 brB (decide ((IntKind.wrap .i64 (a2 - a1)) ≥ (8 : Int)))
 (jn (σ := (Int × (Int × (Int × Unit)))) (fun s5 => /- k j i -/
 callT Try.prog fn_slices_medianCmpFunc_lits_Lit #[(.slice a0.a a0.len a0.cap), (.int .i64 s5.2.2.1), (.int .i64 s5.2.1), (.int .i64 s5.1), (.pointer (some (⟨b0, 0, none⟩ : Addr))), a3] (.int .i64) fun r6 =>
 J1 (s5.1, r6, s5.2.2.1, ()))
 (fun J4 =>
 brB (decide ((IntKind.wrap .i64 (a2 - a1)) ≥ (50 : Int)))
 (callT Try.prog fn_slices_medianAdjacentCmpFunc_lits_Lit #[(.slice a0.a a0.len a0.cap), (.int .i64 (IntKind.wrap .i64 (a1 + (IntKind.wrap .i64 ((IntKind.wrap .i64 (Int.tdiv (IntKind.wrap .i64 (a2 - a1)) (4 : Int))) * (1 : Int)))))), (.pointer (some (⟨b0, 0, none⟩ : Addr))), a3] (.int .i64) fun r7 =>
 callT Try.prog fn_slices_medianAdjacentCmpFunc_lits_Lit #[(.slice a0.a a0.len a0.cap), (.int .i64 (IntKind.wrap .i64 (a1 + (IntKind.wrap .i64 ((IntKind.wrap .i64 (Int.tdiv (IntKind.wrap .i64 (a2 - a1)) (4 : Int))) * (2 : Int)))))), (.pointer (some (⟨b0, 0, none⟩ : Addr))), a3] (.int .i64) fun r8 =>
 callT Try.prog fn_slices_medianAdjacentCmpFunc_lits_Lit #[(.slice a0.a a0.len a0.cap), (.int .i64 (IntKind.wrap .i64 (a1 + (IntKind.wrap .i64 ((IntKind.wrap .i64 (Int.tdiv (IntKind.wrap .i64 (a2 - a1)) (4 : Int))) * (3 : Int)))))), (.pointer (some (⟨b0, 0, none⟩ : Addr))), a3] (.int .i64) fun r9 =>
 J4 (r9, r8, r7, ()))
 (J4 ((IntKind.wrap .i64 (a1 + (IntKind.wrap .i64 ((IntKind.wrap .i64 (Int.tdiv (IntKind.wrap .i64 (a2 - a1)) (4 : Int))) * (3 : Int))))), (IntKind.wrap .i64 (a1 + (IntKind.wrap .i64 ((IntKind.wrap .i64 (Int.tdiv (IntKind.wrap .i64 (a2 - a1)) (4 : Int))) * (2 : Int))))), (IntKind.wrap .i64 (a1 + (IntKind.wrap .i64 ((IntKind.wrap .i64 (Int.tdiv (IntKind.wrap .i64 (a2 - a1)) (4 : Int))) * (1 : Int))))), ()))))
 (J1 ((IntKind.wrap .i64 (a1 + (IntKind.wrap .i64 ((IntKind.wrap .i64 (Int.tdiv (IntKind.wrap .i64 (a2 - a1)) (4 : Int))) * (3 : Int))))), (IntKind.wrap .i64 (a1 + (IntKind.wrap .i64 ((IntKind.wrap .i64 (Int.tdiv (IntKind.wrap .i64 (a2 - a1)) (4 : Int))) * (2 : Int))))), (IntKind.wrap .i64 (a1 + (IntKind.wrap .i64 ((IntKind.wrap .i64 (Int.tdiv (IntKind.wrap .i64 (a2 - a1)) (4 : Int))) * (1 : Int))))), ())))
set_option maxRecDepth 100000 in
theorem E_slices_choosePivotCmpFunc_lits_Lit (a0 : Sl) (a1 : Int) (a2 : Int) (a3 : Value) (K : (Int × (Int × Unit)) → HP) (h : Heap) : fnVC Try.prog [(1000000, .nil)] 63 Try.f95 [(.slice a0.a a0.len a0.cap), (.int .i64 a1), (.int .i64 a2), a3] (.tup (.cons (.int .i64) (.cons (.int .i64) .nil))) K h = F_slices_choosePivotCmpFunc_lits_Lit a0 a1 a2 a3 K h := by kernel_rfl
set_option maxRecDepth 100000 in
theorem S_slices_choosePivotCmpFunc_lits_Lit{h : Heap} {a0 : Sl} {a1 : Int} {a2 : Int} {a3 : Value} (K : (Int × (Int × Unit)) → HP) (hF : F_slices_choosePivotCmpFunc_lits_Lit a0 a1 a2 a3 K h) : CallsH Try.prog fn_slices_choosePivotCmpFunc_lits_Lit #[(.slice a0.a a0.len a0.cap), (.int .i64 a1), (.int .i64 a2), a3] h fun v h' => ∃ x : (Int × (Int × Unit)), v = Ty.enc (.tup (.cons (.int .i64) (.cons (.int .i64) .nil))) x ∧ K x h' :=
  callsH_of_fn (P := Try.prog) (fn := Try.f95) (τ := (.tup (.cons (.int .i64) (.cons (.int .i64) .nil)))) follows Try.func95 (by kernel_rfl) (by kernel_rfl) Try.call95 (Eq.mpr (E_slices_choosePivotCmpFunc_lits_Lit a0 a1 a2 a3 K h) hF)


/-- slices.reverseRangeCmpFunc[salvor/lits.Lit] -/
def F_slices_reverseRangeCmpFunc_lits_Lit (a0 : Sl) (a1 : Int) (a2 : Int) (a3 : Value) (K : Unit → HP) : HP :=
 lfp (σ := (Int × (Int × Unit))) (fun X0 s1 => /- j i -/
 brB (decide (s1.2.1 < s1.1))
 (sx a0.a a0.len s1.1 1 fun p2 =>
 ldT (.int .i64) p2 fun x3 =>
 sx a0.a a0.len s1.2.1 1 fun p4 =>
 ldT (.int .i64) p4 fun x5 =>
 sx a0.a a0.len s1.2.1 1 fun p6 =>
 st1 p6 (.int .i64 x3) <|
 sx a0.a a0.len s1.1 1 fun p7 =>
 st1 p7 (.int .i64 x5) <|
 X0 ((IntKind.wrap .i64 (s1.1 - (1 : Int))), (IntKind.wrap .i64 (s1.2.1 + (1 : Int))), ()))
 (K (())))
 ((IntKind.wrap .i64 (a2 - (1 : Int))), a1, ())
set_option maxRecDepth 100000 in
theorem E_slices_reverseRangeCmpFunc_lits_Lit (a0 : Sl) (a1 : Int) (a2 : Int) (a3 : Value) (K : Unit → HP) (h : Heap) : fnVC Try.prog [(1000000, .nil)] 34 Try.f96 [(.slice a0.a a0.len a0.cap), (.int .i64 a1), (.int .i64 a2), a3] (.tup .nil) K h = F_slices_reverseRangeCmpFunc_lits_Lit a0 a1 a2 a3 K h := by kernel_rfl
set_option maxRecDepth 100000 in
theorem S_slices_reverseRangeCmpFunc_lits_Lit{h : Heap} {a0 : Sl} {a1 : Int} {a2 : Int} {a3 : Value} (K : Unit → HP) (hF : F_slices_reverseRangeCmpFunc_lits_Lit a0 a1 a2 a3 K h) : CallsH Try.prog fn_slices_reverseRangeCmpFunc_lits_Lit #[(.slice a0.a a0.len a0.cap), (.int .i64 a1), (.int .i64 a2), a3] h fun v h' => ∃ x : Unit, v = Ty.enc (.tup .nil) x ∧ K x h' :=
  callsH_of_fn (P := Try.prog) (fn := Try.f96) (τ := (.tup .nil)) follows Try.func96 (by kernel_rfl) (by kernel_rfl) Try.call96 (Eq.mpr (E_slices_reverseRangeCmpFunc_lits_Lit a0 a1 a2 a3 K h) hF)


/-- slices.partialInsertionSortCmpFunc[salvor/lits.Lit] -/
def F_slices_partialInsertionSortCmpFunc_lits_Lit (a0 : Sl) (a1 : Int) (a2 : Int) (a3 : Value) (K : Bool → HP) : HP :=
 lfp (σ := (Int × (Int × (Bool × Unit)))) (fun X0 s1 => /- j i  -/
 brB (decide (s1.1 < (5 : Int)))
 (jn (σ := (Int × Unit)) (fun s3 => /- i -/
 brB (s3.1 == a2)
 (K true)
 (brB (decide ((IntKind.wrap .i64 (a2 - a1)) < (50 : Int)))
 (K false)
 (sx a0.a a0.len (IntKind.wrap .i64 (s3.1 - (1 : Int))) 1 fun p4 =>
 ldT (.int .i64) p4 fun x5 =>
 sx a0.a a0.len s3.1 1 fun p6 =>
 ldT (.int .i64) p6 fun x7 =>
 sx a0.a a0.len s3.1 1 fun p8 =>
 st1 p8 (.int .i64 x5) <|
 sx a0.a a0.len (IntKind.wrap .i64 (s3.1 - (1 : Int))) 1 fun p9 =>
 st1 p9 (.int .i64 x7) <|
 jn (σ := Unit) (fun s11 => /- -/
 jn (σ := Unit) (fun s13 => /- -/
 X0 ((IntKind.wrap .i64 (s1.1 + (1 : Int))), s3.1, s1.2.2.1, ()))
 (fun J12 =>
 brB (decide ((IntKind.wrap .i64 (a2 - s3.1)) ≥ (2 : Int)))
 (jn (σ := (Int × Unit)) (fun s15 => /- j -/
 J12 (()))
 (fun J14 =>
 lfp (σ := (Int × Unit)) (fun X16 s17 => /- j -/
 brB (decide (s17.1 < a2))
 (sx a0.a a0.len s17.1 1 fun p18 =>
 ldT (.int .i64) p18 fun x19 =>
 sx a0.a a0.len (IntKind.wrap .i64 (s17.1 - (1 : Int))) 1 fun p20 =>
 ldT (.int .i64) p20 fun x21 =>
 callF Try.prog a3 #[(.int .i64 x19), (.int .i64 x21)] (.int .i64) fun r22 =>
 brB (!(decide (r22 < (0 : Int))))
 (J14 (s17.1, ()))
 (sx a0.a a0.len (IntKind.wrap .i64 (s17.1 - (1 : Int))) 1 fun p23 =>
 ldT (.int .i64) p23 fun x24 =>
 sx a0.a a0.len s17.1 1 fun p25 =>
 ldT (.int .i64) p25 fun x26 =>
 sx a0.a a0.len s17.1 1 fun p27 =>
 st1 p27 (.int .i64 x24) <|
 sx a0.a a0.len (IntKind.wrap .i64 (s17.1 - (1 : Int))) 1 fun p28 =>
 st1 p28 (.int .i64 x26) <|
 X16 ((IntKind.wrap .i64 (s17.1 + (1 : Int))), ())))
 (J14 (s17.1, ())))
 ((IntKind.wrap .i64 (s3.1 + (1 : Int))), ())))
 (J12 (()))))
 (fun J10 =>
 brB (decide ((IntKind.wrap .i64 (s3.1 - a1)) ≥ (2 : Int)))
 (jn (σ := (Int × Unit)) (fun s30 => /- j -/
 J10 (()))
 (fun J29 =>
 lfp (σ := (Int × Unit)) (fun X31 s32 => /- j -/
 brB (decide (s32.1 ≥ (1 : Int)))
 (sx a0.a a0.len s32.1 1 fun p33 =>
 ldT (.int .i64) p33 fun x34 =>
 sx a0.a a0.len (IntKind.wrap .i64 (s32.1 - (1 : Int))) 1 fun p35 =>
 ldT (.int .i64) p35 fun x36 =>
 callF Try.prog a3 #[(.int .i64 x34), (.int .i64 x36)] (.int .i64) fun r37 =>
 brB (!(decide (r37 < (0 : Int))))
 (J29 (s32.1, ()))
 (sx a0.a a0.len (IntKind.wrap .i64 (s32.1 - (1 : Int))) 1 fun p38 =>
 ldT (.int .i64) p38 fun x39 =>
 sx a0.a a0.len s32.1 1 fun p40 =>
 ldT (.int .i64) p40 fun x41 =>
 sx a0.a a0.len s32.1 1 fun p42 =>
 st1 p42 (.int .i64 x39) <|
 sx a0.a a0.len (IntKind.wrap .i64 (s32.1 - (1 : Int))) 1 fun p43 =>
 st1 p43 (.int .i64 x41) <|
 X31 ((IntKind.wrap .i64 (s32.1 - (1 : Int))), ())))
 (J29 (s32.1, ())))
 ((IntKind.wrap .i64 (s3.1 - (1 : Int))), ())))
 (J10 (()))))))
 (fun J2 =>
 lfp (σ := (Int × Unit)) (fun X44 s45 => /- i -/
 brB (decide (s45.1 < a2))
 (sx a0.a a0.len s45.1 1 fun p46 =>
 ldT (.int .i64) p46 fun x47 =>
 sx a0.a a0.len (IntKind.wrap .i64 (s45.1 - (1 : Int))) 1 fun p48 =>
 ldT (.int .i64) p48 fun x49 =>
 callF Try.prog a3 #[(.int .i64 x47), (.int .i64 x49)] (.int .i64) fun r50 =>
 brB (!(decide (r50 < (0 : Int))))
 (X44 ((IntKind.wrap .i64 (s45.1 + (1 : Int))), ()))
 (J2 (s45.1, ())))
 (J2 (s45.1, ())))
 (s1.2.1, ())))
 (K false))
 ((0 : Int), (IntKind.wrap .i64 (a1 + (1 : Int))), false, ())
set_option maxRecDepth 100000 in
theorem E_slices_partialInsertionSortCmpFunc_lits_Lit (a0 : Sl) (a1 : Int) (a2 : Int) (a3 : Value) (K : Bool → HP) (h : Heap) : fnVC Try.prog [(1000000, .nil)] 141 Try.f97 [(.slice a0.a a0.len a0.cap), (.int .i64 a1), (.int .i64 a2), a3] .bool K h = F_slices_partialInsertionSortCmpFunc_lits_Lit a0 a1 a2 a3 K h := by kernel_rfl
set_option maxRecDepth 100000 in
theorem S_slices_partialInsertionSortCmpFunc_lits_Lit{h : Heap} {a0 : Sl} {a1 : Int} {a2 : Int} {a3 : Value} (K : Bool → HP) (hF : F_slices_partialInsertionSortCmpFunc_lits_Lit a0 a1 a2 a3 K h) : CallsH Try.prog fn_slices_partialInsertionSortCmpFunc_lits_Lit #[(.slice a0.a a0.len a0.cap), (.int .i64 a1), (.int .i64 a2), a3] h fun v h' => ∃ x : Bool, v = Ty.enc .bool x ∧ K x h' :=
  callsH_of_fn (P := Try.prog) (fn := Try.f97) (τ := .bool) follows Try.func97 (by kernel_rfl) (by kernel_rfl) Try.call97 (Eq.mpr (E_slices_partialInsertionSortCmpFunc_lits_Lit a0 a1 a2 a3 K h) hF)


/-- slices.partitionEqualCmpFunc[salvor/lits.Lit] -/
def F_slices_partitionEqualCmpFunc_lits_Lit (a0 : Sl) (a1 : Int) (a2 : Int) (a3 : Int) (a4 : Value) (K : Int → HP) : HP :=
 sx a0.a a0.len a3 1 fun p0 =>
 ldT (.int .i64) p0 fun x1 =>
 sx a0.a a0.len a1 1 fun p2 =>
 ldT (.int .i64) p2 fun x3 =>
 sx a0.a a0.len a1 1 fun p4 =>
 st1 p4 (.int .i64 x1) <|
 sx a0.a a0.len a3 1 fun p5 =>
 st1 p5 (.int .i64 x3) <|
 lfp (σ := (Int × (Int × Unit))) (fun X6 s7 => /- j i -/
 jn (σ := (Int × Unit)) (fun s9 => /- i -/
 jn (σ := (Int × Unit)) (fun s11 => /- j -/
 brB (decide (s9.1 > s11.1))
 (K s9.1)
 (sx a0.a a0.len s11.1 1 fun p12 =>
 ldT (.int .i64) p12 fun x13 =>
 sx a0.a a0.len s9.1 1 fun p14 =>
 ldT (.int .i64) p14 fun x15 =>
 sx a0.a a0.len s9.1 1 fun p16 =>
 st1 p16 (.int .i64 x13) <|
 sx a0.a a0.len s11.1 1 fun p17 =>
 st1 p17 (.int .i64 x15) <|
 X6 ((IntKind.wrap .i64 (s11.1 - (1 : Int))), (IntKind.wrap .i64 (s9.1 + (1 : Int))), ())))
 (fun J10 =>
 lfp (σ := (Int × Unit)) (fun X18 s19 => /- j -/
 brB (decide (s9.1 ≤ s19.1))
 (sx a0.a a0.len a1 1 fun p20 =>
 ldT (.int .i64) p20 fun x21 =>
 sx a0.a a0.len s19.1 1 fun p22 =>
 ldT (.int .i64) p22 fun x23 =>
 callF Try.prog a4 #[(.int .i64 x21), (.int .i64 x23)] (.int .i64) fun r24 =>
 brB (decide (r24 < (0 : Int)))
 (X18 ((IntKind.wrap .i64 (s19.1 - (1 : Int))), ()))
 (J10 (s19.1, ())))
 (J10 (s19.1, ())))
 (s7.1, ())))
 (fun J8 =>
 lfp (σ := (Int × Unit)) (fun X25 s26 => /- i -/
 brB (decide (s26.1 ≤ s7.1))
 (sx a0.a a0.len a1 1 fun p27 =>
 ldT (.int .i64) p27 fun x28 =>
 sx a0.a a0.len s26.1 1 fun p29 =>
 ldT (.int .i64) p29 fun x30 =>
 callF Try.prog a4 #[(.int .i64 x28), (.int .i64 x30)] (.int .i64) fun r31 =>
 brB (!(decide (r31 < (0 : Int))))
 (X25 ((IntKind.wrap .i64 (s26.1 + (1 : Int))), ()))
 (J8 (s26.1, ())))
 (J8 (s26.1, ())))
 (s7.2.1, ())))
 ((IntKind.wrap .i64 (a2 - (1 : Int))), (IntKind.wrap .i64 (a1 + (1 : Int))), ())
set_option maxRecDepth 100000 in
theorem E_slices_partitionEqualCmpFunc_lits_Lit (a0 : Sl) (a1 : Int) (a2 : Int) (a3 : Int) (a4 : Value) (K : Int → HP) (h : Heap) : fnVC Try.prog [(1000000, .nil)] 90 Try.f98 [(.slice a0.a a0.len a0.cap), (.int .i64 a1), (.int .i64 a2), (.int .i64 a3), a4] (.int .i64) K h = F_slices_partitionEqualCmpFunc_lits_Lit a0 a1 a2 a3 a4 K h := by kernel_rfl
set_option maxRecDepth 100000 in
theorem S_slices_partitionEqualCmpFunc_lits_Lit{h : Heap} {a0 : Sl} {a1 : Int} {a2 : Int} {a3 : Int} {a4 : Value} (K : Int → HP) (hF : F_slices_partitionEqualCmpFunc_lits_Lit a0 a1 a2 a3 a4 K h) : CallsH Try.prog fn_slices_partitionEqualCmpFunc_lits_Lit #[(.slice a0.a a0.len a0.cap), (.int .i64 a1), (.int .i64 a2), (.int .i64 a3), a4] h fun v h' => ∃ x : Int, v = Ty.enc (.int .i64) x ∧ K x h' :=
  callsH_of_fn (P := Try.prog) (fn := Try.f98) (τ := (.int .i64)) follows Try.func98 (by kernel_rfl) (by kernel_rfl) Try.call98 (Eq.mpr (E_slices_partitionEqualCmpFunc_lits_Lit a0 a1 a2 a3 a4 K h) hF)


end Go.Proofs.S
