/- The functions of the seat, each as a predicate over its values, printed by a program of ours, and that each is its text's. -/
import Derived.Test.YtjkgncibelojnaaSx10
import Derived.KernelRfl
import Derived.Test.YtjkgncibelojnaaProg
import Derived.Test.YtjkgncibelojnaaClF0
set_option linter.unusedVariables false
namespace Go.Proofs.S
open Go Go.Sx Go.Proofs
def F_rup_first (a0 : Sl) (K : Int → HP) : HP :=
 lfp (σ := (Int × (Int × Unit))) (fun X0 s1 => /-   -/
 brB (decide (s1.1 < (a0.len : Int)))
 (sx a0.a a0.len s1.1 1 fun p2 =>
 ldT (.int .i64) p2 fun x3 =>
 brB (x3 != (0 : Int))
 (K x3)
 (X0 ((IntKind.wrap .i64 (s1.1 + (1 : Int))), s1.2.1, ())))
 (K (0 : Int)))
 ((0 : Int), (0 : Int), ())
set_option maxRecDepth 100000 in
theorem E_rup_first (a0 : Sl) (K : Int → HP) (h : Heap) : fnVC Try.prog [(1000000, .bool)] 15 Try.f56 [(.slice a0.a a0.len a0.cap)] (.int .i64) K h = F_rup_first a0 K h := by kernel_rfl
set_option maxRecDepth 100000 in
theorem S_rup_first{h : Heap} {a0 : Sl} (K : Int → HP) (hF : F_rup_first a0 K h) : CallsH Try.prog fn_rup_first #[(.slice a0.a a0.len a0.cap)] h fun v h' => ∃ x : Int, v = Ty.enc (.int .i64) x ∧ K x h' :=
  callsH_of_fn (P := Try.prog) (fn := Try.f56) (τ := (.int .i64)) follows Try.func56 (by kernel_rfl) (by kernel_rfl) Try.call56 (Eq.mpr (E_rup_first a0 K h) hF)

def F_rup_wrong (a0 : Sl) (a1 : Sl) (K : Int → HP) : HP :=
 callT Try.prog fn_slices_Clone_clauses_Clause_clauses_Clause #[(.slice a0.a a0.len a0.cap)] .sl fun r0 =>
 apd ty_clauses_Clause 1 24 #[(.slice none 0 0)] ⟨r0.a, r0.len, r0.cap⟩ ⟨a1.a, a1.len, a1.cap⟩ fun s1 =>
 lfp (σ := (Int × (Int × Unit))) (fun X2 s3 => /-   -/
 brB (decide (s3.1 < (s1.len : Int)))
 (sx s1.a s1.len s3.1 1 fun p4 =>
 ldT .sl p4 fun x5 =>
 callT Try.prog fn_clauses_Right #[(.slice x5.a x5.len x5.cap)] .bool fun r6 =>
 brB (!r6)
 (K (20 : Int))
 (X2 ((IntKind.wrap .i64 (s3.1 + (1 : Int))), s3.2.1, ())))
 (K (0 : Int)))
 ((0 : Int), (0 : Int), ())
set_option maxRecDepth 100000 in
theorem E_rup_wrong (a0 : Sl) (a1 : Sl) (K : Int → HP) (h : Heap) : fnVC Try.prog [(1000000, .bool)] 20 Try.f57 [(.slice a0.a a0.len a0.cap), (.slice a1.a a1.len a1.cap)] (.int .i64) K h = F_rup_wrong a0 a1 K h := by kernel_rfl
set_option maxRecDepth 100000 in
theorem S_rup_wrong{h : Heap} {a0 : Sl} {a1 : Sl} (K : Int → HP) (hF : F_rup_wrong a0 a1 K h) : CallsH Try.prog fn_rup_wrong #[(.slice a0.a a0.len a0.cap), (.slice a1.a a1.len a1.cap)] h fun v h' => ∃ x : Int, v = Ty.enc (.int .i64) x ∧ K x h' :=
  callsH_of_fn (P := Try.prog) (fn := Try.f57) (τ := (.int .i64)) follows Try.func57 (by kernel_rfl) (by kernel_rfl) Try.call57 (Eq.mpr (E_rup_wrong a0 a1 K h) hF)

def F_rup_many (a0 : Sl) (K : Int → HP) : HP :=
 brB (decide ((a0.len : Int) > (65536 : Int)))
 (K (5 : Int))
 (K (0 : Int))
set_option maxRecDepth 100000 in
theorem E_rup_many (a0 : Sl) (K : Int → HP) (h : Heap) : fnVC Try.prog [(1000000, .bool)] 6 Try.f58 [(.slice a0.a a0.len a0.cap)] (.int .i64) K h = F_rup_many a0 K h := by kernel_rfl
set_option maxRecDepth 100000 in
theorem S_rup_many{h : Heap} {a0 : Sl} (K : Int → HP) (hF : F_rup_many a0 K h) : CallsH Try.prog fn_rup_many #[(.slice a0.a a0.len a0.cap)] h fun v h' => ∃ x : Int, v = Ty.enc (.int .i64) x ∧ K x h' :=
  callsH_of_fn (P := Try.prog) (fn := Try.f58) (τ := (.int .i64)) follows Try.func58 (by kernel_rfl) (by kernel_rfl) Try.call58 (Eq.mpr (E_rup_many a0 K h) hF)

def F_rup_values_next (a0 : Value) (a1 : Sl) (K : (Int × (Int × Unit)) → HP) : HP := fun h0 => (
 nw #[(.int .i64 (0 : Int))] ty_int fun b0 =>
 nw #[(.int .i64 (0 : Int))] ty_lits_Lit fun b1 =>
 nw #[(.int .u8 (2 : Int)), (.int .u8 (3 : Int))] ty_uint8 fun b2 =>
 lfp (σ := (Int × Unit)) (fun X3 s4 => /-  -/
 brB (decide (s4.1 < (2 : Int)))
 (sx (some (⟨b2, 0, none⟩ : Addr)) 2 s4.1 1 fun p5 =>
 ldT (.int .u8) p5 fun x6 =>
 callT Try.prog fn_rup_values_moving #[a0, (.slice a1.a a1.len a1.cap), (.int .u8 x6)] .val fun r7 =>
 RangeVC Try.prog (.cons (.int .i64) (.cons (.int .i64) .nil)) r7 (fun x8 wrap9 next10 jump11 =>
 wrap9 <|
 st1 (⟨b0, 0, none⟩ : Addr) (.int .i64 x8.1) <|
 st1 (⟨b1, 0, none⟩ : Addr) (.int .i64 x8.2.1) <|
 jump11 .ret)
 (X3 ((IntKind.wrap .i64 (s4.1 + (1 : Int))), ()))
 (mkd h0.size <|
 ldT (.int .i64) (⟨b0, 0, none⟩ : Addr) fun x12 =>
 ldT (.int .i64) (⟨b1, 0, none⟩ : Addr) fun x13 =>
 K (x12, x13, ()))
 []
 [])
 (st1 (⟨b0, 0, none⟩ : Addr) (.int .i64 (-1 : Int)) <|
 st1 (⟨b1, 0, none⟩ : Addr) (.int .i64 (0 : Int)) <|
 mkd h0.size <|
 ldT (.int .i64) (⟨b0, 0, none⟩ : Addr) fun x14 =>
 ldT (.int .i64) (⟨b1, 0, none⟩ : Addr) fun x15 =>
 K (x14, x15, ())))
 ((0 : Int), ())) h0
set_option maxRecDepth 100000 in
theorem E_rup_values_next (a0 : Value) (a1 : Sl) (K : (Int × (Int × Unit)) → HP) (h : Heap) : fnVC Try.prog [(1000000, .bool), (20, (.cons (.int .i64) (.cons (.int .i64) .nil)))] 25 Try.f59 [a0, (.slice a1.a a1.len a1.cap)] (.tup (.cons (.int .i64) (.cons (.int .i64) .nil))) K h = F_rup_values_next a0 a1 K h := by kernel_rfl
set_option maxRecDepth 100000 in
theorem S_rup_values_next{h : Heap} {a0 : Value} {a1 : Sl} (K : (Int × (Int × Unit)) → HP) (hF : F_rup_values_next a0 a1 K h) : CallsH Try.prog fn_rup_values_next #[a0, (.slice a1.a a1.len a1.cap)] h fun v h' => ∃ x : (Int × (Int × Unit)), v = Ty.enc (.tup (.cons (.int .i64) (.cons (.int .i64) .nil))) x ∧ K x h' :=
  callsH_of_fn (P := Try.prog) (fn := Try.f59) (τ := (.tup (.cons (.int .i64) (.cons (.int .i64) .nil)))) follows Try.func59 (by kernel_rfl) (by kernel_rfl) Try.call59 (Eq.mpr (E_rup_values_next a0 a1 K h) hF)

def F_rup_needed (a0 : Sl) (a1 : Sl) (K : Sl → HP) : HP :=
 mkm fun b0 =>
 lfp (σ := (Int × (Sl × Unit))) (fun X1 s2 => /- i out -/
 brB (decide (s2.1 ≥ (0 : Int)))
 (jn (σ := (Sl × Unit)) (fun s4 => /- out -/
 X1 ((IntKind.wrap .i64 (s2.1 - (1 : Int))), ⟨s4.1.a, s4.1.len, s4.1.cap⟩, ()))
 (fun J3 =>
 jn (σ := Bool) (fun t6 =>
 brB t6
 (J3 (⟨s2.2.1.a, s2.2.1.len, s2.2.1.cap⟩, ()))
 (nw #[(.int .i64 s2.1)] ty_int fun b7 =>
 apd ty_int 1 8 #[(.int .i64 (0 : Int))] ⟨s2.2.1.a, s2.2.1.len, s2.2.1.cap⟩ ⟨(some (⟨b7, 0, none⟩ : Addr)), 1, 1⟩ fun s8 =>
 sx a0.a a0.len s2.1 1 fun p9 =>
 ldT .sl p9 fun x10 =>
 lfp (σ := (Int × Unit)) (fun X11 s12 => /-  -/
 brB (decide (s12.1 < (x10.len : Int)))
 (sx x10.a x10.len s12.1 1 fun p13 =>
 ldT (.int .i64) p13 fun x14 =>
 callT Try.prog fn_lits_Neg #[(.int .i64 x14)] (.int .i64) fun r15 =>
 mput .i64 (.map (some b0)) r15 (.int .i64 (1 : Int)) <|
 X11 ((IntKind.wrap .i64 (s12.1 + (1 : Int))), ()))
 (J3 (⟨s8.a, s8.len, s8.cap⟩, ())))
 ((0 : Int), ())))
 (fun J5 =>
 brB (decide (s2.1 < (a1.len : Int)))
 (sx a1.a a1.len s2.1 1 fun p16 =>
 ldT (.int .i64) p16 fun x17 =>
 mget (.int .i64) .i64 (.int .i64 (0 : Int)) (.map (some b0)) x17 fun x18 =>
 J5 ((x18 == (0 : Int))))
 (J5 false))))
 (callT Try.prog fn_slices_Reverse_int_int #[(.slice s2.2.1.a s2.2.1.len s2.2.1.cap)] (.tup .nil) fun r19 =>
 K ⟨s2.2.1.a, s2.2.1.len, s2.2.1.cap⟩))
 ((IntKind.wrap .i64 ((a0.len : Int) - (1 : Int))), ⟨none, 0, 0⟩, ())
set_option maxRecDepth 100000 in
theorem E_rup_needed (a0 : Sl) (a1 : Sl) (K : Sl → HP) (h : Heap) : fnVC Try.prog [(1000000, .bool)] 51 Try.f60 [(.slice a0.a a0.len a0.cap), (.slice a1.a a1.len a1.cap)] .sl K h = F_rup_needed a0 a1 K h := by kernel_rfl
set_option maxRecDepth 100000 in
theorem S_rup_needed{h : Heap} {a0 : Sl} {a1 : Sl} (K : Sl → HP) (hF : F_rup_needed a0 a1 K h) : CallsH Try.prog fn_rup_needed #[(.slice a0.a a0.len a0.cap), (.slice a1.a a1.len a1.cap)] h fun v h' => ∃ x : Sl, v = Ty.enc .sl x ∧ K x h' :=
  callsH_of_fn (P := Try.prog) (fn := Try.f60) (τ := .sl) follows Try.func60 (by kernel_rfl) (by kernel_rfl) Try.call60 (Eq.mpr (E_rup_needed a0 a1 K h) hF)

def F_clauses_Norm (a0 : Sl) (K : (Sl × (Bool × (Int × Unit))) → HP) : HP :=
 callT Try.prog fn_clauses_Right #[(.slice a0.a a0.len a0.cap)] .bool fun r0 =>
 brB (!r0)
 (K (⟨none, 0, 0⟩, false, (20 : Int), ()))
 (callT Try.prog fn_clauses_normal #[(.slice a0.a a0.len a0.cap)] .sl fun r1 =>
 callT Try.prog fn_clauses_Always #[(.slice a0.a a0.len a0.cap)] .bool fun r2 =>
 K (⟨r1.a, r1.len, r1.cap⟩, r2, (0 : Int), ()))
set_option maxRecDepth 100000 in
theorem E_clauses_Norm (a0 : Sl) (K : (Sl × (Bool × (Int × Unit))) → HP) (h : Heap) : fnVC Try.prog [(1000000, .nil)] 12 Try.f61 [(.slice a0.a a0.len a0.cap)] (.tup (.cons .sl (.cons .bool (.cons (.int .i64) .nil)))) K h = F_clauses_Norm a0 K h := by kernel_rfl
set_option maxRecDepth 100000 in
theorem S_clauses_Norm{h : Heap} {a0 : Sl} (K : (Sl × (Bool × (Int × Unit))) → HP) (hF : F_clauses_Norm a0 K h) : CallsH Try.prog fn_clauses_Norm #[(.slice a0.a a0.len a0.cap)] h fun v h' => ∃ x : (Sl × (Bool × (Int × Unit))), v = Ty.enc (.tup (.cons .sl (.cons .bool (.cons (.int .i64) .nil)))) x ∧ K x h' :=
  callsH_of_fn (P := Try.prog) (fn := Try.f61) (τ := (.tup (.cons .sl (.cons .bool (.cons (.int .i64) .nil))))) follows Try.func61 (by kernel_rfl) (by kernel_rfl) Try.call61 (Eq.mpr (E_clauses_Norm a0 K h) hF)

def F_slices_SortFunc_lits_Lit_lits_Lit (a0 : Sl) (a1 : Value) (K : Unit → HP) : HP :=
 callT Try.prog fn_math_bits_Len #[(.int .u64 (IntKind.wrap .u64 (a0.len : Int)))] (.int .i64) fun r0 =>
 callT Try.prog fn_slices_pdqsortCmpFunc_lits_Lit #[(.slice a0.a a0.len a0.cap), (.int .i64 (0 : Int)), (.int .i64 (a0.len : Int)), (.int .i64 r0), a1] (.tup .nil) fun r1 =>
 K (())
set_option maxRecDepth 100000 in
theorem E_slices_SortFunc_lits_Lit_lits_Lit (a0 : Sl) (a1 : Value) (K : Unit → HP) (h : Heap) : fnVC Try.prog [(1000000, .nil)] 14 Try.f62 [(.slice a0.a a0.len a0.cap), a1] (.tup .nil) K h = F_slices_SortFunc_lits_Lit_lits_Lit a0 a1 K h := by kernel_rfl
set_option maxRecDepth 100000 in
theorem S_slices_SortFunc_lits_Lit_lits_Lit{h : Heap} {a0 : Sl} {a1 : Value} (K : Unit → HP) (hF : F_slices_SortFunc_lits_Lit_lits_Lit a0 a1 K h) : CallsH Try.prog fn_slices_SortFunc_lits_Lit_lits_Lit #[(.slice a0.a a0.len a0.cap), a1] h fun v h' => ∃ x : Unit, v = Ty.enc (.tup .nil) x ∧ K x h' :=
  callsH_of_fn (P := Try.prog) (fn := Try.f62) (τ := (.tup .nil)) follows Try.func62 (by kernel_rfl) (by kernel_rfl) Try.call62 (Eq.mpr (E_slices_SortFunc_lits_Lit_lits_Lit a0 a1 K h) hF)

def F_lits_Compare (a0 : Int) (a1 : Int) (K : Int → HP) : HP :=
 callT Try.prog fn_lits_Index #[(.int .i64 a0)] (.tup (.cons (.int .i64) (.cons (.int .i64) .nil))) fun r0 =>
 callT Try.prog fn_lits_Index #[(.int .i64 a1)] (.tup (.cons (.int .i64) (.cons (.int .i64) .nil))) fun r1 =>
 brB (r0.2.1 == (0 : Int))
 (brB (r1.2.1 == (0 : Int))
 (callT Try.prog fn_cmp_Compare_int #[(.int .i64 r0.1), (.int .i64 r1.1)] (.int .i64) fun r2 =>
 K r2)
 (brB (r0.2.1 == (0 : Int))
 (K (1 : Int))
 (brB (r1.2.1 == (0 : Int))
 (K (-1 : Int))
 (callT Try.prog fn_cmp_Compare_lits_Lit #[(.int .i64 a0), (.int .i64 a1)] (.int .i64) fun r3 =>
 K r3))))
 (brB (r0.2.1 == (0 : Int))
 (K (1 : Int))
 (brB (r1.2.1 == (0 : Int))
 (K (-1 : Int))
 (callT Try.prog fn_cmp_Compare_lits_Lit #[(.int .i64 a0), (.int .i64 a1)] (.int .i64) fun r4 =>
 K r4)))
set_option maxRecDepth 100000 in
theorem E_lits_Compare (a0 : Int) (a1 : Int) (K : Int → HP) (h : Heap) : fnVC Try.prog [(1000000, .nil)] 38 Try.f63 [(.int .i64 a0), (.int .i64 a1)] (.int .i64) K h = F_lits_Compare a0 a1 K h := by kernel_rfl
set_option maxRecDepth 100000 in
theorem S_lits_Compare{h : Heap} {a0 : Int} {a1 : Int} (K : Int → HP) (hF : F_lits_Compare a0 a1 K h) : CallsH Try.prog fn_lits_Compare #[(.int .i64 a0), (.int .i64 a1)] h fun v h' => ∃ x : Int, v = Ty.enc (.int .i64) x ∧ K x h' :=
  callsH_of_fn (P := Try.prog) (fn := Try.f63) (τ := (.int .i64)) follows Try.func63 (by kernel_rfl) (by kernel_rfl) Try.call63 (Eq.mpr (E_lits_Compare a0 a1 K h) hF)

def F_slices_Clip_lits_Lit_lits_Lit (a0 : Sl) (K : Sl → HP) : HP :=
 slM ⟨a0.a, a0.len, a0.cap⟩ 0 (a0.len : Int) (a0.len : Int) 1 fun s0 =>
 K ⟨s0.a, s0.len, s0.cap⟩
set_option maxRecDepth 100000 in
theorem E_slices_Clip_lits_Lit_lits_Lit (a0 : Sl) (K : Sl → HP) (h : Heap) : fnVC Try.prog [(1000000, .nil)] 9 Try.f64 [(.slice a0.a a0.len a0.cap)] .sl K h = F_slices_Clip_lits_Lit_lits_Lit a0 K h := by kernel_rfl
set_option maxRecDepth 100000 in
theorem S_slices_Clip_lits_Lit_lits_Lit{h : Heap} {a0 : Sl} (K : Sl → HP) (hF : F_slices_Clip_lits_Lit_lits_Lit a0 K h) : CallsH Try.prog fn_slices_Clip_lits_Lit_lits_Lit #[(.slice a0.a a0.len a0.cap)] h fun v h' => ∃ x : Sl, v = Ty.enc .sl x ∧ K x h' :=
  callsH_of_fn (P := Try.prog) (fn := Try.f64) (τ := .sl) follows Try.func64 (by kernel_rfl) (by kernel_rfl) Try.call64 (Eq.mpr (E_slices_Clip_lits_Lit_lits_Lit a0 K h) hF)

def F_rat_candidates_1 (a0 : Value) (c0 : Addr) (c1 : Addr) (K : Unit → HP) : HP :=
 ldT .sl c0 fun x0 =>
 lfp (σ := (Int × Unit)) (fun X1 s2 => /-  -/
 brB (decide (s2.1 < (x0.len : Int)))
 (sx x0.a x0.len s2.1 2 fun p3 =>
 ldA (.cons (.int .i64) (.cons .sl .nil)) p3 fun x4 =>
 nw #[(.int .i64 (0 : Int)), (.slice none 0 0)] ty_rat_Entry fun b5 =>
 st1 (⟨b5, 0, none⟩ : Addr) (.int .i64 x4.1) <|
 st1 ((⟨b5, 0, none⟩ : Addr).add 1) (.slice x4.2.1.a x4.2.1.len x4.2.1.cap) <|
 ldT .sl ((⟨b5, 0, none⟩ : Addr).add 1) fun x6 =>
 ldT (.int .i64) c1 fun x7 =>
 callT Try.prog fn_lits_Neg #[(.int .i64 x7)] (.int .i64) fun r8 =>
 ck ((⟨b5, 0, none⟩ : Addr).add 1) (.slice x6.a x6.len x6.cap) <|
 callT Try.prog fn_slices_Contains_clauses_Clause_lits_Lit #[(.slice x6.a x6.len x6.cap), (.int .i64 r8)] .bool fun r9 =>
 brB r9
 (ldT .sl ((⟨b5, 0, none⟩ : Addr).add 1) fun x10 =>
 callT Try.prog fn_clauses_Always #[(.slice x10.a x10.len x10.cap)] .bool fun r11 =>
 brB (!r11)
 (callF Try.prog a0 #[(.int .i64 s2.1)] .bool fun r12 =>
 brB (!r12)
 (K (()))
 (X1 ((IntKind.wrap .i64 (s2.1 + (1 : Int))), ())))
 (X1 ((IntKind.wrap .i64 (s2.1 + (1 : Int))), ())))
 (X1 ((IntKind.wrap .i64 (s2.1 + (1 : Int))), ())))
 (K (())))
 ((0 : Int), ())
set_option maxRecDepth 100000 in
theorem E_rat_candidates_1 (a0 : Value) (c0 : Addr) (c1 : Addr) (K : Unit → HP) (h : Heap) : fnVC Try.prog [(1000000, .bool)] 31 Try.f65 [a0, (.pointer (some c0)), (.pointer (some c1))] (.tup .nil) K h = F_rat_candidates_1 a0 c0 c1 K h := by kernel_rfl
set_option maxRecDepth 100000 in
theorem S_rat_candidates_1{h : Heap} {a0 : Value} {c0 : Addr} {c1 : Addr} (K : Unit → HP) (hF : F_rat_candidates_1 a0 c0 c1 K h) : CallsH Try.prog fn_rat_candidates_1 #[a0, (.pointer (some c0)), (.pointer (some c1))] h fun v h' => ∃ x : Unit, v = Ty.enc (.tup .nil) x ∧ K x h' :=
  callsH_of_fn (P := Try.prog) (fn := Try.f65) (τ := (.tup .nil)) follows Try.func65 (by kernel_rfl) (by kernel_rfl) Try.call65 (Eq.mpr (E_rat_candidates_1 a0 c0 c1 K h) hF)

def F_slices_Contains_clauses_Clause_lits_Lit (a0 : Sl) (a1 : Int) (K : Bool → HP) : HP :=
 callT Try.prog fn_slices_Index_clauses_Clause_lits_Lit #[(.slice a0.a a0.len a0.cap), (.int .i64 a1)] (.int .i64) fun r0 =>
 K (decide (r0 ≥ (0 : Int)))
set_option maxRecDepth 100000 in
theorem E_slices_Contains_clauses_Clause_lits_Lit (a0 : Sl) (a1 : Int) (K : Bool → HP) (h : Heap) : fnVC Try.prog [(1000000, .nil)] 9 Try.f66 [(.slice a0.a a0.len a0.cap), (.int .i64 a1)] .bool K h = F_slices_Contains_clauses_Clause_lits_Lit a0 a1 K h := by kernel_rfl
set_option maxRecDepth 100000 in
theorem S_slices_Contains_clauses_Clause_lits_Lit{h : Heap} {a0 : Sl} {a1 : Int} (K : Bool → HP) (hF : F_slices_Contains_clauses_Clause_lits_Lit a0 a1 K h) : CallsH Try.prog fn_slices_Contains_clauses_Clause_lits_Lit #[(.slice a0.a a0.len a0.cap), (.int .i64 a1)] h fun v h' => ∃ x : Bool, v = Ty.enc .bool x ∧ K x h' :=
  callsH_of_fn (P := Try.prog) (fn := Try.f66) (τ := .bool) follows Try.func66 (by kernel_rfl) (by kernel_rfl) Try.call66 (Eq.mpr (E_slices_Contains_clauses_Clause_lits_Lit a0 a1 K h) hF)

def F_clauses_Always (a0 : Sl) (K : Bool → HP) : HP := fun h0 => (
 nw #[(.bool false)] ty_bool fun b0 =>
 callT Try.prog fn_clauses_Right #[(.slice a0.a a0.len a0.cap)] .bool fun r1 =>
 brB (!r1)
 (st1 (⟨b0, 0, none⟩ : Addr) (.bool false) <|
 mkd h0.size <|
 ldT .bool (⟨b0, 0, none⟩ : Addr) fun x2 =>
 K x2)
 (nw #[(.int .i64 (0 : Int))] ty_lits_Lit fun b3 =>
 st1 (⟨b3, 0, none⟩ : Addr) (.int .i64 (0 : Int)) <|
 callT Try.prog fn_clauses_sorted #[(.slice a0.a a0.len a0.cap)] .val fun r4 =>
 RangeVC Try.prog (.cons (.int .i64) .nil) r4 (fun x5 wrap6 next7 jump8 =>
 wrap6 <|
 ldT (.int .i64) (⟨b3, 0, none⟩ : Addr) fun x9 =>
 brB (x9 != (0 : Int))
 (ldT (.int .i64) (⟨b3, 0, none⟩ : Addr) fun x10 =>
 callT Try.prog fn_lits_Neg #[(.int .i64 x10)] (.int .i64) fun r11 =>
 brB (x5.1 == r11)
 (st1 (⟨b0, 0, none⟩ : Addr) (.bool true) <|
 jump8 .ret)
 (st1 (⟨b3, 0, none⟩ : Addr) (.int .i64 x5.1) <|
 next7))
 (st1 (⟨b3, 0, none⟩ : Addr) (.int .i64 x5.1) <|
 next7))
 (st1 (⟨b0, 0, none⟩ : Addr) (.bool false) <|
 mkd h0.size <|
 ldT .bool (⟨b0, 0, none⟩ : Addr) fun x12 =>
 K x12)
 (mkd h0.size <|
 ldT .bool (⟨b0, 0, none⟩ : Addr) fun x13 =>
 K x13)
 []
 [])) h0
set_option maxRecDepth 100000 in
theorem E_clauses_Always (a0 : Sl) (K : Bool → HP) (h : Heap) : fnVC Try.prog [(1000000, .nil), (10, (.cons (.int .i64) .nil))] 20 Try.f67 [(.slice a0.a a0.len a0.cap)] .bool K h = F_clauses_Always a0 K h := by kernel_rfl
set_option maxRecDepth 100000 in
theorem S_clauses_Always{h : Heap} {a0 : Sl} (K : Bool → HP) (hF : F_clauses_Always a0 K h) : CallsH Try.prog fn_clauses_Always #[(.slice a0.a a0.len a0.cap)] h fun v h' => ∃ x : Bool, v = Ty.enc .bool x ∧ K x h' :=
  callsH_of_fn (P := Try.prog) (fn := Try.f67) (τ := .bool) follows Try.func67 (by kernel_rfl) (by kernel_rfl) Try.call67 (Eq.mpr (E_clauses_Always a0 K h) hF)

def F_slices_Grow_lits_Lit_lits_Lit (a0 : Sl) (a1 : Int) (K : Sl → HP) : HP :=
 jn (σ := Unit) (fun s1 => /- -/
 jn (σ := (Sl × Unit)) (fun s3 => /- s -/
 K ⟨s3.1.a, s3.1.len, s3.1.cap⟩)
 (fun J2 =>
 brB (decide ((IntKind.wrap .i64 (a1 - (IntKind.wrap .i64 ((a0.cap : Int) - (a0.len : Int))))) > (0 : Int)))
 (slH ⟨a0.a, a0.len, a0.cap⟩ (a0.cap : Int) 1 fun s4 =>
 apz ty_lits_Lit 1 8 #[(.int .i64 (0 : Int))] ⟨s4.a, s4.len, s4.cap⟩ (IntKind.wrap .i64 (a1 - (IntKind.wrap .i64 ((a0.cap : Int) - (a0.len : Int))))) fun s5 =>
 slH ⟨s5.a, s5.len, s5.cap⟩ (a0.len : Int) 1 fun s6 =>
 J2 (⟨s6.a, s6.len, s6.cap⟩, ()))
 (J2 (⟨a0.a, a0.len, a0.cap⟩, ()))))
 (fun J0 =>
 brB (decide (a1 < (0 : Int)))
 (fF /- not known -/)
 (J0 (())))
set_option maxRecDepth 100000 in
theorem E_slices_Grow_lits_Lit_lits_Lit (a0 : Sl) (a1 : Int) (K : Sl → HP) (h : Heap) : fnVC Try.prog [(1000000, .nil)] 27 Try.f68 [(.slice a0.a a0.len a0.cap), (.int .i64 a1)] .sl K h = F_slices_Grow_lits_Lit_lits_Lit a0 a1 K h := by kernel_rfl
set_option maxRecDepth 100000 in
theorem S_slices_Grow_lits_Lit_lits_Lit{h : Heap} {a0 : Sl} {a1 : Int} (K : Sl → HP) (hF : F_slices_Grow_lits_Lit_lits_Lit a0 a1 K h) : CallsH Try.prog fn_slices_Grow_lits_Lit_lits_Lit #[(.slice a0.a a0.len a0.cap), (.int .i64 a1)] h fun v h' => ∃ x : Sl, v = Ty.enc .sl x ∧ K x h' :=
  callsH_of_fn (P := Try.prog) (fn := Try.f68) (τ := .sl) follows Try.func68 (by kernel_rfl) (by kernel_rfl) Try.call68 (Eq.mpr (E_slices_Grow_lits_Lit_lits_Lit a0 a1 K h) hF)

def F_slices_ContainsFunc_rat_Group_rat_Group (a0 : Sl) (a1 : Value) (K : Bool → HP) : HP :=
 callT Try.prog fn_slices_IndexFunc_rat_Group_rat_Group #[(.slice a0.a a0.len a0.cap), a1] (.int .i64) fun r0 =>
 K (decide (r0 ≥ (0 : Int)))
set_option maxRecDepth 100000 in
theorem E_slices_ContainsFunc_rat_Group_rat_Group (a0 : Sl) (a1 : Value) (K : Bool → HP) (h : Heap) : fnVC Try.prog [(1000000, .nil)] 9 Try.f69 [(.slice a0.a a0.len a0.cap), a1] .bool K h = F_slices_ContainsFunc_rat_Group_rat_Group a0 a1 K h := by kernel_rfl
set_option maxRecDepth 100000 in
theorem S_slices_ContainsFunc_rat_Group_rat_Group{h : Heap} {a0 : Sl} {a1 : Value} (K : Bool → HP) (hF : F_slices_ContainsFunc_rat_Group_rat_Group a0 a1 K h) : CallsH Try.prog fn_slices_ContainsFunc_rat_Group_rat_Group #[(.slice a0.a a0.len a0.cap), a1] h fun v h' => ∃ x : Bool, v = Ty.enc .bool x ∧ K x h' :=
  callsH_of_fn (P := Try.prog) (fn := Try.f69) (τ := .bool) follows Try.func69 (by kernel_rfl) (by kernel_rfl) Try.call69 (Eq.mpr (E_slices_ContainsFunc_rat_Group_rat_Group a0 a1 K h) hF)

def F_rat_groups_1 (a0 : (Int × (Sl × Unit))) (c0 : Addr) (K : Bool → HP) : HP :=
 nw #[(.int .i64 a0.1), (.slice a0.2.1.a a0.2.1.len a0.2.1.cap)] ty_rat_Group fun b0 =>
 ldT (.int .i64) (⟨b0, 0, none⟩ : Addr) fun x1 =>
 ldT (.int .i64) c0 fun x2 =>
 K (x1 == x2)
set_option maxRecDepth 100000 in
theorem E_rat_groups_1 (a0 : (Int × (Sl × Unit))) (c0 : Addr) (K : Bool → HP) (h : Heap) : fnVC Try.prog [(1000000, .bool)] 8 Try.f70 [(.agg #[(.int .i64 a0.1), (.slice a0.2.1.a a0.2.1.len a0.2.1.cap)]), (.pointer (some c0))] .bool K h = F_rat_groups_1 a0 c0 K h := by kernel_rfl
set_option maxRecDepth 100000 in
theorem S_rat_groups_1{h : Heap} {a0 : (Int × (Sl × Unit))} {c0 : Addr} (K : Bool → HP) (hF : F_rat_groups_1 a0 c0 K h) : CallsH Try.prog fn_rat_groups_1 #[(.agg #[(.int .i64 a0.1), (.slice a0.2.1.a a0.2.1.len a0.2.1.cap)]), (.pointer (some c0))] h fun v h' => ∃ x : Bool, v = Ty.enc .bool x ∧ K x h' :=
  callsH_of_fn (P := Try.prog) (fn := Try.f70) (τ := .bool) follows Try.func70 (by kernel_rfl) (by kernel_rfl) Try.call70 (Eq.mpr (E_rat_groups_1 a0 c0 K h) hF)

def F_slices_BinarySearch_int_int (a0 : Sl) (a1 : Int) (K : (Int × (Bool × Unit)) → HP) : HP :=
 lfp (σ := (Int × (Int × Unit))) (fun X0 s1 => /- j i -/
 brB (decide (s1.2.1 < s1.1))
 (ge0 (1 : Int) <|
 sx a0.a a0.len (IntKind.wrap .i64 (Int.fdiv (IntKind.wrap .u64 (IntKind.wrap .i64 (s1.2.1 + s1.1))) (2 ^ (min ((1 : Int)).toNat 64)))) 1 fun p2 =>
 ldT (.int .i64) p2 fun x3 =>
 callT Try.prog fn_cmp_Less_int #[(.int .i64 x3), (.int .i64 a1)] .bool fun r4 =>
 jn (σ := (Int × (Int × Unit))) (fun s6 => /- j i -/
 X0 (s6.1, s6.2.1, ()))
 (fun J5 =>
 brB r4
 (J5 (s1.1, (IntKind.wrap .i64 ((IntKind.wrap .i64 (Int.fdiv (IntKind.wrap .u64 (IntKind.wrap .i64 (s1.2.1 + s1.1))) (2 ^ (min ((1 : Int)).toNat 64)))) + (1 : Int))), ()))
 (J5 ((IntKind.wrap .i64 (Int.fdiv (IntKind.wrap .u64 (IntKind.wrap .i64 (s1.2.1 + s1.1))) (2 ^ (min ((1 : Int)).toNat 64)))), s1.2.1, ()))))
 (brB (decide (s1.2.1 < (a0.len : Int)))
 (sx a0.a a0.len s1.2.1 1 fun p7 =>
 ldT (.int .i64) p7 fun x8 =>
 brB (x8 == a1)
 (K (s1.2.1, true, ()))
 (sx a0.a a0.len s1.2.1 1 fun p9 =>
 ldT (.int .i64) p9 fun x10 =>
 callT Try.prog fn_slices_isNaN_int #[(.int .i64 x10)] .bool fun r11 =>
 brB r11
 (callT Try.prog fn_slices_isNaN_int #[(.int .i64 a1)] .bool fun r12 =>
 K (s1.2.1, r12, ()))
 (K (s1.2.1, false, ()))))
 (K (s1.2.1, false, ()))))
 ((a0.len : Int), (0 : Int), ())
set_option maxRecDepth 100000 in
theorem E_slices_BinarySearch_int_int (a0 : Sl) (a1 : Int) (K : (Int × (Bool × Unit)) → HP) (h : Heap) : fnVC Try.prog [(1000000, .nil)] 54 Try.f71 [(.slice a0.a a0.len a0.cap), (.int .i64 a1)] (.tup (.cons (.int .i64) (.cons .bool .nil))) K h = F_slices_BinarySearch_int_int a0 a1 K h := by kernel_rfl
set_option maxRecDepth 100000 in
theorem S_slices_BinarySearch_int_int{h : Heap} {a0 : Sl} {a1 : Int} (K : (Int × (Bool × Unit)) → HP) (hF : F_slices_BinarySearch_int_int a0 a1 K h) : CallsH Try.prog fn_slices_BinarySearch_int_int #[(.slice a0.a a0.len a0.cap), (.int .i64 a1)] h fun v h' => ∃ x : (Int × (Bool × Unit)), v = Ty.enc (.tup (.cons (.int .i64) (.cons .bool .nil))) x ∧ K x h' :=
  callsH_of_fn (P := Try.prog) (fn := Try.f71) (τ := (.tup (.cons (.int .i64) (.cons .bool .nil)))) follows Try.func71 (by kernel_rfl) (by kernel_rfl) Try.call71 (Eq.mpr (E_slices_BinarySearch_int_int a0 a1 K h) hF)

def F_slices_BinarySearchFunc_rat_Entry_rat_Entry_int (a0 : Sl) (a1 : Int) (a2 : Value) (K : (Int × (Bool × Unit)) → HP) : HP :=
 lfp (σ := (Int × (Int × Unit))) (fun X0 s1 => /- j i -/
 brB (decide (s1.2.1 < s1.1))
 (ge0 (1 : Int) <|
 sx a0.a a0.len (IntKind.wrap .i64 (Int.fdiv (IntKind.wrap .u64 (IntKind.wrap .i64 (s1.2.1 + s1.1))) (2 ^ (min ((1 : Int)).toNat 64)))) 2 fun p2 =>
 ldA (.cons (.int .i64) (.cons .sl .nil)) p2 fun x3 =>
 callF Try.prog a2 #[(.agg #[(.int .i64 x3.1), (.slice x3.2.1.a x3.2.1.len x3.2.1.cap)]), (.int .i64 a1)] (.int .i64) fun r4 =>
 jn (σ := (Int × (Int × Unit))) (fun s6 => /- j i -/
 X0 (s6.1, s6.2.1, ()))
 (fun J5 =>
 brB (decide (r4 < (0 : Int)))
 (J5 (s1.1, (IntKind.wrap .i64 ((IntKind.wrap .i64 (Int.fdiv (IntKind.wrap .u64 (IntKind.wrap .i64 (s1.2.1 + s1.1))) (2 ^ (min ((1 : Int)).toNat 64)))) + (1 : Int))), ()))
 (J5 ((IntKind.wrap .i64 (Int.fdiv (IntKind.wrap .u64 (IntKind.wrap .i64 (s1.2.1 + s1.1))) (2 ^ (min ((1 : Int)).toNat 64)))), s1.2.1, ()))))
 (brB (decide (s1.2.1 < (a0.len : Int)))
 (sx a0.a a0.len s1.2.1 2 fun p7 =>
 ldA (.cons (.int .i64) (.cons .sl .nil)) p7 fun x8 =>
 callF Try.prog a2 #[(.agg #[(.int .i64 x8.1), (.slice x8.2.1.a x8.2.1.len x8.2.1.cap)]), (.int .i64 a1)] (.int .i64) fun r9 =>
 K (s1.2.1, (r9 == (0 : Int)), ()))
 (K (s1.2.1, false, ()))))
 ((a0.len : Int), (0 : Int), ())
set_option maxRecDepth 100000 in
theorem E_slices_BinarySearchFunc_rat_Entry_rat_Entry_int (a0 : Sl) (a1 : Int) (a2 : Value) (K : (Int × (Bool × Unit)) → HP) (h : Heap) : fnVC Try.prog [(1000000, .nil)] 49 Try.f72 [(.slice a0.a a0.len a0.cap), (.int .i64 a1), a2] (.tup (.cons (.int .i64) (.cons .bool .nil))) K h = F_slices_BinarySearchFunc_rat_Entry_rat_Entry_int a0 a1 a2 K h := by kernel_rfl
set_option maxRecDepth 100000 in
theorem S_slices_BinarySearchFunc_rat_Entry_rat_Entry_int{h : Heap} {a0 : Sl} {a1 : Int} {a2 : Value} (K : (Int × (Bool × Unit)) → HP) (hF : F_slices_BinarySearchFunc_rat_Entry_rat_Entry_int a0 a1 a2 K h) : CallsH Try.prog fn_slices_BinarySearchFunc_rat_Entry_rat_Entry_int #[(.slice a0.a a0.len a0.cap), (.int .i64 a1), a2] h fun v h' => ∃ x : (Int × (Bool × Unit)), v = Ty.enc (.tup (.cons (.int .i64) (.cons .bool .nil))) x ∧ K x h' :=
  callsH_of_fn (P := Try.prog) (fn := Try.f72) (τ := (.tup (.cons (.int .i64) (.cons .bool .nil)))) follows Try.func72 (by kernel_rfl) (by kernel_rfl) Try.call72 (Eq.mpr (E_slices_BinarySearchFunc_rat_Entry_rat_Entry_int a0 a1 a2 K h) hF)

def F_rat_find_1 (a0 : (Int × (Sl × Unit))) (a1 : Int) (K : Int → HP) : HP :=
 nw #[(.int .i64 a0.1), (.slice a0.2.1.a a0.2.1.len a0.2.1.cap)] ty_rat_Entry fun b0 =>
 ldT (.int .i64) (⟨b0, 0, none⟩ : Addr) fun x1 =>
 brB (decide (x1 < a1))
 (K (-1 : Int))
 (ldT (.int .i64) (⟨b0, 0, none⟩ : Addr) fun x2 =>
 brB (decide (x2 > a1))
 (K (1 : Int))
 (K (0 : Int)))
set_option maxRecDepth 100000 in
theorem E_rat_find_1 (a0 : (Int × (Sl × Unit))) (a1 : Int) (K : Int → HP) (h : Heap) : fnVC Try.prog [(1000000, .bool)] 15 Try.f73 [(.agg #[(.int .i64 a0.1), (.slice a0.2.1.a a0.2.1.len a0.2.1.cap)]), (.int .i64 a1)] (.int .i64) K h = F_rat_find_1 a0 a1 K h := by kernel_rfl
set_option maxRecDepth 100000 in
theorem S_rat_find_1{h : Heap} {a0 : (Int × (Sl × Unit))} {a1 : Int} (K : Int → HP) (hF : F_rat_find_1 a0 a1 K h) : CallsH Try.prog fn_rat_find_1 #[(.agg #[(.int .i64 a0.1), (.slice a0.2.1.a a0.2.1.len a0.2.1.cap)]), (.int .i64 a1)] h fun v h' => ∃ x : Int, v = Ty.enc (.int .i64) x ∧ K x h' :=
  callsH_of_fn (P := Try.prog) (fn := Try.f73) (τ := (.int .i64)) follows Try.func73 (by kernel_rfl) (by kernel_rfl) Try.call73 (Eq.mpr (E_rat_find_1 a0 a1 K h) hF)

def F_lits_Var (a0 : Int) (K : Int → HP) : HP :=
 callT Try.prog fn_lits_Right #[(.int .i64 a0)] .bool fun r0 =>
 brB (!r0)
 (K (0 : Int))
 (K (if (IntKind.wrap .i64 (0 - a0)) > a0 then (IntKind.wrap .i64 (0 - a0)) else a0))
set_option maxRecDepth 100000 in
theorem E_lits_Var (a0 : Int) (K : Int → HP) (h : Heap) : fnVC Try.prog [(1000000, .nil)] 10 Try.f74 [(.int .i64 a0)] (.int .i64) K h = F_lits_Var a0 K h := by kernel_rfl
set_option maxRecDepth 100000 in
theorem S_lits_Var{h : Heap} {a0 : Int} (K : Int → HP) (hF : F_lits_Var a0 K h) : CallsH Try.prog fn_lits_Var #[(.int .i64 a0)] h fun v h' => ∃ x : Int, v = Ty.enc (.int .i64) x ∧ K x h' :=
  callsH_of_fn (P := Try.prog) (fn := Try.f74) (τ := (.int .i64)) follows Try.func74 (by kernel_rfl) (by kernel_rfl) Try.call74 (Eq.mpr (E_lits_Var a0 K h) hF)

def F_lits_Negated (a0 : Int) (K : Bool → HP) : HP :=
 callT Try.prog fn_lits_Right #[(.int .i64 a0)] .bool fun r0 =>
 brB r0
 (K (decide (a0 < (0 : Int))))
 (K false)
set_option maxRecDepth 100000 in
theorem E_lits_Negated (a0 : Int) (K : Bool → HP) (h : Heap) : fnVC Try.prog [(1000000, .nil)] 9 Try.f75 [(.int .i64 a0)] .bool K h = F_lits_Negated a0 K h := by kernel_rfl
set_option maxRecDepth 100000 in
theorem S_lits_Negated{h : Heap} {a0 : Int} (K : Bool → HP) (hF : F_lits_Negated a0 K h) : CallsH Try.prog fn_lits_Negated #[(.int .i64 a0)] h fun v h' => ∃ x : Bool, v = Ty.enc .bool x ∧ K x h' :=
  callsH_of_fn (P := Try.prog) (fn := Try.f75) (τ := .bool) follows Try.func75 (by kernel_rfl) (by kernel_rfl) Try.call75 (Eq.mpr (E_lits_Negated a0 K h) hF)

def F_slices_IndexFunc_clauses_Clause_lits_Lit (a0 : Sl) (a1 : Value) (K : Int → HP) : HP :=
 lfp (σ := (Int × (Int × Unit))) (fun X0 s1 => /-   -/
 brB (decide (s1.1 < (a0.len : Int)))
 (sx a0.a a0.len s1.1 1 fun p2 =>
 ldT (.int .i64) p2 fun x3 =>
 callF Try.prog a1 #[(.int .i64 x3)] .bool fun r4 =>
 brB r4
 (K s1.1)
 (X0 ((IntKind.wrap .i64 (s1.1 + (1 : Int))), s1.2.1, ())))
 (K (-1 : Int)))
 ((0 : Int), (0 : Int), ())
set_option maxRecDepth 100000 in
theorem E_slices_IndexFunc_clauses_Clause_lits_Lit (a0 : Sl) (a1 : Value) (K : Int → HP) (h : Heap) : fnVC Try.prog [(1000000, .nil)] 19 Try.f76 [(.slice a0.a a0.len a0.cap), a1] (.int .i64) K h = F_slices_IndexFunc_clauses_Clause_lits_Lit a0 a1 K h := by kernel_rfl
set_option maxRecDepth 100000 in
theorem S_slices_IndexFunc_clauses_Clause_lits_Lit{h : Heap} {a0 : Sl} {a1 : Value} (K : Int → HP) (hF : F_slices_IndexFunc_clauses_Clause_lits_Lit a0 a1 K h) : CallsH Try.prog fn_slices_IndexFunc_clauses_Clause_lits_Lit #[(.slice a0.a a0.len a0.cap), a1] h fun v h' => ∃ x : Int, v = Ty.enc (.int .i64) x ∧ K x h' :=
  callsH_of_fn (P := Try.prog) (fn := Try.f76) (τ := (.int .i64)) follows Try.func76 (by kernel_rfl) (by kernel_rfl) Try.call76 (Eq.mpr (E_slices_IndexFunc_clauses_Clause_lits_Lit a0 a1 K h) hF)

def F_slices_Reverse_int_int (a0 : Sl) (K : Unit → HP) : HP :=
 lfp (σ := (Int × (Int × Unit))) (fun X0 s1 => /- j i -/
 brB (decide (s1.2.1 < s1.1))
 (sx a0.a a0.len s1.1 1 fun p2 =>
 ldT (.int .i64) p2 fun x3 =>
 sx a0.a a0.len s1.2.1 1 fun p4 =>
 ldT (.int .i64) p4 fun x5 =>
 sx a0.a a0.len s1.2.1 1 fun p6 =>
 st1 p6 (.int .i64 x3) <|
 sx a0.a a0.len s1.1 1 fun p7 =>
 st1 p7 (.int .i64 x5) <|
 X0 ((IntKind.wrap .i64 (s1.1 - (1 : Int))), (IntKind.wrap .i64 (s1.2.1 + (1 : Int))), ()))
 (K (())))
 ((IntKind.wrap .i64 ((a0.len : Int) - (1 : Int))), (0 : Int), ())
set_option maxRecDepth 100000 in
theorem E_slices_Reverse_int_int (a0 : Sl) (K : Unit → HP) (h : Heap) : fnVC Try.prog [(1000000, .nil)] 28 Try.f77 [(.slice a0.a a0.len a0.cap)] (.tup .nil) K h = F_slices_Reverse_int_int a0 K h := by kernel_rfl
set_option maxRecDepth 100000 in
theorem S_slices_Reverse_int_int{h : Heap} {a0 : Sl} (K : Unit → HP) (hF : F_slices_Reverse_int_int a0 K h) : CallsH Try.prog fn_slices_Reverse_int_int #[(.slice a0.a a0.len a0.cap)] h fun v h' => ∃ x : Unit, v = Ty.enc (.tup .nil) x ∧ K x h' :=
  callsH_of_fn (P := Try.prog) (fn := Try.f77) (τ := (.tup .nil)) follows Try.func77 (by kernel_rfl) (by kernel_rfl) Try.call77 (Eq.mpr (E_slices_Reverse_int_int a0 K h) hF)

def F_slices_Clone_clauses_Clause_clauses_Clause (a0 : Sl) (K : Sl → HP) : HP :=
 brB (Option.isNone a0.a)
 (K ⟨none, 0, 0⟩)
 (nw #[] ty_clauses_Clause fun b0 =>
 apd ty_clauses_Clause 1 24 #[(.slice none 0 0)] ⟨(some (⟨b0, 0, none⟩ : Addr)), 0, 0⟩ ⟨a0.a, a0.len, a0.cap⟩ fun s1 =>
 K ⟨s1.a, s1.len, s1.cap⟩)
set_option maxRecDepth 100000 in
theorem E_slices_Clone_clauses_Clause_clauses_Clause (a0 : Sl) (K : Sl → HP) (h : Heap) : fnVC Try.prog [(1000000, .nil)] 8 Try.f78 [(.slice a0.a a0.len a0.cap)] .sl K h = F_slices_Clone_clauses_Clause_clauses_Clause a0 K h := by kernel_rfl
set_option maxRecDepth 100000 in
theorem S_slices_Clone_clauses_Clause_clauses_Clause{h : Heap} {a0 : Sl} (K : Sl → HP) (hF : F_slices_Clone_clauses_Clause_clauses_Clause a0 K h) : CallsH Try.prog fn_slices_Clone_clauses_Clause_clauses_Clause #[(.slice a0.a a0.len a0.cap)] h fun v h' => ∃ x : Sl, v = Ty.enc .sl x ∧ K x h' :=
  callsH_of_fn (P := Try.prog) (fn := Try.f78) (τ := .sl) follows Try.func78 (by kernel_rfl) (by kernel_rfl) Try.call78 (Eq.mpr (E_slices_Clone_clauses_Clause_clauses_Clause a0 K h) hF)

def F_rup_values_moving (a0 : Value) (a1 : Sl) (a2 : Int) (K : Value → HP) : HP :=
 nw (Value.cells a0) ty_rup_values fun b0 =>
 nw #[(.slice a1.a a1.len a1.cap)] ty_sl_clauses_Clause fun b1 =>
 nw #[(.int .u8 a2)] ty_uint8 fun b2 =>
 K (.func (.func fn_rup_values_moving_1) #[] #[(.pointer (some (⟨b1, 0, none⟩ : Addr))), (.pointer (some (⟨b0, 0, none⟩ : Addr))), (.pointer (some (⟨b2, 0, none⟩ : Addr)))])
set_option maxRecDepth 100000 in
theorem E_rup_values_moving (a0 : Value) (a1 : Sl) (a2 : Int) (K : Value → HP) (h : Heap) : fnVC Try.prog [(1000000, .bool)] 8 Try.f79 [a0, (.slice a1.a a1.len a1.cap), (.int .u8 a2)] .val K h = F_rup_values_moving a0 a1 a2 K h := by kernel_rfl
set_option maxRecDepth 100000 in
theorem S_rup_values_moving{h : Heap} {a0 : Value} {a1 : Sl} {a2 : Int} (K : Value → HP) (hF : F_rup_values_moving a0 a1 a2 K h) : CallsH Try.prog fn_rup_values_moving #[a0, (.slice a1.a a1.len a1.cap), (.int .u8 a2)] h fun v h' => ∃ x : Value, v = Ty.enc .val x ∧ K x h' :=
  callsH_of_fn (P := Try.prog) (fn := Try.f79) (τ := .val) follows Try.func79 (by kernel_rfl) (by kernel_rfl) Try.call79 (Eq.mpr (E_rup_values_moving a0 a1 a2 K h) hF)

def F_clauses_normal (a0 : Sl) (K : Sl → HP) : HP := fun h0 => (
 nw #[(.slice none 0 0)] ty_clauses_Clause fun b0 =>
 callT Try.prog fn_clauses_sorted #[(.slice a0.a a0.len a0.cap)] .val fun r1 =>
 RangeVC Try.prog (.cons (.int .i64) .nil) r1 (fun x2 wrap3 next4 jump5 =>
 wrap3 <|
 ldT .sl (⟨b0, 0, none⟩ : Addr) fun x6 =>
 nw #[(.int .i64 x2.1)] ty_lits_Lit fun b7 =>
 apd ty_lits_Lit 1 8 #[(.int .i64 (0 : Int))] ⟨x6.a, x6.len, x6.cap⟩ ⟨(some (⟨b7, 0, none⟩ : Addr)), 1, 1⟩ fun s8 =>
 st1 (⟨b0, 0, none⟩ : Addr) (.slice s8.a s8.len s8.cap) <|
 next4)
 (ldT .sl (⟨b0, 0, none⟩ : Addr) fun x9 =>
 mkd h0.size <|
 K ⟨x9.a, x9.len, x9.cap⟩)
 (mkd h0.size <|
 K ⟨none, 0, 0⟩)
 []
 []) h0
set_option maxRecDepth 100000 in
theorem E_clauses_normal (a0 : Sl) (K : Sl → HP) (h : Heap) : fnVC Try.prog [(1000000, .nil), (7, (.cons (.int .i64) .nil))] 13 Try.f80 [(.slice a0.a a0.len a0.cap)] .sl K h = F_clauses_normal a0 K h := by kernel_rfl
set_option maxRecDepth 100000 in
theorem S_clauses_normal{h : Heap} {a0 : Sl} (K : Sl → HP) (hF : F_clauses_normal a0 K h) : CallsH Try.prog fn_clauses_normal #[(.slice a0.a a0.len a0.cap)] h fun v h' => ∃ x : Sl, v = Ty.enc .sl x ∧ K x h' :=
  callsH_of_fn (P := Try.prog) (fn := Try.f80) (τ := .sl) follows Try.func80 (by kernel_rfl) (by kernel_rfl) Try.call80 (Eq.mpr (E_clauses_normal a0 K h) hF)

def F_slices_pdqsortCmpFunc_lits_Lit (a0 : Sl) (a1 : Int) (a2 : Int) (a3 : Int) (a4 : Value) (K : Unit → HP) : HP :=
 lfp (σ := (Bool × (Bool × (Int × (Int × (Int × Unit)))))) (fun X0 s1 => /- wasPartitioned wasBalanced a b limit -/
 jn (σ := (Bool × (Bool × (Int × (Int × (Int × Unit)))))) (fun s3 => /- wasPartitioned wasBalanced a b limit -/
 X0 (s3.1, s3.2.1, s3.2.2.1, s3.2.2.2.1, s3.2.2.2.2.1, ()))
 (fun J2 =>
 brB (decide ((IntKind.wrap .i64 (s1.2.2.2.1 - s1.2.2.1)) ≤ (12 : Int)))
 (callT Try.prog fn_slices_insertionSortCmpFunc_lits_Lit #[(.slice a0.a a0.len a0.cap), (.int .i64 s1.2.2.1), (.int .i64 s1.2.2.2.1), a4] (.tup .nil) fun r4 =>
 K (()))
 (brB (s1.2.2.2.2.1 == (0 : Int))
 (callT Try.prog fn_slices_heapSortCmpFunc_lits_Lit #[(.slice a0.a a0.len a0.cap), (.int .i64 s1.2.2.1), (.int .i64 s1.2.2.2.1), a4] (.tup .nil) fun r5 =>
 K (()))
 (jn (σ := (Int × Unit)) (fun s7 => /- limit -/
 callT Try.prog fn_slices_choosePivotCmpFunc_lits_Lit #[(.slice a0.a a0.len a0.cap), (.int .i64 s1.2.2.1), (.int .i64 s1.2.2.2.1), a4] (.tup (.cons (.int .i64) (.cons (.int .i64) .nil))) fun r8 =>
 jn (σ := (Int × (Int × Unit))) (fun s10 => /- hint pivot -/
 brB s1.2.1
 (brB s1.1
 (jn (σ := Unit) (fun s12 => /- -/
 brB (decide (s1.2.2.1 > (0 : Int)))
 (sx a0.a a0.len (IntKind.wrap .i64 (s1.2.2.1 - (1 : Int))) 1 fun p13 =>
 ldT (.int .i64) p13 fun x14 =>
 sx a0.a a0.len s10.2.1 1 fun p15 =>
 ldT (.int .i64) p15 fun x16 =>
 callF Try.prog a4 #[(.int .i64 x14), (.int .i64 x16)] (.int .i64) fun r17 =>
 brB (!(decide (r17 < (0 : Int))))
 (callT Try.prog fn_slices_partitionEqualCmpFunc_lits_Lit #[(.slice a0.a a0.len a0.cap), (.int .i64 s1.2.2.1), (.int .i64 s1.2.2.2.1), (.int .i64 s10.2.1), a4] (.int .i64) fun r18 =>
 J2 (s1.1, s1.2.1, r18, s1.2.2.2.1, s7.1, ()))
 (callT Try.prog fn_slices_partitionCmpFunc_lits_Lit #[(.slice a0.a a0.len a0.cap), (.int .i64 s1.2.2.1), (.int .i64 s1.2.2.2.1), (.int .i64 s10.2.1), a4] (.tup (.cons (.int .i64) (.cons .bool .nil))) fun r19 =>
 nz (8 : Int) <|
 jn (σ := (Bool × (Int × (Int × Unit)))) (fun s21 => /- wasBalanced a b -/
 J2 (r19.2.1, s21.1, s21.2.1, s21.2.2.1, s7.1, ()))
 (fun J20 =>
 brB (decide ((IntKind.wrap .i64 (r19.1 - s1.2.2.1)) < (IntKind.wrap .i64 (s1.2.2.2.1 - r19.1))))
 (callT Try.prog fn_slices_pdqsortCmpFunc_lits_Lit #[(.slice a0.a a0.len a0.cap), (.int .i64 s1.2.2.1), (.int .i64 r19.1), (.int .i64 s7.1), a4] (.tup .nil) fun r22 =>
 J20 ((decide ((IntKind.wrap .i64 (r19.1 - s1.2.2.1)) ≥ (IntKind.wrap .i64 (Int.tdiv (IntKind.wrap .i64 (s1.2.2.2.1 - s1.2.2.1)) (8 : Int))))), (IntKind.wrap .i64 (r19.1 + (1 : Int))), s1.2.2.2.1, ()))
 (callT Try.prog fn_slices_pdqsortCmpFunc_lits_Lit #[(.slice a0.a a0.len a0.cap), (.int .i64 (IntKind.wrap .i64 (r19.1 + (1 : Int)))), (.int .i64 s1.2.2.2.1), (.int .i64 s7.1), a4] (.tup .nil) fun r23 =>
 J20 ((decide ((IntKind.wrap .i64 (s1.2.2.2.1 - r19.1)) ≥ (IntKind.wrap .i64 (Int.tdiv (IntKind.wrap .i64 (s1.2.2.2.1 - s1.2.2.1)) (8 : Int))))), s1.2.2.1, r19.1, ())))))
 (callT Try.prog fn_slices_partitionCmpFunc_lits_Lit #[(.slice a0.a a0.len a0.cap), (.int .i64 s1.2.2.1), (.int .i64 s1.2.2.2.1), (.int .i64 s10.2.1), a4] (.tup (.cons (.int .i64) (.cons .bool .nil))) fun r24 =>
 nz (8 : Int) <|
 jn (σ := (Bool × (Int × (Int × Unit)))) (fun s26 => /- wasBalanced a b -/
 J2 (r24.2.1, s26.1, s26.2.1, s26.2.2.1, s7.1, ()))
 (fun J25 =>
 brB (decide ((IntKind.wrap .i64 (r24.1 - s1.2.2.1)) < (IntKind.wrap .i64 (s1.2.2.2.1 - r24.1))))
 (callT Try.prog fn_slices_pdqsortCmpFunc_lits_Lit #[(.slice a0.a a0.len a0.cap), (.int .i64 s1.2.2.1), (.int .i64 r24.1), (.int .i64 s7.1), a4] (.tup .nil) fun r27 =>
 J25 ((decide ((IntKind.wrap .i64 (r24.1 - s1.2.2.1)) ≥ (IntKind.wrap .i64 (Int.tdiv (IntKind.wrap .i64 (s1.2.2.2.1 - s1.2.2.1)) (8 : Int))))), (IntKind.wrap .i64 (r24.1 + (1 : Int))), s1.2.2.2.1, ()))
 (callT Try.prog fn_slices_pdqsortCmpFunc_lits_Lit #[(.slice a0.a a0.len a0.cap), (.int .i64 (IntKind.wrap .i64 (r24.1 + (1 : Int)))), (.int .i64 s1.2.2.2.1), (.int .i64 s7.1), a4] (.tup .nil) fun r28 =>
 J25 ((decide ((IntKind.wrap .i64 (s1.2.2.2.1 - r24.1)) ≥ (IntKind.wrap .i64 (Int.tdiv (IntKind.wrap .i64 (s1.2.2.2.1 - s1.2.2.1)) (8 : Int))))), s1.2.2.1, r24.1, ())))))
 (fun J11 =>
 brB (s10.1 == (1 : Int))
 (callT Try.prog fn_slices_partialInsertionSortCmpFunc_lits_Lit #[(.slice a0.a a0.len a0.cap), (.int .i64 s1.2.2.1), (.int .i64 s1.2.2.2.1), a4] .bool fun r29 =>
 brB r29
 (K (()))
 (J11 (())))
 (J11 (()))))
 (jn (σ := Unit) (fun s31 => /- -/
 brB (decide (s1.2.2.1 > (0 : Int)))
 (sx a0.a a0.len (IntKind.wrap .i64 (s1.2.2.1 - (1 : Int))) 1 fun p32 =>
 ldT (.int .i64) p32 fun x33 =>
 sx a0.a a0.len s10.2.1 1 fun p34 =>
 ldT (.int .i64) p34 fun x35 =>
 callF Try.prog a4 #[(.int .i64 x33), (.int .i64 x35)] (.int .i64) fun r36 =>
 brB (!(decide (r36 < (0 : Int))))
 (callT Try.prog fn_slices_partitionEqualCmpFunc_lits_Lit #[(.slice a0.a a0.len a0.cap), (.int .i64 s1.2.2.1), (.int .i64 s1.2.2.2.1), (.int .i64 s10.2.1), a4] (.int .i64) fun r37 =>
 J2 (s1.1, s1.2.1, r37, s1.2.2.2.1, s7.1, ()))
 (callT Try.prog fn_slices_partitionCmpFunc_lits_Lit #[(.slice a0.a a0.len a0.cap), (.int .i64 s1.2.2.1), (.int .i64 s1.2.2.2.1), (.int .i64 s10.2.1), a4] (.tup (.cons (.int .i64) (.cons .bool .nil))) fun r38 =>
 nz (8 : Int) <|
 jn (σ := (Bool × (Int × (Int × Unit)))) (fun s40 => /- wasBalanced a b -/
 J2 (r38.2.1, s40.1, s40.2.1, s40.2.2.1, s7.1, ()))
 (fun J39 =>
 brB (decide ((IntKind.wrap .i64 (r38.1 - s1.2.2.1)) < (IntKind.wrap .i64 (s1.2.2.2.1 - r38.1))))
 (callT Try.prog fn_slices_pdqsortCmpFunc_lits_Lit #[(.slice a0.a a0.len a0.cap), (.int .i64 s1.2.2.1), (.int .i64 r38.1), (.int .i64 s7.1), a4] (.tup .nil) fun r41 =>
 J39 ((decide ((IntKind.wrap .i64 (r38.1 - s1.2.2.1)) ≥ (IntKind.wrap .i64 (Int.tdiv (IntKind.wrap .i64 (s1.2.2.2.1 - s1.2.2.1)) (8 : Int))))), (IntKind.wrap .i64 (r38.1 + (1 : Int))), s1.2.2.2.1, ()))
 (callT Try.prog fn_slices_pdqsortCmpFunc_lits_Lit #[(.slice a0.a a0.len a0.cap), (.int .i64 (IntKind.wrap .i64 (r38.1 + (1 : Int)))), (.int .i64 s1.2.2.2.1), (.int .i64 s7.1), a4] (.tup .nil) fun r42 =>
 J39 ((decide ((IntKind.wrap .i64 (s1.2.2.2.1 - r38.1)) ≥ (IntKind.wrap .i64 (Int.tdiv (IntKind.wrap .i64 (s1.2.2.2.1 - s1.2.2.1)) (8 : Int))))), s1.2.2.1, r38.1, ())))))
 (callT Try.prog fn_slices_partitionCmpFunc_lits_Lit #[(.slice a0.a a0.len a0.cap), (.int .i64 s1.2.2.1), (.int .i64 s1.2.2.2.1), (.int .i64 s10.2.1), a4] (.tup (.cons (.int .i64) (.cons .bool .nil))) fun r43 =>
 nz (8 : Int) <|
 jn (σ := (Bool × (Int × (Int × Unit)))) (fun s45 => /- wasBalanced a b -/
 J2 (r43.2.1, s45.1, s45.2.1, s45.2.2.1, s7.1, ()))
 (fun J44 =>
 brB (decide ((IntKind.wrap .i64 (r43.1 - s1.2.2.1)) < (IntKind.wrap .i64 (s1.2.2.2.1 - r43.1))))
 (callT Try.prog fn_slices_pdqsortCmpFunc_lits_Lit #[(.slice a0.a a0.len a0.cap), (.int .i64 s1.2.2.1), (.int .i64 r43.1), (.int .i64 s7.1), a4] (.tup .nil) fun r46 =>
 J44 ((decide ((IntKind.wrap .i64 (r43.1 - s1.2.2.1)) ≥ (IntKind.wrap .i64 (Int.tdiv (IntKind.wrap .i64 (s1.2.2.2.1 - s1.2.2.1)) (8 : Int))))), (IntKind.wrap .i64 (r43.1 + (1 : Int))), s1.2.2.2.1, ()))
 (callT Try.prog fn_slices_pdqsortCmpFunc_lits_Lit #[(.slice a0.a a0.len a0.cap), (.int .i64 (IntKind.wrap .i64 (r43.1 + (1 : Int)))), (.int .i64 s1.2.2.2.1), (.int .i64 s7.1), a4] (.tup .nil) fun r47 =>
 J44 ((decide ((IntKind.wrap .i64 (s1.2.2.2.1 - r43.1)) ≥ (IntKind.wrap .i64 (Int.tdiv (IntKind.wrap .i64 (s1.2.2.2.1 - s1.2.2.1)) (8 : Int))))), s1.2.2.1, r43.1, ())))))
 (fun J30 =>
 J30 (()))))
 (jn (σ := Unit) (fun s49 => /- -/
 brB (decide (s1.2.2.1 > (0 : Int)))
 (sx a0.a a0.len (IntKind.wrap .i64 (s1.2.2.1 - (1 : Int))) 1 fun p50 =>
 ldT (.int .i64) p50 fun x51 =>
 sx a0.a a0.len s10.2.1 1 fun p52 =>
 ldT (.int .i64) p52 fun x53 =>
 callF Try.prog a4 #[(.int .i64 x51), (.int .i64 x53)] (.int .i64) fun r54 =>
 brB (!(decide (r54 < (0 : Int))))
 (callT Try.prog fn_slices_partitionEqualCmpFunc_lits_Lit #[(.slice a0.a a0.len a0.cap), (.int .i64 s1.2.2.1), (.int .i64 s1.2.2.2.1), (.int .i64 s10.2.1), a4] (.int .i64) fun r55 =>
 J2 (s1.1, s1.2.1, r55, s1.2.2.2.1, s7.1, ()))
 (callT Try.prog fn_slices_partitionCmpFunc_lits_Lit #[(.slice a0.a a0.len a0.cap), (.int .i64 s1.2.2.1), (.int .i64 s1.2.2.2.1), (.int .i64 s10.2.1), a4] (.tup (.cons (.int .i64) (.cons .bool .nil))) fun r56 =>
 nz (8 : Int) <|
 jn (σ := (Bool × (Int × (Int × Unit)))) (fun s58 => /- wasBalanced a b -/
 J2 (r56.2.1, s58.1, s58.2.1, s58.2.2.1, s7.1, ()))
 (fun J57 =>
 brB (decide ((IntKind.wrap .i64 (r56.1 - s1.2.2.1)) < (IntKind.wrap .i64 (s1.2.2.2.1 - r56.1))))
 (callT Try.prog fn_slices_pdqsortCmpFunc_lits_Lit #[(.slice a0.a a0.len a0.cap), (.int .i64 s1.2.2.1), (.int .i64 r56.1), (.int .i64 s7.1), a4] (.tup .nil) fun r59 =>
 J57 ((decide ((IntKind.wrap .i64 (r56.1 - s1.2.2.1)) ≥ (IntKind.wrap .i64 (Int.tdiv (IntKind.wrap .i64 (s1.2.2.2.1 - s1.2.2.1)) (8 : Int))))), (IntKind.wrap .i64 (r56.1 + (1 : Int))), s1.2.2.2.1, ()))
 (callT Try.prog fn_slices_pdqsortCmpFunc_lits_Lit #[(.slice a0.a a0.len a0.cap), (.int .i64 (IntKind.wrap .i64 (r56.1 + (1 : Int)))), (.int .i64 s1.2.2.2.1), (.int .i64 s7.1), a4] (.tup .nil) fun r60 =>
 J57 ((decide ((IntKind.wrap .i64 (s1.2.2.2.1 - r56.1)) ≥ (IntKind.wrap .i64 (Int.tdiv (IntKind.wrap .i64 (s1.2.2.2.1 - s1.2.2.1)) (8 : Int))))), s1.2.2.1, r56.1, ())))))
 (callT Try.prog fn_slices_partitionCmpFunc_lits_Lit #[(.slice a0.a a0.len a0.cap), (.int .i64 s1.2.2.1), (.int .i64 s1.2.2.2.1), (.int .i64 s10.2.1), a4] (.tup (.cons (.int .i64) (.cons .bool .nil))) fun r61 =>
 nz (8 : Int) <|
 jn (σ := (Bool × (Int × (Int × Unit)))) (fun s63 => /- wasBalanced a b -/
 J2 (r61.2.1, s63.1, s63.2.1, s63.2.2.1, s7.1, ()))
 (fun J62 =>
 brB (decide ((IntKind.wrap .i64 (r61.1 - s1.2.2.1)) < (IntKind.wrap .i64 (s1.2.2.2.1 - r61.1))))
 (callT Try.prog fn_slices_pdqsortCmpFunc_lits_Lit #[(.slice a0.a a0.len a0.cap), (.int .i64 s1.2.2.1), (.int .i64 r61.1), (.int .i64 s7.1), a4] (.tup .nil) fun r64 =>
 J62 ((decide ((IntKind.wrap .i64 (r61.1 - s1.2.2.1)) ≥ (IntKind.wrap .i64 (Int.tdiv (IntKind.wrap .i64 (s1.2.2.2.1 - s1.2.2.1)) (8 : Int))))), (IntKind.wrap .i64 (r61.1 + (1 : Int))), s1.2.2.2.1, ()))
 (callT Try.prog fn_slices_pdqsortCmpFunc_lits_Lit #[(.slice a0.a a0.len a0.cap), (.int .i64 (IntKind.wrap .i64 (r61.1 + (1 : Int)))), (.int .i64 s1.2.2.2.1), (.int .i64 s7.1), a4] (.tup .nil) fun r65 =>
 J62 ((decide ((IntKind.wrap .i64 (s1.2.2.2.1 - r61.1)) ≥ (IntKind.wrap .i64 (Int.tdiv (IntKind.wrap .i64 (s1.2.2.2.1 - s1.2.2.1)) (8 : Int))))), s1.2.2.1, r61.1, ())))))
 (fun J48 =>
 J48 (()))))
 (fun J9 =>
 brB (r8.2.1 == (2 : Int))
 (callT Try.prog fn_slices_reverseRangeCmpFunc_lits_Lit #[(.slice a0.a a0.len a0.cap), (.int .i64 s1.2.2.1), (.int .i64 s1.2.2.2.1), a4] (.tup .nil) fun r66 =>
 J9 ((1 : Int), (IntKind.wrap .i64 ((IntKind.wrap .i64 (s1.2.2.2.1 - (1 : Int))) - (IntKind.wrap .i64 (r8.1 - s1.2.2.1)))), ()))
 (J9 (r8.2.1, r8.1, ()))))
 (fun J6 =>
 brB (!s1.2.1)
 (callT Try.prog fn_slices_breakPatternsCmpFunc_lits_Lit #[(.slice a0.a a0.len a0.cap), (.int .i64 s1.2.2.1), (.int .i64 s1.2.2.2.1), a4] (.tup .nil) fun r67 =>
 J6 ((IntKind.wrap .i64 (s1.2.2.2.2.1 - (1 : Int))), ()))
 (J6 (s1.2.2.2.2.1, ())))))))
 (true, true, a1, a2, a3, ())
set_option maxRecDepth 100000 in
theorem E_slices_pdqsortCmpFunc_lits_Lit (a0 : Sl) (a1 : Int) (a2 : Int) (a3 : Int) (a4 : Value) (K : Unit → HP) (h : Heap) : fnVC Try.prog [(1000000, .nil)] 148 Try.f81 [(.slice a0.a a0.len a0.cap), (.int .i64 a1), (.int .i64 a2), (.int .i64 a3), a4] (.tup .nil) K h = F_slices_pdqsortCmpFunc_lits_Lit a0 a1 a2 a3 a4 K h := by kernel_rfl
set_option maxRecDepth 100000 in
theorem S_slices_pdqsortCmpFunc_lits_Lit{h : Heap} {a0 : Sl} {a1 : Int} {a2 : Int} {a3 : Int} {a4 : Value} (K : Unit → HP) (hF : F_slices_pdqsortCmpFunc_lits_Lit a0 a1 a2 a3 a4 K h) : CallsH Try.prog fn_slices_pdqsortCmpFunc_lits_Lit #[(.slice a0.a a0.len a0.cap), (.int .i64 a1), (.int .i64 a2), (.int .i64 a3), a4] h fun v h' => ∃ x : Unit, v = Ty.enc (.tup .nil) x ∧ K x h' :=
  callsH_of_fn (P := Try.prog) (fn := Try.f81) (τ := (.tup .nil)) follows Try.func81 (by kernel_rfl) (by kernel_rfl) Try.call81 (Eq.mpr (E_slices_pdqsortCmpFunc_lits_Lit a0 a1 a2 a3 a4 K h) hF)

def F_math_bits_Len (a0 : Int) (K : Int → HP) : HP :=
 callT Try.prog fn_math_bits_Len64 #[(.int .u64 a0)] (.int .i64) fun r0 =>
 K r0
set_option maxRecDepth 100000 in
theorem E_math_bits_Len (a0 : Int) (K : Int → HP) (h : Heap) : fnVC Try.prog [(1000000, .nil)] 8 Try.f82 [(.int .u64 a0)] (.int .i64) K h = F_math_bits_Len a0 K h := by kernel_rfl
set_option maxRecDepth 100000 in
theorem S_math_bits_Len{h : Heap} {a0 : Int} (K : Int → HP) (hF : F_math_bits_Len a0 K h) : CallsH Try.prog fn_math_bits_Len #[(.int .u64 a0)] h fun v h' => ∃ x : Int, v = Ty.enc (.int .i64) x ∧ K x h' :=
  callsH_of_fn (P := Try.prog) (fn := Try.f82) (τ := (.int .i64)) follows Try.func82 (by kernel_rfl) (by kernel_rfl) Try.call82 (Eq.mpr (E_math_bits_Len a0 K h) hF)

def F_lits_Index (a0 : Int) (K : (Int × (Int × Unit)) → HP) : HP :=
 callT Try.prog fn_lits_Right #[(.int .i64 a0)] .bool fun r0 =>
 brB (!r0)
 (K ((0 : Int), (10 : Int), ()))
 (callT Try.prog fn_lits_Var #[(.int .i64 a0)] (.int .i64) fun r1 =>
 jn (σ := (Int × Unit)) (fun s3 => /- i -/
 K (s3.1, (0 : Int), ()))
 (fun J2 =>
 brB (decide (a0 < (0 : Int)))
 (J2 ((IntKind.wrap .i64 ((IntKind.wrap .i64 ((2 : Int) * (IntKind.wrap .i64 (r1 - (1 : Int))))) + (1 : Int))), ()))
 (J2 ((IntKind.wrap .i64 ((2 : Int) * (IntKind.wrap .i64 (r1 - (1 : Int))))), ()))))
set_option maxRecDepth 100000 in
theorem E_lits_Index (a0 : Int) (K : (Int × (Int × Unit)) → HP) (h : Heap) : fnVC Try.prog [(1000000, .nil)] 17 Try.f83 [(.int .i64 a0)] (.tup (.cons (.int .i64) (.cons (.int .i64) .nil))) K h = F_lits_Index a0 K h := by kernel_rfl
set_option maxRecDepth 100000 in
theorem S_lits_Index{h : Heap} {a0 : Int} (K : (Int × (Int × Unit)) → HP) (hF : F_lits_Index a0 K h) : CallsH Try.prog fn_lits_Index #[(.int .i64 a0)] h fun v h' => ∃ x : (Int × (Int × Unit)), v = Ty.enc (.tup (.cons (.int .i64) (.cons (.int .i64) .nil))) x ∧ K x h' :=
  callsH_of_fn (P := Try.prog) (fn := Try.f83) (τ := (.tup (.cons (.int .i64) (.cons (.int .i64) .nil)))) follows Try.func83 (by kernel_rfl) (by kernel_rfl) Try.call83 (Eq.mpr (E_lits_Index a0 K h) hF)

def F_cmp_Compare_int (a0 : Int) (a1 : Int) (K : Int → HP) : HP :=
 callT Try.prog fn_cmp_isNaN_int #[(.int .i64 a0)] .bool fun r0 =>
 callT Try.prog fn_cmp_isNaN_int #[(.int .i64 a1)] .bool fun r1 =>
 brB r0
 (brB r1
 (K (0 : Int))
 (K (-1 : Int)))
 (brB r1
 (K (1 : Int))
 (brB (decide (a0 < a1))
 (K (-1 : Int))
 (brB (decide (a0 > a1))
 (K (1 : Int))
 (K (0 : Int)))))
set_option maxRecDepth 100000 in
theorem E_cmp_Compare_int (a0 : Int) (a1 : Int) (K : Int → HP) (h : Heap) : fnVC Try.prog [(1000000, .nil)] 20 Try.f84 [(.int .i64 a0), (.int .i64 a1)] (.int .i64) K h = F_cmp_Compare_int a0 a1 K h := by kernel_rfl
set_option maxRecDepth 100000 in
theorem S_cmp_Compare_int{h : Heap} {a0 : Int} {a1 : Int} (K : Int → HP) (hF : F_cmp_Compare_int a0 a1 K h) : CallsH Try.prog fn_cmp_Compare_int #[(.int .i64 a0), (.int .i64 a1)] h fun v h' => ∃ x : Int, v = Ty.enc (.int .i64) x ∧ K x h' :=
  callsH_of_fn (P := Try.prog) (fn := Try.f84) (τ := (.int .i64)) follows Try.func84 (by kernel_rfl) (by kernel_rfl) Try.call84 (Eq.mpr (E_cmp_Compare_int a0 a1 K h) hF)

def F_cmp_Compare_lits_Lit (a0 : Int) (a1 : Int) (K : Int → HP) : HP :=
 callT Try.prog fn_cmp_isNaN_lits_Lit #[(.int .i64 a0)] .bool fun r0 =>
 callT Try.prog fn_cmp_isNaN_lits_Lit #[(.int .i64 a1)] .bool fun r1 =>
 brB r0
 (brB r1
 (K (0 : Int))
 (K (-1 : Int)))
 (brB r1
 (K (1 : Int))
 (brB (decide (a0 < a1))
 (K (-1 : Int))
 (brB (decide (a0 > a1))
 (K (1 : Int))
 (K (0 : Int)))))
set_option maxRecDepth 100000 in
theorem E_cmp_Compare_lits_Lit (a0 : Int) (a1 : Int) (K : Int → HP) (h : Heap) : fnVC Try.prog [(1000000, .nil)] 20 Try.f85 [(.int .i64 a0), (.int .i64 a1)] (.int .i64) K h = F_cmp_Compare_lits_Lit a0 a1 K h := by kernel_rfl
set_option maxRecDepth 100000 in
theorem S_cmp_Compare_lits_Lit{h : Heap} {a0 : Int} {a1 : Int} (K : Int → HP) (hF : F_cmp_Compare_lits_Lit a0 a1 K h) : CallsH Try.prog fn_cmp_Compare_lits_Lit #[(.int .i64 a0), (.int .i64 a1)] h fun v h' => ∃ x : Int, v = Ty.enc (.int .i64) x ∧ K x h' :=
  callsH_of_fn (P := Try.prog) (fn := Try.f85) (τ := (.int .i64)) follows Try.func85 (by kernel_rfl) (by kernel_rfl) Try.call85 (Eq.mpr (E_cmp_Compare_lits_Lit a0 a1 K h) hF)

def F_slices_Index_clauses_Clause_lits_Lit (a0 : Sl) (a1 : Int) (K : Int → HP) : HP :=
 lfp (σ := (Int × (Int × Unit))) (fun X0 s1 => /-   -/
 brB (decide (s1.1 < (a0.len : Int)))
 (sx a0.a a0.len s1.1 1 fun p2 =>
 ldT (.int .i64) p2 fun x3 =>
 brB (a1 == x3)
 (K s1.1)
 (X0 ((IntKind.wrap .i64 (s1.1 + (1 : Int))), s1.2.1, ())))
 (K (-1 : Int)))
 ((0 : Int), (0 : Int), ())
set_option maxRecDepth 100000 in
theorem E_slices_Index_clauses_Clause_lits_Lit (a0 : Sl) (a1 : Int) (K : Int → HP) (h : Heap) : fnVC Try.prog [(1000000, .nil)] 19 Try.f86 [(.slice a0.a a0.len a0.cap), (.int .i64 a1)] (.int .i64) K h = F_slices_Index_clauses_Clause_lits_Lit a0 a1 K h := by kernel_rfl
set_option maxRecDepth 100000 in
theorem S_slices_Index_clauses_Clause_lits_Lit{h : Heap} {a0 : Sl} {a1 : Int} (K : Int → HP) (hF : F_slices_Index_clauses_Clause_lits_Lit a0 a1 K h) : CallsH Try.prog fn_slices_Index_clauses_Clause_lits_Lit #[(.slice a0.a a0.len a0.cap), (.int .i64 a1)] h fun v h' => ∃ x : Int, v = Ty.enc (.int .i64) x ∧ K x h' :=
  callsH_of_fn (P := Try.prog) (fn := Try.f86) (τ := (.int .i64)) follows Try.func86 (by kernel_rfl) (by kernel_rfl) Try.call86 (Eq.mpr (E_slices_Index_clauses_Clause_lits_Lit a0 a1 K h) hF)

def F_clauses_sorted (a0 : Sl) (K : Value → HP) : HP :=
 nw #[(.slice a0.a a0.len a0.cap)] ty_clauses_Clause fun b0 =>
 K (.func (.func fn_clauses_sorted_1) #[] #[(.pointer (some (⟨b0, 0, none⟩ : Addr)))])
set_option maxRecDepth 100000 in
theorem E_clauses_sorted (a0 : Sl) (K : Value → HP) (h : Heap) : fnVC Try.prog [(1000000, .nil)] 4 Try.f87 [(.slice a0.a a0.len a0.cap)] .val K h = F_clauses_sorted a0 K h := by kernel_rfl
set_option maxRecDepth 100000 in
theorem S_clauses_sorted{h : Heap} {a0 : Sl} (K : Value → HP) (hF : F_clauses_sorted a0 K h) : CallsH Try.prog fn_clauses_sorted #[(.slice a0.a a0.len a0.cap)] h fun v h' => ∃ x : Value, v = Ty.enc .val x ∧ K x h' :=
  callsH_of_fn (P := Try.prog) (fn := Try.f87) (τ := .val) follows Try.func87 (by kernel_rfl) (by kernel_rfl) Try.call87 (Eq.mpr (E_clauses_sorted a0 K h) hF)

def F_slices_IndexFunc_rat_Group_rat_Group (a0 : Sl) (a1 : Value) (K : Int → HP) : HP :=
 lfp (σ := (Int × (Int × Unit))) (fun X0 s1 => /-   -/
 brB (decide (s1.1 < (a0.len : Int)))
 (sx a0.a a0.len s1.1 2 fun p2 =>
 ldA (.cons (.int .i64) (.cons .sl .nil)) p2 fun x3 =>
 callF Try.prog a1 #[(.agg #[(.int .i64 x3.1), (.slice x3.2.1.a x3.2.1.len x3.2.1.cap)])] .bool fun r4 =>
 brB r4
 (K s1.1)
 (X0 ((IntKind.wrap .i64 (s1.1 + (1 : Int))), s1.2.1, ())))
 (K (-1 : Int)))
 ((0 : Int), (0 : Int), ())
set_option maxRecDepth 100000 in
theorem E_slices_IndexFunc_rat_Group_rat_Group (a0 : Sl) (a1 : Value) (K : Int → HP) (h : Heap) : fnVC Try.prog [(1000000, .nil)] 19 Try.f88 [(.slice a0.a a0.len a0.cap), a1] (.int .i64) K h = F_slices_IndexFunc_rat_Group_rat_Group a0 a1 K h := by kernel_rfl
set_option maxRecDepth 100000 in
theorem S_slices_IndexFunc_rat_Group_rat_Group{h : Heap} {a0 : Sl} {a1 : Value} (K : Int → HP) (hF : F_slices_IndexFunc_rat_Group_rat_Group a0 a1 K h) : CallsH Try.prog fn_slices_IndexFunc_rat_Group_rat_Group #[(.slice a0.a a0.len a0.cap), a1] h fun v h' => ∃ x : Int, v = Ty.enc (.int .i64) x ∧ K x h' :=
  callsH_of_fn (P := Try.prog) (fn := Try.f88) (τ := (.int .i64)) follows Try.func88 (by kernel_rfl) (by kernel_rfl) Try.call88 (Eq.mpr (E_slices_IndexFunc_rat_Group_rat_Group a0 a1 K h) hF)

def F_cmp_Less_int (a0 : Int) (a1 : Int) (K : Bool → HP) : HP :=
 callT Try.prog fn_cmp_isNaN_int #[(.int .i64 a0)] .bool fun r0 =>
 brB r0
 (callT Try.prog fn_cmp_isNaN_int #[(.int .i64 a1)] .bool fun r1 =>
 brB (!r1)
 (K true)
 (K (decide (a0 < a1))))
 (K (decide (a0 < a1)))
set_option maxRecDepth 100000 in
theorem E_cmp_Less_int (a0 : Int) (a1 : Int) (K : Bool → HP) (h : Heap) : fnVC Try.prog [(1000000, .nil)] 17 Try.f89 [(.int .i64 a0), (.int .i64 a1)] .bool K h = F_cmp_Less_int a0 a1 K h := by kernel_rfl
set_option maxRecDepth 100000 in
theorem S_cmp_Less_int{h : Heap} {a0 : Int} {a1 : Int} (K : Bool → HP) (hF : F_cmp_Less_int a0 a1 K h) : CallsH Try.prog fn_cmp_Less_int #[(.int .i64 a0), (.int .i64 a1)] h fun v h' => ∃ x : Bool, v = Ty.enc .bool x ∧ K x h' :=
  callsH_of_fn (P := Try.prog) (fn := Try.f89) (τ := .bool) follows Try.func89 (by kernel_rfl) (by kernel_rfl) Try.call89 (Eq.mpr (E_cmp_Less_int a0 a1 K h) hF)

def F_slices_isNaN_int (a0 : Int) (K : Bool → HP) : HP :=
 K (a0 != a0)
set_option maxRecDepth 100000 in
theorem E_slices_isNaN_int (a0 : Int) (K : Bool → HP) (h : Heap) : fnVC Try.prog [(1000000, .nil)] 6 Try.f90 [(.int .i64 a0)] .bool K h = F_slices_isNaN_int a0 K h := by kernel_rfl
set_option maxRecDepth 100000 in
theorem S_slices_isNaN_int{h : Heap} {a0 : Int} (K : Bool → HP) (hF : F_slices_isNaN_int a0 K h) : CallsH Try.prog fn_slices_isNaN_int #[(.int .i64 a0)] h fun v h' => ∃ x : Bool, v = Ty.enc .bool x ∧ K x h' :=
  callsH_of_fn (P := Try.prog) (fn := Try.f90) (τ := .bool) follows Try.func90 (by kernel_rfl) (by kernel_rfl) Try.call90 (Eq.mpr (E_slices_isNaN_int a0 K h) hF)

def F_rup_values_moving_1 (a0 : Value) (c0 : Addr) (c1 : Addr) (c2 : Addr) (K : Unit → HP) : HP :=
 ldT .sl c0 fun x0 =>
 lfp (σ := (Int × Unit)) (fun X1 s2 => /-  -/
 brB (decide (s2.1 < (x0.len : Int)))
 (sx x0.a x0.len s2.1 1 fun p3 =>
 ldT .sl p3 fun x4 =>
 ldT .val c1 fun x5 =>
 callT Try.prog fn_rup_values_look #[x5, (.slice x4.a x4.len x4.cap)] (.tup (.cons (.int .u8) (.cons (.int .i64) .nil))) fun r6 =>
 ldT (.int .u8) c2 fun x7 =>
 jn (σ := Bool) (fun t9 =>
 brB t9
 (K (()))
 (X1 ((IntKind.wrap .i64 (s2.1 + (1 : Int))), ())))
 (fun J8 =>
 brB (r6.1 == x7)
 (callF Try.prog a0 #[(.int .i64 s2.1), (.int .i64 r6.2.1)] .bool fun r10 =>
 J8 ((!r10)))
 (J8 false)))
 (K (())))
 ((0 : Int), ())
set_option maxRecDepth 100000 in
theorem E_rup_values_moving_1 (a0 : Value) (c0 : Addr) (c1 : Addr) (c2 : Addr) (K : Unit → HP) (h : Heap) : fnVC Try.prog [(1000000, .bool)] 33 Try.f91 [a0, (.pointer (some c0)), (.pointer (some c1)), (.pointer (some c2))] (.tup .nil) K h = F_rup_values_moving_1 a0 c0 c1 c2 K h := by kernel_rfl
set_option maxRecDepth 100000 in
theorem S_rup_values_moving_1{h : Heap} {a0 : Value} {c0 : Addr} {c1 : Addr} {c2 : Addr} (K : Unit → HP) (hF : F_rup_values_moving_1 a0 c0 c1 c2 K h) : CallsH Try.prog fn_rup_values_moving_1 #[a0, (.pointer (some c0)), (.pointer (some c1)), (.pointer (some c2))] h fun v h' => ∃ x : Unit, v = Ty.enc (.tup .nil) x ∧ K x h' :=
  callsH_of_fn (P := Try.prog) (fn := Try.f91) (τ := (.tup .nil)) follows Try.func91 (by kernel_rfl) (by kernel_rfl) Try.call91 (Eq.mpr (E_rup_values_moving_1 a0 c0 c1 c2 K h) hF)

def F_slices_insertionSortCmpFunc_lits_Lit (a0 : Sl) (a1 : Int) (a2 : Int) (a3 : Value) (K : Unit → HP) : HP :=
 lfp (σ := (Int × Unit)) (fun X0 s1 => /- i -/
 brB (decide (s1.1 < a2))
 (jn (σ := (Int × Unit)) (fun s3 => /- j -/
 X0 ((IntKind.wrap .i64 (s1.1 + (1 : Int))), ()))
 (fun J2 =>
 lfp (σ := (Int × Unit)) (fun X4 s5 => /- j -/
 brB (decide (s5.1 > a1))
 (sx a0.a a0.len s5.1 1 fun p6 =>
 ldT (.int .i64) p6 fun x7 =>
 sx a0.a a0.len (IntKind.wrap .i64 (s5.1 - (1 : Int))) 1 fun p8 =>
 ldT (.int .i64) p8 fun x9 =>
 callF Try.prog a3 #[(.int .i64 x7), (.int .i64 x9)] (.int .i64) fun r10 =>
 brB (decide (r10 < (0 : Int)))
 (sx a0.a a0.len (IntKind.wrap .i64 (s5.1 - (1 : Int))) 1 fun p11 =>
 ldT (.int .i64) p11 fun x12 =>
 sx a0.a a0.len s5.1 1 fun p13 =>
 ldT (.int .i64) p13 fun x14 =>
 sx a0.a a0.len s5.1 1 fun p15 =>
 st1 p15 (.int .i64 x12) <|
 sx a0.a a0.len (IntKind.wrap .i64 (s5.1 - (1 : Int))) 1 fun p16 =>
 st1 p16 (.int .i64 x14) <|
 X4 ((IntKind.wrap .i64 (s5.1 - (1 : Int))), ()))
 (J2 (s5.1, ())))
 (J2 (s5.1, ())))
 (s1.1, ())))
 (K (())))
 ((IntKind.wrap .i64 (a1 + (1 : Int))), ())
set_option maxRecDepth 100000 in
theorem E_slices_insertionSortCmpFunc_lits_Lit (a0 : Sl) (a1 : Int) (a2 : Int) (a3 : Value) (K : Unit → HP) (h : Heap) : fnVC Try.prog [(1000000, .nil)] 53 Try.f92 [(.slice a0.a a0.len a0.cap), (.int .i64 a1), (.int .i64 a2), a3] (.tup .nil) K h = F_slices_insertionSortCmpFunc_lits_Lit a0 a1 a2 a3 K h := by kernel_rfl
set_option maxRecDepth 100000 in
theorem S_slices_insertionSortCmpFunc_lits_Lit{h : Heap} {a0 : Sl} {a1 : Int} {a2 : Int} {a3 : Value} (K : Unit → HP) (hF : F_slices_insertionSortCmpFunc_lits_Lit a0 a1 a2 a3 K h) : CallsH Try.prog fn_slices_insertionSortCmpFunc_lits_Lit #[(.slice a0.a a0.len a0.cap), (.int .i64 a1), (.int .i64 a2), a3] h fun v h' => ∃ x : Unit, v = Ty.enc (.tup .nil) x ∧ K x h' :=
  callsH_of_fn (P := Try.prog) (fn := Try.f92) (τ := (.tup .nil)) follows Try.func92 (by kernel_rfl) (by kernel_rfl) Try.call92 (Eq.mpr (E_slices_insertionSortCmpFunc_lits_Lit a0 a1 a2 a3 K h) hF)

def F_slices_heapSortCmpFunc_lits_Lit (a0 : Sl) (a1 : Int) (a2 : Int) (a3 : Value) (K : Unit → HP) : HP :=
 nz (2 : Int) <|
 lfp (σ := (Int × Unit)) (fun X0 s1 => /- i -/
 brB (decide (s1.1 ≥ (0 : Int)))
 (callT Try.prog fn_slices_siftDownCmpFunc_lits_Lit #[(.slice a0.a a0.len a0.cap), (.int .i64 s1.1), (.int .i64 (IntKind.wrap .i64 (a2 - a1))), (.int .i64 a1), a3] (.tup .nil) fun r2 =>
 X0 ((IntKind.wrap .i64 (s1.1 - (1 : Int))), ()))
 (lfp (σ := (Int × Unit)) (fun X3 s4 => /- i -/
 brB (decide (s4.1 ≥ (0 : Int)))
 (sx a0.a a0.len (IntKind.wrap .i64 (a1 + s4.1)) 1 fun p5 =>
 ldT (.int .i64) p5 fun x6 =>
 sx a0.a a0.len a1 1 fun p7 =>
 ldT (.int .i64) p7 fun x8 =>
 sx a0.a a0.len a1 1 fun p9 =>
 st1 p9 (.int .i64 x6) <|
 sx a0.a a0.len (IntKind.wrap .i64 (a1 + s4.1)) 1 fun p10 =>
 st1 p10 (.int .i64 x8) <|
 callT Try.prog fn_slices_siftDownCmpFunc_lits_Lit #[(.slice a0.a a0.len a0.cap), (.int .i64 (0 : Int)), (.int .i64 s4.1), (.int .i64 a1), a3] (.tup .nil) fun r11 =>
 X3 ((IntKind.wrap .i64 (s4.1 - (1 : Int))), ()))
 (K (())))
 ((IntKind.wrap .i64 ((IntKind.wrap .i64 (a2 - a1)) - (1 : Int))), ())))
 ((IntKind.wrap .i64 (Int.tdiv (IntKind.wrap .i64 ((IntKind.wrap .i64 (a2 - a1)) - (1 : Int))) (2 : Int))), ())
set_option maxRecDepth 100000 in
theorem E_slices_heapSortCmpFunc_lits_Lit (a0 : Sl) (a1 : Int) (a2 : Int) (a3 : Value) (K : Unit → HP) (h : Heap) : fnVC Try.prog [(1000000, .nil)] 60 Try.f93 [(.slice a0.a a0.len a0.cap), (.int .i64 a1), (.int .i64 a2), a3] (.tup .nil) K h = F_slices_heapSortCmpFunc_lits_Lit a0 a1 a2 a3 K h := by kernel_rfl
set_option maxRecDepth 100000 in
theorem S_slices_heapSortCmpFunc_lits_Lit{h : Heap} {a0 : Sl} {a1 : Int} {a2 : Int} {a3 : Value} (K : Unit → HP) (hF : F_slices_heapSortCmpFunc_lits_Lit a0 a1 a2 a3 K h) : CallsH Try.prog fn_slices_heapSortCmpFunc_lits_Lit #[(.slice a0.a a0.len a0.cap), (.int .i64 a1), (.int .i64 a2), a3] h fun v h' => ∃ x : Unit, v = Ty.enc (.tup .nil) x ∧ K x h' :=
  callsH_of_fn (P := Try.prog) (fn := Try.f93) (τ := (.tup .nil)) follows Try.func93 (by kernel_rfl) (by kernel_rfl) Try.call93 (Eq.mpr (E_slices_heapSortCmpFunc_lits_Lit a0 a1 a2 a3 K h) hF)

def F_slices_breakPatternsCmpFunc_lits_Lit (a0 : Sl) (a1 : Int) (a2 : Int) (a3 : Value) (K : Unit → HP) : HP :=
 jn (σ := Unit) (fun s1 => /- -/
 K (()))
 (fun J0 =>
 brB (decide ((IntKind.wrap .i64 (a2 - a1)) ≥ (8 : Int)))
 (nw #[(.int .u64 (0 : Int))] ty_slices_xorshift fun b2 =>
 st1 (⟨b2, 0, none⟩ : Addr) (.int .u64 (IntKind.wrap .u64 (IntKind.wrap .i64 (a2 - a1)))) <|
 callT Try.prog fn_slices_nextPowerOfTwo #[(.int .i64 (IntKind.wrap .i64 (a2 - a1)))] (.int .u64) fun r3 =>
 nz (4 : Int) <|
 lfp (σ := (Int × Unit)) (fun X4 s5 => /- idx -/
 nz (4 : Int) <|
 brB (decide (s5.1 ≤ (IntKind.wrap .i64 ((IntKind.wrap .i64 (a1 + (IntKind.wrap .i64 ((IntKind.wrap .i64 (Int.tdiv (IntKind.wrap .i64 (a2 - a1)) (4 : Int))) * (2 : Int))))) + (1 : Int)))))
 (callT Try.prog fn_slices_xorshift_Next #[(.pointer (some (⟨b2, 0, none⟩ : Addr)))] (.int .u64) fun r6 =>
 jn (σ := (Int × Unit)) (fun s8 => /- other -/
 sx a0.a a0.len (IntKind.wrap .i64 (a1 + s8.1)) 1 fun p9 =>
 ldT (.int .i64) p9 fun x10 =>
 sx a0.a a0.len s5.1 1 fun p11 =>
 ldT (.int .i64) p11 fun x12 =>
 sx a0.a a0.len s5.1 1 fun p13 =>
 st1 p13 (.int .i64 x10) <|
 sx a0.a a0.len (IntKind.wrap .i64 (a1 + s8.1)) 1 fun p14 =>
 st1 p14 (.int .i64 x12) <|
 X4 ((IntKind.wrap .i64 (s5.1 + (1 : Int))), ()))
 (fun J7 =>
 brB (decide ((IntKind.wrap .i64 (bAnd .u64 r6 (IntKind.wrap .u64 (r3 - (1 : Int))))) ≥ (IntKind.wrap .i64 (a2 - a1))))
 (J7 ((IntKind.wrap .i64 ((IntKind.wrap .i64 (bAnd .u64 r6 (IntKind.wrap .u64 (r3 - (1 : Int))))) - (IntKind.wrap .i64 (a2 - a1)))), ()))
 (J7 ((IntKind.wrap .i64 (bAnd .u64 r6 (IntKind.wrap .u64 (r3 - (1 : Int))))), ()))))
 (J0 (())))
 ((IntKind.wrap .i64 ((IntKind.wrap .i64 (a1 + (IntKind.wrap .i64 ((IntKind.wrap .i64 (Int.tdiv (IntKind.wrap .i64 (a2 - a1)) (4 : Int))) * (2 : Int))))) - (1 : Int))), ()))
 (J0 (())))
set_option maxRecDepth 100000 in
theorem E_slices_breakPatternsCmpFunc_lits_Lit (a0 : Sl) (a1 : Int) (a2 : Int) (a3 : Value) (K : Unit → HP) (h : Heap) : fnVC Try.prog [(1000000, .nil)] 67 Try.f94 [(.slice a0.a a0.len a0.cap), (.int .i64 a1), (.int .i64 a2), a3] (.tup .nil) K h = F_slices_breakPatternsCmpFunc_lits_Lit a0 a1 a2 a3 K h := by kernel_rfl
set_option maxRecDepth 100000 in
theorem S_slices_breakPatternsCmpFunc_lits_Lit{h : Heap} {a0 : Sl} {a1 : Int} {a2 : Int} {a3 : Value} (K : Unit → HP) (hF : F_slices_breakPatternsCmpFunc_lits_Lit a0 a1 a2 a3 K h) : CallsH Try.prog fn_slices_breakPatternsCmpFunc_lits_Lit #[(.slice a0.a a0.len a0.cap), (.int .i64 a1), (.int .i64 a2), a3] h fun v h' => ∃ x : Unit, v = Ty.enc (.tup .nil) x ∧ K x h' :=
  callsH_of_fn (P := Try.prog) (fn := Try.f94) (τ := (.tup .nil)) follows Try.func94 (by kernel_rfl) (by kernel_rfl) Try.call94 (Eq.mpr (E_slices_breakPatternsCmpFunc_lits_Lit a0 a1 a2 a3 K h) hF)

def F_slices_choosePivotCmpFunc_lits_Lit (a0 : Sl) (a1 : Int) (a2 : Int) (a3 : Value) (K : (Int × (Int × Unit)) → HP) : HP :=
 nw #[(.int .i64 (0 : Int))] ty_int fun b0 =>
 nz (4 : Int) <|
 nz (4 : Int) <|
 nz (4 : Int) <|
 jn (σ := (Int × (Int × (Int × Unit)))) (fun s2 => /- k j i -/
 ldT (.int .i64) (⟨b0, 0, none⟩ : Addr) fun x3 =>
 brB (x3 == (0 : Int))
 (K (s2.2.1, (1 : Int), ()))
 (brB (x3 == (12 : Int))
 (K (s2.2.1, (2 : Int), ()))
 (K (s2.2.1, (0 : Int), ()))))
 (fun J1 =>
 brB (decide ((IntKind.wrap .i64 (a2 - a1)) ≥ (8 : Int)))
 (jn (σ := (Int × (Int × (Int × Unit)))) (fun s5 => /- k j i -/
 callT Try.prog fn_slices_medianCmpFunc_lits_Lit #[(.slice a0.a a0.len a0.cap), (.int .i64 s5.2.2.1), (.int .i64 s5.2.1), (.int .i64 s5.1), (.pointer (some (⟨b0, 0, none⟩ : Addr))), a3] (.int .i64) fun r6 =>
 J1 (s5.1, r6, s5.2.2.1, ()))
 (fun J4 =>
 brB (decide ((IntKind.wrap .i64 (a2 - a1)) ≥ (50 : Int)))
 (callT Try.prog fn_slices_medianAdjacentCmpFunc_lits_Lit #[(.slice a0.a a0.len a0.cap), (.int .i64 (IntKind.wrap .i64 (a1 + (IntKind.wrap .i64 ((IntKind.wrap .i64 (Int.tdiv (IntKind.wrap .i64 (a2 - a1)) (4 : Int))) * (1 : Int)))))), (.pointer (some (⟨b0, 0, none⟩ : Addr))), a3] (.int .i64) fun r7 =>
 callT Try.prog fn_slices_medianAdjacentCmpFunc_lits_Lit #[(.slice a0.a a0.len a0.cap), (.int .i64 (IntKind.wrap .i64 (a1 + (IntKind.wrap .i64 ((IntKind.wrap .i64 (Int.tdiv (IntKind.wrap .i64 (a2 - a1)) (4 : Int))) * (2 : Int)))))), (.pointer (some (⟨b0, 0, none⟩ : Addr))), a3] (.int .i64) fun r8 =>
 callT Try.prog fn_slices_medianAdjacentCmpFunc_lits_Lit #[(.slice a0.a a0.len a0.cap), (.int .i64 (IntKind.wrap .i64 (a1 + (IntKind.wrap .i64 ((IntKind.wrap .i64 (Int.tdiv (IntKind.wrap .i64 (a2 - a1)) (4 : Int))) * (3 : Int)))))), (.pointer (some (⟨b0, 0, none⟩ : Addr))), a3] (.int .i64) fun r9 =>
 J4 (r9, r8, r7, ()))
 (J4 ((IntKind.wrap .i64 (a1 + (IntKind.wrap .i64 ((IntKind.wrap .i64 (Int.tdiv (IntKind.wrap .i64 (a2 - a1)) (4 : Int))) * (3 : Int))))), (IntKind.wrap .i64 (a1 + (IntKind.wrap .i64 ((IntKind.wrap .i64 (Int.tdiv (IntKind.wrap .i64 (a2 - a1)) (4 : Int))) * (2 : Int))))), (IntKind.wrap .i64 (a1 + (IntKind.wrap .i64 ((IntKind.wrap .i64 (Int.tdiv (IntKind.wrap .i64 (a2 - a1)) (4 : Int))) * (1 : Int))))), ()))))
 (J1 ((IntKind.wrap .i64 (a1 + (IntKind.wrap .i64 ((IntKind.wrap .i64 (Int.tdiv (IntKind.wrap .i64 (a2 - a1)) (4 : Int))) * (3 : Int))))), (IntKind.wrap .i64 (a1 + (IntKind.wrap .i64 ((IntKind.wrap .i64 (Int.tdiv (IntKind.wrap .i64 (a2 - a1)) (4 : Int))) * (2 : Int))))), (IntKind.wrap .i64 (a1 + (IntKind.wrap .i64 ((IntKind.wrap .i64 (Int.tdiv (IntKind.wrap .i64 (a2 - a1)) (4 : Int))) * (1 : Int))))), ())))
set_option maxRecDepth 100000 in
theorem E_slices_choosePivotCmpFunc_lits_Lit (a0 : Sl) (a1 : Int) (a2 : Int) (a3 : Value) (K : (Int × (Int × Unit)) → HP) (h : Heap) : fnVC Try.prog [(1000000, .nil)] 63 Try.f95 [(.slice a0.a a0.len a0.cap), (.int .i64 a1), (.int .i64 a2), a3] (.tup (.cons (.int .i64) (.cons (.int .i64) .nil))) K h = F_slices_choosePivotCmpFunc_lits_Lit a0 a1 a2 a3 K h := by kernel_rfl
set_option maxRecDepth 100000 in
theorem S_slices_choosePivotCmpFunc_lits_Lit{h : Heap} {a0 : Sl} {a1 : Int} {a2 : Int} {a3 : Value} (K : (Int × (Int × Unit)) → HP) (hF : F_slices_choosePivotCmpFunc_lits_Lit a0 a1 a2 a3 K h) : CallsH Try.prog fn_slices_choosePivotCmpFunc_lits_Lit #[(.slice a0.a a0.len a0.cap), (.int .i64 a1), (.int .i64 a2), a3] h fun v h' => ∃ x : (Int × (Int × Unit)), v = Ty.enc (.tup (.cons (.int .i64) (.cons (.int .i64) .nil))) x ∧ K x h' :=
  callsH_of_fn (P := Try.prog) (fn := Try.f95) (τ := (.tup (.cons (.int .i64) (.cons (.int .i64) .nil)))) follows Try.func95 (by kernel_rfl) (by kernel_rfl) Try.call95 (Eq.mpr (E_slices_choosePivotCmpFunc_lits_Lit a0 a1 a2 a3 K h) hF)

def F_slices_reverseRangeCmpFunc_lits_Lit (a0 : Sl) (a1 : Int) (a2 : Int) (a3 : Value) (K : Unit → HP) : HP :=
 lfp (σ := (Int × (Int × Unit))) (fun X0 s1 => /- j i -/
 brB (decide (s1.2.1 < s1.1))
 (sx a0.a a0.len s1.1 1 fun p2 =>
 ldT (.int .i64) p2 fun x3 =>
 sx a0.a a0.len s1.2.1 1 fun p4 =>
 ldT (.int .i64) p4 fun x5 =>
 sx a0.a a0.len s1.2.1 1 fun p6 =>
 st1 p6 (.int .i64 x3) <|
 sx a0.a a0.len s1.1 1 fun p7 =>
 st1 p7 (.int .i64 x5) <|
 X0 ((IntKind.wrap .i64 (s1.1 - (1 : Int))), (IntKind.wrap .i64 (s1.2.1 + (1 : Int))), ()))
 (K (())))
 ((IntKind.wrap .i64 (a2 - (1 : Int))), a1, ())
set_option maxRecDepth 100000 in
theorem E_slices_reverseRangeCmpFunc_lits_Lit (a0 : Sl) (a1 : Int) (a2 : Int) (a3 : Value) (K : Unit → HP) (h : Heap) : fnVC Try.prog [(1000000, .nil)] 34 Try.f96 [(.slice a0.a a0.len a0.cap), (.int .i64 a1), (.int .i64 a2), a3] (.tup .nil) K h = F_slices_reverseRangeCmpFunc_lits_Lit a0 a1 a2 a3 K h := by kernel_rfl
set_option maxRecDepth 100000 in
theorem S_slices_reverseRangeCmpFunc_lits_Lit{h : Heap} {a0 : Sl} {a1 : Int} {a2 : Int} {a3 : Value} (K : Unit → HP) (hF : F_slices_reverseRangeCmpFunc_lits_Lit a0 a1 a2 a3 K h) : CallsH Try.prog fn_slices_reverseRangeCmpFunc_lits_Lit #[(.slice a0.a a0.len a0.cap), (.int .i64 a1), (.int .i64 a2), a3] h fun v h' => ∃ x : Unit, v = Ty.enc (.tup .nil) x ∧ K x h' :=
  callsH_of_fn (P := Try.prog) (fn := Try.f96) (τ := (.tup .nil)) follows Try.func96 (by kernel_rfl) (by kernel_rfl) Try.call96 (Eq.mpr (E_slices_reverseRangeCmpFunc_lits_Lit a0 a1 a2 a3 K h) hF)

def F_slices_partialInsertionSortCmpFunc_lits_Lit (a0 : Sl) (a1 : Int) (a2 : Int) (a3 : Value) (K : Bool → HP) : HP :=
 lfp (σ := (Int × (Int × (Bool × Unit)))) (fun X0 s1 => /- j i  -/
 brB (decide (s1.1 < (5 : Int)))
 (jn (σ := (Int × Unit)) (fun s3 => /- i -/
 brB (s3.1 == a2)
 (K true)
 (brB (decide ((IntKind.wrap .i64 (a2 - a1)) < (50 : Int)))
 (K false)
 (sx a0.a a0.len (IntKind.wrap .i64 (s3.1 - (1 : Int))) 1 fun p4 =>
 ldT (.int .i64) p4 fun x5 =>
 sx a0.a a0.len s3.1 1 fun p6 =>
 ldT (.int .i64) p6 fun x7 =>
 sx a0.a a0.len s3.1 1 fun p8 =>
 st1 p8 (.int .i64 x5) <|
 sx a0.a a0.len (IntKind.wrap .i64 (s3.1 - (1 : Int))) 1 fun p9 =>
 st1 p9 (.int .i64 x7) <|
 jn (σ := Unit) (fun s11 => /- -/
 jn (σ := Unit) (fun s13 => /- -/
 X0 ((IntKind.wrap .i64 (s1.1 + (1 : Int))), s3.1, s1.2.2.1, ()))
 (fun J12 =>
 brB (decide ((IntKind.wrap .i64 (a2 - s3.1)) ≥ (2 : Int)))
 (jn (σ := (Int × Unit)) (fun s15 => /- j -/
 J12 (()))
 (fun J14 =>
 lfp (σ := (Int × Unit)) (fun X16 s17 => /- j -/
 brB (decide (s17.1 < a2))
 (sx a0.a a0.len s17.1 1 fun p18 =>
 ldT (.int .i64) p18 fun x19 =>
 sx a0.a a0.len (IntKind.wrap .i64 (s17.1 - (1 : Int))) 1 fun p20 =>
 ldT (.int .i64) p20 fun x21 =>
 callF Try.prog a3 #[(.int .i64 x19), (.int .i64 x21)] (.int .i64) fun r22 =>
 brB (!(decide (r22 < (0 : Int))))
 (J14 (s17.1, ()))
 (sx a0.a a0.len (IntKind.wrap .i64 (s17.1 - (1 : Int))) 1 fun p23 =>
 ldT (.int .i64) p23 fun x24 =>
 sx a0.a a0.len s17.1 1 fun p25 =>
 ldT (.int .i64) p25 fun x26 =>
 sx a0.a a0.len s17.1 1 fun p27 =>
 st1 p27 (.int .i64 x24) <|
 sx a0.a a0.len (IntKind.wrap .i64 (s17.1 - (1 : Int))) 1 fun p28 =>
 st1 p28 (.int .i64 x26) <|
 X16 ((IntKind.wrap .i64 (s17.1 + (1 : Int))), ())))
 (J14 (s17.1, ())))
 ((IntKind.wrap .i64 (s3.1 + (1 : Int))), ())))
 (J12 (()))))
 (fun J10 =>
 brB (decide ((IntKind.wrap .i64 (s3.1 - a1)) ≥ (2 : Int)))
 (jn (σ := (Int × Unit)) (fun s30 => /- j -/
 J10 (()))
 (fun J29 =>
 lfp (σ := (Int × Unit)) (fun X31 s32 => /- j -/
 brB (decide (s32.1 ≥ (1 : Int)))
 (sx a0.a a0.len s32.1 1 fun p33 =>
 ldT (.int .i64) p33 fun x34 =>
 sx a0.a a0.len (IntKind.wrap .i64 (s32.1 - (1 : Int))) 1 fun p35 =>
 ldT (.int .i64) p35 fun x36 =>
 callF Try.prog a3 #[(.int .i64 x34), (.int .i64 x36)] (.int .i64) fun r37 =>
 brB (!(decide (r37 < (0 : Int))))
 (J29 (s32.1, ()))
 (sx a0.a a0.len (IntKind.wrap .i64 (s32.1 - (1 : Int))) 1 fun p38 =>
 ldT (.int .i64) p38 fun x39 =>
 sx a0.a a0.len s32.1 1 fun p40 =>
 ldT (.int .i64) p40 fun x41 =>
 sx a0.a a0.len s32.1 1 fun p42 =>
 st1 p42 (.int .i64 x39) <|
 sx a0.a a0.len (IntKind.wrap .i64 (s32.1 - (1 : Int))) 1 fun p43 =>
 st1 p43 (.int .i64 x41) <|
 X31 ((IntKind.wrap .i64 (s32.1 - (1 : Int))), ())))
 (J29 (s32.1, ())))
 ((IntKind.wrap .i64 (s3.1 - (1 : Int))), ())))
 (J10 (()))))))
 (fun J2 =>
 lfp (σ := (Int × Unit)) (fun X44 s45 => /- i -/
 brB (decide (s45.1 < a2))
 (sx a0.a a0.len s45.1 1 fun p46 =>
 ldT (.int .i64) p46 fun x47 =>
 sx a0.a a0.len (IntKind.wrap .i64 (s45.1 - (1 : Int))) 1 fun p48 =>
 ldT (.int .i64) p48 fun x49 =>
 callF Try.prog a3 #[(.int .i64 x47), (.int .i64 x49)] (.int .i64) fun r50 =>
 brB (!(decide (r50 < (0 : Int))))
 (X44 ((IntKind.wrap .i64 (s45.1 + (1 : Int))), ()))
 (J2 (s45.1, ())))
 (J2 (s45.1, ())))
 (s1.2.1, ())))
 (K false))
 ((0 : Int), (IntKind.wrap .i64 (a1 + (1 : Int))), false, ())
set_option maxRecDepth 100000 in
theorem E_slices_partialInsertionSortCmpFunc_lits_Lit (a0 : Sl) (a1 : Int) (a2 : Int) (a3 : Value) (K : Bool → HP) (h : Heap) : fnVC Try.prog [(1000000, .nil)] 141 Try.f97 [(.slice a0.a a0.len a0.cap), (.int .i64 a1), (.int .i64 a2), a3] .bool K h = F_slices_partialInsertionSortCmpFunc_lits_Lit a0 a1 a2 a3 K h := by kernel_rfl
set_option maxRecDepth 100000 in
theorem S_slices_partialInsertionSortCmpFunc_lits_Lit{h : Heap} {a0 : Sl} {a1 : Int} {a2 : Int} {a3 : Value} (K : Bool → HP) (hF : F_slices_partialInsertionSortCmpFunc_lits_Lit a0 a1 a2 a3 K h) : CallsH Try.prog fn_slices_partialInsertionSortCmpFunc_lits_Lit #[(.slice a0.a a0.len a0.cap), (.int .i64 a1), (.int .i64 a2), a3] h fun v h' => ∃ x : Bool, v = Ty.enc .bool x ∧ K x h' :=
  callsH_of_fn (P := Try.prog) (fn := Try.f97) (τ := .bool) follows Try.func97 (by kernel_rfl) (by kernel_rfl) Try.call97 (Eq.mpr (E_slices_partialInsertionSortCmpFunc_lits_Lit a0 a1 a2 a3 K h) hF)

def F_slices_partitionEqualCmpFunc_lits_Lit (a0 : Sl) (a1 : Int) (a2 : Int) (a3 : Int) (a4 : Value) (K : Int → HP) : HP :=
 sx a0.a a0.len a3 1 fun p0 =>
 ldT (.int .i64) p0 fun x1 =>
 sx a0.a a0.len a1 1 fun p2 =>
 ldT (.int .i64) p2 fun x3 =>
 sx a0.a a0.len a1 1 fun p4 =>
 st1 p4 (.int .i64 x1) <|
 sx a0.a a0.len a3 1 fun p5 =>
 st1 p5 (.int .i64 x3) <|
 lfp (σ := (Int × (Int × Unit))) (fun X6 s7 => /- j i -/
 jn (σ := (Int × Unit)) (fun s9 => /- i -/
 jn (σ := (Int × Unit)) (fun s11 => /- j -/
 brB (decide (s9.1 > s11.1))
 (K s9.1)
 (sx a0.a a0.len s11.1 1 fun p12 =>
 ldT (.int .i64) p12 fun x13 =>
 sx a0.a a0.len s9.1 1 fun p14 =>
 ldT (.int .i64) p14 fun x15 =>
 sx a0.a a0.len s9.1 1 fun p16 =>
 st1 p16 (.int .i64 x13) <|
 sx a0.a a0.len s11.1 1 fun p17 =>
 st1 p17 (.int .i64 x15) <|
 X6 ((IntKind.wrap .i64 (s11.1 - (1 : Int))), (IntKind.wrap .i64 (s9.1 + (1 : Int))), ())))
 (fun J10 =>
 lfp (σ := (Int × Unit)) (fun X18 s19 => /- j -/
 brB (decide (s9.1 ≤ s19.1))
 (sx a0.a a0.len a1 1 fun p20 =>
 ldT (.int .i64) p20 fun x21 =>
 sx a0.a a0.len s19.1 1 fun p22 =>
 ldT (.int .i64) p22 fun x23 =>
 callF Try.prog a4 #[(.int .i64 x21), (.int .i64 x23)] (.int .i64) fun r24 =>
 brB (decide (r24 < (0 : Int)))
 (X18 ((IntKind.wrap .i64 (s19.1 - (1 : Int))), ()))
 (J10 (s19.1, ())))
 (J10 (s19.1, ())))
 (s7.1, ())))
 (fun J8 =>
 lfp (σ := (Int × Unit)) (fun X25 s26 => /- i -/
 brB (decide (s26.1 ≤ s7.1))
 (sx a0.a a0.len a1 1 fun p27 =>
 ldT (.int .i64) p27 fun x28 =>
 sx a0.a a0.len s26.1 1 fun p29 =>
 ldT (.int .i64) p29 fun x30 =>
 callF Try.prog a4 #[(.int .i64 x28), (.int .i64 x30)] (.int .i64) fun r31 =>
 brB (!(decide (r31 < (0 : Int))))
 (X25 ((IntKind.wrap .i64 (s26.1 + (1 : Int))), ()))
 (J8 (s26.1, ())))
 (J8 (s26.1, ())))
 (s7.2.1, ())))
 ((IntKind.wrap .i64 (a2 - (1 : Int))), (IntKind.wrap .i64 (a1 + (1 : Int))), ())
set_option maxRecDepth 100000 in
theorem E_slices_partitionEqualCmpFunc_lits_Lit (a0 : Sl) (a1 : Int) (a2 : Int) (a3 : Int) (a4 : Value) (K : Int → HP) (h : Heap) : fnVC Try.prog [(1000000, .nil)] 90 Try.f98 [(.slice a0.a a0.len a0.cap), (.int .i64 a1), (.int .i64 a2), (.int .i64 a3), a4] (.int .i64) K h = F_slices_partitionEqualCmpFunc_lits_Lit a0 a1 a2 a3 a4 K h := by kernel_rfl
set_option maxRecDepth 100000 in
theorem S_slices_partitionEqualCmpFunc_lits_Lit{h : Heap} {a0 : Sl} {a1 : Int} {a2 : Int} {a3 : Int} {a4 : Value} (K : Int → HP) (hF : F_slices_partitionEqualCmpFunc_lits_Lit a0 a1 a2 a3 a4 K h) : CallsH Try.prog fn_slices_partitionEqualCmpFunc_lits_Lit #[(.slice a0.a a0.len a0.cap), (.int .i64 a1), (.int .i64 a2), (.int .i64 a3), a4] h fun v h' => ∃ x : Int, v = Ty.enc (.int .i64) x ∧ K x h' :=
  callsH_of_fn (P := Try.prog) (fn := Try.f98) (τ := (.int .i64)) follows Try.func98 (by kernel_rfl) (by kernel_rfl) Try.call98 (Eq.mpr (E_slices_partitionEqualCmpFunc_lits_Lit a0 a1 a2 a3 a4 K h) hF)

def F_slices_partitionCmpFunc_lits_Lit (a0 : Sl) (a1 : Int) (a2 : Int) (a3 : Int) (a4 : Value) (K : (Int × (Bool × Unit)) → HP) : HP :=
 sx a0.a a0.len a3 1 fun p0 =>
 ldT (.int .i64) p0 fun x1 =>
 sx a0.a a0.len a1 1 fun p2 =>
 ldT (.int .i64) p2 fun x3 =>
 sx a0.a a0.len a1 1 fun p4 =>
 st1 p4 (.int .i64 x1) <|
 sx a0.a a0.len a3 1 fun p5 =>
 st1 p5 (.int .i64 x3) <|
 jn (σ := (Int × Unit)) (fun s7 => /- i -/
 jn (σ := (Int × Unit)) (fun s9 => /- j -/
 brB (decide (s7.1 > s9.1))
 (sx a0.a a0.len a1 1 fun p10 =>
 ldT (.int .i64) p10 fun x11 =>
 sx a0.a a0.len s9.1 1 fun p12 =>
 ldT (.int .i64) p12 fun x13 =>
 sx a0.a a0.len s9.1 1 fun p14 =>
 st1 p14 (.int .i64 x11) <|
 sx a0.a a0.len a1 1 fun p15 =>
 st1 p15 (.int .i64 x13) <|
 K (s9.1, true, ()))
 (sx a0.a a0.len s9.1 1 fun p16 =>
 ldT (.int .i64) p16 fun x17 =>
 sx a0.a a0.len s7.1 1 fun p18 =>
 ldT (.int .i64) p18 fun x19 =>
 sx a0.a a0.len s7.1 1 fun p20 =>
 st1 p20 (.int .i64 x17) <|
 sx a0.a a0.len s9.1 1 fun p21 =>
 st1 p21 (.int .i64 x19) <|
 lfp (σ := (Int × (Int × Unit))) (fun X22 s23 => /- j i -/
 jn (σ := (Int × Unit)) (fun s25 => /- i -/
 jn (σ := (Int × Unit)) (fun s27 => /- j -/
 brB (decide (s25.1 > s27.1))
 (sx a0.a a0.len a1 1 fun p28 =>
 ldT (.int .i64) p28 fun x29 =>
 sx a0.a a0.len s27.1 1 fun p30 =>
 ldT (.int .i64) p30 fun x31 =>
 sx a0.a a0.len s27.1 1 fun p32 =>
 st1 p32 (.int .i64 x29) <|
 sx a0.a a0.len a1 1 fun p33 =>
 st1 p33 (.int .i64 x31) <|
 K (s27.1, false, ()))
 (sx a0.a a0.len s27.1 1 fun p34 =>
 ldT (.int .i64) p34 fun x35 =>
 sx a0.a a0.len s25.1 1 fun p36 =>
 ldT (.int .i64) p36 fun x37 =>
 sx a0.a a0.len s25.1 1 fun p38 =>
 st1 p38 (.int .i64 x35) <|
 sx a0.a a0.len s27.1 1 fun p39 =>
 st1 p39 (.int .i64 x37) <|
 X22 ((IntKind.wrap .i64 (s27.1 - (1 : Int))), (IntKind.wrap .i64 (s25.1 + (1 : Int))), ())))
 (fun J26 =>
 lfp (σ := (Int × Unit)) (fun X40 s41 => /- j -/
 brB (decide (s25.1 ≤ s41.1))
 (sx a0.a a0.len s41.1 1 fun p42 =>
 ldT (.int .i64) p42 fun x43 =>
 sx a0.a a0.len a1 1 fun p44 =>
 ldT (.int .i64) p44 fun x45 =>
 callF Try.prog a4 #[(.int .i64 x43), (.int .i64 x45)] (.int .i64) fun r46 =>
 brB (!(decide (r46 < (0 : Int))))
 (X40 ((IntKind.wrap .i64 (s41.1 - (1 : Int))), ()))
 (J26 (s41.1, ())))
 (J26 (s41.1, ())))
 (s23.1, ())))
 (fun J24 =>
 lfp (σ := (Int × Unit)) (fun X47 s48 => /- i -/
 brB (decide (s48.1 ≤ s23.1))
 (sx a0.a a0.len s48.1 1 fun p49 =>
 ldT (.int .i64) p49 fun x50 =>
 sx a0.a a0.len a1 1 fun p51 =>
 ldT (.int .i64) p51 fun x52 =>
 callF Try.prog a4 #[(.int .i64 x50), (.int .i64 x52)] (.int .i64) fun r53 =>
 brB (decide (r53 < (0 : Int)))
 (X47 ((IntKind.wrap .i64 (s48.1 + (1 : Int))), ()))
 (J24 (s48.1, ())))
 (J24 (s48.1, ())))
 (s23.2.1, ())))
 ((IntKind.wrap .i64 (s9.1 - (1 : Int))), (IntKind.wrap .i64 (s7.1 + (1 : Int))), ())))
 (fun J8 =>
 lfp (σ := (Int × Unit)) (fun X54 s55 => /- j -/
 brB (decide (s7.1 ≤ s55.1))
 (sx a0.a a0.len s55.1 1 fun p56 =>
 ldT (.int .i64) p56 fun x57 =>
 sx a0.a a0.len a1 1 fun p58 =>
 ldT (.int .i64) p58 fun x59 =>
 callF Try.prog a4 #[(.int .i64 x57), (.int .i64 x59)] (.int .i64) fun r60 =>
 brB (!(decide (r60 < (0 : Int))))
 (X54 ((IntKind.wrap .i64 (s55.1 - (1 : Int))), ()))
 (J8 (s55.1, ())))
 (J8 (s55.1, ())))
 ((IntKind.wrap .i64 (a2 - (1 : Int))), ())))
 (fun J6 =>
 lfp (σ := (Int × Unit)) (fun X61 s62 => /- i -/
 brB (decide (s62.1 ≤ (IntKind.wrap .i64 (a2 - (1 : Int)))))
 (sx a0.a a0.len s62.1 1 fun p63 =>
 ldT (.int .i64) p63 fun x64 =>
 sx a0.a a0.len a1 1 fun p65 =>
 ldT (.int .i64) p65 fun x66 =>
 callF Try.prog a4 #[(.int .i64 x64), (.int .i64 x66)] (.int .i64) fun r67 =>
 brB (decide (r67 < (0 : Int)))
 (X61 ((IntKind.wrap .i64 (s62.1 + (1 : Int))), ()))
 (J6 (s62.1, ())))
 (J6 (s62.1, ())))
 ((IntKind.wrap .i64 (a1 + (1 : Int))), ()))
set_option maxRecDepth 100000 in
theorem E_slices_partitionCmpFunc_lits_Lit (a0 : Sl) (a1 : Int) (a2 : Int) (a3 : Int) (a4 : Value) (K : (Int × (Bool × Unit)) → HP) (h : Heap) : fnVC Try.prog [(1000000, .nil)] 178 Try.f99 [(.slice a0.a a0.len a0.cap), (.int .i64 a1), (.int .i64 a2), (.int .i64 a3), a4] (.tup (.cons (.int .i64) (.cons .bool .nil))) K h = F_slices_partitionCmpFunc_lits_Lit a0 a1 a2 a3 a4 K h := by kernel_rfl
set_option maxRecDepth 100000 in
theorem S_slices_partitionCmpFunc_lits_Lit{h : Heap} {a0 : Sl} {a1 : Int} {a2 : Int} {a3 : Int} {a4 : Value} (K : (Int × (Bool × Unit)) → HP) (hF : F_slices_partitionCmpFunc_lits_Lit a0 a1 a2 a3 a4 K h) : CallsH Try.prog fn_slices_partitionCmpFunc_lits_Lit #[(.slice a0.a a0.len a0.cap), (.int .i64 a1), (.int .i64 a2), (.int .i64 a3), a4] h fun v h' => ∃ x : (Int × (Bool × Unit)), v = Ty.enc (.tup (.cons (.int .i64) (.cons .bool .nil))) x ∧ K x h' :=
  callsH_of_fn (P := Try.prog) (fn := Try.f99) (τ := (.tup (.cons (.int .i64) (.cons .bool .nil)))) follows Try.func99 (by kernel_rfl) (by kernel_rfl) Try.call99 (Eq.mpr (E_slices_partitionCmpFunc_lits_Lit a0 a1 a2 a3 a4 K h) hF)

def F_math_bits_Len64 (a0 : Int) (K : Int → HP) : HP :=
 jn (σ := (Int × (Int × Unit))) (fun s1 => /- n x -/
 jn (σ := (Int × (Int × Unit))) (fun s3 => /- n x -/
 jn (σ := (Int × (Int × Unit))) (fun s5 => /- n x -/
 six (ByteArray.mk #[0, 1, 2, 2, 3, 3, 3, 3, 4, 4, 4, 4, 4, 4, 4, 4, 5, 5, 5, 5, 5, 5, 5, 5, 5, 5, 5, 5, 5, 5, 5, 5, 6, 6, 6, 6, 6, 6, 6, 6, 6, 6, 6, 6, 6, 6, 6, 6, 6, 6, 6, 6, 6, 6, 6, 6, 6, 6, 6, 6, 6, 6, 6, 6, 7, 7, 7, 7, 7, 7, 7, 7, 7, 7, 7, 7, 7, 7, 7, 7, 7, 7, 7, 7, 7, 7, 7, 7, 7, 7, 7, 7, 7, 7, 7, 7, 7, 7, 7, 7, 7, 7, 7, 7, 7, 7, 7, 7, 7, 7, 7, 7, 7, 7, 7, 7, 7, 7, 7, 7, 7, 7, 7, 7, 7, 7, 7, 7, 8, 8, 8, 8, 8, 8, 8, 8, 8, 8, 8, 8, 8, 8, 8, 8, 8, 8, 8, 8, 8, 8, 8, 8, 8, 8, 8, 8, 8, 8, 8, 8, 8, 8, 8, 8, 8, 8, 8, 8, 8, 8, 8, 8, 8, 8, 8, 8, 8, 8, 8, 8, 8, 8, 8, 8, 8, 8, 8, 8, 8, 8, 8, 8, 8, 8, 8, 8, 8, 8, 8, 8, 8, 8, 8, 8, 8, 8, 8, 8, 8, 8, 8, 8, 8, 8, 8, 8, 8, 8, 8, 8, 8, 8, 8, 8, 8, 8, 8, 8, 8, 8, 8, 8, 8, 8, 8, 8, 8, 8, 8, 8, 8, 8, 8, 8, 8, 8, 8, 8, 8, 8, 8, 8, 8, 8, 8, 8]) (IntKind.wrap .u8 s5.2.1) fun c6 =>
 K (IntKind.wrap .i64 (s5.1 + (IntKind.wrap .i64 c6))))
 (fun J4 =>
 brB (decide (s3.2.1 ≥ (256 : Int)))
 (ge0 (8 : Int) <|
 J4 ((IntKind.wrap .i64 (s3.1 + (8 : Int))), (Int.fdiv s3.2.1 (2 ^ (min ((8 : Int)).toNat 64))), ()))
 (J4 (s3.1, s3.2.1, ()))))
 (fun J2 =>
 brB (decide (s1.2.1 ≥ (65536 : Int)))
 (ge0 (16 : Int) <|
 J2 ((IntKind.wrap .i64 (s1.1 + (16 : Int))), (Int.fdiv s1.2.1 (2 ^ (min ((16 : Int)).toNat 64))), ()))
 (J2 (s1.1, s1.2.1, ()))))
 (fun J0 =>
 brB (decide (a0 ≥ (4294967296 : Int)))
 (ge0 (32 : Int) <|
 J0 ((32 : Int), (Int.fdiv a0 (2 ^ (min ((32 : Int)).toNat 64))), ()))
 (J0 ((0 : Int), a0, ())))
set_option maxRecDepth 100000 in
theorem E_math_bits_Len64 (a0 : Int) (K : Int → HP) (h : Heap) : fnVC Try.prog [(1000000, .nil)] 25 Try.f101 [(.int .u64 a0)] (.int .i64) K h = F_math_bits_Len64 a0 K h := by kernel_rfl
set_option maxRecDepth 100000 in
theorem S_math_bits_Len64{h : Heap} {a0 : Int} (K : Int → HP) (hF : F_math_bits_Len64 a0 K h) : CallsH Try.prog fn_math_bits_Len64 #[(.int .u64 a0)] h fun v h' => ∃ x : Int, v = Ty.enc (.int .i64) x ∧ K x h' :=
  callsH_of_fn (P := Try.prog) (fn := Try.f101) (τ := (.int .i64)) follows Try.func101 (by kernel_rfl) (by kernel_rfl) Try.call101 (Eq.mpr (E_math_bits_Len64 a0 K h) hF)

def F_cmp_isNaN_int (a0 : Int) (K : Bool → HP) : HP :=
 K (a0 != a0)
set_option maxRecDepth 100000 in
theorem E_cmp_isNaN_int (a0 : Int) (K : Bool → HP) (h : Heap) : fnVC Try.prog [(1000000, .nil)] 6 Try.f102 [(.int .i64 a0)] .bool K h = F_cmp_isNaN_int a0 K h := by kernel_rfl
set_option maxRecDepth 100000 in
theorem S_cmp_isNaN_int{h : Heap} {a0 : Int} (K : Bool → HP) (hF : F_cmp_isNaN_int a0 K h) : CallsH Try.prog fn_cmp_isNaN_int #[(.int .i64 a0)] h fun v h' => ∃ x : Bool, v = Ty.enc .bool x ∧ K x h' :=
  callsH_of_fn (P := Try.prog) (fn := Try.f102) (τ := .bool) follows Try.func102 (by kernel_rfl) (by kernel_rfl) Try.call102 (Eq.mpr (E_cmp_isNaN_int a0 K h) hF)

def F_cmp_isNaN_lits_Lit (a0 : Int) (K : Bool → HP) : HP :=
 K (a0 != a0)
set_option maxRecDepth 100000 in
theorem E_cmp_isNaN_lits_Lit (a0 : Int) (K : Bool → HP) (h : Heap) : fnVC Try.prog [(1000000, .nil)] 6 Try.f103 [(.int .i64 a0)] .bool K h = F_cmp_isNaN_lits_Lit a0 K h := by kernel_rfl
set_option maxRecDepth 100000 in
theorem S_cmp_isNaN_lits_Lit{h : Heap} {a0 : Int} (K : Bool → HP) (hF : F_cmp_isNaN_lits_Lit a0 K h) : CallsH Try.prog fn_cmp_isNaN_lits_Lit #[(.int .i64 a0)] h fun v h' => ∃ x : Bool, v = Ty.enc .bool x ∧ K x h' :=
  callsH_of_fn (P := Try.prog) (fn := Try.f103) (τ := .bool) follows Try.func103 (by kernel_rfl) (by kernel_rfl) Try.call103 (Eq.mpr (E_cmp_isNaN_lits_Lit a0 K h) hF)

def F_clauses_sorted_1 (a0 : Value) (c0 : Addr) (K : Unit → HP) : HP :=
 ldT .sl c0 fun x0 =>
 callT Try.prog fn_slices_Values_clauses_Clause_lits_Lit #[(.slice x0.a x0.len x0.cap)] .val fun r1 =>
 callT Try.prog fn_slices_SortedFunc_lits_Lit #[r1, (.func (.func fn_lits_Compare) #[] #[])] .sl fun r2 =>
 lfp (σ := (Int × (Int × Unit))) (fun X3 s4 => /-  last -/
 brB (decide (s4.1 < (r2.len : Int)))
 (jn (σ := (Int × Unit)) (fun s6 => /- last -/
 X3 ((IntKind.wrap .i64 (s4.1 + (1 : Int))), s6.1, ()))
 (fun J5 =>
 sx r2.a r2.len s4.1 1 fun p7 =>
 ldT (.int .i64) p7 fun x8 =>
 brB (x8 == s4.2.1)
 (J5 (s4.2.1, ()))
 (callF Try.prog a0 #[(.int .i64 x8)] .bool fun r9 =>
 brB (!r9)
 (K (()))
 (J5 (x8, ())))))
 (K (())))
 ((0 : Int), (0 : Int), ())
set_option maxRecDepth 100000 in
theorem E_clauses_sorted_1 (a0 : Value) (c0 : Addr) (K : Unit → HP) (h : Heap) : fnVC Try.prog [(1000000, .nil)] 23 Try.f104 [a0, (.pointer (some c0))] (.tup .nil) K h = F_clauses_sorted_1 a0 c0 K h := by kernel_rfl
set_option maxRecDepth 100000 in
theorem S_clauses_sorted_1{h : Heap} {a0 : Value} {c0 : Addr} (K : Unit → HP) (hF : F_clauses_sorted_1 a0 c0 K h) : CallsH Try.prog fn_clauses_sorted_1 #[a0, (.pointer (some c0))] h fun v h' => ∃ x : Unit, v = Ty.enc (.tup .nil) x ∧ K x h' :=
  callsH_of_fn (P := Try.prog) (fn := Try.f104) (τ := (.tup .nil)) follows Try.func104 (by kernel_rfl) (by kernel_rfl) Try.call104 (Eq.mpr (E_clauses_sorted_1 a0 c0 K h) hF)

def F_slices_SortedFunc_lits_Lit (a0 : Value) (a1 : Value) (K : Sl → HP) : HP :=
 callT Try.prog fn_slices_Collect_lits_Lit #[a0] .sl fun r0 =>
 callT Try.prog fn_slices_SortFunc_lits_Lit_lits_Lit #[(.slice r0.a r0.len r0.cap), a1] (.tup .nil) fun r1 =>
 K ⟨r0.a, r0.len, r0.cap⟩
set_option maxRecDepth 100000 in
theorem E_slices_SortedFunc_lits_Lit (a0 : Value) (a1 : Value) (K : Sl → HP) (h : Heap) : fnVC Try.prog [(1000000, .nil)] 12 Try.f105 [a0, a1] .sl K h = F_slices_SortedFunc_lits_Lit a0 a1 K h := by kernel_rfl
set_option maxRecDepth 100000 in
theorem S_slices_SortedFunc_lits_Lit{h : Heap} {a0 : Value} {a1 : Value} (K : Sl → HP) (hF : F_slices_SortedFunc_lits_Lit a0 a1 K h) : CallsH Try.prog fn_slices_SortedFunc_lits_Lit #[a0, a1] h fun v h' => ∃ x : Sl, v = Ty.enc .sl x ∧ K x h' :=
  callsH_of_fn (P := Try.prog) (fn := Try.f105) (τ := .sl) follows Try.func105 (by kernel_rfl) (by kernel_rfl) Try.call105 (Eq.mpr (E_slices_SortedFunc_lits_Lit a0 a1 K h) hF)

def F_slices_Values_clauses_Clause_lits_Lit (a0 : Sl) (K : Value → HP) : HP :=
 nw #[(.slice a0.a a0.len a0.cap)] ty_clauses_Clause fun b0 =>
 K (.func (.func fn_slices_Values_clauses_Clause_lits_Lit_1) #[] #[(.pointer (some (⟨b0, 0, none⟩ : Addr)))])
set_option maxRecDepth 100000 in
theorem E_slices_Values_clauses_Clause_lits_Lit (a0 : Sl) (K : Value → HP) (h : Heap) : fnVC Try.prog [(1000000, .nil)] 4 Try.f106 [(.slice a0.a a0.len a0.cap)] .val K h = F_slices_Values_clauses_Clause_lits_Lit a0 K h := by kernel_rfl
set_option maxRecDepth 100000 in
theorem S_slices_Values_clauses_Clause_lits_Lit{h : Heap} {a0 : Sl} (K : Value → HP) (hF : F_slices_Values_clauses_Clause_lits_Lit a0 K h) : CallsH Try.prog fn_slices_Values_clauses_Clause_lits_Lit #[(.slice a0.a a0.len a0.cap)] h fun v h' => ∃ x : Value, v = Ty.enc .val x ∧ K x h' :=
  callsH_of_fn (P := Try.prog) (fn := Try.f106) (τ := .val) follows Try.func106 (by kernel_rfl) (by kernel_rfl) Try.call106 (Eq.mpr (E_slices_Values_clauses_Clause_lits_Lit a0 K h) hF)

def F_slices_siftDownCmpFunc_lits_Lit (a0 : Sl) (a1 : Int) (a2 : Int) (a3 : Int) (a4 : Value) (K : Unit → HP) : HP :=
 lfp (σ := (Int × Unit)) (fun X0 s1 => /- root -/
 brB (decide ((IntKind.wrap .i64 ((IntKind.wrap .i64 ((2 : Int) * s1.1)) + (1 : Int))) ≥ a2))
 (K (()))
 (brB (decide ((IntKind.wrap .i64 ((IntKind.wrap .i64 ((IntKind.wrap .i64 ((2 : Int) * s1.1)) + (1 : Int))) + (1 : Int))) < a2))
 (sx a0.a a0.len (IntKind.wrap .i64 (a3 + (IntKind.wrap .i64 ((IntKind.wrap .i64 ((2 : Int) * s1.1)) + (1 : Int))))) 1 fun p2 =>
 ldT (.int .i64) p2 fun x3 =>
 sx a0.a a0.len (IntKind.wrap .i64 ((IntKind.wrap .i64 (a3 + (IntKind.wrap .i64 ((IntKind.wrap .i64 ((2 : Int) * s1.1)) + (1 : Int))))) + (1 : Int))) 1 fun p4 =>
 ldT (.int .i64) p4 fun x5 =>
 callF Try.prog a4 #[(.int .i64 x3), (.int .i64 x5)] (.int .i64) fun r6 =>
 jn (σ := (Int × Unit)) (fun s8 => /- child -/
 sx a0.a a0.len (IntKind.wrap .i64 (a3 + s1.1)) 1 fun p9 =>
 ldT (.int .i64) p9 fun x10 =>
 sx a0.a a0.len (IntKind.wrap .i64 (a3 + s8.1)) 1 fun p11 =>
 ldT (.int .i64) p11 fun x12 =>
 callF Try.prog a4 #[(.int .i64 x10), (.int .i64 x12)] (.int .i64) fun r13 =>
 brB (!(decide (r13 < (0 : Int))))
 (K (()))
 (sx a0.a a0.len (IntKind.wrap .i64 (a3 + s8.1)) 1 fun p14 =>
 ldT (.int .i64) p14 fun x15 =>
 sx a0.a a0.len (IntKind.wrap .i64 (a3 + s1.1)) 1 fun p16 =>
 ldT (.int .i64) p16 fun x17 =>
 sx a0.a a0.len (IntKind.wrap .i64 (a3 + s1.1)) 1 fun p18 =>
 st1 p18 (.int .i64 x15) <|
 sx a0.a a0.len (IntKind.wrap .i64 (a3 + s8.1)) 1 fun p19 =>
 st1 p19 (.int .i64 x17) <|
 X0 (s8.1, ())))
 (fun J7 =>
 brB (decide (r6 < (0 : Int)))
 (J7 ((IntKind.wrap .i64 ((IntKind.wrap .i64 ((IntKind.wrap .i64 ((2 : Int) * s1.1)) + (1 : Int))) + (1 : Int))), ()))
 (J7 ((IntKind.wrap .i64 ((IntKind.wrap .i64 ((2 : Int) * s1.1)) + (1 : Int))), ()))))
 (jn (σ := (Int × Unit)) (fun s21 => /- child -/
 sx a0.a a0.len (IntKind.wrap .i64 (a3 + s1.1)) 1 fun p22 =>
 ldT (.int .i64) p22 fun x23 =>
 sx a0.a a0.len (IntKind.wrap .i64 (a3 + s21.1)) 1 fun p24 =>
 ldT (.int .i64) p24 fun x25 =>
 callF Try.prog a4 #[(.int .i64 x23), (.int .i64 x25)] (.int .i64) fun r26 =>
 brB (!(decide (r26 < (0 : Int))))
 (K (()))
 (sx a0.a a0.len (IntKind.wrap .i64 (a3 + s21.1)) 1 fun p27 =>
 ldT (.int .i64) p27 fun x28 =>
 sx a0.a a0.len (IntKind.wrap .i64 (a3 + s1.1)) 1 fun p29 =>
 ldT (.int .i64) p29 fun x30 =>
 sx a0.a a0.len (IntKind.wrap .i64 (a3 + s1.1)) 1 fun p31 =>
 st1 p31 (.int .i64 x28) <|
 sx a0.a a0.len (IntKind.wrap .i64 (a3 + s21.1)) 1 fun p32 =>
 st1 p32 (.int .i64 x30) <|
 X0 (s21.1, ())))
 (fun J20 =>
 J20 ((IntKind.wrap .i64 ((IntKind.wrap .i64 ((2 : Int) * s1.1)) + (1 : Int))), ())))))
 (a1, ())
set_option maxRecDepth 100000 in
theorem E_slices_siftDownCmpFunc_lits_Lit (a0 : Sl) (a1 : Int) (a2 : Int) (a3 : Int) (a4 : Value) (K : Unit → HP) (h : Heap) : fnVC Try.prog [(1000000, .nil)] 82 Try.f107 [(.slice a0.a a0.len a0.cap), (.int .i64 a1), (.int .i64 a2), (.int .i64 a3), a4] (.tup .nil) K h = F_slices_siftDownCmpFunc_lits_Lit a0 a1 a2 a3 a4 K h := by kernel_rfl
set_option maxRecDepth 100000 in
theorem S_slices_siftDownCmpFunc_lits_Lit{h : Heap} {a0 : Sl} {a1 : Int} {a2 : Int} {a3 : Int} {a4 : Value} (K : Unit → HP) (hF : F_slices_siftDownCmpFunc_lits_Lit a0 a1 a2 a3 a4 K h) : CallsH Try.prog fn_slices_siftDownCmpFunc_lits_Lit #[(.slice a0.a a0.len a0.cap), (.int .i64 a1), (.int .i64 a2), (.int .i64 a3), a4] h fun v h' => ∃ x : Unit, v = Ty.enc (.tup .nil) x ∧ K x h' :=
  callsH_of_fn (P := Try.prog) (fn := Try.f107) (τ := (.tup .nil)) follows Try.func107 (by kernel_rfl) (by kernel_rfl) Try.call107 (Eq.mpr (E_slices_siftDownCmpFunc_lits_Lit a0 a1 a2 a3 a4 K h) hF)

def F_slices_nextPowerOfTwo (a0 : Int) (K : Int → HP) : HP :=
 callT Try.prog fn_math_bits_Len #[(.int .u64 (IntKind.wrap .u64 a0))] (.int .i64) fun r0 =>
 ge0 r0 <|
 K (IntKind.wrap .u64 ((1 : Int) * 2 ^ (min (r0).toNat 64)))
set_option maxRecDepth 100000 in
theorem E_slices_nextPowerOfTwo (a0 : Int) (K : Int → HP) (h : Heap) : fnVC Try.prog [(1000000, .nil)] 7 Try.f108 [(.int .i64 a0)] (.int .u64) K h = F_slices_nextPowerOfTwo a0 K h := by kernel_rfl
set_option maxRecDepth 100000 in
theorem S_slices_nextPowerOfTwo{h : Heap} {a0 : Int} (K : Int → HP) (hF : F_slices_nextPowerOfTwo a0 K h) : CallsH Try.prog fn_slices_nextPowerOfTwo #[(.int .i64 a0)] h fun v h' => ∃ x : Int, v = Ty.enc (.int .u64) x ∧ K x h' :=
  callsH_of_fn (P := Try.prog) (fn := Try.f108) (τ := (.int .u64)) follows Try.func108 (by kernel_rfl) (by kernel_rfl) Try.call108 (Eq.mpr (E_slices_nextPowerOfTwo a0 K h) hF)

def F_slices_xorshift_Next (a0 : Option Addr) (K : Int → HP) : HP :=
 nn a0 fun p0 =>
 ldT (.int .u64) p0 fun x1 =>
 nn a0 fun p2 =>
 ldT (.int .u64) p2 fun x3 =>
 ge0 (13 : Int) <|
 nn a0 fun p4 =>
 st1 p4 (.int .u64 (bXor .u64 x1 (IntKind.wrap .u64 (x3 * 2 ^ (min ((13 : Int)).toNat 64))))) <|
 nn a0 fun p5 =>
 ldT (.int .u64) p5 fun x6 =>
 nn a0 fun p7 =>
 ldT (.int .u64) p7 fun x8 =>
 ge0 (7 : Int) <|
 nn a0 fun p9 =>
 st1 p9 (.int .u64 (bXor .u64 x6 (Int.fdiv x8 (2 ^ (min ((7 : Int)).toNat 64))))) <|
 nn a0 fun p10 =>
 ldT (.int .u64) p10 fun x11 =>
 nn a0 fun p12 =>
 ldT (.int .u64) p12 fun x13 =>
 ge0 (17 : Int) <|
 nn a0 fun p14 =>
 st1 p14 (.int .u64 (bXor .u64 x11 (IntKind.wrap .u64 (x13 * 2 ^ (min ((17 : Int)).toNat 64))))) <|
 nn a0 fun p15 =>
 ldT (.int .u64) p15 fun x16 =>
 K x16
set_option maxRecDepth 100000 in
theorem E_slices_xorshift_Next (a0 : Option Addr) (K : Int → HP) (h : Heap) : fnVC Try.prog [(1000000, .nil)] 33 Try.f109 [(.pointer a0)] (.int .u64) K h = F_slices_xorshift_Next a0 K h := by kernel_rfl
set_option maxRecDepth 100000 in
theorem S_slices_xorshift_Next{h : Heap} {a0 : Option Addr} (K : Int → HP) (hF : F_slices_xorshift_Next a0 K h) : CallsH Try.prog fn_slices_xorshift_Next #[(.pointer a0)] h fun v h' => ∃ x : Int, v = Ty.enc (.int .u64) x ∧ K x h' :=
  callsH_of_fn (P := Try.prog) (fn := Try.f109) (τ := (.int .u64)) follows Try.func109 (by kernel_rfl) (by kernel_rfl) Try.call109 (Eq.mpr (E_slices_xorshift_Next a0 K h) hF)

def F_slices_medianAdjacentCmpFunc_lits_Lit (a0 : Sl) (a1 : Int) (a2 : Option Addr) (a3 : Value) (K : Int → HP) : HP :=
 callT Try.prog fn_slices_medianCmpFunc_lits_Lit #[(.slice a0.a a0.len a0.cap), (.int .i64 (IntKind.wrap .i64 (a1 - (1 : Int)))), (.int .i64 a1), (.int .i64 (IntKind.wrap .i64 (a1 + (1 : Int)))), (.pointer a2), a3] (.int .i64) fun r0 =>
 K r0
set_option maxRecDepth 100000 in
theorem E_slices_medianAdjacentCmpFunc_lits_Lit (a0 : Sl) (a1 : Int) (a2 : Option Addr) (a3 : Value) (K : Int → HP) (h : Heap) : fnVC Try.prog [(1000000, .nil)] 18 Try.f110 [(.slice a0.a a0.len a0.cap), (.int .i64 a1), (.pointer a2), a3] (.int .i64) K h = F_slices_medianAdjacentCmpFunc_lits_Lit a0 a1 a2 a3 K h := by kernel_rfl
set_option maxRecDepth 100000 in
theorem S_slices_medianAdjacentCmpFunc_lits_Lit{h : Heap} {a0 : Sl} {a1 : Int} {a2 : Option Addr} {a3 : Value} (K : Int → HP) (hF : F_slices_medianAdjacentCmpFunc_lits_Lit a0 a1 a2 a3 K h) : CallsH Try.prog fn_slices_medianAdjacentCmpFunc_lits_Lit #[(.slice a0.a a0.len a0.cap), (.int .i64 a1), (.pointer a2), a3] h fun v h' => ∃ x : Int, v = Ty.enc (.int .i64) x ∧ K x h' :=
  callsH_of_fn (P := Try.prog) (fn := Try.f110) (τ := (.int .i64)) follows Try.func110 (by kernel_rfl) (by kernel_rfl) Try.call110 (Eq.mpr (E_slices_medianAdjacentCmpFunc_lits_Lit a0 a1 a2 a3 K h) hF)

def F_slices_medianCmpFunc_lits_Lit (a0 : Sl) (a1 : Int) (a2 : Int) (a3 : Int) (a4 : Option Addr) (a5 : Value) (K : Int → HP) : HP :=
 callT Try.prog fn_slices_order2CmpFunc_lits_Lit #[(.slice a0.a a0.len a0.cap), (.int .i64 a1), (.int .i64 a2), (.pointer a4), a5] (.tup (.cons (.int .i64) (.cons (.int .i64) .nil))) fun r0 =>
 callT Try.prog fn_slices_order2CmpFunc_lits_Lit #[(.slice a0.a a0.len a0.cap), (.int .i64 r0.2.1), (.int .i64 a3), (.pointer a4), a5] (.tup (.cons (.int .i64) (.cons (.int .i64) .nil))) fun r1 =>
 callT Try.prog fn_slices_order2CmpFunc_lits_Lit #[(.slice a0.a a0.len a0.cap), (.int .i64 r0.1), (.int .i64 r1.1), (.pointer a4), a5] (.tup (.cons (.int .i64) (.cons (.int .i64) .nil))) fun r2 =>
 K r2.2.1
set_option maxRecDepth 100000 in
theorem E_slices_medianCmpFunc_lits_Lit (a0 : Sl) (a1 : Int) (a2 : Int) (a3 : Int) (a4 : Option Addr) (a5 : Value) (K : Int → HP) (h : Heap) : fnVC Try.prog [(1000000, .nil)] 41 Try.f111 [(.slice a0.a a0.len a0.cap), (.int .i64 a1), (.int .i64 a2), (.int .i64 a3), (.pointer a4), a5] (.int .i64) K h = F_slices_medianCmpFunc_lits_Lit a0 a1 a2 a3 a4 a5 K h := by kernel_rfl
set_option maxRecDepth 100000 in
theorem S_slices_medianCmpFunc_lits_Lit{h : Heap} {a0 : Sl} {a1 : Int} {a2 : Int} {a3 : Int} {a4 : Option Addr} {a5 : Value} (K : Int → HP) (hF : F_slices_medianCmpFunc_lits_Lit a0 a1 a2 a3 a4 a5 K h) : CallsH Try.prog fn_slices_medianCmpFunc_lits_Lit #[(.slice a0.a a0.len a0.cap), (.int .i64 a1), (.int .i64 a2), (.int .i64 a3), (.pointer a4), a5] h fun v h' => ∃ x : Int, v = Ty.enc (.int .i64) x ∧ K x h' :=
  callsH_of_fn (P := Try.prog) (fn := Try.f111) (τ := (.int .i64)) follows Try.func111 (by kernel_rfl) (by kernel_rfl) Try.call111 (Eq.mpr (E_slices_medianCmpFunc_lits_Lit a0 a1 a2 a3 a4 a5 K h) hF)

def F_slices_Collect_lits_Lit (a0 : Value) (K : Sl → HP) : HP :=
 callT Try.prog fn_slices_AppendSeq_lits_Lit_lits_Lit #[(.slice none 0 0), a0] .sl fun r0 =>
 K ⟨r0.a, r0.len, r0.cap⟩
set_option maxRecDepth 100000 in
theorem E_slices_Collect_lits_Lit (a0 : Value) (K : Sl → HP) (h : Heap) : fnVC Try.prog [(1000000, .nil)] 5 Try.f112 [a0] .sl K h = F_slices_Collect_lits_Lit a0 K h := by kernel_rfl
set_option maxRecDepth 100000 in
theorem S_slices_Collect_lits_Lit{h : Heap} {a0 : Value} (K : Sl → HP) (hF : F_slices_Collect_lits_Lit a0 K h) : CallsH Try.prog fn_slices_Collect_lits_Lit #[a0] h fun v h' => ∃ x : Sl, v = Ty.enc .sl x ∧ K x h' :=
  callsH_of_fn (P := Try.prog) (fn := Try.f112) (τ := .sl) follows Try.func112 (by kernel_rfl) (by kernel_rfl) Try.call112 (Eq.mpr (E_slices_Collect_lits_Lit a0 K h) hF)

def F_slices_Values_clauses_Clause_lits_Lit_1 (a0 : Value) (c0 : Addr) (K : Unit → HP) : HP :=
 ldT .sl c0 fun x0 =>
 lfp (σ := (Int × Unit)) (fun X1 s2 => /-  -/
 brB (decide (s2.1 < (x0.len : Int)))
 (sx x0.a x0.len s2.1 1 fun p3 =>
 ldT (.int .i64) p3 fun x4 =>
 callF Try.prog a0 #[(.int .i64 x4)] .bool fun r5 =>
 brB (!r5)
 (K (()))
 (X1 ((IntKind.wrap .i64 (s2.1 + (1 : Int))), ())))
 (K (())))
 ((0 : Int), ())
set_option maxRecDepth 100000 in
theorem E_slices_Values_clauses_Clause_lits_Lit_1 (a0 : Value) (c0 : Addr) (K : Unit → HP) (h : Heap) : fnVC Try.prog [(1000000, .nil)] 16 Try.f113 [a0, (.pointer (some c0))] (.tup .nil) K h = F_slices_Values_clauses_Clause_lits_Lit_1 a0 c0 K h := by kernel_rfl
set_option maxRecDepth 100000 in
theorem S_slices_Values_clauses_Clause_lits_Lit_1{h : Heap} {a0 : Value} {c0 : Addr} (K : Unit → HP) (hF : F_slices_Values_clauses_Clause_lits_Lit_1 a0 c0 K h) : CallsH Try.prog fn_slices_Values_clauses_Clause_lits_Lit_1 #[a0, (.pointer (some c0))] h fun v h' => ∃ x : Unit, v = Ty.enc (.tup .nil) x ∧ K x h' :=
  callsH_of_fn (P := Try.prog) (fn := Try.f113) (τ := (.tup .nil)) follows Try.func113 (by kernel_rfl) (by kernel_rfl) Try.call113 (Eq.mpr (E_slices_Values_clauses_Clause_lits_Lit_1 a0 c0 K h) hF)

def F_slices_order2CmpFunc_lits_Lit (a0 : Sl) (a1 : Int) (a2 : Int) (a3 : Option Addr) (a4 : Value) (K : (Int × (Int × Unit)) → HP) : HP :=
 sx a0.a a0.len a2 1 fun p0 =>
 ldT (.int .i64) p0 fun x1 =>
 sx a0.a a0.len a1 1 fun p2 =>
 ldT (.int .i64) p2 fun x3 =>
 callF Try.prog a4 #[(.int .i64 x1), (.int .i64 x3)] (.int .i64) fun r4 =>
 brB (decide (r4 < (0 : Int)))
 (nn a3 fun p5 =>
 ldT (.int .i64) p5 fun x6 =>
 nn a3 fun p7 =>
 st1 p7 (.int .i64 (IntKind.wrap .i64 (x6 + (1 : Int)))) <|
 K (a2, a1, ()))
 (K (a1, a2, ()))
set_option maxRecDepth 100000 in
theorem E_slices_order2CmpFunc_lits_Lit (a0 : Sl) (a1 : Int) (a2 : Int) (a3 : Option Addr) (a4 : Value) (K : (Int × (Int × Unit)) → HP) (h : Heap) : fnVC Try.prog [(1000000, .nil)] 32 Try.f114 [(.slice a0.a a0.len a0.cap), (.int .i64 a1), (.int .i64 a2), (.pointer a3), a4] (.tup (.cons (.int .i64) (.cons (.int .i64) .nil))) K h = F_slices_order2CmpFunc_lits_Lit a0 a1 a2 a3 a4 K h := by kernel_rfl
set_option maxRecDepth 100000 in
theorem S_slices_order2CmpFunc_lits_Lit{h : Heap} {a0 : Sl} {a1 : Int} {a2 : Int} {a3 : Option Addr} {a4 : Value} (K : (Int × (Int × Unit)) → HP) (hF : F_slices_order2CmpFunc_lits_Lit a0 a1 a2 a3 a4 K h) : CallsH Try.prog fn_slices_order2CmpFunc_lits_Lit #[(.slice a0.a a0.len a0.cap), (.int .i64 a1), (.int .i64 a2), (.pointer a3), a4] h fun v h' => ∃ x : (Int × (Int × Unit)), v = Ty.enc (.tup (.cons (.int .i64) (.cons (.int .i64) .nil))) x ∧ K x h' :=
  callsH_of_fn (P := Try.prog) (fn := Try.f114) (τ := (.tup (.cons (.int .i64) (.cons (.int .i64) .nil)))) follows Try.func114 (by kernel_rfl) (by kernel_rfl) Try.call114 (Eq.mpr (E_slices_order2CmpFunc_lits_Lit a0 a1 a2 a3 a4 K h) hF)

def F_slices_AppendSeq_lits_Lit_lits_Lit (a0 : Sl) (a1 : Value) (K : Sl → HP) : HP := fun h0 => (
 nw #[(.slice a0.a a0.len a0.cap)] ty_sl_lits_Lit fun b0 =>
 RangeVC Try.prog (.cons (.int .i64) .nil) a1 (fun x1 wrap2 next3 jump4 =>
 wrap2 <|
 ldT .sl (⟨b0, 0, none⟩ : Addr) fun x5 =>
 nw #[(.int .i64 x1.1)] ty_lits_Lit fun b6 =>
 apd ty_lits_Lit 1 8 #[(.int .i64 (0 : Int))] ⟨x5.a, x5.len, x5.cap⟩ ⟨(some (⟨b6, 0, none⟩ : Addr)), 1, 1⟩ fun s7 =>
 st1 (⟨b0, 0, none⟩ : Addr) (.slice s7.a s7.len s7.cap) <|
 next3)
 (ldT .sl (⟨b0, 0, none⟩ : Addr) fun x8 =>
 mkd h0.size <|
 K ⟨x8.a, x8.len, x8.cap⟩)
 (mkd h0.size <|
 K ⟨none, 0, 0⟩)
 []
 []) h0
set_option maxRecDepth 100000 in
theorem E_slices_AppendSeq_lits_Lit_lits_Lit (a0 : Sl) (a1 : Value) (K : Sl → HP) (h : Heap) : fnVC Try.prog [(1000000, .nil), (7, (.cons (.int .i64) .nil))] 13 Try.f115 [(.slice a0.a a0.len a0.cap), a1] .sl K h = F_slices_AppendSeq_lits_Lit_lits_Lit a0 a1 K h := by kernel_rfl
set_option maxRecDepth 100000 in
theorem S_slices_AppendSeq_lits_Lit_lits_Lit{h : Heap} {a0 : Sl} {a1 : Value} (K : Sl → HP) (hF : F_slices_AppendSeq_lits_Lit_lits_Lit a0 a1 K h) : CallsH Try.prog fn_slices_AppendSeq_lits_Lit_lits_Lit #[(.slice a0.a a0.len a0.cap), a1] h fun v h' => ∃ x : Sl, v = Ty.enc .sl x ∧ K x h' :=
  callsH_of_fn (P := Try.prog) (fn := Try.f115) (τ := .sl) follows Try.func115 (by kernel_rfl) (by kernel_rfl) Try.call115 (Eq.mpr (E_slices_AppendSeq_lits_Lit_lits_Lit a0 a1 K h) hF)

end Go.Proofs.S
