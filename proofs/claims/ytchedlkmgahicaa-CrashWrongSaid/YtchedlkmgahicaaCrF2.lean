/- The functions of the seat, each as a predicate over its values, printed by a program of ours, and that each is its text's. -/
import Derived.Test.YtchedlkmgahicaaSxH
import Derived.KernelRfl
import Derived.Test.YtchedlkmgahicaaProg
import Derived.Test.YtchedlkmgahicaaCrF0
set_option linter.unusedVariables false
namespace Go.Proofs.S
open Go Go.Sx Go.Proofs
def F_slices_Clone_disk_Entry_disk_Entry (a0 : Sl) (K : Sl → HP) : HP :=
 brB (Option.isNone a0.a)
 (K ⟨none, 0, 0⟩)
 (nw #[] ty_disk_Entry fun b0 =>
 apd ty_disk_Entry 3 24 #[(.int .i64 (0 : Int)), (.int .u32 (0 : Int)), (.int .i64 (0 : Int))] ⟨(some (⟨b0, 0, none⟩ : Addr)), 0, 0⟩ ⟨a0.a, a0.len, a0.cap⟩ fun s1 =>
 K ⟨s1.a, s1.len, s1.cap⟩)
set_option maxRecDepth 100000 in
theorem E_slices_Clone_disk_Entry_disk_Entry (a0 : Sl) (K : Sl → HP) (h : Heap) : fnVC Try.prog [(1000000, .nil)] 8 Try.f29 [(.slice a0.a a0.len a0.cap)] .sl K h = F_slices_Clone_disk_Entry_disk_Entry a0 K h := by kernel_rfl
set_option maxRecDepth 100000 in
theorem S_slices_Clone_disk_Entry_disk_Entry{h : Heap} {a0 : Sl} (K : Sl → HP) (hF : F_slices_Clone_disk_Entry_disk_Entry a0 K h) : CallsH Try.prog fn_slices_Clone_disk_Entry_disk_Entry #[(.slice a0.a a0.len a0.cap)] h fun v h' => ∃ x : Sl, v = Ty.enc .sl x ∧ K x h' :=
  callsH_of_fn (P := Try.prog) (fn := Try.f29) (τ := .sl) follows Try.func29 (by kernel_rfl) (by kernel_rfl) Try.call29 (Eq.mpr (E_slices_Clone_disk_Entry_disk_Entry a0 K h) hF)

def F_crash_Pairs (a0 : Sl) (a1 : Sl) (K : (Bool × (Int × Unit)) → HP) : HP :=
 callT Try.prog fn_crash_check #[(.slice a0.a a0.len a0.cap), (.slice a1.a a1.len a1.cap)] (.int .i64) fun r0 =>
 brB (r0 != (0 : Int))
 (K (false, r0, ()))
 (jn (σ := (Int × (Bool × Unit))) (fun s2 => /-  is -/
 K (s2.2.1, (0 : Int), ()))
 (fun J1 =>
 lfp (σ := (Int × (Bool × Unit))) (fun X3 s4 => /-  is -/
 brB (decide (s4.1 < (a0.len : Int)))
 (jn (σ := (Bool × Unit)) (fun s6 => /- is -/
 X3 ((IntKind.wrap .i64 (s4.1 + (1 : Int))), s6.1, ()))
 (fun J5 =>
 sx a0.a a0.len s4.1 3 fun p7 =>
 ldA (.cons (.int .i64) (.cons (.int .u32) (.cons (.int .i64) .nil))) p7 fun x8 =>
 nw #[(.int .i64 (0 : Int)), (.int .u32 (0 : Int)), (.int .i64 (0 : Int))] ty_disk_Entry fun b9 =>
 st1 (⟨b9, 0, none⟩ : Addr) (.int .i64 x8.1) <|
 st1 ((⟨b9, 0, none⟩ : Addr).add 1) (.int .u32 x8.2.1) <|
 st1 ((⟨b9, 0, none⟩ : Addr).add 2) (.int .i64 x8.2.2.1) <|
 sx a1.a a1.len s4.1 1 fun p10 =>
 ldT .bool p10 fun x11 =>
 brB (!x11)
 (J5 (s4.2.1, ()))
 (lfp (σ := (Int × (Bool × Unit))) (fun X12 s13 => /-  is -/
 brB (decide (s13.1 < (a0.len : Int)))
 (sx a0.a a0.len s13.1 3 fun p14 =>
 ldA (.cons (.int .i64) (.cons (.int .u32) (.cons (.int .i64) .nil))) p14 fun x15 =>
 nw #[(.int .i64 (0 : Int)), (.int .u32 (0 : Int)), (.int .i64 (0 : Int))] ty_disk_Entry fun b16 =>
 st1 (⟨b16, 0, none⟩ : Addr) (.int .i64 x15.1) <|
 st1 ((⟨b16, 0, none⟩ : Addr).add 1) (.int .u32 x15.2.1) <|
 st1 ((⟨b16, 0, none⟩ : Addr).add 2) (.int .i64 x15.2.2.1) <|
 ldT (.int .i64) ((⟨b16, 0, none⟩ : Addr).add 2) fun x17 =>
 ldT (.int .i64) ((⟨b9, 0, none⟩ : Addr).add 2) fun x18 =>
 brB (decide (x17 ≥ x18))
 (J5 (s13.2.1, ()))
 (sx a1.a a1.len s13.1 1 fun p19 =>
 ldT .bool p19 fun x20 =>
 brB (!x20)
 (J1 (s4.1, false, ()))
 (X12 ((IntKind.wrap .i64 (s13.1 + (1 : Int))), s13.2.1, ()))))
 (J5 (s13.2.1, ())))
 ((0 : Int), s4.2.1, ()))))
 (J1 (s4.1, s4.2.1, ())))
 ((0 : Int), true, ())))
set_option maxRecDepth 100000 in
theorem E_crash_Pairs (a0 : Sl) (a1 : Sl) (K : (Bool × (Int × Unit)) → HP) (h : Heap) : fnVC Try.prog [(1000000, .nil)] 50 Try.f30 [(.slice a0.a a0.len a0.cap), (.slice a1.a a1.len a1.cap)] (.tup (.cons .bool (.cons (.int .i64) .nil))) K h = F_crash_Pairs a0 a1 K h := by kernel_rfl
set_option maxRecDepth 100000 in
theorem S_crash_Pairs{h : Heap} {a0 : Sl} {a1 : Sl} (K : (Bool × (Int × Unit)) → HP) (hF : F_crash_Pairs a0 a1 K h) : CallsH Try.prog fn_crash_Pairs #[(.slice a0.a a0.len a0.cap), (.slice a1.a a1.len a1.cap)] h fun v h' => ∃ x : (Bool × (Int × Unit)), v = Ty.enc (.tup (.cons .bool (.cons (.int .i64) .nil))) x ∧ K x h' :=
  callsH_of_fn (P := Try.prog) (fn := Try.f30) (τ := (.tup (.cons .bool (.cons (.int .i64) .nil)))) follows Try.func30 (by kernel_rfl) (by kernel_rfl) Try.call30 (Eq.mpr (E_crash_Pairs a0 a1 K h) hF)

def F_crash_Drop (a0 : Sl) (a1 : Sl) (K : (Sl × (Int × Unit)) → HP) : HP :=
 callT Try.prog fn_crash_Valid #[(.slice a0.a a0.len a0.cap), (.slice a1.a a1.len a1.cap)] (.tup (.cons .bool (.cons (.int .i64) .nil))) fun r0 =>
 brB (r0.2.1 != (0 : Int))
 (K (⟨none, 0, 0⟩, r0.2.1, ()))
 (brB (!r0.1)
 (K (⟨none, 0, 0⟩, (2 : Int), ()))
 (lfp (σ := (Int × (Sl × Unit))) (fun X1 s2 => /-  out -/
 brB (decide (s2.1 < (a1.len : Int)))
 (callT Try.prog fn_slices_Clone_bool_bool #[(.slice a1.a a1.len a1.cap)] .sl fun r3 =>
 sx r3.a r3.len s2.1 1 fun p4 =>
 st1 p4 (.bool false) <|
 sx a1.a a1.len s2.1 1 fun p5 =>
 ldT .bool p5 fun x6 =>
 brB x6
 (callT Try.prog fn_crash_valid #[(.slice a0.a a0.len a0.cap), (.slice r3.a r3.len r3.cap)] .bool fun r7 =>
 jn (σ := (Sl × Unit)) (fun s9 => /- out -/
 X1 ((IntKind.wrap .i64 (s2.1 + (1 : Int))), ⟨s9.1.a, s9.1.len, s9.1.cap⟩, ()))
 (fun J8 =>
 brB r7
 (nw #[(.slice r3.a r3.len r3.cap)] ty_sl_bool fun b10 =>
 apd ty_sl_bool 1 24 #[(.slice none 0 0)] ⟨s2.2.1.a, s2.2.1.len, s2.2.1.cap⟩ ⟨(some (⟨b10, 0, none⟩ : Addr)), 1, 1⟩ fun s11 =>
 J8 (⟨s11.a, s11.len, s11.cap⟩, ()))
 (J8 (⟨s2.2.1.a, s2.2.1.len, s2.2.1.cap⟩, ()))))
 (jn (σ := (Sl × Unit)) (fun s13 => /- out -/
 X1 ((IntKind.wrap .i64 (s2.1 + (1 : Int))), ⟨s13.1.a, s13.1.len, s13.1.cap⟩, ()))
 (fun J12 =>
 J12 (⟨s2.2.1.a, s2.2.1.len, s2.2.1.cap⟩, ()))))
 (K (⟨s2.2.1.a, s2.2.1.len, s2.2.1.cap⟩, (0 : Int), ())))
 ((0 : Int), ⟨none, 0, 0⟩, ())))
set_option maxRecDepth 100000 in
theorem E_crash_Drop (a0 : Sl) (a1 : Sl) (K : (Sl × (Int × Unit)) → HP) (h : Heap) : fnVC Try.prog [(1000000, .nil)] 49 Try.f31 [(.slice a0.a a0.len a0.cap), (.slice a1.a a1.len a1.cap)] (.tup (.cons .sl (.cons (.int .i64) .nil))) K h = F_crash_Drop a0 a1 K h := by kernel_rfl
set_option maxRecDepth 100000 in
theorem S_crash_Drop{h : Heap} {a0 : Sl} {a1 : Sl} (K : (Sl × (Int × Unit)) → HP) (hF : F_crash_Drop a0 a1 K h) : CallsH Try.prog fn_crash_Drop #[(.slice a0.a a0.len a0.cap), (.slice a1.a a1.len a1.cap)] h fun v h' => ∃ x : (Sl × (Int × Unit)), v = Ty.enc (.tup (.cons .sl (.cons (.int .i64) .nil))) x ∧ K x h' :=
  callsH_of_fn (P := Try.prog) (fn := Try.f31) (τ := (.tup (.cons .sl (.cons (.int .i64) .nil)))) follows Try.func31 (by kernel_rfl) (by kernel_rfl) Try.call31 (Eq.mpr (E_crash_Drop a0 a1 K h) hF)

def F_crash_Right (a0 : Sl) (K : Bool → HP) : HP :=
 lfp (σ := (Int × (Int × (Bool × Unit)))) (fun X0 s1 => /-  epoch  -/
 brB (decide (s1.1 < (a0.len : Int)))
 (sx a0.a a0.len s1.1 3 fun p2 =>
 ldA (.cons (.int .i64) (.cons (.int .u32) (.cons (.int .i64) .nil))) p2 fun x3 =>
 nw #[(.int .i64 (0 : Int)), (.int .u32 (0 : Int)), (.int .i64 (0 : Int))] ty_disk_Entry fun b4 =>
 st1 (⟨b4, 0, none⟩ : Addr) (.int .i64 x3.1) <|
 st1 ((⟨b4, 0, none⟩ : Addr).add 1) (.int .u32 x3.2.1) <|
 st1 ((⟨b4, 0, none⟩ : Addr).add 2) (.int .i64 x3.2.2.1) <|
 ldT (.int .i64) (⟨b4, 0, none⟩ : Addr) fun x5 =>
 brB (decide (x5 < (0 : Int)))
 (K false)
 (ldT (.int .i64) (⟨b4, 0, none⟩ : Addr) fun x6 =>
 brB (decide (x6 ≥ (16 : Int)))
 (K false)
 (ldT (.int .i64) ((⟨b4, 0, none⟩ : Addr).add 2) fun x7 =>
 brB (decide (x7 < s1.2.1))
 (K false)
 (ldT (.int .i64) ((⟨b4, 0, none⟩ : Addr).add 2) fun x8 =>
 X0 ((IntKind.wrap .i64 (s1.1 + (1 : Int))), x8, s1.2.2.1, ())))))
 (K (decide ((a0.len : Int) ≤ (4096 : Int)))))
 ((0 : Int), (0 : Int), false, ())
set_option maxRecDepth 100000 in
theorem E_crash_Right (a0 : Sl) (K : Bool → HP) (h : Heap) : fnVC Try.prog [(1000000, .nil)] 32 Try.f32 [(.slice a0.a a0.len a0.cap)] .bool K h = F_crash_Right a0 K h := by kernel_rfl
set_option maxRecDepth 100000 in
theorem S_crash_Right{h : Heap} {a0 : Sl} (K : Bool → HP) (hF : F_crash_Right a0 K h) : CallsH Try.prog fn_crash_Right #[(.slice a0.a a0.len a0.cap)] h fun v h' => ∃ x : Bool, v = Ty.enc .bool x ∧ K x h' :=
  callsH_of_fn (P := Try.prog) (fn := Try.f32) (τ := .bool) follows Try.func32 (by kernel_rfl) (by kernel_rfl) Try.call32 (Eq.mpr (E_crash_Right a0 K h) hF)

def F_slices_Clone_bool_bool (a0 : Sl) (K : Sl → HP) : HP :=
 brB (Option.isNone a0.a)
 (K ⟨none, 0, 0⟩)
 (nw #[] ty_bool fun b0 =>
 apd ty_bool 1 1 #[(.bool false)] ⟨(some (⟨b0, 0, none⟩ : Addr)), 0, 0⟩ ⟨a0.a, a0.len, a0.cap⟩ fun s1 =>
 K ⟨s1.a, s1.len, s1.cap⟩)
set_option maxRecDepth 100000 in
theorem E_slices_Clone_bool_bool (a0 : Sl) (K : Sl → HP) (h : Heap) : fnVC Try.prog [(1000000, .nil)] 8 Try.f36 [(.slice a0.a a0.len a0.cap)] .sl K h = F_slices_Clone_bool_bool a0 K h := by kernel_rfl
set_option maxRecDepth 100000 in
theorem S_slices_Clone_bool_bool{h : Heap} {a0 : Sl} (K : Sl → HP) (hF : F_slices_Clone_bool_bool a0 K h) : CallsH Try.prog fn_slices_Clone_bool_bool #[(.slice a0.a a0.len a0.cap)] h fun v h' => ∃ x : Sl, v = Ty.enc .sl x ∧ K x h' :=
  callsH_of_fn (P := Try.prog) (fn := Try.f36) (τ := .sl) follows Try.func36 (by kernel_rfl) (by kernel_rfl) Try.call36 (Eq.mpr (E_slices_Clone_bool_bool a0 K h) hF)

def F_slices_Equal_bool_bool (a0 : Sl) (a1 : Sl) (K : Bool → HP) : HP :=
 brB ((a0.len : Int) != (a1.len : Int))
 (K false)
 (lfp (σ := (Int × (Bool × Unit))) (fun X0 s1 => /-   -/
 brB (decide (s1.1 < (a0.len : Int)))
 (sx a0.a a0.len s1.1 1 fun p2 =>
 ldT .bool p2 fun x3 =>
 sx a1.a a1.len s1.1 1 fun p4 =>
 ldT .bool p4 fun x5 =>
 brB (!(x3 == x5))
 (K false)
 (X0 ((IntKind.wrap .i64 (s1.1 + (1 : Int))), s1.2.1, ())))
 (K true))
 ((0 : Int), false, ()))
set_option maxRecDepth 100000 in
theorem E_slices_Equal_bool_bool (a0 : Sl) (a1 : Sl) (K : Bool → HP) (h : Heap) : fnVC Try.prog [(1000000, .nil)] 26 Try.f39 [(.slice a0.a a0.len a0.cap), (.slice a1.a a1.len a1.cap)] .bool K h = F_slices_Equal_bool_bool a0 a1 K h := by kernel_rfl
set_option maxRecDepth 100000 in
theorem S_slices_Equal_bool_bool{h : Heap} {a0 : Sl} {a1 : Sl} (K : Bool → HP) (hF : F_slices_Equal_bool_bool a0 a1 K h) : CallsH Try.prog fn_slices_Equal_bool_bool #[(.slice a0.a a0.len a0.cap), (.slice a1.a a1.len a1.cap)] h fun v h' => ∃ x : Bool, v = Ty.enc .bool x ∧ K x h' :=
  callsH_of_fn (P := Try.prog) (fn := Try.f39) (τ := .bool) follows Try.func39 (by kernel_rfl) (by kernel_rfl) Try.call39 (Eq.mpr (E_slices_Equal_bool_bool a0 a1 K h) hF)

def F_crash_group (a0 : Sl) (K : Value → HP) : HP :=
 nw #[(.slice a0.a a0.len a0.cap)] ty_sl_disk_Entry fun b0 =>
 K (.func (.func fn_crash_group_1) #[] #[(.pointer (some (⟨b0, 0, none⟩ : Addr)))])
set_option maxRecDepth 100000 in
theorem E_crash_group (a0 : Sl) (K : Value → HP) (h : Heap) : fnVC Try.prog [(1000000, .nil)] 4 Try.f40 [(.slice a0.a a0.len a0.cap)] .val K h = F_crash_group a0 K h := by kernel_rfl
set_option maxRecDepth 100000 in
theorem S_crash_group{h : Heap} {a0 : Sl} (K : Value → HP) (hF : F_crash_group a0 K h) : CallsH Try.prog fn_crash_group #[(.slice a0.a a0.len a0.cap)] h fun v h' => ∃ x : Value, v = Ty.enc .val x ∧ K x h' :=
  callsH_of_fn (P := Try.prog) (fn := Try.f40) (τ := .val) follows Try.func40 (by kernel_rfl) (by kernel_rfl) Try.call40 (Eq.mpr (E_crash_group a0 K h) hF)

def F_crash_All_1 (a0 : Value) (c0 : Addr) (K : Unit → HP) : HP :=
 ldT .sl c0 fun x0 =>
 callT Try.prog fn_crash_Right #[(.slice x0.a x0.len x0.cap)] .bool fun r1 =>
 brB (!r1)
 (K (()))
 (ldT .sl c0 fun x2 =>
 mks ty_bool 1 1 #[(.bool false)] (x2.len : Int) (x2.len : Int) fun s3 =>
 lfp (σ := Unit) (fun X4 s5 => /- -/
 callT Try.prog fn_slices_Clone_bool_bool #[(.slice s3.a s3.len s3.cap)] .sl fun r6 =>
 callF Try.prog a0 #[(.slice r6.a r6.len r6.cap)] .bool fun r7 =>
 brB (!r7)
 (K (()))
 (ldT .sl c0 fun x8 =>
 callT Try.prog fn_crash_next #[(.slice x8.a x8.len x8.cap), (.slice s3.a s3.len s3.cap)] .bool fun r9 =>
 brB (!r9)
 (K (()))
 (X4 (()))))
 (()))
set_option maxRecDepth 100000 in
theorem E_crash_All_1 (a0 : Value) (c0 : Addr) (K : Unit → HP) (h : Heap) : fnVC Try.prog [(1000000, .nil)] 19 Try.f41 [a0, (.pointer (some c0))] (.tup .nil) K h = F_crash_All_1 a0 c0 K h := by kernel_rfl
set_option maxRecDepth 100000 in
theorem S_crash_All_1{h : Heap} {a0 : Value} {c0 : Addr} (K : Unit → HP) (hF : F_crash_All_1 a0 c0 K h) : CallsH Try.prog fn_crash_All_1 #[a0, (.pointer (some c0))] h fun v h' => ∃ x : Unit, v = Ty.enc (.tup .nil) x ∧ K x h' :=
  callsH_of_fn (P := Try.prog) (fn := Try.f41) (τ := (.tup .nil)) follows Try.func41 (by kernel_rfl) (by kernel_rfl) Try.call41 (Eq.mpr (E_crash_All_1 a0 c0 K h) hF)

def F_crash_next (a0 : Sl) (a1 : Sl) (K : Bool → HP) : HP :=
 lfp (σ := (Int × (Bool × Unit))) (fun X0 s1 => /- i  -/
 brB (decide (s1.1 ≥ (0 : Int)))
 (jn (σ := (Bool × Unit)) (fun s3 => /-  -/
 X0 ((IntKind.wrap .i64 (s1.1 - (1 : Int))), s3.1, ()))
 (fun J2 =>
 sx a1.a a1.len s1.1 1 fun p4 =>
 ldT .bool p4 fun x5 =>
 brB x5
 (J2 (s1.2.1, ()))
 (slH ⟨a1.a, a1.len, a1.cap⟩ s1.1 1 fun s6 =>
 callT Try.prog fn_slices_Clone_bool_bool #[(.slice s6.a s6.len s6.cap)] .sl fun r7 =>
 apz ty_bool 1 1 #[(.bool false)] ⟨r7.a, r7.len, r7.cap⟩ (IntKind.wrap .i64 ((a1.len : Int) - s1.1)) fun s8 =>
 sx s8.a s8.len s1.1 1 fun p9 =>
 st1 p9 (.bool true) <|
 callT Try.prog fn_crash_fill #[(.slice a0.a a0.len a0.cap), (.slice s8.a s8.len s8.cap), (.int .i64 s1.1)] .bool fun r10 =>
 brB r10
 (cpy 1 ⟨a1.a, a1.len, a1.cap⟩ ⟨s8.a, s8.len, s8.cap⟩ fun n11 =>
 K true)
 (J2 (s1.2.1, ())))))
 (K false))
 ((IntKind.wrap .i64 ((a1.len : Int) - (1 : Int))), false, ())
set_option maxRecDepth 100000 in
theorem E_crash_next (a0 : Sl) (a1 : Sl) (K : Bool → HP) (h : Heap) : fnVC Try.prog [(1000000, .nil)] 37 Try.f42 [(.slice a0.a a0.len a0.cap), (.slice a1.a a1.len a1.cap)] .bool K h = F_crash_next a0 a1 K h := by kernel_rfl
set_option maxRecDepth 100000 in
theorem S_crash_next{h : Heap} {a0 : Sl} {a1 : Sl} (K : Bool → HP) (hF : F_crash_next a0 a1 K h) : CallsH Try.prog fn_crash_next #[(.slice a0.a a0.len a0.cap), (.slice a1.a a1.len a1.cap)] h fun v h' => ∃ x : Bool, v = Ty.enc .bool x ∧ K x h' :=
  callsH_of_fn (P := Try.prog) (fn := Try.f42) (τ := .bool) follows Try.func42 (by kernel_rfl) (by kernel_rfl) Try.call42 (Eq.mpr (E_crash_next a0 a1 K h) hF)

def F_crash_check (a0 : Sl) (a1 : Sl) (K : Int → HP) : HP :=
 callT Try.prog fn_crash_Right #[(.slice a0.a a0.len a0.cap)] .bool fun r0 =>
 brB (!r0)
 (K (350 : Int))
 (brB ((a1.len : Int) != (a0.len : Int))
 (K (351 : Int))
 (K (0 : Int)))
set_option maxRecDepth 100000 in
theorem E_crash_check (a0 : Sl) (a1 : Sl) (K : Int → HP) (h : Heap) : fnVC Try.prog [(1000000, .nil)] 15 Try.f43 [(.slice a0.a a0.len a0.cap), (.slice a1.a a1.len a1.cap)] (.int .i64) K h = F_crash_check a0 a1 K h := by kernel_rfl
set_option maxRecDepth 100000 in
theorem S_crash_check{h : Heap} {a0 : Sl} {a1 : Sl} (K : Int → HP) (hF : F_crash_check a0 a1 K h) : CallsH Try.prog fn_crash_check #[(.slice a0.a a0.len a0.cap), (.slice a1.a a1.len a1.cap)] h fun v h' => ∃ x : Int, v = Ty.enc (.int .i64) x ∧ K x h' :=
  callsH_of_fn (P := Try.prog) (fn := Try.f43) (τ := (.int .i64)) follows Try.func43 (by kernel_rfl) (by kernel_rfl) Try.call43 (Eq.mpr (E_crash_check a0 a1 K h) hF)

def F_crash_valid (a0 : Sl) (a1 : Sl) (K : Bool → HP) : HP :=
 callT Try.prog fn_crash_group #[(.slice a0.a a0.len a0.cap)] .val fun r0 =>
 jn (σ := (Int × Unit)) (fun s2 => /- at -/
 brB (s2.1 == (a0.len : Int))
 (K true)
 (callF Try.prog r0 #[(.int .i64 s2.1)] (.int .i64) fun r3 =>
 slL ⟨a1.a, a1.len, a1.cap⟩ r3 1 fun s4 =>
 callT Try.prog fn_slices_Contains_bool_bool #[(.slice s4.a s4.len s4.cap), (.bool true)] .bool fun r5 =>
 K (!r5)))
 (fun J1 =>
 lfp (σ := (Int × Unit)) (fun X6 s7 => /- at -/
 brB (decide (s7.1 < (a0.len : Int)))
 (callF Try.prog r0 #[(.int .i64 s7.1)] (.int .i64) fun r8 =>
 slB ⟨a1.a, a1.len, a1.cap⟩ s7.1 r8 1 fun s9 =>
 callT Try.prog fn_slices_Contains_bool_bool #[(.slice s9.a s9.len s9.cap), (.bool false)] .bool fun r10 =>
 brB (!r10)
 (callF Try.prog r0 #[(.int .i64 s7.1)] (.int .i64) fun r11 =>
 X6 (r11, ()))
 (J1 (s7.1, ())))
 (J1 (s7.1, ())))
 ((0 : Int), ()))
set_option maxRecDepth 100000 in
theorem E_crash_valid (a0 : Sl) (a1 : Sl) (K : Bool → HP) (h : Heap) : fnVC Try.prog [(1000000, .nil)] 39 Try.f44 [(.slice a0.a a0.len a0.cap), (.slice a1.a a1.len a1.cap)] .bool K h = F_crash_valid a0 a1 K h := by kernel_rfl
set_option maxRecDepth 100000 in
theorem S_crash_valid{h : Heap} {a0 : Sl} {a1 : Sl} (K : Bool → HP) (hF : F_crash_valid a0 a1 K h) : CallsH Try.prog fn_crash_valid #[(.slice a0.a a0.len a0.cap), (.slice a1.a a1.len a1.cap)] h fun v h' => ∃ x : Bool, v = Ty.enc .bool x ∧ K x h' :=
  callsH_of_fn (P := Try.prog) (fn := Try.f44) (τ := .bool) follows Try.func44 (by kernel_rfl) (by kernel_rfl) Try.call44 (Eq.mpr (E_crash_valid a0 a1 K h) hF)

def F_crash_fits (a0 : Sl) (a1 : Sl) (K : Bool → HP) : HP :=
 nw #[(.slice a0.a a0.len a0.cap)] ty_sl_bitword_Word fun b0 =>
 callT Try.prog fn_slices_ContainsFunc_disk_Entry_disk_Entry #[(.slice a1.a a1.len a1.cap), (.func (.func fn_crash_fits_1) #[] #[(.pointer (some (⟨b0, 0, none⟩ : Addr)))])] .bool fun r1 =>
 K (!r1)
set_option maxRecDepth 100000 in
theorem E_crash_fits (a0 : Sl) (a1 : Sl) (K : Bool → HP) (h : Heap) : fnVC Try.prog [(1000000, .nil)] 9 Try.f52 [(.slice a0.a a0.len a0.cap), (.slice a1.a a1.len a1.cap)] .bool K h = F_crash_fits a0 a1 K h := by kernel_rfl
set_option maxRecDepth 100000 in
theorem S_crash_fits{h : Heap} {a0 : Sl} {a1 : Sl} (K : Bool → HP) (hF : F_crash_fits a0 a1 K h) : CallsH Try.prog fn_crash_fits #[(.slice a0.a a0.len a0.cap), (.slice a1.a a1.len a1.cap)] h fun v h' => ∃ x : Bool, v = Ty.enc .bool x ∧ K x h' :=
  callsH_of_fn (P := Try.prog) (fn := Try.f52) (τ := .bool) follows Try.func52 (by kernel_rfl) (by kernel_rfl) Try.call52 (Eq.mpr (E_crash_fits a0 a1 K h) hF)

def F_crash_apply (a0 : Sl) (a1 : Sl) (a2 : Sl) (K : Sl → HP) : HP :=
 callT Try.prog fn_slices_Clone_bitword_Word_bitword_Word #[(.slice a0.a a0.len a0.cap)] .sl fun r0 =>
 lfp (σ := (Int × Unit)) (fun X1 s2 => /-  -/
 brB (decide (s2.1 < (a1.len : Int)))
 (sx a1.a a1.len s2.1 3 fun p3 =>
 ldA (.cons (.int .i64) (.cons (.int .u32) (.cons (.int .i64) .nil))) p3 fun x4 =>
 nw #[(.int .i64 (0 : Int)), (.int .u32 (0 : Int)), (.int .i64 (0 : Int))] ty_disk_Entry fun b5 =>
 st1 (⟨b5, 0, none⟩ : Addr) (.int .i64 x4.1) <|
 st1 ((⟨b5, 0, none⟩ : Addr).add 1) (.int .u32 x4.2.1) <|
 st1 ((⟨b5, 0, none⟩ : Addr).add 2) (.int .i64 x4.2.2.1) <|
 sx a2.a a2.len s2.1 1 fun p6 =>
 ldT .bool p6 fun x7 =>
 jn (σ := Unit) (fun s9 => /- -/
 X1 ((IntKind.wrap .i64 (s2.1 + (1 : Int))), ()))
 (fun J8 =>
 brB x7
 (ldT (.int .i64) (⟨b5, 0, none⟩ : Addr) fun x10 =>
 ldT (.int .u32) ((⟨b5, 0, none⟩ : Addr).add 1) fun x11 =>
 sx r0.a r0.len x10 1 fun p12 =>
 st1 p12 (.int .u32 x11) <|
 J8 (()))
 (J8 (()))))
 (K ⟨r0.a, r0.len, r0.cap⟩))
 ((0 : Int), ())
set_option maxRecDepth 100000 in
theorem E_crash_apply (a0 : Sl) (a1 : Sl) (a2 : Sl) (K : Sl → HP) (h : Heap) : fnVC Try.prog [(1000000, .nil)] 31 Try.f53 [(.slice a0.a a0.len a0.cap), (.slice a1.a a1.len a1.cap), (.slice a2.a a2.len a2.cap)] .sl K h = F_crash_apply a0 a1 a2 K h := by kernel_rfl
set_option maxRecDepth 100000 in
theorem S_crash_apply{h : Heap} {a0 : Sl} {a1 : Sl} {a2 : Sl} (K : Sl → HP) (hF : F_crash_apply a0 a1 a2 K h) : CallsH Try.prog fn_crash_apply #[(.slice a0.a a0.len a0.cap), (.slice a1.a a1.len a1.cap), (.slice a2.a a2.len a2.cap)] h fun v h' => ∃ x : Sl, v = Ty.enc .sl x ∧ K x h' :=
  callsH_of_fn (P := Try.prog) (fn := Try.f53) (τ := .sl) follows Try.func53 (by kernel_rfl) (by kernel_rfl) Try.call53 (Eq.mpr (E_crash_apply a0 a1 a2 K h) hF)

def F_slices_SortFunc_bitword_Word_bitword_Word (a0 : Sl) (a1 : Value) (K : Unit → HP) : HP :=
 callT Try.prog fn_math_bits_Len #[(.int .u64 (IntKind.wrap .u64 (a0.len : Int)))] (.int .i64) fun r0 =>
 callT Try.prog fn_slices_pdqsortCmpFunc_bitword_Word #[(.slice a0.a a0.len a0.cap), (.int .i64 (0 : Int)), (.int .i64 (a0.len : Int)), (.int .i64 r0), a1] (.tup .nil) fun r1 =>
 K (())
set_option maxRecDepth 100000 in
theorem E_slices_SortFunc_bitword_Word_bitword_Word (a0 : Sl) (a1 : Value) (K : Unit → HP) (h : Heap) : fnVC Try.prog [(1000000, .nil)] 14 Try.f54 [(.slice a0.a a0.len a0.cap), a1] (.tup .nil) K h = F_slices_SortFunc_bitword_Word_bitword_Word a0 a1 K h := by kernel_rfl
set_option maxRecDepth 100000 in
theorem S_slices_SortFunc_bitword_Word_bitword_Word{h : Heap} {a0 : Sl} {a1 : Value} (K : Unit → HP) (hF : F_slices_SortFunc_bitword_Word_bitword_Word a0 a1 K h) : CallsH Try.prog fn_slices_SortFunc_bitword_Word_bitword_Word #[(.slice a0.a a0.len a0.cap), a1] h fun v h' => ∃ x : Unit, v = Ty.enc (.tup .nil) x ∧ K x h' :=
  callsH_of_fn (P := Try.prog) (fn := Try.f54) (τ := (.tup .nil)) follows Try.func54 (by kernel_rfl) (by kernel_rfl) Try.call54 (Eq.mpr (E_slices_SortFunc_bitword_Word_bitword_Word a0 a1 K h) hF)

def F_crash_Results_1 (a0 : Sl) (a1 : Sl) (K : Int → HP) : HP :=
 callT Try.prog fn_slices_CompareFunc_bitword_Word_bitword_Word_bitword_Word_bitword_Word #[(.slice a0.a a0.len a0.cap), (.slice a1.a a1.len a1.cap), (.func (.func fn_cmp_Compare_bitword_Word) #[] #[])] (.int .i64) fun r0 =>
 K r0
set_option maxRecDepth 100000 in
theorem E_crash_Results_1 (a0 : Sl) (a1 : Sl) (K : Int → HP) (h : Heap) : fnVC Try.prog [(1000000, .nil)] 8 Try.f55 [(.slice a0.a a0.len a0.cap), (.slice a1.a a1.len a1.cap)] (.int .i64) K h = F_crash_Results_1 a0 a1 K h := by kernel_rfl
set_option maxRecDepth 100000 in
theorem S_crash_Results_1{h : Heap} {a0 : Sl} {a1 : Sl} (K : Int → HP) (hF : F_crash_Results_1 a0 a1 K h) : CallsH Try.prog fn_crash_Results_1 #[(.slice a0.a a0.len a0.cap), (.slice a1.a a1.len a1.cap)] h fun v h' => ∃ x : Int, v = Ty.enc (.int .i64) x ∧ K x h' :=
  callsH_of_fn (P := Try.prog) (fn := Try.f55) (τ := (.int .i64)) follows Try.func55 (by kernel_rfl) (by kernel_rfl) Try.call55 (Eq.mpr (E_crash_Results_1 a0 a1 K h) hF)

def F_slices_CompareFunc_bitword_Word_bitword_Word_bitword_Word_bitword_Word (a0 : Sl) (a1 : Sl) (a2 : Value) (K : Int → HP) : HP :=
 lfp (σ := (Int × (Int × Unit))) (fun X0 s1 => /-   -/
 brB (decide (s1.1 < (a0.len : Int)))
 (sx a0.a a0.len s1.1 1 fun p2 =>
 ldT (.int .u32) p2 fun x3 =>
 brB (decide (s1.1 ≥ (a1.len : Int)))
 (K (1 : Int))
 (sx a1.a a1.len s1.1 1 fun p4 =>
 ldT (.int .u32) p4 fun x5 =>
 callF Try.prog a2 #[(.int .u32 x3), (.int .u32 x5)] (.int .i64) fun r6 =>
 brB (r6 != (0 : Int))
 (K r6)
 (X0 ((IntKind.wrap .i64 (s1.1 + (1 : Int))), s1.2.1, ()))))
 (brB (decide ((a0.len : Int) < (a1.len : Int)))
 (K (-1 : Int))
 (K (0 : Int))))
 ((0 : Int), (0 : Int), ())
set_option maxRecDepth 100000 in
theorem E_slices_CompareFunc_bitword_Word_bitword_Word_bitword_Word_bitword_Word (a0 : Sl) (a1 : Sl) (a2 : Value) (K : Int → HP) (h : Heap) : fnVC Try.prog [(1000000, .nil)] 39 Try.f56 [(.slice a0.a a0.len a0.cap), (.slice a1.a a1.len a1.cap), a2] (.int .i64) K h = F_slices_CompareFunc_bitword_Word_bitword_Word_bitword_Word_bitword_Word a0 a1 a2 K h := by kernel_rfl
set_option maxRecDepth 100000 in
theorem S_slices_CompareFunc_bitword_Word_bitword_Word_bitword_Word_bitword_Word{h : Heap} {a0 : Sl} {a1 : Sl} {a2 : Value} (K : Int → HP) (hF : F_slices_CompareFunc_bitword_Word_bitword_Word_bitword_Word_bitword_Word a0 a1 a2 K h) : CallsH Try.prog fn_slices_CompareFunc_bitword_Word_bitword_Word_bitword_Word_bitword_Word #[(.slice a0.a a0.len a0.cap), (.slice a1.a a1.len a1.cap), a2] h fun v h' => ∃ x : Int, v = Ty.enc (.int .i64) x ∧ K x h' :=
  callsH_of_fn (P := Try.prog) (fn := Try.f56) (τ := (.int .i64)) follows Try.func56 (by kernel_rfl) (by kernel_rfl) Try.call56 (Eq.mpr (E_slices_CompareFunc_bitword_Word_bitword_Word_bitword_Word_bitword_Word a0 a1 a2 K h) hF)

def F_cmp_Compare_bitword_Word (a0 : Int) (a1 : Int) (K : Int → HP) : HP :=
 callT Try.prog fn_cmp_isNaN_bitword_Word #[(.int .u32 a0)] .bool fun r0 =>
 callT Try.prog fn_cmp_isNaN_bitword_Word #[(.int .u32 a1)] .bool fun r1 =>
 brB r0
 (brB r1
 (K (0 : Int))
 (K (-1 : Int)))
 (brB r1
 (K (1 : Int))
 (brB (decide (a0 < a1))
 (K (-1 : Int))
 (brB (decide (a0 > a1))
 (K (1 : Int))
 (K (0 : Int)))))
set_option maxRecDepth 100000 in
theorem E_cmp_Compare_bitword_Word (a0 : Int) (a1 : Int) (K : Int → HP) (h : Heap) : fnVC Try.prog [(1000000, .nil)] 20 Try.f57 [(.int .u32 a0), (.int .u32 a1)] (.int .i64) K h = F_cmp_Compare_bitword_Word a0 a1 K h := by kernel_rfl
set_option maxRecDepth 100000 in
theorem S_cmp_Compare_bitword_Word{h : Heap} {a0 : Int} {a1 : Int} (K : Int → HP) (hF : F_cmp_Compare_bitword_Word a0 a1 K h) : CallsH Try.prog fn_cmp_Compare_bitword_Word #[(.int .u32 a0), (.int .u32 a1)] h fun v h' => ∃ x : Int, v = Ty.enc (.int .i64) x ∧ K x h' :=
  callsH_of_fn (P := Try.prog) (fn := Try.f57) (τ := (.int .i64)) follows Try.func57 (by kernel_rfl) (by kernel_rfl) Try.call57 (Eq.mpr (E_cmp_Compare_bitword_Word a0 a1 K h) hF)

def F_slices_CompactFunc_bitword_Word_bitword_Word (a0 : Sl) (a1 : Value) (K : Sl → HP) : HP :=
 brB (decide ((a0.len : Int) < (2 : Int)))
 (K ⟨a0.a, a0.len, a0.cap⟩)
 (lfp (σ := (Int × (Sl × Unit))) (fun X0 s1 => /- k  -/
 brB (decide (s1.1 < (a0.len : Int)))
 (sx a0.a a0.len s1.1 1 fun p2 =>
 ldT .sl p2 fun x3 =>
 sx a0.a a0.len (IntKind.wrap .i64 (s1.1 - (1 : Int))) 1 fun p4 =>
 ldT .sl p4 fun x5 =>
 callF Try.prog a1 #[(.slice x3.a x3.len x3.cap), (.slice x5.a x5.len x5.cap)] .bool fun r6 =>
 brB r6
 (slL ⟨a0.a, a0.len, a0.cap⟩ s1.1 1 fun s7 =>
 lfp (σ := (Int × (Int × Unit))) (fun X8 s9 => /- k2 k -/
 brB (decide (s9.1 < (s7.len : Int)))
 (sx s7.a s7.len s9.1 1 fun p10 =>
 ldT .sl p10 fun x11 =>
 sx s7.a s7.len (IntKind.wrap .i64 (s9.1 - (1 : Int))) 1 fun p12 =>
 ldT .sl p12 fun x13 =>
 callF Try.prog a1 #[(.slice x11.a x11.len x11.cap), (.slice x13.a x13.len x13.cap)] .bool fun r14 =>
 jn (σ := (Int × Unit)) (fun s16 => /- k -/
 X8 ((IntKind.wrap .i64 (s9.1 + (1 : Int))), s16.1, ()))
 (fun J15 =>
 brB (!r14)
 (sx s7.a s7.len s9.1 1 fun p17 =>
 ldT .sl p17 fun x18 =>
 sx a0.a a0.len s9.2.1 1 fun p19 =>
 st1 p19 (.slice x18.a x18.len x18.cap) <|
 J15 ((IntKind.wrap .i64 (s9.2.1 + (1 : Int))), ()))
 (J15 (s9.2.1, ()))))
 (slL ⟨a0.a, a0.len, a0.cap⟩ s9.2.1 1 fun s20 =>
 clr #[(.slice none 0 0)] ⟨s20.a, s20.len, s20.cap⟩ <|
 slH ⟨a0.a, a0.len, a0.cap⟩ s9.2.1 1 fun s21 =>
 K ⟨s21.a, s21.len, s21.cap⟩))
 ((1 : Int), s1.1, ()))
 (X0 ((IntKind.wrap .i64 (s1.1 + (1 : Int))), ⟨s1.2.1.a, s1.2.1.len, s1.2.1.cap⟩, ())))
 (K ⟨a0.a, a0.len, a0.cap⟩))
 ((1 : Int), ⟨none, 0, 0⟩, ()))
set_option maxRecDepth 100000 in
theorem E_slices_CompactFunc_bitword_Word_bitword_Word (a0 : Sl) (a1 : Value) (K : Sl → HP) (h : Heap) : fnVC Try.prog [(1000000, .nil)] 66 Try.f58 [(.slice a0.a a0.len a0.cap), a1] .sl K h = F_slices_CompactFunc_bitword_Word_bitword_Word a0 a1 K h := by kernel_rfl
set_option maxRecDepth 100000 in
theorem S_slices_CompactFunc_bitword_Word_bitword_Word{h : Heap} {a0 : Sl} {a1 : Value} (K : Sl → HP) (hF : F_slices_CompactFunc_bitword_Word_bitword_Word a0 a1 K h) : CallsH Try.prog fn_slices_CompactFunc_bitword_Word_bitword_Word #[(.slice a0.a a0.len a0.cap), a1] h fun v h' => ∃ x : Sl, v = Ty.enc .sl x ∧ K x h' :=
  callsH_of_fn (P := Try.prog) (fn := Try.f58) (τ := .sl) follows Try.func58 (by kernel_rfl) (by kernel_rfl) Try.call58 (Eq.mpr (E_slices_CompactFunc_bitword_Word_bitword_Word a0 a1 K h) hF)

def F_slices_IndexFunc_disk_Entry_disk_Entry (a0 : Sl) (a1 : Value) (K : Int → HP) : HP :=
 lfp (σ := (Int × (Int × Unit))) (fun X0 s1 => /-   -/
 brB (decide (s1.1 < (a0.len : Int)))
 (sx a0.a a0.len s1.1 3 fun p2 =>
 ldA (.cons (.int .i64) (.cons (.int .u32) (.cons (.int .i64) .nil))) p2 fun x3 =>
 callF Try.prog a1 #[(.agg #[(.int .i64 x3.1), (.int .u32 x3.2.1), (.int .i64 x3.2.2.1)])] .bool fun r4 =>
 brB r4
 (K s1.1)
 (X0 ((IntKind.wrap .i64 (s1.1 + (1 : Int))), s1.2.1, ())))
 (K (-1 : Int)))
 ((0 : Int), (0 : Int), ())
set_option maxRecDepth 100000 in
theorem E_slices_IndexFunc_disk_Entry_disk_Entry (a0 : Sl) (a1 : Value) (K : Int → HP) (h : Heap) : fnVC Try.prog [(1000000, .nil)] 19 Try.f60 [(.slice a0.a a0.len a0.cap), a1] (.int .i64) K h = F_slices_IndexFunc_disk_Entry_disk_Entry a0 a1 K h := by kernel_rfl
set_option maxRecDepth 100000 in
theorem S_slices_IndexFunc_disk_Entry_disk_Entry{h : Heap} {a0 : Sl} {a1 : Value} (K : Int → HP) (hF : F_slices_IndexFunc_disk_Entry_disk_Entry a0 a1 K h) : CallsH Try.prog fn_slices_IndexFunc_disk_Entry_disk_Entry #[(.slice a0.a a0.len a0.cap), a1] h fun v h' => ∃ x : Int, v = Ty.enc (.int .i64) x ∧ K x h' :=
  callsH_of_fn (P := Try.prog) (fn := Try.f60) (τ := (.int .i64)) follows Try.func60 (by kernel_rfl) (by kernel_rfl) Try.call60 (Eq.mpr (E_slices_IndexFunc_disk_Entry_disk_Entry a0 a1 K h) hF)

def F_crash_group_1 (a0 : Int) (c0 : Addr) (K : Int → HP) : HP :=
 jn (σ := (Int × Unit)) (fun s1 => /- to -/
 K s1.1)
 (fun J0 =>
 lfp (σ := (Int × Unit)) (fun X2 s3 => /- to -/
 ldT .sl c0 fun x4 =>
 brB (decide (s3.1 < (x4.len : Int)))
 (ldT .sl c0 fun x5 =>
 sx x5.a x5.len s3.1 3 fun p6 =>
 ldT (.int .i64) (p6.add 2) fun x7 =>
 ldT .sl c0 fun x8 =>
 sx x8.a x8.len a0 3 fun p9 =>
 ldT (.int .i64) (p9.add 2) fun x10 =>
 brB (x7 == x10)
 (X2 ((IntKind.wrap .i64 (s3.1 + (1 : Int))), ()))
 (J0 (s3.1, ())))
 (J0 (s3.1, ())))
 (a0, ()))
set_option maxRecDepth 100000 in
theorem E_crash_group_1 (a0 : Int) (c0 : Addr) (K : Int → HP) (h : Heap) : fnVC Try.prog [(1000000, .nil)] 26 Try.f67 [(.int .i64 a0), (.pointer (some c0))] (.int .i64) K h = F_crash_group_1 a0 c0 K h := by kernel_rfl
set_option maxRecDepth 100000 in
theorem S_crash_group_1{h : Heap} {a0 : Int} {c0 : Addr} (K : Int → HP) (hF : F_crash_group_1 a0 c0 K h) : CallsH Try.prog fn_crash_group_1 #[(.int .i64 a0), (.pointer (some c0))] h fun v h' => ∃ x : Int, v = Ty.enc (.int .i64) x ∧ K x h' :=
  callsH_of_fn (P := Try.prog) (fn := Try.f67) (τ := (.int .i64)) follows Try.func67 (by kernel_rfl) (by kernel_rfl) Try.call67 (Eq.mpr (E_crash_group_1 a0 c0 K h) hF)

def F_crash_fill (a0 : Sl) (a1 : Sl) (a2 : Int) (K : Bool → HP) : HP :=
 lfp (σ := (Int × (Int × Unit))) (fun X0 s1 => /- i greatest -/
 brB (decide (s1.1 ≤ a2))
 (sx a1.a a1.len s1.1 1 fun p2 =>
 ldT .bool p2 fun x3 =>
 jn (σ := (Int × Unit)) (fun s5 => /- greatest -/
 X0 ((IntKind.wrap .i64 (s1.1 + (1 : Int))), s5.1, ()))
 (fun J4 =>
 brB x3
 (sx a0.a a0.len s1.1 3 fun p6 =>
 ldT (.int .i64) (p6.add 2) fun x7 =>
 J4 (x7, ()))
 (J4 (s1.2.1, ()))))
 (lfp (σ := (Int × (Bool × Unit))) (fun X8 s9 => /-   -/
 brB (decide (s9.1 < (a1.len : Int)))
 (jn (σ := (Bool × Unit)) (fun s11 => /-  -/
 X8 ((IntKind.wrap .i64 (s9.1 + (1 : Int))), s11.1, ()))
 (fun J10 =>
 brB (decide (s9.1 > a2))
 (sx a0.a a0.len s9.1 3 fun p12 =>
 ldT (.int .i64) (p12.add 2) fun x13 =>
 sx a1.a a1.len s9.1 1 fun p14 =>
 st1 p14 (.bool (decide (x13 < s1.2.1))) <|
 J10 (s9.2.1, ()))
 (sx a0.a a0.len s9.1 3 fun p15 =>
 ldT (.int .i64) (p15.add 2) fun x16 =>
 brB (decide (x16 < s1.2.1))
 (sx a1.a a1.len s9.1 1 fun p17 =>
 ldT .bool p17 fun x18 =>
 brB (!x18)
 (K false)
 (J10 (s9.2.1, ())))
 (J10 (s9.2.1, ())))))
 (K true))
 ((0 : Int), false, ())))
 ((0 : Int), (-1 : Int), ())
set_option maxRecDepth 100000 in
theorem E_crash_fill (a0 : Sl) (a1 : Sl) (a2 : Int) (K : Bool → HP) (h : Heap) : fnVC Try.prog [(1000000, .nil)] 57 Try.f68 [(.slice a0.a a0.len a0.cap), (.slice a1.a a1.len a1.cap), (.int .i64 a2)] .bool K h = F_crash_fill a0 a1 a2 K h := by kernel_rfl
set_option maxRecDepth 100000 in
theorem S_crash_fill{h : Heap} {a0 : Sl} {a1 : Sl} {a2 : Int} (K : Bool → HP) (hF : F_crash_fill a0 a1 a2 K h) : CallsH Try.prog fn_crash_fill #[(.slice a0.a a0.len a0.cap), (.slice a1.a a1.len a1.cap), (.int .i64 a2)] h fun v h' => ∃ x : Bool, v = Ty.enc .bool x ∧ K x h' :=
  callsH_of_fn (P := Try.prog) (fn := Try.f68) (τ := .bool) follows Try.func68 (by kernel_rfl) (by kernel_rfl) Try.call68 (Eq.mpr (E_crash_fill a0 a1 a2 K h) hF)

def F_slices_Contains_bool_bool (a0 : Sl) (a1 : Bool) (K : Bool → HP) : HP :=
 callT Try.prog fn_slices_Index_bool_bool #[(.slice a0.a a0.len a0.cap), (.bool a1)] (.int .i64) fun r0 =>
 K (decide (r0 ≥ (0 : Int)))
set_option maxRecDepth 100000 in
theorem E_slices_Contains_bool_bool (a0 : Sl) (a1 : Bool) (K : Bool → HP) (h : Heap) : fnVC Try.prog [(1000000, .nil)] 9 Try.f69 [(.slice a0.a a0.len a0.cap), (.bool a1)] .bool K h = F_slices_Contains_bool_bool a0 a1 K h := by kernel_rfl
set_option maxRecDepth 100000 in
theorem S_slices_Contains_bool_bool{h : Heap} {a0 : Sl} {a1 : Bool} (K : Bool → HP) (hF : F_slices_Contains_bool_bool a0 a1 K h) : CallsH Try.prog fn_slices_Contains_bool_bool #[(.slice a0.a a0.len a0.cap), (.bool a1)] h fun v h' => ∃ x : Bool, v = Ty.enc .bool x ∧ K x h' :=
  callsH_of_fn (P := Try.prog) (fn := Try.f69) (τ := .bool) follows Try.func69 (by kernel_rfl) (by kernel_rfl) Try.call69 (Eq.mpr (E_slices_Contains_bool_bool a0 a1 K h) hF)

def F_crash_fits_1 (a0 : (Int × (Int × (Int × Unit)))) (c0 : Addr) (K : Bool → HP) : HP :=
 nw #[(.int .i64 a0.1), (.int .u32 a0.2.1), (.int .i64 a0.2.2.1)] ty_disk_Entry fun b0 =>
 ldT (.int .i64) (⟨b0, 0, none⟩ : Addr) fun x1 =>
 ldT .sl c0 fun x2 =>
 K (decide (x1 ≥ (x2.len : Int)))
set_option maxRecDepth 100000 in
theorem E_crash_fits_1 (a0 : (Int × (Int × (Int × Unit)))) (c0 : Addr) (K : Bool → HP) (h : Heap) : fnVC Try.prog [(1000000, .nil)] 9 Try.f73 [(.agg #[(.int .i64 a0.1), (.int .u32 a0.2.1), (.int .i64 a0.2.2.1)]), (.pointer (some c0))] .bool K h = F_crash_fits_1 a0 c0 K h := by kernel_rfl
set_option maxRecDepth 100000 in
theorem S_crash_fits_1{h : Heap} {a0 : (Int × (Int × (Int × Unit)))} {c0 : Addr} (K : Bool → HP) (hF : F_crash_fits_1 a0 c0 K h) : CallsH Try.prog fn_crash_fits_1 #[(.agg #[(.int .i64 a0.1), (.int .u32 a0.2.1), (.int .i64 a0.2.2.1)]), (.pointer (some c0))] h fun v h' => ∃ x : Bool, v = Ty.enc .bool x ∧ K x h' :=
  callsH_of_fn (P := Try.prog) (fn := Try.f73) (τ := .bool) follows Try.func73 (by kernel_rfl) (by kernel_rfl) Try.call73 (Eq.mpr (E_crash_fits_1 a0 c0 K h) hF)

def F_slices_pdqsortCmpFunc_bitword_Word (a0 : Sl) (a1 : Int) (a2 : Int) (a3 : Int) (a4 : Value) (K : Unit → HP) : HP :=
 lfp (σ := (Bool × (Bool × (Int × (Int × (Int × Unit)))))) (fun X0 s1 => /- wasPartitioned wasBalanced a b limit -/
 jn (σ := (Bool × (Bool × (Int × (Int × (Int × Unit)))))) (fun s3 => /- wasPartitioned wasBalanced a b limit -/
 X0 (s3.1, s3.2.1, s3.2.2.1, s3.2.2.2.1, s3.2.2.2.2.1, ()))
 (fun J2 =>
 brB (decide ((IntKind.wrap .i64 (s1.2.2.2.1 - s1.2.2.1)) ≤ (12 : Int)))
 (callT Try.prog fn_slices_insertionSortCmpFunc_bitword_Word #[(.slice a0.a a0.len a0.cap), (.int .i64 s1.2.2.1), (.int .i64 s1.2.2.2.1), a4] (.tup .nil) fun r4 =>
 K (()))
 (brB (s1.2.2.2.2.1 == (0 : Int))
 (callT Try.prog fn_slices_heapSortCmpFunc_bitword_Word #[(.slice a0.a a0.len a0.cap), (.int .i64 s1.2.2.1), (.int .i64 s1.2.2.2.1), a4] (.tup .nil) fun r5 =>
 K (()))
 (jn (σ := (Int × Unit)) (fun s7 => /- limit -/
 callT Try.prog fn_slices_choosePivotCmpFunc_bitword_Word #[(.slice a0.a a0.len a0.cap), (.int .i64 s1.2.2.1), (.int .i64 s1.2.2.2.1), a4] (.tup (.cons (.int .i64) (.cons (.int .i64) .nil))) fun r8 =>
 jn (σ := (Int × (Int × Unit))) (fun s10 => /- hint pivot -/
 brB s1.2.1
 (brB s1.1
 (jn (σ := Unit) (fun s12 => /- -/
 brB (decide (s1.2.2.1 > (0 : Int)))
 (sx a0.a a0.len (IntKind.wrap .i64 (s1.2.2.1 - (1 : Int))) 1 fun p13 =>
 ldT .sl p13 fun x14 =>
 sx a0.a a0.len s10.2.1 1 fun p15 =>
 ldT .sl p15 fun x16 =>
 callF Try.prog a4 #[(.slice x14.a x14.len x14.cap), (.slice x16.a x16.len x16.cap)] (.int .i64) fun r17 =>
 brB (!(decide (r17 < (0 : Int))))
 (callT Try.prog fn_slices_partitionEqualCmpFunc_bitword_Word #[(.slice a0.a a0.len a0.cap), (.int .i64 s1.2.2.1), (.int .i64 s1.2.2.2.1), (.int .i64 s10.2.1), a4] (.int .i64) fun r18 =>
 J2 (s1.1, s1.2.1, r18, s1.2.2.2.1, s7.1, ()))
 (callT Try.prog fn_slices_partitionCmpFunc_bitword_Word #[(.slice a0.a a0.len a0.cap), (.int .i64 s1.2.2.1), (.int .i64 s1.2.2.2.1), (.int .i64 s10.2.1), a4] (.tup (.cons (.int .i64) (.cons .bool .nil))) fun r19 =>
 nz (8 : Int) <|
 jn (σ := (Bool × (Int × (Int × Unit)))) (fun s21 => /- wasBalanced a b -/
 J2 (r19.2.1, s21.1, s21.2.1, s21.2.2.1, s7.1, ()))
 (fun J20 =>
 brB (decide ((IntKind.wrap .i64 (r19.1 - s1.2.2.1)) < (IntKind.wrap .i64 (s1.2.2.2.1 - r19.1))))
 (callT Try.prog fn_slices_pdqsortCmpFunc_bitword_Word #[(.slice a0.a a0.len a0.cap), (.int .i64 s1.2.2.1), (.int .i64 r19.1), (.int .i64 s7.1), a4] (.tup .nil) fun r22 =>
 J20 ((decide ((IntKind.wrap .i64 (r19.1 - s1.2.2.1)) ≥ (IntKind.wrap .i64 (Int.tdiv (IntKind.wrap .i64 (s1.2.2.2.1 - s1.2.2.1)) (8 : Int))))), (IntKind.wrap .i64 (r19.1 + (1 : Int))), s1.2.2.2.1, ()))
 (callT Try.prog fn_slices_pdqsortCmpFunc_bitword_Word #[(.slice a0.a a0.len a0.cap), (.int .i64 (IntKind.wrap .i64 (r19.1 + (1 : Int)))), (.int .i64 s1.2.2.2.1), (.int .i64 s7.1), a4] (.tup .nil) fun r23 =>
 J20 ((decide ((IntKind.wrap .i64 (s1.2.2.2.1 - r19.1)) ≥ (IntKind.wrap .i64 (Int.tdiv (IntKind.wrap .i64 (s1.2.2.2.1 - s1.2.2.1)) (8 : Int))))), s1.2.2.1, r19.1, ())))))
 (callT Try.prog fn_slices_partitionCmpFunc_bitword_Word #[(.slice a0.a a0.len a0.cap), (.int .i64 s1.2.2.1), (.int .i64 s1.2.2.2.1), (.int .i64 s10.2.1), a4] (.tup (.cons (.int .i64) (.cons .bool .nil))) fun r24 =>
 nz (8 : Int) <|
 jn (σ := (Bool × (Int × (Int × Unit)))) (fun s26 => /- wasBalanced a b -/
 J2 (r24.2.1, s26.1, s26.2.1, s26.2.2.1, s7.1, ()))
 (fun J25 =>
 brB (decide ((IntKind.wrap .i64 (r24.1 - s1.2.2.1)) < (IntKind.wrap .i64 (s1.2.2.2.1 - r24.1))))
 (callT Try.prog fn_slices_pdqsortCmpFunc_bitword_Word #[(.slice a0.a a0.len a0.cap), (.int .i64 s1.2.2.1), (.int .i64 r24.1), (.int .i64 s7.1), a4] (.tup .nil) fun r27 =>
 J25 ((decide ((IntKind.wrap .i64 (r24.1 - s1.2.2.1)) ≥ (IntKind.wrap .i64 (Int.tdiv (IntKind.wrap .i64 (s1.2.2.2.1 - s1.2.2.1)) (8 : Int))))), (IntKind.wrap .i64 (r24.1 + (1 : Int))), s1.2.2.2.1, ()))
 (callT Try.prog fn_slices_pdqsortCmpFunc_bitword_Word #[(.slice a0.a a0.len a0.cap), (.int .i64 (IntKind.wrap .i64 (r24.1 + (1 : Int)))), (.int .i64 s1.2.2.2.1), (.int .i64 s7.1), a4] (.tup .nil) fun r28 =>
 J25 ((decide ((IntKind.wrap .i64 (s1.2.2.2.1 - r24.1)) ≥ (IntKind.wrap .i64 (Int.tdiv (IntKind.wrap .i64 (s1.2.2.2.1 - s1.2.2.1)) (8 : Int))))), s1.2.2.1, r24.1, ())))))
 (fun J11 =>
 brB (s10.1 == (1 : Int))
 (callT Try.prog fn_slices_partialInsertionSortCmpFunc_bitword_Word #[(.slice a0.a a0.len a0.cap), (.int .i64 s1.2.2.1), (.int .i64 s1.2.2.2.1), a4] .bool fun r29 =>
 brB r29
 (K (()))
 (J11 (())))
 (J11 (()))))
 (jn (σ := Unit) (fun s31 => /- -/
 brB (decide (s1.2.2.1 > (0 : Int)))
 (sx a0.a a0.len (IntKind.wrap .i64 (s1.2.2.1 - (1 : Int))) 1 fun p32 =>
 ldT .sl p32 fun x33 =>
 sx a0.a a0.len s10.2.1 1 fun p34 =>
 ldT .sl p34 fun x35 =>
 callF Try.prog a4 #[(.slice x33.a x33.len x33.cap), (.slice x35.a x35.len x35.cap)] (.int .i64) fun r36 =>
 brB (!(decide (r36 < (0 : Int))))
 (callT Try.prog fn_slices_partitionEqualCmpFunc_bitword_Word #[(.slice a0.a a0.len a0.cap), (.int .i64 s1.2.2.1), (.int .i64 s1.2.2.2.1), (.int .i64 s10.2.1), a4] (.int .i64) fun r37 =>
 J2 (s1.1, s1.2.1, r37, s1.2.2.2.1, s7.1, ()))
 (callT Try.prog fn_slices_partitionCmpFunc_bitword_Word #[(.slice a0.a a0.len a0.cap), (.int .i64 s1.2.2.1), (.int .i64 s1.2.2.2.1), (.int .i64 s10.2.1), a4] (.tup (.cons (.int .i64) (.cons .bool .nil))) fun r38 =>
 nz (8 : Int) <|
 jn (σ := (Bool × (Int × (Int × Unit)))) (fun s40 => /- wasBalanced a b -/
 J2 (r38.2.1, s40.1, s40.2.1, s40.2.2.1, s7.1, ()))
 (fun J39 =>
 brB (decide ((IntKind.wrap .i64 (r38.1 - s1.2.2.1)) < (IntKind.wrap .i64 (s1.2.2.2.1 - r38.1))))
 (callT Try.prog fn_slices_pdqsortCmpFunc_bitword_Word #[(.slice a0.a a0.len a0.cap), (.int .i64 s1.2.2.1), (.int .i64 r38.1), (.int .i64 s7.1), a4] (.tup .nil) fun r41 =>
 J39 ((decide ((IntKind.wrap .i64 (r38.1 - s1.2.2.1)) ≥ (IntKind.wrap .i64 (Int.tdiv (IntKind.wrap .i64 (s1.2.2.2.1 - s1.2.2.1)) (8 : Int))))), (IntKind.wrap .i64 (r38.1 + (1 : Int))), s1.2.2.2.1, ()))
 (callT Try.prog fn_slices_pdqsortCmpFunc_bitword_Word #[(.slice a0.a a0.len a0.cap), (.int .i64 (IntKind.wrap .i64 (r38.1 + (1 : Int)))), (.int .i64 s1.2.2.2.1), (.int .i64 s7.1), a4] (.tup .nil) fun r42 =>
 J39 ((decide ((IntKind.wrap .i64 (s1.2.2.2.1 - r38.1)) ≥ (IntKind.wrap .i64 (Int.tdiv (IntKind.wrap .i64 (s1.2.2.2.1 - s1.2.2.1)) (8 : Int))))), s1.2.2.1, r38.1, ())))))
 (callT Try.prog fn_slices_partitionCmpFunc_bitword_Word #[(.slice a0.a a0.len a0.cap), (.int .i64 s1.2.2.1), (.int .i64 s1.2.2.2.1), (.int .i64 s10.2.1), a4] (.tup (.cons (.int .i64) (.cons .bool .nil))) fun r43 =>
 nz (8 : Int) <|
 jn (σ := (Bool × (Int × (Int × Unit)))) (fun s45 => /- wasBalanced a b -/
 J2 (r43.2.1, s45.1, s45.2.1, s45.2.2.1, s7.1, ()))
 (fun J44 =>
 brB (decide ((IntKind.wrap .i64 (r43.1 - s1.2.2.1)) < (IntKind.wrap .i64 (s1.2.2.2.1 - r43.1))))
 (callT Try.prog fn_slices_pdqsortCmpFunc_bitword_Word #[(.slice a0.a a0.len a0.cap), (.int .i64 s1.2.2.1), (.int .i64 r43.1), (.int .i64 s7.1), a4] (.tup .nil) fun r46 =>
 J44 ((decide ((IntKind.wrap .i64 (r43.1 - s1.2.2.1)) ≥ (IntKind.wrap .i64 (Int.tdiv (IntKind.wrap .i64 (s1.2.2.2.1 - s1.2.2.1)) (8 : Int))))), (IntKind.wrap .i64 (r43.1 + (1 : Int))), s1.2.2.2.1, ()))
 (callT Try.prog fn_slices_pdqsortCmpFunc_bitword_Word #[(.slice a0.a a0.len a0.cap), (.int .i64 (IntKind.wrap .i64 (r43.1 + (1 : Int)))), (.int .i64 s1.2.2.2.1), (.int .i64 s7.1), a4] (.tup .nil) fun r47 =>
 J44 ((decide ((IntKind.wrap .i64 (s1.2.2.2.1 - r43.1)) ≥ (IntKind.wrap .i64 (Int.tdiv (IntKind.wrap .i64 (s1.2.2.2.1 - s1.2.2.1)) (8 : Int))))), s1.2.2.1, r43.1, ())))))
 (fun J30 =>
 J30 (()))))
 (jn (σ := Unit) (fun s49 => /- -/
 brB (decide (s1.2.2.1 > (0 : Int)))
 (sx a0.a a0.len (IntKind.wrap .i64 (s1.2.2.1 - (1 : Int))) 1 fun p50 =>
 ldT .sl p50 fun x51 =>
 sx a0.a a0.len s10.2.1 1 fun p52 =>
 ldT .sl p52 fun x53 =>
 callF Try.prog a4 #[(.slice x51.a x51.len x51.cap), (.slice x53.a x53.len x53.cap)] (.int .i64) fun r54 =>
 brB (!(decide (r54 < (0 : Int))))
 (callT Try.prog fn_slices_partitionEqualCmpFunc_bitword_Word #[(.slice a0.a a0.len a0.cap), (.int .i64 s1.2.2.1), (.int .i64 s1.2.2.2.1), (.int .i64 s10.2.1), a4] (.int .i64) fun r55 =>
 J2 (s1.1, s1.2.1, r55, s1.2.2.2.1, s7.1, ()))
 (callT Try.prog fn_slices_partitionCmpFunc_bitword_Word #[(.slice a0.a a0.len a0.cap), (.int .i64 s1.2.2.1), (.int .i64 s1.2.2.2.1), (.int .i64 s10.2.1), a4] (.tup (.cons (.int .i64) (.cons .bool .nil))) fun r56 =>
 nz (8 : Int) <|
 jn (σ := (Bool × (Int × (Int × Unit)))) (fun s58 => /- wasBalanced a b -/
 J2 (r56.2.1, s58.1, s58.2.1, s58.2.2.1, s7.1, ()))
 (fun J57 =>
 brB (decide ((IntKind.wrap .i64 (r56.1 - s1.2.2.1)) < (IntKind.wrap .i64 (s1.2.2.2.1 - r56.1))))
 (callT Try.prog fn_slices_pdqsortCmpFunc_bitword_Word #[(.slice a0.a a0.len a0.cap), (.int .i64 s1.2.2.1), (.int .i64 r56.1), (.int .i64 s7.1), a4] (.tup .nil) fun r59 =>
 J57 ((decide ((IntKind.wrap .i64 (r56.1 - s1.2.2.1)) ≥ (IntKind.wrap .i64 (Int.tdiv (IntKind.wrap .i64 (s1.2.2.2.1 - s1.2.2.1)) (8 : Int))))), (IntKind.wrap .i64 (r56.1 + (1 : Int))), s1.2.2.2.1, ()))
 (callT Try.prog fn_slices_pdqsortCmpFunc_bitword_Word #[(.slice a0.a a0.len a0.cap), (.int .i64 (IntKind.wrap .i64 (r56.1 + (1 : Int)))), (.int .i64 s1.2.2.2.1), (.int .i64 s7.1), a4] (.tup .nil) fun r60 =>
 J57 ((decide ((IntKind.wrap .i64 (s1.2.2.2.1 - r56.1)) ≥ (IntKind.wrap .i64 (Int.tdiv (IntKind.wrap .i64 (s1.2.2.2.1 - s1.2.2.1)) (8 : Int))))), s1.2.2.1, r56.1, ())))))
 (callT Try.prog fn_slices_partitionCmpFunc_bitword_Word #[(.slice a0.a a0.len a0.cap), (.int .i64 s1.2.2.1), (.int .i64 s1.2.2.2.1), (.int .i64 s10.2.1), a4] (.tup (.cons (.int .i64) (.cons .bool .nil))) fun r61 =>
 nz (8 : Int) <|
 jn (σ := (Bool × (Int × (Int × Unit)))) (fun s63 => /- wasBalanced a b -/
 J2 (r61.2.1, s63.1, s63.2.1, s63.2.2.1, s7.1, ()))
 (fun J62 =>
 brB (decide ((IntKind.wrap .i64 (r61.1 - s1.2.2.1)) < (IntKind.wrap .i64 (s1.2.2.2.1 - r61.1))))
 (callT Try.prog fn_slices_pdqsortCmpFunc_bitword_Word #[(.slice a0.a a0.len a0.cap), (.int .i64 s1.2.2.1), (.int .i64 r61.1), (.int .i64 s7.1), a4] (.tup .nil) fun r64 =>
 J62 ((decide ((IntKind.wrap .i64 (r61.1 - s1.2.2.1)) ≥ (IntKind.wrap .i64 (Int.tdiv (IntKind.wrap .i64 (s1.2.2.2.1 - s1.2.2.1)) (8 : Int))))), (IntKind.wrap .i64 (r61.1 + (1 : Int))), s1.2.2.2.1, ()))
 (callT Try.prog fn_slices_pdqsortCmpFunc_bitword_Word #[(.slice a0.a a0.len a0.cap), (.int .i64 (IntKind.wrap .i64 (r61.1 + (1 : Int)))), (.int .i64 s1.2.2.2.1), (.int .i64 s7.1), a4] (.tup .nil) fun r65 =>
 J62 ((decide ((IntKind.wrap .i64 (s1.2.2.2.1 - r61.1)) ≥ (IntKind.wrap .i64 (Int.tdiv (IntKind.wrap .i64 (s1.2.2.2.1 - s1.2.2.1)) (8 : Int))))), s1.2.2.1, r61.1, ())))))
 (fun J48 =>
 J48 (()))))
 (fun J9 =>
 brB (r8.2.1 == (2 : Int))
 (callT Try.prog fn_slices_reverseRangeCmpFunc_bitword_Word #[(.slice a0.a a0.len a0.cap), (.int .i64 s1.2.2.1), (.int .i64 s1.2.2.2.1), a4] (.tup .nil) fun r66 =>
 J9 ((1 : Int), (IntKind.wrap .i64 ((IntKind.wrap .i64 (s1.2.2.2.1 - (1 : Int))) - (IntKind.wrap .i64 (r8.1 - s1.2.2.1)))), ()))
 (J9 (r8.2.1, r8.1, ()))))
 (fun J6 =>
 brB (!s1.2.1)
 (callT Try.prog fn_slices_breakPatternsCmpFunc_bitword_Word #[(.slice a0.a a0.len a0.cap), (.int .i64 s1.2.2.1), (.int .i64 s1.2.2.2.1), a4] (.tup .nil) fun r67 =>
 J6 ((IntKind.wrap .i64 (s1.2.2.2.2.1 - (1 : Int))), ()))
 (J6 (s1.2.2.2.2.1, ())))))))
 (true, true, a1, a2, a3, ())
set_option maxRecDepth 100000 in
theorem E_slices_pdqsortCmpFunc_bitword_Word (a0 : Sl) (a1 : Int) (a2 : Int) (a3 : Int) (a4 : Value) (K : Unit → HP) (h : Heap) : fnVC Try.prog [(1000000, .nil)] 148 Try.f74 [(.slice a0.a a0.len a0.cap), (.int .i64 a1), (.int .i64 a2), (.int .i64 a3), a4] (.tup .nil) K h = F_slices_pdqsortCmpFunc_bitword_Word a0 a1 a2 a3 a4 K h := by kernel_rfl
set_option maxRecDepth 100000 in
theorem S_slices_pdqsortCmpFunc_bitword_Word{h : Heap} {a0 : Sl} {a1 : Int} {a2 : Int} {a3 : Int} {a4 : Value} (K : Unit → HP) (hF : F_slices_pdqsortCmpFunc_bitword_Word a0 a1 a2 a3 a4 K h) : CallsH Try.prog fn_slices_pdqsortCmpFunc_bitword_Word #[(.slice a0.a a0.len a0.cap), (.int .i64 a1), (.int .i64 a2), (.int .i64 a3), a4] h fun v h' => ∃ x : Unit, v = Ty.enc (.tup .nil) x ∧ K x h' :=
  callsH_of_fn (P := Try.prog) (fn := Try.f74) (τ := (.tup .nil)) follows Try.func74 (by kernel_rfl) (by kernel_rfl) Try.call74 (Eq.mpr (E_slices_pdqsortCmpFunc_bitword_Word a0 a1 a2 a3 a4 K h) hF)

def F_math_bits_Len (a0 : Int) (K : Int → HP) : HP :=
 callT Try.prog fn_math_bits_Len64 #[(.int .u64 a0)] (.int .i64) fun r0 =>
 K r0
set_option maxRecDepth 100000 in
theorem E_math_bits_Len (a0 : Int) (K : Int → HP) (h : Heap) : fnVC Try.prog [(1000000, .nil)] 8 Try.f75 [(.int .u64 a0)] (.int .i64) K h = F_math_bits_Len a0 K h := by kernel_rfl
set_option maxRecDepth 100000 in
theorem S_math_bits_Len{h : Heap} {a0 : Int} (K : Int → HP) (hF : F_math_bits_Len a0 K h) : CallsH Try.prog fn_math_bits_Len #[(.int .u64 a0)] h fun v h' => ∃ x : Int, v = Ty.enc (.int .i64) x ∧ K x h' :=
  callsH_of_fn (P := Try.prog) (fn := Try.f75) (τ := (.int .i64)) follows Try.func75 (by kernel_rfl) (by kernel_rfl) Try.call75 (Eq.mpr (E_math_bits_Len a0 K h) hF)

def F_cmp_isNaN_bitword_Word (a0 : Int) (K : Bool → HP) : HP :=
 K (a0 != a0)
set_option maxRecDepth 100000 in
theorem E_cmp_isNaN_bitword_Word (a0 : Int) (K : Bool → HP) (h : Heap) : fnVC Try.prog [(1000000, .nil)] 6 Try.f76 [(.int .u32 a0)] .bool K h = F_cmp_isNaN_bitword_Word a0 K h := by kernel_rfl
set_option maxRecDepth 100000 in
theorem S_cmp_isNaN_bitword_Word{h : Heap} {a0 : Int} (K : Bool → HP) (hF : F_cmp_isNaN_bitword_Word a0 K h) : CallsH Try.prog fn_cmp_isNaN_bitword_Word #[(.int .u32 a0)] h fun v h' => ∃ x : Bool, v = Ty.enc .bool x ∧ K x h' :=
  callsH_of_fn (P := Try.prog) (fn := Try.f76) (τ := .bool) follows Try.func76 (by kernel_rfl) (by kernel_rfl) Try.call76 (Eq.mpr (E_cmp_isNaN_bitword_Word a0 K h) hF)

def F_slices_Index_bool_bool (a0 : Sl) (a1 : Bool) (K : Int → HP) : HP :=
 lfp (σ := (Int × (Int × Unit))) (fun X0 s1 => /-   -/
 brB (decide (s1.1 < (a0.len : Int)))
 (sx a0.a a0.len s1.1 1 fun p2 =>
 ldT .bool p2 fun x3 =>
 brB (a1 == x3)
 (K s1.1)
 (X0 ((IntKind.wrap .i64 (s1.1 + (1 : Int))), s1.2.1, ())))
 (K (-1 : Int)))
 ((0 : Int), (0 : Int), ())
set_option maxRecDepth 100000 in
theorem E_slices_Index_bool_bool (a0 : Sl) (a1 : Bool) (K : Int → HP) (h : Heap) : fnVC Try.prog [(1000000, .nil)] 19 Try.f79 [(.slice a0.a a0.len a0.cap), (.bool a1)] (.int .i64) K h = F_slices_Index_bool_bool a0 a1 K h := by kernel_rfl
set_option maxRecDepth 100000 in
theorem S_slices_Index_bool_bool{h : Heap} {a0 : Sl} {a1 : Bool} (K : Int → HP) (hF : F_slices_Index_bool_bool a0 a1 K h) : CallsH Try.prog fn_slices_Index_bool_bool #[(.slice a0.a a0.len a0.cap), (.bool a1)] h fun v h' => ∃ x : Int, v = Ty.enc (.int .i64) x ∧ K x h' :=
  callsH_of_fn (P := Try.prog) (fn := Try.f79) (τ := (.int .i64)) follows Try.func79 (by kernel_rfl) (by kernel_rfl) Try.call79 (Eq.mpr (E_slices_Index_bool_bool a0 a1 K h) hF)

def F_slices_insertionSortCmpFunc_bitword_Word (a0 : Sl) (a1 : Int) (a2 : Int) (a3 : Value) (K : Unit → HP) : HP :=
 lfp (σ := (Int × Unit)) (fun X0 s1 => /- i -/
 brB (decide (s1.1 < a2))
 (jn (σ := (Int × Unit)) (fun s3 => /- j -/
 X0 ((IntKind.wrap .i64 (s1.1 + (1 : Int))), ()))
 (fun J2 =>
 lfp (σ := (Int × Unit)) (fun X4 s5 => /- j -/
 brB (decide (s5.1 > a1))
 (sx a0.a a0.len s5.1 1 fun p6 =>
 ldT .sl p6 fun x7 =>
 sx a0.a a0.len (IntKind.wrap .i64 (s5.1 - (1 : Int))) 1 fun p8 =>
 ldT .sl p8 fun x9 =>
 callF Try.prog a3 #[(.slice x7.a x7.len x7.cap), (.slice x9.a x9.len x9.cap)] (.int .i64) fun r10 =>
 brB (decide (r10 < (0 : Int)))
 (sx a0.a a0.len (IntKind.wrap .i64 (s5.1 - (1 : Int))) 1 fun p11 =>
 ldT .sl p11 fun x12 =>
 sx a0.a a0.len s5.1 1 fun p13 =>
 ldT .sl p13 fun x14 =>
 sx a0.a a0.len s5.1 1 fun p15 =>
 st1 p15 (.slice x12.a x12.len x12.cap) <|
 sx a0.a a0.len (IntKind.wrap .i64 (s5.1 - (1 : Int))) 1 fun p16 =>
 st1 p16 (.slice x14.a x14.len x14.cap) <|
 X4 ((IntKind.wrap .i64 (s5.1 - (1 : Int))), ()))
 (J2 (s5.1, ())))
 (J2 (s5.1, ())))
 (s1.1, ())))
 (K (())))
 ((IntKind.wrap .i64 (a1 + (1 : Int))), ())
set_option maxRecDepth 100000 in
theorem E_slices_insertionSortCmpFunc_bitword_Word (a0 : Sl) (a1 : Int) (a2 : Int) (a3 : Value) (K : Unit → HP) (h : Heap) : fnVC Try.prog [(1000000, .nil)] 53 Try.f80 [(.slice a0.a a0.len a0.cap), (.int .i64 a1), (.int .i64 a2), a3] (.tup .nil) K h = F_slices_insertionSortCmpFunc_bitword_Word a0 a1 a2 a3 K h := by kernel_rfl
set_option maxRecDepth 100000 in
theorem S_slices_insertionSortCmpFunc_bitword_Word{h : Heap} {a0 : Sl} {a1 : Int} {a2 : Int} {a3 : Value} (K : Unit → HP) (hF : F_slices_insertionSortCmpFunc_bitword_Word a0 a1 a2 a3 K h) : CallsH Try.prog fn_slices_insertionSortCmpFunc_bitword_Word #[(.slice a0.a a0.len a0.cap), (.int .i64 a1), (.int .i64 a2), a3] h fun v h' => ∃ x : Unit, v = Ty.enc (.tup .nil) x ∧ K x h' :=
  callsH_of_fn (P := Try.prog) (fn := Try.f80) (τ := (.tup .nil)) follows Try.func80 (by kernel_rfl) (by kernel_rfl) Try.call80 (Eq.mpr (E_slices_insertionSortCmpFunc_bitword_Word a0 a1 a2 a3 K h) hF)

def F_slices_heapSortCmpFunc_bitword_Word (a0 : Sl) (a1 : Int) (a2 : Int) (a3 : Value) (K : Unit → HP) : HP :=
 nz (2 : Int) <|
 lfp (σ := (Int × Unit)) (fun X0 s1 => /- i -/
 brB (decide (s1.1 ≥ (0 : Int)))
 (callT Try.prog fn_slices_siftDownCmpFunc_bitword_Word #[(.slice a0.a a0.len a0.cap), (.int .i64 s1.1), (.int .i64 (IntKind.wrap .i64 (a2 - a1))), (.int .i64 a1), a3] (.tup .nil) fun r2 =>
 X0 ((IntKind.wrap .i64 (s1.1 - (1 : Int))), ()))
 (lfp (σ := (Int × Unit)) (fun X3 s4 => /- i -/
 brB (decide (s4.1 ≥ (0 : Int)))
 (sx a0.a a0.len (IntKind.wrap .i64 (a1 + s4.1)) 1 fun p5 =>
 ldT .sl p5 fun x6 =>
 sx a0.a a0.len a1 1 fun p7 =>
 ldT .sl p7 fun x8 =>
 sx a0.a a0.len a1 1 fun p9 =>
 st1 p9 (.slice x6.a x6.len x6.cap) <|
 sx a0.a a0.len (IntKind.wrap .i64 (a1 + s4.1)) 1 fun p10 =>
 st1 p10 (.slice x8.a x8.len x8.cap) <|
 callT Try.prog fn_slices_siftDownCmpFunc_bitword_Word #[(.slice a0.a a0.len a0.cap), (.int .i64 (0 : Int)), (.int .i64 s4.1), (.int .i64 a1), a3] (.tup .nil) fun r11 =>
 X3 ((IntKind.wrap .i64 (s4.1 - (1 : Int))), ()))
 (K (())))
 ((IntKind.wrap .i64 ((IntKind.wrap .i64 (a2 - a1)) - (1 : Int))), ())))
 ((IntKind.wrap .i64 (Int.tdiv (IntKind.wrap .i64 ((IntKind.wrap .i64 (a2 - a1)) - (1 : Int))) (2 : Int))), ())
set_option maxRecDepth 100000 in
theorem E_slices_heapSortCmpFunc_bitword_Word (a0 : Sl) (a1 : Int) (a2 : Int) (a3 : Value) (K : Unit → HP) (h : Heap) : fnVC Try.prog [(1000000, .nil)] 60 Try.f81 [(.slice a0.a a0.len a0.cap), (.int .i64 a1), (.int .i64 a2), a3] (.tup .nil) K h = F_slices_heapSortCmpFunc_bitword_Word a0 a1 a2 a3 K h := by kernel_rfl
set_option maxRecDepth 100000 in
theorem S_slices_heapSortCmpFunc_bitword_Word{h : Heap} {a0 : Sl} {a1 : Int} {a2 : Int} {a3 : Value} (K : Unit → HP) (hF : F_slices_heapSortCmpFunc_bitword_Word a0 a1 a2 a3 K h) : CallsH Try.prog fn_slices_heapSortCmpFunc_bitword_Word #[(.slice a0.a a0.len a0.cap), (.int .i64 a1), (.int .i64 a2), a3] h fun v h' => ∃ x : Unit, v = Ty.enc (.tup .nil) x ∧ K x h' :=
  callsH_of_fn (P := Try.prog) (fn := Try.f81) (τ := (.tup .nil)) follows Try.func81 (by kernel_rfl) (by kernel_rfl) Try.call81 (Eq.mpr (E_slices_heapSortCmpFunc_bitword_Word a0 a1 a2 a3 K h) hF)

def F_slices_breakPatternsCmpFunc_bitword_Word (a0 : Sl) (a1 : Int) (a2 : Int) (a3 : Value) (K : Unit → HP) : HP :=
 jn (σ := Unit) (fun s1 => /- -/
 K (()))
 (fun J0 =>
 brB (decide ((IntKind.wrap .i64 (a2 - a1)) ≥ (8 : Int)))
 (nw #[(.int .u64 (0 : Int))] ty_slices_xorshift fun b2 =>
 st1 (⟨b2, 0, none⟩ : Addr) (.int .u64 (IntKind.wrap .u64 (IntKind.wrap .i64 (a2 - a1)))) <|
 callT Try.prog fn_slices_nextPowerOfTwo #[(.int .i64 (IntKind.wrap .i64 (a2 - a1)))] (.int .u64) fun r3 =>
 nz (4 : Int) <|
 lfp (σ := (Int × Unit)) (fun X4 s5 => /- idx -/
 nz (4 : Int) <|
 brB (decide (s5.1 ≤ (IntKind.wrap .i64 ((IntKind.wrap .i64 (a1 + (IntKind.wrap .i64 ((IntKind.wrap .i64 (Int.tdiv (IntKind.wrap .i64 (a2 - a1)) (4 : Int))) * (2 : Int))))) + (1 : Int)))))
 (callT Try.prog fn_slices_xorshift_Next #[(.pointer (some (⟨b2, 0, none⟩ : Addr)))] (.int .u64) fun r6 =>
 jn (σ := (Int × Unit)) (fun s8 => /- other -/
 sx a0.a a0.len (IntKind.wrap .i64 (a1 + s8.1)) 1 fun p9 =>
 ldT .sl p9 fun x10 =>
 sx a0.a a0.len s5.1 1 fun p11 =>
 ldT .sl p11 fun x12 =>
 sx a0.a a0.len s5.1 1 fun p13 =>
 st1 p13 (.slice x10.a x10.len x10.cap) <|
 sx a0.a a0.len (IntKind.wrap .i64 (a1 + s8.1)) 1 fun p14 =>
 st1 p14 (.slice x12.a x12.len x12.cap) <|
 X4 ((IntKind.wrap .i64 (s5.1 + (1 : Int))), ()))
 (fun J7 =>
 brB (decide ((IntKind.wrap .i64 (bAnd .u64 r6 (IntKind.wrap .u64 (r3 - (1 : Int))))) ≥ (IntKind.wrap .i64 (a2 - a1))))
 (J7 ((IntKind.wrap .i64 ((IntKind.wrap .i64 (bAnd .u64 r6 (IntKind.wrap .u64 (r3 - (1 : Int))))) - (IntKind.wrap .i64 (a2 - a1)))), ()))
 (J7 ((IntKind.wrap .i64 (bAnd .u64 r6 (IntKind.wrap .u64 (r3 - (1 : Int))))), ()))))
 (J0 (())))
 ((IntKind.wrap .i64 ((IntKind.wrap .i64 (a1 + (IntKind.wrap .i64 ((IntKind.wrap .i64 (Int.tdiv (IntKind.wrap .i64 (a2 - a1)) (4 : Int))) * (2 : Int))))) - (1 : Int))), ()))
 (J0 (())))
set_option maxRecDepth 100000 in
theorem E_slices_breakPatternsCmpFunc_bitword_Word (a0 : Sl) (a1 : Int) (a2 : Int) (a3 : Value) (K : Unit → HP) (h : Heap) : fnVC Try.prog [(1000000, .nil)] 67 Try.f82 [(.slice a0.a a0.len a0.cap), (.int .i64 a1), (.int .i64 a2), a3] (.tup .nil) K h = F_slices_breakPatternsCmpFunc_bitword_Word a0 a1 a2 a3 K h := by kernel_rfl
set_option maxRecDepth 100000 in
theorem S_slices_breakPatternsCmpFunc_bitword_Word{h : Heap} {a0 : Sl} {a1 : Int} {a2 : Int} {a3 : Value} (K : Unit → HP) (hF : F_slices_breakPatternsCmpFunc_bitword_Word a0 a1 a2 a3 K h) : CallsH Try.prog fn_slices_breakPatternsCmpFunc_bitword_Word #[(.slice a0.a a0.len a0.cap), (.int .i64 a1), (.int .i64 a2), a3] h fun v h' => ∃ x : Unit, v = Ty.enc (.tup .nil) x ∧ K x h' :=
  callsH_of_fn (P := Try.prog) (fn := Try.f82) (τ := (.tup .nil)) follows Try.func82 (by kernel_rfl) (by kernel_rfl) Try.call82 (Eq.mpr (E_slices_breakPatternsCmpFunc_bitword_Word a0 a1 a2 a3 K h) hF)

def F_slices_choosePivotCmpFunc_bitword_Word (a0 : Sl) (a1 : Int) (a2 : Int) (a3 : Value) (K : (Int × (Int × Unit)) → HP) : HP :=
 nw #[(.int .i64 (0 : Int))] ty_int fun b0 =>
 nz (4 : Int) <|
 nz (4 : Int) <|
 nz (4 : Int) <|
 jn (σ := (Int × (Int × (Int × Unit)))) (fun s2 => /- k j i -/
 ldT (.int .i64) (⟨b0, 0, none⟩ : Addr) fun x3 =>
 brB (x3 == (0 : Int))
 (K (s2.2.1, (1 : Int), ()))
 (brB (x3 == (12 : Int))
 (K (s2.2.1, (2 : Int), ()))
 (K (s2.2.1, (0 : Int), ()))))
 (fun J1 =>
 brB (decide ((IntKind.wrap .i64 (a2 - a1)) ≥ (8 : Int)))
 (jn (σ := (Int × (Int × (Int × Unit)))) (fun s5 => /- k j i -/
 callT Try.prog fn_slices_medianCmpFunc_bitword_Word #[(.slice a0.a a0.len a0.cap), (.int .i64 s5.2.2.1), (.int .i64 s5.2.1), (.int .i64 s5.1), (.pointer (some (⟨b0, 0, none⟩ : Addr))), a3] (.int .i64) fun r6 =>
 J1 (s5.1, r6, s5.2.2.1, ()))
 (fun J4 =>
 brB (decide ((IntKind.wrap .i64 (a2 - a1)) ≥ (50 : Int)))
 (callT Try.prog fn_slices_medianAdjacentCmpFunc_bitword_Word #[(.slice a0.a a0.len a0.cap), (.int .i64 (IntKind.wrap .i64 (a1 + (IntKind.wrap .i64 ((IntKind.wrap .i64 (Int.tdiv (IntKind.wrap .i64 (a2 - a1)) (4 : Int))) * (1 : Int)))))), (.pointer (some (⟨b0, 0, none⟩ : Addr))), a3] (.int .i64) fun r7 =>
 callT Try.prog fn_slices_medianAdjacentCmpFunc_bitword_Word #[(.slice a0.a a0.len a0.cap), (.int .i64 (IntKind.wrap .i64 (a1 + (IntKind.wrap .i64 ((IntKind.wrap .i64 (Int.tdiv (IntKind.wrap .i64 (a2 - a1)) (4 : Int))) * (2 : Int)))))), (.pointer (some (⟨b0, 0, none⟩ : Addr))), a3] (.int .i64) fun r8 =>
 callT Try.prog fn_slices_medianAdjacentCmpFunc_bitword_Word #[(.slice a0.a a0.len a0.cap), (.int .i64 (IntKind.wrap .i64 (a1 + (IntKind.wrap .i64 ((IntKind.wrap .i64 (Int.tdiv (IntKind.wrap .i64 (a2 - a1)) (4 : Int))) * (3 : Int)))))), (.pointer (some (⟨b0, 0, none⟩ : Addr))), a3] (.int .i64) fun r9 =>
 J4 (r9, r8, r7, ()))
 (J4 ((IntKind.wrap .i64 (a1 + (IntKind.wrap .i64 ((IntKind.wrap .i64 (Int.tdiv (IntKind.wrap .i64 (a2 - a1)) (4 : Int))) * (3 : Int))))), (IntKind.wrap .i64 (a1 + (IntKind.wrap .i64 ((IntKind.wrap .i64 (Int.tdiv (IntKind.wrap .i64 (a2 - a1)) (4 : Int))) * (2 : Int))))), (IntKind.wrap .i64 (a1 + (IntKind.wrap .i64 ((IntKind.wrap .i64 (Int.tdiv (IntKind.wrap .i64 (a2 - a1)) (4 : Int))) * (1 : Int))))), ()))))
 (J1 ((IntKind.wrap .i64 (a1 + (IntKind.wrap .i64 ((IntKind.wrap .i64 (Int.tdiv (IntKind.wrap .i64 (a2 - a1)) (4 : Int))) * (3 : Int))))), (IntKind.wrap .i64 (a1 + (IntKind.wrap .i64 ((IntKind.wrap .i64 (Int.tdiv (IntKind.wrap .i64 (a2 - a1)) (4 : Int))) * (2 : Int))))), (IntKind.wrap .i64 (a1 + (IntKind.wrap .i64 ((IntKind.wrap .i64 (Int.tdiv (IntKind.wrap .i64 (a2 - a1)) (4 : Int))) * (1 : Int))))), ())))
set_option maxRecDepth 100000 in
theorem E_slices_choosePivotCmpFunc_bitword_Word (a0 : Sl) (a1 : Int) (a2 : Int) (a3 : Value) (K : (Int × (Int × Unit)) → HP) (h : Heap) : fnVC Try.prog [(1000000, .nil)] 63 Try.f83 [(.slice a0.a a0.len a0.cap), (.int .i64 a1), (.int .i64 a2), a3] (.tup (.cons (.int .i64) (.cons (.int .i64) .nil))) K h = F_slices_choosePivotCmpFunc_bitword_Word a0 a1 a2 a3 K h := by kernel_rfl
set_option maxRecDepth 100000 in
theorem S_slices_choosePivotCmpFunc_bitword_Word{h : Heap} {a0 : Sl} {a1 : Int} {a2 : Int} {a3 : Value} (K : (Int × (Int × Unit)) → HP) (hF : F_slices_choosePivotCmpFunc_bitword_Word a0 a1 a2 a3 K h) : CallsH Try.prog fn_slices_choosePivotCmpFunc_bitword_Word #[(.slice a0.a a0.len a0.cap), (.int .i64 a1), (.int .i64 a2), a3] h fun v h' => ∃ x : (Int × (Int × Unit)), v = Ty.enc (.tup (.cons (.int .i64) (.cons (.int .i64) .nil))) x ∧ K x h' :=
  callsH_of_fn (P := Try.prog) (fn := Try.f83) (τ := (.tup (.cons (.int .i64) (.cons (.int .i64) .nil)))) follows Try.func83 (by kernel_rfl) (by kernel_rfl) Try.call83 (Eq.mpr (E_slices_choosePivotCmpFunc_bitword_Word a0 a1 a2 a3 K h) hF)

def F_slices_reverseRangeCmpFunc_bitword_Word (a0 : Sl) (a1 : Int) (a2 : Int) (a3 : Value) (K : Unit → HP) : HP :=
 lfp (σ := (Int × (Int × Unit))) (fun X0 s1 => /- j i -/
 brB (decide (s1.2.1 < s1.1))
 (sx a0.a a0.len s1.1 1 fun p2 =>
 ldT .sl p2 fun x3 =>
 sx a0.a a0.len s1.2.1 1 fun p4 =>
 ldT .sl p4 fun x5 =>
 sx a0.a a0.len s1.2.1 1 fun p6 =>
 st1 p6 (.slice x3.a x3.len x3.cap) <|
 sx a0.a a0.len s1.1 1 fun p7 =>
 st1 p7 (.slice x5.a x5.len x5.cap) <|
 X0 ((IntKind.wrap .i64 (s1.1 - (1 : Int))), (IntKind.wrap .i64 (s1.2.1 + (1 : Int))), ()))
 (K (())))
 ((IntKind.wrap .i64 (a2 - (1 : Int))), a1, ())
set_option maxRecDepth 100000 in
theorem E_slices_reverseRangeCmpFunc_bitword_Word (a0 : Sl) (a1 : Int) (a2 : Int) (a3 : Value) (K : Unit → HP) (h : Heap) : fnVC Try.prog [(1000000, .nil)] 34 Try.f84 [(.slice a0.a a0.len a0.cap), (.int .i64 a1), (.int .i64 a2), a3] (.tup .nil) K h = F_slices_reverseRangeCmpFunc_bitword_Word a0 a1 a2 a3 K h := by kernel_rfl
set_option maxRecDepth 100000 in
theorem S_slices_reverseRangeCmpFunc_bitword_Word{h : Heap} {a0 : Sl} {a1 : Int} {a2 : Int} {a3 : Value} (K : Unit → HP) (hF : F_slices_reverseRangeCmpFunc_bitword_Word a0 a1 a2 a3 K h) : CallsH Try.prog fn_slices_reverseRangeCmpFunc_bitword_Word #[(.slice a0.a a0.len a0.cap), (.int .i64 a1), (.int .i64 a2), a3] h fun v h' => ∃ x : Unit, v = Ty.enc (.tup .nil) x ∧ K x h' :=
  callsH_of_fn (P := Try.prog) (fn := Try.f84) (τ := (.tup .nil)) follows Try.func84 (by kernel_rfl) (by kernel_rfl) Try.call84 (Eq.mpr (E_slices_reverseRangeCmpFunc_bitword_Word a0 a1 a2 a3 K h) hF)

def F_slices_partialInsertionSortCmpFunc_bitword_Word (a0 : Sl) (a1 : Int) (a2 : Int) (a3 : Value) (K : Bool → HP) : HP :=
 lfp (σ := (Int × (Int × (Bool × Unit)))) (fun X0 s1 => /- j i  -/
 brB (decide (s1.1 < (5 : Int)))
 (jn (σ := (Int × Unit)) (fun s3 => /- i -/
 brB (s3.1 == a2)
 (K true)
 (brB (decide ((IntKind.wrap .i64 (a2 - a1)) < (50 : Int)))
 (K false)
 (sx a0.a a0.len (IntKind.wrap .i64 (s3.1 - (1 : Int))) 1 fun p4 =>
 ldT .sl p4 fun x5 =>
 sx a0.a a0.len s3.1 1 fun p6 =>
 ldT .sl p6 fun x7 =>
 sx a0.a a0.len s3.1 1 fun p8 =>
 st1 p8 (.slice x5.a x5.len x5.cap) <|
 sx a0.a a0.len (IntKind.wrap .i64 (s3.1 - (1 : Int))) 1 fun p9 =>
 st1 p9 (.slice x7.a x7.len x7.cap) <|
 jn (σ := Unit) (fun s11 => /- -/
 jn (σ := Unit) (fun s13 => /- -/
 X0 ((IntKind.wrap .i64 (s1.1 + (1 : Int))), s3.1, s1.2.2.1, ()))
 (fun J12 =>
 brB (decide ((IntKind.wrap .i64 (a2 - s3.1)) ≥ (2 : Int)))
 (jn (σ := (Int × Unit)) (fun s15 => /- j -/
 J12 (()))
 (fun J14 =>
 lfp (σ := (Int × Unit)) (fun X16 s17 => /- j -/
 brB (decide (s17.1 < a2))
 (sx a0.a a0.len s17.1 1 fun p18 =>
 ldT .sl p18 fun x19 =>
 sx a0.a a0.len (IntKind.wrap .i64 (s17.1 - (1 : Int))) 1 fun p20 =>
 ldT .sl p20 fun x21 =>
 callF Try.prog a3 #[(.slice x19.a x19.len x19.cap), (.slice x21.a x21.len x21.cap)] (.int .i64) fun r22 =>
 brB (!(decide (r22 < (0 : Int))))
 (J14 (s17.1, ()))
 (sx a0.a a0.len (IntKind.wrap .i64 (s17.1 - (1 : Int))) 1 fun p23 =>
 ldT .sl p23 fun x24 =>
 sx a0.a a0.len s17.1 1 fun p25 =>
 ldT .sl p25 fun x26 =>
 sx a0.a a0.len s17.1 1 fun p27 =>
 st1 p27 (.slice x24.a x24.len x24.cap) <|
 sx a0.a a0.len (IntKind.wrap .i64 (s17.1 - (1 : Int))) 1 fun p28 =>
 st1 p28 (.slice x26.a x26.len x26.cap) <|
 X16 ((IntKind.wrap .i64 (s17.1 + (1 : Int))), ())))
 (J14 (s17.1, ())))
 ((IntKind.wrap .i64 (s3.1 + (1 : Int))), ())))
 (J12 (()))))
 (fun J10 =>
 brB (decide ((IntKind.wrap .i64 (s3.1 - a1)) ≥ (2 : Int)))
 (jn (σ := (Int × Unit)) (fun s30 => /- j -/
 J10 (()))
 (fun J29 =>
 lfp (σ := (Int × Unit)) (fun X31 s32 => /- j -/
 brB (decide (s32.1 ≥ (1 : Int)))
 (sx a0.a a0.len s32.1 1 fun p33 =>
 ldT .sl p33 fun x34 =>
 sx a0.a a0.len (IntKind.wrap .i64 (s32.1 - (1 : Int))) 1 fun p35 =>
 ldT .sl p35 fun x36 =>
 callF Try.prog a3 #[(.slice x34.a x34.len x34.cap), (.slice x36.a x36.len x36.cap)] (.int .i64) fun r37 =>
 brB (!(decide (r37 < (0 : Int))))
 (J29 (s32.1, ()))
 (sx a0.a a0.len (IntKind.wrap .i64 (s32.1 - (1 : Int))) 1 fun p38 =>
 ldT .sl p38 fun x39 =>
 sx a0.a a0.len s32.1 1 fun p40 =>
 ldT .sl p40 fun x41 =>
 sx a0.a a0.len s32.1 1 fun p42 =>
 st1 p42 (.slice x39.a x39.len x39.cap) <|
 sx a0.a a0.len (IntKind.wrap .i64 (s32.1 - (1 : Int))) 1 fun p43 =>
 st1 p43 (.slice x41.a x41.len x41.cap) <|
 X31 ((IntKind.wrap .i64 (s32.1 - (1 : Int))), ())))
 (J29 (s32.1, ())))
 ((IntKind.wrap .i64 (s3.1 - (1 : Int))), ())))
 (J10 (()))))))
 (fun J2 =>
 lfp (σ := (Int × Unit)) (fun X44 s45 => /- i -/
 brB (decide (s45.1 < a2))
 (sx a0.a a0.len s45.1 1 fun p46 =>
 ldT .sl p46 fun x47 =>
 sx a0.a a0.len (IntKind.wrap .i64 (s45.1 - (1 : Int))) 1 fun p48 =>
 ldT .sl p48 fun x49 =>
 callF Try.prog a3 #[(.slice x47.a x47.len x47.cap), (.slice x49.a x49.len x49.cap)] (.int .i64) fun r50 =>
 brB (!(decide (r50 < (0 : Int))))
 (X44 ((IntKind.wrap .i64 (s45.1 + (1 : Int))), ()))
 (J2 (s45.1, ())))
 (J2 (s45.1, ())))
 (s1.2.1, ())))
 (K false))
 ((0 : Int), (IntKind.wrap .i64 (a1 + (1 : Int))), false, ())
set_option maxRecDepth 100000 in
theorem E_slices_partialInsertionSortCmpFunc_bitword_Word (a0 : Sl) (a1 : Int) (a2 : Int) (a3 : Value) (K : Bool → HP) (h : Heap) : fnVC Try.prog [(1000000, .nil)] 141 Try.f85 [(.slice a0.a a0.len a0.cap), (.int .i64 a1), (.int .i64 a2), a3] .bool K h = F_slices_partialInsertionSortCmpFunc_bitword_Word a0 a1 a2 a3 K h := by kernel_rfl
set_option maxRecDepth 100000 in
theorem S_slices_partialInsertionSortCmpFunc_bitword_Word{h : Heap} {a0 : Sl} {a1 : Int} {a2 : Int} {a3 : Value} (K : Bool → HP) (hF : F_slices_partialInsertionSortCmpFunc_bitword_Word a0 a1 a2 a3 K h) : CallsH Try.prog fn_slices_partialInsertionSortCmpFunc_bitword_Word #[(.slice a0.a a0.len a0.cap), (.int .i64 a1), (.int .i64 a2), a3] h fun v h' => ∃ x : Bool, v = Ty.enc .bool x ∧ K x h' :=
  callsH_of_fn (P := Try.prog) (fn := Try.f85) (τ := .bool) follows Try.func85 (by kernel_rfl) (by kernel_rfl) Try.call85 (Eq.mpr (E_slices_partialInsertionSortCmpFunc_bitword_Word a0 a1 a2 a3 K h) hF)

def F_slices_partitionEqualCmpFunc_bitword_Word (a0 : Sl) (a1 : Int) (a2 : Int) (a3 : Int) (a4 : Value) (K : Int → HP) : HP :=
 sx a0.a a0.len a3 1 fun p0 =>
 ldT .sl p0 fun x1 =>
 sx a0.a a0.len a1 1 fun p2 =>
 ldT .sl p2 fun x3 =>
 sx a0.a a0.len a1 1 fun p4 =>
 st1 p4 (.slice x1.a x1.len x1.cap) <|
 sx a0.a a0.len a3 1 fun p5 =>
 st1 p5 (.slice x3.a x3.len x3.cap) <|
 lfp (σ := (Int × (Int × Unit))) (fun X6 s7 => /- j i -/
 jn (σ := (Int × Unit)) (fun s9 => /- i -/
 jn (σ := (Int × Unit)) (fun s11 => /- j -/
 brB (decide (s9.1 > s11.1))
 (K s9.1)
 (sx a0.a a0.len s11.1 1 fun p12 =>
 ldT .sl p12 fun x13 =>
 sx a0.a a0.len s9.1 1 fun p14 =>
 ldT .sl p14 fun x15 =>
 sx a0.a a0.len s9.1 1 fun p16 =>
 st1 p16 (.slice x13.a x13.len x13.cap) <|
 sx a0.a a0.len s11.1 1 fun p17 =>
 st1 p17 (.slice x15.a x15.len x15.cap) <|
 X6 ((IntKind.wrap .i64 (s11.1 - (1 : Int))), (IntKind.wrap .i64 (s9.1 + (1 : Int))), ())))
 (fun J10 =>
 lfp (σ := (Int × Unit)) (fun X18 s19 => /- j -/
 brB (decide (s9.1 ≤ s19.1))
 (sx a0.a a0.len a1 1 fun p20 =>
 ldT .sl p20 fun x21 =>
 sx a0.a a0.len s19.1 1 fun p22 =>
 ldT .sl p22 fun x23 =>
 callF Try.prog a4 #[(.slice x21.a x21.len x21.cap), (.slice x23.a x23.len x23.cap)] (.int .i64) fun r24 =>
 brB (decide (r24 < (0 : Int)))
 (X18 ((IntKind.wrap .i64 (s19.1 - (1 : Int))), ()))
 (J10 (s19.1, ())))
 (J10 (s19.1, ())))
 (s7.1, ())))
 (fun J8 =>
 lfp (σ := (Int × Unit)) (fun X25 s26 => /- i -/
 brB (decide (s26.1 ≤ s7.1))
 (sx a0.a a0.len a1 1 fun p27 =>
 ldT .sl p27 fun x28 =>
 sx a0.a a0.len s26.1 1 fun p29 =>
 ldT .sl p29 fun x30 =>
 callF Try.prog a4 #[(.slice x28.a x28.len x28.cap), (.slice x30.a x30.len x30.cap)] (.int .i64) fun r31 =>
 brB (!(decide (r31 < (0 : Int))))
 (X25 ((IntKind.wrap .i64 (s26.1 + (1 : Int))), ()))
 (J8 (s26.1, ())))
 (J8 (s26.1, ())))
 (s7.2.1, ())))
 ((IntKind.wrap .i64 (a2 - (1 : Int))), (IntKind.wrap .i64 (a1 + (1 : Int))), ())
set_option maxRecDepth 100000 in
theorem E_slices_partitionEqualCmpFunc_bitword_Word (a0 : Sl) (a1 : Int) (a2 : Int) (a3 : Int) (a4 : Value) (K : Int → HP) (h : Heap) : fnVC Try.prog [(1000000, .nil)] 90 Try.f86 [(.slice a0.a a0.len a0.cap), (.int .i64 a1), (.int .i64 a2), (.int .i64 a3), a4] (.int .i64) K h = F_slices_partitionEqualCmpFunc_bitword_Word a0 a1 a2 a3 a4 K h := by kernel_rfl
set_option maxRecDepth 100000 in
theorem S_slices_partitionEqualCmpFunc_bitword_Word{h : Heap} {a0 : Sl} {a1 : Int} {a2 : Int} {a3 : Int} {a4 : Value} (K : Int → HP) (hF : F_slices_partitionEqualCmpFunc_bitword_Word a0 a1 a2 a3 a4 K h) : CallsH Try.prog fn_slices_partitionEqualCmpFunc_bitword_Word #[(.slice a0.a a0.len a0.cap), (.int .i64 a1), (.int .i64 a2), (.int .i64 a3), a4] h fun v h' => ∃ x : Int, v = Ty.enc (.int .i64) x ∧ K x h' :=
  callsH_of_fn (P := Try.prog) (fn := Try.f86) (τ := (.int .i64)) follows Try.func86 (by kernel_rfl) (by kernel_rfl) Try.call86 (Eq.mpr (E_slices_partitionEqualCmpFunc_bitword_Word a0 a1 a2 a3 a4 K h) hF)

end Go.Proofs.S
