/- The functions of the seat, each as a predicate over its values, printed by a program of ours, and that each is its text's. -/
import Derived.Test.YtchedlkmgahicaaSxH
import Derived.KernelRfl
import Derived.Test.YtchedlkmgahicaaProg
import Derived.Test.YtchedlkmgahicaaCrF0
set_option linter.unusedVariables false
namespace Go.Proofs.S
open Go Go.Sx Go.Proofs
def F_salvorlaw35_awake (K : Bool → HP) : HP :=
 nw #[(.int .i64 (0 : Int)), (.int .u32 (5 : Int)), (.int .i64 (0 : Int)), (.int .i64 (1 : Int)), (.int .u32 (6 : Int)), (.int .i64 (0 : Int)), (.int .i64 (0 : Int)), (.int .u32 (7 : Int)), (.int .i64 (1 : Int))] ty_disk_Entry fun b0 =>
 callT Try.prog fn_crash_Count #[(.slice (some (⟨b0, 0, none⟩ : Addr)) 3 3)] (.tup (.cons (.int .i64) (.cons (.int .i64) .nil))) fun r1 =>
 nw #[(.int .u32 (3 : Int)), (.int .u32 (3 : Int))] ty_bitword_Word fun b2 =>
 nw #[(.bool true), (.bool true), (.bool false)] ty_bool fun b3 =>
 callT Try.prog fn_crash_Apply #[(.slice (some (⟨b2, 0, none⟩ : Addr)) 2 2), (.slice (some (⟨b0, 0, none⟩ : Addr)) 3 3), (.slice (some (⟨b3, 0, none⟩ : Addr)) 3 3)] (.tup (.cons .sl (.cons (.int .i64) .nil))) fun r4 =>
 nw #[(.int .u32 (3 : Int)), (.int .u32 (3 : Int))] ty_bitword_Word fun b5 =>
 nw #[(.bool true), (.bool true), (.bool true)] ty_bool fun b6 =>
 callT Try.prog fn_crash_Apply #[(.slice (some (⟨b5, 0, none⟩ : Addr)) 2 2), (.slice (some (⟨b0, 0, none⟩ : Addr)) 3 3), (.slice (some (⟨b6, 0, none⟩ : Addr)) 3 3)] (.tup (.cons .sl (.cons (.int .i64) .nil))) fun r7 =>
 nw #[(.int .u32 (3 : Int)), (.int .u32 (3 : Int))] ty_bitword_Word fun b8 =>
 callT Try.prog fn_crash_Results #[(.slice (some (⟨b8, 0, none⟩ : Addr)) 2 2), (.slice (some (⟨b0, 0, none⟩ : Addr)) 3 3)] (.tup (.cons .sl (.cons (.int .i64) .nil))) fun r9 =>
 nw #[(.bool true), (.bool true), (.bool true)] ty_bool fun b10 =>
 callT Try.prog fn_crash_Drop #[(.slice (some (⟨b0, 0, none⟩ : Addr)) 3 3), (.slice (some (⟨b10, 0, none⟩ : Addr)) 3 3)] (.tup (.cons .sl (.cons (.int .i64) .nil))) fun r11 =>
 nw #[(.bool false), (.bool false), (.bool true)] ty_bool fun b12 =>
 callT Try.prog fn_crash_Valid #[(.slice (some (⟨b0, 0, none⟩ : Addr)) 3 3), (.slice (some (⟨b12, 0, none⟩ : Addr)) 3 3)] (.tup (.cons .bool (.cons (.int .i64) .nil))) fun r13 =>
 nw #[(.bool true), (.bool false), (.bool true)] ty_bool fun b14 =>
 callT Try.prog fn_crash_Valid #[(.slice (some (⟨b0, 0, none⟩ : Addr)) 3 3), (.slice (some (⟨b14, 0, none⟩ : Addr)) 3 3)] (.tup (.cons .bool (.cons (.int .i64) .nil))) fun r15 =>
 brB ((IntKind.wrap .i64 ((IntKind.wrap .i64 ((IntKind.wrap .i64 ((IntKind.wrap .i64 ((IntKind.wrap .i64 ((IntKind.wrap .i64 (r1.2.1 + r4.2.1)) + r7.2.1)) + r9.2.1)) + r11.2.1)) + r13.2.1)) + r15.2.1)) != (0 : Int))
 (K false)
 (brB (r1.1 != (5 : Int))
 (K false)
 (brB r13.1
 (K false)
 (brB r15.1
 (K false)
 (nw #[(.int .u32 (5 : Int)), (.int .u32 (6 : Int))] ty_bitword_Word fun b16 =>
 callT Try.prog fn_slices_Equal_bitword_Word_bitword_Word #[(.slice r4.1.a r4.1.len r4.1.cap), (.slice (some (⟨b16, 0, none⟩ : Addr)) 2 2)] .bool fun r17 =>
 brB (!r17)
 (K false)
 (nw #[(.int .u32 (7 : Int)), (.int .u32 (6 : Int))] ty_bitword_Word fun b18 =>
 callT Try.prog fn_slices_Equal_bitword_Word_bitword_Word #[(.slice r7.1.a r7.1.len r7.1.cap), (.slice (some (⟨b18, 0, none⟩ : Addr)) 2 2)] .bool fun r19 =>
 brB (!r19)
 (K false)
 (brB ((r9.1.len : Int) != (5 : Int))
 (K false)
 (brB ((r11.1.len : Int) != (1 : Int))
 (K false)
 (sx r11.1.a r11.1.len (0 : Int) 1 fun p20 =>
 ldT .sl p20 fun x21 =>
 nw #[(.bool true), (.bool true), (.bool false)] ty_bool fun b22 =>
 callT Try.prog fn_slices_Equal_bool_bool #[(.slice x21.a x21.len x21.cap), (.slice (some (⟨b22, 0, none⟩ : Addr)) 3 3)] .bool fun r23 =>
 brB (!r23)
 (K false)
 (nw #[(.int .u32 (3 : Int)), (.int .u32 (3 : Int))] ty_bitword_Word fun b24 =>
 nw #[(.int .u32 (3 : Int)), (.int .u32 (6 : Int))] ty_bitword_Word fun b25 =>
 nw #[(.int .u32 (5 : Int)), (.int .u32 (3 : Int))] ty_bitword_Word fun b26 =>
 nw #[(.int .u32 (5 : Int)), (.int .u32 (6 : Int))] ty_bitword_Word fun b27 =>
 nw #[(.int .u32 (7 : Int)), (.int .u32 (6 : Int))] ty_bitword_Word fun b28 =>
 nw #[(.slice (some (⟨b24, 0, none⟩ : Addr)) 2 2), (.slice (some (⟨b25, 0, none⟩ : Addr)) 2 2), (.slice (some (⟨b26, 0, none⟩ : Addr)) 2 2), (.slice (some (⟨b27, 0, none⟩ : Addr)) 2 2), (.slice (some (⟨b28, 0, none⟩ : Addr)) 2 2)] ty_sl_bitword_Word fun b29 =>
 lfp (σ := (Int × (Bool × Unit))) (fun X30 s31 => /-   -/
 brB (decide (s31.1 < (5 : Int)))
 (sx r9.1.a r9.1.len s31.1 1 fun p32 =>
 ldT .sl p32 fun x33 =>
 sx (some (⟨b29, 0, none⟩ : Addr)) 5 s31.1 1 fun p34 =>
 ldT .sl p34 fun x35 =>
 callT Try.prog fn_slices_Equal_bitword_Word_bitword_Word #[(.slice x33.a x33.len x33.cap), (.slice x35.a x35.len x35.cap)] .bool fun r36 =>
 brB (!r36)
 (K false)
 (X30 ((IntKind.wrap .i64 (s31.1 + (1 : Int))), s31.2.1, ())))
 (K true))
 ((0 : Int), false, ()))))))))))
set_option maxRecDepth 100000 in
theorem E_salvorlaw35_awake (K : Bool → HP) (h : Heap) : fnVC Try.prog [(1000000, .nil)] 141 Try.f11 [] .bool K h = F_salvorlaw35_awake K h := by kernel_rfl
set_option maxRecDepth 100000 in
theorem S_salvorlaw35_awake{h : Heap} (K : Bool → HP) (hF : F_salvorlaw35_awake K h) : CallsH Try.prog fn_salvorlaw35_awake #[] h fun v h' => ∃ x : Bool, v = Ty.enc .bool x ∧ K x h' :=
  callsH_of_fn (P := Try.prog) (fn := Try.f11) (τ := .bool) follows Try.func11 (by kernel_rfl) (by kernel_rfl) Try.call11 (Eq.mpr (E_salvorlaw35_awake K h) hF)

def F_salvorlaw35_Made (a0 : Sl) (a1 : Int) (K : Sl → HP) : HP :=
 slH ⟨a0.a, a0.len, a0.cap⟩ (if a1 < (a0.len : Int) then a1 else (a0.len : Int)) 1 fun s0 =>
 lfp (σ := (Int × (Int × (Sl × Unit)))) (fun X1 s2 => /-  epoch out -/
 brB (decide (s2.1 < (s0.len : Int)))
 (sx s0.a s0.len s2.1 1 fun p3 =>
 ldT (.int .u8) p3 fun x4 =>
 jn (σ := (Int × Unit)) (fun s6 => /- epoch -/
 nz (3 : Int) <|
 nz (3 : Int) <|
 nz (16 : Int) <|
 nw #[(.int .i64 (IntKind.wrap .i64 (Int.tmod x4 (3 : Int)))), (.int .u32 (IntKind.wrap .u32 (Int.tmod (IntKind.wrap .u8 (Int.tdiv x4 (3 : Int))) (16 : Int)))), (.int .i64 s6.1)] ty_disk_Entry fun b7 =>
 apd ty_disk_Entry 3 24 #[(.int .i64 (0 : Int)), (.int .u32 (0 : Int)), (.int .i64 (0 : Int))] ⟨s2.2.2.1.a, s2.2.2.1.len, s2.2.2.1.cap⟩ ⟨(some (⟨b7, 0, none⟩ : Addr)), 1, 1⟩ fun s8 =>
 X1 ((IntKind.wrap .i64 (s2.1 + (1 : Int))), s6.1, ⟨s8.a, s8.len, s8.cap⟩, ()))
 (fun J5 =>
 brB (decide (x4 ≥ (192 : Int)))
 (J5 ((IntKind.wrap .i64 (s2.2.1 + (1 : Int))), ()))
 (J5 (s2.2.1, ()))))
 (K ⟨s2.2.2.1.a, s2.2.2.1.len, s2.2.2.1.cap⟩))
 ((0 : Int), (0 : Int), ⟨none, 0, 0⟩, ())
set_option maxRecDepth 100000 in
theorem E_salvorlaw35_Made (a0 : Sl) (a1 : Int) (K : Sl → HP) (h : Heap) : fnVC Try.prog [(1000000, .nil)] 38 Try.f12 [(.slice a0.a a0.len a0.cap), (.int .i64 a1)] .sl K h = F_salvorlaw35_Made a0 a1 K h := by kernel_rfl
set_option maxRecDepth 100000 in
theorem S_salvorlaw35_Made{h : Heap} {a0 : Sl} {a1 : Int} (K : Sl → HP) (hF : F_salvorlaw35_Made a0 a1 K h) : CallsH Try.prog fn_salvorlaw35_Made #[(.slice a0.a a0.len a0.cap), (.int .i64 a1)] h fun v h' => ∃ x : Sl, v = Ty.enc .sl x ∧ K x h' :=
  callsH_of_fn (P := Try.prog) (fn := Try.f12) (τ := .sl) follows Try.func12 (by kernel_rfl) (by kernel_rfl) Try.call12 (Eq.mpr (E_salvorlaw35_Made a0 a1 K h) hF)

def F_crash_Count (a0 : Sl) (K : (Int × (Int × Unit)) → HP) : HP :=
 callT Try.prog fn_crash_Right #[(.slice a0.a a0.len a0.cap)] .bool fun r0 =>
 brB (!r0)
 (K ((0 : Int), (350 : Int), ()))
 (callT Try.prog fn_crash_group #[(.slice a0.a a0.len a0.cap)] .val fun r1 =>
 lfp (σ := (Int × (Int × (Int × (Int × Unit))))) (fun X2 s3 => /- at n   -/
 brB (decide (s3.1 < (a0.len : Int)))
 (callF Try.prog r1 #[(.int .i64 s3.1)] (.int .i64) fun r4 =>
 brB (decide ((IntKind.wrap .i64 (r4 - s3.1)) > (30 : Int)))
 (K ((1073741824 : Int), (0 : Int), ()))
 (ge0 (IntKind.wrap .i64 (r4 - s3.1)) <|
 callF Try.prog r1 #[(.int .i64 s3.1)] (.int .i64) fun r5 =>
 X2 (r5, (if (1073741824 : Int) < (IntKind.wrap .i64 ((IntKind.wrap .i64 (s3.2.1 + (IntKind.wrap .i64 ((1 : Int) * 2 ^ (min ((IntKind.wrap .i64 (r4 - s3.1))).toNat 64))))) - (1 : Int))) then (1073741824 : Int) else (IntKind.wrap .i64 ((IntKind.wrap .i64 (s3.2.1 + (IntKind.wrap .i64 ((1 : Int) * 2 ^ (min ((IntKind.wrap .i64 (r4 - s3.1))).toNat 64))))) - (1 : Int)))), s3.2.2.1, s3.2.2.2.1, ())))
 (K (s3.2.1, (0 : Int), ())))
 ((0 : Int), (1 : Int), (0 : Int), (0 : Int), ()))
set_option maxRecDepth 100000 in
theorem E_crash_Count (a0 : Sl) (K : (Int × (Int × Unit)) → HP) (h : Heap) : fnVC Try.prog [(1000000, .nil)] 34 Try.f13 [(.slice a0.a a0.len a0.cap)] (.tup (.cons (.int .i64) (.cons (.int .i64) .nil))) K h = F_crash_Count a0 K h := by kernel_rfl
set_option maxRecDepth 100000 in
theorem S_crash_Count{h : Heap} {a0 : Sl} (K : (Int × (Int × Unit)) → HP) (hF : F_crash_Count a0 K h) : CallsH Try.prog fn_crash_Count #[(.slice a0.a a0.len a0.cap)] h fun v h' => ∃ x : (Int × (Int × Unit)), v = Ty.enc (.tup (.cons (.int .i64) (.cons (.int .i64) .nil))) x ∧ K x h' :=
  callsH_of_fn (P := Try.prog) (fn := Try.f13) (τ := (.tup (.cons (.int .i64) (.cons (.int .i64) .nil)))) follows Try.func13 (by kernel_rfl) (by kernel_rfl) Try.call13 (Eq.mpr (E_crash_Count a0 K h) hF)

def F_crash_All (a0 : Sl) (K : Value → HP) : HP :=
 nw #[(.slice a0.a a0.len a0.cap)] ty_sl_disk_Entry fun b0 =>
 K (.func (.func fn_crash_All_1) #[] #[(.pointer (some (⟨b0, 0, none⟩ : Addr)))])
set_option maxRecDepth 100000 in
theorem E_crash_All (a0 : Sl) (K : Value → HP) (h : Heap) : fnVC Try.prog [(1000000, .nil)] 4 Try.f15 [(.slice a0.a a0.len a0.cap)] .val K h = F_crash_All a0 K h := by kernel_rfl
set_option maxRecDepth 100000 in
theorem S_crash_All{h : Heap} {a0 : Sl} (K : Value → HP) (hF : F_crash_All a0 K h) : CallsH Try.prog fn_crash_All #[(.slice a0.a a0.len a0.cap)] h fun v h' => ∃ x : Value, v = Ty.enc .val x ∧ K x h' :=
  callsH_of_fn (P := Try.prog) (fn := Try.f15) (τ := .val) follows Try.func15 (by kernel_rfl) (by kernel_rfl) Try.call15 (Eq.mpr (E_crash_All a0 K h) hF)

def F_crash_Valid (a0 : Sl) (a1 : Sl) (K : (Bool × (Int × Unit)) → HP) : HP :=
 callT Try.prog fn_crash_check #[(.slice a0.a a0.len a0.cap), (.slice a1.a a1.len a1.cap)] (.int .i64) fun r0 =>
 brB (r0 != (0 : Int))
 (K (false, r0, ()))
 (callT Try.prog fn_crash_valid #[(.slice a0.a a0.len a0.cap), (.slice a1.a a1.len a1.cap)] .bool fun r1 =>
 K (r1, (0 : Int), ()))
set_option maxRecDepth 100000 in
theorem E_crash_Valid (a0 : Sl) (a1 : Sl) (K : (Bool × (Int × Unit)) → HP) (h : Heap) : fnVC Try.prog [(1000000, .nil)] 16 Try.f16 [(.slice a0.a a0.len a0.cap), (.slice a1.a a1.len a1.cap)] (.tup (.cons .bool (.cons (.int .i64) .nil))) K h = F_crash_Valid a0 a1 K h := by kernel_rfl
set_option maxRecDepth 100000 in
theorem S_crash_Valid{h : Heap} {a0 : Sl} {a1 : Sl} (K : (Bool × (Int × Unit)) → HP) (hF : F_crash_Valid a0 a1 K h) : CallsH Try.prog fn_crash_Valid #[(.slice a0.a a0.len a0.cap), (.slice a1.a a1.len a1.cap)] h fun v h' => ∃ x : (Bool × (Int × Unit)), v = Ty.enc (.tup (.cons .bool (.cons (.int .i64) .nil))) x ∧ K x h' :=
  callsH_of_fn (P := Try.prog) (fn := Try.f16) (τ := (.tup (.cons .bool (.cons (.int .i64) .nil)))) follows Try.func16 (by kernel_rfl) (by kernel_rfl) Try.call16 (Eq.mpr (E_crash_Valid a0 a1 K h) hF)

def F_crash_Results (a0 : Sl) (a1 : Sl) (K : (Sl × (Int × Unit)) → HP) : HP := fun h0 => (
 nw #[(.slice a0.a a0.len a0.cap)] ty_sl_bitword_Word fun b0 =>
 nw #[(.slice a1.a a1.len a1.cap)] ty_sl_disk_Entry fun b1 =>
 ldT .sl (⟨b1, 0, none⟩ : Addr) fun x2 =>
 callT Try.prog fn_crash_Count #[(.slice x2.a x2.len x2.cap)] (.tup (.cons (.int .i64) (.cons (.int .i64) .nil))) fun r3 =>
 brB (r3.2.1 != (0 : Int))
 (mkd h0.size <|
 K (⟨none, 0, 0⟩, r3.2.1, ()))
 (ldT .sl (⟨b0, 0, none⟩ : Addr) fun x4 =>
 ldT .sl (⟨b1, 0, none⟩ : Addr) fun x5 =>
 callT Try.prog fn_crash_fits #[(.slice x4.a x4.len x4.cap), (.slice x5.a x5.len x5.cap)] .bool fun r6 =>
 brB (!r6)
 (mkd h0.size <|
 K (⟨none, 0, 0⟩, (2 : Int), ()))
 (brB (decide (r3.1 > (4096 : Int)))
 (mkd h0.size <|
 K (⟨none, 0, 0⟩, (5 : Int), ()))
 (nw #[(.slice none 0 0)] ty_sl_sl_bitword_Word fun b7 =>
 ldT .sl (⟨b1, 0, none⟩ : Addr) fun x8 =>
 callT Try.prog fn_crash_All #[(.slice x8.a x8.len x8.cap)] .val fun r9 =>
 RangeVC Try.prog (.cons .sl .nil) r9 (fun x10 wrap11 next12 jump13 =>
 wrap11 <|
 ldT .sl (⟨b7, 0, none⟩ : Addr) fun x14 =>
 ldT .sl (⟨b0, 0, none⟩ : Addr) fun x15 =>
 ldT .sl (⟨b1, 0, none⟩ : Addr) fun x16 =>
 callT Try.prog fn_crash_apply #[(.slice x15.a x15.len x15.cap), (.slice x16.a x16.len x16.cap), (.slice x10.1.a x10.1.len x10.1.cap)] .sl fun r17 =>
 ck (⟨b7, 0, none⟩ : Addr) (.slice x14.a x14.len x14.cap) <|
 nw #[(.slice r17.a r17.len r17.cap)] ty_sl_bitword_Word fun b18 =>
 apd ty_sl_bitword_Word 1 24 #[(.slice none 0 0)] ⟨x14.a, x14.len, x14.cap⟩ ⟨(some (⟨b18, 0, none⟩ : Addr)), 1, 1⟩ fun s19 =>
 st1 (⟨b7, 0, none⟩ : Addr) (.slice s19.a s19.len s19.cap) <|
 next12)
 (ldT .sl (⟨b7, 0, none⟩ : Addr) fun x20 =>
 callT Try.prog fn_slices_SortFunc_bitword_Word_bitword_Word #[(.slice x20.a x20.len x20.cap), (.func (.func fn_crash_Results_1) #[] #[])] (.tup .nil) fun r21 =>
 ldT .sl (⟨b7, 0, none⟩ : Addr) fun x22 =>
 callT Try.prog fn_slices_CompactFunc_bitword_Word_bitword_Word #[(.slice x22.a x22.len x22.cap), (.func (.func fn_slices_Equal_bitword_Word_bitword_Word) #[] #[])] .sl fun r23 =>
 mkd h0.size <|
 K (⟨r23.a, r23.len, r23.cap⟩, (0 : Int), ()))
 (mkd h0.size <|
 K (⟨none, 0, 0⟩, (0 : Int), ()))
 []
 [])))) h0
set_option maxRecDepth 100000 in
theorem E_crash_Results (a0 : Sl) (a1 : Sl) (K : (Sl × (Int × Unit)) → HP) (h : Heap) : fnVC Try.prog [(1000000, .nil), (29, (.cons .sl .nil))] 41 Try.f19 [(.slice a0.a a0.len a0.cap), (.slice a1.a a1.len a1.cap)] (.tup (.cons .sl (.cons (.int .i64) .nil))) K h = F_crash_Results a0 a1 K h := by kernel_rfl
set_option maxRecDepth 100000 in
theorem S_crash_Results{h : Heap} {a0 : Sl} {a1 : Sl} (K : (Sl × (Int × Unit)) → HP) (hF : F_crash_Results a0 a1 K h) : CallsH Try.prog fn_crash_Results #[(.slice a0.a a0.len a0.cap), (.slice a1.a a1.len a1.cap)] h fun v h' => ∃ x : (Sl × (Int × Unit)), v = Ty.enc (.tup (.cons .sl (.cons (.int .i64) .nil))) x ∧ K x h' :=
  callsH_of_fn (P := Try.prog) (fn := Try.f19) (τ := (.tup (.cons .sl (.cons (.int .i64) .nil)))) follows Try.func19 (by kernel_rfl) (by kernel_rfl) Try.call19 (Eq.mpr (E_crash_Results a0 a1 K h) hF)

def F_crash_Apply (a0 : Sl) (a1 : Sl) (a2 : Sl) (K : (Sl × (Int × Unit)) → HP) : HP :=
 callT Try.prog fn_crash_check #[(.slice a1.a a1.len a1.cap), (.slice a2.a a2.len a2.cap)] (.int .i64) fun r0 =>
 brB (r0 != (0 : Int))
 (K (⟨none, 0, 0⟩, r0, ()))
 (callT Try.prog fn_crash_fits #[(.slice a0.a a0.len a0.cap), (.slice a1.a a1.len a1.cap)] .bool fun r1 =>
 brB (!r1)
 (K (⟨none, 0, 0⟩, (2 : Int), ()))
 (callT Try.prog fn_crash_apply #[(.slice a0.a a0.len a0.cap), (.slice a1.a a1.len a1.cap), (.slice a2.a a2.len a2.cap)] .sl fun r2 =>
 K (⟨r2.a, r2.len, r2.cap⟩, (0 : Int), ())))
set_option maxRecDepth 100000 in
theorem E_crash_Apply (a0 : Sl) (a1 : Sl) (a2 : Sl) (K : (Sl × (Int × Unit)) → HP) (h : Heap) : fnVC Try.prog [(1000000, .nil)] 23 Try.f20 [(.slice a0.a a0.len a0.cap), (.slice a1.a a1.len a1.cap), (.slice a2.a a2.len a2.cap)] (.tup (.cons .sl (.cons (.int .i64) .nil))) K h = F_crash_Apply a0 a1 a2 K h := by kernel_rfl
set_option maxRecDepth 100000 in
theorem S_crash_Apply{h : Heap} {a0 : Sl} {a1 : Sl} {a2 : Sl} (K : (Sl × (Int × Unit)) → HP) (hF : F_crash_Apply a0 a1 a2 K h) : CallsH Try.prog fn_crash_Apply #[(.slice a0.a a0.len a0.cap), (.slice a1.a a1.len a1.cap), (.slice a2.a a2.len a2.cap)] h fun v h' => ∃ x : (Sl × (Int × Unit)), v = Ty.enc (.tup (.cons .sl (.cons (.int .i64) .nil))) x ∧ K x h' :=
  callsH_of_fn (P := Try.prog) (fn := Try.f20) (τ := (.tup (.cons .sl (.cons (.int .i64) .nil)))) follows Try.func20 (by kernel_rfl) (by kernel_rfl) Try.call20 (Eq.mpr (E_crash_Apply a0 a1 a2 K h) hF)

def F_slices_Equal_bitword_Word_bitword_Word (a0 : Sl) (a1 : Sl) (K : Bool → HP) : HP :=
 brB ((a0.len : Int) != (a1.len : Int))
 (K false)
 (lfp (σ := (Int × (Bool × Unit))) (fun X0 s1 => /-   -/
 brB (decide (s1.1 < (a0.len : Int)))
 (sx a0.a a0.len s1.1 1 fun p2 =>
 ldT (.int .u32) p2 fun x3 =>
 sx a1.a a1.len s1.1 1 fun p4 =>
 ldT (.int .u32) p4 fun x5 =>
 brB (x3 != x5)
 (K false)
 (X0 ((IntKind.wrap .i64 (s1.1 + (1 : Int))), s1.2.1, ())))
 (K true))
 ((0 : Int), false, ()))
set_option maxRecDepth 100000 in
theorem E_slices_Equal_bitword_Word_bitword_Word (a0 : Sl) (a1 : Sl) (K : Bool → HP) (h : Heap) : fnVC Try.prog [(1000000, .nil)] 26 Try.f24 [(.slice a0.a a0.len a0.cap), (.slice a1.a a1.len a1.cap)] .bool K h = F_slices_Equal_bitword_Word_bitword_Word a0 a1 K h := by kernel_rfl
set_option maxRecDepth 100000 in
theorem S_slices_Equal_bitword_Word_bitword_Word{h : Heap} {a0 : Sl} {a1 : Sl} (K : Bool → HP) (hF : F_slices_Equal_bitword_Word_bitword_Word a0 a1 K h) : CallsH Try.prog fn_slices_Equal_bitword_Word_bitword_Word #[(.slice a0.a a0.len a0.cap), (.slice a1.a a1.len a1.cap)] h fun v h' => ∃ x : Bool, v = Ty.enc .bool x ∧ K x h' :=
  callsH_of_fn (P := Try.prog) (fn := Try.f24) (τ := .bool) follows Try.func24 (by kernel_rfl) (by kernel_rfl) Try.call24 (Eq.mpr (E_slices_Equal_bitword_Word_bitword_Word a0 a1 K h) hF)

def F_slices_Clone_bitword_Word_bitword_Word (a0 : Sl) (K : Sl → HP) : HP :=
 brB (Option.isNone a0.a)
 (K ⟨none, 0, 0⟩)
 (nw #[] ty_bitword_Word fun b0 =>
 apd ty_bitword_Word 1 4 #[(.int .u32 (0 : Int))] ⟨(some (⟨b0, 0, none⟩ : Addr)), 0, 0⟩ ⟨a0.a, a0.len, a0.cap⟩ fun s1 =>
 K ⟨s1.a, s1.len, s1.cap⟩)
set_option maxRecDepth 100000 in
theorem E_slices_Clone_bitword_Word_bitword_Word (a0 : Sl) (K : Sl → HP) (h : Heap) : fnVC Try.prog [(1000000, .nil)] 8 Try.f25 [(.slice a0.a a0.len a0.cap)] .sl K h = F_slices_Clone_bitword_Word_bitword_Word a0 K h := by kernel_rfl
set_option maxRecDepth 100000 in
theorem S_slices_Clone_bitword_Word_bitword_Word{h : Heap} {a0 : Sl} (K : Sl → HP) (hF : F_slices_Clone_bitword_Word_bitword_Word a0 K h) : CallsH Try.prog fn_slices_Clone_bitword_Word_bitword_Word #[(.slice a0.a a0.len a0.cap)] h fun v h' => ∃ x : Sl, v = Ty.enc .sl x ∧ K x h' :=
  callsH_of_fn (P := Try.prog) (fn := Try.f25) (τ := .sl) follows Try.func25 (by kernel_rfl) (by kernel_rfl) Try.call25 (Eq.mpr (E_slices_Clone_bitword_Word_bitword_Word a0 K h) hF)

def F_slices_ContainsFunc_disk_Entry_disk_Entry (a0 : Sl) (a1 : Value) (K : Bool → HP) : HP :=
 callT Try.prog fn_slices_IndexFunc_disk_Entry_disk_Entry #[(.slice a0.a a0.len a0.cap), a1] (.int .i64) fun r0 =>
 K (decide (r0 ≥ (0 : Int)))
set_option maxRecDepth 100000 in
theorem E_slices_ContainsFunc_disk_Entry_disk_Entry (a0 : Sl) (a1 : Value) (K : Bool → HP) (h : Heap) : fnVC Try.prog [(1000000, .nil)] 9 Try.f27 [(.slice a0.a a0.len a0.cap), a1] .bool K h = F_slices_ContainsFunc_disk_Entry_disk_Entry a0 a1 K h := by kernel_rfl
set_option maxRecDepth 100000 in
theorem S_slices_ContainsFunc_disk_Entry_disk_Entry{h : Heap} {a0 : Sl} {a1 : Value} (K : Bool → HP) (hF : F_slices_ContainsFunc_disk_Entry_disk_Entry a0 a1 K h) : CallsH Try.prog fn_slices_ContainsFunc_disk_Entry_disk_Entry #[(.slice a0.a a0.len a0.cap), a1] h fun v h' => ∃ x : Bool, v = Ty.enc .bool x ∧ K x h' :=
  callsH_of_fn (P := Try.prog) (fn := Try.f27) (τ := .bool) follows Try.func27 (by kernel_rfl) (by kernel_rfl) Try.call27 (Eq.mpr (E_slices_ContainsFunc_disk_Entry_disk_Entry a0 a1 K h) hF)

end Go.Proofs.S
