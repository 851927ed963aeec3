/- The functions of the seat, each as a predicate over its values, printed by a program of ours, and that each is its text's. -/
import Derived.Test.YtchedlkmgahicaaSxH
import Derived.KernelRfl
import Derived.Test.YtchedlkmgahicaaProg
import Derived.Test.YtchedlkmgahicaaCrF0
set_option linter.unusedVariables false
namespace Go.Proofs.S
open Go Go.Sx Go.Proofs
/-- salvor/salvorlaw35.CrashAll -/
def F_salvorlaw35_CrashAll (a0 : Sl) (K : Bool → HP) : HP := fun h0 => (
 nw #[(.bool false)] ty_bool fun b0 =>
 callT Try.prog fn_salvorlaw35_awake #[] .bool fun r1 =>
 brB (!r1)
 (st1 (⟨b0, 0, none⟩ : Addr) (.bool false) <|
 mkd h0.size <|
 ldT .bool (⟨b0, 0, none⟩ : Addr) fun x2 =>
 K x2)
 (callT Try.prog fn_salvorlaw35_Made #[(.slice a0.a a0.len a0.cap), (.int .i64 (9 : Int))] .sl fun r3 =>
 nw #[(.slice none 0 0)] ty_sl_disk_Entry fun b4 =>
 st1 (⟨b4, 0, none⟩ : Addr) (.slice r3.a r3.len r3.cap) <|
 ldT .sl (⟨b4, 0, none⟩ : Addr) fun x5 =>
 callT Try.prog fn_crash_Count #[(.slice x5.a x5.len x5.cap)] (.tup (.cons (.int .i64) (.cons (.int .i64) .nil))) fun r6 =>
 brB (r6.2.1 != (0 : Int))
 (st1 (⟨b0, 0, none⟩ : Addr) (.bool false) <|
 mkd h0.size <|
 ldT .bool (⟨b0, 0, none⟩ : Addr) fun x7 =>
 K x7)
 (nw #[Value.nilFunc] ty_func_sl_bool_int fun b8 =>
 st1 (⟨b8, 0, none⟩ : Addr) (.func (.func fn_salvorlaw35_CrashAll_1) #[] #[]) <|
 nw #[(.int .i64 (0 : Int))] ty_int fun b9 =>
 nw #[(.int .i64 (0 : Int))] ty_int fun b10 =>
 st1 (⟨b9, 0, none⟩ : Addr) (.int .i64 (-1 : Int)) <|
 st1 (⟨b10, 0, none⟩ : Addr) (.int .i64 (0 : Int)) <|
 ldT .sl (⟨b4, 0, none⟩ : Addr) fun x11 =>
 callT Try.prog fn_crash_All #[(.slice x11.a x11.len x11.cap)] .val fun r12 =>
 RangeVC Try.prog (.cons .sl .nil) r12 (fun x13 wrap14 next15 jump16 =>
 wrap14 <|
 ldT .sl (⟨b4, 0, none⟩ : Addr) fun x17 =>
 callT Try.prog fn_crash_Valid #[(.slice x17.a x17.len x17.cap), (.slice x13.1.a x13.1.len x13.1.cap)] (.tup (.cons .bool (.cons (.int .i64) .nil))) fun r18 =>
 ldT .val (⟨b8, 0, none⟩ : Addr) fun x19 =>
 callF Try.prog x19 #[(.slice x13.1.a x13.1.len x13.1.cap)] (.int .i64) fun r20 =>
 brB (r18.2.1 != (0 : Int))
 (st1 (⟨b0, 0, none⟩ : Addr) (.bool false) <|
 jump16 .ret)
 (brB (!r18.1)
 (st1 (⟨b0, 0, none⟩ : Addr) (.bool false) <|
 jump16 .ret)
 (ldT .sl (⟨b4, 0, none⟩ : Addr) fun x21 =>
 brB ((x13.1.len : Int) != (x21.len : Int))
 (st1 (⟨b0, 0, none⟩ : Addr) (.bool false) <|
 jump16 .ret)
 (ldT (.int .i64) (⟨b9, 0, none⟩ : Addr) fun x22 =>
 brB (decide (r20 ≤ x22))
 (st1 (⟨b0, 0, none⟩ : Addr) (.bool false) <|
 jump16 .ret)
 (ldT (.int .i64) (⟨b10, 0, none⟩ : Addr) fun x23 =>
 brB (x23 == (0 : Int))
 (brB (r20 != (0 : Int))
 (st1 (⟨b0, 0, none⟩ : Addr) (.bool false) <|
 jump16 .ret)
 (st1 (⟨b9, 0, none⟩ : Addr) (.int .i64 r20) <|
 ldT (.int .i64) (⟨b10, 0, none⟩ : Addr) fun x24 =>
 st1 (⟨b10, 0, none⟩ : Addr) (.int .i64 (IntKind.wrap .i64 (x24 + (1 : Int)))) <|
 lfp (σ := (Int × Unit)) (fun X25 s26 => /-  -/
 brB (decide (s26.1 < (x13.1.len : Int)))
 (sx x13.1.a x13.1.len s26.1 1 fun p27 =>
 st1 p27 (.bool false) <|
 X25 ((IntKind.wrap .i64 (s26.1 + (1 : Int))), ()))
 (next15))
 ((0 : Int), ())))
 (st1 (⟨b9, 0, none⟩ : Addr) (.int .i64 r20) <|
 ldT (.int .i64) (⟨b10, 0, none⟩ : Addr) fun x28 =>
 st1 (⟨b10, 0, none⟩ : Addr) (.int .i64 (IntKind.wrap .i64 (x28 + (1 : Int)))) <|
 lfp (σ := (Int × Unit)) (fun X29 s30 => /-  -/
 brB (decide (s30.1 < (x13.1.len : Int)))
 (sx x13.1.a x13.1.len s30.1 1 fun p31 =>
 st1 p31 (.bool false) <|
 X29 ((IntKind.wrap .i64 (s30.1 + (1 : Int))), ()))
 (next15))
 ((0 : Int), ())))))))
 (ldT (.int .i64) (⟨b10, 0, none⟩ : Addr) fun x32 =>
 brB (x32 == r6.1)
 (ldT (.int .i64) (⟨b9, 0, none⟩ : Addr) fun x33 =>
 ldT .sl (⟨b4, 0, none⟩ : Addr) fun x34 =>
 ge0 (x34.len : Int) <|
 st1 (⟨b0, 0, none⟩ : Addr) (.bool (x33 == (IntKind.wrap .i64 ((IntKind.wrap .i64 ((1 : Int) * 2 ^ (min ((x34.len : Int)).toNat 64))) - (1 : Int))))) <|
 mkd h0.size <|
 ldT .bool (⟨b0, 0, none⟩ : Addr) fun x35 =>
 K x35)
 (st1 (⟨b0, 0, none⟩ : Addr) (.bool false) <|
 mkd h0.size <|
 ldT .bool (⟨b0, 0, none⟩ : Addr) fun x36 =>
 K x36))
 (mkd h0.size <|
 ldT .bool (⟨b0, 0, none⟩ : Addr) fun x37 =>
 K x37)
 []
 []))) h0
set_option maxRecDepth 100000 in
theorem E_salvorlaw35_CrashAll (a0 : Sl) (K : Bool → HP) (h : Heap) : fnVC Try.prog [(1000000, .nil), (27, (.cons .sl .nil))] 86 Try.f3 [(.slice a0.a a0.len a0.cap)] .bool K h = F_salvorlaw35_CrashAll a0 K h := by kernel_rfl
set_option maxRecDepth 100000 in
theorem S_salvorlaw35_CrashAll{h : Heap} {a0 : Sl} (K : Bool → HP) (hF : F_salvorlaw35_CrashAll a0 K h) : CallsH Try.prog fn_salvorlaw35_CrashAll #[(.slice a0.a a0.len a0.cap)] h fun v h' => ∃ x : Bool, v = Ty.enc .bool x ∧ K x h' :=
  callsH_of_fn (P := Try.prog) (fn := Try.f3) (τ := .bool) follows Try.func3 (by kernel_rfl) (by kernel_rfl) Try.call3 (Eq.mpr (E_salvorlaw35_CrashAll a0 K h) hF)


/-- salvor/salvorlaw35.CrashSets -/
def F_salvorlaw35_CrashSets (a0 : Sl) (a1 : Sl) (a2 : Int) (K : Bool → HP) : HP :=
 callT Try.prog fn_salvorlaw35_sets #[(.slice a0.a a0.len a0.cap), (.slice a1.a a1.len a1.cap), (.int .i64 (IntKind.wrap .i64 a2))] .bool fun r0 =>
 brB r0
 (callT Try.prog fn_salvorlaw35_awake #[] .bool fun r1 =>
 K r1)
 (K false)
set_option maxRecDepth 100000 in
theorem E_salvorlaw35_CrashSets (a0 : Sl) (a1 : Sl) (a2 : Int) (K : Bool → HP) (h : Heap) : fnVC Try.prog [(1000000, .nil)] 15 Try.f4 [(.slice a0.a a0.len a0.cap), (.slice a1.a a1.len a1.cap), (.int .u8 a2)] .bool K h = F_salvorlaw35_CrashSets a0 a1 a2 K h := by kernel_rfl
set_option maxRecDepth 100000 in
theorem S_salvorlaw35_CrashSets{h : Heap} {a0 : Sl} {a1 : Sl} {a2 : Int} (K : Bool → HP) (hF : F_salvorlaw35_CrashSets a0 a1 a2 K h) : CallsH Try.prog fn_salvorlaw35_CrashSets #[(.slice a0.a a0.len a0.cap), (.slice a1.a a1.len a1.cap), (.int .u8 a2)] h fun v h' => ∃ x : Bool, v = Ty.enc .bool x ∧ K x h' :=
  callsH_of_fn (P := Try.prog) (fn := Try.f4) (τ := .bool) follows Try.func4 (by kernel_rfl) (by kernel_rfl) Try.call4 (Eq.mpr (E_salvorlaw35_CrashSets a0 a1 a2 K h) hF)


/-- salvor/salvorlaw35.CrashWrites -/
def F_salvorlaw35_CrashWrites (a0 : (Int × (Int × (Int × Unit)))) (a1 : Sl) (a2 : Int) (a3 : Sl) (a4 : Sl) (K : Bool → HP) : HP :=
 nw #[(.int .u8 a0.1), (.int .u8 a0.2.1), (.int .u8 a0.2.2.1)] ty__3_uint8 fun b0 =>
 callT Try.prog fn_salvorlaw35_awake #[] .bool fun r1 =>
 brB (!r1)
 (K false)
 (callT Try.prog fn_salvorlaw35_Made #[(.slice a1.a a1.len a1.cap), (.int .i64 (9 : Int))] .sl fun r2 =>
 ax (⟨b0, 0, none⟩ : Addr) 3 (0 : Int) 1 fun p3 =>
 ldT (.int .u8) p3 fun x4 =>
 ax (⟨b0, 0, none⟩ : Addr) 3 (1 : Int) 1 fun p5 =>
 ldT (.int .u8) p5 fun x6 =>
 ax (⟨b0, 0, none⟩ : Addr) 3 (2 : Int) 1 fun p7 =>
 ldT (.int .u8) p7 fun x8 =>
 nw #[(.int .u32 (IntKind.wrap .u32 (bAnd .u8 x4 (15 : Int)))), (.int .u32 (IntKind.wrap .u32 (bAnd .u8 x6 (15 : Int)))), (.int .u32 (IntKind.wrap .u32 (bAnd .u8 x8 (15 : Int))))] ty_bitword_Word fun b9 =>
 callT Try.prog fn_salvorlaw35_made #[(.slice r2.a r2.len r2.cap), (.int .u8 a2), (.slice a3.a a3.len a3.cap)] .sl fun r10 =>
 callT Try.prog fn_crash_Results #[(.slice (some (⟨b9, 0, none⟩ : Addr)) 3 3), (.slice r2.a r2.len r2.cap)] (.tup (.cons .sl (.cons (.int .i64) .nil))) fun r11 =>
 nw #[(.slice none 0 0)] ty_sl_sl_bitword_Word fun b12 =>
 st1 (⟨b12, 0, none⟩ : Addr) (.slice r11.1.a r11.1.len r11.1.cap) <|
 callT Try.prog fn_crash_Apply #[(.slice (some (⟨b9, 0, none⟩ : Addr)) 3 3), (.slice r2.a r2.len r2.cap), (.slice r10.a r10.len r10.cap)] (.tup (.cons .sl (.cons (.int .i64) .nil))) fun r13 =>
 brB ((IntKind.wrap .i64 (r11.2.1 + r13.2.1)) != (0 : Int))
 (K false)
 (brB ((r13.1.len : Int) != (3 : Int))
 (K false)
 (lfp (σ := (Int × (Int × Unit))) (fun X14 s15 => /-  epoch -/
 brB (decide (s15.1 < (r2.len : Int)))
 (sx r2.a r2.len s15.1 3 fun p16 =>
 ldA (.cons (.int .i64) (.cons (.int .u32) (.cons (.int .i64) .nil))) p16 fun x17 =>
 nw #[(.int .i64 (0 : Int)), (.int .u32 (0 : Int)), (.int .i64 (0 : Int))] ty_disk_Entry fun b18 =>
 st1 (⟨b18, 0, none⟩ : Addr) (.int .i64 x17.1) <|
 st1 ((⟨b18, 0, none⟩ : Addr).add 1) (.int .u32 x17.2.1) <|
 st1 ((⟨b18, 0, none⟩ : Addr).add 2) (.int .i64 x17.2.2.1) <|
 sx r10.a r10.len s15.1 1 fun p19 =>
 ldT .bool p19 fun x20 =>
 jn (σ := (Int × Unit)) (fun s22 => /- epoch -/
 X14 ((IntKind.wrap .i64 (s15.1 + (1 : Int))), s22.1, ()))
 (fun J21 =>
 brB x20
 (ldT (.int .i64) ((⟨b18, 0, none⟩ : Addr).add 2) fun x23 =>
 J21 (x23, ()))
 (J21 (s15.2.1, ()))))
 (lfp (σ := (Int × (Sl × (Sl × Unit)))) (fun X24 s25 => /-  last some -/
 brB (decide (s25.1 < (r2.len : Int)))
 (sx r2.a r2.len s25.1 3 fun p26 =>
 ldA (.cons (.int .i64) (.cons (.int .u32) (.cons (.int .i64) .nil))) p26 fun x27 =>
 nw #[(.int .i64 (0 : Int)), (.int .u32 (0 : Int)), (.int .i64 (0 : Int))] ty_disk_Entry fun b28 =>
 st1 (⟨b28, 0, none⟩ : Addr) (.int .i64 x27.1) <|
 st1 ((⟨b28, 0, none⟩ : Addr).add 1) (.int .u32 x27.2.1) <|
 st1 ((⟨b28, 0, none⟩ : Addr).add 2) (.int .i64 x27.2.2.1) <|
 sx r10.a r10.len s25.1 1 fun p29 =>
 ldT .bool p29 fun x30 =>
 brB x30
 (ldT (.int .i64) ((⟨b28, 0, none⟩ : Addr).add 2) fun x31 =>
 jn (σ := (Sl × (Sl × Unit))) (fun s33 => /- last some -/
 X24 ((IntKind.wrap .i64 (s25.1 + (1 : Int))), ⟨s33.1.a, s33.1.len, s33.1.cap⟩, ⟨s33.2.1.a, s33.2.1.len, s33.2.1.cap⟩, ()))
 (fun J32 =>
 brB (decide (x31 < s15.2.1))
 (ldA (.cons (.int .i64) (.cons (.int .u32) (.cons (.int .i64) .nil))) (⟨b28, 0, none⟩ : Addr) fun x34 =>
 nw #[(.int .i64 x34.1), (.int .u32 x34.2.1), (.int .i64 x34.2.2.1)] ty_disk_Entry fun b35 =>
 apd ty_disk_Entry 3 24 #[(.int .i64 (0 : Int)), (.int .u32 (0 : Int)), (.int .i64 (0 : Int))] ⟨s25.2.2.1.a, s25.2.2.1.len, s25.2.2.1.cap⟩ ⟨(some (⟨b35, 0, none⟩ : Addr)), 1, 1⟩ fun s36 =>
 J32 (⟨s25.2.1.a, s25.2.1.len, s25.2.1.cap⟩, ⟨s36.a, s36.len, s36.cap⟩, ()))
 (sx r10.a r10.len s25.1 1 fun p37 =>
 ldT .bool p37 fun x38 =>
 jn (σ := (Sl × Unit)) (fun s40 => /- last -/
 J32 (⟨s40.1.a, s40.1.len, s40.1.cap⟩, ⟨s25.2.2.1.a, s25.2.2.1.len, s25.2.2.1.cap⟩, ()))
 (fun J39 =>
 brB x38
 (ldA (.cons (.int .i64) (.cons (.int .u32) (.cons (.int .i64) .nil))) (⟨b28, 0, none⟩ : Addr) fun x41 =>
 nw #[(.int .i64 x41.1), (.int .u32 x41.2.1), (.int .i64 x41.2.2.1)] ty_disk_Entry fun b42 =>
 apd ty_disk_Entry 3 24 #[(.int .i64 (0 : Int)), (.int .u32 (0 : Int)), (.int .i64 (0 : Int))] ⟨s25.2.1.a, s25.2.1.len, s25.2.1.cap⟩ ⟨(some (⟨b42, 0, none⟩ : Addr)), 1, 1⟩ fun s43 =>
 J39 (⟨s43.a, s43.len, s43.cap⟩, ()))
 (J39 (⟨s25.2.1.a, s25.2.1.len, s25.2.1.cap⟩, ()))))))
 (jn (σ := (Sl × (Sl × Unit))) (fun s45 => /- last some -/
 X24 ((IntKind.wrap .i64 (s25.1 + (1 : Int))), ⟨s45.1.a, s45.1.len, s45.1.cap⟩, ⟨s45.2.1.a, s45.2.1.len, s45.2.1.cap⟩, ()))
 (fun J44 =>
 sx r10.a r10.len s25.1 1 fun p46 =>
 ldT .bool p46 fun x47 =>
 jn (σ := (Sl × Unit)) (fun s49 => /- last -/
 J44 (⟨s49.1.a, s49.1.len, s49.1.cap⟩, ⟨s25.2.2.1.a, s25.2.2.1.len, s25.2.2.1.cap⟩, ()))
 (fun J48 =>
 brB x47
 (ldA (.cons (.int .i64) (.cons (.int .u32) (.cons (.int .i64) .nil))) (⟨b28, 0, none⟩ : Addr) fun x50 =>
 nw #[(.int .i64 x50.1), (.int .u32 x50.2.1), (.int .i64 x50.2.2.1)] ty_disk_Entry fun b51 =>
 apd ty_disk_Entry 3 24 #[(.int .i64 (0 : Int)), (.int .u32 (0 : Int)), (.int .i64 (0 : Int))] ⟨s25.2.1.a, s25.2.1.len, s25.2.1.cap⟩ ⟨(some (⟨b51, 0, none⟩ : Addr)), 1, 1⟩ fun s52 =>
 J48 (⟨s52.a, s52.len, s52.cap⟩, ()))
 (J48 (⟨s25.2.1.a, s25.2.1.len, s25.2.1.cap⟩, ()))))))
 (lfp (σ := (Int × Unit)) (fun X53 s54 => /-  -/
 brB (decide (s54.1 < (s25.2.1.len : Int)))
 (jn (σ := Unit) (fun s56 => /- -/
 X53 ((IntKind.wrap .i64 (s54.1 + (1 : Int))), ()))
 (fun J55 =>
 brB (decide (s54.1 < (a4.len : Int)))
 (sx a4.a a4.len s54.1 1 fun p57 =>
 ldT (.int .u8) p57 fun x58 =>
 nz (s25.2.1.len : Int) <|
 sx s25.2.1.a s25.2.1.len (Int.tmod (IntKind.wrap .i64 x58) (s25.2.1.len : Int)) 3 fun p59 =>
 ldA (.cons (.int .i64) (.cons (.int .u32) (.cons (.int .i64) .nil))) p59 fun x60 =>
 sx s25.2.1.a s25.2.1.len s54.1 3 fun p61 =>
 ldA (.cons (.int .i64) (.cons (.int .u32) (.cons (.int .i64) .nil))) p61 fun x62 =>
 sx s25.2.1.a s25.2.1.len s54.1 3 fun p63 =>
 st1 p63 (.int .i64 x60.1) <|
 st1 (p63.add 1) (.int .u32 x60.2.1) <|
 st1 (p63.add 2) (.int .i64 x60.2.2.1) <|
 sx s25.2.1.a s25.2.1.len (Int.tmod (IntKind.wrap .i64 x58) (s25.2.1.len : Int)) 3 fun p64 =>
 st1 p64 (.int .i64 x62.1) <|
 st1 (p64.add 1) (.int .u32 x62.2.1) <|
 st1 (p64.add 2) (.int .i64 x62.2.2.1) <|
 J55 (()))
 (J55 (()))))
 (callT Try.prog fn_slices_Clone_bitword_Word_bitword_Word #[(.slice (some (⟨b9, 0, none⟩ : Addr)) 3 3)] .sl fun r65 =>
 apd ty_disk_Entry 3 24 #[(.int .i64 (0 : Int)), (.int .u32 (0 : Int)), (.int .i64 (0 : Int))] ⟨s25.2.2.1.a, s25.2.2.1.len, s25.2.2.1.cap⟩ ⟨s25.2.1.a, s25.2.1.len, s25.2.1.cap⟩ fun s66 =>
 lfp (σ := (Int × Unit)) (fun X67 s68 => /-  -/
 brB (decide (s68.1 < (s66.len : Int)))
 (sx s66.a s66.len s68.1 3 fun p69 =>
 ldA (.cons (.int .i64) (.cons (.int .u32) (.cons (.int .i64) .nil))) p69 fun x70 =>
 nw #[(.int .i64 (0 : Int)), (.int .u32 (0 : Int)), (.int .i64 (0 : Int))] ty_disk_Entry fun b71 =>
 st1 (⟨b71, 0, none⟩ : Addr) (.int .i64 x70.1) <|
 st1 ((⟨b71, 0, none⟩ : Addr).add 1) (.int .u32 x70.2.1) <|
 st1 ((⟨b71, 0, none⟩ : Addr).add 2) (.int .i64 x70.2.2.1) <|
 ldT (.int .i64) (⟨b71, 0, none⟩ : Addr) fun x72 =>
 ldT (.int .u32) ((⟨b71, 0, none⟩ : Addr).add 1) fun x73 =>
 sx r65.a r65.len x72 1 fun p74 =>
 st1 p74 (.int .u32 x73) <|
 X67 ((IntKind.wrap .i64 (s68.1 + (1 : Int))), ()))
 (callF Try.prog (.func (.func fn_salvorlaw35_CrashWrites_1) #[] #[(.pointer (some (⟨b12, 0, none⟩ : Addr)))]) #[(.slice r13.1.a r13.1.len r13.1.cap)] .bool fun r75 =>
 brB (!r75)
 (K false)
 (callF Try.prog (.func (.func fn_salvorlaw35_CrashWrites_1) #[] #[(.pointer (some (⟨b12, 0, none⟩ : Addr)))]) #[(.slice r65.a r65.len r65.cap)] .bool fun r76 =>
 brB (!r76)
 (K false)
 (callF Try.prog (.func (.func fn_salvorlaw35_CrashWrites_1) #[] #[(.pointer (some (⟨b12, 0, none⟩ : Addr)))]) #[(.slice (some (⟨b9, 0, none⟩ : Addr)) 3 3)] .bool fun r77 =>
 brB (!r77)
 (K false)
 (ldT .sl (⟨b12, 0, none⟩ : Addr) fun x78 =>
 lfp (σ := (Int × (Bool × Unit))) (fun X79 s80 => /-   -/
 brB (decide (s80.1 < (x78.len : Int)))
 (sx x78.a x78.len s80.1 1 fun p81 =>
 ldT .sl p81 fun x82 =>
 brB ((x82.len : Int) != (3 : Int))
 (K false)
 (brB (decide (s80.1 > (0 : Int)))
 (ldT .sl (⟨b12, 0, none⟩ : Addr) fun x83 =>
 sx x83.a x83.len (IntKind.wrap .i64 (s80.1 - (1 : Int))) 1 fun p84 =>
 ldT .sl p84 fun x85 =>
 callT Try.prog fn_slices_Compare_bitword_Word_bitword_Word #[(.slice x85.a x85.len x85.cap), (.slice x82.a x82.len x82.cap)] (.int .i64) fun r86 =>
 brB (decide (r86 ≥ (0 : Int)))
 (K false)
 (lfp (σ := (Int × (Bool × Unit))) (fun X87 s88 => /-   -/
 brB (decide (s88.1 < (x82.len : Int)))
 (sx x82.a x82.len s88.1 1 fun p89 =>
 ldT (.int .u32) p89 fun x90 =>
 nw #[(.int .i64 (0 : Int))] ty_int fun b91 =>
 nw #[(.int .u32 (0 : Int))] ty_bitword_Word fun b92 =>
 st1 (⟨b91, 0, none⟩ : Addr) (.int .i64 s88.1) <|
 st1 (⟨b92, 0, none⟩ : Addr) (.int .u32 x90) <|
 ldT (.int .u32) (⟨b92, 0, none⟩ : Addr) fun x93 =>
 ldT (.int .i64) (⟨b91, 0, none⟩ : Addr) fun x94 =>
 sx (some (⟨b9, 0, none⟩ : Addr)) 3 x94 1 fun p95 =>
 ldT (.int .u32) p95 fun x96 =>
 brB (x93 != x96)
 (callT Try.prog fn_slices_ContainsFunc_disk_Entry_disk_Entry #[(.slice r2.a r2.len r2.cap), (.func (.func fn_salvorlaw35_CrashWrites_2) #[] #[(.pointer (some (⟨b91, 0, none⟩ : Addr))), (.pointer (some (⟨b92, 0, none⟩ : Addr)))])] .bool fun r97 =>
 brB (!r97)
 (K false)
 (X87 ((IntKind.wrap .i64 (s88.1 + (1 : Int))), s88.2.1, ())))
 (X87 ((IntKind.wrap .i64 (s88.1 + (1 : Int))), s88.2.1, ())))
 (X79 ((IntKind.wrap .i64 (s80.1 + (1 : Int))), s88.2.1, ())))
 ((0 : Int), s80.2.1, ())))
 (lfp (σ := (Int × (Bool × Unit))) (fun X98 s99 => /-   -/
 brB (decide (s99.1 < (x82.len : Int)))
 (sx x82.a x82.len s99.1 1 fun p100 =>
 ldT (.int .u32) p100 fun x101 =>
 nw #[(.int .i64 (0 : Int))] ty_int fun b102 =>
 nw #[(.int .u32 (0 : Int))] ty_bitword_Word fun b103 =>
 st1 (⟨b102, 0, none⟩ : Addr) (.int .i64 s99.1) <|
 st1 (⟨b103, 0, none⟩ : Addr) (.int .u32 x101) <|
 ldT (.int .u32) (⟨b103, 0, none⟩ : Addr) fun x104 =>
 ldT (.int .i64) (⟨b102, 0, none⟩ : Addr) fun x105 =>
 sx (some (⟨b9, 0, none⟩ : Addr)) 3 x105 1 fun p106 =>
 ldT (.int .u32) p106 fun x107 =>
 brB (x104 != x107)
 (callT Try.prog fn_slices_ContainsFunc_disk_Entry_disk_Entry #[(.slice r2.a r2.len r2.cap), (.func (.func fn_salvorlaw35_CrashWrites_2) #[] #[(.pointer (some (⟨b102, 0, none⟩ : Addr))), (.pointer (some (⟨b103, 0, none⟩ : Addr)))])] .bool fun r108 =>
 brB (!r108)
 (K false)
 (X98 ((IntKind.wrap .i64 (s99.1 + (1 : Int))), s99.2.1, ())))
 (X98 ((IntKind.wrap .i64 (s99.1 + (1 : Int))), s99.2.1, ())))
 (X79 ((IntKind.wrap .i64 (s80.1 + (1 : Int))), s99.2.1, ())))
 ((0 : Int), s80.2.1, ()))))
 (K true))
 ((0 : Int), false, ()))))))
 ((0 : Int), ())))
 ((0 : Int), ())))
 ((0 : Int), ⟨none, 0, 0⟩, ⟨none, 0, 0⟩, ())))
 ((0 : Int), (-1 : Int), ()))))
set_option maxRecDepth 100000 in
theorem E_salvorlaw35_CrashWrites (a0 : (Int × (Int × (Int × Unit)))) (a1 : Sl) (a2 : Int) (a3 : Sl) (a4 : Sl) (K : Bool → HP) (h : Heap) : fnVC Try.prog [(1000000, .nil)] 233 Try.f5 [(.agg #[(.int .u8 a0.1), (.int .u8 a0.2.1), (.int .u8 a0.2.2.1)]), (.slice a1.a a1.len a1.cap), (.int .u8 a2), (.slice a3.a a3.len a3.cap), (.slice a4.a a4.len a4.cap)] .bool K h = F_salvorlaw35_CrashWrites a0 a1 a2 a3 a4 K h := by kernel_rfl
set_option maxRecDepth 100000 in
theorem S_salvorlaw35_CrashWrites{h : Heap} {a0 : (Int × (Int × (Int × Unit)))} {a1 : Sl} {a2 : Int} {a3 : Sl} {a4 : Sl} (K : Bool → HP) (hF : F_salvorlaw35_CrashWrites a0 a1 a2 a3 a4 K h) : CallsH Try.prog fn_salvorlaw35_CrashWrites #[(.agg #[(.int .u8 a0.1), (.int .u8 a0.2.1), (.int .u8 a0.2.2.1)]), (.slice a1.a a1.len a1.cap), (.int .u8 a2), (.slice a3.a a3.len a3.cap), (.slice a4.a a4.len a4.cap)] h fun v h' => ∃ x : Bool, v = Ty.enc .bool x ∧ K x h' :=
  callsH_of_fn (P := Try.prog) (fn := Try.f5) (τ := .bool) follows Try.func5 (by kernel_rfl) (by kernel_rfl) Try.call5 (Eq.mpr (E_salvorlaw35_CrashWrites a0 a1 a2 a3 a4 K h) hF)


/-- salvor/salvorlaw35.CrashTells -/
def F_salvorlaw35_CrashTells (a0 : Sl) (a1 : Sl) (a2 : Sl) (K : Bool → HP) : HP :=
 callT Try.prog fn_salvorlaw35_tells #[(.slice a0.a a0.len a0.cap), (.slice a1.a a1.len a1.cap), (.slice a2.a a2.len a2.cap)] .bool fun r0 =>
 brB r0
 (callT Try.prog fn_salvorlaw35_awake #[] .bool fun r1 =>
 K r1)
 (K false)
set_option maxRecDepth 100000 in
theorem E_salvorlaw35_CrashTells (a0 : Sl) (a1 : Sl) (a2 : Sl) (K : Bool → HP) (h : Heap) : fnVC Try.prog [(1000000, .nil)] 14 Try.f7 [(.slice a0.a a0.len a0.cap), (.slice a1.a a1.len a1.cap), (.slice a2.a a2.len a2.cap)] .bool K h = F_salvorlaw35_CrashTells a0 a1 a2 K h := by kernel_rfl
set_option maxRecDepth 100000 in
theorem S_salvorlaw35_CrashTells{h : Heap} {a0 : Sl} {a1 : Sl} {a2 : Sl} (K : Bool → HP) (hF : F_salvorlaw35_CrashTells a0 a1 a2 K h) : CallsH Try.prog fn_salvorlaw35_CrashTells #[(.slice a0.a a0.len a0.cap), (.slice a1.a a1.len a1.cap), (.slice a2.a a2.len a2.cap)] h fun v h' => ∃ x : Bool, v = Ty.enc .bool x ∧ K x h' :=
  callsH_of_fn (P := Try.prog) (fn := Try.f7) (τ := .bool) follows Try.func7 (by kernel_rfl) (by kernel_rfl) Try.call7 (Eq.mpr (E_salvorlaw35_CrashTells a0 a1 a2 K h) hF)


/-- salvor/salvorlaw35.CrashSmall -/
def F_salvorlaw35_CrashSmall (K : Bool → HP) : HP :=
 lfp (σ := (Int × (Bool × Unit))) (fun X0 s1 => /-   -/
 brB (decide (s1.1 < (5 : Int)))
 (ge0 (IntKind.wrap .i64 ((2 : Int) * s1.1)) <|
 lfp (σ := (Int × (Bool × Unit))) (fun X2 s3 => /-   -/
 brB (decide (s3.1 < (IntKind.wrap .i64 ((1 : Int) * 2 ^ (min ((IntKind.wrap .i64 ((2 : Int) * s1.1))).toNat 64)))))
 (lfp (σ := (Int × (Int × (Int × (Sl × Unit))))) (fun X4 s5 => /-  c epoch l -/
 brB (decide (s5.1 < s1.1))
 (ge0 (1 : Int) <|
 nw #[(.int .i64 (bAnd .i64 s5.2.1 (1 : Int))), (.int .u32 (IntKind.wrap .u32 (IntKind.wrap .i64 (s5.1 + (1 : Int))))), (.int .i64 (IntKind.wrap .i64 (s5.2.2.1 + (bAnd .i64 (Int.fdiv s5.2.1 (2 ^ (min ((1 : Int)).toNat 64))) (1 : Int)))))] ty_disk_Entry fun b6 =>
 apd ty_disk_Entry 3 24 #[(.int .i64 (0 : Int)), (.int .u32 (0 : Int)), (.int .i64 (0 : Int))] ⟨s5.2.2.2.1.a, s5.2.2.2.1.len, s5.2.2.2.1.cap⟩ ⟨(some (⟨b6, 0, none⟩ : Addr)), 1, 1⟩ fun s7 =>
 ge0 (2 : Int) <|
 X4 ((IntKind.wrap .i64 (s5.1 + (1 : Int))), (Int.fdiv s5.2.1 (2 ^ (min ((2 : Int)).toNat 64))), (IntKind.wrap .i64 (s5.2.2.1 + (bAnd .i64 (Int.fdiv s5.2.1 (2 ^ (min ((1 : Int)).toNat 64))) (1 : Int)))), ⟨s7.a, s7.len, s7.cap⟩, ()))
 (nw #[(.int .u32 (8 : Int)), (.int .u32 (9 : Int))] ty_uint32 fun b8 =>
 nz (7 : Int) <|
 callT Try.prog fn_salvorlaw35_sets #[(.slice (some (⟨b8, 0, none⟩ : Addr)) 2 2), (.slice s5.2.2.2.1.a s5.2.2.2.1.len s5.2.2.2.1.cap), (.int .i64 (Int.tmod s3.1 (7 : Int)))] .bool fun r9 =>
 brB (!r9)
 (K false)
 (ge0 s1.1 <|
 lfp (σ := (Int × (Bool × Unit))) (fun X10 s11 => /-   -/
 brB (decide (s11.1 < (IntKind.wrap .i64 ((1 : Int) * 2 ^ (min (s1.1).toNat 64)))))
 (mks ty_bool 1 1 #[(.bool false)] s1.1 s1.1 fun s12 =>
 lfp (σ := (Int × Unit)) (fun X13 s14 => /-  -/
 brB (decide (s14.1 < (s12.len : Int)))
 (ge0 s14.1 <|
 sx s12.a s12.len s14.1 1 fun p15 =>
 st1 p15 (.bool ((bAnd .i64 (Int.fdiv s11.1 (2 ^ (min (s14.1).toNat 64))) (1 : Int)) == (1 : Int))) <|
 X13 ((IntKind.wrap .i64 (s14.1 + (1 : Int))), ()))
 (nw #[(.int .u32 (8 : Int)), (.int .u32 (9 : Int))] ty_uint32 fun b16 =>
 callT Try.prog fn_salvorlaw35_tells #[(.slice (some (⟨b16, 0, none⟩ : Addr)) 2 2), (.slice s5.2.2.2.1.a s5.2.2.2.1.len s5.2.2.2.1.cap), (.slice s12.a s12.len s12.cap)] .bool fun r17 =>
 brB (!r17)
 (K false)
 (X10 ((IntKind.wrap .i64 (s11.1 + (1 : Int))), s11.2.1, ()))))
 ((0 : Int), ()))
 (X2 ((IntKind.wrap .i64 (s3.1 + (1 : Int))), s11.2.1, ())))
 ((0 : Int), s3.2.1, ()))))
 ((0 : Int), s3.1, (0 : Int), ⟨none, 0, 0⟩, ()))
 (X0 ((IntKind.wrap .i64 (s1.1 + (1 : Int))), s3.2.1, ())))
 ((0 : Int), s1.2.1, ()))
 (lfp (σ := (Int × (Bool × Unit))) (fun X18 s19 => /-   -/
 brB (decide (s19.1 < (41 : Int)))
 (lfp (σ := (Int × (Sl × (Sl × Unit)))) (fun X20 s21 => /-  many one -/
 brB (decide (s21.1 < s19.1))
 (nw #[(.int .i64 (0 : Int)), (.int .u32 (0 : Int)), (.int .i64 (7 : Int))] ty_disk_Entry fun b22 =>
 apd ty_disk_Entry 3 24 #[(.int .i64 (0 : Int)), (.int .u32 (0 : Int)), (.int .i64 (0 : Int))] ⟨s21.2.2.1.a, s21.2.2.1.len, s21.2.2.1.cap⟩ ⟨(some (⟨b22, 0, none⟩ : Addr)), 1, 1⟩ fun s23 =>
 nz (2 : Int) <|
 nw #[(.int .i64 (0 : Int)), (.int .u32 (0 : Int)), (.int .i64 (IntKind.wrap .i64 ((IntKind.wrap .i64 (Int.tdiv s21.1 (2 : Int))) * (3 : Int))))] ty_disk_Entry fun b24 =>
 apd ty_disk_Entry 3 24 #[(.int .i64 (0 : Int)), (.int .u32 (0 : Int)), (.int .i64 (0 : Int))] ⟨s21.2.1.a, s21.2.1.len, s21.2.1.cap⟩ ⟨(some (⟨b24, 0, none⟩ : Addr)), 1, 1⟩ fun s25 =>
 X20 ((IntKind.wrap .i64 (s21.1 + (1 : Int))), ⟨s25.a, s25.len, s25.cap⟩, ⟨s23.a, s23.len, s23.cap⟩, ()))
 (callT Try.prog fn_crash_Count #[(.slice s21.2.2.1.a s21.2.2.1.len s21.2.2.1.cap)] (.tup (.cons (.int .i64) (.cons (.int .i64) .nil))) fun r26 =>
 callT Try.prog fn_crash_Count #[(.slice s21.2.1.a s21.2.1.len s21.2.1.cap)] (.tup (.cons (.int .i64) (.cons (.int .i64) .nil))) fun r27 =>
 nw #[(.int .u32 (0 : Int))] ty_bitword_Word fun b28 =>
 callT Try.prog fn_crash_Results #[(.slice (some (⟨b28, 0, none⟩ : Addr)) 1 1), (.slice s21.2.2.1.a s21.2.2.1.len s21.2.2.1.cap)] (.tup (.cons .sl (.cons (.int .i64) .nil))) fun r29 =>
 brB ((IntKind.wrap .i64 (r26.2.1 + r27.2.1)) != (0 : Int))
 (K false)
 (callT Try.prog fn_salvorlaw35_Theirs #[(.slice s21.2.2.1.a s21.2.2.1.len s21.2.2.1.cap)] .sl fun r30 =>
 callT Try.prog fn_salvorref35_Count #[(.slice r30.a r30.len r30.cap)] (.int .i64) fun r31 =>
 brB (r26.1 != r31)
 (K false)
 (callT Try.prog fn_salvorlaw35_Theirs #[(.slice s21.2.1.a s21.2.1.len s21.2.1.cap)] .sl fun r32 =>
 callT Try.prog fn_salvorref35_Count #[(.slice r32.a r32.len r32.cap)] (.int .i64) fun r33 =>
 brB (r27.1 != r33)
 (K false)
 (brB (!((r29.2.1 == (5 : Int)) == (decide (s19.1 > (12 : Int)))))
 (K false)
 (X18 ((IntKind.wrap .i64 (s19.1 + (1 : Int))), s19.2.1, ())))))))
 ((0 : Int), ⟨none, 0, 0⟩, ⟨none, 0, 0⟩, ()))
 (nw #[(.int .i64 (-1 : Int)), (.int .u32 (0 : Int)), (.int .i64 (0 : Int)), (.int .i64 (16 : Int)), (.int .u32 (0 : Int)), (.int .i64 (0 : Int)), (.int .i64 (15 : Int)), (.int .u32 (0 : Int)), (.int .i64 (0 : Int)), (.int .i64 (0 : Int)), (.int .u32 (0 : Int)), (.int .i64 (-1 : Int)), (.int .i64 (0 : Int)), (.int .u32 (0 : Int)), (.int .i64 (9223372036854775807 : Int)), (.int .i64 (2 : Int)), (.int .u32 (0 : Int)), (.int .i64 (0 : Int)), (.int .i64 (0 : Int)), (.int .u32 (4294967295 : Int)), (.int .i64 (0 : Int))] ty_disk_Entry fun b34 =>
 lfp (σ := (Int × (Bool × Unit))) (fun X35 s36 => /-   -/
 brB (decide (s36.1 < (7 : Int)))
 (sx (some (⟨b34, 0, none⟩ : Addr)) 7 s36.1 3 fun p37 =>
 ldA (.cons (.int .i64) (.cons (.int .u32) (.cons (.int .i64) .nil))) p37 fun x38 =>
 nw #[(.int .i64 (0 : Int)), (.int .u32 (0 : Int)), (.int .i64 (0 : Int))] ty_disk_Entry fun b39 =>
 st1 (⟨b39, 0, none⟩ : Addr) (.int .i64 x38.1) <|
 st1 ((⟨b39, 0, none⟩ : Addr).add 1) (.int .u32 x38.2.1) <|
 st1 ((⟨b39, 0, none⟩ : Addr).add 2) (.int .i64 x38.2.2.1) <|
 ldA (.cons (.int .i64) (.cons (.int .u32) (.cons (.int .i64) .nil))) (⟨b39, 0, none⟩ : Addr) fun x40 =>
 nw #[(.int .i64 x40.1), (.int .u32 x40.2.1), (.int .i64 x40.2.2.1)] ty_disk_Entry fun b41 =>
 ldA (.cons (.int .i64) (.cons (.int .u32) (.cons (.int .i64) .nil))) (⟨b39, 0, none⟩ : Addr) fun x42 =>
 nw #[(.int .i64 x42.1), (.int .u32 x42.2.1), (.int .i64 x42.2.2.1), (.int .i64 (0 : Int)), (.int .u32 (0 : Int)), (.int .i64 (3 : Int))] ty_disk_Entry fun b43 =>
 ldA (.cons (.int .i64) (.cons (.int .u32) (.cons (.int .i64) .nil))) (⟨b39, 0, none⟩ : Addr) fun x44 =>
 nw #[(.int .i64 (0 : Int)), (.int .u32 (0 : Int)), (.int .i64 (3 : Int)), (.int .i64 x44.1), (.int .u32 x44.2.1), (.int .i64 x44.2.2.1)] ty_disk_Entry fun b45 =>
 nw #[(.slice (some (⟨b41, 0, none⟩ : Addr)) 1 1), (.slice (some (⟨b43, 0, none⟩ : Addr)) 2 2), (.slice (some (⟨b45, 0, none⟩ : Addr)) 2 2)] ty_sl_disk_Entry fun b46 =>
 lfp (σ := (Int × (Bool × Unit))) (fun X47 s48 => /-   -/
 brB (decide (s48.1 < (3 : Int)))
 (sx (some (⟨b46, 0, none⟩ : Addr)) 3 s48.1 1 fun p49 =>
 ldT .sl p49 fun x50 =>
 nw #[(.int .u32 (1 : Int)), (.int .u32 (2 : Int))] ty_uint32 fun b51 =>
 mks ty_bool 1 1 #[(.bool false)] (x50.len : Int) (x50.len : Int) fun s52 =>
 callT Try.prog fn_salvorlaw35_tells #[(.slice (some (⟨b51, 0, none⟩ : Addr)) 2 2), (.slice x50.a x50.len x50.cap), (.slice s52.a s52.len s52.cap)] .bool fun r53 =>
 brB (!r53)
 (K false)
 (nw #[(.int .u32 (1 : Int)), (.int .u32 (2 : Int))] ty_uint32 fun b54 =>
 nw #[(.bool true)] ty_bool fun b55 =>
 callT Try.prog fn_salvorlaw35_tells #[(.slice (some (⟨b54, 0, none⟩ : Addr)) 2 2), (.slice x50.a x50.len x50.cap), (.slice (some (⟨b55, 0, none⟩ : Addr)) 1 1)] .bool fun r56 =>
 brB (!r56)
 (K false)
 (nw #[(.bool true), (.bool true)] ty_bool fun b57 =>
 callT Try.prog fn_salvorlaw35_tells #[(.slice none 0 0), (.slice x50.a x50.len x50.cap), (.slice (some (⟨b57, 0, none⟩ : Addr)) 2 2)] .bool fun r58 =>
 brB (!r58)
 (K false)
 (nw #[(.int .u32 (1 : Int)), (.int .u32 (2 : Int))] ty_uint32 fun b59 =>
 callT Try.prog fn_salvorlaw35_sets #[(.slice (some (⟨b59, 0, none⟩ : Addr)) 2 2), (.slice x50.a x50.len x50.cap), (.int .i64 (1 : Int))] .bool fun r60 =>
 brB (!r60)
 (K false)
 (callT Try.prog fn_salvorlaw35_sets #[(.slice none 0 0), (.slice x50.a x50.len x50.cap), (.int .i64 (9 : Int))] .bool fun r61 =>
 brB (!r61)
 (K false)
 (X47 ((IntKind.wrap .i64 (s48.1 + (1 : Int))), s48.2.1, ())))))))
 (X35 ((IntKind.wrap .i64 (s36.1 + (1 : Int))), s48.2.1, ())))
 ((0 : Int), s36.2.1, ()))
 (mks ty_disk_Entry 3 24 #[(.int .i64 (0 : Int)), (.int .u32 (0 : Int)), (.int .i64 (0 : Int))] (4097 : Int) (4097 : Int) fun s62 =>
 callT Try.prog fn_crash_Count #[(.slice s62.a s62.len s62.cap)] (.tup (.cons (.int .i64) (.cons (.int .i64) .nil))) fun r63 =>
 slL ⟨s62.a, s62.len, s62.cap⟩ (1 : Int) 3 fun s64 =>
 callT Try.prog fn_crash_Count #[(.slice s64.a s64.len s64.cap)] (.tup (.cons (.int .i64) (.cons (.int .i64) .nil))) fun r65 =>
 slL ⟨s62.a, s62.len, s62.cap⟩ (1 : Int) 3 fun s66 =>
 mks ty_bool 1 1 #[(.bool false)] (4096 : Int) (4096 : Int) fun s67 =>
 callT Try.prog fn_crash_Pairs #[(.slice s66.a s66.len s66.cap), (.slice s67.a s67.len s67.cap)] (.tup (.cons .bool (.cons (.int .i64) .nil))) fun r68 =>
 brB (r63.1 == (0 : Int))
 (brB (r63.2.1 == (350 : Int))
 (brB (r65.1 == (1073741824 : Int))
 (brB r68.1
 (brB ((IntKind.wrap .i64 (r65.2.1 + r68.2.1)) == (0 : Int))
 (callT Try.prog fn_crash_Right #[(.slice s62.a s62.len s62.cap)] .bool fun r69 =>
 brB (!r69)
 (slL ⟨s62.a, s62.len, s62.cap⟩ (1 : Int) 3 fun s70 =>
 callT Try.prog fn_crash_Right #[(.slice s70.a s70.len s70.cap)] .bool fun r71 =>
 brB r71
 (callT Try.prog fn_salvorlaw35_awake #[] .bool fun r72 =>
 K r72)
 (K false))
 (K false))
 (K false))
 (K false))
 (K false))
 (K false))
 (K false)))
 ((0 : Int), s19.2.1, ())))
 ((0 : Int), s1.2.1, ())))
 ((0 : Int), false, ())
set_option maxRecDepth 100000 in
theorem E_salvorlaw35_CrashSmall (K : Bool → HP) (h : Heap) : fnVC Try.prog [(1000000, .nil)] 270 Try.f8 [] .bool K h = F_salvorlaw35_CrashSmall K h := by kernel_rfl
set_option maxRecDepth 100000 in
theorem S_salvorlaw35_CrashSmall{h : Heap} (K : Bool → HP) (hF : F_salvorlaw35_CrashSmall K h) : CallsH Try.prog fn_salvorlaw35_CrashSmall #[] h fun v h' => ∃ x : Bool, v = Ty.enc .bool x ∧ K x h' :=
  callsH_of_fn (P := Try.prog) (fn := Try.f8) (τ := .bool) follows Try.func8 (by kernel_rfl) (by kernel_rfl) Try.call8 (Eq.mpr (E_salvorlaw35_CrashSmall K h) hF)


/-- salvor/salvorlaw35.CrashParts -/
def F_salvorlaw35_CrashParts (a0 : Sl) (a1 : Sl) (K : Bool → HP) : HP := fun h0 => (
 nw #[(.bool false)] ty_bool fun b0 =>
 callT Try.prog fn_salvorlaw35_awake #[] .bool fun r1 =>
 brB (!r1)
 (st1 (⟨b0, 0, none⟩ : Addr) (.bool false) <|
 mkd h0.size <|
 ldT .bool (⟨b0, 0, none⟩ : Addr) fun x2 =>
 K x2)
 (callT Try.prog fn_salvorlaw35_Made #[(.slice a0.a a0.len a0.cap), (.int .i64 (7 : Int))] .sl fun r3 =>
 callT Try.prog fn_salvorlaw35_Made #[(.slice a1.a a1.len a1.cap), (.int .i64 (7 : Int))] .sl fun r4 =>
 nw #[(.slice none 0 0)] ty_sl_disk_Entry fun b5 =>
 nw #[(.slice none 0 0)] ty_sl_disk_Entry fun b6 =>
 st1 (⟨b5, 0, none⟩ : Addr) (.slice r3.a r3.len r3.cap) <|
 st1 (⟨b6, 0, none⟩ : Addr) (.slice r4.a r4.len r4.cap) <|
 ldT .sl (⟨b5, 0, none⟩ : Addr) fun x7 =>
 jn (σ := (Int × Unit)) (fun s9 => /- epoch -/
 ldT .sl (⟨b5, 0, none⟩ : Addr) fun x10 =>
 callT Try.prog fn_slices_Clone_disk_Entry_disk_Entry #[(.slice x10.a x10.len x10.cap)] .sl fun r11 =>
 nw #[(.slice none 0 0)] ty_sl_disk_Entry fun b12 =>
 st1 (⟨b12, 0, none⟩ : Addr) (.slice r11.a r11.len r11.cap) <|
 ldT .sl (⟨b6, 0, none⟩ : Addr) fun x13 =>
 lfp (σ := (Int × Unit)) (fun X14 s15 => /-  -/
 brB (decide (s15.1 < (x13.len : Int)))
 (sx x13.a x13.len s15.1 3 fun p16 =>
 ldA (.cons (.int .i64) (.cons (.int .u32) (.cons (.int .i64) .nil))) p16 fun x17 =>
 nw #[(.int .i64 (0 : Int)), (.int .u32 (0 : Int)), (.int .i64 (0 : Int))] ty_disk_Entry fun b18 =>
 st1 (⟨b18, 0, none⟩ : Addr) (.int .i64 x17.1) <|
 st1 ((⟨b18, 0, none⟩ : Addr).add 1) (.int .u32 x17.2.1) <|
 st1 ((⟨b18, 0, none⟩ : Addr).add 2) (.int .i64 x17.2.2.1) <|
 ldT (.int .i64) ((⟨b18, 0, none⟩ : Addr).add 2) fun x19 =>
 st1 ((⟨b18, 0, none⟩ : Addr).add 2) (.int .i64 (IntKind.wrap .i64 (x19 + s9.1))) <|
 ldT .sl (⟨b12, 0, none⟩ : Addr) fun x20 =>
 ldA (.cons (.int .i64) (.cons (.int .u32) (.cons (.int .i64) .nil))) (⟨b18, 0, none⟩ : Addr) fun x21 =>
 nw #[(.int .i64 x21.1), (.int .u32 x21.2.1), (.int .i64 x21.2.2.1)] ty_disk_Entry fun b22 =>
 apd ty_disk_Entry 3 24 #[(.int .i64 (0 : Int)), (.int .u32 (0 : Int)), (.int .i64 (0 : Int))] ⟨x20.a, x20.len, x20.cap⟩ ⟨(some (⟨b22, 0, none⟩ : Addr)), 1, 1⟩ fun s23 =>
 st1 (⟨b12, 0, none⟩ : Addr) (.slice s23.a s23.len s23.cap) <|
 X14 ((IntKind.wrap .i64 (s15.1 + (1 : Int))), ()))
 (ldT .sl (⟨b5, 0, none⟩ : Addr) fun x24 =>
 callT Try.prog fn_crash_Count #[(.slice x24.a x24.len x24.cap)] (.tup (.cons (.int .i64) (.cons (.int .i64) .nil))) fun r25 =>
 ldT .sl (⟨b6, 0, none⟩ : Addr) fun x26 =>
 callT Try.prog fn_crash_Count #[(.slice x26.a x26.len x26.cap)] (.tup (.cons (.int .i64) (.cons (.int .i64) .nil))) fun r27 =>
 ldT .sl (⟨b12, 0, none⟩ : Addr) fun x28 =>
 callT Try.prog fn_crash_Count #[(.slice x28.a x28.len x28.cap)] (.tup (.cons (.int .i64) (.cons (.int .i64) .nil))) fun r29 =>
 brB ((IntKind.wrap .i64 ((IntKind.wrap .i64 (r25.2.1 + r27.2.1)) + r29.2.1)) != (0 : Int))
 (st1 (⟨b0, 0, none⟩ : Addr) (.bool false) <|
 mkd h0.size <|
 ldT .bool (⟨b0, 0, none⟩ : Addr) fun x30 =>
 K x30)
 (brB (r29.1 != (IntKind.wrap .i64 ((IntKind.wrap .i64 (r25.1 + r27.1)) - (1 : Int))))
 (st1 (⟨b0, 0, none⟩ : Addr) (.bool false) <|
 mkd h0.size <|
 ldT .bool (⟨b0, 0, none⟩ : Addr) fun x31 =>
 K x31)
 (nw #[(.int .i64 (0 : Int))] ty_int fun b32 =>
 st1 (⟨b32, 0, none⟩ : Addr) (.int .i64 (0 : Int)) <|
 ldT .sl (⟨b5, 0, none⟩ : Addr) fun x33 =>
 callT Try.prog fn_crash_All #[(.slice x33.a x33.len x33.cap)] .val fun r34 =>
 RangeVC Try.prog (.cons .sl .nil) r34 (fun x35 wrap36 next37 jump38 =>
 wrap36 <|
 ldT .sl (⟨b6, 0, none⟩ : Addr) fun x39 =>
 callT Try.prog fn_slices_Clone_bool_bool #[(.slice x35.1.a x35.1.len x35.1.cap)] .sl fun r40 =>
 ck (⟨b6, 0, none⟩ : Addr) (.slice x39.a x39.len x39.cap) <|
 apz ty_bool 1 1 #[(.bool false)] ⟨r40.a, r40.len, r40.cap⟩ (x39.len : Int) fun s41 =>
 ldT .sl (⟨b12, 0, none⟩ : Addr) fun x42 =>
 callT Try.prog fn_crash_Valid #[(.slice x42.a x42.len x42.cap), (.slice s41.a s41.len s41.cap)] (.tup (.cons .bool (.cons (.int .i64) .nil))) fun r43 =>
 brB (!r43.1)
 (st1 (⟨b0, 0, none⟩ : Addr) (.bool false) <|
 jump38 .ret)
 (brB (r43.2.1 != (0 : Int))
 (st1 (⟨b0, 0, none⟩ : Addr) (.bool false) <|
 jump38 .ret)
 (ldT (.int .i64) (⟨b32, 0, none⟩ : Addr) fun x44 =>
 brB (x44 == (128 : Int))
 (st1 (⟨b0, 0, none⟩ : Addr) (.bool false) <|
 jump38 .ret)
 (ldT (.int .i64) (⟨b32, 0, none⟩ : Addr) fun x45 =>
 st1 (⟨b32, 0, none⟩ : Addr) (.int .i64 (IntKind.wrap .i64 (x45 + (1 : Int)))) <|
 next37))))
 (st1 (⟨b32, 0, none⟩ : Addr) (.int .i64 (0 : Int)) <|
 ldT .sl (⟨b6, 0, none⟩ : Addr) fun x46 =>
 callT Try.prog fn_crash_All #[(.slice x46.a x46.len x46.cap)] .val fun r47 =>
 RangeVC Try.prog (.cons .sl .nil) r47 (fun x48 wrap49 next50 jump51 =>
 wrap49 <|
 ldT (.int .i64) (⟨b32, 0, none⟩ : Addr) fun x52 =>
 st1 (⟨b32, 0, none⟩ : Addr) (.int .i64 (IntKind.wrap .i64 (x52 + (1 : Int)))) <|
 ldT (.int .i64) (⟨b32, 0, none⟩ : Addr) fun x53 =>
 brB (decide (x53 > (128 : Int)))
 (st1 (⟨b0, 0, none⟩ : Addr) (.bool false) <|
 jump51 .ret)
 (nw #[(.bool true)] ty_bool fun b54 =>
 ldT .sl (⟨b5, 0, none⟩ : Addr) fun x55 =>
 callT Try.prog fn_slices_Repeat_bool_bool #[(.slice (some (⟨b54, 0, none⟩ : Addr)) 1 1), (.int .i64 (x55.len : Int))] .sl fun r56 =>
 apd ty_bool 1 1 #[(.bool false)] ⟨r56.a, r56.len, r56.cap⟩ ⟨x48.1.a, x48.1.len, x48.1.cap⟩ fun s57 =>
 ldT .sl (⟨b12, 0, none⟩ : Addr) fun x58 =>
 callT Try.prog fn_crash_Valid #[(.slice x58.a x58.len x58.cap), (.slice s57.a s57.len s57.cap)] (.tup (.cons .bool (.cons (.int .i64) .nil))) fun r59 =>
 ldT .sl (⟨b12, 0, none⟩ : Addr) fun x60 =>
 mks ty_bitword_Word 1 4 #[(.int .u32 (0 : Int))] (3 : Int) (3 : Int) fun s61 =>
 callT Try.prog fn_crash_Apply #[(.slice s61.a s61.len s61.cap), (.slice x60.a x60.len x60.cap), (.slice s57.a s57.len s57.cap)] (.tup (.cons .sl (.cons (.int .i64) .nil))) fun r62 =>
 ldT .sl (⟨b5, 0, none⟩ : Addr) fun x63 =>
 ldT .sl (⟨b5, 0, none⟩ : Addr) fun x64 =>
 cj
 (mks ty_bitword_Word 1 4 #[(.int .u32 (0 : Int))] (3 : Int) (3 : Int) fun s65 =>
 nw #[(.bool true)] ty_bool fun b66 =>
 callT Try.prog fn_slices_Repeat_bool_bool #[(.slice (some (⟨b66, 0, none⟩ : Addr)) 1 1), (.int .i64 (x64.len : Int))] .sl fun r67 =>
 ck (⟨b5, 0, none⟩ : Addr) (.slice x63.a x63.len x63.cap) <|
 callT Try.prog fn_crash_Apply #[(.slice s65.a s65.len s65.cap), (.slice x63.a x63.len x63.cap), (.slice r67.a r67.len r67.cap)] (.tup (.cons .sl (.cons (.int .i64) .nil))) fun r68 =>
 ldT .sl (⟨b6, 0, none⟩ : Addr) fun x69 =>
 callT Try.prog fn_crash_Apply #[(.slice r68.1.a r68.1.len r68.1.cap), (.slice x69.a x69.len x69.cap), (.slice x48.1.a x48.1.len x48.1.cap)] (.tup (.cons .sl (.cons (.int .i64) .nil))) fun r70 =>
 brB (!r59.1)
 (st1 (⟨b0, 0, none⟩ : Addr) (.bool false) <|
 jump51 .ret)
 (brB ((IntKind.wrap .i64 ((IntKind.wrap .i64 ((IntKind.wrap .i64 (r59.2.1 + r62.2.1)) + r68.2.1)) + r70.2.1)) != (0 : Int))
 (st1 (⟨b0, 0, none⟩ : Addr) (.bool false) <|
 jump51 .ret)
 (callT Try.prog fn_slices_Equal_bitword_Word_bitword_Word #[(.slice r62.1.a r62.1.len r62.1.cap), (.slice r70.1.a r70.1.len r70.1.cap)] .bool fun r71 =>
 brB (!r71)
 (st1 (⟨b0, 0, none⟩ : Addr) (.bool false) <|
 jump51 .ret)
 (next50))))
 (nw #[(.bool true)] ty_bool fun b72 =>
 cj
 (mks ty_bitword_Word 1 4 #[(.int .u32 (0 : Int))] (3 : Int) (3 : Int) fun s73 =>
 callT Try.prog fn_slices_Repeat_bool_bool #[(.slice (some (⟨b72, 0, none⟩ : Addr)) 1 1), (.int .i64 (x64.len : Int))] .sl fun r74 =>
 ck (⟨b5, 0, none⟩ : Addr) (.slice x63.a x63.len x63.cap) <|
 callT Try.prog fn_crash_Apply #[(.slice s73.a s73.len s73.cap), (.slice x63.a x63.len x63.cap), (.slice r74.a r74.len r74.cap)] (.tup (.cons .sl (.cons (.int .i64) .nil))) fun r75 =>
 ldT .sl (⟨b6, 0, none⟩ : Addr) fun x76 =>
 callT Try.prog fn_crash_Apply #[(.slice r75.1.a r75.1.len r75.1.cap), (.slice x76.a x76.len x76.cap), (.slice x48.1.a x48.1.len x48.1.cap)] (.tup (.cons .sl (.cons (.int .i64) .nil))) fun r77 =>
 brB (!r59.1)
 (st1 (⟨b0, 0, none⟩ : Addr) (.bool false) <|
 jump51 .ret)
 (brB ((IntKind.wrap .i64 ((IntKind.wrap .i64 ((IntKind.wrap .i64 (r59.2.1 + r62.2.1)) + r75.2.1)) + r77.2.1)) != (0 : Int))
 (st1 (⟨b0, 0, none⟩ : Addr) (.bool false) <|
 jump51 .ret)
 (callT Try.prog fn_slices_Equal_bitword_Word_bitword_Word #[(.slice r62.1.a r62.1.len r62.1.cap), (.slice r77.1.a r77.1.len r77.1.cap)] .bool fun r78 =>
 brB (!r78)
 (st1 (⟨b0, 0, none⟩ : Addr) (.bool false) <|
 jump51 .ret)
 (next50))))
 (callT Try.prog fn_slices_Repeat_bool_bool #[(.slice (some (⟨b72, 0, none⟩ : Addr)) 1 1), (.int .i64 (x64.len : Int))] .sl fun r79 =>
 ck (⟨b5, 0, none⟩ : Addr) (.slice x63.a x63.len x63.cap) <|
 mks ty_bitword_Word 1 4 #[(.int .u32 (0 : Int))] (3 : Int) (3 : Int) fun s80 =>
 callT Try.prog fn_crash_Apply #[(.slice s80.a s80.len s80.cap), (.slice x63.a x63.len x63.cap), (.slice r79.a r79.len r79.cap)] (.tup (.cons .sl (.cons (.int .i64) .nil))) fun r81 =>
 ldT .sl (⟨b6, 0, none⟩ : Addr) fun x82 =>
 callT Try.prog fn_crash_Apply #[(.slice r81.1.a r81.1.len r81.1.cap), (.slice x82.a x82.len x82.cap), (.slice x48.1.a x48.1.len x48.1.cap)] (.tup (.cons .sl (.cons (.int .i64) .nil))) fun r83 =>
 brB (!r59.1)
 (st1 (⟨b0, 0, none⟩ : Addr) (.bool false) <|
 jump51 .ret)
 (brB ((IntKind.wrap .i64 ((IntKind.wrap .i64 ((IntKind.wrap .i64 (r59.2.1 + r62.2.1)) + r81.2.1)) + r83.2.1)) != (0 : Int))
 (st1 (⟨b0, 0, none⟩ : Addr) (.bool false) <|
 jump51 .ret)
 (callT Try.prog fn_slices_Equal_bitword_Word_bitword_Word #[(.slice r62.1.a r62.1.len r62.1.cap), (.slice r83.1.a r83.1.len r83.1.cap)] .bool fun r84 =>
 brB (!r84)
 (st1 (⟨b0, 0, none⟩ : Addr) (.bool false) <|
 jump51 .ret)
 (next50)))))))
 (st1 (⟨b0, 0, none⟩ : Addr) (.bool true) <|
 mkd h0.size <|
 ldT .bool (⟨b0, 0, none⟩ : Addr) fun x85 =>
 K x85)
 (mkd h0.size <|
 ldT .bool (⟨b0, 0, none⟩ : Addr) fun x86 =>
 K x86)
 []
 [])
 (mkd h0.size <|
 ldT .bool (⟨b0, 0, none⟩ : Addr) fun x87 =>
 K x87)
 []
 []))))
 ((0 : Int), ()))
 (fun J8 =>
 brB (decide ((x7.len : Int) > (0 : Int)))
 (ldT .sl (⟨b5, 0, none⟩ : Addr) fun x88 =>
 ldT .sl (⟨b5, 0, none⟩ : Addr) fun x89 =>
 sx x88.a x88.len (IntKind.wrap .i64 ((x89.len : Int) - (1 : Int))) 3 fun p90 =>
 ldT (.int .i64) (p90.add 2) fun x91 =>
 J8 ((IntKind.wrap .i64 (x91 + (1 : Int))), ()))
 (J8 ((0 : Int), ()))))) h0
set_option maxRecDepth 100000 in
theorem E_salvorlaw35_CrashParts (a0 : Sl) (a1 : Sl) (K : Bool → HP) (h : Heap) : fnVC Try.prog [(1000000, .nil), (98, (.cons .sl .nil)), (124, (.cons .sl .nil))] 183 Try.f9 [(.slice a0.a a0.len a0.cap), (.slice a1.a a1.len a1.cap)] .bool K h = F_salvorlaw35_CrashParts a0 a1 K h := by kernel_rfl
set_option maxRecDepth 100000 in
theorem S_salvorlaw35_CrashParts{h : Heap} {a0 : Sl} {a1 : Sl} (K : Bool → HP) (hF : F_salvorlaw35_CrashParts a0 a1 K h) : CallsH Try.prog fn_salvorlaw35_CrashParts #[(.slice a0.a a0.len a0.cap), (.slice a1.a a1.len a1.cap)] h fun v h' => ∃ x : Bool, v = Ty.enc .bool x ∧ K x h' :=
  callsH_of_fn (P := Try.prog) (fn := Try.f9) (τ := .bool) follows Try.func9 (by kernel_rfl) (by kernel_rfl) Try.call9 (Eq.mpr (E_salvorlaw35_CrashParts a0 a1 K h) hF)


/-- salvor/salvorlaw35.CrashValid -/
def F_salvorlaw35_CrashValid (a0 : Sl) (a1 : Int) (a2 : Int) (a3 : Sl) (a4 : Sl) (K : Bool → HP) : HP :=
 callT Try.prog fn_salvorlaw35_awake #[] .bool fun r0 =>
 brB (!r0)
 (K false)
 (callT Try.prog fn_salvorlaw35_Made #[(.slice a0.a a0.len a0.cap), (.int .i64 (24 : Int))] .sl fun r1 =>
 callT Try.prog fn_salvorlaw35_made #[(.slice r1.a r1.len r1.cap), (.int .u8 a1), (.slice a3.a a3.len a3.cap)] .sl fun r2 =>
 callT Try.prog fn_salvorlaw35_made #[(.slice r1.a r1.len r1.cap), (.int .u8 a2), (.slice a4.a a4.len a4.cap)] .sl fun r3 =>
 callT Try.prog fn_salvorlaw35_picked #[(.slice a3.a a3.len a3.cap), (.int .i64 (r1.len : Int))] .sl fun r4 =>
 callT Try.prog fn_slices_Clone_bool_bool #[(.slice r2.a r2.len r2.cap)] .sl fun r5 =>
 callT Try.prog fn_slices_Clone_bool_bool #[(.slice r2.a r2.len r2.cap)] .sl fun r6 =>
 lfp (σ := (Int × Unit)) (fun X7 s8 => /-  -/
 brB (decide (s8.1 < (r2.len : Int)))
 (sx r2.a r2.len s8.1 1 fun p9 =>
 ldT .bool p9 fun x10 =>
 brB x10
 (sx r3.a r3.len s8.1 1 fun p11 =>
 ldT .bool p11 fun x12 =>
 sx r2.a r2.len s8.1 1 fun p13 =>
 ldT .bool p13 fun x14 =>
 brB x14
 (sx r5.a r5.len s8.1 1 fun p15 =>
 st1 p15 (.bool x12) <|
 sx r6.a r6.len s8.1 1 fun p16 =>
 st1 p16 (.bool true) <|
 X7 ((IntKind.wrap .i64 (s8.1 + (1 : Int))), ()))
 (sx r3.a r3.len s8.1 1 fun p17 =>
 ldT .bool p17 fun x18 =>
 sx r5.a r5.len s8.1 1 fun p19 =>
 st1 p19 (.bool x12) <|
 sx r6.a r6.len s8.1 1 fun p20 =>
 st1 p20 (.bool x18) <|
 X7 ((IntKind.wrap .i64 (s8.1 + (1 : Int))), ())))
 (sx r2.a r2.len s8.1 1 fun p21 =>
 ldT .bool p21 fun x22 =>
 brB x22
 (sx r5.a r5.len s8.1 1 fun p23 =>
 st1 p23 (.bool false) <|
 sx r6.a r6.len s8.1 1 fun p24 =>
 st1 p24 (.bool true) <|
 X7 ((IntKind.wrap .i64 (s8.1 + (1 : Int))), ()))
 (sx r3.a r3.len s8.1 1 fun p25 =>
 ldT .bool p25 fun x26 =>
 sx r5.a r5.len s8.1 1 fun p27 =>
 st1 p27 (.bool false) <|
 sx r6.a r6.len s8.1 1 fun p28 =>
 st1 p28 (.bool x26) <|
 X7 ((IntKind.wrap .i64 (s8.1 + (1 : Int))), ()))))
 (nw #[(.bool true)] ty_bool fun b29 =>
 callT Try.prog fn_slices_Repeat_bool_bool #[(.slice (some (⟨b29, 0, none⟩ : Addr)) 1 1), (.int .i64 (r1.len : Int))] .sl fun r30 =>
 mks ty_bool 1 1 #[(.bool false)] (r1.len : Int) (r1.len : Int) fun s31 =>
 nw #[(.slice r2.a r2.len r2.cap), (.slice r3.a r3.len r3.cap), (.slice r5.a r5.len r5.cap), (.slice r6.a r6.len r6.cap), (.slice r30.a r30.len r30.cap), (.slice s31.a s31.len s31.cap)] ty_sl_bool fun b32 =>
 lfp (σ := (Int × (Bool × Unit))) (fun X33 s34 => /-   -/
 brB (decide (s34.1 < (6 : Int)))
 (sx (some (⟨b32, 0, none⟩ : Addr)) 6 s34.1 1 fun p35 =>
 ldT .sl p35 fun x36 =>
 callT Try.prog fn_crash_Valid #[(.slice r1.a r1.len r1.cap), (.slice x36.a x36.len x36.cap)] (.tup (.cons .bool (.cons (.int .i64) .nil))) fun r37 =>
 brB (!r37.1)
 (K false)
 (brB (r37.2.1 != (0 : Int))
 (K false)
 (X33 ((IntKind.wrap .i64 (s34.1 + (1 : Int))), s34.2.1, ()))))
 (callT Try.prog fn_crash_Valid #[(.slice r1.a r1.len r1.cap), (.slice r4.a r4.len r4.cap)] (.tup (.cons .bool (.cons (.int .i64) .nil))) fun r38 =>
 callT Try.prog fn_crash_Pairs #[(.slice r1.a r1.len r1.cap), (.slice r4.a r4.len r4.cap)] (.tup (.cons .bool (.cons (.int .i64) .nil))) fun r39 =>
 callT Try.prog fn_crash_Drop #[(.slice r1.a r1.len r1.cap), (.slice r2.a r2.len r2.cap)] (.tup (.cons .sl (.cons (.int .i64) .nil))) fun r40 =>
 brB ((IntKind.wrap .i64 ((IntKind.wrap .i64 (r38.2.1 + r39.2.1)) + r40.2.1)) != (0 : Int))
 (K false)
 (brB (!(r38.1 == r39.1))
 (K false)
 (lfp (σ := (Int × (Int × (Bool × Unit)))) (fun X41 s42 => /-  n  -/
 brB (decide (s42.1 < (r2.len : Int)))
 (lfp (σ := (Int × (Bool × Unit))) (fun X43 s44 => /-  later -/
 brB (decide (s44.1 < (r2.len : Int)))
 (brB s44.2.1
 (X43 ((IntKind.wrap .i64 (s44.1 + (1 : Int))), true, ()))
 (sx r2.a r2.len s44.1 1 fun p45 =>
 ldT .bool p45 fun x46 =>
 brB x46
 (sx r1.a r1.len s44.1 3 fun p47 =>
 ldT (.int .i64) (p47.add 2) fun x48 =>
 sx r1.a r1.len s42.1 3 fun p49 =>
 ldT (.int .i64) (p49.add 2) fun x50 =>
 X43 ((IntKind.wrap .i64 (s44.1 + (1 : Int))), (decide (x48 > x50)), ()))
 (X43 ((IntKind.wrap .i64 (s44.1 + (1 : Int))), false, ()))))
 (callT Try.prog fn_slices_Clone_bool_bool #[(.slice r2.a r2.len r2.cap)] .sl fun r51 =>
 sx r51.a r51.len s42.1 1 fun p52 =>
 st1 p52 (.bool false) <|
 callT Try.prog fn_crash_Valid #[(.slice r1.a r1.len r1.cap), (.slice r51.a r51.len r51.cap)] (.tup (.cons .bool (.cons (.int .i64) .nil))) fun r53 =>
 brB (r53.2.1 != (0 : Int))
 (K false)
 (sx r2.a r2.len s42.1 1 fun p54 =>
 ldT .bool p54 fun x55 =>
 brB x55
 (brB (r53.1 == s44.2.1)
 (K false)
 (sx r2.a r2.len s42.1 1 fun p56 =>
 ldT .bool p56 fun x57 =>
 brB x57
 (jn (σ := (Int × (Bool × Unit))) (fun s59 => /- n  -/
 X41 ((IntKind.wrap .i64 (s42.1 + (1 : Int))), s59.1, s59.2.1, ()))
 (fun J58 =>
 brB r53.1
 (brB (decide (s42.2.1 ≥ (r40.1.len : Int)))
 (K false)
 (sx r40.1.a r40.1.len s42.2.1 1 fun p60 =>
 ldT .sl p60 fun x61 =>
 callT Try.prog fn_slices_Equal_bool_bool #[(.slice x61.a x61.len x61.cap), (.slice r51.a r51.len r51.cap)] .bool fun r62 =>
 brB (!r62)
 (K false)
 (J58 ((IntKind.wrap .i64 (s42.2.1 + (1 : Int))), s42.2.2.1, ()))))
 (J58 (s42.2.1, s42.2.2.1, ()))))
 (jn (σ := (Int × (Bool × Unit))) (fun s64 => /- n  -/
 X41 ((IntKind.wrap .i64 (s42.1 + (1 : Int))), s64.1, s64.2.1, ()))
 (fun J63 =>
 J63 (s42.2.1, s42.2.2.1, ())))))
 (sx r2.a r2.len s42.1 1 fun p65 =>
 ldT .bool p65 fun x66 =>
 brB x66
 (jn (σ := (Int × (Bool × Unit))) (fun s68 => /- n  -/
 X41 ((IntKind.wrap .i64 (s42.1 + (1 : Int))), s68.1, s68.2.1, ()))
 (fun J67 =>
 brB r53.1
 (brB (decide (s42.2.1 ≥ (r40.1.len : Int)))
 (K false)
 (sx r40.1.a r40.1.len s42.2.1 1 fun p69 =>
 ldT .sl p69 fun x70 =>
 callT Try.prog fn_slices_Equal_bool_bool #[(.slice x70.a x70.len x70.cap), (.slice r51.a r51.len r51.cap)] .bool fun r71 =>
 brB (!r71)
 (K false)
 (J67 ((IntKind.wrap .i64 (s42.2.1 + (1 : Int))), s42.2.2.1, ()))))
 (J67 (s42.2.1, s42.2.2.1, ()))))
 (jn (σ := (Int × (Bool × Unit))) (fun s73 => /- n  -/
 X41 ((IntKind.wrap .i64 (s42.1 + (1 : Int))), s73.1, s73.2.1, ()))
 (fun J72 =>
 J72 (s42.2.1, s42.2.2.1, ())))))))
 ((0 : Int), false, ()))
 (K (s42.2.1 == (r40.1.len : Int))))
 ((0 : Int), (0 : Int), s34.2.1, ())))))
 ((0 : Int), false, ())))
 ((0 : Int), ()))
set_option maxRecDepth 100000 in
theorem E_salvorlaw35_CrashValid (a0 : Sl) (a1 : Int) (a2 : Int) (a3 : Sl) (a4 : Sl) (K : Bool → HP) (h : Heap) : fnVC Try.prog [(1000000, .nil)] 230 Try.f10 [(.slice a0.a a0.len a0.cap), (.int .u8 a1), (.int .u8 a2), (.slice a3.a a3.len a3.cap), (.slice a4.a a4.len a4.cap)] .bool K h = F_salvorlaw35_CrashValid a0 a1 a2 a3 a4 K h := by kernel_rfl
set_option maxRecDepth 100000 in
theorem S_salvorlaw35_CrashValid{h : Heap} {a0 : Sl} {a1 : Int} {a2 : Int} {a3 : Sl} {a4 : Sl} (K : Bool → HP) (hF : F_salvorlaw35_CrashValid a0 a1 a2 a3 a4 K h) : CallsH Try.prog fn_salvorlaw35_CrashValid #[(.slice a0.a a0.len a0.cap), (.int .u8 a1), (.int .u8 a2), (.slice a3.a a3.len a3.cap), (.slice a4.a a4.len a4.cap)] h fun v h' => ∃ x : Bool, v = Ty.enc .bool x ∧ K x h' :=
  callsH_of_fn (P := Try.prog) (fn := Try.f10) (τ := .bool) follows Try.func10 (by kernel_rfl) (by kernel_rfl) Try.call10 (Eq.mpr (E_salvorlaw35_CrashValid a0 a1 a2 a3 a4 K h) hF)


/-- salvor/salvorlaw35.awake -/
def F_salvorlaw35_awake (K : Bool → HP) : HP :=
 nw #[(.int .i64 (0 : Int)), (.int .u32 (5 : Int)), (.int .i64 (0 : Int)), (.int .i64 (1 : Int)), (.int .u32 (6 : Int)), (.int .i64 (0 : Int)), (.int .i64 (0 : Int)), (.int .u32 (7 : Int)), (.int .i64 (1 : Int))] ty_disk_Entry fun b0 =>
 callT Try.prog fn_crash_Count #[(.slice (some (⟨b0, 0, none⟩ : Addr)) 3 3)] (.tup (.cons (.int .i64) (.cons (.int .i64) .nil))) fun r1 =>
 nw #[(.int .u32 (3 : Int)), (.int .u32 (3 : Int))] ty_bitword_Word fun b2 =>
 nw #[(.bool true), (.bool true), (.bool false)] ty_bool fun b3 =>
 callT Try.prog fn_crash_Apply #[(.slice (some (⟨b2, 0, none⟩ : Addr)) 2 2), (.slice (some (⟨b0, 0, none⟩ : Addr)) 3 3), (.slice (some (⟨b3, 0, none⟩ : Addr)) 3 3)] (.tup (.cons .sl (.cons (.int .i64) .nil))) fun r4 =>
 nw #[(.int .u32 (3 : Int)), (.int .u32 (3 : Int))] ty_bitword_Word fun b5 =>
 nw #[(.bool true), (.bool true), (.bool true)] ty_bool fun b6 =>
 callT Try.prog fn_crash_Apply #[(.slice (some (⟨b5, 0, none⟩ : Addr)) 2 2), (.slice (some (⟨b0, 0, none⟩ : Addr)) 3 3), (.slice (some (⟨b6, 0, none⟩ : Addr)) 3 3)] (.tup (.cons .sl (.cons (.int .i64) .nil))) fun r7 =>
 nw #[(.int .u32 (3 : Int)), (.int .u32 (3 : Int))] ty_bitword_Word fun b8 =>
 callT Try.prog fn_crash_Results #[(.slice (some (⟨b8, 0, none⟩ : Addr)) 2 2), (.slice (some (⟨b0, 0, none⟩ : Addr)) 3 3)] (.tup (.cons .sl (.cons (.int .i64) .nil))) fun r9 =>
 nw #[(.bool true), (.bool true), (.bool true)] ty_bool fun b10 =>
 callT Try.prog fn_crash_Drop #[(.slice (some (⟨b0, 0, none⟩ : Addr)) 3 3), (.slice (some (⟨b10, 0, none⟩ : Addr)) 3 3)] (.tup (.cons .sl (.cons (.int .i64) .nil))) fun r11 =>
 nw #[(.bool false), (.bool false), (.bool true)] ty_bool fun b12 =>
 callT Try.prog fn_crash_Valid #[(.slice (some (⟨b0, 0, none⟩ : Addr)) 3 3), (.slice (some (⟨b12, 0, none⟩ : Addr)) 3 3)] (.tup (.cons .bool (.cons (.int .i64) .nil))) fun r13 =>
 nw #[(.bool true), (.bool false), (.bool true)] ty_bool fun b14 =>
 callT Try.prog fn_crash_Valid #[(.slice (some (⟨b0, 0, none⟩ : Addr)) 3 3), (.slice (some (⟨b14, 0, none⟩ : Addr)) 3 3)] (.tup (.cons .bool (.cons (.int .i64) .nil))) fun r15 =>
 brB ((IntKind.wrap .i64 ((IntKind.wrap .i64 ((IntKind.wrap .i64 ((IntKind.wrap .i64 ((IntKind.wrap .i64 ((IntKind.wrap .i64 (r1.2.1 + r4.2.1)) + r7.2.1)) + r9.2.1)) + r11.2.1)) + r13.2.1)) + r15.2.1)) != (0 : Int))
 (K false)
 (brB (r1.1 != (5 : Int))
 (K false)
 (brB r13.1
 (K false)
 (brB r15.1
 (K false)
 (nw #[(.int .u32 (5 : Int)), (.int .u32 (6 : Int))] ty_bitword_Word fun b16 =>
 callT Try.prog fn_slices_Equal_bitword_Word_bitword_Word #[(.slice r4.1.a r4.1.len r4.1.cap), (.slice (some (⟨b16, 0, none⟩ : Addr)) 2 2)] .bool fun r17 =>
 brB (!r17)
 (K false)
 (nw #[(.int .u32 (7 : Int)), (.int .u32 (6 : Int))] ty_bitword_Word fun b18 =>
 callT Try.prog fn_slices_Equal_bitword_Word_bitword_Word #[(.slice r7.1.a r7.1.len r7.1.cap), (.slice (some (⟨b18, 0, none⟩ : Addr)) 2 2)] .bool fun r19 =>
 brB (!r19)
 (K false)
 (brB ((r9.1.len : Int) != (5 : Int))
 (K false)
 (brB ((r11.1.len : Int) != (1 : Int))
 (K false)
 (sx r11.1.a r11.1.len (0 : Int) 1 fun p20 =>
 ldT .sl p20 fun x21 =>
 nw #[(.bool true), (.bool true), (.bool false)] ty_bool fun b22 =>
 callT Try.prog fn_slices_Equal_bool_bool #[(.slice x21.a x21.len x21.cap), (.slice (some (⟨b22, 0, none⟩ : Addr)) 3 3)] .bool fun r23 =>
 brB (!r23)
 (K false)
 (nw #[(.int .u32 (3 : Int)), (.int .u32 (3 : Int))] ty_bitword_Word fun b24 =>
 nw #[(.int .u32 (3 : Int)), (.int .u32 (6 : Int))] ty_bitword_Word fun b25 =>
 nw #[(.int .u32 (5 : Int)), (.int .u32 (3 : Int))] ty_bitword_Word fun b26 =>
 nw #[(.int .u32 (5 : Int)), (.int .u32 (6 : Int))] ty_bitword_Word fun b27 =>
 nw #[(.int .u32 (7 : Int)), (.int .u32 (6 : Int))] ty_bitword_Word fun b28 =>
 nw #[(.slice (some (⟨b24, 0, none⟩ : Addr)) 2 2), (.slice (some (⟨b25, 0, none⟩ : Addr)) 2 2), (.slice (some (⟨b26, 0, none⟩ : Addr)) 2 2), (.slice (some (⟨b27, 0, none⟩ : Addr)) 2 2), (.slice (some (⟨b28, 0, none⟩ : Addr)) 2 2)] ty_sl_bitword_Word fun b29 =>
 lfp (σ := (Int × (Bool × Unit))) (fun X30 s31 => /-   -/
 brB (decide (s31.1 < (5 : Int)))
 (sx r9.1.a r9.1.len s31.1 1 fun p32 =>
 ldT .sl p32 fun x33 =>
 sx (some (⟨b29, 0, none⟩ : Addr)) 5 s31.1 1 fun p34 =>
 ldT .sl p34 fun x35 =>
 callT Try.prog fn_slices_Equal_bitword_Word_bitword_Word #[(.slice x33.a x33.len x33.cap), (.slice x35.a x35.len x35.cap)] .bool fun r36 =>
 brB (!r36)
 (K false)
 (X30 ((IntKind.wrap .i64 (s31.1 + (1 : Int))), s31.2.1, ())))
 (K true))
 ((0 : Int), false, ()))))))))))
set_option maxRecDepth 100000 in
theorem E_salvorlaw35_awake (K : Bool → HP) (h : Heap) : fnVC Try.prog [(1000000, .nil)] 141 Try.f11 [] .bool K h = F_salvorlaw35_awake K h := by kernel_rfl
set_option maxRecDepth 100000 in
theorem S_salvorlaw35_awake{h : Heap} (K : Bool → HP) (hF : F_salvorlaw35_awake K h) : CallsH Try.prog fn_salvorlaw35_awake #[] h fun v h' => ∃ x : Bool, v = Ty.enc .bool x ∧ K x h' :=
  callsH_of_fn (P := Try.prog) (fn := Try.f11) (τ := .bool) follows Try.func11 (by kernel_rfl) (by kernel_rfl) Try.call11 (Eq.mpr (E_salvorlaw35_awake K h) hF)


/-- salvor/salvorlaw35.Made -/
def F_salvorlaw35_Made (a0 : Sl) (a1 : Int) (K : Sl → HP) : HP :=
 slH ⟨a0.a, a0.len, a0.cap⟩ (if a1 < (a0.len : Int) then a1 else (a0.len : Int)) 1 fun s0 =>
 lfp (σ := (Int × (Int × (Sl × Unit)))) (fun X1 s2 => /-  epoch out -/
 brB (decide (s2.1 < (s0.len : Int)))
 (sx s0.a s0.len s2.1 1 fun p3 =>
 ldT (.int .u8) p3 fun x4 =>
 jn (σ := (Int × Unit)) (fun s6 => /- epoch -/
 nz (3 : Int) <|
 nz (3 : Int) <|
 nz (16 : Int) <|
 nw #[(.int .i64 (IntKind.wrap .i64 (Int.tmod x4 (3 : Int)))), (.int .u32 (IntKind.wrap .u32 (Int.tmod (IntKind.wrap .u8 (Int.tdiv x4 (3 : Int))) (16 : Int)))), (.int .i64 s6.1)] ty_disk_Entry fun b7 =>
 apd ty_disk_Entry 3 24 #[(.int .i64 (0 : Int)), (.int .u32 (0 : Int)), (.int .i64 (0 : Int))] ⟨s2.2.2.1.a, s2.2.2.1.len, s2.2.2.1.cap⟩ ⟨(some (⟨b7, 0, none⟩ : Addr)), 1, 1⟩ fun s8 =>
 X1 ((IntKind.wrap .i64 (s2.1 + (1 : Int))), s6.1, ⟨s8.a, s8.len, s8.cap⟩, ()))
 (fun J5 =>
 brB (decide (x4 ≥ (192 : Int)))
 (J5 ((IntKind.wrap .i64 (s2.2.1 + (1 : Int))), ()))
 (J5 (s2.2.1, ()))))
 (K ⟨s2.2.2.1.a, s2.2.2.1.len, s2.2.2.1.cap⟩))
 ((0 : Int), (0 : Int), ⟨none, 0, 0⟩, ())
set_option maxRecDepth 100000 in
theorem E_salvorlaw35_Made (a0 : Sl) (a1 : Int) (K : Sl → HP) (h : Heap) : fnVC Try.prog [(1000000, .nil)] 38 Try.f12 [(.slice a0.a a0.len a0.cap), (.int .i64 a1)] .sl K h = F_salvorlaw35_Made a0 a1 K h := by kernel_rfl
set_option maxRecDepth 100000 in
theorem S_salvorlaw35_Made{h : Heap} {a0 : Sl} {a1 : Int} (K : Sl → HP) (hF : F_salvorlaw35_Made a0 a1 K h) : CallsH Try.prog fn_salvorlaw35_Made #[(.slice a0.a a0.len a0.cap), (.int .i64 a1)] h fun v h' => ∃ x : Sl, v = Ty.enc .sl x ∧ K x h' :=
  callsH_of_fn (P := Try.prog) (fn := Try.f12) (τ := .sl) follows Try.func12 (by kernel_rfl) (by kernel_rfl) Try.call12 (Eq.mpr (E_salvorlaw35_Made a0 a1 K h) hF)


/-- salvor/crash.Count -/
def F_crash_Count (a0 : Sl) (K : (Int × (Int × Unit)) → HP) : HP :=
 callT Try.prog fn_crash_Right #[(.slice a0.a a0.len a0.cap)] .bool fun r0 =>
 brB (!r0)
 (K ((0 : Int), (350 : Int), ()))
 (callT Try.prog fn_crash_group #[(.slice a0.a a0.len a0.cap)] .val fun r1 =>
 lfp (σ := (Int × (Int × (Int × (Int × Unit))))) (fun X2 s3 => /- at n   -/
 brB (decide (s3.1 < (a0.len : Int)))
 (callF Try.prog r1 #[(.int .i64 s3.1)] (.int .i64) fun r4 =>
 brB (decide ((IntKind.wrap .i64 (r4 - s3.1)) > (30 : Int)))
 (K ((1073741824 : Int), (0 : Int), ()))
 (ge0 (IntKind.wrap .i64 (r4 - s3.1)) <|
 callF Try.prog r1 #[(.int .i64 s3.1)] (.int .i64) fun r5 =>
 X2 (r5, (if (1073741824 : Int) < (IntKind.wrap .i64 ((IntKind.wrap .i64 (s3.2.1 + (IntKind.wrap .i64 ((1 : Int) * 2 ^ (min ((IntKind.wrap .i64 (r4 - s3.1))).toNat 64))))) - (1 : Int))) then (1073741824 : Int) else (IntKind.wrap .i64 ((IntKind.wrap .i64 (s3.2.1 + (IntKind.wrap .i64 ((1 : Int) * 2 ^ (min ((IntKind.wrap .i64 (r4 - s3.1))).toNat 64))))) - (1 : Int)))), s3.2.2.1, s3.2.2.2.1, ())))
 (K (s3.2.1, (0 : Int), ())))
 ((0 : Int), (1 : Int), (0 : Int), (0 : Int), ()))
set_option maxRecDepth 100000 in
theorem E_crash_Count (a0 : Sl) (K : (Int × (Int × Unit)) → HP) (h : Heap) : fnVC Try.prog [(1000000, .nil)] 34 Try.f13 [(.slice a0.a a0.len a0.cap)] (.tup (.cons (.int .i64) (.cons (.int .i64) .nil))) K h = F_crash_Count a0 K h := by kernel_rfl
set_option maxRecDepth 100000 in
theorem S_crash_Count{h : Heap} {a0 : Sl} (K : (Int × (Int × Unit)) → HP) (hF : F_crash_Count a0 K h) : CallsH Try.prog fn_crash_Count #[(.slice a0.a a0.len a0.cap)] h fun v h' => ∃ x : (Int × (Int × Unit)), v = Ty.enc (.tup (.cons (.int .i64) (.cons (.int .i64) .nil))) x ∧ K x h' :=
  callsH_of_fn (P := Try.prog) (fn := Try.f13) (τ := (.tup (.cons (.int .i64) (.cons (.int .i64) .nil)))) follows Try.func13 (by kernel_rfl) (by kernel_rfl) Try.call13 (Eq.mpr (E_crash_Count a0 K h) hF)


/-- salvor/salvorlaw35.CrashAll$1 -/
def F_salvorlaw35_CrashAll_1 (a0 : Sl) (K : Int → HP) : HP :=
 lfp (σ := (Int × (Int × Unit))) (fun X0 s1 => /-  x -/
 brB (decide (s1.1 < (a0.len : Int)))
 (sx a0.a a0.len s1.1 1 fun p2 =>
 ldT .bool p2 fun x3 =>
 jn (σ := (Int × Unit)) (fun s5 => /- x -/
 X0 ((IntKind.wrap .i64 (s1.1 + (1 : Int))), s5.1, ()))
 (fun J4 =>
 brB x3
 (J4 ((IntKind.wrap .i64 ((IntKind.wrap .i64 (s1.2.1 * (2 : Int))) + (1 : Int))), ()))
 (J4 ((IntKind.wrap .i64 (s1.2.1 * (2 : Int))), ()))))
 (K s1.2.1))
 ((0 : Int), (0 : Int), ())
set_option maxRecDepth 100000 in
theorem E_salvorlaw35_CrashAll_1 (a0 : Sl) (K : Int → HP) (h : Heap) : fnVC Try.prog [(1000000, .nil)] 19 Try.f14 [(.slice a0.a a0.len a0.cap)] (.int .i64) K h = F_salvorlaw35_CrashAll_1 a0 K h := by kernel_rfl
set_option maxRecDepth 100000 in
theorem S_salvorlaw35_CrashAll_1{h : Heap} {a0 : Sl} (K : Int → HP) (hF : F_salvorlaw35_CrashAll_1 a0 K h) : CallsH Try.prog fn_salvorlaw35_CrashAll_1 #[(.slice a0.a a0.len a0.cap)] h fun v h' => ∃ x : Int, v = Ty.enc (.int .i64) x ∧ K x h' :=
  callsH_of_fn (P := Try.prog) (fn := Try.f14) (τ := (.int .i64)) follows Try.func14 (by kernel_rfl) (by kernel_rfl) Try.call14 (Eq.mpr (E_salvorlaw35_CrashAll_1 a0 K h) hF)


/-- salvor/crash.All -/
def F_crash_All (a0 : Sl) (K : Value → HP) : HP :=
 nw #[(.slice a0.a a0.len a0.cap)] ty_sl_disk_Entry fun b0 =>
 K (.func (.func fn_crash_All_1) #[] #[(.pointer (some (⟨b0, 0, none⟩ : Addr)))])
set_option maxRecDepth 100000 in
theorem E_crash_All (a0 : Sl) (K : Value → HP) (h : Heap) : fnVC Try.prog [(1000000, .nil)] 4 Try.f15 [(.slice a0.a a0.len a0.cap)] .val K h = F_crash_All a0 K h := by kernel_rfl
set_option maxRecDepth 100000 in
theorem S_crash_All{h : Heap} {a0 : Sl} (K : Value → HP) (hF : F_crash_All a0 K h) : CallsH Try.prog fn_crash_All #[(.slice a0.a a0.len a0.cap)] h fun v h' => ∃ x : Value, v = Ty.enc .val x ∧ K x h' :=
  callsH_of_fn (P := Try.prog) (fn := Try.f15) (τ := .val) follows Try.func15 (by kernel_rfl) (by kernel_rfl) Try.call15 (Eq.mpr (E_crash_All a0 K h) hF)


/-- salvor/crash.Valid -/
def F_crash_Valid (a0 : Sl) (a1 : Sl) (K : (Bool × (Int × Unit)) → HP) : HP :=
 callT Try.prog fn_crash_check #[(.slice a0.a a0.len a0.cap), (.slice a1.a a1.len a1.cap)] (.int .i64) fun r0 =>
 brB (r0 != (0 : Int))
 (K (false, r0, ()))
 (callT Try.prog fn_crash_valid #[(.slice a0.a a0.len a0.cap), (.slice a1.a a1.len a1.cap)] .bool fun r1 =>
 K (r1, (0 : Int), ()))
set_option maxRecDepth 100000 in
theorem E_crash_Valid (a0 : Sl) (a1 : Sl) (K : (Bool × (Int × Unit)) → HP) (h : Heap) : fnVC Try.prog [(1000000, .nil)] 16 Try.f16 [(.slice a0.a a0.len a0.cap), (.slice a1.a a1.len a1.cap)] (.tup (.cons .bool (.cons (.int .i64) .nil))) K h = F_crash_Valid a0 a1 K h := by kernel_rfl
set_option maxRecDepth 100000 in
theorem S_crash_Valid{h : Heap} {a0 : Sl} {a1 : Sl} (K : (Bool × (Int × Unit)) → HP) (hF : F_crash_Valid a0 a1 K h) : CallsH Try.prog fn_crash_Valid #[(.slice a0.a a0.len a0.cap), (.slice a1.a a1.len a1.cap)] h fun v h' => ∃ x : (Bool × (Int × Unit)), v = Ty.enc (.tup (.cons .bool (.cons (.int .i64) .nil))) x ∧ K x h' :=
  callsH_of_fn (P := Try.prog) (fn := Try.f16) (τ := (.tup (.cons .bool (.cons (.int .i64) .nil)))) follows Try.func16 (by kernel_rfl) (by kernel_rfl) Try.call16 (Eq.mpr (E_crash_Valid a0 a1 K h) hF)


/-- salvor/salvorlaw35.sets -/
def F_salvorlaw35_sets (a0 : Sl) (a1 : Sl) (a2 : Int) (K : Bool → HP) : HP := fun h0 => (
 nw #[(.int .i64 a2)] ty_int fun b0 =>
 nw #[(.bool false)] ty_bool fun b1 =>
 brB (decide ((a1.len : Int) > (10 : Int)))
 (st1 (⟨b1, 0, none⟩ : Addr) (.bool true) <|
 mkd h0.size <|
 ldT .bool (⟨b1, 0, none⟩ : Addr) fun x2 =>
 K x2)
 (brB (decide ((a0.len : Int) > (20 : Int)))
 (st1 (⟨b1, 0, none⟩ : Addr) (.bool true) <|
 mkd h0.size <|
 ldT .bool (⟨b1, 0, none⟩ : Addr) fun x3 =>
 K x3)
 (lfp (σ := (Int × (Sl × Unit))) (fun X4 s5 => /-  first -/
 brB (decide (s5.1 < (a0.len : Int)))
 (sx a0.a a0.len s5.1 1 fun p6 =>
 ldT (.int .u32) p6 fun x7 =>
 nw #[(.int .u32 x7)] ty_bitword_Word fun b8 =>
 apd ty_bitword_Word 1 4 #[(.int .u32 (0 : Int))] ⟨s5.2.1.a, s5.2.1.len, s5.2.1.cap⟩ ⟨(some (⟨b8, 0, none⟩ : Addr)), 1, 1⟩ fun s9 =>
 X4 ((IntKind.wrap .i64 (s5.1 + (1 : Int))), ⟨s9.a, s9.len, s9.cap⟩, ()))
 (callT Try.prog fn_salvorlaw35_Theirs #[(.slice a1.a a1.len a1.cap)] .sl fun r10 =>
 nw #[(.slice none 0 0)] ty_sl_sl_bool fun b11 =>
 callT Try.prog fn_salvorref35_Right #[(.slice r10.a r10.len r10.cap)] .bool fun r12 =>
 jn (σ := Unit) (fun s14 => /- -/
 nw #[(.slice none 0 0)] ty_sl_sl_bool fun b15 =>
 nw #[(.slice none 0 0)] ty_sl_sl_bool fun b16 =>
 callT Try.prog fn_crash_All #[(.slice a1.a a1.len a1.cap)] .val fun r17 =>
 RangeVC Try.prog (.cons .sl .nil) r17 (fun x18 wrap19 next20 jump21 =>
 wrap19 <|
 ldT .sl (⟨b15, 0, none⟩ : Addr) fun x22 =>
 nw #[(.slice x18.1.a x18.1.len x18.1.cap)] ty_sl_bool fun b23 =>
 apd ty_sl_bool 1 24 #[(.slice none 0 0)] ⟨x22.a, x22.len, x22.cap⟩ ⟨(some (⟨b23, 0, none⟩ : Addr)), 1, 1⟩ fun s24 =>
 st1 (⟨b15, 0, none⟩ : Addr) (.slice s24.a s24.len s24.cap) <|
 ldT .sl (⟨b15, 0, none⟩ : Addr) fun x25 =>
 ldT .sl (⟨b11, 0, none⟩ : Addr) fun x26 =>
 brB (decide ((x25.len : Int) > (x26.len : Int)))
 (st1 (⟨b1, 0, none⟩ : Addr) (.bool false) <|
 jump21 .ret)
 (next20))
 (callT Try.prog fn_crash_All #[(.slice a1.a a1.len a1.cap)] .val fun r27 =>
 jn (σ := Unit) (fun s29 => /- -/
 callT Try.prog fn_crash_Count #[(.slice a1.a a1.len a1.cap)] (.tup (.cons (.int .i64) (.cons (.int .i64) .nil))) fun r30 =>
 callT Try.prog fn_crash_Results #[(.slice s5.2.1.a s5.2.1.len s5.2.1.cap), (.slice a1.a a1.len a1.cap)] (.tup (.cons .sl (.cons (.int .i64) .nil))) fun r31 =>
 ldT .sl (⟨b15, 0, none⟩ : Addr) fun x32 =>
 ldT .sl (⟨b11, 0, none⟩ : Addr) fun x33 =>
 callT Try.prog fn_salvorlaw35_lists #[(.slice x32.a x32.len x32.cap), (.slice x33.a x33.len x33.cap)] .bool fun r34 =>
 brB (!r34)
 (st1 (⟨b1, 0, none⟩ : Addr) (.bool false) <|
 mkd h0.size <|
 ldT .bool (⟨b1, 0, none⟩ : Addr) fun x35 =>
 K x35)
 (ldT .sl (⟨b16, 0, none⟩ : Addr) fun x36 =>
 ldT .sl (⟨b11, 0, none⟩ : Addr) fun x37 =>
 ldT (.int .i64) (⟨b0, 0, none⟩ : Addr) fun x38 =>
 ldT .sl (⟨b11, 0, none⟩ : Addr) fun x39 =>
 slH ⟨x37.a, x37.len, x37.cap⟩ (if (x39.len : Int) < x38 then (x39.len : Int) else x38) 1 fun s40 =>
 callT Try.prog fn_salvorlaw35_lists #[(.slice x36.a x36.len x36.cap), (.slice s40.a s40.len s40.cap)] .bool fun r41 =>
 brB (!r41)
 (st1 (⟨b1, 0, none⟩ : Addr) (.bool false) <|
 mkd h0.size <|
 ldT .bool (⟨b1, 0, none⟩ : Addr) fun x42 =>
 K x42)
 (brB (!r12)
 (brB (r30.1 == (0 : Int))
 (brB (r30.2.1 == (350 : Int))
 (brB ((r31.1.len : Int) == (0 : Int))
 (st1 (⟨b1, 0, none⟩ : Addr) (.bool (r31.2.1 == (350 : Int))) <|
 mkd h0.size <|
 ldT .bool (⟨b1, 0, none⟩ : Addr) fun x43 =>
 K x43)
 (st1 (⟨b1, 0, none⟩ : Addr) (.bool false) <|
 mkd h0.size <|
 ldT .bool (⟨b1, 0, none⟩ : Addr) fun x44 =>
 K x44))
 (st1 (⟨b1, 0, none⟩ : Addr) (.bool false) <|
 mkd h0.size <|
 ldT .bool (⟨b1, 0, none⟩ : Addr) fun x45 =>
 K x45))
 (st1 (⟨b1, 0, none⟩ : Addr) (.bool false) <|
 mkd h0.size <|
 ldT .bool (⟨b1, 0, none⟩ : Addr) fun x46 =>
 K x46))
 (lfp (σ := (Int × Unit)) (fun X47 s48 => /-  -/
 brB (decide (s48.1 < (r10.len : Int)))
 (sx r10.a r10.len s48.1 3 fun p49 =>
 ldA (.cons (.int .i64) (.cons (.int .i64) (.cons (.int .i64) .nil))) p49 fun x50 =>
 nw #[(.int .i64 (0 : Int)), (.int .i64 (0 : Int)), (.int .i64 (0 : Int))] ty_salvorref35_Entry fun b51 =>
 st1 (⟨b51, 0, none⟩ : Addr) (.int .i64 x50.1) <|
 st1 ((⟨b51, 0, none⟩ : Addr).add 1) (.int .i64 x50.2.1) <|
 st1 ((⟨b51, 0, none⟩ : Addr).add 2) (.int .i64 x50.2.2.1) <|
 ldT (.int .i64) (⟨b51, 0, none⟩ : Addr) fun x52 =>
 brB (decide (x52 ≥ (a0.len : Int)))
 (ldT .sl (⟨b11, 0, none⟩ : Addr) fun x53 =>
 brB (r30.1 == (x53.len : Int))
 (brB (r30.2.1 == (0 : Int))
 (brB ((r31.1.len : Int) == (0 : Int))
 (st1 (⟨b1, 0, none⟩ : Addr) (.bool (r31.2.1 == (2 : Int))) <|
 mkd h0.size <|
 ldT .bool (⟨b1, 0, none⟩ : Addr) fun x54 =>
 K x54)
 (st1 (⟨b1, 0, none⟩ : Addr) (.bool false) <|
 mkd h0.size <|
 ldT .bool (⟨b1, 0, none⟩ : Addr) fun x55 =>
 K x55))
 (st1 (⟨b1, 0, none⟩ : Addr) (.bool false) <|
 mkd h0.size <|
 ldT .bool (⟨b1, 0, none⟩ : Addr) fun x56 =>
 K x56))
 (st1 (⟨b1, 0, none⟩ : Addr) (.bool false) <|
 mkd h0.size <|
 ldT .bool (⟨b1, 0, none⟩ : Addr) fun x57 =>
 K x57))
 (X47 ((IntKind.wrap .i64 (s48.1 + (1 : Int))), ())))
 (ldT .sl (⟨b11, 0, none⟩ : Addr) fun x58 =>
 brB (r30.1 == (x58.len : Int))
 (brB (r30.2.1 == (0 : Int))
 (brB (r31.2.1 == (0 : Int))
 (callT Try.prog fn_salvorlaw35_nums #[(.slice s5.2.1.a s5.2.1.len s5.2.1.cap)] .sl fun r59 =>
 callT Try.prog fn_salvorref35_Results #[(.slice r59.a r59.len r59.cap), (.slice r10.a r10.len r10.cap)] .sl fun r60 =>
 callT Try.prog fn_slices_EqualFunc_bitword_Word_int_bitword_Word_int #[(.slice r31.1.a r31.1.len r31.1.cap), (.slice r60.a r60.len r60.cap), (.func (.func fn_salvorlaw35_words) #[] #[])] .bool fun r61 =>
 st1 (⟨b1, 0, none⟩ : Addr) (.bool r61) <|
 mkd h0.size <|
 ldT .bool (⟨b1, 0, none⟩ : Addr) fun x62 =>
 K x62)
 (st1 (⟨b1, 0, none⟩ : Addr) (.bool false) <|
 mkd h0.size <|
 ldT .bool (⟨b1, 0, none⟩ : Addr) fun x63 =>
 K x63))
 (st1 (⟨b1, 0, none⟩ : Addr) (.bool false) <|
 mkd h0.size <|
 ldT .bool (⟨b1, 0, none⟩ : Addr) fun x64 =>
 K x64))
 (st1 (⟨b1, 0, none⟩ : Addr) (.bool false) <|
 mkd h0.size <|
 ldT .bool (⟨b1, 0, none⟩ : Addr) fun x65 =>
 K x65)))
 ((0 : Int), ())))))
 (fun J28 =>
 RangeVC Try.prog (.cons .sl .nil) r27 (fun x66 wrap67 next68 jump69 =>
 wrap67 <|
 ldT .sl (⟨b16, 0, none⟩ : Addr) fun x70 =>
 ldT (.int .i64) (⟨b0, 0, none⟩ : Addr) fun x71 =>
 brB ((x70.len : Int) == x71)
 (jump69 (.exit 4))
 (ldT .sl (⟨b16, 0, none⟩ : Addr) fun x72 =>
 ldT .sl (⟨b11, 0, none⟩ : Addr) fun x73 =>
 brB ((x72.len : Int) == (x73.len : Int))
 (jump69 (.exit 4))
 (ldT .sl (⟨b16, 0, none⟩ : Addr) fun x74 =>
 nw #[(.slice x66.1.a x66.1.len x66.1.cap)] ty_sl_bool fun b75 =>
 apd ty_sl_bool 1 24 #[(.slice none 0 0)] ⟨x74.a, x74.len, x74.cap⟩ ⟨(some (⟨b75, 0, none⟩ : Addr)), 1, 1⟩ fun s76 =>
 st1 (⟨b16, 0, none⟩ : Addr) (.slice s76.a s76.len s76.cap) <|
 next68)))
 (J28 (()))
 (mkd h0.size <|
 ldT .bool (⟨b1, 0, none⟩ : Addr) fun x77 =>
 K x77)
 [4]
 [(J28 (()))]))
 (mkd h0.size <|
 ldT .bool (⟨b1, 0, none⟩ : Addr) fun x78 =>
 K x78)
 []
 [])
 (fun J13 =>
 brB r12
 (callT Try.prog fn_salvorref35_All #[(.slice r10.a r10.len r10.cap)] .sl fun r79 =>
 st1 (⟨b11, 0, none⟩ : Addr) (.slice r79.a r79.len r79.cap) <|
 J13 (()))
 (J13 (())))))
 ((0 : Int), ⟨none, 0, 0⟩, ())))) h0
set_option maxRecDepth 100000 in
theorem E_salvorlaw35_sets (a0 : Sl) (a1 : Sl) (a2 : Int) (K : Bool → HP) (h : Heap) : fnVC Try.prog [(1000000, .nil), (51, (.cons .sl .nil)), (63, (.cons .sl .nil))] 171 Try.f17 [(.slice a0.a a0.len a0.cap), (.slice a1.a a1.len a1.cap), (.int .i64 a2)] .bool K h = F_salvorlaw35_sets a0 a1 a2 K h := by kernel_rfl
set_option maxRecDepth 100000 in
theorem S_salvorlaw35_sets{h : Heap} {a0 : Sl} {a1 : Sl} {a2 : Int} (K : Bool → HP) (hF : F_salvorlaw35_sets a0 a1 a2 K h) : CallsH Try.prog fn_salvorlaw35_sets #[(.slice a0.a a0.len a0.cap), (.slice a1.a a1.len a1.cap), (.int .i64 a2)] h fun v h' => ∃ x : Bool, v = Ty.enc .bool x ∧ K x h' :=
  callsH_of_fn (P := Try.prog) (fn := Try.f17) (τ := .bool) follows Try.func17 (by kernel_rfl) (by kernel_rfl) Try.call17 (Eq.mpr (E_salvorlaw35_sets a0 a1 a2 K h) hF)


/-- salvor/salvorlaw35.made -/
def F_salvorlaw35_made (a0 : Sl) (a1 : Int) (a2 : Sl) (K : Sl → HP) : HP :=
 callT Try.prog fn_salvorlaw35_picked #[(.slice a2.a a2.len a2.cap), (.int .i64 (a0.len : Int))] .sl fun r0 =>
 jn (σ := (Int × Unit)) (fun s2 => /- last -/
 lfp (σ := (Int × Unit)) (fun X3 s4 => /-  -/
 brB (decide (s4.1 < (a0.len : Int)))
 (sx a0.a a0.len s4.1 3 fun p5 =>
 ldA (.cons (.int .i64) (.cons (.int .u32) (.cons (.int .i64) .nil))) p5 fun x6 =>
 nw #[(.int .i64 (0 : Int)), (.int .u32 (0 : Int)), (.int .i64 (0 : Int))] ty_disk_Entry fun b7 =>
 st1 (⟨b7, 0, none⟩ : Addr) (.int .i64 x6.1) <|
 st1 ((⟨b7, 0, none⟩ : Addr).add 1) (.int .u32 x6.2.1) <|
 st1 ((⟨b7, 0, none⟩ : Addr).add 2) (.int .i64 x6.2.2.1) <|
 ldT (.int .i64) ((⟨b7, 0, none⟩ : Addr).add 2) fun x8 =>
 jn (σ := Unit) (fun s10 => /- -/
 X3 ((IntKind.wrap .i64 (s4.1 + (1 : Int))), ()))
 (fun J9 =>
 brB (x8 != s2.1)
 (ldT (.int .i64) ((⟨b7, 0, none⟩ : Addr).add 2) fun x11 =>
 sx r0.a r0.len s4.1 1 fun p12 =>
 st1 p12 (.bool (decide (x11 < s2.1))) <|
 J9 (()))
 (J9 (()))))
 (K ⟨r0.a, r0.len, r0.cap⟩))
 ((0 : Int), ()))
 (fun J1 =>
 brB (decide ((a0.len : Int) > (0 : Int)))
 (nz (a0.len : Int) <|
 sx a0.a a0.len (Int.tmod (IntKind.wrap .i64 a1) (a0.len : Int)) 3 fun p13 =>
 ldT (.int .i64) (p13.add 2) fun x14 =>
 J1 (x14, ()))
 (J1 ((0 : Int), ())))
set_option maxRecDepth 100000 in
theorem E_salvorlaw35_made (a0 : Sl) (a1 : Int) (a2 : Sl) (K : Sl → HP) (h : Heap) : fnVC Try.prog [(1000000, .nil)] 47 Try.f18 [(.slice a0.a a0.len a0.cap), (.int .u8 a1), (.slice a2.a a2.len a2.cap)] .sl K h = F_salvorlaw35_made a0 a1 a2 K h := by kernel_rfl
set_option maxRecDepth 100000 in
theorem S_salvorlaw35_made{h : Heap} {a0 : Sl} {a1 : Int} {a2 : Sl} (K : Sl → HP) (hF : F_salvorlaw35_made a0 a1 a2 K h) : CallsH Try.prog fn_salvorlaw35_made #[(.slice a0.a a0.len a0.cap), (.int .u8 a1), (.slice a2.a a2.len a2.cap)] h fun v h' => ∃ x : Sl, v = Ty.enc .sl x ∧ K x h' :=
  callsH_of_fn (P := Try.prog) (fn := Try.f18) (τ := .sl) follows Try.func18 (by kernel_rfl) (by kernel_rfl) Try.call18 (Eq.mpr (E_salvorlaw35_made a0 a1 a2 K h) hF)


/-- salvor/crash.Results -/
def F_crash_Results (a0 : Sl) (a1 : Sl) (K : (Sl × (Int × Unit)) → HP) : HP := fun h0 => (
 nw #[(.slice a0.a a0.len a0.cap)] ty_sl_bitword_Word fun b0 =>
 nw #[(.slice a1.a a1.len a1.cap)] ty_sl_disk_Entry fun b1 =>
 ldT .sl (⟨b1, 0, none⟩ : Addr) fun x2 =>
 callT Try.prog fn_crash_Count #[(.slice x2.a x2.len x2.cap)] (.tup (.cons (.int .i64) (.cons (.int .i64) .nil))) fun r3 =>
 brB (r3.2.1 != (0 : Int))
 (mkd h0.size <|
 K (⟨none, 0, 0⟩, r3.2.1, ()))
 (ldT .sl (⟨b0, 0, none⟩ : Addr) fun x4 =>
 ldT .sl (⟨b1, 0, none⟩ : Addr) fun x5 =>
 callT Try.prog fn_crash_fits #[(.slice x4.a x4.len x4.cap), (.slice x5.a x5.len x5.cap)] .bool fun r6 =>
 brB (!r6)
 (mkd h0.size <|
 K (⟨none, 0, 0⟩, (2 : Int), ()))
 (brB (decide (r3.1 > (4096 : Int)))
 (mkd h0.size <|
 K (⟨none, 0, 0⟩, (5 : Int), ()))
 (nw #[(.slice none 0 0)] ty_sl_sl_bitword_Word fun b7 =>
 ldT .sl (⟨b1, 0, none⟩ : Addr) fun x8 =>
 callT Try.prog fn_crash_All #[(.slice x8.a x8.len x8.cap)] .val fun r9 =>
 RangeVC Try.prog (.cons .sl .nil) r9 (fun x10 wrap11 next12 jump13 =>
 wrap11 <|
 ldT .sl (⟨b7, 0, none⟩ : Addr) fun x14 =>
 ldT .sl (⟨b0, 0, none⟩ : Addr) fun x15 =>
 ldT .sl (⟨b1, 0, none⟩ : Addr) fun x16 =>
 callT Try.prog fn_crash_apply #[(.slice x15.a x15.len x15.cap), (.slice x16.a x16.len x16.cap), (.slice x10.1.a x10.1.len x10.1.cap)] .sl fun r17 =>
 ck (⟨b7, 0, none⟩ : Addr) (.slice x14.a x14.len x14.cap) <|
 nw #[(.slice r17.a r17.len r17.cap)] ty_sl_bitword_Word fun b18 =>
 apd ty_sl_bitword_Word 1 24 #[(.slice none 0 0)] ⟨x14.a, x14.len, x14.cap⟩ ⟨(some (⟨b18, 0, none⟩ : Addr)), 1, 1⟩ fun s19 =>
 st1 (⟨b7, 0, none⟩ : Addr) (.slice s19.a s19.len s19.cap) <|
 next12)
 (ldT .sl (⟨b7, 0, none⟩ : Addr) fun x20 =>
 callT Try.prog fn_slices_SortFunc_bitword_Word_bitword_Word #[(.slice x20.a x20.len x20.cap), (.func (.func fn_crash_Results_1) #[] #[])] (.tup .nil) fun r21 =>
 ldT .sl (⟨b7, 0, none⟩ : Addr) fun x22 =>
 callT Try.prog fn_slices_CompactFunc_bitword_Word_bitword_Word #[(.slice x22.a x22.len x22.cap), (.func (.func fn_slices_Equal_bitword_Word_bitword_Word) #[] #[])] .sl fun r23 =>
 mkd h0.size <|
 K (⟨r23.a, r23.len, r23.cap⟩, (0 : Int), ()))
 (mkd h0.size <|
 K (⟨none, 0, 0⟩, (0 : Int), ()))
 []
 [])))) h0
set_option maxRecDepth 100000 in
theorem E_crash_Results (a0 : Sl) (a1 : Sl) (K : (Sl × (Int × Unit)) → HP) (h : Heap) : fnVC Try.prog [(1000000, .nil), (29, (.cons .sl .nil))] 41 Try.f19 [(.slice a0.a a0.len a0.cap), (.slice a1.a a1.len a1.cap)] (.tup (.cons .sl (.cons (.int .i64) .nil))) K h = F_crash_Results a0 a1 K h := by kernel_rfl
set_option maxRecDepth 100000 in
theorem S_crash_Results{h : Heap} {a0 : Sl} {a1 : Sl} (K : (Sl × (Int × Unit)) → HP) (hF : F_crash_Results a0 a1 K h) : CallsH Try.prog fn_crash_Results #[(.slice a0.a a0.len a0.cap), (.slice a1.a a1.len a1.cap)] h fun v h' => ∃ x : (Sl × (Int × Unit)), v = Ty.enc (.tup (.cons .sl (.cons (.int .i64) .nil))) x ∧ K x h' :=
  callsH_of_fn (P := Try.prog) (fn := Try.f19) (τ := (.tup (.cons .sl (.cons (.int .i64) .nil)))) follows Try.func19 (by kernel_rfl) (by kernel_rfl) Try.call19 (Eq.mpr (E_crash_Results a0 a1 K h) hF)


/-- salvor/crash.Apply -/
def F_crash_Apply (a0 : Sl) (a1 : Sl) (a2 : Sl) (K : (Sl × (Int × Unit)) → HP) : HP :=
 callT Try.prog fn_crash_check #[(.slice a1.a a1.len a1.cap), (.slice a2.a a2.len a2.cap)] (.int .i64) fun r0 =>
 brB (r0 != (0 : Int))
 (K (⟨none, 0, 0⟩, r0, ()))
 (callT Try.prog fn_crash_fits #[(.slice a0.a a0.len a0.cap), (.slice a1.a a1.len a1.cap)] .bool fun r1 =>
 brB (!r1)
 (K (⟨none, 0, 0⟩, (2 : Int), ()))
 (callT Try.prog fn_crash_apply #[(.slice a0.a a0.len a0.cap), (.slice a1.a a1.len a1.cap), (.slice a2.a a2.len a2.cap)] .sl fun r2 =>
 K (⟨r2.a, r2.len, r2.cap⟩, (0 : Int), ())))
set_option maxRecDepth 100000 in
theorem E_crash_Apply (a0 : Sl) (a1 : Sl) (a2 : Sl) (K : (Sl × (Int × Unit)) → HP) (h : Heap) : fnVC Try.prog [(1000000, .nil)] 23 Try.f20 [(.slice a0.a a0.len a0.cap), (.slice a1.a a1.len a1.cap), (.slice a2.a a2.len a2.cap)] (.tup (.cons .sl (.cons (.int .i64) .nil))) K h = F_crash_Apply a0 a1 a2 K h := by kernel_rfl
set_option maxRecDepth 100000 in
theorem S_crash_Apply{h : Heap} {a0 : Sl} {a1 : Sl} {a2 : Sl} (K : (Sl × (Int × Unit)) → HP) (hF : F_crash_Apply a0 a1 a2 K h) : CallsH Try.prog fn_crash_Apply #[(.slice a0.a a0.len a0.cap), (.slice a1.a a1.len a1.cap), (.slice a2.a a2.len a2.cap)] h fun v h' => ∃ x : (Sl × (Int × Unit)), v = Ty.enc (.tup (.cons .sl (.cons (.int .i64) .nil))) x ∧ K x h' :=
  callsH_of_fn (P := Try.prog) (fn := Try.f20) (τ := (.tup (.cons .sl (.cons (.int .i64) .nil)))) follows Try.func20 (by kernel_rfl) (by kernel_rfl) Try.call20 (Eq.mpr (E_crash_Apply a0 a1 a2 K h) hF)


/-- salvor/salvorlaw35.CrashWrites$1 -/
def F_salvorlaw35_CrashWrites_1 (a0 : Sl) (c0 : Addr) (K : Bool → HP) : HP :=
 nw #[(.slice a0.a a0.len a0.cap)] ty_sl_bitword_Word fun b0 =>
 ldT .sl c0 fun x1 =>
 callT Try.prog fn_slices_ContainsFunc_bitword_Word_bitword_Word #[(.slice x1.a x1.len x1.cap), (.func (.func fn_salvorlaw35_CrashWrites_1i1) #[] #[(.pointer (some (⟨b0, 0, none⟩ : Addr)))])] .bool fun r2 =>
 K r2
set_option maxRecDepth 100000 in
theorem E_salvorlaw35_CrashWrites_1 (a0 : Sl) (c0 : Addr) (K : Bool → HP) (h : Heap) : fnVC Try.prog [(1000000, .nil)] 7 Try.f21 [(.slice a0.a a0.len a0.cap), (.pointer (some c0))] .bool K h = F_salvorlaw35_CrashWrites_1 a0 c0 K h := by kernel_rfl
set_option maxRecDepth 100000 in
theorem S_salvorlaw35_CrashWrites_1{h : Heap} {a0 : Sl} {c0 : Addr} (K : Bool → HP) (hF : F_salvorlaw35_CrashWrites_1 a0 c0 K h) : CallsH Try.prog fn_salvorlaw35_CrashWrites_1 #[(.slice a0.a a0.len a0.cap), (.pointer (some c0))] h fun v h' => ∃ x : Bool, v = Ty.enc .bool x ∧ K x h' :=
  callsH_of_fn (P := Try.prog) (fn := Try.f21) (τ := .bool) follows Try.func21 (by kernel_rfl) (by kernel_rfl) Try.call21 (Eq.mpr (E_salvorlaw35_CrashWrites_1 a0 c0 K h) hF)


/-- slices.ContainsFunc[[][]salvor/bitword.Word,[]salvor/bitword.Word] -/
def F_slices_ContainsFunc_bitword_Word_bitword_Word (a0 : Sl) (a1 : Value) (K : Bool → HP) : HP :=
 callT Try.prog fn_slices_IndexFunc_bitword_Word_bitword_Word #[(.slice a0.a a0.len a0.cap), a1] (.int .i64) fun r0 =>
 K (decide (r0 ≥ (0 : Int)))
set_option maxRecDepth 100000 in
theorem E_slices_ContainsFunc_bitword_Word_bitword_Word (a0 : Sl) (a1 : Value) (K : Bool → HP) (h : Heap) : fnVC Try.prog [(1000000, .nil)] 9 Try.f22 [(.slice a0.a a0.len a0.cap), a1] .bool K h = F_slices_ContainsFunc_bitword_Word_bitword_Word a0 a1 K h := by kernel_rfl
set_option maxRecDepth 100000 in
theorem S_slices_ContainsFunc_bitword_Word_bitword_Word{h : Heap} {a0 : Sl} {a1 : Value} (K : Bool → HP) (hF : F_slices_ContainsFunc_bitword_Word_bitword_Word a0 a1 K h) : CallsH Try.prog fn_slices_ContainsFunc_bitword_Word_bitword_Word #[(.slice a0.a a0.len a0.cap), a1] h fun v h' => ∃ x : Bool, v = Ty.enc .bool x ∧ K x h' :=
  callsH_of_fn (P := Try.prog) (fn := Try.f22) (τ := .bool) follows Try.func22 (by kernel_rfl) (by kernel_rfl) Try.call22 (Eq.mpr (E_slices_ContainsFunc_bitword_Word_bitword_Word a0 a1 K h) hF)


/-- salvor/salvorlaw35.CrashWrites$1$1 -/
def F_salvorlaw35_CrashWrites_1i1 (a0 : Sl) (c0 : Addr) (K : Bool → HP) : HP :=
 ldT .sl c0 fun x0 =>
 callT Try.prog fn_slices_Equal_bitword_Word_bitword_Word #[(.slice x0.a x0.len x0.cap), (.slice a0.a a0.len a0.cap)] .bool fun r1 =>
 K r1
set_option maxRecDepth 100000 in
theorem E_salvorlaw35_CrashWrites_1i1 (a0 : Sl) (c0 : Addr) (K : Bool → HP) (h : Heap) : fnVC Try.prog [(1000000, .nil)] 7 Try.f23 [(.slice a0.a a0.len a0.cap), (.pointer (some c0))] .bool K h = F_salvorlaw35_CrashWrites_1i1 a0 c0 K h := by kernel_rfl
set_option maxRecDepth 100000 in
theorem S_salvorlaw35_CrashWrites_1i1{h : Heap} {a0 : Sl} {c0 : Addr} (K : Bool → HP) (hF : F_salvorlaw35_CrashWrites_1i1 a0 c0 K h) : CallsH Try.prog fn_salvorlaw35_CrashWrites_1i1 #[(.slice a0.a a0.len a0.cap), (.pointer (some c0))] h fun v h' => ∃ x : Bool, v = Ty.enc .bool x ∧ K x h' :=
  callsH_of_fn (P := Try.prog) (fn := Try.f23) (τ := .bool) follows Try.func23 (by kernel_rfl) (by kernel_rfl) Try.call23 (Eq.mpr (E_salvorlaw35_CrashWrites_1i1 a0 c0 K h) hF)


/-- slices.Equal[[]salvor/bitword.Word,salvor/bitword.Word] -/
def F_slices_Equal_bitword_Word_bitword_Word (a0 : Sl) (a1 : Sl) (K : Bool → HP) : HP :=
 brB ((a0.len : Int) != (a1.len : Int))
 (K false)
 (lfp (σ := (Int × (Bool × Unit))) (fun X0 s1 => /-   -/
 brB (decide (s1.1 < (a0.len : Int)))
 (sx a0.a a0.len s1.1 1 fun p2 =>
 ldT (.int .u32) p2 fun x3 =>
 sx a1.a a1.len s1.1 1 fun p4 =>
 ldT (.int .u32) p4 fun x5 =>
 brB (x3 != x5)
 (K false)
 (X0 ((IntKind.wrap .i64 (s1.1 + (1 : Int))), s1.2.1, ())))
 (K true))
 ((0 : Int), false, ()))
set_option maxRecDepth 100000 in
theorem E_slices_Equal_bitword_Word_bitword_Word (a0 : Sl) (a1 : Sl) (K : Bool → HP) (h : Heap) : fnVC Try.prog [(1000000, .nil)] 26 Try.f24 [(.slice a0.a a0.len a0.cap), (.slice a1.a a1.len a1.cap)] .bool K h = F_slices_Equal_bitword_Word_bitword_Word a0 a1 K h := by kernel_rfl
set_option maxRecDepth 100000 in
theorem S_slices_Equal_bitword_Word_bitword_Word{h : Heap} {a0 : Sl} {a1 : Sl} (K : Bool → HP) (hF : F_slices_Equal_bitword_Word_bitword_Word a0 a1 K h) : CallsH Try.prog fn_slices_Equal_bitword_Word_bitword_Word #[(.slice a0.a a0.len a0.cap), (.slice a1.a a1.len a1.cap)] h fun v h' => ∃ x : Bool, v = Ty.enc .bool x ∧ K x h' :=
  callsH_of_fn (P := Try.prog) (fn := Try.f24) (τ := .bool) follows Try.func24 (by kernel_rfl) (by kernel_rfl) Try.call24 (Eq.mpr (E_slices_Equal_bitword_Word_bitword_Word a0 a1 K h) hF)


/-- slices.Clone[[]salvor/bitword.Word,salvor/bitword.Word] -/
def F_slices_Clone_bitword_Word_bitword_Word (a0 : Sl) (K : Sl → HP) : HP :=
 brB (Option.isNone a0.a)
 (K ⟨none, 0, 0⟩)
 (nw #[] ty_bitword_Word fun b0 =>
 apd ty_bitword_Word 1 4 #[(.int .u32 (0 : Int))] ⟨(some (⟨b0, 0, none⟩ : Addr)), 0, 0⟩ ⟨a0.a, a0.len, a0.cap⟩ fun s1 =>
 K ⟨s1.a, s1.len, s1.cap⟩)
set_option maxRecDepth 100000 in
theorem E_slices_Clone_bitword_Word_bitword_Word (a0 : Sl) (K : Sl → HP) (h : Heap) : fnVC Try.prog [(1000000, .nil)] 8 Try.f25 [(.slice a0.a a0.len a0.cap)] .sl K h = F_slices_Clone_bitword_Word_bitword_Word a0 K h := by kernel_rfl
set_option maxRecDepth 100000 in
theorem S_slices_Clone_bitword_Word_bitword_Word{h : Heap} {a0 : Sl} (K : Sl → HP) (hF : F_slices_Clone_bitword_Word_bitword_Word a0 K h) : CallsH Try.prog fn_slices_Clone_bitword_Word_bitword_Word #[(.slice a0.a a0.len a0.cap)] h fun v h' => ∃ x : Sl, v = Ty.enc .sl x ∧ K x h' :=
  callsH_of_fn (P := Try.prog) (fn := Try.f25) (τ := .sl) follows Try.func25 (by kernel_rfl) (by kernel_rfl) Try.call25 (Eq.mpr (E_slices_Clone_bitword_Word_bitword_Word a0 K h) hF)


/-- slices.Compare[[]salvor/bitword.Word,salvor/bitword.Word] -/
def F_slices_Compare_bitword_Word_bitword_Word (a0 : Sl) (a1 : Sl) (K : Int → HP) : HP :=
 lfp (σ := (Int × (Int × Unit))) (fun X0 s1 => /-   -/
 brB (decide (s1.1 < (a0.len : Int)))
 (sx a0.a a0.len s1.1 1 fun p2 =>
 ldT (.int .u32) p2 fun x3 =>
 brB (decide (s1.1 ≥ (a1.len : Int)))
 (K (1 : Int))
 (sx a1.a a1.len s1.1 1 fun p4 =>
 ldT (.int .u32) p4 fun x5 =>
 callT Try.prog fn_cmp_Compare_bitword_Word #[(.int .u32 x3), (.int .u32 x5)] (.int .i64) fun r6 =>
 brB (r6 != (0 : Int))
 (K r6)
 (X0 ((IntKind.wrap .i64 (s1.1 + (1 : Int))), s1.2.1, ()))))
 (brB (decide ((a0.len : Int) < (a1.len : Int)))
 (K (-1 : Int))
 (K (0 : Int))))
 ((0 : Int), (0 : Int), ())
set_option maxRecDepth 100000 in
theorem E_slices_Compare_bitword_Word_bitword_Word (a0 : Sl) (a1 : Sl) (K : Int → HP) (h : Heap) : fnVC Try.prog [(1000000, .nil)] 36 Try.f26 [(.slice a0.a a0.len a0.cap), (.slice a1.a a1.len a1.cap)] (.int .i64) K h = F_slices_Compare_bitword_Word_bitword_Word a0 a1 K h := by kernel_rfl
set_option maxRecDepth 100000 in
theorem S_slices_Compare_bitword_Word_bitword_Word{h : Heap} {a0 : Sl} {a1 : Sl} (K : Int → HP) (hF : F_slices_Compare_bitword_Word_bitword_Word a0 a1 K h) : CallsH Try.prog fn_slices_Compare_bitword_Word_bitword_Word #[(.slice a0.a a0.len a0.cap), (.slice a1.a a1.len a1.cap)] h fun v h' => ∃ x : Int, v = Ty.enc (.int .i64) x ∧ K x h' :=
  callsH_of_fn (P := Try.prog) (fn := Try.f26) (τ := (.int .i64)) follows Try.func26 (by kernel_rfl) (by kernel_rfl) Try.call26 (Eq.mpr (E_slices_Compare_bitword_Word_bitword_Word a0 a1 K h) hF)


/-- slices.ContainsFunc[[]salvor/disk.Entry,salvor/disk.Entry] -/
def F_slices_ContainsFunc_disk_Entry_disk_Entry (a0 : Sl) (a1 : Value) (K : Bool → HP) : HP :=
 callT Try.prog fn_slices_IndexFunc_disk_Entry_disk_Entry #[(.slice a0.a a0.len a0.cap), a1] (.int .i64) fun r0 =>
 K (decide (r0 ≥ (0 : Int)))
set_option maxRecDepth 100000 in
theorem E_slices_ContainsFunc_disk_Entry_disk_Entry (a0 : Sl) (a1 : Value) (K : Bool → HP) (h : Heap) : fnVC Try.prog [(1000000, .nil)] 9 Try.f27 [(.slice a0.a a0.len a0.cap), a1] .bool K h = F_slices_ContainsFunc_disk_Entry_disk_Entry a0 a1 K h := by kernel_rfl
set_option maxRecDepth 100000 in
theorem S_slices_ContainsFunc_disk_Entry_disk_Entry{h : Heap} {a0 : Sl} {a1 : Value} (K : Bool → HP) (hF : F_slices_ContainsFunc_disk_Entry_disk_Entry a0 a1 K h) : CallsH Try.prog fn_slices_ContainsFunc_disk_Entry_disk_Entry #[(.slice a0.a a0.len a0.cap), a1] h fun v h' => ∃ x : Bool, v = Ty.enc .bool x ∧ K x h' :=
  callsH_of_fn (P := Try.prog) (fn := Try.f27) (τ := .bool) follows Try.func27 (by kernel_rfl) (by kernel_rfl) Try.call27 (Eq.mpr (E_slices_ContainsFunc_disk_Entry_disk_Entry a0 a1 K h) hF)


end Go.Proofs.S
