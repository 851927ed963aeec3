/- One function in parts, each as a predicate over its values, printed by a program of ours, and that each is its text's. -/
import Derived.Test.YtchedlkmgahicaaSxEnd
import Derived.KernelRfl
import Derived.Test.YtchedlkmgahicaaProg
import Derived.Test.YtchedlkmgahicaaCrF0
set_option linter.unusedVariables false
namespace Go.Proofs.S
open Go Go.Sx Go.Proofs
def F_salvorlaw35_CrashWrong_6 (n0 : Nat) (K : Bool → HP) (rb : Nat) (x : (Int × (Int × (Int × (Int × (Int × (Int × Unit))))))) : HP :=
 nw #[(.int .i64 (0 : Int)), (.int .u32 (0 : Int)), (.int .i64 (1 : Int)), (.int .i64 (0 : Int)), (.int .u32 (0 : Int)), (.int .i64 (2 : Int))] ty_disk_Entry fun b0 =>
 nw #[(.bool false), (.bool true)] ty_bool fun b1 =>
 callT Try.prog fn_crash_Drop #[(.slice (some (⟨b0, 0, none⟩ : Addr)) 2 2), (.slice (some (⟨b1, 0, none⟩ : Addr)) 2 2)] (.tup (.cons .sl (.cons (.int .i64) .nil))) fun r2 =>
 jn (σ := Bool) (fun t4 =>
 jn (σ := Bool) (fun t6 =>
 jn (σ := Bool) (fun t8 =>
 jn (σ := Bool) (fun t10 =>
 jn (σ := Bool) (fun t12 =>
 jn (σ := Bool) (fun t14 =>
 st1 (⟨rb, 0, none⟩ : Addr) (.bool t14) <|
 mkd n0 <|
 ldT .bool (⟨rb, 0, none⟩ : Addr) fun x15 =>
 K x15)
 (fun J13 =>
 brB t12
 (J13 ((r2.2.1 == x.2.1)))
 (J13 false)))
 (fun J11 =>
 brB t10
 (J11 ((x.1 == x.2.1)))
 (J11 false)))
 (fun J9 =>
 brB t8
 (J9 ((x.2.1 == (2 : Int))))
 (J9 false)))
 (fun J7 =>
 brB t6
 (J7 ((x.2.2.1 == x.2.2.2.2.2.1)))
 (J7 false)))
 (fun J5 =>
 brB t4
 (J5 ((x.2.2.2.1 == x.2.2.2.2.2.1)))
 (J5 false)))
 (fun J3 =>
 brB (x.2.2.2.2.2.1 == (351 : Int))
 (J3 ((x.2.2.2.2.1 == x.2.2.2.2.2.1)))
 (J3 false))
def F_salvorlaw35_CrashWrong_5 (n0 : Nat) (K : Bool → HP) (rb : Nat) (x : (Int × (Int × (Int × (Int × (Int × (Int × (Sl × (Sl × Unit))))))))) : HP :=
 slH ⟨x.2.2.2.2.2.2.1.a, x.2.2.2.2.2.2.1.len, x.2.2.2.2.2.2.1.cap⟩ (2 : Int) 1 fun s0 =>
 nw #[(.int .i64 (2 : Int)), (.int .u32 (0 : Int)), (.int .i64 (99 : Int))] ty_disk_Entry fun b1 =>
 apd ty_disk_Entry 3 24 #[(.int .i64 (0 : Int)), (.int .u32 (0 : Int)), (.int .i64 (0 : Int))] ⟨x.2.2.2.2.2.2.2.1.a, x.2.2.2.2.2.2.2.1.len, x.2.2.2.2.2.2.2.1.cap⟩ ⟨(some (⟨b1, 0, none⟩ : Addr)), 1, 1⟩ fun s2 =>
 callT Try.prog fn_crash_Results #[(.slice s0.a s0.len s0.cap), (.slice s2.a s2.len s2.cap)] (.tup (.cons .sl (.cons (.int .i64) .nil))) fun r3 =>
 F_salvorlaw35_CrashWrong_6 n0 K rb (r3.2.1, x.1, x.2.1, x.2.2.1, x.2.2.2.1, x.2.2.2.2.1, ())
def F_salvorlaw35_CrashWrong_4 (n0 : Nat) (K : Bool → HP) (rb : Nat) (x : (Int × (Int × (Int × (Int × (Int × (Int × (Sl × (Sl × (Sl × Unit)))))))))) : HP :=
 slH ⟨x.2.2.2.2.2.2.1.a, x.2.2.2.2.2.2.1.len, x.2.2.2.2.2.2.1.cap⟩ (2 : Int) 1 fun s0 =>
 cj
 (nw #[(.int .i64 (2 : Int)), (.int .u32 (0 : Int)), (.int .i64 (99 : Int))] ty_disk_Entry fun b1 =>
 cj
 (apd ty_disk_Entry 3 24 #[(.int .i64 (0 : Int)), (.int .u32 (0 : Int)), (.int .i64 (0 : Int))] ⟨x.2.2.2.2.2.2.2.2.1.a, x.2.2.2.2.2.2.2.2.1.len, x.2.2.2.2.2.2.2.2.1.cap⟩ ⟨(some (⟨b1, 0, none⟩ : Addr)), 1, 1⟩ fun s2 =>
 nw #[(.bool false)] ty_bool fun b3 =>
 apd ty_bool 1 1 #[(.bool false)] ⟨x.2.2.2.2.2.2.2.1.a, x.2.2.2.2.2.2.2.1.len, x.2.2.2.2.2.2.2.1.cap⟩ ⟨(some (⟨b3, 0, none⟩ : Addr)), 1, 1⟩ fun s4 =>
 callT Try.prog fn_crash_Apply #[(.slice s0.a s0.len s0.cap), (.slice s2.a s2.len s2.cap), (.slice s4.a s4.len s4.cap)] (.tup (.cons .sl (.cons (.int .i64) .nil))) fun r5 =>
 F_salvorlaw35_CrashWrong_5 n0 K rb (r5.2.1, x.1, x.2.1, x.2.2.1, x.2.2.2.1, x.2.2.2.2.1, ⟨x.2.2.2.2.2.2.1.a, x.2.2.2.2.2.2.1.len, x.2.2.2.2.2.2.1.cap⟩, ⟨x.2.2.2.2.2.2.2.2.1.a, x.2.2.2.2.2.2.2.2.1.len, x.2.2.2.2.2.2.2.2.1.cap⟩, ()))
 (nw #[(.bool false)] ty_bool fun b6 =>
 apd ty_disk_Entry 3 24 #[(.int .i64 (0 : Int)), (.int .u32 (0 : Int)), (.int .i64 (0 : Int))] ⟨x.2.2.2.2.2.2.2.2.1.a, x.2.2.2.2.2.2.2.2.1.len, x.2.2.2.2.2.2.2.2.1.cap⟩ ⟨(some (⟨b1, 0, none⟩ : Addr)), 1, 1⟩ fun s7 =>
 apd ty_bool 1 1 #[(.bool false)] ⟨x.2.2.2.2.2.2.2.1.a, x.2.2.2.2.2.2.2.1.len, x.2.2.2.2.2.2.2.1.cap⟩ ⟨(some (⟨b6, 0, none⟩ : Addr)), 1, 1⟩ fun s8 =>
 callT Try.prog fn_crash_Apply #[(.slice s0.a s0.len s0.cap), (.slice s7.a s7.len s7.cap), (.slice s8.a s8.len s8.cap)] (.tup (.cons .sl (.cons (.int .i64) .nil))) fun r9 =>
 F_salvorlaw35_CrashWrong_5 n0 K rb (r9.2.1, x.1, x.2.1, x.2.2.1, x.2.2.2.1, x.2.2.2.2.1, ⟨x.2.2.2.2.2.2.1.a, x.2.2.2.2.2.2.1.len, x.2.2.2.2.2.2.1.cap⟩, ⟨x.2.2.2.2.2.2.2.2.1.a, x.2.2.2.2.2.2.2.2.1.len, x.2.2.2.2.2.2.2.2.1.cap⟩, ())))
 (nw #[(.bool false)] ty_bool fun b10 =>
 nw #[(.int .i64 (2 : Int)), (.int .u32 (0 : Int)), (.int .i64 (99 : Int))] ty_disk_Entry fun b11 =>
 apd ty_disk_Entry 3 24 #[(.int .i64 (0 : Int)), (.int .u32 (0 : Int)), (.int .i64 (0 : Int))] ⟨x.2.2.2.2.2.2.2.2.1.a, x.2.2.2.2.2.2.2.2.1.len, x.2.2.2.2.2.2.2.2.1.cap⟩ ⟨(some (⟨b11, 0, none⟩ : Addr)), 1, 1⟩ fun s12 =>
 apd ty_bool 1 1 #[(.bool false)] ⟨x.2.2.2.2.2.2.2.1.a, x.2.2.2.2.2.2.2.1.len, x.2.2.2.2.2.2.2.1.cap⟩ ⟨(some (⟨b10, 0, none⟩ : Addr)), 1, 1⟩ fun s13 =>
 callT Try.prog fn_crash_Apply #[(.slice s0.a s0.len s0.cap), (.slice s12.a s12.len s12.cap), (.slice s13.a s13.len s13.cap)] (.tup (.cons .sl (.cons (.int .i64) .nil))) fun r14 =>
 F_salvorlaw35_CrashWrong_5 n0 K rb (r14.2.1, x.1, x.2.1, x.2.2.1, x.2.2.2.1, x.2.2.2.2.1, ⟨x.2.2.2.2.2.2.1.a, x.2.2.2.2.2.2.1.len, x.2.2.2.2.2.2.1.cap⟩, ⟨x.2.2.2.2.2.2.2.2.1.a, x.2.2.2.2.2.2.2.2.1.len, x.2.2.2.2.2.2.2.2.1.cap⟩, ()))
def F_salvorlaw35_CrashWrong_3 (n0 : Nat) (K : Bool → HP) (rb : Nat) (x : (Int × (Int × (Int × (Int × (Int × (Int × (Sl × (Sl × (Sl × Unit)))))))))) : HP :=
 nw #[(.bool true)] ty_bool fun b0 =>
 apd ty_bool 1 1 #[(.bool false)] ⟨x.2.2.2.2.2.2.2.1.a, x.2.2.2.2.2.2.2.1.len, x.2.2.2.2.2.2.2.1.cap⟩ ⟨(some (⟨b0, 0, none⟩ : Addr)), 1, 1⟩ fun s1 =>
 callT Try.prog fn_crash_Valid #[(.slice x.2.2.2.2.2.2.2.2.1.a x.2.2.2.2.2.2.2.2.1.len x.2.2.2.2.2.2.2.2.1.cap), (.slice s1.a s1.len s1.cap)] (.tup (.cons .bool (.cons (.int .i64) .nil))) fun r2 =>
 nw #[(.bool false)] ty_bool fun b3 =>
 apd ty_bool 1 1 #[(.bool false)] ⟨x.2.2.2.2.2.2.2.1.a, x.2.2.2.2.2.2.2.1.len, x.2.2.2.2.2.2.2.1.cap⟩ ⟨(some (⟨b3, 0, none⟩ : Addr)), 1, 1⟩ fun s4 =>
 callT Try.prog fn_crash_Pairs #[(.slice x.2.2.2.2.2.2.2.2.1.a x.2.2.2.2.2.2.2.2.1.len x.2.2.2.2.2.2.2.2.1.cap), (.slice s4.a s4.len s4.cap)] (.tup (.cons .bool (.cons (.int .i64) .nil))) fun r5 =>
 nw #[(.bool true)] ty_bool fun b6 =>
 apd ty_bool 1 1 #[(.bool false)] ⟨x.2.2.2.2.2.2.2.1.a, x.2.2.2.2.2.2.2.1.len, x.2.2.2.2.2.2.2.1.cap⟩ ⟨(some (⟨b6, 0, none⟩ : Addr)), 1, 1⟩ fun s7 =>
 callT Try.prog fn_crash_Apply #[(.slice none 0 0), (.slice x.2.2.2.2.2.2.2.2.1.a x.2.2.2.2.2.2.2.2.1.len x.2.2.2.2.2.2.2.2.1.cap), (.slice s7.a s7.len s7.cap)] (.tup (.cons .sl (.cons (.int .i64) .nil))) fun r8 =>
 nw #[(.bool true)] ty_bool fun b9 =>
 apd ty_bool 1 1 #[(.bool false)] ⟨x.2.2.2.2.2.2.2.1.a, x.2.2.2.2.2.2.2.1.len, x.2.2.2.2.2.2.2.1.cap⟩ ⟨(some (⟨b9, 0, none⟩ : Addr)), 1, 1⟩ fun s10 =>
 callT Try.prog fn_crash_Drop #[(.slice x.2.2.2.2.2.2.2.2.1.a x.2.2.2.2.2.2.2.2.1.len x.2.2.2.2.2.2.2.2.1.cap), (.slice s10.a s10.len s10.cap)] (.tup (.cons .sl (.cons (.int .i64) .nil))) fun r11 =>
 F_salvorlaw35_CrashWrong_4 n0 K rb (r11.2.1, r8.2.1, r5.2.1, r2.2.1, x.1, x.2.1, ⟨x.2.2.2.2.2.2.1.a, x.2.2.2.2.2.2.1.len, x.2.2.2.2.2.2.1.cap⟩, ⟨x.2.2.2.2.2.2.2.1.a, x.2.2.2.2.2.2.2.1.len, x.2.2.2.2.2.2.2.1.cap⟩, ⟨x.2.2.2.2.2.2.2.2.1.a, x.2.2.2.2.2.2.2.2.1.len, x.2.2.2.2.2.2.2.2.1.cap⟩, ())
def F_salvorlaw35_CrashWrong_2 (n0 : Nat) (K : Bool → HP) (rb : Nat) (x : (Sl × (Sl × (Sl × (Sl × Unit))))) : HP :=
 callT Try.prog fn_crash_Valid #[(.slice x.2.2.1.a x.2.2.1.len x.2.2.1.cap), (.slice none 0 0)] (.tup (.cons .bool (.cons (.int .i64) .nil))) fun r0 =>
 callT Try.prog fn_crash_Pairs #[(.slice x.2.2.1.a x.2.2.1.len x.2.2.1.cap), (.slice none 0 0)] (.tup (.cons .bool (.cons (.int .i64) .nil))) fun r1 =>
 callT Try.prog fn_crash_Apply #[(.slice none 0 0), (.slice x.2.2.1.a x.2.2.1.len x.2.2.1.cap), (.slice none 0 0)] (.tup (.cons .sl (.cons (.int .i64) .nil))) fun r2 =>
 callT Try.prog fn_crash_Count #[(.slice x.2.2.1.a x.2.2.1.len x.2.2.1.cap)] (.tup (.cons (.int .i64) (.cons (.int .i64) .nil))) fun r3 =>
 callT Try.prog fn_crash_Results #[(.slice none 0 0), (.slice x.2.2.1.a x.2.2.1.len x.2.2.1.cap)] (.tup (.cons .sl (.cons (.int .i64) .nil))) fun r4 =>
 callT Try.prog fn_crash_Drop #[(.slice x.2.2.1.a x.2.2.1.len x.2.2.1.cap), (.slice none 0 0)] (.tup (.cons .sl (.cons (.int .i64) .nil))) fun r5 =>
 callT Try.prog fn_crash_All #[(.slice x.2.2.1.a x.2.2.1.len x.2.2.1.cap)] .val fun r6 =>
 RangeVC Try.prog (.cons .val .nil) r6 (fun x7 wrap8 next9 jump10 =>
 wrap8 <|
 st1 (⟨rb, 0, none⟩ : Addr) (.bool false) <|
 jump10 .ret)
 (callT Try.prog fn_crash_Right #[(.slice x.2.2.1.a x.2.2.1.len x.2.2.1.cap)] .bool fun r11 =>
 jn (σ := Bool) (fun t13 =>
 jn (σ := Bool) (fun t15 =>
 jn (σ := Bool) (fun t17 =>
 jn (σ := Bool) (fun t19 =>
 jn (σ := Bool) (fun t21 =>
 jn (σ := Bool) (fun t23 =>
 jn (σ := Bool) (fun t25 =>
 brB t25
 (st1 (⟨rb, 0, none⟩ : Addr) (.bool false) <|
 mkd n0 <|
 ldT .bool (⟨rb, 0, none⟩ : Addr) fun x26 =>
 K x26)
 (F_salvorlaw35_CrashWrong_3 n0 K rb (r5.2.1, r4.2.1, r3.2.1, r2.2.1, r1.2.1, r0.2.1, ⟨x.1.a, x.1.len, x.1.cap⟩, ⟨x.2.1.a, x.2.1.len, x.2.1.cap⟩, ⟨x.2.2.2.1.a, x.2.2.2.1.len, x.2.2.2.1.cap⟩, ())))
 (fun J24 =>
 brB t23
 (J24 true)
 (J24 ((r5.2.1 != r0.2.1)))))
 (fun J22 =>
 brB t21
 (J22 true)
 (J22 ((r4.2.1 != r0.2.1)))))
 (fun J20 =>
 brB t19
 (J20 true)
 (J20 ((r3.2.1 != r0.2.1)))))
 (fun J18 =>
 brB t17
 (J18 true)
 (J18 ((r2.2.1 != r0.2.1)))))
 (fun J16 =>
 brB t15
 (J16 true)
 (J16 ((r1.2.1 != r0.2.1)))))
 (fun J14 =>
 brB t13
 (J14 true)
 (J14 ((r0.2.1 != (350 : Int))))))
 (fun J12 =>
 brB r11
 (J12 true)
 (J12 (((IntKind.wrap .i64 ((IntKind.wrap .i64 ((r2.1.len : Int) + (r4.1.len : Int))) + (r5.1.len : Int))) != (0 : Int))))))
 (mkd n0 <|
 ldT .bool (⟨rb, 0, none⟩ : Addr) fun x27 =>
 K x27)
 []
 []
def F_salvorlaw35_CrashWrong_1 (n0 : Nat) (K : Bool → HP) (rb : Nat) (x : (Sl × (Sl × Unit))) : HP :=
 cj
 (mks ty_bool 1 1 #[(.bool false)] (x.2.1.len : Int) (x.2.1.len : Int) fun s0 =>
 cj
 (mks ty_bitword_Word 1 4 #[(.int .u32 (0 : Int))] (3 : Int) (3 : Int) fun s1 =>
 F_salvorlaw35_CrashWrong_2 n0 K rb (⟨s1.a, s1.len, s1.cap⟩, ⟨s0.a, s0.len, s0.cap⟩, ⟨x.1.a, x.1.len, x.1.cap⟩, ⟨x.2.1.a, x.2.1.len, x.2.1.cap⟩, ()))
 (mks ty_bitword_Word 1 4 #[(.int .u32 (0 : Int))] (3 : Int) (3 : Int) fun s2 =>
 F_salvorlaw35_CrashWrong_2 n0 K rb (⟨s2.a, s2.len, s2.cap⟩, ⟨s0.a, s0.len, s0.cap⟩, ⟨x.1.a, x.1.len, x.1.cap⟩, ⟨x.2.1.a, x.2.1.len, x.2.1.cap⟩, ())))
 (mks ty_bitword_Word 1 4 #[(.int .u32 (0 : Int))] (3 : Int) (3 : Int) fun s3 =>
 mks ty_bool 1 1 #[(.bool false)] (x.2.1.len : Int) (x.2.1.len : Int) fun s4 =>
 F_salvorlaw35_CrashWrong_2 n0 K rb (⟨s3.a, s3.len, s3.cap⟩, ⟨s4.a, s4.len, s4.cap⟩, ⟨x.1.a, x.1.len, x.1.cap⟩, ⟨x.2.1.a, x.2.1.len, x.2.1.cap⟩, ()))
def F_salvorlaw35_CrashWrong_0 (n0 : Nat) (K : Bool → HP) (a0 : Sl) (a1 : Int) (a2 : Int) : HP :=
 nw #[(.bool false)] ty_bool fun b0 =>
 callT Try.prog fn_salvorlaw35_awake #[] .bool fun r1 =>
 brB (!r1)
 (st1 (⟨b0, 0, none⟩ : Addr) (.bool false) <|
 mkd n0 <|
 ldT .bool (⟨b0, 0, none⟩ : Addr) fun x2 =>
 K x2)
 (callT Try.prog fn_salvorlaw35_Made #[(.slice a0.a a0.len a0.cap), (.int .i64 (20 : Int))] .sl fun r3 =>
 callT Try.prog fn_slices_Clone_disk_Entry_disk_Entry #[(.slice r3.a r3.len r3.cap)] .sl fun r4 =>
 nw #[(.int .i64 (0 : Int)), (.int .u32 (0 : Int)), (.int .i64 (99 : Int))] ty_disk_Entry fun b5 =>
 apd ty_disk_Entry 3 24 #[(.int .i64 (0 : Int)), (.int .u32 (0 : Int)), (.int .i64 (0 : Int))] ⟨r4.a, r4.len, r4.cap⟩ ⟨(some (⟨b5, 0, none⟩ : Addr)), 1, 1⟩ fun s6 =>
 nz (s6.len : Int) <|
 jn (σ := Unit) (fun s8 => /- -/
 F_salvorlaw35_CrashWrong_1 n0 K b0 (⟨s6.a, s6.len, s6.cap⟩, ⟨r3.a, r3.len, r3.cap⟩, ()))
 (fun J7 =>
 brB ((bAnd .u8 a1 (1 : Int)) == (0 : Int))
 (nw #[(.int .i64 (if (-1 : Int) < a2 then (-1 : Int) else a2)), (.int .i64 (if (16 : Int) > a2 then (16 : Int) else a2))] ty_int fun b9 =>
 ge0 (1 : Int) <|
 sx (some (⟨b9, 0, none⟩ : Addr)) 2 (bAnd .u8 (Int.fdiv a1 (2 ^ (min ((1 : Int)).toNat 8))) (1 : Int)) 1 fun p10 =>
 ldT (.int .i64) p10 fun x11 =>
 sx s6.a s6.len (Int.tmod (IntKind.wrap .i64 a1) (s6.len : Int)) 3 fun p12 =>
 st1 p12 (.int .i64 x11) <|
 J7 (()))
 (sx s6.a s6.len (Int.tmod (IntKind.wrap .i64 a1) (s6.len : Int)) 3 fun p13 =>
 st1 (p13.add 2) (.int .i64 (if (-1 : Int) < a2 then (-1 : Int) else a2)) <|
 J7 (()))))
set_option maxRecDepth 100000 in
theorem E_salvorlaw35_CrashWrong_0 (n0 : Nat) (K : Bool → HP) (a0 : Sl) (a1 : Int) (a2 : Int) (h : Heap) : vc Try.prog [(1000000, .bool), (100, (.cons .val .nil))] 238 Try.f6.ntmps (takeC 6 (codeOf Try.f6)) (thenE (meetB 6 (.cons .sl (.cons .sl .nil)) [8, 7] (F_salvorlaw35_CrashWrong_1 n0 K)) (retQ Try.prog Try.f6 .bool K n0)) (argE 0 [(.slice a0.a a0.len a0.cap), (.int .u8 a1), (.int .i64 a2)]) h = F_salvorlaw35_CrashWrong_0 n0 K a0 a1 a2 h := by kernel_rfl
set_option maxRecDepth 100000 in
theorem E_salvorlaw35_CrashWrong_1 (n0 : Nat) (K : Bool → HP) (rb : Nat) (x : (Sl × (Sl × Unit))) (h : Heap) : vc Try.prog [(1000000, .bool), (100, (.cons .val .nil))] 238 Try.f6.ntmps (takeC 1 (dropC 6 (codeOf Try.f6))) (thenE (meetB 6 (.cons .sl (.cons .sl (.cons .sl (.cons .sl .nil)))) [11, 10, 8, 7] (F_salvorlaw35_CrashWrong_2 n0 K)) (retQ Try.prog Try.f6 .bool K n0)) ((6, .pointer (some ⟨rb, 0, none⟩)) :: List.zip [8, 7] (Ty.vals (.cons .sl (.cons .sl .nil)) x)) h = F_salvorlaw35_CrashWrong_1 n0 K rb x h := by kernel_rfl
set_option maxRecDepth 100000 in
theorem E_salvorlaw35_CrashWrong_2 (n0 : Nat) (K : Bool → HP) (rb : Nat) (x : (Sl × (Sl × (Sl × (Sl × Unit))))) (h : Heap) : vc Try.prog [(1000000, .bool), (100, (.cons .val .nil))] 238 Try.f6.ntmps (takeC 8 (dropC 1 (dropC 6 (codeOf Try.f6)))) (thenE (meetB 6 (.cons (.int .i64) (.cons (.int .i64) (.cons (.int .i64) (.cons (.int .i64) (.cons (.int .i64) (.cons (.int .i64) (.cons .sl (.cons .sl (.cons .sl .nil))))))))) [23, 21, 19, 17, 15, 13, 11, 10, 7] (F_salvorlaw35_CrashWrong_3 n0 K)) (retQ Try.prog Try.f6 .bool K n0)) ((6, .pointer (some ⟨rb, 0, none⟩)) :: List.zip [11, 10, 8, 7] (Ty.vals (.cons .sl (.cons .sl (.cons .sl (.cons .sl .nil)))) x)) h = F_salvorlaw35_CrashWrong_2 n0 K rb x h := by kernel_rfl
set_option maxRecDepth 100000 in
theorem E_salvorlaw35_CrashWrong_3 (n0 : Nat) (K : Bool → HP) (rb : Nat) (x : (Int × (Int × (Int × (Int × (Int × (Int × (Sl × (Sl × (Sl × Unit)))))))))) (h : Heap) : vc Try.prog [(1000000, .bool), (100, (.cons .val .nil))] 238 Try.f6.ntmps (takeC 4 (dropC 8 (dropC 1 (dropC 6 (codeOf Try.f6))))) (thenE (meetB 6 (.cons (.int .i64) (.cons (.int .i64) (.cons (.int .i64) (.cons (.int .i64) (.cons (.int .i64) (.cons (.int .i64) (.cons .sl (.cons .sl (.cons .sl .nil))))))))) [19, 17, 15, 13, 23, 21, 11, 10, 7] (F_salvorlaw35_CrashWrong_4 n0 K)) (retQ Try.prog Try.f6 .bool K n0)) ((6, .pointer (some ⟨rb, 0, none⟩)) :: List.zip [23, 21, 19, 17, 15, 13, 11, 10, 7] (Ty.vals (.cons (.int .i64) (.cons (.int .i64) (.cons (.int .i64) (.cons (.int .i64) (.cons (.int .i64) (.cons (.int .i64) (.cons .sl (.cons .sl (.cons .sl .nil))))))))) x)) h = F_salvorlaw35_CrashWrong_3 n0 K rb x h := by kernel_rfl
set_option maxRecDepth 100000 in
theorem E_salvorlaw35_CrashWrong_4 (n0 : Nat) (K : Bool → HP) (rb : Nat) (x : (Int × (Int × (Int × (Int × (Int × (Int × (Sl × (Sl × (Sl × Unit)))))))))) (h : Heap) : vc Try.prog [(1000000, .bool), (100, (.cons .val .nil))] 238 Try.f6.ntmps (takeC 1 (dropC 4 (dropC 8 (dropC 1 (dropC 6 (codeOf Try.f6)))))) (thenE (meetB 6 (.cons (.int .i64) (.cons (.int .i64) (.cons (.int .i64) (.cons (.int .i64) (.cons (.int .i64) (.cons (.int .i64) (.cons .sl (.cons .sl .nil)))))))) [21, 19, 17, 15, 13, 23, 11, 7] (F_salvorlaw35_CrashWrong_5 n0 K)) (retQ Try.prog Try.f6 .bool K n0)) ((6, .pointer (some ⟨rb, 0, none⟩)) :: List.zip [19, 17, 15, 13, 23, 21, 11, 10, 7] (Ty.vals (.cons (.int .i64) (.cons (.int .i64) (.cons (.int .i64) (.cons (.int .i64) (.cons (.int .i64) (.cons (.int .i64) (.cons .sl (.cons .sl (.cons .sl .nil))))))))) x)) h = F_salvorlaw35_CrashWrong_4 n0 K rb x h := by kernel_rfl
set_option maxRecDepth 100000 in
theorem E_salvorlaw35_CrashWrong_5 (n0 : Nat) (K : Bool → HP) (rb : Nat) (x : (Int × (Int × (Int × (Int × (Int × (Int × (Sl × (Sl × Unit))))))))) (h : Heap) : vc Try.prog [(1000000, .bool), (100, (.cons .val .nil))] 238 Try.f6.ntmps (takeC 1 (dropC 1 (dropC 4 (dropC 8 (dropC 1 (dropC 6 (codeOf Try.f6))))))) (thenE (meetB 6 (.cons (.int .i64) (.cons (.int .i64) (.cons (.int .i64) (.cons (.int .i64) (.cons (.int .i64) (.cons (.int .i64) .nil)))))) [23, 21, 19, 17, 15, 13] (F_salvorlaw35_CrashWrong_6 n0 K)) (retQ Try.prog Try.f6 .bool K n0)) ((6, .pointer (some ⟨rb, 0, none⟩)) :: List.zip [21, 19, 17, 15, 13, 23, 11, 7] (Ty.vals (.cons (.int .i64) (.cons (.int .i64) (.cons (.int .i64) (.cons (.int .i64) (.cons (.int .i64) (.cons (.int .i64) (.cons .sl (.cons .sl .nil)))))))) x)) h = F_salvorlaw35_CrashWrong_5 n0 K rb x h := by kernel_rfl
set_option maxRecDepth 100000 in
theorem E_salvorlaw35_CrashWrong_6 (n0 : Nat) (K : Bool → HP) (rb : Nat) (x : (Int × (Int × (Int × (Int × (Int × (Int × Unit))))))) (h : Heap) : vc Try.prog [(1000000, .bool), (100, (.cons .val .nil))] 238 Try.f6.ntmps (dropC 1 (dropC 1 (dropC 4 (dropC 8 (dropC 1 (dropC 6 (codeOf Try.f6))))))) (retQ Try.prog Try.f6 .bool K n0) ((6, .pointer (some ⟨rb, 0, none⟩)) :: List.zip [23, 21, 19, 17, 15, 13] (Ty.vals (.cons (.int .i64) (.cons (.int .i64) (.cons (.int .i64) (.cons (.int .i64) (.cons (.int .i64) (.cons (.int .i64) .nil)))))) x)) h = F_salvorlaw35_CrashWrong_6 n0 K rb x h := by kernel_rfl
set_option maxRecDepth 100000 in
theorem S_salvorlaw35_CrashWrong {n0 : Nat} {h : Heap} (K : Bool → HP) {a0 : Sl} {a1 : Int} {a2 : Int} (hF : F_salvorlaw35_CrashWrong_0 n0 K a0 a1 a2 h) : CP Try.prog Try.f6.ntmps n0 (codeOf Try.f6) (retQ Try.prog Try.f6 .bool K n0) (argE 0 [(.slice a0.a a0.len a0.cap), (.int .u8 a1), (.int .i64 a2)]) h := by
  show CP _ _ _ (codeOf Try.f6) _ _ _
  refine CP.cutB follows 6 [8, 7] (.cons .sl (.cons .sl .nil)) (F_salvorlaw35_CrashWrong_1 n0 K) 5 (codeOf Try.f6) _ _ (by kernel_rfl) (Eq.mpr (E_salvorlaw35_CrashWrong_0 n0 K a0 a1 a2 _) hF) fun b0 x0 h0 k0 => ?_
  show CP _ _ _ (dropC 6 (codeOf Try.f6)) _ _ _
  refine CP.cutB follows 6 [11, 10, 8, 7] (.cons .sl (.cons .sl (.cons .sl (.cons .sl .nil)))) (F_salvorlaw35_CrashWrong_2 n0 K) 0 (dropC 6 (codeOf Try.f6)) _ _ (by kernel_rfl) (Eq.mpr (E_salvorlaw35_CrashWrong_1 n0 K b0 x0 _) k0) fun b1 x1 h1 k1 => ?_
  show CP _ _ _ (dropC 1 (dropC 6 (codeOf Try.f6))) _ _ _
  refine CP.cutB follows 6 [23, 21, 19, 17, 15, 13, 11, 10, 7] (.cons (.int .i64) (.cons (.int .i64) (.cons (.int .i64) (.cons (.int .i64) (.cons (.int .i64) (.cons (.int .i64) (.cons .sl (.cons .sl (.cons .sl .nil))))))))) (F_salvorlaw35_CrashWrong_3 n0 K) 7 (dropC 1 (dropC 6 (codeOf Try.f6))) _ _ (by kernel_rfl) (Eq.mpr (E_salvorlaw35_CrashWrong_2 n0 K b1 x1 _) k1) fun b2 x2 h2 k2 => ?_
  show CP _ _ _ (dropC 8 (dropC 1 (dropC 6 (codeOf Try.f6)))) _ _ _
  refine CP.cutB follows 6 [19, 17, 15, 13, 23, 21, 11, 10, 7] (.cons (.int .i64) (.cons (.int .i64) (.cons (.int .i64) (.cons (.int .i64) (.cons (.int .i64) (.cons (.int .i64) (.cons .sl (.cons .sl (.cons .sl .nil))))))))) (F_salvorlaw35_CrashWrong_4 n0 K) 3 (dropC 8 (dropC 1 (dropC 6 (codeOf Try.f6)))) _ _ (by kernel_rfl) (Eq.mpr (E_salvorlaw35_CrashWrong_3 n0 K b2 x2 _) k2) fun b3 x3 h3 k3 => ?_
  show CP _ _ _ (dropC 4 (dropC 8 (dropC 1 (dropC 6 (codeOf Try.f6))))) _ _ _
  refine CP.cutB follows 6 [21, 19, 17, 15, 13, 23, 11, 7] (.cons (.int .i64) (.cons (.int .i64) (.cons (.int .i64) (.cons (.int .i64) (.cons (.int .i64) (.cons (.int .i64) (.cons .sl (.cons .sl .nil)))))))) (F_salvorlaw35_CrashWrong_5 n0 K) 0 (dropC 4 (dropC 8 (dropC 1 (dropC 6 (codeOf Try.f6))))) _ _ (by kernel_rfl) (Eq.mpr (E_salvorlaw35_CrashWrong_4 n0 K b3 x3 _) k3) fun b4 x4 h4 k4 => ?_
  show CP _ _ _ (dropC 1 (dropC 4 (dropC 8 (dropC 1 (dropC 6 (codeOf Try.f6)))))) _ _ _
  refine CP.cutB follows 6 [23, 21, 19, 17, 15, 13] (.cons (.int .i64) (.cons (.int .i64) (.cons (.int .i64) (.cons (.int .i64) (.cons (.int .i64) (.cons (.int .i64) .nil)))))) (F_salvorlaw35_CrashWrong_6 n0 K) 0 (dropC 1 (dropC 4 (dropC 8 (dropC 1 (dropC 6 (codeOf Try.f6)))))) _ _ (by kernel_rfl) (Eq.mpr (E_salvorlaw35_CrashWrong_5 n0 K b4 x4 _) k4) fun b5 x5 h5 k5 => ?_
  show CP _ _ _ (dropC 1 (dropC 1 (dropC 4 (dropC 8 (dropC 1 (dropC 6 (codeOf Try.f6))))))) _ _ _
  exact CP.of follows (Eq.mpr (E_salvorlaw35_CrashWrong_6 n0 K b5 x5 _) k5)

end Go.Proofs.S
