/- The functions of the seat, each as a predicate over its values, printed by a program of ours, and that each is its text's. -/
import Derived.Test.YtjkgncibelojnaaGreatSx10
import Derived.KernelRfl
import Derived.Test.YtjkgncibelojnaaGreatProg
import Derived.Test.YtjkgncibelojnaaGreatClF0
set_option linter.unusedVariables false
namespace Go.Proofs.S
open Go Go.Sx Go.Proofs
def F_salvorlaw09_RatGroups (a0 : Sl) (a1 : Sl) (a2 : Int) (K : Bool → HP) : HP :=
 callT Tryz.prog fn_salvorlaw09_awake #[] .bool fun r0 =>
 brB (!r0)
 (K false)
 (callT Tryz.prog fn_salvorlaw09_Made #[(.slice a0.a a0.len a0.cap), (.slice none 0 0), (.int .i64 (10 : Int))] .sl fun r1 =>
 callT Tryz.prog fn_salvorlaw08_Made #[(.slice a1.a a1.len a1.cap)] .sl fun r2 =>
 callT Tryz.prog fn_rat_Search #[(.slice r1.a r1.len r1.cap), (.slice r2.a r2.len r2.cap)] (.tup (.cons (.agg (.cons .sl (.cons .sl (.cons .sl .nil)))) (.cons (.int .u8) (.cons .bool (.cons (.int .i64) .nil))))) fun r3 =>
 nw #[(.slice none 0 0), (.slice none 0 0), (.slice none 0 0)] ty_rat_Step fun b4 =>
 st1 (⟨b4, 0, none⟩ : Addr) (.slice r3.1.1.a r3.1.1.len r3.1.1.cap) <|
 st1 ((⟨b4, 0, none⟩ : Addr).add 1) (.slice r3.1.2.1.a r3.1.2.1.len r3.1.2.1.cap) <|
 st1 ((⟨b4, 0, none⟩ : Addr).add 2) (.slice r3.1.2.2.1.a r3.1.2.2.1.len r3.1.2.2.1.cap) <|
 jn (σ := Bool) (fun t6 =>
 jn (σ := Bool) (fun t8 =>
 brB t8
 (K (r3.2.2.2.1 == (0 : Int)))
 (sx r2.a r2.len (0 : Int) 1 fun p9 =>
 ldT (.int .i64) p9 fun x10 =>
 callT Tryz.prog fn_rat_Candidates #[(.slice r1.a r1.len r1.cap), (.int .i64 x10)] (.tup (.cons .sl (.cons (.int .i64) .nil))) fun r11 =>
 jn (σ := Bool) (fun t13 =>
 brB t13
 (K false)
 (sx r2.a r2.len (0 : Int) 1 fun p14 =>
 ldT (.int .i64) p14 fun x15 =>
 sx r2.a r2.len (0 : Int) 1 fun p16 =>
 ldT (.int .i64) p16 fun x17 =>
 sx r2.a r2.len (0 : Int) 1 fun p18 =>
 ldT (.int .i64) p18 fun x19 =>
 cj
 (callT Tryz.prog fn_slices_Clone_rat_Entry_rat_Entry #[(.slice r1.a r1.len r1.cap)] .sl fun r20 =>
 ck p18 (.int .i64 x19) <|
 ck p16 (.int .i64 x17) <|
 ck p14 (.int .i64 x15) <|
 cj
 (nw #[(.int .i64 (20 : Int)), (.int .i64 x15)] ty_lits_Lit fun b21 =>
 nw #[(.int .i64 (IntKind.wrap .i64 (0 - x17))), (.int .i64 x19)] ty_lits_Lit fun b22 =>
 nw #[(.int .i64 (900 : Int)), (.slice (some (⟨b21, 0, none⟩ : Addr)) 2 2), (.int .i64 (901 : Int)), (.slice (some (⟨b22, 0, none⟩ : Addr)) 2 2)] ty_rat_Entry fun b23 =>
 apd ty_rat_Entry 2 32 #[(.int .i64 (0 : Int)), (.slice none 0 0)] ⟨r20.a, r20.len, r20.cap⟩ ⟨(some (⟨b23, 0, none⟩ : Addr)), 2, 2⟩ fun s24 =>
 ldA (.cons .sl (.cons .sl (.cons .sl .nil))) (⟨b4, 0, none⟩ : Addr) fun x25 =>
 callT Tryz.prog fn_rat_Check #[(.slice s24.a s24.len s24.cap), (.agg #[(.slice x25.1.a x25.1.len x25.1.cap), (.slice x25.2.1.a x25.2.1.len x25.2.1.cap), (.slice x25.2.2.1.a x25.2.2.1.len x25.2.2.1.cap)])] (.tup (.cons (.int .u8) (.cons (.int .i64) (.cons (.int .i64) .nil)))) fun r26 =>
 jn (σ := Bool) (fun t28 =>
 brB t28
 (K false)
 (ldA (.cons .sl (.cons .sl (.cons .sl .nil))) (⟨b4, 0, none⟩ : Addr) fun x29 =>
 nw #[(.slice none 0 0), (.slice none 0 0), (.slice none 0 0)] ty_rat_Step fun b30 =>
 st1 (⟨b30, 0, none⟩ : Addr) (.slice x29.1.a x29.1.len x29.1.cap) <|
 st1 ((⟨b30, 0, none⟩ : Addr).add 1) (.slice x29.2.1.a x29.2.1.len x29.2.1.cap) <|
 st1 ((⟨b30, 0, none⟩ : Addr).add 2) (.slice x29.2.2.1.a x29.2.2.1.len x29.2.2.1.cap) <|
 ldT .sl ((⟨b4, 0, none⟩ : Addr).add 2) fun x31 =>
 callT Tryz.prog fn_slices_Clone_rat_Group_rat_Group #[(.slice x31.a x31.len x31.cap)] .sl fun r32 =>
 nw #[(.int .i64 (900 : Int)), (.slice none 0 0)] ty_rat_Group fun b33 =>
 apd ty_rat_Group 2 32 #[(.int .i64 (0 : Int)), (.slice none 0 0)] ⟨r32.a, r32.len, r32.cap⟩ ⟨(some (⟨b33, 0, none⟩ : Addr)), 1, 1⟩ fun s34 =>
 st1 ((⟨b30, 0, none⟩ : Addr).add 2) (.slice s34.a s34.len s34.cap) <|
 ldA (.cons .sl (.cons .sl (.cons .sl .nil))) (⟨b30, 0, none⟩ : Addr) fun x35 =>
 callT Tryz.prog fn_rat_Check #[(.slice s24.a s24.len s24.cap), (.agg #[(.slice x35.1.a x35.1.len x35.1.cap), (.slice x35.2.1.a x35.2.1.len x35.2.1.cap), (.slice x35.2.2.1.a x35.2.2.1.len x35.2.2.1.cap)])] (.tup (.cons (.int .u8) (.cons (.int .i64) (.cons (.int .i64) .nil)))) fun r36 =>
 jn (σ := Bool) (fun t38 =>
 brB t38
 (K false)
 (brB ((r11.1.len : Int) == (0 : Int))
 (K true)
 (nz (r11.1.len : Int) <|
 ldT .sl ((⟨b4, 0, none⟩ : Addr).add 2) fun x39 =>
 sx x39.a x39.len (Int.tmod (IntKind.wrap .i64 a2) (r11.1.len : Int)) 2 fun p40 =>
 ldT (.int .i64) p40 fun x41 =>
 sx r11.1.a r11.1.len (Int.tmod (IntKind.wrap .i64 a2) (r11.1.len : Int)) 1 fun p42 =>
 ldT (.int .i64) p42 fun x43 =>
 brB (x41 != x43)
 (K false)
 (ldT .sl ((⟨b4, 0, none⟩ : Addr).add 2) fun x44 =>
 callT Tryz.prog fn_slices_Clone_rat_Group_rat_Group #[(.slice x44.a x44.len x44.cap)] .sl fun r45 =>
 callT Tryz.prog fn_slices_Delete_rat_Group_rat_Group #[(.slice r45.a r45.len r45.cap), (.int .i64 (Int.tmod (IntKind.wrap .i64 a2) (r11.1.len : Int))), (.int .i64 (IntKind.wrap .i64 ((Int.tmod (IntKind.wrap .i64 a2) (r11.1.len : Int)) + (1 : Int))))] .sl fun r46 =>
 st1 ((⟨b30, 0, none⟩ : Addr).add 2) (.slice r46.a r46.len r46.cap) <|
 ldA (.cons .sl (.cons .sl (.cons .sl .nil))) (⟨b30, 0, none⟩ : Addr) fun x47 =>
 callT Tryz.prog fn_rat_Check #[(.slice r1.a r1.len r1.cap), (.agg #[(.slice x47.1.a x47.1.len x47.1.cap), (.slice x47.2.1.a x47.2.1.len x47.2.1.cap), (.slice x47.2.2.1.a x47.2.2.1.len x47.2.2.1.cap)])] (.tup (.cons (.int .u8) (.cons (.int .i64) (.cons (.int .i64) .nil)))) fun r48 =>
 sx r11.1.a r11.1.len (Int.tmod (IntKind.wrap .i64 a2) (r11.1.len : Int)) 1 fun p49 =>
 ldT (.int .i64) p49 fun x50 =>
 jn (σ := Bool) (fun t52 =>
 brB t52
 (K false)
 (ldT .sl ((⟨b4, 0, none⟩ : Addr).add 2) fun x53 =>
 ldT .sl ((⟨b4, 0, none⟩ : Addr).add 2) fun x54 =>
 sx x54.a x54.len (Int.tmod (IntKind.wrap .i64 a2) (r11.1.len : Int)) 2 fun p55 =>
 ldA (.cons (.int .i64) (.cons .sl .nil)) p55 fun x56 =>
 cj
 (callT Tryz.prog fn_slices_Clone_rat_Group_rat_Group #[(.slice x53.a x53.len x53.cap)] .sl fun r57 =>
 ckA p55 [(.int .i64 x56.1), (.slice x56.2.1.a x56.2.1.len x56.2.1.cap)] <|
 ck ((⟨b4, 0, none⟩ : Addr).add 2) (.slice x54.a x54.len x54.cap) <|
 nw #[(.int .i64 x56.1), (.slice x56.2.1.a x56.2.1.len x56.2.1.cap)] ty_rat_Group fun b58 =>
 apd ty_rat_Group 2 32 #[(.int .i64 (0 : Int)), (.slice none 0 0)] ⟨r57.a, r57.len, r57.cap⟩ ⟨(some (⟨b58, 0, none⟩ : Addr)), 1, 1⟩ fun s59 =>
 st1 ((⟨b30, 0, none⟩ : Addr).add 2) (.slice s59.a s59.len s59.cap) <|
 ldA (.cons .sl (.cons .sl (.cons .sl .nil))) (⟨b30, 0, none⟩ : Addr) fun x60 =>
 callT Tryz.prog fn_rat_Check #[(.slice r1.a r1.len r1.cap), (.agg #[(.slice x60.1.a x60.1.len x60.1.cap), (.slice x60.2.1.a x60.2.1.len x60.2.1.cap), (.slice x60.2.2.1.a x60.2.2.1.len x60.2.2.1.cap)])] (.tup (.cons (.int .u8) (.cons (.int .i64) (.cons (.int .i64) .nil)))) fun r61 =>
 sx r11.1.a r11.1.len (Int.tmod (IntKind.wrap .i64 a2) (r11.1.len : Int)) 1 fun p62 =>
 ldT (.int .i64) p62 fun x63 =>
 jn (σ := Bool) (fun t65 =>
 K t65)
 (fun J64 =>
 brB (r61.2.1 == x63)
 (J64 ((r61.2.2.1 == (92 : Int))))
 (J64 false)))
 (nw #[(.int .i64 x56.1), (.slice x56.2.1.a x56.2.1.len x56.2.1.cap)] ty_rat_Group fun b66 =>
 callT Tryz.prog fn_slices_Clone_rat_Group_rat_Group #[(.slice x53.a x53.len x53.cap)] .sl fun r67 =>
 ckA p55 [(.int .i64 x56.1), (.slice x56.2.1.a x56.2.1.len x56.2.1.cap)] <|
 ck ((⟨b4, 0, none⟩ : Addr).add 2) (.slice x54.a x54.len x54.cap) <|
 apd ty_rat_Group 2 32 #[(.int .i64 (0 : Int)), (.slice none 0 0)] ⟨r67.a, r67.len, r67.cap⟩ ⟨(some (⟨b66, 0, none⟩ : Addr)), 1, 1⟩ fun s68 =>
 st1 ((⟨b30, 0, none⟩ : Addr).add 2) (.slice s68.a s68.len s68.cap) <|
 ldA (.cons .sl (.cons .sl (.cons .sl .nil))) (⟨b30, 0, none⟩ : Addr) fun x69 =>
 callT Tryz.prog fn_rat_Check #[(.slice r1.a r1.len r1.cap), (.agg #[(.slice x69.1.a x69.1.len x69.1.cap), (.slice x69.2.1.a x69.2.1.len x69.2.1.cap), (.slice x69.2.2.1.a x69.2.2.1.len x69.2.2.1.cap)])] (.tup (.cons (.int .u8) (.cons (.int .i64) (.cons (.int .i64) .nil)))) fun r70 =>
 sx r11.1.a r11.1.len (Int.tmod (IntKind.wrap .i64 a2) (r11.1.len : Int)) 1 fun p71 =>
 ldT (.int .i64) p71 fun x72 =>
 jn (σ := Bool) (fun t74 =>
 K t74)
 (fun J73 =>
 brB (r70.2.1 == x72)
 (J73 ((r70.2.2.1 == (92 : Int))))
 (J73 false)))))
 (fun J51 =>
 brB (r48.2.1 != x50)
 (J51 true)
 (J51 ((r48.2.2.1 != (92 : Int)))))))))
 (fun J37 =>
 brB (r36.2.1 != (900 : Int))
 (J37 true)
 (J37 ((r36.2.2.1 != (92 : Int)))))))
 (fun J27 =>
 brB (r26.2.2.1 != (0 : Int))
 (J27 true)
 (J27 ((r26.1 != (2 : Int))))))
 (nw #[(.int .i64 (IntKind.wrap .i64 (0 - x17))), (.int .i64 x19)] ty_lits_Lit fun b75 =>
 nw #[(.int .i64 (20 : Int)), (.int .i64 x15)] ty_lits_Lit fun b76 =>
 nw #[(.int .i64 (900 : Int)), (.slice (some (⟨b76, 0, none⟩ : Addr)) 2 2), (.int .i64 (901 : Int)), (.slice (some (⟨b75, 0, none⟩ : Addr)) 2 2)] ty_rat_Entry fun b77 =>
 apd ty_rat_Entry 2 32 #[(.int .i64 (0 : Int)), (.slice none 0 0)] ⟨r20.a, r20.len, r20.cap⟩ ⟨(some (⟨b77, 0, none⟩ : Addr)), 2, 2⟩ fun s78 =>
 ldA (.cons .sl (.cons .sl (.cons .sl .nil))) (⟨b4, 0, none⟩ : Addr) fun x79 =>
 callT Tryz.prog fn_rat_Check #[(.slice s78.a s78.len s78.cap), (.agg #[(.slice x79.1.a x79.1.len x79.1.cap), (.slice x79.2.1.a x79.2.1.len x79.2.1.cap), (.slice x79.2.2.1.a x79.2.2.1.len x79.2.2.1.cap)])] (.tup (.cons (.int .u8) (.cons (.int .i64) (.cons (.int .i64) .nil)))) fun r80 =>
 jn (σ := Bool) (fun t82 =>
 brB t82
 (K false)
 (ldA (.cons .sl (.cons .sl (.cons .sl .nil))) (⟨b4, 0, none⟩ : Addr) fun x83 =>
 nw #[(.slice none 0 0), (.slice none 0 0), (.slice none 0 0)] ty_rat_Step fun b84 =>
 st1 (⟨b84, 0, none⟩ : Addr) (.slice x83.1.a x83.1.len x83.1.cap) <|
 st1 ((⟨b84, 0, none⟩ : Addr).add 1) (.slice x83.2.1.a x83.2.1.len x83.2.1.cap) <|
 st1 ((⟨b84, 0, none⟩ : Addr).add 2) (.slice x83.2.2.1.a x83.2.2.1.len x83.2.2.1.cap) <|
 ldT .sl ((⟨b4, 0, none⟩ : Addr).add 2) fun x85 =>
 callT Tryz.prog fn_slices_Clone_rat_Group_rat_Group #[(.slice x85.a x85.len x85.cap)] .sl fun r86 =>
 nw #[(.int .i64 (900 : Int)), (.slice none 0 0)] ty_rat_Group fun b87 =>
 apd ty_rat_Group 2 32 #[(.int .i64 (0 : Int)), (.slice none 0 0)] ⟨r86.a, r86.len, r86.cap⟩ ⟨(some (⟨b87, 0, none⟩ : Addr)), 1, 1⟩ fun s88 =>
 st1 ((⟨b84, 0, none⟩ : Addr).add 2) (.slice s88.a s88.len s88.cap) <|
 ldA (.cons .sl (.cons .sl (.cons .sl .nil))) (⟨b84, 0, none⟩ : Addr) fun x89 =>
 callT Tryz.prog fn_rat_Check #[(.slice s78.a s78.len s78.cap), (.agg #[(.slice x89.1.a x89.1.len x89.1.cap), (.slice x89.2.1.a x89.2.1.len x89.2.1.cap), (.slice x89.2.2.1.a x89.2.2.1.len x89.2.2.1.cap)])] (.tup (.cons (.int .u8) (.cons (.int .i64) (.cons (.int .i64) .nil)))) fun r90 =>
 jn (σ := Bool) (fun t92 =>
 brB t92
 (K false)
 (brB ((r11.1.len : Int) == (0 : Int))
 (K true)
 (nz (r11.1.len : Int) <|
 ldT .sl ((⟨b4, 0, none⟩ : Addr).add 2) fun x93 =>
 sx x93.a x93.len (Int.tmod (IntKind.wrap .i64 a2) (r11.1.len : Int)) 2 fun p94 =>
 ldT (.int .i64) p94 fun x95 =>
 sx r11.1.a r11.1.len (Int.tmod (IntKind.wrap .i64 a2) (r11.1.len : Int)) 1 fun p96 =>
 ldT (.int .i64) p96 fun x97 =>
 brB (x95 != x97)
 (K false)
 (ldT .sl ((⟨b4, 0, none⟩ : Addr).add 2) fun x98 =>
 callT Tryz.prog fn_slices_Clone_rat_Group_rat_Group #[(.slice x98.a x98.len x98.cap)] .sl fun r99 =>
 callT Tryz.prog fn_slices_Delete_rat_Group_rat_Group #[(.slice r99.a r99.len r99.cap), (.int .i64 (Int.tmod (IntKind.wrap .i64 a2) (r11.1.len : Int))), (.int .i64 (IntKind.wrap .i64 ((Int.tmod (IntKind.wrap .i64 a2) (r11.1.len : Int)) + (1 : Int))))] .sl fun r100 =>
 st1 ((⟨b84, 0, none⟩ : Addr).add 2) (.slice r100.a r100.len r100.cap) <|
 ldA (.cons .sl (.cons .sl (.cons .sl .nil))) (⟨b84, 0, none⟩ : Addr) fun x101 =>
 callT Tryz.prog fn_rat_Check #[(.slice r1.a r1.len r1.cap), (.agg #[(.slice x101.1.a x101.1.len x101.1.cap), (.slice x101.2.1.a x101.2.1.len x101.2.1.cap), (.slice x101.2.2.1.a x101.2.2.1.len x101.2.2.1.cap)])] (.tup (.cons (.int .u8) (.cons (.int .i64) (.cons (.int .i64) .nil)))) fun r102 =>
 sx r11.1.a r11.1.len (Int.tmod (IntKind.wrap .i64 a2) (r11.1.len : Int)) 1 fun p103 =>
 ldT (.int .i64) p103 fun x104 =>
 jn (σ := Bool) (fun t106 =>
 brB t106
 (K false)
 (ldT .sl ((⟨b4, 0, none⟩ : Addr).add 2) fun x107 =>
 ldT .sl ((⟨b4, 0, none⟩ : Addr).add 2) fun x108 =>
 sx x108.a x108.len (Int.tmod (IntKind.wrap .i64 a2) (r11.1.len : Int)) 2 fun p109 =>
 ldA (.cons (.int .i64) (.cons .sl .nil)) p109 fun x110 =>
 cj
 (callT Tryz.prog fn_slices_Clone_rat_Group_rat_Group #[(.slice x107.a x107.len x107.cap)] .sl fun r111 =>
 ckA p109 [(.int .i64 x110.1), (.slice x110.2.1.a x110.2.1.len x110.2.1.cap)] <|
 ck ((⟨b4, 0, none⟩ : Addr).add 2) (.slice x108.a x108.len x108.cap) <|
 nw #[(.int .i64 x110.1), (.slice x110.2.1.a x110.2.1.len x110.2.1.cap)] ty_rat_Group fun b112 =>
 apd ty_rat_Group 2 32 #[(.int .i64 (0 : Int)), (.slice none 0 0)] ⟨r111.a, r111.len, r111.cap⟩ ⟨(some (⟨b112, 0, none⟩ : Addr)), 1, 1⟩ fun s113 =>
 st1 ((⟨b84, 0, none⟩ : Addr).add 2) (.slice s113.a s113.len s113.cap) <|
 ldA (.cons .sl (.cons .sl (.cons .sl .nil))) (⟨b84, 0, none⟩ : Addr) fun x114 =>
 callT Tryz.prog fn_rat_Check #[(.slice r1.a r1.len r1.cap), (.agg #[(.slice x114.1.a x114.1.len x114.1.cap), (.slice x114.2.1.a x114.2.1.len x114.2.1.cap), (.slice x114.2.2.1.a x114.2.2.1.len x114.2.2.1.cap)])] (.tup (.cons (.int .u8) (.cons (.int .i64) (.cons (.int .i64) .nil)))) fun r115 =>
 sx r11.1.a r11.1.len (Int.tmod (IntKind.wrap .i64 a2) (r11.1.len : Int)) 1 fun p116 =>
 ldT (.int .i64) p116 fun x117 =>
 jn (σ := Bool) (fun t119 =>
 K t119)
 (fun J118 =>
 brB (r115.2.1 == x117)
 (J118 ((r115.2.2.1 == (92 : Int))))
 (J118 false)))
 (nw #[(.int .i64 x110.1), (.slice x110.2.1.a x110.2.1.len x110.2.1.cap)] ty_rat_Group fun b120 =>
 callT Tryz.prog fn_slices_Clone_rat_Group_rat_Group #[(.slice x107.a x107.len x107.cap)] .sl fun r121 =>
 ckA p109 [(.int .i64 x110.1), (.slice x110.2.1.a x110.2.1.len x110.2.1.cap)] <|
 ck ((⟨b4, 0, none⟩ : Addr).add 2) (.slice x108.a x108.len x108.cap) <|
 apd ty_rat_Group 2 32 #[(.int .i64 (0 : Int)), (.slice none 0 0)] ⟨r121.a, r121.len, r121.cap⟩ ⟨(some (⟨b120, 0, none⟩ : Addr)), 1, 1⟩ fun s122 =>
 st1 ((⟨b84, 0, none⟩ : Addr).add 2) (.slice s122.a s122.len s122.cap) <|
 ldA (.cons .sl (.cons .sl (.cons .sl .nil))) (⟨b84, 0, none⟩ : Addr) fun x123 =>
 callT Tryz.prog fn_rat_Check #[(.slice r1.a r1.len r1.cap), (.agg #[(.slice x123.1.a x123.1.len x123.1.cap), (.slice x123.2.1.a x123.2.1.len x123.2.1.cap), (.slice x123.2.2.1.a x123.2.2.1.len x123.2.2.1.cap)])] (.tup (.cons (.int .u8) (.cons (.int .i64) (.cons (.int .i64) .nil)))) fun r124 =>
 sx r11.1.a r11.1.len (Int.tmod (IntKind.wrap .i64 a2) (r11.1.len : Int)) 1 fun p125 =>
 ldT (.int .i64) p125 fun x126 =>
 jn (σ := Bool) (fun t128 =>
 K t128)
 (fun J127 =>
 brB (r124.2.1 == x126)
 (J127 ((r124.2.2.1 == (92 : Int))))
 (J127 false)))))
 (fun J105 =>
 brB (r102.2.1 != x104)
 (J105 true)
 (J105 ((r102.2.2.1 != (92 : Int)))))))))
 (fun J91 =>
 brB (r90.2.1 != (900 : Int))
 (J91 true)
 (J91 ((r90.2.2.1 != (92 : Int)))))))
 (fun J81 =>
 brB (r80.2.2.1 != (0 : Int))
 (J81 true)
 (J81 ((r80.1 != (2 : Int)))))))
 (cj
 (nw #[(.int .i64 (20 : Int)), (.int .i64 x15)] ty_lits_Lit fun b129 =>
 cj
 (callT Tryz.prog fn_slices_Clone_rat_Entry_rat_Entry #[(.slice r1.a r1.len r1.cap)] .sl fun r130 =>
 ck p18 (.int .i64 x19) <|
 ck p16 (.int .i64 x17) <|
 ck p14 (.int .i64 x15) <|
 nw #[(.int .i64 (IntKind.wrap .i64 (0 - x17))), (.int .i64 x19)] ty_lits_Lit fun b131 =>
 nw #[(.int .i64 (900 : Int)), (.slice (some (⟨b129, 0, none⟩ : Addr)) 2 2), (.int .i64 (901 : Int)), (.slice (some (⟨b131, 0, none⟩ : Addr)) 2 2)] ty_rat_Entry fun b132 =>
 apd ty_rat_Entry 2 32 #[(.int .i64 (0 : Int)), (.slice none 0 0)] ⟨r130.a, r130.len, r130.cap⟩ ⟨(some (⟨b132, 0, none⟩ : Addr)), 2, 2⟩ fun s133 =>
 ldA (.cons .sl (.cons .sl (.cons .sl .nil))) (⟨b4, 0, none⟩ : Addr) fun x134 =>
 callT Tryz.prog fn_rat_Check #[(.slice s133.a s133.len s133.cap), (.agg #[(.slice x134.1.a x134.1.len x134.1.cap), (.slice x134.2.1.a x134.2.1.len x134.2.1.cap), (.slice x134.2.2.1.a x134.2.2.1.len x134.2.2.1.cap)])] (.tup (.cons (.int .u8) (.cons (.int .i64) (.cons (.int .i64) .nil)))) fun r135 =>
 jn (σ := Bool) (fun t137 =>
 brB t137
 (K false)
 (ldA (.cons .sl (.cons .sl (.cons .sl .nil))) (⟨b4, 0, none⟩ : Addr) fun x138 =>
 nw #[(.slice none 0 0), (.slice none 0 0), (.slice none 0 0)] ty_rat_Step fun b139 =>
 st1 (⟨b139, 0, none⟩ : Addr) (.slice x138.1.a x138.1.len x138.1.cap) <|
 st1 ((⟨b139, 0, none⟩ : Addr).add 1) (.slice x138.2.1.a x138.2.1.len x138.2.1.cap) <|
 st1 ((⟨b139, 0, none⟩ : Addr).add 2) (.slice x138.2.2.1.a x138.2.2.1.len x138.2.2.1.cap) <|
 ldT .sl ((⟨b4, 0, none⟩ : Addr).add 2) fun x140 =>
 callT Tryz.prog fn_slices_Clone_rat_Group_rat_Group #[(.slice x140.a x140.len x140.cap)] .sl fun r141 =>
 nw #[(.int .i64 (900 : Int)), (.slice none 0 0)] ty_rat_Group fun b142 =>
 apd ty_rat_Group 2 32 #[(.int .i64 (0 : Int)), (.slice none 0 0)] ⟨r141.a, r141.len, r141.cap⟩ ⟨(some (⟨b142, 0, none⟩ : Addr)), 1, 1⟩ fun s143 =>
 st1 ((⟨b139, 0, none⟩ : Addr).add 2) (.slice s143.a s143.len s143.cap) <|
 ldA (.cons .sl (.cons .sl (.cons .sl .nil))) (⟨b139, 0, none⟩ : Addr) fun x144 =>
 callT Tryz.prog fn_rat_Check #[(.slice s133.a s133.len s133.cap), (.agg #[(.slice x144.1.a x144.1.len x144.1.cap), (.slice x144.2.1.a x144.2.1.len x144.2.1.cap), (.slice x144.2.2.1.a x144.2.2.1.len x144.2.2.1.cap)])] (.tup (.cons (.int .u8) (.cons (.int .i64) (.cons (.int .i64) .nil)))) fun r145 =>
 jn (σ := Bool) (fun t147 =>
 brB t147
 (K false)
 (brB ((r11.1.len : Int) == (0 : Int))
 (K true)
 (nz (r11.1.len : Int) <|
 ldT .sl ((⟨b4, 0, none⟩ : Addr).add 2) fun x148 =>
 sx x148.a x148.len (Int.tmod (IntKind.wrap .i64 a2) (r11.1.len : Int)) 2 fun p149 =>
 ldT (.int .i64) p149 fun x150 =>
 sx r11.1.a r11.1.len (Int.tmod (IntKind.wrap .i64 a2) (r11.1.len : Int)) 1 fun p151 =>
 ldT (.int .i64) p151 fun x152 =>
 brB (x150 != x152)
 (K false)
 (ldT .sl ((⟨b4, 0, none⟩ : Addr).add 2) fun x153 =>
 callT Tryz.prog fn_slices_Clone_rat_Group_rat_Group #[(.slice x153.a x153.len x153.cap)] .sl fun r154 =>
 callT Tryz.prog fn_slices_Delete_rat_Group_rat_Group #[(.slice r154.a r154.len r154.cap), (.int .i64 (Int.tmod (IntKind.wrap .i64 a2) (r11.1.len : Int))), (.int .i64 (IntKind.wrap .i64 ((Int.tmod (IntKind.wrap .i64 a2) (r11.1.len : Int)) + (1 : Int))))] .sl fun r155 =>
 st1 ((⟨b139, 0, none⟩ : Addr).add 2) (.slice r155.a r155.len r155.cap) <|
 ldA (.cons .sl (.cons .sl (.cons .sl .nil))) (⟨b139, 0, none⟩ : Addr) fun x156 =>
 callT Tryz.prog fn_rat_Check #[(.slice r1.a r1.len r1.cap), (.agg #[(.slice x156.1.a x156.1.len x156.1.cap), (.slice x156.2.1.a x156.2.1.len x156.2.1.cap), (.slice x156.2.2.1.a x156.2.2.1.len x156.2.2.1.cap)])] (.tup (.cons (.int .u8) (.cons (.int .i64) (.cons (.int .i64) .nil)))) fun r157 =>
 sx r11.1.a r11.1.len (Int.tmod (IntKind.wrap .i64 a2) (r11.1.len : Int)) 1 fun p158 =>
 ldT (.int .i64) p158 fun x159 =>
 jn (σ := Bool) (fun t161 =>
 brB t161
 (K false)
 (ldT .sl ((⟨b4, 0, none⟩ : Addr).add 2) fun x162 =>
 ldT .sl ((⟨b4, 0, none⟩ : Addr).add 2) fun x163 =>
 sx x163.a x163.len (Int.tmod (IntKind.wrap .i64 a2) (r11.1.len : Int)) 2 fun p164 =>
 ldA (.cons (.int .i64) (.cons .sl .nil)) p164 fun x165 =>
 cj
 (callT Tryz.prog fn_slices_Clone_rat_Group_rat_Group #[(.slice x162.a x162.len x162.cap)] .sl fun r166 =>
 ckA p164 [(.int .i64 x165.1), (.slice x165.2.1.a x165.2.1.len x165.2.1.cap)] <|
 ck ((⟨b4, 0, none⟩ : Addr).add 2) (.slice x163.a x163.len x163.cap) <|
 nw #[(.int .i64 x165.1), (.slice x165.2.1.a x165.2.1.len x165.2.1.cap)] ty_rat_Group fun b167 =>
 apd ty_rat_Group 2 32 #[(.int .i64 (0 : Int)), (.slice none 0 0)] ⟨r166.a, r166.len, r166.cap⟩ ⟨(some (⟨b167, 0, none⟩ : Addr)), 1, 1⟩ fun s168 =>
 st1 ((⟨b139, 0, none⟩ : Addr).add 2) (.slice s168.a s168.len s168.cap) <|
 ldA (.cons .sl (.cons .sl (.cons .sl .nil))) (⟨b139, 0, none⟩ : Addr) fun x169 =>
 callT Tryz.prog fn_rat_Check #[(.slice r1.a r1.len r1.cap), (.agg #[(.slice x169.1.a x169.1.len x169.1.cap), (.slice x169.2.1.a x169.2.1.len x169.2.1.cap), (.slice x169.2.2.1.a x169.2.2.1.len x169.2.2.1.cap)])] (.tup (.cons (.int .u8) (.cons (.int .i64) (.cons (.int .i64) .nil)))) fun r170 =>
 sx r11.1.a r11.1.len (Int.tmod (IntKind.wrap .i64 a2) (r11.1.len : Int)) 1 fun p171 =>
 ldT (.int .i64) p171 fun x172 =>
 jn (σ := Bool) (fun t174 =>
 K t174)
 (fun J173 =>
 brB (r170.2.1 == x172)
 (J173 ((r170.2.2.1 == (92 : Int))))
 (J173 false)))
 (nw #[(.int .i64 x165.1), (.slice x165.2.1.a x165.2.1.len x165.2.1.cap)] ty_rat_Group fun b175 =>
 callT Tryz.prog fn_slices_Clone_rat_Group_rat_Group #[(.slice x162.a x162.len x162.cap)] .sl fun r176 =>
 ckA p164 [(.int .i64 x165.1), (.slice x165.2.1.a x165.2.1.len x165.2.1.cap)] <|
 ck ((⟨b4, 0, none⟩ : Addr).add 2) (.slice x163.a x163.len x163.cap) <|
 apd ty_rat_Group 2 32 #[(.int .i64 (0 : Int)), (.slice none 0 0)] ⟨r176.a, r176.len, r176.cap⟩ ⟨(some (⟨b175, 0, none⟩ : Addr)), 1, 1⟩ fun s177 =>
 st1 ((⟨b139, 0, none⟩ : Addr).add 2) (.slice s177.a s177.len s177.cap) <|
 ldA (.cons .sl (.cons .sl (.cons .sl .nil))) (⟨b139, 0, none⟩ : Addr) fun x178 =>
 callT Tryz.prog fn_rat_Check #[(.slice r1.a r1.len r1.cap), (.agg #[(.slice x178.1.a x178.1.len x178.1.cap), (.slice x178.2.1.a x178.2.1.len x178.2.1.cap), (.slice x178.2.2.1.a x178.2.2.1.len x178.2.2.1.cap)])] (.tup (.cons (.int .u8) (.cons (.int .i64) (.cons (.int .i64) .nil)))) fun r179 =>
 sx r11.1.a r11.1.len (Int.tmod (IntKind.wrap .i64 a2) (r11.1.len : Int)) 1 fun p180 =>
 ldT (.int .i64) p180 fun x181 =>
 jn (σ := Bool) (fun t183 =>
 K t183)
 (fun J182 =>
 brB (r179.2.1 == x181)
 (J182 ((r179.2.2.1 == (92 : Int))))
 (J182 false)))))
 (fun J160 =>
 brB (r157.2.1 != x159)
 (J160 true)
 (J160 ((r157.2.2.1 != (92 : Int)))))))))
 (fun J146 =>
 brB (r145.2.1 != (900 : Int))
 (J146 true)
 (J146 ((r145.2.2.1 != (92 : Int)))))))
 (fun J136 =>
 brB (r135.2.2.1 != (0 : Int))
 (J136 true)
 (J136 ((r135.1 != (2 : Int))))))
 (nw #[(.int .i64 (IntKind.wrap .i64 (0 - x17))), (.int .i64 x19)] ty_lits_Lit fun b184 =>
 cj
 (callT Tryz.prog fn_slices_Clone_rat_Entry_rat_Entry #[(.slice r1.a r1.len r1.cap)] .sl fun r185 =>
 ck p18 (.int .i64 x19) <|
 ck p16 (.int .i64 x17) <|
 ck p14 (.int .i64 x15) <|
 nw #[(.int .i64 (900 : Int)), (.slice (some (⟨b129, 0, none⟩ : Addr)) 2 2), (.int .i64 (901 : Int)), (.slice (some (⟨b184, 0, none⟩ : Addr)) 2 2)] ty_rat_Entry fun b186 =>
 apd ty_rat_Entry 2 32 #[(.int .i64 (0 : Int)), (.slice none 0 0)] ⟨r185.a, r185.len, r185.cap⟩ ⟨(some (⟨b186, 0, none⟩ : Addr)), 2, 2⟩ fun s187 =>
 ldA (.cons .sl (.cons .sl (.cons .sl .nil))) (⟨b4, 0, none⟩ : Addr) fun x188 =>
 callT Tryz.prog fn_rat_Check #[(.slice s187.a s187.len s187.cap), (.agg #[(.slice x188.1.a x188.1.len x188.1.cap), (.slice x188.2.1.a x188.2.1.len x188.2.1.cap), (.slice x188.2.2.1.a x188.2.2.1.len x188.2.2.1.cap)])] (.tup (.cons (.int .u8) (.cons (.int .i64) (.cons (.int .i64) .nil)))) fun r189 =>
 jn (σ := Bool) (fun t191 =>
 brB t191
 (K false)
 (ldA (.cons .sl (.cons .sl (.cons .sl .nil))) (⟨b4, 0, none⟩ : Addr) fun x192 =>
 nw #[(.slice none 0 0), (.slice none 0 0), (.slice none 0 0)] ty_rat_Step fun b193 =>
 st1 (⟨b193, 0, none⟩ : Addr) (.slice x192.1.a x192.1.len x192.1.cap) <|
 st1 ((⟨b193, 0, none⟩ : Addr).add 1) (.slice x192.2.1.a x192.2.1.len x192.2.1.cap) <|
 st1 ((⟨b193, 0, none⟩ : Addr).add 2) (.slice x192.2.2.1.a x192.2.2.1.len x192.2.2.1.cap) <|
 ldT .sl ((⟨b4, 0, none⟩ : Addr).add 2) fun x194 =>
 callT Tryz.prog fn_slices_Clone_rat_Group_rat_Group #[(.slice x194.a x194.len x194.cap)] .sl fun r195 =>
 nw #[(.int .i64 (900 : Int)), (.slice none 0 0)] ty_rat_Group fun b196 =>
 apd ty_rat_Group 2 32 #[(.int .i64 (0 : Int)), (.slice none 0 0)] ⟨r195.a, r195.len, r195.cap⟩ ⟨(some (⟨b196, 0, none⟩ : Addr)), 1, 1⟩ fun s197 =>
 st1 ((⟨b193, 0, none⟩ : Addr).add 2) (.slice s197.a s197.len s197.cap) <|
 ldA (.cons .sl (.cons .sl (.cons .sl .nil))) (⟨b193, 0, none⟩ : Addr) fun x198 =>
 callT Tryz.prog fn_rat_Check #[(.slice s187.a s187.len s187.cap), (.agg #[(.slice x198.1.a x198.1.len x198.1.cap), (.slice x198.2.1.a x198.2.1.len x198.2.1.cap), (.slice x198.2.2.1.a x198.2.2.1.len x198.2.2.1.cap)])] (.tup (.cons (.int .u8) (.cons (.int .i64) (.cons (.int .i64) .nil)))) fun r199 =>
 jn (σ := Bool) (fun t201 =>
 brB t201
 (K false)
 (brB ((r11.1.len : Int) == (0 : Int))
 (K true)
 (nz (r11.1.len : Int) <|
 ldT .sl ((⟨b4, 0, none⟩ : Addr).add 2) fun x202 =>
 sx x202.a x202.len (Int.tmod (IntKind.wrap .i64 a2) (r11.1.len : Int)) 2 fun p203 =>
 ldT (.int .i64) p203 fun x204 =>
 sx r11.1.a r11.1.len (Int.tmod (IntKind.wrap .i64 a2) (r11.1.len : Int)) 1 fun p205 =>
 ldT (.int .i64) p205 fun x206 =>
 brB (x204 != x206)
 (K false)
 (ldT .sl ((⟨b4, 0, none⟩ : Addr).add 2) fun x207 =>
 callT Tryz.prog fn_slices_Clone_rat_Group_rat_Group #[(.slice x207.a x207.len x207.cap)] .sl fun r208 =>
 callT Tryz.prog fn_slices_Delete_rat_Group_rat_Group #[(.slice r208.a r208.len r208.cap), (.int .i64 (Int.tmod (IntKind.wrap .i64 a2) (r11.1.len : Int))), (.int .i64 (IntKind.wrap .i64 ((Int.tmod (IntKind.wrap .i64 a2) (r11.1.len : Int)) + (1 : Int))))] .sl fun r209 =>
 st1 ((⟨b193, 0, none⟩ : Addr).add 2) (.slice r209.a r209.len r209.cap) <|
 ldA (.cons .sl (.cons .sl (.cons .sl .nil))) (⟨b193, 0, none⟩ : Addr) fun x210 =>
 callT Tryz.prog fn_rat_Check #[(.slice r1.a r1.len r1.cap), (.agg #[(.slice x210.1.a x210.1.len x210.1.cap), (.slice x210.2.1.a x210.2.1.len x210.2.1.cap), (.slice x210.2.2.1.a x210.2.2.1.len x210.2.2.1.cap)])] (.tup (.cons (.int .u8) (.cons (.int .i64) (.cons (.int .i64) .nil)))) fun r211 =>
 sx r11.1.a r11.1.len (Int.tmod (IntKind.wrap .i64 a2) (r11.1.len : Int)) 1 fun p212 =>
 ldT (.int .i64) p212 fun x213 =>
 jn (σ := Bool) (fun t215 =>
 brB t215
 (K false)
 (ldT .sl ((⟨b4, 0, none⟩ : Addr).add 2) fun x216 =>
 ldT .sl ((⟨b4, 0, none⟩ : Addr).add 2) fun x217 =>
 sx x217.a x217.len (Int.tmod (IntKind.wrap .i64 a2) (r11.1.len : Int)) 2 fun p218 =>
 ldA (.cons (.int .i64) (.cons .sl .nil)) p218 fun x219 =>
 cj
 (callT Tryz.prog fn_slices_Clone_rat_Group_rat_Group #[(.slice x216.a x216.len x216.cap)] .sl fun r220 =>
 ckA p218 [(.int .i64 x219.1), (.slice x219.2.1.a x219.2.1.len x219.2.1.cap)] <|
 ck ((⟨b4, 0, none⟩ : Addr).add 2) (.slice x217.a x217.len x217.cap) <|
 nw #[(.int .i64 x219.1), (.slice x219.2.1.a x219.2.1.len x219.2.1.cap)] ty_rat_Group fun b221 =>
 apd ty_rat_Group 2 32 #[(.int .i64 (0 : Int)), (.slice none 0 0)] ⟨r220.a, r220.len, r220.cap⟩ ⟨(some (⟨b221, 0, none⟩ : Addr)), 1, 1⟩ fun s222 =>
 st1 ((⟨b193, 0, none⟩ : Addr).add 2) (.slice s222.a s222.len s222.cap) <|
 ldA (.cons .sl (.cons .sl (.cons .sl .nil))) (⟨b193, 0, none⟩ : Addr) fun x223 =>
 callT Tryz.prog fn_rat_Check #[(.slice r1.a r1.len r1.cap), (.agg #[(.slice x223.1.a x223.1.len x223.1.cap), (.slice x223.2.1.a x223.2.1.len x223.2.1.cap), (.slice x223.2.2.1.a x223.2.2.1.len x223.2.2.1.cap)])] (.tup (.cons (.int .u8) (.cons (.int .i64) (.cons (.int .i64) .nil)))) fun r224 =>
 sx r11.1.a r11.1.len (Int.tmod (IntKind.wrap .i64 a2) (r11.1.len : Int)) 1 fun p225 =>
 ldT (.int .i64) p225 fun x226 =>
 jn (σ := Bool) (fun t228 =>
 K t228)
 (fun J227 =>
 brB (r224.2.1 == x226)
 (J227 ((r224.2.2.1 == (92 : Int))))
 (J227 false)))
 (nw #[(.int .i64 x219.1), (.slice x219.2.1.a x219.2.1.len x219.2.1.cap)] ty_rat_Group fun b229 =>
 callT Tryz.prog fn_slices_Clone_rat_Group_rat_Group #[(.slice x216.a x216.len x216.cap)] .sl fun r230 =>
 ckA p218 [(.int .i64 x219.1), (.slice x219.2.1.a x219.2.1.len x219.2.1.cap)] <|
 ck ((⟨b4, 0, none⟩ : Addr).add 2) (.slice x217.a x217.len x217.cap) <|
 apd ty_rat_Group 2 32 #[(.int .i64 (0 : Int)), (.slice none 0 0)] ⟨r230.a, r230.len, r230.cap⟩ ⟨(some (⟨b229, 0, none⟩ : Addr)), 1, 1⟩ fun s231 =>
 st1 ((⟨b193, 0, none⟩ : Addr).add 2) (.slice s231.a s231.len s231.cap) <|
 ldA (.cons .sl (.cons .sl (.cons .sl .nil))) (⟨b193, 0, none⟩ : Addr) fun x232 =>
 callT Tryz.prog fn_rat_Check #[(.slice r1.a r1.len r1.cap), (.agg #[(.slice x232.1.a x232.1.len x232.1.cap), (.slice x232.2.1.a x232.2.1.len x232.2.1.cap), (.slice x232.2.2.1.a x232.2.2.1.len x232.2.2.1.cap)])] (.tup (.cons (.int .u8) (.cons (.int .i64) (.cons (.int .i64) .nil)))) fun r233 =>
 sx r11.1.a r11.1.len (Int.tmod (IntKind.wrap .i64 a2) (r11.1.len : Int)) 1 fun p234 =>
 ldT (.int .i64) p234 fun x235 =>
 jn (σ := Bool) (fun t237 =>
 K t237)
 (fun J236 =>
 brB (r233.2.1 == x235)
 (J236 ((r233.2.2.1 == (92 : Int))))
 (J236 false)))))
 (fun J214 =>
 brB (r211.2.1 != x213)
 (J214 true)
 (J214 ((r211.2.2.1 != (92 : Int)))))))))
 (fun J200 =>
 brB (r199.2.1 != (900 : Int))
 (J200 true)
 (J200 ((r199.2.2.1 != (92 : Int)))))))
 (fun J190 =>
 brB (r189.2.2.1 != (0 : Int))
 (J190 true)
 (J190 ((r189.1 != (2 : Int))))))
 (nw #[(.int .i64 (900 : Int)), (.slice (some (⟨b129, 0, none⟩ : Addr)) 2 2), (.int .i64 (901 : Int)), (.slice (some (⟨b184, 0, none⟩ : Addr)) 2 2)] ty_rat_Entry fun b238 =>
 callT Tryz.prog fn_slices_Clone_rat_Entry_rat_Entry #[(.slice r1.a r1.len r1.cap)] .sl fun r239 =>
 ck p18 (.int .i64 x19) <|
 ck p16 (.int .i64 x17) <|
 ck p14 (.int .i64 x15) <|
 apd ty_rat_Entry 2 32 #[(.int .i64 (0 : Int)), (.slice none 0 0)] ⟨r239.a, r239.len, r239.cap⟩ ⟨(some (⟨b238, 0, none⟩ : Addr)), 2, 2⟩ fun s240 =>
 ldA (.cons .sl (.cons .sl (.cons .sl .nil))) (⟨b4, 0, none⟩ : Addr) fun x241 =>
 callT Tryz.prog fn_rat_Check #[(.slice s240.a s240.len s240.cap), (.agg #[(.slice x241.1.a x241.1.len x241.1.cap), (.slice x241.2.1.a x241.2.1.len x241.2.1.cap), (.slice x241.2.2.1.a x241.2.2.1.len x241.2.2.1.cap)])] (.tup (.cons (.int .u8) (.cons (.int .i64) (.cons (.int .i64) .nil)))) fun r242 =>
 jn (σ := Bool) (fun t244 =>
 brB t244
 (K false)
 (ldA (.cons .sl (.cons .sl (.cons .sl .nil))) (⟨b4, 0, none⟩ : Addr) fun x245 =>
 nw #[(.slice none 0 0), (.slice none 0 0), (.slice none 0 0)] ty_rat_Step fun b246 =>
 st1 (⟨b246, 0, none⟩ : Addr) (.slice x245.1.a x245.1.len x245.1.cap) <|
 st1 ((⟨b246, 0, none⟩ : Addr).add 1) (.slice x245.2.1.a x245.2.1.len x245.2.1.cap) <|
 st1 ((⟨b246, 0, none⟩ : Addr).add 2) (.slice x245.2.2.1.a x245.2.2.1.len x245.2.2.1.cap) <|
 ldT .sl ((⟨b4, 0, none⟩ : Addr).add 2) fun x247 =>
 callT Tryz.prog fn_slices_Clone_rat_Group_rat_Group #[(.slice x247.a x247.len x247.cap)] .sl fun r248 =>
 nw #[(.int .i64 (900 : Int)), (.slice none 0 0)] ty_rat_Group fun b249 =>
 apd ty_rat_Group 2 32 #[(.int .i64 (0 : Int)), (.slice none 0 0)] ⟨r248.a, r248.len, r248.cap⟩ ⟨(some (⟨b249, 0, none⟩ : Addr)), 1, 1⟩ fun s250 =>
 st1 ((⟨b246, 0, none⟩ : Addr).add 2) (.slice s250.a s250.len s250.cap) <|
 ldA (.cons .sl (.cons .sl (.cons .sl .nil))) (⟨b246, 0, none⟩ : Addr) fun x251 =>
 callT Tryz.prog fn_rat_Check #[(.slice s240.a s240.len s240.cap), (.agg #[(.slice x251.1.a x251.1.len x251.1.cap), (.slice x251.2.1.a x251.2.1.len x251.2.1.cap), (.slice x251.2.2.1.a x251.2.2.1.len x251.2.2.1.cap)])] (.tup (.cons (.int .u8) (.cons (.int .i64) (.cons (.int .i64) .nil)))) fun r252 =>
 jn (σ := Bool) (fun t254 =>
 brB t254
 (K false)
 (brB ((r11.1.len : Int) == (0 : Int))
 (K true)
 (nz (r11.1.len : Int) <|
 ldT .sl ((⟨b4, 0, none⟩ : Addr).add 2) fun x255 =>
 sx x255.a x255.len (Int.tmod (IntKind.wrap .i64 a2) (r11.1.len : Int)) 2 fun p256 =>
 ldT (.int .i64) p256 fun x257 =>
 sx r11.1.a r11.1.len (Int.tmod (IntKind.wrap .i64 a2) (r11.1.len : Int)) 1 fun p258 =>
 ldT (.int .i64) p258 fun x259 =>
 brB (x257 != x259)
 (K false)
 (ldT .sl ((⟨b4, 0, none⟩ : Addr).add 2) fun x260 =>
 callT Tryz.prog fn_slices_Clone_rat_Group_rat_Group #[(.slice x260.a x260.len x260.cap)] .sl fun r261 =>
 callT Tryz.prog fn_slices_Delete_rat_Group_rat_Group #[(.slice r261.a r261.len r261.cap), (.int .i64 (Int.tmod (IntKind.wrap .i64 a2) (r11.1.len : Int))), (.int .i64 (IntKind.wrap .i64 ((Int.tmod (IntKind.wrap .i64 a2) (r11.1.len : Int)) + (1 : Int))))] .sl fun r262 =>
 st1 ((⟨b246, 0, none⟩ : Addr).add 2) (.slice r262.a r262.len r262.cap) <|
 ldA (.cons .sl (.cons .sl (.cons .sl .nil))) (⟨b246, 0, none⟩ : Addr) fun x263 =>
 callT Tryz.prog fn_rat_Check #[(.slice r1.a r1.len r1.cap), (.agg #[(.slice x263.1.a x263.1.len x263.1.cap), (.slice x263.2.1.a x263.2.1.len x263.2.1.cap), (.slice x263.2.2.1.a x263.2.2.1.len x263.2.2.1.cap)])] (.tup (.cons (.int .u8) (.cons (.int .i64) (.cons (.int .i64) .nil)))) fun r264 =>
 sx r11.1.a r11.1.len (Int.tmod (IntKind.wrap .i64 a2) (r11.1.len : Int)) 1 fun p265 =>
 ldT (.int .i64) p265 fun x266 =>
 jn (σ := Bool) (fun t268 =>
 brB t268
 (K false)
 (ldT .sl ((⟨b4, 0, none⟩ : Addr).add 2) fun x269 =>
 ldT .sl ((⟨b4, 0, none⟩ : Addr).add 2) fun x270 =>
 sx x270.a x270.len (Int.tmod (IntKind.wrap .i64 a2) (r11.1.len : Int)) 2 fun p271 =>
 ldA (.cons (.int .i64) (.cons .sl .nil)) p271 fun x272 =>
 cj
 (callT Tryz.prog fn_slices_Clone_rat_Group_rat_Group #[(.slice x269.a x269.len x269.cap)] .sl fun r273 =>
 ckA p271 [(.int .i64 x272.1), (.slice x272.2.1.a x272.2.1.len x272.2.1.cap)] <|
 ck ((⟨b4, 0, none⟩ : Addr).add 2) (.slice x270.a x270.len x270.cap) <|
 nw #[(.int .i64 x272.1), (.slice x272.2.1.a x272.2.1.len x272.2.1.cap)] ty_rat_Group fun b274 =>
 apd ty_rat_Group 2 32 #[(.int .i64 (0 : Int)), (.slice none 0 0)] ⟨r273.a, r273.len, r273.cap⟩ ⟨(some (⟨b274, 0, none⟩ : Addr)), 1, 1⟩ fun s275 =>
 st1 ((⟨b246, 0, none⟩ : Addr).add 2) (.slice s275.a s275.len s275.cap) <|
 ldA (.cons .sl (.cons .sl (.cons .sl .nil))) (⟨b246, 0, none⟩ : Addr) fun x276 =>
 callT Tryz.prog fn_rat_Check #[(.slice r1.a r1.len r1.cap), (.agg #[(.slice x276.1.a x276.1.len x276.1.cap), (.slice x276.2.1.a x276.2.1.len x276.2.1.cap), (.slice x276.2.2.1.a x276.2.2.1.len x276.2.2.1.cap)])] (.tup (.cons (.int .u8) (.cons (.int .i64) (.cons (.int .i64) .nil)))) fun r277 =>
 sx r11.1.a r11.1.len (Int.tmod (IntKind.wrap .i64 a2) (r11.1.len : Int)) 1 fun p278 =>
 ldT (.int .i64) p278 fun x279 =>
 jn (σ := Bool) (fun t281 =>
 K t281)
 (fun J280 =>
 brB (r277.2.1 == x279)
 (J280 ((r277.2.2.1 == (92 : Int))))
 (J280 false)))
 (nw #[(.int .i64 x272.1), (.slice x272.2.1.a x272.2.1.len x272.2.1.cap)] ty_rat_Group fun b282 =>
 callT Tryz.prog fn_slices_Clone_rat_Group_rat_Group #[(.slice x269.a x269.len x269.cap)] .sl fun r283 =>
 ckA p271 [(.int .i64 x272.1), (.slice x272.2.1.a x272.2.1.len x272.2.1.cap)] <|
 ck ((⟨b4, 0, none⟩ : Addr).add 2) (.slice x270.a x270.len x270.cap) <|
 apd ty_rat_Group 2 32 #[(.int .i64 (0 : Int)), (.slice none 0 0)] ⟨r283.a, r283.len, r283.cap⟩ ⟨(some (⟨b282, 0, none⟩ : Addr)), 1, 1⟩ fun s284 =>
 st1 ((⟨b246, 0, none⟩ : Addr).add 2) (.slice s284.a s284.len s284.cap) <|
 ldA (.cons .sl (.cons .sl (.cons .sl .nil))) (⟨b246, 0, none⟩ : Addr) fun x285 =>
 callT Tryz.prog fn_rat_Check #[(.slice r1.a r1.len r1.cap), (.agg #[(.slice x285.1.a x285.1.len x285.1.cap), (.slice x285.2.1.a x285.2.1.len x285.2.1.cap), (.slice x285.2.2.1.a x285.2.2.1.len x285.2.2.1.cap)])] (.tup (.cons (.int .u8) (.cons (.int .i64) (.cons (.int .i64) .nil)))) fun r286 =>
 sx r11.1.a r11.1.len (Int.tmod (IntKind.wrap .i64 a2) (r11.1.len : Int)) 1 fun p287 =>
 ldT (.int .i64) p287 fun x288 =>
 jn (σ := Bool) (fun t290 =>
 K t290)
 (fun J289 =>
 brB (r286.2.1 == x288)
 (J289 ((r286.2.2.1 == (92 : Int))))
 (J289 false)))))
 (fun J267 =>
 brB (r264.2.1 != x266)
 (J267 true)
 (J267 ((r264.2.2.1 != (92 : Int)))))))))
 (fun J253 =>
 brB (r252.2.1 != (900 : Int))
 (J253 true)
 (J253 ((r252.2.2.1 != (92 : Int)))))))
 (fun J243 =>
 brB (r242.2.2.1 != (0 : Int))
 (J243 true)
 (J243 ((r242.1 != (2 : Int))))))))
 (nw #[(.int .i64 (IntKind.wrap .i64 (0 - x17))), (.int .i64 x19)] ty_lits_Lit fun b291 =>
 cj
 (callT Tryz.prog fn_slices_Clone_rat_Entry_rat_Entry #[(.slice r1.a r1.len r1.cap)] .sl fun r292 =>
 ck p18 (.int .i64 x19) <|
 ck p16 (.int .i64 x17) <|
 ck p14 (.int .i64 x15) <|
 nw #[(.int .i64 (20 : Int)), (.int .i64 x15)] ty_lits_Lit fun b293 =>
 nw #[(.int .i64 (900 : Int)), (.slice (some (⟨b293, 0, none⟩ : Addr)) 2 2), (.int .i64 (901 : Int)), (.slice (some (⟨b291, 0, none⟩ : Addr)) 2 2)] ty_rat_Entry fun b294 =>
 apd ty_rat_Entry 2 32 #[(.int .i64 (0 : Int)), (.slice none 0 0)] ⟨r292.a, r292.len, r292.cap⟩ ⟨(some (⟨b294, 0, none⟩ : Addr)), 2, 2⟩ fun s295 =>
 ldA (.cons .sl (.cons .sl (.cons .sl .nil))) (⟨b4, 0, none⟩ : Addr) fun x296 =>
 callT Tryz.prog fn_rat_Check #[(.slice s295.a s295.len s295.cap), (.agg #[(.slice x296.1.a x296.1.len x296.1.cap), (.slice x296.2.1.a x296.2.1.len x296.2.1.cap), (.slice x296.2.2.1.a x296.2.2.1.len x296.2.2.1.cap)])] (.tup (.cons (.int .u8) (.cons (.int .i64) (.cons (.int .i64) .nil)))) fun r297 =>
 jn (σ := Bool) (fun t299 =>
 brB t299
 (K false)
 (ldA (.cons .sl (.cons .sl (.cons .sl .nil))) (⟨b4, 0, none⟩ : Addr) fun x300 =>
 nw #[(.slice none 0 0), (.slice none 0 0), (.slice none 0 0)] ty_rat_Step fun b301 =>
 st1 (⟨b301, 0, none⟩ : Addr) (.slice x300.1.a x300.1.len x300.1.cap) <|
 st1 ((⟨b301, 0, none⟩ : Addr).add 1) (.slice x300.2.1.a x300.2.1.len x300.2.1.cap) <|
 st1 ((⟨b301, 0, none⟩ : Addr).add 2) (.slice x300.2.2.1.a x300.2.2.1.len x300.2.2.1.cap) <|
 ldT .sl ((⟨b4, 0, none⟩ : Addr).add 2) fun x302 =>
 callT Tryz.prog fn_slices_Clone_rat_Group_rat_Group #[(.slice x302.a x302.len x302.cap)] .sl fun r303 =>
 nw #[(.int .i64 (900 : Int)), (.slice none 0 0)] ty_rat_Group fun b304 =>
 apd ty_rat_Group 2 32 #[(.int .i64 (0 : Int)), (.slice none 0 0)] ⟨r303.a, r303.len, r303.cap⟩ ⟨(some (⟨b304, 0, none⟩ : Addr)), 1, 1⟩ fun s305 =>
 st1 ((⟨b301, 0, none⟩ : Addr).add 2) (.slice s305.a s305.len s305.cap) <|
 ldA (.cons .sl (.cons .sl (.cons .sl .nil))) (⟨b301, 0, none⟩ : Addr) fun x306 =>
 callT Tryz.prog fn_rat_Check #[(.slice s295.a s295.len s295.cap), (.agg #[(.slice x306.1.a x306.1.len x306.1.cap), (.slice x306.2.1.a x306.2.1.len x306.2.1.cap), (.slice x306.2.2.1.a x306.2.2.1.len x306.2.2.1.cap)])] (.tup (.cons (.int .u8) (.cons (.int .i64) (.cons (.int .i64) .nil)))) fun r307 =>
 jn (σ := Bool) (fun t309 =>
 brB t309
 (K false)
 (brB ((r11.1.len : Int) == (0 : Int))
 (K true)
 (nz (r11.1.len : Int) <|
 ldT .sl ((⟨b4, 0, none⟩ : Addr).add 2) fun x310 =>
 sx x310.a x310.len (Int.tmod (IntKind.wrap .i64 a2) (r11.1.len : Int)) 2 fun p311 =>
 ldT (.int .i64) p311 fun x312 =>
 sx r11.1.a r11.1.len (Int.tmod (IntKind.wrap .i64 a2) (r11.1.len : Int)) 1 fun p313 =>
 ldT (.int .i64) p313 fun x314 =>
 brB (x312 != x314)
 (K false)
 (ldT .sl ((⟨b4, 0, none⟩ : Addr).add 2) fun x315 =>
 callT Tryz.prog fn_slices_Clone_rat_Group_rat_Group #[(.slice x315.a x315.len x315.cap)] .sl fun r316 =>
 callT Tryz.prog fn_slices_Delete_rat_Group_rat_Group #[(.slice r316.a r316.len r316.cap), (.int .i64 (Int.tmod (IntKind.wrap .i64 a2) (r11.1.len : Int))), (.int .i64 (IntKind.wrap .i64 ((Int.tmod (IntKind.wrap .i64 a2) (r11.1.len : Int)) + (1 : Int))))] .sl fun r317 =>
 st1 ((⟨b301, 0, none⟩ : Addr).add 2) (.slice r317.a r317.len r317.cap) <|
 ldA (.cons .sl (.cons .sl (.cons .sl .nil))) (⟨b301, 0, none⟩ : Addr) fun x318 =>
 callT Tryz.prog fn_rat_Check #[(.slice r1.a r1.len r1.cap), (.agg #[(.slice x318.1.a x318.1.len x318.1.cap), (.slice x318.2.1.a x318.2.1.len x318.2.1.cap), (.slice x318.2.2.1.a x318.2.2.1.len x318.2.2.1.cap)])] (.tup (.cons (.int .u8) (.cons (.int .i64) (.cons (.int .i64) .nil)))) fun r319 =>
 sx r11.1.a r11.1.len (Int.tmod (IntKind.wrap .i64 a2) (r11.1.len : Int)) 1 fun p320 =>
 ldT (.int .i64) p320 fun x321 =>
 jn (σ := Bool) (fun t323 =>
 brB t323
 (K false)
 (ldT .sl ((⟨b4, 0, none⟩ : Addr).add 2) fun x324 =>
 ldT .sl ((⟨b4, 0, none⟩ : Addr).add 2) fun x325 =>
 sx x325.a x325.len (Int.tmod (IntKind.wrap .i64 a2) (r11.1.len : Int)) 2 fun p326 =>
 ldA (.cons (.int .i64) (.cons .sl .nil)) p326 fun x327 =>
 cj
 (callT Tryz.prog fn_slices_Clone_rat_Group_rat_Group #[(.slice x324.a x324.len x324.cap)] .sl fun r328 =>
 ckA p326 [(.int .i64 x327.1), (.slice x327.2.1.a x327.2.1.len x327.2.1.cap)] <|
 ck ((⟨b4, 0, none⟩ : Addr).add 2) (.slice x325.a x325.len x325.cap) <|
 nw #[(.int .i64 x327.1), (.slice x327.2.1.a x327.2.1.len x327.2.1.cap)] ty_rat_Group fun b329 =>
 apd ty_rat_Group 2 32 #[(.int .i64 (0 : Int)), (.slice none 0 0)] ⟨r328.a, r328.len, r328.cap⟩ ⟨(some (⟨b329, 0, none⟩ : Addr)), 1, 1⟩ fun s330 =>
 st1 ((⟨b301, 0, none⟩ : Addr).add 2) (.slice s330.a s330.len s330.cap) <|
 ldA (.cons .sl (.cons .sl (.cons .sl .nil))) (⟨b301, 0, none⟩ : Addr) fun x331 =>
 callT Tryz.prog fn_rat_Check #[(.slice r1.a r1.len r1.cap), (.agg #[(.slice x331.1.a x331.1.len x331.1.cap), (.slice x331.2.1.a x331.2.1.len x331.2.1.cap), (.slice x331.2.2.1.a x331.2.2.1.len x331.2.2.1.cap)])] (.tup (.cons (.int .u8) (.cons (.int .i64) (.cons (.int .i64) .nil)))) fun r332 =>
 sx r11.1.a r11.1.len (Int.tmod (IntKind.wrap .i64 a2) (r11.1.len : Int)) 1 fun p333 =>
 ldT (.int .i64) p333 fun x334 =>
 jn (σ := Bool) (fun t336 =>
 K t336)
 (fun J335 =>
 brB (r332.2.1 == x334)
 (J335 ((r332.2.2.1 == (92 : Int))))
 (J335 false)))
 (nw #[(.int .i64 x327.1), (.slice x327.2.1.a x327.2.1.len x327.2.1.cap)] ty_rat_Group fun b337 =>
 callT Tryz.prog fn_slices_Clone_rat_Group_rat_Group #[(.slice x324.a x324.len x324.cap)] .sl fun r338 =>
 ckA p326 [(.int .i64 x327.1), (.slice x327.2.1.a x327.2.1.len x327.2.1.cap)] <|
 ck ((⟨b4, 0, none⟩ : Addr).add 2) (.slice x325.a x325.len x325.cap) <|
 apd ty_rat_Group 2 32 #[(.int .i64 (0 : Int)), (.slice none 0 0)] ⟨r338.a, r338.len, r338.cap⟩ ⟨(some (⟨b337, 0, none⟩ : Addr)), 1, 1⟩ fun s339 =>
 st1 ((⟨b301, 0, none⟩ : Addr).add 2) (.slice s339.a s339.len s339.cap) <|
 ldA (.cons .sl (.cons .sl (.cons .sl .nil))) (⟨b301, 0, none⟩ : Addr) fun x340 =>
 callT Tryz.prog fn_rat_Check #[(.slice r1.a r1.len r1.cap), (.agg #[(.slice x340.1.a x340.1.len x340.1.cap), (.slice x340.2.1.a x340.2.1.len x340.2.1.cap), (.slice x340.2.2.1.a x340.2.2.1.len x340.2.2.1.cap)])] (.tup (.cons (.int .u8) (.cons (.int .i64) (.cons (.int .i64) .nil)))) fun r341 =>
 sx r11.1.a r11.1.len (Int.tmod (IntKind.wrap .i64 a2) (r11.1.len : Int)) 1 fun p342 =>
 ldT (.int .i64) p342 fun x343 =>
 jn (σ := Bool) (fun t345 =>
 K t345)
 (fun J344 =>
 brB (r341.2.1 == x343)
 (J344 ((r341.2.2.1 == (92 : Int))))
 (J344 false)))))
 (fun J322 =>
 brB (r319.2.1 != x321)
 (J322 true)
 (J322 ((r319.2.2.1 != (92 : Int)))))))))
 (fun J308 =>
 brB (r307.2.1 != (900 : Int))
 (J308 true)
 (J308 ((r307.2.2.1 != (92 : Int)))))))
 (fun J298 =>
 brB (r297.2.2.1 != (0 : Int))
 (J298 true)
 (J298 ((r297.1 != (2 : Int))))))
 (nw #[(.int .i64 (20 : Int)), (.int .i64 x15)] ty_lits_Lit fun b346 =>
 cj
 (callT Tryz.prog fn_slices_Clone_rat_Entry_rat_Entry #[(.slice r1.a r1.len r1.cap)] .sl fun r347 =>
 ck p18 (.int .i64 x19) <|
 ck p16 (.int .i64 x17) <|
 ck p14 (.int .i64 x15) <|
 nw #[(.int .i64 (900 : Int)), (.slice (some (⟨b346, 0, none⟩ : Addr)) 2 2), (.int .i64 (901 : Int)), (.slice (some (⟨b291, 0, none⟩ : Addr)) 2 2)] ty_rat_Entry fun b348 =>
 apd ty_rat_Entry 2 32 #[(.int .i64 (0 : Int)), (.slice none 0 0)] ⟨r347.a, r347.len, r347.cap⟩ ⟨(some (⟨b348, 0, none⟩ : Addr)), 2, 2⟩ fun s349 =>
 ldA (.cons .sl (.cons .sl (.cons .sl .nil))) (⟨b4, 0, none⟩ : Addr) fun x350 =>
 callT Tryz.prog fn_rat_Check #[(.slice s349.a s349.len s349.cap), (.agg #[(.slice x350.1.a x350.1.len x350.1.cap), (.slice x350.2.1.a x350.2.1.len x350.2.1.cap), (.slice x350.2.2.1.a x350.2.2.1.len x350.2.2.1.cap)])] (.tup (.cons (.int .u8) (.cons (.int .i64) (.cons (.int .i64) .nil)))) fun r351 =>
 jn (σ := Bool) (fun t353 =>
 brB t353
 (K false)
 (ldA (.cons .sl (.cons .sl (.cons .sl .nil))) (⟨b4, 0, none⟩ : Addr) fun x354 =>
 nw #[(.slice none 0 0), (.slice none 0 0), (.slice none 0 0)] ty_rat_Step fun b355 =>
 st1 (⟨b355, 0, none⟩ : Addr) (.slice x354.1.a x354.1.len x354.1.cap) <|
 st1 ((⟨b355, 0, none⟩ : Addr).add 1) (.slice x354.2.1.a x354.2.1.len x354.2.1.cap) <|
 st1 ((⟨b355, 0, none⟩ : Addr).add 2) (.slice x354.2.2.1.a x354.2.2.1.len x354.2.2.1.cap) <|
 ldT .sl ((⟨b4, 0, none⟩ : Addr).add 2) fun x356 =>
 callT Tryz.prog fn_slices_Clone_rat_Group_rat_Group #[(.slice x356.a x356.len x356.cap)] .sl fun r357 =>
 nw #[(.int .i64 (900 : Int)), (.slice none 0 0)] ty_rat_Group fun b358 =>
 apd ty_rat_Group 2 32 #[(.int .i64 (0 : Int)), (.slice none 0 0)] ⟨r357.a, r357.len, r357.cap⟩ ⟨(some (⟨b358, 0, none⟩ : Addr)), 1, 1⟩ fun s359 =>
 st1 ((⟨b355, 0, none⟩ : Addr).add 2) (.slice s359.a s359.len s359.cap) <|
 ldA (.cons .sl (.cons .sl (.cons .sl .nil))) (⟨b355, 0, none⟩ : Addr) fun x360 =>
 callT Tryz.prog fn_rat_Check #[(.slice s349.a s349.len s349.cap), (.agg #[(.slice x360.1.a x360.1.len x360.1.cap), (.slice x360.2.1.a x360.2.1.len x360.2.1.cap), (.slice x360.2.2.1.a x360.2.2.1.len x360.2.2.1.cap)])] (.tup (.cons (.int .u8) (.cons (.int .i64) (.cons (.int .i64) .nil)))) fun r361 =>
 jn (σ := Bool) (fun t363 =>
 brB t363
 (K false)
 (brB ((r11.1.len : Int) == (0 : Int))
 (K true)
 (nz (r11.1.len : Int) <|
 ldT .sl ((⟨b4, 0, none⟩ : Addr).add 2) fun x364 =>
 sx x364.a x364.len (Int.tmod (IntKind.wrap .i64 a2) (r11.1.len : Int)) 2 fun p365 =>
 ldT (.int .i64) p365 fun x366 =>
 sx r11.1.a r11.1.len (Int.tmod (IntKind.wrap .i64 a2) (r11.1.len : Int)) 1 fun p367 =>
 ldT (.int .i64) p367 fun x368 =>
 brB (x366 != x368)
 (K false)
 (ldT .sl ((⟨b4, 0, none⟩ : Addr).add 2) fun x369 =>
 callT Tryz.prog fn_slices_Clone_rat_Group_rat_Group #[(.slice x369.a x369.len x369.cap)] .sl fun r370 =>
 callT Tryz.prog fn_slices_Delete_rat_Group_rat_Group #[(.slice r370.a r370.len r370.cap), (.int .i64 (Int.tmod (IntKind.wrap .i64 a2) (r11.1.len : Int))), (.int .i64 (IntKind.wrap .i64 ((Int.tmod (IntKind.wrap .i64 a2) (r11.1.len : Int)) + (1 : Int))))] .sl fun r371 =>
 st1 ((⟨b355, 0, none⟩ : Addr).add 2) (.slice r371.a r371.len r371.cap) <|
 ldA (.cons .sl (.cons .sl (.cons .sl .nil))) (⟨b355, 0, none⟩ : Addr) fun x372 =>
 callT Tryz.prog fn_rat_Check #[(.slice r1.a r1.len r1.cap), (.agg #[(.slice x372.1.a x372.1.len x372.1.cap), (.slice x372.2.1.a x372.2.1.len x372.2.1.cap), (.slice x372.2.2.1.a x372.2.2.1.len x372.2.2.1.cap)])] (.tup (.cons (.int .u8) (.cons (.int .i64) (.cons (.int .i64) .nil)))) fun r373 =>
 sx r11.1.a r11.1.len (Int.tmod (IntKind.wrap .i64 a2) (r11.1.len : Int)) 1 fun p374 =>
 ldT (.int .i64) p374 fun x375 =>
 jn (σ := Bool) (fun t377 =>
 brB t377
 (K false)
 (ldT .sl ((⟨b4, 0, none⟩ : Addr).add 2) fun x378 =>
 ldT .sl ((⟨b4, 0, none⟩ : Addr).add 2) fun x379 =>
 sx x379.a x379.len (Int.tmod (IntKind.wrap .i64 a2) (r11.1.len : Int)) 2 fun p380 =>
 ldA (.cons (.int .i64) (.cons .sl .nil)) p380 fun x381 =>
 cj
 (callT Tryz.prog fn_slices_Clone_rat_Group_rat_Group #[(.slice x378.a x378.len x378.cap)] .sl fun r382 =>
 ckA p380 [(.int .i64 x381.1), (.slice x381.2.1.a x381.2.1.len x381.2.1.cap)] <|
 ck ((⟨b4, 0, none⟩ : Addr).add 2) (.slice x379.a x379.len x379.cap) <|
 nw #[(.int .i64 x381.1), (.slice x381.2.1.a x381.2.1.len x381.2.1.cap)] ty_rat_Group fun b383 =>
 apd ty_rat_Group 2 32 #[(.int .i64 (0 : Int)), (.slice none 0 0)] ⟨r382.a, r382.len, r382.cap⟩ ⟨(some (⟨b383, 0, none⟩ : Addr)), 1, 1⟩ fun s384 =>
 st1 ((⟨b355, 0, none⟩ : Addr).add 2) (.slice s384.a s384.len s384.cap) <|
 ldA (.cons .sl (.cons .sl (.cons .sl .nil))) (⟨b355, 0, none⟩ : Addr) fun x385 =>
 callT Tryz.prog fn_rat_Check #[(.slice r1.a r1.len r1.cap), (.agg #[(.slice x385.1.a x385.1.len x385.1.cap), (.slice x385.2.1.a x385.2.1.len x385.2.1.cap), (.slice x385.2.2.1.a x385.2.2.1.len x385.2.2.1.cap)])] (.tup (.cons (.int .u8) (.cons (.int .i64) (.cons (.int .i64) .nil)))) fun r386 =>
 sx r11.1.a r11.1.len (Int.tmod (IntKind.wrap .i64 a2) (r11.1.len : Int)) 1 fun p387 =>
 ldT (.int .i64) p387 fun x388 =>
 jn (σ := Bool) (fun t390 =>
 K t390)
 (fun J389 =>
 brB (r386.2.1 == x388)
 (J389 ((r386.2.2.1 == (92 : Int))))
 (J389 false)))
 (nw #[(.int .i64 x381.1), (.slice x381.2.1.a x381.2.1.len x381.2.1.cap)] ty_rat_Group fun b391 =>
 callT Tryz.prog fn_slices_Clone_rat_Group_rat_Group #[(.slice x378.a x378.len x378.cap)] .sl fun r392 =>
 ckA p380 [(.int .i64 x381.1), (.slice x381.2.1.a x381.2.1.len x381.2.1.cap)] <|
 ck ((⟨b4, 0, none⟩ : Addr).add 2) (.slice x379.a x379.len x379.cap) <|
 apd ty_rat_Group 2 32 #[(.int .i64 (0 : Int)), (.slice none 0 0)] ⟨r392.a, r392.len, r392.cap⟩ ⟨(some (⟨b391, 0, none⟩ : Addr)), 1, 1⟩ fun s393 =>
 st1 ((⟨b355, 0, none⟩ : Addr).add 2) (.slice s393.a s393.len s393.cap) <|
 ldA (.cons .sl (.cons .sl (.cons .sl .nil))) (⟨b355, 0, none⟩ : Addr) fun x394 =>
 callT Tryz.prog fn_rat_Check #[(.slice r1.a r1.len r1.cap), (.agg #[(.slice x394.1.a x394.1.len x394.1.cap), (.slice x394.2.1.a x394.2.1.len x394.2.1.cap), (.slice x394.2.2.1.a x394.2.2.1.len x394.2.2.1.cap)])] (.tup (.cons (.int .u8) (.cons (.int .i64) (.cons (.int .i64) .nil)))) fun r395 =>
 sx r11.1.a r11.1.len (Int.tmod (IntKind.wrap .i64 a2) (r11.1.len : Int)) 1 fun p396 =>
 ldT (.int .i64) p396 fun x397 =>
 jn (σ := Bool) (fun t399 =>
 K t399)
 (fun J398 =>
 brB (r395.2.1 == x397)
 (J398 ((r395.2.2.1 == (92 : Int))))
 (J398 false)))))
 (fun J376 =>
 brB (r373.2.1 != x375)
 (J376 true)
 (J376 ((r373.2.2.1 != (92 : Int)))))))))
 (fun J362 =>
 brB (r361.2.1 != (900 : Int))
 (J362 true)
 (J362 ((r361.2.2.1 != (92 : Int)))))))
 (fun J352 =>
 brB (r351.2.2.1 != (0 : Int))
 (J352 true)
 (J352 ((r351.1 != (2 : Int))))))
 (nw #[(.int .i64 (900 : Int)), (.slice (some (⟨b346, 0, none⟩ : Addr)) 2 2), (.int .i64 (901 : Int)), (.slice (some (⟨b291, 0, none⟩ : Addr)) 2 2)] ty_rat_Entry fun b400 =>
 callT Tryz.prog fn_slices_Clone_rat_Entry_rat_Entry #[(.slice r1.a r1.len r1.cap)] .sl fun r401 =>
 ck p18 (.int .i64 x19) <|
 ck p16 (.int .i64 x17) <|
 ck p14 (.int .i64 x15) <|
 apd ty_rat_Entry 2 32 #[(.int .i64 (0 : Int)), (.slice none 0 0)] ⟨r401.a, r401.len, r401.cap⟩ ⟨(some (⟨b400, 0, none⟩ : Addr)), 2, 2⟩ fun s402 =>
 ldA (.cons .sl (.cons .sl (.cons .sl .nil))) (⟨b4, 0, none⟩ : Addr) fun x403 =>
 callT Tryz.prog fn_rat_Check #[(.slice s402.a s402.len s402.cap), (.agg #[(.slice x403.1.a x403.1.len x403.1.cap), (.slice x403.2.1.a x403.2.1.len x403.2.1.cap), (.slice x403.2.2.1.a x403.2.2.1.len x403.2.2.1.cap)])] (.tup (.cons (.int .u8) (.cons (.int .i64) (.cons (.int .i64) .nil)))) fun r404 =>
 jn (σ := Bool) (fun t406 =>
 brB t406
 (K false)
 (ldA (.cons .sl (.cons .sl (.cons .sl .nil))) (⟨b4, 0, none⟩ : Addr) fun x407 =>
 nw #[(.slice none 0 0), (.slice none 0 0), (.slice none 0 0)] ty_rat_Step fun b408 =>
 st1 (⟨b408, 0, none⟩ : Addr) (.slice x407.1.a x407.1.len x407.1.cap) <|
 st1 ((⟨b408, 0, none⟩ : Addr).add 1) (.slice x407.2.1.a x407.2.1.len x407.2.1.cap) <|
 st1 ((⟨b408, 0, none⟩ : Addr).add 2) (.slice x407.2.2.1.a x407.2.2.1.len x407.2.2.1.cap) <|
 ldT .sl ((⟨b4, 0, none⟩ : Addr).add 2) fun x409 =>
 callT Tryz.prog fn_slices_Clone_rat_Group_rat_Group #[(.slice x409.a x409.len x409.cap)] .sl fun r410 =>
 nw #[(.int .i64 (900 : Int)), (.slice none 0 0)] ty_rat_Group fun b411 =>
 apd ty_rat_Group 2 32 #[(.int .i64 (0 : Int)), (.slice none 0 0)] ⟨r410.a, r410.len, r410.cap⟩ ⟨(some (⟨b411, 0, none⟩ : Addr)), 1, 1⟩ fun s412 =>
 st1 ((⟨b408, 0, none⟩ : Addr).add 2) (.slice s412.a s412.len s412.cap) <|
 ldA (.cons .sl (.cons .sl (.cons .sl .nil))) (⟨b408, 0, none⟩ : Addr) fun x413 =>
 callT Tryz.prog fn_rat_Check #[(.slice s402.a s402.len s402.cap), (.agg #[(.slice x413.1.a x413.1.len x413.1.cap), (.slice x413.2.1.a x413.2.1.len x413.2.1.cap), (.slice x413.2.2.1.a x413.2.2.1.len x413.2.2.1.cap)])] (.tup (.cons (.int .u8) (.cons (.int .i64) (.cons (.int .i64) .nil)))) fun r414 =>
 jn (σ := Bool) (fun t416 =>
 brB t416
 (K false)
 (brB ((r11.1.len : Int) == (0 : Int))
 (K true)
 (nz (r11.1.len : Int) <|
 ldT .sl ((⟨b4, 0, none⟩ : Addr).add 2) fun x417 =>
 sx x417.a x417.len (Int.tmod (IntKind.wrap .i64 a2) (r11.1.len : Int)) 2 fun p418 =>
 ldT (.int .i64) p418 fun x419 =>
 sx r11.1.a r11.1.len (Int.tmod (IntKind.wrap .i64 a2) (r11.1.len : Int)) 1 fun p420 =>
 ldT (.int .i64) p420 fun x421 =>
 brB (x419 != x421)
 (K false)
 (ldT .sl ((⟨b4, 0, none⟩ : Addr).add 2) fun x422 =>
 callT Tryz.prog fn_slices_Clone_rat_Group_rat_Group #[(.slice x422.a x422.len x422.cap)] .sl fun r423 =>
 callT Tryz.prog fn_slices_Delete_rat_Group_rat_Group #[(.slice r423.a r423.len r423.cap), (.int .i64 (Int.tmod (IntKind.wrap .i64 a2) (r11.1.len : Int))), (.int .i64 (IntKind.wrap .i64 ((Int.tmod (IntKind.wrap .i64 a2) (r11.1.len : Int)) + (1 : Int))))] .sl fun r424 =>
 st1 ((⟨b408, 0, none⟩ : Addr).add 2) (.slice r424.a r424.len r424.cap) <|
 ldA (.cons .sl (.cons .sl (.cons .sl .nil))) (⟨b408, 0, none⟩ : Addr) fun x425 =>
 callT Tryz.prog fn_rat_Check #[(.slice r1.a r1.len r1.cap), (.agg #[(.slice x425.1.a x425.1.len x425.1.cap), (.slice x425.2.1.a x425.2.1.len x425.2.1.cap), (.slice x425.2.2.1.a x425.2.2.1.len x425.2.2.1.cap)])] (.tup (.cons (.int .u8) (.cons (.int .i64) (.cons (.int .i64) .nil)))) fun r426 =>
 sx r11.1.a r11.1.len (Int.tmod (IntKind.wrap .i64 a2) (r11.1.len : Int)) 1 fun p427 =>
 ldT (.int .i64) p427 fun x428 =>
 jn (σ := Bool) (fun t430 =>
 brB t430
 (K false)
 (ldT .sl ((⟨b4, 0, none⟩ : Addr).add 2) fun x431 =>
 ldT .sl ((⟨b4, 0, none⟩ : Addr).add 2) fun x432 =>
 sx x432.a x432.len (Int.tmod (IntKind.wrap .i64 a2) (r11.1.len : Int)) 2 fun p433 =>
 ldA (.cons (.int .i64) (.cons .sl .nil)) p433 fun x434 =>
 cj
 (callT Tryz.prog fn_slices_Clone_rat_Group_rat_Group #[(.slice x431.a x431.len x431.cap)] .sl fun r435 =>
 ckA p433 [(.int .i64 x434.1), (.slice x434.2.1.a x434.2.1.len x434.2.1.cap)] <|
 ck ((⟨b4, 0, none⟩ : Addr).add 2) (.slice x432.a x432.len x432.cap) <|
 nw #[(.int .i64 x434.1), (.slice x434.2.1.a x434.2.1.len x434.2.1.cap)] ty_rat_Group fun b436 =>
 apd ty_rat_Group 2 32 #[(.int .i64 (0 : Int)), (.slice none 0 0)] ⟨r435.a, r435.len, r435.cap⟩ ⟨(some (⟨b436, 0, none⟩ : Addr)), 1, 1⟩ fun s437 =>
 st1 ((⟨b408, 0, none⟩ : Addr).add 2) (.slice s437.a s437.len s437.cap) <|
 ldA (.cons .sl (.cons .sl (.cons .sl .nil))) (⟨b408, 0, none⟩ : Addr) fun x438 =>
 callT Tryz.prog fn_rat_Check #[(.slice r1.a r1.len r1.cap), (.agg #[(.slice x438.1.a x438.1.len x438.1.cap), (.slice x438.2.1.a x438.2.1.len x438.2.1.cap), (.slice x438.2.2.1.a x438.2.2.1.len x438.2.2.1.cap)])] (.tup (.cons (.int .u8) (.cons (.int .i64) (.cons (.int .i64) .nil)))) fun r439 =>
 sx r11.1.a r11.1.len (Int.tmod (IntKind.wrap .i64 a2) (r11.1.len : Int)) 1 fun p440 =>
 ldT (.int .i64) p440 fun x441 =>
 jn (σ := Bool) (fun t443 =>
 K t443)
 (fun J442 =>
 brB (r439.2.1 == x441)
 (J442 ((r439.2.2.1 == (92 : Int))))
 (J442 false)))
 (nw #[(.int .i64 x434.1), (.slice x434.2.1.a x434.2.1.len x434.2.1.cap)] ty_rat_Group fun b444 =>
 callT Tryz.prog fn_slices_Clone_rat_Group_rat_Group #[(.slice x431.a x431.len x431.cap)] .sl fun r445 =>
 ckA p433 [(.int .i64 x434.1), (.slice x434.2.1.a x434.2.1.len x434.2.1.cap)] <|
 ck ((⟨b4, 0, none⟩ : Addr).add 2) (.slice x432.a x432.len x432.cap) <|
 apd ty_rat_Group 2 32 #[(.int .i64 (0 : Int)), (.slice none 0 0)] ⟨r445.a, r445.len, r445.cap⟩ ⟨(some (⟨b444, 0, none⟩ : Addr)), 1, 1⟩ fun s446 =>
 st1 ((⟨b408, 0, none⟩ : Addr).add 2) (.slice s446.a s446.len s446.cap) <|
 ldA (.cons .sl (.cons .sl (.cons .sl .nil))) (⟨b408, 0, none⟩ : Addr) fun x447 =>
 callT Tryz.prog fn_rat_Check #[(.slice r1.a r1.len r1.cap), (.agg #[(.slice x447.1.a x447.1.len x447.1.cap), (.slice x447.2.1.a x447.2.1.len x447.2.1.cap), (.slice x447.2.2.1.a x447.2.2.1.len x447.2.2.1.cap)])] (.tup (.cons (.int .u8) (.cons (.int .i64) (.cons (.int .i64) .nil)))) fun r448 =>
 sx r11.1.a r11.1.len (Int.tmod (IntKind.wrap .i64 a2) (r11.1.len : Int)) 1 fun p449 =>
 ldT (.int .i64) p449 fun x450 =>
 jn (σ := Bool) (fun t452 =>
 K t452)
 (fun J451 =>
 brB (r448.2.1 == x450)
 (J451 ((r448.2.2.1 == (92 : Int))))
 (J451 false)))))
 (fun J429 =>
 brB (r426.2.1 != x428)
 (J429 true)
 (J429 ((r426.2.2.1 != (92 : Int)))))))))
 (fun J415 =>
 brB (r414.2.1 != (900 : Int))
 (J415 true)
 (J415 ((r414.2.2.1 != (92 : Int)))))))
 (fun J405 =>
 brB (r404.2.2.1 != (0 : Int))
 (J405 true)
 (J405 ((r404.1 != (2 : Int)))))))))))
 (fun J12 =>
 brB (r11.2.1 != (0 : Int))
 (J12 true)
 (ldT .sl ((⟨b4, 0, none⟩ : Addr).add 2) fun x453 =>
 J12 (((r11.1.len : Int) != (x453.len : Int)))))))
 (fun J7 =>
 brB t6
 (J7 true)
 (J7 ((r3.2.1 != (2 : Int))))))
 (fun J5 =>
 brB (r3.2.2.2.1 != (0 : Int))
 (J5 true)
 (J5 ((!r3.2.2.1)))))
set_option maxRecDepth 100000 in
theorem E_salvorlaw09_RatGroups (a0 : Sl) (a1 : Sl) (a2 : Int) (K : Bool → HP) (h : Heap) : fnVC Tryz.prog [(1000000, .bool)] 196 Tryz.f3 [(.slice a0.a a0.len a0.cap), (.slice a1.a a1.len a1.cap), (.int .u8 a2)] .bool K h = F_salvorlaw09_RatGroups a0 a1 a2 K h := by kernel_rfl
def F_salvorlaw09_awake (K : Bool → HP) : HP :=
 callT Tryz.prog fn_salvorlaw09_three #[] .sl fun r0 =>
 nw #[(.int .i64 (4 : Int)), (.int .i64 (1 : Int))] ty_lits_Lit fun b1 =>
 nw #[(.int .i64 (1 : Int)), (.int .i64 (3 : Int))] ty_lits_Lit fun b2 =>
 nw #[(.int .i64 (1 : Int)), (.int .i64 (3 : Int))] ty_int fun b3 =>
 nw #[(.int .i64 (1 : Int)), (.int .i64 (3 : Int))] ty_lits_Lit fun b4 =>
 nw #[(.int .i64 (1 : Int))] ty_int fun b5 =>
 nw #[(.int .i64 (2 : Int)), (.slice none 0 0)] ty_rat_Group fun b6 =>
 nw #[(.int .i64 (-3 : Int)), (.int .i64 (1 : Int))] ty_lits_Lit fun b7 =>
 nw #[(.int .i64 (2 : Int)), (.slice none 0 0)] ty_rat_Group fun b8 =>
 nw #[(.int .i64 (-3 : Int)), (.int .i64 (1 : Int))] ty_lits_Lit fun b9 =>
 nw #[(.slice (some (⟨b1, 0, none⟩ : Addr)) 2 2), (.slice none 0 0), (.slice none 0 0), (.int .u8 (2 : Int)), (.int .i64 (0 : Int)), (.int .i64 (0 : Int)), (.slice (some (⟨b2, 0, none⟩ : Addr)) 2 2), (.slice (some (⟨b3, 0, none⟩ : Addr)) 2 2), (.slice none 0 0), (.int .u8 (0 : Int)), (.int .i64 (3 : Int)), (.int .i64 (81 : Int)), (.slice (some (⟨b4, 0, none⟩ : Addr)) 2 2), (.slice (some (⟨b5, 0, none⟩ : Addr)) 1 1), (.slice (some (⟨b6, 0, none⟩ : Addr)) 1 1), (.int .u8 (0 : Int)), (.int .i64 (2 : Int)), (.int .i64 (93 : Int)), (.slice (some (⟨b7, 0, none⟩ : Addr)) 2 2), (.slice none 0 0), (.slice (some (⟨b8, 0, none⟩ : Addr)) 1 1), (.int .u8 (2 : Int)), (.int .i64 (0 : Int)), (.int .i64 (0 : Int)), (.slice (some (⟨b9, 0, none⟩ : Addr)) 2 2), (.slice none 0 0), (.slice none 0 0), (.int .u8 (0 : Int)), (.int .i64 (2 : Int)), (.int .i64 (92 : Int))] ty_struct_s_rat_Step_kind_uint8_id_int_e_api_Errno fun b10 =>
 lfp (σ := (Int × (Bool × Unit))) (fun X11 s12 => /-   -/
 brB (decide (s12.1 < (5 : Int)))
 (sx (some (⟨b10, 0, none⟩ : Addr)) 5 s12.1 6 fun p13 =>
 ldA (.cons .sl (.cons .sl (.cons .sl (.cons (.int .u8) (.cons (.int .i64) (.cons (.int .i64) .nil)))))) p13 fun x14 =>
 nw #[(.slice none 0 0), (.slice none 0 0), (.slice none 0 0), (.int .u8 (0 : Int)), (.int .i64 (0 : Int)), (.int .i64 (0 : Int))] ty_struct_s_rat_Step_kind_uint8_id_int_e_api_Errno fun b15 =>
 st1 (⟨b15, 0, none⟩ : Addr) (.slice x14.1.a x14.1.len x14.1.cap) <|
 st1 ((⟨b15, 0, none⟩ : Addr).add 1) (.slice x14.2.1.a x14.2.1.len x14.2.1.cap) <|
 st1 ((⟨b15, 0, none⟩ : Addr).add 2) (.slice x14.2.2.1.a x14.2.2.1.len x14.2.2.1.cap) <|
 st1 ((⟨b15, 0, none⟩ : Addr).add 3) (.int .u8 x14.2.2.2.1) <|
 st1 ((⟨b15, 0, none⟩ : Addr).add 4) (.int .i64 x14.2.2.2.2.1) <|
 st1 ((⟨b15, 0, none⟩ : Addr).add 5) (.int .i64 x14.2.2.2.2.2.1) <|
 ldA (.cons .sl (.cons .sl (.cons .sl .nil))) (⟨b15, 0, none⟩ : Addr) fun x16 =>
 callT Tryz.prog fn_rat_Check #[(.slice r0.a r0.len r0.cap), (.agg #[(.slice x16.1.a x16.1.len x16.1.cap), (.slice x16.2.1.a x16.2.1.len x16.2.1.cap), (.slice x16.2.2.1.a x16.2.2.1.len x16.2.2.1.cap)])] (.tup (.cons (.int .u8) (.cons (.int .i64) (.cons (.int .i64) .nil)))) fun r17 =>
 ldT (.int .u8) ((⟨b15, 0, none⟩ : Addr).add 3) fun x18 =>
 jn (σ := Bool) (fun t20 =>
 jn (σ := Bool) (fun t22 =>
 brB t22
 (K false)
 (X11 ((IntKind.wrap .i64 (s12.1 + (1 : Int))), s12.2.1, ())))
 (fun J21 =>
 brB t20
 (J21 true)
 (ldT (.int .i64) ((⟨b15, 0, none⟩ : Addr).add 5) fun x23 =>
 J21 ((r17.2.2.1 != x23)))))
 (fun J19 =>
 brB (r17.1 != x18)
 (J19 true)
 (ldT (.int .i64) ((⟨b15, 0, none⟩ : Addr).add 4) fun x24 =>
 J19 ((r17.2.1 != x24)))))
 (nw #[(.int .i64 (5 : Int)), (.int .i64 (-7 : Int)), (.int .i64 (2 : Int)), (.int .i64 (3 : Int)), (.int .i64 (-8 : Int))] ty_int fun b25 =>
 callT Tryz.prog fn_rat_Split #[(.slice (some (⟨b25, 0, none⟩ : Addr)) 5 5)] (.tup (.cons .sl (.cons .sl (.cons (.int .i64) .nil)))) fun r26 =>
 nw #[(.int .i64 (-3 : Int)), (.int .i64 (1 : Int))] ty_lits_Lit fun b27 =>
 nw #[(.int .i64 (3 : Int)), (.int .i64 (-1 : Int))] ty_lits_Lit fun b28 =>
 callT Tryz.prog fn_rat_Repair #[(.slice (some (⟨b27, 0, none⟩ : Addr)) 2 2), (.slice (some (⟨b28, 0, none⟩ : Addr)) 2 2)] (.tup (.cons .sl (.cons (.int .i64) .nil))) fun r29 =>
 jn (σ := Bool) (fun t31 =>
 jn (σ := Bool) (fun t33 =>
 jn (σ := Bool) (fun t35 =>
 K t35)
 (fun J34 =>
 brB t33
 (nw #[(.int .i64 (-3 : Int)), (.int .i64 (-1 : Int))] ty_lits_Lit fun b36 =>
 callT Tryz.prog fn_slices_Equal_lits_Lit_lits_Lit #[(.slice r29.1.a r29.1.len r29.1.cap), (.slice (some (⟨b36, 0, none⟩ : Addr)) 2 2)] .bool fun r37 =>
 J34 (r37))
 (J34 false)))
 (fun J32 =>
 brB t31
 (nw #[(.int .i64 (2 : Int)), (.int .i64 (3 : Int))] ty_int fun b38 =>
 nw #[(.int .i64 (7 : Int)), (.slice (some (⟨b38, 0, none⟩ : Addr)) 2 2), (.int .i64 (8 : Int)), (.slice none 0 0)] ty_rat_Group fun b39 =>
 callT Tryz.prog fn_salvorlaw09_sameGroups #[(.slice r26.2.1.a r26.2.1.len r26.2.1.cap), (.slice (some (⟨b39, 0, none⟩ : Addr)) 2 2)] .bool fun r40 =>
 J32 (r40))
 (J32 false)))
 (fun J30 =>
 brB ((IntKind.wrap .i64 (r26.2.2.1 + r29.2.1)) == (0 : Int))
 (nw #[(.int .i64 (5 : Int))] ty_int fun b41 =>
 callT Tryz.prog fn_slices_Equal_int_int #[(.slice r26.1.a r26.1.len r26.1.cap), (.slice (some (⟨b41, 0, none⟩ : Addr)) 1 1)] .bool fun r42 =>
 J30 (r42))
 (J30 false))))
 ((0 : Int), false, ())
set_option maxRecDepth 100000 in
theorem E_salvorlaw09_awake (K : Bool → HP) (h : Heap) : fnVC Tryz.prog [(1000000, .bool)] 99 Tryz.f10 [] .bool K h = F_salvorlaw09_awake K h := by kernel_rfl
set_option maxRecDepth 100000 in
theorem S_salvorlaw09_awake{h : Heap} (K : Bool → HP) (hF : F_salvorlaw09_awake K h) : CallsH Tryz.prog fn_salvorlaw09_awake #[] h fun v h' => ∃ x : Bool, v = Ty.enc .bool x ∧ K x h' :=
  callsH_of_fn (P := Tryz.prog) (fn := Tryz.f10) (τ := .bool) follows Tryz.func10 (by kernel_rfl) (by kernel_rfl) Tryz.call10 (Eq.mpr (E_salvorlaw09_awake K h) hF)

def F_salvorlaw09_Made (a0 : Sl) (a1 : Sl) (a2 : Int) (K : Sl → HP) : HP :=
 callT Tryz.prog fn_salvorlaw08_All #[(.slice a0.a a0.len a0.cap), (.int .i64 a2)] .sl fun r0 =>
 lfp (σ := (Int × (Int × (Sl × Unit)))) (fun X1 s2 => /-  id out -/
 brB (decide (s2.1 < (r0.len : Int)))
 (sx r0.a r0.len s2.1 1 fun p3 =>
 ldT .sl p3 fun x4 =>
 jn (σ := (Int × Unit)) (fun s6 => /- id -/
 nw #[(.int .i64 s6.1), (.slice x4.a x4.len x4.cap)] ty_rat_Entry fun b7 =>
 apd ty_rat_Entry 2 32 #[(.int .i64 (0 : Int)), (.slice none 0 0)] ⟨s2.2.2.1.a, s2.2.2.1.len, s2.2.2.1.cap⟩ ⟨(some (⟨b7, 0, none⟩ : Addr)), 1, 1⟩ fun s8 =>
 X1 ((IntKind.wrap .i64 (s2.1 + (1 : Int))), s6.1, ⟨s8.a, s8.len, s8.cap⟩, ()))
 (fun J5 =>
 brB (decide (s2.1 < (a1.len : Int)))
 (sx a1.a a1.len s2.1 1 fun p9 =>
 ldT (.int .u8) p9 fun x10 =>
 nz (4 : Int) <|
 J5 ((IntKind.wrap .i64 ((IntKind.wrap .i64 (s2.2.1 + (1 : Int))) + (IntKind.wrap .i64 (Int.tmod x10 (4 : Int))))), ()))
 (J5 ((IntKind.wrap .i64 (s2.2.1 + (1 : Int))), ()))))
 (K ⟨s2.2.2.1.a, s2.2.2.1.len, s2.2.2.1.cap⟩))
 ((0 : Int), (0 : Int), ⟨none, 0, 0⟩, ())
set_option maxRecDepth 100000 in
theorem E_salvorlaw09_Made (a0 : Sl) (a1 : Sl) (a2 : Int) (K : Sl → HP) (h : Heap) : fnVC Tryz.prog [(1000000, .bool)] 42 Tryz.f11 [(.slice a0.a a0.len a0.cap), (.slice a1.a a1.len a1.cap), (.int .i64 a2)] .sl K h = F_salvorlaw09_Made a0 a1 a2 K h := by kernel_rfl
set_option maxRecDepth 100000 in
theorem S_salvorlaw09_Made{h : Heap} {a0 : Sl} {a1 : Sl} {a2 : Int} (K : Sl → HP) (hF : F_salvorlaw09_Made a0 a1 a2 K h) : CallsH Tryz.prog fn_salvorlaw09_Made #[(.slice a0.a a0.len a0.cap), (.slice a1.a a1.len a1.cap), (.int .i64 a2)] h fun v h' => ∃ x : Sl, v = Ty.enc .sl x ∧ K x h' :=
  callsH_of_fn (P := Tryz.prog) (fn := Tryz.f11) (τ := .sl) follows Tryz.func11 (by kernel_rfl) (by kernel_rfl) Tryz.call11 (Eq.mpr (E_salvorlaw09_Made a0 a1 a2 K h) hF)

def F_salvorlaw08_Made (a0 : Sl) (K : Sl → HP) : HP :=
 slH ⟨a0.a, a0.len, a0.cap⟩ (if (6 : Int) < (a0.len : Int) then (6 : Int) else (a0.len : Int)) 1 fun s0 =>
 lfp (σ := (Int × (Sl × Unit))) (fun X1 s2 => /-  out -/
 brB (decide (s2.1 < (s0.len : Int)))
 (sx s0.a s0.len s2.1 1 fun p3 =>
 ldT (.int .i8) p3 fun x4 =>
 nz (2 : Int) <|
 nz (6 : Int) <|
 jn (σ := (Int × Unit)) (fun s6 => /- v -/
 nw #[(.int .i64 s6.1)] ty_lits_Lit fun b7 =>
 apd ty_lits_Lit 1 8 #[(.int .i64 (0 : Int))] ⟨s2.2.1.a, s2.2.1.len, s2.2.1.cap⟩ ⟨(some (⟨b7, 0, none⟩ : Addr)), 1, 1⟩ fun s8 =>
 X1 ((IntKind.wrap .i64 (s2.1 + (1 : Int))), ⟨s8.a, s8.len, s8.cap⟩, ()))
 (fun J5 =>
 brB ((bAnd .i8 x4 (1 : Int)) == (1 : Int))
 (J5 ((IntKind.wrap .i64 (0 - (IntKind.wrap .i64 ((1 : Int) + (Int.tmod (IntKind.wrap .i64 (IntKind.wrap .u8 (Int.tdiv (IntKind.wrap .u8 x4) (2 : Int)))) (6 : Int)))))), ()))
 (J5 ((IntKind.wrap .i64 ((1 : Int) + (Int.tmod (IntKind.wrap .i64 (IntKind.wrap .u8 (Int.tdiv (IntKind.wrap .u8 x4) (2 : Int)))) (6 : Int)))), ()))))
 (K ⟨s2.2.1.a, s2.2.1.len, s2.2.1.cap⟩))
 ((0 : Int), ⟨none, 0, 0⟩, ())
set_option maxRecDepth 100000 in
theorem E_salvorlaw08_Made (a0 : Sl) (K : Sl → HP) (h : Heap) : fnVC Tryz.prog [(1000000, .bool)] 34 Tryz.f12 [(.slice a0.a a0.len a0.cap)] .sl K h = F_salvorlaw08_Made a0 K h := by kernel_rfl
set_option maxRecDepth 100000 in
theorem S_salvorlaw08_Made{h : Heap} {a0 : Sl} (K : Sl → HP) (hF : F_salvorlaw08_Made a0 K h) : CallsH Tryz.prog fn_salvorlaw08_Made #[(.slice a0.a a0.len a0.cap)] h fun v h' => ∃ x : Sl, v = Ty.enc .sl x ∧ K x h' :=
  callsH_of_fn (P := Tryz.prog) (fn := Tryz.f12) (τ := .sl) follows Tryz.func12 (by kernel_rfl) (by kernel_rfl) Tryz.call12 (Eq.mpr (E_salvorlaw08_Made a0 K h) hF)

end Go.Proofs.S
