/- The functions of the seat, each as a predicate over its values, printed by a program of ours, and that each is its text's. -/
import Derived.Test.YtjkgncibelojnaaGreatSx10
import Derived.KernelRfl
import Derived.Test.YtjkgncibelojnaaGreatProg
import Derived.Test.YtjkgncibelojnaaGreatClF0
set_option linter.unusedVariables false
namespace Go.Proofs.S
open Go Go.Sx Go.Proofs
def F_salvorlaw09_RatWrong (a0 : Sl) (a1 : Int) (a2 : Int) (K : Bool → HP) : HP :=
 callT Tryz.prog fn_salvorlaw09_awake #[] .bool fun r0 =>
 brB (!r0)
 (K false)
 (callT Tryz.prog fn_salvorlaw09_Made #[(.slice a0.a a0.len a0.cap), (.slice none 0 0), (.int .i64 (8 : Int))] .sl fun r1 =>
 callT Tryz.prog fn_lits_Right #[(.int .i64 a2)] .bool fun r2 =>
 jn (σ := (Int × Unit)) (fun s4 => /- none -/
 nz (4 : Int) <|
 cj
 (callT Tryz.prog fn_slices_Clone_rat_Entry_rat_Entry #[(.slice r1.a r1.len r1.cap)] .sl fun r5 =>
 nw #[(.int .i64 (1 : Int)), (.int .i64 s4.1)] ty_lits_Lit fun b6 =>
 nw #[(.int .i64 (r1.len : Int)), (.slice none 0 0), (.int .i64 (if (0 : Int) < a2 then (0 : Int) else a2)), (.slice none 0 0), (.int .i64 (if (1073741825 : Int) > a2 then (1073741825 : Int) else a2)), (.slice none 0 0), (.int .i64 (IntKind.wrap .i64 ((r1.len : Int) + (1 : Int)))), (.slice (some (⟨b6, 0, none⟩ : Addr)) 2 2)] ty_rat_Entry fun b7 =>
 sx (some (⟨b7, 0, none⟩ : Addr)) 4 (Int.tmod a1 (4 : Int)) 2 fun p8 =>
 ldA (.cons (.int .i64) (.cons .sl .nil)) p8 fun x9 =>
 nw #[(.int .i64 x9.1), (.slice x9.2.1.a x9.2.1.len x9.2.1.cap)] ty_rat_Entry fun b10 =>
 apd ty_rat_Entry 2 32 #[(.int .i64 (0 : Int)), (.slice none 0 0)] ⟨r5.a, r5.len, r5.cap⟩ ⟨(some (⟨b10, 0, none⟩ : Addr)), 1, 1⟩ fun s11 =>
 nw #[(.int .i64 s4.1)] ty_lits_Lit fun b12 =>
 callT Tryz.prog fn_rat_Find #[(.slice s11.a s11.len s11.cap), (.int .i64 a2)] (.tup (.cons (.int .i64) (.cons .bool (.cons (.int .i64) .nil)))) fun r13 =>
 callT Tryz.prog fn_rat_Candidates #[(.slice s11.a s11.len s11.cap), (.int .i64 s4.1)] (.tup (.cons .sl (.cons (.int .i64) .nil))) fun r14 =>
 callT Tryz.prog fn_rat_Check #[(.slice s11.a s11.len s11.cap), (.agg #[(.slice (some (⟨b12, 0, none⟩ : Addr)) 1 1), (.slice none 0 0), (.slice none 0 0)])] (.tup (.cons (.int .u8) (.cons (.int .i64) (.cons (.int .i64) .nil)))) fun r15 =>
 callT Tryz.prog fn_rat_Search #[(.slice s11.a s11.len s11.cap), (.slice (some (⟨b12, 0, none⟩ : Addr)) 1 1)] (.tup (.cons (.agg (.cons .sl (.cons .sl (.cons .sl .nil)))) (.cons (.int .u8) (.cons .bool (.cons (.int .i64) .nil))))) fun r16 =>
 nw #[(.slice none 0 0), (.slice none 0 0), (.slice none 0 0)] ty_rat_Step fun b17 =>
 st1 (⟨b17, 0, none⟩ : Addr) (.slice r16.1.1.a r16.1.1.len r16.1.1.cap) <|
 st1 ((⟨b17, 0, none⟩ : Addr).add 1) (.slice r16.1.2.1.a r16.1.2.1.len r16.1.2.1.cap) <|
 st1 ((⟨b17, 0, none⟩ : Addr).add 2) (.slice r16.1.2.2.1.a r16.1.2.2.1.len r16.1.2.2.1.cap) <|
 nw #[(.int .i64 r13.2.2.1), (.int .i64 r14.2.1), (.int .i64 r15.2.2.1), (.int .i64 r16.2.2.2.1)] ty_api_Errno fun b18 =>
 lfp (σ := (Int × (Bool × Unit))) (fun X19 s20 => /-   -/
 brB (decide (s20.1 < (4 : Int)))
 (sx (some (⟨b18, 0, none⟩ : Addr)) 4 s20.1 1 fun p21 =>
 ldT (.int .i64) p21 fun x22 =>
 brB (x22 != (90 : Int))
 (K false)
 (X19 ((IntKind.wrap .i64 (s20.1 + (1 : Int))), s20.2.1, ())))
 (callT Tryz.prog fn_rat_Right #[(.slice s11.a s11.len s11.cap)] .bool fun r23 =>
 jn (σ := Bool) (fun t25 =>
 jn (σ := Bool) (fun t27 =>
 jn (σ := Bool) (fun t29 =>
 jn (σ := Bool) (fun t31 =>
 jn (σ := Bool) (fun t33 =>
 jn (σ := Bool) (fun t35 =>
 brB t35
 (K false)
 (callT Tryz.prog fn_rat_Candidates #[(.slice r1.a r1.len r1.cap), (.int .i64 s4.1)] (.tup (.cons .sl (.cons (.int .i64) .nil))) fun r36 =>
 callT Tryz.prog fn_rat_Check #[(.slice r1.a r1.len r1.cap), (.agg #[(.slice (some (⟨b12, 0, none⟩ : Addr)) 1 1), (.slice none 0 0), (.slice none 0 0)])] (.tup (.cons (.int .u8) (.cons (.int .i64) (.cons (.int .i64) .nil)))) fun r37 =>
 callT Tryz.prog fn_rat_Search #[(.slice r1.a r1.len r1.cap), (.slice (some (⟨b12, 0, none⟩ : Addr)) 1 1)] (.tup (.cons (.agg (.cons .sl (.cons .sl (.cons .sl .nil)))) (.cons (.int .u8) (.cons .bool (.cons (.int .i64) .nil))))) fun r38 =>
 jn (σ := Bool) (fun t40 =>
 jn (σ := Bool) (fun t42 =>
 brB t42
 (K false)
 (nw #[(.int .i64 (9 : Int)), (.int .i64 (10 : Int))] ty_lits_Lit fun b43 =>
 nw #[(.int .i64 (if (IntKind.wrap .i64 ((r1.len : Int) + (1 : Int))) > a2 then (IntKind.wrap .i64 ((r1.len : Int) + (1 : Int))) else a2))] ty_int fun b44 =>
 callT Tryz.prog fn_rat_Check #[(.slice r1.a r1.len r1.cap), (.agg #[(.slice (some (⟨b43, 0, none⟩ : Addr)) 2 2), (.slice (some (⟨b44, 0, none⟩ : Addr)) 1 1), (.slice none 0 0)])] (.tup (.cons (.int .u8) (.cons (.int .i64) (.cons (.int .i64) .nil)))) fun r45 =>
 callT Tryz.prog fn_rat_Check #[(.slice r1.a r1.len r1.cap), (.agg #[(.slice none 0 0), (.slice none 0 0), (.slice none 0 0)])] (.tup (.cons (.int .u8) (.cons (.int .i64) (.cons (.int .i64) .nil)))) fun r46 =>
 jn (σ := Bool) (fun t48 =>
 jn (σ := Bool) (fun t50 =>
 jn (σ := Bool) (fun t52 =>
 jn (σ := Bool) (fun t54 =>
 jn (σ := Bool) (fun t56 =>
 K t56)
 (fun J55 =>
 brB t54
 (J55 ((r46.2.2.1 == (82 : Int))))
 (J55 false)))
 (fun J53 =>
 brB t52
 (J53 ((r46.2.1 == (0 : Int))))
 (J53 false)))
 (fun J51 =>
 brB t50
 (J51 ((r46.1 == (0 : Int))))
 (J51 false)))
 (fun J49 =>
 brB t48
 (J49 ((r45.2.2.1 == (91 : Int))))
 (J49 false)))
 (fun J47 =>
 brB (r45.1 == (0 : Int))
 (J47 ((r45.2.1 == (if (IntKind.wrap .i64 ((r1.len : Int) + (1 : Int))) > a2 then (IntKind.wrap .i64 ((r1.len : Int) + (1 : Int))) else a2))))
 (J47 false))))
 (fun J41 =>
 brB t40
 (J41 true)
 (J41 ((r38.2.2.2.1 != (20 : Int))))))
 (fun J39 =>
 brB (r36.2.1 != (10 : Int))
 (J39 true)
 (J39 ((r37.2.2.1 != (20 : Int)))))))
 (fun J34 =>
 brB t33
 (J34 true)
 (callT Tryz.prog fn_rat_Right #[(.slice r1.a r1.len r1.cap)] .bool fun r57 =>
 J34 ((!r57)))))
 (fun J32 =>
 brB t31
 (J32 true)
 (J32 ((r15.2.1 != (0 : Int))))))
 (fun J30 =>
 brB t29
 (J30 true)
 (J30 ((r15.1 != (0 : Int))))))
 (fun J28 =>
 brB t27
 (J28 true)
 (J28 (((r14.1.len : Int) != (0 : Int))))))
 (fun J26 =>
 brB t25
 (J26 true)
 (J26 (r16.2.2.1))))
 (fun J24 =>
 brB r23
 (J24 true)
 (J24 (r13.2.1)))))
 ((0 : Int), false, ()))
 (nw #[(.int .i64 (1 : Int)), (.int .i64 s4.1)] ty_lits_Lit fun b58 =>
 cj
 (callT Tryz.prog fn_slices_Clone_rat_Entry_rat_Entry #[(.slice r1.a r1.len r1.cap)] .sl fun r59 =>
 nw #[(.int .i64 (r1.len : Int)), (.slice none 0 0), (.int .i64 (if (0 : Int) < a2 then (0 : Int) else a2)), (.slice none 0 0), (.int .i64 (if (1073741825 : Int) > a2 then (1073741825 : Int) else a2)), (.slice none 0 0), (.int .i64 (IntKind.wrap .i64 ((r1.len : Int) + (1 : Int)))), (.slice (some (⟨b58, 0, none⟩ : Addr)) 2 2)] ty_rat_Entry fun b60 =>
 sx (some (⟨b60, 0, none⟩ : Addr)) 4 (Int.tmod a1 (4 : Int)) 2 fun p61 =>
 ldA (.cons (.int .i64) (.cons .sl .nil)) p61 fun x62 =>
 nw #[(.int .i64 x62.1), (.slice x62.2.1.a x62.2.1.len x62.2.1.cap)] ty_rat_Entry fun b63 =>
 apd ty_rat_Entry 2 32 #[(.int .i64 (0 : Int)), (.slice none 0 0)] ⟨r59.a, r59.len, r59.cap⟩ ⟨(some (⟨b63, 0, none⟩ : Addr)), 1, 1⟩ fun s64 =>
 nw #[(.int .i64 s4.1)] ty_lits_Lit fun b65 =>
 callT Tryz.prog fn_rat_Find #[(.slice s64.a s64.len s64.cap), (.int .i64 a2)] (.tup (.cons (.int .i64) (.cons .bool (.cons (.int .i64) .nil)))) fun r66 =>
 callT Tryz.prog fn_rat_Candidates #[(.slice s64.a s64.len s64.cap), (.int .i64 s4.1)] (.tup (.cons .sl (.cons (.int .i64) .nil))) fun r67 =>
 callT Tryz.prog fn_rat_Check #[(.slice s64.a s64.len s64.cap), (.agg #[(.slice (some (⟨b65, 0, none⟩ : Addr)) 1 1), (.slice none 0 0), (.slice none 0 0)])] (.tup (.cons (.int .u8) (.cons (.int .i64) (.cons (.int .i64) .nil)))) fun r68 =>
 callT Tryz.prog fn_rat_Search #[(.slice s64.a s64.len s64.cap), (.slice (some (⟨b65, 0, none⟩ : Addr)) 1 1)] (.tup (.cons (.agg (.cons .sl (.cons .sl (.cons .sl .nil)))) (.cons (.int .u8) (.cons .bool (.cons (.int .i64) .nil))))) fun r69 =>
 nw #[(.slice none 0 0), (.slice none 0 0), (.slice none 0 0)] ty_rat_Step fun b70 =>
 st1 (⟨b70, 0, none⟩ : Addr) (.slice r69.1.1.a r69.1.1.len r69.1.1.cap) <|
 st1 ((⟨b70, 0, none⟩ : Addr).add 1) (.slice r69.1.2.1.a r69.1.2.1.len r69.1.2.1.cap) <|
 st1 ((⟨b70, 0, none⟩ : Addr).add 2) (.slice r69.1.2.2.1.a r69.1.2.2.1.len r69.1.2.2.1.cap) <|
 nw #[(.int .i64 r66.2.2.1), (.int .i64 r67.2.1), (.int .i64 r68.2.2.1), (.int .i64 r69.2.2.2.1)] ty_api_Errno fun b71 =>
 lfp (σ := (Int × (Bool × Unit))) (fun X72 s73 => /-   -/
 brB (decide (s73.1 < (4 : Int)))
 (sx (some (⟨b71, 0, none⟩ : Addr)) 4 s73.1 1 fun p74 =>
 ldT (.int .i64) p74 fun x75 =>
 brB (x75 != (90 : Int))
 (K false)
 (X72 ((IntKind.wrap .i64 (s73.1 + (1 : Int))), s73.2.1, ())))
 (callT Tryz.prog fn_rat_Right #[(.slice s64.a s64.len s64.cap)] .bool fun r76 =>
 jn (σ := Bool) (fun t78 =>
 jn (σ := Bool) (fun t80 =>
 jn (σ := Bool) (fun t82 =>
 jn (σ := Bool) (fun t84 =>
 jn (σ := Bool) (fun t86 =>
 jn (σ := Bool) (fun t88 =>
 brB t88
 (K false)
 (callT Tryz.prog fn_rat_Candidates #[(.slice r1.a r1.len r1.cap), (.int .i64 s4.1)] (.tup (.cons .sl (.cons (.int .i64) .nil))) fun r89 =>
 callT Tryz.prog fn_rat_Check #[(.slice r1.a r1.len r1.cap), (.agg #[(.slice (some (⟨b65, 0, none⟩ : Addr)) 1 1), (.slice none 0 0), (.slice none 0 0)])] (.tup (.cons (.int .u8) (.cons (.int .i64) (.cons (.int .i64) .nil)))) fun r90 =>
 callT Tryz.prog fn_rat_Search #[(.slice r1.a r1.len r1.cap), (.slice (some (⟨b65, 0, none⟩ : Addr)) 1 1)] (.tup (.cons (.agg (.cons .sl (.cons .sl (.cons .sl .nil)))) (.cons (.int .u8) (.cons .bool (.cons (.int .i64) .nil))))) fun r91 =>
 jn (σ := Bool) (fun t93 =>
 jn (σ := Bool) (fun t95 =>
 brB t95
 (K false)
 (nw #[(.int .i64 (9 : Int)), (.int .i64 (10 : Int))] ty_lits_Lit fun b96 =>
 nw #[(.int .i64 (if (IntKind.wrap .i64 ((r1.len : Int) + (1 : Int))) > a2 then (IntKind.wrap .i64 ((r1.len : Int) + (1 : Int))) else a2))] ty_int fun b97 =>
 callT Tryz.prog fn_rat_Check #[(.slice r1.a r1.len r1.cap), (.agg #[(.slice (some (⟨b96, 0, none⟩ : Addr)) 2 2), (.slice (some (⟨b97, 0, none⟩ : Addr)) 1 1), (.slice none 0 0)])] (.tup (.cons (.int .u8) (.cons (.int .i64) (.cons (.int .i64) .nil)))) fun r98 =>
 callT Tryz.prog fn_rat_Check #[(.slice r1.a r1.len r1.cap), (.agg #[(.slice none 0 0), (.slice none 0 0), (.slice none 0 0)])] (.tup (.cons (.int .u8) (.cons (.int .i64) (.cons (.int .i64) .nil)))) fun r99 =>
 jn (σ := Bool) (fun t101 =>
 jn (σ := Bool) (fun t103 =>
 jn (σ := Bool) (fun t105 =>
 jn (σ := Bool) (fun t107 =>
 jn (σ := Bool) (fun t109 =>
 K t109)
 (fun J108 =>
 brB t107
 (J108 ((r99.2.2.1 == (82 : Int))))
 (J108 false)))
 (fun J106 =>
 brB t105
 (J106 ((r99.2.1 == (0 : Int))))
 (J106 false)))
 (fun J104 =>
 brB t103
 (J104 ((r99.1 == (0 : Int))))
 (J104 false)))
 (fun J102 =>
 brB t101
 (J102 ((r98.2.2.1 == (91 : Int))))
 (J102 false)))
 (fun J100 =>
 brB (r98.1 == (0 : Int))
 (J100 ((r98.2.1 == (if (IntKind.wrap .i64 ((r1.len : Int) + (1 : Int))) > a2 then (IntKind.wrap .i64 ((r1.len : Int) + (1 : Int))) else a2))))
 (J100 false))))
 (fun J94 =>
 brB t93
 (J94 true)
 (J94 ((r91.2.2.2.1 != (20 : Int))))))
 (fun J92 =>
 brB (r89.2.1 != (10 : Int))
 (J92 true)
 (J92 ((r90.2.2.1 != (20 : Int)))))))
 (fun J87 =>
 brB t86
 (J87 true)
 (callT Tryz.prog fn_rat_Right #[(.slice r1.a r1.len r1.cap)] .bool fun r110 =>
 J87 ((!r110)))))
 (fun J85 =>
 brB t84
 (J85 true)
 (J85 ((r68.2.1 != (0 : Int))))))
 (fun J83 =>
 brB t82
 (J83 true)
 (J83 ((r68.1 != (0 : Int))))))
 (fun J81 =>
 brB t80
 (J81 true)
 (J81 (((r67.1.len : Int) != (0 : Int))))))
 (fun J79 =>
 brB t78
 (J79 true)
 (J79 (r69.2.2.1))))
 (fun J77 =>
 brB r76
 (J77 true)
 (J77 (r66.2.1)))))
 ((0 : Int), false, ()))
 (nw #[(.int .i64 (r1.len : Int)), (.slice none 0 0), (.int .i64 (if (0 : Int) < a2 then (0 : Int) else a2)), (.slice none 0 0), (.int .i64 (if (1073741825 : Int) > a2 then (1073741825 : Int) else a2)), (.slice none 0 0), (.int .i64 (IntKind.wrap .i64 ((r1.len : Int) + (1 : Int)))), (.slice (some (⟨b58, 0, none⟩ : Addr)) 2 2)] ty_rat_Entry fun b111 =>
 sx (some (⟨b111, 0, none⟩ : Addr)) 4 (Int.tmod a1 (4 : Int)) 2 fun p112 =>
 ldA (.cons (.int .i64) (.cons .sl .nil)) p112 fun x113 =>
 cj
 (callT Tryz.prog fn_slices_Clone_rat_Entry_rat_Entry #[(.slice r1.a r1.len r1.cap)] .sl fun r114 =>
 ckA p112 [(.int .i64 x113.1), (.slice x113.2.1.a x113.2.1.len x113.2.1.cap)] <|
 nw #[(.int .i64 x113.1), (.slice x113.2.1.a x113.2.1.len x113.2.1.cap)] ty_rat_Entry fun b115 =>
 apd ty_rat_Entry 2 32 #[(.int .i64 (0 : Int)), (.slice none 0 0)] ⟨r114.a, r114.len, r114.cap⟩ ⟨(some (⟨b115, 0, none⟩ : Addr)), 1, 1⟩ fun s116 =>
 nw #[(.int .i64 s4.1)] ty_lits_Lit fun b117 =>
 callT Tryz.prog fn_rat_Find #[(.slice s116.a s116.len s116.cap), (.int .i64 a2)] (.tup (.cons (.int .i64) (.cons .bool (.cons (.int .i64) .nil)))) fun r118 =>
 callT Tryz.prog fn_rat_Candidates #[(.slice s116.a s116.len s116.cap), (.int .i64 s4.1)] (.tup (.cons .sl (.cons (.int .i64) .nil))) fun r119 =>
 callT Tryz.prog fn_rat_Check #[(.slice s116.a s116.len s116.cap), (.agg #[(.slice (some (⟨b117, 0, none⟩ : Addr)) 1 1), (.slice none 0 0), (.slice none 0 0)])] (.tup (.cons (.int .u8) (.cons (.int .i64) (.cons (.int .i64) .nil)))) fun r120 =>
 callT Tryz.prog fn_rat_Search #[(.slice s116.a s116.len s116.cap), (.slice (some (⟨b117, 0, none⟩ : Addr)) 1 1)] (.tup (.cons (.agg (.cons .sl (.cons .sl (.cons .sl .nil)))) (.cons (.int .u8) (.cons .bool (.cons (.int .i64) .nil))))) fun r121 =>
 nw #[(.slice none 0 0), (.slice none 0 0), (.slice none 0 0)] ty_rat_Step fun b122 =>
 st1 (⟨b122, 0, none⟩ : Addr) (.slice r121.1.1.a r121.1.1.len r121.1.1.cap) <|
 st1 ((⟨b122, 0, none⟩ : Addr).add 1) (.slice r121.1.2.1.a r121.1.2.1.len r121.1.2.1.cap) <|
 st1 ((⟨b122, 0, none⟩ : Addr).add 2) (.slice r121.1.2.2.1.a r121.1.2.2.1.len r121.1.2.2.1.cap) <|
 nw #[(.int .i64 r118.2.2.1), (.int .i64 r119.2.1), (.int .i64 r120.2.2.1), (.int .i64 r121.2.2.2.1)] ty_api_Errno fun b123 =>
 lfp (σ := (Int × (Bool × Unit))) (fun X124 s125 => /-   -/
 brB (decide (s125.1 < (4 : Int)))
 (sx (some (⟨b123, 0, none⟩ : Addr)) 4 s125.1 1 fun p126 =>
 ldT (.int .i64) p126 fun x127 =>
 brB (x127 != (90 : Int))
 (K false)
 (X124 ((IntKind.wrap .i64 (s125.1 + (1 : Int))), s125.2.1, ())))
 (callT Tryz.prog fn_rat_Right #[(.slice s116.a s116.len s116.cap)] .bool fun r128 =>
 jn (σ := Bool) (fun t130 =>
 jn (σ := Bool) (fun t132 =>
 jn (σ := Bool) (fun t134 =>
 jn (σ := Bool) (fun t136 =>
 jn (σ := Bool) (fun t138 =>
 jn (σ := Bool) (fun t140 =>
 brB t140
 (K false)
 (callT Tryz.prog fn_rat_Candidates #[(.slice r1.a r1.len r1.cap), (.int .i64 s4.1)] (.tup (.cons .sl (.cons (.int .i64) .nil))) fun r141 =>
 callT Tryz.prog fn_rat_Check #[(.slice r1.a r1.len r1.cap), (.agg #[(.slice (some (⟨b117, 0, none⟩ : Addr)) 1 1), (.slice none 0 0), (.slice none 0 0)])] (.tup (.cons (.int .u8) (.cons (.int .i64) (.cons (.int .i64) .nil)))) fun r142 =>
 callT Tryz.prog fn_rat_Search #[(.slice r1.a r1.len r1.cap), (.slice (some (⟨b117, 0, none⟩ : Addr)) 1 1)] (.tup (.cons (.agg (.cons .sl (.cons .sl (.cons .sl .nil)))) (.cons (.int .u8) (.cons .bool (.cons (.int .i64) .nil))))) fun r143 =>
 jn (σ := Bool) (fun t145 =>
 jn (σ := Bool) (fun t147 =>
 brB t147
 (K false)
 (nw #[(.int .i64 (9 : Int)), (.int .i64 (10 : Int))] ty_lits_Lit fun b148 =>
 nw #[(.int .i64 (if (IntKind.wrap .i64 ((r1.len : Int) + (1 : Int))) > a2 then (IntKind.wrap .i64 ((r1.len : Int) + (1 : Int))) else a2))] ty_int fun b149 =>
 callT Tryz.prog fn_rat_Check #[(.slice r1.a r1.len r1.cap), (.agg #[(.slice (some (⟨b148, 0, none⟩ : Addr)) 2 2), (.slice (some (⟨b149, 0, none⟩ : Addr)) 1 1), (.slice none 0 0)])] (.tup (.cons (.int .u8) (.cons (.int .i64) (.cons (.int .i64) .nil)))) fun r150 =>
 callT Tryz.prog fn_rat_Check #[(.slice r1.a r1.len r1.cap), (.agg #[(.slice none 0 0), (.slice none 0 0), (.slice none 0 0)])] (.tup (.cons (.int .u8) (.cons (.int .i64) (.cons (.int .i64) .nil)))) fun r151 =>
 jn (σ := Bool) (fun t153 =>
 jn (σ := Bool) (fun t155 =>
 jn (σ := Bool) (fun t157 =>
 jn (σ := Bool) (fun t159 =>
 jn (σ := Bool) (fun t161 =>
 K t161)
 (fun J160 =>
 brB t159
 (J160 ((r151.2.2.1 == (82 : Int))))
 (J160 false)))
 (fun J158 =>
 brB t157
 (J158 ((r151.2.1 == (0 : Int))))
 (J158 false)))
 (fun J156 =>
 brB t155
 (J156 ((r151.1 == (0 : Int))))
 (J156 false)))
 (fun J154 =>
 brB t153
 (J154 ((r150.2.2.1 == (91 : Int))))
 (J154 false)))
 (fun J152 =>
 brB (r150.1 == (0 : Int))
 (J152 ((r150.2.1 == (if (IntKind.wrap .i64 ((r1.len : Int) + (1 : Int))) > a2 then (IntKind.wrap .i64 ((r1.len : Int) + (1 : Int))) else a2))))
 (J152 false))))
 (fun J146 =>
 brB t145
 (J146 true)
 (J146 ((r143.2.2.2.1 != (20 : Int))))))
 (fun J144 =>
 brB (r141.2.1 != (10 : Int))
 (J144 true)
 (J144 ((r142.2.2.1 != (20 : Int)))))))
 (fun J139 =>
 brB t138
 (J139 true)
 (callT Tryz.prog fn_rat_Right #[(.slice r1.a r1.len r1.cap)] .bool fun r162 =>
 J139 ((!r162)))))
 (fun J137 =>
 brB t136
 (J137 true)
 (J137 ((r120.2.1 != (0 : Int))))))
 (fun J135 =>
 brB t134
 (J135 true)
 (J135 ((r120.1 != (0 : Int))))))
 (fun J133 =>
 brB t132
 (J133 true)
 (J133 (((r119.1.len : Int) != (0 : Int))))))
 (fun J131 =>
 brB t130
 (J131 true)
 (J131 (r121.2.2.1))))
 (fun J129 =>
 brB r128
 (J129 true)
 (J129 (r118.2.1)))))
 ((0 : Int), false, ()))
 (nw #[(.int .i64 x113.1), (.slice x113.2.1.a x113.2.1.len x113.2.1.cap)] ty_rat_Entry fun b163 =>
 callT Tryz.prog fn_slices_Clone_rat_Entry_rat_Entry #[(.slice r1.a r1.len r1.cap)] .sl fun r164 =>
 ckA p112 [(.int .i64 x113.1), (.slice x113.2.1.a x113.2.1.len x113.2.1.cap)] <|
 apd ty_rat_Entry 2 32 #[(.int .i64 (0 : Int)), (.slice none 0 0)] ⟨r164.a, r164.len, r164.cap⟩ ⟨(some (⟨b163, 0, none⟩ : Addr)), 1, 1⟩ fun s165 =>
 nw #[(.int .i64 s4.1)] ty_lits_Lit fun b166 =>
 callT Tryz.prog fn_rat_Find #[(.slice s165.a s165.len s165.cap), (.int .i64 a2)] (.tup (.cons (.int .i64) (.cons .bool (.cons (.int .i64) .nil)))) fun r167 =>
 callT Tryz.prog fn_rat_Candidates #[(.slice s165.a s165.len s165.cap), (.int .i64 s4.1)] (.tup (.cons .sl (.cons (.int .i64) .nil))) fun r168 =>
 callT Tryz.prog fn_rat_Check #[(.slice s165.a s165.len s165.cap), (.agg #[(.slice (some (⟨b166, 0, none⟩ : Addr)) 1 1), (.slice none 0 0), (.slice none 0 0)])] (.tup (.cons (.int .u8) (.cons (.int .i64) (.cons (.int .i64) .nil)))) fun r169 =>
 callT Tryz.prog fn_rat_Search #[(.slice s165.a s165.len s165.cap), (.slice (some (⟨b166, 0, none⟩ : Addr)) 1 1)] (.tup (.cons (.agg (.cons .sl (.cons .sl (.cons .sl .nil)))) (.cons (.int .u8) (.cons .bool (.cons (.int .i64) .nil))))) fun r170 =>
 nw #[(.slice none 0 0), (.slice none 0 0), (.slice none 0 0)] ty_rat_Step fun b171 =>
 st1 (⟨b171, 0, none⟩ : Addr) (.slice r170.1.1.a r170.1.1.len r170.1.1.cap) <|
 st1 ((⟨b171, 0, none⟩ : Addr).add 1) (.slice r170.1.2.1.a r170.1.2.1.len r170.1.2.1.cap) <|
 st1 ((⟨b171, 0, none⟩ : Addr).add 2) (.slice r170.1.2.2.1.a r170.1.2.2.1.len r170.1.2.2.1.cap) <|
 nw #[(.int .i64 r167.2.2.1), (.int .i64 r168.2.1), (.int .i64 r169.2.2.1), (.int .i64 r170.2.2.2.1)] ty_api_Errno fun b172 =>
 lfp (σ := (Int × (Bool × Unit))) (fun X173 s174 => /-   -/
 brB (decide (s174.1 < (4 : Int)))
 (sx (some (⟨b172, 0, none⟩ : Addr)) 4 s174.1 1 fun p175 =>
 ldT (.int .i64) p175 fun x176 =>
 brB (x176 != (90 : Int))
 (K false)
 (X173 ((IntKind.wrap .i64 (s174.1 + (1 : Int))), s174.2.1, ())))
 (callT Tryz.prog fn_rat_Right #[(.slice s165.a s165.len s165.cap)] .bool fun r177 =>
 jn (σ := Bool) (fun t179 =>
 jn (σ := Bool) (fun t181 =>
 jn (σ := Bool) (fun t183 =>
 jn (σ := Bool) (fun t185 =>
 jn (σ := Bool) (fun t187 =>
 jn (σ := Bool) (fun t189 =>
 brB t189
 (K false)
 (callT Tryz.prog fn_rat_Candidates #[(.slice r1.a r1.len r1.cap), (.int .i64 s4.1)] (.tup (.cons .sl (.cons (.int .i64) .nil))) fun r190 =>
 callT Tryz.prog fn_rat_Check #[(.slice r1.a r1.len r1.cap), (.agg #[(.slice (some (⟨b166, 0, none⟩ : Addr)) 1 1), (.slice none 0 0), (.slice none 0 0)])] (.tup (.cons (.int .u8) (.cons (.int .i64) (.cons (.int .i64) .nil)))) fun r191 =>
 callT Tryz.prog fn_rat_Search #[(.slice r1.a r1.len r1.cap), (.slice (some (⟨b166, 0, none⟩ : Addr)) 1 1)] (.tup (.cons (.agg (.cons .sl (.cons .sl (.cons .sl .nil)))) (.cons (.int .u8) (.cons .bool (.cons (.int .i64) .nil))))) fun r192 =>
 jn (σ := Bool) (fun t194 =>
 jn (σ := Bool) (fun t196 =>
 brB t196
 (K false)
 (nw #[(.int .i64 (9 : Int)), (.int .i64 (10 : Int))] ty_lits_Lit fun b197 =>
 nw #[(.int .i64 (if (IntKind.wrap .i64 ((r1.len : Int) + (1 : Int))) > a2 then (IntKind.wrap .i64 ((r1.len : Int) + (1 : Int))) else a2))] ty_int fun b198 =>
 callT Tryz.prog fn_rat_Check #[(.slice r1.a r1.len r1.cap), (.agg #[(.slice (some (⟨b197, 0, none⟩ : Addr)) 2 2), (.slice (some (⟨b198, 0, none⟩ : Addr)) 1 1), (.slice none 0 0)])] (.tup (.cons (.int .u8) (.cons (.int .i64) (.cons (.int .i64) .nil)))) fun r199 =>
 callT Tryz.prog fn_rat_Check #[(.slice r1.a r1.len r1.cap), (.agg #[(.slice none 0 0), (.slice none 0 0), (.slice none 0 0)])] (.tup (.cons (.int .u8) (.cons (.int .i64) (.cons (.int .i64) .nil)))) fun r200 =>
 jn (σ := Bool) (fun t202 =>
 jn (σ := Bool) (fun t204 =>
 jn (σ := Bool) (fun t206 =>
 jn (σ := Bool) (fun t208 =>
 jn (σ := Bool) (fun t210 =>
 K t210)
 (fun J209 =>
 brB t208
 (J209 ((r200.2.2.1 == (82 : Int))))
 (J209 false)))
 (fun J207 =>
 brB t206
 (J207 ((r200.2.1 == (0 : Int))))
 (J207 false)))
 (fun J205 =>
 brB t204
 (J205 ((r200.1 == (0 : Int))))
 (J205 false)))
 (fun J203 =>
 brB t202
 (J203 ((r199.2.2.1 == (91 : Int))))
 (J203 false)))
 (fun J201 =>
 brB (r199.1 == (0 : Int))
 (J201 ((r199.2.1 == (if (IntKind.wrap .i64 ((r1.len : Int) + (1 : Int))) > a2 then (IntKind.wrap .i64 ((r1.len : Int) + (1 : Int))) else a2))))
 (J201 false))))
 (fun J195 =>
 brB t194
 (J195 true)
 (J195 ((r192.2.2.2.1 != (20 : Int))))))
 (fun J193 =>
 brB (r190.2.1 != (10 : Int))
 (J193 true)
 (J193 ((r191.2.2.1 != (20 : Int)))))))
 (fun J188 =>
 brB t187
 (J188 true)
 (callT Tryz.prog fn_rat_Right #[(.slice r1.a r1.len r1.cap)] .bool fun r211 =>
 J188 ((!r211)))))
 (fun J186 =>
 brB t185
 (J186 true)
 (J186 ((r169.2.1 != (0 : Int))))))
 (fun J184 =>
 brB t183
 (J184 true)
 (J184 ((r169.1 != (0 : Int))))))
 (fun J182 =>
 brB t181
 (J182 true)
 (J182 (((r168.1.len : Int) != (0 : Int))))))
 (fun J180 =>
 brB t179
 (J180 true)
 (J180 (r170.2.2.1))))
 (fun J178 =>
 brB r177
 (J178 true)
 (J178 (r167.2.1)))))
 ((0 : Int), false, ())))))
 (fun J3 =>
 brB r2
 (J3 ((0 : Int), ()))
 (J3 (a2, ()))))
set_option maxRecDepth 100000 in
theorem E_salvorlaw09_RatWrong (a0 : Sl) (a1 : Int) (a2 : Int) (K : Bool → HP) (h : Heap) : fnVC Tryz.prog [(1000000, .bool)] 208 Tryz.f9 [(.slice a0.a a0.len a0.cap), (.int .u8 a1), (.int .i64 a2)] .bool K h = F_salvorlaw09_RatWrong a0 a1 a2 K h := by kernel_rfl
def F_salvorlaw09_awake (K : Bool → HP) : HP :=
 callT Tryz.prog fn_salvorlaw09_three #[] .sl fun r0 =>
 nw #[(.int .i64 (4 : Int)), (.int .i64 (1 : Int))] ty_lits_Lit fun b1 =>
 nw #[(.int .i64 (1 : Int)), (.int .i64 (3 : Int))] ty_lits_Lit fun b2 =>
 nw #[(.int .i64 (1 : Int)), (.int .i64 (3 : Int))] ty_int fun b3 =>
 nw #[(.int .i64 (1 : Int)), (.int .i64 (3 : Int))] ty_lits_Lit fun b4 =>
 nw #[(.int .i64 (1 : Int))] ty_int fun b5 =>
 nw #[(.int .i64 (2 : Int)), (.slice none 0 0)] ty_rat_Group fun b6 =>
 nw #[(.int .i64 (-3 : Int)), (.int .i64 (1 : Int))] ty_lits_Lit fun b7 =>
 nw #[(.int .i64 (2 : Int)), (.slice none 0 0)] ty_rat_Group fun b8 =>
 nw #[(.int .i64 (-3 : Int)), (.int .i64 (1 : Int))] ty_lits_Lit fun b9 =>
 nw #[(.slice (some (⟨b1, 0, none⟩ : Addr)) 2 2), (.slice none 0 0), (.slice none 0 0), (.int .u8 (2 : Int)), (.int .i64 (0 : Int)), (.int .i64 (0 : Int)), (.slice (some (⟨b2, 0, none⟩ : Addr)) 2 2), (.slice (some (⟨b3, 0, none⟩ : Addr)) 2 2), (.slice none 0 0), (.int .u8 (0 : Int)), (.int .i64 (3 : Int)), (.int .i64 (81 : Int)), (.slice (some (⟨b4, 0, none⟩ : Addr)) 2 2), (.slice (some (⟨b5, 0, none⟩ : Addr)) 1 1), (.slice (some (⟨b6, 0, none⟩ : Addr)) 1 1), (.int .u8 (0 : Int)), (.int .i64 (2 : Int)), (.int .i64 (93 : Int)), (.slice (some (⟨b7, 0, none⟩ : Addr)) 2 2), (.slice none 0 0), (.slice (some (⟨b8, 0, none⟩ : Addr)) 1 1), (.int .u8 (2 : Int)), (.int .i64 (0 : Int)), (.int .i64 (0 : Int)), (.slice (some (⟨b9, 0, none⟩ : Addr)) 2 2), (.slice none 0 0), (.slice none 0 0), (.int .u8 (0 : Int)), (.int .i64 (2 : Int)), (.int .i64 (92 : Int))] ty_struct_s_rat_Step_kind_uint8_id_int_e_api_Errno fun b10 =>
 lfp (σ := (Int × (Bool × Unit))) (fun X11 s12 => /-   -/
 brB (decide (s12.1 < (5 : Int)))
 (sx (some (⟨b10, 0, none⟩ : Addr)) 5 s12.1 6 fun p13 =>
 ldA (.cons .sl (.cons .sl (.cons .sl (.cons (.int .u8) (.cons (.int .i64) (.cons (.int .i64) .nil)))))) p13 fun x14 =>
 nw #[(.slice none 0 0), (.slice none 0 0), (.slice none 0 0), (.int .u8 (0 : Int)), (.int .i64 (0 : Int)), (.int .i64 (0 : Int))] ty_struct_s_rat_Step_kind_uint8_id_int_e_api_Errno fun b15 =>
 st1 (⟨b15, 0, none⟩ : Addr) (.slice x14.1.a x14.1.len x14.1.cap) <|
 st1 ((⟨b15, 0, none⟩ : Addr).add 1) (.slice x14.2.1.a x14.2.1.len x14.2.1.cap) <|
 st1 ((⟨b15, 0, none⟩ : Addr).add 2) (.slice x14.2.2.1.a x14.2.2.1.len x14.2.2.1.cap) <|
 st1 ((⟨b15, 0, none⟩ : Addr).add 3) (.int .u8 x14.2.2.2.1) <|
 st1 ((⟨b15, 0, none⟩ : Addr).add 4) (.int .i64 x14.2.2.2.2.1) <|
 st1 ((⟨b15, 0, none⟩ : Addr).add 5) (.int .i64 x14.2.2.2.2.2.1) <|
 ldA (.cons .sl (.cons .sl (.cons .sl .nil))) (⟨b15, 0, none⟩ : Addr) fun x16 =>
 callT Tryz.prog fn_rat_Check #[(.slice r0.a r0.len r0.cap), (.agg #[(.slice x16.1.a x16.1.len x16.1.cap), (.slice x16.2.1.a x16.2.1.len x16.2.1.cap), (.slice x16.2.2.1.a x16.2.2.1.len x16.2.2.1.cap)])] (.tup (.cons (.int .u8) (.cons (.int .i64) (.cons (.int .i64) .nil)))) fun r17 =>
 ldT (.int .u8) ((⟨b15, 0, none⟩ : Addr).add 3) fun x18 =>
 jn (σ := Bool) (fun t20 =>
 jn (σ := Bool) (fun t22 =>
 brB t22
 (K false)
 (X11 ((IntKind.wrap .i64 (s12.1 + (1 : Int))), s12.2.1, ())))
 (fun J21 =>
 brB t20
 (J21 true)
 (ldT (.int .i64) ((⟨b15, 0, none⟩ : Addr).add 5) fun x23 =>
 J21 ((r17.2.2.1 != x23)))))
 (fun J19 =>
 brB (r17.1 != x18)
 (J19 true)
 (ldT (.int .i64) ((⟨b15, 0, none⟩ : Addr).add 4) fun x24 =>
 J19 ((r17.2.1 != x24)))))
 (nw #[(.int .i64 (5 : Int)), (.int .i64 (-7 : Int)), (.int .i64 (2 : Int)), (.int .i64 (3 : Int)), (.int .i64 (-8 : Int))] ty_int fun b25 =>
 callT Tryz.prog fn_rat_Split #[(.slice (some (⟨b25, 0, none⟩ : Addr)) 5 5)] (.tup (.cons .sl (.cons .sl (.cons (.int .i64) .nil)))) fun r26 =>
 nw #[(.int .i64 (-3 : Int)), (.int .i64 (1 : Int))] ty_lits_Lit fun b27 =>
 nw #[(.int .i64 (3 : Int)), (.int .i64 (-1 : Int))] ty_lits_Lit fun b28 =>
 callT Tryz.prog fn_rat_Repair #[(.slice (some (⟨b27, 0, none⟩ : Addr)) 2 2), (.slice (some (⟨b28, 0, none⟩ : Addr)) 2 2)] (.tup (.cons .sl (.cons (.int .i64) .nil))) fun r29 =>
 jn (σ := Bool) (fun t31 =>
 jn (σ := Bool) (fun t33 =>
 jn (σ := Bool) (fun t35 =>
 K t35)
 (fun J34 =>
 brB t33
 (nw #[(.int .i64 (-3 : Int)), (.int .i64 (-1 : Int))] ty_lits_Lit fun b36 =>
 callT Tryz.prog fn_slices_Equal_lits_Lit_lits_Lit #[(.slice r29.1.a r29.1.len r29.1.cap), (.slice (some (⟨b36, 0, none⟩ : Addr)) 2 2)] .bool fun r37 =>
 J34 (r37))
 (J34 false)))
 (fun J32 =>
 brB t31
 (nw #[(.int .i64 (2 : Int)), (.int .i64 (3 : Int))] ty_int fun b38 =>
 nw #[(.int .i64 (7 : Int)), (.slice (some (⟨b38, 0, none⟩ : Addr)) 2 2), (.int .i64 (8 : Int)), (.slice none 0 0)] ty_rat_Group fun b39 =>
 callT Tryz.prog fn_salvorlaw09_sameGroups #[(.slice r26.2.1.a r26.2.1.len r26.2.1.cap), (.slice (some (⟨b39, 0, none⟩ : Addr)) 2 2)] .bool fun r40 =>
 J32 (r40))
 (J32 false)))
 (fun J30 =>
 brB ((IntKind.wrap .i64 (r26.2.2.1 + r29.2.1)) == (0 : Int))
 (nw #[(.int .i64 (5 : Int))] ty_int fun b41 =>
 callT Tryz.prog fn_slices_Equal_int_int #[(.slice r26.1.a r26.1.len r26.1.cap), (.slice (some (⟨b41, 0, none⟩ : Addr)) 1 1)] .bool fun r42 =>
 J30 (r42))
 (J30 false))))
 ((0 : Int), false, ())
set_option maxRecDepth 100000 in
theorem E_salvorlaw09_awake (K : Bool → HP) (h : Heap) : fnVC Tryz.prog [(1000000, .bool)] 99 Tryz.f10 [] .bool K h = F_salvorlaw09_awake K h := by kernel_rfl
set_option maxRecDepth 100000 in
theorem S_salvorlaw09_awake{h : Heap} (K : Bool → HP) (hF : F_salvorlaw09_awake K h) : CallsH Tryz.prog fn_salvorlaw09_awake #[] h fun v h' => ∃ x : Bool, v = Ty.enc .bool x ∧ K x h' :=
  callsH_of_fn (P := Tryz.prog) (fn := Tryz.f10) (τ := .bool) follows Tryz.func10 (by kernel_rfl) (by kernel_rfl) Tryz.call10 (Eq.mpr (E_salvorlaw09_awake K h) hF)

def F_salvorlaw09_Made (a0 : Sl) (a1 : Sl) (a2 : Int) (K : Sl → HP) : HP :=
 callT Tryz.prog fn_salvorlaw08_All #[(.slice a0.a a0.len a0.cap), (.int .i64 a2)] .sl fun r0 =>
 lfp (σ := (Int × (Int × (Sl × Unit)))) (fun X1 s2 => /-  id out -/
 brB (decide (s2.1 < (r0.len : Int)))
 (sx r0.a r0.len s2.1 1 fun p3 =>
 ldT .sl p3 fun x4 =>
 jn (σ := (Int × Unit)) (fun s6 => /- id -/
 nw #[(.int .i64 s6.1), (.slice x4.a x4.len x4.cap)] ty_rat_Entry fun b7 =>
 apd ty_rat_Entry 2 32 #[(.int .i64 (0 : Int)), (.slice none 0 0)] ⟨s2.2.2.1.a, s2.2.2.1.len, s2.2.2.1.cap⟩ ⟨(some (⟨b7, 0, none⟩ : Addr)), 1, 1⟩ fun s8 =>
 X1 ((IntKind.wrap .i64 (s2.1 + (1 : Int))), s6.1, ⟨s8.a, s8.len, s8.cap⟩, ()))
 (fun J5 =>
 brB (decide (s2.1 < (a1.len : Int)))
 (sx a1.a a1.len s2.1 1 fun p9 =>
 ldT (.int .u8) p9 fun x10 =>
 nz (4 : Int) <|
 J5 ((IntKind.wrap .i64 ((IntKind.wrap .i64 (s2.2.1 + (1 : Int))) + (IntKind.wrap .i64 (Int.tmod x10 (4 : Int))))), ()))
 (J5 ((IntKind.wrap .i64 (s2.2.1 + (1 : Int))), ()))))
 (K ⟨s2.2.2.1.a, s2.2.2.1.len, s2.2.2.1.cap⟩))
 ((0 : Int), (0 : Int), ⟨none, 0, 0⟩, ())
set_option maxRecDepth 100000 in
theorem E_salvorlaw09_Made (a0 : Sl) (a1 : Sl) (a2 : Int) (K : Sl → HP) (h : Heap) : fnVC Tryz.prog [(1000000, .bool)] 42 Tryz.f11 [(.slice a0.a a0.len a0.cap), (.slice a1.a a1.len a1.cap), (.int .i64 a2)] .sl K h = F_salvorlaw09_Made a0 a1 a2 K h := by kernel_rfl
set_option maxRecDepth 100000 in
theorem S_salvorlaw09_Made{h : Heap} {a0 : Sl} {a1 : Sl} {a2 : Int} (K : Sl → HP) (hF : F_salvorlaw09_Made a0 a1 a2 K h) : CallsH Tryz.prog fn_salvorlaw09_Made #[(.slice a0.a a0.len a0.cap), (.slice a1.a a1.len a1.cap), (.int .i64 a2)] h fun v h' => ∃ x : Sl, v = Ty.enc .sl x ∧ K x h' :=
  callsH_of_fn (P := Tryz.prog) (fn := Tryz.f11) (τ := .sl) follows Tryz.func11 (by kernel_rfl) (by kernel_rfl) Tryz.call11 (Eq.mpr (E_salvorlaw09_Made a0 a1 a2 K h) hF)

def F_salvorlaw08_Made (a0 : Sl) (K : Sl → HP) : HP :=
 slH ⟨a0.a, a0.len, a0.cap⟩ (if (6 : Int) < (a0.len : Int) then (6 : Int) else (a0.len : Int)) 1 fun s0 =>
 lfp (σ := (Int × (Sl × Unit))) (fun X1 s2 => /-  out -/
 brB (decide (s2.1 < (s0.len : Int)))
 (sx s0.a s0.len s2.1 1 fun p3 =>
 ldT (.int .i8) p3 fun x4 =>
 nz (2 : Int) <|
 nz (6 : Int) <|
 jn (σ := (Int × Unit)) (fun s6 => /- v -/
 nw #[(.int .i64 s6.1)] ty_lits_Lit fun b7 =>
 apd ty_lits_Lit 1 8 #[(.int .i64 (0 : Int))] ⟨s2.2.1.a, s2.2.1.len, s2.2.1.cap⟩ ⟨(some (⟨b7, 0, none⟩ : Addr)), 1, 1⟩ fun s8 =>
 X1 ((IntKind.wrap .i64 (s2.1 + (1 : Int))), ⟨s8.a, s8.len, s8.cap⟩, ()))
 (fun J5 =>
 brB ((bAnd .i8 x4 (1 : Int)) == (1 : Int))
 (J5 ((IntKind.wrap .i64 (0 - (IntKind.wrap .i64 ((1 : Int) + (Int.tmod (IntKind.wrap .i64 (IntKind.wrap .u8 (Int.tdiv (IntKind.wrap .u8 x4) (2 : Int)))) (6 : Int)))))), ()))
 (J5 ((IntKind.wrap .i64 ((1 : Int) + (Int.tmod (IntKind.wrap .i64 (IntKind.wrap .u8 (Int.tdiv (IntKind.wrap .u8 x4) (2 : Int)))) (6 : Int)))), ()))))
 (K ⟨s2.2.1.a, s2.2.1.len, s2.2.1.cap⟩))
 ((0 : Int), ⟨none, 0, 0⟩, ())
set_option maxRecDepth 100000 in
theorem E_salvorlaw08_Made (a0 : Sl) (K : Sl → HP) (h : Heap) : fnVC Tryz.prog [(1000000, .bool)] 34 Tryz.f12 [(.slice a0.a a0.len a0.cap)] .sl K h = F_salvorlaw08_Made a0 K h := by kernel_rfl
set_option maxRecDepth 100000 in
theorem S_salvorlaw08_Made{h : Heap} {a0 : Sl} (K : Sl → HP) (hF : F_salvorlaw08_Made a0 K h) : CallsH Tryz.prog fn_salvorlaw08_Made #[(.slice a0.a a0.len a0.cap)] h fun v h' => ∃ x : Sl, v = Ty.enc .sl x ∧ K x h' :=
  callsH_of_fn (P := Tryz.prog) (fn := Tryz.f12) (τ := .sl) follows Tryz.func12 (by kernel_rfl) (by kernel_rfl) Tryz.call12 (Eq.mpr (E_salvorlaw08_Made a0 K h) hF)

end Go.Proofs.S
