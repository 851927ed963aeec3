/- The functions of the seat, each as a predicate over its values, printed by a program of ours, and that each is its text's. -/
import Derived.Test.YtfadkgkkbbcekaaSx10
import Derived.KernelRfl
import Derived.Test.YtfadkgkkbbcekaaProg
import Derived.Test.YtfadkgkkbbcekaaClF0
set_option linter.unusedVariables false
namespace Go.Proofs.S
open Go Go.Sx Go.Proofs
def UnTl (bO bR : Nat) (rS a1 : Sl) (a2 : Int) (K : Bool → HP) : HP := fun h => (
 ldA (.cons (.int .i64) (.cons .sl .nil)) (⟨bO, 0, none⟩ : Addr) fun x8 =>
 callT Try.prog fn_dpll_Under #[(.agg #[(.int .i64 x8.1), (.slice x8.2.1.a x8.2.1.len x8.2.1.cap)]), (.slice rS.a rS.len rS.cap), (.int .i64 a2)] (.tup (.cons (.agg (.cons .bool (.cons .sl (.cons (.int .i64) .nil)))) (.cons (.int .i64) .nil))) fun r9 =>
 nw #[(.bool false), (.slice none 0 0), (.int .i64 (0 : Int))] ty_dpll_Answer fun b10 =>
 st1 (⟨b10, 0, none⟩ : Addr) (.bool r9.1.1) <|
 st1 ((⟨b10, 0, none⟩ : Addr).add 1) (.slice r9.1.2.1.a r9.1.2.1.len r9.1.2.1.cap) <|
 st1 ((⟨b10, 0, none⟩ : Addr).add 2) (.int .i64 r9.1.2.2.1) <|
 ldA (.cons (.int .i64) (.cons .sl .nil)) (⟨bO, 0, none⟩ : Addr) fun x11 =>
 callT Try.prog fn_dpll_Follows #[(.agg #[(.int .i64 x11.1), (.slice x11.2.1.a x11.2.1.len x11.2.1.cap)]), (.slice rS.a rS.len rS.cap)] (.tup (.cons .sl (.cons (.int .i64) (.cons (.int .i64) .nil)))) fun r12 =>
 jn (σ := (Bool × Unit)) (fun s14 => 
 ldA (.cons (.int .i64) (.cons .sl .nil)) (⟨bO, 0, none⟩ : Addr) fun x15 =>
 ldA (.cons (.int .i64) (.cons .sl .nil)) (⟨bR, 0, none⟩ : Addr) fun x16 =>
 callT Try.prog fn_salvorlaw05_Equal #[(.agg #[(.int .i64 x15.1), (.slice x15.2.1.a x15.2.1.len x15.2.1.cap)]), (.agg #[(.int .i64 x16.1), (.slice x16.2.1.a x16.2.1.len x16.2.1.cap)])] .bool fun r17 =>
 jn (σ := Bool) (fun t19 =>
 brB t19
 (K false)
 (ldT .bool (⟨b10, 0, none⟩ : Addr) fun x20 =>
 jn (σ := Bool) (fun t22 =>
 jn (σ := Bool) (fun t24 =>
 ldA (.cons (.int .i64) (.cons .sl .nil)) (⟨bR, 0, none⟩ : Addr) fun x25 =>
 callT Try.prog fn_salvorref05_Check #[(.agg #[(.int .i64 x25.1), (.slice x25.2.1.a x25.2.1.len x25.2.1.cap)])] (.tup (.cons (.int .i64) (.cons (.int .i64) .nil))) fun r26 =>
 brB (r26.2.1 != (0 : Int))
 (jn (σ := Bool) (fun t28 =>
 jn (σ := Bool) (fun t30 =>
 jn (σ := Bool) (fun t32 =>
 jn (σ := Bool) (fun t34 =>
 K t34)
 (fun J33 =>
 brB t32
 (J33 ((r12.2.2.1 == r9.2.1)))
 (J33 false)))
 (fun J31 =>
 brB t30
 (J31 ((r12.2.1 == (-1 : Int))))
 (J31 false)))
 (fun J29 =>
 brB t28
 (J29 (((r12.1.len : Int) == (0 : Int))))
 (J29 false)))
 (fun J27 =>
 brB t24
 (J27 ((r9.2.1 == r26.2.1)))
 (J27 false)))
 (ldT (.int .i64) (⟨bR, 0, none⟩ : Addr) fun x35 =>
 callT Try.prog fn_salvorref19_Wrong #[(.int .i64 x35), (.slice a1.a a1.len a1.cap)] (.int .i64) fun r36 =>
 jn (σ := (Bool × Unit)) (fun s38 => 
 jn (σ := Bool) (fun t40 =>
 brB t40
 (jn (σ := Bool) (fun t42 =>
 K t42)
 (fun J41 =>
 brB t24
 (J41 ((r9.2.1 == (2 : Int))))
 (J41 false)))
 (brB (r36 != (0 : Int))
 (jn (σ := Bool) (fun t44 =>
 K t44)
 (fun J43 =>
 brB t24
 (J43 ((r9.2.1 == r36)))
 (J43 false)))
 (ldA (.cons (.int .i64) (.cons .sl .nil)) (⟨bR, 0, none⟩ : Addr) fun x45 =>
 callT Try.prog fn_salvorref19_Search #[(.agg #[(.int .i64 x45.1), (.slice x45.2.1.a x45.2.1.len x45.2.1.cap)]), (.slice a1.a a1.len a1.cap), (.int .i64 a2)] (.tup (.cons .sl (.cons .bool (.cons (.int .i64) .nil)))) fun r46 =>
 brB (decide (r46.2.2.1 > a2))
 (jn (σ := Bool) (fun t48 =>
 K t48)
 (fun J47 =>
 brB t24
 (J47 ((r9.2.1 == (190 : Int))))
 (J47 false)))
 (jn (σ := Bool) (fun t50 =>
 jn (σ := Bool) (fun t52 =>
 jn (σ := Bool) (fun t54 =>
 K t54)
 (fun J53 =>
 brB t52
 (ldT .sl ((⟨b10, 0, none⟩ : Addr).add 1) fun x55 =>
 callT Try.prog fn_salvorlaw05_Bits #[(.slice x55.a x55.len x55.cap)] .sl fun r56 =>
 callT Try.prog fn_slices_Equal_int_int #[(.slice r56.a r56.len r56.cap), (.slice r46.1.a r46.1.len r46.1.cap)] .bool fun r57 =>
 J53 (r57))
 (J53 false)))
 (fun J51 =>
 brB t50
 (ldT (.int .i64) ((⟨b10, 0, none⟩ : Addr).add 2) fun x58 =>
 J51 ((x58 == r46.2.2.1)))
 (J51 false)))
 (fun J49 =>
 brB (r9.2.1 == (0 : Int))
 (ldT .bool (⟨b10, 0, none⟩ : Addr) fun x59 =>
 J49 ((x59 == r46.2.1)))
 (J49 false))))))
 (fun J39 =>
 brB (decide (a2 < (0 : Int)))
 (J39 true)
 (J39 ((decide (a2 > (16777216 : Int)))))))
 (fun J37 =>
 brB (r36 != (0 : Int))
 (jn (σ := Bool) (fun t61 =>
 jn (σ := Bool) (fun t63 =>
 brB t63
 (K false)
 (J37 (s14.1, ())))
 (fun J62 =>
 brB t61
 (J62 true)
 (J62 ((r12.2.2.1 != r36)))))
 (fun J60 =>
 brB ((r12.1.len : Int) != (0 : Int))
 (J60 true)
 (J60 ((r12.2.1 != (-1 : Int))))))
 (ldA (.cons (.int .i64) (.cons .sl .nil)) (⟨bR, 0, none⟩ : Addr) fun x64 =>
 callT Try.prog fn_salvorref19_Follows #[(.agg #[(.int .i64 x64.1), (.slice x64.2.1.a x64.2.1.len x64.2.1.cap)]), (.slice a1.a a1.len a1.cap)] (.tup (.cons .sl (.cons (.int .i64) .nil))) fun r65 =>
 jn (σ := Bool) (fun t67 =>
 jn (σ := Bool) (fun t69 =>
 brB t69
 (K false)
 (J37 (s14.1, ())))
 (fun J68 =>
 brB t67
 (J68 true)
 (callT Try.prog fn_salvorlaw02_Ints #[(.slice r12.1.a r12.1.len r12.1.cap)] .sl fun r70 =>
 callT Try.prog fn_slices_Equal_int_int #[(.slice r70.a r70.len r70.cap), (.slice r65.1.a r65.1.len r65.1.cap)] .bool fun r71 =>
 J68 ((!r71)))))
 (fun J66 =>
 brB (r12.2.2.1 != (0 : Int))
 (J66 true)
 (J66 ((r12.2.1 != r65.2.1))))))))
 (fun J23 =>
 brB t22
 (ldT (.int .i64) ((⟨b10, 0, none⟩ : Addr).add 2) fun x72 =>
 J23 ((x72 == (0 : Int))))
 (J23 false)))
 (fun J21 =>
 brB (!x20)
 (ldT .sl ((⟨b10, 0, none⟩ : Addr).add 1) fun x73 =>
 J21 (((x73.len : Int) == (0 : Int))))
 (J21 false))))
 (fun J18 =>
 brB (!r17)
 (J18 true)
 (callT Try.prog fn_salvorlaw02_Ints #[(.slice rS.a rS.len rS.cap)] .sl fun r74 =>
 callT Try.prog fn_slices_Equal_int_int #[(.slice r74.a r74.len r74.cap), (.slice a1.a a1.len a1.cap)] .bool fun r75 =>
 J18 ((!r75)))))
 (fun J13 =>
 brB ((a1.len : Int) == (0 : Int))
 (ldA (.cons (.int .i64) (.cons .sl .nil)) (⟨bO, 0, none⟩ : Addr) fun x76 =>
 callT Try.prog fn_dpll_Solve #[(.agg #[(.int .i64 x76.1), (.slice x76.2.1.a x76.2.1.len x76.2.1.cap)]), (.int .i64 a2)] (.tup (.cons (.agg (.cons .bool (.cons .sl (.cons (.int .i64) .nil)))) (.cons (.int .i64) .nil))) fun r77 =>
 nw #[(.bool false), (.slice none 0 0), (.int .i64 (0 : Int))] ty_dpll_Answer fun b78 =>
 st1 (⟨b78, 0, none⟩ : Addr) (.bool r77.1.1) <|
 st1 ((⟨b78, 0, none⟩ : Addr).add 1) (.slice r77.1.2.1.a r77.1.2.1.len r77.1.2.1.cap) <|
 st1 ((⟨b78, 0, none⟩ : Addr).add 2) (.int .i64 r77.1.2.2.1) <|
 ldT .bool (⟨b78, 0, none⟩ : Addr) fun x79 =>
 ldT .bool (⟨b10, 0, none⟩ : Addr) fun x80 =>
 jn (σ := Bool) (fun t82 =>
 jn (σ := Bool) (fun t84 =>
 jn (σ := Bool) (fun t86 =>
 brB t86
 (K false)
 (J13 (false, ())))
 (fun J85 =>
 brB t84
 (J85 true)
 (J85 ((r77.2.1 != r9.2.1)))))
 (fun J83 =>
 brB t82
 (J83 true)
 (ldT .sl ((⟨b78, 0, none⟩ : Addr).add 1) fun x87 =>
 ldT .sl ((⟨b10, 0, none⟩ : Addr).add 1) fun x88 =>
 callT Try.prog fn_slices_Equal_bool_bool #[(.slice x87.a x87.len x87.cap), (.slice x88.a x88.len x88.cap)] .bool fun r89 =>
 J83 ((!r89)))))
 (fun J81 =>
 brB (!(x79 == x80))
 (J81 true)
 (ldT (.int .i64) ((⟨b78, 0, none⟩ : Addr).add 2) fun x90 =>
 ldT (.int .i64) ((⟨b10, 0, none⟩ : Addr).add 2) fun x91 =>
 J81 ((x90 != x91)))))
 (J13 (false, ())))) h

def F_salvorlaw19_under (a0 : (Int × (Sl × Unit))) (a1 : Sl) (a2 : Int) (K : Bool → HP) : HP :=
 nw #[(.int .i64 a0.1), (.slice a0.2.1.a a0.2.1.len a0.2.1.cap)] ty_formula_Formula fun b0 =>
 ldA (.cons (.int .i64) (.cons .sl .nil)) (⟨b0, 0, none⟩ : Addr) fun x1 =>
 ldA (.cons (.int .i64) (.cons .sl .nil)) (⟨b0, 0, none⟩ : Addr) fun x2 =>
 cj
 (callT Try.prog fn_formula_Copy #[(.agg #[(.int .i64 x1.1), (.slice x1.2.1.a x1.2.1.len x1.2.1.cap)])] (.agg (.cons (.int .i64) (.cons .sl .nil))) fun r3 =>
 ckA (⟨b0, 0, none⟩ : Addr) [(.int .i64 x2.1), (.slice x2.2.1.a x2.2.1.len x2.2.1.cap)] <|
 cj
 (callT Try.prog fn_salvorlaw02_Clause #[(.slice a1.a a1.len a1.cap)] .sl fun r4 =>
 ckA (⟨b0, 0, none⟩ : Addr) [(.int .i64 x2.1), (.slice x2.2.1.a x2.2.1.len x2.2.1.cap)] <|
 cj
 (callT Try.prog fn_salvorlaw05_Theirs #[(.agg #[(.int .i64 x2.1), (.slice x2.2.1.a x2.2.1.len x2.2.1.cap)])] (.agg (.cons (.int .i64) (.cons .sl .nil))) fun r5 =>
 cj
 (nw #[(.int .i64 (0 : Int)), (.slice none 0 0)] ty_formula_Formula fun b6 =>
 nw #[(.int .i64 (0 : Int)), (.slice none 0 0)] ty_salvorref05_Formula fun b7 =>
 st1 (⟨b6, 0, none⟩ : Addr) (.int .i64 r3.1) <|
 st1 ((⟨b6, 0, none⟩ : Addr).add 1) (.slice r3.2.1.a r3.2.1.len r3.2.1.cap) <|
 st1 (⟨b7, 0, none⟩ : Addr) (.int .i64 r5.1) <|
 st1 ((⟨b7, 0, none⟩ : Addr).add 1) (.slice r5.2.1.a r5.2.1.len r5.2.1.cap) <|
 UnTl b6 b7 r4 a1 a2 K)
 (nw #[(.int .i64 (0 : Int)), (.slice none 0 0)] ty_salvorref05_Formula fun b92 =>
 nw #[(.int .i64 (0 : Int)), (.slice none 0 0)] ty_formula_Formula fun b93 =>
 st1 (⟨b93, 0, none⟩ : Addr) (.int .i64 r3.1) <|
 st1 ((⟨b93, 0, none⟩ : Addr).add 1) (.slice r3.2.1.a r3.2.1.len r3.2.1.cap) <|
 st1 (⟨b92, 0, none⟩ : Addr) (.int .i64 r5.1) <|
 st1 ((⟨b92, 0, none⟩ : Addr).add 1) (.slice r5.2.1.a r5.2.1.len r5.2.1.cap) <|
 UnTl b93 b92 r4 a1 a2 K))
 (cj
 (nw #[(.int .i64 (0 : Int)), (.slice none 0 0)] ty_formula_Formula fun b178 =>
 cj
 (callT Try.prog fn_salvorlaw05_Theirs #[(.agg #[(.int .i64 x2.1), (.slice x2.2.1.a x2.2.1.len x2.2.1.cap)])] (.agg (.cons (.int .i64) (.cons .sl .nil))) fun r179 =>
 nw #[(.int .i64 (0 : Int)), (.slice none 0 0)] ty_salvorref05_Formula fun b180 =>
 st1 (⟨b178, 0, none⟩ : Addr) (.int .i64 r3.1) <|
 st1 ((⟨b178, 0, none⟩ : Addr).add 1) (.slice r3.2.1.a r3.2.1.len r3.2.1.cap) <|
 st1 (⟨b180, 0, none⟩ : Addr) (.int .i64 r179.1) <|
 st1 ((⟨b180, 0, none⟩ : Addr).add 1) (.slice r179.2.1.a r179.2.1.len r179.2.1.cap) <|
 UnTl b178 b180 r4 a1 a2 K)
 (nw #[(.int .i64 (0 : Int)), (.slice none 0 0)] ty_salvorref05_Formula fun b265 =>
 callT Try.prog fn_salvorlaw05_Theirs #[(.agg #[(.int .i64 x2.1), (.slice x2.2.1.a x2.2.1.len x2.2.1.cap)])] (.agg (.cons (.int .i64) (.cons .sl .nil))) fun r266 =>
 st1 (⟨b178, 0, none⟩ : Addr) (.int .i64 r3.1) <|
 st1 ((⟨b178, 0, none⟩ : Addr).add 1) (.slice r3.2.1.a r3.2.1.len r3.2.1.cap) <|
 st1 (⟨b265, 0, none⟩ : Addr) (.int .i64 r266.1) <|
 st1 ((⟨b265, 0, none⟩ : Addr).add 1) (.slice r266.2.1.a r266.2.1.len r266.2.1.cap) <|
 UnTl b178 b265 r4 a1 a2 K))
 (nw #[(.int .i64 (0 : Int)), (.slice none 0 0)] ty_salvorref05_Formula fun b351 =>
 cj
 (callT Try.prog fn_salvorlaw05_Theirs #[(.agg #[(.int .i64 x2.1), (.slice x2.2.1.a x2.2.1.len x2.2.1.cap)])] (.agg (.cons (.int .i64) (.cons .sl .nil))) fun r352 =>
 nw #[(.int .i64 (0 : Int)), (.slice none 0 0)] ty_formula_Formula fun b353 =>
 st1 (⟨b353, 0, none⟩ : Addr) (.int .i64 r3.1) <|
 st1 ((⟨b353, 0, none⟩ : Addr).add 1) (.slice r3.2.1.a r3.2.1.len r3.2.1.cap) <|
 st1 (⟨b351, 0, none⟩ : Addr) (.int .i64 r352.1) <|
 st1 ((⟨b351, 0, none⟩ : Addr).add 1) (.slice r352.2.1.a r352.2.1.len r352.2.1.cap) <|
 UnTl b353 b351 r4 a1 a2 K)
 (nw #[(.int .i64 (0 : Int)), (.slice none 0 0)] ty_formula_Formula fun b438 =>
 callT Try.prog fn_salvorlaw05_Theirs #[(.agg #[(.int .i64 x2.1), (.slice x2.2.1.a x2.2.1.len x2.2.1.cap)])] (.agg (.cons (.int .i64) (.cons .sl .nil))) fun r439 =>
 st1 (⟨b438, 0, none⟩ : Addr) (.int .i64 r3.1) <|
 st1 ((⟨b438, 0, none⟩ : Addr).add 1) (.slice r3.2.1.a r3.2.1.len r3.2.1.cap) <|
 st1 (⟨b351, 0, none⟩ : Addr) (.int .i64 r439.1) <|
 st1 ((⟨b351, 0, none⟩ : Addr).add 1) (.slice r439.2.1.a r439.2.1.len r439.2.1.cap) <|
 UnTl b438 b351 r4 a1 a2 K))))
 (cj
 (nw #[(.int .i64 (0 : Int)), (.slice none 0 0)] ty_formula_Formula fun b524 =>
 cj
 (callT Try.prog fn_salvorlaw02_Clause #[(.slice a1.a a1.len a1.cap)] .sl fun r525 =>
 ckA (⟨b0, 0, none⟩ : Addr) [(.int .i64 x2.1), (.slice x2.2.1.a x2.2.1.len x2.2.1.cap)] <|
 cj
 (callT Try.prog fn_salvorlaw05_Theirs #[(.agg #[(.int .i64 x2.1), (.slice x2.2.1.a x2.2.1.len x2.2.1.cap)])] (.agg (.cons (.int .i64) (.cons .sl .nil))) fun r526 =>
 nw #[(.int .i64 (0 : Int)), (.slice none 0 0)] ty_salvorref05_Formula fun b527 =>
 st1 (⟨b524, 0, none⟩ : Addr) (.int .i64 r3.1) <|
 st1 ((⟨b524, 0, none⟩ : Addr).add 1) (.slice r3.2.1.a r3.2.1.len r3.2.1.cap) <|
 st1 (⟨b527, 0, none⟩ : Addr) (.int .i64 r526.1) <|
 st1 ((⟨b527, 0, none⟩ : Addr).add 1) (.slice r526.2.1.a r526.2.1.len r526.2.1.cap) <|
 UnTl b524 b527 r525 a1 a2 K)
 (nw #[(.int .i64 (0 : Int)), (.slice none 0 0)] ty_salvorref05_Formula fun b612 =>
 callT Try.prog fn_salvorlaw05_Theirs #[(.agg #[(.int .i64 x2.1), (.slice x2.2.1.a x2.2.1.len x2.2.1.cap)])] (.agg (.cons (.int .i64) (.cons .sl .nil))) fun r613 =>
 st1 (⟨b524, 0, none⟩ : Addr) (.int .i64 r3.1) <|
 st1 ((⟨b524, 0, none⟩ : Addr).add 1) (.slice r3.2.1.a r3.2.1.len r3.2.1.cap) <|
 st1 (⟨b612, 0, none⟩ : Addr) (.int .i64 r613.1) <|
 st1 ((⟨b612, 0, none⟩ : Addr).add 1) (.slice r613.2.1.a r613.2.1.len r613.2.1.cap) <|
 UnTl b524 b612 r525 a1 a2 K))
 (nw #[(.int .i64 (0 : Int)), (.slice none 0 0)] ty_salvorref05_Formula fun b698 =>
 callT Try.prog fn_salvorlaw02_Clause #[(.slice a1.a a1.len a1.cap)] .sl fun r699 =>
 ckA (⟨b0, 0, none⟩ : Addr) [(.int .i64 x2.1), (.slice x2.2.1.a x2.2.1.len x2.2.1.cap)] <|
 callT Try.prog fn_salvorlaw05_Theirs #[(.agg #[(.int .i64 x2.1), (.slice x2.2.1.a x2.2.1.len x2.2.1.cap)])] (.agg (.cons (.int .i64) (.cons .sl .nil))) fun r700 =>
 st1 (⟨b524, 0, none⟩ : Addr) (.int .i64 r3.1) <|
 st1 ((⟨b524, 0, none⟩ : Addr).add 1) (.slice r3.2.1.a r3.2.1.len r3.2.1.cap) <|
 st1 (⟨b698, 0, none⟩ : Addr) (.int .i64 r700.1) <|
 st1 ((⟨b698, 0, none⟩ : Addr).add 1) (.slice r700.2.1.a r700.2.1.len r700.2.1.cap) <|
 UnTl b524 b698 r699 a1 a2 K))
 (nw #[(.int .i64 (0 : Int)), (.slice none 0 0)] ty_salvorref05_Formula fun b785 =>
 cj
 (callT Try.prog fn_salvorlaw02_Clause #[(.slice a1.a a1.len a1.cap)] .sl fun r786 =>
 ckA (⟨b0, 0, none⟩ : Addr) [(.int .i64 x2.1), (.slice x2.2.1.a x2.2.1.len x2.2.1.cap)] <|
 cj
 (callT Try.prog fn_salvorlaw05_Theirs #[(.agg #[(.int .i64 x2.1), (.slice x2.2.1.a x2.2.1.len x2.2.1.cap)])] (.agg (.cons (.int .i64) (.cons .sl .nil))) fun r787 =>
 nw #[(.int .i64 (0 : Int)), (.slice none 0 0)] ty_formula_Formula fun b788 =>
 st1 (⟨b788, 0, none⟩ : Addr) (.int .i64 r3.1) <|
 st1 ((⟨b788, 0, none⟩ : Addr).add 1) (.slice r3.2.1.a r3.2.1.len r3.2.1.cap) <|
 st1 (⟨b785, 0, none⟩ : Addr) (.int .i64 r787.1) <|
 st1 ((⟨b785, 0, none⟩ : Addr).add 1) (.slice r787.2.1.a r787.2.1.len r787.2.1.cap) <|
 UnTl b788 b785 r786 a1 a2 K)
 (nw #[(.int .i64 (0 : Int)), (.slice none 0 0)] ty_formula_Formula fun b873 =>
 callT Try.prog fn_salvorlaw05_Theirs #[(.agg #[(.int .i64 x2.1), (.slice x2.2.1.a x2.2.1.len x2.2.1.cap)])] (.agg (.cons (.int .i64) (.cons .sl .nil))) fun r874 =>
 st1 (⟨b873, 0, none⟩ : Addr) (.int .i64 r3.1) <|
 st1 ((⟨b873, 0, none⟩ : Addr).add 1) (.slice r3.2.1.a r3.2.1.len r3.2.1.cap) <|
 st1 (⟨b785, 0, none⟩ : Addr) (.int .i64 r874.1) <|
 st1 ((⟨b785, 0, none⟩ : Addr).add 1) (.slice r874.2.1.a r874.2.1.len r874.2.1.cap) <|
 UnTl b873 b785 r786 a1 a2 K))
 (nw #[(.int .i64 (0 : Int)), (.slice none 0 0)] ty_formula_Formula fun b959 =>
 callT Try.prog fn_salvorlaw02_Clause #[(.slice a1.a a1.len a1.cap)] .sl fun r960 =>
 ckA (⟨b0, 0, none⟩ : Addr) [(.int .i64 x2.1), (.slice x2.2.1.a x2.2.1.len x2.2.1.cap)] <|
 callT Try.prog fn_salvorlaw05_Theirs #[(.agg #[(.int .i64 x2.1), (.slice x2.2.1.a x2.2.1.len x2.2.1.cap)])] (.agg (.cons (.int .i64) (.cons .sl .nil))) fun r961 =>
 st1 (⟨b959, 0, none⟩ : Addr) (.int .i64 r3.1) <|
 st1 ((⟨b959, 0, none⟩ : Addr).add 1) (.slice r3.2.1.a r3.2.1.len r3.2.1.cap) <|
 st1 (⟨b785, 0, none⟩ : Addr) (.int .i64 r961.1) <|
 st1 ((⟨b785, 0, none⟩ : Addr).add 1) (.slice r961.2.1.a r961.2.1.len r961.2.1.cap) <|
 UnTl b959 b785 r960 a1 a2 K))))
 (cj
 (nw #[(.int .i64 (0 : Int)), (.slice none 0 0)] ty_formula_Formula fun b1046 =>
 cj
 (callT Try.prog fn_formula_Copy #[(.agg #[(.int .i64 x1.1), (.slice x1.2.1.a x1.2.1.len x1.2.1.cap)])] (.agg (.cons (.int .i64) (.cons .sl .nil))) fun r1047 =>
 ckA (⟨b0, 0, none⟩ : Addr) [(.int .i64 x2.1), (.slice x2.2.1.a x2.2.1.len x2.2.1.cap)] <|
 cj
 (callT Try.prog fn_salvorlaw02_Clause #[(.slice a1.a a1.len a1.cap)] .sl fun r1048 =>
 ckA (⟨b0, 0, none⟩ : Addr) [(.int .i64 x2.1), (.slice x2.2.1.a x2.2.1.len x2.2.1.cap)] <|
 cj
 (callT Try.prog fn_salvorlaw05_Theirs #[(.agg #[(.int .i64 x2.1), (.slice x2.2.1.a x2.2.1.len x2.2.1.cap)])] (.agg (.cons (.int .i64) (.cons .sl .nil))) fun r1049 =>
 nw #[(.int .i64 (0 : Int)), (.slice none 0 0)] ty_salvorref05_Formula fun b1050 =>
 st1 (⟨b1046, 0, none⟩ : Addr) (.int .i64 r1047.1) <|
 st1 ((⟨b1046, 0, none⟩ : Addr).add 1) (.slice r1047.2.1.a r1047.2.1.len r1047.2.1.cap) <|
 st1 (⟨b1050, 0, none⟩ : Addr) (.int .i64 r1049.1) <|
 st1 ((⟨b1050, 0, none⟩ : Addr).add 1) (.slice r1049.2.1.a r1049.2.1.len r1049.2.1.cap) <|
 UnTl b1046 b1050 r1048 a1 a2 K)
 (nw #[(.int .i64 (0 : Int)), (.slice none 0 0)] ty_salvorref05_Formula fun b1135 =>
 callT Try.prog fn_salvorlaw05_Theirs #[(.agg #[(.int .i64 x2.1), (.slice x2.2.1.a x2.2.1.len x2.2.1.cap)])] (.agg (.cons (.int .i64) (.cons .sl .nil))) fun r1136 =>
 st1 (⟨b1046, 0, none⟩ : Addr) (.int .i64 r1047.1) <|
 st1 ((⟨b1046, 0, none⟩ : Addr).add 1) (.slice r1047.2.1.a r1047.2.1.len r1047.2.1.cap) <|
 st1 (⟨b1135, 0, none⟩ : Addr) (.int .i64 r1136.1) <|
 st1 ((⟨b1135, 0, none⟩ : Addr).add 1) (.slice r1136.2.1.a r1136.2.1.len r1136.2.1.cap) <|
 UnTl b1046 b1135 r1048 a1 a2 K))
 (nw #[(.int .i64 (0 : Int)), (.slice none 0 0)] ty_salvorref05_Formula fun b1221 =>
 callT Try.prog fn_salvorlaw02_Clause #[(.slice a1.a a1.len a1.cap)] .sl fun r1222 =>
 ckA (⟨b0, 0, none⟩ : Addr) [(.int .i64 x2.1), (.slice x2.2.1.a x2.2.1.len x2.2.1.cap)] <|
 callT Try.prog fn_salvorlaw05_Theirs #[(.agg #[(.int .i64 x2.1), (.slice x2.2.1.a x2.2.1.len x2.2.1.cap)])] (.agg (.cons (.int .i64) (.cons .sl .nil))) fun r1223 =>
 st1 (⟨b1046, 0, none⟩ : Addr) (.int .i64 r1047.1) <|
 st1 ((⟨b1046, 0, none⟩ : Addr).add 1) (.slice r1047.2.1.a r1047.2.1.len r1047.2.1.cap) <|
 st1 (⟨b1221, 0, none⟩ : Addr) (.int .i64 r1223.1) <|
 st1 ((⟨b1221, 0, none⟩ : Addr).add 1) (.slice r1223.2.1.a r1223.2.1.len r1223.2.1.cap) <|
 UnTl b1046 b1221 r1222 a1 a2 K))
 (nw #[(.int .i64 (0 : Int)), (.slice none 0 0)] ty_salvorref05_Formula fun b1308 =>
 callT Try.prog fn_formula_Copy #[(.agg #[(.int .i64 x1.1), (.slice x1.2.1.a x1.2.1.len x1.2.1.cap)])] (.agg (.cons (.int .i64) (.cons .sl .nil))) fun r1309 =>
 ckA (⟨b0, 0, none⟩ : Addr) [(.int .i64 x2.1), (.slice x2.2.1.a x2.2.1.len x2.2.1.cap)] <|
 callT Try.prog fn_salvorlaw02_Clause #[(.slice a1.a a1.len a1.cap)] .sl fun r1310 =>
 ckA (⟨b0, 0, none⟩ : Addr) [(.int .i64 x2.1), (.slice x2.2.1.a x2.2.1.len x2.2.1.cap)] <|
 callT Try.prog fn_salvorlaw05_Theirs #[(.agg #[(.int .i64 x2.1), (.slice x2.2.1.a x2.2.1.len x2.2.1.cap)])] (.agg (.cons (.int .i64) (.cons .sl .nil))) fun r1311 =>
 st1 (⟨b1046, 0, none⟩ : Addr) (.int .i64 r1309.1) <|
 st1 ((⟨b1046, 0, none⟩ : Addr).add 1) (.slice r1309.2.1.a r1309.2.1.len r1309.2.1.cap) <|
 st1 (⟨b1308, 0, none⟩ : Addr) (.int .i64 r1311.1) <|
 st1 ((⟨b1308, 0, none⟩ : Addr).add 1) (.slice r1311.2.1.a r1311.2.1.len r1311.2.1.cap) <|
 UnTl b1046 b1308 r1310 a1 a2 K))
 (nw #[(.int .i64 (0 : Int)), (.slice none 0 0)] ty_salvorref05_Formula fun b1396 =>
 cj
 (callT Try.prog fn_formula_Copy #[(.agg #[(.int .i64 x1.1), (.slice x1.2.1.a x1.2.1.len x1.2.1.cap)])] (.agg (.cons (.int .i64) (.cons .sl .nil))) fun r1397 =>
 ckA (⟨b0, 0, none⟩ : Addr) [(.int .i64 x2.1), (.slice x2.2.1.a x2.2.1.len x2.2.1.cap)] <|
 cj
 (callT Try.prog fn_salvorlaw02_Clause #[(.slice a1.a a1.len a1.cap)] .sl fun r1398 =>
 ckA (⟨b0, 0, none⟩ : Addr) [(.int .i64 x2.1), (.slice x2.2.1.a x2.2.1.len x2.2.1.cap)] <|
 cj
 (callT Try.prog fn_salvorlaw05_Theirs #[(.agg #[(.int .i64 x2.1), (.slice x2.2.1.a x2.2.1.len x2.2.1.cap)])] (.agg (.cons (.int .i64) (.cons .sl .nil))) fun r1399 =>
 nw #[(.int .i64 (0 : Int)), (.slice none 0 0)] ty_formula_Formula fun b1400 =>
 st1 (⟨b1400, 0, none⟩ : Addr) (.int .i64 r1397.1) <|
 st1 ((⟨b1400, 0, none⟩ : Addr).add 1) (.slice r1397.2.1.a r1397.2.1.len r1397.2.1.cap) <|
 st1 (⟨b1396, 0, none⟩ : Addr) (.int .i64 r1399.1) <|
 st1 ((⟨b1396, 0, none⟩ : Addr).add 1) (.slice r1399.2.1.a r1399.2.1.len r1399.2.1.cap) <|
 UnTl b1400 b1396 r1398 a1 a2 K)
 (nw #[(.int .i64 (0 : Int)), (.slice none 0 0)] ty_formula_Formula fun b1485 =>
 callT Try.prog fn_salvorlaw05_Theirs #[(.agg #[(.int .i64 x2.1), (.slice x2.2.1.a x2.2.1.len x2.2.1.cap)])] (.agg (.cons (.int .i64) (.cons .sl .nil))) fun r1486 =>
 st1 (⟨b1485, 0, none⟩ : Addr) (.int .i64 r1397.1) <|
 st1 ((⟨b1485, 0, none⟩ : Addr).add 1) (.slice r1397.2.1.a r1397.2.1.len r1397.2.1.cap) <|
 st1 (⟨b1396, 0, none⟩ : Addr) (.int .i64 r1486.1) <|
 st1 ((⟨b1396, 0, none⟩ : Addr).add 1) (.slice r1486.2.1.a r1486.2.1.len r1486.2.1.cap) <|
 UnTl b1485 b1396 r1398 a1 a2 K))
 (nw #[(.int .i64 (0 : Int)), (.slice none 0 0)] ty_formula_Formula fun b1571 =>
 callT Try.prog fn_salvorlaw02_Clause #[(.slice a1.a a1.len a1.cap)] .sl fun r1572 =>
 ckA (⟨b0, 0, none⟩ : Addr) [(.int .i64 x2.1), (.slice x2.2.1.a x2.2.1.len x2.2.1.cap)] <|
 callT Try.prog fn_salvorlaw05_Theirs #[(.agg #[(.int .i64 x2.1), (.slice x2.2.1.a x2.2.1.len x2.2.1.cap)])] (.agg (.cons (.int .i64) (.cons .sl .nil))) fun r1573 =>
 st1 (⟨b1571, 0, none⟩ : Addr) (.int .i64 r1397.1) <|
 st1 ((⟨b1571, 0, none⟩ : Addr).add 1) (.slice r1397.2.1.a r1397.2.1.len r1397.2.1.cap) <|
 st1 (⟨b1396, 0, none⟩ : Addr) (.int .i64 r1573.1) <|
 st1 ((⟨b1396, 0, none⟩ : Addr).add 1) (.slice r1573.2.1.a r1573.2.1.len r1573.2.1.cap) <|
 UnTl b1571 b1396 r1572 a1 a2 K))
 (nw #[(.int .i64 (0 : Int)), (.slice none 0 0)] ty_formula_Formula fun b1658 =>
 callT Try.prog fn_formula_Copy #[(.agg #[(.int .i64 x1.1), (.slice x1.2.1.a x1.2.1.len x1.2.1.cap)])] (.agg (.cons (.int .i64) (.cons .sl .nil))) fun r1659 =>
 ckA (⟨b0, 0, none⟩ : Addr) [(.int .i64 x2.1), (.slice x2.2.1.a x2.2.1.len x2.2.1.cap)] <|
 callT Try.prog fn_salvorlaw02_Clause #[(.slice a1.a a1.len a1.cap)] .sl fun r1660 =>
 ckA (⟨b0, 0, none⟩ : Addr) [(.int .i64 x2.1), (.slice x2.2.1.a x2.2.1.len x2.2.1.cap)] <|
 callT Try.prog fn_salvorlaw05_Theirs #[(.agg #[(.int .i64 x2.1), (.slice x2.2.1.a x2.2.1.len x2.2.1.cap)])] (.agg (.cons (.int .i64) (.cons .sl .nil))) fun r1661 =>
 st1 (⟨b1658, 0, none⟩ : Addr) (.int .i64 r1659.1) <|
 st1 ((⟨b1658, 0, none⟩ : Addr).add 1) (.slice r1659.2.1.a r1659.2.1.len r1659.2.1.cap) <|
 st1 (⟨b1396, 0, none⟩ : Addr) (.int .i64 r1661.1) <|
 st1 ((⟨b1396, 0, none⟩ : Addr).add 1) (.slice r1661.2.1.a r1661.2.1.len r1661.2.1.cap) <|
 UnTl b1658 b1396 r1660 a1 a2 K)))
set_option maxRecDepth 100000 in
theorem E_salvorlaw19_under (a0 : (Int × (Sl × Unit))) (a1 : Sl) (a2 : Int) (K : Bool → HP) (h : Heap) : fnVC Try.prog [(1000000, .bool)] 226 Try.f22 [(.agg #[(.int .i64 a0.1), (.slice a0.2.1.a a0.2.1.len a0.2.1.cap)]), (.slice a1.a a1.len a1.cap), (.int .i64 a2)] .bool K h = F_salvorlaw19_under a0 a1 a2 K h := by kernel_rfl
set_option maxRecDepth 100000 in
theorem S_salvorlaw19_under{h : Heap} {a0 : (Int × (Sl × Unit))} {a1 : Sl} {a2 : Int} (K : Bool → HP) (hF : F_salvorlaw19_under a0 a1 a2 K h) : CallsH Try.prog fn_salvorlaw19_under #[(.agg #[(.int .i64 a0.1), (.slice a0.2.1.a a0.2.1.len a0.2.1.cap)]), (.slice a1.a a1.len a1.cap), (.int .i64 a2)] h fun v h' => ∃ x : Bool, v = Ty.enc .bool x ∧ K x h' :=
  callsH_of_fn (P := Try.prog) (fn := Try.f22) (τ := .bool) follows Try.func22 (by kernel_rfl) (by kernel_rfl) Try.call22 (Eq.mpr (E_salvorlaw19_under a0 a1 a2 K h) hF)

end Go.Proofs.S
