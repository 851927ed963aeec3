/- The functions of the seat, each as a predicate over its values, printed by a program of ours, and that each is its text's. -/
import Derived.Test.YtfadkgkkbbcekaaSx10
import Derived.KernelRfl
import Derived.Test.YtfadkgkkbbcekaaProg
import Derived.Test.YtfadkgkkbbcekaaClF0
set_option linter.unusedVariables false
namespace Go.Proofs.S
open Go Go.Sx Go.Proofs
def F_salvorlaw19_DpllSmall (K : Bool → HP) : HP := fun h0 => (
 nw #[(.int .i64 (1 : Int))] ty_int fun b0 =>
 nw #[(.int .i64 (-1 : Int))] ty_int fun b1 =>
 nw #[(.int .i64 (2 : Int))] ty_int fun b2 =>
 nw #[(.int .i64 (-2 : Int))] ty_int fun b3 =>
 nw #[(.int .i64 (1 : Int)), (.int .i64 (2 : Int))] ty_int fun b4 =>
 nw #[(.int .i64 (1 : Int)), (.int .i64 (-2 : Int))] ty_int fun b5 =>
 nw #[(.int .i64 (-1 : Int)), (.int .i64 (2 : Int))] ty_int fun b6 =>
 nw #[(.int .i64 (-1 : Int)), (.int .i64 (-2 : Int))] ty_int fun b7 =>
 nw #[(.int .i64 (1 : Int)), (.int .i64 (-1 : Int))] ty_int fun b8 =>
 nw #[(.int .i64 (2 : Int)), (.int .i64 (2 : Int))] ty_int fun b9 =>
 nw #[(.int .i64 (0 : Int))] ty_int fun b10 =>
 nw #[(.int .i64 (3 : Int))] ty_int fun b11 =>
 nw #[(.int .i64 (-2 : Int)), (.int .i64 (-2 : Int)), (.int .i64 (1 : Int))] ty_int fun b12 =>
 nw #[(.slice none 0 0), (.slice (some (⟨b0, 0, none⟩ : Addr)) 1 1), (.slice (some (⟨b1, 0, none⟩ : Addr)) 1 1), (.slice (some (⟨b2, 0, none⟩ : Addr)) 1 1), (.slice (some (⟨b3, 0, none⟩ : Addr)) 1 1), (.slice (some (⟨b4, 0, none⟩ : Addr)) 2 2), (.slice (some (⟨b5, 0, none⟩ : Addr)) 2 2), (.slice (some (⟨b6, 0, none⟩ : Addr)) 2 2), (.slice (some (⟨b7, 0, none⟩ : Addr)) 2 2), (.slice (some (⟨b8, 0, none⟩ : Addr)) 2 2), (.slice (some (⟨b9, 0, none⟩ : Addr)) 2 2), (.slice (some (⟨b10, 0, none⟩ : Addr)) 1 1), (.slice (some (⟨b11, 0, none⟩ : Addr)) 1 1), (.slice (some (⟨b12, 0, none⟩ : Addr)) 3 3)] ty_sl_int fun b13 =>
 lfp (σ := (Int × (Bool × Unit))) (fun X14 s15 => /-   -/
 brB (decide (s15.1 < (14 : Int)))
 (sx (some (⟨b13, 0, none⟩ : Addr)) 14 s15.1 1 fun p16 =>
 ldT .sl p16 fun x17 =>
 lfp (σ := (Int × (Bool × Unit))) (fun X18 s19 => /-   -/
 brB (decide (s19.1 < (14 : Int)))
 (sx (some (⟨b13, 0, none⟩ : Addr)) 14 s19.1 1 fun p20 =>
 ldT .sl p20 fun x21 =>
 nw #[(.slice x17.a x17.len x17.cap), (.slice x21.a x21.len x21.cap)] ty_sl_int fun b22 =>
 callT Try.prog fn_salvorlaw05_Of #[(.int .i64 (2 : Int)), (.slice (some (⟨b22, 0, none⟩ : Addr)) 2 2)] (.agg (.cons (.int .i64) (.cons .sl .nil))) fun r23 =>
 nw #[(.int .i64 (0 : Int)), (.slice none 0 0)] ty_formula_Formula fun b24 =>
 st1 (⟨b24, 0, none⟩ : Addr) (.int .i64 r23.1) <|
 st1 ((⟨b24, 0, none⟩ : Addr).add 1) (.slice r23.2.1.a r23.2.1.len r23.2.1.cap) <|
 nw #[(.int .i64 (1 : Int))] ty_int fun b25 =>
 nw #[(.int .i64 (-1 : Int))] ty_int fun b26 =>
 nw #[(.int .i64 (2 : Int)), (.int .i64 (2 : Int))] ty_int fun b27 =>
 nw #[(.int .i64 (1 : Int)), (.int .i64 (-2 : Int))] ty_int fun b28 =>
 nw #[(.int .i64 (1 : Int)), (.int .i64 (-1 : Int))] ty_int fun b29 =>
 nw #[(.int .i64 (3 : Int))] ty_int fun b30 =>
 nw #[(.int .i64 (0 : Int))] ty_int fun b31 =>
 nw #[(.slice none 0 0), (.slice (some (⟨b25, 0, none⟩ : Addr)) 1 1), (.slice (some (⟨b26, 0, none⟩ : Addr)) 1 1), (.slice (some (⟨b27, 0, none⟩ : Addr)) 2 2), (.slice (some (⟨b28, 0, none⟩ : Addr)) 2 2), (.slice (some (⟨b29, 0, none⟩ : Addr)) 2 2), (.slice (some (⟨b30, 0, none⟩ : Addr)) 1 1), (.slice (some (⟨b31, 0, none⟩ : Addr)) 1 1)] ty_sl_int fun b32 =>
 lfp (σ := (Int × (Bool × Unit))) (fun X33 s34 => /-   -/
 brB (decide (s34.1 < (8 : Int)))
 (sx (some (⟨b32, 0, none⟩ : Addr)) 8 s34.1 1 fun p35 =>
 ldT .sl p35 fun x36 =>
 ldA (.cons (.int .i64) (.cons .sl .nil)) (⟨b24, 0, none⟩ : Addr) fun x37 =>
 nz (6 : Int) <|
 callT Try.prog fn_salvorlaw19_under #[(.agg #[(.int .i64 x37.1), (.slice x37.2.1.a x37.2.1.len x37.2.1.cap)]), (.slice x36.a x36.len x36.cap), (.int .i64 (IntKind.wrap .i64 ((Int.tmod (IntKind.wrap .i64 ((IntKind.wrap .i64 (s15.1 + s19.1)) + s34.1)) (6 : Int)) - (1 : Int))))] .bool fun r38 =>
 jn (σ := Bool) (fun t40 =>
 jn (σ := Bool) (fun t42 =>
 jn (σ := Bool) (fun t44 =>
 brB t44
 (mkd h0.size <|
 K false)
 (X33 ((IntKind.wrap .i64 (s34.1 + (1 : Int))), s34.2.1, ())))
 (fun J43 =>
 brB t42
 (J43 true)
 (ldA (.cons (.int .i64) (.cons .sl .nil)) (⟨b24, 0, none⟩ : Addr) fun x45 =>
 callT Try.prog fn_salvorlaw19_implied #[(.agg #[(.int .i64 x45.1), (.slice x45.2.1.a x45.2.1.len x45.2.1.cap)]), (.slice x17.a x17.len x17.cap), (.int .i64 (50 : Int))] .bool fun r46 =>
 J43 ((!r46)))))
 (fun J41 =>
 brB t40
 (J41 true)
 (ldA (.cons (.int .i64) (.cons .sl .nil)) (⟨b24, 0, none⟩ : Addr) fun x47 =>
 nz (5 : Int) <|
 callT Try.prog fn_salvorlaw19_implied #[(.agg #[(.int .i64 x47.1), (.slice x47.2.1.a x47.2.1.len x47.2.1.cap)]), (.slice x36.a x36.len x36.cap), (.int .i64 (Int.tmod (IntKind.wrap .i64 (s15.1 + s19.1)) (5 : Int)))] .bool fun r48 =>
 J41 ((!r48)))))
 (fun J39 =>
 brB (!r38)
 (J39 true)
 (ldA (.cons (.int .i64) (.cons .sl .nil)) (⟨b24, 0, none⟩ : Addr) fun x49 =>
 callT Try.prog fn_salvorlaw19_under #[(.agg #[(.int .i64 x49.1), (.slice x49.2.1.a x49.2.1.len x49.2.1.cap)]), (.slice x36.a x36.len x36.cap), (.int .i64 (50 : Int))] .bool fun r50 =>
 J39 ((!r50)))))
 (X18 ((IntKind.wrap .i64 (s19.1 + (1 : Int))), s34.2.1, ())))
 ((0 : Int), s19.2.1, ()))
 (X14 ((IntKind.wrap .i64 (s15.1 + (1 : Int))), s19.2.1, ())))
 ((0 : Int), s15.2.1, ()))
 (lfp (σ := (Int × (Sl × Unit))) (fun X51 s52 => /-  all -/
 brB (decide (s52.1 < (16 : Int)))
 (lfp (σ := (Int × (Sl × Unit))) (fun X53 s54 => /-  c -/
 brB (decide (s54.1 < (4 : Int)))
 (ge0 s54.1 <|
 nw #[(.int .i64 (IntKind.wrap .i64 ((IntKind.wrap .i64 (s54.1 + (1 : Int))) * (IntKind.wrap .i64 ((1 : Int) - (IntKind.wrap .i64 ((2 : Int) * (bAnd .i64 (Int.fdiv s52.1 (2 ^ (min (s54.1).toNat 64))) (1 : Int)))))))))] ty_int fun b55 =>
 apd ty_int 1 8 #[(.int .i64 (0 : Int))] ⟨s54.2.1.a, s54.2.1.len, s54.2.1.cap⟩ ⟨(some (⟨b55, 0, none⟩ : Addr)), 1, 1⟩ fun s56 =>
 X53 ((IntKind.wrap .i64 (s54.1 + (1 : Int))), ⟨s56.a, s56.len, s56.cap⟩, ()))
 (nw #[(.slice s54.2.1.a s54.2.1.len s54.2.1.cap)] ty_sl_int fun b57 =>
 apd ty_sl_int 1 24 #[(.slice none 0 0)] ⟨s52.2.1.a, s52.2.1.len, s52.2.1.cap⟩ ⟨(some (⟨b57, 0, none⟩ : Addr)), 1, 1⟩ fun s58 =>
 X51 ((IntKind.wrap .i64 (s52.1 + (1 : Int))), ⟨s58.a, s58.len, s58.cap⟩, ())))
 ((0 : Int), ⟨none, 0, 0⟩, ()))
 (callT Try.prog fn_salvorlaw05_Of #[(.int .i64 (4 : Int)), (.slice s52.2.1.a s52.2.1.len s52.2.1.cap)] (.agg (.cons (.int .i64) (.cons .sl .nil))) fun r59 =>
 nw #[(.int .i64 (0 : Int)), (.slice none 0 0)] ty_formula_Formula fun b60 =>
 st1 (⟨b60, 0, none⟩ : Addr) (.int .i64 r59.1) <|
 st1 ((⟨b60, 0, none⟩ : Addr).add 1) (.slice r59.2.1.a r59.2.1.len r59.2.1.cap) <|
 nw #[(.int .i64 (-9223372036854775808 : Int)), (.int .i64 (-1 : Int)), (.int .i64 (0 : Int)), (.int .i64 (13 : Int)), (.int .i64 (14 : Int)), (.int .i64 (15 : Int)), (.int .i64 (30 : Int)), (.int .i64 (16777216 : Int)), (.int .i64 (16777217 : Int)), (.int .i64 (9223372036854775807 : Int))] ty_int fun b61 =>
 lfp (σ := (Int × (Bool × Unit))) (fun X62 s63 => /-   -/
 brB (decide (s63.1 < (10 : Int)))
 (sx (some (⟨b61, 0, none⟩ : Addr)) 10 s63.1 1 fun p64 =>
 ldT (.int .i64) p64 fun x65 =>
 ldA (.cons (.int .i64) (.cons .sl .nil)) (⟨b60, 0, none⟩ : Addr) fun x66 =>
 callT Try.prog fn_salvorlaw19_under #[(.agg #[(.int .i64 x66.1), (.slice x66.2.1.a x66.2.1.len x66.2.1.cap)]), (.slice none 0 0), (.int .i64 x65)] .bool fun r67 =>
 jn (σ := Bool) (fun t69 =>
 jn (σ := Bool) (fun t71 =>
 brB t71
 (mkd h0.size <|
 K false)
 (X62 ((IntKind.wrap .i64 (s63.1 + (1 : Int))), s63.2.1, ())))
 (fun J70 =>
 brB t69
 (J70 true)
 (ldA (.cons (.int .i64) (.cons .sl .nil)) (⟨b60, 0, none⟩ : Addr) fun x72 =>
 callT Try.prog fn_salvorlaw19_implied #[(.agg #[(.int .i64 x72.1), (.slice x72.2.1.a x72.2.1.len x72.2.1.cap)]), (.slice none 0 0), (.int .i64 x65)] .bool fun r73 =>
 J70 ((!r73)))))
 (fun J68 =>
 brB (!r67)
 (J68 true)
 (slL ⟨s52.2.1.a, s52.2.1.len, s52.2.1.cap⟩ (1 : Int) 1 fun s74 =>
 callT Try.prog fn_salvorlaw05_Of #[(.int .i64 (4 : Int)), (.slice s74.a s74.len s74.cap)] (.agg (.cons (.int .i64) (.cons .sl .nil))) fun r75 =>
 callT Try.prog fn_salvorlaw19_under #[(.agg #[(.int .i64 r75.1), (.slice r75.2.1.a r75.2.1.len r75.2.1.cap)]), (.slice none 0 0), (.int .i64 x65)] .bool fun r76 =>
 J68 ((!r76)))))
 (nw #[(.int .i64 (-40 : Int)), (.int .i64 (1 : Int))] ty_int fun b77 =>
 nw #[(.slice (some (⟨b77, 0, none⟩ : Addr)) 2 2)] ty_sl_int fun b78 =>
 callT Try.prog fn_salvorlaw05_Of #[(.int .i64 (40 : Int)), (.slice (some (⟨b78, 0, none⟩ : Addr)) 1 1)] (.agg (.cons (.int .i64) (.cons .sl .nil))) fun r79 =>
 callT Try.prog fn_dpll_All #[(.agg #[(.int .i64 r79.1), (.slice r79.2.1.a r79.2.1.len r79.2.1.cap)])] (.tup (.cons .val (.cons (.int .i64) .nil))) fun r80 =>
 jn (σ := Bool) (fun t82 =>
 brB t82
 (mkd h0.size <|
 K false)
 (nw #[(.int .i64 (0 : Int))] ty_int fun b83 =>
 st1 (⟨b83, 0, none⟩ : Addr) (.int .i64 (0 : Int)) <|
 jn (σ := Unit) (fun s85 => /- -/
 callT Try.prog fn_salvorlaw05_Of #[(.int .i64 (-1 : Int)), (.slice none 0 0)] (.agg (.cons (.int .i64) (.cons .sl .nil))) fun r86 =>
 callT Try.prog fn_dpll_All #[(.agg #[(.int .i64 r86.1), (.slice r86.2.1.a r86.2.1.len r86.2.1.cap)])] (.tup (.cons .val (.cons (.int .i64) .nil))) fun r87 =>
 ldA (.cons (.int .i64) (.cons .sl .nil)) (⟨b60, 0, none⟩ : Addr) fun x88 =>
 mks ty_lits_Lit 1 8 #[(.int .i64 (0 : Int))] (4097 : Int) (4097 : Int) fun s89 =>
 callT Try.prog fn_dpll_Implied #[(.agg #[(.int .i64 x88.1), (.slice x88.2.1.a x88.2.1.len x88.2.1.cap)]), (.slice s89.a s89.len s89.cap), (.int .i64 (5 : Int))] (.tup (.cons .bool (.cons (.int .i64) .nil))) fun r90 =>
 ldT (.int .i64) (⟨b83, 0, none⟩ : Addr) fun x91 =>
 jn (σ := Bool) (fun t93 =>
 jn (σ := Bool) (fun t95 =>
 jn (σ := Bool) (fun t97 =>
 jn (σ := Bool) (fun t99 =>
 mkd h0.size <|
 K t99)
 (fun J98 =>
 brB t97
 (callT Try.prog fn_salvorlaw19_awake #[] .bool fun r100 =>
 J98 (r100))
 (J98 false)))
 (fun J96 =>
 brB t95
 (J96 ((r90.2.1 == (20 : Int))))
 (J96 false)))
 (fun J94 =>
 brB t93
 (J94 ((r87.2.1 == (50 : Int))))
 (J94 false)))
 (fun J92 =>
 brB (x91 == (6 : Int))
 (fnE r87.1 fun t101 =>
 J92 (t101))
 (J92 false)))
 (fun J84 =>
 RangeVC Try.prog (.cons .sl .nil) r80.1 (fun x102 wrap103 next104 jump105 =>
 wrap103 <|
 ldT (.int .i64) (⟨b83, 0, none⟩ : Addr) fun x106 =>
 st1 (⟨b83, 0, none⟩ : Addr) (.int .i64 (IntKind.wrap .i64 (x106 + (1 : Int)))) <|
 jn (σ := Bool) (fun t108 =>
 jn (σ := Bool) (fun t110 =>
 brB t110
 (jump105 (.exit 12))
 (next104))
 (fun J109 =>
 brB t108
 (J109 true)
 (ldT (.int .i64) (⟨b83, 0, none⟩ : Addr) fun x111 =>
 J109 ((decide (x111 > (5 : Int)))))))
 (fun J107 =>
 brB ((x102.1.len : Int) != (40 : Int))
 (J107 true)
 (ldT (.int .i64) (⟨b83, 0, none⟩ : Addr) fun x112 =>
 jn (σ := Bool) (fun t114 =>
 J107 (t114))
 (fun J113 =>
 brB (x112 == (1 : Int))
 (callT Try.prog fn_slices_Contains_bool_bool #[(.slice x102.1.a x102.1.len x102.1.cap), (.bool true)] .bool fun r115 =>
 J113 (r115))
 (J113 false)))))
 (J84 (()))
 (mkd h0.size <|
 K s63.2.1)
 [12]
 [(J84 (()))])))
 (fun J81 =>
 brB (r80.2.1 != (0 : Int))
 (J81 true)
 (fnE r80.1 fun t116 =>
 J81 (t116)))))
 ((0 : Int), s15.2.1, ())))
 ((0 : Int), ⟨none, 0, 0⟩, ())))
 ((0 : Int), false, ())) h0
set_option maxRecDepth 100000 in
theorem E_salvorlaw19_DpllSmall (K : Bool → HP) (h : Heap) : fnVC Try.prog [(1000000, .bool), (171, (.cons .sl .nil))] 217 Try.f7 [] .bool K h = F_salvorlaw19_DpllSmall K h := by kernel_rfl
def F_salvorlaw19_implied (a0 : (Int × (Sl × Unit))) (a1 : Sl) (a2 : Int) (K : Bool → HP) : HP :=
 nw #[(.int .i64 a0.1), (.slice a0.2.1.a a0.2.1.len a0.2.1.cap)] ty_formula_Formula fun b0 =>
 ldA (.cons (.int .i64) (.cons .sl .nil)) (⟨b0, 0, none⟩ : Addr) fun x1 =>
 callT Try.prog fn_salvorlaw02_Clause #[(.slice a1.a a1.len a1.cap)] .sl fun r2 =>
 ckA (⟨b0, 0, none⟩ : Addr) [(.int .i64 x1.1), (.slice x1.2.1.a x1.2.1.len x1.2.1.cap)] <|
 callT Try.prog fn_dpll_Implied #[(.agg #[(.int .i64 x1.1), (.slice x1.2.1.a x1.2.1.len x1.2.1.cap)]), (.slice r2.a r2.len r2.cap), (.int .i64 a2)] (.tup (.cons .bool (.cons (.int .i64) .nil))) fun r3 =>
 ldA (.cons (.int .i64) (.cons .sl .nil)) (⟨b0, 0, none⟩ : Addr) fun x4 =>
 callT Try.prog fn_salvorlaw05_Theirs #[(.agg #[(.int .i64 x4.1), (.slice x4.2.1.a x4.2.1.len x4.2.1.cap)])] (.agg (.cons (.int .i64) (.cons .sl .nil))) fun r5 =>
 nw #[(.int .i64 (0 : Int)), (.slice none 0 0)] ty_salvorref05_Formula fun b6 =>
 st1 (⟨b6, 0, none⟩ : Addr) (.int .i64 r5.1) <|
 st1 ((⟨b6, 0, none⟩ : Addr).add 1) (.slice r5.2.1.a r5.2.1.len r5.2.1.cap) <|
 ldA (.cons (.int .i64) (.cons .sl .nil)) (⟨b6, 0, none⟩ : Addr) fun x7 =>
 callT Try.prog fn_salvorref05_Check #[(.agg #[(.int .i64 x7.1), (.slice x7.2.1.a x7.2.1.len x7.2.1.cap)])] (.tup (.cons (.int .i64) (.cons (.int .i64) .nil))) fun r8 =>
 brB (r8.2.1 != (0 : Int))
 (jn (σ := Bool) (fun t10 =>
 K t10)
 (fun J9 =>
 brB (!r3.1)
 (J9 ((r3.2.1 == r8.2.1)))
 (J9 false)))
 (jn (σ := Bool) (fun t12 =>
 brB t12
 (jn (σ := Bool) (fun t14 =>
 K t14)
 (fun J13 =>
 brB (!r3.1)
 (J13 ((r3.2.1 == (2 : Int))))
 (J13 false)))
 (ldA (.cons (.int .i64) (.cons .sl .nil)) (⟨b6, 0, none⟩ : Addr) fun x15 =>
 callT Try.prog fn_salvorref19_Implied #[(.agg #[(.int .i64 x15.1), (.slice x15.2.1.a x15.2.1.len x15.2.1.cap)]), (.slice a1.a a1.len a1.cap), (.int .i64 a2)] (.tup (.cons .bool (.cons (.int .i64) .nil))) fun r16 =>
 jn (σ := Bool) (fun t18 =>
 K t18)
 (fun J17 =>
 brB (r3.1 == r16.1)
 (J17 ((r3.2.1 == r16.2.1)))
 (J17 false))))
 (fun J11 =>
 brB (decide (a2 < (0 : Int)))
 (J11 true)
 (J11 ((decide (a2 > (16777216 : Int)))))))
set_option maxRecDepth 100000 in
theorem E_salvorlaw19_implied (a0 : (Int × (Sl × Unit))) (a1 : Sl) (a2 : Int) (K : Bool → HP) (h : Heap) : fnVC Try.prog [(1000000, .bool)] 65 Try.f13 [(.agg #[(.int .i64 a0.1), (.slice a0.2.1.a a0.2.1.len a0.2.1.cap)]), (.slice a1.a a1.len a1.cap), (.int .i64 a2)] .bool K h = F_salvorlaw19_implied a0 a1 a2 K h := by kernel_rfl
set_option maxRecDepth 100000 in
theorem S_salvorlaw19_implied{h : Heap} {a0 : (Int × (Sl × Unit))} {a1 : Sl} {a2 : Int} (K : Bool → HP) (hF : F_salvorlaw19_implied a0 a1 a2 K h) : CallsH Try.prog fn_salvorlaw19_implied #[(.agg #[(.int .i64 a0.1), (.slice a0.2.1.a a0.2.1.len a0.2.1.cap)]), (.slice a1.a a1.len a1.cap), (.int .i64 a2)] h fun v h' => ∃ x : Bool, v = Ty.enc .bool x ∧ K x h' :=
  callsH_of_fn (P := Try.prog) (fn := Try.f13) (τ := .bool) follows Try.func13 (by kernel_rfl) (by kernel_rfl) Try.call13 (Eq.mpr (E_salvorlaw19_implied a0 a1 a2 K h) hF)

def F_salvorlaw19_awake (K : Bool → HP) : HP :=
 nw #[(.int .i64 (1 : Int)), (.int .i64 (2 : Int))] ty_int fun b0 =>
 nw #[(.int .i64 (-1 : Int)), (.int .i64 (3 : Int))] ty_int fun b1 =>
 nw #[(.slice (some (⟨b0, 0, none⟩ : Addr)) 2 2), (.slice (some (⟨b1, 0, none⟩ : Addr)) 2 2)] ty_sl_int fun b2 =>
 callT Try.prog fn_salvorlaw05_Of #[(.int .i64 (3 : Int)), (.slice (some (⟨b2, 0, none⟩ : Addr)) 2 2)] (.agg (.cons (.int .i64) (.cons .sl .nil))) fun r3 =>
 nw #[(.int .i64 (0 : Int)), (.slice none 0 0)] ty_formula_Formula fun b4 =>
 st1 (⟨b4, 0, none⟩ : Addr) (.int .i64 r3.1) <|
 st1 ((⟨b4, 0, none⟩ : Addr).add 1) (.slice r3.2.1.a r3.2.1.len r3.2.1.cap) <|
 ldA (.cons (.int .i64) (.cons .sl .nil)) (⟨b4, 0, none⟩ : Addr) fun x5 =>
 nw #[(.int .i64 (-2 : Int))] ty_lits_Lit fun b6 =>
 callT Try.prog fn_dpll_Follows #[(.agg #[(.int .i64 x5.1), (.slice x5.2.1.a x5.2.1.len x5.2.1.cap)]), (.slice (some (⟨b6, 0, none⟩ : Addr)) 1 1)] (.tup (.cons .sl (.cons (.int .i64) (.cons (.int .i64) .nil)))) fun r7 =>
 ldA (.cons (.int .i64) (.cons .sl .nil)) (⟨b4, 0, none⟩ : Addr) fun x8 =>
 callT Try.prog fn_dpll_Solve #[(.agg #[(.int .i64 x8.1), (.slice x8.2.1.a x8.2.1.len x8.2.1.cap)]), (.int .i64 (2 : Int))] (.tup (.cons (.agg (.cons .bool (.cons .sl (.cons (.int .i64) .nil)))) (.cons (.int .i64) .nil))) fun r9 =>
 nw #[(.bool false), (.slice none 0 0), (.int .i64 (0 : Int))] ty_dpll_Answer fun b10 =>
 st1 (⟨b10, 0, none⟩ : Addr) (.bool r9.1.1) <|
 st1 ((⟨b10, 0, none⟩ : Addr).add 1) (.slice r9.1.2.1.a r9.1.2.1.len r9.1.2.1.cap) <|
 st1 ((⟨b10, 0, none⟩ : Addr).add 2) (.int .i64 r9.1.2.2.1) <|
 ldA (.cons (.int .i64) (.cons .sl .nil)) (⟨b4, 0, none⟩ : Addr) fun x11 =>
 callT Try.prog fn_dpll_Solve #[(.agg #[(.int .i64 x11.1), (.slice x11.2.1.a x11.2.1.len x11.2.1.cap)]), (.int .i64 (1 : Int))] (.tup (.cons (.agg (.cons .bool (.cons .sl (.cons (.int .i64) .nil)))) (.cons (.int .i64) .nil))) fun r12 =>
 nw #[(.bool false), (.slice none 0 0), (.int .i64 (0 : Int))] ty_dpll_Answer fun b13 =>
 st1 (⟨b13, 0, none⟩ : Addr) (.bool r12.1.1) <|
 st1 ((⟨b13, 0, none⟩ : Addr).add 1) (.slice r12.1.2.1.a r12.1.2.1.len r12.1.2.1.cap) <|
 st1 ((⟨b13, 0, none⟩ : Addr).add 2) (.int .i64 r12.1.2.2.1) <|
 ldA (.cons (.int .i64) (.cons .sl .nil)) (⟨b4, 0, none⟩ : Addr) fun x14 =>
 nw #[(.int .i64 (-2 : Int)), (.int .i64 (-3 : Int))] ty_lits_Lit fun b15 =>
 callT Try.prog fn_dpll_Follows #[(.agg #[(.int .i64 x14.1), (.slice x14.2.1.a x14.2.1.len x14.2.1.cap)]), (.slice (some (⟨b15, 0, none⟩ : Addr)) 2 2)] (.tup (.cons .sl (.cons (.int .i64) (.cons (.int .i64) .nil)))) fun r16 =>
 nw #[(.int .i64 (1 : Int))] ty_int fun b17 =>
 nw #[(.int .i64 (-1 : Int))] ty_int fun b18 =>
 nw #[(.slice (some (⟨b17, 0, none⟩ : Addr)) 1 1), (.slice (some (⟨b18, 0, none⟩ : Addr)) 1 1)] ty_sl_int fun b19 =>
 callT Try.prog fn_salvorlaw05_Of #[(.int .i64 (1 : Int)), (.slice (some (⟨b19, 0, none⟩ : Addr)) 2 2)] (.agg (.cons (.int .i64) (.cons .sl .nil))) fun r20 =>
 callT Try.prog fn_dpll_Solve #[(.agg #[(.int .i64 r20.1), (.slice r20.2.1.a r20.2.1.len r20.2.1.cap)]), (.int .i64 (0 : Int))] (.tup (.cons (.agg (.cons .bool (.cons .sl (.cons (.int .i64) .nil)))) (.cons (.int .i64) .nil))) fun r21 =>
 nw #[(.bool false), (.slice none 0 0), (.int .i64 (0 : Int))] ty_dpll_Answer fun b22 =>
 st1 (⟨b22, 0, none⟩ : Addr) (.bool r21.1.1) <|
 st1 ((⟨b22, 0, none⟩ : Addr).add 1) (.slice r21.1.2.1.a r21.1.2.1.len r21.1.2.1.cap) <|
 st1 ((⟨b22, 0, none⟩ : Addr).add 2) (.int .i64 r21.1.2.2.1) <|
 ldA (.cons (.int .i64) (.cons .sl .nil)) (⟨b4, 0, none⟩ : Addr) fun x23 =>
 nw #[(.int .i64 (2 : Int)), (.int .i64 (3 : Int))] ty_lits_Lit fun b24 =>
 callT Try.prog fn_dpll_Implied #[(.agg #[(.int .i64 x23.1), (.slice x23.2.1.a x23.2.1.len x23.2.1.cap)]), (.slice (some (⟨b24, 0, none⟩ : Addr)) 2 2), (.int .i64 (9 : Int))] (.tup (.cons .bool (.cons (.int .i64) .nil))) fun r25 =>
 ldA (.cons (.int .i64) (.cons .sl .nil)) (⟨b4, 0, none⟩ : Addr) fun x26 =>
 nw #[(.int .i64 (2 : Int))] ty_lits_Lit fun b27 =>
 callT Try.prog fn_dpll_Implied #[(.agg #[(.int .i64 x26.1), (.slice x26.2.1.a x26.2.1.len x26.2.1.cap)]), (.slice (some (⟨b27, 0, none⟩ : Addr)) 1 1), (.int .i64 (9 : Int))] (.tup (.cons .bool (.cons (.int .i64) .nil))) fun r28 =>
 jn (σ := Bool) (fun t30 =>
 jn (σ := Bool) (fun t32 =>
 jn (σ := Bool) (fun t34 =>
 jn (σ := Bool) (fun t36 =>
 jn (σ := Bool) (fun t38 =>
 jn (σ := Bool) (fun t40 =>
 jn (σ := Bool) (fun t42 =>
 jn (σ := Bool) (fun t44 =>
 jn (σ := Bool) (fun t46 =>
 jn (σ := Bool) (fun t48 =>
 jn (σ := Bool) (fun t50 =>
 jn (σ := Bool) (fun t52 =>
 K t52)
 (fun J51 =>
 brB t50
 (J51 ((!r28.1)))
 (J51 false)))
 (fun J49 =>
 brB t48
 (J49 (r25.1))
 (J49 false)))
 (fun J47 =>
 brB t46
 (ldT (.int .i64) ((⟨b22, 0, none⟩ : Addr).add 2) fun x53 =>
 J47 ((x53 == (0 : Int))))
 (J47 false)))
 (fun J45 =>
 brB t44
 (ldT .bool (⟨b22, 0, none⟩ : Addr) fun x54 =>
 J45 ((!x54)))
 (J45 false)))
 (fun J43 =>
 brB t42
 (J43 ((r16.2.1 == (1 : Int))))
 (J43 false)))
 (fun J41 =>
 brB t40
 (nw #[(.int .i64 (1 : Int))] ty_lits_Lit fun b55 =>
 callT Try.prog fn_slices_Equal_lits_Lit_lits_Lit #[(.slice r16.1.a r16.1.len r16.1.cap), (.slice (some (⟨b55, 0, none⟩ : Addr)) 1 1)] .bool fun r56 =>
 J41 (r56))
 (J41 false)))
 (fun J39 =>
 brB t38
 (ldT (.int .i64) ((⟨b10, 0, none⟩ : Addr).add 2) fun x57 =>
 J39 ((x57 == (2 : Int))))
 (J39 false)))
 (fun J37 =>
 brB t36
 (ldT .sl ((⟨b10, 0, none⟩ : Addr).add 1) fun x58 =>
 nw #[(.bool false), (.bool true), (.bool false)] ty_bool fun b59 =>
 callT Try.prog fn_slices_Equal_bool_bool #[(.slice x58.a x58.len x58.cap), (.slice (some (⟨b59, 0, none⟩ : Addr)) 3 3)] .bool fun r60 =>
 J37 (r60))
 (J37 false)))
 (fun J35 =>
 brB t34
 (ldT .bool (⟨b10, 0, none⟩ : Addr) fun x61 =>
 J35 (x61))
 (J35 false)))
 (fun J33 =>
 brB t32
 (J33 ((r7.2.1 == (-1 : Int))))
 (J33 false)))
 (fun J31 =>
 brB t30
 (nw #[(.int .i64 (1 : Int)), (.int .i64 (3 : Int))] ty_lits_Lit fun b62 =>
 callT Try.prog fn_slices_Equal_lits_Lit_lits_Lit #[(.slice r7.1.a r7.1.len r7.1.cap), (.slice (some (⟨b62, 0, none⟩ : Addr)) 2 2)] .bool fun r63 =>
 J31 (r63))
 (J31 false)))
 (fun J29 =>
 brB ((IntKind.wrap .i64 ((IntKind.wrap .i64 ((IntKind.wrap .i64 ((IntKind.wrap .i64 ((IntKind.wrap .i64 (r7.2.2.1 + r9.2.1)) + r16.2.2.1)) + r21.2.1)) + r25.2.1)) + r28.2.1)) == (0 : Int))
 (J29 ((r12.2.1 == (190 : Int))))
 (J29 false))
set_option maxRecDepth 100000 in
theorem E_salvorlaw19_awake (K : Bool → HP) (h : Heap) : fnVC Try.prog [(1000000, .bool)] 132 Try.f14 [] .bool K h = F_salvorlaw19_awake K h := by kernel_rfl
set_option maxRecDepth 100000 in
theorem S_salvorlaw19_awake{h : Heap} (K : Bool → HP) (hF : F_salvorlaw19_awake K h) : CallsH Try.prog fn_salvorlaw19_awake #[] h fun v h' => ∃ x : Bool, v = Ty.enc .bool x ∧ K x h' :=
  callsH_of_fn (P := Try.prog) (fn := Try.f14) (τ := .bool) follows Try.func14 (by kernel_rfl) (by kernel_rfl) Try.call14 (Eq.mpr (E_salvorlaw19_awake K h) hF)

def F_formula_Copy (a0 : (Int × (Sl × Unit))) (K : (Int × (Sl × Unit)) → HP) : HP :=
 nw #[(.int .i64 a0.1), (.slice a0.2.1.a a0.2.1.len a0.2.1.cap)] ty_formula_Formula fun b0 =>
 nw #[(.int .i64 (0 : Int)), (.slice none 0 0)] ty_formula_Formula fun b1 =>
 ldT (.int .i64) (⟨b0, 0, none⟩ : Addr) fun x2 =>
 nw #[(.int .i64 (0 : Int)), (.slice none 0 0)] ty_formula_Formula fun b3 =>
 st1 (⟨b3, 0, none⟩ : Addr) (.int .i64 x2) <|
 st1 ((⟨b3, 0, none⟩ : Addr).add 1) (.slice none 0 0) <|
 ldT .sl ((⟨b0, 0, none⟩ : Addr).add 1) fun x4 =>
 lfp (σ := (Int × Unit)) (fun X5 s6 => /-  -/
 brB (decide (s6.1 < (x4.len : Int)))
 (sx x4.a x4.len s6.1 1 fun p7 =>
 ldT .sl p7 fun x8 =>
 ldT .sl ((⟨b3, 0, none⟩ : Addr).add 1) fun x9 =>
 callT Try.prog fn_slices_Clone_clauses_Clause_lits_Lit #[(.slice x8.a x8.len x8.cap)] .sl fun r10 =>
 ck ((⟨b3, 0, none⟩ : Addr).add 1) (.slice x9.a x9.len x9.cap) <|
 nw #[(.slice r10.a r10.len r10.cap)] ty_clauses_Clause fun b11 =>
 apd ty_clauses_Clause 1 24 #[(.slice none 0 0)] ⟨x9.a, x9.len, x9.cap⟩ ⟨(some (⟨b11, 0, none⟩ : Addr)), 1, 1⟩ fun s12 =>
 st1 ((⟨b3, 0, none⟩ : Addr).add 1) (.slice s12.a s12.len s12.cap) <|
 X5 ((IntKind.wrap .i64 (s6.1 + (1 : Int))), ()))
 (ldA (.cons (.int .i64) (.cons .sl .nil)) (⟨b3, 0, none⟩ : Addr) fun x13 =>
 st1 (⟨b1, 0, none⟩ : Addr) (.int .i64 x13.1) <|
 st1 ((⟨b1, 0, none⟩ : Addr).add 1) (.slice x13.2.1.a x13.2.1.len x13.2.1.cap) <|
 ldA (.cons (.int .i64) (.cons .sl .nil)) (⟨b1, 0, none⟩ : Addr) fun x14 =>
 K (x14.1, ⟨x14.2.1.a, x14.2.1.len, x14.2.1.cap⟩, ())))
 ((0 : Int), ())
set_option maxRecDepth 100000 in
theorem E_formula_Copy (a0 : (Int × (Sl × Unit))) (K : (Int × (Sl × Unit)) → HP) (h : Heap) : fnVC Try.prog [(1000000, .nil)] 25 Try.f17 [(.agg #[(.int .i64 a0.1), (.slice a0.2.1.a a0.2.1.len a0.2.1.cap)])] (.agg (.cons (.int .i64) (.cons .sl .nil))) K h = F_formula_Copy a0 K h := by kernel_rfl
set_option maxRecDepth 100000 in
theorem S_formula_Copy{h : Heap} {a0 : (Int × (Sl × Unit))} (K : (Int × (Sl × Unit)) → HP) (hF : F_formula_Copy a0 K h) : CallsH Try.prog fn_formula_Copy #[(.agg #[(.int .i64 a0.1), (.slice a0.2.1.a a0.2.1.len a0.2.1.cap)])] h fun v h' => ∃ x : (Int × (Sl × Unit)), v = Ty.enc (.agg (.cons (.int .i64) (.cons .sl .nil))) x ∧ K x h' :=
  callsH_of_fn (P := Try.prog) (fn := Try.f17) (τ := (.agg (.cons (.int .i64) (.cons .sl .nil)))) follows Try.func17 (by kernel_rfl) (by kernel_rfl) Try.call17 (Eq.mpr (E_formula_Copy a0 K h) hF)

def F_dpll_Under (a0 : (Int × (Sl × Unit))) (a1 : Sl) (a2 : Int) (K : ((Bool × (Sl × (Int × Unit))) × (Int × Unit)) → HP) : HP :=
 nw #[(.int .i64 a0.1), (.slice a0.2.1.a a0.2.1.len a0.2.1.cap)] ty_formula_Formula fun b0 =>
 nw #[(.bool false), (.slice none 0 0), (.int .i64 (0 : Int))] ty_dpll_Answer fun b1 =>
 ldA (.cons (.int .i64) (.cons .sl .nil)) (⟨b0, 0, none⟩ : Addr) fun x2 =>
 callT Try.prog fn_dpll_wrong #[(.agg #[(.int .i64 x2.1), (.slice x2.2.1.a x2.2.1.len x2.2.1.cap)]), (.int .i64 a2)] (.int .i64) fun r3 =>
 brB (r3 != (0 : Int))
 (st1 (⟨b1, 0, none⟩ : Addr) (.bool false) <|
 st1 ((⟨b1, 0, none⟩ : Addr).add 1) (.slice none 0 0) <|
 st1 ((⟨b1, 0, none⟩ : Addr).add 2) (.int .i64 (0 : Int)) <|
 ldA (.cons .bool (.cons .sl (.cons (.int .i64) .nil))) (⟨b1, 0, none⟩ : Addr) fun x4 =>
 K ((x4.1, ⟨x4.2.1.a, x4.2.1.len, x4.2.1.cap⟩, x4.2.2.1, ()), r3, ()))
 (ldA (.cons (.int .i64) (.cons .sl .nil)) (⟨b0, 0, none⟩ : Addr) fun x5 =>
 callT Try.prog fn_dpll_begin #[(.agg #[(.int .i64 x5.1), (.slice x5.2.1.a x5.2.1.len x5.2.1.cap)]), (.slice a1.a a1.len a1.cap), (.int .i64 a2)] (.tup (.cons .ptr (.cons (.int .i64) .nil))) fun r6 =>
 brB (r6.2.1 != (0 : Int))
 (st1 (⟨b1, 0, none⟩ : Addr) (.bool false) <|
 st1 ((⟨b1, 0, none⟩ : Addr).add 1) (.slice none 0 0) <|
 st1 ((⟨b1, 0, none⟩ : Addr).add 2) (.int .i64 (0 : Int)) <|
 ldA (.cons .bool (.cons .sl (.cons (.int .i64) .nil))) (⟨b1, 0, none⟩ : Addr) fun x7 =>
 K ((x7.1, ⟨x7.2.1.a, x7.2.1.len, x7.2.1.cap⟩, x7.2.2.1, ()), r6.2.1, ()))
 (nw #[(.bool false), (.slice none 0 0), (.int .i64 (0 : Int))] ty_dpll_Answer fun b8 =>
 callT Try.prog fn_dpll_search_models #[(.pointer r6.1), (.func (.func fn_dpll_Under_1) #[] #[(.pointer (some (⟨b8, 0, none⟩ : Addr)))])] .bool fun r9 =>
 nn r6.1 fun p10 =>
 ldT (.int .i64) (p10.add 3) fun x11 =>
 brB (decide (x11 > a2))
 (st1 (⟨b1, 0, none⟩ : Addr) (.bool false) <|
 st1 ((⟨b1, 0, none⟩ : Addr).add 1) (.slice none 0 0) <|
 st1 ((⟨b1, 0, none⟩ : Addr).add 2) (.int .i64 (0 : Int)) <|
 ldA (.cons .bool (.cons .sl (.cons (.int .i64) .nil))) (⟨b1, 0, none⟩ : Addr) fun x12 =>
 K ((x12.1, ⟨x12.2.1.a, x12.2.1.len, x12.2.1.cap⟩, x12.2.2.1, ()), (190 : Int), ()))
 (nn r6.1 fun p13 =>
 ldT (.int .i64) (p13.add 3) fun x14 =>
 st1 ((⟨b8, 0, none⟩ : Addr).add 2) (.int .i64 x14) <|
 ldA (.cons .bool (.cons .sl (.cons (.int .i64) .nil))) (⟨b8, 0, none⟩ : Addr) fun x15 =>
 st1 (⟨b1, 0, none⟩ : Addr) (.bool x15.1) <|
 st1 ((⟨b1, 0, none⟩ : Addr).add 1) (.slice x15.2.1.a x15.2.1.len x15.2.1.cap) <|
 st1 ((⟨b1, 0, none⟩ : Addr).add 2) (.int .i64 x15.2.2.1) <|
 ldA (.cons .bool (.cons .sl (.cons (.int .i64) .nil))) (⟨b1, 0, none⟩ : Addr) fun x16 =>
 K ((x16.1, ⟨x16.2.1.a, x16.2.1.len, x16.2.1.cap⟩, x16.2.2.1, ()), (0 : Int), ()))))
set_option maxRecDepth 100000 in
theorem E_dpll_Under (a0 : (Int × (Sl × Unit))) (a1 : Sl) (a2 : Int) (K : ((Bool × (Sl × (Int × Unit))) × (Int × Unit)) → HP) (h : Heap) : fnVC Try.prog [(1000000, .bool)] 46 Try.f18 [(.agg #[(.int .i64 a0.1), (.slice a0.2.1.a a0.2.1.len a0.2.1.cap)]), (.slice a1.a a1.len a1.cap), (.int .i64 a2)] (.tup (.cons (.agg (.cons .bool (.cons .sl (.cons (.int .i64) .nil)))) (.cons (.int .i64) .nil))) K h = F_dpll_Under a0 a1 a2 K h := by kernel_rfl
set_option maxRecDepth 100000 in
theorem S_dpll_Under{h : Heap} {a0 : (Int × (Sl × Unit))} {a1 : Sl} {a2 : Int} (K : ((Bool × (Sl × (Int × Unit))) × (Int × Unit)) → HP) (hF : F_dpll_Under a0 a1 a2 K h) : CallsH Try.prog fn_dpll_Under #[(.agg #[(.int .i64 a0.1), (.slice a0.2.1.a a0.2.1.len a0.2.1.cap)]), (.slice a1.a a1.len a1.cap), (.int .i64 a2)] h fun v h' => ∃ x : ((Bool × (Sl × (Int × Unit))) × (Int × Unit)), v = Ty.enc (.tup (.cons (.agg (.cons .bool (.cons .sl (.cons (.int .i64) .nil)))) (.cons (.int .i64) .nil))) x ∧ K x h' :=
  callsH_of_fn (P := Try.prog) (fn := Try.f18) (τ := (.tup (.cons (.agg (.cons .bool (.cons .sl (.cons (.int .i64) .nil)))) (.cons (.int .i64) .nil)))) follows Try.func18 (by kernel_rfl) (by kernel_rfl) Try.call18 (Eq.mpr (E_dpll_Under a0 a1 a2 K h) hF)

def F_dpll_Solve (a0 : (Int × (Sl × Unit))) (a1 : Int) (K : ((Bool × (Sl × (Int × Unit))) × (Int × Unit)) → HP) : HP :=
 nw #[(.int .i64 a0.1), (.slice a0.2.1.a a0.2.1.len a0.2.1.cap)] ty_formula_Formula fun b0 =>
 nw #[(.bool false), (.slice none 0 0), (.int .i64 (0 : Int))] ty_dpll_Answer fun b1 =>
 ldA (.cons (.int .i64) (.cons .sl .nil)) (⟨b0, 0, none⟩ : Addr) fun x2 =>
 callT Try.prog fn_dpll_Under #[(.agg #[(.int .i64 x2.1), (.slice x2.2.1.a x2.2.1.len x2.2.1.cap)]), (.slice none 0 0), (.int .i64 a1)] (.tup (.cons (.agg (.cons .bool (.cons .sl (.cons (.int .i64) .nil)))) (.cons (.int .i64) .nil))) fun r3 =>
 st1 (⟨b1, 0, none⟩ : Addr) (.bool r3.1.1) <|
 st1 ((⟨b1, 0, none⟩ : Addr).add 1) (.slice r3.1.2.1.a r3.1.2.1.len r3.1.2.1.cap) <|
 st1 ((⟨b1, 0, none⟩ : Addr).add 2) (.int .i64 r3.1.2.2.1) <|
 ldA (.cons .bool (.cons .sl (.cons (.int .i64) .nil))) (⟨b1, 0, none⟩ : Addr) fun x4 =>
 K ((x4.1, ⟨x4.2.1.a, x4.2.1.len, x4.2.1.cap⟩, x4.2.2.1, ()), r3.2.1, ())
set_option maxRecDepth 100000 in
theorem E_dpll_Solve (a0 : (Int × (Sl × Unit))) (a1 : Int) (K : ((Bool × (Sl × (Int × Unit))) × (Int × Unit)) → HP) (h : Heap) : fnVC Try.prog [(1000000, .bool)] 11 Try.f19 [(.agg #[(.int .i64 a0.1), (.slice a0.2.1.a a0.2.1.len a0.2.1.cap)]), (.int .i64 a1)] (.tup (.cons (.agg (.cons .bool (.cons .sl (.cons (.int .i64) .nil)))) (.cons (.int .i64) .nil))) K h = F_dpll_Solve a0 a1 K h := by kernel_rfl
set_option maxRecDepth 100000 in
theorem S_dpll_Solve{h : Heap} {a0 : (Int × (Sl × Unit))} {a1 : Int} (K : ((Bool × (Sl × (Int × Unit))) × (Int × Unit)) → HP) (hF : F_dpll_Solve a0 a1 K h) : CallsH Try.prog fn_dpll_Solve #[(.agg #[(.int .i64 a0.1), (.slice a0.2.1.a a0.2.1.len a0.2.1.cap)]), (.int .i64 a1)] h fun v h' => ∃ x : ((Bool × (Sl × (Int × Unit))) × (Int × Unit)), v = Ty.enc (.tup (.cons (.agg (.cons .bool (.cons .sl (.cons (.int .i64) .nil)))) (.cons (.int .i64) .nil))) x ∧ K x h' :=
  callsH_of_fn (P := Try.prog) (fn := Try.f19) (τ := (.tup (.cons (.agg (.cons .bool (.cons .sl (.cons (.int .i64) .nil)))) (.cons (.int .i64) .nil)))) follows Try.func19 (by kernel_rfl) (by kernel_rfl) Try.call19 (Eq.mpr (E_dpll_Solve a0 a1 K h) hF)

def F_clauses_Always (a0 : Sl) (K : Bool → HP) : HP := fun h0 => (
 nw #[(.bool false)] ty_bool fun b0 =>
 callT Try.prog fn_clauses_Right #[(.slice a0.a a0.len a0.cap)] .bool fun r1 =>
 brB (!r1)
 (st1 (⟨b0, 0, none⟩ : Addr) (.bool false) <|
 mkd h0.size <|
 ldT .bool (⟨b0, 0, none⟩ : Addr) fun x2 =>
 K x2)
 (nw #[(.int .i64 (0 : Int))] ty_lits_Lit fun b3 =>
 st1 (⟨b3, 0, none⟩ : Addr) (.int .i64 (0 : Int)) <|
 callT Try.prog fn_clauses_sorted #[(.slice a0.a a0.len a0.cap)] .val fun r4 =>
 RangeVC Try.prog (.cons (.int .i64) .nil) r4 (fun x5 wrap6 next7 jump8 =>
 wrap6 <|
 ldT (.int .i64) (⟨b3, 0, none⟩ : Addr) fun x9 =>
 brB (x9 != (0 : Int))
 (ldT (.int .i64) (⟨b3, 0, none⟩ : Addr) fun x10 =>
 callT Try.prog fn_lits_Neg #[(.int .i64 x10)] (.int .i64) fun r11 =>
 brB (x5.1 == r11)
 (st1 (⟨b0, 0, none⟩ : Addr) (.bool true) <|
 jump8 .ret)
 (st1 (⟨b3, 0, none⟩ : Addr) (.int .i64 x5.1) <|
 next7))
 (st1 (⟨b3, 0, none⟩ : Addr) (.int .i64 x5.1) <|
 next7))
 (st1 (⟨b0, 0, none⟩ : Addr) (.bool false) <|
 mkd h0.size <|
 ldT .bool (⟨b0, 0, none⟩ : Addr) fun x12 =>
 K x12)
 (mkd h0.size <|
 ldT .bool (⟨b0, 0, none⟩ : Addr) fun x13 =>
 K x13)
 []
 [])) h0
set_option maxRecDepth 100000 in
theorem E_clauses_Always (a0 : Sl) (K : Bool → HP) (h : Heap) : fnVC Try.prog [(1000000, .nil), (10, (.cons (.int .i64) .nil))] 20 Try.f20 [(.slice a0.a a0.len a0.cap)] .bool K h = F_clauses_Always a0 K h := by kernel_rfl
set_option maxRecDepth 100000 in
theorem S_clauses_Always{h : Heap} {a0 : Sl} (K : Bool → HP) (hF : F_clauses_Always a0 K h) : CallsH Try.prog fn_clauses_Always #[(.slice a0.a a0.len a0.cap)] h fun v h' => ∃ x : Bool, v = Ty.enc .bool x ∧ K x h' :=
  callsH_of_fn (P := Try.prog) (fn := Try.f20) (τ := .bool) follows Try.func20 (by kernel_rfl) (by kernel_rfl) Try.call20 (Eq.mpr (E_clauses_Always a0 K h) hF)

def F_slices_Equal_bool_bool (a0 : Sl) (a1 : Sl) (K : Bool → HP) : HP :=
 brB ((a0.len : Int) != (a1.len : Int))
 (K false)
 (lfp (σ := (Int × (Bool × Unit))) (fun X0 s1 => /-   -/
 brB (decide (s1.1 < (a0.len : Int)))
 (sx a0.a a0.len s1.1 1 fun p2 =>
 ldT .bool p2 fun x3 =>
 sx a1.a a1.len s1.1 1 fun p4 =>
 ldT .bool p4 fun x5 =>
 brB (!(x3 == x5))
 (K false)
 (X0 ((IntKind.wrap .i64 (s1.1 + (1 : Int))), s1.2.1, ())))
 (K true))
 ((0 : Int), false, ()))
set_option maxRecDepth 100000 in
theorem E_slices_Equal_bool_bool (a0 : Sl) (a1 : Sl) (K : Bool → HP) (h : Heap) : fnVC Try.prog [(1000000, .nil)] 26 Try.f21 [(.slice a0.a a0.len a0.cap), (.slice a1.a a1.len a1.cap)] .bool K h = F_slices_Equal_bool_bool a0 a1 K h := by kernel_rfl
set_option maxRecDepth 100000 in
theorem S_slices_Equal_bool_bool{h : Heap} {a0 : Sl} {a1 : Sl} (K : Bool → HP) (hF : F_slices_Equal_bool_bool a0 a1 K h) : CallsH Try.prog fn_slices_Equal_bool_bool #[(.slice a0.a a0.len a0.cap), (.slice a1.a a1.len a1.cap)] h fun v h' => ∃ x : Bool, v = Ty.enc .bool x ∧ K x h' :=
  callsH_of_fn (P := Try.prog) (fn := Try.f21) (τ := .bool) follows Try.func21 (by kernel_rfl) (by kernel_rfl) Try.call21 (Eq.mpr (E_slices_Equal_bool_bool a0 a1 K h) hF)

end Go.Proofs.S
