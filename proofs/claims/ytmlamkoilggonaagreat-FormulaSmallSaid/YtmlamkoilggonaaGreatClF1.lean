/- The functions of the seat, each as a predicate over its values, printed by a program of ours, and that each is its text's. -/
import Derived.Test.YtmlamkoilggonaaGreatSx10
import Derived.KernelRfl
import Derived.Test.YtmlamkoilggonaaGreatProg
import Derived.Test.YtmlamkoilggonaaGreatClF0
set_option linter.unusedVariables false
namespace Go.Proofs.S
open Go Go.Sx Go.Proofs
def F_salvorlaw05_FormulaTells (a0 : (Int × (Sl × Unit))) (a1 : Sl) (a2 : Int) (K : Bool → HP) : HP :=
 nw #[(.int .i64 a0.1), (.slice a0.2.1.a a0.2.1.len a0.2.1.cap)] ty_formula_Formula fun b0 =>
 ldA (.cons (.int .i64) (.cons .sl .nil)) (⟨b0, 0, none⟩ : Addr) fun x1 =>
 callT Tryz.prog fn_salvorlaw05_few #[(.agg #[(.int .i64 x1.1), (.slice x1.2.1.a x1.2.1.len x1.2.1.cap)])] .bool fun r2 =>
 jn (σ := Bool) (fun t4 =>
 jn (σ := Bool) (fun t6 =>
 jn (σ := Bool) (fun t8 =>
 K t8)
 (fun J7 =>
 brB t6
 (callT Tryz.prog fn_salvorlaw05_awake #[] .bool fun r9 =>
 J7 (r9))
 (J7 false)))
 (fun J5 =>
 brB t4
 (J5 true)
 (ldA (.cons (.int .i64) (.cons .sl .nil)) (⟨b0, 0, none⟩ : Addr) fun x10 =>
 callT Tryz.prog fn_salvorlaw05_tells #[(.agg #[(.int .i64 x10.1), (.slice x10.2.1.a x10.2.1.len x10.2.1.cap)]), (.slice a1.a a1.len a1.cap), (.int .i64 a2)] .bool fun r11 =>
 J5 (r11))))
 (fun J3 =>
 brB (!r2)
 (J3 true)
 (J3 ((decide ((a1.len : Int) > (300 : Int))))))
set_option maxRecDepth 100000 in
theorem E_salvorlaw05_FormulaTells (a0 : (Int × (Sl × Unit))) (a1 : Sl) (a2 : Int) (K : Bool → HP) (h : Heap) : fnVC Tryz.prog [(1000000, .bool)] 24 Tryz.f3 [(.agg #[(.int .i64 a0.1), (.slice a0.2.1.a a0.2.1.len a0.2.1.cap)]), (.slice a1.a a1.len a1.cap), (.int .i64 a2)] .bool K h = F_salvorlaw05_FormulaTells a0 a1 a2 K h := by kernel_rfl
set_option maxRecDepth 100000 in
theorem S_salvorlaw05_FormulaTells{h : Heap} {a0 : (Int × (Sl × Unit))} {a1 : Sl} {a2 : Int} (K : Bool → HP) (hF : F_salvorlaw05_FormulaTells a0 a1 a2 K h) : CallsH Tryz.prog fn_salvorlaw05_FormulaTells #[(.agg #[(.int .i64 a0.1), (.slice a0.2.1.a a0.2.1.len a0.2.1.cap)]), (.slice a1.a a1.len a1.cap), (.int .i64 a2)] h fun v h' => ∃ x : Bool, v = Ty.enc .bool x ∧ K x h' :=
  callsH_of_fn (P := Tryz.prog) (fn := Tryz.f3) (τ := .bool) follows Tryz.func3 (by kernel_rfl) (by kernel_rfl) Tryz.call3 (Eq.mpr (E_salvorlaw05_FormulaTells a0 a1 a2 K h) hF)

def F_salvorlaw05_FormulaSmall (K : Bool → HP) : HP :=
 nw #[(.int .i64 (1 : Int))] ty_int fun b0 =>
 nw #[(.int .i64 (-1 : Int))] ty_int fun b1 =>
 nw #[(.int .i64 (2 : Int))] ty_int fun b2 =>
 nw #[(.int .i64 (-2 : Int))] ty_int fun b3 =>
 nw #[(.int .i64 (1 : Int)), (.int .i64 (2 : Int))] ty_int fun b4 =>
 nw #[(.int .i64 (1 : Int)), (.int .i64 (-2 : Int))] ty_int fun b5 =>
 nw #[(.int .i64 (-1 : Int)), (.int .i64 (2 : Int))] ty_int fun b6 =>
 nw #[(.int .i64 (-1 : Int)), (.int .i64 (-2 : Int))] ty_int fun b7 =>
 nw #[(.int .i64 (1 : Int)), (.int .i64 (-1 : Int))] ty_int fun b8 =>
 nw #[(.int .i64 (2 : Int)), (.int .i64 (1 : Int)), (.int .i64 (2 : Int))] ty_int fun b9 =>
 nw #[(.int .i64 (2 : Int)), (.int .i64 (-2 : Int)), (.int .i64 (1 : Int))] ty_int fun b10 =>
 nw #[(.int .i64 (0 : Int))] ty_int fun b11 =>
 nw #[(.int .i64 (3 : Int))] ty_int fun b12 =>
 nw #[(.int .i64 (1 : Int)), (.int .i64 (0 : Int))] ty_int fun b13 =>
 nw #[(.int .i64 (-1 : Int)), (.int .i64 (-1 : Int))] ty_int fun b14 =>
 nw #[(.slice none 0 0), (.slice (some (⟨b0, 0, none⟩ : Addr)) 1 1), (.slice (some (⟨b1, 0, none⟩ : Addr)) 1 1), (.slice (some (⟨b2, 0, none⟩ : Addr)) 1 1), (.slice (some (⟨b3, 0, none⟩ : Addr)) 1 1), (.slice (some (⟨b4, 0, none⟩ : Addr)) 2 2), (.slice (some (⟨b5, 0, none⟩ : Addr)) 2 2), (.slice (some (⟨b6, 0, none⟩ : Addr)) 2 2), (.slice (some (⟨b7, 0, none⟩ : Addr)) 2 2), (.slice (some (⟨b8, 0, none⟩ : Addr)) 2 2), (.slice (some (⟨b9, 0, none⟩ : Addr)) 3 3), (.slice (some (⟨b10, 0, none⟩ : Addr)) 3 3), (.slice (some (⟨b11, 0, none⟩ : Addr)) 1 1), (.slice (some (⟨b12, 0, none⟩ : Addr)) 1 1), (.slice (some (⟨b13, 0, none⟩ : Addr)) 2 2), (.slice (some (⟨b14, 0, none⟩ : Addr)) 2 2)] ty_sl_int fun b15 =>
 lfp (σ := (Int × (Bool × Unit))) (fun X16 s17 => /-   -/
 brB (decide (s17.1 < (16 : Int)))
 (sx (some (⟨b15, 0, none⟩ : Addr)) 16 s17.1 1 fun p18 =>
 ldT .sl p18 fun x19 =>
 lfp (σ := (Int × (Bool × Unit))) (fun X20 s21 => /-   -/
 brB (decide (s21.1 < (16 : Int)))
 (sx (some (⟨b15, 0, none⟩ : Addr)) 16 s21.1 1 fun p22 =>
 ldT .sl p22 fun x23 =>
 lfp (σ := (Int × (Bool × Unit))) (fun X24 s25 => /-   -/
 brB (decide (s25.1 < (4 : Int)))
 (nw #[(.slice x19.a x19.len x19.cap), (.slice x23.a x23.len x23.cap)] ty_sl_int fun b26 =>
 callT Tryz.prog fn_salvorlaw05_Of #[(.int .i64 (2 : Int)), (.slice (some (⟨b26, 0, none⟩ : Addr)) 2 2)] (.agg (.cons (.int .i64) (.cons .sl .nil))) fun r27 =>
 nz (2 : Int) <|
 nw #[(.bool ((Int.tmod s25.1 (2 : Int)) == (1 : Int))), (.bool (decide (s25.1 > (1 : Int))))] ty_bool fun b28 =>
 nz (7 : Int) <|
 callT Tryz.prog fn_salvorlaw05_tells #[(.agg #[(.int .i64 r27.1), (.slice r27.2.1.a r27.2.1.len r27.2.1.cap)]), (.slice (some (⟨b28, 0, none⟩ : Addr)) 2 2), (.int .i64 (IntKind.wrap .i64 ((Int.tmod (IntKind.wrap .i64 ((IntKind.wrap .i64 (s17.1 + s21.1)) + s25.1)) (7 : Int)) - (3 : Int))))] .bool fun r29 =>
 brB (!r29)
 (K false)
 (X24 ((IntKind.wrap .i64 (s25.1 + (1 : Int))), s25.2.1, ())))
 (nz (4 : Int) <|
 nz (4 : Int) <|
 nz (4 : Int) <|
 cj
 (nw #[(.slice x19.a x19.len x19.cap), (.slice x23.a x23.len x23.cap), (.slice x19.a x19.len x19.cap)] ty_sl_int fun b30 =>
 cj
 (callT Tryz.prog fn_salvorlaw05_Of #[(.int .i64 (IntKind.wrap .i64 ((Int.tmod (IntKind.wrap .i64 (s17.1 + s21.1)) (4 : Int)) - (1 : Int)))), (.slice (some (⟨b30, 0, none⟩ : Addr)) 3 3)] (.agg (.cons (.int .i64) (.cons .sl .nil))) fun r31 =>
 mks ty_bool 1 1 #[(.bool false)] (Int.tmod s21.1 (4 : Int)) (Int.tmod s21.1 (4 : Int)) fun s32 =>
 callT Tryz.prog fn_salvorlaw05_tells #[(.agg #[(.int .i64 r31.1), (.slice r31.2.1.a r31.2.1.len r31.2.1.cap)]), (.slice s32.a s32.len s32.cap), (.int .i64 (Int.tmod s17.1 (4 : Int)))] .bool fun r33 =>
 brB (!r33)
 (K false)
 (X20 ((IntKind.wrap .i64 (s21.1 + (1 : Int))), s25.2.1, ())))
 (mks ty_bool 1 1 #[(.bool false)] (Int.tmod s21.1 (4 : Int)) (Int.tmod s21.1 (4 : Int)) fun s34 =>
 callT Tryz.prog fn_salvorlaw05_Of #[(.int .i64 (IntKind.wrap .i64 ((Int.tmod (IntKind.wrap .i64 (s17.1 + s21.1)) (4 : Int)) - (1 : Int)))), (.slice (some (⟨b30, 0, none⟩ : Addr)) 3 3)] (.agg (.cons (.int .i64) (.cons .sl .nil))) fun r35 =>
 callT Tryz.prog fn_salvorlaw05_tells #[(.agg #[(.int .i64 r35.1), (.slice r35.2.1.a r35.2.1.len r35.2.1.cap)]), (.slice s34.a s34.len s34.cap), (.int .i64 (Int.tmod s17.1 (4 : Int)))] .bool fun r36 =>
 brB (!r36)
 (K false)
 (X20 ((IntKind.wrap .i64 (s21.1 + (1 : Int))), s25.2.1, ()))))
 (mks ty_bool 1 1 #[(.bool false)] (Int.tmod s21.1 (4 : Int)) (Int.tmod s21.1 (4 : Int)) fun s37 =>
 nw #[(.slice x19.a x19.len x19.cap), (.slice x23.a x23.len x23.cap), (.slice x19.a x19.len x19.cap)] ty_sl_int fun b38 =>
 callT Tryz.prog fn_salvorlaw05_Of #[(.int .i64 (IntKind.wrap .i64 ((Int.tmod (IntKind.wrap .i64 (s17.1 + s21.1)) (4 : Int)) - (1 : Int)))), (.slice (some (⟨b38, 0, none⟩ : Addr)) 3 3)] (.agg (.cons (.int .i64) (.cons .sl .nil))) fun r39 =>
 callT Tryz.prog fn_salvorlaw05_tells #[(.agg #[(.int .i64 r39.1), (.slice r39.2.1.a r39.2.1.len r39.2.1.cap)]), (.slice s37.a s37.len s37.cap), (.int .i64 (Int.tmod s17.1 (4 : Int)))] .bool fun r40 =>
 brB (!r40)
 (K false)
 (X20 ((IntKind.wrap .i64 (s21.1 + (1 : Int))), s25.2.1, ())))))
 ((0 : Int), s21.2.1, ()))
 (X16 ((IntKind.wrap .i64 (s17.1 + (1 : Int))), s21.2.1, ())))
 ((0 : Int), s17.2.1, ()))
 (nw #[(.int .i64 (-9223372036854775808 : Int)), (.int .i64 (-1 : Int)), (.int .i64 (0 : Int)), (.int .i64 (1 : Int)), (.int .i64 (17 : Int)), (.int .i64 (1048576 : Int)), (.int .i64 (1048577 : Int)), (.int .i64 (9223372036854775807 : Int))] ty_int fun b41 =>
 lfp (σ := (Int × (Bool × Unit))) (fun X42 s43 => /-   -/
 brB (decide (s43.1 < (8 : Int)))
 (sx (some (⟨b41, 0, none⟩ : Addr)) 8 s43.1 1 fun p44 =>
 ldT (.int .i64) p44 fun x45 =>
 nw #[(.int .i64 (1 : Int))] ty_int fun b46 =>
 nw #[(.slice (some (⟨b46, 0, none⟩ : Addr)) 1 1)] ty_sl_int fun b47 =>
 callT Tryz.prog fn_salvorlaw05_Of #[(.int .i64 x45), (.slice (some (⟨b47, 0, none⟩ : Addr)) 1 1)] (.agg (.cons (.int .i64) (.cons .sl .nil))) fun r48 =>
 callT Tryz.prog fn_salvorlaw05_tells #[(.agg #[(.int .i64 r48.1), (.slice r48.2.1.a r48.2.1.len r48.2.1.cap)]), (.slice none 0 0), (.int .i64 x45)] .bool fun r49 =>
 brB (!r49)
 (cj
 (cj
 (cj
 (cj
 (cj
 (K false)
 (K false))
 (cj
 (K false)
 (K false)))
 (cj
 (K false)
 (K false)))
 (cj
 (K false)
 (K false)))
 (cj
 (cj
 (cj
 (cj
 (cj
 (K false)
 (K false))
 (cj
 (K false)
 (K false)))
 (cj
 (K false)
 (K false)))
 (cj
 (K false)
 (K false)))
 (cj
 (cj
 (K false)
 (K false))
 (cj
 (K false)
 (K false)))))
 (cj
 (nw #[(.int .i64 (1 : Int))] ty_int fun b50 =>
 cj
 (nw #[(.int .i64 x45)] ty_int fun b51 =>
 cj
 (nw #[(.slice (some (⟨b50, 0, none⟩ : Addr)) 1 1), (.slice (some (⟨b51, 0, none⟩ : Addr)) 1 1)] ty_sl_int fun b52 =>
 cj
 (callT Tryz.prog fn_salvorlaw05_Of #[(.int .i64 (2 : Int)), (.slice (some (⟨b52, 0, none⟩ : Addr)) 2 2)] (.agg (.cons (.int .i64) (.cons .sl .nil))) fun r53 =>
 mks ty_bool 1 1 #[(.bool false)] (2 : Int) (2 : Int) fun s54 =>
 callT Tryz.prog fn_salvorlaw05_tells #[(.agg #[(.int .i64 r53.1), (.slice r53.2.1.a r53.2.1.len r53.2.1.cap)]), (.slice s54.a s54.len s54.cap), (.int .i64 x45)] .bool fun r55 =>
 brB (!r55)
 (cj
 (K false)
 (K false))
 (cj
 (callT Tryz.prog fn_salvorlaw05_Of #[(.int .i64 (2 : Int)), (.slice none 0 0)] (.agg (.cons (.int .i64) (.cons .sl .nil))) fun r56 =>
 mks ty_bool 1 1 #[(.bool false)] (3 : Int) (3 : Int) fun s57 =>
 callT Tryz.prog fn_salvorlaw05_tells #[(.agg #[(.int .i64 r56.1), (.slice r56.2.1.a r56.2.1.len r56.2.1.cap)]), (.slice s57.a s57.len s57.cap), (.int .i64 (IntKind.wrap .i64 (0 - x45)))] .bool fun r58 =>
 brB (!r58)
 (K false)
 (X42 ((IntKind.wrap .i64 (s43.1 + (1 : Int))), s43.2.1, ())))
 (mks ty_bool 1 1 #[(.bool false)] (3 : Int) (3 : Int) fun s59 =>
 callT Tryz.prog fn_salvorlaw05_Of #[(.int .i64 (2 : Int)), (.slice none 0 0)] (.agg (.cons (.int .i64) (.cons .sl .nil))) fun r60 =>
 callT Tryz.prog fn_salvorlaw05_tells #[(.agg #[(.int .i64 r60.1), (.slice r60.2.1.a r60.2.1.len r60.2.1.cap)]), (.slice s59.a s59.len s59.cap), (.int .i64 (IntKind.wrap .i64 (0 - x45)))] .bool fun r61 =>
 brB (!r61)
 (K false)
 (X42 ((IntKind.wrap .i64 (s43.1 + (1 : Int))), s43.2.1, ())))))
 (mks ty_bool 1 1 #[(.bool false)] (2 : Int) (2 : Int) fun s62 =>
 callT Tryz.prog fn_salvorlaw05_Of #[(.int .i64 (2 : Int)), (.slice (some (⟨b52, 0, none⟩ : Addr)) 2 2)] (.agg (.cons (.int .i64) (.cons .sl .nil))) fun r63 =>
 callT Tryz.prog fn_salvorlaw05_tells #[(.agg #[(.int .i64 r63.1), (.slice r63.2.1.a r63.2.1.len r63.2.1.cap)]), (.slice s62.a s62.len s62.cap), (.int .i64 x45)] .bool fun r64 =>
 brB (!r64)
 (cj
 (K false)
 (K false))
 (cj
 (callT Tryz.prog fn_salvorlaw05_Of #[(.int .i64 (2 : Int)), (.slice none 0 0)] (.agg (.cons (.int .i64) (.cons .sl .nil))) fun r65 =>
 mks ty_bool 1 1 #[(.bool false)] (3 : Int) (3 : Int) fun s66 =>
 callT Tryz.prog fn_salvorlaw05_tells #[(.agg #[(.int .i64 r65.1), (.slice r65.2.1.a r65.2.1.len r65.2.1.cap)]), (.slice s66.a s66.len s66.cap), (.int .i64 (IntKind.wrap .i64 (0 - x45)))] .bool fun r67 =>
 brB (!r67)
 (K false)
 (X42 ((IntKind.wrap .i64 (s43.1 + (1 : Int))), s43.2.1, ())))
 (mks ty_bool 1 1 #[(.bool false)] (3 : Int) (3 : Int) fun s68 =>
 callT Tryz.prog fn_salvorlaw05_Of #[(.int .i64 (2 : Int)), (.slice none 0 0)] (.agg (.cons (.int .i64) (.cons .sl .nil))) fun r69 =>
 callT Tryz.prog fn_salvorlaw05_tells #[(.agg #[(.int .i64 r69.1), (.slice r69.2.1.a r69.2.1.len r69.2.1.cap)]), (.slice s68.a s68.len s68.cap), (.int .i64 (IntKind.wrap .i64 (0 - x45)))] .bool fun r70 =>
 brB (!r70)
 (K false)
 (X42 ((IntKind.wrap .i64 (s43.1 + (1 : Int))), s43.2.1, ()))))))
 (mks ty_bool 1 1 #[(.bool false)] (2 : Int) (2 : Int) fun s71 =>
 nw #[(.slice (some (⟨b50, 0, none⟩ : Addr)) 1 1), (.slice (some (⟨b51, 0, none⟩ : Addr)) 1 1)] ty_sl_int fun b72 =>
 callT Tryz.prog fn_salvorlaw05_Of #[(.int .i64 (2 : Int)), (.slice (some (⟨b72, 0, none⟩ : Addr)) 2 2)] (.agg (.cons (.int .i64) (.cons .sl .nil))) fun r73 =>
 callT Tryz.prog fn_salvorlaw05_tells #[(.agg #[(.int .i64 r73.1), (.slice r73.2.1.a r73.2.1.len r73.2.1.cap)]), (.slice s71.a s71.len s71.cap), (.int .i64 x45)] .bool fun r74 =>
 brB (!r74)
 (cj
 (K false)
 (K false))
 (cj
 (callT Tryz.prog fn_salvorlaw05_Of #[(.int .i64 (2 : Int)), (.slice none 0 0)] (.agg (.cons (.int .i64) (.cons .sl .nil))) fun r75 =>
 mks ty_bool 1 1 #[(.bool false)] (3 : Int) (3 : Int) fun s76 =>
 callT Tryz.prog fn_salvorlaw05_tells #[(.agg #[(.int .i64 r75.1), (.slice r75.2.1.a r75.2.1.len r75.2.1.cap)]), (.slice s76.a s76.len s76.cap), (.int .i64 (IntKind.wrap .i64 (0 - x45)))] .bool fun r77 =>
 brB (!r77)
 (K false)
 (X42 ((IntKind.wrap .i64 (s43.1 + (1 : Int))), s43.2.1, ())))
 (mks ty_bool 1 1 #[(.bool false)] (3 : Int) (3 : Int) fun s78 =>
 callT Tryz.prog fn_salvorlaw05_Of #[(.int .i64 (2 : Int)), (.slice none 0 0)] (.agg (.cons (.int .i64) (.cons .sl .nil))) fun r79 =>
 callT Tryz.prog fn_salvorlaw05_tells #[(.agg #[(.int .i64 r79.1), (.slice r79.2.1.a r79.2.1.len r79.2.1.cap)]), (.slice s78.a s78.len s78.cap), (.int .i64 (IntKind.wrap .i64 (0 - x45)))] .bool fun r80 =>
 brB (!r80)
 (K false)
 (X42 ((IntKind.wrap .i64 (s43.1 + (1 : Int))), s43.2.1, ()))))))
 (mks ty_bool 1 1 #[(.bool false)] (2 : Int) (2 : Int) fun s81 =>
 nw #[(.int .i64 x45)] ty_int fun b82 =>
 nw #[(.slice (some (⟨b50, 0, none⟩ : Addr)) 1 1), (.slice (some (⟨b82, 0, none⟩ : Addr)) 1 1)] ty_sl_int fun b83 =>
 callT Tryz.prog fn_salvorlaw05_Of #[(.int .i64 (2 : Int)), (.slice (some (⟨b83, 0, none⟩ : Addr)) 2 2)] (.agg (.cons (.int .i64) (.cons .sl .nil))) fun r84 =>
 callT Tryz.prog fn_salvorlaw05_tells #[(.agg #[(.int .i64 r84.1), (.slice r84.2.1.a r84.2.1.len r84.2.1.cap)]), (.slice s81.a s81.len s81.cap), (.int .i64 x45)] .bool fun r85 =>
 brB (!r85)
 (cj
 (K false)
 (K false))
 (cj
 (callT Tryz.prog fn_salvorlaw05_Of #[(.int .i64 (2 : Int)), (.slice none 0 0)] (.agg (.cons (.int .i64) (.cons .sl .nil))) fun r86 =>
 mks ty_bool 1 1 #[(.bool false)] (3 : Int) (3 : Int) fun s87 =>
 callT Tryz.prog fn_salvorlaw05_tells #[(.agg #[(.int .i64 r86.1), (.slice r86.2.1.a r86.2.1.len r86.2.1.cap)]), (.slice s87.a s87.len s87.cap), (.int .i64 (IntKind.wrap .i64 (0 - x45)))] .bool fun r88 =>
 brB (!r88)
 (K false)
 (X42 ((IntKind.wrap .i64 (s43.1 + (1 : Int))), s43.2.1, ())))
 (mks ty_bool 1 1 #[(.bool false)] (3 : Int) (3 : Int) fun s89 =>
 callT Tryz.prog fn_salvorlaw05_Of #[(.int .i64 (2 : Int)), (.slice none 0 0)] (.agg (.cons (.int .i64) (.cons .sl .nil))) fun r90 =>
 callT Tryz.prog fn_salvorlaw05_tells #[(.agg #[(.int .i64 r90.1), (.slice r90.2.1.a r90.2.1.len r90.2.1.cap)]), (.slice s89.a s89.len s89.cap), (.int .i64 (IntKind.wrap .i64 (0 - x45)))] .bool fun r91 =>
 brB (!r91)
 (K false)
 (X42 ((IntKind.wrap .i64 (s43.1 + (1 : Int))), s43.2.1, ()))))))
 (cj
 (nw #[(.int .i64 x45)] ty_int fun b92 =>
 cj
 (nw #[(.int .i64 (1 : Int))] ty_int fun b93 =>
 cj
 (nw #[(.slice (some (⟨b93, 0, none⟩ : Addr)) 1 1), (.slice (some (⟨b92, 0, none⟩ : Addr)) 1 1)] ty_sl_int fun b94 =>
 cj
 (callT Tryz.prog fn_salvorlaw05_Of #[(.int .i64 (2 : Int)), (.slice (some (⟨b94, 0, none⟩ : Addr)) 2 2)] (.agg (.cons (.int .i64) (.cons .sl .nil))) fun r95 =>
 mks ty_bool 1 1 #[(.bool false)] (2 : Int) (2 : Int) fun s96 =>
 callT Tryz.prog fn_salvorlaw05_tells #[(.agg #[(.int .i64 r95.1), (.slice r95.2.1.a r95.2.1.len r95.2.1.cap)]), (.slice s96.a s96.len s96.cap), (.int .i64 x45)] .bool fun r97 =>
 brB (!r97)
 (cj
 (K false)
 (K false))
 (cj
 (callT Tryz.prog fn_salvorlaw05_Of #[(.int .i64 (2 : Int)), (.slice none 0 0)] (.agg (.cons (.int .i64) (.cons .sl .nil))) fun r98 =>
 mks ty_bool 1 1 #[(.bool false)] (3 : Int) (3 : Int) fun s99 =>
 callT Tryz.prog fn_salvorlaw05_tells #[(.agg #[(.int .i64 r98.1), (.slice r98.2.1.a r98.2.1.len r98.2.1.cap)]), (.slice s99.a s99.len s99.cap), (.int .i64 (IntKind.wrap .i64 (0 - x45)))] .bool fun r100 =>
 brB (!r100)
 (K false)
 (X42 ((IntKind.wrap .i64 (s43.1 + (1 : Int))), s43.2.1, ())))
 (mks ty_bool 1 1 #[(.bool false)] (3 : Int) (3 : Int) fun s101 =>
 callT Tryz.prog fn_salvorlaw05_Of #[(.int .i64 (2 : Int)), (.slice none 0 0)] (.agg (.cons (.int .i64) (.cons .sl .nil))) fun r102 =>
 callT Tryz.prog fn_salvorlaw05_tells #[(.agg #[(.int .i64 r102.1), (.slice r102.2.1.a r102.2.1.len r102.2.1.cap)]), (.slice s101.a s101.len s101.cap), (.int .i64 (IntKind.wrap .i64 (0 - x45)))] .bool fun r103 =>
 brB (!r103)
 (K false)
 (X42 ((IntKind.wrap .i64 (s43.1 + (1 : Int))), s43.2.1, ())))))
 (mks ty_bool 1 1 #[(.bool false)] (2 : Int) (2 : Int) fun s104 =>
 callT Tryz.prog fn_salvorlaw05_Of #[(.int .i64 (2 : Int)), (.slice (some (⟨b94, 0, none⟩ : Addr)) 2 2)] (.agg (.cons (.int .i64) (.cons .sl .nil))) fun r105 =>
 callT Tryz.prog fn_salvorlaw05_tells #[(.agg #[(.int .i64 r105.1), (.slice r105.2.1.a r105.2.1.len r105.2.1.cap)]), (.slice s104.a s104.len s104.cap), (.int .i64 x45)] .bool fun r106 =>
 brB (!r106)
 (cj
 (K false)
 (K false))
 (cj
 (callT Tryz.prog fn_salvorlaw05_Of #[(.int .i64 (2 : Int)), (.slice none 0 0)] (.agg (.cons (.int .i64) (.cons .sl .nil))) fun r107 =>
 mks ty_bool 1 1 #[(.bool false)] (3 : Int) (3 : Int) fun s108 =>
 callT Tryz.prog fn_salvorlaw05_tells #[(.agg #[(.int .i64 r107.1), (.slice r107.2.1.a r107.2.1.len r107.2.1.cap)]), (.slice s108.a s108.len s108.cap), (.int .i64 (IntKind.wrap .i64 (0 - x45)))] .bool fun r109 =>
 brB (!r109)
 (K false)
 (X42 ((IntKind.wrap .i64 (s43.1 + (1 : Int))), s43.2.1, ())))
 (mks ty_bool 1 1 #[(.bool false)] (3 : Int) (3 : Int) fun s110 =>
 callT Tryz.prog fn_salvorlaw05_Of #[(.int .i64 (2 : Int)), (.slice none 0 0)] (.agg (.cons (.int .i64) (.cons .sl .nil))) fun r111 =>
 callT Tryz.prog fn_salvorlaw05_tells #[(.agg #[(.int .i64 r111.1), (.slice r111.2.1.a r111.2.1.len r111.2.1.cap)]), (.slice s110.a s110.len s110.cap), (.int .i64 (IntKind.wrap .i64 (0 - x45)))] .bool fun r112 =>
 brB (!r112)
 (K false)
 (X42 ((IntKind.wrap .i64 (s43.1 + (1 : Int))), s43.2.1, ()))))))
 (mks ty_bool 1 1 #[(.bool false)] (2 : Int) (2 : Int) fun s113 =>
 nw #[(.slice (some (⟨b93, 0, none⟩ : Addr)) 1 1), (.slice (some (⟨b92, 0, none⟩ : Addr)) 1 1)] ty_sl_int fun b114 =>
 callT Tryz.prog fn_salvorlaw05_Of #[(.int .i64 (2 : Int)), (.slice (some (⟨b114, 0, none⟩ : Addr)) 2 2)] (.agg (.cons (.int .i64) (.cons .sl .nil))) fun r115 =>
 callT Tryz.prog fn_salvorlaw05_tells #[(.agg #[(.int .i64 r115.1), (.slice r115.2.1.a r115.2.1.len r115.2.1.cap)]), (.slice s113.a s113.len s113.cap), (.int .i64 x45)] .bool fun r116 =>
 brB (!r116)
 (cj
 (K false)
 (K false))
 (cj
 (callT Tryz.prog fn_salvorlaw05_Of #[(.int .i64 (2 : Int)), (.slice none 0 0)] (.agg (.cons (.int .i64) (.cons .sl .nil))) fun r117 =>
 mks ty_bool 1 1 #[(.bool false)] (3 : Int) (3 : Int) fun s118 =>
 callT Tryz.prog fn_salvorlaw05_tells #[(.agg #[(.int .i64 r117.1), (.slice r117.2.1.a r117.2.1.len r117.2.1.cap)]), (.slice s118.a s118.len s118.cap), (.int .i64 (IntKind.wrap .i64 (0 - x45)))] .bool fun r119 =>
 brB (!r119)
 (K false)
 (X42 ((IntKind.wrap .i64 (s43.1 + (1 : Int))), s43.2.1, ())))
 (mks ty_bool 1 1 #[(.bool false)] (3 : Int) (3 : Int) fun s120 =>
 callT Tryz.prog fn_salvorlaw05_Of #[(.int .i64 (2 : Int)), (.slice none 0 0)] (.agg (.cons (.int .i64) (.cons .sl .nil))) fun r121 =>
 callT Tryz.prog fn_salvorlaw05_tells #[(.agg #[(.int .i64 r121.1), (.slice r121.2.1.a r121.2.1.len r121.2.1.cap)]), (.slice s120.a s120.len s120.cap), (.int .i64 (IntKind.wrap .i64 (0 - x45)))] .bool fun r122 =>
 brB (!r122)
 (K false)
 (X42 ((IntKind.wrap .i64 (s43.1 + (1 : Int))), s43.2.1, ()))))))
 (mks ty_bool 1 1 #[(.bool false)] (2 : Int) (2 : Int) fun s123 =>
 nw #[(.int .i64 (1 : Int))] ty_int fun b124 =>
 nw #[(.slice (some (⟨b124, 0, none⟩ : Addr)) 1 1), (.slice (some (⟨b92, 0, none⟩ : Addr)) 1 1)] ty_sl_int fun b125 =>
 callT Tryz.prog fn_salvorlaw05_Of #[(.int .i64 (2 : Int)), (.slice (some (⟨b125, 0, none⟩ : Addr)) 2 2)] (.agg (.cons (.int .i64) (.cons .sl .nil))) fun r126 =>
 callT Tryz.prog fn_salvorlaw05_tells #[(.agg #[(.int .i64 r126.1), (.slice r126.2.1.a r126.2.1.len r126.2.1.cap)]), (.slice s123.a s123.len s123.cap), (.int .i64 x45)] .bool fun r127 =>
 brB (!r127)
 (cj
 (K false)
 (K false))
 (cj
 (callT Tryz.prog fn_salvorlaw05_Of #[(.int .i64 (2 : Int)), (.slice none 0 0)] (.agg (.cons (.int .i64) (.cons .sl .nil))) fun r128 =>
 mks ty_bool 1 1 #[(.bool false)] (3 : Int) (3 : Int) fun s129 =>
 callT Tryz.prog fn_salvorlaw05_tells #[(.agg #[(.int .i64 r128.1), (.slice r128.2.1.a r128.2.1.len r128.2.1.cap)]), (.slice s129.a s129.len s129.cap), (.int .i64 (IntKind.wrap .i64 (0 - x45)))] .bool fun r130 =>
 brB (!r130)
 (K false)
 (X42 ((IntKind.wrap .i64 (s43.1 + (1 : Int))), s43.2.1, ())))
 (mks ty_bool 1 1 #[(.bool false)] (3 : Int) (3 : Int) fun s131 =>
 callT Tryz.prog fn_salvorlaw05_Of #[(.int .i64 (2 : Int)), (.slice none 0 0)] (.agg (.cons (.int .i64) (.cons .sl .nil))) fun r132 =>
 callT Tryz.prog fn_salvorlaw05_tells #[(.agg #[(.int .i64 r132.1), (.slice r132.2.1.a r132.2.1.len r132.2.1.cap)]), (.slice s131.a s131.len s131.cap), (.int .i64 (IntKind.wrap .i64 (0 - x45)))] .bool fun r133 =>
 brB (!r133)
 (K false)
 (X42 ((IntKind.wrap .i64 (s43.1 + (1 : Int))), s43.2.1, ()))))))
 (mks ty_bool 1 1 #[(.bool false)] (2 : Int) (2 : Int) fun s134 =>
 cj
 (nw #[(.int .i64 (1 : Int))] ty_int fun b135 =>
 nw #[(.int .i64 x45)] ty_int fun b136 =>
 nw #[(.slice (some (⟨b135, 0, none⟩ : Addr)) 1 1), (.slice (some (⟨b136, 0, none⟩ : Addr)) 1 1)] ty_sl_int fun b137 =>
 callT Tryz.prog fn_salvorlaw05_Of #[(.int .i64 (2 : Int)), (.slice (some (⟨b137, 0, none⟩ : Addr)) 2 2)] (.agg (.cons (.int .i64) (.cons .sl .nil))) fun r138 =>
 callT Tryz.prog fn_salvorlaw05_tells #[(.agg #[(.int .i64 r138.1), (.slice r138.2.1.a r138.2.1.len r138.2.1.cap)]), (.slice s134.a s134.len s134.cap), (.int .i64 x45)] .bool fun r139 =>
 brB (!r139)
 (cj
 (K false)
 (K false))
 (cj
 (callT Tryz.prog fn_salvorlaw05_Of #[(.int .i64 (2 : Int)), (.slice none 0 0)] (.agg (.cons (.int .i64) (.cons .sl .nil))) fun r140 =>
 mks ty_bool 1 1 #[(.bool false)] (3 : Int) (3 : Int) fun s141 =>
 callT Tryz.prog fn_salvorlaw05_tells #[(.agg #[(.int .i64 r140.1), (.slice r140.2.1.a r140.2.1.len r140.2.1.cap)]), (.slice s141.a s141.len s141.cap), (.int .i64 (IntKind.wrap .i64 (0 - x45)))] .bool fun r142 =>
 brB (!r142)
 (K false)
 (X42 ((IntKind.wrap .i64 (s43.1 + (1 : Int))), s43.2.1, ())))
 (mks ty_bool 1 1 #[(.bool false)] (3 : Int) (3 : Int) fun s143 =>
 callT Tryz.prog fn_salvorlaw05_Of #[(.int .i64 (2 : Int)), (.slice none 0 0)] (.agg (.cons (.int .i64) (.cons .sl .nil))) fun r144 =>
 callT Tryz.prog fn_salvorlaw05_tells #[(.agg #[(.int .i64 r144.1), (.slice r144.2.1.a r144.2.1.len r144.2.1.cap)]), (.slice s143.a s143.len s143.cap), (.int .i64 (IntKind.wrap .i64 (0 - x45)))] .bool fun r145 =>
 brB (!r145)
 (K false)
 (X42 ((IntKind.wrap .i64 (s43.1 + (1 : Int))), s43.2.1, ())))))
 (nw #[(.int .i64 x45)] ty_int fun b146 =>
 nw #[(.int .i64 (1 : Int))] ty_int fun b147 =>
 nw #[(.slice (some (⟨b147, 0, none⟩ : Addr)) 1 1), (.slice (some (⟨b146, 0, none⟩ : Addr)) 1 1)] ty_sl_int fun b148 =>
 callT Tryz.prog fn_salvorlaw05_Of #[(.int .i64 (2 : Int)), (.slice (some (⟨b148, 0, none⟩ : Addr)) 2 2)] (.agg (.cons (.int .i64) (.cons .sl .nil))) fun r149 =>
 callT Tryz.prog fn_salvorlaw05_tells #[(.agg #[(.int .i64 r149.1), (.slice r149.2.1.a r149.2.1.len r149.2.1.cap)]), (.slice s134.a s134.len s134.cap), (.int .i64 x45)] .bool fun r150 =>
 brB (!r150)
 (cj
 (K false)
 (K false))
 (cj
 (callT Tryz.prog fn_salvorlaw05_Of #[(.int .i64 (2 : Int)), (.slice none 0 0)] (.agg (.cons (.int .i64) (.cons .sl .nil))) fun r151 =>
 mks ty_bool 1 1 #[(.bool false)] (3 : Int) (3 : Int) fun s152 =>
 callT Tryz.prog fn_salvorlaw05_tells #[(.agg #[(.int .i64 r151.1), (.slice r151.2.1.a r151.2.1.len r151.2.1.cap)]), (.slice s152.a s152.len s152.cap), (.int .i64 (IntKind.wrap .i64 (0 - x45)))] .bool fun r153 =>
 brB (!r153)
 (K false)
 (X42 ((IntKind.wrap .i64 (s43.1 + (1 : Int))), s43.2.1, ())))
 (mks ty_bool 1 1 #[(.bool false)] (3 : Int) (3 : Int) fun s154 =>
 callT Tryz.prog fn_salvorlaw05_Of #[(.int .i64 (2 : Int)), (.slice none 0 0)] (.agg (.cons (.int .i64) (.cons .sl .nil))) fun r155 =>
 callT Tryz.prog fn_salvorlaw05_tells #[(.agg #[(.int .i64 r155.1), (.slice r155.2.1.a r155.2.1.len r155.2.1.cap)]), (.slice s154.a s154.len s154.cap), (.int .i64 (IntKind.wrap .i64 (0 - x45)))] .bool fun r156 =>
 brB (!r156)
 (K false)
 (X42 ((IntKind.wrap .i64 (s43.1 + (1 : Int))), s43.2.1, ())))))))))
 (mks ty_clauses_Clause 1 24 #[(.slice none 0 0)] (262145 : Int) (262145 : Int) fun s157 =>
 nw #[(.int .i64 (0 : Int)), (.slice none 0 0)] ty_formula_Formula fun b158 =>
 st1 (⟨b158, 0, none⟩ : Addr) (.int .i64 (1 : Int)) <|
 st1 ((⟨b158, 0, none⟩ : Addr).add 1) (.slice s157.a s157.len s157.cap) <|
 ldA (.cons (.int .i64) (.cons .sl .nil)) (⟨b158, 0, none⟩ : Addr) fun x159 =>
 callT Tryz.prog fn_formula_Check #[(.agg #[(.int .i64 x159.1), (.slice x159.2.1.a x159.2.1.len x159.2.1.cap)])] (.tup (.cons (.int .i64) (.cons (.int .i64) .nil))) fun r160 =>
 ldT .sl ((⟨b158, 0, none⟩ : Addr).add 1) fun x161 =>
 slL ⟨x161.a, x161.len, x161.cap⟩ (1 : Int) 1 fun s162 =>
 st1 ((⟨b158, 0, none⟩ : Addr).add 1) (.slice s162.a s162.len s162.cap) <|
 ldA (.cons (.int .i64) (.cons .sl .nil)) (⟨b158, 0, none⟩ : Addr) fun x163 =>
 callT Tryz.prog fn_formula_Check #[(.agg #[(.int .i64 x163.1), (.slice x163.2.1.a x163.2.1.len x163.2.1.cap)])] (.tup (.cons (.int .i64) (.cons (.int .i64) .nil))) fun r164 =>
 callT Tryz.prog fn_salvorlaw05_Of #[(.int .i64 (17 : Int)), (.slice none 0 0)] (.agg (.cons (.int .i64) (.cons .sl .nil))) fun r165 =>
 callT Tryz.prog fn_formula_Count #[(.agg #[(.int .i64 r165.1), (.slice r165.2.1.a r165.2.1.len r165.2.1.cap)])] (.tup (.cons (.int .i64) (.cons (.int .i64) .nil))) fun r166 =>
 nw #[(.int .i64 (1 : Int))] ty_int fun b167 =>
 nw #[(.int .i64 (-2 : Int))] ty_int fun b168 =>
 nw #[(.int .i64 (3 : Int)), (.int .i64 (4 : Int))] ty_int fun b169 =>
 nw #[(.slice (some (⟨b167, 0, none⟩ : Addr)) 1 1), (.slice (some (⟨b168, 0, none⟩ : Addr)) 1 1), (.slice (some (⟨b169, 0, none⟩ : Addr)) 2 2)] ty_sl_int fun b170 =>
 callT Tryz.prog fn_salvorlaw05_Of #[(.int .i64 (16 : Int)), (.slice (some (⟨b170, 0, none⟩ : Addr)) 3 3)] (.agg (.cons (.int .i64) (.cons .sl .nil))) fun r171 =>
 callT Tryz.prog fn_formula_Count #[(.agg #[(.int .i64 r171.1), (.slice r171.2.1.a r171.2.1.len r171.2.1.cap)])] (.tup (.cons (.int .i64) (.cons (.int .i64) .nil))) fun r172 =>
 nw #[(.int .i64 (1048576 : Int))] ty_lits_Lit fun b173 =>
 callT Tryz.prog fn_formula_Model #[(.int .i64 (1048576 : Int)), (.slice (some (⟨b173, 0, none⟩ : Addr)) 1 1)] (.tup (.cons .sl (.cons (.int .i64) .nil))) fun r174 =>
 jn (σ := Bool) (fun t176 =>
 jn (σ := Bool) (fun t178 =>
 jn (σ := Bool) (fun t180 =>
 jn (σ := Bool) (fun t182 =>
 jn (σ := Bool) (fun t184 =>
 jn (σ := Bool) (fun t186 =>
 jn (σ := Bool) (fun t188 =>
 jn (σ := Bool) (fun t190 =>
 jn (σ := Bool) (fun t192 =>
 jn (σ := Bool) (fun t194 =>
 K t194)
 (fun J193 =>
 brB t192
 (callT Tryz.prog fn_salvorlaw05_awake #[] .bool fun r195 =>
 J193 (r195))
 (J193 false)))
 (fun J191 =>
 brB t190
 (sx r174.1.a r174.1.len (1048575 : Int) 1 fun p196 =>
 ldT .bool p196 fun x197 =>
 J191 (x197))
 (J191 false)))
 (fun J189 =>
 brB t188
 (J189 ((r174.2.1 == (0 : Int))))
 (J189 false)))
 (fun J187 =>
 brB t186
 (J187 (((r174.1.len : Int) == (1048576 : Int))))
 (J187 false)))
 (fun J185 =>
 brB t184
 (J185 ((r172.2.1 == (0 : Int))))
 (J185 false)))
 (fun J183 =>
 brB t182
 (J183 ((r172.1 == (12288 : Int))))
 (J183 false)))
 (fun J181 =>
 brB t180
 (J181 ((r166.2.1 == (5 : Int))))
 (J181 false)))
 (fun J179 =>
 brB t178
 (J179 ((r164.2.1 == (0 : Int))))
 (J179 false)))
 (fun J177 =>
 brB t176
 (J177 ((r164.1 == (-1 : Int))))
 (J177 false)))
 (fun J175 =>
 brB (r160.1 == (-1 : Int))
 (J175 ((r160.2.1 == (5 : Int))))
 (J175 false))))
 ((0 : Int), s17.2.1, ())))
 ((0 : Int), false, ())
set_option maxRecDepth 100000 in
theorem E_salvorlaw05_FormulaSmall (K : Bool → HP) (h : Heap) : fnVC Tryz.prog [(1000000, .bool)] 203 Tryz.f4 [] .bool K h = F_salvorlaw05_FormulaSmall K h := by kernel_rfl
set_option maxRecDepth 100000 in
theorem S_salvorlaw05_FormulaSmall{h : Heap} (K : Bool → HP) (hF : F_salvorlaw05_FormulaSmall K h) : CallsH Tryz.prog fn_salvorlaw05_FormulaSmall #[] h fun v h' => ∃ x : Bool, v = Ty.enc .bool x ∧ K x h' :=
  callsH_of_fn (P := Tryz.prog) (fn := Tryz.f4) (τ := .bool) follows Tryz.func4 (by kernel_rfl) (by kernel_rfl) Tryz.call4 (Eq.mpr (E_salvorlaw05_FormulaSmall K h) hF)

def F_salvorlaw05_FormulaNorm (a0 : Sl) (a1 : Int) (K : Bool → HP) : HP :=
 callT Tryz.prog fn_salvorlaw05_Made #[(.slice a0.a a0.len a0.cap)] (.agg (.cons (.int .i64) (.cons .sl .nil))) fun r0 =>
 nw #[(.int .i64 (0 : Int)), (.slice none 0 0)] ty_formula_Formula fun b1 =>
 st1 (⟨b1, 0, none⟩ : Addr) (.int .i64 r0.1) <|
 st1 ((⟨b1, 0, none⟩ : Addr).add 1) (.slice r0.2.1.a r0.2.1.len r0.2.1.cap) <|
 ldA (.cons (.int .i64) (.cons .sl .nil)) (⟨b1, 0, none⟩ : Addr) fun x2 =>
 callT Tryz.prog fn_formula_Norm #[(.agg #[(.int .i64 x2.1), (.slice x2.2.1.a x2.2.1.len x2.2.1.cap)])] (.tup (.cons (.agg (.cons (.int .i64) (.cons .sl .nil))) (.cons (.int .i64) .nil))) fun r3 =>
 nw #[(.int .i64 (0 : Int)), (.slice none 0 0)] ty_formula_Formula fun b4 =>
 st1 (⟨b4, 0, none⟩ : Addr) (.int .i64 r3.1.1) <|
 st1 ((⟨b4, 0, none⟩ : Addr).add 1) (.slice r3.1.2.1.a r3.1.2.1.len r3.1.2.1.cap) <|
 ldA (.cons (.int .i64) (.cons .sl .nil)) (⟨b4, 0, none⟩ : Addr) fun x5 =>
 callT Tryz.prog fn_formula_Norm #[(.agg #[(.int .i64 x5.1), (.slice x5.2.1.a x5.2.1.len x5.2.1.cap)])] (.tup (.cons (.agg (.cons (.int .i64) (.cons .sl .nil))) (.cons (.int .i64) .nil))) fun r6 =>
 nw #[(.int .i64 (0 : Int)), (.slice none 0 0)] ty_formula_Formula fun b7 =>
 st1 (⟨b7, 0, none⟩ : Addr) (.int .i64 r6.1.1) <|
 st1 ((⟨b7, 0, none⟩ : Addr).add 1) (.slice r6.1.2.1.a r6.1.2.1.len r6.1.2.1.cap) <|
 ldA (.cons (.int .i64) (.cons .sl .nil)) (⟨b1, 0, none⟩ : Addr) fun x8 =>
 callT Tryz.prog fn_salvorlaw05_collected #[(.agg #[(.int .i64 x8.1), (.slice x8.2.1.a x8.2.1.len x8.2.1.cap)])] (.tup (.cons .sl (.cons .bool .nil))) fun r9 =>
 ldA (.cons (.int .i64) (.cons .sl .nil)) (⟨b4, 0, none⟩ : Addr) fun x10 =>
 callT Tryz.prog fn_salvorlaw05_collected #[(.agg #[(.int .i64 x10.1), (.slice x10.2.1.a x10.2.1.len x10.2.1.cap)])] (.tup (.cons .sl (.cons .bool .nil))) fun r11 =>
 brB ((IntKind.wrap .i64 (r3.2.1 + r6.2.1)) != (0 : Int))
 (K false)
 (brB (!r9.2.1)
 (K false)
 (brB (!r11.2.1)
 (K false)
 (ldA (.cons (.int .i64) (.cons .sl .nil)) (⟨b4, 0, none⟩ : Addr) fun x12 =>
 ldA (.cons (.int .i64) (.cons .sl .nil)) (⟨b7, 0, none⟩ : Addr) fun x13 =>
 callT Tryz.prog fn_formula_Same #[(.agg #[(.int .i64 x12.1), (.slice x12.2.1.a x12.2.1.len x12.2.1.cap)]), (.agg #[(.int .i64 x13.1), (.slice x13.2.1.a x13.2.1.len x13.2.1.cap)])] .bool fun r14 =>
 brB (!r14)
 (K false)
 (callT Tryz.prog fn_slices_EqualFunc_bool_bool_bool_bool #[(.slice r9.1.a r9.1.len r9.1.cap), (.slice r11.1.a r11.1.len r11.1.cap), (.func (.func fn_salvorlaw05_FormulaNorm_1) #[] #[])] .bool fun r15 =>
 brB (!r15)
 (K false)
 (ldT .sl ((⟨b4, 0, none⟩ : Addr).add 1) fun x16 =>
 lfp (σ := (Int × (Bool × Unit))) (fun X17 s18 => /-   -/
 brB (decide (s18.1 < (x16.len : Int)))
 (sx x16.a x16.len s18.1 1 fun p19 =>
 ldT .sl p19 fun x20 =>
 nw #[(.slice none 0 0)] ty_clauses_Clause fun b21 =>
 st1 (⟨b21, 0, none⟩ : Addr) (.slice x20.a x20.len x20.cap) <|
 ldT .sl (⟨b21, 0, none⟩ : Addr) fun x22 =>
 callT Tryz.prog fn_clauses_Normal #[(.slice x22.a x22.len x22.cap)] .bool fun r23 =>
 brB (!r23)
 (K false)
 (ldT .sl (⟨b21, 0, none⟩ : Addr) fun x24 =>
 callT Tryz.prog fn_clauses_Always #[(.slice x24.a x24.len x24.cap)] .bool fun r25 =>
 brB r25
 (K false)
 (brB (decide (s18.1 > (0 : Int)))
 (ldT .sl ((⟨b4, 0, none⟩ : Addr).add 1) fun x26 =>
 sx x26.a x26.len (IntKind.wrap .i64 (s18.1 - (1 : Int))) 1 fun p27 =>
 ldT .sl p27 fun x28 =>
 ldT .sl (⟨b21, 0, none⟩ : Addr) fun x29 =>
 callT Tryz.prog fn_clauses_Compare #[(.slice x28.a x28.len x28.cap), (.slice x29.a x29.len x29.cap)] (.int .i64) fun r30 =>
 brB (decide (r30 ≥ (0 : Int)))
 (K false)
 (ldT .sl ((⟨b1, 0, none⟩ : Addr).add 1) fun x31 =>
 callT Tryz.prog fn_slices_ContainsFunc_clauses_Clause_clauses_Clause #[(.slice x31.a x31.len x31.cap), (.func (.func fn_salvorlaw05_FormulaNorm_2) #[] #[(.pointer (some (⟨b21, 0, none⟩ : Addr)))])] .bool fun r32 =>
 brB (!r32)
 (K false)
 (X17 ((IntKind.wrap .i64 (s18.1 + (1 : Int))), s18.2.1, ()))))
 (ldT .sl ((⟨b1, 0, none⟩ : Addr).add 1) fun x33 =>
 callT Tryz.prog fn_slices_ContainsFunc_clauses_Clause_clauses_Clause #[(.slice x33.a x33.len x33.cap), (.func (.func fn_salvorlaw05_FormulaNorm_2) #[] #[(.pointer (some (⟨b21, 0, none⟩ : Addr)))])] .bool fun r34 =>
 brB (!r34)
 (K false)
 (X17 ((IntKind.wrap .i64 (s18.1 + (1 : Int))), s18.2.1, ()))))))
 (ldT .sl ((⟨b1, 0, none⟩ : Addr).add 1) fun x35 =>
 jn (σ := (Int × Unit)) (fun s37 => /- at -/
 ldT .sl ((⟨b1, 0, none⟩ : Addr).add 1) fun x38 =>
 slL ⟨x38.a, x38.len, x38.cap⟩ s37.1 1 fun s39 =>
 ldT .sl ((⟨b1, 0, none⟩ : Addr).add 1) fun x40 =>
 slH ⟨x40.a, x40.len, x40.cap⟩ s37.1 1 fun s41 =>
 ldT .sl ((⟨b1, 0, none⟩ : Addr).add 1) fun x42 =>
 slH ⟨x42.a, x42.len, x42.cap⟩ s37.1 1 fun s43 =>
 nw #[(.slice s39.a s39.len s39.cap), (.slice s41.a s41.len s41.cap), (.slice s43.a s43.len s43.cap)] ty_sl_clauses_Clause fun b44 =>
 callT Tryz.prog fn_slices_Concat_clauses_Clause_clauses_Clause #[(.slice (some (⟨b44, 0, none⟩ : Addr)) 3 3)] .sl fun r45 =>
 st1 ((⟨b1, 0, none⟩ : Addr).add 1) (.slice r45.a r45.len r45.cap) <|
 ldA (.cons (.int .i64) (.cons .sl .nil)) (⟨b1, 0, none⟩ : Addr) fun x46 =>
 callT Tryz.prog fn_formula_Norm #[(.agg #[(.int .i64 x46.1), (.slice x46.2.1.a x46.2.1.len x46.2.1.cap)])] (.tup (.cons (.agg (.cons (.int .i64) (.cons .sl .nil))) (.cons (.int .i64) .nil))) fun r47 =>
 nw #[(.int .i64 (0 : Int)), (.slice none 0 0)] ty_formula_Formula fun b48 =>
 st1 (⟨b48, 0, none⟩ : Addr) (.int .i64 r47.1.1) <|
 st1 ((⟨b48, 0, none⟩ : Addr).add 1) (.slice r47.1.2.1.a r47.1.2.1.len r47.1.2.1.cap) <|
 brB (r47.2.1 == (0 : Int))
 (ldA (.cons (.int .i64) (.cons .sl .nil)) (⟨b48, 0, none⟩ : Addr) fun x49 =>
 ldA (.cons (.int .i64) (.cons .sl .nil)) (⟨b4, 0, none⟩ : Addr) fun x50 =>
 callT Tryz.prog fn_formula_Same #[(.agg #[(.int .i64 x49.1), (.slice x49.2.1.a x49.2.1.len x49.2.1.cap)]), (.agg #[(.int .i64 x50.1), (.slice x50.2.1.a x50.2.1.len x50.2.1.cap)])] .bool fun r51 =>
 brB r51
 (callT Tryz.prog fn_salvorlaw05_awake #[] .bool fun r52 =>
 K r52)
 (K false))
 (K false))
 (fun J36 =>
 brB (decide ((x35.len : Int) > (0 : Int)))
 (ldT .sl ((⟨b1, 0, none⟩ : Addr).add 1) fun x53 =>
 nz (x53.len : Int) <|
 J36 ((Int.tmod (IntKind.wrap .i64 a1) (x53.len : Int)), ()))
 (J36 ((0 : Int), ())))))
 ((0 : Int), false, ()))))))
set_option maxRecDepth 100000 in
theorem E_salvorlaw05_FormulaNorm (a0 : Sl) (a1 : Int) (K : Bool → HP) (h : Heap) : fnVC Tryz.prog [(1000000, .nil)] 143 Tryz.f5 [(.slice a0.a a0.len a0.cap), (.int .u8 a1)] .bool K h = F_salvorlaw05_FormulaNorm a0 a1 K h := by kernel_rfl
set_option maxRecDepth 100000 in
theorem S_salvorlaw05_FormulaNorm{h : Heap} {a0 : Sl} {a1 : Int} (K : Bool → HP) (hF : F_salvorlaw05_FormulaNorm a0 a1 K h) : CallsH Tryz.prog fn_salvorlaw05_FormulaNorm #[(.slice a0.a a0.len a0.cap), (.int .u8 a1)] h fun v h' => ∃ x : Bool, v = Ty.enc .bool x ∧ K x h' :=
  callsH_of_fn (P := Tryz.prog) (fn := Tryz.f5) (τ := .bool) follows Tryz.func5 (by kernel_rfl) (by kernel_rfl) Tryz.call5 (Eq.mpr (E_salvorlaw05_FormulaNorm a0 a1 K h) hF)

def F_salvorlaw05_FormulaMore (a0 : Sl) (a1 : Sl) (a2 : Int) (K : Bool → HP) : HP :=
 callT Tryz.prog fn_salvorlaw05_Made #[(.slice a0.a a0.len a0.cap)] (.agg (.cons (.int .i64) (.cons .sl .nil))) fun r0 =>
 callT Tryz.prog fn_salvorlaw02_Made #[(.slice a1.a a1.len a1.cap)] .sl fun r1 =>
 nw #[(.int .i64 (0 : Int)), (.slice none 0 0)] ty_formula_Formula fun b2 =>
 st1 (⟨b2, 0, none⟩ : Addr) (.int .i64 r0.1) <|
 st1 ((⟨b2, 0, none⟩ : Addr).add 1) (.slice r0.2.1.a r0.2.1.len r0.2.1.cap) <|
 ldA (.cons (.int .i64) (.cons .sl .nil)) (⟨b2, 0, none⟩ : Addr) fun x3 =>
 callT Tryz.prog fn_salvorlaw05_collected #[(.agg #[(.int .i64 x3.1), (.slice x3.2.1.a x3.2.1.len x3.2.1.cap)])] (.tup (.cons .sl (.cons .bool .nil))) fun r4 =>
 ldA (.cons (.int .i64) (.cons .sl .nil)) (⟨b2, 0, none⟩ : Addr) fun x5 =>
 callT Tryz.prog fn_formula_Copy #[(.agg #[(.int .i64 x5.1), (.slice x5.2.1.a x5.2.1.len x5.2.1.cap)])] (.agg (.cons (.int .i64) (.cons .sl .nil))) fun r6 =>
 nw #[(.int .i64 (0 : Int)), (.slice none 0 0)] ty_formula_Formula fun b7 =>
 st1 (⟨b7, 0, none⟩ : Addr) (.int .i64 r6.1) <|
 st1 ((⟨b7, 0, none⟩ : Addr).add 1) (.slice r6.2.1.a r6.2.1.len r6.2.1.cap) <|
 ldT .sl ((⟨b7, 0, none⟩ : Addr).add 1) fun x8 =>
 nw #[(.slice r1.a r1.len r1.cap)] ty_clauses_Clause fun b9 =>
 apd ty_clauses_Clause 1 24 #[(.slice none 0 0)] ⟨x8.a, x8.len, x8.cap⟩ ⟨(some (⟨b9, 0, none⟩ : Addr)), 1, 1⟩ fun s10 =>
 st1 ((⟨b7, 0, none⟩ : Addr).add 1) (.slice s10.a s10.len s10.cap) <|
 ldA (.cons (.int .i64) (.cons .sl .nil)) (⟨b7, 0, none⟩ : Addr) fun x11 =>
 callT Tryz.prog fn_salvorlaw05_collected #[(.agg #[(.int .i64 x11.1), (.slice x11.2.1.a x11.2.1.len x11.2.1.cap)])] (.tup (.cons .sl (.cons .bool .nil))) fun r12 =>
 brB (!r4.2.1)
 (K false)
 (brB (!r12.2.1)
 (K false)
 (lfp (σ := (Int × (Int × (Bool × Unit)))) (fun X13 s14 => /-  k  -/
 brB (decide (s14.1 < (r4.1.len : Int)))
 (sx r4.1.a r4.1.len s14.1 1 fun p15 =>
 ldT .sl p15 fun x16 =>
 callT Tryz.prog fn_formula_Holds #[(.slice r1.a r1.len r1.cap), (.slice x16.a x16.len x16.cap)] .bool fun r17 =>
 jn (σ := (Int × (Bool × Unit))) (fun s19 => /- k  -/
 X13 ((IntKind.wrap .i64 (s14.1 + (1 : Int))), s19.1, s19.2.1, ()))
 (fun J18 =>
 brB r17
 (brB (decide (s14.2.1 ≥ (r12.1.len : Int)))
 (K false)
 (sx r12.1.a r12.1.len s14.2.1 1 fun p20 =>
 ldT .sl p20 fun x21 =>
 callT Tryz.prog fn_slices_Equal_bool_bool #[(.slice x21.a x21.len x21.cap), (.slice x16.a x16.len x16.cap)] .bool fun r22 =>
 brB (!r22)
 (K false)
 (J18 ((IntKind.wrap .i64 (s14.2.1 + (1 : Int))), s14.2.2.1, ()))))
 (J18 (s14.2.1, s14.2.2.1, ()))))
 (brB (s14.2.1 != (r12.1.len : Int))
 (K false)
 (ldT .sl ((⟨b2, 0, none⟩ : Addr).add 1) fun x23 =>
 lfp (σ := (Int × (Bool × Unit))) (fun X24 s25 => /-   -/
 brB (decide (s25.1 < (x23.len : Int)))
 (sx x23.a x23.len s25.1 1 fun p26 =>
 ldT .sl p26 fun x27 =>
 ldT .sl ((⟨b2, 0, none⟩ : Addr).add 1) fun x28 =>
 slH ⟨x28.a, x28.len, x28.cap⟩ s25.1 1 fun s29 =>
 lfp (σ := (Int × (Bool × Unit))) (fun X30 s31 => /-   -/
 brB (decide (s31.1 < (s29.len : Int)))
 (jn (σ := (Bool × Unit)) (fun s33 => /-  -/
 X30 ((IntKind.wrap .i64 (s31.1 + (1 : Int))), s33.1, ()))
 (fun J32 =>
 sx s29.a s29.len s31.1 1 fun p34 =>
 ldT .sl p34 fun x35 =>
 callT Tryz.prog fn_clauses_Clashes #[(.slice x27.a x27.len x27.cap), (.slice x35.a x35.len x35.cap)] (.tup (.cons .sl (.cons (.int .i64) .nil))) fun r36 =>
 brB (r36.2.1 != (0 : Int))
 (K false)
 (brB ((r36.1.len : Int) == (0 : Int))
 (J32 (s31.2.1, ()))
 (nz (r36.1.len : Int) <|
 sx r36.1.a r36.1.len (Int.tmod (IntKind.wrap .i64 a2) (r36.1.len : Int)) 1 fun p37 =>
 ldT (.int .i64) p37 fun x38 =>
 callT Tryz.prog fn_clauses_Resolve #[(.slice x27.a x27.len x27.cap), (.slice x35.a x35.len x35.cap), (.int .i64 x38)] (.tup (.cons .sl (.cons (.int .i64) .nil))) fun r39 =>
 nw #[(.slice none 0 0)] ty_clauses_Clause fun b40 =>
 st1 (⟨b40, 0, none⟩ : Addr) (.slice r39.1.a r39.1.len r39.1.cap) <|
 brB (r39.2.1 != (0 : Int))
 (K false)
 (callT Tryz.prog fn_slices_ContainsFunc_bool_bool #[(.slice r4.1.a r4.1.len r4.1.cap), (.func (.func fn_salvorlaw05_FormulaMore_1) #[] #[(.pointer (some (⟨b40, 0, none⟩ : Addr)))])] .bool fun r41 =>
 brB r41
 (K false)
 (J32 (s31.2.1, ())))))))
 (X24 ((IntKind.wrap .i64 (s25.1 + (1 : Int))), s31.2.1, ())))
 ((0 : Int), s25.2.1, ()))
 (callT Tryz.prog fn_salvorlaw05_awake #[] .bool fun r42 =>
 K r42))
 ((0 : Int), s14.2.2.1, ()))))
 ((0 : Int), (0 : Int), false, ())))
set_option maxRecDepth 100000 in
theorem E_salvorlaw05_FormulaMore (a0 : Sl) (a1 : Sl) (a2 : Int) (K : Bool → HP) (h : Heap) : fnVC Tryz.prog [(1000000, .nil)] 135 Tryz.f8 [(.slice a0.a a0.len a0.cap), (.slice a1.a a1.len a1.cap), (.int .u8 a2)] .bool K h = F_salvorlaw05_FormulaMore a0 a1 a2 K h := by kernel_rfl
set_option maxRecDepth 100000 in
theorem S_salvorlaw05_FormulaMore{h : Heap} {a0 : Sl} {a1 : Sl} {a2 : Int} (K : Bool → HP) (hF : F_salvorlaw05_FormulaMore a0 a1 a2 K h) : CallsH Tryz.prog fn_salvorlaw05_FormulaMore #[(.slice a0.a a0.len a0.cap), (.slice a1.a a1.len a1.cap), (.int .u8 a2)] h fun v h' => ∃ x : Bool, v = Ty.enc .bool x ∧ K x h' :=
  callsH_of_fn (P := Tryz.prog) (fn := Tryz.f8) (τ := .bool) follows Tryz.func8 (by kernel_rfl) (by kernel_rfl) Tryz.call8 (Eq.mpr (E_salvorlaw05_FormulaMore a0 a1 a2 K h) hF)

end Go.Proofs.S
