/- The functions of the seat, each as a predicate over its values, printed by a program of ours, and that each is its text's. -/
import Derived.Test.YtkfdfbgceockpaaSx10
import Derived.KernelRfl
import Derived.Test.YtkfdfbgceockpaaProg
set_option linter.unusedVariables false
namespace Go.Proofs.Ord
open Go Go.Sx Go.Proofs
theorem follows : Try.prog.follows .mixedOrders = true := by kernel_rfl
abbrev fn_salvorlaw11_OrderDivides : Nat := 3
abbrev fn_salvorlaw11_OrderYields : Nat := 4
abbrev fn_salvorlaw11_OrderWrong : Nat := 5
abbrev fn_salvorlaw11_OrderPlays : Nat := 6
abbrev fn_salvorlaw11_OrderSmall : Nat := 7
abbrev fn_salvorlaw11_OrderPops : Nat := 8
abbrev fn_salvorlaw11_OrderBack : Nat := 9
abbrev fn_salvorlaw11_OrderBumps : Nat := 10
abbrev fn_salvorlaw11_put : Nat := 11
abbrev fn_order_Order_Step : Nat := 12
abbrev fn_order_Order_Activity : Nat := 13
abbrev fn_order_Order_Decay : Nat := 14
abbrev fn_order_Order_Bump : Nat := 15
abbrev fn_salvorlaw11_list : Nat := 16
abbrev fn_order_Order_Len : Nat := 17
abbrev fn_salvorlaw11_awake : Nat := 18
abbrev fn_order_Order_All : Nat := 19
abbrev fn_order_Order_Remove : Nat := 20
abbrev fn_order_Order_Push : Nat := 21
abbrev fn_order_Order_Has : Nat := 22
abbrev fn_order_New : Nat := 23
abbrev fn_slices_Equal_int_int : Nat := 24
abbrev fn_salvorlaw11_plays : Nat := 25
abbrev fn_order_Order_Pop : Nat := 26
abbrev fn_order_Order_Peek : Nat := 27
abbrev fn_order_Order_Vars : Nat := 28
abbrev fn_slices_Index_int_int : Nat := 29
abbrev fn_slices_Contains_int_int : Nat := 30
abbrev fn_salvorlaw11_OrderBumps_1 : Nat := 31
abbrev fn_slices_DeleteFunc_int_int : Nat := 32
abbrev fn_order_Order_is : Nat := 33
abbrev fn_order_Order_wrong : Nat := 34
abbrev fn_slices_SortFunc_int_int : Nat := 35
abbrev fn_order_Order_Bump_1 : Nat := 36
abbrev fn_order_Order_before : Nat := 37
abbrev fn_order_Order_up : Nat := 38
abbrev fn_order_Order_All_1 : Nat := 39
abbrev fn_slices_Clone_int_int : Nat := 40
abbrev fn_order_Order_put : Nat := 41
abbrev fn_order_Order_down : Nat := 42
abbrev fn_salvorref11_New : Nat := 43
abbrev fn_salvorlaw11_does : Nat := 44
abbrev fn_salvorlaw11_same : Nat := 45
abbrev fn_slices_IndexFunc_int_int : Nat := 46
abbrev fn_slices_pdqsortCmpFunc_int : Nat := 47
abbrev fn_math_bits_Len : Nat := 48
abbrev fn_order_above : Nat := 49
abbrev fn_order_Order_down_1 : Nat := 50
abbrev fn_salvorref11_Bump : Nat := 51
abbrev fn_salvorref11_First : Nat := 52
abbrev fn_salvorref11_Set : Nat := 53
abbrev fn_salvorref11_Decay : Nat := 54
abbrev fn_salvorref11_All : Nat := 55
abbrev fn_slices_insertionSortCmpFunc_int : Nat := 56
abbrev fn_slices_heapSortCmpFunc_int : Nat := 57
abbrev fn_slices_breakPatternsCmpFunc_int : Nat := 58
abbrev fn_slices_choosePivotCmpFunc_int : Nat := 59
abbrev fn_slices_reverseRangeCmpFunc_int : Nat := 60
abbrev fn_slices_partialInsertionSortCmpFunc_int : Nat := 61
abbrev fn_slices_partitionEqualCmpFunc_int : Nat := 62
abbrev fn_slices_partitionCmpFunc_int : Nat := 63
abbrev fn_math_bits_Len32 : Nat := 64
abbrev fn_math_bits_Len64 : Nat := 65
abbrev fn_order_above_1 : Nat := 66
abbrev fn_salvorref11_with : Nat := 67
abbrev fn_slices_siftDownCmpFunc_int : Nat := 68
abbrev fn_slices_nextPowerOfTwo : Nat := 69
abbrev fn_slices_xorshift_Next : Nat := 70
abbrev fn_slices_medianAdjacentCmpFunc_int : Nat := 71
abbrev fn_slices_medianCmpFunc_int : Nat := 72
abbrev fn_slices_order2CmpFunc_int : Nat := 73
/-- salvor/salvorlaw11.OrderDivides -/
def F_salvorlaw11_OrderDivides (a0 : Sl) (a1 : Int) (a2 : Int) (K : Bool → HP) : HP :=
 callT Try.prog fn_salvorlaw11_put #[(.slice a0.a a0.len a0.cap)] (.tup (.cons .ptr (.cons .bool .nil))) fun r0 =>
 brB (!r0.2.1)
 (K false)
 (nz (901 : Int) <|
 lfp (σ := (Int × (Bool × Unit))) (fun X1 s2 => /-   -/
 brB (decide (s2.1 < (IntKind.wrap .i64 (Int.tmod a1 (901 : Int)))))
 (callT Try.prog fn_order_Order_Step #[(.pointer r0.1)] (.int .i64) fun r3 =>
 nw #[(.int .i64 (0 : Int)), (.int .i64 (0 : Int)), (.int .i64 (0 : Int)), (.int .i64 (0 : Int)), (.int .i64 (0 : Int)), (.int .i64 (0 : Int)), (.int .i64 (0 : Int)), (.int .i64 (0 : Int)), (.int .i64 (0 : Int)), (.int .i64 (0 : Int)), (.int .i64 (0 : Int)), (.int .i64 (0 : Int)), (.int .i64 (0 : Int))] 28 fun b4 =>
 lfp (σ := (Int × Unit)) (fun X5 s6 => /- v -/
 brB (decide (s6.1 ≤ (12 : Int)))
 (callT Try.prog fn_order_Order_Activity #[(.pointer r0.1), (.int .i64 s6.1)] (.tup (.cons (.int .i64) (.cons (.int .i64) .nil))) fun r7 =>
 ax (⟨b4, 0, none⟩ : Addr) 13 s6.1 1 fun p8 =>
 st1 p8 (.int .i64 r7.1) <|
 X5 ((IntKind.wrap .i64 (s6.1 + (1 : Int))), ()))
 (callT Try.prog fn_order_Order_Decay #[(.pointer r0.1)] (.int .i64) fun r9 =>
 brB (r9 != (0 : Int))
 (K false)
 (callT Try.prog fn_order_Order_Step #[(.pointer r0.1)] (.int .i64) fun r10 =>
 nz (16 : Int) <|
 brB (r10 != (IntKind.wrap .i64 ((IntKind.wrap .i64 (r3 + (IntKind.wrap .i64 (Int.tdiv r3 (16 : Int))))) + (1 : Int))))
 (K false)
 (callT Try.prog fn_order_Order_Step #[(.pointer r0.1)] (.int .i64) fun r11 =>
 nz (12 : Int) <|
 callT Try.prog fn_order_Order_Bump #[(.pointer r0.1), (.int .i64 (IntKind.wrap .i64 ((1 : Int) + (Int.tmod (IntKind.wrap .i64 ((IntKind.wrap .i64 a2) + s2.1)) (12 : Int)))))] (.int .i64) fun r12 =>
 brB (r12 != (0 : Int))
 (K false)
 (callT Try.prog fn_order_Order_Step #[(.pointer r0.1)] (.int .i64) fun r13 =>
 brB (decide (r13 < (1 : Int)))
 (K false)
 (callT Try.prog fn_order_Order_Step #[(.pointer r0.1)] (.int .i64) fun r14 =>
 brB (decide (r14 > (1125899906842624 : Int)))
 (K false)
 (ax (⟨b4, 0, none⟩ : Addr) 13 (IntKind.wrap .i64 ((1 : Int) + (Int.tmod (IntKind.wrap .i64 ((IntKind.wrap .i64 a2) + s2.1)) (12 : Int)))) 1 fun p15 =>
 ldT (.int .i64) p15 fun x16 =>
 ax (⟨b4, 0, none⟩ : Addr) 13 (IntKind.wrap .i64 ((1 : Int) + (Int.tmod (IntKind.wrap .i64 ((IntKind.wrap .i64 a2) + s2.1)) (12 : Int)))) 1 fun p17 =>
 st1 p17 (.int .i64 (IntKind.wrap .i64 (x16 + r11))) <|
 ax (⟨b4, 0, none⟩ : Addr) 13 (IntKind.wrap .i64 ((1 : Int) + (Int.tmod (IntKind.wrap .i64 ((IntKind.wrap .i64 a2) + s2.1)) (12 : Int)))) 1 fun p18 =>
 ldT (.int .i64) p18 fun x19 =>
 callT Try.prog fn_order_Order_Step #[(.pointer r0.1)] (.int .i64) fun r20 =>
 brB (!((decide (x19 > (1125899906842624 : Int))) == (decide (r20 < r11))))
 (K false)
 (lfp (σ := (Int × (Bool × Unit))) (fun X21 s22 => /- x  -/
 brB (decide (s22.1 ≤ (12 : Int)))
 (callT Try.prog fn_order_Order_Activity #[(.pointer r0.1), (.int .i64 s22.1)] (.tup (.cons (.int .i64) (.cons (.int .i64) .nil))) fun r23 =>
 ax (⟨b4, 0, none⟩ : Addr) 13 s22.1 1 fun p24 =>
 ldT (.int .i64) p24 fun x25 =>
 jn (σ := (Int × Unit)) (fun s27 => /- want -/
 brB (r23.2.1 != (0 : Int))
 (K false)
 (brB (r23.1 != s27.1)
 (K false)
 (brB (decide (r23.1 > (1125899906842624 : Int)))
 (K false)
 (X21 ((IntKind.wrap .i64 (s22.1 + (1 : Int))), s22.2.1, ())))))
 (fun J26 =>
 brB (decide (x19 > (1125899906842624 : Int)))
 (ge0 (30 : Int) <|
 J26 ((Int.fdiv x25 (2 ^ (min ((30 : Int)).toNat 64))), ()))
 (J26 (x25, ()))))
 (X1 ((IntKind.wrap .i64 (s2.1 + (1 : Int))), s22.2.1, ())))
 ((1 : Int), s2.2.1, ())))))))))
 ((1 : Int), ()))
 (callT Try.prog fn_salvorlaw11_list #[(.pointer r0.1)] (.tup (.cons .sl (.cons .bool .nil))) fun r28 =>
 lfp (σ := (Int × (Bool × Unit))) (fun X29 s30 => /-   -/
 brB (decide (s30.1 < (r28.1.len : Int)))
 (jn (σ := (Bool × Unit)) (fun s32 => /-  -/
 X29 ((IntKind.wrap .i64 (s30.1 + (1 : Int))), s32.1, ()))
 (fun J31 =>
 brB (decide (s30.1 > (0 : Int)))
 (sx r28.1.a r28.1.len (IntKind.wrap .i64 (s30.1 - (1 : Int))) 1 fun p33 =>
 ldT (.int .i64) p33 fun x34 =>
 callT Try.prog fn_order_Order_Activity #[(.pointer r0.1), (.int .i64 x34)] (.tup (.cons (.int .i64) (.cons (.int .i64) .nil))) fun r35 =>
 sx r28.1.a r28.1.len s30.1 1 fun p36 =>
 ldT (.int .i64) p36 fun x37 =>
 callT Try.prog fn_order_Order_Activity #[(.pointer r0.1), (.int .i64 x37)] (.tup (.cons (.int .i64) (.cons (.int .i64) .nil))) fun r38 =>
 brB (decide (r35.1 < r38.1))
 (K false)
 (brB (r35.1 == r38.1)
 (sx r28.1.a r28.1.len (IntKind.wrap .i64 (s30.1 - (1 : Int))) 1 fun p39 =>
 ldT (.int .i64) p39 fun x40 =>
 sx r28.1.a r28.1.len s30.1 1 fun p41 =>
 ldT (.int .i64) p41 fun x42 =>
 brB (decide (x40 > x42))
 (K false)
 (J31 (s30.2.1, ())))
 (J31 (s30.2.1, ()))))
 (J31 (s30.2.1, ()))))
 (brB r28.2.1
 (callT Try.prog fn_order_Order_Len #[(.pointer r0.1)] (.int .i64) fun r43 =>
 brB ((r28.1.len : Int) == r43)
 (callT Try.prog fn_salvorlaw11_awake #[] .bool fun r44 =>
 K r44)
 (K false))
 (K false)))
 ((0 : Int), s2.2.1, ())))
 ((0 : Int), false, ()))
set_option maxRecDepth 100000 in
theorem E_salvorlaw11_OrderDivides (a0 : Sl) (a1 : Int) (a2 : Int) (K : Bool → HP) (h : Heap) : fnVC Try.prog [] 195 Try.f3 [(.slice a0.a a0.len a0.cap), (.int .u16 a1), (.int .u8 a2)] .bool K h = F_salvorlaw11_OrderDivides a0 a1 a2 K h := by kernel_rfl
set_option maxRecDepth 100000 in
theorem S_salvorlaw11_OrderDivides{h : Heap} {a0 : Sl} {a1 : Int} {a2 : Int} (K : Bool → HP) (hF : F_salvorlaw11_OrderDivides a0 a1 a2 K h) : CallsH Try.prog fn_salvorlaw11_OrderDivides #[(.slice a0.a a0.len a0.cap), (.int .u16 a1), (.int .u8 a2)] h fun v h' => ∃ x : Bool, v = Ty.enc .bool x ∧ K x h' :=
  callsH_of_fn (P := Try.prog) (fn := Try.f3) (τ := .bool) follows Try.func3 (by kernel_rfl) (by kernel_rfl) Try.call3 (Eq.mpr (E_salvorlaw11_OrderDivides a0 a1 a2 K h) hF)

/-- salvor/salvorlaw11.OrderYields -/
def F_salvorlaw11_OrderYields (a0 : Sl) (a1 : Int) (K : Bool → HP) : HP := fun h0 => (
 nw #[(.int .u8 a1)] 5 fun b0 =>
 nw #[(.bool false)] 4 fun b1 =>
 callT Try.prog fn_salvorlaw11_put #[(.slice a0.a a0.len a0.cap)] (.tup (.cons .ptr (.cons .bool .nil))) fun r2 =>
 nw #[(.pointer none)] 24 fun b3 =>
 st1 (⟨b3, 0, none⟩ : Addr) (.pointer r2.1) <|
 brB (!r2.2.1)
 (st1 (⟨b1, 0, none⟩ : Addr) (.bool false) <|
 mkd h0.size <|
 ldT .bool (⟨b1, 0, none⟩ : Addr) fun x4 =>
 K x4)
 (ldT .ptr (⟨b3, 0, none⟩ : Addr) fun x5 =>
 callT Try.prog fn_salvorlaw11_list #[(.pointer x5)] (.tup (.cons .sl (.cons .bool .nil))) fun r6 =>
 nw #[(.slice none 0 0)] 35 fun b7 =>
 st1 (⟨b7, 0, none⟩ : Addr) (.slice r6.1.a r6.1.len r6.1.cap) <|
 brB (!r6.2.1)
 (st1 (⟨b1, 0, none⟩ : Addr) (.bool false) <|
 mkd h0.size <|
 ldT .bool (⟨b1, 0, none⟩ : Addr) fun x8 =>
 K x8)
 (nw #[(.int .i64 (0 : Int))] 3 fun b9 =>
 st1 (⟨b9, 0, none⟩ : Addr) (.int .i64 (0 : Int)) <|
 ldT .ptr (⟨b3, 0, none⟩ : Addr) fun x10 =>
 callT Try.prog fn_order_Order_All #[(.pointer x10)] .val fun r11 =>
 jn (σ := Unit) (fun s13 => /- -/
 ldT .sl (⟨b7, 0, none⟩ : Addr) fun x14 =>
 ldT (.int .u8) (⟨b0, 0, none⟩ : Addr) fun x15 =>
 nz (13 : Int) <|
 jn (σ := (Int × Unit)) (fun s17 => /- want -/
 ldT (.int .i64) (⟨b9, 0, none⟩ : Addr) fun x18 =>
 brB (x18 == s17.1)
 (ldT .ptr (⟨b3, 0, none⟩ : Addr) fun x19 =>
 ldT .sl (⟨b7, 0, none⟩ : Addr) fun x20 =>
 callT Try.prog fn_order_Order_Len #[(.pointer x19)] (.int .i64) fun r21 =>
 ck (⟨b7, 0, none⟩ : Addr) (.slice x20.a x20.len x20.cap) <|
 brB (r21 == (IntKind.wrap .i64 ((x20.len : Int) - s17.1)))
 (callT Try.prog fn_salvorlaw11_awake #[] .bool fun r22 =>
 st1 (⟨b1, 0, none⟩ : Addr) (.bool r22) <|
 mkd h0.size <|
 ldT .bool (⟨b1, 0, none⟩ : Addr) fun x23 =>
 K x23)
 (st1 (⟨b1, 0, none⟩ : Addr) (.bool false) <|
 mkd h0.size <|
 ldT .bool (⟨b1, 0, none⟩ : Addr) fun x24 =>
 K x24))
 (st1 (⟨b1, 0, none⟩ : Addr) (.bool false) <|
 mkd h0.size <|
 ldT .bool (⟨b1, 0, none⟩ : Addr) fun x25 =>
 K x25))
 (fun J16 =>
 brB (decide ((IntKind.wrap .i64 (Int.tmod x15 (13 : Int))) > (0 : Int)))
 (J16 ((if (x14.len : Int) < (IntKind.wrap .i64 (Int.tmod x15 (13 : Int))) then (x14.len : Int) else (IntKind.wrap .i64 (Int.tmod x15 (13 : Int)))), ()))
 (J16 ((x14.len : Int), ()))))
 (fun J12 =>
 RangeVC Try.prog (.cons (.int .i64) .nil) r11 (fun x26 wrap27 next28 jump29 =>
 wrap27 <|
 ldT (.int .i64) (⟨b9, 0, none⟩ : Addr) fun x30 =>
 ldT .sl (⟨b7, 0, none⟩ : Addr) fun x31 =>
 brB (decide (x30 ≥ (x31.len : Int)))
 (st1 (⟨b1, 0, none⟩ : Addr) (.bool false) <|
 jump29 .ret)
 (ldT .sl (⟨b7, 0, none⟩ : Addr) fun x32 =>
 ldT (.int .i64) (⟨b9, 0, none⟩ : Addr) fun x33 =>
 sx x32.a x32.len x33 1 fun p34 =>
 ldT (.int .i64) p34 fun x35 =>
 brB (x26.1 != x35)
 (st1 (⟨b1, 0, none⟩ : Addr) (.bool false) <|
 jump29 .ret)
 (ldT (.int .i64) (⟨b9, 0, none⟩ : Addr) fun x36 =>
 st1 (⟨b9, 0, none⟩ : Addr) (.int .i64 (IntKind.wrap .i64 (x36 + (1 : Int)))) <|
 ldT .ptr (⟨b3, 0, none⟩ : Addr) fun x37 =>
 callT Try.prog fn_order_Order_Bump #[(.pointer x37), (.int .i64 (IntKind.wrap .i64 ((13 : Int) - x26.1)))] (.int .i64) fun r38 =>
 brB (r38 != (0 : Int))
 (st1 (⟨b1, 0, none⟩ : Addr) (.bool false) <|
 jump29 .ret)
 (ldT .ptr (⟨b3, 0, none⟩ : Addr) fun x39 =>
 callT Try.prog fn_order_Order_Remove #[(.pointer x39), (.int .i64 x26.1)] (.int .i64) fun r40 =>
 brB (r40 != (0 : Int))
 (st1 (⟨b1, 0, none⟩ : Addr) (.bool false) <|
 jump29 .ret)
 (ldT (.int .i64) (⟨b9, 0, none⟩ : Addr) fun x41 =>
 ldT (.int .u8) (⟨b0, 0, none⟩ : Addr) fun x42 =>
 nz (13 : Int) <|
 brB (x41 == (IntKind.wrap .i64 (Int.tmod x42 (13 : Int))))
 (jump29 (.exit 0))
 (next28))))))
 (J12 (()))
 (mkd h0.size <|
 ldT .bool (⟨b1, 0, none⟩ : Addr) fun x43 =>
 K x43)
 [0]
 [(J12 (()))])))) h0
set_option maxRecDepth 100000 in
theorem E_salvorlaw11_OrderYields (a0 : Sl) (a1 : Int) (K : Bool → HP) (h : Heap) : fnVC Try.prog [(28, (.cons (.int .i64) .nil))] 84 Try.f4 [(.slice a0.a a0.len a0.cap), (.int .u8 a1)] .bool K h = F_salvorlaw11_OrderYields a0 a1 K h := by kernel_rfl
set_option maxRecDepth 100000 in
theorem S_salvorlaw11_OrderYields{h : Heap} {a0 : Sl} {a1 : Int} (K : Bool → HP) (hF : F_salvorlaw11_OrderYields a0 a1 K h) : CallsH Try.prog fn_salvorlaw11_OrderYields #[(.slice a0.a a0.len a0.cap), (.int .u8 a1)] h fun v h' => ∃ x : Bool, v = Ty.enc .bool x ∧ K x h' :=
  callsH_of_fn (P := Try.prog) (fn := Try.f4) (τ := .bool) follows Try.func4 (by kernel_rfl) (by kernel_rfl) Try.call4 (Eq.mpr (E_salvorlaw11_OrderYields a0 a1 K h) hF)

/-- salvor/salvorlaw11.OrderWrong -/
def F_salvorlaw11_OrderWrong (a0 : Sl) (a1 : Int) (K : Bool → HP) : HP :=
 callT Try.prog fn_salvorlaw11_put #[(.slice a0.a a0.len a0.cap)] (.tup (.cons .ptr (.cons .bool .nil))) fun r0 =>
 brB (!r0.2.1)
 (K false)
 (callT Try.prog fn_salvorlaw11_list #[(.pointer r0.1)] (.tup (.cons .sl (.cons .bool .nil))) fun r1 =>
 nw #[(.int .i64 (0 : Int)), (.int .i64 (if (-1 : Int) < a1 then (-1 : Int) else a1)), (.int .i64 (if (13 : Int) > a1 then (13 : Int) else a1))] 3 fun b2 =>
 lfp (σ := (Int × (Bool × Unit))) (fun X3 s4 => /-   -/
 brB (decide (s4.1 < (3 : Int)))
 (sx (some (⟨b2, 0, none⟩ : Addr)) 3 s4.1 1 fun p5 =>
 ldT (.int .i64) p5 fun x6 =>
 callT Try.prog fn_order_Order_Activity #[(.pointer r0.1), (.int .i64 x6)] (.tup (.cons (.int .i64) (.cons (.int .i64) .nil))) fun r7 =>
 callT Try.prog fn_order_Order_Bump #[(.pointer r0.1), (.int .i64 x6)] (.int .i64) fun r8 =>
 brB (r8 != (110 : Int))
 (K false)
 (callT Try.prog fn_order_Order_Push #[(.pointer r0.1), (.int .i64 x6)] (.int .i64) fun r9 =>
 brB (r9 != (110 : Int))
 (K false)
 (callT Try.prog fn_order_Order_Remove #[(.pointer r0.1), (.int .i64 x6)] (.int .i64) fun r10 =>
 brB (r10 != (110 : Int))
 (K false)
 (brB (r7.2.1 != (110 : Int))
 (K false)
 (callT Try.prog fn_order_Order_Has #[(.pointer r0.1), (.int .i64 x6)] .bool fun r11 =>
 brB r11
 (K false)
 (X3 ((IntKind.wrap .i64 (s4.1 + (1 : Int))), s4.2.1, ())))))))
 (callT Try.prog fn_order_New #[(.int .i64 (if (-1 : Int) < a1 then (-1 : Int) else a1))] (.tup (.cons .ptr (.cons (.int .i64) .nil))) fun r12 =>
 callT Try.prog fn_order_New #[(.int .i64 (if (1048577 : Int) > a1 then (1048577 : Int) else a1))] (.tup (.cons .ptr (.cons (.int .i64) .nil))) fun r13 =>
 callT Try.prog fn_salvorlaw11_list #[(.pointer r0.1)] (.tup (.cons .sl (.cons .bool .nil))) fun r14 =>
 brB r1.2.1
 (brB r14.2.1
 (callT Try.prog fn_slices_Equal_int_int #[(.slice r1.1.a r1.1.len r1.1.cap), (.slice r14.1.a r14.1.len r14.1.cap)] .bool fun r15 =>
 brB r15
 (brB (Option.isNone r12.1)
 (brB (Option.isNone r13.1)
 (brB (r12.2.1 == (2 : Int))
 (brB (r13.2.1 == r12.2.1)
 (callT Try.prog fn_salvorlaw11_awake #[] .bool fun r16 =>
 K r16)
 (K false))
 (K false))
 (K false))
 (K false))
 (K false))
 (K false))
 (K false)))
 ((0 : Int), false, ()))
set_option maxRecDepth 100000 in
theorem E_salvorlaw11_OrderWrong (a0 : Sl) (a1 : Int) (K : Bool → HP) (h : Heap) : fnVC Try.prog [] 118 Try.f5 [(.slice a0.a a0.len a0.cap), (.int .i64 a1)] .bool K h = F_salvorlaw11_OrderWrong a0 a1 K h := by kernel_rfl
set_option maxRecDepth 100000 in
theorem S_salvorlaw11_OrderWrong{h : Heap} {a0 : Sl} {a1 : Int} (K : Bool → HP) (hF : F_salvorlaw11_OrderWrong a0 a1 K h) : CallsH Try.prog fn_salvorlaw11_OrderWrong #[(.slice a0.a a0.len a0.cap), (.int .i64 a1)] h fun v h' => ∃ x : Bool, v = Ty.enc .bool x ∧ K x h' :=
  callsH_of_fn (P := Try.prog) (fn := Try.f5) (τ := .bool) follows Try.func5 (by kernel_rfl) (by kernel_rfl) Try.call5 (Eq.mpr (E_salvorlaw11_OrderWrong a0 a1 K h) hF)

/-- salvor/salvorlaw11.OrderPlays -/
def F_salvorlaw11_OrderPlays (a0 : Int) (a1 : Sl) (K : Bool → HP) : HP :=
 brB (decide (a0 > (40 : Int)))
 (brB (decide (a0 ≤ (1048576 : Int)))
 (callT Try.prog fn_salvorlaw11_awake #[] .bool fun r0 =>
 K r0)
 (brB (decide ((a1.len : Int) > (120 : Int)))
 (callT Try.prog fn_salvorlaw11_awake #[] .bool fun r1 =>
 K r1)
 (callT Try.prog fn_salvorlaw11_plays #[(.int .i64 a0), (.slice a1.a a1.len a1.cap)] .bool fun r2 =>
 brB r2
 (callT Try.prog fn_salvorlaw11_awake #[] .bool fun r3 =>
 K r3)
 (K false))))
 (brB (decide ((a1.len : Int) > (120 : Int)))
 (callT Try.prog fn_salvorlaw11_awake #[] .bool fun r4 =>
 K r4)
 (callT Try.prog fn_salvorlaw11_plays #[(.int .i64 a0), (.slice a1.a a1.len a1.cap)] .bool fun r5 =>
 brB r5
 (callT Try.prog fn_salvorlaw11_awake #[] .bool fun r6 =>
 K r6)
 (K false)))
set_option maxRecDepth 100000 in
theorem E_salvorlaw11_OrderPlays (a0 : Int) (a1 : Sl) (K : Bool → HP) (h : Heap) : fnVC Try.prog [] 24 Try.f6 [(.int .i64 a0), (.slice a1.a a1.len a1.cap)] .bool K h = F_salvorlaw11_OrderPlays a0 a1 K h := by kernel_rfl
set_option maxRecDepth 100000 in
theorem S_salvorlaw11_OrderPlays{h : Heap} {a0 : Int} {a1 : Sl} (K : Bool → HP) (hF : F_salvorlaw11_OrderPlays a0 a1 K h) : CallsH Try.prog fn_salvorlaw11_OrderPlays #[(.int .i64 a0), (.slice a1.a a1.len a1.cap)] h fun v h' => ∃ x : Bool, v = Ty.enc .bool x ∧ K x h' :=
  callsH_of_fn (P := Try.prog) (fn := Try.f6) (τ := .bool) follows Try.func6 (by kernel_rfl) (by kernel_rfl) Try.call6 (Eq.mpr (E_salvorlaw11_OrderPlays a0 a1 K h) hF)

/-- salvor/salvorlaw11.OrderSmall -/
def F_salvorlaw11_OrderSmall (K : Bool → HP) : HP := fun h0 => (
 nw #[(.bool false)] 4 fun b0 =>
 nw #[(.int .u8 (0 : Int)), (.int .i64 (1 : Int)), (.int .u16 (0 : Int)), (.int .u8 (0 : Int)), (.int .i64 (2 : Int)), (.int .u16 (0 : Int)), (.int .u8 (0 : Int)), (.int .i64 (3 : Int)), (.int .u16 (0 : Int)), (.int .u8 (3 : Int)), (.int .i64 (0 : Int)), (.int .u16 (20 : Int)), (.int .u8 (4 : Int)), (.int .i64 (0 : Int)), (.int .u16 (0 : Int)), (.int .u8 (5 : Int)), (.int .i64 (2 : Int)), (.int .u16 (0 : Int)), (.int .u8 (6 : Int)), (.int .i64 (2 : Int)), (.int .u16 (0 : Int)), (.int .u8 (5 : Int)), (.int .i64 (3 : Int)), (.int .u16 (0 : Int))] 52 fun b1 =>
 lfp (σ := (Int × Unit)) (fun X2 s3 => /-  -/
 brB (decide (s3.1 < (4096 : Int)))
 (nz (8 : Int) <|
 sx (some (⟨b1, 0, none⟩ : Addr)) 8 (Int.tmod s3.1 (8 : Int)) 3 fun p4 =>
 ldA (.cons (.int .u8) (.cons (.int .i64) (.cons (.int .u16) .nil))) p4 fun x5 =>
 nz (8 : Int) <|
 nz (8 : Int) <|
 sx (some (⟨b1, 0, none⟩ : Addr)) 8 (Int.tmod (IntKind.wrap .i64 (Int.tdiv s3.1 (8 : Int))) (8 : Int)) 3 fun p6 =>
 ldA (.cons (.int .u8) (.cons (.int .i64) (.cons (.int .u16) .nil))) p6 fun x7 =>
 nz (64 : Int) <|
 nz (8 : Int) <|
 sx (some (⟨b1, 0, none⟩ : Addr)) 8 (Int.tmod (IntKind.wrap .i64 (Int.tdiv s3.1 (64 : Int))) (8 : Int)) 3 fun p8 =>
 ldA (.cons (.int .u8) (.cons (.int .i64) (.cons (.int .u16) .nil))) p8 fun x9 =>
 nz (3 : Int) <|
 nz (512 : Int) <|
 sx (some (⟨b1, 0, none⟩ : Addr)) 8 (IntKind.wrap .i64 (Int.tdiv s3.1 (512 : Int))) 3 fun p10 =>
 ldA (.cons (.int .u8) (.cons (.int .i64) (.cons (.int .u16) .nil))) p10 fun x11 =>
 nw #[(.int .u8 x5.1), (.int .i64 x5.2.1), (.int .u16 x5.2.2.1), (.int .u8 x7.1), (.int .i64 x7.2.1), (.int .u16 x7.2.2.1), (.int .u8 x9.1), (.int .i64 x9.2.1), (.int .u16 x9.2.2.1), (.int .u8 (0 : Int)), (.int .i64 (IntKind.wrap .i64 ((1 : Int) + (Int.tmod s3.1 (3 : Int))))), (.int .u16 (0 : Int)), (.int .u8 x11.1), (.int .i64 x11.2.1), (.int .u16 x11.2.2.1)] 52 fun b12 =>
 callT Try.prog fn_salvorlaw11_plays #[(.int .i64 (3 : Int)), (.slice (some (⟨b12, 0, none⟩ : Addr)) 5 5)] .bool fun r13 =>
 brB (!r13)
 (st1 (⟨b0, 0, none⟩ : Addr) (.bool false) <|
 mkd h0.size <|
 ldT .bool (⟨b0, 0, none⟩ : Addr) fun x14 =>
 K x14)
 (X2 ((IntKind.wrap .i64 (s3.1 + (1 : Int))), ())))
 (nw #[(.int .u8 (0 : Int)), (.int .i64 (0 : Int)), (.int .u16 (0 : Int))] 52 fun b15 =>
 st1 (⟨b15, 0, none⟩ : Addr) (.int .u8 (3 : Int)) <|
 st1 ((⟨b15, 0, none⟩ : Addr).add 1) (.int .i64 (0 : Int)) <|
 st1 ((⟨b15, 0, none⟩ : Addr).add 2) (.int .u16 (447 : Int)) <|
 lfp (σ := (Int × Unit)) (fun X16 s17 => /-  -/
 brB (decide (s17.1 < (6 : Int)))
 (ldA (.cons (.int .u8) (.cons (.int .i64) (.cons (.int .u16) .nil))) (⟨b15, 0, none⟩ : Addr) fun x18 =>
 nz (3 : Int) <|
 nz (3 : Int) <|
 ldA (.cons (.int .u8) (.cons (.int .i64) (.cons (.int .u16) .nil))) (⟨b15, 0, none⟩ : Addr) fun x19 =>
 ldA (.cons (.int .u8) (.cons (.int .i64) (.cons (.int .u16) .nil))) (⟨b15, 0, none⟩ : Addr) fun x20 =>
 nz (4 : Int) <|
 ldA (.cons (.int .u8) (.cons (.int .i64) (.cons (.int .u16) .nil))) (⟨b15, 0, none⟩ : Addr) fun x21 =>
 nw #[(.int .u8 (0 : Int)), (.int .i64 (1 : Int)), (.int .u16 (0 : Int)), (.int .u8 (0 : Int)), (.int .i64 (3 : Int)), (.int .u16 (0 : Int)), (.int .u8 (0 : Int)), (.int .i64 (3 : Int)), (.int .u16 (0 : Int)), (.int .u8 x18.1), (.int .i64 x18.2.1), (.int .u16 x18.2.2.1), (.int .u8 (0 : Int)), (.int .i64 (IntKind.wrap .i64 ((2 : Int) + (Int.tmod s17.1 (3 : Int))))), (.int .u16 (0 : Int)), (.int .u8 (0 : Int)), (.int .i64 (4 : Int)), (.int .u16 (0 : Int)), (.int .u8 (0 : Int)), (.int .i64 (IntKind.wrap .i64 ((2 : Int) + (Int.tmod s17.1 (3 : Int))))), (.int .u16 (0 : Int)), (.int .u8 x19.1), (.int .i64 x19.2.1), (.int .u16 x19.2.2.1), (.int .u8 x20.1), (.int .i64 x20.2.1), (.int .u16 x20.2.2.1), (.int .u8 (0 : Int)), (.int .i64 (4 : Int)), (.int .u16 (0 : Int)), (.int .u8 (0 : Int)), (.int .i64 (2 : Int)), (.int .u16 (0 : Int)), (.int .u8 (0 : Int)), (.int .i64 (4 : Int)), (.int .u16 (0 : Int)), (.int .u8 (0 : Int)), (.int .i64 (IntKind.wrap .i64 ((1 : Int) + (Int.tmod s17.1 (4 : Int))))), (.int .u16 (0 : Int)), (.int .u8 (4 : Int)), (.int .i64 (0 : Int)), (.int .u16 (0 : Int)), (.int .u8 x21.1), (.int .i64 x21.2.1), (.int .u16 x21.2.2.1), (.int .u8 (0 : Int)), (.int .i64 (3 : Int)), (.int .u16 (0 : Int)), (.int .u8 (0 : Int)), (.int .i64 (3 : Int)), (.int .u16 (0 : Int)), (.int .u8 (0 : Int)), (.int .i64 (3 : Int)), (.int .u16 (0 : Int))] 52 fun b22 =>
 nz (2 : Int) <|
 callT Try.prog fn_salvorlaw11_plays #[(.int .i64 (IntKind.wrap .i64 ((4 : Int) + (Int.tmod s17.1 (2 : Int))))), (.slice (some (⟨b22, 0, none⟩ : Addr)) 18 18)] .bool fun r23 =>
 brB (!r23)
 (st1 (⟨b0, 0, none⟩ : Addr) (.bool false) <|
 mkd h0.size <|
 ldT .bool (⟨b0, 0, none⟩ : Addr) fun x24 =>
 K x24)
 (X16 ((IntKind.wrap .i64 (s17.1 + (1 : Int))), ())))
 (nw #[(.int .i64 (-9223372036854775808 : Int)), (.int .i64 (-1 : Int)), (.int .i64 (0 : Int)), (.int .i64 (1048577 : Int)), (.int .i64 (9223372036854775807 : Int))] 3 fun b25 =>
 lfp (σ := (Int × Unit)) (fun X26 s27 => /-  -/
 brB (decide (s27.1 < (5 : Int)))
 (sx (some (⟨b25, 0, none⟩ : Addr)) 5 s27.1 1 fun p28 =>
 ldT (.int .i64) p28 fun x29 =>
 nw #[(.int .u8 (0 : Int)), (.int .i64 (1 : Int)), (.int .u16 (0 : Int)), (.int .u8 (4 : Int)), (.int .i64 (0 : Int)), (.int .u16 (0 : Int)), (.int .u8 (5 : Int)), (.int .i64 x29), (.int .u16 (0 : Int))] 52 fun b30 =>
 callT Try.prog fn_salvorlaw11_plays #[(.int .i64 x29), (.slice (some (⟨b30, 0, none⟩ : Addr)) 3 3)] .bool fun r31 =>
 brB (!r31)
 (st1 (⟨b0, 0, none⟩ : Addr) (.bool false) <|
 mkd h0.size <|
 ldT .bool (⟨b0, 0, none⟩ : Addr) fun x32 =>
 K x32)
 (nw #[(.int .u8 (0 : Int)), (.int .i64 x29), (.int .u16 (0 : Int)), (.int .u8 (5 : Int)), (.int .i64 x29), (.int .u16 (0 : Int)), (.int .u8 (6 : Int)), (.int .i64 x29), (.int .u16 (0 : Int))] 52 fun b33 =>
 callT Try.prog fn_salvorlaw11_plays #[(.int .i64 (2 : Int)), (.slice (some (⟨b33, 0, none⟩ : Addr)) 3 3)] .bool fun r34 =>
 brB (!r34)
 (st1 (⟨b0, 0, none⟩ : Addr) (.bool false) <|
 mkd h0.size <|
 ldT .bool (⟨b0, 0, none⟩ : Addr) fun x35 =>
 K x35)
 (X26 ((IntKind.wrap .i64 (s27.1 + (1 : Int))), ()))))
 (callT Try.prog fn_order_New #[(.int .i64 (1048576 : Int))] (.tup (.cons .ptr (.cons (.int .i64) .nil))) fun r36 =>
 brB (r36.2.1 != (0 : Int))
 (st1 (⟨b0, 0, none⟩ : Addr) (.bool false) <|
 mkd h0.size <|
 ldT .bool (⟨b0, 0, none⟩ : Addr) fun x37 =>
 K x37)
 (brB (Option.isNone r36.1)
 (st1 (⟨b0, 0, none⟩ : Addr) (.bool false) <|
 mkd h0.size <|
 ldT .bool (⟨b0, 0, none⟩ : Addr) fun x38 =>
 K x38)
 (callT Try.prog fn_order_Order_Bump #[(.pointer r36.1), (.int .i64 (1048576 : Int))] (.int .i64) fun r39 =>
 brB (r39 != (0 : Int))
 (st1 (⟨b0, 0, none⟩ : Addr) (.bool false) <|
 mkd h0.size <|
 ldT .bool (⟨b0, 0, none⟩ : Addr) fun x40 =>
 K x40)
 (callT Try.prog fn_order_Order_Len #[(.pointer r36.1)] (.int .i64) fun r41 =>
 brB (r41 != (1048576 : Int))
 (st1 (⟨b0, 0, none⟩ : Addr) (.bool false) <|
 mkd h0.size <|
 ldT .bool (⟨b0, 0, none⟩ : Addr) fun x42 =>
 K x42)
 (callT Try.prog fn_order_Order_Pop #[(.pointer r36.1)] (.tup (.cons (.int .i64) (.cons .bool .nil))) fun r43 =>
 callT Try.prog fn_order_Order_Pop #[(.pointer r36.1)] (.tup (.cons (.int .i64) (.cons .bool .nil))) fun r44 =>
 brB (r43.1 != (1048576 : Int))
 (st1 (⟨b0, 0, none⟩ : Addr) (.bool false) <|
 mkd h0.size <|
 ldT .bool (⟨b0, 0, none⟩ : Addr) fun x45 =>
 K x45)
 (brB (r44.1 != (1 : Int))
 (st1 (⟨b0, 0, none⟩ : Addr) (.bool false) <|
 mkd h0.size <|
 ldT .bool (⟨b0, 0, none⟩ : Addr) fun x46 =>
 K x46)
 (brB (!r43.2.1)
 (st1 (⟨b0, 0, none⟩ : Addr) (.bool false) <|
 mkd h0.size <|
 ldT .bool (⟨b0, 0, none⟩ : Addr) fun x47 =>
 K x47)
 (brB (!r44.2.1)
 (st1 (⟨b0, 0, none⟩ : Addr) (.bool false) <|
 mkd h0.size <|
 ldT .bool (⟨b0, 0, none⟩ : Addr) fun x48 =>
 K x48)
 (nw #[(.slice none 0 0), (.slice none 0 0), (.slice none 0 0), (.int .i64 (0 : Int)), (.bool false)] 56 fun b49 =>
 nw #[(.pointer none), (.pointer (some (⟨b49, 0, none⟩ : Addr)))] 24 fun b50 =>
 lfp (σ := (Int × Unit)) (fun X51 s52 => /-  -/
 brB (decide (s52.1 < (2 : Int)))
 (sx (some (⟨b50, 0, none⟩ : Addr)) 2 s52.1 1 fun p53 =>
 ldT .ptr p53 fun x54 =>
 callT Try.prog fn_order_Order_Pop #[(.pointer x54)] (.tup (.cons (.int .i64) (.cons .bool .nil))) fun r55 =>
 callT Try.prog fn_order_Order_Peek #[(.pointer x54)] (.tup (.cons (.int .i64) (.cons .bool .nil))) fun r56 =>
 callT Try.prog fn_order_Order_Activity #[(.pointer x54), (.int .i64 (1 : Int))] (.tup (.cons (.int .i64) (.cons (.int .i64) .nil))) fun r57 =>
 callT Try.prog fn_order_Order_All #[(.pointer x54)] .val fun r58 =>
 RangeVC Try.prog (.cons .val .nil) r58 (fun x59 wrap60 next61 jump62 =>
 wrap60 <|
 st1 (⟨b0, 0, none⟩ : Addr) (.bool false) <|
 jump62 .ret)
 (brB ((IntKind.wrap .i64 (r55.1 + r56.1)) != (0 : Int))
 (st1 (⟨b0, 0, none⟩ : Addr) (.bool false) <|
 mkd h0.size <|
 ldT .bool (⟨b0, 0, none⟩ : Addr) fun x63 =>
 K x63)
 (brB r55.2.1
 (st1 (⟨b0, 0, none⟩ : Addr) (.bool false) <|
 mkd h0.size <|
 ldT .bool (⟨b0, 0, none⟩ : Addr) fun x64 =>
 K x64)
 (brB r56.2.1
 (st1 (⟨b0, 0, none⟩ : Addr) (.bool false) <|
 mkd h0.size <|
 ldT .bool (⟨b0, 0, none⟩ : Addr) fun x65 =>
 K x65)
 (brB (r57.2.1 != (1 : Int))
 (st1 (⟨b0, 0, none⟩ : Addr) (.bool false) <|
 mkd h0.size <|
 ldT .bool (⟨b0, 0, none⟩ : Addr) fun x66 =>
 K x66)
 (callT Try.prog fn_order_Order_Bump #[(.pointer x54), (.int .i64 (0 : Int))] (.int .i64) fun r67 =>
 brB (r67 != (1 : Int))
 (st1 (⟨b0, 0, none⟩ : Addr) (.bool false) <|
 mkd h0.size <|
 ldT .bool (⟨b0, 0, none⟩ : Addr) fun x68 =>
 K x68)
 (callT Try.prog fn_order_Order_Push #[(.pointer x54), (.int .i64 (0 : Int))] (.int .i64) fun r69 =>
 brB (r69 != (1 : Int))
 (st1 (⟨b0, 0, none⟩ : Addr) (.bool false) <|
 mkd h0.size <|
 ldT .bool (⟨b0, 0, none⟩ : Addr) fun x70 =>
 K x70)
 (callT Try.prog fn_order_Order_Remove #[(.pointer x54), (.int .i64 (0 : Int))] (.int .i64) fun r71 =>
 brB (r71 != (1 : Int))
 (st1 (⟨b0, 0, none⟩ : Addr) (.bool false) <|
 mkd h0.size <|
 ldT .bool (⟨b0, 0, none⟩ : Addr) fun x72 =>
 K x72)
 (callT Try.prog fn_order_Order_Decay #[(.pointer x54)] (.int .i64) fun r73 =>
 brB (r73 != (1 : Int))
 (st1 (⟨b0, 0, none⟩ : Addr) (.bool false) <|
 mkd h0.size <|
 ldT .bool (⟨b0, 0, none⟩ : Addr) fun x74 =>
 K x74)
 (callT Try.prog fn_order_Order_Has #[(.pointer x54), (.int .i64 (1 : Int))] .bool fun r75 =>
 brB r75
 (st1 (⟨b0, 0, none⟩ : Addr) (.bool false) <|
 mkd h0.size <|
 ldT .bool (⟨b0, 0, none⟩ : Addr) fun x76 =>
 K x76)
 (callT Try.prog fn_order_Order_Len #[(.pointer x54)] (.int .i64) fun r77 =>
 callT Try.prog fn_order_Order_Vars #[(.pointer x54)] (.int .i64) fun r78 =>
 callT Try.prog fn_order_Order_Step #[(.pointer x54)] (.int .i64) fun r79 =>
 brB ((IntKind.wrap .i64 ((IntKind.wrap .i64 (r77 + r78)) + r79)) != (0 : Int))
 (st1 (⟨b0, 0, none⟩ : Addr) (.bool false) <|
 mkd h0.size <|
 ldT .bool (⟨b0, 0, none⟩ : Addr) fun x80 =>
 K x80)
 (X51 ((IntKind.wrap .i64 (s52.1 + (1 : Int))), ()))))))))))))
 (mkd h0.size <|
 ldT .bool (⟨b0, 0, none⟩ : Addr) fun x81 =>
 K x81)
 []
 [])
 (callT Try.prog fn_salvorlaw11_awake #[] .bool fun r82 =>
 st1 (⟨b0, 0, none⟩ : Addr) (.bool r82) <|
 mkd h0.size <|
 ldT .bool (⟨b0, 0, none⟩ : Addr) fun x83 =>
 K x83))
 ((0 : Int), ())))))))))))
 ((0 : Int), ())))
 ((0 : Int), ())))
 ((0 : Int), ())) h0
set_option maxRecDepth 100000 in
theorem E_salvorlaw11_OrderSmall (K : Bool → HP) (h : Heap) : fnVC Try.prog [(200, (.cons .val .nil))] 252 Try.f7 [] .bool K h = F_salvorlaw11_OrderSmall K h := by kernel_rfl
set_option maxRecDepth 100000 in
theorem S_salvorlaw11_OrderSmall{h : Heap} (K : Bool → HP) (hF : F_salvorlaw11_OrderSmall K h) : CallsH Try.prog fn_salvorlaw11_OrderSmall #[] h fun v h' => ∃ x : Bool, v = Ty.enc .bool x ∧ K x h' :=
  callsH_of_fn (P := Try.prog) (fn := Try.f7) (τ := .bool) follows Try.func7 (by kernel_rfl) (by kernel_rfl) Try.call7 (Eq.mpr (E_salvorlaw11_OrderSmall K h) hF)

/-- salvor/salvorlaw11.OrderPops -/
def F_salvorlaw11_OrderPops (a0 : Sl) (K : Bool → HP) : HP :=
 callT Try.prog fn_salvorlaw11_put #[(.slice a0.a a0.len a0.cap)] (.tup (.cons .ptr (.cons .bool .nil))) fun r0 =>
 brB (!r0.2.1)
 (K false)
 (callT Try.prog fn_salvorlaw11_list #[(.pointer r0.1)] (.tup (.cons .sl (.cons .bool .nil))) fun r1 =>
 brB (!r1.2.1)
 (K false)
 (callT Try.prog fn_order_Order_Len #[(.pointer r0.1)] (.int .i64) fun r2 =>
 brB ((r1.1.len : Int) != r2)
 (K false)
 (lfp (σ := (Int × (Bool × Unit))) (fun X3 s4 => /-   -/
 brB (decide (s4.1 < (r1.1.len : Int)))
 (sx r1.1.a r1.1.len s4.1 1 fun p5 =>
 ldT (.int .i64) p5 fun x6 =>
 callT Try.prog fn_order_Order_Activity #[(.pointer r0.1), (.int .i64 x6)] (.tup (.cons (.int .i64) (.cons (.int .i64) .nil))) fun r7 =>
 brB (r7.2.1 != (0 : Int))
 (K false)
 (callT Try.prog fn_order_Order_Has #[(.pointer r0.1), (.int .i64 x6)] .bool fun r8 =>
 brB (!r8)
 (K false)
 (callT Try.prog fn_slices_Index_int_int #[(.slice r1.1.a r1.1.len r1.1.cap), (.int .i64 x6)] (.int .i64) fun r9 =>
 brB (r9 != s4.1)
 (K false)
 (jn (σ := (Bool × Unit)) (fun s11 => /-  -/
 X3 ((IntKind.wrap .i64 (s4.1 + (1 : Int))), s11.1, ()))
 (fun J10 =>
 brB (decide (s4.1 > (0 : Int)))
 (sx r1.1.a r1.1.len (IntKind.wrap .i64 (s4.1 - (1 : Int))) 1 fun p12 =>
 ldT (.int .i64) p12 fun x13 =>
 callT Try.prog fn_order_Order_Activity #[(.pointer r0.1), (.int .i64 x13)] (.tup (.cons (.int .i64) (.cons (.int .i64) .nil))) fun r14 =>
 brB (r14.2.1 != (0 : Int))
 (K false)
 (brB (decide (r14.1 < r7.1))
 (K false)
 (brB (r14.1 == r7.1)
 (sx r1.1.a r1.1.len (IntKind.wrap .i64 (s4.1 - (1 : Int))) 1 fun p15 =>
 ldT (.int .i64) p15 fun x16 =>
 brB (decide (x16 > x6))
 (K false)
 (J10 (s4.2.1, ())))
 (J10 (s4.2.1, ())))))
 (J10 (s4.2.1, ())))))))
 (lfp (σ := (Int × (Bool × Unit))) (fun X17 s18 => /- v  -/
 brB (decide (s18.1 ≤ (12 : Int)))
 (callT Try.prog fn_order_Order_Has #[(.pointer r0.1), (.int .i64 s18.1)] .bool fun r19 =>
 callT Try.prog fn_slices_Contains_int_int #[(.slice r1.1.a r1.1.len r1.1.cap), (.int .i64 s18.1)] .bool fun r20 =>
 brB (!(r19 == r20))
 (K false)
 (X17 ((IntKind.wrap .i64 (s18.1 + (1 : Int))), s18.2.1, ())))
 (lfp (σ := (Int × (Bool × Unit))) (fun X21 s22 => /-   -/
 brB (decide (s22.1 < (r1.1.len : Int)))
 (sx r1.1.a r1.1.len s22.1 1 fun p23 =>
 ldT (.int .i64) p23 fun x24 =>
 callT Try.prog fn_order_Order_Peek #[(.pointer r0.1)] (.tup (.cons (.int .i64) (.cons .bool .nil))) fun r25 =>
 callT Try.prog fn_order_Order_Pop #[(.pointer r0.1)] (.tup (.cons (.int .i64) (.cons .bool .nil))) fun r26 =>
 brB (r25.1 != x24)
 (K false)
 (brB (r26.1 != x24)
 (K false)
 (brB (!r25.2.1)
 (K false)
 (brB (!r26.2.1)
 (K false)
 (callT Try.prog fn_order_Order_Has #[(.pointer r0.1), (.int .i64 r26.1)] .bool fun r27 =>
 brB r27
 (K false)
 (callT Try.prog fn_order_Order_Len #[(.pointer r0.1)] (.int .i64) fun r28 =>
 brB (r28 != (IntKind.wrap .i64 ((IntKind.wrap .i64 ((r1.1.len : Int) - (1 : Int))) - s22.1)))
 (K false)
 (X21 ((IntKind.wrap .i64 (s22.1 + (1 : Int))), s22.2.1, ()))))))))
 (callT Try.prog fn_order_Order_Pop #[(.pointer r0.1)] (.tup (.cons (.int .i64) (.cons .bool .nil))) fun r29 =>
 brB (!r29.2.1)
 (callT Try.prog fn_order_Order_Len #[(.pointer r0.1)] (.int .i64) fun r30 =>
 brB (r30 == (0 : Int))
 (callT Try.prog fn_salvorlaw11_awake #[] .bool fun r31 =>
 K r31)
 (K false))
 (K false)))
 ((0 : Int), s18.2.1, ())))
 ((1 : Int), s4.2.1, ())))
 ((0 : Int), false, ()))))
set_option maxRecDepth 100000 in
theorem E_salvorlaw11_OrderPops (a0 : Sl) (K : Bool → HP) (h : Heap) : fnVC Try.prog [] 179 Try.f8 [(.slice a0.a a0.len a0.cap)] .bool K h = F_salvorlaw11_OrderPops a0 K h := by kernel_rfl
set_option maxRecDepth 100000 in
theorem S_salvorlaw11_OrderPops{h : Heap} {a0 : Sl} (K : Bool → HP) (hF : F_salvorlaw11_OrderPops a0 K h) : CallsH Try.prog fn_salvorlaw11_OrderPops #[(.slice a0.a a0.len a0.cap)] h fun v h' => ∃ x : Bool, v = Ty.enc .bool x ∧ K x h' :=
  callsH_of_fn (P := Try.prog) (fn := Try.f8) (τ := .bool) follows Try.func8 (by kernel_rfl) (by kernel_rfl) Try.call8 (Eq.mpr (E_salvorlaw11_OrderPops a0 K h) hF)

/-- salvor/salvorlaw11.OrderBack -/
def F_salvorlaw11_OrderBack (a0 : Sl) (a1 : Int) (a2 : Int) (K : Bool → HP) : HP :=
 callT Try.prog fn_salvorlaw11_put #[(.slice a0.a a0.len a0.cap)] (.tup (.cons .ptr (.cons .bool .nil))) fun r0 =>
 brB (!r0.2.1)
 (K false)
 (nz (12 : Int) <|
 nz (12 : Int) <|
 callT Try.prog fn_order_Order_Push #[(.pointer r0.1), (.int .i64 (IntKind.wrap .i64 ((1 : Int) + (IntKind.wrap .i64 (Int.tmod a1 (12 : Int))))))] (.int .i64) fun r1 =>
 brB (r1 != (0 : Int))
 (K false)
 (callT Try.prog fn_order_Order_Push #[(.pointer r0.1), (.int .i64 (IntKind.wrap .i64 ((1 : Int) + (IntKind.wrap .i64 (Int.tmod a1 (12 : Int))))))] (.int .i64) fun r2 =>
 brB (r2 != (0 : Int))
 (K false)
 (callT Try.prog fn_order_Order_Has #[(.pointer r0.1), (.int .i64 (IntKind.wrap .i64 ((1 : Int) + (IntKind.wrap .i64 (Int.tmod a1 (12 : Int))))))] .bool fun r3 =>
 brB (!r3)
 (K false)
 (callT Try.prog fn_salvorlaw11_list #[(.pointer r0.1)] (.tup (.cons .sl (.cons .bool .nil))) fun r4 =>
 callT Try.prog fn_order_Order_Len #[(.pointer r0.1)] (.int .i64) fun r5 =>
 brB (!r4.2.1)
 (K false)
 (callT Try.prog fn_order_Order_Remove #[(.pointer r0.1), (.int .i64 (IntKind.wrap .i64 ((1 : Int) + (IntKind.wrap .i64 (Int.tmod a1 (12 : Int))))))] (.int .i64) fun r6 =>
 brB (r6 != (0 : Int))
 (K false)
 (callT Try.prog fn_order_Order_Remove #[(.pointer r0.1), (.int .i64 (IntKind.wrap .i64 ((1 : Int) + (IntKind.wrap .i64 (Int.tmod a1 (12 : Int))))))] (.int .i64) fun r7 =>
 brB (r7 != (0 : Int))
 (K false)
 (callT Try.prog fn_order_Order_Has #[(.pointer r0.1), (.int .i64 (IntKind.wrap .i64 ((1 : Int) + (IntKind.wrap .i64 (Int.tmod a1 (12 : Int))))))] .bool fun r8 =>
 brB r8
 (K false)
 (callT Try.prog fn_order_Order_Len #[(.pointer r0.1)] (.int .i64) fun r9 =>
 brB (r9 != (IntKind.wrap .i64 (r5 - (1 : Int))))
 (K false)
 (callT Try.prog fn_order_Order_Bump #[(.pointer r0.1), (.int .i64 (IntKind.wrap .i64 ((1 : Int) + (IntKind.wrap .i64 (Int.tmod a2 (12 : Int))))))] (.int .i64) fun r10 =>
 brB (r10 != (0 : Int))
 (K false)
 (callT Try.prog fn_order_Order_Push #[(.pointer r0.1), (.int .i64 (IntKind.wrap .i64 ((1 : Int) + (IntKind.wrap .i64 (Int.tmod a1 (12 : Int))))))] (.int .i64) fun r11 =>
 brB (r11 != (0 : Int))
 (K false)
 (callT Try.prog fn_order_Order_Len #[(.pointer r0.1)] (.int .i64) fun r12 =>
 brB (r12 != r5)
 (K false)
 (callT Try.prog fn_salvorlaw11_list #[(.pointer r0.1)] (.tup (.cons .sl (.cons .bool .nil))) fun r13 =>
 callT Try.prog fn_order_Order_Activity #[(.pointer r0.1), (.int .i64 (IntKind.wrap .i64 ((1 : Int) + (IntKind.wrap .i64 (Int.tmod a1 (12 : Int))))))] (.tup (.cons (.int .i64) (.cons (.int .i64) .nil))) fun r14 =>
 lfp (σ := (Int × (Bool × Unit))) (fun X15 s16 => /-   -/
 brB (decide (s16.1 < (r13.1.len : Int)))
 (sx r13.1.a r13.1.len s16.1 1 fun p17 =>
 ldT (.int .i64) p17 fun x18 =>
 callT Try.prog fn_order_Order_Activity #[(.pointer r0.1), (.int .i64 x18)] (.tup (.cons (.int .i64) (.cons (.int .i64) .nil))) fun r19 =>
 brB ((IntKind.wrap .i64 (r14.2.1 + r19.2.1)) != (0 : Int))
 (K false)
 (callT Try.prog fn_slices_Index_int_int #[(.slice r13.1.a r13.1.len r13.1.cap), (.int .i64 (IntKind.wrap .i64 ((1 : Int) + (IntKind.wrap .i64 (Int.tmod a1 (12 : Int))))))] (.int .i64) fun r20 =>
 brB (decide (s16.1 < r20))
 (brB (decide (r19.1 < r14.1))
 (K false)
 (brB (r19.1 == r14.1)
 (brB (decide (x18 > (IntKind.wrap .i64 ((1 : Int) + (IntKind.wrap .i64 (Int.tmod a1 (12 : Int)))))))
 (K false)
 (X15 ((IntKind.wrap .i64 (s16.1 + (1 : Int))), s16.2.1, ())))
 (X15 ((IntKind.wrap .i64 (s16.1 + (1 : Int))), s16.2.1, ()))))
 (X15 ((IntKind.wrap .i64 (s16.1 + (1 : Int))), s16.2.1, ()))))
 (brB r13.2.1
 (brB ((r13.1.len : Int) == (r4.1.len : Int))
 (callT Try.prog fn_slices_Contains_int_int #[(.slice r13.1.a r13.1.len r13.1.cap), (.int .i64 (IntKind.wrap .i64 ((1 : Int) + (IntKind.wrap .i64 (Int.tmod a1 (12 : Int))))))] .bool fun r21 =>
 brB r21
 (callT Try.prog fn_salvorlaw11_awake #[] .bool fun r22 =>
 K r22)
 (K false))
 (K false))
 (K false)))
 ((0 : Int), false, ())))))))))))))
set_option maxRecDepth 100000 in
theorem E_salvorlaw11_OrderBack (a0 : Sl) (a1 : Int) (a2 : Int) (K : Bool → HP) (h : Heap) : fnVC Try.prog [] 167 Try.f9 [(.slice a0.a a0.len a0.cap), (.int .u8 a1), (.int .u8 a2)] .bool K h = F_salvorlaw11_OrderBack a0 a1 a2 K h := by kernel_rfl
set_option maxRecDepth 100000 in
theorem S_salvorlaw11_OrderBack{h : Heap} {a0 : Sl} {a1 : Int} {a2 : Int} (K : Bool → HP) (hF : F_salvorlaw11_OrderBack a0 a1 a2 K h) : CallsH Try.prog fn_salvorlaw11_OrderBack #[(.slice a0.a a0.len a0.cap), (.int .u8 a1), (.int .u8 a2)] h fun v h' => ∃ x : Bool, v = Ty.enc .bool x ∧ K x h' :=
  callsH_of_fn (P := Try.prog) (fn := Try.f9) (τ := .bool) follows Try.func9 (by kernel_rfl) (by kernel_rfl) Try.call9 (Eq.mpr (E_salvorlaw11_OrderBack a0 a1 a2 K h) hF)

/-- salvor/salvorlaw11.OrderBumps -/
def F_salvorlaw11_OrderBumps (a0 : Sl) (a1 : Int) (K : Bool → HP) : HP :=
 callT Try.prog fn_salvorlaw11_put #[(.slice a0.a a0.len a0.cap)] (.tup (.cons .ptr (.cons .bool .nil))) fun r0 =>
 brB (!r0.2.1)
 (K false)
 (nz (12 : Int) <|
 nw #[(.int .i64 (0 : Int))] 3 fun b1 =>
 st1 (⟨b1, 0, none⟩ : Addr) (.int .i64 (IntKind.wrap .i64 ((1 : Int) + (IntKind.wrap .i64 (Int.tmod a1 (12 : Int)))))) <|
 callT Try.prog fn_salvorlaw11_list #[(.pointer r0.1)] (.tup (.cons .sl (.cons .bool .nil))) fun r2 =>
 mks 3 1 8 #[(.int .i64 (0 : Int))] (13 : Int) (13 : Int) fun s3 =>
 lfp (σ := (Int × Unit)) (fun X4 s5 => /- i -/
 brB (decide (s5.1 ≤ (12 : Int)))
 (callT Try.prog fn_order_Order_Activity #[(.pointer r0.1), (.int .i64 s5.1)] (.tup (.cons (.int .i64) (.cons (.int .i64) .nil))) fun r6 =>
 sx s3.a s3.len s5.1 1 fun p7 =>
 st1 p7 (.int .i64 r6.1) <|
 X4 ((IntKind.wrap .i64 (s5.1 + (1 : Int))), ()))
 (callT Try.prog fn_order_Order_Step #[(.pointer r0.1)] (.int .i64) fun r8 =>
 brB (!r2.2.1)
 (K false)
 (ldT (.int .i64) (⟨b1, 0, none⟩ : Addr) fun x9 =>
 callT Try.prog fn_order_Order_Bump #[(.pointer r0.1), (.int .i64 x9)] (.int .i64) fun r10 =>
 brB (r10 != (0 : Int))
 (K false)
 (callT Try.prog fn_order_Order_Step #[(.pointer r0.1)] (.int .i64) fun r11 =>
 brB (r11 != r8)
 (K false)
 (callT Try.prog fn_salvorlaw11_list #[(.pointer r0.1)] (.tup (.cons .sl (.cons .bool .nil))) fun r12 =>
 lfp (σ := (Int × (Bool × Unit))) (fun X13 s14 => /- i  -/
 brB (decide (s14.1 ≤ (12 : Int)))
 (callT Try.prog fn_order_Order_Activity #[(.pointer r0.1), (.int .i64 s14.1)] (.tup (.cons (.int .i64) (.cons (.int .i64) .nil))) fun r15 =>
 sx s3.a s3.len s14.1 1 fun p16 =>
 ldT (.int .i64) p16 fun x17 =>
 ldT (.int .i64) (⟨b1, 0, none⟩ : Addr) fun x18 =>
 jn (σ := (Int × Unit)) (fun s20 => /- want -/
 brB (r15.2.1 != (0 : Int))
 (K false)
 (brB (r15.1 != s20.1)
 (K false)
 (X13 ((IntKind.wrap .i64 (s14.1 + (1 : Int))), s14.2.1, ()))))
 (fun J19 =>
 brB (s14.1 == x18)
 (J19 ((IntKind.wrap .i64 (x17 + r8)), ()))
 (J19 (x17, ()))))
 (ldT (.int .i64) (⟨b1, 0, none⟩ : Addr) fun x21 =>
 ldT (.int .i64) (⟨b1, 0, none⟩ : Addr) fun x22 =>
 callT Try.prog fn_slices_Index_int_int #[(.slice r2.1.a r2.1.len r2.1.cap), (.int .i64 x21)] (.int .i64) fun r23 =>
 ck (⟨b1, 0, none⟩ : Addr) (.int .i64 x22) <|
 callT Try.prog fn_slices_Index_int_int #[(.slice r12.1.a r12.1.len r12.1.cap), (.int .i64 x22)] (.int .i64) fun r24 =>
 brB r12.2.1
 (brB (decide (r24 ≤ r23))
 (brB ((decide (r24 < (0 : Int))) == (decide (r23 < (0 : Int))))
 (callT Try.prog fn_slices_DeleteFunc_int_int #[(.slice r2.1.a r2.1.len r2.1.cap), (.func (.func 31) #[] #[(.pointer (some (⟨b1, 0, none⟩ : Addr)))])] .sl fun r25 =>
 callT Try.prog fn_slices_DeleteFunc_int_int #[(.slice r12.1.a r12.1.len r12.1.cap), (.func (.func 31) #[] #[(.pointer (some (⟨b1, 0, none⟩ : Addr)))])] .sl fun r26 =>
 callT Try.prog fn_slices_Equal_int_int #[(.slice r25.a r25.len r25.cap), (.slice r26.a r26.len r26.cap)] .bool fun r27 =>
 brB r27
 (callT Try.prog fn_salvorlaw11_awake #[] .bool fun r28 =>
 K r28)
 (K false))
 (K false))
 (K false))
 (K false)))
 ((1 : Int), false, ()))))))
 ((1 : Int), ()))
set_option maxRecDepth 100000 in
theorem E_salvorlaw11_OrderBumps (a0 : Sl) (a1 : Int) (K : Bool → HP) (h : Heap) : fnVC Try.prog [] 130 Try.f10 [(.slice a0.a a0.len a0.cap), (.int .u8 a1)] .bool K h = F_salvorlaw11_OrderBumps a0 a1 K h := by kernel_rfl
set_option maxRecDepth 100000 in
theorem S_salvorlaw11_OrderBumps{h : Heap} {a0 : Sl} {a1 : Int} (K : Bool → HP) (hF : F_salvorlaw11_OrderBumps a0 a1 K h) : CallsH Try.prog fn_salvorlaw11_OrderBumps #[(.slice a0.a a0.len a0.cap), (.int .u8 a1)] h fun v h' => ∃ x : Bool, v = Ty.enc .bool x ∧ K x h' :=
  callsH_of_fn (P := Try.prog) (fn := Try.f10) (τ := .bool) follows Try.func10 (by kernel_rfl) (by kernel_rfl) Try.call10 (Eq.mpr (E_salvorlaw11_OrderBumps a0 a1 K h) hF)

/-- salvor/salvorlaw11.put -/
def F_salvorlaw11_put (a0 : Sl) (K : (Option Addr × (Bool × Unit)) → HP) : HP :=
 callT Try.prog fn_order_New #[(.int .i64 (12 : Int))] (.tup (.cons .ptr (.cons (.int .i64) .nil))) fun r0 =>
 brB (r0.2.1 != (0 : Int))
 (K (none, false, ()))
 (brB (Option.isNone r0.1)
 (K (none, false, ()))
 (slH ⟨a0.a, a0.len, a0.cap⟩ (if (80 : Int) < (a0.len : Int) then (80 : Int) else (a0.len : Int)) 1 fun s1 =>
 lfp (σ := (Int × (Int × (Bool × (Option Addr × Unit))))) (fun X2 s3 => /-  e   -/
 brB (decide (s3.1 < (s1.len : Int)))
 (sx s1.a s1.len s3.1 1 fun p4 =>
 ldT (.int .u8) p4 fun x5 =>
 jn (σ := (Int × Unit)) (fun s7 => /- e -/
 brB (s7.1 != (0 : Int))
 (K (r0.1, false, ()))
 (X2 ((IntKind.wrap .i64 (s3.1 + (1 : Int))), s7.1, s3.2.2.1, s3.2.2.2.1, ())))
 (fun J6 =>
 brB (decide (x5 < (160 : Int)))
 (nz (12 : Int) <|
 callT Try.prog fn_order_Order_Bump #[(.pointer r0.1), (.int .i64 (IntKind.wrap .i64 ((1 : Int) + (IntKind.wrap .i64 (Int.tmod x5 (12 : Int))))))] (.int .i64) fun r8 =>
 J6 (r8, ()))
 (jn (σ := (Int × Unit)) (fun s10 => /- e -/
 J6 (s10.1, ()))
 (fun J9 =>
 brB (decide (x5 < (200 : Int)))
 (callT Try.prog fn_order_Order_Decay #[(.pointer r0.1)] (.int .i64) fun r11 =>
 J9 (r11, ()))
 (jn (σ := (Int × Unit)) (fun s13 => /- e -/
 J9 (s13.1, ()))
 (fun J12 =>
 brB (decide (x5 < (220 : Int)))
 (nz (12 : Int) <|
 callT Try.prog fn_order_Order_Remove #[(.pointer r0.1), (.int .i64 (IntKind.wrap .i64 ((1 : Int) + (IntKind.wrap .i64 (Int.tmod x5 (12 : Int))))))] (.int .i64) fun r14 =>
 J12 (r14, ()))
 (callT Try.prog fn_order_Order_Pop #[(.pointer r0.1)] (.tup (.cons (.int .i64) (.cons .bool .nil))) fun r15 =>
 J12 (s3.2.1, ()))))))))
 (K (r0.1, true, ())))
 ((0 : Int), r0.2.1, false, none, ())))
set_option maxRecDepth 100000 in
theorem E_salvorlaw11_put (a0 : Sl) (K : (Option Addr × (Bool × Unit)) → HP) (h : Heap) : fnVC Try.prog [] 58 Try.f11 [(.slice a0.a a0.len a0.cap)] (.tup (.cons .ptr (.cons .bool .nil))) K h = F_salvorlaw11_put a0 K h := by kernel_rfl
set_option maxRecDepth 100000 in
theorem S_salvorlaw11_put{h : Heap} {a0 : Sl} (K : (Option Addr × (Bool × Unit)) → HP) (hF : F_salvorlaw11_put a0 K h) : CallsH Try.prog fn_salvorlaw11_put #[(.slice a0.a a0.len a0.cap)] h fun v h' => ∃ x : (Option Addr × (Bool × Unit)), v = Ty.enc (.tup (.cons .ptr (.cons .bool .nil))) x ∧ K x h' :=
  callsH_of_fn (P := Try.prog) (fn := Try.f11) (τ := (.tup (.cons .ptr (.cons .bool .nil)))) follows Try.func11 (by kernel_rfl) (by kernel_rfl) Try.call11 (Eq.mpr (E_salvorlaw11_put a0 K h) hF)

/-- (*salvor/order.Order).Step -/
def F_order_Order_Step (a0 : Option Addr) (K : Int → HP) : HP :=
 callT Try.prog fn_order_Order_is #[(.pointer a0)] .bool fun r0 =>
 brB (!r0)
 (K (0 : Int))
 (nn a0 fun p1 =>
 ldT (.int .i64) (p1.add 3) fun x2 =>
 K x2)
set_option maxRecDepth 100000 in
theorem E_order_Order_Step (a0 : Option Addr) (K : Int → HP) (h : Heap) : fnVC Try.prog [] 10 Try.f12 [(.pointer a0)] (.int .i64) K h = F_order_Order_Step a0 K h := by kernel_rfl
set_option maxRecDepth 100000 in
theorem S_order_Order_Step{h : Heap} {a0 : Option Addr} (K : Int → HP) (hF : F_order_Order_Step a0 K h) : CallsH Try.prog fn_order_Order_Step #[(.pointer a0)] h fun v h' => ∃ x : Int, v = Ty.enc (.int .i64) x ∧ K x h' :=
  callsH_of_fn (P := Try.prog) (fn := Try.f12) (τ := (.int .i64)) follows Try.func12 (by kernel_rfl) (by kernel_rfl) Try.call12 (Eq.mpr (E_order_Order_Step a0 K h) hF)

/-- (*salvor/order.Order).Activity -/
def F_order_Order_Activity (a0 : Option Addr) (a1 : Int) (K : (Int × (Int × Unit)) → HP) : HP :=
 callT Try.prog fn_order_Order_wrong #[(.pointer a0), (.int .i64 a1)] (.int .i64) fun r0 =>
 brB (r0 != (0 : Int))
 (K ((0 : Int), r0, ()))
 (nn a0 fun p1 =>
 ldT .sl p1 fun x2 =>
 sx x2.a x2.len a1 1 fun p3 =>
 ldT (.int .i64) p3 fun x4 =>
 K (x4, (0 : Int), ()))
set_option maxRecDepth 100000 in
theorem E_order_Order_Activity (a0 : Option Addr) (a1 : Int) (K : (Int × (Int × Unit)) → HP) (h : Heap) : fnVC Try.prog [] 20 Try.f13 [(.pointer a0), (.int .i64 a1)] (.tup (.cons (.int .i64) (.cons (.int .i64) .nil))) K h = F_order_Order_Activity a0 a1 K h := by kernel_rfl
set_option maxRecDepth 100000 in
theorem S_order_Order_Activity{h : Heap} {a0 : Option Addr} {a1 : Int} (K : (Int × (Int × Unit)) → HP) (hF : F_order_Order_Activity a0 a1 K h) : CallsH Try.prog fn_order_Order_Activity #[(.pointer a0), (.int .i64 a1)] h fun v h' => ∃ x : (Int × (Int × Unit)), v = Ty.enc (.tup (.cons (.int .i64) (.cons (.int .i64) .nil))) x ∧ K x h' :=
  callsH_of_fn (P := Try.prog) (fn := Try.f13) (τ := (.tup (.cons (.int .i64) (.cons (.int .i64) .nil)))) follows Try.func13 (by kernel_rfl) (by kernel_rfl) Try.call13 (Eq.mpr (E_order_Order_Activity a0 a1 K h) hF)

/-- (*salvor/order.Order).Decay -/
def F_order_Order_Decay (a0 : Option Addr) (K : Int → HP) : HP :=
 callT Try.prog fn_order_Order_is #[(.pointer a0)] .bool fun r0 =>
 brB (!r0)
 (K (1 : Int))
 (nn a0 fun p1 =>
 ldT (.int .i64) (p1.add 3) fun x2 =>
 nn a0 fun p3 =>
 ldT (.int .i64) (p3.add 3) fun x4 =>
 nz (16 : Int) <|
 brB (decide ((IntKind.wrap .i64 ((IntKind.wrap .i64 (x2 + (IntKind.wrap .i64 (Int.tdiv x4 (16 : Int))))) + (1 : Int))) > (1125899906842624 : Int)))
 (K (4 : Int))
 (nn a0 fun p5 =>
 st1 (p5.add 3) (.int .i64 (IntKind.wrap .i64 ((IntKind.wrap .i64 (x2 + (IntKind.wrap .i64 (Int.tdiv x4 (16 : Int))))) + (1 : Int)))) <|
 K (0 : Int)))
set_option maxRecDepth 100000 in
theorem E_order_Order_Decay (a0 : Option Addr) (K : Int → HP) (h : Heap) : fnVC Try.prog [] 24 Try.f14 [(.pointer a0)] (.int .i64) K h = F_order_Order_Decay a0 K h := by kernel_rfl
set_option maxRecDepth 100000 in
theorem S_order_Order_Decay{h : Heap} {a0 : Option Addr} (K : Int → HP) (hF : F_order_Order_Decay a0 K h) : CallsH Try.prog fn_order_Order_Decay #[(.pointer a0)] h fun v h' => ∃ x : Int, v = Ty.enc (.int .i64) x ∧ K x h' :=
  callsH_of_fn (P := Try.prog) (fn := Try.f14) (τ := (.int .i64)) follows Try.func14 (by kernel_rfl) (by kernel_rfl) Try.call14 (Eq.mpr (E_order_Order_Decay a0 K h) hF)

/-- (*salvor/order.Order).Bump -/
def F_order_Order_Bump (a0 : Option Addr) (a1 : Int) (K : Int → HP) : HP :=
 nw #[(.pointer a0)] 24 fun b0 =>
 ldT .ptr (⟨b0, 0, none⟩ : Addr) fun x1 =>
 callT Try.prog fn_order_Order_wrong #[(.pointer x1), (.int .i64 a1)] (.int .i64) fun r2 =>
 brB (r2 != (0 : Int))
 (K r2)
 (ldT .ptr (⟨b0, 0, none⟩ : Addr) fun x3 =>
 nn x3 fun p4 =>
 ldT .sl p4 fun x5 =>
 sx x5.a x5.len a1 1 fun p6 =>
 ldT (.int .i64) p6 fun x7 =>
 ldT .ptr (⟨b0, 0, none⟩ : Addr) fun x8 =>
 nn x8 fun p9 =>
 ldT (.int .i64) (p9.add 3) fun x10 =>
 sx x5.a x5.len a1 1 fun p11 =>
 st1 p11 (.int .i64 (IntKind.wrap .i64 (x7 + x10))) <|
 ldT .ptr (⟨b0, 0, none⟩ : Addr) fun x12 =>
 nn x12 fun p13 =>
 ldT .sl p13 fun x14 =>
 sx x14.a x14.len a1 1 fun p15 =>
 ldT (.int .i64) p15 fun x16 =>
 jn (σ := Unit) (fun s18 => /- -/
 ldT .ptr (⟨b0, 0, none⟩ : Addr) fun x19 =>
 nn x19 fun p20 =>
 ldT .sl (p20.add 2) fun x21 =>
 sx x21.a x21.len a1 1 fun p22 =>
 ldT (.int .i64) p22 fun x23 =>
 jn (σ := Unit) (fun s25 => /- -/
 K (0 : Int))
 (fun J24 =>
 brB (decide (x23 ≥ (0 : Int)))
 (ldT .ptr (⟨b0, 0, none⟩ : Addr) fun x26 =>
 ldT .ptr (⟨b0, 0, none⟩ : Addr) fun x27 =>
 nn x27 fun p28 =>
 ldT .sl (p28.add 2) fun x29 =>
 sx x29.a x29.len a1 1 fun p30 =>
 ldT (.int .i64) p30 fun x31 =>
 callT Try.prog fn_order_Order_up #[(.pointer x26), (.int .i64 x31)] (.tup .nil) fun r32 =>
 J24 (()))
 (J24 (()))))
 (fun J17 =>
 brB (decide (x16 > (1125899906842624 : Int)))
 (ldT .ptr (⟨b0, 0, none⟩ : Addr) fun x33 =>
 nn x33 fun p34 =>
 ldT .sl p34 fun x35 =>
 lfp (σ := (Int × Unit)) (fun X36 s37 => /-  -/
 brB (decide (s37.1 < (x35.len : Int)))
 (ldT .ptr (⟨b0, 0, none⟩ : Addr) fun x38 =>
 nn x38 fun p39 =>
 ldT .sl p39 fun x40 =>
 sx x40.a x40.len s37.1 1 fun p41 =>
 ldT (.int .i64) p41 fun x42 =>
 ge0 (30 : Int) <|
 sx x40.a x40.len s37.1 1 fun p43 =>
 st1 p43 (.int .i64 (Int.fdiv x42 (2 ^ (min ((30 : Int)).toNat 64)))) <|
 X36 ((IntKind.wrap .i64 (s37.1 + (1 : Int))), ()))
 (ldT .ptr (⟨b0, 0, none⟩ : Addr) fun x44 =>
 ldT .ptr (⟨b0, 0, none⟩ : Addr) fun x45 =>
 nn x45 fun p46 =>
 ldT (.int .i64) (p46.add 3) fun x47 =>
 ge0 (30 : Int) <|
 nn x44 fun p48 =>
 st1 (p48.add 3) (.int .i64 (if (1 : Int) > (Int.fdiv x47 (2 ^ (min ((30 : Int)).toNat 64))) then (1 : Int) else (Int.fdiv x47 (2 ^ (min ((30 : Int)).toNat 64))))) <|
 ldT .ptr (⟨b0, 0, none⟩ : Addr) fun x49 =>
 nn x49 fun p50 =>
 ldT .sl (p50.add 1) fun x51 =>
 callT Try.prog fn_slices_SortFunc_int_int #[(.slice x51.a x51.len x51.cap), (.func (.func 36) #[] #[(.pointer (some (⟨b0, 0, none⟩ : Addr)))])] (.tup .nil) fun r52 =>
 ldT .ptr (⟨b0, 0, none⟩ : Addr) fun x53 =>
 nn x53 fun p54 =>
 ldT .sl (p54.add 1) fun x55 =>
 lfp (σ := (Int × Unit)) (fun X56 s57 => /-  -/
 brB (decide (s57.1 < (x55.len : Int)))
 (sx x55.a x55.len s57.1 1 fun p58 =>
 ldT (.int .i64) p58 fun x59 =>
 ldT .ptr (⟨b0, 0, none⟩ : Addr) fun x60 =>
 nn x60 fun p61 =>
 ldT .sl (p61.add 2) fun x62 =>
 sx x62.a x62.len x59 1 fun p63 =>
 st1 p63 (.int .i64 s57.1) <|
 X56 ((IntKind.wrap .i64 (s57.1 + (1 : Int))), ()))
 (J17 (())))
 ((0 : Int), ())))
 ((0 : Int), ()))
 (J17 (()))))
set_option maxRecDepth 100000 in
theorem E_order_Order_Bump (a0 : Option Addr) (a1 : Int) (K : Int → HP) (h : Heap) : fnVC Try.prog [] 104 Try.f15 [(.pointer a0), (.int .i64 a1)] (.int .i64) K h = F_order_Order_Bump a0 a1 K h := by kernel_rfl
set_option maxRecDepth 100000 in
theorem S_order_Order_Bump{h : Heap} {a0 : Option Addr} {a1 : Int} (K : Int → HP) (hF : F_order_Order_Bump a0 a1 K h) : CallsH Try.prog fn_order_Order_Bump #[(.pointer a0), (.int .i64 a1)] h fun v h' => ∃ x : Int, v = Ty.enc (.int .i64) x ∧ K x h' :=
  callsH_of_fn (P := Try.prog) (fn := Try.f15) (τ := (.int .i64)) follows Try.func15 (by kernel_rfl) (by kernel_rfl) Try.call15 (Eq.mpr (E_order_Order_Bump a0 a1 K h) hF)

/-- salvor/salvorlaw11.list -/
def F_salvorlaw11_list (a0 : Option Addr) (K : (Sl × (Bool × Unit)) → HP) : HP := fun h0 => (
 nw #[(.slice none 0 0)] 35 fun b0 =>
 nw #[(.bool false)] 4 fun b1 =>
 nw #[(.slice none 0 0)] 35 fun b2 =>
 callT Try.prog fn_order_Order_All #[(.pointer a0)] .val fun r3 =>
 RangeVC Try.prog (.cons (.int .i64) .nil) r3 (fun x4 wrap5 next6 jump7 =>
 wrap5 <|
 ldT .sl (⟨b2, 0, none⟩ : Addr) fun x8 =>
 nw #[(.int .i64 x4.1)] 3 fun b9 =>
 apd 3 1 8 #[(.int .i64 (0 : Int))] ⟨x8.a, x8.len, x8.cap⟩ ⟨(some (⟨b9, 0, none⟩ : Addr)), 1, 1⟩ fun s10 =>
 st1 (⟨b2, 0, none⟩ : Addr) (.slice s10.a s10.len s10.cap) <|
 ldT .sl (⟨b2, 0, none⟩ : Addr) fun x11 =>
 brB (decide ((x11.len : Int) > (5000 : Int)))
 (st1 (⟨b0, 0, none⟩ : Addr) (.slice none 0 0) <|
 st1 (⟨b1, 0, none⟩ : Addr) (.bool false) <|
 jump7 .ret)
 (next6))
 (ldT .sl (⟨b2, 0, none⟩ : Addr) fun x12 =>
 st1 (⟨b0, 0, none⟩ : Addr) (.slice x12.a x12.len x12.cap) <|
 st1 (⟨b1, 0, none⟩ : Addr) (.bool true) <|
 mkd h0.size <|
 ldT .sl (⟨b0, 0, none⟩ : Addr) fun x13 =>
 ldT .bool (⟨b1, 0, none⟩ : Addr) fun x14 =>
 K (⟨x13.a, x13.len, x13.cap⟩, x14, ()))
 (mkd h0.size <|
 ldT .sl (⟨b0, 0, none⟩ : Addr) fun x15 =>
 ldT .bool (⟨b1, 0, none⟩ : Addr) fun x16 =>
 K (⟨x15.a, x15.len, x15.cap⟩, x16, ()))
 []
 []) h0
set_option maxRecDepth 100000 in
theorem E_salvorlaw11_list (a0 : Option Addr) (K : (Sl × (Bool × Unit)) → HP) (h : Heap) : fnVC Try.prog [(8, (.cons (.int .i64) .nil))] 17 Try.f16 [(.pointer a0)] (.tup (.cons .sl (.cons .bool .nil))) K h = F_salvorlaw11_list a0 K h := by kernel_rfl
set_option maxRecDepth 100000 in
theorem S_salvorlaw11_list{h : Heap} {a0 : Option Addr} (K : (Sl × (Bool × Unit)) → HP) (hF : F_salvorlaw11_list a0 K h) : CallsH Try.prog fn_salvorlaw11_list #[(.pointer a0)] h fun v h' => ∃ x : (Sl × (Bool × Unit)), v = Ty.enc (.tup (.cons .sl (.cons .bool .nil))) x ∧ K x h' :=
  callsH_of_fn (P := Try.prog) (fn := Try.f16) (τ := (.tup (.cons .sl (.cons .bool .nil)))) follows Try.func16 (by kernel_rfl) (by kernel_rfl) Try.call16 (Eq.mpr (E_salvorlaw11_list a0 K h) hF)

/-- (*salvor/order.Order).Len -/
def F_order_Order_Len (a0 : Option Addr) (K : Int → HP) : HP :=
 callT Try.prog fn_order_Order_is #[(.pointer a0)] .bool fun r0 =>
 brB (!r0)
 (K (0 : Int))
 (nn a0 fun p1 =>
 ldT .sl (p1.add 1) fun x2 =>
 K (x2.len : Int))
set_option maxRecDepth 100000 in
theorem E_order_Order_Len (a0 : Option Addr) (K : Int → HP) (h : Heap) : fnVC Try.prog [] 11 Try.f17 [(.pointer a0)] (.int .i64) K h = F_order_Order_Len a0 K h := by kernel_rfl
set_option maxRecDepth 100000 in
theorem S_order_Order_Len{h : Heap} {a0 : Option Addr} (K : Int → HP) (hF : F_order_Order_Len a0 K h) : CallsH Try.prog fn_order_Order_Len #[(.pointer a0)] h fun v h' => ∃ x : Int, v = Ty.enc (.int .i64) x ∧ K x h' :=
  callsH_of_fn (P := Try.prog) (fn := Try.f17) (τ := (.int .i64)) follows Try.func17 (by kernel_rfl) (by kernel_rfl) Try.call17 (Eq.mpr (E_order_Order_Len a0 K h) hF)

/-- salvor/salvorlaw11.awake -/
def F_salvorlaw11_awake (K : Bool → HP) : HP :=
 callT Try.prog fn_order_New #[(.int .i64 (3 : Int))] (.tup (.cons .ptr (.cons (.int .i64) .nil))) fun r0 =>
 brB (r0.2.1 != (0 : Int))
 (K false)
 (brB (Option.isNone r0.1)
 (K false)
 (callT Try.prog fn_order_Order_Bump #[(.pointer r0.1), (.int .i64 (3 : Int))] (.int .i64) fun r1 =>
 brB (r1 != (0 : Int))
 (K false)
 (callT Try.prog fn_order_Order_Activity #[(.pointer r0.1), (.int .i64 (3 : Int))] (.tup (.cons (.int .i64) (.cons (.int .i64) .nil))) fun r2 =>
 callT Try.prog fn_salvorlaw11_list #[(.pointer r0.1)] (.tup (.cons .sl (.cons .bool .nil))) fun r3 =>
 brB (r2.2.1 != (0 : Int))
 (K false)
 (brB (r2.1 != (1024 : Int))
 (K false)
 (brB (!r3.2.1)
 (K false)
 (nw #[(.int .i64 (3 : Int)), (.int .i64 (1 : Int)), (.int .i64 (2 : Int))] 3 fun b4 =>
 callT Try.prog fn_slices_Equal_int_int #[(.slice r3.1.a r3.1.len r3.1.cap), (.slice (some (⟨b4, 0, none⟩ : Addr)) 3 3)] .bool fun r5 =>
 brB (!r5)
 (K false)
 (callT Try.prog fn_order_Order_Decay #[(.pointer r0.1)] (.int .i64) fun r6 =>
 brB (r6 != (0 : Int))
 (K false)
 (callT Try.prog fn_order_Order_Step #[(.pointer r0.1)] (.int .i64) fun r7 =>
 brB (r7 != (1089 : Int))
 (K false)
 (callT Try.prog fn_order_Order_Bump #[(.pointer r0.1), (.int .i64 (2 : Int))] (.int .i64) fun r8 =>
 brB (r8 != (0 : Int))
 (K false)
 (callT Try.prog fn_salvorlaw11_list #[(.pointer r0.1)] (.tup (.cons .sl (.cons .bool .nil))) fun r9 =>
 callT Try.prog fn_order_Order_Pop #[(.pointer r0.1)] (.tup (.cons (.int .i64) (.cons .bool .nil))) fun r10 =>
 callT Try.prog fn_order_Order_Peek #[(.pointer r0.1)] (.tup (.cons (.int .i64) (.cons .bool .nil))) fun r11 =>
 brB (!r9.2.1)
 (K false)
 (nw #[(.int .i64 (2 : Int)), (.int .i64 (3 : Int)), (.int .i64 (1 : Int))] 3 fun b12 =>
 callT Try.prog fn_slices_Equal_int_int #[(.slice r9.1.a r9.1.len r9.1.cap), (.slice (some (⟨b12, 0, none⟩ : Addr)) 3 3)] .bool fun r13 =>
 brB (!r13)
 (K false)
 (brB (r10.1 != (2 : Int))
 (K false)
 (brB (r11.1 != (3 : Int))
 (K false)
 (brB (!r10.2.1)
 (K false)
 (brB (!r11.2.1)
 (K false)
 (callT Try.prog fn_order_Order_Push #[(.pointer r0.1), (.int .i64 (2 : Int))] (.int .i64) fun r14 =>
 brB (r14 != (0 : Int))
 (K false)
 (callT Try.prog fn_order_Order_Bump #[(.pointer r0.1), (.int .i64 (4 : Int))] (.int .i64) fun r15 =>
 brB (r15 != (110 : Int))
 (K false)
 (callT Try.prog fn_salvorlaw11_list #[(.pointer r0.1)] (.tup (.cons .sl (.cons .bool .nil))) fun r16 =>
 brB r16.2.1
 (callT Try.prog fn_slices_Equal_int_int #[(.slice r16.1.a r16.1.len r16.1.cap), (.slice r9.1.a r9.1.len r9.1.cap)] .bool fun r17 =>
 brB r17
 (callT Try.prog fn_order_Order_Len #[(.pointer r0.1)] (.int .i64) fun r18 =>
 K (r18 == (3 : Int)))
 (K false))
 (K false)))))))))))))))))))
set_option maxRecDepth 100000 in
theorem E_salvorlaw11_awake (K : Bool → HP) (h : Heap) : fnVC Try.prog [] 136 Try.f18 [] .bool K h = F_salvorlaw11_awake K h := by kernel_rfl
set_option maxRecDepth 100000 in
theorem S_salvorlaw11_awake{h : Heap} (K : Bool → HP) (hF : F_salvorlaw11_awake K h) : CallsH Try.prog fn_salvorlaw11_awake #[] h fun v h' => ∃ x : Bool, v = Ty.enc .bool x ∧ K x h' :=
  callsH_of_fn (P := Try.prog) (fn := Try.f18) (τ := .bool) follows Try.func18 (by kernel_rfl) (by kernel_rfl) Try.call18 (Eq.mpr (E_salvorlaw11_awake K h) hF)

/-- (*salvor/order.Order).All -/
def F_order_Order_All (a0 : Option Addr) (K : Value → HP) : HP :=
 nw #[(.pointer a0)] 24 fun b0 =>
 K (.func (.func 39) #[] #[(.pointer (some (⟨b0, 0, none⟩ : Addr)))])
set_option maxRecDepth 100000 in
theorem E_order_Order_All (a0 : Option Addr) (K : Value → HP) (h : Heap) : fnVC Try.prog [] 4 Try.f19 [(.pointer a0)] .val K h = F_order_Order_All a0 K h := by kernel_rfl
set_option maxRecDepth 100000 in
theorem S_order_Order_All{h : Heap} {a0 : Option Addr} (K : Value → HP) (hF : F_order_Order_All a0 K h) : CallsH Try.prog fn_order_Order_All #[(.pointer a0)] h fun v h' => ∃ x : Value, v = Ty.enc .val x ∧ K x h' :=
  callsH_of_fn (P := Try.prog) (fn := Try.f19) (τ := .val) follows Try.func19 (by kernel_rfl) (by kernel_rfl) Try.call19 (Eq.mpr (E_order_Order_All a0 K h) hF)

/-- (*salvor/order.Order).Remove -/
def F_order_Order_Remove (a0 : Option Addr) (a1 : Int) (K : Int → HP) : HP :=
 callT Try.prog fn_order_Order_wrong #[(.pointer a0), (.int .i64 a1)] (.int .i64) fun r0 =>
 brB (r0 != (0 : Int))
 (K r0)
 (nn a0 fun p1 =>
 ldT .sl (p1.add 2) fun x2 =>
 sx x2.a x2.len a1 1 fun p3 =>
 ldT (.int .i64) p3 fun x4 =>
 brB (decide (x4 < (0 : Int)))
 (K (0 : Int))
 (nn a0 fun p5 =>
 ldT .sl (p5.add 1) fun x6 =>
 nn a0 fun p7 =>
 ldT .sl (p7.add 1) fun x8 =>
 sx x8.a x8.len (IntKind.wrap .i64 ((x6.len : Int) - (1 : Int))) 1 fun p9 =>
 ldT (.int .i64) p9 fun x10 =>
 nn a0 fun p11 =>
 ldT .sl (p11.add 1) fun x12 =>
 slH ⟨x12.a, x12.len, x12.cap⟩ (IntKind.wrap .i64 ((x6.len : Int) - (1 : Int))) 1 fun s13 =>
 nn a0 fun p14 =>
 st1 (p14.add 1) (.slice s13.a s13.len s13.cap) <|
 nn a0 fun p15 =>
 ldT .sl (p15.add 2) fun x16 =>
 sx x16.a x16.len a1 1 fun p17 =>
 st1 p17 (.int .i64 (-1 : Int)) <|
 jn (σ := Unit) (fun s19 => /- -/
 K (0 : Int))
 (fun J18 =>
 brB (decide (x4 < (IntKind.wrap .i64 ((x6.len : Int) - (1 : Int)))))
 (callT Try.prog fn_order_Order_put #[(.pointer a0), (.int .i64 x4), (.int .i64 x10)] (.tup .nil) fun r20 =>
 callT Try.prog fn_order_Order_up #[(.pointer a0), (.int .i64 x4)] (.tup .nil) fun r21 =>
 nn a0 fun p22 =>
 ldT .sl (p22.add 2) fun x23 =>
 sx x23.a x23.len x10 1 fun p24 =>
 ldT (.int .i64) p24 fun x25 =>
 callT Try.prog fn_order_Order_down #[(.pointer a0), (.int .i64 x25)] (.tup .nil) fun r26 =>
 J18 (()))
 (J18 (())))))
set_option maxRecDepth 100000 in
theorem E_order_Order_Remove (a0 : Option Addr) (a1 : Int) (K : Int → HP) (h : Heap) : fnVC Try.prog [] 71 Try.f20 [(.pointer a0), (.int .i64 a1)] (.int .i64) K h = F_order_Order_Remove a0 a1 K h := by kernel_rfl
set_option maxRecDepth 100000 in
theorem S_order_Order_Remove{h : Heap} {a0 : Option Addr} {a1 : Int} (K : Int → HP) (hF : F_order_Order_Remove a0 a1 K h) : CallsH Try.prog fn_order_Order_Remove #[(.pointer a0), (.int .i64 a1)] h fun v h' => ∃ x : Int, v = Ty.enc (.int .i64) x ∧ K x h' :=
  callsH_of_fn (P := Try.prog) (fn := Try.f20) (τ := (.int .i64)) follows Try.func20 (by kernel_rfl) (by kernel_rfl) Try.call20 (Eq.mpr (E_order_Order_Remove a0 a1 K h) hF)

/-- (*salvor/order.Order).Push -/
def F_order_Order_Push (a0 : Option Addr) (a1 : Int) (K : Int → HP) : HP :=
 callT Try.prog fn_order_Order_wrong #[(.pointer a0), (.int .i64 a1)] (.int .i64) fun r0 =>
 brB (r0 != (0 : Int))
 (K r0)
 (nn a0 fun p1 =>
 ldT .sl (p1.add 2) fun x2 =>
 sx x2.a x2.len a1 1 fun p3 =>
 ldT (.int .i64) p3 fun x4 =>
 jn (σ := Unit) (fun s6 => /- -/
 K (0 : Int))
 (fun J5 =>
 brB (decide (x4 < (0 : Int)))
 (nn a0 fun p7 =>
 ldT .sl (p7.add 2) fun x8 =>
 nn a0 fun p9 =>
 ldT .sl (p9.add 1) fun x10 =>
 sx x8.a x8.len a1 1 fun p11 =>
 st1 p11 (.int .i64 (x10.len : Int)) <|
 nn a0 fun p12 =>
 ldT .sl (p12.add 1) fun x13 =>
 nw #[(.int .i64 a1)] 3 fun b14 =>
 apd 3 1 8 #[(.int .i64 (0 : Int))] ⟨x13.a, x13.len, x13.cap⟩ ⟨(some (⟨b14, 0, none⟩ : Addr)), 1, 1⟩ fun s15 =>
 nn a0 fun p16 =>
 st1 (p16.add 1) (.slice s15.a s15.len s15.cap) <|
 nn a0 fun p17 =>
 ldT .sl (p17.add 2) fun x18 =>
 sx x18.a x18.len a1 1 fun p19 =>
 ldT (.int .i64) p19 fun x20 =>
 callT Try.prog fn_order_Order_up #[(.pointer a0), (.int .i64 x20)] (.tup .nil) fun r21 =>
 J5 (()))
 (J5 (()))))
set_option maxRecDepth 100000 in
theorem E_order_Order_Push (a0 : Option Addr) (a1 : Int) (K : Int → HP) (h : Heap) : fnVC Try.prog [] 50 Try.f21 [(.pointer a0), (.int .i64 a1)] (.int .i64) K h = F_order_Order_Push a0 a1 K h := by kernel_rfl
set_option maxRecDepth 100000 in
theorem S_order_Order_Push{h : Heap} {a0 : Option Addr} {a1 : Int} (K : Int → HP) (hF : F_order_Order_Push a0 a1 K h) : CallsH Try.prog fn_order_Order_Push #[(.pointer a0), (.int .i64 a1)] h fun v h' => ∃ x : Int, v = Ty.enc (.int .i64) x ∧ K x h' :=
  callsH_of_fn (P := Try.prog) (fn := Try.f21) (τ := (.int .i64)) follows Try.func21 (by kernel_rfl) (by kernel_rfl) Try.call21 (Eq.mpr (E_order_Order_Push a0 a1 K h) hF)

/-- (*salvor/order.Order).Has -/
def F_order_Order_Has (a0 : Option Addr) (a1 : Int) (K : Bool → HP) : HP :=
 callT Try.prog fn_order_Order_wrong #[(.pointer a0), (.int .i64 a1)] (.int .i64) fun r0 =>
 brB (r0 == (0 : Int))
 (nn a0 fun p1 =>
 ldT .sl (p1.add 2) fun x2 =>
 sx x2.a x2.len a1 1 fun p3 =>
 ldT (.int .i64) p3 fun x4 =>
 K (decide (x4 ≥ (0 : Int))))
 (K false)
set_option maxRecDepth 100000 in
theorem E_order_Order_Has (a0 : Option Addr) (a1 : Int) (K : Bool → HP) (h : Heap) : fnVC Try.prog [] 19 Try.f22 [(.pointer a0), (.int .i64 a1)] .bool K h = F_order_Order_Has a0 a1 K h := by kernel_rfl
set_option maxRecDepth 100000 in
theorem S_order_Order_Has{h : Heap} {a0 : Option Addr} {a1 : Int} (K : Bool → HP) (hF : F_order_Order_Has a0 a1 K h) : CallsH Try.prog fn_order_Order_Has #[(.pointer a0), (.int .i64 a1)] h fun v h' => ∃ x : Bool, v = Ty.enc .bool x ∧ K x h' :=
  callsH_of_fn (P := Try.prog) (fn := Try.f22) (τ := .bool) follows Try.func22 (by kernel_rfl) (by kernel_rfl) Try.call22 (Eq.mpr (E_order_Order_Has a0 a1 K h) hF)

/-- salvor/order.New -/
def F_order_New (a0 : Int) (K : (Option Addr × (Int × Unit)) → HP) : HP :=
 brB (decide (a0 < (0 : Int)))
 (K (none, (2 : Int), ()))
 (brB (decide (a0 > (1048576 : Int)))
 (K (none, (2 : Int), ()))
 (cj
 (mks 3 1 8 #[(.int .i64 (0 : Int))] (IntKind.wrap .i64 (a0 + (1 : Int))) (IntKind.wrap .i64 (a0 + (1 : Int))) fun s0 =>
 mks 3 1 8 #[(.int .i64 (0 : Int))] (IntKind.wrap .i64 (a0 + (1 : Int))) (IntKind.wrap .i64 (a0 + (1 : Int))) fun s1 =>
 nw #[(.slice s0.a s0.len s0.cap), (.slice none 0 0), (.slice s1.a s1.len s1.cap), (.int .i64 (1024 : Int)), (.bool true)] 56 fun b2 =>
 lfp (σ := (Int × Unit)) (fun X3 s4 => /- v -/
 brB (decide (s4.1 ≤ a0))
 (ldT .sl ((⟨b2, 0, none⟩ : Addr).add 2) fun x5 =>
 ldT .sl ((⟨b2, 0, none⟩ : Addr).add 1) fun x6 =>
 sx x5.a x5.len s4.1 1 fun p7 =>
 st1 p7 (.int .i64 (x6.len : Int)) <|
 ldT .sl ((⟨b2, 0, none⟩ : Addr).add 1) fun x8 =>
 nw #[(.int .i64 s4.1)] 3 fun b9 =>
 apd 3 1 8 #[(.int .i64 (0 : Int))] ⟨x8.a, x8.len, x8.cap⟩ ⟨(some (⟨b9, 0, none⟩ : Addr)), 1, 1⟩ fun s10 =>
 st1 ((⟨b2, 0, none⟩ : Addr).add 1) (.slice s10.a s10.len s10.cap) <|
 X3 ((IntKind.wrap .i64 (s4.1 + (1 : Int))), ()))
 (K ((some (⟨b2, 0, none⟩ : Addr)), (0 : Int), ())))
 ((1 : Int), ()))
 (mks 3 1 8 #[(.int .i64 (0 : Int))] (IntKind.wrap .i64 (a0 + (1 : Int))) (IntKind.wrap .i64 (a0 + (1 : Int))) fun s11 =>
 mks 3 1 8 #[(.int .i64 (0 : Int))] (IntKind.wrap .i64 (a0 + (1 : Int))) (IntKind.wrap .i64 (a0 + (1 : Int))) fun s12 =>
 nw #[(.slice s12.a s12.len s12.cap), (.slice none 0 0), (.slice s11.a s11.len s11.cap), (.int .i64 (1024 : Int)), (.bool true)] 56 fun b13 =>
 lfp (σ := (Int × Unit)) (fun X14 s15 => /- v -/
 brB (decide (s15.1 ≤ a0))
 (ldT .sl ((⟨b13, 0, none⟩ : Addr).add 2) fun x16 =>
 ldT .sl ((⟨b13, 0, none⟩ : Addr).add 1) fun x17 =>
 sx x16.a x16.len s15.1 1 fun p18 =>
 st1 p18 (.int .i64 (x17.len : Int)) <|
 ldT .sl ((⟨b13, 0, none⟩ : Addr).add 1) fun x19 =>
 nw #[(.int .i64 s15.1)] 3 fun b20 =>
 apd 3 1 8 #[(.int .i64 (0 : Int))] ⟨x19.a, x19.len, x19.cap⟩ ⟨(some (⟨b20, 0, none⟩ : Addr)), 1, 1⟩ fun s21 =>
 st1 ((⟨b13, 0, none⟩ : Addr).add 1) (.slice s21.a s21.len s21.cap) <|
 X14 ((IntKind.wrap .i64 (s15.1 + (1 : Int))), ()))
 (K ((some (⟨b13, 0, none⟩ : Addr)), (0 : Int), ())))
 ((1 : Int), ()))))
set_option maxRecDepth 100000 in
theorem E_order_New (a0 : Int) (K : (Option Addr × (Int × Unit)) → HP) (h : Heap) : fnVC Try.prog [] 47 Try.f23 [(.int .i64 a0)] (.tup (.cons .ptr (.cons (.int .i64) .nil))) K h = F_order_New a0 K h := by kernel_rfl
set_option maxRecDepth 100000 in
theorem S_order_New{h : Heap} {a0 : Int} (K : (Option Addr × (Int × Unit)) → HP) (hF : F_order_New a0 K h) : CallsH Try.prog fn_order_New #[(.int .i64 a0)] h fun v h' => ∃ x : (Option Addr × (Int × Unit)), v = Ty.enc (.tup (.cons .ptr (.cons (.int .i64) .nil))) x ∧ K x h' :=
  callsH_of_fn (P := Try.prog) (fn := Try.f23) (τ := (.tup (.cons .ptr (.cons (.int .i64) .nil)))) follows Try.func23 (by kernel_rfl) (by kernel_rfl) Try.call23 (Eq.mpr (E_order_New a0 K h) hF)

/-- slices.Equal[[]int,int] -/
def F_slices_Equal_int_int (a0 : Sl) (a1 : Sl) (K : Bool → HP) : HP :=
 brB ((a0.len : Int) != (a1.len : Int))
 (K false)
 (lfp (σ := (Int × (Bool × Unit))) (fun X0 s1 => /-   -/
 brB (decide (s1.1 < (a0.len : Int)))
 (sx a0.a a0.len s1.1 1 fun p2 =>
 ldT (.int .i64) p2 fun x3 =>
 sx a1.a a1.len s1.1 1 fun p4 =>
 ldT (.int .i64) p4 fun x5 =>
 brB (x3 != x5)
 (K false)
 (X0 ((IntKind.wrap .i64 (s1.1 + (1 : Int))), s1.2.1, ())))
 (K true))
 ((0 : Int), false, ()))
set_option maxRecDepth 100000 in
theorem E_slices_Equal_int_int (a0 : Sl) (a1 : Sl) (K : Bool → HP) (h : Heap) : fnVC Try.prog [] 26 Try.f24 [(.slice a0.a a0.len a0.cap), (.slice a1.a a1.len a1.cap)] .bool K h = F_slices_Equal_int_int a0 a1 K h := by kernel_rfl
set_option maxRecDepth 100000 in
theorem S_slices_Equal_int_int{h : Heap} {a0 : Sl} {a1 : Sl} (K : Bool → HP) (hF : F_slices_Equal_int_int a0 a1 K h) : CallsH Try.prog fn_slices_Equal_int_int #[(.slice a0.a a0.len a0.cap), (.slice a1.a a1.len a1.cap)] h fun v h' => ∃ x : Bool, v = Ty.enc .bool x ∧ K x h' :=
  callsH_of_fn (P := Try.prog) (fn := Try.f24) (τ := .bool) follows Try.func24 (by kernel_rfl) (by kernel_rfl) Try.call24 (Eq.mpr (E_slices_Equal_int_int a0 a1 K h) hF)

/-- salvor/salvorlaw11.plays -/
def F_salvorlaw11_plays (a0 : Int) (a1 : Sl) (K : Bool → HP) : HP :=
 callT Try.prog fn_order_New #[(.int .i64 a0)] (.tup (.cons .ptr (.cons (.int .i64) .nil))) fun r0 =>
 brB (decide (a0 < (0 : Int)))
 (brB (Option.isNone r0.1)
 (K (r0.2.1 == (2 : Int)))
 (K false))
 (brB (decide (a0 > (1048576 : Int)))
 (brB (Option.isNone r0.1)
 (K (r0.2.1 == (2 : Int)))
 (K false))
 (brB (r0.2.1 != (0 : Int))
 (K false)
 (brB (Option.isNone r0.1)
 (K false)
 (callT Try.prog fn_salvorref11_New #[(.int .i64 a0)] (.agg (.cons .sl (.cons .sl (.cons (.int .i64) .nil)))) fun r1 =>
 nw #[(.slice none 0 0), (.slice none 0 0), (.int .i64 (0 : Int))] 70 fun b2 =>
 st1 (⟨b2, 0, none⟩ : Addr) (.slice r1.1.a r1.1.len r1.1.cap) <|
 st1 ((⟨b2, 0, none⟩ : Addr).add 1) (.slice r1.2.1.a r1.2.1.len r1.2.1.cap) <|
 st1 ((⟨b2, 0, none⟩ : Addr).add 2) (.int .i64 r1.2.2.1) <|
 lfp (σ := (Int × (Bool × Unit))) (fun X3 s4 => /-   -/
 brB (decide (s4.1 < (a1.len : Int)))
 (sx a1.a a1.len s4.1 3 fun p5 =>
 ldA (.cons (.int .u8) (.cons (.int .i64) (.cons (.int .u16) .nil))) p5 fun x6 =>
 nw #[(.int .u8 (0 : Int)), (.int .i64 (0 : Int)), (.int .u16 (0 : Int))] 52 fun b7 =>
 st1 (⟨b7, 0, none⟩ : Addr) (.int .u8 x6.1) <|
 st1 ((⟨b7, 0, none⟩ : Addr).add 1) (.int .i64 x6.2.1) <|
 st1 ((⟨b7, 0, none⟩ : Addr).add 2) (.int .u16 x6.2.2.1) <|
 ldA (.cons .sl (.cons .sl (.cons (.int .i64) .nil))) (⟨b2, 0, none⟩ : Addr) fun x8 =>
 ldA (.cons (.int .u8) (.cons (.int .i64) (.cons (.int .u16) .nil))) (⟨b7, 0, none⟩ : Addr) fun x9 =>
 callT Try.prog fn_salvorlaw11_does #[(.pointer r0.1), (.agg #[(.slice x8.1.a x8.1.len x8.1.cap), (.slice x8.2.1.a x8.2.1.len x8.2.1.cap), (.int .i64 x8.2.2.1)]), (.agg #[(.int .u8 x9.1), (.int .i64 x9.2.1), (.int .u16 x9.2.2.1)])] (.tup (.cons (.agg (.cons .sl (.cons .sl (.cons (.int .i64) .nil)))) (.cons .bool .nil))) fun r10 =>
 st1 (⟨b2, 0, none⟩ : Addr) (.slice r10.1.1.a r10.1.1.len r10.1.1.cap) <|
 st1 ((⟨b2, 0, none⟩ : Addr).add 1) (.slice r10.1.2.1.a r10.1.2.1.len r10.1.2.1.cap) <|
 st1 ((⟨b2, 0, none⟩ : Addr).add 2) (.int .i64 r10.1.2.2.1) <|
 brB (!r10.2.1)
 (K false)
 (nz (4 : Int) <|
 brB ((Int.tmod s4.1 (4 : Int)) == (3 : Int))
 (ldA (.cons .sl (.cons .sl (.cons (.int .i64) .nil))) (⟨b2, 0, none⟩ : Addr) fun x11 =>
 callT Try.prog fn_salvorlaw11_same #[(.pointer r0.1), (.agg #[(.slice x11.1.a x11.1.len x11.1.cap), (.slice x11.2.1.a x11.2.1.len x11.2.1.cap), (.int .i64 x11.2.2.1)])] .bool fun r12 =>
 brB (!r12)
 (K false)
 (X3 ((IntKind.wrap .i64 (s4.1 + (1 : Int))), s4.2.1, ())))
 (X3 ((IntKind.wrap .i64 (s4.1 + (1 : Int))), s4.2.1, ()))))
 (ldA (.cons .sl (.cons .sl (.cons (.int .i64) .nil))) (⟨b2, 0, none⟩ : Addr) fun x13 =>
 callT Try.prog fn_salvorlaw11_same #[(.pointer r0.1), (.agg #[(.slice x13.1.a x13.1.len x13.1.cap), (.slice x13.2.1.a x13.2.1.len x13.2.1.cap), (.int .i64 x13.2.2.1)])] .bool fun r14 =>
 K r14))
 ((0 : Int), false, ())))))
set_option maxRecDepth 100000 in
theorem E_salvorlaw11_plays (a0 : Int) (a1 : Sl) (K : Bool → HP) (h : Heap) : fnVC Try.prog [] 67 Try.f25 [(.int .i64 a0), (.slice a1.a a1.len a1.cap)] .bool K h = F_salvorlaw11_plays a0 a1 K h := by kernel_rfl
set_option maxRecDepth 100000 in
theorem S_salvorlaw11_plays{h : Heap} {a0 : Int} {a1 : Sl} (K : Bool → HP) (hF : F_salvorlaw11_plays a0 a1 K h) : CallsH Try.prog fn_salvorlaw11_plays #[(.int .i64 a0), (.slice a1.a a1.len a1.cap)] h fun v h' => ∃ x : Bool, v = Ty.enc .bool x ∧ K x h' :=
  callsH_of_fn (P := Try.prog) (fn := Try.f25) (τ := .bool) follows Try.func25 (by kernel_rfl) (by kernel_rfl) Try.call25 (Eq.mpr (E_salvorlaw11_plays a0 a1 K h) hF)

/-- (*salvor/order.Order).Pop -/
def F_order_Order_Pop (a0 : Option Addr) (K : (Int × (Bool × Unit)) → HP) : HP :=
 callT Try.prog fn_order_Order_Peek #[(.pointer a0)] (.tup (.cons (.int .i64) (.cons .bool .nil))) fun r0 =>
 jn (σ := Unit) (fun s2 => /- -/
 K (r0.1, r0.2.1, ()))
 (fun J1 =>
 brB r0.2.1
 (callT Try.prog fn_order_Order_Remove #[(.pointer a0), (.int .i64 r0.1)] (.int .i64) fun r3 =>
 J1 (()))
 (J1 (())))
set_option maxRecDepth 100000 in
theorem E_order_Order_Pop (a0 : Option Addr) (K : (Int × (Bool × Unit)) → HP) (h : Heap) : fnVC Try.prog [] 17 Try.f26 [(.pointer a0)] (.tup (.cons (.int .i64) (.cons .bool .nil))) K h = F_order_Order_Pop a0 K h := by kernel_rfl
set_option maxRecDepth 100000 in
theorem S_order_Order_Pop{h : Heap} {a0 : Option Addr} (K : (Int × (Bool × Unit)) → HP) (hF : F_order_Order_Pop a0 K h) : CallsH Try.prog fn_order_Order_Pop #[(.pointer a0)] h fun v h' => ∃ x : (Int × (Bool × Unit)), v = Ty.enc (.tup (.cons (.int .i64) (.cons .bool .nil))) x ∧ K x h' :=
  callsH_of_fn (P := Try.prog) (fn := Try.f26) (τ := (.tup (.cons (.int .i64) (.cons .bool .nil)))) follows Try.func26 (by kernel_rfl) (by kernel_rfl) Try.call26 (Eq.mpr (E_order_Order_Pop a0 K h) hF)

/-- (*salvor/order.Order).Peek -/
def F_order_Order_Peek (a0 : Option Addr) (K : (Int × (Bool × Unit)) → HP) : HP :=
 callT Try.prog fn_order_Order_is #[(.pointer a0)] .bool fun r0 =>
 brB (!r0)
 (K ((0 : Int), false, ()))
 (nn a0 fun p1 =>
 ldT .sl (p1.add 1) fun x2 =>
 brB ((x2.len : Int) == (0 : Int))
 (K ((0 : Int), false, ()))
 (nn a0 fun p3 =>
 ldT .sl (p3.add 1) fun x4 =>
 sx x4.a x4.len (0 : Int) 1 fun p5 =>
 ldT (.int .i64) p5 fun x6 =>
 K (x6, true, ())))
set_option maxRecDepth 100000 in
theorem E_order_Order_Peek (a0 : Option Addr) (K : (Int × (Bool × Unit)) → HP) (h : Heap) : fnVC Try.prog [] 21 Try.f27 [(.pointer a0)] (.tup (.cons (.int .i64) (.cons .bool .nil))) K h = F_order_Order_Peek a0 K h := by kernel_rfl
set_option maxRecDepth 100000 in
theorem S_order_Order_Peek{h : Heap} {a0 : Option Addr} (K : (Int × (Bool × Unit)) → HP) (hF : F_order_Order_Peek a0 K h) : CallsH Try.prog fn_order_Order_Peek #[(.pointer a0)] h fun v h' => ∃ x : (Int × (Bool × Unit)), v = Ty.enc (.tup (.cons (.int .i64) (.cons .bool .nil))) x ∧ K x h' :=
  callsH_of_fn (P := Try.prog) (fn := Try.f27) (τ := (.tup (.cons (.int .i64) (.cons .bool .nil)))) follows Try.func27 (by kernel_rfl) (by kernel_rfl) Try.call27 (Eq.mpr (E_order_Order_Peek a0 K h) hF)

/-- (*salvor/order.Order).Vars -/
def F_order_Order_Vars (a0 : Option Addr) (K : Int → HP) : HP :=
 callT Try.prog fn_order_Order_is #[(.pointer a0)] .bool fun r0 =>
 brB (!r0)
 (K (0 : Int))
 (nn a0 fun p1 =>
 ldT .sl p1 fun x2 =>
 K (IntKind.wrap .i64 ((x2.len : Int) - (1 : Int))))
set_option maxRecDepth 100000 in
theorem E_order_Order_Vars (a0 : Option Addr) (K : Int → HP) (h : Heap) : fnVC Try.prog [] 12 Try.f28 [(.pointer a0)] (.int .i64) K h = F_order_Order_Vars a0 K h := by kernel_rfl
set_option maxRecDepth 100000 in
theorem S_order_Order_Vars{h : Heap} {a0 : Option Addr} (K : Int → HP) (hF : F_order_Order_Vars a0 K h) : CallsH Try.prog fn_order_Order_Vars #[(.pointer a0)] h fun v h' => ∃ x : Int, v = Ty.enc (.int .i64) x ∧ K x h' :=
  callsH_of_fn (P := Try.prog) (fn := Try.f28) (τ := (.int .i64)) follows Try.func28 (by kernel_rfl) (by kernel_rfl) Try.call28 (Eq.mpr (E_order_Order_Vars a0 K h) hF)

/-- slices.Index[[]int,int] -/
def F_slices_Index_int_int (a0 : Sl) (a1 : Int) (K : Int → HP) : HP :=
 lfp (σ := (Int × (Int × Unit))) (fun X0 s1 => /-   -/
 brB (decide (s1.1 < (a0.len : Int)))
 (sx a0.a a0.len s1.1 1 fun p2 =>
 ldT (.int .i64) p2 fun x3 =>
 brB (a1 == x3)
 (K s1.1)
 (X0 ((IntKind.wrap .i64 (s1.1 + (1 : Int))), s1.2.1, ())))
 (K (-1 : Int)))
 ((0 : Int), (0 : Int), ())
set_option maxRecDepth 100000 in
theorem E_slices_Index_int_int (a0 : Sl) (a1 : Int) (K : Int → HP) (h : Heap) : fnVC Try.prog [] 19 Try.f29 [(.slice a0.a a0.len a0.cap), (.int .i64 a1)] (.int .i64) K h = F_slices_Index_int_int a0 a1 K h := by kernel_rfl
set_option maxRecDepth 100000 in
theorem S_slices_Index_int_int{h : Heap} {a0 : Sl} {a1 : Int} (K : Int → HP) (hF : F_slices_Index_int_int a0 a1 K h) : CallsH Try.prog fn_slices_Index_int_int #[(.slice a0.a a0.len a0.cap), (.int .i64 a1)] h fun v h' => ∃ x : Int, v = Ty.enc (.int .i64) x ∧ K x h' :=
  callsH_of_fn (P := Try.prog) (fn := Try.f29) (τ := (.int .i64)) follows Try.func29 (by kernel_rfl) (by kernel_rfl) Try.call29 (Eq.mpr (E_slices_Index_int_int a0 a1 K h) hF)

/-- slices.Contains[[]int,int] -/
def F_slices_Contains_int_int (a0 : Sl) (a1 : Int) (K : Bool → HP) : HP :=
 callT Try.prog fn_slices_Index_int_int #[(.slice a0.a a0.len a0.cap), (.int .i64 a1)] (.int .i64) fun r0 =>
 K (decide (r0 ≥ (0 : Int)))
set_option maxRecDepth 100000 in
theorem E_slices_Contains_int_int (a0 : Sl) (a1 : Int) (K : Bool → HP) (h : Heap) : fnVC Try.prog [] 9 Try.f30 [(.slice a0.a a0.len a0.cap), (.int .i64 a1)] .bool K h = F_slices_Contains_int_int a0 a1 K h := by kernel_rfl
set_option maxRecDepth 100000 in
theorem S_slices_Contains_int_int{h : Heap} {a0 : Sl} {a1 : Int} (K : Bool → HP) (hF : F_slices_Contains_int_int a0 a1 K h) : CallsH Try.prog fn_slices_Contains_int_int #[(.slice a0.a a0.len a0.cap), (.int .i64 a1)] h fun v h' => ∃ x : Bool, v = Ty.enc .bool x ∧ K x h' :=
  callsH_of_fn (P := Try.prog) (fn := Try.f30) (τ := .bool) follows Try.func30 (by kernel_rfl) (by kernel_rfl) Try.call30 (Eq.mpr (E_slices_Contains_int_int a0 a1 K h) hF)

/-- salvor/salvorlaw11.OrderBumps$1 -/
def F_salvorlaw11_OrderBumps_1 (a0 : Int) (c0 : Addr) (K : Bool → HP) : HP :=
 ldT (.int .i64) c0 fun x0 =>
 K (a0 == x0)
set_option maxRecDepth 100000 in
theorem E_salvorlaw11_OrderBumps_1 (a0 : Int) (c0 : Addr) (K : Bool → HP) (h : Heap) : fnVC Try.prog [] 7 Try.f31 [(.int .i64 a0), (.pointer (some c0))] .bool K h = F_salvorlaw11_OrderBumps_1 a0 c0 K h := by kernel_rfl
set_option maxRecDepth 100000 in
theorem S_salvorlaw11_OrderBumps_1{h : Heap} {a0 : Int} {c0 : Addr} (K : Bool → HP) (hF : F_salvorlaw11_OrderBumps_1 a0 c0 K h) : CallsH Try.prog fn_salvorlaw11_OrderBumps_1 #[(.int .i64 a0), (.pointer (some c0))] h fun v h' => ∃ x : Bool, v = Ty.enc .bool x ∧ K x h' :=
  callsH_of_fn (P := Try.prog) (fn := Try.f31) (τ := .bool) follows Try.func31 (by kernel_rfl) (by kernel_rfl) Try.call31 (Eq.mpr (E_salvorlaw11_OrderBumps_1 a0 c0 K h) hF)

/-- slices.DeleteFunc[[]int,int] -/
def F_slices_DeleteFunc_int_int (a0 : Sl) (a1 : Value) (K : Sl → HP) : HP :=
 callT Try.prog fn_slices_IndexFunc_int_int #[(.slice a0.a a0.len a0.cap), a1] (.int .i64) fun r0 =>
 brB (r0 == (-1 : Int))
 (K ⟨a0.a, a0.len, a0.cap⟩)
 (lfp (σ := (Int × (Int × Unit))) (fun X1 s2 => /- j i -/
 brB (decide (s2.1 < (a0.len : Int)))
 (sx a0.a a0.len s2.1 1 fun p3 =>
 ldT (.int .i64) p3 fun x4 =>
 callF Try.prog a1 #[(.int .i64 x4)] .bool fun r5 =>
 jn (σ := (Int × Unit)) (fun s7 => /- i -/
 X1 ((IntKind.wrap .i64 (s2.1 + (1 : Int))), s7.1, ()))
 (fun J6 =>
 brB (!r5)
 (sx a0.a a0.len s2.2.1 1 fun p8 =>
 st1 p8 (.int .i64 x4) <|
 J6 ((IntKind.wrap .i64 (s2.2.1 + (1 : Int))), ()))
 (J6 (s2.2.1, ()))))
 (slL ⟨a0.a, a0.len, a0.cap⟩ s2.2.1 1 fun s9 =>
 clr #[(.int .i64 (0 : Int))] ⟨s9.a, s9.len, s9.cap⟩ <|
 slH ⟨a0.a, a0.len, a0.cap⟩ s2.2.1 1 fun s10 =>
 K ⟨s10.a, s10.len, s10.cap⟩))
 ((IntKind.wrap .i64 (r0 + (1 : Int))), r0, ()))
set_option maxRecDepth 100000 in
theorem E_slices_DeleteFunc_int_int (a0 : Sl) (a1 : Value) (K : Sl → HP) (h : Heap) : fnVC Try.prog [] 42 Try.f32 [(.slice a0.a a0.len a0.cap), a1] .sl K h = F_slices_DeleteFunc_int_int a0 a1 K h := by kernel_rfl
set_option maxRecDepth 100000 in
theorem S_slices_DeleteFunc_int_int{h : Heap} {a0 : Sl} {a1 : Value} (K : Sl → HP) (hF : F_slices_DeleteFunc_int_int a0 a1 K h) : CallsH Try.prog fn_slices_DeleteFunc_int_int #[(.slice a0.a a0.len a0.cap), a1] h fun v h' => ∃ x : Sl, v = Ty.enc .sl x ∧ K x h' :=
  callsH_of_fn (P := Try.prog) (fn := Try.f32) (τ := .sl) follows Try.func32 (by kernel_rfl) (by kernel_rfl) Try.call32 (Eq.mpr (E_slices_DeleteFunc_int_int a0 a1 K h) hF)

/-- (*salvor/order.Order).is -/
def F_order_Order_is (a0 : Option Addr) (K : Bool → HP) : HP :=
 brB (!(Option.isNone a0))
 (nn a0 fun p0 =>
 ldT .bool (p0.add 4) fun x1 =>
 K x1)
 (K false)
set_option maxRecDepth 100000 in
theorem E_order_Order_is (a0 : Option Addr) (K : Bool → HP) (h : Heap) : fnVC Try.prog [] 11 Try.f33 [(.pointer a0)] .bool K h = F_order_Order_is a0 K h := by kernel_rfl
set_option maxRecDepth 100000 in
theorem S_order_Order_is{h : Heap} {a0 : Option Addr} (K : Bool → HP) (hF : F_order_Order_is a0 K h) : CallsH Try.prog fn_order_Order_is #[(.pointer a0)] h fun v h' => ∃ x : Bool, v = Ty.enc .bool x ∧ K x h' :=
  callsH_of_fn (P := Try.prog) (fn := Try.f33) (τ := .bool) follows Try.func33 (by kernel_rfl) (by kernel_rfl) Try.call33 (Eq.mpr (E_order_Order_is a0 K h) hF)

/-- (*salvor/order.Order).wrong -/
def F_order_Order_wrong (a0 : Option Addr) (a1 : Int) (K : Int → HP) : HP :=
 callT Try.prog fn_order_Order_is #[(.pointer a0)] .bool fun r0 =>
 brB (!r0)
 (K (1 : Int))
 (brB (decide (a1 < (1 : Int)))
 (K (110 : Int))
 (nn a0 fun p1 =>
 ldT .sl p1 fun x2 =>
 brB (decide (a1 ≥ (x2.len : Int)))
 (K (110 : Int))
 (K (0 : Int))))
set_option maxRecDepth 100000 in
theorem E_order_Order_wrong (a0 : Option Addr) (a1 : Int) (K : Int → HP) (h : Heap) : fnVC Try.prog [] 21 Try.f34 [(.pointer a0), (.int .i64 a1)] (.int .i64) K h = F_order_Order_wrong a0 a1 K h := by kernel_rfl
set_option maxRecDepth 100000 in
theorem S_order_Order_wrong{h : Heap} {a0 : Option Addr} {a1 : Int} (K : Int → HP) (hF : F_order_Order_wrong a0 a1 K h) : CallsH Try.prog fn_order_Order_wrong #[(.pointer a0), (.int .i64 a1)] h fun v h' => ∃ x : Int, v = Ty.enc (.int .i64) x ∧ K x h' :=
  callsH_of_fn (P := Try.prog) (fn := Try.f34) (τ := (.int .i64)) follows Try.func34 (by kernel_rfl) (by kernel_rfl) Try.call34 (Eq.mpr (E_order_Order_wrong a0 a1 K h) hF)

/-- slices.SortFunc[[]int,int] -/
def F_slices_SortFunc_int_int (a0 : Sl) (a1 : Value) (K : Unit → HP) : HP :=
 callT Try.prog fn_math_bits_Len #[(.int .u64 (IntKind.wrap .u64 (a0.len : Int)))] (.int .i64) fun r0 =>
 callT Try.prog fn_slices_pdqsortCmpFunc_int #[(.slice a0.a a0.len a0.cap), (.int .i64 (0 : Int)), (.int .i64 (a0.len : Int)), (.int .i64 r0), a1] (.tup .nil) fun r1 =>
 K (())
set_option maxRecDepth 100000 in
theorem E_slices_SortFunc_int_int (a0 : Sl) (a1 : Value) (K : Unit → HP) (h : Heap) : fnVC Try.prog [] 14 Try.f35 [(.slice a0.a a0.len a0.cap), a1] (.tup .nil) K h = F_slices_SortFunc_int_int a0 a1 K h := by kernel_rfl
set_option maxRecDepth 100000 in
theorem S_slices_SortFunc_int_int{h : Heap} {a0 : Sl} {a1 : Value} (K : Unit → HP) (hF : F_slices_SortFunc_int_int a0 a1 K h) : CallsH Try.prog fn_slices_SortFunc_int_int #[(.slice a0.a a0.len a0.cap), a1] h fun v h' => ∃ x : Unit, v = Ty.enc (.tup .nil) x ∧ K x h' :=
  callsH_of_fn (P := Try.prog) (fn := Try.f35) (τ := (.tup .nil)) follows Try.func35 (by kernel_rfl) (by kernel_rfl) Try.call35 (Eq.mpr (E_slices_SortFunc_int_int a0 a1 K h) hF)

/-- (*salvor/order.Order).Bump$1 -/
def F_order_Order_Bump_1 (a0 : Int) (a1 : Int) (c0 : Addr) (K : Int → HP) : HP :=
 ldT .ptr c0 fun x0 =>
 callT Try.prog fn_order_Order_before #[(.pointer x0), (.int .i64 a0), (.int .i64 a1)] .bool fun r1 =>
 brB r1
 (K (-1 : Int))
 (K (1 : Int))
set_option maxRecDepth 100000 in
theorem E_order_Order_Bump_1 (a0 : Int) (a1 : Int) (c0 : Addr) (K : Int → HP) (h : Heap) : fnVC Try.prog [] 10 Try.f36 [(.int .i64 a0), (.int .i64 a1), (.pointer (some c0))] (.int .i64) K h = F_order_Order_Bump_1 a0 a1 c0 K h := by kernel_rfl
set_option maxRecDepth 100000 in
theorem S_order_Order_Bump_1{h : Heap} {a0 : Int} {a1 : Int} {c0 : Addr} (K : Int → HP) (hF : F_order_Order_Bump_1 a0 a1 c0 K h) : CallsH Try.prog fn_order_Order_Bump_1 #[(.int .i64 a0), (.int .i64 a1), (.pointer (some c0))] h fun v h' => ∃ x : Int, v = Ty.enc (.int .i64) x ∧ K x h' :=
  callsH_of_fn (P := Try.prog) (fn := Try.f36) (τ := (.int .i64)) follows Try.func36 (by kernel_rfl) (by kernel_rfl) Try.call36 (Eq.mpr (E_order_Order_Bump_1 a0 a1 c0 K h) hF)

/-- (*salvor/order.Order).before -/
def F_order_Order_before (a0 : Option Addr) (a1 : Int) (a2 : Int) (K : Bool → HP) : HP :=
 nn a0 fun p0 =>
 ldT .sl p0 fun x1 =>
 sx x1.a x1.len a1 1 fun p2 =>
 ldT (.int .i64) p2 fun x3 =>
 nn a0 fun p4 =>
 ldT .sl p4 fun x5 =>
 sx x5.a x5.len a2 1 fun p6 =>
 ldT (.int .i64) p6 fun x7 =>
 brB (decide (x3 > x7))
 (K true)
 (brB (x3 == x7)
 (K (decide (a1 < a2)))
 (K false))
set_option maxRecDepth 100000 in
theorem E_order_Order_before (a0 : Option Addr) (a1 : Int) (a2 : Int) (K : Bool → HP) (h : Heap) : fnVC Try.prog [] 36 Try.f37 [(.pointer a0), (.int .i64 a1), (.int .i64 a2)] .bool K h = F_order_Order_before a0 a1 a2 K h := by kernel_rfl
set_option maxRecDepth 100000 in
theorem S_order_Order_before{h : Heap} {a0 : Option Addr} {a1 : Int} {a2 : Int} (K : Bool → HP) (hF : F_order_Order_before a0 a1 a2 K h) : CallsH Try.prog fn_order_Order_before #[(.pointer a0), (.int .i64 a1), (.int .i64 a2)] h fun v h' => ∃ x : Bool, v = Ty.enc .bool x ∧ K x h' :=
  callsH_of_fn (P := Try.prog) (fn := Try.f37) (τ := .bool) follows Try.func37 (by kernel_rfl) (by kernel_rfl) Try.call37 (Eq.mpr (E_order_Order_before a0 a1 a2 K h) hF)

/-- (*salvor/order.Order).up -/
def F_order_Order_up (a0 : Option Addr) (a1 : Int) (K : Unit → HP) : HP := fun h0 => (
 nw #[(.pointer a0)] 24 fun b0 =>
 nw #[(.int .i64 a1)] 3 fun b1 =>
 ldT .ptr (⟨b0, 0, none⟩ : Addr) fun x2 =>
 nn x2 fun p3 =>
 ldT .sl (p3.add 1) fun x4 =>
 ldT (.int .i64) (⟨b1, 0, none⟩ : Addr) fun x5 =>
 sx x4.a x4.len x5 1 fun p6 =>
 ldT (.int .i64) p6 fun x7 =>
 nw #[(.int .i64 (0 : Int))] 3 fun b8 =>
 st1 (⟨b8, 0, none⟩ : Addr) (.int .i64 x7) <|
 ldT (.int .i64) (⟨b1, 0, none⟩ : Addr) fun x9 =>
 callT Try.prog fn_order_above #[(.int .i64 x9)] .val fun r10 =>
 jn (σ := Unit) (fun s12 => /- -/
 ldT .ptr (⟨b0, 0, none⟩ : Addr) fun x13 =>
 ldT (.int .i64) (⟨b1, 0, none⟩ : Addr) fun x14 =>
 ldT (.int .i64) (⟨b8, 0, none⟩ : Addr) fun x15 =>
 callT Try.prog fn_order_Order_put #[(.pointer x13), (.int .i64 x14), (.int .i64 x15)] (.tup .nil) fun r16 =>
 mkd h0.size <|
 K (()))
 (fun J11 =>
 RangeVC Try.prog (.cons (.int .i64) .nil) r10 (fun x17 wrap18 next19 jump20 =>
 wrap18 <|
 ldT .ptr (⟨b0, 0, none⟩ : Addr) fun x21 =>
 ldT (.int .i64) (⟨b8, 0, none⟩ : Addr) fun x22 =>
 ldT .ptr (⟨b0, 0, none⟩ : Addr) fun x23 =>
 nn x23 fun p24 =>
 ldT .sl (p24.add 1) fun x25 =>
 sx x25.a x25.len x17.1 1 fun p26 =>
 ldT (.int .i64) p26 fun x27 =>
 callT Try.prog fn_order_Order_before #[(.pointer x21), (.int .i64 x22), (.int .i64 x27)] .bool fun r28 =>
 brB (!r28)
 (jump20 (.exit 0))
 (ldT .ptr (⟨b0, 0, none⟩ : Addr) fun x29 =>
 ldT (.int .i64) (⟨b1, 0, none⟩ : Addr) fun x30 =>
 ldT .ptr (⟨b0, 0, none⟩ : Addr) fun x31 =>
 nn x31 fun p32 =>
 ldT .sl (p32.add 1) fun x33 =>
 sx x33.a x33.len x17.1 1 fun p34 =>
 ldT (.int .i64) p34 fun x35 =>
 callT Try.prog fn_order_Order_put #[(.pointer x29), (.int .i64 x30), (.int .i64 x35)] (.tup .nil) fun r36 =>
 st1 (⟨b1, 0, none⟩ : Addr) (.int .i64 x17.1) <|
 next19))
 (J11 (()))
 (mkd h0.size <|
 K (()))
 [0]
 [(J11 (()))])) h0
set_option maxRecDepth 100000 in
theorem E_order_Order_up (a0 : Option Addr) (a1 : Int) (K : Unit → HP) (h : Heap) : fnVC Try.prog [(15, (.cons (.int .i64) .nil))] 42 Try.f38 [(.pointer a0), (.int .i64 a1)] (.tup .nil) K h = F_order_Order_up a0 a1 K h := by kernel_rfl
set_option maxRecDepth 100000 in
theorem S_order_Order_up{h : Heap} {a0 : Option Addr} {a1 : Int} (K : Unit → HP) (hF : F_order_Order_up a0 a1 K h) : CallsH Try.prog fn_order_Order_up #[(.pointer a0), (.int .i64 a1)] h fun v h' => ∃ x : Unit, v = Ty.enc (.tup .nil) x ∧ K x h' :=
  callsH_of_fn (P := Try.prog) (fn := Try.f38) (τ := (.tup .nil)) follows Try.func38 (by kernel_rfl) (by kernel_rfl) Try.call38 (Eq.mpr (E_order_Order_up a0 a1 K h) hF)

/-- (*salvor/order.Order).All$1 -/
def F_order_Order_All_1 (a0 : Value) (c0 : Addr) (K : Unit → HP) : HP :=
 ldT .ptr c0 fun x0 =>
 callT Try.prog fn_order_Order_is #[(.pointer x0)] .bool fun r1 =>
 brB (!r1)
 (K (()))
 (ldT .ptr c0 fun x2 =>
 nn x2 fun p3 =>
 ldT .sl p3 fun x4 =>
 ldT .ptr c0 fun x5 =>
 nn x5 fun p6 =>
 ldT .sl (p6.add 1) fun x7 =>
 ldT .ptr c0 fun x8 =>
 nn x8 fun p9 =>
 ldT .sl (p9.add 2) fun x10 =>
 ldT .ptr c0 fun x11 =>
 nn x11 fun p12 =>
 ldT (.int .i64) (p12.add 3) fun x13 =>
 callT Try.prog fn_slices_Clone_int_int #[(.slice x4.a x4.len x4.cap)] .sl fun r14 =>
 ck (p12.add 3) (.int .i64 x13) <|
 ck c0 (.pointer x11) <|
 ck (p9.add 2) (.slice x10.a x10.len x10.cap) <|
 ck c0 (.pointer x8) <|
 ck (p6.add 1) (.slice x7.a x7.len x7.cap) <|
 ck c0 (.pointer x5) <|
 callT Try.prog fn_slices_Clone_int_int #[(.slice x7.a x7.len x7.cap)] .sl fun r15 =>
 ck (p12.add 3) (.int .i64 x13) <|
 ck c0 (.pointer x11) <|
 ck (p9.add 2) (.slice x10.a x10.len x10.cap) <|
 ck c0 (.pointer x8) <|
 callT Try.prog fn_slices_Clone_int_int #[(.slice x10.a x10.len x10.cap)] .sl fun r16 =>
 ck (p12.add 3) (.int .i64 x13) <|
 ck c0 (.pointer x11) <|
 nw #[(.slice r14.a r14.len r14.cap), (.slice r15.a r15.len r15.cap), (.slice r16.a r16.len r16.cap), (.int .i64 x13), (.bool true)] 56 fun b17 =>
 callT Try.prog fn_order_Order_Pop #[(.pointer (some (⟨b17, 0, none⟩ : Addr)))] (.tup (.cons (.int .i64) (.cons .bool .nil))) fun r18 =>
 lfp (σ := (Bool × (Int × Unit))) (fun X19 s20 => /- is v -/
 brB s20.1
 (callF Try.prog a0 #[(.int .i64 s20.2.1)] .bool fun r21 =>
 brB (!r21)
 (K (()))
 (callT Try.prog fn_order_Order_Pop #[(.pointer (some (⟨b17, 0, none⟩ : Addr)))] (.tup (.cons (.int .i64) (.cons .bool .nil))) fun r22 =>
 X19 (r22.2.1, r22.1, ())))
 (K (())))
 (r18.2.1, r18.1, ()))
set_option maxRecDepth 100000 in
theorem E_order_Order_All_1 (a0 : Value) (c0 : Addr) (K : Unit → HP) (h : Heap) : fnVC Try.prog [] 45 Try.f39 [a0, (.pointer (some c0))] (.tup .nil) K h = F_order_Order_All_1 a0 c0 K h := by kernel_rfl
set_option maxRecDepth 100000 in
theorem S_order_Order_All_1{h : Heap} {a0 : Value} {c0 : Addr} (K : Unit → HP) (hF : F_order_Order_All_1 a0 c0 K h) : CallsH Try.prog fn_order_Order_All_1 #[a0, (.pointer (some c0))] h fun v h' => ∃ x : Unit, v = Ty.enc (.tup .nil) x ∧ K x h' :=
  callsH_of_fn (P := Try.prog) (fn := Try.f39) (τ := (.tup .nil)) follows Try.func39 (by kernel_rfl) (by kernel_rfl) Try.call39 (Eq.mpr (E_order_Order_All_1 a0 c0 K h) hF)

/-- slices.Clone[[]int,int] -/
def F_slices_Clone_int_int (a0 : Sl) (K : Sl → HP) : HP :=
 brB (Option.isNone a0.a)
 (K ⟨none, 0, 0⟩)
 (nw #[] 3 fun b0 =>
 apd 3 1 8 #[(.int .i64 (0 : Int))] ⟨(some (⟨b0, 0, none⟩ : Addr)), 0, 0⟩ ⟨a0.a, a0.len, a0.cap⟩ fun s1 =>
 K ⟨s1.a, s1.len, s1.cap⟩)
set_option maxRecDepth 100000 in
theorem E_slices_Clone_int_int (a0 : Sl) (K : Sl → HP) (h : Heap) : fnVC Try.prog [] 8 Try.f40 [(.slice a0.a a0.len a0.cap)] .sl K h = F_slices_Clone_int_int a0 K h := by kernel_rfl
set_option maxRecDepth 100000 in
theorem S_slices_Clone_int_int{h : Heap} {a0 : Sl} (K : Sl → HP) (hF : F_slices_Clone_int_int a0 K h) : CallsH Try.prog fn_slices_Clone_int_int #[(.slice a0.a a0.len a0.cap)] h fun v h' => ∃ x : Sl, v = Ty.enc .sl x ∧ K x h' :=
  callsH_of_fn (P := Try.prog) (fn := Try.f40) (τ := .sl) follows Try.func40 (by kernel_rfl) (by kernel_rfl) Try.call40 (Eq.mpr (E_slices_Clone_int_int a0 K h) hF)

/-- (*salvor/order.Order).put -/
def F_order_Order_put (a0 : Option Addr) (a1 : Int) (a2 : Int) (K : Unit → HP) : HP :=
 nn a0 fun p0 =>
 ldT .sl (p0.add 1) fun x1 =>
 sx x1.a x1.len a1 1 fun p2 =>
 st1 p2 (.int .i64 a2) <|
 nn a0 fun p3 =>
 ldT .sl (p3.add 2) fun x4 =>
 sx x4.a x4.len a2 1 fun p5 =>
 st1 p5 (.int .i64 a1) <|
 K (())
set_option maxRecDepth 100000 in
theorem E_order_Order_put (a0 : Option Addr) (a1 : Int) (a2 : Int) (K : Unit → HP) (h : Heap) : fnVC Try.prog [] 20 Try.f41 [(.pointer a0), (.int .i64 a1), (.int .i64 a2)] (.tup .nil) K h = F_order_Order_put a0 a1 a2 K h := by kernel_rfl
set_option maxRecDepth 100000 in
theorem S_order_Order_put{h : Heap} {a0 : Option Addr} {a1 : Int} {a2 : Int} (K : Unit → HP) (hF : F_order_Order_put a0 a1 a2 K h) : CallsH Try.prog fn_order_Order_put #[(.pointer a0), (.int .i64 a1), (.int .i64 a2)] h fun v h' => ∃ x : Unit, v = Ty.enc (.tup .nil) x ∧ K x h' :=
  callsH_of_fn (P := Try.prog) (fn := Try.f41) (τ := (.tup .nil)) follows Try.func41 (by kernel_rfl) (by kernel_rfl) Try.call41 (Eq.mpr (E_order_Order_put a0 a1 a2 K h) hF)

/-- (*salvor/order.Order).down -/
def F_order_Order_down (a0 : Option Addr) (a1 : Int) (K : Unit → HP) : HP :=
 nw #[(.pointer a0)] 24 fun b0 =>
 ldT .ptr (⟨b0, 0, none⟩ : Addr) fun x1 =>
 nn x1 fun p2 =>
 ldT .sl (p2.add 1) fun x3 =>
 sx x3.a x3.len a1 1 fun p4 =>
 ldT (.int .i64) p4 fun x5 =>
 jn (σ := (Int × Unit)) (fun s7 => /- i -/
 ldT .ptr (⟨b0, 0, none⟩ : Addr) fun x8 =>
 callT Try.prog fn_order_Order_put #[(.pointer x8), (.int .i64 s7.1), (.int .i64 x5)] (.tup .nil) fun r9 =>
 K (()))
 (fun J6 =>
 lfp (σ := (Int × Unit)) (fun X10 s11 => /- i -/
 ldT .ptr (⟨b0, 0, none⟩ : Addr) fun x12 =>
 nn x12 fun p13 =>
 ldT .sl (p13.add 1) fun x14 =>
 brB (decide ((IntKind.wrap .i64 ((IntKind.wrap .i64 ((2 : Int) * s11.1)) + (1 : Int))) < (x14.len : Int)))
 (callF Try.prog (.func (.func 50) #[] #[(.pointer (some (⟨b0, 0, none⟩ : Addr)))]) #[(.int .i64 (IntKind.wrap .i64 ((IntKind.wrap .i64 ((2 : Int) * s11.1)) + (1 : Int)))), (.int .i64 (IntKind.wrap .i64 ((IntKind.wrap .i64 ((2 : Int) * s11.1)) + (2 : Int))))] (.int .i64) fun r15 =>
 ldT .ptr (⟨b0, 0, none⟩ : Addr) fun x16 =>
 ldT .ptr (⟨b0, 0, none⟩ : Addr) fun x17 =>
 nn x17 fun p18 =>
 ldT .sl (p18.add 1) fun x19 =>
 sx x19.a x19.len r15 1 fun p20 =>
 ldT (.int .i64) p20 fun x21 =>
 callT Try.prog fn_order_Order_before #[(.pointer x16), (.int .i64 x21), (.int .i64 x5)] .bool fun r22 =>
 brB (!r22)
 (J6 (s11.1, ()))
 (ldT .ptr (⟨b0, 0, none⟩ : Addr) fun x23 =>
 ldT .ptr (⟨b0, 0, none⟩ : Addr) fun x24 =>
 nn x24 fun p25 =>
 ldT .sl (p25.add 1) fun x26 =>
 sx x26.a x26.len r15 1 fun p27 =>
 ldT (.int .i64) p27 fun x28 =>
 callT Try.prog fn_order_Order_put #[(.pointer x23), (.int .i64 s11.1), (.int .i64 x28)] (.tup .nil) fun r29 =>
 X10 (r15, ())))
 (J6 (s11.1, ())))
 (a1, ()))
set_option maxRecDepth 100000 in
theorem E_order_Order_down (a0 : Option Addr) (a1 : Int) (K : Unit → HP) (h : Heap) : fnVC Try.prog [] 58 Try.f42 [(.pointer a0), (.int .i64 a1)] (.tup .nil) K h = F_order_Order_down a0 a1 K h := by kernel_rfl
set_option maxRecDepth 100000 in
theorem S_order_Order_down{h : Heap} {a0 : Option Addr} {a1 : Int} (K : Unit → HP) (hF : F_order_Order_down a0 a1 K h) : CallsH Try.prog fn_order_Order_down #[(.pointer a0), (.int .i64 a1)] h fun v h' => ∃ x : Unit, v = Ty.enc (.tup .nil) x ∧ K x h' :=
  callsH_of_fn (P := Try.prog) (fn := Try.f42) (τ := (.tup .nil)) follows Try.func42 (by kernel_rfl) (by kernel_rfl) Try.call42 (Eq.mpr (E_order_Order_down a0 a1 K h) hF)

/-- salvor/salvorref11.New -/
def F_salvorref11_New (a0 : Int) (K : (Sl × (Sl × (Int × Unit))) → HP) : HP :=
 nw #[(.slice none 0 0), (.slice none 0 0), (.int .i64 (0 : Int))] 70 fun b0 =>
 nw #[(.slice none 0 0), (.slice none 0 0), (.int .i64 (0 : Int))] 70 fun b1 =>
 st1 (⟨b1, 0, none⟩ : Addr) (.slice none 0 0) <|
 st1 ((⟨b1, 0, none⟩ : Addr).add 1) (.slice none 0 0) <|
 st1 ((⟨b1, 0, none⟩ : Addr).add 2) (.int .i64 (1024 : Int)) <|
 lfp (σ := (Int × Unit)) (fun X2 s3 => /- i -/
 brB (decide (s3.1 < a0))
 (ldT .sl (⟨b1, 0, none⟩ : Addr) fun x4 =>
 ldT .sl ((⟨b1, 0, none⟩ : Addr).add 1) fun x5 =>
 cj
 (nw #[(.int .i64 (0 : Int))] 3 fun b6 =>
 cj
 (apd 3 1 8 #[(.int .i64 (0 : Int))] ⟨x4.a, x4.len, x4.cap⟩ ⟨(some (⟨b6, 0, none⟩ : Addr)), 1, 1⟩ fun s7 =>
 ck ((⟨b1, 0, none⟩ : Addr).add 1) (.slice x5.a x5.len x5.cap) <|
 nw #[(.int .i64 (1 : Int))] 3 fun b8 =>
 apd 3 1 8 #[(.int .i64 (0 : Int))] ⟨x5.a, x5.len, x5.cap⟩ ⟨(some (⟨b8, 0, none⟩ : Addr)), 1, 1⟩ fun s9 =>
 st1 (⟨b1, 0, none⟩ : Addr) (.slice s7.a s7.len s7.cap) <|
 st1 ((⟨b1, 0, none⟩ : Addr).add 1) (.slice s9.a s9.len s9.cap) <|
 X2 ((IntKind.wrap .i64 (s3.1 + (1 : Int))), ()))
 (nw #[(.int .i64 (1 : Int))] 3 fun b10 =>
 apd 3 1 8 #[(.int .i64 (0 : Int))] ⟨x4.a, x4.len, x4.cap⟩ ⟨(some (⟨b6, 0, none⟩ : Addr)), 1, 1⟩ fun s11 =>
 ck ((⟨b1, 0, none⟩ : Addr).add 1) (.slice x5.a x5.len x5.cap) <|
 apd 3 1 8 #[(.int .i64 (0 : Int))] ⟨x5.a, x5.len, x5.cap⟩ ⟨(some (⟨b10, 0, none⟩ : Addr)), 1, 1⟩ fun s12 =>
 st1 (⟨b1, 0, none⟩ : Addr) (.slice s11.a s11.len s11.cap) <|
 st1 ((⟨b1, 0, none⟩ : Addr).add 1) (.slice s12.a s12.len s12.cap) <|
 X2 ((IntKind.wrap .i64 (s3.1 + (1 : Int))), ())))
 (nw #[(.int .i64 (1 : Int))] 3 fun b13 =>
 nw #[(.int .i64 (0 : Int))] 3 fun b14 =>
 apd 3 1 8 #[(.int .i64 (0 : Int))] ⟨x4.a, x4.len, x4.cap⟩ ⟨(some (⟨b14, 0, none⟩ : Addr)), 1, 1⟩ fun s15 =>
 ck ((⟨b1, 0, none⟩ : Addr).add 1) (.slice x5.a x5.len x5.cap) <|
 apd 3 1 8 #[(.int .i64 (0 : Int))] ⟨x5.a, x5.len, x5.cap⟩ ⟨(some (⟨b13, 0, none⟩ : Addr)), 1, 1⟩ fun s16 =>
 st1 (⟨b1, 0, none⟩ : Addr) (.slice s15.a s15.len s15.cap) <|
 st1 ((⟨b1, 0, none⟩ : Addr).add 1) (.slice s16.a s16.len s16.cap) <|
 X2 ((IntKind.wrap .i64 (s3.1 + (1 : Int))), ())))
 (ldA (.cons .sl (.cons .sl (.cons (.int .i64) .nil))) (⟨b1, 0, none⟩ : Addr) fun x17 =>
 st1 (⟨b0, 0, none⟩ : Addr) (.slice x17.1.a x17.1.len x17.1.cap) <|
 st1 ((⟨b0, 0, none⟩ : Addr).add 1) (.slice x17.2.1.a x17.2.1.len x17.2.1.cap) <|
 st1 ((⟨b0, 0, none⟩ : Addr).add 2) (.int .i64 x17.2.2.1) <|
 ldA (.cons .sl (.cons .sl (.cons (.int .i64) .nil))) (⟨b0, 0, none⟩ : Addr) fun x18 =>
 K (⟨x18.1.a, x18.1.len, x18.1.cap⟩, ⟨x18.2.1.a, x18.2.1.len, x18.2.1.cap⟩, x18.2.2.1, ())))
 ((0 : Int), ())
set_option maxRecDepth 100000 in
theorem E_salvorref11_New (a0 : Int) (K : (Sl × (Sl × (Int × Unit))) → HP) (h : Heap) : fnVC Try.prog [] 22 Try.f43 [(.int .i64 a0)] (.agg (.cons .sl (.cons .sl (.cons (.int .i64) .nil)))) K h = F_salvorref11_New a0 K h := by kernel_rfl
set_option maxRecDepth 100000 in
theorem S_salvorref11_New{h : Heap} {a0 : Int} (K : (Sl × (Sl × (Int × Unit))) → HP) (hF : F_salvorref11_New a0 K h) : CallsH Try.prog fn_salvorref11_New #[(.int .i64 a0)] h fun v h' => ∃ x : (Sl × (Sl × (Int × Unit))), v = Ty.enc (.agg (.cons .sl (.cons .sl (.cons (.int .i64) .nil)))) x ∧ K x h' :=
  callsH_of_fn (P := Try.prog) (fn := Try.f43) (τ := (.agg (.cons .sl (.cons .sl (.cons (.int .i64) .nil))))) follows Try.func43 (by kernel_rfl) (by kernel_rfl) Try.call43 (Eq.mpr (E_salvorref11_New a0 K h) hF)

/-- salvor/salvorlaw11.does -/
def F_salvorlaw11_does (a0 : Option Addr) (a1 : (Sl × (Sl × (Int × Unit)))) (a2 : (Int × (Int × (Int × Unit)))) (K : ((Sl × (Sl × (Int × Unit))) × (Bool × Unit)) → HP) : HP :=
 nw #[(.slice a1.1.a a1.1.len a1.1.cap), (.slice a1.2.1.a a1.2.1.len a1.2.1.cap), (.int .i64 a1.2.2.1)] 70 fun b0 =>
 nw #[(.int .u8 a2.1), (.int .i64 a2.2.1), (.int .u16 a2.2.2.1)] 52 fun b1 =>
 nw #[(.slice none 0 0), (.slice none 0 0), (.int .i64 (0 : Int))] 70 fun b2 =>
 ldT (.int .i64) ((⟨b1, 0, none⟩ : Addr).add 1) fun x3 =>
 brB (decide (x3 ≥ (1 : Int)))
 (ldT (.int .i64) ((⟨b1, 0, none⟩ : Addr).add 1) fun x4 =>
 ldT .sl ((⟨b0, 0, none⟩ : Addr).add 1) fun x5 =>
 jn (σ := (Int × Unit)) (fun s7 => /- want -/
 ldT (.int .u8) (⟨b1, 0, none⟩ : Addr) fun x8 =>
 nz (8 : Int) <|
 jn (σ := (Bool × Unit)) (fun s10 => /-  -/
 brB s10.1
 (jn (σ := Unit) (fun s12 => /- -/
 ldA (.cons .sl (.cons .sl (.cons (.int .i64) .nil))) (⟨b0, 0, none⟩ : Addr) fun x13 =>
 ldT (.int .i64) ((⟨b1, 0, none⟩ : Addr).add 1) fun x14 =>
 callT Try.prog fn_order_Order_Bump #[(.pointer a0), (.int .i64 x14)] (.int .i64) fun r15 =>
 ckA (⟨b0, 0, none⟩ : Addr) [(.slice x13.1.a x13.1.len x13.1.cap), (.slice x13.2.1.a x13.2.1.len x13.2.1.cap), (.int .i64 x13.2.2.1)] <|
 st1 (⟨b2, 0, none⟩ : Addr) (.slice x13.1.a x13.1.len x13.1.cap) <|
 st1 ((⟨b2, 0, none⟩ : Addr).add 1) (.slice x13.2.1.a x13.2.1.len x13.2.1.cap) <|
 st1 ((⟨b2, 0, none⟩ : Addr).add 2) (.int .i64 x13.2.2.1) <|
 ldA (.cons .sl (.cons .sl (.cons (.int .i64) .nil))) (⟨b2, 0, none⟩ : Addr) fun x16 =>
 K ((⟨x16.1.a, x16.1.len, x16.1.cap⟩, ⟨x16.2.1.a, x16.2.1.len, x16.2.1.cap⟩, x16.2.2.1, ()), (r15 == s7.1), ()))
 (fun J11 =>
 brB (decide (x4 ≤ (x5.len : Int)))
 (ldA (.cons .sl (.cons .sl (.cons (.int .i64) .nil))) (⟨b0, 0, none⟩ : Addr) fun x17 =>
 ldT (.int .i64) ((⟨b1, 0, none⟩ : Addr).add 1) fun x18 =>
 callT Try.prog fn_salvorref11_Bump #[(.agg #[(.slice x17.1.a x17.1.len x17.1.cap), (.slice x17.2.1.a x17.2.1.len x17.2.1.cap), (.int .i64 x17.2.2.1)]), (.int .i64 x18)] (.agg (.cons .sl (.cons .sl (.cons (.int .i64) .nil)))) fun r19 =>
 st1 (⟨b0, 0, none⟩ : Addr) (.slice r19.1.a r19.1.len r19.1.cap) <|
 st1 ((⟨b0, 0, none⟩ : Addr).add 1) (.slice r19.2.1.a r19.2.1.len r19.2.1.cap) <|
 st1 ((⟨b0, 0, none⟩ : Addr).add 2) (.int .i64 r19.2.2.1) <|
 J11 (()))
 (J11 (()))))
 (brB ((Int.tmod x8 (8 : Int)) == (4 : Int))
 (callT Try.prog fn_order_Order_Pop #[(.pointer a0)] (.tup (.cons (.int .i64) (.cons .bool .nil))) fun r20 =>
 ldA (.cons .sl (.cons .sl (.cons (.int .i64) .nil))) (⟨b0, 0, none⟩ : Addr) fun x21 =>
 callT Try.prog fn_salvorref11_First #[(.agg #[(.slice x21.1.a x21.1.len x21.1.cap), (.slice x21.2.1.a x21.2.1.len x21.2.1.cap), (.int .i64 x21.2.2.1)])] (.int .i64) fun r22 =>
 jn (σ := Unit) (fun s24 => /- -/
 ldA (.cons .sl (.cons .sl (.cons (.int .i64) .nil))) (⟨b0, 0, none⟩ : Addr) fun x25 =>
 brB (r20.1 == r22)
 (st1 (⟨b2, 0, none⟩ : Addr) (.slice x25.1.a x25.1.len x25.1.cap) <|
 st1 ((⟨b2, 0, none⟩ : Addr).add 1) (.slice x25.2.1.a x25.2.1.len x25.2.1.cap) <|
 st1 ((⟨b2, 0, none⟩ : Addr).add 2) (.int .i64 x25.2.2.1) <|
 ldA (.cons .sl (.cons .sl (.cons (.int .i64) .nil))) (⟨b2, 0, none⟩ : Addr) fun x26 =>
 K ((⟨x26.1.a, x26.1.len, x26.1.cap⟩, ⟨x26.2.1.a, x26.2.1.len, x26.2.1.cap⟩, x26.2.2.1, ()), (r20.2.1 == (decide (r22 > (0 : Int)))), ()))
 (st1 (⟨b2, 0, none⟩ : Addr) (.slice x25.1.a x25.1.len x25.1.cap) <|
 st1 ((⟨b2, 0, none⟩ : Addr).add 1) (.slice x25.2.1.a x25.2.1.len x25.2.1.cap) <|
 st1 ((⟨b2, 0, none⟩ : Addr).add 2) (.int .i64 x25.2.2.1) <|
 ldA (.cons .sl (.cons .sl (.cons (.int .i64) .nil))) (⟨b2, 0, none⟩ : Addr) fun x27 =>
 K ((⟨x27.1.a, x27.1.len, x27.1.cap⟩, ⟨x27.2.1.a, x27.2.1.len, x27.2.1.cap⟩, x27.2.2.1, ()), false, ())))
 (fun J23 =>
 brB (decide (r22 > (0 : Int)))
 (ldA (.cons .sl (.cons .sl (.cons (.int .i64) .nil))) (⟨b0, 0, none⟩ : Addr) fun x28 =>
 callT Try.prog fn_salvorref11_Set #[(.agg #[(.slice x28.1.a x28.1.len x28.1.cap), (.slice x28.2.1.a x28.2.1.len x28.2.1.cap), (.int .i64 x28.2.2.1)]), (.int .i64 r22), (.int .i64 (0 : Int))] (.agg (.cons .sl (.cons .sl (.cons (.int .i64) .nil)))) fun r29 =>
 st1 (⟨b0, 0, none⟩ : Addr) (.slice r29.1.a r29.1.len r29.1.cap) <|
 st1 ((⟨b0, 0, none⟩ : Addr).add 1) (.slice r29.2.1.a r29.2.1.len r29.2.1.cap) <|
 st1 ((⟨b0, 0, none⟩ : Addr).add 2) (.int .i64 r29.2.2.1) <|
 J23 (()))
 (J23 (()))))
 (brB ((Int.tmod x8 (8 : Int)) == (5 : Int))
 (jn (σ := Unit) (fun s31 => /- -/
 ldA (.cons .sl (.cons .sl (.cons (.int .i64) .nil))) (⟨b0, 0, none⟩ : Addr) fun x32 =>
 ldT (.int .i64) ((⟨b1, 0, none⟩ : Addr).add 1) fun x33 =>
 callT Try.prog fn_order_Order_Push #[(.pointer a0), (.int .i64 x33)] (.int .i64) fun r34 =>
 ckA (⟨b0, 0, none⟩ : Addr) [(.slice x32.1.a x32.1.len x32.1.cap), (.slice x32.2.1.a x32.2.1.len x32.2.1.cap), (.int .i64 x32.2.2.1)] <|
 st1 (⟨b2, 0, none⟩ : Addr) (.slice x32.1.a x32.1.len x32.1.cap) <|
 st1 ((⟨b2, 0, none⟩ : Addr).add 1) (.slice x32.2.1.a x32.2.1.len x32.2.1.cap) <|
 st1 ((⟨b2, 0, none⟩ : Addr).add 2) (.int .i64 x32.2.2.1) <|
 ldA (.cons .sl (.cons .sl (.cons (.int .i64) .nil))) (⟨b2, 0, none⟩ : Addr) fun x35 =>
 K ((⟨x35.1.a, x35.1.len, x35.1.cap⟩, ⟨x35.2.1.a, x35.2.1.len, x35.2.1.cap⟩, x35.2.2.1, ()), (r34 == s7.1), ()))
 (fun J30 =>
 brB (decide (x4 ≤ (x5.len : Int)))
 (ldA (.cons .sl (.cons .sl (.cons (.int .i64) .nil))) (⟨b0, 0, none⟩ : Addr) fun x36 =>
 ldT (.int .i64) ((⟨b1, 0, none⟩ : Addr).add 1) fun x37 =>
 callT Try.prog fn_salvorref11_Set #[(.agg #[(.slice x36.1.a x36.1.len x36.1.cap), (.slice x36.2.1.a x36.2.1.len x36.2.1.cap), (.int .i64 x36.2.2.1)]), (.int .i64 x37), (.int .i64 (1 : Int))] (.agg (.cons .sl (.cons .sl (.cons (.int .i64) .nil)))) fun r38 =>
 st1 (⟨b0, 0, none⟩ : Addr) (.slice r38.1.a r38.1.len r38.1.cap) <|
 st1 ((⟨b0, 0, none⟩ : Addr).add 1) (.slice r38.2.1.a r38.2.1.len r38.2.1.cap) <|
 st1 ((⟨b0, 0, none⟩ : Addr).add 2) (.int .i64 r38.2.2.1) <|
 J30 (()))
 (J30 (()))))
 (brB ((Int.tmod x8 (8 : Int)) == (6 : Int))
 (jn (σ := Unit) (fun s40 => /- -/
 ldA (.cons .sl (.cons .sl (.cons (.int .i64) .nil))) (⟨b0, 0, none⟩ : Addr) fun x41 =>
 ldT (.int .i64) ((⟨b1, 0, none⟩ : Addr).add 1) fun x42 =>
 callT Try.prog fn_order_Order_Remove #[(.pointer a0), (.int .i64 x42)] (.int .i64) fun r43 =>
 ckA (⟨b0, 0, none⟩ : Addr) [(.slice x41.1.a x41.1.len x41.1.cap), (.slice x41.2.1.a x41.2.1.len x41.2.1.cap), (.int .i64 x41.2.2.1)] <|
 st1 (⟨b2, 0, none⟩ : Addr) (.slice x41.1.a x41.1.len x41.1.cap) <|
 st1 ((⟨b2, 0, none⟩ : Addr).add 1) (.slice x41.2.1.a x41.2.1.len x41.2.1.cap) <|
 st1 ((⟨b2, 0, none⟩ : Addr).add 2) (.int .i64 x41.2.2.1) <|
 ldA (.cons .sl (.cons .sl (.cons (.int .i64) .nil))) (⟨b2, 0, none⟩ : Addr) fun x44 =>
 K ((⟨x44.1.a, x44.1.len, x44.1.cap⟩, ⟨x44.2.1.a, x44.2.1.len, x44.2.1.cap⟩, x44.2.2.1, ()), (r43 == s7.1), ()))
 (fun J39 =>
 brB (decide (x4 ≤ (x5.len : Int)))
 (ldA (.cons .sl (.cons .sl (.cons (.int .i64) .nil))) (⟨b0, 0, none⟩ : Addr) fun x45 =>
 ldT (.int .i64) ((⟨b1, 0, none⟩ : Addr).add 1) fun x46 =>
 callT Try.prog fn_salvorref11_Set #[(.agg #[(.slice x45.1.a x45.1.len x45.1.cap), (.slice x45.2.1.a x45.2.1.len x45.2.1.cap), (.int .i64 x45.2.2.1)]), (.int .i64 x46), (.int .i64 (0 : Int))] (.agg (.cons .sl (.cons .sl (.cons (.int .i64) .nil)))) fun r47 =>
 st1 (⟨b0, 0, none⟩ : Addr) (.slice r47.1.a r47.1.len r47.1.cap) <|
 st1 ((⟨b0, 0, none⟩ : Addr).add 1) (.slice r47.2.1.a r47.2.1.len r47.2.1.cap) <|
 st1 ((⟨b0, 0, none⟩ : Addr).add 2) (.int .i64 r47.2.2.1) <|
 J39 (()))
 (J39 (()))))
 (ldT (.int .u16) ((⟨b1, 0, none⟩ : Addr).add 2) fun x48 =>
 nz (600 : Int) <|
 lfp (σ := (Int × (Bool × Unit))) (fun X49 s50 => /-   -/
 brB (decide (s50.1 < (IntKind.wrap .u16 ((1 : Int) + (Int.tmod x48 (600 : Int))))))
 (ldA (.cons .sl (.cons .sl (.cons (.int .i64) .nil))) (⟨b0, 0, none⟩ : Addr) fun x51 =>
 callT Try.prog fn_salvorref11_Decay #[(.agg #[(.slice x51.1.a x51.1.len x51.1.cap), (.slice x51.2.1.a x51.2.1.len x51.2.1.cap), (.int .i64 x51.2.2.1)])] (.tup (.cons (.agg (.cons .sl (.cons .sl (.cons (.int .i64) .nil)))) (.cons (.int .i64) .nil))) fun r52 =>
 st1 (⟨b0, 0, none⟩ : Addr) (.slice r52.1.1.a r52.1.1.len r52.1.1.cap) <|
 st1 ((⟨b0, 0, none⟩ : Addr).add 1) (.slice r52.1.2.1.a r52.1.2.1.len r52.1.2.1.cap) <|
 st1 ((⟨b0, 0, none⟩ : Addr).add 2) (.int .i64 r52.1.2.2.1) <|
 callT Try.prog fn_order_Order_Decay #[(.pointer a0)] (.int .i64) fun r53 =>
 brB (r53 != r52.2.1)
 (ldA (.cons .sl (.cons .sl (.cons (.int .i64) .nil))) (⟨b0, 0, none⟩ : Addr) fun x54 =>
 st1 (⟨b2, 0, none⟩ : Addr) (.slice x54.1.a x54.1.len x54.1.cap) <|
 st1 ((⟨b2, 0, none⟩ : Addr).add 1) (.slice x54.2.1.a x54.2.1.len x54.2.1.cap) <|
 st1 ((⟨b2, 0, none⟩ : Addr).add 2) (.int .i64 x54.2.2.1) <|
 ldA (.cons .sl (.cons .sl (.cons (.int .i64) .nil))) (⟨b2, 0, none⟩ : Addr) fun x55 =>
 K ((⟨x55.1.a, x55.1.len, x55.1.cap⟩, ⟨x55.2.1.a, x55.2.1.len, x55.2.1.cap⟩, x55.2.2.1, ()), false, ()))
 (X49 ((IntKind.wrap .u16 (s50.1 + (1 : Int))), s50.2.1, ())))
 (ldA (.cons .sl (.cons .sl (.cons (.int .i64) .nil))) (⟨b0, 0, none⟩ : Addr) fun x56 =>
 st1 (⟨b2, 0, none⟩ : Addr) (.slice x56.1.a x56.1.len x56.1.cap) <|
 st1 ((⟨b2, 0, none⟩ : Addr).add 1) (.slice x56.2.1.a x56.2.1.len x56.2.1.cap) <|
 st1 ((⟨b2, 0, none⟩ : Addr).add 2) (.int .i64 x56.2.2.1) <|
 ldA (.cons .sl (.cons .sl (.cons (.int .i64) .nil))) (⟨b2, 0, none⟩ : Addr) fun x57 =>
 K ((⟨x57.1.a, x57.1.len, x57.1.cap⟩, ⟨x57.2.1.a, x57.2.1.len, x57.2.1.cap⟩, x57.2.2.1, ()), true, ())))
 ((0 : Int), false, ()))))))
 (fun J9 =>
 brB ((Int.tmod x8 (8 : Int)) == (0 : Int))
 (J9 (((Int.tmod x8 (8 : Int)) == (0 : Int)), ()))
 (jn (σ := (Bool × Unit)) (fun s59 => /-  -/
 J9 (s59.1, ()))
 (fun J58 =>
 brB ((Int.tmod x8 (8 : Int)) == (1 : Int))
 (J58 (((Int.tmod x8 (8 : Int)) == (1 : Int)), ()))
 (J58 (((Int.tmod x8 (8 : Int)) == (2 : Int)), ()))))))
 (fun J6 =>
 brB (!(decide (x4 ≤ (x5.len : Int))))
 (J6 ((110 : Int), ()))
 (J6 ((0 : Int), ()))))
 (jn (σ := (Int × Unit)) (fun s61 => /- want -/
 ldT (.int .u8) (⟨b1, 0, none⟩ : Addr) fun x62 =>
 nz (8 : Int) <|
 jn (σ := (Bool × Unit)) (fun s64 => /-  -/
 brB s64.1
 (jn (σ := Unit) (fun s66 => /- -/
 ldA (.cons .sl (.cons .sl (.cons (.int .i64) .nil))) (⟨b0, 0, none⟩ : Addr) fun x67 =>
 ldT (.int .i64) ((⟨b1, 0, none⟩ : Addr).add 1) fun x68 =>
 callT Try.prog fn_order_Order_Bump #[(.pointer a0), (.int .i64 x68)] (.int .i64) fun r69 =>
 ckA (⟨b0, 0, none⟩ : Addr) [(.slice x67.1.a x67.1.len x67.1.cap), (.slice x67.2.1.a x67.2.1.len x67.2.1.cap), (.int .i64 x67.2.2.1)] <|
 st1 (⟨b2, 0, none⟩ : Addr) (.slice x67.1.a x67.1.len x67.1.cap) <|
 st1 ((⟨b2, 0, none⟩ : Addr).add 1) (.slice x67.2.1.a x67.2.1.len x67.2.1.cap) <|
 st1 ((⟨b2, 0, none⟩ : Addr).add 2) (.int .i64 x67.2.2.1) <|
 ldA (.cons .sl (.cons .sl (.cons (.int .i64) .nil))) (⟨b2, 0, none⟩ : Addr) fun x70 =>
 K ((⟨x70.1.a, x70.1.len, x70.1.cap⟩, ⟨x70.2.1.a, x70.2.1.len, x70.2.1.cap⟩, x70.2.2.1, ()), (r69 == s61.1), ()))
 (fun J65 =>
 J65 (())))
 (brB ((Int.tmod x62 (8 : Int)) == (4 : Int))
 (callT Try.prog fn_order_Order_Pop #[(.pointer a0)] (.tup (.cons (.int .i64) (.cons .bool .nil))) fun r71 =>
 ldA (.cons .sl (.cons .sl (.cons (.int .i64) .nil))) (⟨b0, 0, none⟩ : Addr) fun x72 =>
 callT Try.prog fn_salvorref11_First #[(.agg #[(.slice x72.1.a x72.1.len x72.1.cap), (.slice x72.2.1.a x72.2.1.len x72.2.1.cap), (.int .i64 x72.2.2.1)])] (.int .i64) fun r73 =>
 jn (σ := Unit) (fun s75 => /- -/
 ldA (.cons .sl (.cons .sl (.cons (.int .i64) .nil))) (⟨b0, 0, none⟩ : Addr) fun x76 =>
 brB (r71.1 == r73)
 (st1 (⟨b2, 0, none⟩ : Addr) (.slice x76.1.a x76.1.len x76.1.cap) <|
 st1 ((⟨b2, 0, none⟩ : Addr).add 1) (.slice x76.2.1.a x76.2.1.len x76.2.1.cap) <|
 st1 ((⟨b2, 0, none⟩ : Addr).add 2) (.int .i64 x76.2.2.1) <|
 ldA (.cons .sl (.cons .sl (.cons (.int .i64) .nil))) (⟨b2, 0, none⟩ : Addr) fun x77 =>
 K ((⟨x77.1.a, x77.1.len, x77.1.cap⟩, ⟨x77.2.1.a, x77.2.1.len, x77.2.1.cap⟩, x77.2.2.1, ()), (r71.2.1 == (decide (r73 > (0 : Int)))), ()))
 (st1 (⟨b2, 0, none⟩ : Addr) (.slice x76.1.a x76.1.len x76.1.cap) <|
 st1 ((⟨b2, 0, none⟩ : Addr).add 1) (.slice x76.2.1.a x76.2.1.len x76.2.1.cap) <|
 st1 ((⟨b2, 0, none⟩ : Addr).add 2) (.int .i64 x76.2.2.1) <|
 ldA (.cons .sl (.cons .sl (.cons (.int .i64) .nil))) (⟨b2, 0, none⟩ : Addr) fun x78 =>
 K ((⟨x78.1.a, x78.1.len, x78.1.cap⟩, ⟨x78.2.1.a, x78.2.1.len, x78.2.1.cap⟩, x78.2.2.1, ()), false, ())))
 (fun J74 =>
 brB (decide (r73 > (0 : Int)))
 (ldA (.cons .sl (.cons .sl (.cons (.int .i64) .nil))) (⟨b0, 0, none⟩ : Addr) fun x79 =>
 callT Try.prog fn_salvorref11_Set #[(.agg #[(.slice x79.1.a x79.1.len x79.1.cap), (.slice x79.2.1.a x79.2.1.len x79.2.1.cap), (.int .i64 x79.2.2.1)]), (.int .i64 r73), (.int .i64 (0 : Int))] (.agg (.cons .sl (.cons .sl (.cons (.int .i64) .nil)))) fun r80 =>
 st1 (⟨b0, 0, none⟩ : Addr) (.slice r80.1.a r80.1.len r80.1.cap) <|
 st1 ((⟨b0, 0, none⟩ : Addr).add 1) (.slice r80.2.1.a r80.2.1.len r80.2.1.cap) <|
 st1 ((⟨b0, 0, none⟩ : Addr).add 2) (.int .i64 r80.2.2.1) <|
 J74 (()))
 (J74 (()))))
 (brB ((Int.tmod x62 (8 : Int)) == (5 : Int))
 (jn (σ := Unit) (fun s82 => /- -/
 ldA (.cons .sl (.cons .sl (.cons (.int .i64) .nil))) (⟨b0, 0, none⟩ : Addr) fun x83 =>
 ldT (.int .i64) ((⟨b1, 0, none⟩ : Addr).add 1) fun x84 =>
 callT Try.prog fn_order_Order_Push #[(.pointer a0), (.int .i64 x84)] (.int .i64) fun r85 =>
 ckA (⟨b0, 0, none⟩ : Addr) [(.slice x83.1.a x83.1.len x83.1.cap), (.slice x83.2.1.a x83.2.1.len x83.2.1.cap), (.int .i64 x83.2.2.1)] <|
 st1 (⟨b2, 0, none⟩ : Addr) (.slice x83.1.a x83.1.len x83.1.cap) <|
 st1 ((⟨b2, 0, none⟩ : Addr).add 1) (.slice x83.2.1.a x83.2.1.len x83.2.1.cap) <|
 st1 ((⟨b2, 0, none⟩ : Addr).add 2) (.int .i64 x83.2.2.1) <|
 ldA (.cons .sl (.cons .sl (.cons (.int .i64) .nil))) (⟨b2, 0, none⟩ : Addr) fun x86 =>
 K ((⟨x86.1.a, x86.1.len, x86.1.cap⟩, ⟨x86.2.1.a, x86.2.1.len, x86.2.1.cap⟩, x86.2.2.1, ()), (r85 == s61.1), ()))
 (fun J81 =>
 J81 (())))
 (brB ((Int.tmod x62 (8 : Int)) == (6 : Int))
 (jn (σ := Unit) (fun s88 => /- -/
 ldA (.cons .sl (.cons .sl (.cons (.int .i64) .nil))) (⟨b0, 0, none⟩ : Addr) fun x89 =>
 ldT (.int .i64) ((⟨b1, 0, none⟩ : Addr).add 1) fun x90 =>
 callT Try.prog fn_order_Order_Remove #[(.pointer a0), (.int .i64 x90)] (.int .i64) fun r91 =>
 ckA (⟨b0, 0, none⟩ : Addr) [(.slice x89.1.a x89.1.len x89.1.cap), (.slice x89.2.1.a x89.2.1.len x89.2.1.cap), (.int .i64 x89.2.2.1)] <|
 st1 (⟨b2, 0, none⟩ : Addr) (.slice x89.1.a x89.1.len x89.1.cap) <|
 st1 ((⟨b2, 0, none⟩ : Addr).add 1) (.slice x89.2.1.a x89.2.1.len x89.2.1.cap) <|
 st1 ((⟨b2, 0, none⟩ : Addr).add 2) (.int .i64 x89.2.2.1) <|
 ldA (.cons .sl (.cons .sl (.cons (.int .i64) .nil))) (⟨b2, 0, none⟩ : Addr) fun x92 =>
 K ((⟨x92.1.a, x92.1.len, x92.1.cap⟩, ⟨x92.2.1.a, x92.2.1.len, x92.2.1.cap⟩, x92.2.2.1, ()), (r91 == s61.1), ()))
 (fun J87 =>
 J87 (())))
 (ldT (.int .u16) ((⟨b1, 0, none⟩ : Addr).add 2) fun x93 =>
 nz (600 : Int) <|
 lfp (σ := (Int × (Bool × Unit))) (fun X94 s95 => /-   -/
 brB (decide (s95.1 < (IntKind.wrap .u16 ((1 : Int) + (Int.tmod x93 (600 : Int))))))
 (ldA (.cons .sl (.cons .sl (.cons (.int .i64) .nil))) (⟨b0, 0, none⟩ : Addr) fun x96 =>
 callT Try.prog fn_salvorref11_Decay #[(.agg #[(.slice x96.1.a x96.1.len x96.1.cap), (.slice x96.2.1.a x96.2.1.len x96.2.1.cap), (.int .i64 x96.2.2.1)])] (.tup (.cons (.agg (.cons .sl (.cons .sl (.cons (.int .i64) .nil)))) (.cons (.int .i64) .nil))) fun r97 =>
 st1 (⟨b0, 0, none⟩ : Addr) (.slice r97.1.1.a r97.1.1.len r97.1.1.cap) <|
 st1 ((⟨b0, 0, none⟩ : Addr).add 1) (.slice r97.1.2.1.a r97.1.2.1.len r97.1.2.1.cap) <|
 st1 ((⟨b0, 0, none⟩ : Addr).add 2) (.int .i64 r97.1.2.2.1) <|
 callT Try.prog fn_order_Order_Decay #[(.pointer a0)] (.int .i64) fun r98 =>
 brB (r98 != r97.2.1)
 (ldA (.cons .sl (.cons .sl (.cons (.int .i64) .nil))) (⟨b0, 0, none⟩ : Addr) fun x99 =>
 st1 (⟨b2, 0, none⟩ : Addr) (.slice x99.1.a x99.1.len x99.1.cap) <|
 st1 ((⟨b2, 0, none⟩ : Addr).add 1) (.slice x99.2.1.a x99.2.1.len x99.2.1.cap) <|
 st1 ((⟨b2, 0, none⟩ : Addr).add 2) (.int .i64 x99.2.2.1) <|
 ldA (.cons .sl (.cons .sl (.cons (.int .i64) .nil))) (⟨b2, 0, none⟩ : Addr) fun x100 =>
 K ((⟨x100.1.a, x100.1.len, x100.1.cap⟩, ⟨x100.2.1.a, x100.2.1.len, x100.2.1.cap⟩, x100.2.2.1, ()), false, ()))
 (X94 ((IntKind.wrap .u16 (s95.1 + (1 : Int))), s95.2.1, ())))
 (ldA (.cons .sl (.cons .sl (.cons (.int .i64) .nil))) (⟨b0, 0, none⟩ : Addr) fun x101 =>
 st1 (⟨b2, 0, none⟩ : Addr) (.slice x101.1.a x101.1.len x101.1.cap) <|
 st1 ((⟨b2, 0, none⟩ : Addr).add 1) (.slice x101.2.1.a x101.2.1.len x101.2.1.cap) <|
 st1 ((⟨b2, 0, none⟩ : Addr).add 2) (.int .i64 x101.2.2.1) <|
 ldA (.cons .sl (.cons .sl (.cons (.int .i64) .nil))) (⟨b2, 0, none⟩ : Addr) fun x102 =>
 K ((⟨x102.1.a, x102.1.len, x102.1.cap⟩, ⟨x102.2.1.a, x102.2.1.len, x102.2.1.cap⟩, x102.2.2.1, ()), true, ())))
 ((0 : Int), false, ()))))))
 (fun J63 =>
 brB ((Int.tmod x62 (8 : Int)) == (0 : Int))
 (J63 (((Int.tmod x62 (8 : Int)) == (0 : Int)), ()))
 (jn (σ := (Bool × Unit)) (fun s104 => /-  -/
 J63 (s104.1, ()))
 (fun J103 =>
 brB ((Int.tmod x62 (8 : Int)) == (1 : Int))
 (J103 (((Int.tmod x62 (8 : Int)) == (1 : Int)), ()))
 (J103 (((Int.tmod x62 (8 : Int)) == (2 : Int)), ()))))))
 (fun J60 =>
 J60 ((110 : Int), ())))
set_option maxRecDepth 100000 in
theorem E_salvorlaw11_does (a0 : Option Addr) (a1 : (Sl × (Sl × (Int × Unit)))) (a2 : (Int × (Int × (Int × Unit)))) (K : ((Sl × (Sl × (Int × Unit))) × (Bool × Unit)) → HP) (h : Heap) : fnVC Try.prog [] 116 Try.f44 [(.pointer a0), (.agg #[(.slice a1.1.a a1.1.len a1.1.cap), (.slice a1.2.1.a a1.2.1.len a1.2.1.cap), (.int .i64 a1.2.2.1)]), (.agg #[(.int .u8 a2.1), (.int .i64 a2.2.1), (.int .u16 a2.2.2.1)])] (.tup (.cons (.agg (.cons .sl (.cons .sl (.cons (.int .i64) .nil)))) (.cons .bool .nil))) K h = F_salvorlaw11_does a0 a1 a2 K h := by kernel_rfl
set_option maxRecDepth 100000 in
theorem S_salvorlaw11_does{h : Heap} {a0 : Option Addr} {a1 : (Sl × (Sl × (Int × Unit)))} {a2 : (Int × (Int × (Int × Unit)))} (K : ((Sl × (Sl × (Int × Unit))) × (Bool × Unit)) → HP) (hF : F_salvorlaw11_does a0 a1 a2 K h) : CallsH Try.prog fn_salvorlaw11_does #[(.pointer a0), (.agg #[(.slice a1.1.a a1.1.len a1.1.cap), (.slice a1.2.1.a a1.2.1.len a1.2.1.cap), (.int .i64 a1.2.2.1)]), (.agg #[(.int .u8 a2.1), (.int .i64 a2.2.1), (.int .u16 a2.2.2.1)])] h fun v h' => ∃ x : ((Sl × (Sl × (Int × Unit))) × (Bool × Unit)), v = Ty.enc (.tup (.cons (.agg (.cons .sl (.cons .sl (.cons (.int .i64) .nil)))) (.cons .bool .nil))) x ∧ K x h' :=
  callsH_of_fn (P := Try.prog) (fn := Try.f44) (τ := (.tup (.cons (.agg (.cons .sl (.cons .sl (.cons (.int .i64) .nil)))) (.cons .bool .nil)))) follows Try.func44 (by kernel_rfl) (by kernel_rfl) Try.call44 (Eq.mpr (E_salvorlaw11_does a0 a1 a2 K h) hF)

/-- salvor/salvorlaw11.same -/
def F_salvorlaw11_same (a0 : Option Addr) (a1 : (Sl × (Sl × (Int × Unit)))) (K : Bool → HP) : HP :=
 nw #[(.slice a1.1.a a1.1.len a1.1.cap), (.slice a1.2.1.a a1.2.1.len a1.2.1.cap), (.int .i64 a1.2.2.1)] 70 fun b0 =>
 ldA (.cons .sl (.cons .sl (.cons (.int .i64) .nil))) (⟨b0, 0, none⟩ : Addr) fun x1 =>
 callT Try.prog fn_salvorref11_All #[(.agg #[(.slice x1.1.a x1.1.len x1.1.cap), (.slice x1.2.1.a x1.2.1.len x1.2.1.cap), (.int .i64 x1.2.2.1)])] .sl fun r2 =>
 callT Try.prog fn_salvorlaw11_list #[(.pointer a0)] (.tup (.cons .sl (.cons .bool .nil))) fun r3 =>
 callT Try.prog fn_order_Order_Peek #[(.pointer a0)] (.tup (.cons (.int .i64) (.cons .bool .nil))) fun r4 =>
 brB (!r3.2.1)
 (K false)
 (callT Try.prog fn_slices_Equal_int_int #[(.slice r3.1.a r3.1.len r3.1.cap), (.slice r2.a r2.len r2.cap)] .bool fun r5 =>
 brB (!r5)
 (K false)
 (callT Try.prog fn_order_Order_Len #[(.pointer a0)] (.int .i64) fun r6 =>
 brB (r6 != (r2.len : Int))
 (K false)
 (ldT .sl ((⟨b0, 0, none⟩ : Addr).add 1) fun x7 =>
 callT Try.prog fn_order_Order_Vars #[(.pointer a0)] (.int .i64) fun r8 =>
 ck ((⟨b0, 0, none⟩ : Addr).add 1) (.slice x7.a x7.len x7.cap) <|
 brB (r8 != (x7.len : Int))
 (K false)
 (ldT (.int .i64) ((⟨b0, 0, none⟩ : Addr).add 2) fun x9 =>
 callT Try.prog fn_order_Order_Step #[(.pointer a0)] (.int .i64) fun r10 =>
 ck ((⟨b0, 0, none⟩ : Addr).add 2) (.int .i64 x9) <|
 brB (r10 != x9)
 (K false)
 (brB (!(r4.2.1 == (decide ((r2.len : Int) > (0 : Int)))))
 (K false)
 (ldA (.cons .sl (.cons .sl (.cons (.int .i64) .nil))) (⟨b0, 0, none⟩ : Addr) fun x11 =>
 callT Try.prog fn_salvorref11_First #[(.agg #[(.slice x11.1.a x11.1.len x11.1.cap), (.slice x11.2.1.a x11.2.1.len x11.2.1.cap), (.int .i64 x11.2.2.1)])] (.int .i64) fun r12 =>
 brB (r4.1 != r12)
 (K false)
 (lfp (σ := (Int × (Bool × Unit))) (fun X13 s14 => /- v  -/
 ldT .sl ((⟨b0, 0, none⟩ : Addr).add 1) fun x15 =>
 brB (decide (s14.1 ≤ (IntKind.wrap .i64 ((x15.len : Int) + (1 : Int)))))
 (callT Try.prog fn_order_Order_Activity #[(.pointer a0), (.int .i64 s14.1)] (.tup (.cons (.int .i64) (.cons (.int .i64) .nil))) fun r16 =>
 brB (decide (s14.1 < (1 : Int)))
 (jn (σ := (Bool × Unit)) (fun s18 => /-  -/
 X13 ((IntKind.wrap .i64 (s14.1 + (1 : Int))), s18.1, ()))
 (fun J17 =>
 brB (r16.1 != (0 : Int))
 (K false)
 (brB (r16.2.1 != (110 : Int))
 (K false)
 (callT Try.prog fn_order_Order_Has #[(.pointer a0), (.int .i64 s14.1)] .bool fun r19 =>
 brB r19
 (K false)
 (J17 (s14.2.1, ()))))))
 (ldT .sl ((⟨b0, 0, none⟩ : Addr).add 1) fun x20 =>
 jn (σ := (Bool × Unit)) (fun s22 => /-  -/
 X13 ((IntKind.wrap .i64 (s14.1 + (1 : Int))), s22.1, ()))
 (fun J21 =>
 brB (decide (s14.1 > (x20.len : Int)))
 (brB (r16.1 != (0 : Int))
 (K false)
 (brB (r16.2.1 != (110 : Int))
 (K false)
 (callT Try.prog fn_order_Order_Has #[(.pointer a0), (.int .i64 s14.1)] .bool fun r23 =>
 brB r23
 (K false)
 (J21 (s14.2.1, ())))))
 (ldT .sl (⟨b0, 0, none⟩ : Addr) fun x24 =>
 sx x24.a x24.len (IntKind.wrap .i64 (s14.1 - (1 : Int))) 1 fun p25 =>
 ldT (.int .i64) p25 fun x26 =>
 brB (r16.1 != x26)
 (K false)
 (brB (r16.2.1 != (0 : Int))
 (K false)
 (ldT .sl ((⟨b0, 0, none⟩ : Addr).add 1) fun x27 =>
 sx x27.a x27.len (IntKind.wrap .i64 (s14.1 - (1 : Int))) 1 fun p28 =>
 ldT (.int .i64) p28 fun x29 =>
 callT Try.prog fn_order_Order_Has #[(.pointer a0), (.int .i64 s14.1)] .bool fun r30 =>
 ck p28 (.int .i64 x29) <|
 ck ((⟨b0, 0, none⟩ : Addr).add 1) (.slice x27.a x27.len x27.cap) <|
 brB (!(r30 == (x29 == (1 : Int))))
 (K false)
 (J21 (s14.2.1, ()))))))))
 (K true))
 ((0 : Int), false, ()))))))))
set_option maxRecDepth 100000 in
theorem E_salvorlaw11_same (a0 : Option Addr) (a1 : (Sl × (Sl × (Int × Unit)))) (K : Bool → HP) (h : Heap) : fnVC Try.prog [] 127 Try.f45 [(.pointer a0), (.agg #[(.slice a1.1.a a1.1.len a1.1.cap), (.slice a1.2.1.a a1.2.1.len a1.2.1.cap), (.int .i64 a1.2.2.1)])] .bool K h = F_salvorlaw11_same a0 a1 K h := by kernel_rfl
set_option maxRecDepth 100000 in
theorem S_salvorlaw11_same{h : Heap} {a0 : Option Addr} {a1 : (Sl × (Sl × (Int × Unit)))} (K : Bool → HP) (hF : F_salvorlaw11_same a0 a1 K h) : CallsH Try.prog fn_salvorlaw11_same #[(.pointer a0), (.agg #[(.slice a1.1.a a1.1.len a1.1.cap), (.slice a1.2.1.a a1.2.1.len a1.2.1.cap), (.int .i64 a1.2.2.1)])] h fun v h' => ∃ x : Bool, v = Ty.enc .bool x ∧ K x h' :=
  callsH_of_fn (P := Try.prog) (fn := Try.f45) (τ := .bool) follows Try.func45 (by kernel_rfl) (by kernel_rfl) Try.call45 (Eq.mpr (E_salvorlaw11_same a0 a1 K h) hF)

/-- slices.IndexFunc[[]int,int] -/
def F_slices_IndexFunc_int_int (a0 : Sl) (a1 : Value) (K : Int → HP) : HP :=
 lfp (σ := (Int × (Int × Unit))) (fun X0 s1 => /-   -/
 brB (decide (s1.1 < (a0.len : Int)))
 (sx a0.a a0.len s1.1 1 fun p2 =>
 ldT (.int .i64) p2 fun x3 =>
 callF Try.prog a1 #[(.int .i64 x3)] .bool fun r4 =>
 brB r4
 (K s1.1)
 (X0 ((IntKind.wrap .i64 (s1.1 + (1 : Int))), s1.2.1, ())))
 (K (-1 : Int)))
 ((0 : Int), (0 : Int), ())
set_option maxRecDepth 100000 in
theorem E_slices_IndexFunc_int_int (a0 : Sl) (a1 : Value) (K : Int → HP) (h : Heap) : fnVC Try.prog [] 19 Try.f46 [(.slice a0.a a0.len a0.cap), a1] (.int .i64) K h = F_slices_IndexFunc_int_int a0 a1 K h := by kernel_rfl
set_option maxRecDepth 100000 in
theorem S_slices_IndexFunc_int_int{h : Heap} {a0 : Sl} {a1 : Value} (K : Int → HP) (hF : F_slices_IndexFunc_int_int a0 a1 K h) : CallsH Try.prog fn_slices_IndexFunc_int_int #[(.slice a0.a a0.len a0.cap), a1] h fun v h' => ∃ x : Int, v = Ty.enc (.int .i64) x ∧ K x h' :=
  callsH_of_fn (P := Try.prog) (fn := Try.f46) (τ := (.int .i64)) follows Try.func46 (by kernel_rfl) (by kernel_rfl) Try.call46 (Eq.mpr (E_slices_IndexFunc_int_int a0 a1 K h) hF)

/-- slices.pdqsortCmpFunc[int] -/
def F_slices_pdqsortCmpFunc_int (a0 : Sl) (a1 : Int) (a2 : Int) (a3 : Int) (a4 : Value) (K : Unit → HP) : HP :=
 lfp (σ := (Bool × (Bool × (Int × (Int × (Int × Unit)))))) (fun X0 s1 => /- wasPartitioned wasBalanced a b limit -/
 jn (σ := (Bool × (Bool × (Int × (Int × (Int × Unit)))))) (fun s3 => /- wasPartitioned wasBalanced a b limit -/
 X0 (s3.1, s3.2.1, s3.2.2.1, s3.2.2.2.1, s3.2.2.2.2.1, ()))
 (fun J2 =>
 brB (decide ((IntKind.wrap .i64 (s1.2.2.2.1 - s1.2.2.1)) ≤ (12 : Int)))
 (callT Try.prog fn_slices_insertionSortCmpFunc_int #[(.slice a0.a a0.len a0.cap), (.int .i64 s1.2.2.1), (.int .i64 s1.2.2.2.1), a4] (.tup .nil) fun r4 =>
 K (()))
 (brB (s1.2.2.2.2.1 == (0 : Int))
 (callT Try.prog fn_slices_heapSortCmpFunc_int #[(.slice a0.a a0.len a0.cap), (.int .i64 s1.2.2.1), (.int .i64 s1.2.2.2.1), a4] (.tup .nil) fun r5 =>
 K (()))
 (jn (σ := (Int × Unit)) (fun s7 => /- limit -/
 callT Try.prog fn_slices_choosePivotCmpFunc_int #[(.slice a0.a a0.len a0.cap), (.int .i64 s1.2.2.1), (.int .i64 s1.2.2.2.1), a4] (.tup (.cons (.int .i64) (.cons (.int .i64) .nil))) fun r8 =>
 jn (σ := (Int × (Int × Unit))) (fun s10 => /- hint pivot -/
 brB s1.2.1
 (brB s1.1
 (jn (σ := Unit) (fun s12 => /- -/
 brB (decide (s1.2.2.1 > (0 : Int)))
 (sx a0.a a0.len (IntKind.wrap .i64 (s1.2.2.1 - (1 : Int))) 1 fun p13 =>
 ldT (.int .i64) p13 fun x14 =>
 sx a0.a a0.len s10.2.1 1 fun p15 =>
 ldT (.int .i64) p15 fun x16 =>
 callF Try.prog a4 #[(.int .i64 x14), (.int .i64 x16)] (.int .i64) fun r17 =>
 brB (!(decide (r17 < (0 : Int))))
 (callT Try.prog fn_slices_partitionEqualCmpFunc_int #[(.slice a0.a a0.len a0.cap), (.int .i64 s1.2.2.1), (.int .i64 s1.2.2.2.1), (.int .i64 s10.2.1), a4] (.int .i64) fun r18 =>
 J2 (s1.1, s1.2.1, r18, s1.2.2.2.1, s7.1, ()))
 (callT Try.prog fn_slices_partitionCmpFunc_int #[(.slice a0.a a0.len a0.cap), (.int .i64 s1.2.2.1), (.int .i64 s1.2.2.2.1), (.int .i64 s10.2.1), a4] (.tup (.cons (.int .i64) (.cons .bool .nil))) fun r19 =>
 nz (8 : Int) <|
 jn (σ := (Bool × (Int × (Int × Unit)))) (fun s21 => /- wasBalanced a b -/
 J2 (r19.2.1, s21.1, s21.2.1, s21.2.2.1, s7.1, ()))
 (fun J20 =>
 brB (decide ((IntKind.wrap .i64 (r19.1 - s1.2.2.1)) < (IntKind.wrap .i64 (s1.2.2.2.1 - r19.1))))
 (callT Try.prog fn_slices_pdqsortCmpFunc_int #[(.slice a0.a a0.len a0.cap), (.int .i64 s1.2.2.1), (.int .i64 r19.1), (.int .i64 s7.1), a4] (.tup .nil) fun r22 =>
 J20 ((decide ((IntKind.wrap .i64 (r19.1 - s1.2.2.1)) ≥ (IntKind.wrap .i64 (Int.tdiv (IntKind.wrap .i64 (s1.2.2.2.1 - s1.2.2.1)) (8 : Int))))), (IntKind.wrap .i64 (r19.1 + (1 : Int))), s1.2.2.2.1, ()))
 (callT Try.prog fn_slices_pdqsortCmpFunc_int #[(.slice a0.a a0.len a0.cap), (.int .i64 (IntKind.wrap .i64 (r19.1 + (1 : Int)))), (.int .i64 s1.2.2.2.1), (.int .i64 s7.1), a4] (.tup .nil) fun r23 =>
 J20 ((decide ((IntKind.wrap .i64 (s1.2.2.2.1 - r19.1)) ≥ (IntKind.wrap .i64 (Int.tdiv (IntKind.wrap .i64 (s1.2.2.2.1 - s1.2.2.1)) (8 : Int))))), s1.2.2.1, r19.1, ())))))
 (callT Try.prog fn_slices_partitionCmpFunc_int #[(.slice a0.a a0.len a0.cap), (.int .i64 s1.2.2.1), (.int .i64 s1.2.2.2.1), (.int .i64 s10.2.1), a4] (.tup (.cons (.int .i64) (.cons .bool .nil))) fun r24 =>
 nz (8 : Int) <|
 jn (σ := (Bool × (Int × (Int × Unit)))) (fun s26 => /- wasBalanced a b -/
 J2 (r24.2.1, s26.1, s26.2.1, s26.2.2.1, s7.1, ()))
 (fun J25 =>
 brB (decide ((IntKind.wrap .i64 (r24.1 - s1.2.2.1)) < (IntKind.wrap .i64 (s1.2.2.2.1 - r24.1))))
 (callT Try.prog fn_slices_pdqsortCmpFunc_int #[(.slice a0.a a0.len a0.cap), (.int .i64 s1.2.2.1), (.int .i64 r24.1), (.int .i64 s7.1), a4] (.tup .nil) fun r27 =>
 J25 ((decide ((IntKind.wrap .i64 (r24.1 - s1.2.2.1)) ≥ (IntKind.wrap .i64 (Int.tdiv (IntKind.wrap .i64 (s1.2.2.2.1 - s1.2.2.1)) (8 : Int))))), (IntKind.wrap .i64 (r24.1 + (1 : Int))), s1.2.2.2.1, ()))
 (callT Try.prog fn_slices_pdqsortCmpFunc_int #[(.slice a0.a a0.len a0.cap), (.int .i64 (IntKind.wrap .i64 (r24.1 + (1 : Int)))), (.int .i64 s1.2.2.2.1), (.int .i64 s7.1), a4] (.tup .nil) fun r28 =>
 J25 ((decide ((IntKind.wrap .i64 (s1.2.2.2.1 - r24.1)) ≥ (IntKind.wrap .i64 (Int.tdiv (IntKind.wrap .i64 (s1.2.2.2.1 - s1.2.2.1)) (8 : Int))))), s1.2.2.1, r24.1, ())))))
 (fun J11 =>
 brB (s10.1 == (1 : Int))
 (callT Try.prog fn_slices_partialInsertionSortCmpFunc_int #[(.slice a0.a a0.len a0.cap), (.int .i64 s1.2.2.1), (.int .i64 s1.2.2.2.1), a4] .bool fun r29 =>
 brB r29
 (K (()))
 (J11 (())))
 (J11 (()))))
 (jn (σ := Unit) (fun s31 => /- -/
 brB (decide (s1.2.2.1 > (0 : Int)))
 (sx a0.a a0.len (IntKind.wrap .i64 (s1.2.2.1 - (1 : Int))) 1 fun p32 =>
 ldT (.int .i64) p32 fun x33 =>
 sx a0.a a0.len s10.2.1 1 fun p34 =>
 ldT (.int .i64) p34 fun x35 =>
 callF Try.prog a4 #[(.int .i64 x33), (.int .i64 x35)] (.int .i64) fun r36 =>
 brB (!(decide (r36 < (0 : Int))))
 (callT Try.prog fn_slices_partitionEqualCmpFunc_int #[(.slice a0.a a0.len a0.cap), (.int .i64 s1.2.2.1), (.int .i64 s1.2.2.2.1), (.int .i64 s10.2.1), a4] (.int .i64) fun r37 =>
 J2 (s1.1, s1.2.1, r37, s1.2.2.2.1, s7.1, ()))
 (callT Try.prog fn_slices_partitionCmpFunc_int #[(.slice a0.a a0.len a0.cap), (.int .i64 s1.2.2.1), (.int .i64 s1.2.2.2.1), (.int .i64 s10.2.1), a4] (.tup (.cons (.int .i64) (.cons .bool .nil))) fun r38 =>
 nz (8 : Int) <|
 jn (σ := (Bool × (Int × (Int × Unit)))) (fun s40 => /- wasBalanced a b -/
 J2 (r38.2.1, s40.1, s40.2.1, s40.2.2.1, s7.1, ()))
 (fun J39 =>
 brB (decide ((IntKind.wrap .i64 (r38.1 - s1.2.2.1)) < (IntKind.wrap .i64 (s1.2.2.2.1 - r38.1))))
 (callT Try.prog fn_slices_pdqsortCmpFunc_int #[(.slice a0.a a0.len a0.cap), (.int .i64 s1.2.2.1), (.int .i64 r38.1), (.int .i64 s7.1), a4] (.tup .nil) fun r41 =>
 J39 ((decide ((IntKind.wrap .i64 (r38.1 - s1.2.2.1)) ≥ (IntKind.wrap .i64 (Int.tdiv (IntKind.wrap .i64 (s1.2.2.2.1 - s1.2.2.1)) (8 : Int))))), (IntKind.wrap .i64 (r38.1 + (1 : Int))), s1.2.2.2.1, ()))
 (callT Try.prog fn_slices_pdqsortCmpFunc_int #[(.slice a0.a a0.len a0.cap), (.int .i64 (IntKind.wrap .i64 (r38.1 + (1 : Int)))), (.int .i64 s1.2.2.2.1), (.int .i64 s7.1), a4] (.tup .nil) fun r42 =>
 J39 ((decide ((IntKind.wrap .i64 (s1.2.2.2.1 - r38.1)) ≥ (IntKind.wrap .i64 (Int.tdiv (IntKind.wrap .i64 (s1.2.2.2.1 - s1.2.2.1)) (8 : Int))))), s1.2.2.1, r38.1, ())))))
 (callT Try.prog fn_slices_partitionCmpFunc_int #[(.slice a0.a a0.len a0.cap), (.int .i64 s1.2.2.1), (.int .i64 s1.2.2.2.1), (.int .i64 s10.2.1), a4] (.tup (.cons (.int .i64) (.cons .bool .nil))) fun r43 =>
 nz (8 : Int) <|
 jn (σ := (Bool × (Int × (Int × Unit)))) (fun s45 => /- wasBalanced a b -/
 J2 (r43.2.1, s45.1, s45.2.1, s45.2.2.1, s7.1, ()))
 (fun J44 =>
 brB (decide ((IntKind.wrap .i64 (r43.1 - s1.2.2.1)) < (IntKind.wrap .i64 (s1.2.2.2.1 - r43.1))))
 (callT Try.prog fn_slices_pdqsortCmpFunc_int #[(.slice a0.a a0.len a0.cap), (.int .i64 s1.2.2.1), (.int .i64 r43.1), (.int .i64 s7.1), a4] (.tup .nil) fun r46 =>
 J44 ((decide ((IntKind.wrap .i64 (r43.1 - s1.2.2.1)) ≥ (IntKind.wrap .i64 (Int.tdiv (IntKind.wrap .i64 (s1.2.2.2.1 - s1.2.2.1)) (8 : Int))))), (IntKind.wrap .i64 (r43.1 + (1 : Int))), s1.2.2.2.1, ()))
 (callT Try.prog fn_slices_pdqsortCmpFunc_int #[(.slice a0.a a0.len a0.cap), (.int .i64 (IntKind.wrap .i64 (r43.1 + (1 : Int)))), (.int .i64 s1.2.2.2.1), (.int .i64 s7.1), a4] (.tup .nil) fun r47 =>
 J44 ((decide ((IntKind.wrap .i64 (s1.2.2.2.1 - r43.1)) ≥ (IntKind.wrap .i64 (Int.tdiv (IntKind.wrap .i64 (s1.2.2.2.1 - s1.2.2.1)) (8 : Int))))), s1.2.2.1, r43.1, ())))))
 (fun J30 =>
 J30 (()))))
 (jn (σ := Unit) (fun s49 => /- -/
 brB (decide (s1.2.2.1 > (0 : Int)))
 (sx a0.a a0.len (IntKind.wrap .i64 (s1.2.2.1 - (1 : Int))) 1 fun p50 =>
 ldT (.int .i64) p50 fun x51 =>
 sx a0.a a0.len s10.2.1 1 fun p52 =>
 ldT (.int .i64) p52 fun x53 =>
 callF Try.prog a4 #[(.int .i64 x51), (.int .i64 x53)] (.int .i64) fun r54 =>
 brB (!(decide (r54 < (0 : Int))))
 (callT Try.prog fn_slices_partitionEqualCmpFunc_int #[(.slice a0.a a0.len a0.cap), (.int .i64 s1.2.2.1), (.int .i64 s1.2.2.2.1), (.int .i64 s10.2.1), a4] (.int .i64) fun r55 =>
 J2 (s1.1, s1.2.1, r55, s1.2.2.2.1, s7.1, ()))
 (callT Try.prog fn_slices_partitionCmpFunc_int #[(.slice a0.a a0.len a0.cap), (.int .i64 s1.2.2.1), (.int .i64 s1.2.2.2.1), (.int .i64 s10.2.1), a4] (.tup (.cons (.int .i64) (.cons .bool .nil))) fun r56 =>
 nz (8 : Int) <|
 jn (σ := (Bool × (Int × (Int × Unit)))) (fun s58 => /- wasBalanced a b -/
 J2 (r56.2.1, s58.1, s58.2.1, s58.2.2.1, s7.1, ()))
 (fun J57 =>
 brB (decide ((IntKind.wrap .i64 (r56.1 - s1.2.2.1)) < (IntKind.wrap .i64 (s1.2.2.2.1 - r56.1))))
 (callT Try.prog fn_slices_pdqsortCmpFunc_int #[(.slice a0.a a0.len a0.cap), (.int .i64 s1.2.2.1), (.int .i64 r56.1), (.int .i64 s7.1), a4] (.tup .nil) fun r59 =>
 J57 ((decide ((IntKind.wrap .i64 (r56.1 - s1.2.2.1)) ≥ (IntKind.wrap .i64 (Int.tdiv (IntKind.wrap .i64 (s1.2.2.2.1 - s1.2.2.1)) (8 : Int))))), (IntKind.wrap .i64 (r56.1 + (1 : Int))), s1.2.2.2.1, ()))
 (callT Try.prog fn_slices_pdqsortCmpFunc_int #[(.slice a0.a a0.len a0.cap), (.int .i64 (IntKind.wrap .i64 (r56.1 + (1 : Int)))), (.int .i64 s1.2.2.2.1), (.int .i64 s7.1), a4] (.tup .nil) fun r60 =>
 J57 ((decide ((IntKind.wrap .i64 (s1.2.2.2.1 - r56.1)) ≥ (IntKind.wrap .i64 (Int.tdiv (IntKind.wrap .i64 (s1.2.2.2.1 - s1.2.2.1)) (8 : Int))))), s1.2.2.1, r56.1, ())))))
 (callT Try.prog fn_slices_partitionCmpFunc_int #[(.slice a0.a a0.len a0.cap), (.int .i64 s1.2.2.1), (.int .i64 s1.2.2.2.1), (.int .i64 s10.2.1), a4] (.tup (.cons (.int .i64) (.cons .bool .nil))) fun r61 =>
 nz (8 : Int) <|
 jn (σ := (Bool × (Int × (Int × Unit)))) (fun s63 => /- wasBalanced a b -/
 J2 (r61.2.1, s63.1, s63.2.1, s63.2.2.1, s7.1, ()))
 (fun J62 =>
 brB (decide ((IntKind.wrap .i64 (r61.1 - s1.2.2.1)) < (IntKind.wrap .i64 (s1.2.2.2.1 - r61.1))))
 (callT Try.prog fn_slices_pdqsortCmpFunc_int #[(.slice a0.a a0.len a0.cap), (.int .i64 s1.2.2.1), (.int .i64 r61.1), (.int .i64 s7.1), a4] (.tup .nil) fun r64 =>
 J62 ((decide ((IntKind.wrap .i64 (r61.1 - s1.2.2.1)) ≥ (IntKind.wrap .i64 (Int.tdiv (IntKind.wrap .i64 (s1.2.2.2.1 - s1.2.2.1)) (8 : Int))))), (IntKind.wrap .i64 (r61.1 + (1 : Int))), s1.2.2.2.1, ()))
 (callT Try.prog fn_slices_pdqsortCmpFunc_int #[(.slice a0.a a0.len a0.cap), (.int .i64 (IntKind.wrap .i64 (r61.1 + (1 : Int)))), (.int .i64 s1.2.2.2.1), (.int .i64 s7.1), a4] (.tup .nil) fun r65 =>
 J62 ((decide ((IntKind.wrap .i64 (s1.2.2.2.1 - r61.1)) ≥ (IntKind.wrap .i64 (Int.tdiv (IntKind.wrap .i64 (s1.2.2.2.1 - s1.2.2.1)) (8 : Int))))), s1.2.2.1, r61.1, ())))))
 (fun J48 =>
 J48 (()))))
 (fun J9 =>
 brB (r8.2.1 == (2 : Int))
 (callT Try.prog fn_slices_reverseRangeCmpFunc_int #[(.slice a0.a a0.len a0.cap), (.int .i64 s1.2.2.1), (.int .i64 s1.2.2.2.1), a4] (.tup .nil) fun r66 =>
 J9 ((1 : Int), (IntKind.wrap .i64 ((IntKind.wrap .i64 (s1.2.2.2.1 - (1 : Int))) - (IntKind.wrap .i64 (r8.1 - s1.2.2.1)))), ()))
 (J9 (r8.2.1, r8.1, ()))))
 (fun J6 =>
 brB (!s1.2.1)
 (callT Try.prog fn_slices_breakPatternsCmpFunc_int #[(.slice a0.a a0.len a0.cap), (.int .i64 s1.2.2.1), (.int .i64 s1.2.2.2.1), a4] (.tup .nil) fun r67 =>
 J6 ((IntKind.wrap .i64 (s1.2.2.2.2.1 - (1 : Int))), ()))
 (J6 (s1.2.2.2.2.1, ())))))))
 (true, true, a1, a2, a3, ())
set_option maxRecDepth 100000 in
theorem E_slices_pdqsortCmpFunc_int (a0 : Sl) (a1 : Int) (a2 : Int) (a3 : Int) (a4 : Value) (K : Unit → HP) (h : Heap) : fnVC Try.prog [] 148 Try.f47 [(.slice a0.a a0.len a0.cap), (.int .i64 a1), (.int .i64 a2), (.int .i64 a3), a4] (.tup .nil) K h = F_slices_pdqsortCmpFunc_int a0 a1 a2 a3 a4 K h := by kernel_rfl
set_option maxRecDepth 100000 in
theorem S_slices_pdqsortCmpFunc_int{h : Heap} {a0 : Sl} {a1 : Int} {a2 : Int} {a3 : Int} {a4 : Value} (K : Unit → HP) (hF : F_slices_pdqsortCmpFunc_int a0 a1 a2 a3 a4 K h) : CallsH Try.prog fn_slices_pdqsortCmpFunc_int #[(.slice a0.a a0.len a0.cap), (.int .i64 a1), (.int .i64 a2), (.int .i64 a3), a4] h fun v h' => ∃ x : Unit, v = Ty.enc (.tup .nil) x ∧ K x h' :=
  callsH_of_fn (P := Try.prog) (fn := Try.f47) (τ := (.tup .nil)) follows Try.func47 (by kernel_rfl) (by kernel_rfl) Try.call47 (Eq.mpr (E_slices_pdqsortCmpFunc_int a0 a1 a2 a3 a4 K h) hF)

/-- math/bits.Len -/
def F_math_bits_Len (a0 : Int) (K : Int → HP) : HP :=
 callT Try.prog fn_math_bits_Len64 #[(.int .u64 a0)] (.int .i64) fun r0 =>
 K r0
set_option maxRecDepth 100000 in
theorem E_math_bits_Len (a0 : Int) (K : Int → HP) (h : Heap) : fnVC Try.prog [] 8 Try.f48 [(.int .u64 a0)] (.int .i64) K h = F_math_bits_Len a0 K h := by kernel_rfl
set_option maxRecDepth 100000 in
theorem S_math_bits_Len{h : Heap} {a0 : Int} (K : Int → HP) (hF : F_math_bits_Len a0 K h) : CallsH Try.prog fn_math_bits_Len #[(.int .u64 a0)] h fun v h' => ∃ x : Int, v = Ty.enc (.int .i64) x ∧ K x h' :=
  callsH_of_fn (P := Try.prog) (fn := Try.f48) (τ := (.int .i64)) follows Try.func48 (by kernel_rfl) (by kernel_rfl) Try.call48 (Eq.mpr (E_math_bits_Len a0 K h) hF)

/-- salvor/order.above -/
def F_order_above (a0 : Int) (K : Value → HP) : HP :=
 nw #[(.int .i64 a0)] 3 fun b0 =>
 K (.func (.func 66) #[] #[(.pointer (some (⟨b0, 0, none⟩ : Addr)))])
set_option maxRecDepth 100000 in
theorem E_order_above (a0 : Int) (K : Value → HP) (h : Heap) : fnVC Try.prog [] 4 Try.f49 [(.int .i64 a0)] .val K h = F_order_above a0 K h := by kernel_rfl
set_option maxRecDepth 100000 in
theorem S_order_above{h : Heap} {a0 : Int} (K : Value → HP) (hF : F_order_above a0 K h) : CallsH Try.prog fn_order_above #[(.int .i64 a0)] h fun v h' => ∃ x : Value, v = Ty.enc .val x ∧ K x h' :=
  callsH_of_fn (P := Try.prog) (fn := Try.f49) (τ := .val) follows Try.func49 (by kernel_rfl) (by kernel_rfl) Try.call49 (Eq.mpr (E_order_above a0 K h) hF)

/-- (*salvor/order.Order).down$1 -/
def F_order_Order_down_1 (a0 : Int) (a1 : Int) (c0 : Addr) (K : Int → HP) : HP :=
 ldT .ptr c0 fun x0 =>
 nn x0 fun p1 =>
 ldT .sl (p1.add 1) fun x2 =>
 brB (decide (a1 < (x2.len : Int)))
 (ldT .ptr c0 fun x3 =>
 ldT .ptr c0 fun x4 =>
 nn x4 fun p5 =>
 ldT .sl (p5.add 1) fun x6 =>
 sx x6.a x6.len a1 1 fun p7 =>
 ldT (.int .i64) p7 fun x8 =>
 ldT .ptr c0 fun x9 =>
 nn x9 fun p10 =>
 ldT .sl (p10.add 1) fun x11 =>
 sx x11.a x11.len a0 1 fun p12 =>
 ldT (.int .i64) p12 fun x13 =>
 callT Try.prog fn_order_Order_before #[(.pointer x3), (.int .i64 x8), (.int .i64 x13)] .bool fun r14 =>
 brB r14
 (K a1)
 (K a0))
 (K a0)
set_option maxRecDepth 100000 in
theorem E_order_Order_down_1 (a0 : Int) (a1 : Int) (c0 : Addr) (K : Int → HP) (h : Heap) : fnVC Try.prog [] 33 Try.f50 [(.int .i64 a0), (.int .i64 a1), (.pointer (some c0))] (.int .i64) K h = F_order_Order_down_1 a0 a1 c0 K h := by kernel_rfl
set_option maxRecDepth 100000 in
theorem S_order_Order_down_1{h : Heap} {a0 : Int} {a1 : Int} {c0 : Addr} (K : Int → HP) (hF : F_order_Order_down_1 a0 a1 c0 K h) : CallsH Try.prog fn_order_Order_down_1 #[(.int .i64 a0), (.int .i64 a1), (.pointer (some c0))] h fun v h' => ∃ x : Int, v = Ty.enc (.int .i64) x ∧ K x h' :=
  callsH_of_fn (P := Try.prog) (fn := Try.f50) (τ := (.int .i64)) follows Try.func50 (by kernel_rfl) (by kernel_rfl) Try.call50 (Eq.mpr (E_order_Order_down_1 a0 a1 c0 K h) hF)

/-- salvor/salvorref11.Bump -/
def F_salvorref11_Bump (a0 : (Sl × (Sl × (Int × Unit)))) (a1 : Int) (K : (Sl × (Sl × (Int × Unit))) → HP) : HP :=
 nw #[(.slice a0.1.a a0.1.len a0.1.cap), (.slice a0.2.1.a a0.2.1.len a0.2.1.cap), (.int .i64 a0.2.2.1)] 70 fun b0 =>
 nw #[(.slice none 0 0), (.slice none 0 0), (.int .i64 (0 : Int))] 70 fun b1 =>
 ldT .sl (⟨b0, 0, none⟩ : Addr) fun x2 =>
 ldT .sl (⟨b0, 0, none⟩ : Addr) fun x3 =>
 sx x3.a x3.len (IntKind.wrap .i64 (a1 - (1 : Int))) 1 fun p4 =>
 ldT (.int .i64) p4 fun x5 =>
 ldT (.int .i64) ((⟨b0, 0, none⟩ : Addr).add 2) fun x6 =>
 callT Try.prog fn_salvorref11_with #[(.slice x2.a x2.len x2.cap), (.int .i64 (IntKind.wrap .i64 (a1 - (1 : Int)))), (.int .i64 (IntKind.wrap .i64 (x5 + x6)))] .sl fun r7 =>
 st1 (⟨b0, 0, none⟩ : Addr) (.slice r7.a r7.len r7.cap) <|
 ldT .sl (⟨b0, 0, none⟩ : Addr) fun x8 =>
 sx x8.a x8.len (IntKind.wrap .i64 (a1 - (1 : Int))) 1 fun p9 =>
 ldT (.int .i64) p9 fun x10 =>
 jn (σ := Unit) (fun s12 => /- -/
 ldA (.cons .sl (.cons .sl (.cons (.int .i64) .nil))) (⟨b0, 0, none⟩ : Addr) fun x13 =>
 st1 (⟨b1, 0, none⟩ : Addr) (.slice x13.1.a x13.1.len x13.1.cap) <|
 st1 ((⟨b1, 0, none⟩ : Addr).add 1) (.slice x13.2.1.a x13.2.1.len x13.2.1.cap) <|
 st1 ((⟨b1, 0, none⟩ : Addr).add 2) (.int .i64 x13.2.2.1) <|
 ldA (.cons .sl (.cons .sl (.cons (.int .i64) .nil))) (⟨b1, 0, none⟩ : Addr) fun x14 =>
 K (⟨x14.1.a, x14.1.len, x14.1.cap⟩, ⟨x14.2.1.a, x14.2.1.len, x14.2.1.cap⟩, x14.2.2.1, ()))
 (fun J11 =>
 brB (decide (x10 > (1125899906842624 : Int)))
 (lfp (σ := (Int × Unit)) (fun X15 s16 => /- i -/
 ldT .sl (⟨b0, 0, none⟩ : Addr) fun x17 =>
 brB (decide (s16.1 < (x17.len : Int)))
 (ldT .sl (⟨b0, 0, none⟩ : Addr) fun x18 =>
 ldT .sl (⟨b0, 0, none⟩ : Addr) fun x19 =>
 sx x19.a x19.len s16.1 1 fun p20 =>
 ldT (.int .i64) p20 fun x21 =>
 nz (1073741824 : Int) <|
 sx x18.a x18.len s16.1 1 fun p22 =>
 st1 p22 (.int .i64 (IntKind.wrap .i64 (Int.tdiv x21 (1073741824 : Int)))) <|
 X15 ((IntKind.wrap .i64 (s16.1 + (1 : Int))), ()))
 (ldT (.int .i64) ((⟨b0, 0, none⟩ : Addr).add 2) fun x23 =>
 nz (1073741824 : Int) <|
 st1 ((⟨b0, 0, none⟩ : Addr).add 2) (.int .i64 (IntKind.wrap .i64 (Int.tdiv x23 (1073741824 : Int)))) <|
 ldT (.int .i64) ((⟨b0, 0, none⟩ : Addr).add 2) fun x24 =>
 jn (σ := Unit) (fun s26 => /- -/
 J11 (()))
 (fun J25 =>
 brB (decide (x24 < (1 : Int)))
 (st1 ((⟨b0, 0, none⟩ : Addr).add 2) (.int .i64 (1 : Int)) <|
 J25 (()))
 (J25 (())))))
 ((0 : Int), ()))
 (J11 (())))
set_option maxRecDepth 100000 in
theorem E_salvorref11_Bump (a0 : (Sl × (Sl × (Int × Unit)))) (a1 : Int) (K : (Sl × (Sl × (Int × Unit))) → HP) (h : Heap) : fnVC Try.prog [] 54 Try.f51 [(.agg #[(.slice a0.1.a a0.1.len a0.1.cap), (.slice a0.2.1.a a0.2.1.len a0.2.1.cap), (.int .i64 a0.2.2.1)]), (.int .i64 a1)] (.agg (.cons .sl (.cons .sl (.cons (.int .i64) .nil)))) K h = F_salvorref11_Bump a0 a1 K h := by kernel_rfl
set_option maxRecDepth 100000 in
theorem S_salvorref11_Bump{h : Heap} {a0 : (Sl × (Sl × (Int × Unit)))} {a1 : Int} (K : (Sl × (Sl × (Int × Unit))) → HP) (hF : F_salvorref11_Bump a0 a1 K h) : CallsH Try.prog fn_salvorref11_Bump #[(.agg #[(.slice a0.1.a a0.1.len a0.1.cap), (.slice a0.2.1.a a0.2.1.len a0.2.1.cap), (.int .i64 a0.2.2.1)]), (.int .i64 a1)] h fun v h' => ∃ x : (Sl × (Sl × (Int × Unit))), v = Ty.enc (.agg (.cons .sl (.cons .sl (.cons (.int .i64) .nil)))) x ∧ K x h' :=
  callsH_of_fn (P := Try.prog) (fn := Try.f51) (τ := (.agg (.cons .sl (.cons .sl (.cons (.int .i64) .nil))))) follows Try.func51 (by kernel_rfl) (by kernel_rfl) Try.call51 (Eq.mpr (E_salvorref11_Bump a0 a1 K h) hF)

/-- salvor/salvorref11.First -/
def F_salvorref11_First (a0 : (Sl × (Sl × (Int × Unit)))) (K : Int → HP) : HP :=
 nw #[(.slice a0.1.a a0.1.len a0.1.cap), (.slice a0.2.1.a a0.2.1.len a0.2.1.cap), (.int .i64 a0.2.2.1)] 70 fun b0 =>
 lfp (σ := (Int × (Int × Unit))) (fun X1 s2 => /- v best -/
 ldT .sl ((⟨b0, 0, none⟩ : Addr).add 1) fun x3 =>
 brB (decide (s2.1 ≤ (x3.len : Int)))
 (ldT .sl ((⟨b0, 0, none⟩ : Addr).add 1) fun x4 =>
 sx x4.a x4.len (IntKind.wrap .i64 (s2.1 - (1 : Int))) 1 fun p5 =>
 ldT (.int .i64) p5 fun x6 =>
 brB (x6 == (1 : Int))
 (brB (s2.2.1 == (0 : Int))
 (jn (σ := (Int × Unit)) (fun s8 => /- best -/
 X1 ((IntKind.wrap .i64 (s2.1 + (1 : Int))), s8.1, ()))
 (fun J7 =>
 J7 (s2.1, ())))
 (ldT .sl (⟨b0, 0, none⟩ : Addr) fun x9 =>
 sx x9.a x9.len (IntKind.wrap .i64 (s2.1 - (1 : Int))) 1 fun p10 =>
 ldT (.int .i64) p10 fun x11 =>
 ldT .sl (⟨b0, 0, none⟩ : Addr) fun x12 =>
 sx x12.a x12.len (IntKind.wrap .i64 (s2.2.1 - (1 : Int))) 1 fun p13 =>
 ldT (.int .i64) p13 fun x14 =>
 jn (σ := (Int × Unit)) (fun s16 => /- best -/
 X1 ((IntKind.wrap .i64 (s2.1 + (1 : Int))), s16.1, ()))
 (fun J15 =>
 brB (decide (x11 > x14))
 (J15 (s2.1, ()))
 (J15 (s2.2.1, ())))))
 (jn (σ := (Int × Unit)) (fun s18 => /- best -/
 X1 ((IntKind.wrap .i64 (s2.1 + (1 : Int))), s18.1, ()))
 (fun J17 =>
 J17 (s2.2.1, ()))))
 (K s2.2.1))
 ((1 : Int), (0 : Int), ())
set_option maxRecDepth 100000 in
theorem E_salvorref11_First (a0 : (Sl × (Sl × (Int × Unit)))) (K : Int → HP) (h : Heap) : fnVC Try.prog [] 40 Try.f52 [(.agg #[(.slice a0.1.a a0.1.len a0.1.cap), (.slice a0.2.1.a a0.2.1.len a0.2.1.cap), (.int .i64 a0.2.2.1)])] (.int .i64) K h = F_salvorref11_First a0 K h := by kernel_rfl
set_option maxRecDepth 100000 in
theorem S_salvorref11_First{h : Heap} {a0 : (Sl × (Sl × (Int × Unit)))} (K : Int → HP) (hF : F_salvorref11_First a0 K h) : CallsH Try.prog fn_salvorref11_First #[(.agg #[(.slice a0.1.a a0.1.len a0.1.cap), (.slice a0.2.1.a a0.2.1.len a0.2.1.cap), (.int .i64 a0.2.2.1)])] h fun v h' => ∃ x : Int, v = Ty.enc (.int .i64) x ∧ K x h' :=
  callsH_of_fn (P := Try.prog) (fn := Try.f52) (τ := (.int .i64)) follows Try.func52 (by kernel_rfl) (by kernel_rfl) Try.call52 (Eq.mpr (E_salvorref11_First a0 K h) hF)

/-- salvor/salvorref11.Set -/
def F_salvorref11_Set (a0 : (Sl × (Sl × (Int × Unit)))) (a1 : Int) (a2 : Int) (K : (Sl × (Sl × (Int × Unit))) → HP) : HP :=
 nw #[(.slice a0.1.a a0.1.len a0.1.cap), (.slice a0.2.1.a a0.2.1.len a0.2.1.cap), (.int .i64 a0.2.2.1)] 70 fun b0 =>
 nw #[(.slice none 0 0), (.slice none 0 0), (.int .i64 (0 : Int))] 70 fun b1 =>
 ldT .sl ((⟨b0, 0, none⟩ : Addr).add 1) fun x2 =>
 callT Try.prog fn_salvorref11_with #[(.slice x2.a x2.len x2.cap), (.int .i64 (IntKind.wrap .i64 (a1 - (1 : Int)))), (.int .i64 a2)] .sl fun r3 =>
 st1 ((⟨b0, 0, none⟩ : Addr).add 1) (.slice r3.a r3.len r3.cap) <|
 ldA (.cons .sl (.cons .sl (.cons (.int .i64) .nil))) (⟨b0, 0, none⟩ : Addr) fun x4 =>
 st1 (⟨b1, 0, none⟩ : Addr) (.slice x4.1.a x4.1.len x4.1.cap) <|
 st1 ((⟨b1, 0, none⟩ : Addr).add 1) (.slice x4.2.1.a x4.2.1.len x4.2.1.cap) <|
 st1 ((⟨b1, 0, none⟩ : Addr).add 2) (.int .i64 x4.2.2.1) <|
 ldA (.cons .sl (.cons .sl (.cons (.int .i64) .nil))) (⟨b1, 0, none⟩ : Addr) fun x5 =>
 K (⟨x5.1.a, x5.1.len, x5.1.cap⟩, ⟨x5.2.1.a, x5.2.1.len, x5.2.1.cap⟩, x5.2.2.1, ())
set_option maxRecDepth 100000 in
theorem E_salvorref11_Set (a0 : (Sl × (Sl × (Int × Unit)))) (a1 : Int) (a2 : Int) (K : (Sl × (Sl × (Int × Unit))) → HP) (h : Heap) : fnVC Try.prog [] 15 Try.f53 [(.agg #[(.slice a0.1.a a0.1.len a0.1.cap), (.slice a0.2.1.a a0.2.1.len a0.2.1.cap), (.int .i64 a0.2.2.1)]), (.int .i64 a1), (.int .i64 a2)] (.agg (.cons .sl (.cons .sl (.cons (.int .i64) .nil)))) K h = F_salvorref11_Set a0 a1 a2 K h := by kernel_rfl
set_option maxRecDepth 100000 in
theorem S_salvorref11_Set{h : Heap} {a0 : (Sl × (Sl × (Int × Unit)))} {a1 : Int} {a2 : Int} (K : (Sl × (Sl × (Int × Unit))) → HP) (hF : F_salvorref11_Set a0 a1 a2 K h) : CallsH Try.prog fn_salvorref11_Set #[(.agg #[(.slice a0.1.a a0.1.len a0.1.cap), (.slice a0.2.1.a a0.2.1.len a0.2.1.cap), (.int .i64 a0.2.2.1)]), (.int .i64 a1), (.int .i64 a2)] h fun v h' => ∃ x : (Sl × (Sl × (Int × Unit))), v = Ty.enc (.agg (.cons .sl (.cons .sl (.cons (.int .i64) .nil)))) x ∧ K x h' :=
  callsH_of_fn (P := Try.prog) (fn := Try.f53) (τ := (.agg (.cons .sl (.cons .sl (.cons (.int .i64) .nil))))) follows Try.func53 (by kernel_rfl) (by kernel_rfl) Try.call53 (Eq.mpr (E_salvorref11_Set a0 a1 a2 K h) hF)

/-- salvor/salvorref11.Decay -/
def F_salvorref11_Decay (a0 : (Sl × (Sl × (Int × Unit)))) (K : ((Sl × (Sl × (Int × Unit))) × (Int × Unit)) → HP) : HP :=
 nw #[(.slice a0.1.a a0.1.len a0.1.cap), (.slice a0.2.1.a a0.2.1.len a0.2.1.cap), (.int .i64 a0.2.2.1)] 70 fun b0 =>
 nw #[(.slice none 0 0), (.slice none 0 0), (.int .i64 (0 : Int))] 70 fun b1 =>
 ldT (.int .i64) ((⟨b0, 0, none⟩ : Addr).add 2) fun x2 =>
 ldT (.int .i64) ((⟨b0, 0, none⟩ : Addr).add 2) fun x3 =>
 nz (16 : Int) <|
 brB (decide ((IntKind.wrap .i64 ((IntKind.wrap .i64 (x2 + (IntKind.wrap .i64 (Int.tdiv x3 (16 : Int))))) + (1 : Int))) > (1125899906842624 : Int)))
 (ldA (.cons .sl (.cons .sl (.cons (.int .i64) .nil))) (⟨b0, 0, none⟩ : Addr) fun x4 =>
 st1 (⟨b1, 0, none⟩ : Addr) (.slice x4.1.a x4.1.len x4.1.cap) <|
 st1 ((⟨b1, 0, none⟩ : Addr).add 1) (.slice x4.2.1.a x4.2.1.len x4.2.1.cap) <|
 st1 ((⟨b1, 0, none⟩ : Addr).add 2) (.int .i64 x4.2.2.1) <|
 ldA (.cons .sl (.cons .sl (.cons (.int .i64) .nil))) (⟨b1, 0, none⟩ : Addr) fun x5 =>
 K ((⟨x5.1.a, x5.1.len, x5.1.cap⟩, ⟨x5.2.1.a, x5.2.1.len, x5.2.1.cap⟩, x5.2.2.1, ()), (4 : Int), ()))
 (st1 ((⟨b0, 0, none⟩ : Addr).add 2) (.int .i64 (IntKind.wrap .i64 ((IntKind.wrap .i64 (x2 + (IntKind.wrap .i64 (Int.tdiv x3 (16 : Int))))) + (1 : Int)))) <|
 ldA (.cons .sl (.cons .sl (.cons (.int .i64) .nil))) (⟨b0, 0, none⟩ : Addr) fun x6 =>
 st1 (⟨b1, 0, none⟩ : Addr) (.slice x6.1.a x6.1.len x6.1.cap) <|
 st1 ((⟨b1, 0, none⟩ : Addr).add 1) (.slice x6.2.1.a x6.2.1.len x6.2.1.cap) <|
 st1 ((⟨b1, 0, none⟩ : Addr).add 2) (.int .i64 x6.2.2.1) <|
 ldA (.cons .sl (.cons .sl (.cons (.int .i64) .nil))) (⟨b1, 0, none⟩ : Addr) fun x7 =>
 K ((⟨x7.1.a, x7.1.len, x7.1.cap⟩, ⟨x7.2.1.a, x7.2.1.len, x7.2.1.cap⟩, x7.2.2.1, ()), (0 : Int), ()))
set_option maxRecDepth 100000 in
theorem E_salvorref11_Decay (a0 : (Sl × (Sl × (Int × Unit)))) (K : ((Sl × (Sl × (Int × Unit))) × (Int × Unit)) → HP) (h : Heap) : fnVC Try.prog [] 18 Try.f54 [(.agg #[(.slice a0.1.a a0.1.len a0.1.cap), (.slice a0.2.1.a a0.2.1.len a0.2.1.cap), (.int .i64 a0.2.2.1)])] (.tup (.cons (.agg (.cons .sl (.cons .sl (.cons (.int .i64) .nil)))) (.cons (.int .i64) .nil))) K h = F_salvorref11_Decay a0 K h := by kernel_rfl
set_option maxRecDepth 100000 in
theorem S_salvorref11_Decay{h : Heap} {a0 : (Sl × (Sl × (Int × Unit)))} (K : ((Sl × (Sl × (Int × Unit))) × (Int × Unit)) → HP) (hF : F_salvorref11_Decay a0 K h) : CallsH Try.prog fn_salvorref11_Decay #[(.agg #[(.slice a0.1.a a0.1.len a0.1.cap), (.slice a0.2.1.a a0.2.1.len a0.2.1.cap), (.int .i64 a0.2.2.1)])] h fun v h' => ∃ x : ((Sl × (Sl × (Int × Unit))) × (Int × Unit)), v = Ty.enc (.tup (.cons (.agg (.cons .sl (.cons .sl (.cons (.int .i64) .nil)))) (.cons (.int .i64) .nil))) x ∧ K x h' :=
  callsH_of_fn (P := Try.prog) (fn := Try.f54) (τ := (.tup (.cons (.agg (.cons .sl (.cons .sl (.cons (.int .i64) .nil)))) (.cons (.int .i64) .nil)))) follows Try.func54 (by kernel_rfl) (by kernel_rfl) Try.call54 (Eq.mpr (E_salvorref11_Decay a0 K h) hF)

/-- salvor/salvorref11.All -/
def F_salvorref11_All (a0 : (Sl × (Sl × (Int × Unit)))) (K : Sl → HP) : HP :=
 nw #[(.slice a0.1.a a0.1.len a0.1.cap), (.slice a0.2.1.a a0.2.1.len a0.2.1.cap), (.int .i64 a0.2.2.1)] 70 fun b0 =>
 ldA (.cons .sl (.cons .sl (.cons (.int .i64) .nil))) (⟨b0, 0, none⟩ : Addr) fun x1 =>
 callT Try.prog fn_salvorref11_First #[(.agg #[(.slice x1.1.a x1.1.len x1.1.cap), (.slice x1.2.1.a x1.2.1.len x1.2.1.cap), (.int .i64 x1.2.2.1)])] (.int .i64) fun r2 =>
 lfp (σ := (Int × (Sl × Unit))) (fun X3 s4 => /- v out -/
 brB (decide (s4.1 > (0 : Int)))
 (nw #[(.int .i64 s4.1)] 3 fun b5 =>
 apd 3 1 8 #[(.int .i64 (0 : Int))] ⟨s4.2.1.a, s4.2.1.len, s4.2.1.cap⟩ ⟨(some (⟨b5, 0, none⟩ : Addr)), 1, 1⟩ fun s6 =>
 ldA (.cons .sl (.cons .sl (.cons (.int .i64) .nil))) (⟨b0, 0, none⟩ : Addr) fun x7 =>
 callT Try.prog fn_salvorref11_Set #[(.agg #[(.slice x7.1.a x7.1.len x7.1.cap), (.slice x7.2.1.a x7.2.1.len x7.2.1.cap), (.int .i64 x7.2.2.1)]), (.int .i64 s4.1), (.int .i64 (0 : Int))] (.agg (.cons .sl (.cons .sl (.cons (.int .i64) .nil)))) fun r8 =>
 st1 (⟨b0, 0, none⟩ : Addr) (.slice r8.1.a r8.1.len r8.1.cap) <|
 st1 ((⟨b0, 0, none⟩ : Addr).add 1) (.slice r8.2.1.a r8.2.1.len r8.2.1.cap) <|
 st1 ((⟨b0, 0, none⟩ : Addr).add 2) (.int .i64 r8.2.2.1) <|
 ldA (.cons .sl (.cons .sl (.cons (.int .i64) .nil))) (⟨b0, 0, none⟩ : Addr) fun x9 =>
 callT Try.prog fn_salvorref11_First #[(.agg #[(.slice x9.1.a x9.1.len x9.1.cap), (.slice x9.2.1.a x9.2.1.len x9.2.1.cap), (.int .i64 x9.2.2.1)])] (.int .i64) fun r10 =>
 X3 (r10, ⟨s6.a, s6.len, s6.cap⟩, ()))
 (K ⟨s4.2.1.a, s4.2.1.len, s4.2.1.cap⟩))
 (r2, ⟨none, 0, 0⟩, ())
set_option maxRecDepth 100000 in
theorem E_salvorref11_All (a0 : (Sl × (Sl × (Int × Unit)))) (K : Sl → HP) (h : Heap) : fnVC Try.prog [] 19 Try.f55 [(.agg #[(.slice a0.1.a a0.1.len a0.1.cap), (.slice a0.2.1.a a0.2.1.len a0.2.1.cap), (.int .i64 a0.2.2.1)])] .sl K h = F_salvorref11_All a0 K h := by kernel_rfl
set_option maxRecDepth 100000 in
theorem S_salvorref11_All{h : Heap} {a0 : (Sl × (Sl × (Int × Unit)))} (K : Sl → HP) (hF : F_salvorref11_All a0 K h) : CallsH Try.prog fn_salvorref11_All #[(.agg #[(.slice a0.1.a a0.1.len a0.1.cap), (.slice a0.2.1.a a0.2.1.len a0.2.1.cap), (.int .i64 a0.2.2.1)])] h fun v h' => ∃ x : Sl, v = Ty.enc .sl x ∧ K x h' :=
  callsH_of_fn (P := Try.prog) (fn := Try.f55) (τ := .sl) follows Try.func55 (by kernel_rfl) (by kernel_rfl) Try.call55 (Eq.mpr (E_salvorref11_All a0 K h) hF)

/-- slices.insertionSortCmpFunc[int] -/
def F_slices_insertionSortCmpFunc_int (a0 : Sl) (a1 : Int) (a2 : Int) (a3 : Value) (K : Unit → HP) : HP :=
 lfp (σ := (Int × Unit)) (fun X0 s1 => /- i -/
 brB (decide (s1.1 < a2))
 (lfp (σ := (Int × Unit)) (fun X2 s3 => /- j -/
 brB (decide (s3.1 > a1))
 (sx a0.a a0.len s3.1 1 fun p4 =>
 ldT (.int .i64) p4 fun x5 =>
 sx a0.a a0.len (IntKind.wrap .i64 (s3.1 - (1 : Int))) 1 fun p6 =>
 ldT (.int .i64) p6 fun x7 =>
 callF Try.prog a3 #[(.int .i64 x5), (.int .i64 x7)] (.int .i64) fun r8 =>
 brB (decide (r8 < (0 : Int)))
 (sx a0.a a0.len (IntKind.wrap .i64 (s3.1 - (1 : Int))) 1 fun p9 =>
 ldT (.int .i64) p9 fun x10 =>
 sx a0.a a0.len s3.1 1 fun p11 =>
 ldT (.int .i64) p11 fun x12 =>
 sx a0.a a0.len s3.1 1 fun p13 =>
 st1 p13 (.int .i64 x10) <|
 sx a0.a a0.len (IntKind.wrap .i64 (s3.1 - (1 : Int))) 1 fun p14 =>
 st1 p14 (.int .i64 x12) <|
 X2 ((IntKind.wrap .i64 (s3.1 - (1 : Int))), ()))
 (X0 ((IntKind.wrap .i64 (s1.1 + (1 : Int))), ())))
 (X0 ((IntKind.wrap .i64 (s1.1 + (1 : Int))), ())))
 (s1.1, ()))
 (K (())))
 ((IntKind.wrap .i64 (a1 + (1 : Int))), ())
set_option maxRecDepth 100000 in
theorem E_slices_insertionSortCmpFunc_int (a0 : Sl) (a1 : Int) (a2 : Int) (a3 : Value) (K : Unit → HP) (h : Heap) : fnVC Try.prog [] 53 Try.f56 [(.slice a0.a a0.len a0.cap), (.int .i64 a1), (.int .i64 a2), a3] (.tup .nil) K h = F_slices_insertionSortCmpFunc_int a0 a1 a2 a3 K h := by kernel_rfl
set_option maxRecDepth 100000 in
theorem S_slices_insertionSortCmpFunc_int{h : Heap} {a0 : Sl} {a1 : Int} {a2 : Int} {a3 : Value} (K : Unit → HP) (hF : F_slices_insertionSortCmpFunc_int a0 a1 a2 a3 K h) : CallsH Try.prog fn_slices_insertionSortCmpFunc_int #[(.slice a0.a a0.len a0.cap), (.int .i64 a1), (.int .i64 a2), a3] h fun v h' => ∃ x : Unit, v = Ty.enc (.tup .nil) x ∧ K x h' :=
  callsH_of_fn (P := Try.prog) (fn := Try.f56) (τ := (.tup .nil)) follows Try.func56 (by kernel_rfl) (by kernel_rfl) Try.call56 (Eq.mpr (E_slices_insertionSortCmpFunc_int a0 a1 a2 a3 K h) hF)

/-- slices.heapSortCmpFunc[int] -/
def F_slices_heapSortCmpFunc_int (a0 : Sl) (a1 : Int) (a2 : Int) (a3 : Value) (K : Unit → HP) : HP :=
 nz (2 : Int) <|
 lfp (σ := (Int × Unit)) (fun X0 s1 => /- i -/
 brB (decide (s1.1 ≥ (0 : Int)))
 (callT Try.prog fn_slices_siftDownCmpFunc_int #[(.slice a0.a a0.len a0.cap), (.int .i64 s1.1), (.int .i64 (IntKind.wrap .i64 (a2 - a1))), (.int .i64 a1), a3] (.tup .nil) fun r2 =>
 X0 ((IntKind.wrap .i64 (s1.1 - (1 : Int))), ()))
 (lfp (σ := (Int × Unit)) (fun X3 s4 => /- i -/
 brB (decide (s4.1 ≥ (0 : Int)))
 (sx a0.a a0.len (IntKind.wrap .i64 (a1 + s4.1)) 1 fun p5 =>
 ldT (.int .i64) p5 fun x6 =>
 sx a0.a a0.len a1 1 fun p7 =>
 ldT (.int .i64) p7 fun x8 =>
 sx a0.a a0.len a1 1 fun p9 =>
 st1 p9 (.int .i64 x6) <|
 sx a0.a a0.len (IntKind.wrap .i64 (a1 + s4.1)) 1 fun p10 =>
 st1 p10 (.int .i64 x8) <|
 callT Try.prog fn_slices_siftDownCmpFunc_int #[(.slice a0.a a0.len a0.cap), (.int .i64 (0 : Int)), (.int .i64 s4.1), (.int .i64 a1), a3] (.tup .nil) fun r11 =>
 X3 ((IntKind.wrap .i64 (s4.1 - (1 : Int))), ()))
 (K (())))
 ((IntKind.wrap .i64 ((IntKind.wrap .i64 (a2 - a1)) - (1 : Int))), ())))
 ((IntKind.wrap .i64 (Int.tdiv (IntKind.wrap .i64 ((IntKind.wrap .i64 (a2 - a1)) - (1 : Int))) (2 : Int))), ())
set_option maxRecDepth 100000 in
theorem E_slices_heapSortCmpFunc_int (a0 : Sl) (a1 : Int) (a2 : Int) (a3 : Value) (K : Unit → HP) (h : Heap) : fnVC Try.prog [] 60 Try.f57 [(.slice a0.a a0.len a0.cap), (.int .i64 a1), (.int .i64 a2), a3] (.tup .nil) K h = F_slices_heapSortCmpFunc_int a0 a1 a2 a3 K h := by kernel_rfl
set_option maxRecDepth 100000 in
theorem S_slices_heapSortCmpFunc_int{h : Heap} {a0 : Sl} {a1 : Int} {a2 : Int} {a3 : Value} (K : Unit → HP) (hF : F_slices_heapSortCmpFunc_int a0 a1 a2 a3 K h) : CallsH Try.prog fn_slices_heapSortCmpFunc_int #[(.slice a0.a a0.len a0.cap), (.int .i64 a1), (.int .i64 a2), a3] h fun v h' => ∃ x : Unit, v = Ty.enc (.tup .nil) x ∧ K x h' :=
  callsH_of_fn (P := Try.prog) (fn := Try.f57) (τ := (.tup .nil)) follows Try.func57 (by kernel_rfl) (by kernel_rfl) Try.call57 (Eq.mpr (E_slices_heapSortCmpFunc_int a0 a1 a2 a3 K h) hF)

/-- slices.breakPatternsCmpFunc[int] -/
def F_slices_breakPatternsCmpFunc_int (a0 : Sl) (a1 : Int) (a2 : Int) (a3 : Value) (K : Unit → HP) : HP :=
 jn (σ := Unit) (fun s1 => /- -/
 K (()))
 (fun J0 =>
 brB (decide ((IntKind.wrap .i64 (a2 - a1)) ≥ (8 : Int)))
 (nw #[(.int .u64 (0 : Int))] 97 fun b2 =>
 st1 (⟨b2, 0, none⟩ : Addr) (.int .u64 (IntKind.wrap .u64 (IntKind.wrap .i64 (a2 - a1)))) <|
 callT Try.prog fn_slices_nextPowerOfTwo #[(.int .i64 (IntKind.wrap .i64 (a2 - a1)))] (.int .u64) fun r3 =>
 nz (4 : Int) <|
 lfp (σ := (Int × Unit)) (fun X4 s5 => /- idx -/
 nz (4 : Int) <|
 brB (decide (s5.1 ≤ (IntKind.wrap .i64 ((IntKind.wrap .i64 (a1 + (IntKind.wrap .i64 ((IntKind.wrap .i64 (Int.tdiv (IntKind.wrap .i64 (a2 - a1)) (4 : Int))) * (2 : Int))))) + (1 : Int)))))
 (callT Try.prog fn_slices_xorshift_Next #[(.pointer (some (⟨b2, 0, none⟩ : Addr)))] (.int .u64) fun r6 =>
 jn (σ := (Int × Unit)) (fun s8 => /- other -/
 sx a0.a a0.len (IntKind.wrap .i64 (a1 + s8.1)) 1 fun p9 =>
 ldT (.int .i64) p9 fun x10 =>
 sx a0.a a0.len s5.1 1 fun p11 =>
 ldT (.int .i64) p11 fun x12 =>
 sx a0.a a0.len s5.1 1 fun p13 =>
 st1 p13 (.int .i64 x10) <|
 sx a0.a a0.len (IntKind.wrap .i64 (a1 + s8.1)) 1 fun p14 =>
 st1 p14 (.int .i64 x12) <|
 X4 ((IntKind.wrap .i64 (s5.1 + (1 : Int))), ()))
 (fun J7 =>
 brB (decide ((IntKind.wrap .i64 (bAnd .u64 r6 (IntKind.wrap .u64 (r3 - (1 : Int))))) ≥ (IntKind.wrap .i64 (a2 - a1))))
 (J7 ((IntKind.wrap .i64 ((IntKind.wrap .i64 (bAnd .u64 r6 (IntKind.wrap .u64 (r3 - (1 : Int))))) - (IntKind.wrap .i64 (a2 - a1)))), ()))
 (J7 ((IntKind.wrap .i64 (bAnd .u64 r6 (IntKind.wrap .u64 (r3 - (1 : Int))))), ()))))
 (J0 (())))
 ((IntKind.wrap .i64 ((IntKind.wrap .i64 (a1 + (IntKind.wrap .i64 ((IntKind.wrap .i64 (Int.tdiv (IntKind.wrap .i64 (a2 - a1)) (4 : Int))) * (2 : Int))))) - (1 : Int))), ()))
 (J0 (())))
set_option maxRecDepth 100000 in
theorem E_slices_breakPatternsCmpFunc_int (a0 : Sl) (a1 : Int) (a2 : Int) (a3 : Value) (K : Unit → HP) (h : Heap) : fnVC Try.prog [] 67 Try.f58 [(.slice a0.a a0.len a0.cap), (.int .i64 a1), (.int .i64 a2), a3] (.tup .nil) K h = F_slices_breakPatternsCmpFunc_int a0 a1 a2 a3 K h := by kernel_rfl
set_option maxRecDepth 100000 in
theorem S_slices_breakPatternsCmpFunc_int{h : Heap} {a0 : Sl} {a1 : Int} {a2 : Int} {a3 : Value} (K : Unit → HP) (hF : F_slices_breakPatternsCmpFunc_int a0 a1 a2 a3 K h) : CallsH Try.prog fn_slices_breakPatternsCmpFunc_int #[(.slice a0.a a0.len a0.cap), (.int .i64 a1), (.int .i64 a2), a3] h fun v h' => ∃ x : Unit, v = Ty.enc (.tup .nil) x ∧ K x h' :=
  callsH_of_fn (P := Try.prog) (fn := Try.f58) (τ := (.tup .nil)) follows Try.func58 (by kernel_rfl) (by kernel_rfl) Try.call58 (Eq.mpr (E_slices_breakPatternsCmpFunc_int a0 a1 a2 a3 K h) hF)

/-- slices.choosePivotCmpFunc[int] -/
def F_slices_choosePivotCmpFunc_int (a0 : Sl) (a1 : Int) (a2 : Int) (a3 : Value) (K : (Int × (Int × Unit)) → HP) : HP :=
 nw #[(.int .i64 (0 : Int))] 3 fun b0 =>
 nz (4 : Int) <|
 nz (4 : Int) <|
 nz (4 : Int) <|
 jn (σ := (Int × (Int × (Int × Unit)))) (fun s2 => /- k j i -/
 ldT (.int .i64) (⟨b0, 0, none⟩ : Addr) fun x3 =>
 brB (x3 == (0 : Int))
 (K (s2.2.1, (1 : Int), ()))
 (brB (x3 == (12 : Int))
 (K (s2.2.1, (2 : Int), ()))
 (K (s2.2.1, (0 : Int), ()))))
 (fun J1 =>
 brB (decide ((IntKind.wrap .i64 (a2 - a1)) ≥ (8 : Int)))
 (jn (σ := (Int × (Int × (Int × Unit)))) (fun s5 => /- k j i -/
 callT Try.prog fn_slices_medianCmpFunc_int #[(.slice a0.a a0.len a0.cap), (.int .i64 s5.2.2.1), (.int .i64 s5.2.1), (.int .i64 s5.1), (.pointer (some (⟨b0, 0, none⟩ : Addr))), a3] (.int .i64) fun r6 =>
 J1 (s5.1, r6, s5.2.2.1, ()))
 (fun J4 =>
 brB (decide ((IntKind.wrap .i64 (a2 - a1)) ≥ (50 : Int)))
 (callT Try.prog fn_slices_medianAdjacentCmpFunc_int #[(.slice a0.a a0.len a0.cap), (.int .i64 (IntKind.wrap .i64 (a1 + (IntKind.wrap .i64 ((IntKind.wrap .i64 (Int.tdiv (IntKind.wrap .i64 (a2 - a1)) (4 : Int))) * (1 : Int)))))), (.pointer (some (⟨b0, 0, none⟩ : Addr))), a3] (.int .i64) fun r7 =>
 callT Try.prog fn_slices_medianAdjacentCmpFunc_int #[(.slice a0.a a0.len a0.cap), (.int .i64 (IntKind.wrap .i64 (a1 + (IntKind.wrap .i64 ((IntKind.wrap .i64 (Int.tdiv (IntKind.wrap .i64 (a2 - a1)) (4 : Int))) * (2 : Int)))))), (.pointer (some (⟨b0, 0, none⟩ : Addr))), a3] (.int .i64) fun r8 =>
 callT Try.prog fn_slices_medianAdjacentCmpFunc_int #[(.slice a0.a a0.len a0.cap), (.int .i64 (IntKind.wrap .i64 (a1 + (IntKind.wrap .i64 ((IntKind.wrap .i64 (Int.tdiv (IntKind.wrap .i64 (a2 - a1)) (4 : Int))) * (3 : Int)))))), (.pointer (some (⟨b0, 0, none⟩ : Addr))), a3] (.int .i64) fun r9 =>
 J4 (r9, r8, r7, ()))
 (J4 ((IntKind.wrap .i64 (a1 + (IntKind.wrap .i64 ((IntKind.wrap .i64 (Int.tdiv (IntKind.wrap .i64 (a2 - a1)) (4 : Int))) * (3 : Int))))), (IntKind.wrap .i64 (a1 + (IntKind.wrap .i64 ((IntKind.wrap .i64 (Int.tdiv (IntKind.wrap .i64 (a2 - a1)) (4 : Int))) * (2 : Int))))), (IntKind.wrap .i64 (a1 + (IntKind.wrap .i64 ((IntKind.wrap .i64 (Int.tdiv (IntKind.wrap .i64 (a2 - a1)) (4 : Int))) * (1 : Int))))), ()))))
 (J1 ((IntKind.wrap .i64 (a1 + (IntKind.wrap .i64 ((IntKind.wrap .i64 (Int.tdiv (IntKind.wrap .i64 (a2 - a1)) (4 : Int))) * (3 : Int))))), (IntKind.wrap .i64 (a1 + (IntKind.wrap .i64 ((IntKind.wrap .i64 (Int.tdiv (IntKind.wrap .i64 (a2 - a1)) (4 : Int))) * (2 : Int))))), (IntKind.wrap .i64 (a1 + (IntKind.wrap .i64 ((IntKind.wrap .i64 (Int.tdiv (IntKind.wrap .i64 (a2 - a1)) (4 : Int))) * (1 : Int))))), ())))
set_option maxRecDepth 100000 in
theorem E_slices_choosePivotCmpFunc_int (a0 : Sl) (a1 : Int) (a2 : Int) (a3 : Value) (K : (Int × (Int × Unit)) → HP) (h : Heap) : fnVC Try.prog [] 63 Try.f59 [(.slice a0.a a0.len a0.cap), (.int .i64 a1), (.int .i64 a2), a3] (.tup (.cons (.int .i64) (.cons (.int .i64) .nil))) K h = F_slices_choosePivotCmpFunc_int a0 a1 a2 a3 K h := by kernel_rfl
set_option maxRecDepth 100000 in
theorem S_slices_choosePivotCmpFunc_int{h : Heap} {a0 : Sl} {a1 : Int} {a2 : Int} {a3 : Value} (K : (Int × (Int × Unit)) → HP) (hF : F_slices_choosePivotCmpFunc_int a0 a1 a2 a3 K h) : CallsH Try.prog fn_slices_choosePivotCmpFunc_int #[(.slice a0.a a0.len a0.cap), (.int .i64 a1), (.int .i64 a2), a3] h fun v h' => ∃ x : (Int × (Int × Unit)), v = Ty.enc (.tup (.cons (.int .i64) (.cons (.int .i64) .nil))) x ∧ K x h' :=
  callsH_of_fn (P := Try.prog) (fn := Try.f59) (τ := (.tup (.cons (.int .i64) (.cons (.int .i64) .nil)))) follows Try.func59 (by kernel_rfl) (by kernel_rfl) Try.call59 (Eq.mpr (E_slices_choosePivotCmpFunc_int a0 a1 a2 a3 K h) hF)

/-- slices.reverseRangeCmpFunc[int] -/
def F_slices_reverseRangeCmpFunc_int (a0 : Sl) (a1 : Int) (a2 : Int) (a3 : Value) (K : Unit → HP) : HP :=
 lfp (σ := (Int × (Int × Unit))) (fun X0 s1 => /- j i -/
 brB (decide (s1.2.1 < s1.1))
 (sx a0.a a0.len s1.1 1 fun p2 =>
 ldT (.int .i64) p2 fun x3 =>
 sx a0.a a0.len s1.2.1 1 fun p4 =>
 ldT (.int .i64) p4 fun x5 =>
 sx a0.a a0.len s1.2.1 1 fun p6 =>
 st1 p6 (.int .i64 x3) <|
 sx a0.a a0.len s1.1 1 fun p7 =>
 st1 p7 (.int .i64 x5) <|
 X0 ((IntKind.wrap .i64 (s1.1 - (1 : Int))), (IntKind.wrap .i64 (s1.2.1 + (1 : Int))), ()))
 (K (())))
 ((IntKind.wrap .i64 (a2 - (1 : Int))), a1, ())
set_option maxRecDepth 100000 in
theorem E_slices_reverseRangeCmpFunc_int (a0 : Sl) (a1 : Int) (a2 : Int) (a3 : Value) (K : Unit → HP) (h : Heap) : fnVC Try.prog [] 34 Try.f60 [(.slice a0.a a0.len a0.cap), (.int .i64 a1), (.int .i64 a2), a3] (.tup .nil) K h = F_slices_reverseRangeCmpFunc_int a0 a1 a2 a3 K h := by kernel_rfl
set_option maxRecDepth 100000 in
theorem S_slices_reverseRangeCmpFunc_int{h : Heap} {a0 : Sl} {a1 : Int} {a2 : Int} {a3 : Value} (K : Unit → HP) (hF : F_slices_reverseRangeCmpFunc_int a0 a1 a2 a3 K h) : CallsH Try.prog fn_slices_reverseRangeCmpFunc_int #[(.slice a0.a a0.len a0.cap), (.int .i64 a1), (.int .i64 a2), a3] h fun v h' => ∃ x : Unit, v = Ty.enc (.tup .nil) x ∧ K x h' :=
  callsH_of_fn (P := Try.prog) (fn := Try.f60) (τ := (.tup .nil)) follows Try.func60 (by kernel_rfl) (by kernel_rfl) Try.call60 (Eq.mpr (E_slices_reverseRangeCmpFunc_int a0 a1 a2 a3 K h) hF)

/-- slices.partialInsertionSortCmpFunc[int] -/
def F_slices_partialInsertionSortCmpFunc_int (a0 : Sl) (a1 : Int) (a2 : Int) (a3 : Value) (K : Bool → HP) : HP :=
 lfp (σ := (Int × (Int × (Bool × Unit)))) (fun X0 s1 => /- j i  -/
 brB (decide (s1.1 < (5 : Int)))
 (lfp (σ := (Int × Unit)) (fun X2 s3 => /- i -/
 brB (decide (s3.1 < a2))
 (sx a0.a a0.len s3.1 1 fun p4 =>
 ldT (.int .i64) p4 fun x5 =>
 sx a0.a a0.len (IntKind.wrap .i64 (s3.1 - (1 : Int))) 1 fun p6 =>
 ldT (.int .i64) p6 fun x7 =>
 callF Try.prog a3 #[(.int .i64 x5), (.int .i64 x7)] (.int .i64) fun r8 =>
 brB (!(decide (r8 < (0 : Int))))
 (X2 ((IntKind.wrap .i64 (s3.1 + (1 : Int))), ()))
 (brB (s3.1 == a2)
 (K true)
 (brB (decide ((IntKind.wrap .i64 (a2 - a1)) < (50 : Int)))
 (K false)
 (sx a0.a a0.len (IntKind.wrap .i64 (s3.1 - (1 : Int))) 1 fun p9 =>
 ldT (.int .i64) p9 fun x10 =>
 sx a0.a a0.len s3.1 1 fun p11 =>
 ldT (.int .i64) p11 fun x12 =>
 sx a0.a a0.len s3.1 1 fun p13 =>
 st1 p13 (.int .i64 x10) <|
 sx a0.a a0.len (IntKind.wrap .i64 (s3.1 - (1 : Int))) 1 fun p14 =>
 st1 p14 (.int .i64 x12) <|
 jn (σ := Unit) (fun s16 => /- -/
 jn (σ := Unit) (fun s18 => /- -/
 X0 ((IntKind.wrap .i64 (s1.1 + (1 : Int))), s3.1, s1.2.2.1, ()))
 (fun J17 =>
 brB (decide ((IntKind.wrap .i64 (a2 - s3.1)) ≥ (2 : Int)))
 (jn (σ := (Int × Unit)) (fun s20 => /- j -/
 J17 (()))
 (fun J19 =>
 lfp (σ := (Int × Unit)) (fun X21 s22 => /- j -/
 brB (decide (s22.1 < a2))
 (sx a0.a a0.len s22.1 1 fun p23 =>
 ldT (.int .i64) p23 fun x24 =>
 sx a0.a a0.len (IntKind.wrap .i64 (s22.1 - (1 : Int))) 1 fun p25 =>
 ldT (.int .i64) p25 fun x26 =>
 callF Try.prog a3 #[(.int .i64 x24), (.int .i64 x26)] (.int .i64) fun r27 =>
 brB (!(decide (r27 < (0 : Int))))
 (J19 (s22.1, ()))
 (sx a0.a a0.len (IntKind.wrap .i64 (s22.1 - (1 : Int))) 1 fun p28 =>
 ldT (.int .i64) p28 fun x29 =>
 sx a0.a a0.len s22.1 1 fun p30 =>
 ldT (.int .i64) p30 fun x31 =>
 sx a0.a a0.len s22.1 1 fun p32 =>
 st1 p32 (.int .i64 x29) <|
 sx a0.a a0.len (IntKind.wrap .i64 (s22.1 - (1 : Int))) 1 fun p33 =>
 st1 p33 (.int .i64 x31) <|
 X21 ((IntKind.wrap .i64 (s22.1 + (1 : Int))), ())))
 (J19 (s22.1, ())))
 ((IntKind.wrap .i64 (s3.1 + (1 : Int))), ())))
 (J17 (()))))
 (fun J15 =>
 brB (decide ((IntKind.wrap .i64 (s3.1 - a1)) ≥ (2 : Int)))
 (jn (σ := (Int × Unit)) (fun s35 => /- j -/
 J15 (()))
 (fun J34 =>
 lfp (σ := (Int × Unit)) (fun X36 s37 => /- j -/
 brB (decide (s37.1 ≥ (1 : Int)))
 (sx a0.a a0.len s37.1 1 fun p38 =>
 ldT (.int .i64) p38 fun x39 =>
 sx a0.a a0.len (IntKind.wrap .i64 (s37.1 - (1 : Int))) 1 fun p40 =>
 ldT (.int .i64) p40 fun x41 =>
 callF Try.prog a3 #[(.int .i64 x39), (.int .i64 x41)] (.int .i64) fun r42 =>
 brB (!(decide (r42 < (0 : Int))))
 (J34 (s37.1, ()))
 (sx a0.a a0.len (IntKind.wrap .i64 (s37.1 - (1 : Int))) 1 fun p43 =>
 ldT (.int .i64) p43 fun x44 =>
 sx a0.a a0.len s37.1 1 fun p45 =>
 ldT (.int .i64) p45 fun x46 =>
 sx a0.a a0.len s37.1 1 fun p47 =>
 st1 p47 (.int .i64 x44) <|
 sx a0.a a0.len (IntKind.wrap .i64 (s37.1 - (1 : Int))) 1 fun p48 =>
 st1 p48 (.int .i64 x46) <|
 X36 ((IntKind.wrap .i64 (s37.1 - (1 : Int))), ())))
 (J34 (s37.1, ())))
 ((IntKind.wrap .i64 (s3.1 - (1 : Int))), ())))
 (J15 (())))))))
 (brB (s3.1 == a2)
 (K true)
 (brB (decide ((IntKind.wrap .i64 (a2 - a1)) < (50 : Int)))
 (K false)
 (sx a0.a a0.len (IntKind.wrap .i64 (s3.1 - (1 : Int))) 1 fun p49 =>
 ldT (.int .i64) p49 fun x50 =>
 sx a0.a a0.len s3.1 1 fun p51 =>
 ldT (.int .i64) p51 fun x52 =>
 sx a0.a a0.len s3.1 1 fun p53 =>
 st1 p53 (.int .i64 x50) <|
 sx a0.a a0.len (IntKind.wrap .i64 (s3.1 - (1 : Int))) 1 fun p54 =>
 st1 p54 (.int .i64 x52) <|
 jn (σ := Unit) (fun s56 => /- -/
 jn (σ := Unit) (fun s58 => /- -/
 X0 ((IntKind.wrap .i64 (s1.1 + (1 : Int))), s3.1, s1.2.2.1, ()))
 (fun J57 =>
 brB (decide ((IntKind.wrap .i64 (a2 - s3.1)) ≥ (2 : Int)))
 (jn (σ := (Int × Unit)) (fun s60 => /- j -/
 J57 (()))
 (fun J59 =>
 lfp (σ := (Int × Unit)) (fun X61 s62 => /- j -/
 brB (decide (s62.1 < a2))
 (sx a0.a a0.len s62.1 1 fun p63 =>
 ldT (.int .i64) p63 fun x64 =>
 sx a0.a a0.len (IntKind.wrap .i64 (s62.1 - (1 : Int))) 1 fun p65 =>
 ldT (.int .i64) p65 fun x66 =>
 callF Try.prog a3 #[(.int .i64 x64), (.int .i64 x66)] (.int .i64) fun r67 =>
 brB (!(decide (r67 < (0 : Int))))
 (J59 (s62.1, ()))
 (sx a0.a a0.len (IntKind.wrap .i64 (s62.1 - (1 : Int))) 1 fun p68 =>
 ldT (.int .i64) p68 fun x69 =>
 sx a0.a a0.len s62.1 1 fun p70 =>
 ldT (.int .i64) p70 fun x71 =>
 sx a0.a a0.len s62.1 1 fun p72 =>
 st1 p72 (.int .i64 x69) <|
 sx a0.a a0.len (IntKind.wrap .i64 (s62.1 - (1 : Int))) 1 fun p73 =>
 st1 p73 (.int .i64 x71) <|
 X61 ((IntKind.wrap .i64 (s62.1 + (1 : Int))), ())))
 (J59 (s62.1, ())))
 ((IntKind.wrap .i64 (s3.1 + (1 : Int))), ())))
 (J57 (()))))
 (fun J55 =>
 brB (decide ((IntKind.wrap .i64 (s3.1 - a1)) ≥ (2 : Int)))
 (jn (σ := (Int × Unit)) (fun s75 => /- j -/
 J55 (()))
 (fun J74 =>
 lfp (σ := (Int × Unit)) (fun X76 s77 => /- j -/
 brB (decide (s77.1 ≥ (1 : Int)))
 (sx a0.a a0.len s77.1 1 fun p78 =>
 ldT (.int .i64) p78 fun x79 =>
 sx a0.a a0.len (IntKind.wrap .i64 (s77.1 - (1 : Int))) 1 fun p80 =>
 ldT (.int .i64) p80 fun x81 =>
 callF Try.prog a3 #[(.int .i64 x79), (.int .i64 x81)] (.int .i64) fun r82 =>
 brB (!(decide (r82 < (0 : Int))))
 (J74 (s77.1, ()))
 (sx a0.a a0.len (IntKind.wrap .i64 (s77.1 - (1 : Int))) 1 fun p83 =>
 ldT (.int .i64) p83 fun x84 =>
 sx a0.a a0.len s77.1 1 fun p85 =>
 ldT (.int .i64) p85 fun x86 =>
 sx a0.a a0.len s77.1 1 fun p87 =>
 st1 p87 (.int .i64 x84) <|
 sx a0.a a0.len (IntKind.wrap .i64 (s77.1 - (1 : Int))) 1 fun p88 =>
 st1 p88 (.int .i64 x86) <|
 X76 ((IntKind.wrap .i64 (s77.1 - (1 : Int))), ())))
 (J74 (s77.1, ())))
 ((IntKind.wrap .i64 (s3.1 - (1 : Int))), ())))
 (J55 (())))))))
 (s1.2.1, ()))
 (K false))
 ((0 : Int), (IntKind.wrap .i64 (a1 + (1 : Int))), false, ())
set_option maxRecDepth 100000 in
theorem E_slices_partialInsertionSortCmpFunc_int (a0 : Sl) (a1 : Int) (a2 : Int) (a3 : Value) (K : Bool → HP) (h : Heap) : fnVC Try.prog [] 141 Try.f61 [(.slice a0.a a0.len a0.cap), (.int .i64 a1), (.int .i64 a2), a3] .bool K h = F_slices_partialInsertionSortCmpFunc_int a0 a1 a2 a3 K h := by kernel_rfl
set_option maxRecDepth 100000 in
theorem S_slices_partialInsertionSortCmpFunc_int{h : Heap} {a0 : Sl} {a1 : Int} {a2 : Int} {a3 : Value} (K : Bool → HP) (hF : F_slices_partialInsertionSortCmpFunc_int a0 a1 a2 a3 K h) : CallsH Try.prog fn_slices_partialInsertionSortCmpFunc_int #[(.slice a0.a a0.len a0.cap), (.int .i64 a1), (.int .i64 a2), a3] h fun v h' => ∃ x : Bool, v = Ty.enc .bool x ∧ K x h' :=
  callsH_of_fn (P := Try.prog) (fn := Try.f61) (τ := .bool) follows Try.func61 (by kernel_rfl) (by kernel_rfl) Try.call61 (Eq.mpr (E_slices_partialInsertionSortCmpFunc_int a0 a1 a2 a3 K h) hF)

/-- slices.partitionEqualCmpFunc[int] -/
def F_slices_partitionEqualCmpFunc_int (a0 : Sl) (a1 : Int) (a2 : Int) (a3 : Int) (a4 : Value) (K : Int → HP) : HP :=
 sx a0.a a0.len a3 1 fun p0 =>
 ldT (.int .i64) p0 fun x1 =>
 sx a0.a a0.len a1 1 fun p2 =>
 ldT (.int .i64) p2 fun x3 =>
 sx a0.a a0.len a1 1 fun p4 =>
 st1 p4 (.int .i64 x1) <|
 sx a0.a a0.len a3 1 fun p5 =>
 st1 p5 (.int .i64 x3) <|
 lfp (σ := (Int × (Int × Unit))) (fun X6 s7 => /- j i -/
 lfp (σ := (Int × Unit)) (fun X8 s9 => /- i -/
 brB (decide (s9.1 ≤ s7.1))
 (sx a0.a a0.len a1 1 fun p10 =>
 ldT (.int .i64) p10 fun x11 =>
 sx a0.a a0.len s9.1 1 fun p12 =>
 ldT (.int .i64) p12 fun x13 =>
 callF Try.prog a4 #[(.int .i64 x11), (.int .i64 x13)] (.int .i64) fun r14 =>
 brB (!(decide (r14 < (0 : Int))))
 (X8 ((IntKind.wrap .i64 (s9.1 + (1 : Int))), ()))
 (lfp (σ := (Int × Unit)) (fun X15 s16 => /- j -/
 brB (decide (s9.1 ≤ s16.1))
 (sx a0.a a0.len a1 1 fun p17 =>
 ldT (.int .i64) p17 fun x18 =>
 sx a0.a a0.len s16.1 1 fun p19 =>
 ldT (.int .i64) p19 fun x20 =>
 callF Try.prog a4 #[(.int .i64 x18), (.int .i64 x20)] (.int .i64) fun r21 =>
 brB (decide (r21 < (0 : Int)))
 (X15 ((IntKind.wrap .i64 (s16.1 - (1 : Int))), ()))
 (brB (decide (s9.1 > s16.1))
 (K s9.1)
 (sx a0.a a0.len s16.1 1 fun p22 =>
 ldT (.int .i64) p22 fun x23 =>
 sx a0.a a0.len s9.1 1 fun p24 =>
 ldT (.int .i64) p24 fun x25 =>
 sx a0.a a0.len s9.1 1 fun p26 =>
 st1 p26 (.int .i64 x23) <|
 sx a0.a a0.len s16.1 1 fun p27 =>
 st1 p27 (.int .i64 x25) <|
 X6 ((IntKind.wrap .i64 (s16.1 - (1 : Int))), (IntKind.wrap .i64 (s9.1 + (1 : Int))), ()))))
 (brB (decide (s9.1 > s16.1))
 (K s9.1)
 (sx a0.a a0.len s16.1 1 fun p28 =>
 ldT (.int .i64) p28 fun x29 =>
 sx a0.a a0.len s9.1 1 fun p30 =>
 ldT (.int .i64) p30 fun x31 =>
 sx a0.a a0.len s9.1 1 fun p32 =>
 st1 p32 (.int .i64 x29) <|
 sx a0.a a0.len s16.1 1 fun p33 =>
 st1 p33 (.int .i64 x31) <|
 X6 ((IntKind.wrap .i64 (s16.1 - (1 : Int))), (IntKind.wrap .i64 (s9.1 + (1 : Int))), ()))))
 (s7.1, ())))
 (lfp (σ := (Int × Unit)) (fun X34 s35 => /- j -/
 brB (decide (s9.1 ≤ s35.1))
 (sx a0.a a0.len a1 1 fun p36 =>
 ldT (.int .i64) p36 fun x37 =>
 sx a0.a a0.len s35.1 1 fun p38 =>
 ldT (.int .i64) p38 fun x39 =>
 callF Try.prog a4 #[(.int .i64 x37), (.int .i64 x39)] (.int .i64) fun r40 =>
 brB (decide (r40 < (0 : Int)))
 (X34 ((IntKind.wrap .i64 (s35.1 - (1 : Int))), ()))
 (brB (decide (s9.1 > s35.1))
 (K s9.1)
 (sx a0.a a0.len s35.1 1 fun p41 =>
 ldT (.int .i64) p41 fun x42 =>
 sx a0.a a0.len s9.1 1 fun p43 =>
 ldT (.int .i64) p43 fun x44 =>
 sx a0.a a0.len s9.1 1 fun p45 =>
 st1 p45 (.int .i64 x42) <|
 sx a0.a a0.len s35.1 1 fun p46 =>
 st1 p46 (.int .i64 x44) <|
 X6 ((IntKind.wrap .i64 (s35.1 - (1 : Int))), (IntKind.wrap .i64 (s9.1 + (1 : Int))), ()))))
 (brB (decide (s9.1 > s35.1))
 (K s9.1)
 (sx a0.a a0.len s35.1 1 fun p47 =>
 ldT (.int .i64) p47 fun x48 =>
 sx a0.a a0.len s9.1 1 fun p49 =>
 ldT (.int .i64) p49 fun x50 =>
 sx a0.a a0.len s9.1 1 fun p51 =>
 st1 p51 (.int .i64 x48) <|
 sx a0.a a0.len s35.1 1 fun p52 =>
 st1 p52 (.int .i64 x50) <|
 X6 ((IntKind.wrap .i64 (s35.1 - (1 : Int))), (IntKind.wrap .i64 (s9.1 + (1 : Int))), ()))))
 (s7.1, ())))
 (s7.2.1, ()))
 ((IntKind.wrap .i64 (a2 - (1 : Int))), (IntKind.wrap .i64 (a1 + (1 : Int))), ())
set_option maxRecDepth 100000 in
theorem E_slices_partitionEqualCmpFunc_int (a0 : Sl) (a1 : Int) (a2 : Int) (a3 : Int) (a4 : Value) (K : Int → HP) (h : Heap) : fnVC Try.prog [] 90 Try.f62 [(.slice a0.a a0.len a0.cap), (.int .i64 a1), (.int .i64 a2), (.int .i64 a3), a4] (.int .i64) K h = F_slices_partitionEqualCmpFunc_int a0 a1 a2 a3 a4 K h := by kernel_rfl
set_option maxRecDepth 100000 in
theorem S_slices_partitionEqualCmpFunc_int{h : Heap} {a0 : Sl} {a1 : Int} {a2 : Int} {a3 : Int} {a4 : Value} (K : Int → HP) (hF : F_slices_partitionEqualCmpFunc_int a0 a1 a2 a3 a4 K h) : CallsH Try.prog fn_slices_partitionEqualCmpFunc_int #[(.slice a0.a a0.len a0.cap), (.int .i64 a1), (.int .i64 a2), (.int .i64 a3), a4] h fun v h' => ∃ x : Int, v = Ty.enc (.int .i64) x ∧ K x h' :=
  callsH_of_fn (P := Try.prog) (fn := Try.f62) (τ := (.int .i64)) follows Try.func62 (by kernel_rfl) (by kernel_rfl) Try.call62 (Eq.mpr (E_slices_partitionEqualCmpFunc_int a0 a1 a2 a3 a4 K h) hF)

/-- slices.partitionCmpFunc[int] -/
def F_slices_partitionCmpFunc_int (a0 : Sl) (a1 : Int) (a2 : Int) (a3 : Int) (a4 : Value) (K : (Int × (Bool × Unit)) → HP) : HP :=
 sx a0.a a0.len a3 1 fun p0 =>
 ldT (.int .i64) p0 fun x1 =>
 sx a0.a a0.len a1 1 fun p2 =>
 ldT (.int .i64) p2 fun x3 =>
 sx a0.a a0.len a1 1 fun p4 =>
 st1 p4 (.int .i64 x1) <|
 sx a0.a a0.len a3 1 fun p5 =>
 st1 p5 (.int .i64 x3) <|
 lfp (σ := (Int × Unit)) (fun X6 s7 => /- i -/
 brB (decide (s7.1 ≤ (IntKind.wrap .i64 (a2 - (1 : Int)))))
 (sx a0.a a0.len s7.1 1 fun p8 =>
 ldT (.int .i64) p8 fun x9 =>
 sx a0.a a0.len a1 1 fun p10 =>
 ldT (.int .i64) p10 fun x11 =>
 callF Try.prog a4 #[(.int .i64 x9), (.int .i64 x11)] (.int .i64) fun r12 =>
 brB (decide (r12 < (0 : Int)))
 (X6 ((IntKind.wrap .i64 (s7.1 + (1 : Int))), ()))
 (lfp (σ := (Int × Unit)) (fun X13 s14 => /- j -/
 brB (decide (s7.1 ≤ s14.1))
 (sx a0.a a0.len s14.1 1 fun p15 =>
 ldT (.int .i64) p15 fun x16 =>
 sx a0.a a0.len a1 1 fun p17 =>
 ldT (.int .i64) p17 fun x18 =>
 callF Try.prog a4 #[(.int .i64 x16), (.int .i64 x18)] (.int .i64) fun r19 =>
 brB (!(decide (r19 < (0 : Int))))
 (X13 ((IntKind.wrap .i64 (s14.1 - (1 : Int))), ()))
 (brB (decide (s7.1 > s14.1))
 (sx a0.a a0.len a1 1 fun p20 =>
 ldT (.int .i64) p20 fun x21 =>
 sx a0.a a0.len s14.1 1 fun p22 =>
 ldT (.int .i64) p22 fun x23 =>
 sx a0.a a0.len s14.1 1 fun p24 =>
 st1 p24 (.int .i64 x21) <|
 sx a0.a a0.len a1 1 fun p25 =>
 st1 p25 (.int .i64 x23) <|
 K (s14.1, true, ()))
 (sx a0.a a0.len s14.1 1 fun p26 =>
 ldT (.int .i64) p26 fun x27 =>
 sx a0.a a0.len s7.1 1 fun p28 =>
 ldT (.int .i64) p28 fun x29 =>
 sx a0.a a0.len s7.1 1 fun p30 =>
 st1 p30 (.int .i64 x27) <|
 sx a0.a a0.len s14.1 1 fun p31 =>
 st1 p31 (.int .i64 x29) <|
 lfp (σ := (Int × (Int × Unit))) (fun X32 s33 => /- j i -/
 lfp (σ := (Int × Unit)) (fun X34 s35 => /- i -/
 brB (decide (s35.1 ≤ s33.1))
 (sx a0.a a0.len s35.1 1 fun p36 =>
 ldT (.int .i64) p36 fun x37 =>
 sx a0.a a0.len a1 1 fun p38 =>
 ldT (.int .i64) p38 fun x39 =>
 callF Try.prog a4 #[(.int .i64 x37), (.int .i64 x39)] (.int .i64) fun r40 =>
 brB (decide (r40 < (0 : Int)))
 (X34 ((IntKind.wrap .i64 (s35.1 + (1 : Int))), ()))
 (lfp (σ := (Int × Unit)) (fun X41 s42 => /- j -/
 brB (decide (s35.1 ≤ s42.1))
 (sx a0.a a0.len s42.1 1 fun p43 =>
 ldT (.int .i64) p43 fun x44 =>
 sx a0.a a0.len a1 1 fun p45 =>
 ldT (.int .i64) p45 fun x46 =>
 callF Try.prog a4 #[(.int .i64 x44), (.int .i64 x46)] (.int .i64) fun r47 =>
 brB (!(decide (r47 < (0 : Int))))
 (X41 ((IntKind.wrap .i64 (s42.1 - (1 : Int))), ()))
 (brB (decide (s35.1 > s42.1))
 (sx a0.a a0.len a1 1 fun p48 =>
 ldT (.int .i64) p48 fun x49 =>
 sx a0.a a0.len s42.1 1 fun p50 =>
 ldT (.int .i64) p50 fun x51 =>
 sx a0.a a0.len s42.1 1 fun p52 =>
 st1 p52 (.int .i64 x49) <|
 sx a0.a a0.len a1 1 fun p53 =>
 st1 p53 (.int .i64 x51) <|
 K (s42.1, false, ()))
 (sx a0.a a0.len s42.1 1 fun p54 =>
 ldT (.int .i64) p54 fun x55 =>
 sx a0.a a0.len s35.1 1 fun p56 =>
 ldT (.int .i64) p56 fun x57 =>
 sx a0.a a0.len s35.1 1 fun p58 =>
 st1 p58 (.int .i64 x55) <|
 sx a0.a a0.len s42.1 1 fun p59 =>
 st1 p59 (.int .i64 x57) <|
 X32 ((IntKind.wrap .i64 (s42.1 - (1 : Int))), (IntKind.wrap .i64 (s35.1 + (1 : Int))), ()))))
 (brB (decide (s35.1 > s42.1))
 (sx a0.a a0.len a1 1 fun p60 =>
 ldT (.int .i64) p60 fun x61 =>
 sx a0.a a0.len s42.1 1 fun p62 =>
 ldT (.int .i64) p62 fun x63 =>
 sx a0.a a0.len s42.1 1 fun p64 =>
 st1 p64 (.int .i64 x61) <|
 sx a0.a a0.len a1 1 fun p65 =>
 st1 p65 (.int .i64 x63) <|
 K (s42.1, false, ()))
 (sx a0.a a0.len s42.1 1 fun p66 =>
 ldT (.int .i64) p66 fun x67 =>
 sx a0.a a0.len s35.1 1 fun p68 =>
 ldT (.int .i64) p68 fun x69 =>
 sx a0.a a0.len s35.1 1 fun p70 =>
 st1 p70 (.int .i64 x67) <|
 sx a0.a a0.len s42.1 1 fun p71 =>
 st1 p71 (.int .i64 x69) <|
 X32 ((IntKind.wrap .i64 (s42.1 - (1 : Int))), (IntKind.wrap .i64 (s35.1 + (1 : Int))), ()))))
 (s33.1, ())))
 (lfp (σ := (Int × Unit)) (fun X72 s73 => /- j -/
 brB (decide (s35.1 ≤ s73.1))
 (sx a0.a a0.len s73.1 1 fun p74 =>
 ldT (.int .i64) p74 fun x75 =>
 sx a0.a a0.len a1 1 fun p76 =>
 ldT (.int .i64) p76 fun x77 =>
 callF Try.prog a4 #[(.int .i64 x75), (.int .i64 x77)] (.int .i64) fun r78 =>
 brB (!(decide (r78 < (0 : Int))))
 (X72 ((IntKind.wrap .i64 (s73.1 - (1 : Int))), ()))
 (brB (decide (s35.1 > s73.1))
 (sx a0.a a0.len a1 1 fun p79 =>
 ldT (.int .i64) p79 fun x80 =>
 sx a0.a a0.len s73.1 1 fun p81 =>
 ldT (.int .i64) p81 fun x82 =>
 sx a0.a a0.len s73.1 1 fun p83 =>
 st1 p83 (.int .i64 x80) <|
 sx a0.a a0.len a1 1 fun p84 =>
 st1 p84 (.int .i64 x82) <|
 K (s73.1, false, ()))
 (sx a0.a a0.len s73.1 1 fun p85 =>
 ldT (.int .i64) p85 fun x86 =>
 sx a0.a a0.len s35.1 1 fun p87 =>
 ldT (.int .i64) p87 fun x88 =>
 sx a0.a a0.len s35.1 1 fun p89 =>
 st1 p89 (.int .i64 x86) <|
 sx a0.a a0.len s73.1 1 fun p90 =>
 st1 p90 (.int .i64 x88) <|
 X32 ((IntKind.wrap .i64 (s73.1 - (1 : Int))), (IntKind.wrap .i64 (s35.1 + (1 : Int))), ()))))
 (brB (decide (s35.1 > s73.1))
 (sx a0.a a0.len a1 1 fun p91 =>
 ldT (.int .i64) p91 fun x92 =>
 sx a0.a a0.len s73.1 1 fun p93 =>
 ldT (.int .i64) p93 fun x94 =>
 sx a0.a a0.len s73.1 1 fun p95 =>
 st1 p95 (.int .i64 x92) <|
 sx a0.a a0.len a1 1 fun p96 =>
 st1 p96 (.int .i64 x94) <|
 K (s73.1, false, ()))
 (sx a0.a a0.len s73.1 1 fun p97 =>
 ldT (.int .i64) p97 fun x98 =>
 sx a0.a a0.len s35.1 1 fun p99 =>
 ldT (.int .i64) p99 fun x100 =>
 sx a0.a a0.len s35.1 1 fun p101 =>
 st1 p101 (.int .i64 x98) <|
 sx a0.a a0.len s73.1 1 fun p102 =>
 st1 p102 (.int .i64 x100) <|
 X32 ((IntKind.wrap .i64 (s73.1 - (1 : Int))), (IntKind.wrap .i64 (s35.1 + (1 : Int))), ()))))
 (s33.1, ())))
 (s33.2.1, ()))
 ((IntKind.wrap .i64 (s14.1 - (1 : Int))), (IntKind.wrap .i64 (s7.1 + (1 : Int))), ()))))
 (brB (decide (s7.1 > s14.1))
 (sx a0.a a0.len a1 1 fun p103 =>
 ldT (.int .i64) p103 fun x104 =>
 sx a0.a a0.len s14.1 1 fun p105 =>
 ldT (.int .i64) p105 fun x106 =>
 sx a0.a a0.len s14.1 1 fun p107 =>
 st1 p107 (.int .i64 x104) <|
 sx a0.a a0.len a1 1 fun p108 =>
 st1 p108 (.int .i64 x106) <|
 K (s14.1, true, ()))
 (sx a0.a a0.len s14.1 1 fun p109 =>
 ldT (.int .i64) p109 fun x110 =>
 sx a0.a a0.len s7.1 1 fun p111 =>
 ldT (.int .i64) p111 fun x112 =>
 sx a0.a a0.len s7.1 1 fun p113 =>
 st1 p113 (.int .i64 x110) <|
 sx a0.a a0.len s14.1 1 fun p114 =>
 st1 p114 (.int .i64 x112) <|
 lfp (σ := (Int × (Int × Unit))) (fun X115 s116 => /- j i -/
 lfp (σ := (Int × Unit)) (fun X117 s118 => /- i -/
 brB (decide (s118.1 ≤ s116.1))
 (sx a0.a a0.len s118.1 1 fun p119 =>
 ldT (.int .i64) p119 fun x120 =>
 sx a0.a a0.len a1 1 fun p121 =>
 ldT (.int .i64) p121 fun x122 =>
 callF Try.prog a4 #[(.int .i64 x120), (.int .i64 x122)] (.int .i64) fun r123 =>
 brB (decide (r123 < (0 : Int)))
 (X117 ((IntKind.wrap .i64 (s118.1 + (1 : Int))), ()))
 (lfp (σ := (Int × Unit)) (fun X124 s125 => /- j -/
 brB (decide (s118.1 ≤ s125.1))
 (sx a0.a a0.len s125.1 1 fun p126 =>
 ldT (.int .i64) p126 fun x127 =>
 sx a0.a a0.len a1 1 fun p128 =>
 ldT (.int .i64) p128 fun x129 =>
 callF Try.prog a4 #[(.int .i64 x127), (.int .i64 x129)] (.int .i64) fun r130 =>
 brB (!(decide (r130 < (0 : Int))))
 (X124 ((IntKind.wrap .i64 (s125.1 - (1 : Int))), ()))
 (brB (decide (s118.1 > s125.1))
 (sx a0.a a0.len a1 1 fun p131 =>
 ldT (.int .i64) p131 fun x132 =>
 sx a0.a a0.len s125.1 1 fun p133 =>
 ldT (.int .i64) p133 fun x134 =>
 sx a0.a a0.len s125.1 1 fun p135 =>
 st1 p135 (.int .i64 x132) <|
 sx a0.a a0.len a1 1 fun p136 =>
 st1 p136 (.int .i64 x134) <|
 K (s125.1, false, ()))
 (sx a0.a a0.len s125.1 1 fun p137 =>
 ldT (.int .i64) p137 fun x138 =>
 sx a0.a a0.len s118.1 1 fun p139 =>
 ldT (.int .i64) p139 fun x140 =>
 sx a0.a a0.len s118.1 1 fun p141 =>
 st1 p141 (.int .i64 x138) <|
 sx a0.a a0.len s125.1 1 fun p142 =>
 st1 p142 (.int .i64 x140) <|
 X115 ((IntKind.wrap .i64 (s125.1 - (1 : Int))), (IntKind.wrap .i64 (s118.1 + (1 : Int))), ()))))
 (brB (decide (s118.1 > s125.1))
 (sx a0.a a0.len a1 1 fun p143 =>
 ldT (.int .i64) p143 fun x144 =>
 sx a0.a a0.len s125.1 1 fun p145 =>
 ldT (.int .i64) p145 fun x146 =>
 sx a0.a a0.len s125.1 1 fun p147 =>
 st1 p147 (.int .i64 x144) <|
 sx a0.a a0.len a1 1 fun p148 =>
 st1 p148 (.int .i64 x146) <|
 K (s125.1, false, ()))
 (sx a0.a a0.len s125.1 1 fun p149 =>
 ldT (.int .i64) p149 fun x150 =>
 sx a0.a a0.len s118.1 1 fun p151 =>
 ldT (.int .i64) p151 fun x152 =>
 sx a0.a a0.len s118.1 1 fun p153 =>
 st1 p153 (.int .i64 x150) <|
 sx a0.a a0.len s125.1 1 fun p154 =>
 st1 p154 (.int .i64 x152) <|
 X115 ((IntKind.wrap .i64 (s125.1 - (1 : Int))), (IntKind.wrap .i64 (s118.1 + (1 : Int))), ()))))
 (s116.1, ())))
 (lfp (σ := (Int × Unit)) (fun X155 s156 => /- j -/
 brB (decide (s118.1 ≤ s156.1))
 (sx a0.a a0.len s156.1 1 fun p157 =>
 ldT (.int .i64) p157 fun x158 =>
 sx a0.a a0.len a1 1 fun p159 =>
 ldT (.int .i64) p159 fun x160 =>
 callF Try.prog a4 #[(.int .i64 x158), (.int .i64 x160)] (.int .i64) fun r161 =>
 brB (!(decide (r161 < (0 : Int))))
 (X155 ((IntKind.wrap .i64 (s156.1 - (1 : Int))), ()))
 (brB (decide (s118.1 > s156.1))
 (sx a0.a a0.len a1 1 fun p162 =>
 ldT (.int .i64) p162 fun x163 =>
 sx a0.a a0.len s156.1 1 fun p164 =>
 ldT (.int .i64) p164 fun x165 =>
 sx a0.a a0.len s156.1 1 fun p166 =>
 st1 p166 (.int .i64 x163) <|
 sx a0.a a0.len a1 1 fun p167 =>
 st1 p167 (.int .i64 x165) <|
 K (s156.1, false, ()))
 (sx a0.a a0.len s156.1 1 fun p168 =>
 ldT (.int .i64) p168 fun x169 =>
 sx a0.a a0.len s118.1 1 fun p170 =>
 ldT (.int .i64) p170 fun x171 =>
 sx a0.a a0.len s118.1 1 fun p172 =>
 st1 p172 (.int .i64 x169) <|
 sx a0.a a0.len s156.1 1 fun p173 =>
 st1 p173 (.int .i64 x171) <|
 X115 ((IntKind.wrap .i64 (s156.1 - (1 : Int))), (IntKind.wrap .i64 (s118.1 + (1 : Int))), ()))))
 (brB (decide (s118.1 > s156.1))
 (sx a0.a a0.len a1 1 fun p174 =>
 ldT (.int .i64) p174 fun x175 =>
 sx a0.a a0.len s156.1 1 fun p176 =>
 ldT (.int .i64) p176 fun x177 =>
 sx a0.a a0.len s156.1 1 fun p178 =>
 st1 p178 (.int .i64 x175) <|
 sx a0.a a0.len a1 1 fun p179 =>
 st1 p179 (.int .i64 x177) <|
 K (s156.1, false, ()))
 (sx a0.a a0.len s156.1 1 fun p180 =>
 ldT (.int .i64) p180 fun x181 =>
 sx a0.a a0.len s118.1 1 fun p182 =>
 ldT (.int .i64) p182 fun x183 =>
 sx a0.a a0.len s118.1 1 fun p184 =>
 st1 p184 (.int .i64 x181) <|
 sx a0.a a0.len s156.1 1 fun p185 =>
 st1 p185 (.int .i64 x183) <|
 X115 ((IntKind.wrap .i64 (s156.1 - (1 : Int))), (IntKind.wrap .i64 (s118.1 + (1 : Int))), ()))))
 (s116.1, ())))
 (s116.2.1, ()))
 ((IntKind.wrap .i64 (s14.1 - (1 : Int))), (IntKind.wrap .i64 (s7.1 + (1 : Int))), ()))))
 ((IntKind.wrap .i64 (a2 - (1 : Int))), ())))
 (lfp (σ := (Int × Unit)) (fun X186 s187 => /- j -/
 brB (decide (s7.1 ≤ s187.1))
 (sx a0.a a0.len s187.1 1 fun p188 =>
 ldT (.int .i64) p188 fun x189 =>
 sx a0.a a0.len a1 1 fun p190 =>
 ldT (.int .i64) p190 fun x191 =>
 callF Try.prog a4 #[(.int .i64 x189), (.int .i64 x191)] (.int .i64) fun r192 =>
 brB (!(decide (r192 < (0 : Int))))
 (X186 ((IntKind.wrap .i64 (s187.1 - (1 : Int))), ()))
 (brB (decide (s7.1 > s187.1))
 (sx a0.a a0.len a1 1 fun p193 =>
 ldT (.int .i64) p193 fun x194 =>
 sx a0.a a0.len s187.1 1 fun p195 =>
 ldT (.int .i64) p195 fun x196 =>
 sx a0.a a0.len s187.1 1 fun p197 =>
 st1 p197 (.int .i64 x194) <|
 sx a0.a a0.len a1 1 fun p198 =>
 st1 p198 (.int .i64 x196) <|
 K (s187.1, true, ()))
 (sx a0.a a0.len s187.1 1 fun p199 =>
 ldT (.int .i64) p199 fun x200 =>
 sx a0.a a0.len s7.1 1 fun p201 =>
 ldT (.int .i64) p201 fun x202 =>
 sx a0.a a0.len s7.1 1 fun p203 =>
 st1 p203 (.int .i64 x200) <|
 sx a0.a a0.len s187.1 1 fun p204 =>
 st1 p204 (.int .i64 x202) <|
 lfp (σ := (Int × (Int × Unit))) (fun X205 s206 => /- j i -/
 lfp (σ := (Int × Unit)) (fun X207 s208 => /- i -/
 brB (decide (s208.1 ≤ s206.1))
 (sx a0.a a0.len s208.1 1 fun p209 =>
 ldT (.int .i64) p209 fun x210 =>
 sx a0.a a0.len a1 1 fun p211 =>
 ldT (.int .i64) p211 fun x212 =>
 callF Try.prog a4 #[(.int .i64 x210), (.int .i64 x212)] (.int .i64) fun r213 =>
 brB (decide (r213 < (0 : Int)))
 (X207 ((IntKind.wrap .i64 (s208.1 + (1 : Int))), ()))
 (lfp (σ := (Int × Unit)) (fun X214 s215 => /- j -/
 brB (decide (s208.1 ≤ s215.1))
 (sx a0.a a0.len s215.1 1 fun p216 =>
 ldT (.int .i64) p216 fun x217 =>
 sx a0.a a0.len a1 1 fun p218 =>
 ldT (.int .i64) p218 fun x219 =>
 callF Try.prog a4 #[(.int .i64 x217), (.int .i64 x219)] (.int .i64) fun r220 =>
 brB (!(decide (r220 < (0 : Int))))
 (X214 ((IntKind.wrap .i64 (s215.1 - (1 : Int))), ()))
 (brB (decide (s208.1 > s215.1))
 (sx a0.a a0.len a1 1 fun p221 =>
 ldT (.int .i64) p221 fun x222 =>
 sx a0.a a0.len s215.1 1 fun p223 =>
 ldT (.int .i64) p223 fun x224 =>
 sx a0.a a0.len s215.1 1 fun p225 =>
 st1 p225 (.int .i64 x222) <|
 sx a0.a a0.len a1 1 fun p226 =>
 st1 p226 (.int .i64 x224) <|
 K (s215.1, false, ()))
 (sx a0.a a0.len s215.1 1 fun p227 =>
 ldT (.int .i64) p227 fun x228 =>
 sx a0.a a0.len s208.1 1 fun p229 =>
 ldT (.int .i64) p229 fun x230 =>
 sx a0.a a0.len s208.1 1 fun p231 =>
 st1 p231 (.int .i64 x228) <|
 sx a0.a a0.len s215.1 1 fun p232 =>
 st1 p232 (.int .i64 x230) <|
 X205 ((IntKind.wrap .i64 (s215.1 - (1 : Int))), (IntKind.wrap .i64 (s208.1 + (1 : Int))), ()))))
 (brB (decide (s208.1 > s215.1))
 (sx a0.a a0.len a1 1 fun p233 =>
 ldT (.int .i64) p233 fun x234 =>
 sx a0.a a0.len s215.1 1 fun p235 =>
 ldT (.int .i64) p235 fun x236 =>
 sx a0.a a0.len s215.1 1 fun p237 =>
 st1 p237 (.int .i64 x234) <|
 sx a0.a a0.len a1 1 fun p238 =>
 st1 p238 (.int .i64 x236) <|
 K (s215.1, false, ()))
 (sx a0.a a0.len s215.1 1 fun p239 =>
 ldT (.int .i64) p239 fun x240 =>
 sx a0.a a0.len s208.1 1 fun p241 =>
 ldT (.int .i64) p241 fun x242 =>
 sx a0.a a0.len s208.1 1 fun p243 =>
 st1 p243 (.int .i64 x240) <|
 sx a0.a a0.len s215.1 1 fun p244 =>
 st1 p244 (.int .i64 x242) <|
 X205 ((IntKind.wrap .i64 (s215.1 - (1 : Int))), (IntKind.wrap .i64 (s208.1 + (1 : Int))), ()))))
 (s206.1, ())))
 (lfp (σ := (Int × Unit)) (fun X245 s246 => /- j -/
 brB (decide (s208.1 ≤ s246.1))
 (sx a0.a a0.len s246.1 1 fun p247 =>
 ldT (.int .i64) p247 fun x248 =>
 sx a0.a a0.len a1 1 fun p249 =>
 ldT (.int .i64) p249 fun x250 =>
 callF Try.prog a4 #[(.int .i64 x248), (.int .i64 x250)] (.int .i64) fun r251 =>
 brB (!(decide (r251 < (0 : Int))))
 (X245 ((IntKind.wrap .i64 (s246.1 - (1 : Int))), ()))
 (brB (decide (s208.1 > s246.1))
 (sx a0.a a0.len a1 1 fun p252 =>
 ldT (.int .i64) p252 fun x253 =>
 sx a0.a a0.len s246.1 1 fun p254 =>
 ldT (.int .i64) p254 fun x255 =>
 sx a0.a a0.len s246.1 1 fun p256 =>
 st1 p256 (.int .i64 x253) <|
 sx a0.a a0.len a1 1 fun p257 =>
 st1 p257 (.int .i64 x255) <|
 K (s246.1, false, ()))
 (sx a0.a a0.len s246.1 1 fun p258 =>
 ldT (.int .i64) p258 fun x259 =>
 sx a0.a a0.len s208.1 1 fun p260 =>
 ldT (.int .i64) p260 fun x261 =>
 sx a0.a a0.len s208.1 1 fun p262 =>
 st1 p262 (.int .i64 x259) <|
 sx a0.a a0.len s246.1 1 fun p263 =>
 st1 p263 (.int .i64 x261) <|
 X205 ((IntKind.wrap .i64 (s246.1 - (1 : Int))), (IntKind.wrap .i64 (s208.1 + (1 : Int))), ()))))
 (brB (decide (s208.1 > s246.1))
 (sx a0.a a0.len a1 1 fun p264 =>
 ldT (.int .i64) p264 fun x265 =>
 sx a0.a a0.len s246.1 1 fun p266 =>
 ldT (.int .i64) p266 fun x267 =>
 sx a0.a a0.len s246.1 1 fun p268 =>
 st1 p268 (.int .i64 x265) <|
 sx a0.a a0.len a1 1 fun p269 =>
 st1 p269 (.int .i64 x267) <|
 K (s246.1, false, ()))
 (sx a0.a a0.len s246.1 1 fun p270 =>
 ldT (.int .i64) p270 fun x271 =>
 sx a0.a a0.len s208.1 1 fun p272 =>
 ldT (.int .i64) p272 fun x273 =>
 sx a0.a a0.len s208.1 1 fun p274 =>
 st1 p274 (.int .i64 x271) <|
 sx a0.a a0.len s246.1 1 fun p275 =>
 st1 p275 (.int .i64 x273) <|
 X205 ((IntKind.wrap .i64 (s246.1 - (1 : Int))), (IntKind.wrap .i64 (s208.1 + (1 : Int))), ()))))
 (s206.1, ())))
 (s206.2.1, ()))
 ((IntKind.wrap .i64 (s187.1 - (1 : Int))), (IntKind.wrap .i64 (s7.1 + (1 : Int))), ()))))
 (brB (decide (s7.1 > s187.1))
 (sx a0.a a0.len a1 1 fun p276 =>
 ldT (.int .i64) p276 fun x277 =>
 sx a0.a a0.len s187.1 1 fun p278 =>
 ldT (.int .i64) p278 fun x279 =>
 sx a0.a a0.len s187.1 1 fun p280 =>
 st1 p280 (.int .i64 x277) <|
 sx a0.a a0.len a1 1 fun p281 =>
 st1 p281 (.int .i64 x279) <|
 K (s187.1, true, ()))
 (sx a0.a a0.len s187.1 1 fun p282 =>
 ldT (.int .i64) p282 fun x283 =>
 sx a0.a a0.len s7.1 1 fun p284 =>
 ldT (.int .i64) p284 fun x285 =>
 sx a0.a a0.len s7.1 1 fun p286 =>
 st1 p286 (.int .i64 x283) <|
 sx a0.a a0.len s187.1 1 fun p287 =>
 st1 p287 (.int .i64 x285) <|
 lfp (σ := (Int × (Int × Unit))) (fun X288 s289 => /- j i -/
 lfp (σ := (Int × Unit)) (fun X290 s291 => /- i -/
 brB (decide (s291.1 ≤ s289.1))
 (sx a0.a a0.len s291.1 1 fun p292 =>
 ldT (.int .i64) p292 fun x293 =>
 sx a0.a a0.len a1 1 fun p294 =>
 ldT (.int .i64) p294 fun x295 =>
 callF Try.prog a4 #[(.int .i64 x293), (.int .i64 x295)] (.int .i64) fun r296 =>
 brB (decide (r296 < (0 : Int)))
 (X290 ((IntKind.wrap .i64 (s291.1 + (1 : Int))), ()))
 (lfp (σ := (Int × Unit)) (fun X297 s298 => /- j -/
 brB (decide (s291.1 ≤ s298.1))
 (sx a0.a a0.len s298.1 1 fun p299 =>
 ldT (.int .i64) p299 fun x300 =>
 sx a0.a a0.len a1 1 fun p301 =>
 ldT (.int .i64) p301 fun x302 =>
 callF Try.prog a4 #[(.int .i64 x300), (.int .i64 x302)] (.int .i64) fun r303 =>
 brB (!(decide (r303 < (0 : Int))))
 (X297 ((IntKind.wrap .i64 (s298.1 - (1 : Int))), ()))
 (brB (decide (s291.1 > s298.1))
 (sx a0.a a0.len a1 1 fun p304 =>
 ldT (.int .i64) p304 fun x305 =>
 sx a0.a a0.len s298.1 1 fun p306 =>
 ldT (.int .i64) p306 fun x307 =>
 sx a0.a a0.len s298.1 1 fun p308 =>
 st1 p308 (.int .i64 x305) <|
 sx a0.a a0.len a1 1 fun p309 =>
 st1 p309 (.int .i64 x307) <|
 K (s298.1, false, ()))
 (sx a0.a a0.len s298.1 1 fun p310 =>
 ldT (.int .i64) p310 fun x311 =>
 sx a0.a a0.len s291.1 1 fun p312 =>
 ldT (.int .i64) p312 fun x313 =>
 sx a0.a a0.len s291.1 1 fun p314 =>
 st1 p314 (.int .i64 x311) <|
 sx a0.a a0.len s298.1 1 fun p315 =>
 st1 p315 (.int .i64 x313) <|
 X288 ((IntKind.wrap .i64 (s298.1 - (1 : Int))), (IntKind.wrap .i64 (s291.1 + (1 : Int))), ()))))
 (brB (decide (s291.1 > s298.1))
 (sx a0.a a0.len a1 1 fun p316 =>
 ldT (.int .i64) p316 fun x317 =>
 sx a0.a a0.len s298.1 1 fun p318 =>
 ldT (.int .i64) p318 fun x319 =>
 sx a0.a a0.len s298.1 1 fun p320 =>
 st1 p320 (.int .i64 x317) <|
 sx a0.a a0.len a1 1 fun p321 =>
 st1 p321 (.int .i64 x319) <|
 K (s298.1, false, ()))
 (sx a0.a a0.len s298.1 1 fun p322 =>
 ldT (.int .i64) p322 fun x323 =>
 sx a0.a a0.len s291.1 1 fun p324 =>
 ldT (.int .i64) p324 fun x325 =>
 sx a0.a a0.len s291.1 1 fun p326 =>
 st1 p326 (.int .i64 x323) <|
 sx a0.a a0.len s298.1 1 fun p327 =>
 st1 p327 (.int .i64 x325) <|
 X288 ((IntKind.wrap .i64 (s298.1 - (1 : Int))), (IntKind.wrap .i64 (s291.1 + (1 : Int))), ()))))
 (s289.1, ())))
 (lfp (σ := (Int × Unit)) (fun X328 s329 => /- j -/
 brB (decide (s291.1 ≤ s329.1))
 (sx a0.a a0.len s329.1 1 fun p330 =>
 ldT (.int .i64) p330 fun x331 =>
 sx a0.a a0.len a1 1 fun p332 =>
 ldT (.int .i64) p332 fun x333 =>
 callF Try.prog a4 #[(.int .i64 x331), (.int .i64 x333)] (.int .i64) fun r334 =>
 brB (!(decide (r334 < (0 : Int))))
 (X328 ((IntKind.wrap .i64 (s329.1 - (1 : Int))), ()))
 (brB (decide (s291.1 > s329.1))
 (sx a0.a a0.len a1 1 fun p335 =>
 ldT (.int .i64) p335 fun x336 =>
 sx a0.a a0.len s329.1 1 fun p337 =>
 ldT (.int .i64) p337 fun x338 =>
 sx a0.a a0.len s329.1 1 fun p339 =>
 st1 p339 (.int .i64 x336) <|
 sx a0.a a0.len a1 1 fun p340 =>
 st1 p340 (.int .i64 x338) <|
 K (s329.1, false, ()))
 (sx a0.a a0.len s329.1 1 fun p341 =>
 ldT (.int .i64) p341 fun x342 =>
 sx a0.a a0.len s291.1 1 fun p343 =>
 ldT (.int .i64) p343 fun x344 =>
 sx a0.a a0.len s291.1 1 fun p345 =>
 st1 p345 (.int .i64 x342) <|
 sx a0.a a0.len s329.1 1 fun p346 =>
 st1 p346 (.int .i64 x344) <|
 X288 ((IntKind.wrap .i64 (s329.1 - (1 : Int))), (IntKind.wrap .i64 (s291.1 + (1 : Int))), ()))))
 (brB (decide (s291.1 > s329.1))
 (sx a0.a a0.len a1 1 fun p347 =>
 ldT (.int .i64) p347 fun x348 =>
 sx a0.a a0.len s329.1 1 fun p349 =>
 ldT (.int .i64) p349 fun x350 =>
 sx a0.a a0.len s329.1 1 fun p351 =>
 st1 p351 (.int .i64 x348) <|
 sx a0.a a0.len a1 1 fun p352 =>
 st1 p352 (.int .i64 x350) <|
 K (s329.1, false, ()))
 (sx a0.a a0.len s329.1 1 fun p353 =>
 ldT (.int .i64) p353 fun x354 =>
 sx a0.a a0.len s291.1 1 fun p355 =>
 ldT (.int .i64) p355 fun x356 =>
 sx a0.a a0.len s291.1 1 fun p357 =>
 st1 p357 (.int .i64 x354) <|
 sx a0.a a0.len s329.1 1 fun p358 =>
 st1 p358 (.int .i64 x356) <|
 X288 ((IntKind.wrap .i64 (s329.1 - (1 : Int))), (IntKind.wrap .i64 (s291.1 + (1 : Int))), ()))))
 (s289.1, ())))
 (s289.2.1, ()))
 ((IntKind.wrap .i64 (s187.1 - (1 : Int))), (IntKind.wrap .i64 (s7.1 + (1 : Int))), ()))))
 ((IntKind.wrap .i64 (a2 - (1 : Int))), ())))
 ((IntKind.wrap .i64 (a1 + (1 : Int))), ())
set_option maxRecDepth 100000 in
theorem E_slices_partitionCmpFunc_int (a0 : Sl) (a1 : Int) (a2 : Int) (a3 : Int) (a4 : Value) (K : (Int × (Bool × Unit)) → HP) (h : Heap) : fnVC Try.prog [] 178 Try.f63 [(.slice a0.a a0.len a0.cap), (.int .i64 a1), (.int .i64 a2), (.int .i64 a3), a4] (.tup (.cons (.int .i64) (.cons .bool .nil))) K h = F_slices_partitionCmpFunc_int a0 a1 a2 a3 a4 K h := by kernel_rfl
set_option maxRecDepth 100000 in
theorem S_slices_partitionCmpFunc_int{h : Heap} {a0 : Sl} {a1 : Int} {a2 : Int} {a3 : Int} {a4 : Value} (K : (Int × (Bool × Unit)) → HP) (hF : F_slices_partitionCmpFunc_int a0 a1 a2 a3 a4 K h) : CallsH Try.prog fn_slices_partitionCmpFunc_int #[(.slice a0.a a0.len a0.cap), (.int .i64 a1), (.int .i64 a2), (.int .i64 a3), a4] h fun v h' => ∃ x : (Int × (Bool × Unit)), v = Ty.enc (.tup (.cons (.int .i64) (.cons .bool .nil))) x ∧ K x h' :=
  callsH_of_fn (P := Try.prog) (fn := Try.f63) (τ := (.tup (.cons (.int .i64) (.cons .bool .nil)))) follows Try.func63 (by kernel_rfl) (by kernel_rfl) Try.call63 (Eq.mpr (E_slices_partitionCmpFunc_int a0 a1 a2 a3 a4 K h) hF)

/-- math/bits.Len32 -/
def F_math_bits_Len32 (a0 : Int) (K : Int → HP) : HP :=
 jn (σ := (Int × (Int × Unit))) (fun s1 => /- n x -/
 jn (σ := (Int × (Int × Unit))) (fun s3 => /- n x -/
 six (ByteArray.mk #[0, 1, 2, 2, 3, 3, 3, 3, 4, 4, 4, 4, 4, 4, 4, 4, 5, 5, 5, 5, 5, 5, 5, 5, 5, 5, 5, 5, 5, 5, 5, 5, 6, 6, 6, 6, 6, 6, 6, 6, 6, 6, 6, 6, 6, 6, 6, 6, 6, 6, 6, 6, 6, 6, 6, 6, 6, 6, 6, 6, 6, 6, 6, 6, 7, 7, 7, 7, 7, 7, 7, 7, 7, 7, 7, 7, 7, 7, 7, 7, 7, 7, 7, 7, 7, 7, 7, 7, 7, 7, 7, 7, 7, 7, 7, 7, 7, 7, 7, 7, 7, 7, 7, 7, 7, 7, 7, 7, 7, 7, 7, 7, 7, 7, 7, 7, 7, 7, 7, 7, 7, 7, 7, 7, 7, 7, 7, 7, 8, 8, 8, 8, 8, 8, 8, 8, 8, 8, 8, 8, 8, 8, 8, 8, 8, 8, 8, 8, 8, 8, 8, 8, 8, 8, 8, 8, 8, 8, 8, 8, 8, 8, 8, 8, 8, 8, 8, 8, 8, 8, 8, 8, 8, 8, 8, 8, 8, 8, 8, 8, 8, 8, 8, 8, 8, 8, 8, 8, 8, 8, 8, 8, 8, 8, 8, 8, 8, 8, 8, 8, 8, 8, 8, 8, 8, 8, 8, 8, 8, 8, 8, 8, 8, 8, 8, 8, 8, 8, 8, 8, 8, 8, 8, 8, 8, 8, 8, 8, 8, 8, 8, 8, 8, 8, 8, 8, 8, 8, 8, 8, 8, 8, 8, 8, 8, 8, 8, 8, 8, 8, 8, 8, 8, 8, 8, 8]) (IntKind.wrap .u8 s3.2.1) fun c4 =>
 K (IntKind.wrap .i64 (s3.1 + (IntKind.wrap .i64 c4))))
 (fun J2 =>
 brB (decide (s1.2.1 ≥ (256 : Int)))
 (ge0 (8 : Int) <|
 J2 ((IntKind.wrap .i64 (s1.1 + (8 : Int))), (Int.fdiv s1.2.1 (2 ^ (min ((8 : Int)).toNat 32))), ()))
 (J2 (s1.1, s1.2.1, ()))))
 (fun J0 =>
 brB (decide (a0 ≥ (65536 : Int)))
 (ge0 (16 : Int) <|
 J0 ((16 : Int), (Int.fdiv a0 (2 ^ (min ((16 : Int)).toNat 32))), ()))
 (J0 ((0 : Int), a0, ())))
set_option maxRecDepth 100000 in
theorem E_math_bits_Len32 (a0 : Int) (K : Int → HP) (h : Heap) : fnVC Try.prog [] 19 Try.f64 [(.int .u32 a0)] (.int .i64) K h = F_math_bits_Len32 a0 K h := by kernel_rfl
set_option maxRecDepth 100000 in
theorem S_math_bits_Len32{h : Heap} {a0 : Int} (K : Int → HP) (hF : F_math_bits_Len32 a0 K h) : CallsH Try.prog fn_math_bits_Len32 #[(.int .u32 a0)] h fun v h' => ∃ x : Int, v = Ty.enc (.int .i64) x ∧ K x h' :=
  callsH_of_fn (P := Try.prog) (fn := Try.f64) (τ := (.int .i64)) follows Try.func64 (by kernel_rfl) (by kernel_rfl) Try.call64 (Eq.mpr (E_math_bits_Len32 a0 K h) hF)

/-- math/bits.Len64 -/
def F_math_bits_Len64 (a0 : Int) (K : Int → HP) : HP :=
 jn (σ := (Int × (Int × Unit))) (fun s1 => /- n x -/
 jn (σ := (Int × (Int × Unit))) (fun s3 => /- n x -/
 jn (σ := (Int × (Int × Unit))) (fun s5 => /- n x -/
 six (ByteArray.mk #[0, 1, 2, 2, 3, 3, 3, 3, 4, 4, 4, 4, 4, 4, 4, 4, 5, 5, 5, 5, 5, 5, 5, 5, 5, 5, 5, 5, 5, 5, 5, 5, 6, 6, 6, 6, 6, 6, 6, 6, 6, 6, 6, 6, 6, 6, 6, 6, 6, 6, 6, 6, 6, 6, 6, 6, 6, 6, 6, 6, 6, 6, 6, 6, 7, 7, 7, 7, 7, 7, 7, 7, 7, 7, 7, 7, 7, 7, 7, 7, 7, 7, 7, 7, 7, 7, 7, 7, 7, 7, 7, 7, 7, 7, 7, 7, 7, 7, 7, 7, 7, 7, 7, 7, 7, 7, 7, 7, 7, 7, 7, 7, 7, 7, 7, 7, 7, 7, 7, 7, 7, 7, 7, 7, 7, 7, 7, 7, 8, 8, 8, 8, 8, 8, 8, 8, 8, 8, 8, 8, 8, 8, 8, 8, 8, 8, 8, 8, 8, 8, 8, 8, 8, 8, 8, 8, 8, 8, 8, 8, 8, 8, 8, 8, 8, 8, 8, 8, 8, 8, 8, 8, 8, 8, 8, 8, 8, 8, 8, 8, 8, 8, 8, 8, 8, 8, 8, 8, 8, 8, 8, 8, 8, 8, 8, 8, 8, 8, 8, 8, 8, 8, 8, 8, 8, 8, 8, 8, 8, 8, 8, 8, 8, 8, 8, 8, 8, 8, 8, 8, 8, 8, 8, 8, 8, 8, 8, 8, 8, 8, 8, 8, 8, 8, 8, 8, 8, 8, 8, 8, 8, 8, 8, 8, 8, 8, 8, 8, 8, 8, 8, 8, 8, 8, 8, 8]) (IntKind.wrap .u8 s5.2.1) fun c6 =>
 K (IntKind.wrap .i64 (s5.1 + (IntKind.wrap .i64 c6))))
 (fun J4 =>
 brB (decide (s3.2.1 ≥ (256 : Int)))
 (ge0 (8 : Int) <|
 J4 ((IntKind.wrap .i64 (s3.1 + (8 : Int))), (Int.fdiv s3.2.1 (2 ^ (min ((8 : Int)).toNat 64))), ()))
 (J4 (s3.1, s3.2.1, ()))))
 (fun J2 =>
 brB (decide (s1.2.1 ≥ (65536 : Int)))
 (ge0 (16 : Int) <|
 J2 ((IntKind.wrap .i64 (s1.1 + (16 : Int))), (Int.fdiv s1.2.1 (2 ^ (min ((16 : Int)).toNat 64))), ()))
 (J2 (s1.1, s1.2.1, ()))))
 (fun J0 =>
 brB (decide (a0 ≥ (4294967296 : Int)))
 (ge0 (32 : Int) <|
 J0 ((32 : Int), (Int.fdiv a0 (2 ^ (min ((32 : Int)).toNat 64))), ()))
 (J0 ((0 : Int), a0, ())))
set_option maxRecDepth 100000 in
theorem E_math_bits_Len64 (a0 : Int) (K : Int → HP) (h : Heap) : fnVC Try.prog [] 25 Try.f65 [(.int .u64 a0)] (.int .i64) K h = F_math_bits_Len64 a0 K h := by kernel_rfl
set_option maxRecDepth 100000 in
theorem S_math_bits_Len64{h : Heap} {a0 : Int} (K : Int → HP) (hF : F_math_bits_Len64 a0 K h) : CallsH Try.prog fn_math_bits_Len64 #[(.int .u64 a0)] h fun v h' => ∃ x : Int, v = Ty.enc (.int .i64) x ∧ K x h' :=
  callsH_of_fn (P := Try.prog) (fn := Try.f65) (τ := (.int .i64)) follows Try.func65 (by kernel_rfl) (by kernel_rfl) Try.call65 (Eq.mpr (E_math_bits_Len64 a0 K h) hF)

/-- salvor/order.above$1 -/
def F_order_above_1 (a0 : Value) (c0 : Addr) (K : Unit → HP) : HP :=
 lfp (σ := Unit) (fun X0 s1 => /- -/
 ldT (.int .i64) c0 fun x2 =>
 brB (decide (x2 > (0 : Int)))
 (ldT (.int .i64) c0 fun x3 =>
 nz (2 : Int) <|
 st1 c0 (.int .i64 (IntKind.wrap .i64 (Int.tdiv (IntKind.wrap .i64 (x3 - (1 : Int))) (2 : Int)))) <|
 ldT (.int .i64) c0 fun x4 =>
 callF Try.prog a0 #[(.int .i64 x4)] .bool fun r5 =>
 brB (!r5)
 (K (()))
 (X0 (())))
 (K (())))
 (())
set_option maxRecDepth 100000 in
theorem E_order_above_1 (a0 : Value) (c0 : Addr) (K : Unit → HP) (h : Heap) : fnVC Try.prog [] 12 Try.f66 [a0, (.pointer (some c0))] (.tup .nil) K h = F_order_above_1 a0 c0 K h := by kernel_rfl
set_option maxRecDepth 100000 in
theorem S_order_above_1{h : Heap} {a0 : Value} {c0 : Addr} (K : Unit → HP) (hF : F_order_above_1 a0 c0 K h) : CallsH Try.prog fn_order_above_1 #[a0, (.pointer (some c0))] h fun v h' => ∃ x : Unit, v = Ty.enc (.tup .nil) x ∧ K x h' :=
  callsH_of_fn (P := Try.prog) (fn := Try.f66) (τ := (.tup .nil)) follows Try.func66 (by kernel_rfl) (by kernel_rfl) Try.call66 (Eq.mpr (E_order_above_1 a0 c0 K h) hF)

/-- salvor/salvorref11.with -/
def F_salvorref11_with (a0 : Sl) (a1 : Int) (a2 : Int) (K : Sl → HP) : HP :=
 nw #[] 3 fun b0 =>
 apd 3 1 8 #[(.int .i64 (0 : Int))] ⟨(some (⟨b0, 0, none⟩ : Addr)), 0, 0⟩ ⟨a0.a, a0.len, a0.cap⟩ fun s1 =>
 sx s1.a s1.len a1 1 fun p2 =>
 st1 p2 (.int .i64 a2) <|
 K ⟨s1.a, s1.len, s1.cap⟩
set_option maxRecDepth 100000 in
theorem E_salvorref11_with (a0 : Sl) (a1 : Int) (a2 : Int) (K : Sl → HP) (h : Heap) : fnVC Try.prog [] 16 Try.f67 [(.slice a0.a a0.len a0.cap), (.int .i64 a1), (.int .i64 a2)] .sl K h = F_salvorref11_with a0 a1 a2 K h := by kernel_rfl
set_option maxRecDepth 100000 in
theorem S_salvorref11_with{h : Heap} {a0 : Sl} {a1 : Int} {a2 : Int} (K : Sl → HP) (hF : F_salvorref11_with a0 a1 a2 K h) : CallsH Try.prog fn_salvorref11_with #[(.slice a0.a a0.len a0.cap), (.int .i64 a1), (.int .i64 a2)] h fun v h' => ∃ x : Sl, v = Ty.enc .sl x ∧ K x h' :=
  callsH_of_fn (P := Try.prog) (fn := Try.f67) (τ := .sl) follows Try.func67 (by kernel_rfl) (by kernel_rfl) Try.call67 (Eq.mpr (E_salvorref11_with a0 a1 a2 K h) hF)

/-- slices.siftDownCmpFunc[int] -/
def F_slices_siftDownCmpFunc_int (a0 : Sl) (a1 : Int) (a2 : Int) (a3 : Int) (a4 : Value) (K : Unit → HP) : HP :=
 lfp (σ := (Int × Unit)) (fun X0 s1 => /- root -/
 brB (decide ((IntKind.wrap .i64 ((IntKind.wrap .i64 ((2 : Int) * s1.1)) + (1 : Int))) ≥ a2))
 (K (()))
 (brB (decide ((IntKind.wrap .i64 ((IntKind.wrap .i64 ((IntKind.wrap .i64 ((2 : Int) * s1.1)) + (1 : Int))) + (1 : Int))) < a2))
 (sx a0.a a0.len (IntKind.wrap .i64 (a3 + (IntKind.wrap .i64 ((IntKind.wrap .i64 ((2 : Int) * s1.1)) + (1 : Int))))) 1 fun p2 =>
 ldT (.int .i64) p2 fun x3 =>
 sx a0.a a0.len (IntKind.wrap .i64 ((IntKind.wrap .i64 (a3 + (IntKind.wrap .i64 ((IntKind.wrap .i64 ((2 : Int) * s1.1)) + (1 : Int))))) + (1 : Int))) 1 fun p4 =>
 ldT (.int .i64) p4 fun x5 =>
 callF Try.prog a4 #[(.int .i64 x3), (.int .i64 x5)] (.int .i64) fun r6 =>
 jn (σ := (Int × Unit)) (fun s8 => /- child -/
 sx a0.a a0.len (IntKind.wrap .i64 (a3 + s1.1)) 1 fun p9 =>
 ldT (.int .i64) p9 fun x10 =>
 sx a0.a a0.len (IntKind.wrap .i64 (a3 + s8.1)) 1 fun p11 =>
 ldT (.int .i64) p11 fun x12 =>
 callF Try.prog a4 #[(.int .i64 x10), (.int .i64 x12)] (.int .i64) fun r13 =>
 brB (!(decide (r13 < (0 : Int))))
 (K (()))
 (sx a0.a a0.len (IntKind.wrap .i64 (a3 + s8.1)) 1 fun p14 =>
 ldT (.int .i64) p14 fun x15 =>
 sx a0.a a0.len (IntKind.wrap .i64 (a3 + s1.1)) 1 fun p16 =>
 ldT (.int .i64) p16 fun x17 =>
 sx a0.a a0.len (IntKind.wrap .i64 (a3 + s1.1)) 1 fun p18 =>
 st1 p18 (.int .i64 x15) <|
 sx a0.a a0.len (IntKind.wrap .i64 (a3 + s8.1)) 1 fun p19 =>
 st1 p19 (.int .i64 x17) <|
 X0 (s8.1, ())))
 (fun J7 =>
 brB (decide (r6 < (0 : Int)))
 (J7 ((IntKind.wrap .i64 ((IntKind.wrap .i64 ((IntKind.wrap .i64 ((2 : Int) * s1.1)) + (1 : Int))) + (1 : Int))), ()))
 (J7 ((IntKind.wrap .i64 ((IntKind.wrap .i64 ((2 : Int) * s1.1)) + (1 : Int))), ()))))
 (jn (σ := (Int × Unit)) (fun s21 => /- child -/
 sx a0.a a0.len (IntKind.wrap .i64 (a3 + s1.1)) 1 fun p22 =>
 ldT (.int .i64) p22 fun x23 =>
 sx a0.a a0.len (IntKind.wrap .i64 (a3 + s21.1)) 1 fun p24 =>
 ldT (.int .i64) p24 fun x25 =>
 callF Try.prog a4 #[(.int .i64 x23), (.int .i64 x25)] (.int .i64) fun r26 =>
 brB (!(decide (r26 < (0 : Int))))
 (K (()))
 (sx a0.a a0.len (IntKind.wrap .i64 (a3 + s21.1)) 1 fun p27 =>
 ldT (.int .i64) p27 fun x28 =>
 sx a0.a a0.len (IntKind.wrap .i64 (a3 + s1.1)) 1 fun p29 =>
 ldT (.int .i64) p29 fun x30 =>
 sx a0.a a0.len (IntKind.wrap .i64 (a3 + s1.1)) 1 fun p31 =>
 st1 p31 (.int .i64 x28) <|
 sx a0.a a0.len (IntKind.wrap .i64 (a3 + s21.1)) 1 fun p32 =>
 st1 p32 (.int .i64 x30) <|
 X0 (s21.1, ())))
 (fun J20 =>
 J20 ((IntKind.wrap .i64 ((IntKind.wrap .i64 ((2 : Int) * s1.1)) + (1 : Int))), ())))))
 (a1, ())
set_option maxRecDepth 100000 in
theorem E_slices_siftDownCmpFunc_int (a0 : Sl) (a1 : Int) (a2 : Int) (a3 : Int) (a4 : Value) (K : Unit → HP) (h : Heap) : fnVC Try.prog [] 82 Try.f68 [(.slice a0.a a0.len a0.cap), (.int .i64 a1), (.int .i64 a2), (.int .i64 a3), a4] (.tup .nil) K h = F_slices_siftDownCmpFunc_int a0 a1 a2 a3 a4 K h := by kernel_rfl
set_option maxRecDepth 100000 in
theorem S_slices_siftDownCmpFunc_int{h : Heap} {a0 : Sl} {a1 : Int} {a2 : Int} {a3 : Int} {a4 : Value} (K : Unit → HP) (hF : F_slices_siftDownCmpFunc_int a0 a1 a2 a3 a4 K h) : CallsH Try.prog fn_slices_siftDownCmpFunc_int #[(.slice a0.a a0.len a0.cap), (.int .i64 a1), (.int .i64 a2), (.int .i64 a3), a4] h fun v h' => ∃ x : Unit, v = Ty.enc (.tup .nil) x ∧ K x h' :=
  callsH_of_fn (P := Try.prog) (fn := Try.f68) (τ := (.tup .nil)) follows Try.func68 (by kernel_rfl) (by kernel_rfl) Try.call68 (Eq.mpr (E_slices_siftDownCmpFunc_int a0 a1 a2 a3 a4 K h) hF)

/-- slices.nextPowerOfTwo -/
def F_slices_nextPowerOfTwo (a0 : Int) (K : Int → HP) : HP :=
 callT Try.prog fn_math_bits_Len #[(.int .u64 (IntKind.wrap .u64 a0))] (.int .i64) fun r0 =>
 ge0 r0 <|
 K (IntKind.wrap .u64 ((1 : Int) * 2 ^ (min (r0).toNat 64)))
set_option maxRecDepth 100000 in
theorem E_slices_nextPowerOfTwo (a0 : Int) (K : Int → HP) (h : Heap) : fnVC Try.prog [] 7 Try.f69 [(.int .i64 a0)] (.int .u64) K h = F_slices_nextPowerOfTwo a0 K h := by kernel_rfl
set_option maxRecDepth 100000 in
theorem S_slices_nextPowerOfTwo{h : Heap} {a0 : Int} (K : Int → HP) (hF : F_slices_nextPowerOfTwo a0 K h) : CallsH Try.prog fn_slices_nextPowerOfTwo #[(.int .i64 a0)] h fun v h' => ∃ x : Int, v = Ty.enc (.int .u64) x ∧ K x h' :=
  callsH_of_fn (P := Try.prog) (fn := Try.f69) (τ := (.int .u64)) follows Try.func69 (by kernel_rfl) (by kernel_rfl) Try.call69 (Eq.mpr (E_slices_nextPowerOfTwo a0 K h) hF)

/-- (*slices.xorshift).Next -/
def F_slices_xorshift_Next (a0 : Option Addr) (K : Int → HP) : HP :=
 nn a0 fun p0 =>
 ldT (.int .u64) p0 fun x1 =>
 nn a0 fun p2 =>
 ldT (.int .u64) p2 fun x3 =>
 ge0 (13 : Int) <|
 nn a0 fun p4 =>
 st1 p4 (.int .u64 (bXor .u64 x1 (IntKind.wrap .u64 (x3 * 2 ^ (min ((13 : Int)).toNat 64))))) <|
 nn a0 fun p5 =>
 ldT (.int .u64) p5 fun x6 =>
 nn a0 fun p7 =>
 ldT (.int .u64) p7 fun x8 =>
 ge0 (7 : Int) <|
 nn a0 fun p9 =>
 st1 p9 (.int .u64 (bXor .u64 x6 (Int.fdiv x8 (2 ^ (min ((7 : Int)).toNat 64))))) <|
 nn a0 fun p10 =>
 ldT (.int .u64) p10 fun x11 =>
 nn a0 fun p12 =>
 ldT (.int .u64) p12 fun x13 =>
 ge0 (17 : Int) <|
 nn a0 fun p14 =>
 st1 p14 (.int .u64 (bXor .u64 x11 (IntKind.wrap .u64 (x13 * 2 ^ (min ((17 : Int)).toNat 64))))) <|
 nn a0 fun p15 =>
 ldT (.int .u64) p15 fun x16 =>
 K x16
set_option maxRecDepth 100000 in
theorem E_slices_xorshift_Next (a0 : Option Addr) (K : Int → HP) (h : Heap) : fnVC Try.prog [] 33 Try.f70 [(.pointer a0)] (.int .u64) K h = F_slices_xorshift_Next a0 K h := by kernel_rfl
set_option maxRecDepth 100000 in
theorem S_slices_xorshift_Next{h : Heap} {a0 : Option Addr} (K : Int → HP) (hF : F_slices_xorshift_Next a0 K h) : CallsH Try.prog fn_slices_xorshift_Next #[(.pointer a0)] h fun v h' => ∃ x : Int, v = Ty.enc (.int .u64) x ∧ K x h' :=
  callsH_of_fn (P := Try.prog) (fn := Try.f70) (τ := (.int .u64)) follows Try.func70 (by kernel_rfl) (by kernel_rfl) Try.call70 (Eq.mpr (E_slices_xorshift_Next a0 K h) hF)

/-- slices.medianAdjacentCmpFunc[int] -/
def F_slices_medianAdjacentCmpFunc_int (a0 : Sl) (a1 : Int) (a2 : Option Addr) (a3 : Value) (K : Int → HP) : HP :=
 callT Try.prog fn_slices_medianCmpFunc_int #[(.slice a0.a a0.len a0.cap), (.int .i64 (IntKind.wrap .i64 (a1 - (1 : Int)))), (.int .i64 a1), (.int .i64 (IntKind.wrap .i64 (a1 + (1 : Int)))), (.pointer a2), a3] (.int .i64) fun r0 =>
 K r0
set_option maxRecDepth 100000 in
theorem E_slices_medianAdjacentCmpFunc_int (a0 : Sl) (a1 : Int) (a2 : Option Addr) (a3 : Value) (K : Int → HP) (h : Heap) : fnVC Try.prog [] 18 Try.f71 [(.slice a0.a a0.len a0.cap), (.int .i64 a1), (.pointer a2), a3] (.int .i64) K h = F_slices_medianAdjacentCmpFunc_int a0 a1 a2 a3 K h := by kernel_rfl
set_option maxRecDepth 100000 in
theorem S_slices_medianAdjacentCmpFunc_int{h : Heap} {a0 : Sl} {a1 : Int} {a2 : Option Addr} {a3 : Value} (K : Int → HP) (hF : F_slices_medianAdjacentCmpFunc_int a0 a1 a2 a3 K h) : CallsH Try.prog fn_slices_medianAdjacentCmpFunc_int #[(.slice a0.a a0.len a0.cap), (.int .i64 a1), (.pointer a2), a3] h fun v h' => ∃ x : Int, v = Ty.enc (.int .i64) x ∧ K x h' :=
  callsH_of_fn (P := Try.prog) (fn := Try.f71) (τ := (.int .i64)) follows Try.func71 (by kernel_rfl) (by kernel_rfl) Try.call71 (Eq.mpr (E_slices_medianAdjacentCmpFunc_int a0 a1 a2 a3 K h) hF)

/-- slices.medianCmpFunc[int] -/
def F_slices_medianCmpFunc_int (a0 : Sl) (a1 : Int) (a2 : Int) (a3 : Int) (a4 : Option Addr) (a5 : Value) (K : Int → HP) : HP :=
 callT Try.prog fn_slices_order2CmpFunc_int #[(.slice a0.a a0.len a0.cap), (.int .i64 a1), (.int .i64 a2), (.pointer a4), a5] (.tup (.cons (.int .i64) (.cons (.int .i64) .nil))) fun r0 =>
 callT Try.prog fn_slices_order2CmpFunc_int #[(.slice a0.a a0.len a0.cap), (.int .i64 r0.2.1), (.int .i64 a3), (.pointer a4), a5] (.tup (.cons (.int .i64) (.cons (.int .i64) .nil))) fun r1 =>
 callT Try.prog fn_slices_order2CmpFunc_int #[(.slice a0.a a0.len a0.cap), (.int .i64 r0.1), (.int .i64 r1.1), (.pointer a4), a5] (.tup (.cons (.int .i64) (.cons (.int .i64) .nil))) fun r2 =>
 K r2.2.1
set_option maxRecDepth 100000 in
theorem E_slices_medianCmpFunc_int (a0 : Sl) (a1 : Int) (a2 : Int) (a3 : Int) (a4 : Option Addr) (a5 : Value) (K : Int → HP) (h : Heap) : fnVC Try.prog [] 41 Try.f72 [(.slice a0.a a0.len a0.cap), (.int .i64 a1), (.int .i64 a2), (.int .i64 a3), (.pointer a4), a5] (.int .i64) K h = F_slices_medianCmpFunc_int a0 a1 a2 a3 a4 a5 K h := by kernel_rfl
set_option maxRecDepth 100000 in
theorem S_slices_medianCmpFunc_int{h : Heap} {a0 : Sl} {a1 : Int} {a2 : Int} {a3 : Int} {a4 : Option Addr} {a5 : Value} (K : Int → HP) (hF : F_slices_medianCmpFunc_int a0 a1 a2 a3 a4 a5 K h) : CallsH Try.prog fn_slices_medianCmpFunc_int #[(.slice a0.a a0.len a0.cap), (.int .i64 a1), (.int .i64 a2), (.int .i64 a3), (.pointer a4), a5] h fun v h' => ∃ x : Int, v = Ty.enc (.int .i64) x ∧ K x h' :=
  callsH_of_fn (P := Try.prog) (fn := Try.f72) (τ := (.int .i64)) follows Try.func72 (by kernel_rfl) (by kernel_rfl) Try.call72 (Eq.mpr (E_slices_medianCmpFunc_int a0 a1 a2 a3 a4 a5 K h) hF)

/-- slices.order2CmpFunc[int] -/
def F_slices_order2CmpFunc_int (a0 : Sl) (a1 : Int) (a2 : Int) (a3 : Option Addr) (a4 : Value) (K : (Int × (Int × Unit)) → HP) : HP :=
 sx a0.a a0.len a2 1 fun p0 =>
 ldT (.int .i64) p0 fun x1 =>
 sx a0.a a0.len a1 1 fun p2 =>
 ldT (.int .i64) p2 fun x3 =>
 callF Try.prog a4 #[(.int .i64 x1), (.int .i64 x3)] (.int .i64) fun r4 =>
 brB (decide (r4 < (0 : Int)))
 (nn a3 fun p5 =>
 ldT (.int .i64) p5 fun x6 =>
 nn a3 fun p7 =>
 st1 p7 (.int .i64 (IntKind.wrap .i64 (x6 + (1 : Int)))) <|
 K (a2, a1, ()))
 (K (a1, a2, ()))
set_option maxRecDepth 100000 in
theorem E_slices_order2CmpFunc_int (a0 : Sl) (a1 : Int) (a2 : Int) (a3 : Option Addr) (a4 : Value) (K : (Int × (Int × Unit)) → HP) (h : Heap) : fnVC Try.prog [] 32 Try.f73 [(.slice a0.a a0.len a0.cap), (.int .i64 a1), (.int .i64 a2), (.pointer a3), a4] (.tup (.cons (.int .i64) (.cons (.int .i64) .nil))) K h = F_slices_order2CmpFunc_int a0 a1 a2 a3 a4 K h := by kernel_rfl
set_option maxRecDepth 100000 in
theorem S_slices_order2CmpFunc_int{h : Heap} {a0 : Sl} {a1 : Int} {a2 : Int} {a3 : Option Addr} {a4 : Value} (K : (Int × (Int × Unit)) → HP) (hF : F_slices_order2CmpFunc_int a0 a1 a2 a3 a4 K h) : CallsH Try.prog fn_slices_order2CmpFunc_int #[(.slice a0.a a0.len a0.cap), (.int .i64 a1), (.int .i64 a2), (.pointer a3), a4] h fun v h' => ∃ x : (Int × (Int × Unit)), v = Ty.enc (.tup (.cons (.int .i64) (.cons (.int .i64) .nil))) x ∧ K x h' :=
  callsH_of_fn (P := Try.prog) (fn := Try.f73) (τ := (.tup (.cons (.int .i64) (.cons (.int .i64) .nil)))) follows Try.func73 (by kernel_rfl) (by kernel_rfl) Try.call73 (Eq.mpr (E_slices_order2CmpFunc_int a0 a1 a2 a3 a4 K h) hF)


end Go.Proofs.Ord
