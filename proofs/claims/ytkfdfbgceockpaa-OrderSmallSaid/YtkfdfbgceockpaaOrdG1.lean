/- The functions of the seat, each as a predicate over its values, printed by a program of ours, and that each is its text's. -/
import Derived.Test.YtkfdfbgceockpaaSxH
import Derived.KernelRfl
import Derived.Test.YtkfdfbgceockpaaProg
set_option linter.unusedVariables false
namespace Go.Proofs.OrdG
open Go Go.Sx Go.Proofs
/-- salvor/salvorlaw11.OrderPlays -/
def F_salvorlaw11_OrderPlays (a0 : Int) (a1 : Sl) (K : Bool → HP) : HP :=
 jn (σ := Bool) (fun t1 =>
 jn (σ := Bool) (fun t3 =>
 jn (σ := Bool) (fun t5 =>
 jn (σ := Bool) (fun t7 =>
 K t7)
 (fun J6 =>
 brB t5
 (callT Try.prog fn_salvorlaw11_awake #[] .bool fun r8 =>
 J6 (r8))
 (J6 false)))
 (fun J4 =>
 brB t3
 (J4 true)
 (callT Try.prog fn_salvorlaw11_plays #[(.int .i64 a0), (.slice a1.a a1.len a1.cap)] .bool fun r9 =>
 J4 (r9))))
 (fun J2 =>
 brB t1
 (J2 true)
 (J2 ((decide ((a1.len : Int) > (120 : Int)))))))
 (fun J0 =>
 brB (decide (a0 > (40 : Int)))
 (J0 ((decide (a0 ≤ (1048576 : Int)))))
 (J0 false))
set_option maxRecDepth 100000 in
theorem E_salvorlaw11_OrderPlays (a0 : Int) (a1 : Sl) (K : Bool → HP) (h : Heap) : fnVC Try.prog [(1000000, .bool)] 24 Try.f6 [(.int .i64 a0), (.slice a1.a a1.len a1.cap)] .bool K h = F_salvorlaw11_OrderPlays a0 a1 K h := by kernel_rfl
set_option maxRecDepth 100000 in
theorem S_salvorlaw11_OrderPlays{h : Heap} {a0 : Int} {a1 : Sl} (K : Bool → HP) (hF : F_salvorlaw11_OrderPlays a0 a1 K h) : CallsH Try.prog fn_salvorlaw11_OrderPlays #[(.int .i64 a0), (.slice a1.a a1.len a1.cap)] h fun v h' => ∃ x : Bool, v = Ty.enc .bool x ∧ K x h' :=
  callsH_of_fn (P := Try.prog) (fn := Try.f6) (τ := .bool) follows Try.func6 (by kernel_rfl) (by kernel_rfl) Try.call6 (Eq.mpr (E_salvorlaw11_OrderPlays a0 a1 K h) hF)


/-- salvor/salvorlaw11.OrderSmall -/
def F_salvorlaw11_OrderSmall (K : Bool → HP) : HP := fun h0 => (
 nw #[(.bool false)] ty_bool fun b0 =>
 nw #[(.int .u8 (0 : Int)), (.int .i64 (1 : Int)), (.int .u16 (0 : Int)), (.int .u8 (0 : Int)), (.int .i64 (2 : Int)), (.int .u16 (0 : Int)), (.int .u8 (0 : Int)), (.int .i64 (3 : Int)), (.int .u16 (0 : Int)), (.int .u8 (3 : Int)), (.int .i64 (0 : Int)), (.int .u16 (20 : Int)), (.int .u8 (4 : Int)), (.int .i64 (0 : Int)), (.int .u16 (0 : Int)), (.int .u8 (5 : Int)), (.int .i64 (2 : Int)), (.int .u16 (0 : Int)), (.int .u8 (6 : Int)), (.int .i64 (2 : Int)), (.int .u16 (0 : Int)), (.int .u8 (5 : Int)), (.int .i64 (3 : Int)), (.int .u16 (0 : Int))] ty_salvorlaw11_Act fun b1 =>
 lfp (σ := (Int × Unit)) (fun X2 s3 => /-  -/
 brB (decide (s3.1 < (4096 : Int)))
 (nz (8 : Int) <|
 sx (some (⟨b1, 0, none⟩ : Addr)) 8 (Int.tmod s3.1 (8 : Int)) 3 fun p4 =>
 ldA (.cons (.int .u8) (.cons (.int .i64) (.cons (.int .u16) .nil))) p4 fun x5 =>
 nz (8 : Int) <|
 nz (8 : Int) <|
 sx (some (⟨b1, 0, none⟩ : Addr)) 8 (Int.tmod (IntKind.wrap .i64 (Int.tdiv s3.1 (8 : Int))) (8 : Int)) 3 fun p6 =>
 ldA (.cons (.int .u8) (.cons (.int .i64) (.cons (.int .u16) .nil))) p6 fun x7 =>
 nz (64 : Int) <|
 nz (8 : Int) <|
 sx (some (⟨b1, 0, none⟩ : Addr)) 8 (Int.tmod (IntKind.wrap .i64 (Int.tdiv s3.1 (64 : Int))) (8 : Int)) 3 fun p8 =>
 ldA (.cons (.int .u8) (.cons (.int .i64) (.cons (.int .u16) .nil))) p8 fun x9 =>
 nz (3 : Int) <|
 nz (512 : Int) <|
 sx (some (⟨b1, 0, none⟩ : Addr)) 8 (IntKind.wrap .i64 (Int.tdiv s3.1 (512 : Int))) 3 fun p10 =>
 ldA (.cons (.int .u8) (.cons (.int .i64) (.cons (.int .u16) .nil))) p10 fun x11 =>
 nw #[(.int .u8 x5.1), (.int .i64 x5.2.1), (.int .u16 x5.2.2.1), (.int .u8 x7.1), (.int .i64 x7.2.1), (.int .u16 x7.2.2.1), (.int .u8 x9.1), (.int .i64 x9.2.1), (.int .u16 x9.2.2.1), (.int .u8 (0 : Int)), (.int .i64 (IntKind.wrap .i64 ((1 : Int) + (Int.tmod s3.1 (3 : Int))))), (.int .u16 (0 : Int)), (.int .u8 x11.1), (.int .i64 x11.2.1), (.int .u16 x11.2.2.1)] ty_salvorlaw11_Act fun b12 =>
 callT Try.prog fn_salvorlaw11_plays #[(.int .i64 (3 : Int)), (.slice (some (⟨b12, 0, none⟩ : Addr)) 5 5)] .bool fun r13 =>
 brB (!r13)
 (st1 (⟨b0, 0, none⟩ : Addr) (.bool false) <|
 mkd h0.size <|
 ldT .bool (⟨b0, 0, none⟩ : Addr) fun x14 =>
 K x14)
 (X2 ((IntKind.wrap .i64 (s3.1 + (1 : Int))), ())))
 (nw #[(.int .u8 (0 : Int)), (.int .i64 (0 : Int)), (.int .u16 (0 : Int))] ty_salvorlaw11_Act fun b15 =>
 st1 (⟨b15, 0, none⟩ : Addr) (.int .u8 (3 : Int)) <|
 st1 ((⟨b15, 0, none⟩ : Addr).add 1) (.int .i64 (0 : Int)) <|
 st1 ((⟨b15, 0, none⟩ : Addr).add 2) (.int .u16 (447 : Int)) <|
 lfp (σ := (Int × Unit)) (fun X16 s17 => /-  -/
 brB (decide (s17.1 < (6 : Int)))
 (ldA (.cons (.int .u8) (.cons (.int .i64) (.cons (.int .u16) .nil))) (⟨b15, 0, none⟩ : Addr) fun x18 =>
 nz (3 : Int) <|
 nz (3 : Int) <|
 ldA (.cons (.int .u8) (.cons (.int .i64) (.cons (.int .u16) .nil))) (⟨b15, 0, none⟩ : Addr) fun x19 =>
 ldA (.cons (.int .u8) (.cons (.int .i64) (.cons (.int .u16) .nil))) (⟨b15, 0, none⟩ : Addr) fun x20 =>
 nz (4 : Int) <|
 ldA (.cons (.int .u8) (.cons (.int .i64) (.cons (.int .u16) .nil))) (⟨b15, 0, none⟩ : Addr) fun x21 =>
 nw #[(.int .u8 (0 : Int)), (.int .i64 (1 : Int)), (.int .u16 (0 : Int)), (.int .u8 (0 : Int)), (.int .i64 (3 : Int)), (.int .u16 (0 : Int)), (.int .u8 (0 : Int)), (.int .i64 (3 : Int)), (.int .u16 (0 : Int)), (.int .u8 x18.1), (.int .i64 x18.2.1), (.int .u16 x18.2.2.1), (.int .u8 (0 : Int)), (.int .i64 (IntKind.wrap .i64 ((2 : Int) + (Int.tmod s17.1 (3 : Int))))), (.int .u16 (0 : Int)), (.int .u8 (0 : Int)), (.int .i64 (4 : Int)), (.int .u16 (0 : Int)), (.int .u8 (0 : Int)), (.int .i64 (IntKind.wrap .i64 ((2 : Int) + (Int.tmod s17.1 (3 : Int))))), (.int .u16 (0 : Int)), (.int .u8 x19.1), (.int .i64 x19.2.1), (.int .u16 x19.2.2.1), (.int .u8 x20.1), (.int .i64 x20.2.1), (.int .u16 x20.2.2.1), (.int .u8 (0 : Int)), (.int .i64 (4 : Int)), (.int .u16 (0 : Int)), (.int .u8 (0 : Int)), (.int .i64 (2 : Int)), (.int .u16 (0 : Int)), (.int .u8 (0 : Int)), (.int .i64 (4 : Int)), (.int .u16 (0 : Int)), (.int .u8 (0 : Int)), (.int .i64 (IntKind.wrap .i64 ((1 : Int) + (Int.tmod s17.1 (4 : Int))))), (.int .u16 (0 : Int)), (.int .u8 (4 : Int)), (.int .i64 (0 : Int)), (.int .u16 (0 : Int)), (.int .u8 x21.1), (.int .i64 x21.2.1), (.int .u16 x21.2.2.1), (.int .u8 (0 : Int)), (.int .i64 (3 : Int)), (.int .u16 (0 : Int)), (.int .u8 (0 : Int)), (.int .i64 (3 : Int)), (.int .u16 (0 : Int)), (.int .u8 (0 : Int)), (.int .i64 (3 : Int)), (.int .u16 (0 : Int))] ty_salvorlaw11_Act fun b22 =>
 nz (2 : Int) <|
 callT Try.prog fn_salvorlaw11_plays #[(.int .i64 (IntKind.wrap .i64 ((4 : Int) + (Int.tmod s17.1 (2 : Int))))), (.slice (some (⟨b22, 0, none⟩ : Addr)) 18 18)] .bool fun r23 =>
 brB (!r23)
 (st1 (⟨b0, 0, none⟩ : Addr) (.bool false) <|
 mkd h0.size <|
 ldT .bool (⟨b0, 0, none⟩ : Addr) fun x24 =>
 K x24)
 (X16 ((IntKind.wrap .i64 (s17.1 + (1 : Int))), ())))
 (nw #[(.int .i64 (-9223372036854775808 : Int)), (.int .i64 (-1 : Int)), (.int .i64 (0 : Int)), (.int .i64 (1048577 : Int)), (.int .i64 (9223372036854775807 : Int))] ty_int fun b25 =>
 lfp (σ := (Int × Unit)) (fun X26 s27 => /-  -/
 brB (decide (s27.1 < (5 : Int)))
 (sx (some (⟨b25, 0, none⟩ : Addr)) 5 s27.1 1 fun p28 =>
 ldT (.int .i64) p28 fun x29 =>
 nw #[(.int .u8 (0 : Int)), (.int .i64 (1 : Int)), (.int .u16 (0 : Int)), (.int .u8 (4 : Int)), (.int .i64 (0 : Int)), (.int .u16 (0 : Int)), (.int .u8 (5 : Int)), (.int .i64 x29), (.int .u16 (0 : Int))] ty_salvorlaw11_Act fun b30 =>
 callT Try.prog fn_salvorlaw11_plays #[(.int .i64 x29), (.slice (some (⟨b30, 0, none⟩ : Addr)) 3 3)] .bool fun r31 =>
 jn (σ := Bool) (fun t33 =>
 brB t33
 (st1 (⟨b0, 0, none⟩ : Addr) (.bool false) <|
 mkd h0.size <|
 ldT .bool (⟨b0, 0, none⟩ : Addr) fun x34 =>
 K x34)
 (X26 ((IntKind.wrap .i64 (s27.1 + (1 : Int))), ())))
 (fun J32 =>
 brB (!r31)
 (J32 true)
 (nw #[(.int .u8 (0 : Int)), (.int .i64 x29), (.int .u16 (0 : Int)), (.int .u8 (5 : Int)), (.int .i64 x29), (.int .u16 (0 : Int)), (.int .u8 (6 : Int)), (.int .i64 x29), (.int .u16 (0 : Int))] ty_salvorlaw11_Act fun b35 =>
 callT Try.prog fn_salvorlaw11_plays #[(.int .i64 (2 : Int)), (.slice (some (⟨b35, 0, none⟩ : Addr)) 3 3)] .bool fun r36 =>
 J32 ((!r36)))))
 (callT Try.prog fn_order_New #[(.int .i64 (1048576 : Int))] (.tup (.cons .ptr (.cons (.int .i64) .nil))) fun r37 =>
 jn (σ := Bool) (fun t39 =>
 jn (σ := Bool) (fun t41 =>
 jn (σ := Bool) (fun t43 =>
 brB t43
 (st1 (⟨b0, 0, none⟩ : Addr) (.bool false) <|
 mkd h0.size <|
 ldT .bool (⟨b0, 0, none⟩ : Addr) fun x44 =>
 K x44)
 (callT Try.prog fn_order_Order_Pop #[(.pointer r37.1)] (.tup (.cons (.int .i64) (.cons .bool .nil))) fun r45 =>
 callT Try.prog fn_order_Order_Pop #[(.pointer r37.1)] (.tup (.cons (.int .i64) (.cons .bool .nil))) fun r46 =>
 jn (σ := Bool) (fun t48 =>
 jn (σ := Bool) (fun t50 =>
 jn (σ := Bool) (fun t52 =>
 brB t52
 (st1 (⟨b0, 0, none⟩ : Addr) (.bool false) <|
 mkd h0.size <|
 ldT .bool (⟨b0, 0, none⟩ : Addr) fun x53 =>
 K x53)
 (nw #[(.slice none 0 0), (.slice none 0 0), (.slice none 0 0), (.int .i64 (0 : Int)), (.bool false)] ty_order_Order fun b54 =>
 nw #[(.pointer none), (.pointer (some (⟨b54, 0, none⟩ : Addr)))] ty_ptr_order_Order fun b55 =>
 lfp (σ := (Int × Unit)) (fun X56 s57 => /-  -/
 brB (decide (s57.1 < (2 : Int)))
 (sx (some (⟨b55, 0, none⟩ : Addr)) 2 s57.1 1 fun p58 =>
 ldT .ptr p58 fun x59 =>
 callT Try.prog fn_order_Order_Pop #[(.pointer x59)] (.tup (.cons (.int .i64) (.cons .bool .nil))) fun r60 =>
 callT Try.prog fn_order_Order_Peek #[(.pointer x59)] (.tup (.cons (.int .i64) (.cons .bool .nil))) fun r61 =>
 callT Try.prog fn_order_Order_Activity #[(.pointer x59), (.int .i64 (1 : Int))] (.tup (.cons (.int .i64) (.cons (.int .i64) .nil))) fun r62 =>
 callT Try.prog fn_order_Order_All #[(.pointer x59)] .val fun r63 =>
 RangeVC Try.prog (.cons .val .nil) r63 (fun x64 wrap65 next66 jump67 =>
 wrap65 <|
 st1 (⟨b0, 0, none⟩ : Addr) (.bool false) <|
 jump67 .ret)
 (jn (σ := Bool) (fun t69 =>
 jn (σ := Bool) (fun t71 =>
 jn (σ := Bool) (fun t73 =>
 jn (σ := Bool) (fun t75 =>
 jn (σ := Bool) (fun t77 =>
 jn (σ := Bool) (fun t79 =>
 jn (σ := Bool) (fun t81 =>
 jn (σ := Bool) (fun t83 =>
 jn (σ := Bool) (fun t85 =>
 brB t85
 (st1 (⟨b0, 0, none⟩ : Addr) (.bool false) <|
 mkd h0.size <|
 ldT .bool (⟨b0, 0, none⟩ : Addr) fun x86 =>
 K x86)
 (X56 ((IntKind.wrap .i64 (s57.1 + (1 : Int))), ())))
 (fun J84 =>
 brB t83
 (J84 true)
 (callT Try.prog fn_order_Order_Len #[(.pointer x59)] (.int .i64) fun r87 =>
 callT Try.prog fn_order_Order_Vars #[(.pointer x59)] (.int .i64) fun r88 =>
 callT Try.prog fn_order_Order_Step #[(.pointer x59)] (.int .i64) fun r89 =>
 J84 (((IntKind.wrap .i64 ((IntKind.wrap .i64 (r87 + r88)) + r89)) != (0 : Int))))))
 (fun J82 =>
 brB t81
 (J82 true)
 (callT Try.prog fn_order_Order_Has #[(.pointer x59), (.int .i64 (1 : Int))] .bool fun r90 =>
 J82 (r90))))
 (fun J80 =>
 brB t79
 (J80 true)
 (callT Try.prog fn_order_Order_Decay #[(.pointer x59)] (.int .i64) fun r91 =>
 J80 ((r91 != (1 : Int))))))
 (fun J78 =>
 brB t77
 (J78 true)
 (callT Try.prog fn_order_Order_Remove #[(.pointer x59), (.int .i64 (0 : Int))] (.int .i64) fun r92 =>
 J78 ((r92 != (1 : Int))))))
 (fun J76 =>
 brB t75
 (J76 true)
 (callT Try.prog fn_order_Order_Push #[(.pointer x59), (.int .i64 (0 : Int))] (.int .i64) fun r93 =>
 J76 ((r93 != (1 : Int))))))
 (fun J74 =>
 brB t73
 (J74 true)
 (callT Try.prog fn_order_Order_Bump #[(.pointer x59), (.int .i64 (0 : Int))] (.int .i64) fun r94 =>
 J74 ((r94 != (1 : Int))))))
 (fun J72 =>
 brB t71
 (J72 true)
 (J72 ((r62.2.1 != (1 : Int))))))
 (fun J70 =>
 brB t69
 (J70 true)
 (J70 (r61.2.1))))
 (fun J68 =>
 brB ((IntKind.wrap .i64 (r60.1 + r61.1)) != (0 : Int))
 (J68 true)
 (J68 (r60.2.1))))
 (mkd h0.size <|
 ldT .bool (⟨b0, 0, none⟩ : Addr) fun x95 =>
 K x95)
 []
 [])
 (callT Try.prog fn_salvorlaw11_awake #[] .bool fun r96 =>
 st1 (⟨b0, 0, none⟩ : Addr) (.bool r96) <|
 mkd h0.size <|
 ldT .bool (⟨b0, 0, none⟩ : Addr) fun x97 =>
 K x97))
 ((0 : Int), ())))
 (fun J51 =>
 brB t50
 (J51 true)
 (J51 ((!r46.2.1)))))
 (fun J49 =>
 brB t48
 (J49 true)
 (J49 ((!r45.2.1)))))
 (fun J47 =>
 brB (r45.1 != (1048576 : Int))
 (J47 true)
 (J47 ((r46.1 != (1 : Int)))))))
 (fun J42 =>
 brB t41
 (J42 true)
 (callT Try.prog fn_order_Order_Len #[(.pointer r37.1)] (.int .i64) fun r98 =>
 J42 ((r98 != (1048576 : Int))))))
 (fun J40 =>
 brB t39
 (J40 true)
 (callT Try.prog fn_order_Order_Bump #[(.pointer r37.1), (.int .i64 (1048576 : Int))] (.int .i64) fun r99 =>
 J40 ((r99 != (0 : Int))))))
 (fun J38 =>
 brB (r37.2.1 != (0 : Int))
 (J38 true)
 (J38 ((Option.isNone r37.1))))))
 ((0 : Int), ())))
 ((0 : Int), ())))
 ((0 : Int), ())) h0
set_option maxRecDepth 100000 in
theorem E_salvorlaw11_OrderSmall (K : Bool → HP) (h : Heap) : fnVC Try.prog [(1000000, .bool), (200, (.cons .val .nil))] 252 Try.f7 [] .bool K h = F_salvorlaw11_OrderSmall K h := by kernel_rfl
set_option maxRecDepth 100000 in
theorem S_salvorlaw11_OrderSmall{h : Heap} (K : Bool → HP) (hF : F_salvorlaw11_OrderSmall K h) : CallsH Try.prog fn_salvorlaw11_OrderSmall #[] h fun v h' => ∃ x : Bool, v = Ty.enc .bool x ∧ K x h' :=
  callsH_of_fn (P := Try.prog) (fn := Try.f7) (τ := .bool) follows Try.func7 (by kernel_rfl) (by kernel_rfl) Try.call7 (Eq.mpr (E_salvorlaw11_OrderSmall K h) hF)


/-- salvor/salvorlaw11.plays -/
def F_salvorlaw11_plays (a0 : Int) (a1 : Sl) (K : Bool → HP) : HP :=
 callT Try.prog fn_order_New #[(.int .i64 a0)] (.tup (.cons .ptr (.cons (.int .i64) .nil))) fun r0 =>
 jn (σ := Bool) (fun t2 =>
 brB t2
 (jn (σ := Bool) (fun t4 =>
 K t4)
 (fun J3 =>
 brB (Option.isNone r0.1)
 (J3 ((r0.2.1 == (2 : Int))))
 (J3 false)))
 (jn (σ := Bool) (fun t6 =>
 brB t6
 (K false)
 (callT Try.prog fn_salvorref11_New #[(.int .i64 a0)] (.agg (.cons .sl (.cons .sl (.cons (.int .i64) .nil)))) fun r7 =>
 nw #[(.slice none 0 0), (.slice none 0 0), (.int .i64 (0 : Int))] ty_salvorref11_Order fun b8 =>
 st1 (⟨b8, 0, none⟩ : Addr) (.slice r7.1.a r7.1.len r7.1.cap) <|
 st1 ((⟨b8, 0, none⟩ : Addr).add 1) (.slice r7.2.1.a r7.2.1.len r7.2.1.cap) <|
 st1 ((⟨b8, 0, none⟩ : Addr).add 2) (.int .i64 r7.2.2.1) <|
 lfp (σ := (Int × (Bool × Unit))) (fun X9 s10 => /-   -/
 brB (decide (s10.1 < (a1.len : Int)))
 (sx a1.a a1.len s10.1 3 fun p11 =>
 ldA (.cons (.int .u8) (.cons (.int .i64) (.cons (.int .u16) .nil))) p11 fun x12 =>
 nw #[(.int .u8 (0 : Int)), (.int .i64 (0 : Int)), (.int .u16 (0 : Int))] ty_salvorlaw11_Act fun b13 =>
 st1 (⟨b13, 0, none⟩ : Addr) (.int .u8 x12.1) <|
 st1 ((⟨b13, 0, none⟩ : Addr).add 1) (.int .i64 x12.2.1) <|
 st1 ((⟨b13, 0, none⟩ : Addr).add 2) (.int .u16 x12.2.2.1) <|
 ldA (.cons .sl (.cons .sl (.cons (.int .i64) .nil))) (⟨b8, 0, none⟩ : Addr) fun x14 =>
 ldA (.cons (.int .u8) (.cons (.int .i64) (.cons (.int .u16) .nil))) (⟨b13, 0, none⟩ : Addr) fun x15 =>
 callT Try.prog fn_salvorlaw11_does #[(.pointer r0.1), (.agg #[(.slice x14.1.a x14.1.len x14.1.cap), (.slice x14.2.1.a x14.2.1.len x14.2.1.cap), (.int .i64 x14.2.2.1)]), (.agg #[(.int .u8 x15.1), (.int .i64 x15.2.1), (.int .u16 x15.2.2.1)])] (.tup (.cons (.agg (.cons .sl (.cons .sl (.cons (.int .i64) .nil)))) (.cons .bool .nil))) fun r16 =>
 st1 (⟨b8, 0, none⟩ : Addr) (.slice r16.1.1.a r16.1.1.len r16.1.1.cap) <|
 st1 ((⟨b8, 0, none⟩ : Addr).add 1) (.slice r16.1.2.1.a r16.1.2.1.len r16.1.2.1.cap) <|
 st1 ((⟨b8, 0, none⟩ : Addr).add 2) (.int .i64 r16.1.2.2.1) <|
 jn (σ := Bool) (fun t18 =>
 brB t18
 (K false)
 (X9 ((IntKind.wrap .i64 (s10.1 + (1 : Int))), s10.2.1, ())))
 (fun J17 =>
 brB (!r16.2.1)
 (J17 true)
 (nz (4 : Int) <|
 jn (σ := Bool) (fun t20 =>
 J17 (t20))
 (fun J19 =>
 brB ((Int.tmod s10.1 (4 : Int)) == (3 : Int))
 (ldA (.cons .sl (.cons .sl (.cons (.int .i64) .nil))) (⟨b8, 0, none⟩ : Addr) fun x21 =>
 callT Try.prog fn_salvorlaw11_same #[(.pointer r0.1), (.agg #[(.slice x21.1.a x21.1.len x21.1.cap), (.slice x21.2.1.a x21.2.1.len x21.2.1.cap), (.int .i64 x21.2.2.1)])] .bool fun r22 =>
 J19 ((!r22)))
 (J19 false)))))
 (ldA (.cons .sl (.cons .sl (.cons (.int .i64) .nil))) (⟨b8, 0, none⟩ : Addr) fun x23 =>
 callT Try.prog fn_salvorlaw11_same #[(.pointer r0.1), (.agg #[(.slice x23.1.a x23.1.len x23.1.cap), (.slice x23.2.1.a x23.2.1.len x23.2.1.cap), (.int .i64 x23.2.2.1)])] .bool fun r24 =>
 K r24))
 ((0 : Int), false, ())))
 (fun J5 =>
 brB (r0.2.1 != (0 : Int))
 (J5 true)
 (J5 ((Option.isNone r0.1))))))
 (fun J1 =>
 brB (decide (a0 < (0 : Int)))
 (J1 true)
 (J1 ((decide (a0 > (1048576 : Int))))))
set_option maxRecDepth 100000 in
theorem E_salvorlaw11_plays (a0 : Int) (a1 : Sl) (K : Bool → HP) (h : Heap) : fnVC Try.prog [(1000000, .bool)] 67 Try.f25 [(.int .i64 a0), (.slice a1.a a1.len a1.cap)] .bool K h = F_salvorlaw11_plays a0 a1 K h := by kernel_rfl
set_option maxRecDepth 100000 in
theorem S_salvorlaw11_plays{h : Heap} {a0 : Int} {a1 : Sl} (K : Bool → HP) (hF : F_salvorlaw11_plays a0 a1 K h) : CallsH Try.prog fn_salvorlaw11_plays #[(.int .i64 a0), (.slice a1.a a1.len a1.cap)] h fun v h' => ∃ x : Bool, v = Ty.enc .bool x ∧ K x h' :=
  callsH_of_fn (P := Try.prog) (fn := Try.f25) (τ := .bool) follows Try.func25 (by kernel_rfl) (by kernel_rfl) Try.call25 (Eq.mpr (E_salvorlaw11_plays a0 a1 K h) hF)


/-- slices.SortFunc[[]int,int] -/
def F_slices_SortFunc_int_int (a0 : Sl) (a1 : Value) (K : Unit → HP) : HP :=
 callT Try.prog fn_math_bits_Len #[(.int .u64 (IntKind.wrap .u64 (a0.len : Int)))] (.int .i64) fun r0 =>
 callT Try.prog fn_slices_pdqsortCmpFunc_int #[(.slice a0.a a0.len a0.cap), (.int .i64 (0 : Int)), (.int .i64 (a0.len : Int)), (.int .i64 r0), a1] (.tup .nil) fun r1 =>
 K (())
set_option maxRecDepth 100000 in
theorem E_slices_SortFunc_int_int (a0 : Sl) (a1 : Value) (K : Unit → HP) (h : Heap) : fnVC Try.prog [(1000000, .nil)] 14 Try.f35 [(.slice a0.a a0.len a0.cap), a1] (.tup .nil) K h = F_slices_SortFunc_int_int a0 a1 K h := by kernel_rfl
set_option maxRecDepth 100000 in
theorem S_slices_SortFunc_int_int{h : Heap} {a0 : Sl} {a1 : Value} (K : Unit → HP) (hF : F_slices_SortFunc_int_int a0 a1 K h) : CallsH Try.prog fn_slices_SortFunc_int_int #[(.slice a0.a a0.len a0.cap), a1] h fun v h' => ∃ x : Unit, v = Ty.enc (.tup .nil) x ∧ K x h' :=
  callsH_of_fn (P := Try.prog) (fn := Try.f35) (τ := (.tup .nil)) follows Try.func35 (by kernel_rfl) (by kernel_rfl) Try.call35 (Eq.mpr (E_slices_SortFunc_int_int a0 a1 K h) hF)


/-- salvor/salvorref11.New -/
def F_salvorref11_New (a0 : Int) (K : (Sl × (Sl × (Int × Unit))) → HP) : HP :=
 nw #[(.slice none 0 0), (.slice none 0 0), (.int .i64 (0 : Int))] ty_salvorref11_Order fun b0 =>
 nw #[(.slice none 0 0), (.slice none 0 0), (.int .i64 (0 : Int))] ty_salvorref11_Order fun b1 =>
 st1 (⟨b1, 0, none⟩ : Addr) (.slice none 0 0) <|
 st1 ((⟨b1, 0, none⟩ : Addr).add 1) (.slice none 0 0) <|
 st1 ((⟨b1, 0, none⟩ : Addr).add 2) (.int .i64 (1024 : Int)) <|
 lfp (σ := (Int × Unit)) (fun X2 s3 => /- i -/
 brB (decide (s3.1 < a0))
 (ldT .sl (⟨b1, 0, none⟩ : Addr) fun x4 =>
 ldT .sl ((⟨b1, 0, none⟩ : Addr).add 1) fun x5 =>
 cj
 (nw #[(.int .i64 (0 : Int))] ty_int fun b6 =>
 cj
 (apd ty_int 1 8 #[(.int .i64 (0 : Int))] ⟨x4.a, x4.len, x4.cap⟩ ⟨(some (⟨b6, 0, none⟩ : Addr)), 1, 1⟩ fun s7 =>
 ck ((⟨b1, 0, none⟩ : Addr).add 1) (.slice x5.a x5.len x5.cap) <|
 nw #[(.int .i64 (1 : Int))] ty_int fun b8 =>
 apd ty_int 1 8 #[(.int .i64 (0 : Int))] ⟨x5.a, x5.len, x5.cap⟩ ⟨(some (⟨b8, 0, none⟩ : Addr)), 1, 1⟩ fun s9 =>
 st1 (⟨b1, 0, none⟩ : Addr) (.slice s7.a s7.len s7.cap) <|
 st1 ((⟨b1, 0, none⟩ : Addr).add 1) (.slice s9.a s9.len s9.cap) <|
 X2 ((IntKind.wrap .i64 (s3.1 + (1 : Int))), ()))
 (nw #[(.int .i64 (1 : Int))] ty_int fun b10 =>
 apd ty_int 1 8 #[(.int .i64 (0 : Int))] ⟨x4.a, x4.len, x4.cap⟩ ⟨(some (⟨b6, 0, none⟩ : Addr)), 1, 1⟩ fun s11 =>
 ck ((⟨b1, 0, none⟩ : Addr).add 1) (.slice x5.a x5.len x5.cap) <|
 apd ty_int 1 8 #[(.int .i64 (0 : Int))] ⟨x5.a, x5.len, x5.cap⟩ ⟨(some (⟨b10, 0, none⟩ : Addr)), 1, 1⟩ fun s12 =>
 st1 (⟨b1, 0, none⟩ : Addr) (.slice s11.a s11.len s11.cap) <|
 st1 ((⟨b1, 0, none⟩ : Addr).add 1) (.slice s12.a s12.len s12.cap) <|
 X2 ((IntKind.wrap .i64 (s3.1 + (1 : Int))), ())))
 (nw #[(.int .i64 (1 : Int))] ty_int fun b13 =>
 nw #[(.int .i64 (0 : Int))] ty_int fun b14 =>
 apd ty_int 1 8 #[(.int .i64 (0 : Int))] ⟨x4.a, x4.len, x4.cap⟩ ⟨(some (⟨b14, 0, none⟩ : Addr)), 1, 1⟩ fun s15 =>
 ck ((⟨b1, 0, none⟩ : Addr).add 1) (.slice x5.a x5.len x5.cap) <|
 apd ty_int 1 8 #[(.int .i64 (0 : Int))] ⟨x5.a, x5.len, x5.cap⟩ ⟨(some (⟨b13, 0, none⟩ : Addr)), 1, 1⟩ fun s16 =>
 st1 (⟨b1, 0, none⟩ : Addr) (.slice s15.a s15.len s15.cap) <|
 st1 ((⟨b1, 0, none⟩ : Addr).add 1) (.slice s16.a s16.len s16.cap) <|
 X2 ((IntKind.wrap .i64 (s3.1 + (1 : Int))), ())))
 (ldA (.cons .sl (.cons .sl (.cons (.int .i64) .nil))) (⟨b1, 0, none⟩ : Addr) fun x17 =>
 st1 (⟨b0, 0, none⟩ : Addr) (.slice x17.1.a x17.1.len x17.1.cap) <|
 st1 ((⟨b0, 0, none⟩ : Addr).add 1) (.slice x17.2.1.a x17.2.1.len x17.2.1.cap) <|
 st1 ((⟨b0, 0, none⟩ : Addr).add 2) (.int .i64 x17.2.2.1) <|
 ldA (.cons .sl (.cons .sl (.cons (.int .i64) .nil))) (⟨b0, 0, none⟩ : Addr) fun x18 =>
 K (⟨x18.1.a, x18.1.len, x18.1.cap⟩, ⟨x18.2.1.a, x18.2.1.len, x18.2.1.cap⟩, x18.2.2.1, ())))
 ((0 : Int), ())
set_option maxRecDepth 100000 in
theorem E_salvorref11_New (a0 : Int) (K : (Sl × (Sl × (Int × Unit))) → HP) (h : Heap) : fnVC Try.prog [(1000000, .bool)] 22 Try.f43 [(.int .i64 a0)] (.agg (.cons .sl (.cons .sl (.cons (.int .i64) .nil)))) K h = F_salvorref11_New a0 K h := by kernel_rfl
set_option maxRecDepth 100000 in
theorem S_salvorref11_New{h : Heap} {a0 : Int} (K : (Sl × (Sl × (Int × Unit))) → HP) (hF : F_salvorref11_New a0 K h) : CallsH Try.prog fn_salvorref11_New #[(.int .i64 a0)] h fun v h' => ∃ x : (Sl × (Sl × (Int × Unit))), v = Ty.enc (.agg (.cons .sl (.cons .sl (.cons (.int .i64) .nil)))) x ∧ K x h' :=
  callsH_of_fn (P := Try.prog) (fn := Try.f43) (τ := (.agg (.cons .sl (.cons .sl (.cons (.int .i64) .nil))))) follows Try.func43 (by kernel_rfl) (by kernel_rfl) Try.call43 (Eq.mpr (E_salvorref11_New a0 K h) hF)


/-- salvor/salvorlaw11.does -/
def F_salvorlaw11_does (a0 : Option Addr) (a1 : (Sl × (Sl × (Int × Unit)))) (a2 : (Int × (Int × (Int × Unit)))) (K : ((Sl × (Sl × (Int × Unit))) × (Bool × Unit)) → HP) : HP :=
 nw #[(.slice a1.1.a a1.1.len a1.1.cap), (.slice a1.2.1.a a1.2.1.len a1.2.1.cap), (.int .i64 a1.2.2.1)] ty_salvorref11_Order fun b0 =>
 nw #[(.int .u8 a2.1), (.int .i64 a2.2.1), (.int .u16 a2.2.2.1)] ty_salvorlaw11_Act fun b1 =>
 nw #[(.slice none 0 0), (.slice none 0 0), (.int .i64 (0 : Int))] ty_salvorref11_Order fun b2 =>
 ldT (.int .i64) ((⟨b1, 0, none⟩ : Addr).add 1) fun x3 =>
 jn (σ := Bool) (fun t5 =>
 jn (σ := (Int × Unit)) (fun s7 => /- want -/
 ldT (.int .u8) (⟨b1, 0, none⟩ : Addr) fun x8 =>
 nz (8 : Int) <|
 jn (σ := (Bool × Unit)) (fun s10 => /-  -/
 brB s10.1
 (jn (σ := Unit) (fun s12 => /- -/
 ldA (.cons .sl (.cons .sl (.cons (.int .i64) .nil))) (⟨b0, 0, none⟩ : Addr) fun x13 =>
 ldT (.int .i64) ((⟨b1, 0, none⟩ : Addr).add 1) fun x14 =>
 callT Try.prog fn_order_Order_Bump #[(.pointer a0), (.int .i64 x14)] (.int .i64) fun r15 =>
 ckA (⟨b0, 0, none⟩ : Addr) [(.slice x13.1.a x13.1.len x13.1.cap), (.slice x13.2.1.a x13.2.1.len x13.2.1.cap), (.int .i64 x13.2.2.1)] <|
 st1 (⟨b2, 0, none⟩ : Addr) (.slice x13.1.a x13.1.len x13.1.cap) <|
 st1 ((⟨b2, 0, none⟩ : Addr).add 1) (.slice x13.2.1.a x13.2.1.len x13.2.1.cap) <|
 st1 ((⟨b2, 0, none⟩ : Addr).add 2) (.int .i64 x13.2.2.1) <|
 ldA (.cons .sl (.cons .sl (.cons (.int .i64) .nil))) (⟨b2, 0, none⟩ : Addr) fun x16 =>
 K ((⟨x16.1.a, x16.1.len, x16.1.cap⟩, ⟨x16.2.1.a, x16.2.1.len, x16.2.1.cap⟩, x16.2.2.1, ()), (r15 == s7.1), ()))
 (fun J11 =>
 brB t5
 (ldA (.cons .sl (.cons .sl (.cons (.int .i64) .nil))) (⟨b0, 0, none⟩ : Addr) fun x17 =>
 ldT (.int .i64) ((⟨b1, 0, none⟩ : Addr).add 1) fun x18 =>
 callT Try.prog fn_salvorref11_Bump #[(.agg #[(.slice x17.1.a x17.1.len x17.1.cap), (.slice x17.2.1.a x17.2.1.len x17.2.1.cap), (.int .i64 x17.2.2.1)]), (.int .i64 x18)] (.agg (.cons .sl (.cons .sl (.cons (.int .i64) .nil)))) fun r19 =>
 st1 (⟨b0, 0, none⟩ : Addr) (.slice r19.1.a r19.1.len r19.1.cap) <|
 st1 ((⟨b0, 0, none⟩ : Addr).add 1) (.slice r19.2.1.a r19.2.1.len r19.2.1.cap) <|
 st1 ((⟨b0, 0, none⟩ : Addr).add 2) (.int .i64 r19.2.2.1) <|
 J11 (()))
 (J11 (()))))
 (brB ((Int.tmod x8 (8 : Int)) == (4 : Int))
 (callT Try.prog fn_order_Order_Pop #[(.pointer a0)] (.tup (.cons (.int .i64) (.cons .bool .nil))) fun r20 =>
 ldA (.cons .sl (.cons .sl (.cons (.int .i64) .nil))) (⟨b0, 0, none⟩ : Addr) fun x21 =>
 callT Try.prog fn_salvorref11_First #[(.agg #[(.slice x21.1.a x21.1.len x21.1.cap), (.slice x21.2.1.a x21.2.1.len x21.2.1.cap), (.int .i64 x21.2.2.1)])] (.int .i64) fun r22 =>
 jn (σ := Unit) (fun s24 => /- -/
 ldA (.cons .sl (.cons .sl (.cons (.int .i64) .nil))) (⟨b0, 0, none⟩ : Addr) fun x25 =>
 jn (σ := Bool) (fun t27 =>
 st1 (⟨b2, 0, none⟩ : Addr) (.slice x25.1.a x25.1.len x25.1.cap) <|
 st1 ((⟨b2, 0, none⟩ : Addr).add 1) (.slice x25.2.1.a x25.2.1.len x25.2.1.cap) <|
 st1 ((⟨b2, 0, none⟩ : Addr).add 2) (.int .i64 x25.2.2.1) <|
 ldA (.cons .sl (.cons .sl (.cons (.int .i64) .nil))) (⟨b2, 0, none⟩ : Addr) fun x28 =>
 K ((⟨x28.1.a, x28.1.len, x28.1.cap⟩, ⟨x28.2.1.a, x28.2.1.len, x28.2.1.cap⟩, x28.2.2.1, ()), t27, ()))
 (fun J26 =>
 brB (r20.1 == r22)
 (J26 ((r20.2.1 == (decide (r22 > (0 : Int))))))
 (J26 false)))
 (fun J23 =>
 brB (decide (r22 > (0 : Int)))
 (ldA (.cons .sl (.cons .sl (.cons (.int .i64) .nil))) (⟨b0, 0, none⟩ : Addr) fun x29 =>
 callT Try.prog fn_salvorref11_Set #[(.agg #[(.slice x29.1.a x29.1.len x29.1.cap), (.slice x29.2.1.a x29.2.1.len x29.2.1.cap), (.int .i64 x29.2.2.1)]), (.int .i64 r22), (.int .i64 (0 : Int))] (.agg (.cons .sl (.cons .sl (.cons (.int .i64) .nil)))) fun r30 =>
 st1 (⟨b0, 0, none⟩ : Addr) (.slice r30.1.a r30.1.len r30.1.cap) <|
 st1 ((⟨b0, 0, none⟩ : Addr).add 1) (.slice r30.2.1.a r30.2.1.len r30.2.1.cap) <|
 st1 ((⟨b0, 0, none⟩ : Addr).add 2) (.int .i64 r30.2.2.1) <|
 J23 (()))
 (J23 (()))))
 (brB ((Int.tmod x8 (8 : Int)) == (5 : Int))
 (jn (σ := Unit) (fun s32 => /- -/
 ldA (.cons .sl (.cons .sl (.cons (.int .i64) .nil))) (⟨b0, 0, none⟩ : Addr) fun x33 =>
 ldT (.int .i64) ((⟨b1, 0, none⟩ : Addr).add 1) fun x34 =>
 callT Try.prog fn_order_Order_Push #[(.pointer a0), (.int .i64 x34)] (.int .i64) fun r35 =>
 ckA (⟨b0, 0, none⟩ : Addr) [(.slice x33.1.a x33.1.len x33.1.cap), (.slice x33.2.1.a x33.2.1.len x33.2.1.cap), (.int .i64 x33.2.2.1)] <|
 st1 (⟨b2, 0, none⟩ : Addr) (.slice x33.1.a x33.1.len x33.1.cap) <|
 st1 ((⟨b2, 0, none⟩ : Addr).add 1) (.slice x33.2.1.a x33.2.1.len x33.2.1.cap) <|
 st1 ((⟨b2, 0, none⟩ : Addr).add 2) (.int .i64 x33.2.2.1) <|
 ldA (.cons .sl (.cons .sl (.cons (.int .i64) .nil))) (⟨b2, 0, none⟩ : Addr) fun x36 =>
 K ((⟨x36.1.a, x36.1.len, x36.1.cap⟩, ⟨x36.2.1.a, x36.2.1.len, x36.2.1.cap⟩, x36.2.2.1, ()), (r35 == s7.1), ()))
 (fun J31 =>
 brB t5
 (ldA (.cons .sl (.cons .sl (.cons (.int .i64) .nil))) (⟨b0, 0, none⟩ : Addr) fun x37 =>
 ldT (.int .i64) ((⟨b1, 0, none⟩ : Addr).add 1) fun x38 =>
 callT Try.prog fn_salvorref11_Set #[(.agg #[(.slice x37.1.a x37.1.len x37.1.cap), (.slice x37.2.1.a x37.2.1.len x37.2.1.cap), (.int .i64 x37.2.2.1)]), (.int .i64 x38), (.int .i64 (1 : Int))] (.agg (.cons .sl (.cons .sl (.cons (.int .i64) .nil)))) fun r39 =>
 st1 (⟨b0, 0, none⟩ : Addr) (.slice r39.1.a r39.1.len r39.1.cap) <|
 st1 ((⟨b0, 0, none⟩ : Addr).add 1) (.slice r39.2.1.a r39.2.1.len r39.2.1.cap) <|
 st1 ((⟨b0, 0, none⟩ : Addr).add 2) (.int .i64 r39.2.2.1) <|
 J31 (()))
 (J31 (()))))
 (brB ((Int.tmod x8 (8 : Int)) == (6 : Int))
 (jn (σ := Unit) (fun s41 => /- -/
 ldA (.cons .sl (.cons .sl (.cons (.int .i64) .nil))) (⟨b0, 0, none⟩ : Addr) fun x42 =>
 ldT (.int .i64) ((⟨b1, 0, none⟩ : Addr).add 1) fun x43 =>
 callT Try.prog fn_order_Order_Remove #[(.pointer a0), (.int .i64 x43)] (.int .i64) fun r44 =>
 ckA (⟨b0, 0, none⟩ : Addr) [(.slice x42.1.a x42.1.len x42.1.cap), (.slice x42.2.1.a x42.2.1.len x42.2.1.cap), (.int .i64 x42.2.2.1)] <|
 st1 (⟨b2, 0, none⟩ : Addr) (.slice x42.1.a x42.1.len x42.1.cap) <|
 st1 ((⟨b2, 0, none⟩ : Addr).add 1) (.slice x42.2.1.a x42.2.1.len x42.2.1.cap) <|
 st1 ((⟨b2, 0, none⟩ : Addr).add 2) (.int .i64 x42.2.2.1) <|
 ldA (.cons .sl (.cons .sl (.cons (.int .i64) .nil))) (⟨b2, 0, none⟩ : Addr) fun x45 =>
 K ((⟨x45.1.a, x45.1.len, x45.1.cap⟩, ⟨x45.2.1.a, x45.2.1.len, x45.2.1.cap⟩, x45.2.2.1, ()), (r44 == s7.1), ()))
 (fun J40 =>
 brB t5
 (ldA (.cons .sl (.cons .sl (.cons (.int .i64) .nil))) (⟨b0, 0, none⟩ : Addr) fun x46 =>
 ldT (.int .i64) ((⟨b1, 0, none⟩ : Addr).add 1) fun x47 =>
 callT Try.prog fn_salvorref11_Set #[(.agg #[(.slice x46.1.a x46.1.len x46.1.cap), (.slice x46.2.1.a x46.2.1.len x46.2.1.cap), (.int .i64 x46.2.2.1)]), (.int .i64 x47), (.int .i64 (0 : Int))] (.agg (.cons .sl (.cons .sl (.cons (.int .i64) .nil)))) fun r48 =>
 st1 (⟨b0, 0, none⟩ : Addr) (.slice r48.1.a r48.1.len r48.1.cap) <|
 st1 ((⟨b0, 0, none⟩ : Addr).add 1) (.slice r48.2.1.a r48.2.1.len r48.2.1.cap) <|
 st1 ((⟨b0, 0, none⟩ : Addr).add 2) (.int .i64 r48.2.2.1) <|
 J40 (()))
 (J40 (()))))
 (ldT (.int .u16) ((⟨b1, 0, none⟩ : Addr).add 2) fun x49 =>
 nz (600 : Int) <|
 lfp (σ := (Int × (Bool × Unit))) (fun X50 s51 => /-   -/
 brB (decide (s51.1 < (IntKind.wrap .u16 ((1 : Int) + (Int.tmod x49 (600 : Int))))))
 (ldA (.cons .sl (.cons .sl (.cons (.int .i64) .nil))) (⟨b0, 0, none⟩ : Addr) fun x52 =>
 callT Try.prog fn_salvorref11_Decay #[(.agg #[(.slice x52.1.a x52.1.len x52.1.cap), (.slice x52.2.1.a x52.2.1.len x52.2.1.cap), (.int .i64 x52.2.2.1)])] (.tup (.cons (.agg (.cons .sl (.cons .sl (.cons (.int .i64) .nil)))) (.cons (.int .i64) .nil))) fun r53 =>
 st1 (⟨b0, 0, none⟩ : Addr) (.slice r53.1.1.a r53.1.1.len r53.1.1.cap) <|
 st1 ((⟨b0, 0, none⟩ : Addr).add 1) (.slice r53.1.2.1.a r53.1.2.1.len r53.1.2.1.cap) <|
 st1 ((⟨b0, 0, none⟩ : Addr).add 2) (.int .i64 r53.1.2.2.1) <|
 callT Try.prog fn_order_Order_Decay #[(.pointer a0)] (.int .i64) fun r54 =>
 brB (r54 != r53.2.1)
 (ldA (.cons .sl (.cons .sl (.cons (.int .i64) .nil))) (⟨b0, 0, none⟩ : Addr) fun x55 =>
 st1 (⟨b2, 0, none⟩ : Addr) (.slice x55.1.a x55.1.len x55.1.cap) <|
 st1 ((⟨b2, 0, none⟩ : Addr).add 1) (.slice x55.2.1.a x55.2.1.len x55.2.1.cap) <|
 st1 ((⟨b2, 0, none⟩ : Addr).add 2) (.int .i64 x55.2.2.1) <|
 ldA (.cons .sl (.cons .sl (.cons (.int .i64) .nil))) (⟨b2, 0, none⟩ : Addr) fun x56 =>
 K ((⟨x56.1.a, x56.1.len, x56.1.cap⟩, ⟨x56.2.1.a, x56.2.1.len, x56.2.1.cap⟩, x56.2.2.1, ()), false, ()))
 (X50 ((IntKind.wrap .u16 (s51.1 + (1 : Int))), s51.2.1, ())))
 (ldA (.cons .sl (.cons .sl (.cons (.int .i64) .nil))) (⟨b0, 0, none⟩ : Addr) fun x57 =>
 st1 (⟨b2, 0, none⟩ : Addr) (.slice x57.1.a x57.1.len x57.1.cap) <|
 st1 ((⟨b2, 0, none⟩ : Addr).add 1) (.slice x57.2.1.a x57.2.1.len x57.2.1.cap) <|
 st1 ((⟨b2, 0, none⟩ : Addr).add 2) (.int .i64 x57.2.2.1) <|
 ldA (.cons .sl (.cons .sl (.cons (.int .i64) .nil))) (⟨b2, 0, none⟩ : Addr) fun x58 =>
 K ((⟨x58.1.a, x58.1.len, x58.1.cap⟩, ⟨x58.2.1.a, x58.2.1.len, x58.2.1.cap⟩, x58.2.2.1, ()), true, ())))
 ((0 : Int), false, ()))))))
 (fun J9 =>
 brB ((Int.tmod x8 (8 : Int)) == (0 : Int))
 (J9 (((Int.tmod x8 (8 : Int)) == (0 : Int)), ()))
 (jn (σ := (Bool × Unit)) (fun s60 => /-  -/
 J9 (s60.1, ()))
 (fun J59 =>
 brB ((Int.tmod x8 (8 : Int)) == (1 : Int))
 (J59 (((Int.tmod x8 (8 : Int)) == (1 : Int)), ()))
 (J59 (((Int.tmod x8 (8 : Int)) == (2 : Int)), ()))))))
 (fun J6 =>
 brB (!t5)
 (J6 ((110 : Int), ()))
 (J6 ((0 : Int), ()))))
 (fun J4 =>
 brB (decide (x3 ≥ (1 : Int)))
 (ldT (.int .i64) ((⟨b1, 0, none⟩ : Addr).add 1) fun x61 =>
 ldT .sl ((⟨b0, 0, none⟩ : Addr).add 1) fun x62 =>
 J4 ((decide (x61 ≤ (x62.len : Int)))))
 (J4 false))
set_option maxRecDepth 100000 in
theorem E_salvorlaw11_does (a0 : Option Addr) (a1 : (Sl × (Sl × (Int × Unit)))) (a2 : (Int × (Int × (Int × Unit)))) (K : ((Sl × (Sl × (Int × Unit))) × (Bool × Unit)) → HP) (h : Heap) : fnVC Try.prog [(1000000, .bool)] 116 Try.f44 [(.pointer a0), (.agg #[(.slice a1.1.a a1.1.len a1.1.cap), (.slice a1.2.1.a a1.2.1.len a1.2.1.cap), (.int .i64 a1.2.2.1)]), (.agg #[(.int .u8 a2.1), (.int .i64 a2.2.1), (.int .u16 a2.2.2.1)])] (.tup (.cons (.agg (.cons .sl (.cons .sl (.cons (.int .i64) .nil)))) (.cons .bool .nil))) K h = F_salvorlaw11_does a0 a1 a2 K h := by kernel_rfl
set_option maxRecDepth 100000 in
theorem S_salvorlaw11_does{h : Heap} {a0 : Option Addr} {a1 : (Sl × (Sl × (Int × Unit)))} {a2 : (Int × (Int × (Int × Unit)))} (K : ((Sl × (Sl × (Int × Unit))) × (Bool × Unit)) → HP) (hF : F_salvorlaw11_does a0 a1 a2 K h) : CallsH Try.prog fn_salvorlaw11_does #[(.pointer a0), (.agg #[(.slice a1.1.a a1.1.len a1.1.cap), (.slice a1.2.1.a a1.2.1.len a1.2.1.cap), (.int .i64 a1.2.2.1)]), (.agg #[(.int .u8 a2.1), (.int .i64 a2.2.1), (.int .u16 a2.2.2.1)])] h fun v h' => ∃ x : ((Sl × (Sl × (Int × Unit))) × (Bool × Unit)), v = Ty.enc (.tup (.cons (.agg (.cons .sl (.cons .sl (.cons (.int .i64) .nil)))) (.cons .bool .nil))) x ∧ K x h' :=
  callsH_of_fn (P := Try.prog) (fn := Try.f44) (τ := (.tup (.cons (.agg (.cons .sl (.cons .sl (.cons (.int .i64) .nil)))) (.cons .bool .nil)))) follows Try.func44 (by kernel_rfl) (by kernel_rfl) Try.call44 (Eq.mpr (E_salvorlaw11_does a0 a1 a2 K h) hF)


/-- salvor/salvorlaw11.same -/
def F_salvorlaw11_same (a0 : Option Addr) (a1 : (Sl × (Sl × (Int × Unit)))) (K : Bool → HP) : HP :=
 nw #[(.slice a1.1.a a1.1.len a1.1.cap), (.slice a1.2.1.a a1.2.1.len a1.2.1.cap), (.int .i64 a1.2.2.1)] ty_salvorref11_Order fun b0 =>
 ldA (.cons .sl (.cons .sl (.cons (.int .i64) .nil))) (⟨b0, 0, none⟩ : Addr) fun x1 =>
 callT Try.prog fn_salvorref11_All #[(.agg #[(.slice x1.1.a x1.1.len x1.1.cap), (.slice x1.2.1.a x1.2.1.len x1.2.1.cap), (.int .i64 x1.2.2.1)])] .sl fun r2 =>
 callT Try.prog fn_salvorlaw11_list #[(.pointer a0)] (.tup (.cons .sl (.cons .bool .nil))) fun r3 =>
 callT Try.prog fn_order_Order_Peek #[(.pointer a0)] (.tup (.cons (.int .i64) (.cons .bool .nil))) fun r4 =>
 brB (!r3.2.1)
 (K false)
 (callT Try.prog fn_slices_Equal_int_int #[(.slice r3.1.a r3.1.len r3.1.cap), (.slice r2.a r2.len r2.cap)] .bool fun r5 =>
 brB (!r5)
 (K false)
 (callT Try.prog fn_order_Order_Len #[(.pointer a0)] (.int .i64) fun r6 =>
 brB (r6 != (r2.len : Int))
 (K false)
 (ldT .sl ((⟨b0, 0, none⟩ : Addr).add 1) fun x7 =>
 callT Try.prog fn_order_Order_Vars #[(.pointer a0)] (.int .i64) fun r8 =>
 ck ((⟨b0, 0, none⟩ : Addr).add 1) (.slice x7.a x7.len x7.cap) <|
 brB (r8 != (x7.len : Int))
 (K false)
 (ldT (.int .i64) ((⟨b0, 0, none⟩ : Addr).add 2) fun x9 =>
 callT Try.prog fn_order_Order_Step #[(.pointer a0)] (.int .i64) fun r10 =>
 ck ((⟨b0, 0, none⟩ : Addr).add 2) (.int .i64 x9) <|
 brB (r10 != x9)
 (K false)
 (brB (!(r4.2.1 == (decide ((r2.len : Int) > (0 : Int)))))
 (K false)
 (ldA (.cons .sl (.cons .sl (.cons (.int .i64) .nil))) (⟨b0, 0, none⟩ : Addr) fun x11 =>
 callT Try.prog fn_salvorref11_First #[(.agg #[(.slice x11.1.a x11.1.len x11.1.cap), (.slice x11.2.1.a x11.2.1.len x11.2.1.cap), (.int .i64 x11.2.2.1)])] (.int .i64) fun r12 =>
 brB (r4.1 != r12)
 (K false)
 (lfp (σ := (Int × (Bool × Unit))) (fun X13 s14 => /- v  -/
 ldT .sl ((⟨b0, 0, none⟩ : Addr).add 1) fun x15 =>
 brB (decide (s14.1 ≤ (IntKind.wrap .i64 ((x15.len : Int) + (1 : Int)))))
 (callT Try.prog fn_order_Order_Activity #[(.pointer a0), (.int .i64 s14.1)] (.tup (.cons (.int .i64) (.cons (.int .i64) .nil))) fun r16 =>
 jn (σ := Bool) (fun t18 =>
 jn (σ := (Bool × Unit)) (fun s20 => /-  -/
 X13 ((IntKind.wrap .i64 (s14.1 + (1 : Int))), s20.1, ()))
 (fun J19 =>
 brB t18
 (jn (σ := Bool) (fun t22 =>
 jn (σ := Bool) (fun t24 =>
 brB t24
 (K false)
 (J19 (s14.2.1, ())))
 (fun J23 =>
 brB t22
 (J23 true)
 (callT Try.prog fn_order_Order_Has #[(.pointer a0), (.int .i64 s14.1)] .bool fun r25 =>
 J23 (r25))))
 (fun J21 =>
 brB (r16.1 != (0 : Int))
 (J21 true)
 (J21 ((r16.2.1 != (110 : Int))))))
 (ldT .sl (⟨b0, 0, none⟩ : Addr) fun x26 =>
 sx x26.a x26.len (IntKind.wrap .i64 (s14.1 - (1 : Int))) 1 fun p27 =>
 ldT (.int .i64) p27 fun x28 =>
 brB (r16.1 != x28)
 (K false)
 (brB (r16.2.1 != (0 : Int))
 (K false)
 (ldT .sl ((⟨b0, 0, none⟩ : Addr).add 1) fun x29 =>
 sx x29.a x29.len (IntKind.wrap .i64 (s14.1 - (1 : Int))) 1 fun p30 =>
 ldT (.int .i64) p30 fun x31 =>
 callT Try.prog fn_order_Order_Has #[(.pointer a0), (.int .i64 s14.1)] .bool fun r32 =>
 ck p30 (.int .i64 x31) <|
 ck ((⟨b0, 0, none⟩ : Addr).add 1) (.slice x29.a x29.len x29.cap) <|
 brB (!(r32 == (x31 == (1 : Int))))
 (K false)
 (J19 (s14.2.1, ())))))))
 (fun J17 =>
 brB (decide (s14.1 < (1 : Int)))
 (J17 true)
 (ldT .sl ((⟨b0, 0, none⟩ : Addr).add 1) fun x33 =>
 J17 ((decide (s14.1 > (x33.len : Int)))))))
 (K true))
 ((0 : Int), false, ()))))))))
set_option maxRecDepth 100000 in
theorem E_salvorlaw11_same (a0 : Option Addr) (a1 : (Sl × (Sl × (Int × Unit)))) (K : Bool → HP) (h : Heap) : fnVC Try.prog [(1000000, .bool)] 127 Try.f45 [(.pointer a0), (.agg #[(.slice a1.1.a a1.1.len a1.1.cap), (.slice a1.2.1.a a1.2.1.len a1.2.1.cap), (.int .i64 a1.2.2.1)])] .bool K h = F_salvorlaw11_same a0 a1 K h := by kernel_rfl
set_option maxRecDepth 100000 in
theorem S_salvorlaw11_same{h : Heap} {a0 : Option Addr} {a1 : (Sl × (Sl × (Int × Unit)))} (K : Bool → HP) (hF : F_salvorlaw11_same a0 a1 K h) : CallsH Try.prog fn_salvorlaw11_same #[(.pointer a0), (.agg #[(.slice a1.1.a a1.1.len a1.1.cap), (.slice a1.2.1.a a1.2.1.len a1.2.1.cap), (.int .i64 a1.2.2.1)])] h fun v h' => ∃ x : Bool, v = Ty.enc .bool x ∧ K x h' :=
  callsH_of_fn (P := Try.prog) (fn := Try.f45) (τ := .bool) follows Try.func45 (by kernel_rfl) (by kernel_rfl) Try.call45 (Eq.mpr (E_salvorlaw11_same a0 a1 K h) hF)


/-- slices.pdqsortCmpFunc[int] -/
def F_slices_pdqsortCmpFunc_int (a0 : Sl) (a1 : Int) (a2 : Int) (a3 : Int) (a4 : Value) (K : Unit → HP) : HP :=
 lfp (σ := (Bool × (Bool × (Int × (Int × (Int × Unit)))))) (fun X0 s1 => /- wasPartitioned wasBalanced a b limit -/
 jn (σ := (Bool × (Bool × (Int × (Int × (Int × Unit)))))) (fun s3 => /- wasPartitioned wasBalanced a b limit -/
 X0 (s3.1, s3.2.1, s3.2.2.1, s3.2.2.2.1, s3.2.2.2.2.1, ()))
 (fun J2 =>
 brB (decide ((IntKind.wrap .i64 (s1.2.2.2.1 - s1.2.2.1)) ≤ (12 : Int)))
 (callT Try.prog fn_slices_insertionSortCmpFunc_int #[(.slice a0.a a0.len a0.cap), (.int .i64 s1.2.2.1), (.int .i64 s1.2.2.2.1), a4] (.tup .nil) fun r4 =>
 K (()))
 (brB (s1.2.2.2.2.1 == (0 : Int))
 (callT Try.prog fn_slices_heapSortCmpFunc_int #[(.slice a0.a a0.len a0.cap), (.int .i64 s1.2.2.1), (.int .i64 s1.2.2.2.1), a4] (.tup .nil) fun r5 =>
 K (()))
 (jn (σ := (Int × Unit)) (fun s7 => /- limit -/
 callT Try.prog fn_slices_choosePivotCmpFunc_int #[(.slice a0.a a0.len a0.cap), (.int .i64 s1.2.2.1), (.int .i64 s1.2.2.2.1), a4] (.tup (.cons (.int .i64) (.cons (.int .i64) .nil))) fun r8 =>
 jn (σ := (Int × (Int × Unit))) (fun s10 => /- hint pivot -/
 brB s1.2.1
 (brB s1.1
 (jn (σ := Unit) (fun s12 => /- -/
 brB (decide (s1.2.2.1 > (0 : Int)))
 (sx a0.a a0.len (IntKind.wrap .i64 (s1.2.2.1 - (1 : Int))) 1 fun p13 =>
 ldT (.int .i64) p13 fun x14 =>
 sx a0.a a0.len s10.2.1 1 fun p15 =>
 ldT (.int .i64) p15 fun x16 =>
 callF Try.prog a4 #[(.int .i64 x14), (.int .i64 x16)] (.int .i64) fun r17 =>
 brB (!(decide (r17 < (0 : Int))))
 (callT Try.prog fn_slices_partitionEqualCmpFunc_int #[(.slice a0.a a0.len a0.cap), (.int .i64 s1.2.2.1), (.int .i64 s1.2.2.2.1), (.int .i64 s10.2.1), a4] (.int .i64) fun r18 =>
 J2 (s1.1, s1.2.1, r18, s1.2.2.2.1, s7.1, ()))
 (callT Try.prog fn_slices_partitionCmpFunc_int #[(.slice a0.a a0.len a0.cap), (.int .i64 s1.2.2.1), (.int .i64 s1.2.2.2.1), (.int .i64 s10.2.1), a4] (.tup (.cons (.int .i64) (.cons .bool .nil))) fun r19 =>
 nz (8 : Int) <|
 jn (σ := (Bool × (Int × (Int × Unit)))) (fun s21 => /- wasBalanced a b -/
 J2 (r19.2.1, s21.1, s21.2.1, s21.2.2.1, s7.1, ()))
 (fun J20 =>
 brB (decide ((IntKind.wrap .i64 (r19.1 - s1.2.2.1)) < (IntKind.wrap .i64 (s1.2.2.2.1 - r19.1))))
 (callT Try.prog fn_slices_pdqsortCmpFunc_int #[(.slice a0.a a0.len a0.cap), (.int .i64 s1.2.2.1), (.int .i64 r19.1), (.int .i64 s7.1), a4] (.tup .nil) fun r22 =>
 J20 ((decide ((IntKind.wrap .i64 (r19.1 - s1.2.2.1)) ≥ (IntKind.wrap .i64 (Int.tdiv (IntKind.wrap .i64 (s1.2.2.2.1 - s1.2.2.1)) (8 : Int))))), (IntKind.wrap .i64 (r19.1 + (1 : Int))), s1.2.2.2.1, ()))
 (callT Try.prog fn_slices_pdqsortCmpFunc_int #[(.slice a0.a a0.len a0.cap), (.int .i64 (IntKind.wrap .i64 (r19.1 + (1 : Int)))), (.int .i64 s1.2.2.2.1), (.int .i64 s7.1), a4] (.tup .nil) fun r23 =>
 J20 ((decide ((IntKind.wrap .i64 (s1.2.2.2.1 - r19.1)) ≥ (IntKind.wrap .i64 (Int.tdiv (IntKind.wrap .i64 (s1.2.2.2.1 - s1.2.2.1)) (8 : Int))))), s1.2.2.1, r19.1, ())))))
 (callT Try.prog fn_slices_partitionCmpFunc_int #[(.slice a0.a a0.len a0.cap), (.int .i64 s1.2.2.1), (.int .i64 s1.2.2.2.1), (.int .i64 s10.2.1), a4] (.tup (.cons (.int .i64) (.cons .bool .nil))) fun r24 =>
 nz (8 : Int) <|
 jn (σ := (Bool × (Int × (Int × Unit)))) (fun s26 => /- wasBalanced a b -/
 J2 (r24.2.1, s26.1, s26.2.1, s26.2.2.1, s7.1, ()))
 (fun J25 =>
 brB (decide ((IntKind.wrap .i64 (r24.1 - s1.2.2.1)) < (IntKind.wrap .i64 (s1.2.2.2.1 - r24.1))))
 (callT Try.prog fn_slices_pdqsortCmpFunc_int #[(.slice a0.a a0.len a0.cap), (.int .i64 s1.2.2.1), (.int .i64 r24.1), (.int .i64 s7.1), a4] (.tup .nil) fun r27 =>
 J25 ((decide ((IntKind.wrap .i64 (r24.1 - s1.2.2.1)) ≥ (IntKind.wrap .i64 (Int.tdiv (IntKind.wrap .i64 (s1.2.2.2.1 - s1.2.2.1)) (8 : Int))))), (IntKind.wrap .i64 (r24.1 + (1 : Int))), s1.2.2.2.1, ()))
 (callT Try.prog fn_slices_pdqsortCmpFunc_int #[(.slice a0.a a0.len a0.cap), (.int .i64 (IntKind.wrap .i64 (r24.1 + (1 : Int)))), (.int .i64 s1.2.2.2.1), (.int .i64 s7.1), a4] (.tup .nil) fun r28 =>
 J25 ((decide ((IntKind.wrap .i64 (s1.2.2.2.1 - r24.1)) ≥ (IntKind.wrap .i64 (Int.tdiv (IntKind.wrap .i64 (s1.2.2.2.1 - s1.2.2.1)) (8 : Int))))), s1.2.2.1, r24.1, ())))))
 (fun J11 =>
 brB (s10.1 == (1 : Int))
 (callT Try.prog fn_slices_partialInsertionSortCmpFunc_int #[(.slice a0.a a0.len a0.cap), (.int .i64 s1.2.2.1), (.int .i64 s1.2.2.2.1), a4] .bool fun r29 =>
 brB r29
 (K (()))
 (J11 (())))
 (J11 (()))))
 (jn (σ := Unit) (fun s31 => /- -/
 brB (decide (s1.2.2.1 > (0 : Int)))
 (sx a0.a a0.len (IntKind.wrap .i64 (s1.2.2.1 - (1 : Int))) 1 fun p32 =>
 ldT (.int .i64) p32 fun x33 =>
 sx a0.a a0.len s10.2.1 1 fun p34 =>
 ldT (.int .i64) p34 fun x35 =>
 callF Try.prog a4 #[(.int .i64 x33), (.int .i64 x35)] (.int .i64) fun r36 =>
 brB (!(decide (r36 < (0 : Int))))
 (callT Try.prog fn_slices_partitionEqualCmpFunc_int #[(.slice a0.a a0.len a0.cap), (.int .i64 s1.2.2.1), (.int .i64 s1.2.2.2.1), (.int .i64 s10.2.1), a4] (.int .i64) fun r37 =>
 J2 (s1.1, s1.2.1, r37, s1.2.2.2.1, s7.1, ()))
 (callT Try.prog fn_slices_partitionCmpFunc_int #[(.slice a0.a a0.len a0.cap), (.int .i64 s1.2.2.1), (.int .i64 s1.2.2.2.1), (.int .i64 s10.2.1), a4] (.tup (.cons (.int .i64) (.cons .bool .nil))) fun r38 =>
 nz (8 : Int) <|
 jn (σ := (Bool × (Int × (Int × Unit)))) (fun s40 => /- wasBalanced a b -/
 J2 (r38.2.1, s40.1, s40.2.1, s40.2.2.1, s7.1, ()))
 (fun J39 =>
 brB (decide ((IntKind.wrap .i64 (r38.1 - s1.2.2.1)) < (IntKind.wrap .i64 (s1.2.2.2.1 - r38.1))))
 (callT Try.prog fn_slices_pdqsortCmpFunc_int #[(.slice a0.a a0.len a0.cap), (.int .i64 s1.2.2.1), (.int .i64 r38.1), (.int .i64 s7.1), a4] (.tup .nil) fun r41 =>
 J39 ((decide ((IntKind.wrap .i64 (r38.1 - s1.2.2.1)) ≥ (IntKind.wrap .i64 (Int.tdiv (IntKind.wrap .i64 (s1.2.2.2.1 - s1.2.2.1)) (8 : Int))))), (IntKind.wrap .i64 (r38.1 + (1 : Int))), s1.2.2.2.1, ()))
 (callT Try.prog fn_slices_pdqsortCmpFunc_int #[(.slice a0.a a0.len a0.cap), (.int .i64 (IntKind.wrap .i64 (r38.1 + (1 : Int)))), (.int .i64 s1.2.2.2.1), (.int .i64 s7.1), a4] (.tup .nil) fun r42 =>
 J39 ((decide ((IntKind.wrap .i64 (s1.2.2.2.1 - r38.1)) ≥ (IntKind.wrap .i64 (Int.tdiv (IntKind.wrap .i64 (s1.2.2.2.1 - s1.2.2.1)) (8 : Int))))), s1.2.2.1, r38.1, ())))))
 (callT Try.prog fn_slices_partitionCmpFunc_int #[(.slice a0.a a0.len a0.cap), (.int .i64 s1.2.2.1), (.int .i64 s1.2.2.2.1), (.int .i64 s10.2.1), a4] (.tup (.cons (.int .i64) (.cons .bool .nil))) fun r43 =>
 nz (8 : Int) <|
 jn (σ := (Bool × (Int × (Int × Unit)))) (fun s45 => /- wasBalanced a b -/
 J2 (r43.2.1, s45.1, s45.2.1, s45.2.2.1, s7.1, ()))
 (fun J44 =>
 brB (decide ((IntKind.wrap .i64 (r43.1 - s1.2.2.1)) < (IntKind.wrap .i64 (s1.2.2.2.1 - r43.1))))
 (callT Try.prog fn_slices_pdqsortCmpFunc_int #[(.slice a0.a a0.len a0.cap), (.int .i64 s1.2.2.1), (.int .i64 r43.1), (.int .i64 s7.1), a4] (.tup .nil) fun r46 =>
 J44 ((decide ((IntKind.wrap .i64 (r43.1 - s1.2.2.1)) ≥ (IntKind.wrap .i64 (Int.tdiv (IntKind.wrap .i64 (s1.2.2.2.1 - s1.2.2.1)) (8 : Int))))), (IntKind.wrap .i64 (r43.1 + (1 : Int))), s1.2.2.2.1, ()))
 (callT Try.prog fn_slices_pdqsortCmpFunc_int #[(.slice a0.a a0.len a0.cap), (.int .i64 (IntKind.wrap .i64 (r43.1 + (1 : Int)))), (.int .i64 s1.2.2.2.1), (.int .i64 s7.1), a4] (.tup .nil) fun r47 =>
 J44 ((decide ((IntKind.wrap .i64 (s1.2.2.2.1 - r43.1)) ≥ (IntKind.wrap .i64 (Int.tdiv (IntKind.wrap .i64 (s1.2.2.2.1 - s1.2.2.1)) (8 : Int))))), s1.2.2.1, r43.1, ())))))
 (fun J30 =>
 J30 (()))))
 (jn (σ := Unit) (fun s49 => /- -/
 brB (decide (s1.2.2.1 > (0 : Int)))
 (sx a0.a a0.len (IntKind.wrap .i64 (s1.2.2.1 - (1 : Int))) 1 fun p50 =>
 ldT (.int .i64) p50 fun x51 =>
 sx a0.a a0.len s10.2.1 1 fun p52 =>
 ldT (.int .i64) p52 fun x53 =>
 callF Try.prog a4 #[(.int .i64 x51), (.int .i64 x53)] (.int .i64) fun r54 =>
 brB (!(decide (r54 < (0 : Int))))
 (callT Try.prog fn_slices_partitionEqualCmpFunc_int #[(.slice a0.a a0.len a0.cap), (.int .i64 s1.2.2.1), (.int .i64 s1.2.2.2.1), (.int .i64 s10.2.1), a4] (.int .i64) fun r55 =>
 J2 (s1.1, s1.2.1, r55, s1.2.2.2.1, s7.1, ()))
 (callT Try.prog fn_slices_partitionCmpFunc_int #[(.slice a0.a a0.len a0.cap), (.int .i64 s1.2.2.1), (.int .i64 s1.2.2.2.1), (.int .i64 s10.2.1), a4] (.tup (.cons (.int .i64) (.cons .bool .nil))) fun r56 =>
 nz (8 : Int) <|
 jn (σ := (Bool × (Int × (Int × Unit)))) (fun s58 => /- wasBalanced a b -/
 J2 (r56.2.1, s58.1, s58.2.1, s58.2.2.1, s7.1, ()))
 (fun J57 =>
 brB (decide ((IntKind.wrap .i64 (r56.1 - s1.2.2.1)) < (IntKind.wrap .i64 (s1.2.2.2.1 - r56.1))))
 (callT Try.prog fn_slices_pdqsortCmpFunc_int #[(.slice a0.a a0.len a0.cap), (.int .i64 s1.2.2.1), (.int .i64 r56.1), (.int .i64 s7.1), a4] (.tup .nil) fun r59 =>
 J57 ((decide ((IntKind.wrap .i64 (r56.1 - s1.2.2.1)) ≥ (IntKind.wrap .i64 (Int.tdiv (IntKind.wrap .i64 (s1.2.2.2.1 - s1.2.2.1)) (8 : Int))))), (IntKind.wrap .i64 (r56.1 + (1 : Int))), s1.2.2.2.1, ()))
 (callT Try.prog fn_slices_pdqsortCmpFunc_int #[(.slice a0.a a0.len a0.cap), (.int .i64 (IntKind.wrap .i64 (r56.1 + (1 : Int)))), (.int .i64 s1.2.2.2.1), (.int .i64 s7.1), a4] (.tup .nil) fun r60 =>
 J57 ((decide ((IntKind.wrap .i64 (s1.2.2.2.1 - r56.1)) ≥ (IntKind.wrap .i64 (Int.tdiv (IntKind.wrap .i64 (s1.2.2.2.1 - s1.2.2.1)) (8 : Int))))), s1.2.2.1, r56.1, ())))))
 (callT Try.prog fn_slices_partitionCmpFunc_int #[(.slice a0.a a0.len a0.cap), (.int .i64 s1.2.2.1), (.int .i64 s1.2.2.2.1), (.int .i64 s10.2.1), a4] (.tup (.cons (.int .i64) (.cons .bool .nil))) fun r61 =>
 nz (8 : Int) <|
 jn (σ := (Bool × (Int × (Int × Unit)))) (fun s63 => /- wasBalanced a b -/
 J2 (r61.2.1, s63.1, s63.2.1, s63.2.2.1, s7.1, ()))
 (fun J62 =>
 brB (decide ((IntKind.wrap .i64 (r61.1 - s1.2.2.1)) < (IntKind.wrap .i64 (s1.2.2.2.1 - r61.1))))
 (callT Try.prog fn_slices_pdqsortCmpFunc_int #[(.slice a0.a a0.len a0.cap), (.int .i64 s1.2.2.1), (.int .i64 r61.1), (.int .i64 s7.1), a4] (.tup .nil) fun r64 =>
 J62 ((decide ((IntKind.wrap .i64 (r61.1 - s1.2.2.1)) ≥ (IntKind.wrap .i64 (Int.tdiv (IntKind.wrap .i64 (s1.2.2.2.1 - s1.2.2.1)) (8 : Int))))), (IntKind.wrap .i64 (r61.1 + (1 : Int))), s1.2.2.2.1, ()))
 (callT Try.prog fn_slices_pdqsortCmpFunc_int #[(.slice a0.a a0.len a0.cap), (.int .i64 (IntKind.wrap .i64 (r61.1 + (1 : Int)))), (.int .i64 s1.2.2.2.1), (.int .i64 s7.1), a4] (.tup .nil) fun r65 =>
 J62 ((decide ((IntKind.wrap .i64 (s1.2.2.2.1 - r61.1)) ≥ (IntKind.wrap .i64 (Int.tdiv (IntKind.wrap .i64 (s1.2.2.2.1 - s1.2.2.1)) (8 : Int))))), s1.2.2.1, r61.1, ())))))
 (fun J48 =>
 J48 (()))))
 (fun J9 =>
 brB (r8.2.1 == (2 : Int))
 (callT Try.prog fn_slices_reverseRangeCmpFunc_int #[(.slice a0.a a0.len a0.cap), (.int .i64 s1.2.2.1), (.int .i64 s1.2.2.2.1), a4] (.tup .nil) fun r66 =>
 J9 ((1 : Int), (IntKind.wrap .i64 ((IntKind.wrap .i64 (s1.2.2.2.1 - (1 : Int))) - (IntKind.wrap .i64 (r8.1 - s1.2.2.1)))), ()))
 (J9 (r8.2.1, r8.1, ()))))
 (fun J6 =>
 brB (!s1.2.1)
 (callT Try.prog fn_slices_breakPatternsCmpFunc_int #[(.slice a0.a a0.len a0.cap), (.int .i64 s1.2.2.1), (.int .i64 s1.2.2.2.1), a4] (.tup .nil) fun r67 =>
 J6 ((IntKind.wrap .i64 (s1.2.2.2.2.1 - (1 : Int))), ()))
 (J6 (s1.2.2.2.2.1, ())))))))
 (true, true, a1, a2, a3, ())
set_option maxRecDepth 100000 in
theorem E_slices_pdqsortCmpFunc_int (a0 : Sl) (a1 : Int) (a2 : Int) (a3 : Int) (a4 : Value) (K : Unit → HP) (h : Heap) : fnVC Try.prog [(1000000, .nil)] 148 Try.f47 [(.slice a0.a a0.len a0.cap), (.int .i64 a1), (.int .i64 a2), (.int .i64 a3), a4] (.tup .nil) K h = F_slices_pdqsortCmpFunc_int a0 a1 a2 a3 a4 K h := by kernel_rfl
set_option maxRecDepth 100000 in
theorem S_slices_pdqsortCmpFunc_int{h : Heap} {a0 : Sl} {a1 : Int} {a2 : Int} {a3 : Int} {a4 : Value} (K : Unit → HP) (hF : F_slices_pdqsortCmpFunc_int a0 a1 a2 a3 a4 K h) : CallsH Try.prog fn_slices_pdqsortCmpFunc_int #[(.slice a0.a a0.len a0.cap), (.int .i64 a1), (.int .i64 a2), (.int .i64 a3), a4] h fun v h' => ∃ x : Unit, v = Ty.enc (.tup .nil) x ∧ K x h' :=
  callsH_of_fn (P := Try.prog) (fn := Try.f47) (τ := (.tup .nil)) follows Try.func47 (by kernel_rfl) (by kernel_rfl) Try.call47 (Eq.mpr (E_slices_pdqsortCmpFunc_int a0 a1 a2 a3 a4 K h) hF)


/-- math/bits.Len -/
def F_math_bits_Len (a0 : Int) (K : Int → HP) : HP :=
 callT Try.prog fn_math_bits_Len64 #[(.int .u64 a0)] (.int .i64) fun r0 =>
 K r0
set_option maxRecDepth 100000 in
theorem E_math_bits_Len (a0 : Int) (K : Int → HP) (h : Heap) : fnVC Try.prog [(1000000, .nil)] 8 Try.f48 [(.int .u64 a0)] (.int .i64) K h = F_math_bits_Len a0 K h := by kernel_rfl
set_option maxRecDepth 100000 in
theorem S_math_bits_Len{h : Heap} {a0 : Int} (K : Int → HP) (hF : F_math_bits_Len a0 K h) : CallsH Try.prog fn_math_bits_Len #[(.int .u64 a0)] h fun v h' => ∃ x : Int, v = Ty.enc (.int .i64) x ∧ K x h' :=
  callsH_of_fn (P := Try.prog) (fn := Try.f48) (τ := (.int .i64)) follows Try.func48 (by kernel_rfl) (by kernel_rfl) Try.call48 (Eq.mpr (E_math_bits_Len a0 K h) hF)


/-- salvor/salvorref11.Bump -/
def F_salvorref11_Bump (a0 : (Sl × (Sl × (Int × Unit)))) (a1 : Int) (K : (Sl × (Sl × (Int × Unit))) → HP) : HP :=
 nw #[(.slice a0.1.a a0.1.len a0.1.cap), (.slice a0.2.1.a a0.2.1.len a0.2.1.cap), (.int .i64 a0.2.2.1)] ty_salvorref11_Order fun b0 =>
 nw #[(.slice none 0 0), (.slice none 0 0), (.int .i64 (0 : Int))] ty_salvorref11_Order fun b1 =>
 ldT .sl (⟨b0, 0, none⟩ : Addr) fun x2 =>
 ldT .sl (⟨b0, 0, none⟩ : Addr) fun x3 =>
 sx x3.a x3.len (IntKind.wrap .i64 (a1 - (1 : Int))) 1 fun p4 =>
 ldT (.int .i64) p4 fun x5 =>
 ldT (.int .i64) ((⟨b0, 0, none⟩ : Addr).add 2) fun x6 =>
 callT Try.prog fn_salvorref11_with #[(.slice x2.a x2.len x2.cap), (.int .i64 (IntKind.wrap .i64 (a1 - (1 : Int)))), (.int .i64 (IntKind.wrap .i64 (x5 + x6)))] .sl fun r7 =>
 st1 (⟨b0, 0, none⟩ : Addr) (.slice r7.a r7.len r7.cap) <|
 ldT .sl (⟨b0, 0, none⟩ : Addr) fun x8 =>
 sx x8.a x8.len (IntKind.wrap .i64 (a1 - (1 : Int))) 1 fun p9 =>
 ldT (.int .i64) p9 fun x10 =>
 jn (σ := Unit) (fun s12 => /- -/
 ldA (.cons .sl (.cons .sl (.cons (.int .i64) .nil))) (⟨b0, 0, none⟩ : Addr) fun x13 =>
 st1 (⟨b1, 0, none⟩ : Addr) (.slice x13.1.a x13.1.len x13.1.cap) <|
 st1 ((⟨b1, 0, none⟩ : Addr).add 1) (.slice x13.2.1.a x13.2.1.len x13.2.1.cap) <|
 st1 ((⟨b1, 0, none⟩ : Addr).add 2) (.int .i64 x13.2.2.1) <|
 ldA (.cons .sl (.cons .sl (.cons (.int .i64) .nil))) (⟨b1, 0, none⟩ : Addr) fun x14 =>
 K (⟨x14.1.a, x14.1.len, x14.1.cap⟩, ⟨x14.2.1.a, x14.2.1.len, x14.2.1.cap⟩, x14.2.2.1, ()))
 (fun J11 =>
 brB (decide (x10 > (1125899906842624 : Int)))
 (lfp (σ := (Int × Unit)) (fun X15 s16 => /- i -/
 ldT .sl (⟨b0, 0, none⟩ : Addr) fun x17 =>
 brB (decide (s16.1 < (x17.len : Int)))
 (ldT .sl (⟨b0, 0, none⟩ : Addr) fun x18 =>
 ldT .sl (⟨b0, 0, none⟩ : Addr) fun x19 =>
 sx x19.a x19.len s16.1 1 fun p20 =>
 ldT (.int .i64) p20 fun x21 =>
 nz (1073741824 : Int) <|
 sx x18.a x18.len s16.1 1 fun p22 =>
 st1 p22 (.int .i64 (IntKind.wrap .i64 (Int.tdiv x21 (1073741824 : Int)))) <|
 X15 ((IntKind.wrap .i64 (s16.1 + (1 : Int))), ()))
 (ldT (.int .i64) ((⟨b0, 0, none⟩ : Addr).add 2) fun x23 =>
 nz (1073741824 : Int) <|
 st1 ((⟨b0, 0, none⟩ : Addr).add 2) (.int .i64 (IntKind.wrap .i64 (Int.tdiv x23 (1073741824 : Int)))) <|
 ldT (.int .i64) ((⟨b0, 0, none⟩ : Addr).add 2) fun x24 =>
 jn (σ := Unit) (fun s26 => /- -/
 J11 (()))
 (fun J25 =>
 brB (decide (x24 < (1 : Int)))
 (st1 ((⟨b0, 0, none⟩ : Addr).add 2) (.int .i64 (1 : Int)) <|
 J25 (()))
 (J25 (())))))
 ((0 : Int), ()))
 (J11 (())))
set_option maxRecDepth 100000 in
theorem E_salvorref11_Bump (a0 : (Sl × (Sl × (Int × Unit)))) (a1 : Int) (K : (Sl × (Sl × (Int × Unit))) → HP) (h : Heap) : fnVC Try.prog [(1000000, .bool)] 54 Try.f51 [(.agg #[(.slice a0.1.a a0.1.len a0.1.cap), (.slice a0.2.1.a a0.2.1.len a0.2.1.cap), (.int .i64 a0.2.2.1)]), (.int .i64 a1)] (.agg (.cons .sl (.cons .sl (.cons (.int .i64) .nil)))) K h = F_salvorref11_Bump a0 a1 K h := by kernel_rfl
set_option maxRecDepth 100000 in
theorem S_salvorref11_Bump{h : Heap} {a0 : (Sl × (Sl × (Int × Unit)))} {a1 : Int} (K : (Sl × (Sl × (Int × Unit))) → HP) (hF : F_salvorref11_Bump a0 a1 K h) : CallsH Try.prog fn_salvorref11_Bump #[(.agg #[(.slice a0.1.a a0.1.len a0.1.cap), (.slice a0.2.1.a a0.2.1.len a0.2.1.cap), (.int .i64 a0.2.2.1)]), (.int .i64 a1)] h fun v h' => ∃ x : (Sl × (Sl × (Int × Unit))), v = Ty.enc (.agg (.cons .sl (.cons .sl (.cons (.int .i64) .nil)))) x ∧ K x h' :=
  callsH_of_fn (P := Try.prog) (fn := Try.f51) (τ := (.agg (.cons .sl (.cons .sl (.cons (.int .i64) .nil))))) follows Try.func51 (by kernel_rfl) (by kernel_rfl) Try.call51 (Eq.mpr (E_salvorref11_Bump a0 a1 K h) hF)


/-- salvor/salvorref11.First -/
def F_salvorref11_First (a0 : (Sl × (Sl × (Int × Unit)))) (K : Int → HP) : HP :=
 nw #[(.slice a0.1.a a0.1.len a0.1.cap), (.slice a0.2.1.a a0.2.1.len a0.2.1.cap), (.int .i64 a0.2.2.1)] ty_salvorref11_Order fun b0 =>
 lfp (σ := (Int × (Int × Unit))) (fun X1 s2 => /- v best -/
 ldT .sl ((⟨b0, 0, none⟩ : Addr).add 1) fun x3 =>
 brB (decide (s2.1 ≤ (x3.len : Int)))
 (ldT .sl ((⟨b0, 0, none⟩ : Addr).add 1) fun x4 =>
 sx x4.a x4.len (IntKind.wrap .i64 (s2.1 - (1 : Int))) 1 fun p5 =>
 ldT (.int .i64) p5 fun x6 =>
 brB (x6 == (1 : Int))
 (brB (s2.2.1 == (0 : Int))
 (jn (σ := (Int × Unit)) (fun s8 => /- best -/
 X1 ((IntKind.wrap .i64 (s2.1 + (1 : Int))), s8.1, ()))
 (fun J7 =>
 J7 (s2.1, ())))
 (ldT .sl (⟨b0, 0, none⟩ : Addr) fun x9 =>
 sx x9.a x9.len (IntKind.wrap .i64 (s2.1 - (1 : Int))) 1 fun p10 =>
 ldT (.int .i64) p10 fun x11 =>
 ldT .sl (⟨b0, 0, none⟩ : Addr) fun x12 =>
 sx x12.a x12.len (IntKind.wrap .i64 (s2.2.1 - (1 : Int))) 1 fun p13 =>
 ldT (.int .i64) p13 fun x14 =>
 jn (σ := (Int × Unit)) (fun s16 => /- best -/
 X1 ((IntKind.wrap .i64 (s2.1 + (1 : Int))), s16.1, ()))
 (fun J15 =>
 brB (decide (x11 > x14))
 (J15 (s2.1, ()))
 (J15 (s2.2.1, ())))))
 (jn (σ := (Int × Unit)) (fun s18 => /- best -/
 X1 ((IntKind.wrap .i64 (s2.1 + (1 : Int))), s18.1, ()))
 (fun J17 =>
 J17 (s2.2.1, ()))))
 (K s2.2.1))
 ((1 : Int), (0 : Int), ())
set_option maxRecDepth 100000 in
theorem E_salvorref11_First (a0 : (Sl × (Sl × (Int × Unit)))) (K : Int → HP) (h : Heap) : fnVC Try.prog [(1000000, .bool)] 40 Try.f52 [(.agg #[(.slice a0.1.a a0.1.len a0.1.cap), (.slice a0.2.1.a a0.2.1.len a0.2.1.cap), (.int .i64 a0.2.2.1)])] (.int .i64) K h = F_salvorref11_First a0 K h := by kernel_rfl
set_option maxRecDepth 100000 in
theorem S_salvorref11_First{h : Heap} {a0 : (Sl × (Sl × (Int × Unit)))} (K : Int → HP) (hF : F_salvorref11_First a0 K h) : CallsH Try.prog fn_salvorref11_First #[(.agg #[(.slice a0.1.a a0.1.len a0.1.cap), (.slice a0.2.1.a a0.2.1.len a0.2.1.cap), (.int .i64 a0.2.2.1)])] h fun v h' => ∃ x : Int, v = Ty.enc (.int .i64) x ∧ K x h' :=
  callsH_of_fn (P := Try.prog) (fn := Try.f52) (τ := (.int .i64)) follows Try.func52 (by kernel_rfl) (by kernel_rfl) Try.call52 (Eq.mpr (E_salvorref11_First a0 K h) hF)


/-- salvor/salvorref11.Set -/
def F_salvorref11_Set (a0 : (Sl × (Sl × (Int × Unit)))) (a1 : Int) (a2 : Int) (K : (Sl × (Sl × (Int × Unit))) → HP) : HP :=
 nw #[(.slice a0.1.a a0.1.len a0.1.cap), (.slice a0.2.1.a a0.2.1.len a0.2.1.cap), (.int .i64 a0.2.2.1)] ty_salvorref11_Order fun b0 =>
 nw #[(.slice none 0 0), (.slice none 0 0), (.int .i64 (0 : Int))] ty_salvorref11_Order fun b1 =>
 ldT .sl ((⟨b0, 0, none⟩ : Addr).add 1) fun x2 =>
 callT Try.prog fn_salvorref11_with #[(.slice x2.a x2.len x2.cap), (.int .i64 (IntKind.wrap .i64 (a1 - (1 : Int)))), (.int .i64 a2)] .sl fun r3 =>
 st1 ((⟨b0, 0, none⟩ : Addr).add 1) (.slice r3.a r3.len r3.cap) <|
 ldA (.cons .sl (.cons .sl (.cons (.int .i64) .nil))) (⟨b0, 0, none⟩ : Addr) fun x4 =>
 st1 (⟨b1, 0, none⟩ : Addr) (.slice x4.1.a x4.1.len x4.1.cap) <|
 st1 ((⟨b1, 0, none⟩ : Addr).add 1) (.slice x4.2.1.a x4.2.1.len x4.2.1.cap) <|
 st1 ((⟨b1, 0, none⟩ : Addr).add 2) (.int .i64 x4.2.2.1) <|
 ldA (.cons .sl (.cons .sl (.cons (.int .i64) .nil))) (⟨b1, 0, none⟩ : Addr) fun x5 =>
 K (⟨x5.1.a, x5.1.len, x5.1.cap⟩, ⟨x5.2.1.a, x5.2.1.len, x5.2.1.cap⟩, x5.2.2.1, ())
set_option maxRecDepth 100000 in
theorem E_salvorref11_Set (a0 : (Sl × (Sl × (Int × Unit)))) (a1 : Int) (a2 : Int) (K : (Sl × (Sl × (Int × Unit))) → HP) (h : Heap) : fnVC Try.prog [(1000000, .bool)] 15 Try.f53 [(.agg #[(.slice a0.1.a a0.1.len a0.1.cap), (.slice a0.2.1.a a0.2.1.len a0.2.1.cap), (.int .i64 a0.2.2.1)]), (.int .i64 a1), (.int .i64 a2)] (.agg (.cons .sl (.cons .sl (.cons (.int .i64) .nil)))) K h = F_salvorref11_Set a0 a1 a2 K h := by kernel_rfl
set_option maxRecDepth 100000 in
theorem S_salvorref11_Set{h : Heap} {a0 : (Sl × (Sl × (Int × Unit)))} {a1 : Int} {a2 : Int} (K : (Sl × (Sl × (Int × Unit))) → HP) (hF : F_salvorref11_Set a0 a1 a2 K h) : CallsH Try.prog fn_salvorref11_Set #[(.agg #[(.slice a0.1.a a0.1.len a0.1.cap), (.slice a0.2.1.a a0.2.1.len a0.2.1.cap), (.int .i64 a0.2.2.1)]), (.int .i64 a1), (.int .i64 a2)] h fun v h' => ∃ x : (Sl × (Sl × (Int × Unit))), v = Ty.enc (.agg (.cons .sl (.cons .sl (.cons (.int .i64) .nil)))) x ∧ K x h' :=
  callsH_of_fn (P := Try.prog) (fn := Try.f53) (τ := (.agg (.cons .sl (.cons .sl (.cons (.int .i64) .nil))))) follows Try.func53 (by kernel_rfl) (by kernel_rfl) Try.call53 (Eq.mpr (E_salvorref11_Set a0 a1 a2 K h) hF)


/-- salvor/salvorref11.Decay -/
def F_salvorref11_Decay (a0 : (Sl × (Sl × (Int × Unit)))) (K : ((Sl × (Sl × (Int × Unit))) × (Int × Unit)) → HP) : HP :=
 nw #[(.slice a0.1.a a0.1.len a0.1.cap), (.slice a0.2.1.a a0.2.1.len a0.2.1.cap), (.int .i64 a0.2.2.1)] ty_salvorref11_Order fun b0 =>
 nw #[(.slice none 0 0), (.slice none 0 0), (.int .i64 (0 : Int))] ty_salvorref11_Order fun b1 =>
 ldT (.int .i64) ((⟨b0, 0, none⟩ : Addr).add 2) fun x2 =>
 ldT (.int .i64) ((⟨b0, 0, none⟩ : Addr).add 2) fun x3 =>
 nz (16 : Int) <|
 brB (decide ((IntKind.wrap .i64 ((IntKind.wrap .i64 (x2 + (IntKind.wrap .i64 (Int.tdiv x3 (16 : Int))))) + (1 : Int))) > (1125899906842624 : Int)))
 (ldA (.cons .sl (.cons .sl (.cons (.int .i64) .nil))) (⟨b0, 0, none⟩ : Addr) fun x4 =>
 st1 (⟨b1, 0, none⟩ : Addr) (.slice x4.1.a x4.1.len x4.1.cap) <|
 st1 ((⟨b1, 0, none⟩ : Addr).add 1) (.slice x4.2.1.a x4.2.1.len x4.2.1.cap) <|
 st1 ((⟨b1, 0, none⟩ : Addr).add 2) (.int .i64 x4.2.2.1) <|
 ldA (.cons .sl (.cons .sl (.cons (.int .i64) .nil))) (⟨b1, 0, none⟩ : Addr) fun x5 =>
 K ((⟨x5.1.a, x5.1.len, x5.1.cap⟩, ⟨x5.2.1.a, x5.2.1.len, x5.2.1.cap⟩, x5.2.2.1, ()), (4 : Int), ()))
 (st1 ((⟨b0, 0, none⟩ : Addr).add 2) (.int .i64 (IntKind.wrap .i64 ((IntKind.wrap .i64 (x2 + (IntKind.wrap .i64 (Int.tdiv x3 (16 : Int))))) + (1 : Int)))) <|
 ldA (.cons .sl (.cons .sl (.cons (.int .i64) .nil))) (⟨b0, 0, none⟩ : Addr) fun x6 =>
 st1 (⟨b1, 0, none⟩ : Addr) (.slice x6.1.a x6.1.len x6.1.cap) <|
 st1 ((⟨b1, 0, none⟩ : Addr).add 1) (.slice x6.2.1.a x6.2.1.len x6.2.1.cap) <|
 st1 ((⟨b1, 0, none⟩ : Addr).add 2) (.int .i64 x6.2.2.1) <|
 ldA (.cons .sl (.cons .sl (.cons (.int .i64) .nil))) (⟨b1, 0, none⟩ : Addr) fun x7 =>
 K ((⟨x7.1.a, x7.1.len, x7.1.cap⟩, ⟨x7.2.1.a, x7.2.1.len, x7.2.1.cap⟩, x7.2.2.1, ()), (0 : Int), ()))
set_option maxRecDepth 100000 in
theorem E_salvorref11_Decay (a0 : (Sl × (Sl × (Int × Unit)))) (K : ((Sl × (Sl × (Int × Unit))) × (Int × Unit)) → HP) (h : Heap) : fnVC Try.prog [(1000000, .bool)] 18 Try.f54 [(.agg #[(.slice a0.1.a a0.1.len a0.1.cap), (.slice a0.2.1.a a0.2.1.len a0.2.1.cap), (.int .i64 a0.2.2.1)])] (.tup (.cons (.agg (.cons .sl (.cons .sl (.cons (.int .i64) .nil)))) (.cons (.int .i64) .nil))) K h = F_salvorref11_Decay a0 K h := by kernel_rfl
set_option maxRecDepth 100000 in
theorem S_salvorref11_Decay{h : Heap} {a0 : (Sl × (Sl × (Int × Unit)))} (K : ((Sl × (Sl × (Int × Unit))) × (Int × Unit)) → HP) (hF : F_salvorref11_Decay a0 K h) : CallsH Try.prog fn_salvorref11_Decay #[(.agg #[(.slice a0.1.a a0.1.len a0.1.cap), (.slice a0.2.1.a a0.2.1.len a0.2.1.cap), (.int .i64 a0.2.2.1)])] h fun v h' => ∃ x : ((Sl × (Sl × (Int × Unit))) × (Int × Unit)), v = Ty.enc (.tup (.cons (.agg (.cons .sl (.cons .sl (.cons (.int .i64) .nil)))) (.cons (.int .i64) .nil))) x ∧ K x h' :=
  callsH_of_fn (P := Try.prog) (fn := Try.f54) (τ := (.tup (.cons (.agg (.cons .sl (.cons .sl (.cons (.int .i64) .nil)))) (.cons (.int .i64) .nil)))) follows Try.func54 (by kernel_rfl) (by kernel_rfl) Try.call54 (Eq.mpr (E_salvorref11_Decay a0 K h) hF)


/-- salvor/salvorref11.All -/
def F_salvorref11_All (a0 : (Sl × (Sl × (Int × Unit)))) (K : Sl → HP) : HP :=
 nw #[(.slice a0.1.a a0.1.len a0.1.cap), (.slice a0.2.1.a a0.2.1.len a0.2.1.cap), (.int .i64 a0.2.2.1)] ty_salvorref11_Order fun b0 =>
 ldA (.cons .sl (.cons .sl (.cons (.int .i64) .nil))) (⟨b0, 0, none⟩ : Addr) fun x1 =>
 callT Try.prog fn_salvorref11_First #[(.agg #[(.slice x1.1.a x1.1.len x1.1.cap), (.slice x1.2.1.a x1.2.1.len x1.2.1.cap), (.int .i64 x1.2.2.1)])] (.int .i64) fun r2 =>
 lfp (σ := (Int × (Sl × Unit))) (fun X3 s4 => /- v out -/
 brB (decide (s4.1 > (0 : Int)))
 (nw #[(.int .i64 s4.1)] ty_int fun b5 =>
 apd ty_int 1 8 #[(.int .i64 (0 : Int))] ⟨s4.2.1.a, s4.2.1.len, s4.2.1.cap⟩ ⟨(some (⟨b5, 0, none⟩ : Addr)), 1, 1⟩ fun s6 =>
 ldA (.cons .sl (.cons .sl (.cons (.int .i64) .nil))) (⟨b0, 0, none⟩ : Addr) fun x7 =>
 callT Try.prog fn_salvorref11_Set #[(.agg #[(.slice x7.1.a x7.1.len x7.1.cap), (.slice x7.2.1.a x7.2.1.len x7.2.1.cap), (.int .i64 x7.2.2.1)]), (.int .i64 s4.1), (.int .i64 (0 : Int))] (.agg (.cons .sl (.cons .sl (.cons (.int .i64) .nil)))) fun r8 =>
 st1 (⟨b0, 0, none⟩ : Addr) (.slice r8.1.a r8.1.len r8.1.cap) <|
 st1 ((⟨b0, 0, none⟩ : Addr).add 1) (.slice r8.2.1.a r8.2.1.len r8.2.1.cap) <|
 st1 ((⟨b0, 0, none⟩ : Addr).add 2) (.int .i64 r8.2.2.1) <|
 ldA (.cons .sl (.cons .sl (.cons (.int .i64) .nil))) (⟨b0, 0, none⟩ : Addr) fun x9 =>
 callT Try.prog fn_salvorref11_First #[(.agg #[(.slice x9.1.a x9.1.len x9.1.cap), (.slice x9.2.1.a x9.2.1.len x9.2.1.cap), (.int .i64 x9.2.2.1)])] (.int .i64) fun r10 =>
 X3 (r10, ⟨s6.a, s6.len, s6.cap⟩, ()))
 (K ⟨s4.2.1.a, s4.2.1.len, s4.2.1.cap⟩))
 (r2, ⟨none, 0, 0⟩, ())
set_option maxRecDepth 100000 in
theorem E_salvorref11_All (a0 : (Sl × (Sl × (Int × Unit)))) (K : Sl → HP) (h : Heap) : fnVC Try.prog [(1000000, .bool)] 19 Try.f55 [(.agg #[(.slice a0.1.a a0.1.len a0.1.cap), (.slice a0.2.1.a a0.2.1.len a0.2.1.cap), (.int .i64 a0.2.2.1)])] .sl K h = F_salvorref11_All a0 K h := by kernel_rfl
set_option maxRecDepth 100000 in
theorem S_salvorref11_All{h : Heap} {a0 : (Sl × (Sl × (Int × Unit)))} (K : Sl → HP) (hF : F_salvorref11_All a0 K h) : CallsH Try.prog fn_salvorref11_All #[(.agg #[(.slice a0.1.a a0.1.len a0.1.cap), (.slice a0.2.1.a a0.2.1.len a0.2.1.cap), (.int .i64 a0.2.2.1)])] h fun v h' => ∃ x : Sl, v = Ty.enc .sl x ∧ K x h' :=
  callsH_of_fn (P := Try.prog) (fn := Try.f55) (τ := .sl) follows Try.func55 (by kernel_rfl) (by kernel_rfl) Try.call55 (Eq.mpr (E_salvorref11_All a0 K h) hF)


/-- slices.insertionSortCmpFunc[int] -/
def F_slices_insertionSortCmpFunc_int (a0 : Sl) (a1 : Int) (a2 : Int) (a3 : Value) (K : Unit → HP) : HP :=
 lfp (σ := (Int × Unit)) (fun X0 s1 => /- i -/
 brB (decide (s1.1 < a2))
 (jn (σ := (Int × Unit)) (fun s3 => /- j -/
 X0 ((IntKind.wrap .i64 (s1.1 + (1 : Int))), ()))
 (fun J2 =>
 lfp (σ := (Int × Unit)) (fun X4 s5 => /- j -/
 brB (decide (s5.1 > a1))
 (sx a0.a a0.len s5.1 1 fun p6 =>
 ldT (.int .i64) p6 fun x7 =>
 sx a0.a a0.len (IntKind.wrap .i64 (s5.1 - (1 : Int))) 1 fun p8 =>
 ldT (.int .i64) p8 fun x9 =>
 callF Try.prog a3 #[(.int .i64 x7), (.int .i64 x9)] (.int .i64) fun r10 =>
 brB (decide (r10 < (0 : Int)))
 (sx a0.a a0.len (IntKind.wrap .i64 (s5.1 - (1 : Int))) 1 fun p11 =>
 ldT (.int .i64) p11 fun x12 =>
 sx a0.a a0.len s5.1 1 fun p13 =>
 ldT (.int .i64) p13 fun x14 =>
 sx a0.a a0.len s5.1 1 fun p15 =>
 st1 p15 (.int .i64 x12) <|
 sx a0.a a0.len (IntKind.wrap .i64 (s5.1 - (1 : Int))) 1 fun p16 =>
 st1 p16 (.int .i64 x14) <|
 X4 ((IntKind.wrap .i64 (s5.1 - (1 : Int))), ()))
 (J2 (s5.1, ())))
 (J2 (s5.1, ())))
 (s1.1, ())))
 (K (())))
 ((IntKind.wrap .i64 (a1 + (1 : Int))), ())
set_option maxRecDepth 100000 in
theorem E_slices_insertionSortCmpFunc_int (a0 : Sl) (a1 : Int) (a2 : Int) (a3 : Value) (K : Unit → HP) (h : Heap) : fnVC Try.prog [(1000000, .nil)] 53 Try.f56 [(.slice a0.a a0.len a0.cap), (.int .i64 a1), (.int .i64 a2), a3] (.tup .nil) K h = F_slices_insertionSortCmpFunc_int a0 a1 a2 a3 K h := by kernel_rfl
set_option maxRecDepth 100000 in
theorem S_slices_insertionSortCmpFunc_int{h : Heap} {a0 : Sl} {a1 : Int} {a2 : Int} {a3 : Value} (K : Unit → HP) (hF : F_slices_insertionSortCmpFunc_int a0 a1 a2 a3 K h) : CallsH Try.prog fn_slices_insertionSortCmpFunc_int #[(.slice a0.a a0.len a0.cap), (.int .i64 a1), (.int .i64 a2), a3] h fun v h' => ∃ x : Unit, v = Ty.enc (.tup .nil) x ∧ K x h' :=
  callsH_of_fn (P := Try.prog) (fn := Try.f56) (τ := (.tup .nil)) follows Try.func56 (by kernel_rfl) (by kernel_rfl) Try.call56 (Eq.mpr (E_slices_insertionSortCmpFunc_int a0 a1 a2 a3 K h) hF)


/-- slices.heapSortCmpFunc[int] -/
def F_slices_heapSortCmpFunc_int (a0 : Sl) (a1 : Int) (a2 : Int) (a3 : Value) (K : Unit → HP) : HP :=
 nz (2 : Int) <|
 lfp (σ := (Int × Unit)) (fun X0 s1 => /- i -/
 brB (decide (s1.1 ≥ (0 : Int)))
 (callT Try.prog fn_slices_siftDownCmpFunc_int #[(.slice a0.a a0.len a0.cap), (.int .i64 s1.1), (.int .i64 (IntKind.wrap .i64 (a2 - a1))), (.int .i64 a1), a3] (.tup .nil) fun r2 =>
 X0 ((IntKind.wrap .i64 (s1.1 - (1 : Int))), ()))
 (lfp (σ := (Int × Unit)) (fun X3 s4 => /- i -/
 brB (decide (s4.1 ≥ (0 : Int)))
 (sx a0.a a0.len (IntKind.wrap .i64 (a1 + s4.1)) 1 fun p5 =>
 ldT (.int .i64) p5 fun x6 =>
 sx a0.a a0.len a1 1 fun p7 =>
 ldT (.int .i64) p7 fun x8 =>
 sx a0.a a0.len a1 1 fun p9 =>
 st1 p9 (.int .i64 x6) <|
 sx a0.a a0.len (IntKind.wrap .i64 (a1 + s4.1)) 1 fun p10 =>
 st1 p10 (.int .i64 x8) <|
 callT Try.prog fn_slices_siftDownCmpFunc_int #[(.slice a0.a a0.len a0.cap), (.int .i64 (0 : Int)), (.int .i64 s4.1), (.int .i64 a1), a3] (.tup .nil) fun r11 =>
 X3 ((IntKind.wrap .i64 (s4.1 - (1 : Int))), ()))
 (K (())))
 ((IntKind.wrap .i64 ((IntKind.wrap .i64 (a2 - a1)) - (1 : Int))), ())))
 ((IntKind.wrap .i64 (Int.tdiv (IntKind.wrap .i64 ((IntKind.wrap .i64 (a2 - a1)) - (1 : Int))) (2 : Int))), ())
set_option maxRecDepth 100000 in
theorem E_slices_heapSortCmpFunc_int (a0 : Sl) (a1 : Int) (a2 : Int) (a3 : Value) (K : Unit → HP) (h : Heap) : fnVC Try.prog [(1000000, .nil)] 60 Try.f57 [(.slice a0.a a0.len a0.cap), (.int .i64 a1), (.int .i64 a2), a3] (.tup .nil) K h = F_slices_heapSortCmpFunc_int a0 a1 a2 a3 K h := by kernel_rfl
set_option maxRecDepth 100000 in
theorem S_slices_heapSortCmpFunc_int{h : Heap} {a0 : Sl} {a1 : Int} {a2 : Int} {a3 : Value} (K : Unit → HP) (hF : F_slices_heapSortCmpFunc_int a0 a1 a2 a3 K h) : CallsH Try.prog fn_slices_heapSortCmpFunc_int #[(.slice a0.a a0.len a0.cap), (.int .i64 a1), (.int .i64 a2), a3] h fun v h' => ∃ x : Unit, v = Ty.enc (.tup .nil) x ∧ K x h' :=
  callsH_of_fn (P := Try.prog) (fn := Try.f57) (τ := (.tup .nil)) follows Try.func57 (by kernel_rfl) (by kernel_rfl) Try.call57 (Eq.mpr (E_slices_heapSortCmpFunc_int a0 a1 a2 a3 K h) hF)


/-- slices.breakPatternsCmpFunc[int] -/
def F_slices_breakPatternsCmpFunc_int (a0 : Sl) (a1 : Int) (a2 : Int) (a3 : Value) (K : Unit → HP) : HP :=
 jn (σ := Unit) (fun s1 => /- -/
 K (()))
 (fun J0 =>
 brB (decide ((IntKind.wrap .i64 (a2 - a1)) ≥ (8 : Int)))
 (nw #[(.int .u64 (0 : Int))] ty_slices_xorshift fun b2 =>
 st1 (⟨b2, 0, none⟩ : Addr) (.int .u64 (IntKind.wrap .u64 (IntKind.wrap .i64 (a2 - a1)))) <|
 callT Try.prog fn_slices_nextPowerOfTwo #[(.int .i64 (IntKind.wrap .i64 (a2 - a1)))] (.int .u64) fun r3 =>
 nz (4 : Int) <|
 lfp (σ := (Int × Unit)) (fun X4 s5 => /- idx -/
 nz (4 : Int) <|
 brB (decide (s5.1 ≤ (IntKind.wrap .i64 ((IntKind.wrap .i64 (a1 + (IntKind.wrap .i64 ((IntKind.wrap .i64 (Int.tdiv (IntKind.wrap .i64 (a2 - a1)) (4 : Int))) * (2 : Int))))) + (1 : Int)))))
 (callT Try.prog fn_slices_xorshift_Next #[(.pointer (some (⟨b2, 0, none⟩ : Addr)))] (.int .u64) fun r6 =>
 jn (σ := (Int × Unit)) (fun s8 => /- other -/
 sx a0.a a0.len (IntKind.wrap .i64 (a1 + s8.1)) 1 fun p9 =>
 ldT (.int .i64) p9 fun x10 =>
 sx a0.a a0.len s5.1 1 fun p11 =>
 ldT (.int .i64) p11 fun x12 =>
 sx a0.a a0.len s5.1 1 fun p13 =>
 st1 p13 (.int .i64 x10) <|
 sx a0.a a0.len (IntKind.wrap .i64 (a1 + s8.1)) 1 fun p14 =>
 st1 p14 (.int .i64 x12) <|
 X4 ((IntKind.wrap .i64 (s5.1 + (1 : Int))), ()))
 (fun J7 =>
 brB (decide ((IntKind.wrap .i64 (bAnd .u64 r6 (IntKind.wrap .u64 (r3 - (1 : Int))))) ≥ (IntKind.wrap .i64 (a2 - a1))))
 (J7 ((IntKind.wrap .i64 ((IntKind.wrap .i64 (bAnd .u64 r6 (IntKind.wrap .u64 (r3 - (1 : Int))))) - (IntKind.wrap .i64 (a2 - a1)))), ()))
 (J7 ((IntKind.wrap .i64 (bAnd .u64 r6 (IntKind.wrap .u64 (r3 - (1 : Int))))), ()))))
 (J0 (())))
 ((IntKind.wrap .i64 ((IntKind.wrap .i64 (a1 + (IntKind.wrap .i64 ((IntKind.wrap .i64 (Int.tdiv (IntKind.wrap .i64 (a2 - a1)) (4 : Int))) * (2 : Int))))) - (1 : Int))), ()))
 (J0 (())))
set_option maxRecDepth 100000 in
theorem E_slices_breakPatternsCmpFunc_int (a0 : Sl) (a1 : Int) (a2 : Int) (a3 : Value) (K : Unit → HP) (h : Heap) : fnVC Try.prog [(1000000, .nil)] 67 Try.f58 [(.slice a0.a a0.len a0.cap), (.int .i64 a1), (.int .i64 a2), a3] (.tup .nil) K h = F_slices_breakPatternsCmpFunc_int a0 a1 a2 a3 K h := by kernel_rfl
set_option maxRecDepth 100000 in
theorem S_slices_breakPatternsCmpFunc_int{h : Heap} {a0 : Sl} {a1 : Int} {a2 : Int} {a3 : Value} (K : Unit → HP) (hF : F_slices_breakPatternsCmpFunc_int a0 a1 a2 a3 K h) : CallsH Try.prog fn_slices_breakPatternsCmpFunc_int #[(.slice a0.a a0.len a0.cap), (.int .i64 a1), (.int .i64 a2), a3] h fun v h' => ∃ x : Unit, v = Ty.enc (.tup .nil) x ∧ K x h' :=
  callsH_of_fn (P := Try.prog) (fn := Try.f58) (τ := (.tup .nil)) follows Try.func58 (by kernel_rfl) (by kernel_rfl) Try.call58 (Eq.mpr (E_slices_breakPatternsCmpFunc_int a0 a1 a2 a3 K h) hF)


/-- slices.choosePivotCmpFunc[int] -/
def F_slices_choosePivotCmpFunc_int (a0 : Sl) (a1 : Int) (a2 : Int) (a3 : Value) (K : (Int × (Int × Unit)) → HP) : HP :=
 nw #[(.int .i64 (0 : Int))] ty_int fun b0 =>
 nz (4 : Int) <|
 nz (4 : Int) <|
 nz (4 : Int) <|
 jn (σ := (Int × (Int × (Int × Unit)))) (fun s2 => /- k j i -/
 ldT (.int .i64) (⟨b0, 0, none⟩ : Addr) fun x3 =>
 brB (x3 == (0 : Int))
 (K (s2.2.1, (1 : Int), ()))
 (brB (x3 == (12 : Int))
 (K (s2.2.1, (2 : Int), ()))
 (K (s2.2.1, (0 : Int), ()))))
 (fun J1 =>
 brB (decide ((IntKind.wrap .i64 (a2 - a1)) ≥ (8 : Int)))
 (jn (σ := (Int × (Int × (Int × Unit)))) (fun s5 => /- k j i -/
 callT Try.prog fn_slices_medianCmpFunc_int #[(.slice a0.a a0.len a0.cap), (.int .i64 s5.2.2.1), (.int .i64 s5.2.1), (.int .i64 s5.1), (.pointer (some (⟨b0, 0, none⟩ : Addr))), a3] (.int .i64) fun r6 =>
 J1 (s5.1, r6, s5.2.2.1, ()))
 (fun J4 =>
 brB (decide ((IntKind.wrap .i64 (a2 - a1)) ≥ (50 : Int)))
 (callT Try.prog fn_slices_medianAdjacentCmpFunc_int #[(.slice a0.a a0.len a0.cap), (.int .i64 (IntKind.wrap .i64 (a1 + (IntKind.wrap .i64 ((IntKind.wrap .i64 (Int.tdiv (IntKind.wrap .i64 (a2 - a1)) (4 : Int))) * (1 : Int)))))), (.pointer (some (⟨b0, 0, none⟩ : Addr))), a3] (.int .i64) fun r7 =>
 callT Try.prog fn_slices_medianAdjacentCmpFunc_int #[(.slice a0.a a0.len a0.cap), (.int .i64 (IntKind.wrap .i64 (a1 + (IntKind.wrap .i64 ((IntKind.wrap .i64 (Int.tdiv (IntKind.wrap .i64 (a2 - a1)) (4 : Int))) * (2 : Int)))))), (.pointer (some (⟨b0, 0, none⟩ : Addr))), a3] (.int .i64) fun r8 =>
 callT Try.prog fn_slices_medianAdjacentCmpFunc_int #[(.slice a0.a a0.len a0.cap), (.int .i64 (IntKind.wrap .i64 (a1 + (IntKind.wrap .i64 ((IntKind.wrap .i64 (Int.tdiv (IntKind.wrap .i64 (a2 - a1)) (4 : Int))) * (3 : Int)))))), (.pointer (some (⟨b0, 0, none⟩ : Addr))), a3] (.int .i64) fun r9 =>
 J4 (r9, r8, r7, ()))
 (J4 ((IntKind.wrap .i64 (a1 + (IntKind.wrap .i64 ((IntKind.wrap .i64 (Int.tdiv (IntKind.wrap .i64 (a2 - a1)) (4 : Int))) * (3 : Int))))), (IntKind.wrap .i64 (a1 + (IntKind.wrap .i64 ((IntKind.wrap .i64 (Int.tdiv (IntKind.wrap .i64 (a2 - a1)) (4 : Int))) * (2 : Int))))), (IntKind.wrap .i64 (a1 + (IntKind.wrap .i64 ((IntKind.wrap .i64 (Int.tdiv (IntKind.wrap .i64 (a2 - a1)) (4 : Int))) * (1 : Int))))), ()))))
 (J1 ((IntKind.wrap .i64 (a1 + (IntKind.wrap .i64 ((IntKind.wrap .i64 (Int.tdiv (IntKind.wrap .i64 (a2 - a1)) (4 : Int))) * (3 : Int))))), (IntKind.wrap .i64 (a1 + (IntKind.wrap .i64 ((IntKind.wrap .i64 (Int.tdiv (IntKind.wrap .i64 (a2 - a1)) (4 : Int))) * (2 : Int))))), (IntKind.wrap .i64 (a1 + (IntKind.wrap .i64 ((IntKind.wrap .i64 (Int.tdiv (IntKind.wrap .i64 (a2 - a1)) (4 : Int))) * (1 : Int))))), ())))
set_option maxRecDepth 100000 in
theorem E_slices_choosePivotCmpFunc_int (a0 : Sl) (a1 : Int) (a2 : Int) (a3 : Value) (K : (Int × (Int × Unit)) → HP) (h : Heap) : fnVC Try.prog [(1000000, .nil)] 63 Try.f59 [(.slice a0.a a0.len a0.cap), (.int .i64 a1), (.int .i64 a2), a3] (.tup (.cons (.int .i64) (.cons (.int .i64) .nil))) K h = F_slices_choosePivotCmpFunc_int a0 a1 a2 a3 K h := by kernel_rfl
set_option maxRecDepth 100000 in
theorem S_slices_choosePivotCmpFunc_int{h : Heap} {a0 : Sl} {a1 : Int} {a2 : Int} {a3 : Value} (K : (Int × (Int × Unit)) → HP) (hF : F_slices_choosePivotCmpFunc_int a0 a1 a2 a3 K h) : CallsH Try.prog fn_slices_choosePivotCmpFunc_int #[(.slice a0.a a0.len a0.cap), (.int .i64 a1), (.int .i64 a2), a3] h fun v h' => ∃ x : (Int × (Int × Unit)), v = Ty.enc (.tup (.cons (.int .i64) (.cons (.int .i64) .nil))) x ∧ K x h' :=
  callsH_of_fn (P := Try.prog) (fn := Try.f59) (τ := (.tup (.cons (.int .i64) (.cons (.int .i64) .nil)))) follows Try.func59 (by kernel_rfl) (by kernel_rfl) Try.call59 (Eq.mpr (E_slices_choosePivotCmpFunc_int a0 a1 a2 a3 K h) hF)


/-- slices.reverseRangeCmpFunc[int] -/
def F_slices_reverseRangeCmpFunc_int (a0 : Sl) (a1 : Int) (a2 : Int) (a3 : Value) (K : Unit → HP) : HP :=
 lfp (σ := (Int × (Int × Unit))) (fun X0 s1 => /- j i -/
 brB (decide (s1.2.1 < s1.1))
 (sx a0.a a0.len s1.1 1 fun p2 =>
 ldT (.int .i64) p2 fun x3 =>
 sx a0.a a0.len s1.2.1 1 fun p4 =>
 ldT (.int .i64) p4 fun x5 =>
 sx a0.a a0.len s1.2.1 1 fun p6 =>
 st1 p6 (.int .i64 x3) <|
 sx a0.a a0.len s1.1 1 fun p7 =>
 st1 p7 (.int .i64 x5) <|
 X0 ((IntKind.wrap .i64 (s1.1 - (1 : Int))), (IntKind.wrap .i64 (s1.2.1 + (1 : Int))), ()))
 (K (())))
 ((IntKind.wrap .i64 (a2 - (1 : Int))), a1, ())
set_option maxRecDepth 100000 in
theorem E_slices_reverseRangeCmpFunc_int (a0 : Sl) (a1 : Int) (a2 : Int) (a3 : Value) (K : Unit → HP) (h : Heap) : fnVC Try.prog [(1000000, .nil)] 34 Try.f60 [(.slice a0.a a0.len a0.cap), (.int .i64 a1), (.int .i64 a2), a3] (.tup .nil) K h = F_slices_reverseRangeCmpFunc_int a0 a1 a2 a3 K h := by kernel_rfl
set_option maxRecDepth 100000 in
theorem S_slices_reverseRangeCmpFunc_int{h : Heap} {a0 : Sl} {a1 : Int} {a2 : Int} {a3 : Value} (K : Unit → HP) (hF : F_slices_reverseRangeCmpFunc_int a0 a1 a2 a3 K h) : CallsH Try.prog fn_slices_reverseRangeCmpFunc_int #[(.slice a0.a a0.len a0.cap), (.int .i64 a1), (.int .i64 a2), a3] h fun v h' => ∃ x : Unit, v = Ty.enc (.tup .nil) x ∧ K x h' :=
  callsH_of_fn (P := Try.prog) (fn := Try.f60) (τ := (.tup .nil)) follows Try.func60 (by kernel_rfl) (by kernel_rfl) Try.call60 (Eq.mpr (E_slices_reverseRangeCmpFunc_int a0 a1 a2 a3 K h) hF)


/-- slices.partialInsertionSortCmpFunc[int] -/
def F_slices_partialInsertionSortCmpFunc_int (a0 : Sl) (a1 : Int) (a2 : Int) (a3 : Value) (K : Bool → HP) : HP :=
 lfp (σ := (Int × (Int × (Bool × Unit)))) (fun X0 s1 => /- j i  -/
 brB (decide (s1.1 < (5 : Int)))
 (jn (σ := (Int × Unit)) (fun s3 => /- i -/
 brB (s3.1 == a2)
 (K true)
 (brB (decide ((IntKind.wrap .i64 (a2 - a1)) < (50 : Int)))
 (K false)
 (sx a0.a a0.len (IntKind.wrap .i64 (s3.1 - (1 : Int))) 1 fun p4 =>
 ldT (.int .i64) p4 fun x5 =>
 sx a0.a a0.len s3.1 1 fun p6 =>
 ldT (.int .i64) p6 fun x7 =>
 sx a0.a a0.len s3.1 1 fun p8 =>
 st1 p8 (.int .i64 x5) <|
 sx a0.a a0.len (IntKind.wrap .i64 (s3.1 - (1 : Int))) 1 fun p9 =>
 st1 p9 (.int .i64 x7) <|
 jn (σ := Unit) (fun s11 => /- -/
 jn (σ := Unit) (fun s13 => /- -/
 X0 ((IntKind.wrap .i64 (s1.1 + (1 : Int))), s3.1, s1.2.2.1, ()))
 (fun J12 =>
 brB (decide ((IntKind.wrap .i64 (a2 - s3.1)) ≥ (2 : Int)))
 (jn (σ := (Int × Unit)) (fun s15 => /- j -/
 J12 (()))
 (fun J14 =>
 lfp (σ := (Int × Unit)) (fun X16 s17 => /- j -/
 brB (decide (s17.1 < a2))
 (sx a0.a a0.len s17.1 1 fun p18 =>
 ldT (.int .i64) p18 fun x19 =>
 sx a0.a a0.len (IntKind.wrap .i64 (s17.1 - (1 : Int))) 1 fun p20 =>
 ldT (.int .i64) p20 fun x21 =>
 callF Try.prog a3 #[(.int .i64 x19), (.int .i64 x21)] (.int .i64) fun r22 =>
 brB (!(decide (r22 < (0 : Int))))
 (J14 (s17.1, ()))
 (sx a0.a a0.len (IntKind.wrap .i64 (s17.1 - (1 : Int))) 1 fun p23 =>
 ldT (.int .i64) p23 fun x24 =>
 sx a0.a a0.len s17.1 1 fun p25 =>
 ldT (.int .i64) p25 fun x26 =>
 sx a0.a a0.len s17.1 1 fun p27 =>
 st1 p27 (.int .i64 x24) <|
 sx a0.a a0.len (IntKind.wrap .i64 (s17.1 - (1 : Int))) 1 fun p28 =>
 st1 p28 (.int .i64 x26) <|
 X16 ((IntKind.wrap .i64 (s17.1 + (1 : Int))), ())))
 (J14 (s17.1, ())))
 ((IntKind.wrap .i64 (s3.1 + (1 : Int))), ())))
 (J12 (()))))
 (fun J10 =>
 brB (decide ((IntKind.wrap .i64 (s3.1 - a1)) ≥ (2 : Int)))
 (jn (σ := (Int × Unit)) (fun s30 => /- j -/
 J10 (()))
 (fun J29 =>
 lfp (σ := (Int × Unit)) (fun X31 s32 => /- j -/
 brB (decide (s32.1 ≥ (1 : Int)))
 (sx a0.a a0.len s32.1 1 fun p33 =>
 ldT (.int .i64) p33 fun x34 =>
 sx a0.a a0.len (IntKind.wrap .i64 (s32.1 - (1 : Int))) 1 fun p35 =>
 ldT (.int .i64) p35 fun x36 =>
 callF Try.prog a3 #[(.int .i64 x34), (.int .i64 x36)] (.int .i64) fun r37 =>
 brB (!(decide (r37 < (0 : Int))))
 (J29 (s32.1, ()))
 (sx a0.a a0.len (IntKind.wrap .i64 (s32.1 - (1 : Int))) 1 fun p38 =>
 ldT (.int .i64) p38 fun x39 =>
 sx a0.a a0.len s32.1 1 fun p40 =>
 ldT (.int .i64) p40 fun x41 =>
 sx a0.a a0.len s32.1 1 fun p42 =>
 st1 p42 (.int .i64 x39) <|
 sx a0.a a0.len (IntKind.wrap .i64 (s32.1 - (1 : Int))) 1 fun p43 =>
 st1 p43 (.int .i64 x41) <|
 X31 ((IntKind.wrap .i64 (s32.1 - (1 : Int))), ())))
 (J29 (s32.1, ())))
 ((IntKind.wrap .i64 (s3.1 - (1 : Int))), ())))
 (J10 (()))))))
 (fun J2 =>
 lfp (σ := (Int × Unit)) (fun X44 s45 => /- i -/
 brB (decide (s45.1 < a2))
 (sx a0.a a0.len s45.1 1 fun p46 =>
 ldT (.int .i64) p46 fun x47 =>
 sx a0.a a0.len (IntKind.wrap .i64 (s45.1 - (1 : Int))) 1 fun p48 =>
 ldT (.int .i64) p48 fun x49 =>
 callF Try.prog a3 #[(.int .i64 x47), (.int .i64 x49)] (.int .i64) fun r50 =>
 brB (!(decide (r50 < (0 : Int))))
 (X44 ((IntKind.wrap .i64 (s45.1 + (1 : Int))), ()))
 (J2 (s45.1, ())))
 (J2 (s45.1, ())))
 (s1.2.1, ())))
 (K false))
 ((0 : Int), (IntKind.wrap .i64 (a1 + (1 : Int))), false, ())
set_option maxRecDepth 100000 in
theorem E_slices_partialInsertionSortCmpFunc_int (a0 : Sl) (a1 : Int) (a2 : Int) (a3 : Value) (K : Bool → HP) (h : Heap) : fnVC Try.prog [(1000000, .nil)] 141 Try.f61 [(.slice a0.a a0.len a0.cap), (.int .i64 a1), (.int .i64 a2), a3] .bool K h = F_slices_partialInsertionSortCmpFunc_int a0 a1 a2 a3 K h := by kernel_rfl
set_option maxRecDepth 100000 in
theorem S_slices_partialInsertionSortCmpFunc_int{h : Heap} {a0 : Sl} {a1 : Int} {a2 : Int} {a3 : Value} (K : Bool → HP) (hF : F_slices_partialInsertionSortCmpFunc_int a0 a1 a2 a3 K h) : CallsH Try.prog fn_slices_partialInsertionSortCmpFunc_int #[(.slice a0.a a0.len a0.cap), (.int .i64 a1), (.int .i64 a2), a3] h fun v h' => ∃ x : Bool, v = Ty.enc .bool x ∧ K x h' :=
  callsH_of_fn (P := Try.prog) (fn := Try.f61) (τ := .bool) follows Try.func61 (by kernel_rfl) (by kernel_rfl) Try.call61 (Eq.mpr (E_slices_partialInsertionSortCmpFunc_int a0 a1 a2 a3 K h) hF)


/-- slices.partitionEqualCmpFunc[int] -/
def F_slices_partitionEqualCmpFunc_int (a0 : Sl) (a1 : Int) (a2 : Int) (a3 : Int) (a4 : Value) (K : Int → HP) : HP :=
 sx a0.a a0.len a3 1 fun p0 =>
 ldT (.int .i64) p0 fun x1 =>
 sx a0.a a0.len a1 1 fun p2 =>
 ldT (.int .i64) p2 fun x3 =>
 sx a0.a a0.len a1 1 fun p4 =>
 st1 p4 (.int .i64 x1) <|
 sx a0.a a0.len a3 1 fun p5 =>
 st1 p5 (.int .i64 x3) <|
 lfp (σ := (Int × (Int × Unit))) (fun X6 s7 => /- j i -/
 jn (σ := (Int × Unit)) (fun s9 => /- i -/
 jn (σ := (Int × Unit)) (fun s11 => /- j -/
 brB (decide (s9.1 > s11.1))
 (K s9.1)
 (sx a0.a a0.len s11.1 1 fun p12 =>
 ldT (.int .i64) p12 fun x13 =>
 sx a0.a a0.len s9.1 1 fun p14 =>
 ldT (.int .i64) p14 fun x15 =>
 sx a0.a a0.len s9.1 1 fun p16 =>
 st1 p16 (.int .i64 x13) <|
 sx a0.a a0.len s11.1 1 fun p17 =>
 st1 p17 (.int .i64 x15) <|
 X6 ((IntKind.wrap .i64 (s11.1 - (1 : Int))), (IntKind.wrap .i64 (s9.1 + (1 : Int))), ())))
 (fun J10 =>
 lfp (σ := (Int × Unit)) (fun X18 s19 => /- j -/
 brB (decide (s9.1 ≤ s19.1))
 (sx a0.a a0.len a1 1 fun p20 =>
 ldT (.int .i64) p20 fun x21 =>
 sx a0.a a0.len s19.1 1 fun p22 =>
 ldT (.int .i64) p22 fun x23 =>
 callF Try.prog a4 #[(.int .i64 x21), (.int .i64 x23)] (.int .i64) fun r24 =>
 brB (decide (r24 < (0 : Int)))
 (X18 ((IntKind.wrap .i64 (s19.1 - (1 : Int))), ()))
 (J10 (s19.1, ())))
 (J10 (s19.1, ())))
 (s7.1, ())))
 (fun J8 =>
 lfp (σ := (Int × Unit)) (fun X25 s26 => /- i -/
 brB (decide (s26.1 ≤ s7.1))
 (sx a0.a a0.len a1 1 fun p27 =>
 ldT (.int .i64) p27 fun x28 =>
 sx a0.a a0.len s26.1 1 fun p29 =>
 ldT (.int .i64) p29 fun x30 =>
 callF Try.prog a4 #[(.int .i64 x28), (.int .i64 x30)] (.int .i64) fun r31 =>
 brB (!(decide (r31 < (0 : Int))))
 (X25 ((IntKind.wrap .i64 (s26.1 + (1 : Int))), ()))
 (J8 (s26.1, ())))
 (J8 (s26.1, ())))
 (s7.2.1, ())))
 ((IntKind.wrap .i64 (a2 - (1 : Int))), (IntKind.wrap .i64 (a1 + (1 : Int))), ())
set_option maxRecDepth 100000 in
theorem E_slices_partitionEqualCmpFunc_int (a0 : Sl) (a1 : Int) (a2 : Int) (a3 : Int) (a4 : Value) (K : Int → HP) (h : Heap) : fnVC Try.prog [(1000000, .nil)] 90 Try.f62 [(.slice a0.a a0.len a0.cap), (.int .i64 a1), (.int .i64 a2), (.int .i64 a3), a4] (.int .i64) K h = F_slices_partitionEqualCmpFunc_int a0 a1 a2 a3 a4 K h := by kernel_rfl
set_option maxRecDepth 100000 in
theorem S_slices_partitionEqualCmpFunc_int{h : Heap} {a0 : Sl} {a1 : Int} {a2 : Int} {a3 : Int} {a4 : Value} (K : Int → HP) (hF : F_slices_partitionEqualCmpFunc_int a0 a1 a2 a3 a4 K h) : CallsH Try.prog fn_slices_partitionEqualCmpFunc_int #[(.slice a0.a a0.len a0.cap), (.int .i64 a1), (.int .i64 a2), (.int .i64 a3), a4] h fun v h' => ∃ x : Int, v = Ty.enc (.int .i64) x ∧ K x h' :=
  callsH_of_fn (P := Try.prog) (fn := Try.f62) (τ := (.int .i64)) follows Try.func62 (by kernel_rfl) (by kernel_rfl) Try.call62 (Eq.mpr (E_slices_partitionEqualCmpFunc_int a0 a1 a2 a3 a4 K h) hF)


/-- slices.partitionCmpFunc[int] -/
def F_slices_partitionCmpFunc_int (a0 : Sl) (a1 : Int) (a2 : Int) (a3 : Int) (a4 : Value) (K : (Int × (Bool × Unit)) → HP) : HP :=
 sx a0.a a0.len a3 1 fun p0 =>
 ldT (.int .i64) p0 fun x1 =>
 sx a0.a a0.len a1 1 fun p2 =>
 ldT (.int .i64) p2 fun x3 =>
 sx a0.a a0.len a1 1 fun p4 =>
 st1 p4 (.int .i64 x1) <|
 sx a0.a a0.len a3 1 fun p5 =>
 st1 p5 (.int .i64 x3) <|
 jn (σ := (Int × Unit)) (fun s7 => /- i -/
 jn (σ := (Int × Unit)) (fun s9 => /- j -/
 brB (decide (s7.1 > s9.1))
 (sx a0.a a0.len a1 1 fun p10 =>
 ldT (.int .i64) p10 fun x11 =>
 sx a0.a a0.len s9.1 1 fun p12 =>
 ldT (.int .i64) p12 fun x13 =>
 sx a0.a a0.len s9.1 1 fun p14 =>
 st1 p14 (.int .i64 x11) <|
 sx a0.a a0.len a1 1 fun p15 =>
 st1 p15 (.int .i64 x13) <|
 K (s9.1, true, ()))
 (sx a0.a a0.len s9.1 1 fun p16 =>
 ldT (.int .i64) p16 fun x17 =>
 sx a0.a a0.len s7.1 1 fun p18 =>
 ldT (.int .i64) p18 fun x19 =>
 sx a0.a a0.len s7.1 1 fun p20 =>
 st1 p20 (.int .i64 x17) <|
 sx a0.a a0.len s9.1 1 fun p21 =>
 st1 p21 (.int .i64 x19) <|
 lfp (σ := (Int × (Int × Unit))) (fun X22 s23 => /- j i -/
 jn (σ := (Int × Unit)) (fun s25 => /- i -/
 jn (σ := (Int × Unit)) (fun s27 => /- j -/
 brB (decide (s25.1 > s27.1))
 (sx a0.a a0.len a1 1 fun p28 =>
 ldT (.int .i64) p28 fun x29 =>
 sx a0.a a0.len s27.1 1 fun p30 =>
 ldT (.int .i64) p30 fun x31 =>
 sx a0.a a0.len s27.1 1 fun p32 =>
 st1 p32 (.int .i64 x29) <|
 sx a0.a a0.len a1 1 fun p33 =>
 st1 p33 (.int .i64 x31) <|
 K (s27.1, false, ()))
 (sx a0.a a0.len s27.1 1 fun p34 =>
 ldT (.int .i64) p34 fun x35 =>
 sx a0.a a0.len s25.1 1 fun p36 =>
 ldT (.int .i64) p36 fun x37 =>
 sx a0.a a0.len s25.1 1 fun p38 =>
 st1 p38 (.int .i64 x35) <|
 sx a0.a a0.len s27.1 1 fun p39 =>
 st1 p39 (.int .i64 x37) <|
 X22 ((IntKind.wrap .i64 (s27.1 - (1 : Int))), (IntKind.wrap .i64 (s25.1 + (1 : Int))), ())))
 (fun J26 =>
 lfp (σ := (Int × Unit)) (fun X40 s41 => /- j -/
 brB (decide (s25.1 ≤ s41.1))
 (sx a0.a a0.len s41.1 1 fun p42 =>
 ldT (.int .i64) p42 fun x43 =>
 sx a0.a a0.len a1 1 fun p44 =>
 ldT (.int .i64) p44 fun x45 =>
 callF Try.prog a4 #[(.int .i64 x43), (.int .i64 x45)] (.int .i64) fun r46 =>
 brB (!(decide (r46 < (0 : Int))))
 (X40 ((IntKind.wrap .i64 (s41.1 - (1 : Int))), ()))
 (J26 (s41.1, ())))
 (J26 (s41.1, ())))
 (s23.1, ())))
 (fun J24 =>
 lfp (σ := (Int × Unit)) (fun X47 s48 => /- i -/
 brB (decide (s48.1 ≤ s23.1))
 (sx a0.a a0.len s48.1 1 fun p49 =>
 ldT (.int .i64) p49 fun x50 =>
 sx a0.a a0.len a1 1 fun p51 =>
 ldT (.int .i64) p51 fun x52 =>
 callF Try.prog a4 #[(.int .i64 x50), (.int .i64 x52)] (.int .i64) fun r53 =>
 brB (decide (r53 < (0 : Int)))
 (X47 ((IntKind.wrap .i64 (s48.1 + (1 : Int))), ()))
 (J24 (s48.1, ())))
 (J24 (s48.1, ())))
 (s23.2.1, ())))
 ((IntKind.wrap .i64 (s9.1 - (1 : Int))), (IntKind.wrap .i64 (s7.1 + (1 : Int))), ())))
 (fun J8 =>
 lfp (σ := (Int × Unit)) (fun X54 s55 => /- j -/
 brB (decide (s7.1 ≤ s55.1))
 (sx a0.a a0.len s55.1 1 fun p56 =>
 ldT (.int .i64) p56 fun x57 =>
 sx a0.a a0.len a1 1 fun p58 =>
 ldT (.int .i64) p58 fun x59 =>
 callF Try.prog a4 #[(.int .i64 x57), (.int .i64 x59)] (.int .i64) fun r60 =>
 brB (!(decide (r60 < (0 : Int))))
 (X54 ((IntKind.wrap .i64 (s55.1 - (1 : Int))), ()))
 (J8 (s55.1, ())))
 (J8 (s55.1, ())))
 ((IntKind.wrap .i64 (a2 - (1 : Int))), ())))
 (fun J6 =>
 lfp (σ := (Int × Unit)) (fun X61 s62 => /- i -/
 brB (decide (s62.1 ≤ (IntKind.wrap .i64 (a2 - (1 : Int)))))
 (sx a0.a a0.len s62.1 1 fun p63 =>
 ldT (.int .i64) p63 fun x64 =>
 sx a0.a a0.len a1 1 fun p65 =>
 ldT (.int .i64) p65 fun x66 =>
 callF Try.prog a4 #[(.int .i64 x64), (.int .i64 x66)] (.int .i64) fun r67 =>
 brB (decide (r67 < (0 : Int)))
 (X61 ((IntKind.wrap .i64 (s62.1 + (1 : Int))), ()))
 (J6 (s62.1, ())))
 (J6 (s62.1, ())))
 ((IntKind.wrap .i64 (a1 + (1 : Int))), ()))
set_option maxRecDepth 100000 in
theorem E_slices_partitionCmpFunc_int (a0 : Sl) (a1 : Int) (a2 : Int) (a3 : Int) (a4 : Value) (K : (Int × (Bool × Unit)) → HP) (h : Heap) : fnVC Try.prog [(1000000, .nil)] 178 Try.f63 [(.slice a0.a a0.len a0.cap), (.int .i64 a1), (.int .i64 a2), (.int .i64 a3), a4] (.tup (.cons (.int .i64) (.cons .bool .nil))) K h = F_slices_partitionCmpFunc_int a0 a1 a2 a3 a4 K h := by kernel_rfl
set_option maxRecDepth 100000 in
theorem S_slices_partitionCmpFunc_int{h : Heap} {a0 : Sl} {a1 : Int} {a2 : Int} {a3 : Int} {a4 : Value} (K : (Int × (Bool × Unit)) → HP) (hF : F_slices_partitionCmpFunc_int a0 a1 a2 a3 a4 K h) : CallsH Try.prog fn_slices_partitionCmpFunc_int #[(.slice a0.a a0.len a0.cap), (.int .i64 a1), (.int .i64 a2), (.int .i64 a3), a4] h fun v h' => ∃ x : (Int × (Bool × Unit)), v = Ty.enc (.tup (.cons (.int .i64) (.cons .bool .nil))) x ∧ K x h' :=
  callsH_of_fn (P := Try.prog) (fn := Try.f63) (τ := (.tup (.cons (.int .i64) (.cons .bool .nil)))) follows Try.func63 (by kernel_rfl) (by kernel_rfl) Try.call63 (Eq.mpr (E_slices_partitionCmpFunc_int a0 a1 a2 a3 a4 K h) hF)


/-- math/bits.Len32 -/
def F_math_bits_Len32 (a0 : Int) (K : Int → HP) : HP :=
 jn (σ := (Int × (Int × Unit))) (fun s1 => /- n x -/
 jn (σ := (Int × (Int × Unit))) (fun s3 => /- n x -/
 six (ByteArray.mk #[0, 1, 2, 2, 3, 3, 3, 3, 4, 4, 4, 4, 4, 4, 4, 4, 5, 5, 5, 5, 5, 5, 5, 5, 5, 5, 5, 5, 5, 5, 5, 5, 6, 6, 6, 6, 6, 6, 6, 6, 6, 6, 6, 6, 6, 6, 6, 6, 6, 6, 6, 6, 6, 6, 6, 6, 6, 6, 6, 6, 6, 6, 6, 6, 7, 7, 7, 7, 7, 7, 7, 7, 7, 7, 7, 7, 7, 7, 7, 7, 7, 7, 7, 7, 7, 7, 7, 7, 7, 7, 7, 7, 7, 7, 7, 7, 7, 7, 7, 7, 7, 7, 7, 7, 7, 7, 7, 7, 7, 7, 7, 7, 7, 7, 7, 7, 7, 7, 7, 7, 7, 7, 7, 7, 7, 7, 7, 7, 8, 8, 8, 8, 8, 8, 8, 8, 8, 8, 8, 8, 8, 8, 8, 8, 8, 8, 8, 8, 8, 8, 8, 8, 8, 8, 8, 8, 8, 8, 8, 8, 8, 8, 8, 8, 8, 8, 8, 8, 8, 8, 8, 8, 8, 8, 8, 8, 8, 8, 8, 8, 8, 8, 8, 8, 8, 8, 8, 8, 8, 8, 8, 8, 8, 8, 8, 8, 8, 8, 8, 8, 8, 8, 8, 8, 8, 8, 8, 8, 8, 8, 8, 8, 8, 8, 8, 8, 8, 8, 8, 8, 8, 8, 8, 8, 8, 8, 8, 8, 8, 8, 8, 8, 8, 8, 8, 8, 8, 8, 8, 8, 8, 8, 8, 8, 8, 8, 8, 8, 8, 8, 8, 8, 8, 8, 8, 8]) (IntKind.wrap .u8 s3.2.1) fun c4 =>
 K (IntKind.wrap .i64 (s3.1 + (IntKind.wrap .i64 c4))))
 (fun J2 =>
 brB (decide (s1.2.1 ≥ (256 : Int)))
 (ge0 (8 : Int) <|
 J2 ((IntKind.wrap .i64 (s1.1 + (8 : Int))), (Int.fdiv s1.2.1 (2 ^ (min ((8 : Int)).toNat 32))), ()))
 (J2 (s1.1, s1.2.1, ()))))
 (fun J0 =>
 brB (decide (a0 ≥ (65536 : Int)))
 (ge0 (16 : Int) <|
 J0 ((16 : Int), (Int.fdiv a0 (2 ^ (min ((16 : Int)).toNat 32))), ()))
 (J0 ((0 : Int), a0, ())))
set_option maxRecDepth 100000 in
theorem E_math_bits_Len32 (a0 : Int) (K : Int → HP) (h : Heap) : fnVC Try.prog [(1000000, .nil)] 19 Try.f64 [(.int .u32 a0)] (.int .i64) K h = F_math_bits_Len32 a0 K h := by kernel_rfl
set_option maxRecDepth 100000 in
theorem S_math_bits_Len32{h : Heap} {a0 : Int} (K : Int → HP) (hF : F_math_bits_Len32 a0 K h) : CallsH Try.prog fn_math_bits_Len32 #[(.int .u32 a0)] h fun v h' => ∃ x : Int, v = Ty.enc (.int .i64) x ∧ K x h' :=
  callsH_of_fn (P := Try.prog) (fn := Try.f64) (τ := (.int .i64)) follows Try.func64 (by kernel_rfl) (by kernel_rfl) Try.call64 (Eq.mpr (E_math_bits_Len32 a0 K h) hF)


/-- math/bits.Len64 -/
def F_math_bits_Len64 (a0 : Int) (K : Int → HP) : HP :=
 jn (σ := (Int × (Int × Unit))) (fun s1 => /- n x -/
 jn (σ := (Int × (Int × Unit))) (fun s3 => /- n x -/
 jn (σ := (Int × (Int × Unit))) (fun s5 => /- n x -/
 six (ByteArray.mk #[0, 1, 2, 2, 3, 3, 3, 3, 4, 4, 4, 4, 4, 4, 4, 4, 5, 5, 5, 5, 5, 5, 5, 5, 5, 5, 5, 5, 5, 5, 5, 5, 6, 6, 6, 6, 6, 6, 6, 6, 6, 6, 6, 6, 6, 6, 6, 6, 6, 6, 6, 6, 6, 6, 6, 6, 6, 6, 6, 6, 6, 6, 6, 6, 7, 7, 7, 7, 7, 7, 7, 7, 7, 7, 7, 7, 7, 7, 7, 7, 7, 7, 7, 7, 7, 7, 7, 7, 7, 7, 7, 7, 7, 7, 7, 7, 7, 7, 7, 7, 7, 7, 7, 7, 7, 7, 7, 7, 7, 7, 7, 7, 7, 7, 7, 7, 7, 7, 7, 7, 7, 7, 7, 7, 7, 7, 7, 7, 8, 8, 8, 8, 8, 8, 8, 8, 8, 8, 8, 8, 8, 8, 8, 8, 8, 8, 8, 8, 8, 8, 8, 8, 8, 8, 8, 8, 8, 8, 8, 8, 8, 8, 8, 8, 8, 8, 8, 8, 8, 8, 8, 8, 8, 8, 8, 8, 8, 8, 8, 8, 8, 8, 8, 8, 8, 8, 8, 8, 8, 8, 8, 8, 8, 8, 8, 8, 8, 8, 8, 8, 8, 8, 8, 8, 8, 8, 8, 8, 8, 8, 8, 8, 8, 8, 8, 8, 8, 8, 8, 8, 8, 8, 8, 8, 8, 8, 8, 8, 8, 8, 8, 8, 8, 8, 8, 8, 8, 8, 8, 8, 8, 8, 8, 8, 8, 8, 8, 8, 8, 8, 8, 8, 8, 8, 8, 8]) (IntKind.wrap .u8 s5.2.1) fun c6 =>
 K (IntKind.wrap .i64 (s5.1 + (IntKind.wrap .i64 c6))))
 (fun J4 =>
 brB (decide (s3.2.1 ≥ (256 : Int)))
 (ge0 (8 : Int) <|
 J4 ((IntKind.wrap .i64 (s3.1 + (8 : Int))), (Int.fdiv s3.2.1 (2 ^ (min ((8 : Int)).toNat 64))), ()))
 (J4 (s3.1, s3.2.1, ()))))
 (fun J2 =>
 brB (decide (s1.2.1 ≥ (65536 : Int)))
 (ge0 (16 : Int) <|
 J2 ((IntKind.wrap .i64 (s1.1 + (16 : Int))), (Int.fdiv s1.2.1 (2 ^ (min ((16 : Int)).toNat 64))), ()))
 (J2 (s1.1, s1.2.1, ()))))
 (fun J0 =>
 brB (decide (a0 ≥ (4294967296 : Int)))
 (ge0 (32 : Int) <|
 J0 ((32 : Int), (Int.fdiv a0 (2 ^ (min ((32 : Int)).toNat 64))), ()))
 (J0 ((0 : Int), a0, ())))
set_option maxRecDepth 100000 in
theorem E_math_bits_Len64 (a0 : Int) (K : Int → HP) (h : Heap) : fnVC Try.prog [(1000000, .nil)] 25 Try.f65 [(.int .u64 a0)] (.int .i64) K h = F_math_bits_Len64 a0 K h := by kernel_rfl
set_option maxRecDepth 100000 in
theorem S_math_bits_Len64{h : Heap} {a0 : Int} (K : Int → HP) (hF : F_math_bits_Len64 a0 K h) : CallsH Try.prog fn_math_bits_Len64 #[(.int .u64 a0)] h fun v h' => ∃ x : Int, v = Ty.enc (.int .i64) x ∧ K x h' :=
  callsH_of_fn (P := Try.prog) (fn := Try.f65) (τ := (.int .i64)) follows Try.func65 (by kernel_rfl) (by kernel_rfl) Try.call65 (Eq.mpr (E_math_bits_Len64 a0 K h) hF)


/-- salvor/salvorref11.with -/
def F_salvorref11_with (a0 : Sl) (a1 : Int) (a2 : Int) (K : Sl → HP) : HP :=
 nw #[] ty_int fun b0 =>
 apd ty_int 1 8 #[(.int .i64 (0 : Int))] ⟨(some (⟨b0, 0, none⟩ : Addr)), 0, 0⟩ ⟨a0.a, a0.len, a0.cap⟩ fun s1 =>
 sx s1.a s1.len a1 1 fun p2 =>
 st1 p2 (.int .i64 a2) <|
 K ⟨s1.a, s1.len, s1.cap⟩
set_option maxRecDepth 100000 in
theorem E_salvorref11_with (a0 : Sl) (a1 : Int) (a2 : Int) (K : Sl → HP) (h : Heap) : fnVC Try.prog [(1000000, .bool)] 16 Try.f67 [(.slice a0.a a0.len a0.cap), (.int .i64 a1), (.int .i64 a2)] .sl K h = F_salvorref11_with a0 a1 a2 K h := by kernel_rfl
set_option maxRecDepth 100000 in
theorem S_salvorref11_with{h : Heap} {a0 : Sl} {a1 : Int} {a2 : Int} (K : Sl → HP) (hF : F_salvorref11_with a0 a1 a2 K h) : CallsH Try.prog fn_salvorref11_with #[(.slice a0.a a0.len a0.cap), (.int .i64 a1), (.int .i64 a2)] h fun v h' => ∃ x : Sl, v = Ty.enc .sl x ∧ K x h' :=
  callsH_of_fn (P := Try.prog) (fn := Try.f67) (τ := .sl) follows Try.func67 (by kernel_rfl) (by kernel_rfl) Try.call67 (Eq.mpr (E_salvorref11_with a0 a1 a2 K h) hF)


/-- slices.siftDownCmpFunc[int] -/
def F_slices_siftDownCmpFunc_int (a0 : Sl) (a1 : Int) (a2 : Int) (a3 : Int) (a4 : Value) (K : Unit → HP) : HP :=
 lfp (σ := (Int × Unit)) (fun X0 s1 => /- root -/
 brB (decide ((IntKind.wrap .i64 ((IntKind.wrap .i64 ((2 : Int) * s1.1)) + (1 : Int))) ≥ a2))
 (K (()))
 (brB (decide ((IntKind.wrap .i64 ((IntKind.wrap .i64 ((IntKind.wrap .i64 ((2 : Int) * s1.1)) + (1 : Int))) + (1 : Int))) < a2))
 (sx a0.a a0.len (IntKind.wrap .i64 (a3 + (IntKind.wrap .i64 ((IntKind.wrap .i64 ((2 : Int) * s1.1)) + (1 : Int))))) 1 fun p2 =>
 ldT (.int .i64) p2 fun x3 =>
 sx a0.a a0.len (IntKind.wrap .i64 ((IntKind.wrap .i64 (a3 + (IntKind.wrap .i64 ((IntKind.wrap .i64 ((2 : Int) * s1.1)) + (1 : Int))))) + (1 : Int))) 1 fun p4 =>
 ldT (.int .i64) p4 fun x5 =>
 callF Try.prog a4 #[(.int .i64 x3), (.int .i64 x5)] (.int .i64) fun r6 =>
 jn (σ := (Int × Unit)) (fun s8 => /- child -/
 sx a0.a a0.len (IntKind.wrap .i64 (a3 + s1.1)) 1 fun p9 =>
 ldT (.int .i64) p9 fun x10 =>
 sx a0.a a0.len (IntKind.wrap .i64 (a3 + s8.1)) 1 fun p11 =>
 ldT (.int .i64) p11 fun x12 =>
 callF Try.prog a4 #[(.int .i64 x10), (.int .i64 x12)] (.int .i64) fun r13 =>
 brB (!(decide (r13 < (0 : Int))))
 (K (()))
 (sx a0.a a0.len (IntKind.wrap .i64 (a3 + s8.1)) 1 fun p14 =>
 ldT (.int .i64) p14 fun x15 =>
 sx a0.a a0.len (IntKind.wrap .i64 (a3 + s1.1)) 1 fun p16 =>
 ldT (.int .i64) p16 fun x17 =>
 sx a0.a a0.len (IntKind.wrap .i64 (a3 + s1.1)) 1 fun p18 =>
 st1 p18 (.int .i64 x15) <|
 sx a0.a a0.len (IntKind.wrap .i64 (a3 + s8.1)) 1 fun p19 =>
 st1 p19 (.int .i64 x17) <|
 X0 (s8.1, ())))
 (fun J7 =>
 brB (decide (r6 < (0 : Int)))
 (J7 ((IntKind.wrap .i64 ((IntKind.wrap .i64 ((IntKind.wrap .i64 ((2 : Int) * s1.1)) + (1 : Int))) + (1 : Int))), ()))
 (J7 ((IntKind.wrap .i64 ((IntKind.wrap .i64 ((2 : Int) * s1.1)) + (1 : Int))), ()))))
 (jn (σ := (Int × Unit)) (fun s21 => /- child -/
 sx a0.a a0.len (IntKind.wrap .i64 (a3 + s1.1)) 1 fun p22 =>
 ldT (.int .i64) p22 fun x23 =>
 sx a0.a a0.len (IntKind.wrap .i64 (a3 + s21.1)) 1 fun p24 =>
 ldT (.int .i64) p24 fun x25 =>
 callF Try.prog a4 #[(.int .i64 x23), (.int .i64 x25)] (.int .i64) fun r26 =>
 brB (!(decide (r26 < (0 : Int))))
 (K (()))
 (sx a0.a a0.len (IntKind.wrap .i64 (a3 + s21.1)) 1 fun p27 =>
 ldT (.int .i64) p27 fun x28 =>
 sx a0.a a0.len (IntKind.wrap .i64 (a3 + s1.1)) 1 fun p29 =>
 ldT (.int .i64) p29 fun x30 =>
 sx a0.a a0.len (IntKind.wrap .i64 (a3 + s1.1)) 1 fun p31 =>
 st1 p31 (.int .i64 x28) <|
 sx a0.a a0.len (IntKind.wrap .i64 (a3 + s21.1)) 1 fun p32 =>
 st1 p32 (.int .i64 x30) <|
 X0 (s21.1, ())))
 (fun J20 =>
 J20 ((IntKind.wrap .i64 ((IntKind.wrap .i64 ((2 : Int) * s1.1)) + (1 : Int))), ())))))
 (a1, ())
set_option maxRecDepth 100000 in
theorem E_slices_siftDownCmpFunc_int (a0 : Sl) (a1 : Int) (a2 : Int) (a3 : Int) (a4 : Value) (K : Unit → HP) (h : Heap) : fnVC Try.prog [(1000000, .nil)] 82 Try.f68 [(.slice a0.a a0.len a0.cap), (.int .i64 a1), (.int .i64 a2), (.int .i64 a3), a4] (.tup .nil) K h = F_slices_siftDownCmpFunc_int a0 a1 a2 a3 a4 K h := by kernel_rfl
set_option maxRecDepth 100000 in
theorem S_slices_siftDownCmpFunc_int{h : Heap} {a0 : Sl} {a1 : Int} {a2 : Int} {a3 : Int} {a4 : Value} (K : Unit → HP) (hF : F_slices_siftDownCmpFunc_int a0 a1 a2 a3 a4 K h) : CallsH Try.prog fn_slices_siftDownCmpFunc_int #[(.slice a0.a a0.len a0.cap), (.int .i64 a1), (.int .i64 a2), (.int .i64 a3), a4] h fun v h' => ∃ x : Unit, v = Ty.enc (.tup .nil) x ∧ K x h' :=
  callsH_of_fn (P := Try.prog) (fn := Try.f68) (τ := (.tup .nil)) follows Try.func68 (by kernel_rfl) (by kernel_rfl) Try.call68 (Eq.mpr (E_slices_siftDownCmpFunc_int a0 a1 a2 a3 a4 K h) hF)


/-- slices.nextPowerOfTwo -/
def F_slices_nextPowerOfTwo (a0 : Int) (K : Int → HP) : HP :=
 callT Try.prog fn_math_bits_Len #[(.int .u64 (IntKind.wrap .u64 a0))] (.int .i64) fun r0 =>
 ge0 r0 <|
 K (IntKind.wrap .u64 ((1 : Int) * 2 ^ (min (r0).toNat 64)))
set_option maxRecDepth 100000 in
theorem E_slices_nextPowerOfTwo (a0 : Int) (K : Int → HP) (h : Heap) : fnVC Try.prog [(1000000, .nil)] 7 Try.f69 [(.int .i64 a0)] (.int .u64) K h = F_slices_nextPowerOfTwo a0 K h := by kernel_rfl
set_option maxRecDepth 100000 in
theorem S_slices_nextPowerOfTwo{h : Heap} {a0 : Int} (K : Int → HP) (hF : F_slices_nextPowerOfTwo a0 K h) : CallsH Try.prog fn_slices_nextPowerOfTwo #[(.int .i64 a0)] h fun v h' => ∃ x : Int, v = Ty.enc (.int .u64) x ∧ K x h' :=
  callsH_of_fn (P := Try.prog) (fn := Try.f69) (τ := (.int .u64)) follows Try.func69 (by kernel_rfl) (by kernel_rfl) Try.call69 (Eq.mpr (E_slices_nextPowerOfTwo a0 K h) hF)


/-- (*slices.xorshift).Next -/
def F_slices_xorshift_Next (a0 : Option Addr) (K : Int → HP) : HP :=
 nn a0 fun p0 =>
 ldT (.int .u64) p0 fun x1 =>
 nn a0 fun p2 =>
 ldT (.int .u64) p2 fun x3 =>
 ge0 (13 : Int) <|
 nn a0 fun p4 =>
 st1 p4 (.int .u64 (bXor .u64 x1 (IntKind.wrap .u64 (x3 * 2 ^ (min ((13 : Int)).toNat 64))))) <|
 nn a0 fun p5 =>
 ldT (.int .u64) p5 fun x6 =>
 nn a0 fun p7 =>
 ldT (.int .u64) p7 fun x8 =>
 ge0 (7 : Int) <|
 nn a0 fun p9 =>
 st1 p9 (.int .u64 (bXor .u64 x6 (Int.fdiv x8 (2 ^ (min ((7 : Int)).toNat 64))))) <|
 nn a0 fun p10 =>
 ldT (.int .u64) p10 fun x11 =>
 nn a0 fun p12 =>
 ldT (.int .u64) p12 fun x13 =>
 ge0 (17 : Int) <|
 nn a0 fun p14 =>
 st1 p14 (.int .u64 (bXor .u64 x11 (IntKind.wrap .u64 (x13 * 2 ^ (min ((17 : Int)).toNat 64))))) <|
 nn a0 fun p15 =>
 ldT (.int .u64) p15 fun x16 =>
 K x16
set_option maxRecDepth 100000 in
theorem E_slices_xorshift_Next (a0 : Option Addr) (K : Int → HP) (h : Heap) : fnVC Try.prog [(1000000, .nil)] 33 Try.f70 [(.pointer a0)] (.int .u64) K h = F_slices_xorshift_Next a0 K h := by kernel_rfl
set_option maxRecDepth 100000 in
theorem S_slices_xorshift_Next{h : Heap} {a0 : Option Addr} (K : Int → HP) (hF : F_slices_xorshift_Next a0 K h) : CallsH Try.prog fn_slices_xorshift_Next #[(.pointer a0)] h fun v h' => ∃ x : Int, v = Ty.enc (.int .u64) x ∧ K x h' :=
  callsH_of_fn (P := Try.prog) (fn := Try.f70) (τ := (.int .u64)) follows Try.func70 (by kernel_rfl) (by kernel_rfl) Try.call70 (Eq.mpr (E_slices_xorshift_Next a0 K h) hF)


/-- slices.medianAdjacentCmpFunc[int] -/
def F_slices_medianAdjacentCmpFunc_int (a0 : Sl) (a1 : Int) (a2 : Option Addr) (a3 : Value) (K : Int → HP) : HP :=
 callT Try.prog fn_slices_medianCmpFunc_int #[(.slice a0.a a0.len a0.cap), (.int .i64 (IntKind.wrap .i64 (a1 - (1 : Int)))), (.int .i64 a1), (.int .i64 (IntKind.wrap .i64 (a1 + (1 : Int)))), (.pointer a2), a3] (.int .i64) fun r0 =>
 K r0
set_option maxRecDepth 100000 in
theorem E_slices_medianAdjacentCmpFunc_int (a0 : Sl) (a1 : Int) (a2 : Option Addr) (a3 : Value) (K : Int → HP) (h : Heap) : fnVC Try.prog [(1000000, .nil)] 18 Try.f71 [(.slice a0.a a0.len a0.cap), (.int .i64 a1), (.pointer a2), a3] (.int .i64) K h = F_slices_medianAdjacentCmpFunc_int a0 a1 a2 a3 K h := by kernel_rfl
set_option maxRecDepth 100000 in
theorem S_slices_medianAdjacentCmpFunc_int{h : Heap} {a0 : Sl} {a1 : Int} {a2 : Option Addr} {a3 : Value} (K : Int → HP) (hF : F_slices_medianAdjacentCmpFunc_int a0 a1 a2 a3 K h) : CallsH Try.prog fn_slices_medianAdjacentCmpFunc_int #[(.slice a0.a a0.len a0.cap), (.int .i64 a1), (.pointer a2), a3] h fun v h' => ∃ x : Int, v = Ty.enc (.int .i64) x ∧ K x h' :=
  callsH_of_fn (P := Try.prog) (fn := Try.f71) (τ := (.int .i64)) follows Try.func71 (by kernel_rfl) (by kernel_rfl) Try.call71 (Eq.mpr (E_slices_medianAdjacentCmpFunc_int a0 a1 a2 a3 K h) hF)


/-- slices.medianCmpFunc[int] -/
def F_slices_medianCmpFunc_int (a0 : Sl) (a1 : Int) (a2 : Int) (a3 : Int) (a4 : Option Addr) (a5 : Value) (K : Int → HP) : HP :=
 callT Try.prog fn_slices_order2CmpFunc_int #[(.slice a0.a a0.len a0.cap), (.int .i64 a1), (.int .i64 a2), (.pointer a4), a5] (.tup (.cons (.int .i64) (.cons (.int .i64) .nil))) fun r0 =>
 callT Try.prog fn_slices_order2CmpFunc_int #[(.slice a0.a a0.len a0.cap), (.int .i64 r0.2.1), (.int .i64 a3), (.pointer a4), a5] (.tup (.cons (.int .i64) (.cons (.int .i64) .nil))) fun r1 =>
 callT Try.prog fn_slices_order2CmpFunc_int #[(.slice a0.a a0.len a0.cap), (.int .i64 r0.1), (.int .i64 r1.1), (.pointer a4), a5] (.tup (.cons (.int .i64) (.cons (.int .i64) .nil))) fun r2 =>
 K r2.2.1
set_option maxRecDepth 100000 in
theorem E_slices_medianCmpFunc_int (a0 : Sl) (a1 : Int) (a2 : Int) (a3 : Int) (a4 : Option Addr) (a5 : Value) (K : Int → HP) (h : Heap) : fnVC Try.prog [(1000000, .nil)] 41 Try.f72 [(.slice a0.a a0.len a0.cap), (.int .i64 a1), (.int .i64 a2), (.int .i64 a3), (.pointer a4), a5] (.int .i64) K h = F_slices_medianCmpFunc_int a0 a1 a2 a3 a4 a5 K h := by kernel_rfl
set_option maxRecDepth 100000 in
theorem S_slices_medianCmpFunc_int{h : Heap} {a0 : Sl} {a1 : Int} {a2 : Int} {a3 : Int} {a4 : Option Addr} {a5 : Value} (K : Int → HP) (hF : F_slices_medianCmpFunc_int a0 a1 a2 a3 a4 a5 K h) : CallsH Try.prog fn_slices_medianCmpFunc_int #[(.slice a0.a a0.len a0.cap), (.int .i64 a1), (.int .i64 a2), (.int .i64 a3), (.pointer a4), a5] h fun v h' => ∃ x : Int, v = Ty.enc (.int .i64) x ∧ K x h' :=
  callsH_of_fn (P := Try.prog) (fn := Try.f72) (τ := (.int .i64)) follows Try.func72 (by kernel_rfl) (by kernel_rfl) Try.call72 (Eq.mpr (E_slices_medianCmpFunc_int a0 a1 a2 a3 a4 a5 K h) hF)


/-- slices.order2CmpFunc[int] -/
def F_slices_order2CmpFunc_int (a0 : Sl) (a1 : Int) (a2 : Int) (a3 : Option Addr) (a4 : Value) (K : (Int × (Int × Unit)) → HP) : HP :=
 sx a0.a a0.len a2 1 fun p0 =>
 ldT (.int .i64) p0 fun x1 =>
 sx a0.a a0.len a1 1 fun p2 =>
 ldT (.int .i64) p2 fun x3 =>
 callF Try.prog a4 #[(.int .i64 x1), (.int .i64 x3)] (.int .i64) fun r4 =>
 brB (decide (r4 < (0 : Int)))
 (nn a3 fun p5 =>
 ldT (.int .i64) p5 fun x6 =>
 nn a3 fun p7 =>
 st1 p7 (.int .i64 (IntKind.wrap .i64 (x6 + (1 : Int)))) <|
 K (a2, a1, ()))
 (K (a1, a2, ()))
set_option maxRecDepth 100000 in
theorem E_slices_order2CmpFunc_int (a0 : Sl) (a1 : Int) (a2 : Int) (a3 : Option Addr) (a4 : Value) (K : (Int × (Int × Unit)) → HP) (h : Heap) : fnVC Try.prog [(1000000, .nil)] 32 Try.f73 [(.slice a0.a a0.len a0.cap), (.int .i64 a1), (.int .i64 a2), (.pointer a3), a4] (.tup (.cons (.int .i64) (.cons (.int .i64) .nil))) K h = F_slices_order2CmpFunc_int a0 a1 a2 a3 a4 K h := by kernel_rfl
set_option maxRecDepth 100000 in
theorem S_slices_order2CmpFunc_int{h : Heap} {a0 : Sl} {a1 : Int} {a2 : Int} {a3 : Option Addr} {a4 : Value} (K : (Int × (Int × Unit)) → HP) (hF : F_slices_order2CmpFunc_int a0 a1 a2 a3 a4 K h) : CallsH Try.prog fn_slices_order2CmpFunc_int #[(.slice a0.a a0.len a0.cap), (.int .i64 a1), (.int .i64 a2), (.pointer a3), a4] h fun v h' => ∃ x : (Int × (Int × Unit)), v = Ty.enc (.tup (.cons (.int .i64) (.cons (.int .i64) .nil))) x ∧ K x h' :=
  callsH_of_fn (P := Try.prog) (fn := Try.f73) (τ := (.tup (.cons (.int .i64) (.cons (.int .i64) .nil)))) follows Try.func73 (by kernel_rfl) (by kernel_rfl) Try.call73 (Eq.mpr (E_slices_order2CmpFunc_int a0 a1 a2 a3 a4 K h) hF)


end Go.Proofs.OrdG
