/- The functions of the seat, each as a predicate over its values, printed by a program of ours, and that each is its text's. -/
import Derived.Test.YtjkgncibelojnaaGreatSx10
import Derived.KernelRfl
import Derived.Test.YtjkgncibelojnaaGreatProg
import Derived.Test.YtjkgncibelojnaaGreatClF0
set_option linter.unusedVariables false
set_option maxRecDepth 100000
namespace Go.Proofs.S
open Go Go.Sx Go.Proofs
def F_rat_Search (a0 : Sl) (a1 : Sl) (K : ((Sl × (Sl × (Sl × Unit))) × (Int × (Bool × (Int × Unit)))) → HP) : HP := fun h0 => (
 nw #[(.slice a0.a a0.len a0.cap)] ty_sl_rat_Entry fun b0 =>
 nw #[(.slice a1.a a1.len a1.cap)] ty_clauses_Clause fun b1 =>
 nw #[(.slice none 0 0), (.slice none 0 0), (.slice none 0 0)] ty_rat_Step fun b2 =>
 nw #[(.int .u8 0)] ty_uint8 fun b3 =>
 nw #[(.bool false)] ty_bool fun b4 =>
 nw #[(.int .i64 0)] ty_api_Errno fun b5 =>
 ldT .sl ⟨b0, 0, none⟩ fun x6 =>
 callT Tryz.prog fn_rat_Right #[(.slice x6.a x6.len x6.cap)] .bool fun r7 =>
 brB (!r7)
 (st1 ⟨b2, 0, none⟩ (.slice none 0 0) <|
 st1 ((⟨b2, 0, none⟩ : Addr).add 1) (.slice none 0 0) <|
 st1 ((⟨b2, 0, none⟩ : Addr).add 2) (.slice none 0 0) <|
 st1 ⟨b3, 0, none⟩ (.int .u8 0) <|
 st1 ⟨b4, 0, none⟩ (.bool false) <|
 st1 ⟨b5, 0, none⟩ (.int .i64 90) <|
 mkd h0.size <|
 ldA (.cons .sl (.cons .sl (.cons .sl .nil))) ⟨b2, 0, none⟩ fun x8 =>
 ldT (.int .u8) ⟨b3, 0, none⟩ fun x9 =>
 ldT .bool ⟨b4, 0, none⟩ fun x10 =>
 ldT (.int .i64) ⟨b5, 0, none⟩ fun x11 =>
 K ((⟨x8.1.a, x8.1.len, x8.1.cap⟩, ⟨x8.2.1.a, x8.2.1.len, x8.2.1.cap⟩, ⟨x8.2.2.1.a, x8.2.2.1.len, x8.2.2.1.cap⟩, ()), x9, x10, x11, ()))
 (nw #[(.slice none 0 0)] ty_sl_clauses_Clause fun b12 =>
 ldT .sl ⟨b0, 0, none⟩ fun x13 =>
 lfp (σ := (Int × Unit)) (fun X14 s15 =>
 brB (decide (s15.1 < (x13.len : Int)))
 (sx x13.a x13.len s15.1 2 fun p16 =>
 ldA (.cons (.int .i64) (.cons .sl .nil)) p16 fun x17 =>
 nw #[(.int .i64 0), (.slice none 0 0)] ty_rat_Entry fun b18 =>
 st1 ⟨b18, 0, none⟩ (.int .i64 x17.1) <|
 st1 ((⟨b18, 0, none⟩ : Addr).add 1) (.slice x17.2.1.a x17.2.1.len x17.2.1.cap) <|
 ldT .sl ⟨b12, 0, none⟩ fun x19 =>
 ldT .sl ((⟨b18, 0, none⟩ : Addr).add 1) fun x20 =>
 nw #[(.slice x20.a x20.len x20.cap)] ty_clauses_Clause fun b21 =>
 apd ty_clauses_Clause 1 24 #[(.slice none 0 0)] ⟨x19.a, x19.len, x19.cap⟩ ⟨(some ⟨b21, 0, none⟩), 1, 1⟩ fun s22 =>
 st1 ⟨b12, 0, none⟩ (.slice s22.a s22.len s22.cap) <|
 X14 ((IntKind.wrap .i64 (s15.1 + (1 : Int))), ()))
 (ldT .sl ⟨b1, 0, none⟩ fun x23 =>
 ldT .sl ⟨b12, 0, none⟩ fun x24 =>
 callT Tryz.prog fn_rup_Find #[(.slice x23.a x23.len x23.cap), (.slice x24.a x24.len x24.cap)] (.tup (.cons .sl (.cons .bool (.cons (.int .i64) .nil)))) fun r25 =>
 brB (r25.2.2.1 == (20 : Int))
 (st1 ⟨b2, 0, none⟩ (.slice none 0 0) <|
 st1 ((⟨b2, 0, none⟩ : Addr).add 1) (.slice none 0 0) <|
 st1 ((⟨b2, 0, none⟩ : Addr).add 2) (.slice none 0 0) <|
 st1 ⟨b3, 0, none⟩ (.int .u8 0) <|
 st1 ⟨b4, 0, none⟩ (.bool false) <|
 st1 ⟨b5, 0, none⟩ (.int .i64 r25.2.2.1) <|
 mkd h0.size <|
 ldA (.cons .sl (.cons .sl (.cons .sl .nil))) ⟨b2, 0, none⟩ fun x26 =>
 ldT (.int .u8) ⟨b3, 0, none⟩ fun x27 =>
 ldT .bool ⟨b4, 0, none⟩ fun x28 =>
 ldT (.int .i64) ⟨b5, 0, none⟩ fun x29 =>
 K ((⟨x26.1.a, x26.1.len, x26.1.cap⟩, ⟨x26.2.1.a, x26.2.1.len, x26.2.1.cap⟩, ⟨x26.2.2.1.a, x26.2.2.1.len, x26.2.2.1.cap⟩, ()), x27, x28, x29, ()))
 (brB r25.2.1
 (ldT .sl ⟨b1, 0, none⟩ fun x30 =>
 ldT .sl ⟨b0, 0, none⟩ fun x31 =>
 callT Tryz.prog fn_slices_Clone_clauses_Clause_lits_Lit #[(.slice x30.a x30.len x30.cap)] .sl fun r32 =>
 ck ⟨b0, 0, none⟩ (.slice x31.a x31.len x31.cap) <|
 callT Tryz.prog fn_rat_named #[(.slice x31.a x31.len x31.cap), (.slice r25.1.a r25.1.len r25.1.cap)] .sl fun r33 =>
 st1 ⟨b2, 0, none⟩ (.slice r32.a r32.len r32.cap) <|
 st1 ((⟨b2, 0, none⟩ : Addr).add 1) (.slice r33.a r33.len r33.cap) <|
 st1 ((⟨b2, 0, none⟩ : Addr).add 2) (.slice none 0 0) <|
 st1 ⟨b3, 0, none⟩ (.int .u8 1) <|
 st1 ⟨b4, 0, none⟩ (.bool true) <|
 st1 ⟨b5, 0, none⟩ (.int .i64 0) <|
 mkd h0.size <|
 ldA (.cons .sl (.cons .sl (.cons .sl .nil))) ⟨b2, 0, none⟩ fun x34 =>
 ldT (.int .u8) ⟨b3, 0, none⟩ fun x35 =>
 ldT .bool ⟨b4, 0, none⟩ fun x36 =>
 ldT (.int .i64) ⟨b5, 0, none⟩ fun x37 =>
 K ((⟨x34.1.a, x34.1.len, x34.1.cap⟩, ⟨x34.2.1.a, x34.2.1.len, x34.2.1.cap⟩, ⟨x34.2.2.1.a, x34.2.2.1.len, x34.2.2.1.cap⟩, ()), x35, x36, x37, ()))
 (ldT .sl ⟨b1, 0, none⟩ fun x38 =>
 jn (σ := Bool) (fun t40 =>
 brB t40
 (st1 ⟨b2, 0, none⟩ (.slice none 0 0) <|
 st1 ((⟨b2, 0, none⟩ : Addr).add 1) (.slice none 0 0) <|
 st1 ((⟨b2, 0, none⟩ : Addr).add 2) (.slice none 0 0) <|
 st1 ⟨b3, 0, none⟩ (.int .u8 0) <|
 st1 ⟨b4, 0, none⟩ (.bool false) <|
 st1 ⟨b5, 0, none⟩ (.int .i64 0) <|
 mkd h0.size <|
 ldA (.cons .sl (.cons .sl (.cons .sl .nil))) ⟨b2, 0, none⟩ fun x41 =>
 ldT (.int .u8) ⟨b3, 0, none⟩ fun x42 =>
 ldT .bool ⟨b4, 0, none⟩ fun x43 =>
 ldT (.int .i64) ⟨b5, 0, none⟩ fun x44 =>
 K ((⟨x41.1.a, x41.1.len, x41.1.cap⟩, ⟨x41.2.1.a, x41.2.1.len, x41.2.1.cap⟩, ⟨x41.2.2.1.a, x41.2.2.1.len, x41.2.2.1.cap⟩, ()), x42, x43, x44, ()))
 (ldT .sl ⟨b1, 0, none⟩ fun x45 =>
 callT Tryz.prog fn_rup_Assume #[(.slice x45.a x45.len x45.cap)] (.tup (.cons .sl (.cons .bool (.cons (.int .i64) .nil)))) fun r46 =>
 ldT .sl ⟨b0, 0, none⟩ fun x47 =>
 callT Tryz.prog fn_rat_propagate #[(.slice x47.a x47.len x47.cap), (.slice r46.1.a r46.1.len r46.1.cap)] (.tup (.cons .sl (.cons .sl .nil))) fun r48 =>
 nw #[(.slice none 0 0)] ty_sl_lits_Lit fun b49 =>
 st1 ⟨b49, 0, none⟩ (.slice r48.1.a r48.1.len r48.1.cap) <|
 ldT .sl ⟨b1, 0, none⟩ fun x50 =>
 callT Tryz.prog fn_slices_Clone_clauses_Clause_lits_Lit #[(.slice x50.a x50.len x50.cap)] .sl fun r51 =>
 nw #[(.slice none 0 0), (.slice none 0 0), (.slice none 0 0)] ty_rat_Step fun b52 =>
 st1 ⟨b52, 0, none⟩ (.slice r51.a r51.len r51.cap) <|
 st1 ((⟨b52, 0, none⟩ : Addr).add 1) (.slice r48.2.1.a r48.2.1.len r48.2.1.cap) <|
 st1 ((⟨b52, 0, none⟩ : Addr).add 2) (.slice none 0 0) <|
 ldT .sl ⟨b0, 0, none⟩ fun x53 =>
 ldT .sl ⟨b1, 0, none⟩ fun x54 =>
 sx x54.a x54.len (0 : Int) 1 fun p55 =>
 ldT (.int .i64) p55 fun x56 =>
 callT Tryz.prog fn_rat_candidates #[(.slice x53.a x53.len x53.cap), (.int .i64 x56)] .val fun r57 =>
 RangeVC Tryz.prog (.cons (.int .i64) .nil) r57 (fun x58 wrap59 next60 jump61 =>
 wrap59 <|
 ldT .sl ⟨b0, 0, none⟩ fun x62 =>
 sx x62.a x62.len x58.1 2 fun p63 =>
 ldT (.int .i64) p63 fun x64 =>
 nw #[(.int .i64 0), (.slice none 0 0)] ty_rat_Group fun b65 =>
 st1 ⟨b65, 0, none⟩ (.int .i64 x64) <|
 st1 ((⟨b65, 0, none⟩ : Addr).add 1) (.slice none 0 0) <|
 ldT .sl ⟨b0, 0, none⟩ fun x66 =>
 sx x66.a x66.len x58.1 2 fun p67 =>
 ldT .sl (p67.add 1) fun x68 =>
 ldT .sl ⟨b1, 0, none⟩ fun x69 =>
 sx x69.a x69.len (0 : Int) 1 fun p70 =>
 ldT (.int .i64) p70 fun x71 =>
 ldT .sl ⟨b49, 0, none⟩ fun x72 =>
 callT Tryz.prog fn_rat_rest #[(.slice x68.a x68.len x68.cap), (.int .i64 x71), (.slice x72.a x72.len x72.cap)] (.tup (.cons .sl (.cons .bool .nil))) fun r73 =>
 jn (σ := Unit) (fun s75 =>
 ldT .sl ((⟨b52, 0, none⟩ : Addr).add 2) fun x76 =>
 ldA (.cons (.int .i64) (.cons .sl .nil)) ⟨b65, 0, none⟩ fun x77 =>
 nw #[(.int .i64 x77.1), (.slice x77.2.1.a x77.2.1.len x77.2.1.cap)] ty_rat_Group fun b78 =>
 apd ty_rat_Group 2 32 #[(.int .i64 0), (.slice none 0 0)] ⟨x76.a, x76.len, x76.cap⟩ ⟨(some ⟨b78, 0, none⟩), 1, 1⟩ fun s79 =>
 st1 ((⟨b52, 0, none⟩ : Addr).add 2) (.slice s79.a s79.len s79.cap) <|
 next60)
 (fun J74 =>
 brB r73.2.1
 (ldT .sl ⟨b49, 0, none⟩ fun x80 =>
 nw #[(.slice x80.a x80.len x80.cap), (.slice r73.1.a r73.1.len r73.1.cap)] ty_sl_lits_Lit fun b81 =>
 callT Tryz.prog fn_slices_Concat_lits_Lit_lits_Lit #[(.slice (some ⟨b81, 0, none⟩) 2 2)] .sl fun r82 =>
 lfp (σ := (Int × (Sl × Unit))) (fun X83 s84 =>
 brB (decide (s84.1 < (r82.len : Int)))
 (sx r82.a r82.len s84.1 1 fun p85 =>
 ldT (.int .i64) p85 fun x86 =>
 callT Tryz.prog fn_lits_Neg #[(.int .i64 x86)] (.int .i64) fun r87 =>
 nw #[(.int .i64 r87)] ty_lits_Lit fun b88 =>
 apd ty_lits_Lit 1 8 #[(.int .i64 0)] ⟨s84.2.1.a, s84.2.1.len, s84.2.1.cap⟩ ⟨(some ⟨b88, 0, none⟩), 1, 1⟩ fun s89 =>
 X83 ((IntKind.wrap .i64 (s84.1 + (1 : Int))), ⟨s89.a, s89.len, s89.cap⟩, ()))
 (ldT .sl ⟨b12, 0, none⟩ fun x90 =>
 callT Tryz.prog fn_rup_Find #[(.slice s84.2.1.a s84.2.1.len s84.2.1.cap), (.slice x90.a x90.len x90.cap)] (.tup (.cons .sl (.cons .bool (.cons (.int .i64) .nil)))) fun r91 =>
 jn (σ := Bool) (fun t93 =>
 brB t93
 (st1 ⟨b2, 0, none⟩ (.slice none 0 0) <|
 st1 ((⟨b2, 0, none⟩ : Addr).add 1) (.slice none 0 0) <|
 st1 ((⟨b2, 0, none⟩ : Addr).add 2) (.slice none 0 0) <|
 st1 ⟨b3, 0, none⟩ (.int .u8 0) <|
 st1 ⟨b4, 0, none⟩ (.bool false) <|
 st1 ⟨b5, 0, none⟩ (.int .i64 0) <|
 jump61 .ret)
 (ldT .sl ⟨b0, 0, none⟩ fun x94 =>
 callT Tryz.prog fn_rat_named #[(.slice x94.a x94.len x94.cap), (.slice r91.1.a r91.1.len r91.1.cap)] .sl fun r95 =>
 st1 ((⟨b65, 0, none⟩ : Addr).add 1) (.slice r95.a r95.len r95.cap) <|
 J74 (())))
 (fun J92 =>
 brB (r91.2.2.1 != (0 : Int))
 (J92 true)
 (J92 ((!r91.2.1))))))
 ((0 : Int), ⟨none, 0, 0⟩, ()))
 (J74 (()))))
 (ldA (.cons .sl (.cons .sl (.cons .sl .nil))) ⟨b52, 0, none⟩ fun x96 =>
 st1 ⟨b2, 0, none⟩ (.slice x96.1.a x96.1.len x96.1.cap) <|
 st1 ((⟨b2, 0, none⟩ : Addr).add 1) (.slice x96.2.1.a x96.2.1.len x96.2.1.cap) <|
 st1 ((⟨b2, 0, none⟩ : Addr).add 2) (.slice x96.2.2.1.a x96.2.2.1.len x96.2.2.1.cap) <|
 st1 ⟨b3, 0, none⟩ (.int .u8 2) <|
 st1 ⟨b4, 0, none⟩ (.bool true) <|
 st1 ⟨b5, 0, none⟩ (.int .i64 0) <|
 mkd h0.size <|
 ldA (.cons .sl (.cons .sl (.cons .sl .nil))) ⟨b2, 0, none⟩ fun x97 =>
 ldT (.int .u8) ⟨b3, 0, none⟩ fun x98 =>
 ldT .bool ⟨b4, 0, none⟩ fun x99 =>
 ldT (.int .i64) ⟨b5, 0, none⟩ fun x100 =>
 K ((⟨x97.1.a, x97.1.len, x97.1.cap⟩, ⟨x97.2.1.a, x97.2.1.len, x97.2.1.cap⟩, ⟨x97.2.2.1.a, x97.2.2.1.len, x97.2.2.1.cap⟩, ()), x98, x99, x100, ()))
 (mkd h0.size <|
 ldA (.cons .sl (.cons .sl (.cons .sl .nil))) ⟨b2, 0, none⟩ fun x101 =>
 ldT (.int .u8) ⟨b3, 0, none⟩ fun x102 =>
 ldT .bool ⟨b4, 0, none⟩ fun x103 =>
 ldT (.int .i64) ⟨b5, 0, none⟩ fun x104 =>
 K ((⟨x101.1.a, x101.1.len, x101.1.cap⟩, ⟨x101.2.1.a, x101.2.1.len, x101.2.1.cap⟩, ⟨x101.2.2.1.a, x101.2.2.1.len, x101.2.2.1.cap⟩, ()), x102, x103, x104, ()))
 []
 []))
 (fun J39 =>
 brB ((x38.len : Int) == (0 : Int))
 (J39 true)
 (J39 ((r25.2.2.1 != (0 : Int)))))))))
 ((0 : Int), ()))) h0
theorem E_rat_Search (a0 : Sl) (a1 : Sl) (K : ((Sl × (Sl × (Sl × Unit))) × (Int × (Bool × (Int × Unit)))) → HP) (h : Heap) : fnVC Tryz.prog [(1000000, .bool), (96, (.cons (.int .i64) .nil))] 157 Tryz.f13 [(.slice a0.a a0.len a0.cap), (.slice a1.a a1.len a1.cap)] (.tup (.cons (.agg (.cons .sl (.cons .sl (.cons .sl .nil)))) (.cons (.int .u8) (.cons .bool (.cons (.int .i64) .nil))))) K h = F_rat_Search a0 a1 K h := by kernel_rfl
theorem S_rat_Search{h : Heap} {a0 : Sl} {a1 : Sl} (K : ((Sl × (Sl × (Sl × Unit))) × (Int × (Bool × (Int × Unit)))) → HP) (hF : F_rat_Search a0 a1 K h) : CallsH Tryz.prog fn_rat_Search #[(.slice a0.a a0.len a0.cap), (.slice a1.a a1.len a1.cap)] h fun v h' => ∃ x : ((Sl × (Sl × (Sl × Unit))) × (Int × (Bool × (Int × Unit)))), v = Ty.enc (.tup (.cons (.agg (.cons .sl (.cons .sl (.cons .sl .nil)))) (.cons (.int .u8) (.cons .bool (.cons (.int .i64) .nil))))) x ∧ K x h' :=
  callsH_of_fn (P := Tryz.prog) (fn := Tryz.f13) (τ := (.tup (.cons (.agg (.cons .sl (.cons .sl (.cons .sl .nil)))) (.cons (.int .u8) (.cons .bool (.cons (.int .i64) .nil)))))) follows Tryz.func13 (by kernel_rfl) (by kernel_rfl) Tryz.call13 (Eq.mpr (E_rat_Search a0 a1 K h) hF)
def F_rat_Candidates (a0 : Sl) (a1 : Int) (K : (Sl × (Int × Unit)) → HP) : HP := fun h0 => (
 nw #[(.slice a0.a a0.len a0.cap)] ty_sl_rat_Entry fun b0 =>
 ldT .sl ⟨b0, 0, none⟩ fun x1 =>
 callT Tryz.prog fn_rat_Right #[(.slice x1.a x1.len x1.cap)] .bool fun r2 =>
 brB (!r2)
 (mkd h0.size <|
 K (⟨none, 0, 0⟩, (90 : Int), ()))
 (callT Tryz.prog fn_lits_Right #[(.int .i64 a1)] .bool fun r3 =>
 brB (!r3)
 (mkd h0.size <|
 K (⟨none, 0, 0⟩, (10 : Int), ()))
 (nw #[(.slice none 0 0)] ty_sl_int fun b4 =>
 ldT .sl ⟨b0, 0, none⟩ fun x5 =>
 callT Tryz.prog fn_rat_candidates #[(.slice x5.a x5.len x5.cap), (.int .i64 a1)] .val fun r6 =>
 RangeVC Tryz.prog (.cons (.int .i64) .nil) r6 (fun x7 wrap8 next9 jump10 =>
 wrap8 <|
 ldT .sl ⟨b4, 0, none⟩ fun x11 =>
 ldT .sl ⟨b0, 0, none⟩ fun x12 =>
 sx x12.a x12.len x7.1 2 fun p13 =>
 ldT (.int .i64) p13 fun x14 =>
 nw #[(.int .i64 x14)] ty_int fun b15 =>
 apd ty_int 1 8 #[(.int .i64 0)] ⟨x11.a, x11.len, x11.cap⟩ ⟨(some ⟨b15, 0, none⟩), 1, 1⟩ fun s16 =>
 st1 ⟨b4, 0, none⟩ (.slice s16.a s16.len s16.cap) <|
 next9)
 (ldT .sl ⟨b4, 0, none⟩ fun x17 =>
 mkd h0.size <|
 K (⟨x17.a, x17.len, x17.cap⟩, (0 : Int), ()))
 (mkd h0.size <|
 K (⟨none, 0, 0⟩, (0 : Int), ()))
 []
 []))) h0
theorem E_rat_Candidates (a0 : Sl) (a1 : Int) (K : (Sl × (Int × Unit)) → HP) (h : Heap) : fnVC Tryz.prog [(1000000, .bool), (19, (.cons (.int .i64) .nil))] 29 Tryz.f14 [(.slice a0.a a0.len a0.cap), (.int .i64 a1)] (.tup (.cons .sl (.cons (.int .i64) .nil))) K h = F_rat_Candidates a0 a1 K h := by kernel_rfl
theorem S_rat_Candidates{h : Heap} {a0 : Sl} {a1 : Int} (K : (Sl × (Int × Unit)) → HP) (hF : F_rat_Candidates a0 a1 K h) : CallsH Tryz.prog fn_rat_Candidates #[(.slice a0.a a0.len a0.cap), (.int .i64 a1)] h fun v h' => ∃ x : (Sl × (Int × Unit)), v = Ty.enc (.tup (.cons .sl (.cons (.int .i64) .nil))) x ∧ K x h' :=
  callsH_of_fn (P := Tryz.prog) (fn := Tryz.f14) (τ := (.tup (.cons .sl (.cons (.int .i64) .nil)))) follows Tryz.func14 (by kernel_rfl) (by kernel_rfl) Tryz.call14 (Eq.mpr (E_rat_Candidates a0 a1 K h) hF)
def F_rat_Check (a0 : Sl) (a1 : (Sl × (Sl × (Sl × Unit)))) (K : (Int × (Int × (Int × Unit))) → HP) : HP :=
 nw #[(.slice a1.1.a a1.1.len a1.1.cap), (.slice a1.2.1.a a1.2.1.len a1.2.1.cap), (.slice a1.2.2.1.a a1.2.2.1.len a1.2.2.1.cap)] ty_rat_Step fun b0 =>
 callT Tryz.prog fn_rat_Right #[(.slice a0.a a0.len a0.cap)] .bool fun r1 =>
 brB (!r1)
 (K ((0 : Int), (0 : Int), (90 : Int), ()))
 (ldT .sl ⟨b0, 0, none⟩ fun x2 =>
 callT Tryz.prog fn_rup_Assume #[(.slice x2.a x2.len x2.cap)] (.tup (.cons .sl (.cons .bool (.cons (.int .i64) .nil)))) fun r3 =>
 brB (r3.2.2.1 != (0 : Int))
 (K ((0 : Int), (0 : Int), r3.2.2.1, ()))
 (brB r3.2.1
 (K ((1 : Int), (0 : Int), (0 : Int), ()))
 (ldT .sl ((⟨b0, 0, none⟩ : Addr).add 1) fun x4 =>
 callT Tryz.prog fn_rat_follow #[(.slice a0.a a0.len a0.cap), (.slice r3.1.a r3.1.len r3.1.cap), (.slice x4.a x4.len x4.cap)] (.tup (.cons .sl (.cons .bool (.cons (.int .i64) (.cons (.int .i64) .nil))))) fun r5 =>
 brB (r5.2.2.2.1 != (0 : Int))
 (K ((0 : Int), r5.2.2.1, r5.2.2.2.1, ()))
 (brB r5.2.1
 (K ((1 : Int), (0 : Int), (0 : Int), ()))
 (ldT .sl ⟨b0, 0, none⟩ fun x6 =>
 brB ((x6.len : Int) == (0 : Int))
 (K ((0 : Int), (0 : Int), (82 : Int), ()))
 (ldT .sl ⟨b0, 0, none⟩ fun x7 =>
 sx x7.a x7.len (0 : Int) 1 fun p8 =>
 ldT (.int .i64) p8 fun x9 =>
 ldT .sl ((⟨b0, 0, none⟩ : Addr).add 2) fun x10 =>
 callT Tryz.prog fn_rat_groups #[(.slice a0.a a0.len a0.cap), (.int .i64 x9), (.slice x10.a x10.len x10.cap)] (.tup (.cons (.int .i64) (.cons (.int .i64) .nil))) fun r11 =>
 ldT .sl ((⟨b0, 0, none⟩ : Addr).add 2) fun x12 =>
 jn (σ := (Int × (Int × (Int × (Bool × Unit))))) (fun s14 =>
 brB (s14.2.1 != (0 : Int))
 (K ((0 : Int), s14.2.2.1, s14.2.1, ()))
 (K ((2 : Int), (0 : Int), (0 : Int), ())))
 (fun J13 =>
 lfp (σ := (Int × (Int × (Int × (Bool × Unit))))) (fun X15 s16 =>
 brB (decide (s16.1 < (x12.len : Int)))
 (jn (σ := (Int × (Int × (Bool × Unit)))) (fun s18 =>
 X15 ((IntKind.wrap .i64 (s16.1 + (1 : Int))), s18.1, s18.2.1, s18.2.2.1, ()))
 (fun J17 =>
 sx x12.a x12.len s16.1 2 fun p19 =>
 ldA (.cons (.int .i64) (.cons .sl .nil)) p19 fun x20 =>
 nw #[(.int .i64 0), (.slice none 0 0)] ty_rat_Group fun b21 =>
 st1 ⟨b21, 0, none⟩ (.int .i64 x20.1) <|
 st1 ((⟨b21, 0, none⟩ : Addr).add 1) (.slice x20.2.1.a x20.2.1.len x20.2.1.cap) <|
 brB (s16.2.1 != (0 : Int))
 (J13 (s16.1, s16.2.1, s16.2.2.1, s16.2.2.2.1, ()))
 (ldT (.int .i64) ⟨b21, 0, none⟩ fun x22 =>
 callT Tryz.prog fn_rat_find #[(.slice a0.a a0.len a0.cap), (.int .i64 x22)] (.tup (.cons (.int .i64) (.cons .bool .nil))) fun r23 =>
 sx a0.a a0.len r23.1 2 fun p24 =>
 ldT .sl (p24.add 1) fun x25 =>
 callT Tryz.prog fn_rat_rest #[(.slice x25.a x25.len x25.cap), (.int .i64 x9), (.slice r5.1.a r5.1.len r5.1.cap)] (.tup (.cons .sl (.cons .bool .nil))) fun r26 =>
 brB (!r26.2.1)
 (J17 (s16.2.1, s16.2.2.1, s16.2.2.2.1, ()))
 (ldT .sl ((⟨b21, 0, none⟩ : Addr).add 1) fun x27 =>
 nw #[(.slice r5.1.a r5.1.len r5.1.cap), (.slice r26.1.a r26.1.len r26.1.cap)] ty_sl_lits_Lit fun b28 =>
 callT Tryz.prog fn_slices_Concat_lits_Lit_lits_Lit #[(.slice (some ⟨b28, 0, none⟩) 2 2)] .sl fun r29 =>
 ck ((⟨b21, 0, none⟩ : Addr).add 1) (.slice x27.a x27.len x27.cap) <|
 callT Tryz.prog fn_rat_follow #[(.slice a0.a a0.len a0.cap), (.slice r29.a r29.len r29.cap), (.slice x27.a x27.len x27.cap)] (.tup (.cons .sl (.cons .bool (.cons (.int .i64) (.cons (.int .i64) .nil))))) fun r30 =>
 jn (σ := Bool) (fun t32 =>
 jn (σ := (Int × (Int × Unit))) (fun s34 =>
 J17 (s34.1, s34.2.1, r30.2.1, ()))
 (fun J33 =>
 brB t32
 (ldT (.int .i64) ⟨b21, 0, none⟩ fun x35 =>
 J33 ((93 : Int), x35, ()))
 (J33 (r30.2.2.2.1, r30.2.2.1, ()))))
 (fun J31 =>
 brB (r30.2.2.2.1 == (0 : Int))
 (J31 ((!r30.2.1)))
 (J31 false))))))
 (J13 (s16.1, s16.2.1, s16.2.2.1, s16.2.2.2.1, ())))
 ((0 : Int), r11.2.1, r11.1, r5.2.1, ()))))))))
theorem E_rat_Check (a0 : Sl) (a1 : (Sl × (Sl × (Sl × Unit)))) (K : (Int × (Int × (Int × Unit))) → HP) (h : Heap) : fnVC Tryz.prog [(1000000, .bool)] 125 Tryz.f16 [(.slice a0.a a0.len a0.cap), (.agg #[(.slice a1.1.a a1.1.len a1.1.cap), (.slice a1.2.1.a a1.2.1.len a1.2.1.cap), (.slice a1.2.2.1.a a1.2.2.1.len a1.2.2.1.cap)])] (.tup (.cons (.int .u8) (.cons (.int .i64) (.cons (.int .i64) .nil)))) K h = F_rat_Check a0 a1 K h := by kernel_rfl
theorem S_rat_Check{h : Heap} {a0 : Sl} {a1 : (Sl × (Sl × (Sl × Unit)))} (K : (Int × (Int × (Int × Unit))) → HP) (hF : F_rat_Check a0 a1 K h) : CallsH Tryz.prog fn_rat_Check #[(.slice a0.a a0.len a0.cap), (.agg #[(.slice a1.1.a a1.1.len a1.1.cap), (.slice a1.2.1.a a1.2.1.len a1.2.1.cap), (.slice a1.2.2.1.a a1.2.2.1.len a1.2.2.1.cap)])] h fun v h' => ∃ x : (Int × (Int × (Int × Unit))), v = Ty.enc (.tup (.cons (.int .u8) (.cons (.int .i64) (.cons (.int .i64) .nil)))) x ∧ K x h' :=
  callsH_of_fn (P := Tryz.prog) (fn := Tryz.f16) (τ := (.tup (.cons (.int .u8) (.cons (.int .i64) (.cons (.int .i64) .nil))))) follows Tryz.func16 (by kernel_rfl) (by kernel_rfl) Tryz.call16 (Eq.mpr (E_rat_Check a0 a1 K h) hF)
def F_salvorlaw09_checks (a0 : Sl) (a1 : (Sl × (Sl × (Sl × Unit)))) (K : Bool → HP) : HP :=
 nw #[(.slice a1.1.a a1.1.len a1.1.cap), (.slice a1.2.1.a a1.2.1.len a1.2.1.cap), (.slice a1.2.2.1.a a1.2.2.1.len a1.2.2.1.cap)] ty_rat_Step fun b0 =>
 ldA (.cons .sl (.cons .sl (.cons .sl .nil))) ⟨b0, 0, none⟩ fun x1 =>
 cj
 (callT Tryz.prog fn_salvorlaw09_Theirs #[(.slice a0.a a0.len a0.cap)] .sl fun r2 =>
 ckA ⟨b0, 0, none⟩ [(.slice x1.1.a x1.1.len x1.1.cap), (.slice x1.2.1.a x1.2.1.len x1.2.1.cap), (.slice x1.2.2.1.a x1.2.2.1.len x1.2.2.1.cap)] <|
 cj
 (callT Tryz.prog fn_salvorlaw09_step #[(.agg #[(.slice x1.1.a x1.1.len x1.1.cap), (.slice x1.2.1.a x1.2.1.len x1.2.1.cap), (.slice x1.2.2.1.a x1.2.2.1.len x1.2.2.1.cap)])] (.agg (.cons .sl (.cons .sl (.cons .sl .nil)))) fun r3 =>
 nw #[(.slice none 0 0), (.slice none 0 0), (.slice none 0 0)] ty_salvorref09_Step fun b4 =>
 st1 ⟨b4, 0, none⟩ (.slice r3.1.a r3.1.len r3.1.cap) <|
 st1 ((⟨b4, 0, none⟩ : Addr).add 1) (.slice r3.2.1.a r3.2.1.len r3.2.1.cap) <|
 st1 ((⟨b4, 0, none⟩ : Addr).add 2) (.slice r3.2.2.1.a r3.2.2.1.len r3.2.2.1.cap) <|
 ldA (.cons .sl (.cons .sl (.cons .sl .nil))) ⟨b0, 0, none⟩ fun x5 =>
 callT Tryz.prog fn_rat_Check #[(.slice a0.a a0.len a0.cap), (.agg #[(.slice x5.1.a x5.1.len x5.1.cap), (.slice x5.2.1.a x5.2.1.len x5.2.1.cap), (.slice x5.2.2.1.a x5.2.2.1.len x5.2.2.1.cap)])] (.tup (.cons (.int .u8) (.cons (.int .i64) (.cons (.int .i64) .nil)))) fun r6 =>
 callT Tryz.prog fn_salvorref09_Right #[(.slice r2.a r2.len r2.cap)] .bool fun r7 =>
 brB (!r7)
 (jn (σ := Bool) (fun t9 =>
 jn (σ := Bool) (fun t11 =>
 K t11)
 (fun J10 =>
 brB t9
 (J10 ((r6.2.2.1 == (90 : Int))))
 (J10 false)))
 (fun J8 =>
 brB (r6.1 == (0 : Int))
 (J8 ((r6.2.1 == (0 : Int))))
 (J8 false)))
 (ldT .sl ⟨b4, 0, none⟩ fun x12 =>
 callT Tryz.prog fn_salvorref02_Right #[(.slice x12.a x12.len x12.cap)] .bool fun r13 =>
 brB (!r13)
 (jn (σ := Bool) (fun t15 =>
 jn (σ := Bool) (fun t17 =>
 K t17)
 (fun J16 =>
 brB t15
 (J16 ((r6.2.2.1 == (20 : Int))))
 (J16 false)))
 (fun J14 =>
 brB (r6.1 == (0 : Int))
 (J14 ((r6.2.1 == (0 : Int))))
 (J14 false)))
 (ldA (.cons .sl (.cons .sl (.cons .sl .nil))) ⟨b4, 0, none⟩ fun x18 =>
 callT Tryz.prog fn_salvorref09_Check #[(.slice r2.a r2.len r2.cap), (.agg #[(.slice x18.1.a x18.1.len x18.1.cap), (.slice x18.2.1.a x18.2.1.len x18.2.1.cap), (.slice x18.2.2.1.a x18.2.2.1.len x18.2.2.1.cap)])] (.tup (.cons (.int .i64) (.cons (.int .i64) (.cons (.int .i64) .nil)))) fun r19 =>
 brB ((IntKind.wrap .i64 r6.1) == r19.1)
 (brB (r6.2.1 == r19.2.1)
 (brB (r6.2.2.1 == r19.2.2.1)
 (callT Tryz.prog fn_salvorlaw09_Theirs #[(.slice a0.a a0.len a0.cap)] .sl fun r20 =>
 callT Tryz.prog fn_salvorlaw09_sameEntries #[(.slice r20.a r20.len r20.cap), (.slice r2.a r2.len r2.cap)] .bool fun r21 =>
 brB r21
 (ldA (.cons .sl (.cons .sl (.cons .sl .nil))) ⟨b0, 0, none⟩ fun x22 =>
 ldA (.cons .sl (.cons .sl (.cons .sl .nil))) ⟨b4, 0, none⟩ fun x23 =>
 callT Tryz.prog fn_salvorlaw09_step #[(.agg #[(.slice x22.1.a x22.1.len x22.1.cap), (.slice x22.2.1.a x22.2.1.len x22.2.1.cap), (.slice x22.2.2.1.a x22.2.2.1.len x22.2.2.1.cap)])] (.agg (.cons .sl (.cons .sl (.cons .sl .nil)))) fun r24 =>
 ckA ⟨b4, 0, none⟩ [(.slice x23.1.a x23.1.len x23.1.cap), (.slice x23.2.1.a x23.2.1.len x23.2.1.cap), (.slice x23.2.2.1.a x23.2.2.1.len x23.2.2.1.cap)] <|
 callT Tryz.prog fn_salvorlaw09_sameStep #[(.agg #[(.slice r24.1.a r24.1.len r24.1.cap), (.slice r24.2.1.a r24.2.1.len r24.2.1.cap), (.slice r24.2.2.1.a r24.2.2.1.len r24.2.2.1.cap)]), (.agg #[(.slice x23.1.a x23.1.len x23.1.cap), (.slice x23.2.1.a x23.2.1.len x23.2.1.cap), (.slice x23.2.2.1.a x23.2.2.1.len x23.2.2.1.cap)])] .bool fun r25 =>
 K r25)
 (K false))
 (K false))
 (K false))
 (K false))))
 (nw #[(.slice none 0 0), (.slice none 0 0), (.slice none 0 0)] ty_salvorref09_Step fun b26 =>
 callT Tryz.prog fn_salvorlaw09_step #[(.agg #[(.slice x1.1.a x1.1.len x1.1.cap), (.slice x1.2.1.a x1.2.1.len x1.2.1.cap), (.slice x1.2.2.1.a x1.2.2.1.len x1.2.2.1.cap)])] (.agg (.cons .sl (.cons .sl (.cons .sl .nil)))) fun r27 =>
 st1 ⟨b26, 0, none⟩ (.slice r27.1.a r27.1.len r27.1.cap) <|
 st1 ((⟨b26, 0, none⟩ : Addr).add 1) (.slice r27.2.1.a r27.2.1.len r27.2.1.cap) <|
 st1 ((⟨b26, 0, none⟩ : Addr).add 2) (.slice r27.2.2.1.a r27.2.2.1.len r27.2.2.1.cap) <|
 ldA (.cons .sl (.cons .sl (.cons .sl .nil))) ⟨b0, 0, none⟩ fun x28 =>
 callT Tryz.prog fn_rat_Check #[(.slice a0.a a0.len a0.cap), (.agg #[(.slice x28.1.a x28.1.len x28.1.cap), (.slice x28.2.1.a x28.2.1.len x28.2.1.cap), (.slice x28.2.2.1.a x28.2.2.1.len x28.2.2.1.cap)])] (.tup (.cons (.int .u8) (.cons (.int .i64) (.cons (.int .i64) .nil)))) fun r29 =>
 callT Tryz.prog fn_salvorref09_Right #[(.slice r2.a r2.len r2.cap)] .bool fun r30 =>
 brB (!r30)
 (jn (σ := Bool) (fun t32 =>
 jn (σ := Bool) (fun t34 =>
 K t34)
 (fun J33 =>
 brB t32
 (J33 ((r29.2.2.1 == (90 : Int))))
 (J33 false)))
 (fun J31 =>
 brB (r29.1 == (0 : Int))
 (J31 ((r29.2.1 == (0 : Int))))
 (J31 false)))
 (ldT .sl ⟨b26, 0, none⟩ fun x35 =>
 callT Tryz.prog fn_salvorref02_Right #[(.slice x35.a x35.len x35.cap)] .bool fun r36 =>
 brB (!r36)
 (jn (σ := Bool) (fun t38 =>
 jn (σ := Bool) (fun t40 =>
 K t40)
 (fun J39 =>
 brB t38
 (J39 ((r29.2.2.1 == (20 : Int))))
 (J39 false)))
 (fun J37 =>
 brB (r29.1 == (0 : Int))
 (J37 ((r29.2.1 == (0 : Int))))
 (J37 false)))
 (ldA (.cons .sl (.cons .sl (.cons .sl .nil))) ⟨b26, 0, none⟩ fun x41 =>
 callT Tryz.prog fn_salvorref09_Check #[(.slice r2.a r2.len r2.cap), (.agg #[(.slice x41.1.a x41.1.len x41.1.cap), (.slice x41.2.1.a x41.2.1.len x41.2.1.cap), (.slice x41.2.2.1.a x41.2.2.1.len x41.2.2.1.cap)])] (.tup (.cons (.int .i64) (.cons (.int .i64) (.cons (.int .i64) .nil)))) fun r42 =>
 brB ((IntKind.wrap .i64 r29.1) == r42.1)
 (brB (r29.2.1 == r42.2.1)
 (brB (r29.2.2.1 == r42.2.2.1)
 (callT Tryz.prog fn_salvorlaw09_Theirs #[(.slice a0.a a0.len a0.cap)] .sl fun r43 =>
 callT Tryz.prog fn_salvorlaw09_sameEntries #[(.slice r43.a r43.len r43.cap), (.slice r2.a r2.len r2.cap)] .bool fun r44 =>
 brB r44
 (ldA (.cons .sl (.cons .sl (.cons .sl .nil))) ⟨b0, 0, none⟩ fun x45 =>
 ldA (.cons .sl (.cons .sl (.cons .sl .nil))) ⟨b26, 0, none⟩ fun x46 =>
 callT Tryz.prog fn_salvorlaw09_step #[(.agg #[(.slice x45.1.a x45.1.len x45.1.cap), (.slice x45.2.1.a x45.2.1.len x45.2.1.cap), (.slice x45.2.2.1.a x45.2.2.1.len x45.2.2.1.cap)])] (.agg (.cons .sl (.cons .sl (.cons .sl .nil)))) fun r47 =>
 ckA ⟨b26, 0, none⟩ [(.slice x46.1.a x46.1.len x46.1.cap), (.slice x46.2.1.a x46.2.1.len x46.2.1.cap), (.slice x46.2.2.1.a x46.2.2.1.len x46.2.2.1.cap)] <|
 callT Tryz.prog fn_salvorlaw09_sameStep #[(.agg #[(.slice r47.1.a r47.1.len r47.1.cap), (.slice r47.2.1.a r47.2.1.len r47.2.1.cap), (.slice r47.2.2.1.a r47.2.2.1.len r47.2.2.1.cap)]), (.agg #[(.slice x46.1.a x46.1.len x46.1.cap), (.slice x46.2.1.a x46.2.1.len x46.2.1.cap), (.slice x46.2.2.1.a x46.2.2.1.len x46.2.2.1.cap)])] .bool fun r48 =>
 K r48)
 (K false))
 (K false))
 (K false))
 (K false)))))
 (nw #[(.slice none 0 0), (.slice none 0 0), (.slice none 0 0)] ty_salvorref09_Step fun b49 =>
 callT Tryz.prog fn_salvorlaw09_Theirs #[(.slice a0.a a0.len a0.cap)] .sl fun r50 =>
 ckA ⟨b0, 0, none⟩ [(.slice x1.1.a x1.1.len x1.1.cap), (.slice x1.2.1.a x1.2.1.len x1.2.1.cap), (.slice x1.2.2.1.a x1.2.2.1.len x1.2.2.1.cap)] <|
 callT Tryz.prog fn_salvorlaw09_step #[(.agg #[(.slice x1.1.a x1.1.len x1.1.cap), (.slice x1.2.1.a x1.2.1.len x1.2.1.cap), (.slice x1.2.2.1.a x1.2.2.1.len x1.2.2.1.cap)])] (.agg (.cons .sl (.cons .sl (.cons .sl .nil)))) fun r51 =>
 st1 ⟨b49, 0, none⟩ (.slice r51.1.a r51.1.len r51.1.cap) <|
 st1 ((⟨b49, 0, none⟩ : Addr).add 1) (.slice r51.2.1.a r51.2.1.len r51.2.1.cap) <|
 st1 ((⟨b49, 0, none⟩ : Addr).add 2) (.slice r51.2.2.1.a r51.2.2.1.len r51.2.2.1.cap) <|
 ldA (.cons .sl (.cons .sl (.cons .sl .nil))) ⟨b0, 0, none⟩ fun x52 =>
 callT Tryz.prog fn_rat_Check #[(.slice a0.a a0.len a0.cap), (.agg #[(.slice x52.1.a x52.1.len x52.1.cap), (.slice x52.2.1.a x52.2.1.len x52.2.1.cap), (.slice x52.2.2.1.a x52.2.2.1.len x52.2.2.1.cap)])] (.tup (.cons (.int .u8) (.cons (.int .i64) (.cons (.int .i64) .nil)))) fun r53 =>
 callT Tryz.prog fn_salvorref09_Right #[(.slice r50.a r50.len r50.cap)] .bool fun r54 =>
 brB (!r54)
 (jn (σ := Bool) (fun t56 =>
 jn (σ := Bool) (fun t58 =>
 K t58)
 (fun J57 =>
 brB t56
 (J57 ((r53.2.2.1 == (90 : Int))))
 (J57 false)))
 (fun J55 =>
 brB (r53.1 == (0 : Int))
 (J55 ((r53.2.1 == (0 : Int))))
 (J55 false)))
 (ldT .sl ⟨b49, 0, none⟩ fun x59 =>
 callT Tryz.prog fn_salvorref02_Right #[(.slice x59.a x59.len x59.cap)] .bool fun r60 =>
 brB (!r60)
 (jn (σ := Bool) (fun t62 =>
 jn (σ := Bool) (fun t64 =>
 K t64)
 (fun J63 =>
 brB t62
 (J63 ((r53.2.2.1 == (20 : Int))))
 (J63 false)))
 (fun J61 =>
 brB (r53.1 == (0 : Int))
 (J61 ((r53.2.1 == (0 : Int))))
 (J61 false)))
 (ldA (.cons .sl (.cons .sl (.cons .sl .nil))) ⟨b49, 0, none⟩ fun x65 =>
 callT Tryz.prog fn_salvorref09_Check #[(.slice r50.a r50.len r50.cap), (.agg #[(.slice x65.1.a x65.1.len x65.1.cap), (.slice x65.2.1.a x65.2.1.len x65.2.1.cap), (.slice x65.2.2.1.a x65.2.2.1.len x65.2.2.1.cap)])] (.tup (.cons (.int .i64) (.cons (.int .i64) (.cons (.int .i64) .nil)))) fun r66 =>
 brB ((IntKind.wrap .i64 r53.1) == r66.1)
 (brB (r53.2.1 == r66.2.1)
 (brB (r53.2.2.1 == r66.2.2.1)
 (callT Tryz.prog fn_salvorlaw09_Theirs #[(.slice a0.a a0.len a0.cap)] .sl fun r67 =>
 callT Tryz.prog fn_salvorlaw09_sameEntries #[(.slice r67.a r67.len r67.cap), (.slice r50.a r50.len r50.cap)] .bool fun r68 =>
 brB r68
 (ldA (.cons .sl (.cons .sl (.cons .sl .nil))) ⟨b0, 0, none⟩ fun x69 =>
 ldA (.cons .sl (.cons .sl (.cons .sl .nil))) ⟨b49, 0, none⟩ fun x70 =>
 callT Tryz.prog fn_salvorlaw09_step #[(.agg #[(.slice x69.1.a x69.1.len x69.1.cap), (.slice x69.2.1.a x69.2.1.len x69.2.1.cap), (.slice x69.2.2.1.a x69.2.2.1.len x69.2.2.1.cap)])] (.agg (.cons .sl (.cons .sl (.cons .sl .nil)))) fun r71 =>
 ckA ⟨b49, 0, none⟩ [(.slice x70.1.a x70.1.len x70.1.cap), (.slice x70.2.1.a x70.2.1.len x70.2.1.cap), (.slice x70.2.2.1.a x70.2.2.1.len x70.2.2.1.cap)] <|
 callT Tryz.prog fn_salvorlaw09_sameStep #[(.agg #[(.slice r71.1.a r71.1.len r71.1.cap), (.slice r71.2.1.a r71.2.1.len r71.2.1.cap), (.slice r71.2.2.1.a r71.2.2.1.len r71.2.2.1.cap)]), (.agg #[(.slice x70.1.a x70.1.len x70.1.cap), (.slice x70.2.1.a x70.2.1.len x70.2.1.cap), (.slice x70.2.2.1.a x70.2.2.1.len x70.2.2.1.cap)])] .bool fun r72 =>
 K r72)
 (K false))
 (K false))
 (K false))
 (K false))))
theorem E_salvorlaw09_checks (a0 : Sl) (a1 : (Sl × (Sl × (Sl × Unit)))) (K : Bool → HP) (h : Heap) : fnVC Tryz.prog [(1000000, .bool)] 84 Tryz.f19 [(.slice a0.a a0.len a0.cap), (.agg #[(.slice a1.1.a a1.1.len a1.1.cap), (.slice a1.2.1.a a1.2.1.len a1.2.1.cap), (.slice a1.2.2.1.a a1.2.2.1.len a1.2.2.1.cap)])] .bool K h = F_salvorlaw09_checks a0 a1 K h := by kernel_rfl
theorem S_salvorlaw09_checks{h : Heap} {a0 : Sl} {a1 : (Sl × (Sl × (Sl × Unit)))} (K : Bool → HP) (hF : F_salvorlaw09_checks a0 a1 K h) : CallsH Tryz.prog fn_salvorlaw09_checks #[(.slice a0.a a0.len a0.cap), (.agg #[(.slice a1.1.a a1.1.len a1.1.cap), (.slice a1.2.1.a a1.2.1.len a1.2.1.cap), (.slice a1.2.2.1.a a1.2.2.1.len a1.2.2.1.cap)])] h fun v h' => ∃ x : Bool, v = Ty.enc .bool x ∧ K x h' :=
  callsH_of_fn (P := Tryz.prog) (fn := Tryz.f19) (τ := .bool) follows Tryz.func19 (by kernel_rfl) (by kernel_rfl) Tryz.call19 (Eq.mpr (E_salvorlaw09_checks a0 a1 K h) hF)
def F_salvorlaw09_searches (a0 : Sl) (a1 : Sl) (K : Bool → HP) : HP :=
 callT Tryz.prog fn_salvorlaw09_Theirs #[(.slice a0.a a0.len a0.cap)] .sl fun r0 =>
 callT Tryz.prog fn_salvorlaw08_Ints #[(.slice a1.a a1.len a1.cap)] .sl fun r1 =>
 callT Tryz.prog fn_rat_Search #[(.slice a0.a a0.len a0.cap), (.slice a1.a a1.len a1.cap)] (.tup (.cons (.agg (.cons .sl (.cons .sl (.cons .sl .nil)))) (.cons (.int .u8) (.cons .bool (.cons (.int .i64) .nil))))) fun r2 =>
 nw #[(.slice none 0 0), (.slice none 0 0), (.slice none 0 0)] ty_rat_Step fun b3 =>
 st1 ⟨b3, 0, none⟩ (.slice r2.1.1.a r2.1.1.len r2.1.1.cap) <|
 st1 ((⟨b3, 0, none⟩ : Addr).add 1) (.slice r2.1.2.1.a r2.1.2.1.len r2.1.2.1.cap) <|
 st1 ((⟨b3, 0, none⟩ : Addr).add 2) (.slice r2.1.2.2.1.a r2.1.2.2.1.len r2.1.2.2.1.cap) <|
 callT Tryz.prog fn_salvorref09_Right #[(.slice r0.a r0.len r0.cap)] .bool fun r4 =>
 brB (!r4)
 (jn (σ := Bool) (fun t6 =>
 jn (σ := Bool) (fun t8 =>
 jn (σ := Bool) (fun t10 =>
 K t10)
 (fun J9 =>
 brB t8
 (ldA (.cons .sl (.cons .sl (.cons .sl .nil))) ⟨b3, 0, none⟩ fun x11 =>
 callT Tryz.prog fn_salvorlaw09_step #[(.agg #[(.slice x11.1.a x11.1.len x11.1.cap), (.slice x11.2.1.a x11.2.1.len x11.2.1.cap), (.slice x11.2.2.1.a x11.2.2.1.len x11.2.2.1.cap)])] (.agg (.cons .sl (.cons .sl (.cons .sl .nil)))) fun r12 =>
 callT Tryz.prog fn_salvorlaw09_sameStep #[(.agg #[(.slice r12.1.a r12.1.len r12.1.cap), (.slice r12.2.1.a r12.2.1.len r12.2.1.cap), (.slice r12.2.2.1.a r12.2.2.1.len r12.2.2.1.cap)]), (.agg #[(.slice none 0 0), (.slice none 0 0), (.slice none 0 0)])] .bool fun r13 =>
 J9 (r13))
 (J9 false)))
 (fun J7 =>
 brB t6
 (J7 ((r2.2.2.2.1 == (90 : Int))))
 (J7 false)))
 (fun J5 =>
 brB (r2.2.1 == (0 : Int))
 (J5 ((!r2.2.2.1)))
 (J5 false)))
 (callT Tryz.prog fn_salvorref02_Right #[(.slice r1.a r1.len r1.cap)] .bool fun r14 =>
 brB (!r14)
 (jn (σ := Bool) (fun t16 =>
 jn (σ := Bool) (fun t18 =>
 jn (σ := Bool) (fun t20 =>
 K t20)
 (fun J19 =>
 brB t18
 (ldA (.cons .sl (.cons .sl (.cons .sl .nil))) ⟨b3, 0, none⟩ fun x21 =>
 callT Tryz.prog fn_salvorlaw09_step #[(.agg #[(.slice x21.1.a x21.1.len x21.1.cap), (.slice x21.2.1.a x21.2.1.len x21.2.1.cap), (.slice x21.2.2.1.a x21.2.2.1.len x21.2.2.1.cap)])] (.agg (.cons .sl (.cons .sl (.cons .sl .nil)))) fun r22 =>
 callT Tryz.prog fn_salvorlaw09_sameStep #[(.agg #[(.slice r22.1.a r22.1.len r22.1.cap), (.slice r22.2.1.a r22.2.1.len r22.2.1.cap), (.slice r22.2.2.1.a r22.2.2.1.len r22.2.2.1.cap)]), (.agg #[(.slice none 0 0), (.slice none 0 0), (.slice none 0 0)])] .bool fun r23 =>
 J19 (r23))
 (J19 false)))
 (fun J17 =>
 brB t16
 (J17 ((r2.2.2.2.1 == (20 : Int))))
 (J17 false)))
 (fun J15 =>
 brB (r2.2.1 == (0 : Int))
 (J15 ((!r2.2.2.1)))
 (J15 false)))
 (callT Tryz.prog fn_salvorref09_Search #[(.slice r0.a r0.len r0.cap), (.slice r1.a r1.len r1.cap)] (.tup (.cons (.agg (.cons .sl (.cons .sl (.cons .sl .nil)))) (.cons (.int .i64) (.cons .bool .nil)))) fun r24 =>
 nw #[(.slice none 0 0), (.slice none 0 0), (.slice none 0 0)] ty_salvorref09_Step fun b25 =>
 st1 ⟨b25, 0, none⟩ (.slice r24.1.1.a r24.1.1.len r24.1.1.cap) <|
 st1 ((⟨b25, 0, none⟩ : Addr).add 1) (.slice r24.1.2.1.a r24.1.2.1.len r24.1.2.1.cap) <|
 st1 ((⟨b25, 0, none⟩ : Addr).add 2) (.slice r24.1.2.2.1.a r24.1.2.2.1.len r24.1.2.2.1.cap) <|
 ldA (.cons .sl (.cons .sl (.cons .sl .nil))) ⟨b3, 0, none⟩ fun x26 =>
 ldA (.cons .sl (.cons .sl (.cons .sl .nil))) ⟨b25, 0, none⟩ fun x27 =>
 callT Tryz.prog fn_salvorlaw09_step #[(.agg #[(.slice x26.1.a x26.1.len x26.1.cap), (.slice x26.2.1.a x26.2.1.len x26.2.1.cap), (.slice x26.2.2.1.a x26.2.2.1.len x26.2.2.1.cap)])] (.agg (.cons .sl (.cons .sl (.cons .sl .nil)))) fun r28 =>
 ckA ⟨b25, 0, none⟩ [(.slice x27.1.a x27.1.len x27.1.cap), (.slice x27.2.1.a x27.2.1.len x27.2.1.cap), (.slice x27.2.2.1.a x27.2.2.1.len x27.2.2.1.cap)] <|
 callT Tryz.prog fn_salvorlaw09_sameStep #[(.agg #[(.slice r28.1.a r28.1.len r28.1.cap), (.slice r28.2.1.a r28.2.1.len r28.2.1.cap), (.slice r28.2.2.1.a r28.2.2.1.len r28.2.2.1.cap)]), (.agg #[(.slice x27.1.a x27.1.len x27.1.cap), (.slice x27.2.1.a x27.2.1.len x27.2.1.cap), (.slice x27.2.2.1.a x27.2.2.1.len x27.2.2.1.cap)])] .bool fun r29 =>
 brB (!r29)
 (K false)
 (brB ((IntKind.wrap .i64 r2.2.1) != r24.2.1)
 (K false)
 (brB (!(r2.2.2.1 == r24.2.2.1))
 (K false)
 (brB (r2.2.2.2.1 != (0 : Int))
 (K false)
 (ldT .sl ⟨b3, 0, none⟩ fun x30 =>
 lfp (σ := (Int × Unit)) (fun X31 s32 =>
 brB (decide (s32.1 < (x30.len : Int)))
 (ldT .sl ⟨b3, 0, none⟩ fun x33 =>
 sx x33.a x33.len s32.1 1 fun p34 =>
 st1 p34 (.int .i64 99) <|
 X31 ((IntKind.wrap .i64 (s32.1 + (1 : Int))), ()))
 (callT Tryz.prog fn_salvorlaw08_Ints #[(.slice a1.a a1.len a1.cap)] .sl fun r35 =>
 callT Tryz.prog fn_slices_Equal_int_int #[(.slice r35.a r35.len r35.cap), (.slice r1.a r1.len r1.cap)] .bool fun r36 =>
 jn (σ := Bool) (fun t38 =>
 K t38)
 (fun J37 =>
 brB r36
 (callT Tryz.prog fn_salvorlaw09_Theirs #[(.slice a0.a a0.len a0.cap)] .sl fun r39 =>
 callT Tryz.prog fn_salvorlaw09_sameEntries #[(.slice r39.a r39.len r39.cap), (.slice r0.a r0.len r0.cap)] .bool fun r40 =>
 J37 (r40))
 (J37 false))))
 ((0 : Int), ())))))))
theorem E_salvorlaw09_searches (a0 : Sl) (a1 : Sl) (K : Bool → HP) (h : Heap) : fnVC Tryz.prog [(1000000, .bool)] 113 Tryz.f20 [(.slice a0.a a0.len a0.cap), (.slice a1.a a1.len a1.cap)] .bool K h = F_salvorlaw09_searches a0 a1 K h := by kernel_rfl
theorem S_salvorlaw09_searches{h : Heap} {a0 : Sl} {a1 : Sl} (K : Bool → HP) (hF : F_salvorlaw09_searches a0 a1 K h) : CallsH Tryz.prog fn_salvorlaw09_searches #[(.slice a0.a a0.len a0.cap), (.slice a1.a a1.len a1.cap)] h fun v h' => ∃ x : Bool, v = Ty.enc .bool x ∧ K x h' :=
  callsH_of_fn (P := Tryz.prog) (fn := Tryz.f20) (τ := .bool) follows Tryz.func20 (by kernel_rfl) (by kernel_rfl) Tryz.call20 (Eq.mpr (E_salvorlaw09_searches a0 a1 K h) hF)
def F_salvorlaw09_tells (a0 : Sl) (a1 : Int) (K : Bool → HP) : HP :=
 callT Tryz.prog fn_salvorlaw09_Theirs #[(.slice a0.a a0.len a0.cap)] .sl fun r0 =>
 callT Tryz.prog fn_salvorref09_Right #[(.slice r0.a r0.len r0.cap)] .bool fun r1 =>
 callT Tryz.prog fn_rat_Find #[(.slice a0.a a0.len a0.cap), (.int .i64 a1)] (.tup (.cons (.int .i64) (.cons .bool (.cons (.int .i64) .nil)))) fun r2 =>
 callT Tryz.prog fn_rat_Candidates #[(.slice a0.a a0.len a0.cap), (.int .i64 a1)] (.tup (.cons .sl (.cons (.int .i64) .nil))) fun r3 =>
 callT Tryz.prog fn_rat_Right #[(.slice a0.a a0.len a0.cap)] .bool fun r4 =>
 brB (!(r4 == r1))
 (K false)
 (brB (!r1)
 (jn (σ := Bool) (fun t6 =>
 jn (σ := Bool) (fun t8 =>
 jn (σ := Bool) (fun t10 =>
 jn (σ := Bool) (fun t12 =>
 K t12)
 (fun J11 =>
 brB t10
 (J11 ((r3.2.1 == (90 : Int))))
 (J11 false)))
 (fun J9 =>
 brB t8
 (J9 (((r3.1.len : Int) == (0 : Int))))
 (J9 false)))
 (fun J7 =>
 brB t6
 (J7 ((r2.2.2.1 == (90 : Int))))
 (J7 false)))
 (fun J5 =>
 brB (r2.1 == (0 : Int))
 (J5 ((!r2.2.1)))
 (J5 false)))
 (callT Tryz.prog fn_salvorref09_Find #[(.slice r0.a r0.len r0.cap), (.int .i64 a1)] (.int .i64) fun r13 =>
 jn (σ := Bool) (fun t15 =>
 jn (σ := Bool) (fun t17 =>
 jn (σ := Bool) (fun t19 =>
 brB t19
 (K false)
 (jn (σ := Bool) (fun t21 =>
 jn (σ := Bool) (fun t23 =>
 K t23)
 (fun J22 =>
 brB t21
 (J22 true)
 (jn (σ := Bool) (fun t25 =>
 jn (σ := Bool) (fun t27 =>
 J22 (t27))
 (fun J26 =>
 brB t25
 (callT Tryz.prog fn_salvorlaw09_Theirs #[(.slice a0.a a0.len a0.cap)] .sl fun r28 =>
 callT Tryz.prog fn_salvorlaw09_sameEntries #[(.slice r28.a r28.len r28.cap), (.slice r0.a r0.len r0.cap)] .bool fun r29 =>
 J26 (r29))
 (J26 false)))
 (fun J24 =>
 brB (r3.2.1 == (0 : Int))
 (callT Tryz.prog fn_salvorref09_Candidates #[(.slice r0.a r0.len r0.cap), (.int .i64 a1)] .sl fun r30 =>
 callT Tryz.prog fn_slices_Equal_int_int #[(.slice r3.1.a r3.1.len r3.1.cap), (.slice r30.a r30.len r30.cap)] .bool fun r31 =>
 J24 (r31))
 (J24 false)))))
 (fun J20 =>
 brB (r3.2.1 != (0 : Int))
 (J20 (((r3.1.len : Int) == (0 : Int))))
 (J20 false))))
 (fun J18 =>
 brB t17
 (J18 true)
 (callT Tryz.prog fn_salvorref09_Literal #[(.int .i64 a1)] (.int .i64) fun r32 =>
 J18 ((r3.2.1 != r32)))))
 (fun J16 =>
 brB t15
 (J16 true)
 (J16 ((r2.2.2.1 != (0 : Int))))))
 (fun J14 =>
 brB (!(r2.2.1 == (decide (r13 ≥ (0 : Int)))))
 (J14 true)
 (J14 ((r2.1 != (if (0 : Int) > r13 then (0 : Int) else r13)))))))
theorem E_salvorlaw09_tells (a0 : Sl) (a1 : Int) (K : Bool → HP) (h : Heap) : fnVC Tryz.prog [(1000000, .bool)] 102 Tryz.f21 [(.slice a0.a a0.len a0.cap), (.int .i64 a1)] .bool K h = F_salvorlaw09_tells a0 a1 K h := by kernel_rfl
theorem S_salvorlaw09_tells{h : Heap} {a0 : Sl} {a1 : Int} (K : Bool → HP) (hF : F_salvorlaw09_tells a0 a1 K h) : CallsH Tryz.prog fn_salvorlaw09_tells #[(.slice a0.a a0.len a0.cap), (.int .i64 a1)] h fun v h' => ∃ x : Bool, v = Ty.enc .bool x ∧ K x h' :=
  callsH_of_fn (P := Tryz.prog) (fn := Tryz.f21) (τ := .bool) follows Tryz.func21 (by kernel_rfl) (by kernel_rfl) Tryz.call21 (Eq.mpr (E_salvorlaw09_tells a0 a1 K h) hF)
def F_salvorlaw09_limits (K : Bool → HP) : HP :=
 nw #[(.int .i64 0), (.slice none 0 0)] ty_rat_Entry fun b0 =>
 nw #[(.int .i64 (-1 : Int)), (.slice none 0 0)] ty_rat_Entry fun b1 =>
 nw #[(.int .i64 1), (.slice none 0 0), (.int .i64 1), (.slice none 0 0)] ty_rat_Entry fun b2 =>
 nw #[(.int .i64 2), (.slice none 0 0), (.int .i64 1), (.slice none 0 0)] ty_rat_Entry fun b3 =>
 nw #[(.int .i64 1073741824), (.slice none 0 0)] ty_rat_Entry fun b4 =>
 nw #[(.int .i64 1073741825), (.slice none 0 0)] ty_rat_Entry fun b5 =>
 nw #[(.int .i64 0)] ty_lits_Lit fun b6 =>
 nw #[(.int .i64 1), (.slice (some ⟨b6, 0, none⟩) 1 1)] ty_rat_Entry fun b7 =>
 nw #[(.int .i64 1)] ty_lits_Lit fun b8 =>
 nw #[(.int .i64 1), (.slice (some ⟨b8, 0, none⟩) 1 1)] ty_rat_Entry fun b9 =>
 nw #[(.slice none 0 0), (.slice (some ⟨b0, 0, none⟩) 1 1), (.slice (some ⟨b1, 0, none⟩) 1 1), (.slice (some ⟨b2, 0, none⟩) 2 2), (.slice (some ⟨b3, 0, none⟩) 2 2), (.slice (some ⟨b4, 0, none⟩) 1 1), (.slice (some ⟨b5, 0, none⟩) 1 1), (.slice (some ⟨b7, 0, none⟩) 1 1), (.slice (some ⟨b9, 0, none⟩) 1 1)] ty_sl_rat_Entry fun b10 =>
 lfp (σ := (Int × (Bool × Unit))) (fun X11 s12 =>
 brB (decide (s12.1 < (9 : Int)))
 (sx (some ⟨b10, 0, none⟩) 9 s12.1 1 fun p13 =>
 ldT .sl p13 fun x14 =>
 callT Tryz.prog fn_salvorlaw09_tells #[(.slice x14.a x14.len x14.cap), (.int .i64 1)] .bool fun r15 =>
 jn (σ := Bool) (fun t17 =>
 jn (σ := Bool) (fun t19 =>
 jn (σ := Bool) (fun t21 =>
 jn (σ := Bool) (fun t23 =>
 brB t23
 (K false)
 (X11 ((IntKind.wrap .i64 (s12.1 + (1 : Int))), s12.2.1, ())))
 (fun J22 =>
 brB t21
 (J22 true)
 (nw #[(.int .i64 0)] ty_lits_Lit fun b24 =>
 callT Tryz.prog fn_salvorlaw09_searches #[(.slice x14.a x14.len x14.cap), (.slice (some ⟨b24, 0, none⟩) 1 1)] .bool fun r25 =>
 J22 ((!r25)))))
 (fun J20 =>
 brB t19
 (J20 true)
 (nw #[(.int .i64 (-1 : Int))] ty_lits_Lit fun b26 =>
 callT Tryz.prog fn_salvorlaw09_searches #[(.slice x14.a x14.len x14.cap), (.slice (some ⟨b26, 0, none⟩) 1 1)] .bool fun r27 =>
 J20 ((!r27)))))
 (fun J18 =>
 brB t17
 (J18 true)
 (nw #[(.int .i64 (-1 : Int))] ty_lits_Lit fun b28 =>
 nw #[(.int .i64 1)] ty_int fun b29 =>
 callT Tryz.prog fn_salvorlaw09_checks #[(.slice x14.a x14.len x14.cap), (.agg #[(.slice (some ⟨b28, 0, none⟩) 1 1), (.slice (some ⟨b29, 0, none⟩) 1 1), (.slice none 0 0)])] .bool fun r30 =>
 J18 ((!r30)))))
 (fun J16 =>
 brB (!r15)
 (J16 true)
 (callT Tryz.prog fn_salvorlaw09_tells #[(.slice x14.a x14.len x14.cap), (.int .i64 1073741824)] .bool fun r31 =>
 J16 ((!r31)))))
 (nw #[(.int .i64 (-9223372036854775808 : Int)), (.int .i64 (-1073741825 : Int)), (.int .i64 (-1073741824 : Int)), (.int .i64 (-1 : Int)), (.int .i64 0), (.int .i64 1), (.int .i64 1073741824), (.int .i64 1073741825), (.int .i64 9223372036854775807)] ty_int fun b32 =>
 lfp (σ := (Int × (Bool × Unit))) (fun X33 s34 =>
 brB (decide (s34.1 < (9 : Int)))
 (sx (some ⟨b32, 0, none⟩) 9 s34.1 1 fun p35 =>
 ldT (.int .i64) p35 fun x36 =>
 nw #[(.int .i64 x36)] ty_int fun b37 =>
 callT Tryz.prog fn_salvorlaw09_texts #[(.slice (some ⟨b37, 0, none⟩) 1 1), (.slice none 0 0)] .bool fun r38 =>
 jn (σ := Bool) (fun t40 =>
 jn (σ := Bool) (fun t42 =>
 jn (σ := Bool) (fun t44 =>
 jn (σ := Bool) (fun t46 =>
 brB t46
 (K false)
 (X33 ((IntKind.wrap .i64 (s34.1 + (1 : Int))), s34.2.1, ())))
 (fun J45 =>
 brB t44
 (J45 true)
 (callT Tryz.prog fn_salvorlaw09_three #[] .sl fun r47 =>
 nw #[(.int .i64 (-3 : Int)), (.int .i64 1)] ty_lits_Lit fun b48 =>
 nw #[(.int .i64 x36)] ty_int fun b49 =>
 nw #[(.int .i64 2), (.slice (some ⟨b49, 0, none⟩) 1 1), (.int .i64 x36), (.slice none 0 0)] ty_rat_Group fun b50 =>
 callT Tryz.prog fn_salvorlaw09_checks #[(.slice r47.a r47.len r47.cap), (.agg #[(.slice (some ⟨b48, 0, none⟩) 2 2), (.slice none 0 0), (.slice (some ⟨b50, 0, none⟩) 2 2)])] .bool fun r51 =>
 J45 ((!r51)))))
 (fun J43 =>
 brB t42
 (J43 true)
 (callT Tryz.prog fn_salvorlaw09_three #[] .sl fun r52 =>
 nw #[(.int .i64 4), (.int .i64 1)] ty_lits_Lit fun b53 =>
 nw #[(.int .i64 x36)] ty_int fun b54 =>
 callT Tryz.prog fn_salvorlaw09_checks #[(.slice r52.a r52.len r52.cap), (.agg #[(.slice (some ⟨b53, 0, none⟩) 2 2), (.slice (some ⟨b54, 0, none⟩) 1 1), (.slice none 0 0)])] .bool fun r55 =>
 J43 ((!r55)))))
 (fun J41 =>
 brB t40
 (J41 true)
 (nw #[(.int .i64 x36)] ty_int fun b56 =>
 nw #[(.int .i64 3), (.slice (some ⟨b56, 0, none⟩) 1 1)] ty_rat_Group fun b57 =>
 callT Tryz.prog fn_salvorlaw09_texts #[(.slice none 0 0), (.slice (some ⟨b57, 0, none⟩) 1 1)] .bool fun r58 =>
 J41 ((!r58)))))
 (fun J39 =>
 brB (!r38)
 (J39 true)
 (nw #[(.int .i64 (-3 : Int)), (.int .i64 x36)] ty_int fun b59 =>
 nw #[(.int .i64 x36), (.slice none 0 0)] ty_rat_Group fun b60 =>
 callT Tryz.prog fn_salvorlaw09_texts #[(.slice (some ⟨b59, 0, none⟩) 2 2), (.slice (some ⟨b60, 0, none⟩) 1 1)] .bool fun r61 =>
 J39 ((!r61)))))
 (nw #[(.int .i64 0)] ty_lits_Lit fun b62 =>
 nw #[(.int .i64 1), (.int .i64 2)] ty_lits_Lit fun b63 =>
 nw #[(.int .i64 2), (.int .i64 1)] ty_lits_Lit fun b64 =>
 nw #[(.int .i64 3)] ty_lits_Lit fun b65 =>
 nw #[(.slice none 0 0), (.slice (some ⟨b62, 0, none⟩) 1 1), (.slice (some ⟨b63, 0, none⟩) 2 2), (.slice (some ⟨b64, 0, none⟩) 2 2), (.slice (some ⟨b65, 0, none⟩) 1 1)] ty_clauses_Clause fun b66 =>
 lfp (σ := (Int × (Bool × Unit))) (fun X67 s68 =>
 brB (decide (s68.1 < (5 : Int)))
 (sx (some ⟨b66, 0, none⟩) 5 s68.1 1 fun p69 =>
 ldT .sl p69 fun x70 =>
 nw #[(.int .i64 1)] ty_lits_Lit fun b71 =>
 nw #[(.int .i64 (-1 : Int)), (.int .i64 (-2 : Int))] ty_lits_Lit fun b72 =>
 nw #[(.int .i64 (-2 : Int)), (.int .i64 (-1 : Int)), (.int .i64 (-2 : Int))] ty_lits_Lit fun b73 =>
 nw #[(.int .i64 1), (.int .i64 (-1 : Int))] ty_lits_Lit fun b74 =>
 nw #[(.int .i64 0)] ty_lits_Lit fun b75 =>
 nw #[(.int .i64 (-3 : Int)), (.int .i64 4)] ty_lits_Lit fun b76 =>
 nw #[(.slice none 0 0), (.slice (some ⟨b71, 0, none⟩) 1 1), (.slice (some ⟨b72, 0, none⟩) 2 2), (.slice (some ⟨b73, 0, none⟩) 3 3), (.slice (some ⟨b74, 0, none⟩) 2 2), (.slice (some ⟨b75, 0, none⟩) 1 1), (.slice (some ⟨b76, 0, none⟩) 2 2)] ty_sl_lits_Lit fun b77 =>
 lfp (σ := (Int × (Bool × Unit))) (fun X78 s79 =>
 brB (decide (s79.1 < (7 : Int)))
 (sx (some ⟨b77, 0, none⟩) 7 s79.1 1 fun p80 =>
 ldT .sl p80 fun x81 =>
 callT Tryz.prog fn_salvorlaw09_repairs #[(.slice x70.a x70.len x70.cap), (.slice x81.a x81.len x81.cap)] .bool fun r82 =>
 brB (!r82)
 (K false)
 (X78 ((IntKind.wrap .i64 (s79.1 + (1 : Int))), s79.2.1, ())))
 (X67 ((IntKind.wrap .i64 (s68.1 + (1 : Int))), s79.2.1, ())))
 ((0 : Int), s68.2.1, ()))
 (K true))
 ((0 : Int), s34.2.1, ())))
 ((0 : Int), s12.2.1, ())))
 ((0 : Int), false, ())
theorem E_salvorlaw09_limits (K : Bool → HP) (h : Heap) : fnVC Tryz.prog [(1000000, .bool)] 144 Tryz.f22 [] .bool K h = F_salvorlaw09_limits K h := by kernel_rfl
theorem S_salvorlaw09_limits{h : Heap} (K : Bool → HP) (hF : F_salvorlaw09_limits K h) : CallsH Tryz.prog fn_salvorlaw09_limits #[] h fun v h' => ∃ x : Bool, v = Ty.enc .bool x ∧ K x h' :=
  callsH_of_fn (P := Tryz.prog) (fn := Tryz.f22) (τ := .bool) follows Tryz.func22 (by kernel_rfl) (by kernel_rfl) Tryz.call22 (Eq.mpr (E_salvorlaw09_limits K h) hF)
def F_slices_ContainsFunc_rat_Group_rat_Group (a0 : Sl) (a1 : Value) (K : Bool → HP) : HP :=
 callT Tryz.prog fn_slices_IndexFunc_rat_Group_rat_Group #[(.slice a0.a a0.len a0.cap), a1] (.int .i64) fun r0 =>
 K (decide (r0 ≥ (0 : Int)))
theorem E_slices_ContainsFunc_rat_Group_rat_Group (a0 : Sl) (a1 : Value) (K : Bool → HP) (h : Heap) : fnVC Tryz.prog [(1000000, .nil)] 9 Tryz.f24 [(.slice a0.a a0.len a0.cap), a1] .bool K h = F_slices_ContainsFunc_rat_Group_rat_Group a0 a1 K h := by kernel_rfl
theorem S_slices_ContainsFunc_rat_Group_rat_Group{h : Heap} {a0 : Sl} {a1 : Value} (K : Bool → HP) (hF : F_slices_ContainsFunc_rat_Group_rat_Group a0 a1 K h) : CallsH Tryz.prog fn_slices_ContainsFunc_rat_Group_rat_Group #[(.slice a0.a a0.len a0.cap), a1] h fun v h' => ∃ x : Bool, v = Ty.enc .bool x ∧ K x h' :=
  callsH_of_fn (P := Tryz.prog) (fn := Tryz.f24) (τ := .bool) follows Tryz.func24 (by kernel_rfl) (by kernel_rfl) Tryz.call24 (Eq.mpr (E_slices_ContainsFunc_rat_Group_rat_Group a0 a1 K h) hF)
def F_salvorlaw09_texts (a0 : Sl) (a1 : Sl) (K : Bool → HP) : HP :=
 callT Tryz.prog fn_slices_Clone_int_int #[(.slice a0.a a0.len a0.cap)] .sl fun r0 =>
 callT Tryz.prog fn_rat_Split #[(.slice r0.a r0.len r0.cap)] (.tup (.cons .sl (.cons .sl (.cons (.int .i64) .nil)))) fun r1 =>
 callT Tryz.prog fn_salvorref09_Split #[(.slice a0.a a0.len a0.cap)] (.tup (.cons .sl (.cons .sl (.cons (.int .i64) .nil)))) fun r2 =>
 callT Tryz.prog fn_slices_Equal_int_int #[(.slice r1.1.a r1.1.len r1.1.cap), (.slice r2.1.a r2.1.len r2.1.cap)] .bool fun r3 =>
 jn (σ := Bool) (fun t5 =>
 jn (σ := Bool) (fun t7 =>
 brB t7
 (K false)
 (lfp (σ := (Int × Unit)) (fun X8 s9 =>
 brB (decide (s9.1 < (r1.2.1.len : Int)))
 (sx r1.2.1.a r1.2.1.len s9.1 2 fun p10 =>
 ldA (.cons (.int .i64) (.cons .sl .nil)) p10 fun x11 =>
 nw #[(.int .i64 0), (.slice none 0 0)] ty_rat_Group fun b12 =>
 st1 ⟨b12, 0, none⟩ (.int .i64 x11.1) <|
 st1 ((⟨b12, 0, none⟩ : Addr).add 1) (.slice x11.2.1.a x11.2.1.len x11.2.1.cap) <|
 ldT .sl ((⟨b12, 0, none⟩ : Addr).add 1) fun x13 =>
 lfp (σ := (Int × Unit)) (fun X14 s15 =>
 brB (decide (s15.1 < (x13.len : Int)))
 (ldT .sl ((⟨b12, 0, none⟩ : Addr).add 1) fun x16 =>
 sx x16.a x16.len s15.1 1 fun p17 =>
 st1 p17 (.int .i64 (-9 : Int)) <|
 X14 ((IntKind.wrap .i64 (s15.1 + (1 : Int))), ()))
 (X8 ((IntKind.wrap .i64 (s9.1 + (1 : Int))), ())))
 ((0 : Int), ()))
 (callT Tryz.prog fn_salvorlaw09_step #[(.agg #[(.slice none 0 0), (.slice none 0 0), (.slice a1.a a1.len a1.cap)])] (.agg (.cons .sl (.cons .sl (.cons .sl .nil)))) fun r18 =>
 nw #[(.slice none 0 0), (.slice none 0 0), (.slice none 0 0)] ty_salvorref09_Step fun b19 =>
 st1 ⟨b19, 0, none⟩ (.slice r18.1.a r18.1.len r18.1.cap) <|
 st1 ((⟨b19, 0, none⟩ : Addr).add 1) (.slice r18.2.1.a r18.2.1.len r18.2.1.cap) <|
 st1 ((⟨b19, 0, none⟩ : Addr).add 2) (.slice r18.2.2.1.a r18.2.2.1.len r18.2.2.1.cap) <|
 callT Tryz.prog fn_rat_Join #[(.slice r0.a r0.len r0.cap), (.slice a1.a a1.len a1.cap)] (.tup (.cons .sl (.cons (.int .i64) .nil))) fun r20 =>
 ldT .sl ((⟨b19, 0, none⟩ : Addr).add 2) fun x21 =>
 callT Tryz.prog fn_salvorref09_Join #[(.slice a0.a a0.len a0.cap), (.slice x21.a x21.len x21.cap)] (.tup (.cons .sl (.cons (.int .i64) .nil))) fun r22 =>
 callT Tryz.prog fn_slices_Equal_int_int #[(.slice r20.1.a r20.1.len r20.1.cap), (.slice r22.1.a r22.1.len r22.1.cap)] .bool fun r23 =>
 jn (σ := Bool) (fun t25 =>
 brB t25
 (K false)
 (lfp (σ := (Int × Unit)) (fun X26 s27 =>
 brB (decide (s27.1 < (r20.1.len : Int)))
 (sx r20.1.a r20.1.len s27.1 1 fun p28 =>
 st1 p28 (.int .i64 (-9 : Int)) <|
 X26 ((IntKind.wrap .i64 (s27.1 + (1 : Int))), ()))
 (callT Tryz.prog fn_slices_Equal_int_int #[(.slice r0.a r0.len r0.cap), (.slice a0.a a0.len a0.cap)] .bool fun r29 =>
 brB r29
 (ldA (.cons .sl (.cons .sl (.cons .sl .nil))) ⟨b19, 0, none⟩ fun x30 =>
 callT Tryz.prog fn_salvorlaw09_step #[(.agg #[(.slice none 0 0), (.slice none 0 0), (.slice a1.a a1.len a1.cap)])] (.agg (.cons .sl (.cons .sl (.cons .sl .nil)))) fun r31 =>
 ckA ⟨b19, 0, none⟩ [(.slice x30.1.a x30.1.len x30.1.cap), (.slice x30.2.1.a x30.2.1.len x30.2.1.cap), (.slice x30.2.2.1.a x30.2.2.1.len x30.2.2.1.cap)] <|
 callT Tryz.prog fn_salvorlaw09_sameStep #[(.agg #[(.slice r31.1.a r31.1.len r31.1.cap), (.slice r31.2.1.a r31.2.1.len r31.2.1.cap), (.slice r31.2.2.1.a r31.2.2.1.len r31.2.2.1.cap)]), (.agg #[(.slice x30.1.a x30.1.len x30.1.cap), (.slice x30.2.1.a x30.2.1.len x30.2.1.cap), (.slice x30.2.2.1.a x30.2.2.1.len x30.2.2.1.cap)])] .bool fun r32 =>
 K r32)
 (K false)))
 ((0 : Int), ())))
 (fun J24 =>
 brB (!r23)
 (J24 true)
 (J24 ((r20.2.1 != r22.2.1))))))
 ((0 : Int), ())))
 (fun J6 =>
 brB t5
 (J6 true)
 (J6 ((r1.2.2.1 != r2.2.2.1)))))
 (fun J4 =>
 brB (!r3)
 (J4 true)
 (callT Tryz.prog fn_salvorlaw09_step #[(.agg #[(.slice none 0 0), (.slice none 0 0), (.slice r1.2.1.a r1.2.1.len r1.2.1.cap)])] (.agg (.cons .sl (.cons .sl (.cons .sl .nil)))) fun r33 =>
 callT Tryz.prog fn_salvorlaw09_sameStep #[(.agg #[(.slice r33.1.a r33.1.len r33.1.cap), (.slice r33.2.1.a r33.2.1.len r33.2.1.cap), (.slice r33.2.2.1.a r33.2.2.1.len r33.2.2.1.cap)]), (.agg #[(.slice none 0 0), (.slice none 0 0), (.slice r2.2.1.a r2.2.1.len r2.2.1.cap)])] .bool fun r34 =>
 J4 ((!r34))))
theorem E_salvorlaw09_texts (a0 : Sl) (a1 : Sl) (K : Bool → HP) (h : Heap) : fnVC Tryz.prog [(1000000, .bool)] 113 Tryz.f27 [(.slice a0.a a0.len a0.cap), (.slice a1.a a1.len a1.cap)] .bool K h = F_salvorlaw09_texts a0 a1 K h := by kernel_rfl
theorem S_salvorlaw09_texts{h : Heap} {a0 : Sl} {a1 : Sl} (K : Bool → HP) (hF : F_salvorlaw09_texts a0 a1 K h) : CallsH Tryz.prog fn_salvorlaw09_texts #[(.slice a0.a a0.len a0.cap), (.slice a1.a a1.len a1.cap)] h fun v h' => ∃ x : Bool, v = Ty.enc .bool x ∧ K x h' :=
  callsH_of_fn (P := Tryz.prog) (fn := Tryz.f27) (τ := .bool) follows Tryz.func27 (by kernel_rfl) (by kernel_rfl) Tryz.call27 (Eq.mpr (E_salvorlaw09_texts a0 a1 K h) hF)
def F_salvorlaw09_repairs (a0 : Sl) (a1 : Sl) (K : Bool → HP) : HP :=
 callT Tryz.prog fn_salvorlaw08_Ints #[(.slice a0.a a0.len a0.cap)] .sl fun r0 =>
 callT Tryz.prog fn_salvorlaw08_Ints #[(.slice a1.a a1.len a1.cap)] .sl fun r1 =>
 callT Tryz.prog fn_rat_Repair #[(.slice a0.a a0.len a0.cap), (.slice a1.a a1.len a1.cap)] (.tup (.cons .sl (.cons (.int .i64) .nil))) fun r2 =>
 callT Tryz.prog fn_salvorref09_Repair #[(.slice r0.a r0.len r0.cap), (.slice r1.a r1.len r1.cap)] (.tup (.cons .sl (.cons (.int .i64) .nil))) fun r3 =>
 callT Tryz.prog fn_salvorlaw08_Ints #[(.slice r2.1.a r2.1.len r2.1.cap)] .sl fun r4 =>
 callT Tryz.prog fn_slices_Equal_int_int #[(.slice r4.a r4.len r4.cap), (.slice r3.1.a r3.1.len r3.1.cap)] .bool fun r5 =>
 jn (σ := Bool) (fun t7 =>
 brB t7
 (K false)
 (lfp (σ := (Int × Unit)) (fun X8 s9 =>
 brB (decide (s9.1 < (r2.1.len : Int)))
 (sx r2.1.a r2.1.len s9.1 1 fun p10 =>
 st1 p10 (.int .i64 99) <|
 X8 ((IntKind.wrap .i64 (s9.1 + (1 : Int))), ()))
 (callT Tryz.prog fn_salvorlaw08_Ints #[(.slice a0.a a0.len a0.cap)] .sl fun r11 =>
 callT Tryz.prog fn_slices_Equal_int_int #[(.slice r11.a r11.len r11.cap), (.slice r0.a r0.len r0.cap)] .bool fun r12 =>
 jn (σ := Bool) (fun t14 =>
 K t14)
 (fun J13 =>
 brB r12
 (callT Tryz.prog fn_salvorlaw08_Ints #[(.slice a1.a a1.len a1.cap)] .sl fun r15 =>
 callT Tryz.prog fn_slices_Equal_int_int #[(.slice r15.a r15.len r15.cap), (.slice r1.a r1.len r1.cap)] .bool fun r16 =>
 J13 (r16))
 (J13 false))))
 ((0 : Int), ())))
 (fun J6 =>
 brB (!r5)
 (J6 true)
 (J6 ((r2.2.1 != r3.2.1))))
theorem E_salvorlaw09_repairs (a0 : Sl) (a1 : Sl) (K : Bool → HP) (h : Heap) : fnVC Tryz.prog [(1000000, .bool)] 57 Tryz.f28 [(.slice a0.a a0.len a0.cap), (.slice a1.a a1.len a1.cap)] .bool K h = F_salvorlaw09_repairs a0 a1 K h := by kernel_rfl
theorem S_salvorlaw09_repairs{h : Heap} {a0 : Sl} {a1 : Sl} (K : Bool → HP) (hF : F_salvorlaw09_repairs a0 a1 K h) : CallsH Tryz.prog fn_salvorlaw09_repairs #[(.slice a0.a a0.len a0.cap), (.slice a1.a a1.len a1.cap)] h fun v h' => ∃ x : Bool, v = Ty.enc .bool x ∧ K x h' :=
  callsH_of_fn (P := Tryz.prog) (fn := Tryz.f28) (τ := .bool) follows Tryz.func28 (by kernel_rfl) (by kernel_rfl) Tryz.call28 (Eq.mpr (E_salvorlaw09_repairs a0 a1 K h) hF)
def F_lits_Right (a0 : Int) (K : Bool → HP) : HP :=
 brB (a0 != (0 : Int))
 (brB (decide (a0 ≥ (-1048576 : Int)))
 (K (decide (a0 ≤ (1048576 : Int))))
 (K false))
 (K false)
theorem E_lits_Right (a0 : Int) (K : Bool → HP) (h : Heap) : fnVC Tryz.prog [(1000000, .nil)] 13 Tryz.f31 [(.int .i64 a0)] .bool K h = F_lits_Right a0 K h := by kernel_rfl
theorem S_lits_Right{h : Heap} {a0 : Int} (K : Bool → HP) (hF : F_lits_Right a0 K h) : CallsH Tryz.prog fn_lits_Right #[(.int .i64 a0)] h fun v h' => ∃ x : Bool, v = Ty.enc .bool x ∧ K x h' :=
  callsH_of_fn (P := Tryz.prog) (fn := Tryz.f31) (τ := .bool) follows Tryz.func31 (by kernel_rfl) (by kernel_rfl) Tryz.call31 (Eq.mpr (E_lits_Right a0 K h) hF)
def F_rat_Find (a0 : Sl) (a1 : Int) (K : (Int × (Bool × (Int × Unit))) → HP) : HP :=
 callT Tryz.prog fn_rat_Right #[(.slice a0.a a0.len a0.cap)] .bool fun r0 =>
 brB (!r0)
 (K ((0 : Int), false, (90 : Int), ()))
 (callT Tryz.prog fn_rat_find #[(.slice a0.a a0.len a0.cap), (.int .i64 a1)] (.tup (.cons (.int .i64) (.cons .bool .nil))) fun r1 =>
 jn (σ := (Int × Unit)) (fun s3 =>
 K (s3.1, r1.2.1, (0 : Int), ()))
 (fun J2 =>
 brB (!r1.2.1)
 (J2 ((0 : Int), ()))
 (J2 (r1.1, ()))))
theorem E_rat_Find (a0 : Sl) (a1 : Int) (K : (Int × (Bool × (Int × Unit))) → HP) (h : Heap) : fnVC Tryz.prog [(1000000, .bool)] 22 Tryz.f32 [(.slice a0.a a0.len a0.cap), (.int .i64 a1)] (.tup (.cons (.int .i64) (.cons .bool (.cons (.int .i64) .nil)))) K h = F_rat_Find a0 a1 K h := by kernel_rfl
theorem S_rat_Find{h : Heap} {a0 : Sl} {a1 : Int} (K : (Int × (Bool × (Int × Unit))) → HP) (hF : F_rat_Find a0 a1 K h) : CallsH Tryz.prog fn_rat_Find #[(.slice a0.a a0.len a0.cap), (.int .i64 a1)] h fun v h' => ∃ x : (Int × (Bool × (Int × Unit))), v = Ty.enc (.tup (.cons (.int .i64) (.cons .bool (.cons (.int .i64) .nil)))) x ∧ K x h' :=
  callsH_of_fn (P := Tryz.prog) (fn := Tryz.f32) (τ := (.tup (.cons (.int .i64) (.cons .bool (.cons (.int .i64) .nil))))) follows Tryz.func32 (by kernel_rfl) (by kernel_rfl) Tryz.call32 (Eq.mpr (E_rat_Find a0 a1 K h) hF)
def F_rat_Right (a0 : Sl) (K : Bool → HP) : HP :=
 lfp (σ := (Int × (Int × (Bool × Unit)))) (fun X0 s1 =>
 brB (decide (s1.1 < (a0.len : Int)))
 (sx a0.a a0.len s1.1 2 fun p2 =>
 ldA (.cons (.int .i64) (.cons .sl .nil)) p2 fun x3 =>
 nw #[(.int .i64 0), (.slice none 0 0)] ty_rat_Entry fun b4 =>
 st1 ⟨b4, 0, none⟩ (.int .i64 x3.1) <|
 st1 ((⟨b4, 0, none⟩ : Addr).add 1) (.slice x3.2.1.a x3.2.1.len x3.2.1.cap) <|
 ldT (.int .i64) ⟨b4, 0, none⟩ fun x5 =>
 jn (σ := Bool) (fun t7 =>
 jn (σ := Bool) (fun t9 =>
 brB t9
 (K false)
 (ldT (.int .i64) ⟨b4, 0, none⟩ fun x10 =>
 X0 ((IntKind.wrap .i64 (s1.1 + (1 : Int))), x10, s1.2.2.1, ())))
 (fun J8 =>
 brB t7
 (J8 true)
 (ldT .sl ((⟨b4, 0, none⟩ : Addr).add 1) fun x11 =>
 callT Tryz.prog fn_clauses_Right #[(.slice x11.a x11.len x11.cap)] .bool fun r12 =>
 J8 ((!r12)))))
 (fun J6 =>
 brB (decide (x5 ≤ s1.2.1))
 (J6 true)
 (ldT (.int .i64) ⟨b4, 0, none⟩ fun x13 =>
 J6 ((decide (x13 > (1073741824 : Int)))))))
 (K (decide ((a0.len : Int) ≤ (1048576 : Int)))))
 ((0 : Int), (0 : Int), false, ())
theorem E_rat_Right (a0 : Sl) (K : Bool → HP) (h : Heap) : fnVC Tryz.prog [(1000000, .bool)] 33 Tryz.f33 [(.slice a0.a a0.len a0.cap)] .bool K h = F_rat_Right a0 K h := by kernel_rfl
theorem S_rat_Right{h : Heap} {a0 : Sl} (K : Bool → HP) (hF : F_rat_Right a0 K h) : CallsH Tryz.prog fn_rat_Right #[(.slice a0.a a0.len a0.cap)] h fun v h' => ∃ x : Bool, v = Ty.enc .bool x ∧ K x h' :=
  callsH_of_fn (P := Tryz.prog) (fn := Tryz.f33) (τ := .bool) follows Tryz.func33 (by kernel_rfl) (by kernel_rfl) Tryz.call33 (Eq.mpr (E_rat_Right a0 K h) hF)
def F_salvorlaw09_three (K : Sl → HP) : HP :=
 nw #[(.int .i64 1), (.int .i64 2)] ty_lits_Lit fun b0 =>
 nw #[(.int .i64 (-1 : Int)), (.int .i64 3)] ty_lits_Lit fun b1 =>
 nw #[(.int .i64 (-2 : Int)), (.int .i64 (-3 : Int))] ty_lits_Lit fun b2 =>
 nw #[(.int .i64 1), (.slice (some ⟨b0, 0, none⟩) 2 2), (.int .i64 2), (.slice (some ⟨b1, 0, none⟩) 2 2), (.int .i64 3), (.slice (some ⟨b2, 0, none⟩) 2 2)] ty_rat_Entry fun b3 =>
 K ⟨(some ⟨b3, 0, none⟩), 3, 3⟩
theorem E_salvorlaw09_three (K : Sl → HP) (h : Heap) : fnVC Tryz.prog [(1000000, .bool)] 8 Tryz.f34 [] .sl K h = F_salvorlaw09_three K h := by kernel_rfl
theorem S_salvorlaw09_three{h : Heap} (K : Sl → HP) (hF : F_salvorlaw09_three K h) : CallsH Tryz.prog fn_salvorlaw09_three #[] h fun v h' => ∃ x : Sl, v = Ty.enc .sl x ∧ K x h' :=
  callsH_of_fn (P := Tryz.prog) (fn := Tryz.f34) (τ := .sl) follows Tryz.func34 (by kernel_rfl) (by kernel_rfl) Tryz.call34 (Eq.mpr (E_salvorlaw09_three K h) hF)
def F_rat_Split (a0 : Sl) (K : (Sl × (Sl × (Int × Unit))) → HP) : HP :=
 lfp (σ := (Int × (Sl × (Sl × (Int × (Sl × (Sl × Unit))))))) (fun X0 s1 =>
 brB (decide (s1.1 < (a0.len : Int)))
 (sx a0.a a0.len s1.1 1 fun p2 =>
 ldT (.int .i64) p2 fun x3 =>
 jn (σ := Bool) (fun t5 =>
 jn (σ := Bool) (fun t7 =>
 brB t7
 (K (⟨none, 0, 0⟩, ⟨none, 0, 0⟩, (91 : Int), ()))
 (jn (σ := (Sl × (Sl × Unit))) (fun s9 =>
 X0 ((IntKind.wrap .i64 (s1.1 + (1 : Int))), ⟨s9.1.a, s9.1.len, s9.1.cap⟩, ⟨s9.2.1.a, s9.2.1.len, s9.2.1.cap⟩, s1.2.2.2.1, ⟨s1.2.2.2.2.1.a, s1.2.2.2.2.1.len, s1.2.2.2.2.1.cap⟩, ⟨s1.2.2.2.2.2.1.a, s1.2.2.2.2.2.1.len, s1.2.2.2.2.2.1.cap⟩, ()))
 (fun J8 =>
 brB (decide (x3 < (0 : Int)))
 (nw #[(.int .i64 (IntKind.wrap .i64 (0 - x3))), (.slice none 0 0)] ty_rat_Group fun b10 =>
 apd ty_rat_Group 2 32 #[(.int .i64 0), (.slice none 0 0)] ⟨s1.2.1.a, s1.2.1.len, s1.2.1.cap⟩ ⟨(some ⟨b10, 0, none⟩), 1, 1⟩ fun s11 =>
 J8 (⟨s11.a, s11.len, s11.cap⟩, ⟨s1.2.2.1.a, s1.2.2.1.len, s1.2.2.1.cap⟩, ()))
 (jn (σ := (Sl × Unit)) (fun s13 =>
 J8 (⟨s1.2.1.a, s1.2.1.len, s1.2.1.cap⟩, ⟨s13.1.a, s13.1.len, s13.1.cap⟩, ()))
 (fun J12 =>
 brB (decide ((s1.2.1.len : Int) > (0 : Int)))
 (sx s1.2.1.a s1.2.1.len (IntKind.wrap .i64 ((s1.2.1.len : Int) - (1 : Int))) 2 fun p14 =>
 ldT .sl (p14.add 1) fun x15 =>
 nw #[(.int .i64 x3)] ty_int fun b16 =>
 apd ty_int 1 8 #[(.int .i64 0)] ⟨x15.a, x15.len, x15.cap⟩ ⟨(some ⟨b16, 0, none⟩), 1, 1⟩ fun s17 =>
 st1 (p14.add 1) (.slice s17.a s17.len s17.cap) <|
 J12 (⟨s1.2.2.1.a, s1.2.2.1.len, s1.2.2.1.cap⟩, ()))
 (nw #[(.int .i64 x3)] ty_int fun b18 =>
 apd ty_int 1 8 #[(.int .i64 0)] ⟨s1.2.2.1.a, s1.2.2.1.len, s1.2.2.1.cap⟩ ⟨(some ⟨b18, 0, none⟩), 1, 1⟩ fun s19 =>
 J12 (⟨s19.a, s19.len, s19.cap⟩, ())))))))
 (fun J6 =>
 brB t5
 (J6 true)
 (J6 ((decide (x3 < (-1073741824 : Int)))))))
 (fun J4 =>
 brB (x3 == (0 : Int))
 (J4 true)
 (J4 ((decide (x3 > (1073741824 : Int)))))))
 (K (⟨s1.2.2.1.a, s1.2.2.1.len, s1.2.2.1.cap⟩, ⟨s1.2.1.a, s1.2.1.len, s1.2.1.cap⟩, (0 : Int), ())))
 ((0 : Int), ⟨none, 0, 0⟩, ⟨none, 0, 0⟩, (0 : Int), ⟨none, 0, 0⟩, ⟨none, 0, 0⟩, ())
theorem E_rat_Split (a0 : Sl) (K : (Sl × (Sl × (Int × Unit))) → HP) (h : Heap) : fnVC Tryz.prog [(1000000, .bool)] 62 Tryz.f35 [(.slice a0.a a0.len a0.cap)] (.tup (.cons .sl (.cons .sl (.cons (.int .i64) .nil)))) K h = F_rat_Split a0 K h := by kernel_rfl
theorem S_rat_Split{h : Heap} {a0 : Sl} (K : (Sl × (Sl × (Int × Unit))) → HP) (hF : F_rat_Split a0 K h) : CallsH Tryz.prog fn_rat_Split #[(.slice a0.a a0.len a0.cap)] h fun v h' => ∃ x : (Sl × (Sl × (Int × Unit))), v = Ty.enc (.tup (.cons .sl (.cons .sl (.cons (.int .i64) .nil)))) x ∧ K x h' :=
  callsH_of_fn (P := Tryz.prog) (fn := Tryz.f35) (τ := (.tup (.cons .sl (.cons .sl (.cons (.int .i64) .nil))))) follows Tryz.func35 (by kernel_rfl) (by kernel_rfl) Tryz.call35 (Eq.mpr (E_rat_Split a0 K h) hF)
def F_rat_Repair (a0 : Sl) (a1 : Sl) (K : (Sl × (Int × Unit)) → HP) : HP :=
 callT Tryz.prog fn_rup_Look #[(.slice a0.a a0.len a0.cap), (.slice a1.a a1.len a1.cap)] (.tup (.cons (.int .u8) (.cons (.int .i64) (.cons (.int .i64) .nil)))) fun r0 =>
 brB (r0.2.2.1 != (0 : Int))
 (K (⟨none, 0, 0⟩, r0.2.2.1, ()))
 (brB ((a0.len : Int) == (0 : Int))
 (K (⟨none, 0, 0⟩, (82 : Int), ()))
 (brB (r0.1 == (1 : Int))
 (callT Tryz.prog fn_slices_Clone_lits_Lit_lits_Lit #[(.slice a1.a a1.len a1.cap)] .sl fun r1 =>
 K (⟨r1.a, r1.len, r1.cap⟩, (0 : Int), ()))
 (callT Tryz.prog fn_slices_Clone_lits_Lit_lits_Lit #[(.slice a1.a a1.len a1.cap)] .sl fun r2 =>
 lfp (σ := (Int × (Bool × Unit))) (fun X3 s4 =>
 brB (decide (s4.1 < (r2.len : Int)))
 (sx r2.a r2.len s4.1 1 fun p5 =>
 ldT (.int .i64) p5 fun x6 =>
 sx a0.a a0.len (0 : Int) 1 fun p7 =>
 ldT (.int .i64) p7 fun x8 =>
 callT Tryz.prog fn_lits_Neg #[(.int .i64 x8)] (.int .i64) fun r9 =>
 jn (σ := (Bool × Unit)) (fun s11 =>
 X3 ((IntKind.wrap .i64 (s4.1 + (1 : Int))), s11.1, ()))
 (fun J10 =>
 brB (x6 == r9)
 (sx a0.a a0.len (0 : Int) 1 fun p12 =>
 ldT (.int .i64) p12 fun x13 =>
 sx r2.a r2.len s4.1 1 fun p14 =>
 st1 p14 (.int .i64 x13) <|
 J10 (true, ()))
 (J10 (s4.2.1, ()))))
 (jn (σ := (Sl × Unit)) (fun s16 =>
 K (⟨s16.1.a, s16.1.len, s16.1.cap⟩, (0 : Int), ()))
 (fun J15 =>
 brB (!s4.2.1)
 (sx a0.a a0.len (0 : Int) 1 fun p17 =>
 ldT (.int .i64) p17 fun x18 =>
 nw #[(.int .i64 x18)] ty_lits_Lit fun b19 =>
 apd ty_lits_Lit 1 8 #[(.int .i64 0)] ⟨r2.a, r2.len, r2.cap⟩ ⟨(some ⟨b19, 0, none⟩), 1, 1⟩ fun s20 =>
 J15 (⟨s20.a, s20.len, s20.cap⟩, ()))
 (J15 (⟨r2.a, r2.len, r2.cap⟩, ())))))
 ((0 : Int), false, ()))))
theorem E_rat_Repair (a0 : Sl) (a1 : Sl) (K : (Sl × (Int × Unit)) → HP) (h : Heap) : fnVC Tryz.prog [(1000000, .bool)] 64 Tryz.f36 [(.slice a0.a a0.len a0.cap), (.slice a1.a a1.len a1.cap)] (.tup (.cons .sl (.cons (.int .i64) .nil))) K h = F_rat_Repair a0 a1 K h := by kernel_rfl
theorem S_rat_Repair{h : Heap} {a0 : Sl} {a1 : Sl} (K : (Sl × (Int × Unit)) → HP) (hF : F_rat_Repair a0 a1 K h) : CallsH Tryz.prog fn_rat_Repair #[(.slice a0.a a0.len a0.cap), (.slice a1.a a1.len a1.cap)] h fun v h' => ∃ x : (Sl × (Int × Unit)), v = Ty.enc (.tup (.cons .sl (.cons (.int .i64) .nil))) x ∧ K x h' :=
  callsH_of_fn (P := Tryz.prog) (fn := Tryz.f36) (τ := (.tup (.cons .sl (.cons (.int .i64) .nil)))) follows Tryz.func36 (by kernel_rfl) (by kernel_rfl) Tryz.call36 (Eq.mpr (E_rat_Repair a0 a1 K h) hF)
def F_slices_Equal_int_int (a0 : Sl) (a1 : Sl) (K : Bool → HP) : HP :=
 brB ((a0.len : Int) != (a1.len : Int))
 (K false)
 (lfp (σ := (Int × (Bool × Unit))) (fun X0 s1 =>
 brB (decide (s1.1 < (a0.len : Int)))
 (sx a0.a a0.len s1.1 1 fun p2 =>
 ldT (.int .i64) p2 fun x3 =>
 sx a1.a a1.len s1.1 1 fun p4 =>
 ldT (.int .i64) p4 fun x5 =>
 brB (x3 != x5)
 (K false)
 (X0 ((IntKind.wrap .i64 (s1.1 + (1 : Int))), s1.2.1, ())))
 (K true))
 ((0 : Int), false, ()))
theorem E_slices_Equal_int_int (a0 : Sl) (a1 : Sl) (K : Bool → HP) (h : Heap) : fnVC Tryz.prog [(1000000, .nil)] 26 Tryz.f37 [(.slice a0.a a0.len a0.cap), (.slice a1.a a1.len a1.cap)] .bool K h = F_slices_Equal_int_int a0 a1 K h := by kernel_rfl
theorem S_slices_Equal_int_int{h : Heap} {a0 : Sl} {a1 : Sl} (K : Bool → HP) (hF : F_slices_Equal_int_int a0 a1 K h) : CallsH Tryz.prog fn_slices_Equal_int_int #[(.slice a0.a a0.len a0.cap), (.slice a1.a a1.len a1.cap)] h fun v h' => ∃ x : Bool, v = Ty.enc .bool x ∧ K x h' :=
  callsH_of_fn (P := Tryz.prog) (fn := Tryz.f37) (τ := .bool) follows Tryz.func37 (by kernel_rfl) (by kernel_rfl) Tryz.call37 (Eq.mpr (E_slices_Equal_int_int a0 a1 K h) hF)
def F_salvorlaw09_sameGroups (a0 : Sl) (a1 : Sl) (K : Bool → HP) : HP :=
 callT Tryz.prog fn_slices_EqualFunc_rat_Group_rat_Group_rat_Group_rat_Group #[(.slice a0.a a0.len a0.cap), (.slice a1.a a1.len a1.cap), (.func (.func fn_salvorlaw09_sameGroups_1) #[] #[])] .bool fun r0 =>
 K r0
theorem E_salvorlaw09_sameGroups (a0 : Sl) (a1 : Sl) (K : Bool → HP) (h : Heap) : fnVC Tryz.prog [(1000000, .bool)] 8 Tryz.f38 [(.slice a0.a a0.len a0.cap), (.slice a1.a a1.len a1.cap)] .bool K h = F_salvorlaw09_sameGroups a0 a1 K h := by kernel_rfl
theorem S_salvorlaw09_sameGroups{h : Heap} {a0 : Sl} {a1 : Sl} (K : Bool → HP) (hF : F_salvorlaw09_sameGroups a0 a1 K h) : CallsH Tryz.prog fn_salvorlaw09_sameGroups #[(.slice a0.a a0.len a0.cap), (.slice a1.a a1.len a1.cap)] h fun v h' => ∃ x : Bool, v = Ty.enc .bool x ∧ K x h' :=
  callsH_of_fn (P := Tryz.prog) (fn := Tryz.f38) (τ := .bool) follows Tryz.func38 (by kernel_rfl) (by kernel_rfl) Tryz.call38 (Eq.mpr (E_salvorlaw09_sameGroups a0 a1 K h) hF)
def F_slices_Equal_lits_Lit_lits_Lit (a0 : Sl) (a1 : Sl) (K : Bool → HP) : HP :=
 brB ((a0.len : Int) != (a1.len : Int))
 (K false)
 (lfp (σ := (Int × (Bool × Unit))) (fun X0 s1 =>
 brB (decide (s1.1 < (a0.len : Int)))
 (sx a0.a a0.len s1.1 1 fun p2 =>
 ldT (.int .i64) p2 fun x3 =>
 sx a1.a a1.len s1.1 1 fun p4 =>
 ldT (.int .i64) p4 fun x5 =>
 brB (x3 != x5)
 (K false)
 (X0 ((IntKind.wrap .i64 (s1.1 + (1 : Int))), s1.2.1, ())))
 (K true))
 ((0 : Int), false, ()))
theorem E_slices_Equal_lits_Lit_lits_Lit (a0 : Sl) (a1 : Sl) (K : Bool → HP) (h : Heap) : fnVC Tryz.prog [(1000000, .nil)] 26 Tryz.f39 [(.slice a0.a a0.len a0.cap), (.slice a1.a a1.len a1.cap)] .bool K h = F_slices_Equal_lits_Lit_lits_Lit a0 a1 K h := by kernel_rfl
theorem S_slices_Equal_lits_Lit_lits_Lit{h : Heap} {a0 : Sl} {a1 : Sl} (K : Bool → HP) (hF : F_slices_Equal_lits_Lit_lits_Lit a0 a1 K h) : CallsH Tryz.prog fn_slices_Equal_lits_Lit_lits_Lit #[(.slice a0.a a0.len a0.cap), (.slice a1.a a1.len a1.cap)] h fun v h' => ∃ x : Bool, v = Ty.enc .bool x ∧ K x h' :=
  callsH_of_fn (P := Tryz.prog) (fn := Tryz.f39) (τ := .bool) follows Tryz.func39 (by kernel_rfl) (by kernel_rfl) Tryz.call39 (Eq.mpr (E_slices_Equal_lits_Lit_lits_Lit a0 a1 K h) hF)
def F_rup_Find (a0 : Sl) (a1 : Sl) (K : (Sl × (Bool × (Int × Unit))) → HP) : HP :=
 nw #[(.slice a0.a a0.len a0.cap)] ty_clauses_Clause fun b0 =>
 callT Tryz.prog fn_rup_wrong #[(.slice a1.a a1.len a1.cap), (.slice (some ⟨b0, 0, none⟩) 1 1)] (.int .i64) fun r1 =>
 callT Tryz.prog fn_rup_many #[(.slice a1.a a1.len a1.cap)] (.int .i64) fun r2 =>
 nw #[(.int .i64 r1), (.int .i64 r2)] ty_api_Errno fun b3 =>
 callT Tryz.prog fn_rup_first #[(.slice (some ⟨b3, 0, none⟩) 2 2)] (.int .i64) fun r4 =>
 brB (r4 != (0 : Int))
 (K (⟨none, 0, 0⟩, false, r4, ()))
 (callT Tryz.prog fn_rup_Assume #[(.slice a0.a a0.len a0.cap)] (.tup (.cons .sl (.cons .bool (.cons (.int .i64) .nil)))) fun r5 =>
 brB r5.2.1
 (K (⟨none, 0, 0⟩, true, (0 : Int), ()))
 (callT Tryz.prog fn_rup_assigned #[(.slice r5.1.a r5.1.len r5.1.cap)] (.tup (.cons .val (.cons .bool .nil))) fun r6 =>
 lfp (σ := (Sl × (Sl × (Sl × (Int × (Bool × (Sl × Unit))))))) (fun X7 s8 =>
 callT Tryz.prog fn_rup_values_next #[r6.1, (.slice a1.a a1.len a1.cap)] (.tup (.cons (.int .i64) (.cons (.int .i64) .nil))) fun r9 =>
 brB (decide (r9.1 < (0 : Int)))
 (K (⟨none, 0, 0⟩, false, (0 : Int), ()))
 (sx a1.a a1.len r9.1 1 fun p10 =>
 ldT .sl p10 fun x11 =>
 cj
 (nw #[(.int .i64 r9.1)] ty_int fun b12 =>
 cj
 (apd ty_int 1 8 #[(.int .i64 0)] ⟨s8.2.2.1.a, s8.2.2.1.len, s8.2.2.1.cap⟩ ⟨(some ⟨b12, 0, none⟩), 1, 1⟩ fun s13 =>
 ck p10 (.slice x11.a x11.len x11.cap) <|
 nw #[(.slice x11.a x11.len x11.cap)] ty_clauses_Clause fun b14 =>
 apd ty_clauses_Clause 1 24 #[(.slice none 0 0)] ⟨s8.2.1.a, s8.2.1.len, s8.2.1.cap⟩ ⟨(some ⟨b14, 0, none⟩), 1, 1⟩ fun s15 =>
 brB (r9.2.1 == (0 : Int))
 (callT Tryz.prog fn_rup_needed #[(.slice s15.a s15.len s15.cap), (.slice s8.1.a s8.1.len s8.1.cap)] .sl fun r16 =>
 lfp (σ := (Int × (Sl × Unit))) (fun X17 s18 =>
 brB (decide (s18.1 < (r16.len : Int)))
 (sx r16.a r16.len s18.1 1 fun p19 =>
 ldT (.int .i64) p19 fun x20 =>
 sx s13.a s13.len x20 1 fun p21 =>
 ldT (.int .i64) p21 fun x22 =>
 nw #[(.int .i64 x22)] ty_int fun b23 =>
 apd ty_int 1 8 #[(.int .i64 0)] ⟨s18.2.1.a, s18.2.1.len, s18.2.1.cap⟩ ⟨(some ⟨b23, 0, none⟩), 1, 1⟩ fun s24 =>
 X17 ((IntKind.wrap .i64 (s18.1 + (1 : Int))), ⟨s24.a, s24.len, s24.cap⟩, ()))
 (K (⟨s18.2.1.a, s18.2.1.len, s18.2.1.cap⟩, true, (0 : Int), ())))
 ((0 : Int), ⟨none, 0, 0⟩, ()))
 (nw #[(.int .i64 r9.2.1)] ty_lits_Lit fun b25 =>
 apd ty_lits_Lit 1 8 #[(.int .i64 0)] ⟨s8.1.a, s8.1.len, s8.1.cap⟩ ⟨(some ⟨b25, 0, none⟩), 1, 1⟩ fun s26 =>
 callT Tryz.prog fn_rup_values_put #[r6.1, (.int .i64 r9.2.1)] (.tup .nil) fun r27 =>
 X7 (⟨s26.a, s26.len, s26.cap⟩, ⟨s15.a, s15.len, s15.cap⟩, ⟨s13.a, s13.len, s13.cap⟩, s8.2.2.2.1, s8.2.2.2.2.1, ⟨s8.2.2.2.2.2.1.a, s8.2.2.2.2.2.1.len, s8.2.2.2.2.2.1.cap⟩, ())))
 (nw #[(.slice x11.a x11.len x11.cap)] ty_clauses_Clause fun b28 =>
 apd ty_int 1 8 #[(.int .i64 0)] ⟨s8.2.2.1.a, s8.2.2.1.len, s8.2.2.1.cap⟩ ⟨(some ⟨b12, 0, none⟩), 1, 1⟩ fun s29 =>
 ck p10 (.slice x11.a x11.len x11.cap) <|
 apd ty_clauses_Clause 1 24 #[(.slice none 0 0)] ⟨s8.2.1.a, s8.2.1.len, s8.2.1.cap⟩ ⟨(some ⟨b28, 0, none⟩), 1, 1⟩ fun s30 =>
 brB (r9.2.1 == (0 : Int))
 (callT Tryz.prog fn_rup_needed #[(.slice s30.a s30.len s30.cap), (.slice s8.1.a s8.1.len s8.1.cap)] .sl fun r31 =>
 lfp (σ := (Int × (Sl × Unit))) (fun X32 s33 =>
 brB (decide (s33.1 < (r31.len : Int)))
 (sx r31.a r31.len s33.1 1 fun p34 =>
 ldT (.int .i64) p34 fun x35 =>
 sx s29.a s29.len x35 1 fun p36 =>
 ldT (.int .i64) p36 fun x37 =>
 nw #[(.int .i64 x37)] ty_int fun b38 =>
 apd ty_int 1 8 #[(.int .i64 0)] ⟨s33.2.1.a, s33.2.1.len, s33.2.1.cap⟩ ⟨(some ⟨b38, 0, none⟩), 1, 1⟩ fun s39 =>
 X32 ((IntKind.wrap .i64 (s33.1 + (1 : Int))), ⟨s39.a, s39.len, s39.cap⟩, ()))
 (K (⟨s33.2.1.a, s33.2.1.len, s33.2.1.cap⟩, true, (0 : Int), ())))
 ((0 : Int), ⟨none, 0, 0⟩, ()))
 (nw #[(.int .i64 r9.2.1)] ty_lits_Lit fun b40 =>
 apd ty_lits_Lit 1 8 #[(.int .i64 0)] ⟨s8.1.a, s8.1.len, s8.1.cap⟩ ⟨(some ⟨b40, 0, none⟩), 1, 1⟩ fun s41 =>
 callT Tryz.prog fn_rup_values_put #[r6.1, (.int .i64 r9.2.1)] (.tup .nil) fun r42 =>
 X7 (⟨s41.a, s41.len, s41.cap⟩, ⟨s30.a, s30.len, s30.cap⟩, ⟨s29.a, s29.len, s29.cap⟩, s8.2.2.2.1, s8.2.2.2.2.1, ⟨s8.2.2.2.2.2.1.a, s8.2.2.2.2.2.1.len, s8.2.2.2.2.2.1.cap⟩, ()))))
 (nw #[(.slice x11.a x11.len x11.cap)] ty_clauses_Clause fun b43 =>
 nw #[(.int .i64 r9.1)] ty_int fun b44 =>
 apd ty_int 1 8 #[(.int .i64 0)] ⟨s8.2.2.1.a, s8.2.2.1.len, s8.2.2.1.cap⟩ ⟨(some ⟨b44, 0, none⟩), 1, 1⟩ fun s45 =>
 ck p10 (.slice x11.a x11.len x11.cap) <|
 apd ty_clauses_Clause 1 24 #[(.slice none 0 0)] ⟨s8.2.1.a, s8.2.1.len, s8.2.1.cap⟩ ⟨(some ⟨b43, 0, none⟩), 1, 1⟩ fun s46 =>
 brB (r9.2.1 == (0 : Int))
 (callT Tryz.prog fn_rup_needed #[(.slice s46.a s46.len s46.cap), (.slice s8.1.a s8.1.len s8.1.cap)] .sl fun r47 =>
 lfp (σ := (Int × (Sl × Unit))) (fun X48 s49 =>
 brB (decide (s49.1 < (r47.len : Int)))
 (sx r47.a r47.len s49.1 1 fun p50 =>
 ldT (.int .i64) p50 fun x51 =>
 sx s45.a s45.len x51 1 fun p52 =>
 ldT (.int .i64) p52 fun x53 =>
 nw #[(.int .i64 x53)] ty_int fun b54 =>
 apd ty_int 1 8 #[(.int .i64 0)] ⟨s49.2.1.a, s49.2.1.len, s49.2.1.cap⟩ ⟨(some ⟨b54, 0, none⟩), 1, 1⟩ fun s55 =>
 X48 ((IntKind.wrap .i64 (s49.1 + (1 : Int))), ⟨s55.a, s55.len, s55.cap⟩, ()))
 (K (⟨s49.2.1.a, s49.2.1.len, s49.2.1.cap⟩, true, (0 : Int), ())))
 ((0 : Int), ⟨none, 0, 0⟩, ()))
 (nw #[(.int .i64 r9.2.1)] ty_lits_Lit fun b56 =>
 apd ty_lits_Lit 1 8 #[(.int .i64 0)] ⟨s8.1.a, s8.1.len, s8.1.cap⟩ ⟨(some ⟨b56, 0, none⟩), 1, 1⟩ fun s57 =>
 callT Tryz.prog fn_rup_values_put #[r6.1, (.int .i64 r9.2.1)] (.tup .nil) fun r58 =>
 X7 (⟨s57.a, s57.len, s57.cap⟩, ⟨s46.a, s46.len, s46.cap⟩, ⟨s45.a, s45.len, s45.cap⟩, s8.2.2.2.1, s8.2.2.2.2.1, ⟨s8.2.2.2.2.2.1.a, s8.2.2.2.2.2.1.len, s8.2.2.2.2.2.1.cap⟩, ())))))
 (⟨none, 0, 0⟩, ⟨none, 0, 0⟩, ⟨none, 0, 0⟩, (0 : Int), false, ⟨none, 0, 0⟩, ())))
theorem E_rup_Find (a0 : Sl) (a1 : Sl) (K : (Sl × (Bool × (Int × Unit))) → HP) (h : Heap) : fnVC Tryz.prog [(1000000, .bool)] 89 Tryz.f41 [(.slice a0.a a0.len a0.cap), (.slice a1.a a1.len a1.cap)] (.tup (.cons .sl (.cons .bool (.cons (.int .i64) .nil)))) K h = F_rup_Find a0 a1 K h := by kernel_rfl
theorem S_rup_Find{h : Heap} {a0 : Sl} {a1 : Sl} (K : (Sl × (Bool × (Int × Unit))) → HP) (hF : F_rup_Find a0 a1 K h) : CallsH Tryz.prog fn_rup_Find #[(.slice a0.a a0.len a0.cap), (.slice a1.a a1.len a1.cap)] h fun v h' => ∃ x : (Sl × (Bool × (Int × Unit))), v = Ty.enc (.tup (.cons .sl (.cons .bool (.cons (.int .i64) .nil)))) x ∧ K x h' :=
  callsH_of_fn (P := Tryz.prog) (fn := Tryz.f41) (τ := (.tup (.cons .sl (.cons .bool (.cons (.int .i64) .nil))))) follows Tryz.func41 (by kernel_rfl) (by kernel_rfl) Tryz.call41 (Eq.mpr (E_rup_Find a0 a1 K h) hF)
def F_slices_Clone_clauses_Clause_lits_Lit (a0 : Sl) (K : Sl → HP) : HP :=
 brB (Option.isNone a0.a)
 (K ⟨none, 0, 0⟩)
 (nw #[] ty_lits_Lit fun b0 =>
 apd ty_lits_Lit 1 8 #[(.int .i64 0)] ⟨(some ⟨b0, 0, none⟩), 0, 0⟩ ⟨a0.a, a0.len, a0.cap⟩ fun s1 =>
 K ⟨s1.a, s1.len, s1.cap⟩)
theorem E_slices_Clone_clauses_Clause_lits_Lit (a0 : Sl) (K : Sl → HP) (h : Heap) : fnVC Tryz.prog [(1000000, .nil)] 8 Tryz.f42 [(.slice a0.a a0.len a0.cap)] .sl K h = F_slices_Clone_clauses_Clause_lits_Lit a0 K h := by kernel_rfl
theorem S_slices_Clone_clauses_Clause_lits_Lit{h : Heap} {a0 : Sl} (K : Sl → HP) (hF : F_slices_Clone_clauses_Clause_lits_Lit a0 K h) : CallsH Tryz.prog fn_slices_Clone_clauses_Clause_lits_Lit #[(.slice a0.a a0.len a0.cap)] h fun v h' => ∃ x : Sl, v = Ty.enc .sl x ∧ K x h' :=
  callsH_of_fn (P := Tryz.prog) (fn := Tryz.f42) (τ := .sl) follows Tryz.func42 (by kernel_rfl) (by kernel_rfl) Tryz.call42 (Eq.mpr (E_slices_Clone_clauses_Clause_lits_Lit a0 K h) hF)
def F_rat_named (a0 : Sl) (a1 : Sl) (K : Sl → HP) : HP :=
 lfp (σ := (Int × (Sl × Unit))) (fun X0 s1 =>
 brB (decide (s1.1 < (a1.len : Int)))
 (sx a1.a a1.len s1.1 1 fun p2 =>
 ldT (.int .i64) p2 fun x3 =>
 sx a0.a a0.len x3 2 fun p4 =>
 ldT (.int .i64) p4 fun x5 =>
 nw #[(.int .i64 x5)] ty_int fun b6 =>
 apd ty_int 1 8 #[(.int .i64 0)] ⟨s1.2.1.a, s1.2.1.len, s1.2.1.cap⟩ ⟨(some ⟨b6, 0, none⟩), 1, 1⟩ fun s7 =>
 X0 ((IntKind.wrap .i64 (s1.1 + (1 : Int))), ⟨s7.a, s7.len, s7.cap⟩, ()))
 (K ⟨s1.2.1.a, s1.2.1.len, s1.2.1.cap⟩))
 ((0 : Int), ⟨none, 0, 0⟩, ())
theorem E_rat_named (a0 : Sl) (a1 : Sl) (K : Sl → HP) (h : Heap) : fnVC Tryz.prog [(1000000, .bool)] 24 Tryz.f43 [(.slice a0.a a0.len a0.cap), (.slice a1.a a1.len a1.cap)] .sl K h = F_rat_named a0 a1 K h := by kernel_rfl
theorem S_rat_named{h : Heap} {a0 : Sl} {a1 : Sl} (K : Sl → HP) (hF : F_rat_named a0 a1 K h) : CallsH Tryz.prog fn_rat_named #[(.slice a0.a a0.len a0.cap), (.slice a1.a a1.len a1.cap)] h fun v h' => ∃ x : Sl, v = Ty.enc .sl x ∧ K x h' :=
  callsH_of_fn (P := Tryz.prog) (fn := Tryz.f43) (τ := .sl) follows Tryz.func43 (by kernel_rfl) (by kernel_rfl) Tryz.call43 (Eq.mpr (E_rat_named a0 a1 K h) hF)
def F_rup_Assume (a0 : Sl) (K : (Sl × (Bool × (Int × Unit))) → HP) : HP :=
 callT Tryz.prog fn_clauses_Norm #[(.slice a0.a a0.len a0.cap)] (.tup (.cons .sl (.cons .bool (.cons (.int .i64) .nil)))) fun r0 =>
 jn (σ := Bool) (fun t2 =>
 brB t2
 (K (⟨none, 0, 0⟩, r0.2.1, r0.2.2.1, ()))
 (lfp (σ := (Int × (Sl × Unit))) (fun X3 s4 =>
 brB (decide (s4.1 < (r0.1.len : Int)))
 (sx r0.1.a r0.1.len s4.1 1 fun p5 =>
 ldT (.int .i64) p5 fun x6 =>
 callT Tryz.prog fn_lits_Neg #[(.int .i64 x6)] (.int .i64) fun r7 =>
 nw #[(.int .i64 r7)] ty_lits_Lit fun b8 =>
 apd ty_lits_Lit 1 8 #[(.int .i64 0)] ⟨s4.2.1.a, s4.2.1.len, s4.2.1.cap⟩ ⟨(some ⟨b8, 0, none⟩), 1, 1⟩ fun s9 =>
 X3 ((IntKind.wrap .i64 (s4.1 + (1 : Int))), ⟨s9.a, s9.len, s9.cap⟩, ()))
 (callT Tryz.prog fn_slices_SortFunc_lits_Lit_lits_Lit #[(.slice s4.2.1.a s4.2.1.len s4.2.1.cap), (.func (.func fn_lits_Compare) #[] #[])] (.tup .nil) fun r10 =>
 K (⟨s4.2.1.a, s4.2.1.len, s4.2.1.cap⟩, false, (0 : Int), ())))
 ((0 : Int), ⟨none, 0, 0⟩, ())))
 (fun J1 =>
 brB (r0.2.2.1 != (0 : Int))
 (J1 true)
 (J1 (r0.2.1)))
theorem E_rup_Assume (a0 : Sl) (K : (Sl × (Bool × (Int × Unit))) → HP) (h : Heap) : fnVC Tryz.prog [(1000000, .bool)] 39 Tryz.f44 [(.slice a0.a a0.len a0.cap)] (.tup (.cons .sl (.cons .bool (.cons (.int .i64) .nil)))) K h = F_rup_Assume a0 K h := by kernel_rfl
theorem S_rup_Assume{h : Heap} {a0 : Sl} (K : (Sl × (Bool × (Int × Unit))) → HP) (hF : F_rup_Assume a0 K h) : CallsH Tryz.prog fn_rup_Assume #[(.slice a0.a a0.len a0.cap)] h fun v h' => ∃ x : (Sl × (Bool × (Int × Unit))), v = Ty.enc (.tup (.cons .sl (.cons .bool (.cons (.int .i64) .nil)))) x ∧ K x h' :=
  callsH_of_fn (P := Tryz.prog) (fn := Tryz.f44) (τ := (.tup (.cons .sl (.cons .bool (.cons (.int .i64) .nil))))) follows Tryz.func44 (by kernel_rfl) (by kernel_rfl) Tryz.call44 (Eq.mpr (E_rup_Assume a0 K h) hF)
def F_rat_propagate (a0 : Sl) (a1 : Sl) (K : (Sl × (Sl × Unit)) → HP) : HP :=
 lfp (σ := (Bool × (Sl × (Sl × Unit)))) (fun X0 s1 =>
 brB s1.1
 (jn (σ := (Int × (Bool × (Sl × (Sl × Unit))))) (fun s3 =>
 X0 (s3.2.1, ⟨s3.2.2.1.a, s3.2.2.1.len, s3.2.2.1.cap⟩, ⟨s3.2.2.2.1.a, s3.2.2.2.1.len, s3.2.2.2.1.cap⟩, ()))
 (fun J2 =>
 lfp (σ := (Int × (Bool × (Sl × (Sl × Unit))))) (fun X4 s5 =>
 brB (decide (s5.1 < (a0.len : Int)))
 (sx a0.a a0.len s5.1 2 fun p6 =>
 ldA (.cons (.int .i64) (.cons .sl .nil)) p6 fun x7 =>
 nw #[(.int .i64 0), (.slice none 0 0)] ty_rat_Entry fun b8 =>
 st1 ⟨b8, 0, none⟩ (.int .i64 x7.1) <|
 st1 ((⟨b8, 0, none⟩ : Addr).add 1) (.slice x7.2.1.a x7.2.1.len x7.2.1.cap) <|
 ldT .sl ((⟨b8, 0, none⟩ : Addr).add 1) fun x9 =>
 callT Tryz.prog fn_rup_Look #[(.slice x9.a x9.len x9.cap), (.slice s5.2.2.2.1.a s5.2.2.2.1.len s5.2.2.2.1.cap)] (.tup (.cons (.int .u8) (.cons (.int .i64) (.cons (.int .i64) .nil)))) fun r10 =>
 brB (r10.1 == (3 : Int))
 (ldT (.int .i64) ⟨b8, 0, none⟩ fun x11 =>
 cj
 (callT Tryz.prog fn_slices_Clip_lits_Lit_lits_Lit #[(.slice s5.2.2.2.1.a s5.2.2.2.1.len s5.2.2.2.1.cap)] .sl fun r12 =>
 ck ⟨b8, 0, none⟩ (.int .i64 x11) <|
 cj
 (nw #[(.int .i64 r10.2.1)] ty_lits_Lit fun b13 =>
 cj
 (apd ty_lits_Lit 1 8 #[(.int .i64 0)] ⟨r12.a, r12.len, r12.cap⟩ ⟨(some ⟨b13, 0, none⟩), 1, 1⟩ fun s14 =>
 ck ⟨b8, 0, none⟩ (.int .i64 x11) <|
 nw #[(.int .i64 x11)] ty_int fun b15 =>
 apd ty_int 1 8 #[(.int .i64 0)] ⟨s5.2.2.1.a, s5.2.2.1.len, s5.2.2.1.cap⟩ ⟨(some ⟨b15, 0, none⟩), 1, 1⟩ fun s16 =>
 J2 (s5.1, true, ⟨s16.a, s16.len, s16.cap⟩, ⟨s14.a, s14.len, s14.cap⟩, ()))
 (nw #[(.int .i64 x11)] ty_int fun b17 =>
 apd ty_lits_Lit 1 8 #[(.int .i64 0)] ⟨r12.a, r12.len, r12.cap⟩ ⟨(some ⟨b13, 0, none⟩), 1, 1⟩ fun s18 =>
 ck ⟨b8, 0, none⟩ (.int .i64 x11) <|
 apd ty_int 1 8 #[(.int .i64 0)] ⟨s5.2.2.1.a, s5.2.2.1.len, s5.2.2.1.cap⟩ ⟨(some ⟨b17, 0, none⟩), 1, 1⟩ fun s19 =>
 J2 (s5.1, true, ⟨s19.a, s19.len, s19.cap⟩, ⟨s18.a, s18.len, s18.cap⟩, ())))
 (nw #[(.int .i64 x11)] ty_int fun b20 =>
 nw #[(.int .i64 r10.2.1)] ty_lits_Lit fun b21 =>
 apd ty_lits_Lit 1 8 #[(.int .i64 0)] ⟨r12.a, r12.len, r12.cap⟩ ⟨(some ⟨b21, 0, none⟩), 1, 1⟩ fun s22 =>
 ck ⟨b8, 0, none⟩ (.int .i64 x11) <|
 apd ty_int 1 8 #[(.int .i64 0)] ⟨s5.2.2.1.a, s5.2.2.1.len, s5.2.2.1.cap⟩ ⟨(some ⟨b20, 0, none⟩), 1, 1⟩ fun s23 =>
 J2 (s5.1, true, ⟨s23.a, s23.len, s23.cap⟩, ⟨s22.a, s22.len, s22.cap⟩, ())))
 (cj
 (nw #[(.int .i64 r10.2.1)] ty_lits_Lit fun b24 =>
 cj
 (callT Tryz.prog fn_slices_Clip_lits_Lit_lits_Lit #[(.slice s5.2.2.2.1.a s5.2.2.2.1.len s5.2.2.2.1.cap)] .sl fun r25 =>
 ck ⟨b8, 0, none⟩ (.int .i64 x11) <|
 cj
 (apd ty_lits_Lit 1 8 #[(.int .i64 0)] ⟨r25.a, r25.len, r25.cap⟩ ⟨(some ⟨b24, 0, none⟩), 1, 1⟩ fun s26 =>
 ck ⟨b8, 0, none⟩ (.int .i64 x11) <|
 nw #[(.int .i64 x11)] ty_int fun b27 =>
 apd ty_int 1 8 #[(.int .i64 0)] ⟨s5.2.2.1.a, s5.2.2.1.len, s5.2.2.1.cap⟩ ⟨(some ⟨b27, 0, none⟩), 1, 1⟩ fun s28 =>
 J2 (s5.1, true, ⟨s28.a, s28.len, s28.cap⟩, ⟨s26.a, s26.len, s26.cap⟩, ()))
 (nw #[(.int .i64 x11)] ty_int fun b29 =>
 apd ty_lits_Lit 1 8 #[(.int .i64 0)] ⟨r25.a, r25.len, r25.cap⟩ ⟨(some ⟨b24, 0, none⟩), 1, 1⟩ fun s30 =>
 ck ⟨b8, 0, none⟩ (.int .i64 x11) <|
 apd ty_int 1 8 #[(.int .i64 0)] ⟨s5.2.2.1.a, s5.2.2.1.len, s5.2.2.1.cap⟩ ⟨(some ⟨b29, 0, none⟩), 1, 1⟩ fun s31 =>
 J2 (s5.1, true, ⟨s31.a, s31.len, s31.cap⟩, ⟨s30.a, s30.len, s30.cap⟩, ())))
 (nw #[(.int .i64 x11)] ty_int fun b32 =>
 callT Tryz.prog fn_slices_Clip_lits_Lit_lits_Lit #[(.slice s5.2.2.2.1.a s5.2.2.2.1.len s5.2.2.2.1.cap)] .sl fun r33 =>
 ck ⟨b8, 0, none⟩ (.int .i64 x11) <|
 apd ty_lits_Lit 1 8 #[(.int .i64 0)] ⟨r33.a, r33.len, r33.cap⟩ ⟨(some ⟨b24, 0, none⟩), 1, 1⟩ fun s34 =>
 ck ⟨b8, 0, none⟩ (.int .i64 x11) <|
 apd ty_int 1 8 #[(.int .i64 0)] ⟨s5.2.2.1.a, s5.2.2.1.len, s5.2.2.1.cap⟩ ⟨(some ⟨b32, 0, none⟩), 1, 1⟩ fun s35 =>
 J2 (s5.1, true, ⟨s35.a, s35.len, s35.cap⟩, ⟨s34.a, s34.len, s34.cap⟩, ())))
 (nw #[(.int .i64 x11)] ty_int fun b36 =>
 cj
 (callT Tryz.prog fn_slices_Clip_lits_Lit_lits_Lit #[(.slice s5.2.2.2.1.a s5.2.2.2.1.len s5.2.2.2.1.cap)] .sl fun r37 =>
 ck ⟨b8, 0, none⟩ (.int .i64 x11) <|
 nw #[(.int .i64 r10.2.1)] ty_lits_Lit fun b38 =>
 apd ty_lits_Lit 1 8 #[(.int .i64 0)] ⟨r37.a, r37.len, r37.cap⟩ ⟨(some ⟨b38, 0, none⟩), 1, 1⟩ fun s39 =>
 ck ⟨b8, 0, none⟩ (.int .i64 x11) <|
 apd ty_int 1 8 #[(.int .i64 0)] ⟨s5.2.2.1.a, s5.2.2.1.len, s5.2.2.1.cap⟩ ⟨(some ⟨b36, 0, none⟩), 1, 1⟩ fun s40 =>
 J2 (s5.1, true, ⟨s40.a, s40.len, s40.cap⟩, ⟨s39.a, s39.len, s39.cap⟩, ()))
 (nw #[(.int .i64 r10.2.1)] ty_lits_Lit fun b41 =>
 callT Tryz.prog fn_slices_Clip_lits_Lit_lits_Lit #[(.slice s5.2.2.2.1.a s5.2.2.2.1.len s5.2.2.2.1.cap)] .sl fun r42 =>
 ck ⟨b8, 0, none⟩ (.int .i64 x11) <|
 apd ty_lits_Lit 1 8 #[(.int .i64 0)] ⟨r42.a, r42.len, r42.cap⟩ ⟨(some ⟨b41, 0, none⟩), 1, 1⟩ fun s43 =>
 ck ⟨b8, 0, none⟩ (.int .i64 x11) <|
 apd ty_int 1 8 #[(.int .i64 0)] ⟨s5.2.2.1.a, s5.2.2.1.len, s5.2.2.1.cap⟩ ⟨(some ⟨b36, 0, none⟩), 1, 1⟩ fun s44 =>
 J2 (s5.1, true, ⟨s44.a, s44.len, s44.cap⟩, ⟨s43.a, s43.len, s43.cap⟩, ())))))
 (X4 ((IntKind.wrap .i64 (s5.1 + (1 : Int))), s5.2.1, ⟨s5.2.2.1.a, s5.2.2.1.len, s5.2.2.1.cap⟩, ⟨s5.2.2.2.1.a, s5.2.2.2.1.len, s5.2.2.2.1.cap⟩, ())))
 (J2 (s5.1, s5.2.1, ⟨s5.2.2.1.a, s5.2.2.1.len, s5.2.2.1.cap⟩, ⟨s5.2.2.2.1.a, s5.2.2.2.1.len, s5.2.2.2.1.cap⟩, ())))
 ((0 : Int), false, ⟨s1.2.1.a, s1.2.1.len, s1.2.1.cap⟩, ⟨s1.2.2.1.a, s1.2.2.1.len, s1.2.2.1.cap⟩, ())))
 (K (⟨s1.2.2.1.a, s1.2.2.1.len, s1.2.2.1.cap⟩, ⟨s1.2.1.a, s1.2.1.len, s1.2.1.cap⟩, ())))
 (true, ⟨none, 0, 0⟩, ⟨a1.a, a1.len, a1.cap⟩, ())
theorem E_rat_propagate (a0 : Sl) (a1 : Sl) (K : (Sl × (Sl × Unit)) → HP) (h : Heap) : fnVC Tryz.prog [(1000000, .bool)] 43 Tryz.f45 [(.slice a0.a a0.len a0.cap), (.slice a1.a a1.len a1.cap)] (.tup (.cons .sl (.cons .sl .nil))) K h = F_rat_propagate a0 a1 K h := by kernel_rfl
theorem S_rat_propagate{h : Heap} {a0 : Sl} {a1 : Sl} (K : (Sl × (Sl × Unit)) → HP) (hF : F_rat_propagate a0 a1 K h) : CallsH Tryz.prog fn_rat_propagate #[(.slice a0.a a0.len a0.cap), (.slice a1.a a1.len a1.cap)] h fun v h' => ∃ x : (Sl × (Sl × Unit)), v = Ty.enc (.tup (.cons .sl (.cons .sl .nil))) x ∧ K x h' :=
  callsH_of_fn (P := Tryz.prog) (fn := Tryz.f45) (τ := (.tup (.cons .sl (.cons .sl .nil)))) follows Tryz.func45 (by kernel_rfl) (by kernel_rfl) Tryz.call45 (Eq.mpr (E_rat_propagate a0 a1 K h) hF)
def F_rat_candidates (a0 : Sl) (a1 : Int) (K : Value → HP) : HP :=
 nw #[(.slice a0.a a0.len a0.cap)] ty_sl_rat_Entry fun b0 =>
 nw #[(.int .i64 a1)] ty_lits_Lit fun b1 =>
 K (.func (.func fn_rat_candidates_1) #[] #[(.pointer (some ⟨b0, 0, none⟩)), (.pointer (some ⟨b1, 0, none⟩))])
theorem E_rat_candidates (a0 : Sl) (a1 : Int) (K : Value → HP) (h : Heap) : fnVC Tryz.prog [(1000000, .bool)] 6 Tryz.f46 [(.slice a0.a a0.len a0.cap), (.int .i64 a1)] .val K h = F_rat_candidates a0 a1 K h := by kernel_rfl
theorem S_rat_candidates{h : Heap} {a0 : Sl} {a1 : Int} (K : Value → HP) (hF : F_rat_candidates a0 a1 K h) : CallsH Tryz.prog fn_rat_candidates #[(.slice a0.a a0.len a0.cap), (.int .i64 a1)] h fun v h' => ∃ x : Value, v = Ty.enc .val x ∧ K x h' :=
  callsH_of_fn (P := Tryz.prog) (fn := Tryz.f46) (τ := .val) follows Tryz.func46 (by kernel_rfl) (by kernel_rfl) Tryz.call46 (Eq.mpr (E_rat_candidates a0 a1 K h) hF)
def F_rat_rest (a0 : Sl) (a1 : Int) (a2 : Sl) (K : (Sl × (Bool × Unit)) → HP) : HP :=
 lfp (σ := (Int × (Sl × (Bool × (Sl × Unit))))) (fun X0 s1 =>
 brB (decide (s1.1 < (a0.len : Int)))
 (jn (σ := (Sl × (Bool × (Sl × Unit)))) (fun s3 =>
 X0 ((IntKind.wrap .i64 (s1.1 + (1 : Int))), ⟨s3.1.a, s3.1.len, s3.1.cap⟩, s3.2.1, ⟨s3.2.2.1.a, s3.2.2.1.len, s3.2.2.1.cap⟩, ()))
 (fun J2 =>
 sx a0.a a0.len s1.1 1 fun p4 =>
 ldT (.int .i64) p4 fun x5 =>
 callT Tryz.prog fn_lits_Neg #[(.int .i64 a1)] (.int .i64) fun r6 =>
 brB (x5 == r6)
 (J2 (⟨s1.2.1.a, s1.2.1.len, s1.2.1.cap⟩, s1.2.2.1, ⟨s1.2.2.2.1.a, s1.2.2.2.1.len, s1.2.2.2.1.cap⟩, ()))
 (callT Tryz.prog fn_slices_Contains_lits_Lit_lits_Lit #[(.slice a2.a a2.len a2.cap), (.int .i64 x5)] .bool fun r7 =>
 brB r7
 (K (⟨none, 0, 0⟩, false, ()))
 (callT Tryz.prog fn_lits_Neg #[(.int .i64 x5)] (.int .i64) fun r8 =>
 nw #[(.int .i64 r8)] ty_lits_Lit fun b9 =>
 apd ty_lits_Lit 1 8 #[(.int .i64 0)] ⟨s1.2.1.a, s1.2.1.len, s1.2.1.cap⟩ ⟨(some ⟨b9, 0, none⟩), 1, 1⟩ fun s10 =>
 J2 (⟨s10.a, s10.len, s10.cap⟩, s1.2.2.1, ⟨s1.2.2.2.1.a, s1.2.2.2.1.len, s1.2.2.2.1.cap⟩, ())))))
 (K (⟨s1.2.1.a, s1.2.1.len, s1.2.1.cap⟩, true, ())))
 ((0 : Int), ⟨none, 0, 0⟩, false, ⟨none, 0, 0⟩, ())
theorem E_rat_rest (a0 : Sl) (a1 : Int) (a2 : Sl) (K : (Sl × (Bool × Unit)) → HP) (h : Heap) : fnVC Tryz.prog [(1000000, .bool)] 33 Tryz.f47 [(.slice a0.a a0.len a0.cap), (.int .i64 a1), (.slice a2.a a2.len a2.cap)] (.tup (.cons .sl (.cons .bool .nil))) K h = F_rat_rest a0 a1 a2 K h := by kernel_rfl
theorem S_rat_rest{h : Heap} {a0 : Sl} {a1 : Int} {a2 : Sl} (K : (Sl × (Bool × Unit)) → HP) (hF : F_rat_rest a0 a1 a2 K h) : CallsH Tryz.prog fn_rat_rest #[(.slice a0.a a0.len a0.cap), (.int .i64 a1), (.slice a2.a a2.len a2.cap)] h fun v h' => ∃ x : (Sl × (Bool × Unit)), v = Ty.enc (.tup (.cons .sl (.cons .bool .nil))) x ∧ K x h' :=
  callsH_of_fn (P := Tryz.prog) (fn := Tryz.f47) (τ := (.tup (.cons .sl (.cons .bool .nil)))) follows Tryz.func47 (by kernel_rfl) (by kernel_rfl) Tryz.call47 (Eq.mpr (E_rat_rest a0 a1 a2 K h) hF)
def F_slices_Concat_lits_Lit_lits_Lit (a0 : Sl) (K : Sl → HP) : HP :=
 lfp (σ := (Int × (Int × Unit))) (fun X0 s1 =>
 brB (decide (s1.1 < (a0.len : Int)))
 (sx a0.a a0.len s1.1 1 fun p2 =>
 ldT .sl p2 fun x3 =>
 jn (σ := Unit) (fun s5 =>
 X0 ((IntKind.wrap .i64 (s1.1 + (1 : Int))), (IntKind.wrap .i64 (s1.2.1 + (x3.len : Int))), ()))
 (fun J4 =>
 brB (decide ((IntKind.wrap .i64 (s1.2.1 + (x3.len : Int))) < (0 : Int)))
 (fF /- not known -/)
 (J4 (()))))
 (callT Tryz.prog fn_slices_Grow_lits_Lit_lits_Lit #[(.slice none 0 0), (.int .i64 s1.2.1)] .sl fun r6 =>
 lfp (σ := (Int × (Sl × Unit))) (fun X7 s8 =>
 brB (decide (s8.1 < (a0.len : Int)))
 (sx a0.a a0.len s8.1 1 fun p9 =>
 ldT .sl p9 fun x10 =>
 apd ty_lits_Lit 1 8 #[(.int .i64 0)] ⟨s8.2.1.a, s8.2.1.len, s8.2.1.cap⟩ ⟨x10.a, x10.len, x10.cap⟩ fun s11 =>
 X7 ((IntKind.wrap .i64 (s8.1 + (1 : Int))), ⟨s11.a, s11.len, s11.cap⟩, ()))
 (K ⟨s8.2.1.a, s8.2.1.len, s8.2.1.cap⟩))
 ((0 : Int), ⟨r6.a, r6.len, r6.cap⟩, ())))
 ((0 : Int), (0 : Int), ())
theorem E_slices_Concat_lits_Lit_lits_Lit (a0 : Sl) (K : Sl → HP) (h : Heap) : fnVC Tryz.prog [(1000000, .nil)] 36 Tryz.f48 [(.slice a0.a a0.len a0.cap)] .sl K h = F_slices_Concat_lits_Lit_lits_Lit a0 K h := by kernel_rfl
theorem S_slices_Concat_lits_Lit_lits_Lit{h : Heap} {a0 : Sl} (K : Sl → HP) (hF : F_slices_Concat_lits_Lit_lits_Lit a0 K h) : CallsH Tryz.prog fn_slices_Concat_lits_Lit_lits_Lit #[(.slice a0.a a0.len a0.cap)] h fun v h' => ∃ x : Sl, v = Ty.enc .sl x ∧ K x h' :=
  callsH_of_fn (P := Tryz.prog) (fn := Tryz.f48) (τ := .sl) follows Tryz.func48 (by kernel_rfl) (by kernel_rfl) Tryz.call48 (Eq.mpr (E_slices_Concat_lits_Lit_lits_Lit a0 K h) hF)
def F_lits_Neg (a0 : Int) (K : Int → HP) : HP :=
 callT Tryz.prog fn_lits_Right #[(.int .i64 a0)] .bool fun r0 =>
 brB (!r0)
 (K (0 : Int))
 (K (IntKind.wrap .i64 (0 - a0)))
theorem E_lits_Neg (a0 : Int) (K : Int → HP) (h : Heap) : fnVC Tryz.prog [(1000000, .nil)] 8 Tryz.f49 [(.int .i64 a0)] (.int .i64) K h = F_lits_Neg a0 K h := by kernel_rfl
theorem S_lits_Neg{h : Heap} {a0 : Int} (K : Int → HP) (hF : F_lits_Neg a0 K h) : CallsH Tryz.prog fn_lits_Neg #[(.int .i64 a0)] h fun v h' => ∃ x : Int, v = Ty.enc (.int .i64) x ∧ K x h' :=
  callsH_of_fn (P := Tryz.prog) (fn := Tryz.f49) (τ := (.int .i64)) follows Tryz.func49 (by kernel_rfl) (by kernel_rfl) Tryz.call49 (Eq.mpr (E_lits_Neg a0 K h) hF)
def F_rat_follow (a0 : Sl) (a1 : Sl) (a2 : Sl) (K : (Sl × (Bool × (Int × (Int × Unit)))) → HP) : HP :=
 lfp (σ := (Int × (Int × (Int × (Bool × (Sl × (Sl × Unit))))))) (fun X0 s1 =>
 brB (decide (s1.1 < (a2.len : Int)))
 (sx a2.a a2.len s1.1 1 fun p2 =>
 ldT (.int .i64) p2 fun x3 =>
 callT Tryz.prog fn_rat_find #[(.slice a0.a a0.len a0.cap), (.int .i64 x3)] (.tup (.cons (.int .i64) (.cons .bool .nil))) fun r4 =>
 brB (!r4.2.1)
 (K (⟨none, 0, 0⟩, false, x3, (91 : Int), ()))
 (sx a0.a a0.len r4.1 2 fun p5 =>
 ldT .sl (p5.add 1) fun x6 =>
 callT Tryz.prog fn_rup_Look #[(.slice x6.a x6.len x6.cap), (.slice s1.2.2.2.2.2.1.a s1.2.2.2.2.2.1.len s1.2.2.2.2.2.1.cap)] (.tup (.cons (.int .u8) (.cons (.int .i64) (.cons (.int .i64) .nil)))) fun r7 =>
 brB (r7.1 == (2 : Int))
 (K (⟨s1.2.2.2.2.2.1.a, s1.2.2.2.2.2.1.len, s1.2.2.2.2.2.1.cap⟩, true, (0 : Int), (0 : Int), ()))
 (brB (r7.1 == (3 : Int))
 (callT Tryz.prog fn_slices_Clip_lits_Lit_lits_Lit #[(.slice s1.2.2.2.2.2.1.a s1.2.2.2.2.2.1.len s1.2.2.2.2.2.1.cap)] .sl fun r8 =>
 nw #[(.int .i64 r7.2.1)] ty_lits_Lit fun b9 =>
 apd ty_lits_Lit 1 8 #[(.int .i64 0)] ⟨r8.a, r8.len, r8.cap⟩ ⟨(some ⟨b9, 0, none⟩), 1, 1⟩ fun s10 =>
 X0 ((IntKind.wrap .i64 (s1.1 + (1 : Int))), s1.2.1, s1.2.2.1, s1.2.2.2.1, ⟨s1.2.2.2.2.1.a, s1.2.2.2.2.1.len, s1.2.2.2.2.1.cap⟩, ⟨s10.a, s10.len, s10.cap⟩, ()))
 (K (⟨none, 0, 0⟩, false, x3, (81 : Int), ())))))
 (K (⟨s1.2.2.2.2.2.1.a, s1.2.2.2.2.2.1.len, s1.2.2.2.2.2.1.cap⟩, false, (0 : Int), (0 : Int), ())))
 ((0 : Int), (0 : Int), (0 : Int), false, ⟨none, 0, 0⟩, ⟨a1.a, a1.len, a1.cap⟩, ())
theorem E_rat_follow (a0 : Sl) (a1 : Sl) (a2 : Sl) (K : (Sl × (Bool × (Int × (Int × Unit)))) → HP) (h : Heap) : fnVC Tryz.prog [(1000000, .bool)] 57 Tryz.f50 [(.slice a0.a a0.len a0.cap), (.slice a1.a a1.len a1.cap), (.slice a2.a a2.len a2.cap)] (.tup (.cons .sl (.cons .bool (.cons (.int .i64) (.cons (.int .i64) .nil))))) K h = F_rat_follow a0 a1 a2 K h := by kernel_rfl
theorem S_rat_follow{h : Heap} {a0 : Sl} {a1 : Sl} {a2 : Sl} (K : (Sl × (Bool × (Int × (Int × Unit)))) → HP) (hF : F_rat_follow a0 a1 a2 K h) : CallsH Tryz.prog fn_rat_follow #[(.slice a0.a a0.len a0.cap), (.slice a1.a a1.len a1.cap), (.slice a2.a a2.len a2.cap)] h fun v h' => ∃ x : (Sl × (Bool × (Int × (Int × Unit)))), v = Ty.enc (.tup (.cons .sl (.cons .bool (.cons (.int .i64) (.cons (.int .i64) .nil))))) x ∧ K x h' :=
  callsH_of_fn (P := Tryz.prog) (fn := Tryz.f50) (τ := (.tup (.cons .sl (.cons .bool (.cons (.int .i64) (.cons (.int .i64) .nil)))))) follows Tryz.func50 (by kernel_rfl) (by kernel_rfl) Tryz.call50 (Eq.mpr (E_rat_follow a0 a1 a2 K h) hF)
def F_rat_groups (a0 : Sl) (a1 : Int) (a2 : Sl) (K : (Int × (Int × Unit)) → HP) : HP := fun h0 => (
 nw #[(.slice a0.a a0.len a0.cap)] ty_sl_rat_Entry fun b0 =>
 nw #[(.slice none 0 0)] ty_sl_int fun b1 =>
 ldT .sl ⟨b0, 0, none⟩ fun x2 =>
 callT Tryz.prog fn_rat_candidates #[(.slice x2.a x2.len x2.cap), (.int .i64 a1)] .val fun r3 =>
 RangeVC Tryz.prog (.cons (.int .i64) .nil) r3 (fun x4 wrap5 next6 jump7 =>
 wrap5 <|
 ldT .sl ⟨b1, 0, none⟩ fun x8 =>
 ldT .sl ⟨b0, 0, none⟩ fun x9 =>
 sx x9.a x9.len x4.1 2 fun p10 =>
 ldT (.int .i64) p10 fun x11 =>
 nw #[(.int .i64 x11)] ty_int fun b12 =>
 apd ty_int 1 8 #[(.int .i64 0)] ⟨x8.a, x8.len, x8.cap⟩ ⟨(some ⟨b12, 0, none⟩), 1, 1⟩ fun s13 =>
 st1 ⟨b1, 0, none⟩ (.slice s13.a s13.len s13.cap) <|
 next6)
 (ldT .sl ⟨b1, 0, none⟩ fun x14 =>
 lfp (σ := (Int × (Int × (Int × Unit)))) (fun X15 s16 =>
 brB (decide (s16.1 < (x14.len : Int)))
 (sx x14.a x14.len s16.1 1 fun p17 =>
 ldT (.int .i64) p17 fun x18 =>
 nw #[(.int .i64 0)] ty_int fun b19 =>
 st1 ⟨b19, 0, none⟩ (.int .i64 x18) <|
 callT Tryz.prog fn_slices_ContainsFunc_rat_Group_rat_Group #[(.slice a2.a a2.len a2.cap), (.func (.func fn_rat_groups_1) #[] #[(.pointer (some ⟨b19, 0, none⟩))])] .bool fun r20 =>
 brB (!r20)
 (ldT (.int .i64) ⟨b19, 0, none⟩ fun x21 =>
 mkd h0.size <|
 K (x21, (92 : Int), ()))
 (X15 ((IntKind.wrap .i64 (s16.1 + (1 : Int))), s16.2.1, s16.2.2.1, ())))
 (lfp (σ := (Int × (Int × (Int × (Int × Unit))))) (fun X22 s23 =>
 brB (decide (s23.1 < (a2.len : Int)))
 (sx a2.a a2.len s23.1 2 fun p24 =>
 ldA (.cons (.int .i64) (.cons .sl .nil)) p24 fun x25 =>
 nw #[(.int .i64 0), (.slice none 0 0)] ty_rat_Group fun b26 =>
 st1 ⟨b26, 0, none⟩ (.int .i64 x25.1) <|
 st1 ((⟨b26, 0, none⟩ : Addr).add 1) (.slice x25.2.1.a x25.2.1.len x25.2.1.cap) <|
 ldT .sl ⟨b1, 0, none⟩ fun x27 =>
 ldT (.int .i64) ⟨b26, 0, none⟩ fun x28 =>
 callT Tryz.prog fn_slices_BinarySearch_int_int #[(.slice x27.a x27.len x27.cap), (.int .i64 x28)] (.tup (.cons (.int .i64) (.cons .bool .nil))) fun r29 =>
 jn (σ := Bool) (fun t31 =>
 brB t31
 (ldT (.int .i64) ⟨b26, 0, none⟩ fun x32 =>
 mkd h0.size <|
 K (x32, (92 : Int), ()))
 (ldT (.int .i64) ⟨b26, 0, none⟩ fun x33 =>
 X22 ((IntKind.wrap .i64 (s23.1 + (1 : Int))), x33, s23.2.2.1, s23.2.2.2.1, ())))
 (fun J30 =>
 brB (!r29.2.1)
 (J30 true)
 (ldT (.int .i64) ⟨b26, 0, none⟩ fun x34 =>
 J30 ((decide (x34 ≤ s23.2.1))))))
 (mkd h0.size <|
 K ((0 : Int), (0 : Int), ())))
 ((0 : Int), (0 : Int), s16.2.1, s16.2.2.1, ())))
 ((0 : Int), (0 : Int), (0 : Int), ()))
 (mkd h0.size <|
 K ((0 : Int), (0 : Int), ()))
 []
 []) h0
theorem E_rat_groups (a0 : Sl) (a1 : Int) (a2 : Sl) (K : (Int × (Int × Unit)) → HP) (h : Heap) : fnVC Tryz.prog [(1000000, .bool), (20, (.cons (.int .i64) .nil))] 67 Tryz.f51 [(.slice a0.a a0.len a0.cap), (.int .i64 a1), (.slice a2.a a2.len a2.cap)] (.tup (.cons (.int .i64) (.cons (.int .i64) .nil))) K h = F_rat_groups a0 a1 a2 K h := by kernel_rfl
theorem S_rat_groups{h : Heap} {a0 : Sl} {a1 : Int} {a2 : Sl} (K : (Int × (Int × Unit)) → HP) (hF : F_rat_groups a0 a1 a2 K h) : CallsH Tryz.prog fn_rat_groups #[(.slice a0.a a0.len a0.cap), (.int .i64 a1), (.slice a2.a a2.len a2.cap)] h fun v h' => ∃ x : (Int × (Int × Unit)), v = Ty.enc (.tup (.cons (.int .i64) (.cons (.int .i64) .nil))) x ∧ K x h' :=
  callsH_of_fn (P := Tryz.prog) (fn := Tryz.f51) (τ := (.tup (.cons (.int .i64) (.cons (.int .i64) .nil)))) follows Tryz.func51 (by kernel_rfl) (by kernel_rfl) Tryz.call51 (Eq.mpr (E_rat_groups a0 a1 a2 K h) hF)
def F_rat_find (a0 : Sl) (a1 : Int) (K : (Int × (Bool × Unit)) → HP) : HP :=
 callT Tryz.prog fn_slices_BinarySearchFunc_rat_Entry_rat_Entry_int #[(.slice a0.a a0.len a0.cap), (.int .i64 a1), (.func (.func fn_rat_find_1) #[] #[])] (.tup (.cons (.int .i64) (.cons .bool .nil))) fun r0 =>
 K (r0.1, r0.2.1, ())
theorem E_rat_find (a0 : Sl) (a1 : Int) (K : (Int × (Bool × Unit)) → HP) (h : Heap) : fnVC Tryz.prog [(1000000, .bool)] 11 Tryz.f52 [(.slice a0.a a0.len a0.cap), (.int .i64 a1)] (.tup (.cons (.int .i64) (.cons .bool .nil))) K h = F_rat_find a0 a1 K h := by kernel_rfl
theorem S_rat_find{h : Heap} {a0 : Sl} {a1 : Int} (K : (Int × (Bool × Unit)) → HP) (hF : F_rat_find a0 a1 K h) : CallsH Tryz.prog fn_rat_find #[(.slice a0.a a0.len a0.cap), (.int .i64 a1)] h fun v h' => ∃ x : (Int × (Bool × Unit)), v = Ty.enc (.tup (.cons (.int .i64) (.cons .bool .nil))) x ∧ K x h' :=
  callsH_of_fn (P := Tryz.prog) (fn := Tryz.f52) (τ := (.tup (.cons (.int .i64) (.cons .bool .nil)))) follows Tryz.func52 (by kernel_rfl) (by kernel_rfl) Tryz.call52 (Eq.mpr (E_rat_find a0 a1 K h) hF)
def F_salvorlaw09_Theirs (a0 : Sl) (K : Sl → HP) : HP :=
 lfp (σ := (Int × (Sl × Unit))) (fun X0 s1 =>
 brB (decide (s1.1 < (a0.len : Int)))
 (sx a0.a a0.len s1.1 2 fun p2 =>
 ldA (.cons (.int .i64) (.cons .sl .nil)) p2 fun x3 =>
 nw #[(.int .i64 0), (.slice none 0 0)] ty_rat_Entry fun b4 =>
 st1 ⟨b4, 0, none⟩ (.int .i64 x3.1) <|
 st1 ((⟨b4, 0, none⟩ : Addr).add 1) (.slice x3.2.1.a x3.2.1.len x3.2.1.cap) <|
 ldT (.int .i64) ⟨b4, 0, none⟩ fun x5 =>
 ldT .sl ((⟨b4, 0, none⟩ : Addr).add 1) fun x6 =>
 callT Tryz.prog fn_salvorlaw08_Ints #[(.slice x6.a x6.len x6.cap)] .sl fun r7 =>
 ck ⟨b4, 0, none⟩ (.int .i64 x5) <|
 nw #[(.int .i64 x5), (.slice r7.a r7.len r7.cap)] ty_salvorref09_Entry fun b8 =>
 apd ty_salvorref09_Entry 2 32 #[(.int .i64 0), (.slice none 0 0)] ⟨s1.2.1.a, s1.2.1.len, s1.2.1.cap⟩ ⟨(some ⟨b8, 0, none⟩), 1, 1⟩ fun s9 =>
 X0 ((IntKind.wrap .i64 (s1.1 + (1 : Int))), ⟨s9.a, s9.len, s9.cap⟩, ()))
 (K ⟨s1.2.1.a, s1.2.1.len, s1.2.1.cap⟩))
 ((0 : Int), ⟨none, 0, 0⟩, ())
theorem E_salvorlaw09_Theirs (a0 : Sl) (K : Sl → HP) (h : Heap) : fnVC Tryz.prog [(1000000, .bool)] 23 Tryz.f53 [(.slice a0.a a0.len a0.cap)] .sl K h = F_salvorlaw09_Theirs a0 K h := by kernel_rfl
theorem S_salvorlaw09_Theirs{h : Heap} {a0 : Sl} (K : Sl → HP) (hF : F_salvorlaw09_Theirs a0 K h) : CallsH Tryz.prog fn_salvorlaw09_Theirs #[(.slice a0.a a0.len a0.cap)] h fun v h' => ∃ x : Sl, v = Ty.enc .sl x ∧ K x h' :=
  callsH_of_fn (P := Tryz.prog) (fn := Tryz.f53) (τ := .sl) follows Tryz.func53 (by kernel_rfl) (by kernel_rfl) Tryz.call53 (Eq.mpr (E_salvorlaw09_Theirs a0 K h) hF)
end Go.Proofs.S
