/-
  FormulaYields, walked.
-/
import Derived.Test.YtmlamkoilggonaaGreatFoY
set_option linter.unusedVariables false
set_option linter.unusedSimpArgs false
namespace Go.Proofs.S
open Go Go.Sx Go.Proofs Go.Cl

variable {h : Heap} {c d : List Int} {s s2 : Sl} {fr : Fr} {G As : List Asn} {m : List Bool} {sm : Sl} {k k2 : List Bool}

theorem yields1_c {b : Nat} (kb : Blk h b ty_sl_bool [.slice s2.a s2.len s2.cap]) (hA : At h (lb k2 s2)) (hB : At h (lb k s)) (hl : k.length ≤ 1099511627776) :
    callT Tryz.prog fn_salvorlaw05_FormulaYields_1 #[.slice s.a s.len s.cap, .pointer (some ⟨b, 0, none⟩)] .bool (fun r h' => r = decide (k = k2) ∧ Ext [] h h') h := by
  refine callT_gen fun K hK => S_salvorlaw05_FormulaYields_1 (a0 := s) (c0 := ⟨b, 0, none⟩) K ?_
  unfold F_salvorlaw05_FormulaYields_1
  rw [ld_sl (i := 0) kb rfl]
  refine call_of (equal_bools hB hA hl) ?_
  rintro r h2 ⟨e, rfl⟩
  exact hK _ _ ⟨e, Ext.refl' _ _⟩

theorem formulaYields_F {cs : List (List Int)} {a1 a2 : Int} (hA : At h (llu cs s)) (hu : ∀ c ∈ cs, U8 c) (ha1 : 0 ≤ a1 ∧ a1 ≤ 255) (ha2 : 0 ≤ a2 ∧ a2 ≤ 255) (K : Bool → HP) (hK : ∀ x h', (x = true ∧ Ext [] h h') → K x h') : F_salvorlaw05_FormulaYields s a1 a2 K h := by
  unfold F_salvorlaw05_FormulaYields
  show (nw _ _ _) h
  have st := Hs.start h [llu cs s] (by simp [hA])
  refine st.nw fun b0 h1 st => ?_
  refine st.nw fun b1 h2 st => ?_
  have st := st.freeze 0 rfl
  simp only [List.nil_append, List.cons_append, List.eraseIdx_cons_zero] at st
  refine call_of (lawMade_c (st.fz 0 rfl) hu) ?_
  rintro _ h3 ⟨r2, rfl, n3, x3⟩
  have hgood := madeF_good cs
  have hml := madeF_len cs
  have hG8 := good8 cs
  generalize madeF cs = M at *
  have st := (st.new x3 n3).freeze 1 rfl
  simp only [List.nil_append, List.cons_append, List.eraseIdx_cons_zero, List.eraseIdx_cons_succ] at st
  refine st.nw fun b3 h4 st => ?_
  simp only [List.nil_append, List.cons_append] at st
  refine st.st1 1 0 rfl (by simp) fun h5 st => ?_
  refine st.st1 1 1 rfl (by simp) fun h6 st => ?_
  simp only [List.set_cons_zero, List.set_cons_succ] at st
  have st := st.freeze 1 rfl
  simp only [List.nil_append, List.cons_append, List.eraseIdx_cons_zero, List.eraseIdx_cons_succ] at st
  have lM := rsg_len (llo_at (st.fz 2 rfl))
  refine ldF (s := r2) (st.fblk 3 rfl) ?_
  refine call_of (collected_c (v := 8) (llo_at (st.fz 2 rfl)) hG8 (by decide)) ?_
  rintro _ h7 ⟨r5, rfl, n7, x7⟩
  have st := (st.new x7 n7).freeze 1 rfl
  simp only [List.nil_append, List.cons_append, List.eraseIdx_cons_zero, List.eraseIdx_cons_succ] at st
  refine st.nw fun b6 h8 st => ?_
  simp only [List.nil_append, List.cons_append] at st
  refine st.st1 1 0 rfl (by simp) fun h9 st => ?_
  have st := st.freeze 1 rfl
  simp only [List.nil_append, List.cons_append, List.set_cons_zero, List.set_cons_succ, List.eraseIdx_cons_zero, List.eraseIdx_cons_succ] at st
  refine ldF (s := r2) (st.fblk 3 rfl) ?_
  refine call_of (count_c (n := 8) (llo_at (st.fz 2 rfl))) ?_
  rintro _ h10 ⟨rfl, x10⟩
  have st := st.ext x10
  refine ldF (s := r2) (st.fblk 3 rfl) ?_
  refine call_of (first_c (n := 8) (llo_at (st.fz 2 rfl))) ?_
  rintro _ h11 ⟨r10, rfl, n11, x11⟩
  have st := (st.new x11 n11).freeze 1 rfl
  simp only [List.nil_append, List.cons_append, List.eraseIdx_cons_zero, List.eraseIdx_cons_succ] at st
  have hc0 : (checkP 8 M).2 = 0 := check_good.2 hG8
  have ec : countF 8 M = (((modelsF 8 M).length : Int), 0) := by unfold countF; rw [if_neg (by simp [hc0]), if_neg (by decide)]; rfl
  have ef : firstF 8 M = match modelsF 8 M with | [] => ([], false, 0) | m :: _ => (m, true, 0) := by unfold firstF; rw [if_neg (by simp [hc0]), if_neg (by decide)]; rfl
  have hrow : ∀ m ∈ modelsF 8 M, m.length = 8 ∧ ∀ c ∈ M, c.any (trueIn m) = true := fun m hm => mem_models.1 hm
  have hmemA : ∀ m : List Bool, m ∈ modelsF 8 M ↔ m.length = 8 ∧ ∀ c ∈ M, c.any (trueIn m) = true := fun m => mem_models
  have hle := modelsF_le 8 M (by decide)
  have hsort := modelsF_sorted 8 M
  have hmod : modelsF 8 M = modelsF 8 M := rfl
  obtain ⟨A, hAe⟩ : ∃ A, A = modelsF 8 M := ⟨_, rfl⟩
  rw [← hAe] at ec ef hrow hmemA hle hsort st
  rw [ec]
  have lA := rsg_len (lob_llb (st.fz 4 rfl))
  have st : Hs [([], h)] ([llu cs s, cl b0 ty_uint8 [.int .u8 a1], llo M r2, cF b3 8 r2, osg (fun c p => ob c p) ty_sl_bool A r5, cl b6 ty_sl_sl_bool [.slice r5.a r5.len r5.cap]] ++ [ob (firstF 8 M).1 r10]) [cl b1 ty_bool [.bool false]] h11 := st
  have done : ∀ {v w : Bool} {G As : List Asn} {h' : Heap}, v = true → Hs [([], h)] G (cl b1 ty_bool [.bool w] :: As) h' → (st1 (⟨b1, 0, none⟩ : Addr) (.bool v) <| mkd h.size <| ldT .bool (⟨b1, 0, none⟩ : Addr) fun x => K x) h' := by
    rintro v w G As h' rfl st
    refine st.st1 0 0 rfl (by simp) fun h15 st => ?_
    intro h16 hM
    have st := st.marked hM
    simp only [List.set_cons_zero] at st
    rw [st.ldb 0 0 rfl rfl]
    exact hK _ _ ⟨rfl, st.frame (by simp)⟩
  obtain ⟨stop, rfl⟩ := Int.eq_ofNat_of_zero_le ha1.1
  obtain ⟨bits, rfl⟩ := Int.eq_ofNat_of_zero_le ha2.1
  have main : ∀ h', Hs [([], h)] [llu cs s, cl b0 ty_uint8 [.int .u8 (stop : Int)], llo M r2, cF b3 8 r2, osg (fun c p => ob c p) ty_sl_bool A r5, cl b6 ty_sl_sl_bool [.slice r5.a r5.len r5.cap]] [cl b1 ty_bool [.bool false]] h' →
    (ldT .sl (⟨b6, 0, none⟩ : Addr) fun x21 =>
 lfp (σ := (Int × Unit)) (fun X22 s23 => 
 brB (decide (s23.1 < (x21.len : Int)))
 (sx x21.a x21.len s23.1 1 fun p24 =>
 ldT .sl p24 fun x25 =>
 ldA (.cons (.int .i64) (.cons .sl .nil)) (⟨b3, 0, none⟩ : Addr) fun x26 =>
 callT Tryz.prog fn_formula_Value #[(.agg #[(.int .i64 x26.1), (.slice x26.2.1.a x26.2.1.len x26.2.1.cap)]), (.slice x25.a x25.len x25.cap)] (.tup (.cons .bool (.cons (.int .i64) .nil))) fun r27 =>
 brB (r27.2.1 != (0 : Int))
 (st1 (⟨b1, 0, none⟩ : Addr) (.bool false) <|
 mkd h.size <|
 ldT .bool (⟨b1, 0, none⟩ : Addr) fun x28 =>
 K x28)
 (brB (!r27.1)
 (st1 (⟨b1, 0, none⟩ : Addr) (.bool false) <|
 mkd h.size <|
 ldT .bool (⟨b1, 0, none⟩ : Addr) fun x29 =>
 K x29)
 (brB (decide (s23.1 > (0 : Int)))
 (ldT .sl (⟨b6, 0, none⟩ : Addr) fun x30 =>
 sx x30.a x30.len (IntKind.wrap .i64 (s23.1 - (1 : Int))) 1 fun p31 =>
 ldT .sl p31 fun x32 =>
 callT Tryz.prog fn_salvorlaw05_less #[(.slice x32.a x32.len x32.cap), (.slice x25.a x25.len x25.cap)] .bool fun r33 =>
 brB (!r33)
 (st1 (⟨b1, 0, none⟩ : Addr) (.bool false) <|
 mkd h.size <|
 ldT .bool (⟨b1, 0, none⟩ : Addr) fun x34 =>
 K x34)
 (X22 ((IntKind.wrap .i64 (s23.1 + (1 : Int))), ())))
 (X22 ((IntKind.wrap .i64 (s23.1 + (1 : Int))), ())))))
 (ldA (.cons (.int .i64) (.cons .sl .nil)) (⟨b3, 0, none⟩ : Addr) fun x35 =>
 callT Tryz.prog fn_formula_Models #[(.agg #[(.int .i64 x35.1), (.slice x35.2.1.a x35.2.1.len x35.2.1.cap)])] (.tup (.cons .val (.cons (.int .i64) .nil))) fun r36 =>
 brB (r36.2.1 != (0 : Int))
 (st1 (⟨b1, 0, none⟩ : Addr) (.bool false) <|
 mkd h.size <|
 ldT .bool (⟨b1, 0, none⟩ : Addr) fun x37 =>
 K x37)
 (fnE r36.1 fun t38 =>
 brB t38
 (st1 (⟨b1, 0, none⟩ : Addr) (.bool false) <|
 mkd h.size <|
 ldT .bool (⟨b1, 0, none⟩ : Addr) fun x39 =>
 K x39)
 (nw #[(.int .i64 (0 : Int))] ty_int fun b40 =>
 st1 (⟨b40, 0, none⟩ : Addr) (.int .i64 (0 : Int)) <|
 jn (σ := Unit) (fun s42 => 
 mks ty_bool 1 1 #[(.bool false)] (8 : Int) (8 : Int) fun s43 =>
 nw #[(.slice none 0 0)] ty_sl_bool fun b44 =>
 st1 (⟨b44, 0, none⟩ : Addr) (.slice s43.a s43.len s43.cap) <|
 ldT .sl (⟨b44, 0, none⟩ : Addr) fun x45 =>
 lfp (σ := (Int × Unit)) (fun X46 s47 => 
 brB (decide (s47.1 < (x45.len : Int)))
 (ldT .sl (⟨b44, 0, none⟩ : Addr) fun x48 =>
 ge0 s47.1 <|
 sx x48.a x48.len s47.1 1 fun p49 =>
 st1 p49 (.bool ((bAnd .u8 (Int.fdiv (bits : Int) (2 ^ (min (s47.1).toNat 8))) (1 : Int)) == (1 : Int))) <|
 X46 ((IntKind.wrap .i64 (s47.1 + (1 : Int))), ()))
 (ldA (.cons (.int .i64) (.cons .sl .nil)) (⟨b3, 0, none⟩ : Addr) fun x50 =>
 ldT .sl (⟨b44, 0, none⟩ : Addr) fun x51 =>
 callT Tryz.prog fn_formula_Fails #[(.agg #[(.int .i64 x50.1), (.slice x50.2.1.a x50.2.1.len x50.2.1.cap)]), (.slice x51.a x51.len x51.cap)] (.tup (.cons (.int .i64) (.cons .bool (.cons (.int .i64) .nil)))) fun r52 =>
 ldA (.cons (.int .i64) (.cons .sl .nil)) (⟨b3, 0, none⟩ : Addr) fun x53 =>
 ldT .sl (⟨b44, 0, none⟩ : Addr) fun x54 =>
 callT Tryz.prog fn_formula_Value #[(.agg #[(.int .i64 x53.1), (.slice x53.2.1.a x53.2.1.len x53.2.1.cap)]), (.slice x54.a x54.len x54.cap)] (.tup (.cons .bool (.cons (.int .i64) .nil))) fun r55 =>
 ldT .sl (⟨b6, 0, none⟩ : Addr) fun x56 =>
 callT Tryz.prog fn_slices_ContainsFunc_bool_bool #[(.slice x56.a x56.len x56.cap), (.func (.func fn_salvorlaw05_FormulaYields_1) #[] #[(.pointer (some (⟨b44, 0, none⟩ : Addr)))])] .bool fun r57 =>
 brB ((IntKind.wrap .i64 (r52.2.2.1 + r55.2.1)) != (0 : Int))
 (st1 (⟨b1, 0, none⟩ : Addr) (.bool false) <|
 mkd h.size <|
 ldT .bool (⟨b1, 0, none⟩ : Addr) fun x58 =>
 K x58)
 (ldT (.int .i64) (⟨b40, 0, none⟩ : Addr) fun x59 =>
 ldT (.int .u8) (⟨b0, 0, none⟩ : Addr) fun x60 =>
 ldT .sl (⟨b6, 0, none⟩ : Addr) fun x61 =>
 brB (x59 != (if (x61.len : Int) < (IntKind.wrap .i64 x60) then (x61.len : Int) else (IntKind.wrap .i64 x60)))
 (st1 (⟨b1, 0, none⟩ : Addr) (.bool false) <|
 mkd h.size <|
 ldT .bool (⟨b1, 0, none⟩ : Addr) fun x62 =>
 K x62)
 (brB (r55.1 == r52.2.1)
 (st1 (⟨b1, 0, none⟩ : Addr) (.bool false) <|
 mkd h.size <|
 ldT .bool (⟨b1, 0, none⟩ : Addr) fun x63 =>
 K x63)
 (brB (!(r57 == r55.1))
 (st1 (⟨b1, 0, none⟩ : Addr) (.bool false) <|
 mkd h.size <|
 ldT .bool (⟨b1, 0, none⟩ : Addr) fun x64 =>
 K x64)
 (brB (decide (r52.1 < (0 : Int)))
 (st1 (⟨b1, 0, none⟩ : Addr) (.bool false) <|
 mkd h.size <|
 ldT .bool (⟨b1, 0, none⟩ : Addr) fun x65 =>
 K x65)
 (brB r52.2.1
 (ldT .sl ((⟨b3, 0, none⟩ : Addr).add 1) fun x66 =>
 brB (decide (r52.1 ≥ (x66.len : Int)))
 (st1 (⟨b1, 0, none⟩ : Addr) (.bool false) <|
 mkd h.size <|
 ldT .bool (⟨b1, 0, none⟩ : Addr) fun x67 =>
 K x67)
 (ldT .sl ((⟨b3, 0, none⟩ : Addr).add 1) fun x68 =>
 lfp (σ := (Int × Unit)) (fun X69 s70 => 
 brB (decide (s70.1 < (x68.len : Int)))
 (sx x68.a x68.len s70.1 1 fun p71 =>
 ldT .sl p71 fun x72 =>
 brB r52.2.1
 (brB (decide (s70.1 < r52.1))
 (ldT .sl (⟨b44, 0, none⟩ : Addr) fun x73 =>
 callT Tryz.prog fn_formula_Holds #[(.slice x72.a x72.len x72.cap), (.slice x73.a x73.len x73.cap)] .bool fun r74 =>
 brB (!r74)
 (st1 (⟨b1, 0, none⟩ : Addr) (.bool false) <|
 mkd h.size <|
 ldT .bool (⟨b1, 0, none⟩ : Addr) fun x75 =>
 K x75)
 (brB r52.2.1
 (brB (s70.1 == r52.1)
 (ldT .sl (⟨b44, 0, none⟩ : Addr) fun x76 =>
 callT Tryz.prog fn_formula_Holds #[(.slice x72.a x72.len x72.cap), (.slice x76.a x76.len x76.cap)] .bool fun r77 =>
 brB r77
 (st1 (⟨b1, 0, none⟩ : Addr) (.bool false) <|
 mkd h.size <|
 ldT .bool (⟨b1, 0, none⟩ : Addr) fun x78 =>
 K x78)
 (ldT .sl (⟨b44, 0, none⟩ : Addr) fun x79 =>
 ldT .sl (⟨b44, 0, none⟩ : Addr) fun x80 =>
 callT Tryz.prog fn_formula_Holds #[(.slice x72.a x72.len x72.cap), (.slice x79.a x79.len x79.cap)] .bool fun r81 =>
 ck (⟨b44, 0, none⟩ : Addr) (.slice x80.a x80.len x80.cap) <|
 callT Tryz.prog fn_formula_Lits #[(.slice x80.a x80.len x80.cap)] .sl fun r82 =>
 callT Tryz.prog fn_clauses_Holds #[(.slice x72.a x72.len x72.cap), (.slice r82.a r82.len r82.cap)] .bool fun r83 =>
 brB (!(r81 == r83))
 (st1 (⟨b1, 0, none⟩ : Addr) (.bool false) <|
 mkd h.size <|
 ldT .bool (⟨b1, 0, none⟩ : Addr) fun x84 =>
 K x84)
 (X69 ((IntKind.wrap .i64 (s70.1 + (1 : Int))), ()))))
 (ldT .sl (⟨b44, 0, none⟩ : Addr) fun x85 =>
 ldT .sl (⟨b44, 0, none⟩ : Addr) fun x86 =>
 callT Tryz.prog fn_formula_Holds #[(.slice x72.a x72.len x72.cap), (.slice x85.a x85.len x85.cap)] .bool fun r87 =>
 ck (⟨b44, 0, none⟩ : Addr) (.slice x86.a x86.len x86.cap) <|
 callT Tryz.prog fn_formula_Lits #[(.slice x86.a x86.len x86.cap)] .sl fun r88 =>
 callT Tryz.prog fn_clauses_Holds #[(.slice x72.a x72.len x72.cap), (.slice r88.a r88.len r88.cap)] .bool fun r89 =>
 brB (!(r87 == r89))
 (st1 (⟨b1, 0, none⟩ : Addr) (.bool false) <|
 mkd h.size <|
 ldT .bool (⟨b1, 0, none⟩ : Addr) fun x90 =>
 K x90)
 (X69 ((IntKind.wrap .i64 (s70.1 + (1 : Int))), ()))))
 (ldT .sl (⟨b44, 0, none⟩ : Addr) fun x91 =>
 ldT .sl (⟨b44, 0, none⟩ : Addr) fun x92 =>
 callT Tryz.prog fn_formula_Holds #[(.slice x72.a x72.len x72.cap), (.slice x91.a x91.len x91.cap)] .bool fun r93 =>
 ck (⟨b44, 0, none⟩ : Addr) (.slice x92.a x92.len x92.cap) <|
 callT Tryz.prog fn_formula_Lits #[(.slice x92.a x92.len x92.cap)] .sl fun r94 =>
 callT Tryz.prog fn_clauses_Holds #[(.slice x72.a x72.len x72.cap), (.slice r94.a r94.len r94.cap)] .bool fun r95 =>
 brB (!(r93 == r95))
 (st1 (⟨b1, 0, none⟩ : Addr) (.bool false) <|
 mkd h.size <|
 ldT .bool (⟨b1, 0, none⟩ : Addr) fun x96 =>
 K x96)
 (X69 ((IntKind.wrap .i64 (s70.1 + (1 : Int))), ())))))
 (brB r52.2.1
 (brB (s70.1 == r52.1)
 (ldT .sl (⟨b44, 0, none⟩ : Addr) fun x97 =>
 callT Tryz.prog fn_formula_Holds #[(.slice x72.a x72.len x72.cap), (.slice x97.a x97.len x97.cap)] .bool fun r98 =>
 brB r98
 (st1 (⟨b1, 0, none⟩ : Addr) (.bool false) <|
 mkd h.size <|
 ldT .bool (⟨b1, 0, none⟩ : Addr) fun x99 =>
 K x99)
 (ldT .sl (⟨b44, 0, none⟩ : Addr) fun x100 =>
 ldT .sl (⟨b44, 0, none⟩ : Addr) fun x101 =>
 callT Tryz.prog fn_formula_Holds #[(.slice x72.a x72.len x72.cap), (.slice x100.a x100.len x100.cap)] .bool fun r102 =>
 ck (⟨b44, 0, none⟩ : Addr) (.slice x101.a x101.len x101.cap) <|
 callT Tryz.prog fn_formula_Lits #[(.slice x101.a x101.len x101.cap)] .sl fun r103 =>
 callT Tryz.prog fn_clauses_Holds #[(.slice x72.a x72.len x72.cap), (.slice r103.a r103.len r103.cap)] .bool fun r104 =>
 brB (!(r102 == r104))
 (st1 (⟨b1, 0, none⟩ : Addr) (.bool false) <|
 mkd h.size <|
 ldT .bool (⟨b1, 0, none⟩ : Addr) fun x105 =>
 K x105)
 (X69 ((IntKind.wrap .i64 (s70.1 + (1 : Int))), ()))))
 (ldT .sl (⟨b44, 0, none⟩ : Addr) fun x106 =>
 ldT .sl (⟨b44, 0, none⟩ : Addr) fun x107 =>
 callT Tryz.prog fn_formula_Holds #[(.slice x72.a x72.len x72.cap), (.slice x106.a x106.len x106.cap)] .bool fun r108 =>
 ck (⟨b44, 0, none⟩ : Addr) (.slice x107.a x107.len x107.cap) <|
 callT Tryz.prog fn_formula_Lits #[(.slice x107.a x107.len x107.cap)] .sl fun r109 =>
 callT Tryz.prog fn_clauses_Holds #[(.slice x72.a x72.len x72.cap), (.slice r109.a r109.len r109.cap)] .bool fun r110 =>
 brB (!(r108 == r110))
 (st1 (⟨b1, 0, none⟩ : Addr) (.bool false) <|
 mkd h.size <|
 ldT .bool (⟨b1, 0, none⟩ : Addr) fun x111 =>
 K x111)
 (X69 ((IntKind.wrap .i64 (s70.1 + (1 : Int))), ()))))
 (ldT .sl (⟨b44, 0, none⟩ : Addr) fun x112 =>
 ldT .sl (⟨b44, 0, none⟩ : Addr) fun x113 =>
 callT Tryz.prog fn_formula_Holds #[(.slice x72.a x72.len x72.cap), (.slice x112.a x112.len x112.cap)] .bool fun r114 =>
 ck (⟨b44, 0, none⟩ : Addr) (.slice x113.a x113.len x113.cap) <|
 callT Tryz.prog fn_formula_Lits #[(.slice x113.a x113.len x113.cap)] .sl fun r115 =>
 callT Tryz.prog fn_clauses_Holds #[(.slice x72.a x72.len x72.cap), (.slice r115.a r115.len r115.cap)] .bool fun r116 =>
 brB (!(r114 == r116))
 (st1 (⟨b1, 0, none⟩ : Addr) (.bool false) <|
 mkd h.size <|
 ldT .bool (⟨b1, 0, none⟩ : Addr) fun x117 =>
 K x117)
 (X69 ((IntKind.wrap .i64 (s70.1 + (1 : Int))), ())))))
 (brB r52.2.1
 (brB (s70.1 == r52.1)
 (ldT .sl (⟨b44, 0, none⟩ : Addr) fun x118 =>
 callT Tryz.prog fn_formula_Holds #[(.slice x72.a x72.len x72.cap), (.slice x118.a x118.len x118.cap)] .bool fun r119 =>
 brB r119
 (st1 (⟨b1, 0, none⟩ : Addr) (.bool false) <|
 mkd h.size <|
 ldT .bool (⟨b1, 0, none⟩ : Addr) fun x120 =>
 K x120)
 (ldT .sl (⟨b44, 0, none⟩ : Addr) fun x121 =>
 ldT .sl (⟨b44, 0, none⟩ : Addr) fun x122 =>
 callT Tryz.prog fn_formula_Holds #[(.slice x72.a x72.len x72.cap), (.slice x121.a x121.len x121.cap)] .bool fun r123 =>
 ck (⟨b44, 0, none⟩ : Addr) (.slice x122.a x122.len x122.cap) <|
 callT Tryz.prog fn_formula_Lits #[(.slice x122.a x122.len x122.cap)] .sl fun r124 =>
 callT Tryz.prog fn_clauses_Holds #[(.slice x72.a x72.len x72.cap), (.slice r124.a r124.len r124.cap)] .bool fun r125 =>
 brB (!(r123 == r125))
 (st1 (⟨b1, 0, none⟩ : Addr) (.bool false) <|
 mkd h.size <|
 ldT .bool (⟨b1, 0, none⟩ : Addr) fun x126 =>
 K x126)
 (X69 ((IntKind.wrap .i64 (s70.1 + (1 : Int))), ()))))
 (ldT .sl (⟨b44, 0, none⟩ : Addr) fun x127 =>
 ldT .sl (⟨b44, 0, none⟩ : Addr) fun x128 =>
 callT Tryz.prog fn_formula_Holds #[(.slice x72.a x72.len x72.cap), (.slice x127.a x127.len x127.cap)] .bool fun r129 =>
 ck (⟨b44, 0, none⟩ : Addr) (.slice x128.a x128.len x128.cap) <|
 callT Tryz.prog fn_formula_Lits #[(.slice x128.a x128.len x128.cap)] .sl fun r130 =>
 callT Tryz.prog fn_clauses_Holds #[(.slice x72.a x72.len x72.cap), (.slice r130.a r130.len r130.cap)] .bool fun r131 =>
 brB (!(r129 == r131))
 (st1 (⟨b1, 0, none⟩ : Addr) (.bool false) <|
 mkd h.size <|
 ldT .bool (⟨b1, 0, none⟩ : Addr) fun x132 =>
 K x132)
 (X69 ((IntKind.wrap .i64 (s70.1 + (1 : Int))), ()))))
 (ldT .sl (⟨b44, 0, none⟩ : Addr) fun x133 =>
 ldT .sl (⟨b44, 0, none⟩ : Addr) fun x134 =>
 callT Tryz.prog fn_formula_Holds #[(.slice x72.a x72.len x72.cap), (.slice x133.a x133.len x133.cap)] .bool fun r135 =>
 ck (⟨b44, 0, none⟩ : Addr) (.slice x134.a x134.len x134.cap) <|
 callT Tryz.prog fn_formula_Lits #[(.slice x134.a x134.len x134.cap)] .sl fun r136 =>
 callT Tryz.prog fn_clauses_Holds #[(.slice x72.a x72.len x72.cap), (.slice r136.a r136.len r136.cap)] .bool fun r137 =>
 brB (!(r135 == r137))
 (st1 (⟨b1, 0, none⟩ : Addr) (.bool false) <|
 mkd h.size <|
 ldT .bool (⟨b1, 0, none⟩ : Addr) fun x138 =>
 K x138)
 (X69 ((IntKind.wrap .i64 (s70.1 + (1 : Int))), ())))))
 (callT Tryz.prog fn_salvorlaw05_awake #[] .bool fun r139 =>
 st1 (⟨b1, 0, none⟩ : Addr) (.bool r139) <|
 mkd h.size <|
 ldT .bool (⟨b1, 0, none⟩ : Addr) fun x140 =>
 K x140))
 ((0 : Int), ())))
 (ldT .sl ((⟨b3, 0, none⟩ : Addr).add 1) fun x141 =>
 lfp (σ := (Int × Unit)) (fun X142 s143 => 
 brB (decide (s143.1 < (x141.len : Int)))
 (sx x141.a x141.len s143.1 1 fun p144 =>
 ldT .sl p144 fun x145 =>
 brB r52.2.1
 (brB (decide (s143.1 < r52.1))
 (ldT .sl (⟨b44, 0, none⟩ : Addr) fun x146 =>
 callT Tryz.prog fn_formula_Holds #[(.slice x145.a x145.len x145.cap), (.slice x146.a x146.len x146.cap)] .bool fun r147 =>
 brB (!r147)
 (st1 (⟨b1, 0, none⟩ : Addr) (.bool false) <|
 mkd h.size <|
 ldT .bool (⟨b1, 0, none⟩ : Addr) fun x148 =>
 K x148)
 (brB r52.2.1
 (brB (s143.1 == r52.1)
 (ldT .sl (⟨b44, 0, none⟩ : Addr) fun x149 =>
 callT Tryz.prog fn_formula_Holds #[(.slice x145.a x145.len x145.cap), (.slice x149.a x149.len x149.cap)] .bool fun r150 =>
 brB r150
 (st1 (⟨b1, 0, none⟩ : Addr) (.bool false) <|
 mkd h.size <|
 ldT .bool (⟨b1, 0, none⟩ : Addr) fun x151 =>
 K x151)
 (ldT .sl (⟨b44, 0, none⟩ : Addr) fun x152 =>
 ldT .sl (⟨b44, 0, none⟩ : Addr) fun x153 =>
 callT Tryz.prog fn_formula_Holds #[(.slice x145.a x145.len x145.cap), (.slice x152.a x152.len x152.cap)] .bool fun r154 =>
 ck (⟨b44, 0, none⟩ : Addr) (.slice x153.a x153.len x153.cap) <|
 callT Tryz.prog fn_formula_Lits #[(.slice x153.a x153.len x153.cap)] .sl fun r155 =>
 callT Tryz.prog fn_clauses_Holds #[(.slice x145.a x145.len x145.cap), (.slice r155.a r155.len r155.cap)] .bool fun r156 =>
 brB (!(r154 == r156))
 (st1 (⟨b1, 0, none⟩ : Addr) (.bool false) <|
 mkd h.size <|
 ldT .bool (⟨b1, 0, none⟩ : Addr) fun x157 =>
 K x157)
 (X142 ((IntKind.wrap .i64 (s143.1 + (1 : Int))), ()))))
 (ldT .sl (⟨b44, 0, none⟩ : Addr) fun x158 =>
 ldT .sl (⟨b44, 0, none⟩ : Addr) fun x159 =>
 callT Tryz.prog fn_formula_Holds #[(.slice x145.a x145.len x145.cap), (.slice x158.a x158.len x158.cap)] .bool fun r160 =>
 ck (⟨b44, 0, none⟩ : Addr) (.slice x159.a x159.len x159.cap) <|
 callT Tryz.prog fn_formula_Lits #[(.slice x159.a x159.len x159.cap)] .sl fun r161 =>
 callT Tryz.prog fn_clauses_Holds #[(.slice x145.a x145.len x145.cap), (.slice r161.a r161.len r161.cap)] .bool fun r162 =>
 brB (!(r160 == r162))
 (st1 (⟨b1, 0, none⟩ : Addr) (.bool false) <|
 mkd h.size <|
 ldT .bool (⟨b1, 0, none⟩ : Addr) fun x163 =>
 K x163)
 (X142 ((IntKind.wrap .i64 (s143.1 + (1 : Int))), ()))))
 (ldT .sl (⟨b44, 0, none⟩ : Addr) fun x164 =>
 ldT .sl (⟨b44, 0, none⟩ : Addr) fun x165 =>
 callT Tryz.prog fn_formula_Holds #[(.slice x145.a x145.len x145.cap), (.slice x164.a x164.len x164.cap)] .bool fun r166 =>
 ck (⟨b44, 0, none⟩ : Addr) (.slice x165.a x165.len x165.cap) <|
 callT Tryz.prog fn_formula_Lits #[(.slice x165.a x165.len x165.cap)] .sl fun r167 =>
 callT Tryz.prog fn_clauses_Holds #[(.slice x145.a x145.len x145.cap), (.slice r167.a r167.len r167.cap)] .bool fun r168 =>
 brB (!(r166 == r168))
 (st1 (⟨b1, 0, none⟩ : Addr) (.bool false) <|
 mkd h.size <|
 ldT .bool (⟨b1, 0, none⟩ : Addr) fun x169 =>
 K x169)
 (X142 ((IntKind.wrap .i64 (s143.1 + (1 : Int))), ())))))
 (brB r52.2.1
 (brB (s143.1 == r52.1)
 (ldT .sl (⟨b44, 0, none⟩ : Addr) fun x170 =>
 callT Tryz.prog fn_formula_Holds #[(.slice x145.a x145.len x145.cap), (.slice x170.a x170.len x170.cap)] .bool fun r171 =>
 brB r171
 (st1 (⟨b1, 0, none⟩ : Addr) (.bool false) <|
 mkd h.size <|
 ldT .bool (⟨b1, 0, none⟩ : Addr) fun x172 =>
 K x172)
 (ldT .sl (⟨b44, 0, none⟩ : Addr) fun x173 =>
 ldT .sl (⟨b44, 0, none⟩ : Addr) fun x174 =>
 callT Tryz.prog fn_formula_Holds #[(.slice x145.a x145.len x145.cap), (.slice x173.a x173.len x173.cap)] .bool fun r175 =>
 ck (⟨b44, 0, none⟩ : Addr) (.slice x174.a x174.len x174.cap) <|
 callT Tryz.prog fn_formula_Lits #[(.slice x174.a x174.len x174.cap)] .sl fun r176 =>
 callT Tryz.prog fn_clauses_Holds #[(.slice x145.a x145.len x145.cap), (.slice r176.a r176.len r176.cap)] .bool fun r177 =>
 brB (!(r175 == r177))
 (st1 (⟨b1, 0, none⟩ : Addr) (.bool false) <|
 mkd h.size <|
 ldT .bool (⟨b1, 0, none⟩ : Addr) fun x178 =>
 K x178)
 (X142 ((IntKind.wrap .i64 (s143.1 + (1 : Int))), ()))))
 (ldT .sl (⟨b44, 0, none⟩ : Addr) fun x179 =>
 ldT .sl (⟨b44, 0, none⟩ : Addr) fun x180 =>
 callT Tryz.prog fn_formula_Holds #[(.slice x145.a x145.len x145.cap), (.slice x179.a x179.len x179.cap)] .bool fun r181 =>
 ck (⟨b44, 0, none⟩ : Addr) (.slice x180.a x180.len x180.cap) <|
 callT Tryz.prog fn_formula_Lits #[(.slice x180.a x180.len x180.cap)] .sl fun r182 =>
 callT Tryz.prog fn_clauses_Holds #[(.slice x145.a x145.len x145.cap), (.slice r182.a r182.len r182.cap)] .bool fun r183 =>
 brB (!(r181 == r183))
 (st1 (⟨b1, 0, none⟩ : Addr) (.bool false) <|
 mkd h.size <|
 ldT .bool (⟨b1, 0, none⟩ : Addr) fun x184 =>
 K x184)
 (X142 ((IntKind.wrap .i64 (s143.1 + (1 : Int))), ()))))
 (ldT .sl (⟨b44, 0, none⟩ : Addr) fun x185 =>
 ldT .sl (⟨b44, 0, none⟩ : Addr) fun x186 =>
 callT Tryz.prog fn_formula_Holds #[(.slice x145.a x145.len x145.cap), (.slice x185.a x185.len x185.cap)] .bool fun r187 =>
 ck (⟨b44, 0, none⟩ : Addr) (.slice x186.a x186.len x186.cap) <|
 callT Tryz.prog fn_formula_Lits #[(.slice x186.a x186.len x186.cap)] .sl fun r188 =>
 callT Tryz.prog fn_clauses_Holds #[(.slice x145.a x145.len x145.cap), (.slice r188.a r188.len r188.cap)] .bool fun r189 =>
 brB (!(r187 == r189))
 (st1 (⟨b1, 0, none⟩ : Addr) (.bool false) <|
 mkd h.size <|
 ldT .bool (⟨b1, 0, none⟩ : Addr) fun x190 =>
 K x190)
 (X142 ((IntKind.wrap .i64 (s143.1 + (1 : Int))), ())))))
 (brB r52.2.1
 (brB (s143.1 == r52.1)
 (ldT .sl (⟨b44, 0, none⟩ : Addr) fun x191 =>
 callT Tryz.prog fn_formula_Holds #[(.slice x145.a x145.len x145.cap), (.slice x191.a x191.len x191.cap)] .bool fun r192 =>
 brB r192
 (st1 (⟨b1, 0, none⟩ : Addr) (.bool false) <|
 mkd h.size <|
 ldT .bool (⟨b1, 0, none⟩ : Addr) fun x193 =>
 K x193)
 (ldT .sl (⟨b44, 0, none⟩ : Addr) fun x194 =>
 ldT .sl (⟨b44, 0, none⟩ : Addr) fun x195 =>
 callT Tryz.prog fn_formula_Holds #[(.slice x145.a x145.len x145.cap), (.slice x194.a x194.len x194.cap)] .bool fun r196 =>
 ck (⟨b44, 0, none⟩ : Addr) (.slice x195.a x195.len x195.cap) <|
 callT Tryz.prog fn_formula_Lits #[(.slice x195.a x195.len x195.cap)] .sl fun r197 =>
 callT Tryz.prog fn_clauses_Holds #[(.slice x145.a x145.len x145.cap), (.slice r197.a r197.len r197.cap)] .bool fun r198 =>
 brB (!(r196 == r198))
 (st1 (⟨b1, 0, none⟩ : Addr) (.bool false) <|
 mkd h.size <|
 ldT .bool (⟨b1, 0, none⟩ : Addr) fun x199 =>
 K x199)
 (X142 ((IntKind.wrap .i64 (s143.1 + (1 : Int))), ()))))
 (ldT .sl (⟨b44, 0, none⟩ : Addr) fun x200 =>
 ldT .sl (⟨b44, 0, none⟩ : Addr) fun x201 =>
 callT Tryz.prog fn_formula_Holds #[(.slice x145.a x145.len x145.cap), (.slice x200.a x200.len x200.cap)] .bool fun r202 =>
 ck (⟨b44, 0, none⟩ : Addr) (.slice x201.a x201.len x201.cap) <|
 callT Tryz.prog fn_formula_Lits #[(.slice x201.a x201.len x201.cap)] .sl fun r203 =>
 callT Tryz.prog fn_clauses_Holds #[(.slice x145.a x145.len x145.cap), (.slice r203.a r203.len r203.cap)] .bool fun r204 =>
 brB (!(r202 == r204))
 (st1 (⟨b1, 0, none⟩ : Addr) (.bool false) <|
 mkd h.size <|
 ldT .bool (⟨b1, 0, none⟩ : Addr) fun x205 =>
 K x205)
 (X142 ((IntKind.wrap .i64 (s143.1 + (1 : Int))), ()))))
 (ldT .sl (⟨b44, 0, none⟩ : Addr) fun x206 =>
 ldT .sl (⟨b44, 0, none⟩ : Addr) fun x207 =>
 callT Tryz.prog fn_formula_Holds #[(.slice x145.a x145.len x145.cap), (.slice x206.a x206.len x206.cap)] .bool fun r208 =>
 ck (⟨b44, 0, none⟩ : Addr) (.slice x207.a x207.len x207.cap) <|
 callT Tryz.prog fn_formula_Lits #[(.slice x207.a x207.len x207.cap)] .sl fun r209 =>
 callT Tryz.prog fn_clauses_Holds #[(.slice x145.a x145.len x145.cap), (.slice r209.a r209.len r209.cap)] .bool fun r210 =>
 brB (!(r208 == r210))
 (st1 (⟨b1, 0, none⟩ : Addr) (.bool false) <|
 mkd h.size <|
 ldT .bool (⟨b1, 0, none⟩ : Addr) fun x211 =>
 K x211)
 (X142 ((IntKind.wrap .i64 (s143.1 + (1 : Int))), ())))))
 (callT Tryz.prog fn_salvorlaw05_awake #[] .bool fun r212 =>
 st1 (⟨b1, 0, none⟩ : Addr) (.bool r212) <|
 mkd h.size <|
 ldT .bool (⟨b1, 0, none⟩ : Addr) fun x213 =>
 K x213))
 ((0 : Int), ())))))))))
 ((0 : Int), ()))
 (fun J41 =>
 RangeVC Tryz.prog (.cons .sl .nil) r36.1 (fun x214 wrap215 next216 jump217 =>
 wrap215 <|
 ldT (.int .i64) (⟨b40, 0, none⟩ : Addr) fun x218 =>
 ldT (.int .u8) (⟨b0, 0, none⟩ : Addr) fun x219 =>
 brB (x218 == (IntKind.wrap .i64 x219))
 (jump217 (.exit 2))
 (ldT (.int .i64) (⟨b40, 0, none⟩ : Addr) fun x220 =>
 ldT .sl (⟨b6, 0, none⟩ : Addr) fun x221 =>
 brB (decide (x220 ≥ (x221.len : Int)))
 (st1 (⟨b1, 0, none⟩ : Addr) (.bool false) <|
 jump217 .ret)
 (ldT .sl (⟨b6, 0, none⟩ : Addr) fun x222 =>
 ldT (.int .i64) (⟨b40, 0, none⟩ : Addr) fun x223 =>
 sx x222.a x222.len x223 1 fun p224 =>
 ldT .sl p224 fun x225 =>
 callT Tryz.prog fn_slices_Equal_bool_bool #[(.slice x214.1.a x214.1.len x214.1.cap), (.slice x225.a x225.len x225.cap)] .bool fun r226 =>
 brB (!r226)
 (st1 (⟨b1, 0, none⟩ : Addr) (.bool false) <|
 jump217 .ret)
 (ldT (.int .i64) (⟨b40, 0, none⟩ : Addr) fun x227 =>
 st1 (⟨b40, 0, none⟩ : Addr) (.int .i64 (IntKind.wrap .i64 (x227 + (1 : Int)))) <|
 next216))))
 (J41 (()))
 (mkd h.size <|
 ldT .bool (⟨b1, 0, none⟩ : Addr) fun x228 =>
 K x228)
 [2]
 [(J41 (()))])))))
 ((0 : Int), ())) h' := by
    intro h12 st
    rw [ld_sl (i := 0) (st.fblk 5 rfl) rfl]
    refine lfp_invh (I := fun μ σ h' => ∃ i : Nat, σ = ((i : Int), ()) ∧ i ≤ A.length ∧ Hs [([], h)] [llu cs s, cl b0 ty_uint8 [.int .u8 (stop : Int)], llo M r2, cF b3 8 r2, osg (fun c p => ob c p) ty_sl_bool A r5, cl b6 ty_sl_sl_bool [.slice r5.a r5.len r5.cap]] [cl b1 ty_bool [.bool false]] h' ∧ μ = A.length - i) ⟨_, 0, rfl, by omega, st, rfl⟩ ?_
    clear st
    rintro μ σ h13 X ⟨i, rfl, hi, st, em⟩ hX
    simp only
    by_cases hlt : i < A.length
    · rw [decide_eq_true (show (i : Int) < (r5.len : Int) by omega), brB_true, inc_i (show i < 4611686018427387904 by omega)]
      refine rdG (lob_llb (st.fz 4 rfl)) hlt fun p hp => ?_
      obtain ⟨q8, qM⟩ := hrow _ (List.getElem_mem hlt)
      refine ldF (s := r2) (st.fblk 3 rfl) ?_
      refine call_of (Value_c (n := 8) (llo_at (st.fz 2 rfl)) hp) ?_
      rintro _ h14 ⟨rfl, x14⟩
      have st := st.ext x14
      have ev : valueP 8 M A[i] = (true, 0) := by
        have e1 : failsP 8 M A[i] = (0, false, 0) := by
          unfold failsP
          have := (failsGo_neg (i := 0)).2 qM
          rw [if_neg (by simp [hc0]), if_neg (by rw [q8]; decide), if_neg (by omega)]
        unfold valueP; rw [e1]; rfl
      rw [ev]
      show (brB false _ (brB false _ _)) _
      rw [brB_false, brB_false]
      by_cases h0 : i = 0
      · rw [decide_eq_false (show ¬ (i : Int) > 0 by omega), brB_false]
        exact hX _ _ _ ⟨i + 1, rfl, by omega, st, rfl⟩ (by omega)
      · rw [decide_eq_true (show (i : Int) > 0 by omega), brB_true, ld_sl (i := 0) (st.fblk 5 rfl) rfl, dec_i (show i < 4611686018427387904 by omega) (by omega)]
        refine rdG (lob_llb (st.fz 4 rfl)) (show i - 1 < A.length by omega) fun q hq => ?_
        have q8' := (hrow _ (List.getElem_mem (show i - 1 < A.length by omega))).1
        refine call_of (less_c hq (hp.ext x14) (by omega) (by omega)) ?_
        rintro r hqq ⟨er, rfl⟩
        have er : r = true := er.trans (List.pairwise_iff_getElem.1 hsort (i - 1) i (by omega) hlt (by omega))
        subst er
        rw [Bool.not_true, brB_false]
        exact hX _ _ _ ⟨i + 1, rfl, by omega, st, rfl⟩ (by omega)
    rw [decide_eq_false (show ¬ (i : Int) < (r5.len : Int) by omega), brB_false]
    clear hX X em hlt hi
    refine ldF (s := r2) (st.fblk 3 rfl) ?_
    refine Hs.Models (n := 8) (cs := M) st (llo_at (st.fz 2 rfl)) (fun hc' => absurd hc0 hc') (fun _ hn => by omega) (fun v hv _ hv16 bm sm h14 st => ?_)
    have hv8 : v = 8 := by omega
    subst hv8
    show (brB false _ _) _
    rw [brB_false]
    refine ⟨.inr ⟨_, _, _, rfl⟩, ?_⟩
    show (brB false _ _) _
    rw [brB_false]
    refine st.nw fun b40 h15 st => ?_
    simp only [List.nil_append, List.cons_append] at st
    refine st.st1 1 0 rfl (by simp) fun h16 st => ?_
    simp only [List.set_cons_zero, List.set_cons_succ] at st
    refine jn_mid (fun σ h' => Hs [([], h)] [llu cs s, cl b0 ty_uint8 [.int .u8 (stop : Int)], llo M r2, cF b3 8 r2, osg (fun c p => ob c p) ty_sl_bool A r5, cl b6 ty_sl_sl_bool [.slice r5.a r5.len r5.cap], cF bm 8 sm, lli M sm] [cl b1 ty_bool [.bool false], cl b40 ty_int [.int .i64 ((min stop A.length : Nat) : Int)]] h') ?_ ?_
    rotate_left
    · intro J hJ
      refine st.rangeG (modNx 8 M) (modGf 8 M) (modFin 8 M) (models_hit 6 7 rfl rfl hG8 (by decide)) (fun _ _ _ _ => rfl)
        (fun pre Bs => pre.length ≤ stop ∧ Bs = [cl b1 ty_bool [.bool false], cl b40 ty_int [.int .i64 (pre.length : Int)]])
        (fun j Bs => j = .exit 2 ∧ Bs = [cl b1 ty_bool [.bool false], cl b40 ty_int [.int .i64 ((min stop A.length : Nat) : Int)]]) ⟨Nat.zero_le _, rfl⟩ ?_ ?_ (fun _ _ hf => by cases hf.1) ?_
      · rintro pre ⟨x, ⟨⟩⟩ Bs B hb hnx ⟨hps, rfl⟩ st next jump hnext hjump
        have hlt : pre.length < A.length := by rw [hAe]; exact hnx
        have eg : modGf 8 M pre (x, ()) = ob A[pre.length] x := by
          show ob ((modelsF 8 M).getD pre.length []) x = _
          rw [← hAe, List.getD_eq_getElem?_getD, List.getElem?_eq_getElem hlt]; rfl
        rw [eg] at st
        simp only [List.nil_append, List.cons_append] at st
        simp only
        rw [st.ldi 1 0 rfl rfl, ld_int (i := 0) (st.fblk 1 rfl) rfl]
        rw [wrap_i64 (x := (stop : Int)) (by omega) (by omega)]
        by_cases q : pre.length = stop
        · rw [show ((pre.length : Int) == (stop : Int)) = true by simp [q], brB_true]
          refine hjump _ _ _ ⟨rfl, ?_⟩ (st.drop 2 rfl)
          rw [show min stop A.length = pre.length by omega]; rfl
        · rw [show ((pre.length : Int) == (stop : Int)) = false by rw [beq_eq_false_iff_ne]; omega, brB_false]
          rw [st.ldi 1 0 rfl rfl, ld_sl (i := 0) (st.fblk 5 rfl) rfl]
          simp only
          rw [decide_eq_false (show ¬ (pre.length : Int) ≥ (r5.len : Int) by omega), brB_false, ld_sl (i := 0) (st.fblk 5 rfl) rfl, st.ldi 1 0 rfl rfl]
          simp only
          refine rdG (lob_llb (st.fz 4 rfl)) hlt fun p hp => ?_
          have q8 := (hrow _ (List.getElem_mem hlt)).1
          refine call_of (equal_bools (st.own 2 rfl).rsl hp (by omega)) ?_
          rintro r hqq ⟨er, rfl⟩
          have er : r = true := er.trans (by simp)
          subst er
          rw [Bool.not_true, brB_false, st.ldi 1 0 rfl rfl, inc_i (show pre.length < 4611686018427387904 by omega)]
          have st := st.drop 2 rfl
          simp only [List.eraseIdx_cons_zero, List.eraseIdx_cons_succ] at st
          refine st.st1 1 0 rfl (by simp) fun h17 st => ?_
          simp only [List.set_cons_zero, List.set_cons_succ] at st
          refine hnext _ _ ⟨by simp; omega, ?_⟩ st
          rw [List.length_append, List.length_singleton]
      · rintro pre Bs h17 hfin ⟨hps, rfl⟩ st
        have hfin : pre.length = A.length := by rw [hAe]; exact hfin
        refine hJ _ _ ?_
        rw [show min stop A.length = pre.length by omega]; exact st
      · rintro i id K' hi hk Bs h17 ⟨e, rfl⟩ st
        cases e
        have : i = 0 := by
          rcases i with _ | i
          · rfl
          · simp at hi
        subst this
        simp only [List.getElem?_cons_zero, Option.some.injEq] at hk
        subst hk
        exact hJ _ _ st
    clear st
    rintro σ h17 st
    try simp only
    refine Hs.mks1 (n := 8) (τ := .bool) (z := false) st (by decide) (by decide) fun s43 h18 st => ?_
    simp only [List.nil_append, List.cons_append] at st
    refine st.nw fun b44 h19 st => ?_
    simp only [List.nil_append, List.cons_append] at st
    refine st.st1 3 0 rfl (by simp) fun h20 st => ?_
    simp only [List.set_cons_zero, List.set_cons_succ] at st
    rw [st.lds 3 0 rfl rfl]
    have l43 : s43.len = 8 := by rw [osl_len (st.own 2 rfl)]; simp
    have e8 : List.replicate 8 false = ((List.range 0).map fun v => decide (bits / 2 ^ v % 2 = 1)) ++ List.replicate (8 - 0) false := by simp
    rw [e8] at st
    refine lfp_invh (I := fun μ σ h' => ∃ v : Nat, σ = ((v : Int), ()) ∧ v ≤ 8 ∧ Hs [([], h)] [llu cs s, cl b0 ty_uint8 [.int .u8 (stop : Int)], llo M r2, cF b3 8 r2, osg (fun c p => ob c p) ty_sl_bool A r5, cl b6 ty_sl_sl_bool [.slice r5.a r5.len r5.cap], cF bm 8 sm, lli M sm]
        [cl b1 ty_bool [.bool false], cl b40 ty_int [.int .i64 ((min stop A.length : Nat) : Int)], ob (((List.range v).map fun v => decide (bits / 2 ^ v % 2 = 1)) ++ List.replicate (8 - v) false) s43, cl b44 ty_sl_bool [.slice s43.a s43.len s43.cap]] h' ∧ μ = 8 - v)
      ⟨_, 0, rfl, by omega, st, rfl⟩ ?_
    clear st
    rintro μ σ h21 X ⟨v, rfl, hv, st, em⟩ hX
    simp only
    by_cases hlt : v < 8
    · rw [decide_eq_true (show (v : Int) < (s43.len : Int) by omega), brB_true, st.lds 3 0 rfl rfl, inc_i (show v < 4611686018427387904 by omega)]
      refine ⟨Int.natCast_nonneg _, ?_⟩
      rw [band_bit bits v (by omega) hlt]
      refine st.wrE (τ := .bool) 2 rfl (show v < _ by simp; omega) _ fun h22 st => ?_
      refine hX _ _ _ ⟨v + 1, rfl, by omega, ?_, rfl⟩ (by omega)
      simp only [List.set_cons_zero, List.set_cons_succ] at st
      rw [set_map_range' (fun v => decide (bits / 2 ^ v % 2 = 1)) 8 v false hlt] at st
      exact st
    rw [decide_eq_false (show ¬ (v : Int) < (s43.len : Int) by omega), brB_false]
    have ev8 : v = 8 := by omega
    subst ev8
    have hB8 : (((List.range 8).map fun v => decide (bits / 2 ^ v % 2 = 1)) ++ List.replicate (8 - 8) false).length = 8 := by simp
    generalize ((List.range 8).map fun v => decide (bits / 2 ^ v % 2 = 1)) ++ List.replicate (8 - 8) false = mb at *
    clear hX X em hlt hv
    refine ldF (s := r2) (st.fblk 3 rfl) ?_
    rw [st.lds 3 0 rfl rfl]
    refine call_of (Fails_c (n := 8) (llo_at (st.fz 2 rfl)) (st.own 2 rfl).rsl) ?_
    rintro _ h22 ⟨rfl, x22⟩
    have st := st.ext x22
    refine ldF (s := r2) (st.fblk 3 rfl) ?_
    rw [st.lds 3 0 rfl rfl]
    refine call_of (Value_c (n := 8) (llo_at (st.fz 2 rfl)) (st.own 2 rfl).rsl) ?_
    rintro _ h23 ⟨rfl, x23⟩
    have st := st.ext x23
    rw [ld_sl (i := 0) (st.fblk 5 rfl) rfl]
    refine call_of (containsFunc_bools (p := fun m => decide (m = mb)) (lob_llb (st.fz 4 rfl)) (by omega) fun m hm q h' x' hq' => ?_) ?_
    · exact callF_func (yields1_c ((st.blk 3 rfl).ext x' (by simp)) ((st.own 2 rfl).rsl.ext x') hq' (by rw [(hrow m hm).1]; decide))
    rintro r h24 ⟨er, x24⟩
    have st := st.ext x24
    obtain ⟨AT, FL, eF, hFL⟩ : ∃ (AT : Int) (FL : Bool), failsP 8 M mb = (AT, FL, 0) ∧ ((FL = false ∧ AT = 0 ∧ failsGo mb 0 M < 0) ∨ (FL = true ∧ AT = failsGo mb 0 M ∧ 0 ≤ failsGo mb 0 M)) := by
      unfold failsP
      rw [if_neg (by simp [hc0]), if_neg (by rw [hB8]; decide)]
      by_cases q : failsGo mb 0 M ≥ 0
      · exact ⟨_, true, by rw [if_pos q], .inr ⟨rfl, rfl, q⟩⟩
      · exact ⟨0, false, by rw [if_neg q], .inl ⟨rfl, rfl, by omega⟩⟩
    have eV : valueP 8 M mb = (!FL, 0) := by unfold valueP; rw [eF]; rfl
    have eR : r = !FL := by
      rw [show r = A.any (fun m => decide (m = mb)) from er, Bool.eq_iff_iff, List.any_eq_true]
      have hin : mb ∈ A ↔ failsGo mb 0 M < 0 := by rw [hmemA, failsGo_neg]; exact ⟨fun q => q.2, fun q => ⟨hB8, q⟩⟩
      constructor
      · rintro ⟨m, hm, e⟩
        rw [of_decide_eq_true e, hin] at hm
        rcases hFL with ⟨q, _⟩ | ⟨_, _, q⟩
        · rw [q]; rfl
        · omega
      · intro q
        rcases hFL with ⟨_, _, q2⟩ | ⟨q2, _⟩
        · exact ⟨mb, hin.2 q2, by simp⟩
        · rw [q2] at q; cases q
    have hAT : 0 ≤ AT := by rcases hFL with ⟨_, q, _⟩ | ⟨_, q, q2⟩ <;> omega
    rw [eF, eV, eR]
    show (brB false _ _) _
    rw [brB_false, st.ldi 1 0 rfl rfl, ld_int (i := 0) (st.fblk 1 rfl) rfl, ld_sl (i := 0) (st.fblk 5 rfl) rfl]
    rw [wrap_i64 (x := (stop : Int)) (by omega) (by omega)]
    simp only
    rw [show ((((min stop A.length : Nat) : Int)) != (if (r5.len : Int) < (stop : Int) then (r5.len : Int) else (stop : Int))) = false by
      rw [bne_eq_false_iff_eq]; split <;> omega, brB_false]
    rw [show ((!FL) == FL) = false by cases FL <;> rfl, brB_false, show (!((!FL) == !FL)) = false by cases FL <;> rfl, brB_false, decide_eq_false (show ¬ AT < 0 by omega), brB_false]
    have loop : ∀ h', Hs [([], h)] [llu cs s, cl b0 ty_uint8 [.int .u8 (stop : Int)], llo M r2, cF b3 8 r2, osg (fun c p => ob c p) ty_sl_bool A r5, cl b6 ty_sl_sl_bool [.slice r5.a r5.len r5.cap], cF bm 8 sm, lli M sm]
        [cl b1 ty_bool [.bool false], cl b40 ty_int [.int .i64 ((min stop A.length : Nat) : Int)], ob mb s43, cl b44 ty_sl_bool [.slice s43.a s43.len s43.cap]] h' →
      (ldT .sl ((⟨b3, 0, none⟩ : Addr).add 1) fun x68 =>
 lfp (σ := (Int × Unit)) (fun X69 s70 => 
 brB (decide (s70.1 < (x68.len : Int)))
 (sx x68.a x68.len s70.1 1 fun p71 =>
 ldT .sl p71 fun x72 =>
 brB FL
 (brB (decide (s70.1 < AT))
 (ldT .sl (⟨b44, 0, none⟩ : Addr) fun x73 =>
 callT Tryz.prog fn_formula_Holds #[(.slice x72.a x72.len x72.cap), (.slice x73.a x73.len x73.cap)] .bool fun r74 =>
 brB (!r74)
 (st1 (⟨b1, 0, none⟩ : Addr) (.bool false) <|
 mkd h.size <|
 ldT .bool (⟨b1, 0, none⟩ : Addr) fun x75 =>
 K x75)
 (brB FL
 (brB (s70.1 == AT)
 (ldT .sl (⟨b44, 0, none⟩ : Addr) fun x76 =>
 callT Tryz.prog fn_formula_Holds #[(.slice x72.a x72.len x72.cap), (.slice x76.a x76.len x76.cap)] .bool fun r77 =>
 brB r77
 (st1 (⟨b1, 0, none⟩ : Addr) (.bool false) <|
 mkd h.size <|
 ldT .bool (⟨b1, 0, none⟩ : Addr) fun x78 =>
 K x78)
 (ldT .sl (⟨b44, 0, none⟩ : Addr) fun x79 =>
 ldT .sl (⟨b44, 0, none⟩ : Addr) fun x80 =>
 callT Tryz.prog fn_formula_Holds #[(.slice x72.a x72.len x72.cap), (.slice x79.a x79.len x79.cap)] .bool fun r81 =>
 ck (⟨b44, 0, none⟩ : Addr) (.slice x80.a x80.len x80.cap) <|
 callT Tryz.prog fn_formula_Lits #[(.slice x80.a x80.len x80.cap)] .sl fun r82 =>
 callT Tryz.prog fn_clauses_Holds #[(.slice x72.a x72.len x72.cap), (.slice r82.a r82.len r82.cap)] .bool fun r83 =>
 brB (!(r81 == r83))
 (st1 (⟨b1, 0, none⟩ : Addr) (.bool false) <|
 mkd h.size <|
 ldT .bool (⟨b1, 0, none⟩ : Addr) fun x84 =>
 K x84)
 (X69 ((IntKind.wrap .i64 (s70.1 + (1 : Int))), ()))))
 (ldT .sl (⟨b44, 0, none⟩ : Addr) fun x85 =>
 ldT .sl (⟨b44, 0, none⟩ : Addr) fun x86 =>
 callT Tryz.prog fn_formula_Holds #[(.slice x72.a x72.len x72.cap), (.slice x85.a x85.len x85.cap)] .bool fun r87 =>
 ck (⟨b44, 0, none⟩ : Addr) (.slice x86.a x86.len x86.cap) <|
 callT Tryz.prog fn_formula_Lits #[(.slice x86.a x86.len x86.cap)] .sl fun r88 =>
 callT Tryz.prog fn_clauses_Holds #[(.slice x72.a x72.len x72.cap), (.slice r88.a r88.len r88.cap)] .bool fun r89 =>
 brB (!(r87 == r89))
 (st1 (⟨b1, 0, none⟩ : Addr) (.bool false) <|
 mkd h.size <|
 ldT .bool (⟨b1, 0, none⟩ : Addr) fun x90 =>
 K x90)
 (X69 ((IntKind.wrap .i64 (s70.1 + (1 : Int))), ()))))
 (ldT .sl (⟨b44, 0, none⟩ : Addr) fun x91 =>
 ldT .sl (⟨b44, 0, none⟩ : Addr) fun x92 =>
 callT Tryz.prog fn_formula_Holds #[(.slice x72.a x72.len x72.cap), (.slice x91.a x91.len x91.cap)] .bool fun r93 =>
 ck (⟨b44, 0, none⟩ : Addr) (.slice x92.a x92.len x92.cap) <|
 callT Tryz.prog fn_formula_Lits #[(.slice x92.a x92.len x92.cap)] .sl fun r94 =>
 callT Tryz.prog fn_clauses_Holds #[(.slice x72.a x72.len x72.cap), (.slice r94.a r94.len r94.cap)] .bool fun r95 =>
 brB (!(r93 == r95))
 (st1 (⟨b1, 0, none⟩ : Addr) (.bool false) <|
 mkd h.size <|
 ldT .bool (⟨b1, 0, none⟩ : Addr) fun x96 =>
 K x96)
 (X69 ((IntKind.wrap .i64 (s70.1 + (1 : Int))), ())))))
 (brB FL
 (brB (s70.1 == AT)
 (ldT .sl (⟨b44, 0, none⟩ : Addr) fun x97 =>
 callT Tryz.prog fn_formula_Holds #[(.slice x72.a x72.len x72.cap), (.slice x97.a x97.len x97.cap)] .bool fun r98 =>
 brB r98
 (st1 (⟨b1, 0, none⟩ : Addr) (.bool false) <|
 mkd h.size <|
 ldT .bool (⟨b1, 0, none⟩ : Addr) fun x99 =>
 K x99)
 (ldT .sl (⟨b44, 0, none⟩ : Addr) fun x100 =>
 ldT .sl (⟨b44, 0, none⟩ : Addr) fun x101 =>
 callT Tryz.prog fn_formula_Holds #[(.slice x72.a x72.len x72.cap), (.slice x100.a x100.len x100.cap)] .bool fun r102 =>
 ck (⟨b44, 0, none⟩ : Addr) (.slice x101.a x101.len x101.cap) <|
 callT Tryz.prog fn_formula_Lits #[(.slice x101.a x101.len x101.cap)] .sl fun r103 =>
 callT Tryz.prog fn_clauses_Holds #[(.slice x72.a x72.len x72.cap), (.slice r103.a r103.len r103.cap)] .bool fun r104 =>
 brB (!(r102 == r104))
 (st1 (⟨b1, 0, none⟩ : Addr) (.bool false) <|
 mkd h.size <|
 ldT .bool (⟨b1, 0, none⟩ : Addr) fun x105 =>
 K x105)
 (X69 ((IntKind.wrap .i64 (s70.1 + (1 : Int))), ()))))
 (ldT .sl (⟨b44, 0, none⟩ : Addr) fun x106 =>
 ldT .sl (⟨b44, 0, none⟩ : Addr) fun x107 =>
 callT Tryz.prog fn_formula_Holds #[(.slice x72.a x72.len x72.cap), (.slice x106.a x106.len x106.cap)] .bool fun r108 =>
 ck (⟨b44, 0, none⟩ : Addr) (.slice x107.a x107.len x107.cap) <|
 callT Tryz.prog fn_formula_Lits #[(.slice x107.a x107.len x107.cap)] .sl fun r109 =>
 callT Tryz.prog fn_clauses_Holds #[(.slice x72.a x72.len x72.cap), (.slice r109.a r109.len r109.cap)] .bool fun r110 =>
 brB (!(r108 == r110))
 (st1 (⟨b1, 0, none⟩ : Addr) (.bool false) <|
 mkd h.size <|
 ldT .bool (⟨b1, 0, none⟩ : Addr) fun x111 =>
 K x111)
 (X69 ((IntKind.wrap .i64 (s70.1 + (1 : Int))), ()))))
 (ldT .sl (⟨b44, 0, none⟩ : Addr) fun x112 =>
 ldT .sl (⟨b44, 0, none⟩ : Addr) fun x113 =>
 callT Tryz.prog fn_formula_Holds #[(.slice x72.a x72.len x72.cap), (.slice x112.a x112.len x112.cap)] .bool fun r114 =>
 ck (⟨b44, 0, none⟩ : Addr) (.slice x113.a x113.len x113.cap) <|
 callT Tryz.prog fn_formula_Lits #[(.slice x113.a x113.len x113.cap)] .sl fun r115 =>
 callT Tryz.prog fn_clauses_Holds #[(.slice x72.a x72.len x72.cap), (.slice r115.a r115.len r115.cap)] .bool fun r116 =>
 brB (!(r114 == r116))
 (st1 (⟨b1, 0, none⟩ : Addr) (.bool false) <|
 mkd h.size <|
 ldT .bool (⟨b1, 0, none⟩ : Addr) fun x117 =>
 K x117)
 (X69 ((IntKind.wrap .i64 (s70.1 + (1 : Int))), ())))))
 (brB FL
 (brB (s70.1 == AT)
 (ldT .sl (⟨b44, 0, none⟩ : Addr) fun x118 =>
 callT Tryz.prog fn_formula_Holds #[(.slice x72.a x72.len x72.cap), (.slice x118.a x118.len x118.cap)] .bool fun r119 =>
 brB r119
 (st1 (⟨b1, 0, none⟩ : Addr) (.bool false) <|
 mkd h.size <|
 ldT .bool (⟨b1, 0, none⟩ : Addr) fun x120 =>
 K x120)
 (ldT .sl (⟨b44, 0, none⟩ : Addr) fun x121 =>
 ldT .sl (⟨b44, 0, none⟩ : Addr) fun x122 =>
 callT Tryz.prog fn_formula_Holds #[(.slice x72.a x72.len x72.cap), (.slice x121.a x121.len x121.cap)] .bool fun r123 =>
 ck (⟨b44, 0, none⟩ : Addr) (.slice x122.a x122.len x122.cap) <|
 callT Tryz.prog fn_formula_Lits #[(.slice x122.a x122.len x122.cap)] .sl fun r124 =>
 callT Tryz.prog fn_clauses_Holds #[(.slice x72.a x72.len x72.cap), (.slice r124.a r124.len r124.cap)] .bool fun r125 =>
 brB (!(r123 == r125))
 (st1 (⟨b1, 0, none⟩ : Addr) (.bool false) <|
 mkd h.size <|
 ldT .bool (⟨b1, 0, none⟩ : Addr) fun x126 =>
 K x126)
 (X69 ((IntKind.wrap .i64 (s70.1 + (1 : Int))), ()))))
 (ldT .sl (⟨b44, 0, none⟩ : Addr) fun x127 =>
 ldT .sl (⟨b44, 0, none⟩ : Addr) fun x128 =>
 callT Tryz.prog fn_formula_Holds #[(.slice x72.a x72.len x72.cap), (.slice x127.a x127.len x127.cap)] .bool fun r129 =>
 ck (⟨b44, 0, none⟩ : Addr) (.slice x128.a x128.len x128.cap) <|
 callT Tryz.prog fn_formula_Lits #[(.slice x128.a x128.len x128.cap)] .sl fun r130 =>
 callT Tryz.prog fn_clauses_Holds #[(.slice x72.a x72.len x72.cap), (.slice r130.a r130.len r130.cap)] .bool fun r131 =>
 brB (!(r129 == r131))
 (st1 (⟨b1, 0, none⟩ : Addr) (.bool false) <|
 mkd h.size <|
 ldT .bool (⟨b1, 0, none⟩ : Addr) fun x132 =>
 K x132)
 (X69 ((IntKind.wrap .i64 (s70.1 + (1 : Int))), ()))))
 (ldT .sl (⟨b44, 0, none⟩ : Addr) fun x133 =>
 ldT .sl (⟨b44, 0, none⟩ : Addr) fun x134 =>
 callT Tryz.prog fn_formula_Holds #[(.slice x72.a x72.len x72.cap), (.slice x133.a x133.len x133.cap)] .bool fun r135 =>
 ck (⟨b44, 0, none⟩ : Addr) (.slice x134.a x134.len x134.cap) <|
 callT Tryz.prog fn_formula_Lits #[(.slice x134.a x134.len x134.cap)] .sl fun r136 =>
 callT Tryz.prog fn_clauses_Holds #[(.slice x72.a x72.len x72.cap), (.slice r136.a r136.len r136.cap)] .bool fun r137 =>
 brB (!(r135 == r137))
 (st1 (⟨b1, 0, none⟩ : Addr) (.bool false) <|
 mkd h.size <|
 ldT .bool (⟨b1, 0, none⟩ : Addr) fun x138 =>
 K x138)
 (X69 ((IntKind.wrap .i64 (s70.1 + (1 : Int))), ())))))
 (callT Tryz.prog fn_salvorlaw05_awake #[] .bool fun r139 =>
 st1 (⟨b1, 0, none⟩ : Addr) (.bool r139) <|
 mkd h.size <|
 ldT .bool (⟨b1, 0, none⟩ : Addr) fun x140 =>
 K x140))
 ((0 : Int), ())) h' := by
      intro h25 st
      have hF1 : FL = true → ∀ i (hi : i < M.length), ((i : Int) < AT → holdsF M[i] mb = true) ∧ ((i : Int) = AT → holdsF M[i] mb = false) := by
        intro hfl i hi
        rcases hFL with ⟨q, _⟩ | ⟨_, q, q2⟩
        · rw [q] at hfl; cases hfl
        · obtain ⟨n, e1, hn, a, b⟩ := failsGo_spec (m := mb) (cs := M) (i := 0) rfl q2
          obtain ⟨gr, gb⟩ := hgood _ (List.getElem_mem hi)
          rw [holdsF_good gr gb hB8]
          refine ⟨fun q3 => a i (by omega), fun q3 => ?_⟩
          have : i = n := by omega
          subst this; exact b
      rw [addr_add, ld_sl (i := 0 + 1) (st.fblk 3 rfl) rfl]
      refine lfp_invh (I := fun μ σ h' => ∃ i : Nat, σ = ((i : Int), ()) ∧ i ≤ M.length ∧ Hs [([], h)] [llu cs s, cl b0 ty_uint8 [.int .u8 (stop : Int)], llo M r2, cF b3 8 r2, osg (fun c p => ob c p) ty_sl_bool A r5, cl b6 ty_sl_sl_bool [.slice r5.a r5.len r5.cap], cF bm 8 sm, lli M sm]
        [cl b1 ty_bool [.bool false], cl b40 ty_int [.int .i64 ((min stop A.length : Nat) : Int)], ob mb s43, cl b44 ty_sl_bool [.slice s43.a s43.len s43.cap]] h' ∧ μ = M.length - i) ⟨_, 0, rfl, by omega, st, rfl⟩ ?_
      clear st
      rintro μ σ h26 X69 ⟨i, rfl, hi, st, em⟩ hX
      simp only
      by_cases hlt : i < M.length
      · rw [decide_eq_true (show (i : Int) < (r2.len : Int) by omega), brB_true, inc_i (show i < 4611686018427387904 by omega)]
        refine rdG (llo_at (st.fz 2 rfl)) hlt fun x72 hp => ?_
        obtain ⟨gr, gb⟩ := hgood _ (List.getElem_mem hlt)
        have hpx : ∀ h', Ext [] h26 h' → At h' (li M[i] x72) := fun h' x => hp.ext x
        have fin : ∀ h', Ext [] h26 h' → (ldT .sl (⟨b44, 0, none⟩ : Addr) fun x79 =>
 ldT .sl (⟨b44, 0, none⟩ : Addr) fun x80 =>
 callT Tryz.prog fn_formula_Holds #[(.slice x72.a x72.len x72.cap), (.slice x79.a x79.len x79.cap)] .bool fun r81 =>
 ck (⟨b44, 0, none⟩ : Addr) (.slice x80.a x80.len x80.cap) <|
 callT Tryz.prog fn_formula_Lits #[(.slice x80.a x80.len x80.cap)] .sl fun r82 =>
 callT Tryz.prog fn_clauses_Holds #[(.slice x72.a x72.len x72.cap), (.slice r82.a r82.len r82.cap)] .bool fun r83 =>
 brB (!(r81 == r83))
 (st1 (⟨b1, 0, none⟩ : Addr) (.bool false) <|
 mkd h.size <|
 ldT .bool (⟨b1, 0, none⟩ : Addr) fun x84 =>
 K x84)
 (X69 (((i + 1 : Nat) : Int), ()))) h' := by
          intro h' x
          have hp := hp.ext x
          have st := st.ext x
          rw [st.lds 3 0 rfl rfl, st.lds 3 0 rfl rfl]
          refine call_of (fholds_c hp (st.own 2 rfl).rsl) ?_
          rintro _ h27 ⟨rfl, x27⟩
          have st := st.ext x27
          rw [st.ck 3 0 rfl rfl]
          refine call_of (Lits_c (st.own 2 rfl).rsl (by omega)) ?_
          rintro r82 h28 ⟨n28, x28⟩
          have st := st.ext x28
          refine call_of (holds_c ((hp.ext x27).ext x28) n28.at.rsl (by rw [litsGo_len]; omega)) ?_
          rintro r83 h29 ⟨er, x29⟩
          have er : r83 = holdsF M[i] mb := er.trans (holds_lits gr gb hB8).symm
          subst er
          rw [show (!(holdsF M[i] mb == holdsF M[i] mb)) = false by simp, brB_false]
          exact hX _ _ _ ⟨i + 1, rfl, by omega, st.ext x29, rfl⟩ (by omega)
        have l2 : ∀ h', Ext [] h26 h' → (brB FL
 (brB ((i : Int) == AT)
 (ldT .sl (⟨b44, 0, none⟩ : Addr) fun x76 =>
 callT Tryz.prog fn_formula_Holds #[(.slice x72.a x72.len x72.cap), (.slice x76.a x76.len x76.cap)] .bool fun r77 =>
 brB r77
 (st1 (⟨b1, 0, none⟩ : Addr) (.bool false) <|
 mkd h.size <|
 ldT .bool (⟨b1, 0, none⟩ : Addr) fun x78 =>
 K x78)
 (ldT .sl (⟨b44, 0, none⟩ : Addr) fun x79 =>
 ldT .sl (⟨b44, 0, none⟩ : Addr) fun x80 =>
 callT Tryz.prog fn_formula_Holds #[(.slice x72.a x72.len x72.cap), (.slice x79.a x79.len x79.cap)] .bool fun r81 =>
 ck (⟨b44, 0, none⟩ : Addr) (.slice x80.a x80.len x80.cap) <|
 callT Tryz.prog fn_formula_Lits #[(.slice x80.a x80.len x80.cap)] .sl fun r82 =>
 callT Tryz.prog fn_clauses_Holds #[(.slice x72.a x72.len x72.cap), (.slice r82.a r82.len r82.cap)] .bool fun r83 =>
 brB (!(r81 == r83))
 (st1 (⟨b1, 0, none⟩ : Addr) (.bool false) <|
 mkd h.size <|
 ldT .bool (⟨b1, 0, none⟩ : Addr) fun x84 =>
 K x84)
 (X69 (((i + 1 : Nat) : Int), ()))))
 (ldT .sl (⟨b44, 0, none⟩ : Addr) fun x85 =>
 ldT .sl (⟨b44, 0, none⟩ : Addr) fun x86 =>
 callT Tryz.prog fn_formula_Holds #[(.slice x72.a x72.len x72.cap), (.slice x85.a x85.len x85.cap)] .bool fun r87 =>
 ck (⟨b44, 0, none⟩ : Addr) (.slice x86.a x86.len x86.cap) <|
 callT Tryz.prog fn_formula_Lits #[(.slice x86.a x86.len x86.cap)] .sl fun r88 =>
 callT Tryz.prog fn_clauses_Holds #[(.slice x72.a x72.len x72.cap), (.slice r88.a r88.len r88.cap)] .bool fun r89 =>
 brB (!(r87 == r89))
 (st1 (⟨b1, 0, none⟩ : Addr) (.bool false) <|
 mkd h.size <|
 ldT .bool (⟨b1, 0, none⟩ : Addr) fun x90 =>
 K x90)
 (X69 (((i + 1 : Nat) : Int), ()))))
 (ldT .sl (⟨b44, 0, none⟩ : Addr) fun x91 =>
 ldT .sl (⟨b44, 0, none⟩ : Addr) fun x92 =>
 callT Tryz.prog fn_formula_Holds #[(.slice x72.a x72.len x72.cap), (.slice x91.a x91.len x91.cap)] .bool fun r93 =>
 ck (⟨b44, 0, none⟩ : Addr) (.slice x92.a x92.len x92.cap) <|
 callT Tryz.prog fn_formula_Lits #[(.slice x92.a x92.len x92.cap)] .sl fun r94 =>
 callT Tryz.prog fn_clauses_Holds #[(.slice x72.a x72.len x72.cap), (.slice r94.a r94.len r94.cap)] .bool fun r95 =>
 brB (!(r93 == r95))
 (st1 (⟨b1, 0, none⟩ : Addr) (.bool false) <|
 mkd h.size <|
 ldT .bool (⟨b1, 0, none⟩ : Addr) fun x96 =>
 K x96)
 (X69 (((i + 1 : Nat) : Int), ())))) h' := by
          intro h' x
          cases hfl : FL with
          | false => rw [brB_false]; exact fin _ x
          | true =>
            rw [brB_true]
            by_cases q : (i : Int) = AT
            · rw [show ((i : Int) == AT) = true by simp [q], brB_true]
              have st := st.ext x
              rw [st.lds 3 0 rfl rfl]
              refine call_of (fholds_c (hp.ext x) (st.own 2 rfl).rsl) ?_
              rintro r h27 ⟨er, x27⟩
              have er : r = false := er.trans (((hF1 hfl) i hlt).2 q)
              subst er
              rw [brB_false]
              exact fin _ (x.nil_trans x27)
            · rw [show ((i : Int) == AT) = false by simp [q], brB_false]
              exact fin _ x
        cases hfl : FL with
        | false => rw [brB_false]; rw [hfl] at l2; exact l2 _ (Ext.refl' _ _)
        | true =>
          rw [hfl] at l2
          rw [brB_true]
          by_cases q : (i : Int) < AT
          · rw [decide_eq_true q, brB_true, st.lds 3 0 rfl rfl]
            refine call_of (fholds_c hp (st.own 2 rfl).rsl) ?_
            rintro r h27 ⟨er, x27⟩
            have er : r = true := er.trans (((hF1 hfl) i hlt).1 q)
            subst er
            rw [Bool.not_true, brB_false]
            exact l2 _ x27
          · rw [decide_eq_false q, brB_false]
            exact l2 _ (Ext.refl' _ _)
      rw [decide_eq_false (show ¬ (i : Int) < (r2.len : Int) by omega), brB_false]
      refine call_of fawake_c ?_
      rintro _ h27 ⟨rfl, x27⟩
      exact done rfl (st.ext x27)
    rcases hFL with ⟨rfl, rfl, hneg⟩ | ⟨rfl, rfl, hpos⟩
    · rw [brB_false]
      exact loop _ st
    · rw [brB_true]
      obtain ⟨n, e1, hn, _, _⟩ := failsGo_spec (m := mb) (cs := M) (i := 0) rfl hpos
      rw [addr_add, ld_sl (i := 0 + 1) (st.fblk 3 rfl) rfl]
      simp only
      rw [decide_eq_false (show ¬ failsGo mb 0 M ≥ (r2.len : Int) by omega), brB_false]
      exact loop _ st
  show (brB false _ _) _
  rw [brB_false]
  have fin := fun {B : Asn} {h' : Heap} (st : Hs [([], h)] ([llu cs s, cl b0 ty_uint8 [.int .u8 (stop : Int)], llo M r2, cF b3 8 r2, osg (fun c p => ob c p) ty_sl_bool A r5, cl b6 ty_sl_sl_bool [.slice r5.a r5.len r5.cap]] ++ [B]) [cl b1 ty_bool [.bool false]] h') => main _ (Hs.gsub (fun C hC => List.mem_append_left _ hC) st)
  have hm8 : ∀ m r, A = m :: r → m.length = 8 := fun m r e => (hrow m (by rw [e]; simp)).1
  clear main hmemA hsort hrow hAe hmod
  cases A with
  | nil =>
    rw [ef] at st ⊢
    show (brB false _ _) _
    rw [brB_false, ld_sl (i := 0) (st.fblk 5 rfl) rfl]
    rw [show ((((([] : List (List Bool)).length : Int)), (0 : Int)).1 != (r5.len : Int)) = false by rw [lA]; rfl, brB_false]
    show (brB false _ (brB false _ _)) _
    rw [brB_false, brB_false]
    exact fin st
  | cons m r =>
    rw [ef] at st ⊢
    show (brB false _ _) _
    rw [brB_false, ld_sl (i := 0) (st.fblk 5 rfl) rfl]
    simp only
    rw [show ((((m :: r).length : Int)) != (r5.len : Int)) = false by rw [lA]; simp, brB_false]
    rw [show (!(true == decide ((((m :: r).length : Int)) > 0))) = false by simp, brB_false, brB_true, ld_sl (i := 0) (st.fblk 5 rfl) rfl]
    refine rdG (lob_llb (st.fz 4 rfl)) (show 0 < (m :: r).length by simp) fun q hq => ?_
    have e0 : (m :: r)[0]'(by simp) = m := rfl
    rw [e0] at hq
    refine call_of (equal_bools (st.fz 6 rfl).rsl hq (by show m.length ≤ 1099511627776; rw [hm8 m r rfl]; decide)) ?_
    rintro r' hqq ⟨er, rfl⟩
    have er : r' = true := er.trans (by simp)
    subst er
    rw [Bool.not_true, brB_false]
    exact fin st

end Go.Proofs.S
