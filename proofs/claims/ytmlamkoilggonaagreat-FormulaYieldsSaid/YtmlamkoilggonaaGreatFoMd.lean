/-
  FormulaModels, walked.
-/
import Derived.Test.YtmlamkoilggonaaGreatFoQ
set_option linter.unusedVariables false
set_option linter.unusedSimpArgs false
namespace Go.Proofs.S
open Go Go.Sx Go.Proofs Go.Cl

variable {h : Heap} {c d : List Int} {s s2 : Sl} {fr : Fr} {G As : List Asn} {m : List Bool} {sm : Sl} {k k2 : List Bool}

theorem litsGo_get' : ∀ {m : List Bool} {i j : Nat} (hj : j < m.length), (litsGo i m)[j]'(by rw [litsGo_len]; exact hj) = (if m[j] then ((i + j : Nat) : Int) + 1 else -(((i + j : Nat) : Int) + 1))
  | b :: m, i, 0, hj => rfl
  | b :: m, i, j + 1, hj => by
    have := litsGo_get' (m := m) (i := i + 1) (j := j) (by simpa using hj)
    simp only [litsGo, List.getElem_cons_succ]
    rw [this, show i + 1 + j = i + (j + 1) by omega]

theorem modelGo_len (n : Int) : ∀ (l : List Int) (out set : List Bool), (modelGo n out set l).1.length ≤ out.length
  | [], out, set => Nat.le_refl _
  | x :: l, out, set => by
    rw [modelGo_cons]
    split
    · simp
    · split
      · simp
      · have := modelGo_len n l (out.set (varL x - 1).toNat (!decide (x < 0))) (set.set (varL x - 1).toNat true)
        simpa using this
theorem modelF_len (n : Int) (l : List Int) : (modelF n l).1.length ≤ 1048576 := by
  unfold modelF
  split
  · rename_i hv
    have := modelGo_len n l (List.replicate n.toNat false) (List.replicate n.toNat false)
    unfold varsP at hv
    simp only [Bool.and_eq_true, decide_eq_true_eq] at hv
    rw [List.length_replicate] at this
    omega
  · simp
/-- What is compared. -/
theorem models_body {s0 s1 s3 : Sl} {l : List Int} {n : Int} {K : Bool → HP} (hA : At h (li c s0)) (hB : At h (lb m s1)) (hC : At h (li l s3)) (hc : c.length ≤ 100) (hm : m.length ≤ 300) (hl : l.length ≤ 100) (hK : ∀ x h', (x = true ∧ Ext [] h h') → K x h') :
    (callT Tryz.prog fn_salvorlaw05_Bits #[(.slice s1.a s1.len s1.cap)] .sl fun r23 =>
      lfp (σ := (Int × (Sl × Unit))) (fun X24 s25 =>
        brB (decide (s25.1 < (r23.len : Int)))
        (sx r23.a r23.len s25.1 1 fun p26 => ldT (.int .i64) p26 fun x27 =>
          nw #[(.int .i64 (IntKind.wrap .i64 ((IntKind.wrap .i64 (s25.1 + (1 : Int))) * (IntKind.wrap .i64 ((IntKind.wrap .i64 ((2 : Int) * x27)) - (1 : Int))))))] ty_int fun b28 =>
          Sx.apd ty_int 1 8 #[(.int .i64 (0 : Int))] ⟨s25.2.1.a, s25.2.1.len, s25.2.1.cap⟩ ⟨(some (⟨b28, 0, none⟩ : Addr)), 1, 1⟩ fun s29 =>
          X24 ((IntKind.wrap .i64 (s25.1 + (1 : Int))), ⟨s29.a, s29.len, s29.cap⟩, ()))
        (callT Tryz.prog fn_salvorlaw02_Clause #[(.slice s3.a s3.len s3.cap)] .sl fun r30 =>
          callT Tryz.prog fn_formula_Model #[(.int .i64 n), (.slice r30.a r30.len r30.cap)] (.tup (.cons .sl (.cons (.int .i64) .nil))) fun r31 =>
          callT Tryz.prog fn_salvorref05_Model #[(.int .i64 n), (.slice s3.a s3.len s3.cap)] (.tup (.cons .sl (.cons (.int .i64) .nil))) fun r32 =>
          callT Tryz.prog fn_salvorlaw02_Clause #[(.slice s0.a s0.len s0.cap)] .sl fun r33 =>
          callT Tryz.prog fn_formula_Holds #[(.slice r33.a r33.len r33.cap), (.slice s1.a s1.len s1.cap)] .bool fun r34 =>
          callT Tryz.prog fn_salvorref05_Holds #[(.slice s0.a s0.len s0.cap), (.slice r23.a r23.len r23.cap)] .bool fun r35 =>
          brB (r34 == r35)
          (callT Tryz.prog fn_formula_Lits #[(.slice s1.a s1.len s1.cap)] .sl fun r36 =>
            callT Tryz.prog fn_salvorlaw02_Ints #[(.slice r36.a r36.len r36.cap)] .sl fun r37 =>
            callT Tryz.prog fn_slices_Equal_int_int #[(.slice r37.a r37.len r37.cap), (.slice s25.2.1.a s25.2.1.len s25.2.1.cap)] .bool fun r38 =>
            brB r38
            (callT Tryz.prog fn_salvorlaw05_Bits #[(.slice r31.1.a r31.1.len r31.1.cap)] .sl fun r39 =>
              callT Tryz.prog fn_slices_Equal_int_int #[(.slice r39.a r39.len r39.cap), (.slice r32.1.a r32.1.len r32.1.cap)] .bool fun r40 =>
              brB r40
              (brB (r31.2.1 == r32.2.1)
                (callT Tryz.prog fn_salvorlaw05_awake #[] .bool fun r41 => K r41)
                (K false))
              (K false))
            (K false))
          (K false)))
        ((0 : Int), ⟨none, 0, 0⟩, ())) h := by
  refine call_of (bits_c hB (by omega)) ?_
  rintro r23 h1 ⟨n1, x1⟩
  have st := ((Hs.start h [li c s0, lb m s1, li l s3] (by simp [hA, hB, hC])).new x1 n1).freeze 0 rfl
  simp only [List.nil_append, List.cons_append, List.eraseIdx_cons_zero] at st
  have lb_ := osl_len (st.fz 3 rfl)
  rw [List.length_map] at lb_
  have ll := litsGo_len 0 m
  have st := st.nil ty_int i64.enc none
  refine lfp_invh (I := fun μ σ h' => ∃ (i : Nat) (s' : Sl), σ = ((i : Int), s', ()) ∧ i ≤ m.length ∧ Hs [([], h)] [li c s0, lb m s1, li l s3, io (bitsL m) r23] [io ((litsGo 0 m).take i) s'] h' ∧ μ = m.length - i) ⟨_, 0, ⟨none, 0, 0⟩, rfl, by omega, st, rfl⟩ ?_
  clear st
  rintro μ σ h2 X ⟨i, s', rfl, hi, st, em⟩ hX
  simp only
  by_cases hlt : i < m.length
  · rw [decide_eq_true (show (i : Int) < (r23.len : Int) by omega), brB_true, inc_i (show i < 4611686018427387904 by omega)]
    refine rdE (τ := i64) (st.fz 3 rfl).rsl (show i < (bitsL m).length by rw [List.length_map]; exact hlt) ?_
    have eb : (bitsL m)[i]'(by rw [List.length_map]; exact hlt) = bitI m[i] := by rw [List.getElem_map]
    rw [eb]
    have hlg : i < (litsGo 0 m).length := by omega
    have eg := litsGo_get' (m := m) (i := 0) hlt
    rw [Nat.zero_add] at eg
    have ev : IntKind.wrap .i64 (((i + 1 : Nat) : Int) * (IntKind.wrap .i64 ((IntKind.wrap .i64 ((2 : Int) * bitI m[i])) - (1 : Int)))) = (litsGo 0 m)[i] := by
      rw [eg]
      unfold bitI
      cases m[i] with
      | true =>
        rw [if_pos rfl, if_pos rfl, show IntKind.wrap .i64 ((IntKind.wrap .i64 ((2 : Int) * 1)) - (1 : Int)) = 1 from rfl, wrap_i64 (by omega) (by omega)]; omega
      | false =>
        rw [if_neg (by decide), if_neg (by decide), show IntKind.wrap .i64 ((IntKind.wrap .i64 ((2 : Int) * 0)) - (1 : Int)) = -1 from rfl, wrap_i64 (by omega) (by omega)]; omega
    rw [ev]
    refine st.nw fun b4 h4 st => ?_
    simp only [List.cons_append, List.nil_append] at st
    refine Hs.apd (enc := i64.enc) (v := (litsGo 0 m)[i]) st 0 1 rfl rfl (by decide) rfl (by simp; omega) (by decide) rfl fun s5 h5 st => ?_
    refine hX _ _ _ ⟨i + 1, s5, rfl, by omega, ?_, rfl⟩ (by omega)
    rw [take_succ_getE hlg]
    exact st.drop 1 rfl
  rw [decide_eq_false (show ¬ (i : Int) < (r23.len : Int) by omega), brB_false]
  rw [List.take_of_length_le (by omega)] at st
  clear hX X em hlt hi
  have st := st.freeze 0 rfl
  simp only [List.nil_append, List.cons_append, List.eraseIdx_cons_zero] at st
  refine call_of (clause_c (st.fz 2 rfl) (by omega)) ?_
  rintro r30 h3 ⟨n3, x3⟩
  have st := (st.new x3 n3).freeze 0 rfl
  simp only [List.nil_append, List.cons_append, List.eraseIdx_cons_zero] at st
  refine call_of (fmodel_c (n := n) (st.fz 5 rfl).rsl (by omega)) ?_
  rintro _ h4 ⟨r31, rfl, n4, x4⟩
  have st := (st.new x4 n4).freeze 0 rfl
  simp only [List.nil_append, List.cons_append, List.eraseIdx_cons_zero] at st
  refine call_of (rmodel_c (n := n) (st.fz 2 rfl) (by omega)) ?_
  rintro _ h5 ⟨r32, rfl, n5, x5⟩
  have st := (st.new x5 n5).freeze 0 rfl
  simp only [List.nil_append, List.cons_append, List.eraseIdx_cons_zero] at st
  refine call_of (clause_c (st.fz 0 rfl) (by omega)) ?_
  rintro r33 h6 ⟨n6, x6⟩
  have st := (st.new x6 n6).freeze 0 rfl
  simp only [List.nil_append, List.cons_append, List.eraseIdx_cons_zero] at st
  refine call_of (fholds_c (st.fz 8 rfl).rsl (st.fz 1 rfl)) ?_
  rintro _ h7 ⟨rfl, x7⟩
  have st := st.ext x7
  refine call_of (rholds_c (m := m) (st.fz 0 rfl) (st.fz 3 rfl).rsl (by omega)) ?_
  rintro _ hq ⟨rfl, rfl⟩
  rw [show (holdsF c m == holdsF c m) = true by simp, brB_true]
  refine call_of (Lits_c (st.fz 1 rfl) (by omega)) ?_
  rintro r36 h8 ⟨n8, x8⟩
  have st := (st.new x8 n8).freeze 0 rfl
  simp only [List.nil_append, List.cons_append, List.eraseIdx_cons_zero] at st
  refine call_of (ints_c (st.fz 9 rfl).rsl (by omega)) ?_
  rintro r37 h9 ⟨n9, x9⟩
  have st := (st.new x9 n9).freeze 0 rfl
  simp only [List.nil_append, List.cons_append, List.eraseIdx_cons_zero] at st
  refine call_of (equal_int (st.fz 10 rfl).rsl (st.fz 4 rfl).rsl (by omega)) ?_
  rintro r hq ⟨er, rfl⟩
  have er : r = true := er.trans (by simp)
  subst er
  rw [brB_true]
  have hml := modelF_len n l
  refine call_of (bits_c (st.fz 6 rfl).rsl hml) ?_
  rintro r39 h10 ⟨n10, x10⟩
  have st := (st.new x10 n10).freeze 0 rfl
  simp only [List.nil_append, List.cons_append, List.eraseIdx_cons_zero] at st
  refine call_of (equal_int (st.fz 11 rfl).rsl (st.fz 7 rfl).rsl (by rw [List.length_map]; omega)) ?_
  rintro r hq ⟨er, rfl⟩
  have er : r = true := er.trans (by simp)
  subst er
  simp only
  rw [brB_true, show ((modelF n l).2 == (modelF n l).2) = true by simp, brB_true]
  refine call_of fawake_c ?_
  rintro _ h11 ⟨rfl, x11⟩
  exact hK _ _ ⟨rfl, (st.ext x11).frame (by simp)⟩

theorem formulaModels_F {s0 s1 s3 : Sl} {l : List Int} {n : Int} (hA : At h (li c s0)) (hB : At h (lb m s1)) (hC : At h (li l s3)) (K : Bool → HP) (hK : ∀ x h', (x = true ∧ Ext [] h h') → K x h') : F_salvorlaw05_FormulaModels s0 s1 n s3 K h := by
  unfold F_salvorlaw05_FormulaModels
  have l0 := rsl_len hA
  have l1 := rsl_len hB
  have l3 := rsl_len hC
  have aw : (callT Tryz.prog fn_salvorlaw05_awake #[] .bool fun r => K r) h := by
    refine call_of fawake_c ?_
    rintro _ h1 ⟨rfl, x1⟩
    exact hK _ _ ⟨rfl, x1⟩
  by_cases q0 : (s0.len : Int) > 100
  · rw [decide_eq_true q0, brB_true]; exact aw
  rw [decide_eq_false q0, brB_false]
  by_cases q1 : (s1.len : Int) > 300
  · rw [decide_eq_true q1, brB_true]; exact aw
  rw [decide_eq_false q1, brB_false]
  by_cases q3 : (s3.len : Int) > 100
  · rw [decide_eq_true q3, brB_true]; exact aw
  rw [decide_eq_false q3, brB_false]
  by_cases q4 : n > 1000
  · rw [decide_eq_true q4, brB_true]
    by_cases q5 : n ≤ 1048576
    · rw [decide_eq_true q5, brB_true]; exact aw
    · rw [decide_eq_false q5, brB_false]
      exact models_body hA hB hC (by omega) (by omega) (by omega) hK
  · rw [decide_eq_false q4, brB_false]
    exact models_body hA hB hC (by omega) (by omega) (by omega) hK

end Go.Proofs.S
