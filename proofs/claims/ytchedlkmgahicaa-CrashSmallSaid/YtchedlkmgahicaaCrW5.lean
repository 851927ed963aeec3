/-
  CrashTells, walked.
-/
import Derived.Test.YtchedlkmgahicaaCrH3
import Derived.Test.YtchedlkmgahicaaSxRw
set_option linter.unusedVariables false
set_option linter.unusedSimpArgs false
namespace Go.Proofs.S
open Go Go.Sx Go.Proofs Go.Cr

variable {h : Heap} {l a b : List Ent} {k k2 : List Bool} {m m2 : List Int} {s s2 s3 : Sl} {fr : Fr} {G As : List Asn}

theorem applyP_W32 : ∀ {l : List Ent} {m : List Int} {k : List Bool}, W32 m → WE l → W32 (applyP m l k)
  | [], m, k, hm, hl => by cases k <;> exact hm
  | x :: l, m, [], hm, hl => hm
  | x :: l, m, b :: k, hm, hl => by
    have hl2 : WE l := fun y hy => hl y (List.mem_cons_of_mem _ hy)
    cases b with
    | false => exact applyP_W32 (k := k) hm hl2
    | true =>
      refine applyP_W32 (k := k) (fun w hw => ?_) hl2
      rcases List.mem_or_eq_of_mem_set hw with q | rfl
      · exact hm w q
      · exact hl x (by simp)
theorem applyC_W32 (hm : W32 m) (hl : WE l) : W32 (applyC m l k).1 := by
  unfold applyC
  split
  · split
    · exact applyP_W32 hm hl
    · exact fun w hw => by cases hw
  · exact fun w hw => by cases hw
theorem applyC_len : (applyC m l k).1.length ≤ m.length := by
  unfold applyC
  split
  · split
    · simp [applyP_len]
    · simp
  · simp
theorem validP_2 : (validP l k).2 = checkC l k := by
  unfold validP
  split
  · rename_i q; simp [q]
  · rfl
theorem dropL_le : (dropL l k).length ≤ l.length := filterMap_range_le _ _
theorem dropL_row {x : List Bool} (hx : x ∈ dropL l k) : x.length = k.length := by
  unfold dropL at hx
  obtain ⟨i, _, e⟩ := List.mem_filterMap.1 hx
  split at e
  · cases e; simp
  · cases e

theorem tells_c {c : List Int} {s0 s1 : Sl} (hA0 : At h (lw c s0)) (hw0 : W32 c) (hA1 : At h (le l s1)) (hw1 : WE l) (hA2 : At h (lb k s2)) :
    callT Try.prog fn_salvorlaw35_tells #[.slice s0.a s0.len s0.cap, .slice s1.a s1.len s1.cap, .slice s2.a s2.len s2.cap] .bool (fun r h' => r = true ∧ Ext [] h h') h := by
  refine callT_gen fun K hK => S_salvorlaw35_tells (a0 := s0) (a1 := s1) (a2 := s2) K ?_
  unfold F_salvorlaw35_tells
  have l0 := rsl_len hA0
  have l1 := rsn_len hA1
  have l2 := rsl_len hA2
  by_cases q1 : (s1.len : Int) > 100
  · rw [decide_eq_true q1, brB_true]; exact hK _ _ ⟨rfl, Ext.refl' _ _⟩
  rw [decide_eq_false q1, brB_false]
  by_cases q2 : (s2.len : Int) > 100
  · rw [decide_eq_true q2, brB_true]; exact hK _ _ ⟨rfl, Ext.refl' _ _⟩
  rw [decide_eq_false q2, brB_false]
  by_cases q3 : (s0.len : Int) > 20
  · rw [decide_eq_true q3, brB_true]; exact hK _ _ ⟨rfl, Ext.refl' _ _⟩
  rw [decide_eq_false q3, brB_false]
  have hl : l.length ≤ 1099511627776 := by omega
  have hkl : k.length ≤ 1099511627776 := by omega
  have hcl : c.length ≤ 1099511627776 := by omega
  have st := (Hs.start h [lw c s0, le l s1, lb k s2] (by simp [hA0, hA1, hA2])).nil ty_bitword_Word u32.enc none
  refine lfp_invh (I := fun μ σ h' => ∃ (i : Nat) (s' : Sl), σ = ((i : Int), s', ()) ∧ i ≤ c.length ∧ Hs [([], h)] [lw c s0, le l s1, lb k s2] [ow (c.take i) s'] h' ∧ μ = c.length - i) ⟨_, 0, ⟨none, 0, 0⟩, rfl, by omega, st, rfl⟩ ?_
  clear st
  rintro μ σ h2 X ⟨i, sF, rfl, hi, st, em⟩ hX
  simp only
  by_cases hlt : i < c.length
  · rw [decide_eq_true (show (i : Int) < (s0.len : Int) by omega), brB_true, inc_i (show i < 4611686018427387904 by omega)]
    refine rdE (τ := u32) (st.fz 0 rfl) hlt ?_
    refine st.nw fun b4 h4 st => ?_
    simp only [List.cons_append, List.nil_append] at st
    refine Hs.apd (enc := u32.enc) (v := c[i]) st 0 1 rfl rfl (by decide) rfl (by simp; omega) (by decide) rfl fun s5 h5 st => ?_
    refine hX _ _ _ ⟨i + 1, s5, rfl, by omega, ?_, rfl⟩ (by omega)
    rw [take_succ_getE hlt]
    exact st.drop 1 rfl
  rw [decide_eq_false (show ¬ (i : Int) < (s0.len : Int) by omega), brB_false]
  rw [List.take_of_length_le (by omega)] at st
  clear hX X em hi hlt
  have st := st.freeze 0 rfl
  simp only [List.nil_append, List.cons_append, List.eraseIdx_cons_zero] at st
  refine call_of (nums_c (st.fz 3 rfl).rsl hcl hw0) ?_
  rintro r6 h3 ⟨n3, x3⟩
  have st := (st.new x3 n3).freeze 0 rfl
  simp only [List.nil_append, List.cons_append, List.eraseIdx_cons_zero] at st
  refine call_of (theirs_c (st.fz 1 rfl) hl hw1) ?_
  rintro r7 h4 ⟨n4, x4⟩
  have st := (st.new x4 n4).freeze 0 rfl
  simp only [List.nil_append, List.cons_append, List.eraseIdx_cons_zero] at st
  refine Hs.clone_bool st (st.fz 2 rfl) hkl fun r8 h5 st => ?_
  have st := st.freeze 0 rfl
  simp only [List.nil_append, List.cons_append, List.eraseIdx_cons_zero] at st
  refine call_of (rCheck_c ((st.fz 5 rfl).rsn wideR) (st.fz 6 rfl).rsl hl) ?_
  rintro r9 hq ⟨er, rfl⟩
  have er : r9 = checkC l k := er
  subst er
  refine call_of (Valid_c (st.fz 1 rfl) (st.fz 2 rfl) hl) ?_
  rintro r10 h7 ⟨rfl, x7⟩
  have st := st.ext x7
  refine call_of (pairs_c (st.fz 1 rfl) (st.fz 2 rfl) hl) ?_
  rintro r11 h8 ⟨rfl, x8⟩
  have st := st.ext x8
  refine call_of (Apply_c (m := c) (st.fz 1 rfl) (st.fz 2 rfl) (st.fz 3 rfl).rsl hl hcl) ?_
  rintro r h9 ⟨r12, rfl, n9, x9⟩
  have st := st.new x9 n9
  refine call_of (drop_c (st.fz 1 rfl) (st.fz 2 rfl) hl) ?_
  rintro r h10 ⟨r13, rfl, n10, x10⟩
  have st := st.new x10 n10
  refine call_of (rApply_c (m := c) ((st.fz 5 rfl).rsn wideR) (st.fz 6 rfl).rsl (st.fz 4 rfl).rsl hl hcl) ?_
  rintro r h11 ⟨r14, rfl, n11, x11⟩
  have st := st.new x11 n11
  simp only [List.nil_append, List.cons_append] at st
  refine call_of (right_c (st.fz 1 rfl) hl) ?_
  rintro _ h12 ⟨rfl, x12⟩
  have st := st.ext x12
  refine call_of (rRight_c ((st.fz 5 rfl).rsn wideR) hl) ?_
  rintro _ hq ⟨rfl, rfl⟩
  rw [show (!(rightL l == rightL l)) = false by simp, brB_false]
  simp only [validP_2]
  rw [show (checkC l k != checkC l k) = false by simp, brB_false, brB_false, show ((applyC c l k).2 != (applyC c l k).2) = false by simp, brB_false]
  have lA := applyC_len (m := c) (l := l) (k := k)
  have wA := applyC_W32 (k := k) hw0 hw1
  generalize (applyC c l k).1 = A at *
  refine call_of (words_c (st.own 0 rfl).rsl (st.own 2 rfl).rsl (by omega) wA) ?_
  rintro r h13 ⟨er, x13⟩
  have er : r = true := er.trans (by simp)
  subst er
  have st := st.ext x13
  rw [Bool.not_true, brB_false]
  have l12 := osl_len (st.own 0 rfl)
  refine lfp_invh (I := fun μ σ h' => ∃ (i : Nat) (ys : List Int), σ = ((i : Int), ()) ∧ i ≤ A.length ∧ ys.length = A.length ∧ Hs [([], h)] [lw c s0, le l s1, lb k s2, ow c sF, oi c r6, orr l r7, ob k r8] [ow ys r12, osg (fun c p => ob c p) ty_sl_bool (dropP l k).1 r13, oi A r14] h' ∧ μ = A.length - i)
    ⟨_, 0, A, rfl, by omega, rfl, st, rfl⟩ ?_
  clear st
  rintro μ σ h14 X ⟨i, ys, rfl, hi, hys, st, em⟩ hX
  simp only
  by_cases hlt : i < A.length
  · rw [decide_eq_true (show (i : Int) < (r12.len : Int) by omega), brB_true, inc_i (show i < 4611686018427387904 by omega)]
    refine st.wrE (τ := u32) 0 rfl (show i < ys.length by omega) 99 fun h15 st => ?_
    exact hX _ _ _ ⟨i + 1, _, rfl, by omega, by simpa using hys, st, rfl⟩ (by omega)
  rw [decide_eq_false (show ¬ (i : Int) < (r12.len : Int) by omega), brB_false]
  clear hX X em hi hlt
  have st := (st.drop 2 rfl).drop 0 rfl
  simp only [List.eraseIdx_cons_succ, List.eraseIdx_cons_zero] at st
  refine call_of (words_c (st.fz 3 rfl).rsl (st.fz 4 rfl).rsl hcl hw0) ?_
  rintro r h16 ⟨er, x16⟩
  have er : r = true := er.trans (by simp)
  subst er
  have st := st.ext x16
  rw [Bool.not_true, brB_false]
  refine call_of (equal_bool (st.fz 2 rfl) (st.fz 6 rfl).rsl hkl) ?_
  rintro r hq ⟨er, rfl⟩
  have er : r = true := er.trans (by simp)
  subst er
  rw [Bool.not_true, brB_false]
  refine call_of (theirs_c (st.fz 1 rfl) hl hw1) ?_
  rintro r23 h17 ⟨n17, x17⟩
  have st := st.ext x17
  refine call_of (equal_ents (n17.at.rsn wideR) ((st.fz 5 rfl).rsn wideR) hl) ?_
  rintro r hq ⟨er, rfl⟩
  have er : r = true := er rfl
  subst er
  rw [Bool.not_true, brB_false]
  have l13 := rsg_len (st.own 0 rfl).rsg
  by_cases h0 : checkC l k = 0
  · rw [show (checkC l k != 0) = false by simp [h0], brB_false]
    obtain ⟨hr, hk⟩ := check_right h0
    have hm := right_mono hr
    refine call_of (rValid_c ((st.fz 5 rfl).rsn wideR) (st.fz 6 rfl).rsl hl hk hm) ?_
    rintro _ hq ⟨rfl, rfl⟩
    have ev : (validP l k).1 = vld l k := by unfold validP; rw [if_pos h0]
    rw [ev, show (!(vld l k == vld l k)) = false by simp, brB_false, brB_false]
    cases hv : vld l k with
    | false =>
      rw [Bool.not_false, brB_true]
      have ed : dropP l k = ([], 2) := by unfold dropP; rw [if_pos h0, hv]; rfl
      rw [ed] at l13
      rw [show ((r13.len : Int) == 0) = true by rw [l13]; rfl, brB_true, ed]
      exact hK _ _ ⟨rfl, st.frame (by simp)⟩
    | true =>
      rw [Bool.not_true, brB_false]
      have ed : dropP l k = (dropL l k, 0) := by unfold dropP; rw [if_pos h0, hv]; rfl
      rw [ed] at st l13 ⊢
      rw [show ((0 : Int) != 0) = false from rfl, brB_false]
      refine call_of (rDrop_c ((st.fz 5 rfl).rsn wideR) (st.fz 6 rfl).rsl hl hk hm) ?_
      rintro r26 h18 ⟨n18, x18⟩
      have st := st.ext x18
      have dl := dropL_le (l := l) (k := k)
      refine call_of (lists_c (us := dropL l k) (vs := dropL l k) (rsgA_mono (fun _ _ _ _ q => osl_rsl q) (st.own 0 rfl).rsg) (rsgA_mono (fun _ _ _ _ q => osl_rsl q) n18.at.rsg) (by omega) fun x hx => by rw [dropL_row hx]; omega) ?_
      rintro r h19 ⟨er, x19⟩
      have er : r = true := er.trans (by simp)
      subst er
      have st := st.ext x19
      rw [Bool.not_true, brB_false]
      obtain ⟨ps, hps, st⟩ := st.openLn (τ := .bool) (t := ty_bool) (xs := dropL l k) (s := r13) (t2 := ty_sl_bool) 0 rfl
      simp only [List.set_cons_zero, List.nil_append, List.cons_append] at st
      have hns : ∀ n ∈ (dropL l k).map List.length, n = k.length := fun n hn => by
        obtain ⟨x, hx, e⟩ := List.mem_map.1 hn
        rw [← e, dropL_row hx]
      have hnl : ((dropL l k).map List.length).length = (dropL l k).length := by simp
      have hnl2 : r13.len = (dropL l k).length := l13
      generalize (dropL l k).map List.length = ns at *
      refine lfp_invh (I := fun μ σ h' => ∃ i : Nat, σ = ((i : Int), ()) ∧ i ≤ ns.length ∧ Hs [([], h)] [lw c s0, le l s1, lb k s2, ow c sF, oi c r6, orr l r7, ob k r8] [osl ty_sl_bool Ty.sl.enc ps r13, inn (lnA ty_bool .bool) ns ps] h' ∧ μ = ns.length - i)
        ⟨_, 0, rfl, by omega, st, rfl⟩ ?_
      clear st
      rintro μ σ h20 X ⟨i, rfl, hi, st, em⟩ hX
      simp only
      by_cases hlt : i < ns.length
      · rw [decide_eq_true (show (i : Int) < (r13.len : Int) by omega), brB_true, inc_i (show i < 4611686018427387904 by omega)]
        refine rdE (τ := .sl) (st.own 0 rfl).rsl (show i < ps.length by omega) ?_
        have hn := hns _ (List.getElem_mem hlt)
        have lp : (ps[i]'(by omega)).len = ns[i] := by
          obtain ⟨S, xs, e, q⟩ := (Inner.at (st.own 1 rfl)).2 i hlt (by omega)
          rw [← e]; exact osl_len ⟨S, q⟩
        refine lfp_invh (I := fun μ σ h' => ∃ j : Nat, σ = ((j : Int), ()) ∧ j ≤ ns[i] ∧ Hs [([], h)] [lw c s0, le l s1, lb k s2, ow c sF, oi c r6, orr l r7, ob k r8] [osl ty_sl_bool Ty.sl.enc ps r13, inn (lnA ty_bool .bool) ns ps] h' ∧ μ = ns[i] - j)
          ⟨_, 0, rfl, by omega, st, rfl⟩ ?_
        clear st
        rintro μ2 σ h21 X2 ⟨j, rfl, hj, st, em2⟩ hX2
        simp only
        by_cases hlt2 : j < ns[i]
        · rw [decide_eq_true (show (j : Int) < ((ps[i]'(by omega)).len : Int) by omega), brB_true, inc_i (show j < 4611686018427387904 by omega)]
          refine st.wrLn 1 rfl hlt (by omega) hlt2 true fun h22 st => ?_
          exact hX2 _ _ _ ⟨j + 1, rfl, by omega, st, rfl⟩ (by omega)
        · rw [decide_eq_false (show ¬ (j : Int) < ((ps[i]'(by omega)).len : Int) by omega), brB_false]
          exact hX _ _ _ ⟨i + 1, rfl, by omega, st, rfl⟩ (by omega)
      rw [decide_eq_false (show ¬ (i : Int) < (r13.len : Int) by omega), brB_false]
      refine call_of (equal_bool (st.fz 2 rfl) (st.fz 6 rfl).rsl hkl) ?_
      rintro r hq ⟨er, rfl⟩
      have er : r = true := er.trans (by simp)
      exact hK _ _ ⟨er, st.frame (by simp)⟩
  · rw [show (checkC l k != 0) = true by simp [h0], brB_true]
    have ev : (validP l k).1 = false := by unfold validP; rw [if_neg h0]
    have ed : dropP l k = ([], checkC l k) := by unfold dropP; rw [if_neg h0]
    rw [ed] at l13
    rw [ev, Bool.not_false, brB_true, brB_true, show ((r13.len : Int) == 0) = true by rw [l13]; rfl, brB_true, ed]
    exact hK _ _ ⟨by simp, st.frame (by simp)⟩

theorem crashTells_F {c : List Int} {s0 s1 : Sl} (hA0 : At h (lw c s0)) (hw0 : W32 c) (hA1 : At h (le l s1)) (hw1 : WE l) (hA2 : At h (lb k s2))
    (K : Bool → HP) (hK : ∀ x h', (x = true ∧ Ext [] h h') → K x h') : F_salvorlaw35_CrashTells s0 s1 s2 K h := by
  unfold F_salvorlaw35_CrashTells
  refine call_of (tells_c hA0 hw0 hA1 hw1 hA2) ?_
  rintro _ h1 ⟨rfl, x1⟩
  rw [brB_true]
  refine call_of awake_c ?_
  rintro _ h2 ⟨rfl, x2⟩
  exact hK _ _ ⟨rfl, x1.nil_trans x2⟩

end Go.Proofs.S
