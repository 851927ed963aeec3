/-
  texts.
-/
import Derived.Test.YtjkgncibelojnaaGreatRcB
import Derived.Test.YtjkgncibelojnaaGreatRaX
set_option linter.unusedVariables false
set_option linter.unusedSimpArgs false
namespace Go.Proofs.S
open Go Go.Sx Go.Proofs Go.Cl Go.Rp Go.Rt

variable {h : Heap} {c d A ids : List Int} {l : List Ent} {gs : List Grp} {s s2 sc : Sl} {fr : Fr} {G As : List Asn} {id p : Int} {i : Nat}

theorem inn_ln {xs : List (List Int)} {ps : List Sl} (S : List Nat) (h : Heap) (p : (inn (fun c p => nio' c p) xs ps).P S h) : (inn (lnA ty_int i64) (xs.map List.length) ps).P S h := inner_ln (t := ty_int) (τ := i64) (xs := xs) p
set_option maxRecDepth 20000 in
set_option maxHeartbeats 2000000 in
theorem texts_c (hA : At h (li ids s)) (hG : At h (ent gs s2)) (hl : ids.length ≤ 1000) (hgl : gs.length ≤ 1000) (hgh : ∀ g ∈ gs, g.2.length ≤ 1000) :
    callT Tryz.prog fn_salvorlaw09_texts #[.slice s.a s.len s.cap, .slice s2.a s2.len s2.cap] .bool (fun r h' => r = true ∧ Ext [] h h') h := by
  refine callT_gen fun K hK => S_salvorlaw09_texts (a0 := s) (a1 := s2) K ?_
  unfold F_salvorlaw09_texts
  have hgh' : ∀ x ∈ gs, x.2.length ≤ 1099511627776 := fun x hx => by have := hgh x hx; omega
  have hgh6 : ∀ x ∈ gs, x.2.length ≤ 1000000 := fun x hx => by have := hgh x hx; omega
  have st := Hs.start h [li ids s, ent gs s2] (by simp [hA, hG])
  refine cloneI_c st (st.fz 0 rfl) (by omega) fun r0 h1 st => ?_
  simp only [List.nil_append] at st
  have st := st.froz 0 rfl
  simp only [List.nil_append, List.cons_append, List.eraseIdx_cons_zero] at st
  refine call_of (SplitO_c (st.fz 2 rfl) (by omega)) ?_
  rintro _ h2 ⟨s1, sg, ps, rfl, hids, n2, x2⟩
  have st := st.new x2 n2
  refine call_of (r9_Split_c (st.fz 0 rfl) (by omega)) ?_
  rintro _ h3 ⟨t1, t2, rfl, m1, m2, x3⟩
  have st := Hs.fzNew (Bs := [nio' (Rt.splitP ids).1 t1, ent (Rt.splitP ids).2.1 t2]) st x3 (by
    intro B hB
    simp only [List.mem_cons, List.not_mem_nil, or_false] at hB
    rcases hB with rfl | rfl
    · exact m1
    · exact m2)
  obtain ⟨q1, q2, q3⟩ := split_lens hl
  generalize Rt.splitP ids = R at *
  obtain ⟨out, g1, er⟩ := R
  simp only at hids st q1 q2 q3 ⊢
  have q3' : ∀ x ∈ g1, x.2.length ≤ 1099511627776 := fun x hx => by have := q3 x hx; omega
  have q36 : ∀ x ∈ g1, x.2.length ≤ 1000000 := fun x hx => by have := q3 x hx; omega
  have lps : ps.length = g1.length := by simpa using congrArg List.length hids
  have st := st.conv (SepTo.unpack [] _ [])
  simp only [List.nil_append, List.cons_append, List.append_nil] at st
  refine call_of (equal_int (st.own 2 rfl).rsl (st.fz 3 rfl).rsl (by omega)) ?_
  rintro _ h4 ⟨rfl, e⟩; subst e
  refine jn_in fun J hJ => brF (by simp) ?_
  have aE : At h4 (ent g1 sg) := (ent_new (n := 0) (gps := ps) (st.own 0 rfl).new0 (st.own 1 rfl).new0 hids).at
  refine call_of (step_c nil_li nil_li aE (by decide) (by decide) (by omega) q36) ?_
  rintro _ h5 ⟨u1, u2, u3, rfl, y1, y2, y3, x5⟩
  have st := st.ext x5
  refine call_of (sameStep_c (c2 := []) (ids2 := []) (sl2 := ⟨none, 0, 0⟩) (sh2 := ⟨none, 0, 0⟩) y1.at.rsl y2.at.rsl y3.at nil_li nil_li (st.fz 4 rfl) (by decide) (by decide) (by omega) q3') ?_
  rintro _ h6 ⟨rfl, x6⟩
  have st := st.ext x6
  refine hJ _ _ ?_
  clear J hJ
  refine jn_in fun J hJ => brF (by simp) ?_
  refine hJ _ _ (brF (by simp) ?_)
  clear J hJ
  have st := st.imp 1 rfl inn_ln
  simp only [List.set_cons_zero, List.set_cons_succ] at st
  have lsg : sg.len = ps.length := osn_len (st.own 0 rfl)
  refine lfp_invh (I := fun m σ h' => ∃ (i : Nat), σ = ((i : Int), ()) ∧ i ≤ ps.length ∧ Hs [([], h)] [li ids s, ent gs s2, li ids r0, nio' out t1, ent g1 t2] [osn ty_rat_Group 2 tPr.vals ps sg, inn (lnA ty_int i64) ((g1.map (·.2)).map List.length) (ps.map (·.2.1)), nio' out s1] h' ∧ m = ps.length - i)
    ⟨_, 0, rfl, by omega, st, rfl⟩ ?_
  clear st
  rintro m σ h7 X ⟨i, rfl, hi, st, rfl⟩ hX
  simp only
  by_cases hlt : i < ps.length
  · refine brT (by rw [lsg]; exact dlt_t hlt) ?_
    refine rdN (τ := tPr) ((st.own 0 rfl).rsn widePr) hlt ?_
    refine st.pr fun b12 h8 x8 st => ?_
    simp only [List.nil_append, List.cons_append, addr_add, Nat.zero_add] at st ⊢
    rw [st.lds 3 1 rfl rfl]
    have hil : i < ((g1.map (·.2)).map List.length).length := by simp; omega
    have hip : i < (ps.map (·.2.1)).length := by simpa using hlt
    have lenI : ps[i].2.1.len = ((g1.map (·.2)).map List.length)[i] := by
      obtain ⟨S, p⟩ := st.own 1 rfl
      obtain ⟨S', ⟨xs, e, q⟩, _⟩ := Inner.getS p i hil hip
      have := osl_len ⟨S', q⟩
      simp only [List.getElem_map] at this e ⊢
      rw [this, e]
    refine lfp_invh (I := fun m σ h' => ∃ (j : Nat), σ = ((j : Int), ()) ∧ j ≤ ps[i].2.1.len ∧ Hs [([], h)] [li ids s, ent gs s2, li ids r0, nio' out t1, ent g1 t2] [osn ty_rat_Group 2 tPr.vals ps sg, inn (lnA ty_int i64) ((g1.map (·.2)).map List.length) (ps.map (·.2.1)), nio' out s1, prC b12 ty_rat_Group ps[i].1 ps[i].2.1] h' ∧ m = ps[i].2.1.len - j)
      ⟨_, 0, rfl, by omega, st, rfl⟩ ?_
    clear st
    rintro m σ h9 Y ⟨j, rfl, hj, st, rfl⟩ hY
    simp only
    have big : ps[i].2.1.len ≤ 1000 := by
      rw [lenI]
      simp only [List.getElem_map]
      exact q3 _ (List.getElem_mem _)
    by_cases hjl : j < ps[i].2.1.len
    · refine brT (dlt_t hjl) ?_
      rw [st.lds 3 1 rfl rfl]
      have := Hs.wrLn (τ := i64) (K := Y (IntKind.wrap .i64 ((j : Int) + 1), ())) st 1 rfl hil hip (j := j) (by omega) (-9) fun h10 st => by
        rw [inc_i (by omega)]
        exact hY _ _ _ ⟨j + 1, rfl, by omega, st, rfl⟩ (by omega)
      simp only [List.getElem_map] at this
      exact this
    · refine brF (dlt_f hjl) ?_
      rw [inc_i (by omega)]
      exact hX _ _ _ ⟨i + 1, rfl, by omega, st.drop 3 rfl, rfl⟩ (by omega)
  refine brF (by rw [lsg]; exact dlt_f hlt) ?_
  clear hX
  have st := ((st.drop 2 rfl).drop 1 rfl).drop 0 rfl
  simp only [List.eraseIdx_cons_succ, List.eraseIdx_cons_zero] at st
  refine call_of (step_c nil_li nil_li (st.fz 1 rfl) (by decide) (by decide) (by omega) hgh6) ?_
  rintro _ h8 ⟨w1, w2, w3, rfl, z1, z2, z3, x8⟩
  have st := Hs.fzNew (Bs := [nio' [] w1, nio' [] w2, ent gs w3]) st x8 (by
    intro B hB
    simp only [List.mem_cons, List.not_mem_nil, or_false] at hB
    rcases hB with rfl | rfl | rfl
    · exact z1
    · exact z2
    · exact z3)
  simp only [List.nil_append, List.cons_append] at st
  refine st.nw fun b19 h9 st => ?_
  simp only [List.nil_append, addr_add, Nat.zero_add] at st ⊢
  refine st.st1 0 0 rfl (by simp) fun h10 st => ?_
  refine st.st1 0 1 rfl (by simp) fun h10 st => ?_
  refine st.st1 0 2 rfl (by simp) fun h10 st => ?_
  simp only [List.set_cons_zero, List.set_cons_succ] at st
  have hg10 : ∀ g ∈ gs, g.2.length ≤ 100000 := fun x hx => by have := hgh x hx; omega
  refine call_of (Join_c (st.fz 2 rfl) (st.fz 1 rfl) (by omega) (by omega) hg10) ?_
  rintro _ h11 ⟨s20, rfl, n20, x11⟩
  have st := st.new x11 n20
  simp only [List.nil_append, List.cons_append] at st
  rw [st.lds 0 2 rfl rfl]
  refine call_of (r9_Join_c (st.fz 0 rfl) (st.fz 7 rfl) (by omega) (by omega) hg10) ?_
  rintro _ h12 ⟨s22, rfl, n22, x12⟩
  have st := st.new x12 n22
  simp only [List.nil_append, List.cons_append] at st
  have jl : (joinP ids gs).1.length ≤ 1000 + 1000 * 100001 := by
    unfold joinP
    split
    · rename_i hok
      rw [← joinT_ok hok, joinT_len]
      have := joinN_len (ids := ids) (gs := gs) hg10
      have := Nat.mul_le_mul_right 100001 hgl
      omega
    · simp
  generalize joinP ids gs = R at *
  obtain ⟨jt, je⟩ := R
  simp only at st jl ⊢
  refine call_of (equal_int (st.own 1 rfl).rsl (st.own 2 rfl).rsl (by omega)) ?_
  rintro _ h13 ⟨rfl, e⟩; subst e
  refine jn_in fun J hJ => brF (by simp) (hJ _ _ (brF (by simp) ?_))
  clear J hJ
  have st := st.drop 2 rfl
  simp only [List.eraseIdx_cons_succ, List.eraseIdx_cons_zero] at st
  have l20 : s20.len = jt.length := osl_len (st.own 1 rfl)
  refine lfp_invh (I := fun m σ h' => ∃ (i : Nat) (g2 : List Int), σ = ((i : Int), ()) ∧ i ≤ jt.length ∧ g2.length = jt.length ∧ Hs [([], h)] [li ids s, ent gs s2, li ids r0, nio' out t1, ent g1 t2, nio' [] w1, nio' [] w2, ent gs w3] [cl b19 ty_salvorref09_Step [.slice w1.a w1.len w1.cap, .slice w2.a w2.len w2.cap, .slice w3.a w3.len w3.cap], nio' g2 s20] h' ∧ m = jt.length - i)
    ⟨_, 0, jt, rfl, by omega, rfl, st, rfl⟩ ?_
  clear st
  rintro m σ h14 Y ⟨i, g2, rfl, hi, hg2, st, rfl⟩ hY
  simp only
  by_cases hlt : i < jt.length
  · refine brT (by rw [l20]; exact dlt_t hlt) ?_
    refine st.wrE (τ := i64) 1 rfl (i := i) (by omega) (-9) fun h15 st => ?_
    rw [inc_i (by omega)]
    exact hY _ _ _ ⟨i + 1, g2.set i (-9), rfl, by omega, by simpa using hg2, st, rfl⟩ (by omega)
  refine brF (by rw [l20]; exact dlt_f hlt) ?_
  refine call_of (equal_int (st.fz 2 rfl) (st.fz 0 rfl) (by omega)) ?_
  rintro _ h15 ⟨rfl, e⟩; subst e
  refine brT (by simp) ?_
  refine ldRow (τ := .cons .sl (.cons .sl (.cons .sl .nil))) (x := (w1, w2, w3, ())) (st.blk 0 rfl) ?_
  refine call_of (step_c nil_li nil_li (st.fz 1 rfl) (by decide) (by decide) (by omega) hgh6) ?_
  rintro _ h16 ⟨v1, v2, v3, rfl, y1, y2, y3, x16⟩
  have st := st.ext x16
  refine ckRow (st.blk 0 rfl) ?_
  refine call_of (sameStep_c y1.at.rsl y2.at.rsl y3.at (st.fz 5 rfl).rsl (st.fz 6 rfl).rsl (st.fz 7 rfl) (by decide) (by decide) (by omega) hgh') ?_
  rintro _ h17 ⟨rfl, x17⟩
  have st := st.ext x17
  exact hK _ _ ⟨by simp, st.frame (by simp)⟩

end Go.Proofs.S

set_option linter.unusedVariables false
set_option linter.unusedSimpArgs false
namespace Go.Proofs.S
open Go Go.Sx Go.Proofs Go.Cl Go.Rp Go.Rt

variable {h h0 : Heap} {c d A f ids hs W : List Int} {l : List Ent} {cs : List (List Int)} {gs us vs : List Grp} {s s2 s3 s4 sc sl sh sg sx1 sx2 sl2 sh2 sg2 sa sr : Sl} {fr : Fr} {G As : List Asn} {id p n : Int} {i k : Nat} {b m b0 b1 bs : Nat}

theorem fewP_iff : fewP l = true ↔ l.length ≤ 30 ∧ ∀ x ∈ l, x.2.length ≤ 12 := by
  unfold fewP
  rw [Bool.and_eq_true, decide_eq_true_eq, Bool.not_eq_true', List.any_eq_false]
  constructor
  · rintro ⟨a, b⟩
    exact ⟨a, fun x hx => by have := b x hx; simp at this; omega⟩
  · rintro ⟨a, b⟩
    exact ⟨a, fun x hx => by have := b x hx; simp; omega⟩
end Go.Proofs.S

set_option linter.unusedVariables false
set_option linter.unusedSimpArgs false
namespace Go.Proofs.S
open Go Go.Sx Go.Proofs Go.Cl Go.Rp Go.Rt

variable {h : Heap} {c d A ids : List Int} {l : List Ent} {gs : List Grp} {s s2 s3 s4 s5 sc : Sl} {fr : Fr} {G As : List Asn} {id p : Int} {i : Nat}

theorem tells1_c (x : tPr.T) (h : Heap) : callT Tryz.prog fn_salvorlaw09_RatTells_1 #[.agg #[.int .i64 x.1, .slice x.2.1.a x.2.1.len x.2.1.cap]] .bool (fun r h' => r = decide ((x.2.1.len : Int) > 20) ∧ Ext [] h h') h := by
  refine callT_gen fun K hK => S_salvorlaw09_RatTells_1 (a0 := x) K ?_
  unfold F_salvorlaw09_RatTells_1
  have st := Hs.start h [] (by simp)
  refine st.nw fun b0 h1 st => ?_
  simp only [List.nil_append] at st
  rw [addr_add, st.lds 0 1 rfl rfl]
  exact hK _ _ ⟨rfl, st.frame (by simp)⟩
theorem dec_len {n k : Nat} : decide ((n : Int) > (k : Int)) = decide (n > k) := by
  rw [Bool.eq_iff_iff]; simp only [decide_eq_true_eq]; omega

set_option maxRecDepth 20000 in
set_option maxHeartbeats 1000000 in
theorem ratTells_F (hA : At h (ent l s)) (hH : At h (li ids s2)) (hG : At h (ent gs s3)) (hC : At h (li c s4)) (hB : At h (li A s5)) (K : Bool → HP) (hK : ∀ x h', (x = true ∧ Ext [] h h') → K x h') : F_salvorlaw09_RatTells s id s2 s3 s4 s5 K h := by
  unfold F_salvorlaw09_RatTells
  have lH := rsl_len hH
  have lG := rsp_len hG
  have lC := rsl_len hC
  have lB := rsl_len hB
  obtain ⟨ps, lp, hps, hx⟩ := rsp_open hG
  have st := Hs.start h [ent l s, li ids s2, ent gs s3, li c s4, li A s5, rsn 2 tPr.vals ps s3] (by simp [hA, hH, hG, hC, hB, hps])
  refine call_of (few_c (st.fz 0 rfl)) ?_
  rintro _ h2 ⟨rfl, x2⟩
  have st := st.ext x2
  have bad : ∀ h', Ext [] h h' → callT Tryz.prog fn_salvorlaw09_awake #[] .bool (fun r10 => K r10) h' := fun h' x => by
    refine call_of (awake9_c h') ?_
    rintro _ h3 ⟨rfl, x3⟩
    exact hK _ _ ⟨rfl, x.nil_trans x3⟩
  refine jn_mid (M := fun t h' => t = (!fewP l || decide (ids.length > 40)) ∧ h' = h2) ?_ ?_
  rotate_left
  · intro J hJ
    cases hf : fewP l with
    | false => exact brT rfl (hJ _ _ ⟨by rw [hf]; rfl, rfl⟩)
    | true =>
      refine brF rfl (hJ _ _ ⟨?_, rfl⟩)
      rw [lH, hf, Bool.not_true, Bool.false_or]; exact dec_len (k := 40)
  rintro _ h3 ⟨rfl, e⟩
  subst e
  refine jn_mid (M := fun t h' => t = ((!fewP l || decide (ids.length > 40)) || decide (gs.length > 20)) ∧ h' = h3) ?_ ?_
  rotate_left
  · intro J hJ
    cases hf : (!fewP l || decide (ids.length > 40)) with
    | true => exact brT rfl (hJ _ _ ⟨by rw [hf]; rfl, rfl⟩)
    | false =>
      refine brF rfl (hJ _ _ ⟨?_, rfl⟩)
      rw [lG, hf, Bool.false_or]; exact dec_len (k := 20)
  rintro _ h4 ⟨rfl, e⟩
  subst e
  refine jn_mid (M := fun t h' => (t = true ∨ (t = false ∧ fewP l = true ∧ ids.length ≤ 40 ∧ gs.length ≤ 20 ∧ ∀ g ∈ gs, g.2.length ≤ 20)) ∧ Hs [([], h)] [ent l s, li ids s2, ent gs s3, li c s4, li A s5, rsn 2 tPr.vals ps s3] [] h') ?_ ?_
  rotate_left
  · intro J hJ
    cases hf : ((!fewP l || decide (ids.length > 40)) || decide (gs.length > 20)) with
    | true => exact brT rfl (hJ _ _ ⟨.inl rfl, st⟩)
    | false =>
      simp only [Bool.or_eq_false_iff, Bool.not_eq_false', decide_eq_false_iff_not] at hf
      obtain ⟨⟨f1, f2⟩, f3⟩ := hf
      refine brF rfl ?_
      refine call_of (indexFuncG' (p := fun x => decide ((x.2.1.len : Int) > (20 : Nat))) (st.fz 5 rfl) (by omega) fun x _ h' x' => ?_) ?_
      · exact callF_func (tells1_c x h')
      rintro _ h6 ⟨rfl, x6⟩
      have st := st.ext x6
      rw [any_len lp hx]
      refine hJ _ _ ⟨?_, st⟩
      cases hg : (gs.any fun x => decide (x.2.length > 20)) with
      | true => exact .inl rfl
      | false =>
        rw [List.any_eq_false] at hg
        exact .inr ⟨rfl, f1, by omega, by omega, fun g hgm => by have := hg g hgm; simp at this; omega⟩
  clear st
  rintro t5 h5 ⟨ht5, st⟩
  refine jn_mid (M := fun t h' => t = (t5 || decide (c.length > 40)) ∧ h' = h5) ?_ ?_
  rotate_left
  · intro J hJ
    cases t5 with
    | true => exact brT rfl (hJ _ _ ⟨rfl, rfl⟩)
    | false =>
      refine brF rfl (hJ _ _ ⟨?_, rfl⟩)
      rw [lC, Bool.false_or]; exact dec_len (k := 40)
  rintro _ h6 ⟨rfl, e⟩
  subst e
  refine jn_mid (M := fun t h' => t = ((t5 || decide (c.length > 40)) || decide (A.length > 40)) ∧ h' = h6) ?_ ?_
  rotate_left
  · intro J hJ
    cases hf : (t5 || decide (c.length > 40)) with
    | true => exact brT rfl (hJ _ _ ⟨by rw [hf]; rfl, rfl⟩)
    | false =>
      refine brF rfl (hJ _ _ ⟨?_, rfl⟩)
      rw [lB, hf, Bool.false_or]; exact dec_len (k := 40)
  rintro _ h7 ⟨rfl, e⟩
  subst e
  cases hf : ((t5 || decide (c.length > 40)) || decide (A.length > 40)) with
  | true => exact brT rfl (bad _ (st.frame (by simp)))
  | false =>
  simp only [Bool.or_eq_false_iff, decide_eq_false_iff_not] at hf
  obtain ⟨⟨f0, f4⟩, f5⟩ := hf
  obtain ⟨_, f1, f2, f3, f6⟩ := ht5.resolve_left (by rw [f0]; simp)
  obtain ⟨f1, f7⟩ := fewP_iff.1 f1
  refine brF rfl ?_
  refine call_of (tells_c (st.fz 0 rfl) (by omega) (fun x hx => by have := f7 x hx; omega) id) ?_
  rintro _ h8 ⟨rfl, x8⟩
  have st := st.ext x8
  refine jn_in fun J hJ => brT rfl ?_
  refine call_of (texts_c (st.fz 1 rfl) (st.fz 2 rfl) (by omega) (by omega) (fun g hg => by have := f6 g hg; omega)) ?_
  rintro _ h9 ⟨rfl, x9⟩
  have st := st.ext x9
  refine hJ _ _ ?_
  clear J hJ
  refine jn_in fun J hJ => brT rfl ?_
  refine call_of (repairs_c (st.fz 3 rfl) (st.fz 4 rfl) (by omega) (by omega)) ?_
  rintro _ h10 ⟨rfl, x10⟩
  have st := st.ext x10
  refine hJ _ _ ?_
  clear J hJ
  refine jn_in fun J hJ => brT rfl ?_
  refine call_of (awake9_c _) ?_
  rintro _ h11 ⟨rfl, x11⟩
  exact hJ _ _ (hK _ _ ⟨rfl, (st.ext x11).frame (by simp)⟩)

end Go.Proofs.S
