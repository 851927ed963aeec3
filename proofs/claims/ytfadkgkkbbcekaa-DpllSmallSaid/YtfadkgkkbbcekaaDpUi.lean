/-
  The law's implied, few: contracts; DpllUnder, DpllImplied, walked.
-/
import Derived.Test.YtfadkgkkbbcekaaDpUo
set_option linter.unusedVariables false
set_option linter.unusedSimpArgs false
namespace Go.Proofs.S
open Go Go.Sx Go.Proofs Go.Cl Go.Dp

variable {h : Heap} {cs : List (List Int)} {s s2 sl : Sl} {l c : List Int} {v : Nat} {n fu : Int} {G : List Asn}

def greatG (c : List Int) : Int := c.foldl (fun a x => maxI a (varL x)) 0
theorem great_eq (hr : rightC c = true) : greatP c = greatG c := by
  have hall := rightC_rt hr
  unfold greatP greatG
  have e : vrL c = c.map fun x => (varL x, ()) := by
    unfold vrL
    rw [List.filter_eq_self.2 hall]
  rw [e, List.foldl_map]

theorem r1_greatest_c (hA : At h (li c s)) (hl : c.length ≤ 1048576) : callT Try.prog fn_salvorref01_Greatest #[.slice s.a s.len s.cap] (.int .i64) (fun r h' => r = greatG c ∧ h' = h) h := by
  refine callT_gen fun K hK => S_salvorref01_Greatest (a0 := s) K ?_
  unfold F_salvorref01_Greatest
  have l1 := rsl_len hA
  refine lfp_invh (I := fun m σ h' => ∃ (i : Nat) (a : Int), σ = ((i : Int), a, ()) ∧ i ≤ c.length ∧ a = (c.take i).foldl (fun a x => maxI a (varL x)) 0 ∧ h' = h ∧ m = c.length - i) ⟨_, 0, 0, rfl, by omega, rfl, rfl, rfl⟩ ?_
  rintro m σ h' X ⟨i, a, rfl, hi, ha, rfl, rfl⟩ hX
  simp only
  by_cases hlt : i < c.length
  · refine brT (by rw [l1]; exact dlt_t hlt) ?_
    refine rdE (τ := i64) hA hlt ?_
    refine call_of (rvar_c c[i]) ?_
    rintro _ h2 ⟨rfl, e⟩; subst e
    have es : (c.take (i + 1)).foldl (fun a x => maxI a (varL x)) 0 = maxI a (varL c[i]) := by
      have : c.take (i + 1) = c.take i ++ [c[i]] := by simp
      rw [this, List.foldl_append, ← ha]; rfl
    refine jn_in fun J hJ => ?_
    by_cases hg : varL c[i] > a
    · refine brT (decide_eq_true hg) ?_
      refine rdE (τ := i64) hA hlt ?_
      refine call_of (rvar_c c[i]) ?_
      rintro _ h3 ⟨rfl, e⟩; subst e
      refine hJ _ _ ?_
      simp only
      rw [inc_i (by omega)]
      refine hX _ _ _ ⟨i + 1, _, rfl, by omega, ?_, rfl, rfl⟩ (by omega)
      rw [es]; unfold maxI; rw [if_pos hg]
    · refine brF (decide_eq_false hg) (hJ _ _ ?_)
      simp only
      rw [inc_i (by omega)]
      refine hX _ _ _ ⟨i + 1, a, rfl, by omega, ?_, rfl, rfl⟩ (by omega)
      rw [es]; unfold maxI; rw [if_neg hg]
  · refine brF (by rw [l1]; exact dlt_f hlt) ?_
    rw [List.take_of_length_le (by omega)] at ha
    exact hK _ _ ⟨ha, rfl⟩

theorem asg_neg (hr : rightC c = true) (hg : ¬ greatP c > (v : Int)) (ha : alwaysC c = false) : Asg v (c.map negL) := by
  have hrt := rightC_rt hr
  have em : c.map negL = c.map (fun x => -x) := List.map_congr_left fun x hx => negL_rt (hrt x hx)
  have hv : ∀ x ∈ c, varL x ≤ v := fun x hx => by
    by_cases q : varL x > v
    · exact absurd ((great_gt hr (by omega)).2 ⟨x, hx, q⟩) hg
    · omega
  rw [em]
  refine ⟨fun x hx => ?_, fun x hx h2 => ?_⟩
  · obtain ⟨y, hy, rfl⟩ := List.mem_map.1 hx
    exact ⟨rt_neg (hrt y hy), by rw [Fo.varL_neg (hrt y hy)]; exact hv y hy⟩
  · obtain ⟨y, hy, rfl⟩ := List.mem_map.1 hx
    obtain ⟨z, hz, e⟩ := List.mem_map.1 h2
    unfold alwaysC at ha
    rw [List.any_eq_false] at ha
    refine ha y hy ?_
    have : -y = z := by omega
    rw [this]; simpa using hz

theorem r19_implied_c {f : Nat} (hA : At h (lli cs s)) (hB : At h (li c s2)) (hck : (checkP v cs).2 = 0) (hv : v ≤ 60) (hf : f ≤ 16777216) (hl : cs.length ≤ 1048576) (hc : ∀ c ∈ cs, c.length ≤ 1048576) (hcl : c.length ≤ 1000000) :
    callT Try.prog fn_salvorref19_Implied #[.agg #[.int .i64 v, .slice s.a s.len s.cap], .slice s2.a s2.len s2.cap, .int .i64 f] (.tup (.cons .bool (.cons (.int .i64) .nil)))
      (fun r h' => r = ((impliedP v cs c f).1, (impliedP v cs c f).2, ()) ∧ Ext [] h h') h := by
  refine callT_gen fun K hK => S_salvorref19_Implied (a0 := ((v : Int), s, ())) (a1 := s2) (a2 := (f : Int)) K ?_
  unfold F_salvorref19_Implied
  have st := Hs.start h [lli cs s, li c s2] (by simp [hA, hB])
  have ls := rsl_len hB
  have hg := check_good.1 hck
  have hi : Fo.InV v cs := inv_good hg
  have hw : wrongP v cs f = 0 := by unfold wrongP; rw [if_neg (by simp [hck]), if_neg (by omega)]
  unfold impliedP at hK
  rw [if_neg (by simp [hw])] at hK
  refine st.nw fun b0 h1 st => ?_
  have st := Hs.fzl (As := []) st
  simp only [List.cons_append, List.nil_append] at st
  refine call_of (r2_right_c (st.fz 1 rfl) (by omega)) ?_
  rintro _ h2 ⟨rfl, e⟩; subst e
  cases hr : rightC c with
  | false =>
    rw [if_pos hr] at hK
    exact brT rfl (hK _ _ ⟨rfl, st.frame (by simp)⟩)
  | true =>
    rw [if_neg (by simp [hr])] at hK
    refine brF rfl ?_
    rw [ld_int (i := 0) (st.fblk 2 rfl) rfl]
    refine call_of (r1_greatest_c (st.fz 1 rfl) (by omega)) ?_
    rintro _ h3 ⟨rfl, e⟩; subst e
    rw [← great_eq hr, ck_ok (i := 0) (st.fblk 2 rfl) rfl]
    by_cases hgr : greatP c > (v : Int)
    · rw [if_pos hgr] at hK
      exact brT (decide_eq_true hgr) (hK _ _ ⟨rfl, st.frame (by simp)⟩)
    rw [if_neg hgr] at hK
    refine brF (decide_eq_false hgr) ?_
    refine call_of (r2_always_c (st.fz 1 rfl) hr) ?_
    rintro _ h4 ⟨rfl, e⟩; subst e
    cases ha : alwaysC c with
    | true =>
      rw [if_pos ha] at hK
      exact brT rfl (hK _ _ ⟨rfl, st.frame (by simp)⟩)
    | false =>
      rw [if_neg (by simp [ha])] at hK
      refine brF rfl ?_
      have hAs := asg_neg hr hgr ha
      have st := st.nil ty_int i64.enc none
      simp only [List.nil_append] at st
      refine lfp_invh (I := fun m σ h' => ∃ (i : Nat) (so : Sl), σ = ((i : Int), so, ()) ∧ i ≤ c.length ∧ Hs [([], h)] [lli cs s, li c s2, cl b0 ty_salvorref05_Formula [.int .i64 v, .slice s.a s.len s.cap]] [io ((c.take i).map negL) so] h' ∧ m = c.length - i)
        ⟨_, 0, _, rfl, by omega, st, rfl⟩ ?_
      clear st
      rintro m σ h5 X ⟨i, so, rfl, hii, st, rfl⟩ hX
      simp only
      by_cases hlt : i < c.length
      · refine brT (by rw [ls]; exact dlt_t hlt) ?_
        refine rdE (τ := i64) (st.fz 1 rfl) hlt ?_
        have hri := rightC_rt hr _ (List.getElem_mem hlt)
        rw [neg_wrap hri, ← negL_rt hri]
        refine st.nw fun b9 h6 st => ?_
        simp only [List.cons_append, List.nil_append] at st
        refine st.apd (v := negL c[i]) 0 1 rfl rfl (by decide) rfl (by simp; omega) (by decide) rfl fun s10 h7 st => ?_
        simp only [List.set_cons_zero, List.set_cons_succ] at st
        have st := st.drop 1 rfl
        rw [inc_i (by omega)]
        refine hX _ _ _ ⟨i + 1, s10, rfl, by omega, ?_, rfl⟩ (by omega)
        have ht : c.take (i + 1) = c.take i ++ [c[i]] := by simp
        rw [ht, List.map_append]
        exact st
      · refine brF (by rw [ls]; exact dlt_f hlt) ?_
        rw [List.take_of_length_le (by omega)] at st
        refine ldF (st.fblk 2 rfl) ?_
        have hfl := freeN_le (v := v) (L := c.map negL)
        refine call_of (r19_search_c hi hl hc (by omega) (v + 1) (c.map negL) _ f _ hAs (by simp; omega) (by omega) hf (st.fz 0 rfl) (st.own 0 rfl).rsl) ?_
        rintro _ h8 ⟨s12, rfl, _, x12⟩
        have st := st.ext x12
        have em : (modelF (v : Int) (c.map negL)).2 = 0 := modelF_asg.2 ⟨by omega, by omega, by rw [Int.toNat_natCast]; exact hAs⟩
        have eU : underP v cs (c.map negL) f = (if ((Dp.runT f (trace v cs (v + 1) (c.map negL))).2 : Int) > f then ((false, [], 0), 190) else (((Dp.runT f (trace v cs (v + 1) (c.map negL))).1.isSome, (Dp.runT f (trace v cs (v + 1) (c.map negL))).1.getD [], (((Dp.runT f (trace v cs (v + 1) (c.map negL))).2 : Nat) : Int)), 0)) := by
          unfold underP; rw [if_neg (by simp [hw]), if_neg (by simp [em])]; simp only [Int.toNat_natCast]
        rw [eU] at hK
        generalize Dp.runT f (trace v cs (v + 1) (c.map negL)) = R at *
        by_cases hgt : (R.2 : Int) > f
        · rw [if_pos hgt] at hK
          exact brT (decide_eq_true hgt) (hK _ _ ⟨rfl, st.frame (by simp)⟩)
        · rw [if_neg hgt] at hK
          exact brF (decide_eq_false hgt) (hK _ _ ⟨by simp, st.frame (by simp)⟩)

theorem lawImplied_c (hA : At h (lli cs s)) (hB : At h (li c s2)) (hl : cs.length ≤ 1048576) (hc : ∀ c ∈ cs, c.length ≤ 1048576) (hcl : c.length ≤ 1000000) (hn : (checkP n cs).2 = 0 → n ≤ 60) :
    callT Try.prog fn_salvorlaw19_implied #[.agg #[.int .i64 n, .slice s.a s.len s.cap], .slice s2.a s2.len s2.cap, .int .i64 fu] .bool (fun r h' => r = true ∧ Ext [] h h') h := by
  refine callT_gen fun K hK => S_salvorlaw19_implied (a0 := (n, s, ())) (a1 := s2) (a2 := fu) K ?_
  unfold F_salvorlaw19_implied
  have st := Hs.start h [lli cs s, li c s2] (by simp [hA, hB])
  refine st.nw fun b0 h1 st => ?_
  have st := Hs.fzl (As := []) st
  simp only [List.cons_append, List.nil_append] at st
  refine ldF (st.fblk 2 rfl) ?_
  refine call_of (clause_c (st.fz 1 rfl) (by omega)) ?_
  rintro r2 h2 ⟨n2, x2⟩
  have st := Hs.fzl (st.new x2 n2)
  refine ckF (st.fblk 2 rfl) ?_
  refine call_of (implied_c (n := n) (fu := fu) (st.fz 0 rfl) (st.fz 3 rfl).rsl hl hc (by omega) hn) ?_
  rintro _ h3 ⟨rfl, x3⟩
  have st := st.ext x3
  refine ldF (st.fblk 2 rfl) ?_
  refine call_of (theirs_c (n := n) (st.fz 0 rfl) hl hc) ?_
  rintro _ h4 ⟨r5, rfl, n5, x5⟩
  have st := Hs.fzl (st.new x5 n5)
  refine st.nw fun b6 h5 st => ?_
  simp only [List.cons_append, List.nil_append, addr_add, Nat.zero_add] at st ⊢
  refine st.st1 0 0 rfl (by simp) fun h6 st => ?_
  refine st.st1 0 1 rfl (by simp) fun h7 st => ?_
  simp only [List.set_cons_zero, List.set_cons_succ] at st
  have st := Hs.fzl (As := []) st
  simp only [List.cons_append, List.nil_append] at st
  refine ldF (st.fblk 5 rfl) ?_
  refine call_of (rcheck_c (oii_at (st.fz 4 rfl)) (fun c hc' => by have := hc c hc'; omega)) ?_
  rintro _ h8 ⟨rfl, x8⟩
  have st := st.ext x8
  have hKx : ∀ h', Ext [] h8 h' → K true h' := fun h' x => hK _ _ ⟨rfl, (st.frame (h0 := h) (by simp)).nil_trans x⟩
  have hK : K true h8 := hKx _ (Ext.refl' _ _)
  by_cases hck : (checkP n cs).2 = 0
  rotate_left
  · refine brT (bne_iff_ne.2 hck) ?_
    have hw : wrongP n cs fu = (checkP n cs).2 := by unfold wrongP; rw [if_pos hck]
    have eI : impliedP n cs c fu = (false, (checkP n cs).2) := by unfold impliedP; rw [if_pos (by rw [hw]; exact hck), hw]
    rw [eI]
    refine jn_in fun J hJ => brT rfl (hJ _ _ ?_)
    rw [beq_self_eq_true]; exact hK
  refine brF (by rw [hck]; rfl) ?_
  have hw : wrongP n cs fu = if fu < 0 ∨ fu > 16777216 then 2 else 0 := by unfold wrongP; rw [if_neg (by simp [hck])]
  by_cases hfu : fu < 0 ∨ fu > 16777216
  · rw [if_pos hfu] at hw
    have eI : impliedP n cs c fu = (false, 2) := by unfold impliedP; rw [if_pos (by rw [hw]; decide), hw]
    rw [eI]
    refine jn_in fun J hJ => ?_
    have fin : J true h8 := hJ _ _ (brT rfl (jn_in fun J hJ => brT rfl (hJ _ _ hK)))
    by_cases h0 : fu < 0
    · exact brT (decide_eq_true h0) fin
    · refine brF (decide_eq_false h0) ?_
      rw [decide_eq_true (by omega)]; exact fin
  refine jn_in fun J hJ => brF (decide_eq_false (by omega)) ?_
  rw [decide_eq_false (show ¬ fu > 16777216 by omega)]
  refine hJ _ _ (brF rfl ?_)
  clear J hJ
  obtain ⟨hn0, hn1⟩ := good_vars (check_good.1 hck)
  have hv60 := hn hck
  refine ldF (st.fblk 5 rfl) ?_
  have st' := st
  have hr : callT Try.prog fn_salvorref19_Implied #[.agg #[.int .i64 n, .slice r5.a r5.len r5.cap], .slice s2.a s2.len s2.cap, .int .i64 fu] (.tup (.cons .bool (.cons (.int .i64) .nil)))
      (fun r h' => r = ((impliedP n cs c fu).1, (impliedP n cs c fu).2, ()) ∧ Ext [] h8 h') h8 := by
    obtain ⟨v, e1⟩ := Int.eq_ofNat_of_zero_le hn0
    obtain ⟨f, e2⟩ := Int.eq_ofNat_of_zero_le (show 0 ≤ fu by omega)
    have hA2 := oii_at (st'.fz 4 rfl)
    have hB2 := st'.fz 1 rfl
    clear st st' hK
    rw [e1, e2]
    exact r19_implied_c hA2 hB2 (by rw [← e1]; exact hck) (by omega) (by omega) hl hc hcl
  refine call_of hr ?_
  rintro _ h9 ⟨rfl, x9⟩
  refine jn_in fun J hJ => brT (by simp) ?_
  rw [beq_self_eq_true]
  exact hJ _ _ (hKx _ x9)

end Go.Proofs.S
