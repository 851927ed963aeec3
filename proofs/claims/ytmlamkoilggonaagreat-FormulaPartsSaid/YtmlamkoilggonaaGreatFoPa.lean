/-
  FormulaParts, walked: the parts.
-/
import Derived.Test.YtmlamkoilggonaaGreatFoR
set_option linter.unusedVariables false
set_option linter.unusedSimpArgs false
namespace Go.Proofs.S
open Go Go.Sx Go.Proofs Go.Cl

variable {h : Heap} {c d : List Int} {s s2 : Sl} {fr : Fr} {G As : List Asn} {m : List Bool} {sm : Sl} {k k2 : List Bool} {M : List (List Int)} {x : Int}

theorem contains_int (hA : At h (li c s)) (hl : c.length ≤ 1099511627776) (v : Int) : callT Tryz.prog fn_slices_Contains_int_int #[.slice s.a s.len s.cap, .int .i64 v] .bool (fun r h' => r = c.contains v ∧ h' = h) h := by
  refine callT_gen fun K hK => S_slices_Contains_int_int (a0 := s) (a1 := v) K ?_
  unfold F_slices_Contains_int_int
  refine call_of (R := fun r h' => r = fidx (fun x => v == x) c ∧ h' = h) (callT_gen fun K hK => S_slices_Index_int_int (a0 := s) (a1 := v) K (w_index (τ := i64) (eq := fun x => v == x) hA hl (hK _ _ ⟨rfl, rfl⟩))) ?_
  rintro r h' ⟨er, rfl⟩
  have er : r = fidx (fun x => v == x) c := er
  subst er
  exact hK _ _ ⟨by rw [fidx_ge, any_eq_contains], rfl⟩

theorem oi_li (hA : At h (oi c s)) : At h (li c s) := hA.rsl
theorem lo_li (hA : At h (lo c s)) : At h (li c s) := hA.rsl

/-- Two rows of clauses, one behind the other. -/
theorem concatRows_c {b : Nat} {t0 : TypeId} {A B : List (List Int)} (hA : At h (lli A s)) (hB : At h (lli B s2)) (hl : A.length + B.length ≤ 1048576)
    (kb : Blk h b t0 [.slice s.a s.len s.cap, .slice s2.a s2.len s2.cap]) :
    callT Tryz.prog fn_slices_Concat_clauses_Clause_clauses_Clause #[.slice (some ⟨b, 0, none⟩) 2 2] .sl (fun s' h' => At h' (lli (A ++ B) s') ∧ Ext [] h h') h := by
  refine callT_gen fun K hK => S_slices_Concat_clauses_Clause_clauses_Clause (a0 := ⟨some ⟨b, 0, none⟩, 2, 2⟩) K ?_
  have hp : At h (rsl Ty.sl.enc [s, s2] ⟨some ⟨b, 0, none⟩, 2, 2⟩) := ⟨[b], osl_rsl (t := t0) (.inl ⟨b, [], rfl, rfl, kb⟩)⟩
  obtain ⟨ps, pl, pA, pI⟩ := rsg_open hA
  obtain ⟨qs, ql, qA, qI⟩ := rsg_open hB
  refine w_concat (P := Tryz.prog) (τ := .sl) (t := ty_clauses_Clause) (by_ := 24) (z := .slice none 0 0) (fg := fn_slices_Grow_clauses_Clause_clauses_Clause) (xss := [ps, qs]) hp rfl ?_ (by simp) (by simp; omega) (by decide) leaf_sl (fun n K h hW => growC_c hW) (fun s' h' a b => hK _ _ ⟨?_, b⟩)
  · intro i hi
    match i, hi with
    | 0, _ => exact pA
    | 1, _ => exact qA
  · have ho : At h' (rsl Ty.sl.enc (ps ++ qs) s') := by simpa using a.at.rsl
    refine rsg_at (by simp [pl, ql]) ho fun i h1 h2 => ?_
    by_cases hi : i < A.length
    · rw [List.getElem_append_left hi, List.getElem_append_left (by omega)]; exact (pI i hi (by omega)).ext b
    · rw [List.getElem_append_right (by omega), List.getElem_append_right (by omega)]
      simp only [pl]
      exact (qI (i - A.length) (by simp at h1; omega) (by simp at h2; omega)).ext b

theorem parts11_c {b : Nat} (kb : Blk h b ty_sl_bool [.slice s2.a s2.len s2.cap]) (hA : At h (lb k2 s2)) (hB : At h (lb k s)) (hl : k2.length ≤ 1099511627776) :
    callT Tryz.prog fn_salvorlaw05_FormulaParts_1i1 #[.slice s.a s.len s.cap, .pointer (some ⟨b, 0, none⟩)] .bool (fun r h' => r = decide (k2 = k) ∧ Ext [] h h') h := by
  refine callT_gen fun K hK => S_salvorlaw05_FormulaParts_1i1 (a0 := s) (c0 := ⟨b, 0, none⟩) K ?_
  unfold F_salvorlaw05_FormulaParts_1i1
  rw [ld_sl (i := 0) kb rfl]
  refine call_of (equal_bools hA hB hl) ?_
  rintro r h2 ⟨e, rfl⟩
  exact hK _ _ ⟨e, Ext.refl' _ _⟩
/-- Is a model in a row of models? -/
theorem parts1_c {us : List (List Bool)} (hA : At h (llb us s)) (hm : At h (lb m sm)) (hl : us.length ≤ 1099511627776) (hlm : m.length ≤ 1099511627776) :
    callF Tryz.prog (.func (.func fn_salvorlaw05_FormulaParts_1) #[] #[]) #[.slice s.a s.len s.cap, .slice sm.a sm.len sm.cap] .bool (fun r h' => r = us.any (fun n => decide (m = n)) ∧ Ext [] h h') h := by
  refine callF_func (callT_gen fun K hK => S_salvorlaw05_FormulaParts_1 (a0 := s) (a1 := sm) K ?_)
  unfold F_salvorlaw05_FormulaParts_1
  have st := Hs.start h [llb us s, lb m sm] (by simp [hA, hm])
  refine st.nw fun b h1 st => ?_
  have x1 : Ext [] h h1 := st.frame (by simp)
  refine call_of (containsFunc_bools (p := fun n => decide (m = n)) (st.fz 0 rfl) hl fun u hu q h2 x hq => ?_) ?_
  · exact callF_func (parts11_c ((st.ext x).blk 0 rfl) ((st.ext x).fz 1 rfl) hq hlm)
  · rintro _ h2 ⟨rfl, x2⟩
    exact hK _ _ ⟨rfl, x1.nil_trans x2⟩

theorem modelsF_mods (v : Nat) (cs : List (List Int)) : modelsF v cs = Go.Fo.mods v cs := by
  unfold modelsF Go.Fo.mods
  refine List.filter_congr fun m _ => ?_
  rw [Bool.eq_iff_iff, decide_eq_true_iff, failsGo_neg]
  unfold Go.Fo.hold
  rw [List.all_eq_true]
  exact Iff.rfl
theorem asg_eq (l : Int) (cs : List (List Int)) : assignL l cs = Go.Fo.asg l cs := rfl
theorem good_inV (hg : GoodF 8 M) : Go.Fo.InV 8 M := fun c hc y hy => by
  have := bey_rt ((hg.2.2 c hc).2 y hy)
  exact ⟨this.1, by simpa using this.2⟩
theorem good_asg (hg : GoodF 8 M) (l : Int) : GoodF 8 (assignL l M) := by
  refine ⟨hg.1, Nat.le_trans (assignL_len l M) hg.2.1, fun c hc => ?_⟩
  unfold assignL at hc
  obtain ⟨d, hd, rfl⟩ := List.mem_map.1 hc
  have hdM := (List.mem_filter.1 hd).1
  refine ⟨right_sub (hg.2.2 d hdM).1 (List.length_filter_le _ _) fun y hy => (List.mem_filter.1 hy).1, fun y hy => (hg.2.2 d hdM).2 y (List.mem_filter.1 hy).1⟩
theorem asg_no (hg : GoodF 8 M) {l : Int} (hl : rt l = true) {c : List Int} (hc : c ∈ assignL l M) : ∀ y ∈ c, varL y ≠ varL l := fun y hy e => by
  unfold assignL at hc
  obtain ⟨d, hd, rfl⟩ := List.mem_map.1 hc
  obtain ⟨h1, h2⟩ := List.mem_filter.1 hd
  obtain ⟨h3, h4⟩ := List.mem_filter.1 hy
  have hr := (bey_rt ((hg.2.2 d h1).2 y h3)).1
  rcases Go.Fo.varL_eq hr hl e with rfl | rfl
  · simp [h3] at h2
  · simp at h4

theorem asgF_good (hg : GoodF 8 M) (hl : rt x = true) (hv : varL x ≤ 8) : assignF 8 M x = ((8, assignL x M), 0) := by
  unfold assignF
  rw [if_neg (by simp [check_good.2 hg]), if_neg]
  unfold beyP
  simp [hl]; omega

theorem nz_in {y : Int} {K : HP} (h0 : y ≠ 0) (hK : K h) : nz y K h := ⟨h0, hK⟩

set_option maxHeartbeats 1000000 in
theorem PbTl_c {b5 : Nat} {r : Sl} (kb : Blk h b5 ty_formula_Formula [.int .i64 8, .slice r.a r.len r.cap]) (hM : At h (lli M r)) (hg : GoodF 8 M) (hx : rt x = true) (hv : varL x ≤ 8) (hMl : M.length ≤ 1000)
    {K : Bool → HP} (hK : ∀ h', Ext [] h h' → K true h') : PbTl b5 x K h := by
  have h0x := rt_iff.1 hx
  have hxn : rt (-x) = true := rt_iff.2 (by omega)
  have hvn : varL (-x) ≤ 8 := by rw [Go.Fo.varL_neg hx]; exact hv
  have hwn : IntKind.wrap .i64 (0 - x) = -x := by rw [wrap_i64 (by omega) (by omega)]; omega
  have gA := good_asg hg x
  have gB := good_asg hg (-x)
  have lA := assignL_len x M
  have lB := assignL_len (-x) M
  have hnoA := fun c (hc : c ∈ assignL x M) => asg_no hg hx hc
  have hnoB := fun c (hc : c ∈ assignL (-x) M) => asg_no hg hxn hc
  rw [Go.Fo.varL_neg hx] at hnoB
  have hparts := Go.Fo.mods_parts (v := 8) hx (by simpa using hv) (good_inV hg)
  rw [← asg_eq, ← asg_eq, ← modelsF_mods, ← modelsF_mods, ← modelsF_mods] at hparts
  have hmemA : ∀ m ∈ modelsF 8 M, Go.Fo.tru m x = true → m ∈ modelsF 8 (assignL x M) := fun m hm ht => by
    rw [modelsF_mods] at hm ⊢
    obtain ⟨a, b⟩ := List.mem_filter.1 hm
    exact List.mem_filter.2 ⟨a, by rw [asg_eq, Go.Fo.hold_asg hx ht]; exact b⟩
  have hmemB : ∀ m ∈ modelsF 8 M, Go.Fo.tru m x = false → m ∈ modelsF 8 (assignL (-x) M) := fun m hm ht => by
    rw [modelsF_mods] at hm ⊢
    obtain ⟨a, b⟩ := List.mem_filter.1 hm
    exact List.mem_filter.2 ⟨a, by rw [asg_eq, Go.Fo.hold_asg hxn (by rw [Go.Fo.tru_neg hx, ht]; rfl)]; exact b⟩
  have lenM := modelsF_le 8 M (by decide)
  have lenA := modelsF_le 8 (assignL x M) (by decide)
  have lenB := modelsF_le 8 (assignL (-x) M) (by decide)
  have row8 : ∀ m ∈ modelsF 8 M, m.length = 8 := fun m hm => (modelsF_row hm).1
  have eA := asgF_good hg hx hv
  have eB := asgF_good hg hxn hvn
  unfold PbTl
  have st := Hs.start h [cl b5 ty_formula_Formula [.int .i64 8, .slice r.a r.len r.cap], lli M r] (by
    intro A hA
    simp only [List.mem_cons, List.not_mem_nil, or_false] at hA
    rcases hA with rfl | rfl
    · exact ⟨[b5], rfl, kb⟩
    · exact hM)
  refine ldF (s := r) (st.fblk 0 rfl) ?_
  refine call_of (assign_c (n := 8) (st.fz 1 rfl) x) ?_
  rintro _ h2 ⟨rA, rfl, nA, xA⟩
  rw [eA] at nA ⊢
  have st := (st.new xA nA).freeze 0 rfl
  simp only [List.nil_append, List.cons_append, List.eraseIdx_cons_zero] at st
  refine st.nw fun b8 h3 st => ?_
  simp only [List.nil_append, List.cons_append] at st
  refine st.st1 0 0 rfl (by simp) fun h4 st => ?_
  refine st.st1 0 1 rfl (by simp) fun h5 st => ?_
  simp only [List.set_cons_zero, List.set_cons_succ] at st
  have st := st.freeze 0 rfl
  simp only [List.nil_append, List.cons_append, List.eraseIdx_cons_zero] at st
  refine ldF (s := r) (st.fblk 0 rfl) ?_
  rw [hwn]
  refine call_of (assign_c (n := 8) (st.fz 1 rfl) (-x)) ?_
  rintro _ h6 ⟨rB, rfl, nB, xB⟩
  rw [eB] at nB ⊢
  have st := (st.new xB nB).freeze 0 rfl
  simp only [List.nil_append, List.cons_append, List.eraseIdx_cons_zero] at st
  refine st.nw fun b11 h7 st => ?_
  simp only [List.nil_append, List.cons_append] at st
  refine st.st1 0 0 rfl (by simp) fun h8 st => ?_
  refine st.st1 0 1 rfl (by simp) fun h9 st => ?_
  simp only [List.set_cons_zero, List.set_cons_succ] at st
  have st := st.freeze 0 rfl
  simp only [List.nil_append, List.cons_append, List.eraseIdx_cons_zero] at st
  refine ldF (s := r) (st.fblk 0 rfl) ?_
  refine call_of (collected_c (v := 8) (st.fz 1 rfl) hg (by decide)) ?_
  rintro _ h10 ⟨rM, rfl, nM, xM⟩
  have st := (st.new xM nM).freeze 0 rfl
  simp only [List.nil_append, List.cons_append, List.eraseIdx_cons_zero] at st
  refine ldF (s := rA) (st.fblk 3 rfl) ?_
  refine call_of (collected_c (v := 8) (llo_at (st.fz 2 rfl)) gA (by decide)) ?_
  rintro _ h11 ⟨rP, rfl, nP, xP⟩
  have st := (st.new xP nP).freeze 0 rfl
  simp only [List.nil_append, List.cons_append, List.eraseIdx_cons_zero] at st
  refine ldF (s := rB) (st.fblk 5 rfl) ?_
  refine call_of (collected_c (v := 8) (llo_at (st.fz 4 rfl)) gB (by decide)) ?_
  rintro _ h12 ⟨rQ, rfl, nQ, xQ⟩
  have st := (st.new xQ nQ).freeze 0 rfl
  simp only [List.nil_append, List.cons_append, List.eraseIdx_cons_zero] at st
  have aM := lob_llb (st.fz 6 rfl)
  have aP := lob_llb (st.fz 7 rfl)
  have aQ := lob_llb (st.fz 8 rfl)
  have lM := rsg_len aM
  have lP := rsg_len aP
  have lQ := rsg_len aQ
  simp only at lM lP lQ ⊢
  refine jn_in fun J1 hJ1 => brF (by simp [IntKind.wrap]; decide) (hJ1 _ _ ?_)
  refine jn_in fun J2 hJ2 => brF rfl (hJ2 _ _ ?_)
  refine jn_in fun J3 hJ3 => brF rfl (hJ3 _ _ ?_)
  refine jn_in fun J4 hJ4 => brF rfl (nz_in (by decide) (hJ4 _ _ ?_))
  have m2 : ∀ n : Nat, Int.tmod (n : Int) 2 = ((n % 2 : Nat) : Int) := fun n => rfl
  have d2 : ∀ n : Nat, Int.tdiv (n : Int) 2 = ((n / 2 : Nat) : Int) := fun n => rfl
  have e1 : (Int.tmod (rP.len : Int) 2 != 0) = false := by rw [m2, lP, hparts.1]; rfl
  have e2 : (Int.tmod (rQ.len : Int) 2 != 0) = false := by rw [m2, lQ, hparts.2.1]; rfl
  refine jn_in fun J5 hJ5 => brF e1 (nz_in (by decide) (hJ5 _ _ ?_))
  refine jn_in fun J6 hJ6 => brF e2 (nz_in (by decide) (nz_in (by decide) (hJ6 _ _ ?_)))
  have e3 : ((rM.len : Int) != (IntKind.wrap .i64 ((IntKind.wrap .i64 (Int.tdiv (rP.len : Int) 2)) + (IntKind.wrap .i64 (Int.tdiv (rQ.len : Int) 2))))) = false := by
    rw [d2, d2, wrap_i64 (x := ((rP.len / 2 : Nat) : Int)) (by omega) (by omega), wrap_i64 (x := ((rQ.len / 2 : Nat) : Int)) (by omega) (by omega), wrap_i64 (by omega) (by omega), lP, lQ, lM, hparts.2.2]
    simp
  refine brF e3 ?_
  rw [addr_add, addr_add]
  rw [ld_sl (i := 0 + 1) (st.fblk 3 rfl) rfl, ld_sl (i := 0 + 1) (st.fblk 5 rfl) rfl]
  refine st.nw fun b32 h13 st => ?_
  simp only [List.nil_append] at st
  have xf13 : Ext [] h h13 := st.frame (by simp)
  have aM := lob_llb (st.fz 6 rfl)
  have aP := lob_llb (st.fz 7 rfl)
  have aQ := lob_llb (st.fz 8 rfl)
  refine call_of (concatRows_c (llo_at (st.fz 2 rfl)) (llo_at (st.fz 4 rfl)) (by omega) (st.blk 0 rfl)) ?_
  rintro r33 h14 ⟨aR, x14⟩
  have aM := aM.ext x14
  have aP := aP.ext x14
  have aQ := aQ.ext x14
  have xf14 := xf13.nil_trans x14
  clear st nA nB nM nP nQ
  have lR := rsg_len aR
  have hrow : ∀ c ∈ assignL x M ++ assignL (-x) M, (∀ y ∈ c, varL y ≠ varL x) ∧ rightC c = true := fun c hc => by
    rcases List.mem_append.1 hc with q | q
    · exact ⟨hnoA c q, (gA.2.2 c q).1⟩
    · exact ⟨hnoB c q, (gB.2.2 c q).1⟩
  have evar : ∀ {h : Heap}, callT Tryz.prog fn_lits_Var #[.int .i64 x] (.int .i64) (fun r h' => r = varL x ∧ h' = h) h := fun {h} => by
    refine call_of (lits_Var_c x) ?_
    rintro _ h' ⟨er, e⟩
    exact ⟨er.trans (by unfold varL; rfl), e⟩
  have hRl : (assignL x M ++ assignL (-x) M).length ≤ 2000 := by simp; omega
  generalize assignL x M ++ assignL (-x) M = R at *
  refine lfp_invh (I := fun μ σ h' => ∃ (i : Nat) (bb : Bool), σ = ((i : Int), bb, ()) ∧ i ≤ R.length ∧ Ext [] h14 h' ∧ μ = R.length - i) ⟨_, 0, false, rfl, by omega, Ext.refl' _ _, rfl⟩ ?_
  rintro μ σ h' X ⟨i, bb, rfl, hi, xx, rfl⟩ hX
  simp only
  by_cases hlt : i < R.length
  · refine brT (by rw [lR]; exact decide_eq_true (by omega)) ?_
    refine rdG (aR.ext xx) hlt fun p hp => ?_
    obtain ⟨hno, hr⟩ := hrow _ (List.getElem_mem hlt)
    have hlc := rightC_len hr
    refine call_of (litVars_c hp (by omega)) ?_
    rintro r38 h16 ⟨vs, nv, hvl, hvm, x16⟩
    refine call_of evar ?_
    rintro _ h17 ⟨rfl, e⟩; subst e
    refine call_of (contains_int (oi_li nv.at) (by omega) (varL x)) ?_
    rintro _ h17 ⟨er, e⟩; subst e
    have er : _ = false := er.trans (by
      rw [Bool.eq_false_iff]
      intro q
      have q : varL x ∈ vs := by simpa using q
      obtain ⟨y, hy, _, ey⟩ := (hvm _).1 q
      exact hno y hy ey)
    subst er
    refine jn_in fun J hJ => brF rfl (hJ _ _ (brF rfl ?_))
    rw [inc_i (by have := (show R.length = r33.len by omega); omega)]
    exact hX _ _ _ ⟨i + 1, bb, rfl, by omega, xx.nil_trans x16, rfl⟩ (by omega)
  · refine brF (by rw [lR]; exact decide_eq_false (by omega)) ?_
    have aM := aM.ext xx
    have aP := aP.ext xx
    have aQ := aQ.ext xx
    have xf := xf14.nil_trans xx
    clear hX hi hlt aR lR hrow xf14 xf13 x14 xx
    refine lfp_invh (I := fun μ σ h2 => ∃ (i : Nat) (bb : Bool), σ = ((i : Int), bb, ()) ∧ i ≤ (modelsF 8 M).length ∧ Ext [] h' h2 ∧ μ = (modelsF 8 M).length - i) ⟨_, 0, bb, rfl, by omega, Ext.refl' _ _, rfl⟩ ?_
    rintro μ σ h2 X ⟨i, bb, rfl, hi, xx, rfl⟩ hX
    simp only
    by_cases hlt : i < (modelsF 8 M).length
    · refine brT (by rw [lM]; exact decide_eq_true (by omega)) ?_
      refine rdG (aM.ext xx) hlt fun p hp => ?_
      have hm := List.getElem_mem hlt
      have h8 := row8 _ hm
      have lp := rsl_len hp
      refine brF (by rw [lp, h8]; rfl) ?_
      refine call_of evar ?_
      rintro _ h17 ⟨rfl, e⟩; subst e
      have hvp := varL_pos hx
      have ej : IntKind.wrap .i64 (varL x - 1) = (((varL x - 1).toNat : Nat) : Int) := by rw [wrap_i64 (by omega) (by omega)]; omega
      have hj : (varL x - 1).toNat < (modelsF 8 M)[i].length := by omega
      rw [ej]
      refine rdE (τ := .bool) hp hj ?_
      have etru : Go.Fo.tru (modelsF 8 M)[i] x = ((modelsF 8 M)[i][(varL x - 1).toNat] == decide (x > 0)) := by
        unfold Go.Fo.tru
        rw [List.getElem?_eq_getElem hj, Option.getD_some]
        rcases Int.lt_trichotomy x 0 with q | q | q
        · rw [decide_eq_true q, decide_eq_false (show ¬ x > 0 by omega)]; cases (modelsF 8 M)[i][(varL x - 1).toNat] <;> rfl
        · omega
        · rw [decide_eq_false (show ¬ x < 0 by omega), decide_eq_true (show x > 0 by omega)]; cases (modelsF 8 M)[i][(varL x - 1).toNat] <;> rfl
      refine jn_in fun J hJ => ?_
      have go : ∀ h3, Ext [] h17 h3 → J (bb, ()) h3 := fun h3 x3 => hJ _ _ (by
        simp only
        rw [inc_i (by omega)]
        exact hX _ _ _ ⟨i + 1, bb, rfl, by omega, xx.nil_trans x3, rfl⟩ (by omega))
      have anyT : ∀ {us : List (List Bool)}, (modelsF 8 M)[i] ∈ us → us.any (fun n => decide ((modelsF 8 M)[i] = n)) = true := fun {us} hu => List.any_eq_true.2 ⟨_, hu, by simp⟩
      cases ht : Go.Fo.tru (modelsF 8 M)[i] x
      · refine brF (by rw [← etru]; exact ht) ?_
        refine callF_of (parts1_c (aQ.ext xx) hp (by omega) (by omega)) ?_
        rintro _ h3 ⟨er, x3⟩
        have er : _ = true := er.trans (anyT (hmemB _ hm ht))
        subst er
        exact brF rfl (go _ x3)
      · refine brT (by rw [← etru]; exact ht) ?_
        refine callF_of (parts1_c (aP.ext xx) hp (by omega) (by omega)) ?_
        rintro _ h3 ⟨er, x3⟩
        have er : _ = true := er.trans (anyT (hmemA _ hm ht))
        subst er
        exact brF rfl (go _ x3)
    · refine brF (by rw [lM]; exact decide_eq_false (by omega)) ?_
      refine call_of fawake_c ?_
      rintro _ h3 ⟨rfl, x3⟩
      exact hK _ ((xf.nil_trans xx).nil_trans x3)

end Go.Proofs.S
