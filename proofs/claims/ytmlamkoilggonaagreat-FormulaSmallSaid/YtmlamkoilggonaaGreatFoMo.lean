/-
  FormulaMore, walked.
-/
import Derived.Test.YtmlamkoilggonaaGreatSxRw
set_option linter.unusedVariables false
set_option linter.unusedSimpArgs false
namespace Go.Proofs.S
open Go Go.Sx Go.Proofs Go.Cl

variable {h : Heap} {c d : List Int} {s s2 : Sl} {fr : Fr} {G As : List Asn} {m : List Bool} {sm : Sl} {k k2 : List Bool}

theorem wlen (c : List Int) (l : Int) : (withoutP c l).1.length ≤ c.length := by
  unfold withoutP
  split
  · split
    · exact Nat.le_trans (List.length_filter_le _ _) (nrm_length c)
    · simp
  · simp
theorem mem_res {a b : List Int} {x : Int} (ra : rightC a = true) (rb : rightC b = true) (rx : rt x = true) (hl : a.length + b.length ≤ 4096) (ha : x ∈ a) (hb : -x ∈ b) :
    resolveP a b x = (nrm ((withoutP a x).1 ++ (withoutP b (-x)).1), 0) ∧ rightC (nrm ((withoutP a x).1 ++ (withoutP b (-x)).1)) = true ∧
      ∀ y, y ∈ nrm ((withoutP a x).1 ++ (withoutP b (-x)).1) ↔ (y ∈ a ∧ y ≠ x) ∨ (y ∈ b ∧ y ≠ -x) := by
  have h1 := right_without ra x
  have h2 := right_without rb (-x)
  have l1 := wlen a x
  have l2 := wlen b (-x)
  have h3 := right_app h1 h2 (by omega)
  refine ⟨?_, right_nrm h3, fun y => ?_⟩
  · unfold resolveP
    rw [ra, rb, rx, show a.contains x = true by simpa using ha, show b.contains (-x) = true by simpa using hb]
    simp only [Bool.and_self, if_true]
    exact union_eq h1 h2 (by omega)
  · rw [mem_nrm h3, List.mem_append, mem_without ra rx, mem_without rb (rt_neg rx)]
theorem res_holds {a b : List Int} {x : Int} (ra : rightC a = true) (rb : rightC b = true) (ga : ∀ z ∈ a, beyP 8 z = false) (gb : ∀ z ∈ b, beyP 8 z = false) (rx : rt x = true) (hl : a.length + b.length ≤ 4096) (ha : x ∈ a) (hb : -x ∈ b) :
    (resolveP a b x).2 = 0 ∧ ∀ m : List Bool, m.length = 8 → a.any (trueIn m) = true → b.any (trueIn m) = true → holdsF (resolveP a b x).1 m = true := by
  obtain ⟨e, hr, hm⟩ := mem_res ra rb rx hl ha hb
  rw [e]
  refine ⟨rfl, fun m hm8 h1 h2 => ?_⟩
  simp only
  rw [holdsF_good hr (fun z hz => ((hm z).1 hz).elim (fun q => ga z q.1) (fun q => gb z q.1)) hm8]
  rw [List.any_eq_true] at h1 h2 ⊢
  obtain ⟨y, hy, ty⟩ := h1
  obtain ⟨z, hz, tz⟩ := h2
  by_cases q : y = x
  · subst q
    refine ⟨z, (hm z).2 (.inr ⟨hz, fun e => ?_⟩), tz⟩
    rw [e, trueIn_neg rx, ty] at tz; cases tz
  · exact ⟨y, (hm y).2 (.inl ⟨hy, q⟩), ty⟩

abbrev llb (xs : List (List Bool)) (s : Sl) : Asn := rsg (fun c p => lb c p) xs s
theorem containsFunc_bools {fv : Value} {p : List Bool → Bool} {us : List (List Bool)} (hA : At h (llb us s)) (hl : us.length ≤ 1099511627776)
    (hc : ∀ x ∈ us, ∀ q h', Ext [] h h' → At h' (lb x q) → callF Tryz.prog fv #[Ty.sl.enc q] .bool (fun b h2 => b = p x ∧ Ext [] h' h2) h') :
    callT Tryz.prog fn_slices_ContainsFunc_bool_bool #[.slice s.a s.len s.cap, fv] .bool (fun r h' => r = us.any p ∧ Ext [] h h') h := by
  refine callT_gen fun K hK => S_slices_ContainsFunc_bool_bool (a0 := s) (a1 := fv) K ?_
  unfold F_slices_ContainsFunc_bool_bool
  refine call_of (R := fun r h' => r = fidx p us ∧ Ext [] h h') (callT_gen fun K hK => S_slices_IndexFunc_bool_bool (a0 := s) (a1 := fv) K (w_indexFuncG hA hl hc fun h' x => hK _ _ ⟨rfl, x⟩)) ?_
  rintro r h2 ⟨er, x⟩
  have er : r = fidx p us := er
  subst er
  exact hK _ _ ⟨fidx_ge _ _, x⟩
theorem lob_llb {xs : List (List Bool)} (hA : At h (osg (fun c p => ob c p) ty_sl_bool xs s)) : At h (llb xs s) := rsgA_mono (fun c p S h q => osl_rsl q) (At.rsg hA)

theorem more1_c {b : Nat} (kb : Blk h b ty_clauses_Clause [.slice s.a s.len s.cap]) (hA : At h (li c s)) (hm : At h (lb m sm)) :
    callT Tryz.prog fn_salvorlaw05_FormulaMore_1 #[.slice sm.a sm.len sm.cap, .pointer (some ⟨b, 0, none⟩)] .bool (fun r h' => r = !holdsF c m ∧ Ext [] h h') h := by
  refine callT_gen fun K hK => S_salvorlaw05_FormulaMore_1 (a0 := sm) (c0 := ⟨b, 0, none⟩) K ?_
  unfold F_salvorlaw05_FormulaMore_1
  rw [ld_sl (i := 0) kb rfl]
  refine call_of (fholds_c hA hm) ?_
  rintro _ h2 ⟨rfl, x⟩
  exact hK _ _ ⟨rfl, x⟩

theorem snoc_at {x : List Int} {p : Sl} {ps : List Sl} {cs : List (List Int)} (h1 : At h (osl ty_clauses_Clause Ty.sl.enc (ps ++ [p]) s)) (h2 : At h (inn (fun c p => lo c p) cs ps)) (h3 : At h (lo x p)) : At h (lli (cs ++ [x]) s) := by
  obtain ⟨S1, p1⟩ := h1
  obtain ⟨S2, p2⟩ := h2
  obtain ⟨S3, p3⟩ := h3
  have p4 := Inner.snoc p2 p3
  exact ⟨S1 ++ (S2 ++ S3), ps ++ [p], S1, S2 ++ S3, rfl, osl_rsl p1, finner_mono (fun c p S h q => osl_rsl q) p4⟩

theorem formulaMore_F {cs : List (List Int)} {e : List Int} {w : Int} (hA : At h (llu cs s)) (hu : ∀ c ∈ cs, U8 c) (hB : At h (lu e s2)) (hue : U8 e) (hw : 0 ≤ w ∧ w ≤ 255) (K : Bool → HP) (hK : ∀ x h', (x = true ∧ Ext [] h h') → K x h') : F_salvorlaw05_FormulaMore s s2 w K h := by
  unfold F_salvorlaw05_FormulaMore
  obtain ⟨w, rfl⟩ := Int.eq_ofNat_of_zero_le hw.1
  refine call_of (lawMade_c hA hu) ?_
  rintro _ h1 ⟨r0, rfl, n1, x1⟩
  have hgood := madeF_good cs
  have hml := madeF_len cs
  have hG8 := good8 cs
  have hsz : ∀ c ∈ madeF cs, c.length ≤ 20 := fun c hc => by
    obtain ⟨l, _, rfl⟩ := List.mem_map.1 hc
    unfold madeP; simp; omega
  generalize madeF cs = M at *
  have st := ((Hs.start h [lu e s2] (by simp [hB])).new x1 n1).freeze 0 rfl
  simp only [List.nil_append, List.cons_append, List.eraseIdx_cons_zero] at st
  refine call_of (made_c (st.fz 0 rfl) hue) ?_
  rintro r1 h2 ⟨n2, x2⟩
  have hmo := madeP_good e
  generalize madeP e = mo at *
  have st := (st.new x2 n2).freeze 0 rfl
  simp only [List.nil_append, List.cons_append, List.eraseIdx_cons_zero] at st
  have lM := rsg_len (llo_at (st.fz 1 rfl))
  refine st.nw fun b2 h3 st => ?_
  simp only [addr_add, Nat.zero_add, List.nil_append]
  refine st.st1 0 0 rfl (by simp) fun h4 st => ?_
  refine st.st1 0 1 rfl (by simp) fun h5 st => ?_
  simp only [List.nil_append, List.set_cons_zero, List.set_cons_succ] at st
  have st := st.freeze 0 rfl
  simp only [List.nil_append, List.cons_append, List.eraseIdx_cons_zero] at st
  refine ldF (s := r0) (st.fblk 3 rfl) ?_
  refine call_of (collected_c (v := 8) (llo_at (st.fz 1 rfl)) hG8 (by decide)) ?_
  rintro _ h6 ⟨r4, rfl, n6, x6⟩
  have st := (st.new x6 n6).freeze 0 rfl
  simp only [List.nil_append, List.cons_append, List.eraseIdx_cons_zero] at st
  refine ldF (s := r0) (st.fblk 3 rfl) ?_
  refine call_of (copy_c (n := 8) (llo_at (st.fz 1 rfl)) (by omega) fun c hc => by have := hsz c hc; omega) ?_
  rintro _ h7 ⟨r6, rfl, n7, x7⟩
  have st := st.new x7 n7
  refine st.nw fun b7 h8 st => ?_
  simp only [addr_add, Nat.zero_add, List.nil_append, List.cons_append] at st ⊢
  refine st.st1 1 0 rfl (by simp) fun h9 st => ?_
  refine st.st1 1 1 rfl (by simp) fun h10 st => ?_
  simp only [List.set_cons_zero, List.set_cons_succ] at st
  rw [st.lds 1 1 rfl rfl]
  refine st.nw fun b9 h11 st => ?_
  simp only [List.nil_append, List.cons_append] at st
  obtain ⟨ps, hps, st⟩ := st.openG 0 rfl
  simp only [List.nil_append, List.cons_append, List.set_cons_zero, List.set_cons_succ] at st
  refine Hs.apd (enc := Ty.sl.enc) (v := r1) st 0 2 rfl rfl (by decide) rfl (by omega) (by decide) rfl fun s10 h12 st => ?_
  simp only [List.set_cons_zero, List.set_cons_succ] at st
  refine st.st1 1 1 rfl (by simp) fun h13 st => ?_
  simp only [List.set_cons_zero, List.set_cons_succ] at st
  refine ldF (s := s10) (st.blk 1 rfl) ?_
  have hG9 : GoodF 8 (M ++ [mo]) := ⟨hG8.1, by simp; omega, fun c hc => by
    rcases List.mem_append.1 hc with hc | hc
    · exact hgood c hc
    · rw [List.mem_singleton.1 hc]; exact hmo⟩
  refine call_of (collected_c (v := 8) (snoc_at (st.own 0 rfl) (st.own 3 rfl) (st.fz 2 rfl)) hG9 (by decide)) ?_
  rintro _ h14 ⟨r12, rfl, n14, x14⟩
  have st := (((((st.drop 3 rfl).drop 2 rfl).drop 1 rfl).drop 0 rfl).new x14 n14).freeze 0 rfl
  simp only [List.nil_append, List.cons_append, List.eraseIdx_cons_zero, List.eraseIdx_cons_succ] at st
  rw [models_snoc] at st
  have hrow : ∀ m ∈ modelsF 8 M, m.length = 8 ∧ ∀ c ∈ M, c.any (trueIn m) = true := fun m hm => mem_models.1 hm
  have hle := modelsF_le 8 M (by decide)
  generalize modelsF 8 M = A at *
  simp only
  rw [Bool.not_true, brB_false, brB_false]
  have l4 := rsg_len (lob_llb (st.fz 4 rfl))
  have l12 := rsg_len (lob_llb (st.fz 5 rfl))
  obtain ⟨G, hG⟩ : ∃ G : List Asn, G = [lu e s2, llo M r0, lo mo r1, cF b2 8 r0, osg (fun c p => ob c p) ty_sl_bool A r4, osg (fun c p => ob c p) ty_sl_bool (A.filter fun m => mo.any (trueIn m)) r12] := ⟨_, rfl⟩
  have st : Hs [([], h)] G [] h14 := by rw [hG]; exact st
  have g1 : G[1]? = some (llo M r0) := by rw [hG]; rfl
  have g2 : G[2]? = some (lo mo r1) := by rw [hG]; rfl
  have g3 : G[3]? = some (cF b2 8 r0) := by rw [hG]; rfl
  have g4 : G[4]? = some (osg (fun c p => ob c p) ty_sl_bool A r4) := by rw [hG]; rfl
  have g5 : G[5]? = some (osg (fun c p => ob c p) ty_sl_bool (A.filter fun m => mo.any (trueIn m)) r12) := by rw [hG]; rfl
  clear hG
  refine lfp_invh (I := fun μ σ h' => ∃ i : Nat, σ = ((i : Int), (((A.take i).filter fun m => mo.any (trueIn m)).length : Int), false, ()) ∧ i ≤ A.length ∧ Hs [([], h)] G [] h' ∧ μ = A.length - i) ⟨_, 0, rfl, by omega, st, rfl⟩ ?_
  clear st
  rintro μ σ h15 X ⟨i, rfl, hi, st, em⟩ hX
  simp only
  by_cases hlt : i < A.length
  · rw [decide_eq_true (show (i : Int) < (r4.len : Int) by omega), brB_true, inc_i (show i < 4611686018427387904 by omega)]
    refine rdG (lob_llb (st.fz 4 g4)) hlt fun p hp => ?_
    have hr := hrow _ (List.getElem_mem hlt)
    refine call_of (fholds_c (st.fz 2 g2).rsl hp) ?_
    rintro r h16 ⟨er, x16⟩
    have er : r = mo.any (trueIn A[i]) := er.trans (holdsF_good hmo.1 hmo.2 hr.1)
    subst er
    have st := st.ext x16
    refine jn_in fun J hJ => ?_
    have fin : ∀ (v : Int) (h' : Heap), v = (((A.take (i + 1)).filter fun m => mo.any (trueIn m)).length : Int) → Hs [([], h)] G [] h' → J (v, false, ()) h' := by
      rintro v h' rfl st
      exact hJ _ _ (hX _ _ _ ⟨i + 1, rfl, by omega, st, rfl⟩ (by omega))
    rw [take_succ_getE hlt, List.filter_append] at fin
    by_cases hmt : mo.any (trueIn A[i]) = true
    · have hfa := filter_at (p := fun m => mo.any (trueIn m)) hlt hmt []
      rw [hmt, brB_true, decide_eq_false (show ¬ (((A.take i).filter fun m => mo.any (trueIn m)).length : Int) ≥ (r12.len : Int) by omega), brB_false]
      refine rdG (lob_llb (st.fz 5 g5)) hfa.1 fun q hq => ?_
      have e2 := hfa.2
      rw [List.getD_eq_getElem?_getD, List.getElem?_eq_getElem hfa.1, Option.getD_some] at e2
      rw [e2] at hq
      refine call_of (equal_bools hq (hp.ext x16) (by omega)) ?_
      rintro r hqq ⟨er, rfl⟩
      have er : r = true := er.trans (by simp)
      subst er
      rw [Bool.not_true, brB_false]
      have hfl : ((A.take i).filter fun m => mo.any (trueIn m)).length ≤ i := Nat.le_trans (List.length_filter_le _ _) (by simp; omega)
      rw [inc_i (show ((A.take i).filter fun m => mo.any (trueIn m)).length < 4611686018427387904 by omega)]
      refine fin _ _ ?_ st
      rw [List.filter_cons_of_pos (p := fun m => mo.any (trueIn m)) hmt, List.filter_nil, List.length_append]; rfl
    · rw [Bool.not_eq_true] at hmt
      rw [hmt, brB_false]
      refine fin _ _ ?_ st
      rw [List.filter_cons_of_neg (p := fun m => mo.any (trueIn m)) (by rw [hmt]; decide), List.filter_nil, List.append_nil]
  rw [decide_eq_false (show ¬ (i : Int) < (r4.len : Int) by omega), brB_false, List.take_of_length_le (by omega)]
  rw [show ((((A.filter fun m => mo.any (trueIn m)).length : Int)) != (r12.len : Int)) = false by rw [l12]; simp, brB_false]
  clear hX X em hlt hi
  rw [ld_sl (i := 1) (st.fblk 3 g3) rfl]
  refine lfp_invh (I := fun μ σ h' => ∃ i : Nat, σ = ((i : Int), false, ()) ∧ i ≤ M.length ∧ Hs [([], h)] G [] h' ∧ μ = M.length - i) ⟨_, 0, rfl, by omega, st, rfl⟩ ?_
  clear st
  rintro μ σ h16 X ⟨i, rfl, hi, st, em⟩ hX
  simp only
  by_cases hlt : i < M.length
  · rw [decide_eq_true (show (i : Int) < (r0.len : Int) by omega), brB_true, inc_i (show i < 4611686018427387904 by omega)]
    refine rdG (llo_at (st.fz 1 g1)) hlt fun p hp => ?_
    rw [ld_sl (i := 1) (st.fblk 3 g3) rfl]
    have c0 := rsgcap (llo_at (st.fz 1 g1))
    refine ⟨Int.natCast_nonneg _, Int.ofNat_le.2 (show i ≤ r0.cap by omega), ?_⟩
    rw [Int.toNat_natCast]
    have hS := rsgtake (llo_at (st.fz 1 g1)) (n := i) (by omega)
    generalize slR ⟨r0.a, r0.len, r0.cap⟩ 0 i 1 = s29 at *
    have l29 := rsg_len hS
    rw [List.length_take] at l29
    have st0 := st
    have s1 := Hs.start h16 [li M[i] p, lli (M.take i) s29, osg (fun c p => ob c p) ty_sl_bool A r4] (by
      intro B hB
      simp only [List.mem_cons, List.not_mem_nil, or_false] at hB
      rcases hB with rfl | rfl | rfl
      · exact hp
      · exact hS
      · exact st.fz 4 g4)
    refine lfp_invh (I := fun μ σ h' => ∃ j : Nat, σ = ((j : Int), false, ()) ∧ j ≤ i ∧ Hs [([], h16)] [li M[i] p, lli (M.take i) s29, osg (fun c p => ob c p) ty_sl_bool A r4] [] h' ∧ μ = i - j) ⟨_, 0, rfl, by omega, s1, rfl⟩ ?_
    clear s1 st
    rintro μ2 σ h17 X2 ⟨j, rfl, hj, st, em2⟩ hX2
    simp only
    by_cases hlt2 : j < i
    · rw [decide_eq_true (show (j : Int) < (s29.len : Int) by omega), brB_true]
      refine jn_in fun J hJ => ?_
      have fin : ∀ h', Hs [([], h16)] [li M[i] p, lli (M.take i) s29, osg (fun c p => ob c p) ty_sl_bool A r4] [] h' → J (false, ()) h' := fun h' st => hJ _ _ (by
        simp only
        rw [inc_i (show j < 4611686018427387904 by omega)]
        exact hX2 _ _ _ ⟨j + 1, rfl, by omega, st, rfl⟩ (by omega))
      refine rdG (st.fz 1 rfl) (show j < (M.take i).length by rw [List.length_take]; omega) fun q hq => ?_
      rw [List.getElem_take] at hq
      obtain ⟨rx, gx⟩ := hgood _ (List.getElem_mem hlt)
      obtain ⟨ry, gy⟩ := hgood _ (List.getElem_mem (show j < M.length by omega))
      have zx := hsz _ (List.getElem_mem hlt)
      have zy := hsz _ (List.getElem_mem (show j < M.length by omega))
      have mx := List.getElem_mem hlt
      have my := List.getElem_mem (show j < M.length by omega)
      refine call_of (clashes_c (st.fz 0 rfl) hq) ?_
      rintro _ h18 ⟨r36, rfl, n18, x18⟩
      have ecl : clashesP M[i] M[j] = ((nrm M[i]).filter (fun l => M[j].contains (-l)), 0) := by unfold clashesP; rw [rx, ry]; rfl
      rw [ecl] at n18 ⊢
      have st := st.new x18 n18
      simp only [List.nil_append] at st
      simp only
      rw [show ((0 : Int) != 0) = false from rfl, brB_false]
      have l36 := osl_len (st.own 0 rfl)
      have hmem : ∀ l ∈ (nrm M[i]).filter (fun l => M[j].contains (-l)), l ∈ M[i] ∧ -l ∈ M[j] := fun l hl => by
        obtain ⟨q1, q2⟩ := List.mem_filter.1 hl
        exact ⟨(mem_nrm rx).1 q1, by simpa using q2⟩
      have hcl : ((nrm M[i]).filter (fun l => M[j].contains (-l))).length ≤ 4096 := Nat.le_trans (List.length_filter_le _ _) (Nat.le_trans (nrm_length _) (rightC_len rx))
      generalize (nrm M[i]).filter (fun l => M[j].contains (-l)) = C at *
      by_cases hz : C.length = 0
      · rw [show ((r36.len : Int) == 0) = true by rw [l36, hz]; rfl, brB_true]
        exact fin _ (st.drop 0 rfl)
      · rw [show ((r36.len : Int) == 0) = false by rw [beq_eq_false_iff_ne]; omega, brB_false]
        refine ⟨by omega, ?_⟩
        have ew : Int.tmod (IntKind.wrap .i64 (w : Int)) (r36.len : Int) = ((w % C.length : Nat) : Int) := by
          rw [wrap_i64 (by omega) (by omega), Int.tmod_eq_emod_of_nonneg (by omega), l36]; exact (Int.natCast_emod _ _).symm
        rw [ew]
        have hwl : w % C.length < C.length := Nat.mod_lt _ (by omega)
        refine rdE (τ := i64) (st.own 0 rfl).rsl hwl ?_
        obtain ⟨ha, hb⟩ := hmem _ (List.getElem_mem hwl)
        generalize C[w % C.length] = by_ at *
        have rb : rt by_ = true := rightC_rt rx by_ ha
        obtain ⟨e0, hh⟩ := res_holds rx ry gx gy rb (by omega) ha hb
        refine call_of (resolve_c (st.fz 0 rfl) (hq.ext x18) by_) ?_
        rintro _ h19 ⟨r39, rfl, n19, x19⟩
        have st := st.new x19 n19
        simp only [List.nil_append, List.cons_append] at st
        refine st.nw fun b40 h20 st => ?_
        simp only [List.nil_append, List.cons_append] at st
        refine st.st1 2 0 rfl (by simp) fun h21 st => ?_
        simp only [List.set_cons_zero, List.set_cons_succ] at st
        rw [e0, show ((0 : Int) != 0) = false from rfl, brB_false]
        refine call_of (containsFunc_bools (p := fun m => !holdsF (resolveP M[i] M[j] by_).1 m) (lob_llb (st.fz 2 rfl)) (by omega) fun m hm q h' x' hq' => ?_) ?_
        · exact callF_func (more1_c ((st.blk 2 rfl).ext x' (by simp)) ((st.own 1 rfl).rsl.ext x') hq')
        rintro r h22 ⟨er, x22⟩
        have er : r = false := er.trans (by
          rw [List.any_eq_false]
          intro m hm
          have hr := hrow m hm
          rw [hh m hr.1 (hr.2 _ mx) (hr.2 _ my)]; decide)
        subst er
        rw [brB_false]
        exact fin _ ((((st.ext x22).drop 2 rfl).drop 1 rfl).drop 0 rfl)
    rw [decide_eq_false (show ¬ (j : Int) < (s29.len : Int) by omega), brB_false]
    exact hX _ _ _ ⟨i + 1, rfl, by omega, st0.ext (st.frame (by simp)), rfl⟩ (by omega)
  rw [decide_eq_false (show ¬ (i : Int) < (r0.len : Int) by omega), brB_false]
  refine call_of fawake_c ?_
  rintro _ h23 ⟨rfl, x23⟩
  exact hK _ _ ⟨rfl, (st.ext x23).frame (by simp)⟩

end Go.Proofs.S
