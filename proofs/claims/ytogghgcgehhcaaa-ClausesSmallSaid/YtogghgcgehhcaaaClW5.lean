/-
  ClausesNorm: the walk.
-/
import Derived.Test.YtogghgcgehhcaaaClW1
set_option linter.unusedVariables false
set_option linter.unusedSimpArgs false
namespace Go.Proofs.S
open Go Go.Sx Go.Proofs Go.Cl

variable {h : Heap} {c d e : List Int} {s s2 s3 : Sl}

/-! ### plain -/

theorem bits_exist : ∀ (n : Nat) (f : Nat → Bool), ∃ b, b < 2 ^ n ∧ ∀ v, v < n → ((b / 2 ^ v % 2 = 1) ↔ f v = true)
  | 0, f => ⟨0, by decide, fun v hv => by omega⟩
  | n + 1, f => by
    obtain ⟨b, hb, hv⟩ := bits_exist n (fun v => f (v + 1))
    refine ⟨2 * b + (if f 0 then 1 else 0), by rw [Nat.pow_succ]; split <;> omega, fun v hv' => ?_⟩
    cases v with
    | zero =>
      rw [Nat.pow_zero, Nat.div_one]
      cases f 0 <;> simp <;> omega
    | succ v =>
      have e : (2 * b + (if f 0 then 1 else 0)) / 2 ^ (v + 1) = b / 2 ^ v := by
        rw [Nat.pow_succ', ← Nat.div_div_eq_div_mul]
        have e2 : (2 * b + (if f 0 then 1 else 0)) / 2 = b := by split <;> omega
        rw [e2]
      rw [e]; exact hv v (by omega)

section plain
variable {a : List Int}

def Eight (a : List Int) : Prop := ∀ x ∈ a, (1 ≤ x ∧ x ≤ 8) ∨ (-8 ≤ x ∧ x ≤ -1)

theorem always_all (ra : rightC a = true) (h8 : Eight a) : alwaysC a = true ↔ ∀ b, b < 256 → holdsP a (modelP b) = true := by
  rw [always_iff]
  constructor
  · rintro ⟨x, hx, hn⟩ b hb
    rw [holds_iff ra]
    have key : ∀ y : Int, 1 ≤ y → y ≤ 8 → y ∈ modelP b ∨ -y ∈ modelP b := by
      intro y h1 h2
      have := mlit_abs b (y.toNat - 1)
      have e : ((y.toNat - 1 : Nat) : Int) + 1 = y := by omega
      rw [e] at this
      rcases this with h | h
      · exact .inl (mem_model.2 ⟨_, by omega, h⟩)
      · exact .inr (mem_model.2 ⟨_, by omega, h⟩)
    rcases h8 x hx with ⟨h1, h2⟩ | ⟨h1, h2⟩
    · rcases key x h1 h2 with h | h
      · exact ⟨x, hx, h⟩
      · exact ⟨-x, hn, h⟩
    · rcases key (-x) (by omega) (by omega) with h | h
      · exact ⟨-x, hn, h⟩
      · exact ⟨x, hx, by rwa [Int.neg_neg] at h⟩
  · intro hall
    obtain ⟨b, hb, hv⟩ := bits_exist 8 (fun v => a.contains ((v : Int) + 1))
    obtain ⟨x, hx, hm⟩ := (holds_iff ra).1 (hall b hb)
    obtain ⟨v, hv8, e⟩ := mem_model.1 hm
    have hb := hv v hv8
    unfold mlit at e
    by_cases h1 : b / 2 ^ v % 2 = 1
    · rw [if_pos h1] at e
      have := hb.1 h1
      rw [List.contains_iff_mem] at this
      exact ⟨(v : Int) + 1, this, by rw [e]; exact hx⟩
    · rw [if_neg h1] at e
      exact absurd (hb.2 (by rw [List.contains_iff_mem, e]; exact hx)) h1

theorem some_holds (ra : rightC a = true) (h8 : Eight a) {x : Int} (hx : x ∈ a) : ∃ b, b < 256 ∧ holdsP a (modelP b) = true := by
  obtain ⟨b, hb, hv⟩ := bits_exist 8 (fun _ => decide (x < 0))
  refine ⟨b, hb, (holds_iff ra).2 ⟨x, hx, mem_model.2 ?_⟩⟩
  have h := h8 x hx
  refine ⟨x.natAbs - 1, by omega, ?_⟩
  have hb := hv (x.natAbs - 1) (by omega)
  unfold mlit
  by_cases hneg : x < 0
  · rw [if_pos (hb.2 (by simpa using hneg))]; omega
  · rw [if_neg (fun hh => hneg (by simpa using hb.1 hh))]; omega

/-- How many models hold it. -/
def cnt (a : List Int) (i : Nat) : Nat := ((List.range i).filter fun b => holdsP a (modelP b)).length
theorem cnt_succ (a : List Int) (i : Nat) : cnt a (i + 1) = cnt a i + (if holdsP a (modelP i) then 1 else 0) := by
  unfold cnt
  rw [List.range_succ, List.filter_append, List.length_append]
  cases h : holdsP a (modelP i) <;> simp [h]
theorem cnt_le (a : List Int) (i : Nat) : cnt a i ≤ i := by
  have := List.length_filter_le (fun b => holdsP a (modelP b)) (List.range i)
  unfold cnt; simpa using this
theorem cnt_all (ra : rightC a = true) (h8 : Eight a) : alwaysC a = decide (cnt a 256 = 256) := by
  rw [Bool.eq_iff_iff, decide_eq_true_eq, always_all ra h8]
  have e : cnt a 256 = 256 ↔ ((List.range 256).filter fun b => holdsP a (modelP b)).length = (List.range 256).length := by rw [List.length_range]; exact Iff.rfl
  rw [e, List.length_filter_eq_length_iff]
  simp
theorem cnt_none (ra : rightC a = true) (h8 : Eight a) : (nrm a).length = 0 ↔ cnt a 256 = 0 := by
  constructor
  · intro h
    unfold cnt
    rw [List.length_eq_zero_iff, List.filter_eq_nil_iff]
    intro b _ hh
    obtain ⟨x, hx, _⟩ := (holds_iff ra).1 hh
    have := List.length_pos_of_mem ((mem_nrm ra).2 hx)
    omega
  · intro h
    unfold cnt at h
    rw [List.length_eq_zero_iff, List.filter_eq_nil_iff] at h
    rw [List.length_eq_zero_iff]
    refine List.eq_nil_iff_forall_not_mem.2 fun x hx => ?_
    obtain ⟨b, hb, hh⟩ := some_holds ra h8 ((mem_nrm ra).1 hx)
    exact h b (List.mem_range.2 hb) hh
end plain

theorem isSorted_c (hA : At h (li c s)) (hl : c.length ≤ 1099511627776) (hs : Strict c) : callT Try.prog fn_slices_IsSortedFunc_clauses_Clause_lits_Lit #[.slice s.a s.len s.cap, .func (.func fn_lits_Compare) #[] #[]] .bool (fun r h' => r = true ∧ Ext [] h h') h :=
  callT_gen fun K hK => S_slices_IsSortedFunc_clauses_Clause_lits_Lit (a0 := s) (a1 := .func (.func fn_lits_Compare) #[] #[]) K
    (w_isSorted (P := Try.prog) (τ := i64) (c := cmpLit) hA hl (fun x hx y hy h' _ => callF_of (compareF x y) fun r h2 ⟨e, e2⟩ => ⟨e, by rw [e2]; exact Ext.refl' _ _⟩)
      (fun i hi hlt => by
        have h1 := List.pairwise_iff_getElem.1 hs i (i + 1) (by omega) hi (by omega)
        have h2 : ltL c[i + 1] (c[i]'(by omega)) = true := by simpa [ltL] using hlt
        rw [ltL_asymm h1] at h2; cases h2) fun h' x => hK _ _ ⟨rfl, x⟩)

set_option maxRecDepth 20000 in
theorem clausesNorm_F {k : Int} (hA : At h (lu c s)) (uc : U8 c) (k0 : 0 ≤ k) (k1 : k ≤ 255)
    (K : Bool → HP) (hK : ∀ x h', (x = true ∧ Ext [] h h') → K x h') : F_salvorlaw02_ClausesNorm s k K h := by
  unfold F_salvorlaw02_ClausesNorm
  refine call_of (made_c hA uc) ?_
  rintro r0 h1 ⟨n1, x1⟩
  have ra := made_right uc
  have la := made_len c
  have h8 : Eight (madeP c) := made_range uc
  have ha := n1.at.rsl
  generalize madeP c = a at *
  have rn := right_nrm ra
  have ln := nrm_length a
  have en : normP a = (nrm a, alwaysC a, 0) := by unfold normP; rw [ra]; rfl
  have enn : normP (nrm a) = (nrm a, alwaysC a, 0) := by
    unfold normP; rw [rn, nrm_nrm ra]
    have : alwaysC (nrm a) = alwaysC a := by
      rw [Bool.eq_iff_iff, always_iff, always_iff]
      simp only [mem_nrm ra]
    rw [this]; rfl
  refine call_of (norm_c ha) ?_
  rintro _ h2 ⟨s2, rfl, n2, x2⟩
  rw [en] at n2
  rw [en]
  have hn : At h2 (li (nrm a) s2) := n2.at.rsl
  refine call_of (norm_c hn) ?_
  rintro _ h3 ⟨s3, rfl, n3, x3⟩
  rw [enn] at n3
  rw [enn]
  have hn3 : At h3 (li (nrm a) s3) := n3.at.rsl
  have ha := (ha.ext x2).ext x3
  have hn := hn.ext x3
  have xx := (x1.nil_trans x2).nil_trans x3
  clear n1 n2 n3 x1 x2 x3
  (change brB false _ _ _; rw [brB_false])
  simp only [beq_self_eq_true, Bool.not_true, brB_false]
  refine call_of (equal_clause hn3 hn (by omega)) ?_
  rintro _ hq ⟨rfl, rfl⟩
  simp only [decide_true, Bool.not_true, brB_false]
  refine call_of (normal_is_c hn) ?_
  rintro _ h4 ⟨rfl, x4⟩
  rw [rn, nrm_nrm ra]
  simp only [decide_true, Bool.true_and, Bool.not_true, brB_false]
  refine call_of (isSorted_c (hn.ext x4) (by omega) (strict_nrm ra)) ?_
  rintro _ h5 ⟨rfl, x5⟩
  have x5 := x4.nil_trans x5
  (change brB false _ _ _; rw [brB_false])
  refine call_of (wt (same_c (ha.ext x5) (hn.ext x5)) ((same_iff ra rn).2 fun x => (mem_nrm ra).symm)) ?_
  rintro _ h6 ⟨rfl, x6⟩
  have x6 := x5.nil_trans x6
  (change brB false _ _ _; rw [brB_false])
  have ha := ha.ext x6
  have hn := hn.ext x6
  have xx := xx.nil_trans x6
  clear x4 x5 x6 hn3
  have ls := rsl_len hn
  have lr := rsl_len ha
  have lc := rsl_cap ha
  -- its literals
  refine lfp_invh (I := fun m σ h' => ∃ i : Nat, σ = ((i : Int), false, ()) ∧ i ≤ (nrm a).length ∧ h' = h6 ∧ m = (nrm a).length - i) ⟨_, 0, rfl, by omega, rfl, rfl⟩ ?_
  rintro m σ h' X ⟨i, rfl, hi, rfl, em⟩ hX
  simp only
  by_cases hlt : i < (nrm a).length
  · rw [show decide ((i : Int) < (s2.len : Int)) = true by rw [ls]; exact dlt_t hlt, brB_true, inc_i (show i < 4611686018427387904 by omega)]
    refine rdE (τ := i64) hn hlt ?_
    refine call_of (contains_clause ha (by omega) (nrm a)[i]) ?_
    rintro _ hq ⟨rfl, rfl⟩
    rw [show a.contains (nrm a)[i] = true by rw [List.contains_iff_mem]; exact (mem_nrm ra).1 (List.getElem_mem hlt)]
    (change brB false _ _ _; rw [brB_false])
    by_cases h0 : 0 < i
    · rw [decide_eq_true (show (i : Int) > 0 by omega), brB_true, dec_i (by omega) h0]
      refine rdE (τ := i64) hn (show i - 1 < (nrm a).length by omega) ?_
      have := List.pairwise_iff_getElem.1 (strict_nrm ra) (i - 1) i (by omega) hlt (by omega)
      have e9 : ((nrm a)[i - 1]'(by omega) == (nrm a)[i]) = false := by
        rw [beq_eq_false_iff_ne]
        intro e
        rw [e, ltL_irrefl] at this
        cases this
      rw [e9, brB_false]
      exact hX _ _ _ ⟨i + 1, rfl, by omega, rfl, rfl⟩ (by omega)
    · rw [decide_eq_false (show ¬ (i : Int) > 0 by omega), brB_false]
      exact hX _ _ _ ⟨i + 1, rfl, by omega, rfl, rfl⟩ (by omega)
  rw [show decide ((i : Int) < (s2.len : Int)) = false by rw [ls]; exact dlt_f hlt, brB_false]
  clear hX hlt hi em
  -- those of the clause
  refine lfp_invh (I := fun m σ h2 => ∃ i : Nat, σ = ((i : Int), false, ()) ∧ i ≤ a.length ∧ Ext [] h' h2 ∧ m = a.length - i) ⟨_, 0, rfl, by omega, Ext.refl' _ _, rfl⟩ ?_
  rintro m2 σ2 h7 Y ⟨i, rfl, hi, y7, em⟩ hY
  simp only
  by_cases hlt : i < a.length
  · rw [show decide ((i : Int) < (r0.len : Int)) = true by rw [lr]; exact dlt_t hlt, brB_true, inc_i (show i < 4611686018427387904 by omega)]
    refine rdE (τ := i64) (ha.ext y7) hlt ?_
    refine call_of (contains_clause (hn.ext y7) (by omega) a[i]) ?_
    rintro _ hq ⟨rfl, rfl⟩
    rw [show (nrm a).contains a[i] = true by rw [List.contains_iff_mem]; exact (mem_nrm ra).2 (List.getElem_mem hlt)]
    (change brB false _ _ _; rw [brB_false])
    refine call_of (wt (has_c (ha.ext y7) a[i]) ((has_iff ra).2 (List.getElem_mem hlt))) ?_
    rintro _ h8' ⟨rfl, y8⟩
    (change brB false _ _ _; rw [brB_false])
    exact hY _ _ _ ⟨i + 1, rfl, by omega, y7.nil_trans y8, rfl⟩ (by omega)
  rw [show decide ((i : Int) < (r0.len : Int)) = false by rw [lr]; exact dlt_f hlt, brB_false]
  clear hY hlt hi em
  have ha := ha.ext y7
  have hn := hn.ext y7
  have xx := xx.nil_trans y7
  clear y7
  refine jn_in fun J hJ => ?_
  have key : ∀ at0 : Nat, at0 ≤ a.length → J ((at0 : Int), ()) h7 := by
    intro at0 hat
    refine hJ _ _ ?_
    have st := Hs.start h7 [li a r0, li (nrm a) s2] (by simp [ha, hn])
    refine ⟨Int.natCast_nonneg _, Int.ofNat_le.2 (show at0 ≤ r0.len by omega), ?_⟩
    refine ⟨Int.natCast_nonneg _, Int.ofNat_le.2 (show at0 ≤ r0.cap by omega), ?_⟩
    rw [Int.toNat_natCast]
    have hL : At h7 (li (a.drop at0) (slR ⟨r0.a, r0.len, r0.cap⟩ at0 (⟨r0.a, r0.len, r0.cap⟩ : Sl).len 1)) := by
      have := rsl_sub ha (l := at0) (m := a.length) hat (Nat.le_refl _)
      rw [List.take_length] at this
      rw [show (⟨r0.a, r0.len, r0.cap⟩ : Sl).len = a.length from lr]; exact this
    have hH : At h7 (li (a.take at0) (slR ⟨r0.a, r0.len, r0.cap⟩ 0 at0 1)) := by
      have := rsl_sub ha (l := 0) (m := at0) (Nat.zero_le _) hat
      rw [List.drop_zero] at this; exact this
    generalize slR ⟨r0.a, r0.len, r0.cap⟩ at0 (⟨r0.a, r0.len, r0.cap⟩ : Sl).len 1 = sL at hL ⊢
    generalize slR ⟨r0.a, r0.len, r0.cap⟩ 0 at0 1 = sH at hH ⊢
    refine st.nw fun b24 h8' st => ?_
    have x8 := st.frame (h0 := h7) (by simp)
    have lcat : (a.drop at0 ++ a.take at0).length = a.length := by simp; omega
    refine call_of (concat2_c (st.blk 0 rfl) (hL.ext x8) (hH.ext x8) (by rw [List.length_drop, List.length_take]; omega)) ?_
    rintro r25 h9 ⟨n9, x9⟩
    have hmem : ∀ x, x ∈ a.drop at0 ++ a.take at0 ↔ x ∈ a := fun x => by
      rw [List.mem_append, or_comm, ← List.mem_append, List.take_append_drop]
    have rc : rightC (a.drop at0 ++ a.take at0) = true := right_sub ra (by omega) fun x hx => (hmem x).1 hx
    have eo : nrm (a.drop at0 ++ a.take at0) = nrm a := nrm_congr (rightC_rt rc) (rightC_rt ra) hmem
    have eno : normP (a.drop at0 ++ a.take at0) = (nrm a, alwaysC (a.drop at0 ++ a.take at0), 0) := by unfold normP; rw [rc, eo]; rfl
    refine call_of (norm_c n9.at.rsl) ?_
    rintro _ h10 ⟨s10, rfl, n10, x10⟩
    rw [eno] at n10
    rw [eno]
    have x10 := (x8.nil_trans x9).nil_trans x10
    have ho : At h10 (li (nrm a) s10) := n10.at.rsl
    have ha := ha.ext x10
    have hn := hn.ext x10
    have xx := xx.nil_trans x10
    clear hL hH st x8 x9 x10 n9 n10
    -- the models
    refine lfp_invh (I := fun m σ h2 => ∃ i : Nat, σ = ((i : Int), (cnt a i : Int), false, ()) ∧ i ≤ 256 ∧ Ext [] h10 h2 ∧ m = 256 - i) ⟨_, 0, rfl, by omega, Ext.refl' _ _, rfl⟩ ?_
    rintro m3 σ3 h11 Z ⟨i, rfl, hi, y0, em⟩ hZ
    have hcl := cnt_le a i
    simp only
    by_cases hlt : i < 256
    · rw [show decide ((i : Int) < 256) = true from decide_eq_true (by omega), brB_true, inc_i (show i < 4611686018427387904 by omega), wrap_u8 (x := (i : Int)) (by omega) (by omega)]
      refine call_of (model_c hlt) ?_
      rintro s22 h22 ⟨n22, y1⟩
      have hm : At h22 (li (modelP i) s22) := n22.at.rsl
      have y1 := y0.nil_trans y1
      have lm := model_len i
      refine call_of (holds_c (ha.ext y1) hm (by omega)) ?_
      rintro _ h23 ⟨rfl, y2⟩
      have hm := hm.ext y2
      have y2 := y1.nil_trans y2
      refine call_of (holds_c (hn.ext y2) hm (by omega)) ?_
      rintro _ h24 ⟨rfl, y3⟩
      have hm := hm.ext y3
      have y3 := y2.nil_trans y3
      have eH : holdsP (nrm a) (modelP i) = holdsP a (modelP i) := by
        rw [Bool.eq_iff_iff, holds_iff rn, holds_iff ra]; simp only [mem_nrm ra]
      rw [eH, beq_self_eq_true]
      (change brB false _ _ _; rw [brB_false])
      refine call_of (holds_c (ha.ext y3) hm (by omega)) ?_
      rintro _ h25 ⟨rfl, y4⟩
      have y4 := y3.nil_trans y4
      refine jn_in fun J2 hJ2 => ?_
      have nx := hZ _ _ h25 ⟨i + 1, rfl, by omega, y4, rfl⟩ (by omega)
      rw [cnt_succ] at nx
      rw [inc_i (show cnt a i < 4611686018427387904 by omega)]
      cases hh : holdsP a (modelP i) with
      | true => rw [brB_true]; rw [hh] at nx; exact hJ2 _ _ nx
      | false => rw [brB_false]; rw [hh] at nx; exact hJ2 _ _ nx
    · rw [show decide ((i : Int) < 256) = false from decide_eq_false (by omega), brB_false]
      have ei : i = 256 := by omega
      subst ei
      (change brB true _ _ _; rw [brB_true])
      refine call_of (equal_clause (ho.ext y0) (hn.ext y0) (by omega)) ?_
      rintro _ hq ⟨rfl, rfl⟩
      simp only [decide_true, brB_true]
      have e1 : (alwaysC a == ((cnt a 256 : Int) == 256)) = true := by
        rw [cnt_all ra h8, beq_iff_eq, Bool.eq_iff_iff, decide_eq_true_eq, beq_iff_eq]; omega
      have e2 : (((s2.len : Int) == 0) == ((cnt a 256 : Int) == 0)) = true := by
        have := cnt_none ra h8
        rw [beq_iff_eq, Bool.eq_iff_iff, beq_iff_eq, beq_iff_eq, ls]; omega
      rw [e1, brB_true, e2, brB_true]
      exact call_of awake_c fun r h' e => hK r h' ⟨e.1, (xx.nil_trans y0).nil_trans e.2⟩
  by_cases h0 : 0 < a.length
  · rw [decide_eq_true (show (r0.len : Int) > 0 by omega), brB_true]
    refine ⟨by omega, ?_⟩
    rw [wrap_i64 (x := k) (by omega) (by omega), Int.tmod_eq_emod_of_nonneg k0, lr]
    have e : k % (a.length : Int) = ((k.toNat % a.length : Nat) : Int) := by
      rw [Int.natCast_emod, Int.toNat_of_nonneg k0]
    rw [e]
    exact key _ (Nat.le_of_lt (Nat.mod_lt _ h0))
  · rw [decide_eq_false (show ¬ (r0.len : Int) > 0 by omega), brB_false]
    exact key 0 (Nat.zero_le _)

end Go.Proofs.S
