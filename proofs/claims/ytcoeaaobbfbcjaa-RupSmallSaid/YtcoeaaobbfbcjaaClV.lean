/-
  The laws' helpers: one, pair.
-/
import Derived.Test.YtcoeaaobbfbcjaaSxW3
import Derived.Test.YtcoeaaobbfbcjaaRuE
import Derived.Test.YtcoeaaobbfbcjaaRuR
import Derived.Test.YtcoeaaobbfbcjaaClC
set_option linter.unusedVariables false
set_option linter.unusedSimpArgs false
namespace Go.Proofs.S
open Go Go.Sx Go.Proofs Go.Cl

variable {h : Heap} {c d : List Int} {s s2 : Sl} {fr : Fr} {G As : List Asn}

theorem withoutP_len (c : List Int) (l : Int) : (withoutP c l).1.length ≤ c.length := by
  unfold withoutP
  split
  · split
    · exact Nat.le_trans (List.length_filter_le _ _) (nrm_length c)
    · exact Nat.zero_le _
  · exact Nat.zero_le _

/-- All of a row is made 0. -/
theorem zero_loop (st : Hs fr G As h) (k : Nat) (hk : As[k]? = some (lo c s)) (hl : c.length ≤ 1099511627776) {Kn : HP} (hK : ∀ c' h', Hs fr G (As.set k (lo c' s)) h' → Kn h') :
    lfp (σ := (Int × Unit)) (fun X s26 => brB (decide (s26.1 < (s.len : Int))) (sx s.a s.len s26.1 1 fun p27 => Sx.st1 p27 (.int .i64 (0 : Int)) <| X ((IntKind.wrap .i64 (s26.1 + (1 : Int))), ())) Kn) ((0 : Int), ()) h := by
  have hkl := (List.getElem?_eq_some_iff.1 hk).1
  have l1 := osl_len (st.own k hk)
  refine lfp_invh (I := fun m σ h' => ∃ (i : Nat) (c' : List Int), σ = ((i : Int), ()) ∧ i ≤ c.length ∧ c'.length = c.length ∧ Hs fr G (As.set k (lo c' s)) h' ∧ m = c.length - i)
    ⟨_, 0, c, rfl, by omega, rfl, by
      have e : As.set k (lo c s) = As := by
        have := (List.getElem?_eq_some_iff.1 hk).2
        rw [← this]; exact List.set_getElem_self hkl
      rw [e]; exact st, rfl⟩ ?_
  rintro m σ h' X ⟨i, c', rfl, hi, hc, st, em⟩ hX
  simp only
  by_cases hlt : i < c.length
  · rw [show decide ((i : Int) < (s.len : Int)) = true by rw [l1]; exact dlt_t hlt, brB_true, inc_i (show i < 4611686018427387904 by omega)]
    refine Hs.wrE (τ := i64) st k (xs := c') (by rw [List.getElem?_set, if_pos rfl, if_pos hkl]) (show i < c'.length by omega) 0 fun h2 st2 => ?_
    refine hX _ _ _ ⟨i + 1, c'.set i 0, rfl, by omega, by simpa using hc, ?_, rfl⟩ (by omega)
    rw [List.set_set] at st2; exact st2
  · rw [show decide ((i : Int) < (s.len : Int)) = false by rw [l1]; exact dlt_f hlt, brB_false]
    exact hK c' h' st

end Go.Proofs.S

/-
  RupLooks.
-/
set_option linter.unusedVariables false
set_option linter.unusedSimpArgs false
namespace Go.Proofs.S
open Go Go.Sx Go.Proofs Go.Cl Go.Rp

variable {h : Heap} {c d A us : List Int} {cs ds hs : List (List Int)} {s s2 : Sl} {fr : Fr} {G As : List Asn} {b : Nat}

theorem Ints_c (hA : At h (li c s)) (hl : c.length ≤ 1048576) : callT Try.prog fn_salvorlaw08_Ints #[.slice s.a s.len s.cap] .sl (fun s' h' => New h.size h' (iox c s') ∧ Ext [] h h') h := by
  refine callT_gen fun K hK => S_salvorlaw08_Ints (a0 := s) K ?_
  unfold F_salvorlaw08_Ints
  have l1 := rsl_len hA
  have st := (Hs.start h [li c s] (by simp [hA])).nil ty_int i64.enc none
  refine lfp_invh (I := fun m σ h' => ∃ (i : Nat) (o : Sl), σ = ((i : Int), o, ()) ∧ i ≤ c.length ∧ m = c.length - i ∧ Hs [([], h)] [li c s] [iox (c.take i) o] h') ⟨_, 0, ⟨none, 0, 0⟩, rfl, by omega, rfl, st⟩ ?_
  clear st
  rintro m σ h' X ⟨i, o, rfl, hi, rfl, st⟩ hX
  simp only
  by_cases hlt : i < c.length
  · refine brT (by rw [l1]; exact dlt_t hlt) ?_
    rw [inc_i (by omega)]
    refine rdE (τ := i64) (st.fz 0 rfl) hlt ?_
    refine st.nw fun b4 h2 st => ?_
    refine st.apd (enc := i64.enc) (v := c[i]) 0 1 rfl rfl (by decide) rfl (by simp; omega) (by decide) rfl fun s5 h3 st => ?_
    have st := st.drop 1 rfl
    refine hX _ _ _ ⟨i + 1, s5, rfl, by omega, rfl, ?_⟩ (by omega)
    rw [take_lt hlt]; exact st
  · refine brF (by rw [l1]; exact dlt_f hlt) ?_
    rw [List.take_of_length_le (by omega)] at st
    exact hK _ _ ⟨st.res (by simp) 0 rfl, st.frame (by simp)⟩

theorem cloneC_c {K : Sl → HP} (st : Hs fr G As h) (hy : At h (li c s)) (hlen : c.length ≤ 1048576) (hK : ∀ s' h', Hs fr G (As ++ [lo c s']) h' → K s' h') :
    callT Try.prog fn_slices_Clone_clauses_Clause_lits_Lit #[.slice s.a s.len s.cap] .sl K h :=
  S_slices_Clone_clauses_Clause_lits_Lit (a0 := s) K (Hs.clone (τ := i64) (t := ty_lits_Lit) (by_ := 8) (z := .int .i64 0) st hy leaf_int (by omega) (by decide) hK)

/-- All of a row is made 99. -/
theorem fill_loop (st : Hs fr G As h) (k : Nat) (hk : As[k]? = some (lo c s)) (hl : c.length ≤ 1099511627776) {Kn : HP} (hK : ∀ c' h', Hs fr G (As.set k (lo c' s)) h' → Kn h') :
    lfp (σ := (Int × Unit)) (fun X s26 => brB (decide (s26.1 < (s.len : Int))) (sx s.a s.len s26.1 1 fun p27 => Sx.st1 p27 (.int .i64 (99 : Int)) <| X ((IntKind.wrap .i64 (s26.1 + (1 : Int))), ())) Kn) ((0 : Int), ()) h := by
  have hkl := (List.getElem?_eq_some_iff.1 hk).1
  have l1 := osl_len (st.own k hk)
  refine lfp_invh (I := fun m σ h' => ∃ (i : Nat) (c' : List Int), σ = ((i : Int), ()) ∧ i ≤ c.length ∧ c'.length = c.length ∧ Hs fr G (As.set k (lo c' s)) h' ∧ m = c.length - i)
    ⟨_, 0, c, rfl, by omega, rfl, by rw [set_same hk]; exact st, rfl⟩ ?_
  rintro m σ h' X ⟨i, c', rfl, hi, hc, st, em⟩ hX
  simp only
  by_cases hlt : i < c.length
  · refine brT (by rw [l1]; exact dlt_t hlt) ?_
    rw [inc_i (show i < 4611686018427387904 by omega)]
    refine Hs.wrE (τ := i64) st k (xs := c') (by rw [List.getElem?_set, if_pos rfl, if_pos hkl]) (show i < c'.length by omega) 99 fun h2 st2 => ?_
    refine hX _ _ _ ⟨i + 1, c'.set i 99, rfl, by omega, by simpa using hc, ?_, rfl⟩ (by omega)
    rw [List.set_set] at st2; exact st2
  · exact brF (by rw [l1]; exact dlt_f hlt) (hK c' h' st)

set_option maxRecDepth 4000 in
theorem looks_c (hA : At h (li c s)) (hB : At h (li A s2)) (hl : c.length ≤ 1048576) (hl2 : A.length ≤ 1048576) : callT Try.prog fn_salvorlaw08_looks #[.slice s.a s.len s.cap, .slice s2.a s2.len s2.cap] .bool (fun r h' => r = true ∧ Ext [] h h') h := by
  refine callT_gen fun K hK => S_salvorlaw08_looks (a0 := s) (a1 := s2) K ?_
  unfold F_salvorlaw08_looks
  have st := Hs.start h [li c s, li A s2] (by simp [hA, hB])
  refine call_of (Ints_c (st.fz 0 rfl) hl) ?_
  rintro r0 h1 ⟨n1, x1⟩
  have st := st.new x1 n1
  refine call_of (Ints_c (st.fz 1 rfl) hl2) ?_
  rintro r1 h2 ⟨n2, x2⟩
  have st := st.new x2 n2
  refine cloneC_c st (st.fz 0 rfl) hl fun r2 h3 st => ?_
  refine cloneL_c st (st.fz 1 rfl) (by omega) fun r3 h4 st => ?_
  refine call_of (Look_c (st.own 2 rfl).rsl (st.own 3 rfl).rsl (by omega) (by omega)) ?_
  rintro _ h5 ⟨rfl, x5⟩
  have st := st.ext x5
  refine call_of (r2_right_c (st.own 0 rfl).rsl (by omega)) ?_
  rintro _ h6 ⟨rfl, e⟩; subst e
  have hcl : rightC c = true → c.length ≤ 4096 := rightC_len
  refine jn_mid (M := fun σ h' => σ = ((lookF A c).2.2, ()) ∧ h' = h6) ?_ ?_
  rotate_left
  · intro J hJ
    cases hc : rightC c
    · exact brT rfl (hJ _ _ ⟨by unfold lookF; rw [hc]; rfl, rfl⟩)
    · refine brF rfl ?_
      refine call_of (r8_right_c (st.own 1 rfl).rsl (by omega)) ?_
      rintro _ h7 ⟨rfl, e⟩; subst e
      refine jn_in fun J2 hJ2 => ?_
      cases ho : okA A
      · exact brT rfl (hJ2 _ _ (hJ _ _ ⟨by unfold lookF; rw [hc, ho]; rfl, rfl⟩))
      · exact brF rfl (hJ2 _ _ (hJ _ _ ⟨by unfold lookF; rw [hc, ho]; rfl, rfl⟩))
  rintro _ h7 ⟨rfl, e⟩; subst e
  refine jn_mid (M := fun σ h' => σ = ((lookF A c).2.1, (lookF A c).1, ()) ∧ Hs [([], h)] [li c s, li A s2] [iox c r0, iox A r1, lo c r2, lo A r3] h') ?_ ?_
  rotate_left
  · intro J hJ
    cases hc : rightC c
    · have e : lookF A c = (0, 0, 20) := by unfold lookF; rw [hc]; rfl
      rw [e] at hJ ⊢
      exact brF rfl (hJ _ _ ⟨rfl, st⟩)
    · cases ho : okA A
      · have e : lookF A c = (0, 0, 80) := by unfold lookF; rw [hc, ho]; rfl
        rw [e] at hJ ⊢
        exact brF rfl (hJ _ _ ⟨rfl, st⟩)
      · have e : lookF A c = ((lookP A c).1, (lookP A c).2, 0) := by unfold lookF; rw [hc, ho]; rfl
        rw [e] at hJ ⊢
        refine brT rfl ?_
        refine call_of (r8_look_c (st.own 0 rfl).rsl (st.own 1 rfl).rsl (rightC_rt hc) (by omega) (by omega)) ?_
        rintro _ h8 ⟨rfl, x8⟩
        exact hJ _ _ ⟨rfl, st.ext x8⟩
  rintro _ h8 ⟨rfl, st⟩
  simp only
  have hkb : 0 ≤ (lookF A c).1 ∧ (lookF A c).1 ≤ 4 := by
    unfold lookF
    split
    · decide
    · split
      · decide
      · have := look_kind A c; simp only; omega
  refine call_of (Right_c (st.own 3 rfl).rsl (by omega)) ?_
  rintro _ h9 ⟨rfl, x9⟩
  have st := st.ext x9
  refine call_of (r8_right_c (st.own 1 rfl).rsl (by omega)) ?_
  rintro _ h10 ⟨rfl, e⟩; subst e
  rw [wrap_i64 (x := (lookF A c).1) (by omega) (by omega)]
  refine jn_in fun J hJ => brF (by simp) (hJ _ _ ?_)
  refine jn_in fun J hJ => brF (by simp) (hJ _ _ ?_)
  refine jn_in fun J hJ => brF (by simp) (hJ _ _ ?_)
  refine brF (by simp) ?_
  refine call_of (Assume_c (st.own 2 rfl).rsl (by omega)) ?_
  rintro _ h11 ⟨s11, rfl, n11, x11⟩
  have st := st.new x11 n11
  refine call_of (r2_right_c (st.own 0 rfl).rsl (by omega)) ?_
  rintro _ h12 ⟨rfl, e⟩; subst e
  have ls := osl_len (st.own 4 rfl)
  cases hc : rightC c
  · have e : assumeP c = ([], false, 20) := by unfold assumeP; rw [hc]; rfl
    rw [e] at st ls ⊢
    refine brT rfl ?_
    refine jn_in fun J hJ => brT (by simpa using ls) (hJ _ _ ?_)
    refine jn_in fun J hJ => brT rfl (hJ _ _ ?_)
    exact hK _ _ ⟨rfl, st.frame (by simp)⟩
  · refine brF rfl ?_
    have hal : (assumeP c).1.length ≤ c.length := by
      unfold assumeP
      rw [hc]
      split
      · split
        · simp
        · show (negs c).length ≤ _; unfold negs; rw [List.length_map]; exact nrm_length c
      · simp
    have h0 : (assumeP c).2.2 = 0 := by unfold assumeP; rw [hc]; cases alwaysC c <;> rfl
    refine call_of (r8_assume_c (st.own 0 rfl).rsl hc) ?_
    rintro _ h13 ⟨s13, rfl, n13, x13⟩
    have st := st.new x13 n13
    refine call_of (Ints_c (st.own 4 rfl).rsl (by omega)) ?_
    rintro r25 h14 ⟨n14, x14⟩
    have st := st.new x14 n14
    refine call_of (equal_int (st.own 6 rfl).rsl (st.own 5 rfl).rsl (by omega)) ?_
    rintro _ h15 ⟨rfl, e⟩; subst e
    rw [decide_eq_true rfl]
    refine jn_in fun J hJ => brF rfl (hJ _ _ ?_)
    refine jn_in fun J hJ => brF (by simp) (hJ _ _ ?_)
    refine brF (by simp [h0]) ?_
    refine fill_loop st 4 rfl (by omega) fun c' h16 st => ?_
    refine call_of (equal_clause (st.own 2 rfl).rsl (st.fz 0 rfl) (by omega)) ?_
    rintro _ h17 ⟨rfl, e⟩; subst e
    rw [decide_eq_true rfl]
    refine jn_in fun J hJ => brT rfl ?_
    refine call_of (equal_lit (st.own 3 rfl).rsl (st.fz 1 rfl) (by omega)) ?_
    rintro _ h18 ⟨rfl, e⟩; subst e
    rw [decide_eq_true rfl]
    exact hJ _ _ (hK _ _ ⟨rfl, st.frame (by simp)⟩)

theorem rupLooks_F (hA : At h (li c s)) (hB : At h (li A s2)) (K : Bool → HP) (hK : ∀ x h', (x = true ∧ Ext [] h h') → K x h') : F_salvorlaw08_RupLooks s s2 K h := by
  unfold F_salvorlaw08_RupLooks
  have l1 := rsl_len hA
  have l2 := rsl_len hB
  refine jn_mid (M := fun t h' => t = decide (c.length > 60 ∨ A.length > 60) ∧ h' = h) ?_ ?_
  rotate_left
  · intro J hJ
    by_cases h1 : c.length > 60
    · exact brT (by rw [l1]; exact decide_eq_true (by omega)) (hJ _ _ ⟨(decide_eq_true (.inl h1)).symm, rfl⟩)
    · refine brF (by rw [l1]; exact decide_eq_false (by omega)) (hJ _ _ ⟨?_, rfl⟩)
      rw [l2]
      by_cases h2 : A.length > 60
      · rw [decide_eq_true (show (A.length : Int) > 60 by omega), decide_eq_true (.inr h2)]
      · rw [decide_eq_false (show ¬ (A.length : Int) > 60 by omega), decide_eq_false (by omega)]
  rintro _ h1 ⟨rfl, e⟩; subst e
  refine jn_mid (M := fun t h' => t = true ∧ Ext [] h1 h') ?_ ?_
  rotate_left
  · intro J hJ
    by_cases h2 : c.length > 60 ∨ A.length > 60
    · exact brT (decide_eq_true h2) (hJ _ _ ⟨rfl, Ext.refl' _ _⟩)
    · refine brF (decide_eq_false h2) ?_
      refine call_of (looks_c hA hB (by omega) (by omega)) ?_
      rintro _ h3 ⟨rfl, x3⟩
      exact hJ _ _ ⟨rfl, x3⟩
  rintro _ h2 ⟨rfl, x2⟩
  refine jn_in fun J hJ => brT rfl ?_
  refine call_of (awake_c h2) ?_
  rintro _ h3 ⟨rfl, x3⟩
  exact hJ _ _ (hK _ _ ⟨rfl, x2.nil_trans x3⟩)

end Go.Proofs.S
