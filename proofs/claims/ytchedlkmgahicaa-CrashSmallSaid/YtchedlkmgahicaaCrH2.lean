/-
  The reference of the crash seat: Apply, Drop, Count, before, All, Results.
-/
import Derived.Test.YtchedlkmgahicaaCrH1
set_option linter.unusedVariables false
set_option linter.unusedSimpArgs false
namespace Go.Proofs.S
open Go Go.Sx Go.Proofs Go.Cr

variable {h : Heap} {l a b : List Ent} {k k2 : List Bool} {m m2 : List Int} {s s2 s3 : Sl} {fr : Fr} {G As : List Asn}

/-! ### Apply, Drop -/

theorem rApply_c (hA : At h (lr l s)) (hB : At h (lb k s2)) (hW : At h (li m s3)) (hl : l.length ≤ 1099511627776) (hm : m.length ≤ 1099511627776) :
    callT Try.prog fn_salvorref35_Apply #[.slice s3.a s3.len s3.cap, .slice s.a s.len s.cap, .slice s2.a s2.len s2.cap] (.tup (.cons .sl (.cons (.int .i64) .nil)))
      (fun r h' => ∃ s', r = (s', (applyC m l k).2, ()) ∧ New h.size h' (oi (applyC m l k).1 s') ∧ Ext [] h h') h := by
  refine callT_gen fun K hK => S_salvorref35_Apply (a0 := s3) (a1 := s) (a2 := s2) K ?_
  unfold F_salvorref35_Apply
  have l1 := rsn_len hA
  have l3 := rsl_len hW
  refine call_of (rCheck_c hA hB hl) ?_
  rintro r h1 ⟨er, rfl⟩
  have er : r = checkC l k := er
  subst er
  unfold applyC at hK
  by_cases h0 : checkC l k = 0
  · rw [if_pos h0] at hK
    obtain ⟨hr, hk⟩ := check_right h0
    have hbl := (rightGo_mem (by simp only [rightL, Bool.and_eq_true] at hr; exact hr.1) : ∀ x ∈ l, 0 ≤ x.1 ∧ x.1 < 16 ∧ (0 : Int) ≤ x.2.2.1)
    rw [show (checkC l k != 0) = false by rw [h0]; rfl, brB_false]
    have st := Hs.start h1 [lr l s, lb k s2, li m s3] (by simp [hA, hB, hW])
    refine st.nw fun b1 h2 st => ?_
    have st := st.asSl 0 i64.enc [] rfl rfl
    simp only [List.nil_append, List.length_nil, List.set_cons_zero] at st
    refine st.apdS (τ := i64) 0 rfl (st.fz 2 rfl) leaf_int (by simp; omega) (by decide) fun s2' h3 st => ?_
    simp only [List.nil_append, List.set_cons_zero] at st
    refine lfp_invh (I := fun μ σ h' => ∃ i : Nat, σ = ((i : Int), 0, ⟨none, 0, 0⟩, ()) ∧ i ≤ l.length ∧ (∀ j (hj : j < l.length), j < i → l[j].1 < m.length) ∧ Hs [([], h1)] [lr l s, lb k s2, li m s3] [oi (applyP m (l.take i) (k.take i)) s2'] h' ∧ μ = l.length - i)
      ⟨_, 0, rfl, by omega, fun _ _ q => by omega, st, rfl⟩ ?_
    clear st
    rintro μ σ h4 X ⟨i, rfl, hi, hfit, st, em⟩ hX
    simp only
    by_cases hlt : i < l.length
    · rw [show decide ((i : Int) < (s.len : Int)) = true by rw [l1]; exact dlt_t hlt, brB_true, inc_i (show i < 4611686018427387904 by omega)]
      refine rdB (st.fz 0 rfl) hlt ?_
      by_cases hge : l[i].1 ≥ m.length
      · rw [decide_eq_true (show l[i].1 ≥ (s3.len : Int) by omega), brB_true]
        have hf : fitsP m.length l = false := by
          unfold fitsP
          simp only [Bool.not_eq_false', List.any_eq_true, decide_eq_true_eq]
          exact ⟨l[i], List.getElem_mem hlt, hge⟩
        rw [if_neg (by simp [hf])] at hK
        exact hK _ _ ⟨⟨none, 0, 0⟩, rfl, osl_nil _ _, st.frame (by simp)⟩
      · rw [decide_eq_false (show ¬ l[i].1 ≥ (s3.len : Int) by omega), brB_false]
        refine rdE (τ := .bool) (st.fz 1 rfl) (show i < k.length by omega) ?_
        rw [← K_get (show i < k.length by omega)]
        refine jn_in fun J hJ => ?_
        have hfit2 : ∀ j (hj : j < l.length), j < i + 1 → l[j].1 < m.length := fun j hj q => by
          rcases Nat.lt_or_ge j i with q2 | q2
          · exact hfit j hj q2
          · have : j = i := by omega
            subst this; omega
        have hs := applyP_step (m := m) hlt hk
        cases hki : Cr.K k i with
        | false =>
          rw [brB_false]
          refine hJ _ _ (hX _ _ _ ⟨i + 1, rfl, by omega, hfit2, ?_, rfl⟩ (by omega))
          rw [hs, hki]; exact st
        | true =>
          rw [brB_true]
          refine rdB (st.fz 0 rfl) hlt ?_
          refine rdW (st.fz 0 rfl) hlt ?_
          have hb := hbl _ (List.getElem_mem hlt)
          have e : l[i].1 = ((l[i].1.toNat : Nat) : Int) := by omega
          rw [e]
          refine st.wrE (τ := i64) 0 rfl (show l[i].1.toNat < (applyP m (l.take i) (k.take i)).length by rw [applyP_len]; omega) _ fun h5 st => ?_
          refine hJ _ _ (hX _ _ _ ⟨i + 1, rfl, by omega, hfit2, ?_, rfl⟩ (by omega))
          rw [hs, hki]; exact st
    · rw [show decide ((i : Int) < (s.len : Int)) = false by rw [l1]; exact dlt_f hlt, brB_false]
      have hf : fitsP m.length l = true := by
        unfold fitsP
        simp only [Bool.not_eq_true', List.any_eq_false, decide_eq_true_eq]
        intro x hx
        obtain ⟨j, hj, e⟩ := List.mem_iff_getElem.1 hx
        have := hfit j hj (by omega)
        rw [← e]; omega
      rw [if_pos hf] at hK
      rw [List.take_of_length_le (by omega), List.take_of_length_le (by omega)] at st
      exact hK _ _ ⟨s2', rfl, st.res (by simp) 0 rfl, st.frame (by simp)⟩
  · rw [if_neg h0] at hK
    rw [show (checkC l k != 0) = true by simp [h0], brB_true]
    exact hK _ _ ⟨⟨none, 0, 0⟩, rfl, osl_nil _ _, Ext.refl' _ _⟩

theorem rDrop_c (hA : At h (lr l s)) (hB : At h (lb k s2)) (hl : l.length ≤ 1099511627776) (hk : k.length = l.length) (hm : Mono l) :
    callT Try.prog fn_salvorref35_Drop #[.slice s.a s.len s.cap, .slice s2.a s2.len s2.cap] .sl (fun s' h' => New h.size h' (osg (fun c p => ob c p) ty_sl_bool (dropL l k) s') ∧ Ext [] h h') h := by
  refine callT_gen fun K hK => S_salvorref35_Drop (a0 := s) (a1 := s2) K ?_
  unfold F_salvorref35_Drop
  have l1 := rsn_len hA
  have st := (Hs.start h [lr l s, lb k s2] (by simp [hA, hB])).nilg (fun c p => ob c p) ty_sl_bool none
  refine lfp_invh (I := fun μ σ h' => ∃ (i : Nat) (s' : Sl), σ = ((i : Int), s', ()) ∧ i ≤ l.length ∧ Hs [([], h)] [lr l s, lb k s2] [osg (fun c p => ob c p) ty_sl_bool ((List.range i).filterMap (fun i => if Cr.K k i && vld l (k.set i false) then some (k.set i false) else none)) s'] h' ∧ μ = l.length - i)
    ⟨_, 0, ⟨none, 0, 0⟩, rfl, by omega, st, rfl⟩ ?_
  clear st
  rintro μ σ h2 X ⟨i, s', rfl, hi, st, em⟩ hX
  simp only
  by_cases hlt : i < l.length
  · rw [show decide ((i : Int) < (s.len : Int)) = true by rw [l1]; exact dlt_t hlt, brB_true, inc_i (show i < 4611686018427387904 by omega)]
    refine st.nw fun b2 h3 st => ?_
    have st := st.asSl 1 Ty.bool.enc [] rfl rfl
    simp only [List.nil_append, List.cons_append, List.length_nil, List.set_cons_zero, List.set_cons_succ] at st
    refine st.apdS (τ := .bool) 1 rfl (st.fz 1 rfl) leaf_bool (by simp; omega) (by decide) fun s3 h4 st => ?_
    simp only [List.nil_append, List.set_cons_zero, List.set_cons_succ] at st
    refine st.wrE (τ := .bool) 1 rfl (show i < k.length by omega) false fun h4 st => ?_
    refine rdE (τ := .bool) (st.fz 1 rfl) (show i < k.length by omega) ?_
    rw [← K_get (show i < k.length by omega)]
    have fin : ∀ s' h', Hs [([], h)] [lr l s, lb k s2] [osg (fun c p => ob c p) ty_sl_bool ((List.range (i + 1)).filterMap (fun i => if Cr.K k i && vld l (k.set i false) then some (k.set i false) else none)) s'] h' → X (((i + 1 : Nat) : Int), s', ()) h' :=
      fun s' h' st => hX _ _ _ ⟨i + 1, s', rfl, by omega, st, rfl⟩ (by omega)
    rw [dropL_step] at fin
    cases hki : Cr.K k i with
    | false =>
      rw [brB_false]
      refine jn_in fun J hJ => hJ _ _ (fin s' _ ?_)
      have st := st.drop 1 rfl
      simpa [hki] using st
    | true =>
      rw [brB_true]
      refine call_of (rValid_c (st.fz 0 rfl) (st.own 1 rfl).rsl hl (by simpa using hk) hm) ?_
      rintro r h5 ⟨er, rfl⟩
      have er : r = vld l (k.set i false) := er
      subst er
      refine jn_in fun J hJ => ?_
      cases hvl : vld l (k.set i false) with
      | false =>
        rw [brB_false]
        refine hJ _ _ (fin s' _ ?_)
        have st := st.drop 1 rfl
        simpa [hki, hvl] using st
      | true =>
        rw [brB_true]
        refine st.nw fun b10 h6 st => ?_
        have hfl := filterMap_range_le (fun i => if Cr.K k i && vld l (k.set i false) then some (k.set i false) else none) i
        refine Hs.apdG (I := fun c p => ob c p) (x := k.set i false) (p := s3) st 0 2 1 rfl rfl rfl (by decide) (by decide) (by omega) (by decide) rfl fun s11 h7 st => ?_
        refine hJ _ _ (fin s11 _ ?_)
        have st := (st.drop 2 rfl).drop 1 rfl
        rw [if_pos (by simp [hki, hvl])]
        exact st
  · rw [show decide ((i : Int) < (s.len : Int)) = false by rw [l1]; exact dlt_f hlt, brB_false]
    have e : i = l.length := by omega
    subst e
    exact hK _ _ ⟨st.res (by simp) 0 rfl, st.frame (by simp)⟩

/-! ### Count -/

theorem rCount_c (hA : At h (lr l s)) (hl : l.length ≤ 1099511627776) (hm : Mono l) :
    callT Try.prog fn_salvorref35_Count #[.slice s.a s.len s.cap] (.int .i64) (fun r h' => r = cntP l ∧ h' = h) h := by
  refine callT_gen fun K hK => S_salvorref35_Count (a0 := s) K ?_
  unfold F_salvorref35_Count
  have l1 := rsn_len hA
  refine lfp_invh (I := fun μ σ h' => ∃ a n : Nat, σ = ((a : Int), (n : Int), ()) ∧ a ≤ l.length ∧ 1 ≤ n ∧ n ≤ 2 ^ 30 ∧ min (n + (valids (l.drop a)).length - 1) (2 ^ 30) = min (valids l).length (2 ^ 30) ∧ h' = h ∧ μ = l.length - a)
    ⟨_, 0, 1, rfl, by omega, by omega, by decide, by simp, rfl, rfl⟩ ?_
  rintro μ σ h' X ⟨a, n, rfl, ha, hn, hn2, hc, rfl, em⟩ hX
  simp only
  by_cases hlt : a < l.length
  · rw [show decide ((a : Int) < (s.len : Int)) = true by rw [l1]; exact dlt_t hlt, brB_true]
    obtain ⟨g1, g2, g3, g4⟩ := gEnd_spec hlt
    obtain ⟨e1, e2⟩ := gEnd_grp hlt
    have hmd := mono_drop hm a
    have hstep : (2 ^ grp (l.drop a) > 2 ^ 30 → min (n + (valids (l.drop a)).length - 1) (2 ^ 30) = 2 ^ 30) ∧
        min (min (n + 2 ^ grp (l.drop a) - 1) (2 ^ 30) + (valids (l.drop (gEnd l a))).length - 1) (2 ^ 30) = min (n + (valids (l.drop a)).length - 1) (2 ^ 30) := by
      rw [e2]
      have hd := List.drop_eq_getElem_cons hlt
      rw [hd] at hmd ⊢
      exact cnt_step hmd n hn
    refine jn_in fun J hJ => ?_
    have fin : ∀ p : Nat, p = min (2 ^ grp (l.drop a)) 2147483648 → J ((p : Int), ((gEnd l a : Nat) : Int), ()) h' := by
      intro p hp
      refine hJ _ _ ?_
      have e30 : (2 : Nat) ^ 30 = 1073741824 := by decide
      rw [e30] at hn2 hc hstep
      have hp1 := Nat.two_pow_pos (grp (l.drop a))
      have hv := valids_pos (l.drop (gEnd l a))
      have ev : (if (1073741824 : Int) < (IntKind.wrap .i64 ((IntKind.wrap .i64 ((n : Int) + (p : Int))) - (1 : Int))) then (1073741824 : Int) else (IntKind.wrap .i64 ((IntKind.wrap .i64 ((n : Int) + (p : Int))) - (1 : Int)))) = ((min (n + p - 1) 1073741824 : Nat) : Int) := by
        rw [wrap_i64 (x := (n : Int) + (p : Int)) (by omega) (by omega), wrap_i64 (x := (n : Int) + (p : Int) - 1) (by omega) (by omega)]
        split <;> omega
      simp only
      rw [ev]
      refine hX _ _ _ ⟨gEnd l a, _, rfl, g2, by omega, by rw [e30]; omega, ?_, rfl, rfl⟩ (by omega)
      rw [e30, ← hc, ← hstep.2]
      omega
    clear hX hJ
    refine lfp_invh (I := fun μ σ h2 => ∃ j : Nat, σ = (((min (2 ^ (j - a)) 2147483648 : Nat) : Int), (j : Int), ()) ∧ a ≤ j ∧ j ≤ gEnd l a ∧ h2 = h' ∧ μ = l.length + 1 - j)
      ⟨_, a, by rw [Nat.sub_self]; rfl, by omega, by omega, rfl, rfl⟩ ?_
    rintro μ2 σ h2 X2 ⟨j, rfl, hj, hj2, rfl, em2⟩ hX2
    simp only
    have done : j = gEnd l a → J (((min (2 ^ (j - a)) 2147483648 : Nat) : Int), (j : Int), ()) h2 := by
      rintro rfl
      refine fin _ ?_
      rw [show gEnd l a - a = grp (l.drop a) by omega]
    by_cases hlt2 : j < l.length
    · rw [show decide ((j : Int) < (s.len : Int)) = true by rw [l1]; exact dlt_t hlt2, brB_true]
      refine rdEr hA hlt2 ?_
      refine rdEr hA hlt ?_
      by_cases he : E l j = E l a
      · rw [show (E l j == E l a) = true by simp [he], brB_true, inc_i (show j < 4611686018427387904 by omega)]
        have hjg : j < gEnd l a := by
          rcases Nat.lt_or_ge j (gEnd l a) with q | q
          · exact q
          · have : j = gEnd l a := by omega
            subst this
            exact absurd he (g4 hlt2)
        have hp1 := Nat.two_pow_pos (j - a)
        have hp2 : 2 ^ (j + 1 - a) = 2 * 2 ^ (j - a) := by rw [show j + 1 - a = (j - a) + 1 by omega, Nat.pow_succ, Nat.mul_comm]
        have ev : (if (2147483648 : Int) < (IntKind.wrap .i64 (((min (2 ^ (j - a)) 2147483648 : Nat) : Int) * (2 : Int))) then (2147483648 : Int) else (IntKind.wrap .i64 (((min (2 ^ (j - a)) 2147483648 : Nat) : Int) * (2 : Int)))) = ((min (2 ^ (j + 1 - a)) 2147483648 : Nat) : Int) := by
          rw [hp2]
          generalize 2 ^ (j - a) = q
          rw [wrap_i64 (by omega) (by omega)]
          split <;> omega
        rw [ev]
        exact hX2 _ _ _ ⟨j + 1, rfl, by omega, by omega, rfl, rfl⟩ (by omega)
      · rw [show (E l j == E l a) = false by simp [he], brB_false]
        refine done ?_
        rcases Nat.lt_or_ge j (gEnd l a) with q | q
        · exact absurd (g3 j hj q) he
        · omega
    · rw [show decide ((j : Int) < (s.len : Int)) = false by rw [l1]; exact dlt_f hlt2, brB_false]
      exact done (by omega)
  · rw [show decide ((a : Int) < (s.len : Int)) = false by rw [l1]; exact dlt_f hlt, brB_false]
    refine hK _ _ ⟨?_, rfl⟩
    rw [List.drop_eq_nil_of_le (by omega)] at hc
    have e0 : (valids ([] : List Ent)).length = 1 := rfl
    rw [e0] at hc
    unfold cntP
    rw [← hc, show n + 1 - 1 = n by omega, Nat.min_eq_left hn2]

/-! ### All -/

theorem band64 {x : Nat} (hx : x < 4611686018427387904) : (bAnd .i64 (x : Int) 1 == 1) = decide (x % 2 = 1) := by
  have e2 : bAnd .i64 (x : Int) 1 = ((x % 2 : Nat) : Int) := by
    unfold bAnd
    have e3 : (BitVec.ofInt 64 (x : Int) &&& BitVec.ofInt 64 1).toNat = x % 2 := by
      rw [BitVec.toNat_and]
      have e4 : (BitVec.ofInt 64 (x : Int)).toNat = x := by simp [BitVec.toNat_ofInt]; omega
      rw [e4, show (BitVec.ofInt 64 1).toNat = 1 from rfl, Nat.and_one_is_mod]
    show IntKind.wrap .i64 (((BitVec.ofInt 64 (x : Int) &&& BitVec.ofInt 64 1).toNat : Nat) : Int) = _
    rw [e3, wrap_i64 (by omega) (by omega)]
  rw [e2]
  rcases Nat.mod_two_eq_zero_or_one x with k | k <;> rw [k] <;> rfl
theorem pow64 {n : Nat} (hn : n ≤ 60) : IntKind.wrap .i64 ((1 : Int) * 2 ^ (min ((n : Int)).toNat 64)) = ((2 ^ n : Nat) : Int) := by
  rw [Int.toNat_natCast, Nat.min_eq_left (by omega), Int.one_mul]
  have e : (2 : Int) ^ n = ((2 ^ n : Nat) : Int) := by simp
  have : 2 ^ n ≤ 2 ^ 60 := Nat.pow_le_pow_right (by decide) hn
  have e60 : (2 : Nat) ^ 60 = 1152921504606846976 := by decide
  rw [e60] at this
  rw [e]
  generalize 2 ^ n = q at *
  rw [wrap_i64 (by omega) (by omega)]
theorem shr_nat {x n : Nat} (hn : n ≤ 64) : Int.fdiv (x : Int) (2 ^ (min ((n : Int)).toNat 64)) = ((x / 2 ^ n : Nat) : Int) := by
  rw [Int.toNat_natCast, Nat.min_eq_left hn]
  have e : (2 : Int) ^ n = ((2 ^ n : Nat) : Int) := by simp
  rw [e]; exact (Int.ofNat_fdiv _ _).symm
theorem bitsB_len (n x : Nat) : (bitsB n x).length = n := by simp [bitsB]

theorem rAll_c (hA : At h (lr l s)) (hl : l.length ≤ 20) (hm : Mono l) :
    callT Try.prog fn_salvorref35_All #[.slice s.a s.len s.cap] .sl (fun s' h' => New h.size h' (osg (fun c p => ob c p) ty_sl_bool (valids l) s') ∧ Ext [] h h') h := by
  refine callT_gen fun K hK => S_salvorref35_All (a0 := s) K ?_
  unfold F_salvorref35_All
  have l1 := rsn_len hA
  have hp : 2 ^ l.length ≤ 2 ^ 20 := Nat.pow_le_pow_right (by decide) hl
  have e20 : (2 : Nat) ^ 20 = 1048576 := by decide
  rw [e20] at hp
  obtain ⟨N, hN⟩ : ∃ N, N = 2 ^ l.length := ⟨_, rfl⟩
  rw [← hN] at hp
  have st := (Hs.start h [lr l s] (by simp [hA])).nilg (fun c p => ob c p) ty_sl_bool none
  refine lfp_invh (I := fun μ σ h' => ∃ (n : Nat) (s' : Sl), σ = ((n : Int), s', ()) ∧ n ≤ N ∧ Hs [([], h)] [lr l s] [osg (fun c p => ob c p) ty_sl_bool (((List.range n).map (bitsB l.length)).filter (vld l)) s'] h' ∧ μ = N - n)
    ⟨_, 0, ⟨none, 0, 0⟩, rfl, by omega, st, rfl⟩ ?_
  clear st
  rintro μ σ h2 X ⟨n, s', rfl, hn, st, em⟩ hX
  simp only
  refine ⟨Int.natCast_nonneg _, ?_⟩
  rw [pow64 (show s.len ≤ 60 by omega), show 2 ^ s.len = N by rw [l1, hN]]
  by_cases hlt : n < N
  · rw [decide_eq_true (Int.ofNat_lt.2 hlt), brB_true, inc_i (show n < 4611686018427387904 by omega)]
    refine Hs.mks1 (n := s.len) (τ := .bool) (z := false) st (by omega) (by decide) fun s0 h1 st => ?_
    simp only [List.cons_append, List.nil_append] at st
    rw [show List.replicate s.len false = List.replicate l.length false by rw [l1]] at st
    refine lfp_invh (I := fun μ σ h' => ∃ i : Nat, σ = ((i : Int), ()) ∧ i ≤ l.length ∧ Hs [([], h)] [lr l s] [osg (fun c p => ob c p) ty_sl_bool (((List.range n).map (bitsB l.length)).filter (vld l)) s', ob (((List.range i).map fun i => decide (n / 2 ^ (l.length - 1 - i) % 2 = 1)) ++ List.replicate (l.length - i) false) s0] h' ∧ μ = l.length - i) ⟨_, 0, rfl, by omega, by simpa using st, rfl⟩ ?_
    clear st
    rintro μ2 σ h3 X2 ⟨i, rfl, hi, st, em2⟩ hX2
    simp only
    by_cases hlt2 : i < l.length
    · rw [decide_eq_true (show (i : Int) < (s.len : Int) by omega), brB_true, inc_i (show i < 4611686018427387904 by omega)]
      have ej : IntKind.wrap .i64 ((IntKind.wrap .i64 ((s.len : Int) - (1 : Int))) - (i : Int)) = ((l.length - 1 - i : Nat) : Int) := by
        rw [wrap_i64 (x := (s.len : Int) - 1) (by omega) (by omega), wrap_i64 (by omega) (by omega)]; omega
      rw [ej]
      refine ⟨Int.natCast_nonneg _, ?_⟩
      have hq : n / 2 ^ (l.length - 1 - i) < 4611686018427387904 := Nat.lt_of_le_of_lt (Nat.div_le_self _ _) (by omega)
      rw [shr_nat (by omega), band64 hq]
      refine st.wrE (τ := .bool) 1 rfl (show i < _ by simp; omega) _ fun h4 st => ?_
      refine hX2 _ _ _ ⟨i + 1, rfl, by omega, ?_, rfl⟩ (by omega)
      simp only [List.set_cons_zero, List.set_cons_succ] at st
      rw [set_map_range (fun i => decide (n / 2 ^ (l.length - 1 - i) % 2 = 1)) l.length i false hlt2] at st
      exact st
    · rw [decide_eq_false (show ¬ (i : Int) < (s.len : Int) by omega), brB_false]
      have e : i = l.length := by omega
      subst e
      rw [Nat.sub_self, List.replicate_zero, List.append_nil] at st
      change Hs [([], h)] [lr l s] [_, ob (bitsB l.length n) s0] h3 at st
      refine call_of (rValid_c (st.fz 0 rfl) (st.own 1 rfl).rsl (by omega) (bitsB_len _ _) hm) ?_
      rintro r h5 ⟨er, rfl⟩
      have er : r = vld l (bitsB l.length n) := er
      subst er
      refine jn_in fun J hJ => ?_
      have fin : ∀ s' h', Hs [([], h)] [lr l s] [osg (fun c p => ob c p) ty_sl_bool (((List.range (n + 1)).map (bitsB l.length)).filter (vld l)) s'] h' → J (s', ()) h' :=
        fun s' h' st => hJ _ _ (hX _ _ _ ⟨n + 1, s', rfl, by omega, st, rfl⟩ (by omega))
      rw [List.range_succ, List.map_append, List.filter_append] at fin
      have hfl : (((List.range n).map (bitsB l.length)).filter (vld l)).length ≤ n := by
        have := List.length_filter_le (vld l) ((List.range n).map (bitsB l.length))
        simpa using this
      cases hv : vld l (bitsB l.length n) with
      | false =>
        rw [brB_false]
        refine fin s' _ ?_
        rw [show ([n].map (bitsB l.length)).filter (vld l) = [] by simp [hv], List.append_nil]
        exact st.drop 1 rfl
      | true =>
        rw [brB_true]
        refine st.nw fun b9 h6 st => ?_
        refine Hs.apdG (I := fun c p => ob c p) (x := bitsB l.length n) (p := s0) st 0 2 1 rfl rfl rfl (by decide) (by decide) (by omega) (by decide) rfl fun s11 h7 st => ?_
        refine fin s11 _ ?_
        rw [show ([n].map (bitsB l.length)).filter (vld l) = [bitsB l.length n] by simp [hv]]
        exact (st.drop 2 rfl).drop 1 rfl
  · rw [decide_eq_false (show ¬ (n : Int) < (N : Int) by omega), brB_false]
    have e : n = N := by omega
    rw [e, hN, ← allB_bits] at st
    exact hK _ _ ⟨st.res (by simp) 0 rfl, st.frame (by simp)⟩

end Go.Proofs.S
