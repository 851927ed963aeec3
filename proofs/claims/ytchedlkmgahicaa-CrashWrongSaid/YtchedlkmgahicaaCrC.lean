/-
  The package crash: Count, fill, next, All, Drop: contracts.
-/
import Derived.Test.YtchedlkmgahicaaCrB
import Derived.Test.YtchedlkmgahicaaSxCp
set_option linter.unusedVariables false
set_option linter.unusedSimpArgs false
namespace Go.Proofs.S
open Go Go.Sx Go.Proofs Go.Cr

variable {h : Heap} {l : List Ent} {k : List Bool} {m : List Int} {s s2 s3 : Sl} {fr : Fr} {G As : List Asn}

theorem gEnd_grp {i : Nat} (hi : i < l.length) : gEnd l i = i + grp (l.drop i) ∧ l.drop (gEnd l i) = (l.drop i).drop (grp (l.drop i)) := by
  have e : gEnd l i = i + grp (l.drop i) := by
    unfold gEnd grp
    rw [List.drop_eq_getElem_cons hi, E_get hi]
  exact ⟨e, by rw [e, List.drop_drop]⟩
theorem mono_drop (hm : Mono l) (i : Nat) : Mono (l.drop i) := fun a b hab hb => by
  have hb' : b < l.length - i := by simpa using hb
  have e1 : ∀ c, c < (l.drop i).length → E (l.drop i) c = E l (i + c) := fun c hc => by
    have hc' : c < l.length - i := by simpa using hc
    rw [E_get hc, E_get (show i + c < l.length by omega), List.getElem_drop]
  rw [e1 a (by omega), e1 b hb]
  exact hm _ _ (by omega) (by omega)

theorem count_c (hA : At h (le l s)) (hl : l.length ≤ 1099511627776) :
    callT Try.prog fn_crash_Count #[.slice s.a s.len s.cap] (.tup (.cons (.int .i64) (.cons (.int .i64) .nil))) (fun r h' => r = ((countP l).1, (countP l).2, ()) ∧ Ext [] h h') h := by
  refine callT_gen fun K hK => S_crash_Count (a0 := s) K ?_
  unfold F_crash_Count
  have l1 := rsn_len hA
  refine call_of (right_c hA hl) ?_
  rintro _ h1 ⟨rfl, x1⟩
  unfold countP at hK
  cases hr : rightL l with
  | false =>
    rw [if_neg (by simp [hr])] at hK
    simp only [Bool.not_false, brB_true]; exact hK _ _ ⟨rfl, x1⟩
  | true =>
    rw [if_pos hr] at hK
    simp only [Bool.not_true, brB_false]
    have hm := right_mono hr
    refine group_c fun b h2 x2 kb => ?_
    have x2 := x1.nil_trans x2
    refine lfp_invh (I := fun μ σ h' => ∃ a n : Nat, σ = ((a : Int), (n : Int), 0, 0, ()) ∧ a ≤ l.length ∧ 1 ≤ n ∧ n ≤ 2 ^ 30 ∧ min (n + (valids (l.drop a)).length - 1) (2 ^ 30) = min (valids l).length (2 ^ 30) ∧ h' = h2 ∧ μ = l.length - a)
      ⟨_, 0, 1, rfl, by omega, by omega, by decide, by simp, rfl, rfl⟩ ?_
    rintro μ σ h' X ⟨a, n, rfl, ha, hn, hn2, hc, rfl, em⟩ hX
    simp only
    by_cases hlt : a < l.length
    · rw [show decide ((a : Int) < (s.len : Int)) = true by rw [l1]; exact dlt_t hlt, brB_true]
      obtain ⟨g1, g2, g3, g4⟩ := gEnd_spec hlt
      obtain ⟨e1, e2⟩ := gEnd_grp hlt
      refine callF_of (groupF kb (hA.ext x2) hl hlt) ?_
      rintro r hq ⟨er, rfl⟩
      have er : r = (gEnd l a : Int) := er
      subst er
      have hmd := mono_drop hm a
      have hstep : (2 ^ grp (l.drop a) > 2 ^ 30 → min (n + (valids (l.drop a)).length - 1) (2 ^ 30) = 2 ^ 30) ∧
          min (min (n + 2 ^ grp (l.drop a) - 1) (2 ^ 30) + (valids (l.drop (gEnd l a))).length - 1) (2 ^ 30) = min (n + (valids (l.drop a)).length - 1) (2 ^ 30) := by
        rw [e2]
        have hd := List.drop_eq_getElem_cons hlt
        rw [hd] at hmd ⊢
        exact cnt_step hmd n hn
      have ew : IntKind.wrap .i64 ((gEnd l a : Int) - (a : Int)) = ((grp (l.drop a) : Nat) : Int) := by
        rw [wrap_i64 (by omega) (by omega)]; omega
      rw [ew]
      by_cases hg : grp (l.drop a) > 30
      · rw [decide_eq_true (show ((grp (l.drop a) : Nat) : Int) > 30 by omega), brB_true]
        refine hK _ _ ⟨?_, x2⟩
        unfold cntP
        rw [← hc, hstep.1 (Nat.pow_lt_pow_right (by decide) hg)]; rfl
      · rw [decide_eq_false (show ¬ ((grp (l.drop a) : Nat) : Int) > 30 by omega), brB_false]
        refine ⟨by omega, ?_⟩
        refine callF_of (groupF kb (hA.ext x2) hl hlt) ?_
        rintro r hq ⟨er, rfl⟩
        have er : r = (gEnd l a : Int) := er
        subst er
        have hp1 := Nat.two_pow_pos (grp (l.drop a))
        have hp2 : 2 ^ grp (l.drop a) ≤ 2 ^ 30 := Nat.pow_le_pow_right (by decide) (by omega)
        have e30 : (2 : Nat) ^ 30 = 1073741824 := by decide
        rw [e30] at hp2 hn2 hc hstep
        have ep : (1 : Int) * 2 ^ (min (((grp (l.drop a) : Nat) : Int)).toNat 64) = ((2 ^ grp (l.drop a) : Nat) : Int) := by
          rw [Int.toNat_natCast, Nat.min_eq_left (by omega), Int.one_mul]; simp
        rw [ep]
        generalize 2 ^ grp (l.drop a) = p at *
        have ev : (if (1073741824 : Int) < (IntKind.wrap .i64 ((IntKind.wrap .i64 ((n : Int) + (IntKind.wrap .i64 (p : Int)))) - (1 : Int))) then (1073741824 : Int) else (IntKind.wrap .i64 ((IntKind.wrap .i64 ((n : Int) + (IntKind.wrap .i64 (p : Int)))) - (1 : Int)))) = ((min (n + p - 1) 1073741824 : Nat) : Int) := by
          rw [wrap_i64 (x := (p : Int)) (by omega) (by omega), wrap_i64 (x := (n : Int) + (p : Int)) (by omega) (by omega), wrap_i64 (x := (n : Int) + (p : Int) - 1) (by omega) (by omega)]
          split <;> omega
        rw [ev]
        refine hX _ _ _ ⟨gEnd l a, _, rfl, g2, by omega, by rw [e30]; omega, ?_, rfl, rfl⟩ (by omega)
        rw [e30, ← hc]; exact hstep.2
    · rw [show decide ((a : Int) < (s.len : Int)) = false by rw [l1]; exact dlt_f hlt, brB_false]
      refine hK _ _ ⟨?_, x2⟩
      rw [List.drop_eq_nil_of_le (by omega)] at hc
      have e0 : (valids ([] : List Ent)).length = 1 := rfl
      rw [e0] at hc
      unfold cntP
      rw [← hc, show n + 1 - 1 = n by omega, Nat.min_eq_left hn2]

theorem Hs.fill {K : Bool → HP} (st : Hs fr G As h) (g : Nat) (hg : G[g]? = some (le l s)) (hl : l.length ≤ 1099511627776) (hm : Mono l) {i : Nat} (hi : i < l.length) (hk : k.length = l.length) (h0 : Cr.K k i = false)
    (kt : Nat) (hkt : As[kt]? = some (ob (cnd l k i) s2)) (hK : ∀ h', Hs fr G As h' → K (okAt l k i) h') :
    callT Try.prog fn_crash_fill #[.slice s.a s.len s.cap, .slice s2.a s2.len s2.cap, .int .i64 (i : Int)] .bool K h := by
  refine S_crash_fill (a0 := s) (a1 := s2) (a2 := (i : Int)) K ?_
  unfold F_crash_fill
  have hcl := cnd_len hk hi
  have l2 := osl_len (st.own kt hkt)
  refine lfp_invh (I := fun μ σ h' => ∃ (j : Nat) (g : Int), σ = ((j : Int), g, ()) ∧ j ≤ i + 1 ∧ (j = i + 1 → g = E l i) ∧ Hs fr G As h' ∧ μ = i + 1 - j) ⟨_, 0, -1, rfl, by omega, fun h => by omega, st, rfl⟩ ?_
  clear st
  rintro μ σ h2 X ⟨j, gv, rfl, hj, hgv, st, em⟩ hX
  simp only
  by_cases hlt : j ≤ i
  · rw [decide_eq_true (show (j : Int) ≤ (i : Int) by omega), brB_true, inc_i (show j < 4611686018427387904 by omega)]
    refine rdE (τ := .bool) (st.own kt hkt).rsl (show j < (cnd l k i).length by omega) ?_
    rw [← K_get (show j < (cnd l k i).length by omega)]
    refine jn_in fun J hJ => ?_
    have fin : ∀ gv', (j = i → gv' = E l i) → ∀ h', Hs fr G As h' → J (gv', ()) h' := fun gv' hv h' st => hJ _ _ (hX _ _ _ ⟨j + 1, gv', rfl, by omega, fun e => hv (by omega), st, rfl⟩ (by omega))
    cases hkj : Cr.K (cnd l k i) j with
    | true =>
      rw [brB_true]
      refine rdEp (st.fz g hg) (show j < l.length by omega) ?_
      exact fin _ (fun e => by rw [e]) _ st
    | false =>
      rw [brB_false]
      exact fin _ (fun e => by rw [e, cnd_at hk hi] at hkj; cases hkj) _ st
  · rw [decide_eq_false (show ¬ (j : Int) ≤ (i : Int) by omega), brB_false]
    have eg := hgv (by omega)
    subst eg
    clear hgv hX em hlt hj X
    refine lfp_invh (I := fun μ σ h' => ∃ j : Nat, σ = ((j : Int), false, ()) ∧ j ≤ l.length ∧ (∀ a, a < j → a < i → E l a < E l i → Cr.K k a = true) ∧ Hs fr G As h' ∧ μ = l.length - j) ⟨_, 0, rfl, by omega, fun a h => by omega, st, rfl⟩ ?_
    clear st
    rintro μ σ h2 X ⟨j, rfl, hj, hall, st, em⟩ hX
    simp only
    by_cases hlt : j < l.length
    · rw [show decide ((j : Int) < (s2.len : Int)) = true by rw [l2, hcl]; exact dlt_t hlt, brB_true, inc_i (show j < 4611686018427387904 by omega)]
      refine jn_in fun J hJ => ?_
      have fin : (j < i → E l j < E l i → Cr.K k j = true) → ∀ h', Hs fr G As h' → J (false, ()) h' := fun hv h' st => hJ _ _ (hX _ _ _ ⟨j + 1, rfl, by omega, fun a ha hai hle => by
        rcases Nat.lt_or_ge a j with q | q
        · exact hall a q hai hle
        · have : a = j := by omega
          subst this; exact hv hai hle, st, rfl⟩ (by omega))
      by_cases hji : (j : Int) > (i : Int)
      · rw [decide_eq_true hji, brB_true]
        refine rdEp (st.fz g hg) hlt ?_
        have hmj := hm i j (by omega) hlt
        refine st.wrSame (τ := .bool) kt hkt (show j < (cnd l k i).length by omega) ?_ fun h3 st => fin (fun h => absurd h (by omega)) h3 st
        rw [← K_get (show j < (cnd l k i).length by omega), cnd_hi hk hi (by omega)]
        exact decide_eq_false (show ¬ E l j < E l i by omega)
      · rw [decide_eq_false hji, brB_false]
        refine rdEp (st.fz g hg) hlt ?_
        by_cases he : E l j < E l i
        · rw [decide_eq_true he, brB_true]
          refine rdE (τ := .bool) (st.own kt hkt).rsl (show j < (cnd l k i).length by omega) ?_
          have hji' : j < i := by
            rcases Nat.lt_or_ge j i with q | q
            · exact q
            · have : j = i := by omega
              subst this; omega
          rw [← K_get (show j < (cnd l k i).length by omega), cnd_lo hk hi hji']
          cases hkj : Cr.K k j with
          | true => simp only [Bool.not_true, brB_false]; exact fin (fun _ _ => hkj) _ st
          | false =>
            simp only [Bool.not_false, brB_true]
            have e : okAt l k i = false := by
              rw [← Bool.not_eq_true, okAt_iff]
              intro hh
              have := hh.2 j hji' he
              rw [hkj] at this; cases this
            have := hK _ st
            rw [e] at this; exact this
        · rw [decide_eq_false he, brB_false]; exact fin (fun _ h => absurd h he) _ st
    · rw [show decide ((j : Int) < (s2.len : Int)) = false by rw [l2, hcl]; exact dlt_f hlt, brB_false]
      have e : okAt l k i = true := okAt_iff.2 ⟨h0, fun a ha => hall a (by omega) ha⟩
      have := hK _ st
      rw [e] at this; exact this

theorem nextI_succ_f {i : Nat} (h : okAt l k i = false) : nextI l k (i + 1) = nextI l k i := by rw [nextI, if_neg (by simp [h])]
theorem nextI_succ_t {i : Nat} (h : okAt l k i = true) : nextI l k (i + 1) = some i := by rw [nextI, if_pos h]

theorem Hs.next {K : Bool → HP} (st : Hs fr G As h) (g : Nat) (hg : G[g]? = some (le l s)) (hl : l.length ≤ 1099511627776) (hm : Mono l) (hk : k.length = l.length) (kt : Nat) (hkt : As[kt]? = some (ob k s2))
    (hN : ∀ h', nextI l k l.length = none → Hs fr G As h' → K false h') (hS : ∀ i h', nextI l k l.length = some i → Hs fr G (As.set kt (ob (cnd l k i) s2)) h' → K true h') :
    callT Try.prog fn_crash_next #[.slice s.a s.len s.cap, .slice s2.a s2.len s2.cap] .bool K h := by
  refine S_crash_next (a0 := s) (a1 := s2) K ?_
  unfold F_crash_next
  have l2 := osl_len (st.own kt hkt)
  have c2 := rsl_cap (st.own kt hkt).rsl
  have hktl := (List.getElem?_eq_some_iff.1 hkt).1
  refine lfp_invh (I := fun μ σ h' => ∃ n : Nat, σ = ((n : Int) - 1, false, ()) ∧ n ≤ l.length ∧ nextI l k n = nextI l k l.length ∧ Hs fr G As h' ∧ μ = n) ⟨_, l.length, ?_, Nat.le_refl _, rfl, st, rfl⟩ ?_
  · rw [l2, hk, wrap_i64 (by omega) (by omega)]
  clear st
  rintro μ σ h2 X ⟨n, rfl, hn, hnx, st, em⟩ hX
  simp only
  rcases Nat.eq_zero_or_pos n with h0 | h0
  · subst h0
    have e1 : decide ((((0 : Nat) : Int) - 1) ≥ (0 : Int)) = false := by decide
    rw [e1, brB_false]
    exact hN _ hnx.symm st
  · obtain ⟨i, rfl⟩ : ∃ i, n = i + 1 := ⟨n - 1, by omega⟩
    have e1 : (((i + 1 : Nat) : Int) - 1) = (i : Int) := by omega
    rw [e1, decide_eq_true (show (i : Int) ≥ 0 by omega), brB_true, wrap_i64 (x := (i : Int) - 1) (by omega) (by omega)]
    refine jn_in fun J hJ => ?_
    have fin : okAt l k i = false → ∀ h', Hs fr G As h' → J (false, ()) h' := fun ho h' st => hJ _ _ (hX _ _ _ ⟨i, rfl, by omega, by rw [← hnx, nextI_succ_f ho], st, rfl⟩ (by omega))
    refine rdE (τ := .bool) (st.own kt hkt).rsl (show i < k.length by omega) ?_
    rw [← K_get (show i < k.length by omega)]
    cases hki : Cr.K k i with
    | true =>
      rw [brB_true]
      refine fin ?_ _ st
      rw [← Bool.not_eq_true, okAt_iff, hki]
      exact fun h => by cases h.1
    | false =>
      rw [brB_false]
      refine ⟨by omega, by simp only; omega, ?_⟩
      rw [Int.toNat_natCast]
      have hS1 := rsl_sub (st.own kt hkt).rsl (l := 0) (m := i) (by omega) (by omega)
      rw [List.drop_zero] at hS1
      refine Hs.clone_bool st hS1 (by simp; omega) fun r7 h3 st => ?_
      have e2 : IntKind.wrap .i64 ((s2.len : Int) - (i : Int)) = ((l.length - i : Nat) : Int) := by rw [l2, hk, wrap_i64 (by omega) (by omega)]; omega
      rw [e2]
      refine Hs.apz (τ := .bool) (xs := k.take i) (s := r7) (z := false) st As.length (lastA _ _) rfl (by simp; omega) (by decide) fun s8 h4 st => ?_
      rw [setL] at st
      refine st.wrE (τ := .bool) (s := s8) As.length (lastA _ _) (show i < (k.take i ++ List.replicate (l.length - i) false).length by simp; omega) true fun h5 st => ?_
      rw [setL] at st
      have e3 : (k.take i ++ List.replicate (l.length - i) false).set i true = cnd l k i := by
        unfold cnd
        have e4 : (k.take i).length = i := by simp; omega
        rw [List.set_append_right _ _ (by omega), e4, Nat.sub_self]
        obtain ⟨q, hq⟩ : ∃ q, l.length - i = q + 1 := ⟨l.length - i - 1, by omega⟩
        rw [hq, List.replicate_succ, List.set_cons_zero]; rfl
      rw [e3] at st
      refine Hs.fill st g hg hl hm (show i < l.length by omega) hk hki As.length (lastA _ _) fun h6 st => ?_
      cases ho : okAt l k i with
      | true =>
        rw [brB_true]
        have e4 : (As ++ [ob (cnd l k i) s8])[kt]? = some (ob k s2) := by rw [List.getElem?_append_left hktl]; exact hkt
        refine Hs.cpyS (τ := .bool) st kt e4 (st.own As.length (lastA _ _)).rsl (by rw [cnd_len hk (by omega), hk]) leaf_bool fun h7 st => ?_
        rw [List.set_append_left _ _ hktl] at st
        exact hS i _ (by rw [← hnx, nextI_succ_t ho]) st.dropL
      | false =>
        rw [brB_false]
        exact fin ho _ st.dropL

end Go.Proofs.S
