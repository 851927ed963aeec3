/-
  RupSound.
-/
import Derived.Test.YtcoeaaobbfbcjaaRuG
import Derived.Test.YtcoeaaobbfbcjaaRpS
set_option linter.unusedVariables false
set_option linter.unusedSimpArgs false
namespace Go.Proofs.S
open Go Go.Sx Go.Proofs Go.Cl Go.Rp

variable {h : Heap} {c d A us : List Int} {cs ds hs : List (List Int)} {s s2 s3 : Sl} {fr : Fr} {G As : List Asn} {b n : Nat} {t : TypeId}

theorem bitB_not {b : Nat} {x : Int} (h : bitB b x = true) : ¬ bitB b (-x) = true := by
  unfold bitB at h ⊢
  rw [Int.neg_neg]
  generalize b / 2 ^ x.toNat % 2 = z1 at *
  generalize b / 2 ^ (-x).toNat % 2 = z2 at *
  simp at h ⊢
  omega
theorem bitB_or {b : Nat} {x : Int} (h : x ≠ 0) : bitB b x = true ∨ bitB b (-x) = true := by
  unfold bitB
  rw [Int.neg_neg]
  have e1 : b / 2 ^ x.toNat % 2 < 2 := Nat.mod_lt _ (by decide)
  have e2 : b / 2 ^ (-x).toNat % 2 < 2 := Nat.mod_lt _ (by decide)
  generalize b / 2 ^ x.toNat % 2 = z1 at *
  generalize b / 2 ^ (-x).toNat % 2 = z2 at *
  simp
  omega
theorem trueP_iff {b : Nat} {c : List Int} : trueP b c = true ↔ ∃ x ∈ c, bitB b x = true := by unfold trueP; rw [List.any_eq_true]

theorem allR_small (l : List (List Int)) (m : Nat) : ∀ c ∈ allR l m, (∀ x ∈ c, -40 ≤ x ∧ x ≤ 40) ∧ c.length ≤ 1048576 := fun c hc => by
  obtain ⟨d, rfl⟩ := allR_mem hc
  exact ⟨fun x hx => by have := madeR_range hx; omega, by have := madeR_len d; omega⟩
theorem allR_fuel (l : List (List Int)) (m : Nat) (hm : m ≤ 1000) : fuelP (allR l m) ≤ 1000000 := by
  have h1 := allR_len l m
  have := flat_le (m := m) (k := 6) h1 fun c hc => by obtain ⟨d, rfl⟩ := allR_mem hc; exact madeR_len d
  unfold fuelP; omega

set_option maxRecDepth 4000 in
theorem rupSound_F (hA : At h (l8 c s)) (hB : At h (ll8 cs s2)) (K : Bool → HP) (hK : ∀ x h', (x = true ∧ Ext [] h h') → K x h') : F_salvorlaw08_RupSound s s2 K h := by
  unfold F_salvorlaw08_RupSound
  have st := Hs.start h [l8 c s, ll8 cs s2] (by simp [hA, hB])
  refine call_of (awake_c h) ?_
  rintro _ h1 ⟨rfl, x1⟩
  refine brF rfl ?_
  have st := st.ext x1
  refine call_of (Made_c (st.fz 0 rfl)) ?_
  rintro r1 h2 ⟨n2, x2⟩
  have st := st.new x2 n2
  refine call_of (All_c (m := 14) (st.fz 1 rfl) (by decide)) ?_
  rintro r2 h3 ⟨n3, x3⟩
  have st := st.new x3 n3
  have hc := madeR_right c
  have hr := allR_right cs 14
  have hl := allR_len cs 14
  have hcl := madeR_len c
  have hsm := allR_small cs 14
  have hfu := allR_fuel cs 14 (by decide)
  have hcr : ∀ x ∈ madeR c, x ≠ 0 ∧ -6 ≤ x ∧ x ≤ 6 := fun x hx => madeR_range hx
  generalize madeR c = mc at *
  generalize allR cs 14 = l at *
  have hl' : l.length ≤ 65536 := by omega
  refine call_of (Check_c (st.own 0 rfl).rsl (llo_lli (st.own 1 rfl)) (by omega) (by omega)) ?_
  rintro _ h4 ⟨rfl, x4⟩
  have st := st.ext x4
  refine call_of (Find_c (st.own 0 rfl).rsl (llo_lli (st.own 1 rfl)) (by omega) (by omega) hfu) ?_
  rintro _ h5 ⟨s5, rfl, n5, x5⟩
  have st := st.new x5 n5
  have fe := find_err hc hr hl'
  have cle := check_le hc hr hl'
  have lr2 : r2.len = l.length := rsg_len (llo_lli (st.own 1 rfl))
  simp only
  rw [fe]
  -- the first test is false
  refine jn_mid (M := fun t h' => t = false ∧ h' = h5) ?_ ?_
  rotate_left
  · intro J hJ
    refine brF rfl ?_
    refine jn_in fun J2 hJ2 => ?_
    have fin : J2 false h5 := hJ2 _ _ (hJ _ _ ⟨rfl, rfl⟩)
    by_cases h0 : (checkP mc l).2.2 = 0
    · refine brT (by simpa using h0) ?_
      refine jn_in fun J3 hJ3 => ?_
      refine brF (decide_eq_false (show ¬ ((((checkP mc l).2.1 : Nat) : Int) < 0) by omega)) (hJ3 _ _ ?_)
      rw [show decide ((((checkP mc l).2.1 : Nat) : Int) > (r2.len : Int)) = false from decide_eq_false (by omega)]; exact fin

    · exact brF (by simpa using h0) fin
  rintro _ h6 ⟨rfl, e⟩; subst e
  refine brF rfl ?_
  have lst := fun {h' : Heap} {As : List Asn} (st : Hs [([], h)] [l8 c s, ll8 cs s2] As h') => st.frame (h0 := h) (by simp)
  -- the loop
  refine lfp_invh (I := fun m σ h' => ∃ (k : Nat) (x : Bool), σ = (((2 * k : Nat) : Int), x, ()) ∧ k ≤ 64 ∧ m = 64 - k ∧ Hs [([], h)] [l8 c s, ll8 cs s2] [lo mc r1, llo l r2, nio (findP mc l).1 s5] h')
    ⟨_, 0, false, by rw [Nat.mul_zero]; rfl, by omega, rfl, by

      exact st⟩ ?_
  clear st
  rintro m σ h7 X ⟨k, x, rfl, hk, rfl, st⟩ hX
  simp only
  rcases Nat.lt_or_ge k 64 with hlt | hlt
  · refine brT (decide_eq_true (by omega)) ?_
    obtain ⟨q, eq⟩ : ∃ q, q = 2 * k := ⟨_, rfl⟩
    rw [← eq]
    have next : ∀ h', Hs [([], h)] [l8 c s, ll8 cs s2] [lo mc r1, llo l r2, nio (findP mc l).1 s5] h' → X (IntKind.wrap .i64 ((q : Int) + 2), x, ()) h' := fun h' st => by
      rw [wrap_i64 (by omega) (by omega)]
      exact hX _ _ _ ⟨k + 1, x, by rw [show ((2 * (k + 1) : Nat) : Int) = (q : Int) + 2 by omega], by omega, rfl, st⟩ (by omega)
    have hT : ∀ x, bitB q x = true → ¬ bitB q (-x) = true := fun x => bitB_not
    have hTot : ∀ x ∈ mc, bitB q x = true ∨ bitB q (-x) = true := fun x hx => bitB_or (hcr x hx).1
    -- the first: not all of the hints hold, or the clause holds
    refine jn_mid (M := fun t h' => (t = true → (checkP mc l).2.2 = 0 ∧ (l.take (checkP mc l).2.1).all (trueP q) = true) ∧ Hs [([], h)] [l8 c s, ll8 cs s2] [lo mc r1, llo l r2, nio (findP mc l).1 s5] h') ?_ ?_
    rotate_left
    · intro J hJ
      by_cases h0 : (checkP mc l).2.2 = 0
      · refine brT (by simpa using h0) ?_
        obtain ⟨ps, lp, ho, _⟩ := rsg_open (llo_lli (st.own 1 rfl))
        have hcap := rsl_cap ho
        refine ⟨by omega, by show (((checkP mc l).2.1 : Nat) : Int) ≤ (r2.cap : Int); omega, ?_⟩
        rw [Int.toNat_natCast]
        refine call_of (AllTrue_c (m := q) (rsg_take (llo_lli (st.own 1 rfl)) cle) (fun d hd => hsm d (List.mem_of_mem_take hd)) (by simp; omega)) ?_
        rintro _ h8 ⟨rfl, x8⟩
        exact hJ _ _ ⟨fun e => ⟨h0, e⟩, st.ext x8⟩
      · exact brF (by simpa using h0) (hJ _ _ ⟨(by intro e; cases e), st⟩)
    rintro t1 h8 ⟨ht1, st⟩
    refine jn_mid (M := fun t h' => t = false ∧ Hs [([], h)] [l8 c s, ll8 cs s2] [lo mc r1, llo l r2, nio (findP mc l).1 s5] h') ?_ ?_
    rotate_left
    · intro J hJ
      cases t1
      · exact brF rfl (hJ _ _ ⟨rfl, st⟩)
      · refine brT rfl ?_
        obtain ⟨h0, hal⟩ := ht1 rfl
        refine call_of (True_c (m := q) (st.own 0 rfl).rsl (fun x hx => by have := hcr x hx; omega) (by omega)) ?_
        rintro _ h9 ⟨rfl, e⟩; subst e
        refine hJ _ _ ⟨?_, st⟩
        rw [trueP_iff.2 (check_sound hT hTot hc hr hl' h0 fun d hd => trueP_iff.1 (List.all_eq_true.1 hal d hd))]; rfl
    rintro _ h9 ⟨rfl, st⟩
    refine jn_mid (M := fun t h' => t = false ∧ Hs [([], h)] [l8 c s, ll8 cs s2] [lo mc r1, llo l r2, nio (findP mc l).1 s5] h') ?_ ?_
    · rintro _ h9 ⟨rfl, st⟩
      exact brF rfl (next _ st)
    intro J hJ
    refine brF rfl ?_
    refine jn_mid (M := fun t h' => (t = true → (findP mc l).2.1 = true ∧ l.all (trueP q) = true) ∧ Hs [([], h)] [l8 c s, ll8 cs s2] [lo mc r1, llo l r2, nio (findP mc l).1 s5] h') ?_ ?_
    rotate_left
    · intro J hJ
      cases hf : (findP mc l).2.1
      · exact brF rfl (hJ _ _ ⟨(by intro e; cases e), st⟩)
      · refine brT rfl ?_
        refine call_of (AllTrue_c (m := q) (llo_lli (st.own 1 rfl)) hsm (by omega)) ?_
        rintro _ h10 ⟨rfl, x8⟩
        exact hJ _ _ ⟨fun e => ⟨hf, e⟩, st.ext x8⟩
    rintro t2 h10 ⟨ht2, st⟩
    refine jn_in fun J2 hJ2 => ?_
    cases t2
    · exact brF rfl (hJ2 _ _ (hJ _ _ ⟨rfl, st⟩))
    · refine brT rfl ?_
      obtain ⟨h0, hal⟩ := ht2 rfl
      refine call_of (True_c (m := q) (st.own 0 rfl).rsl (fun x hx => by have := hcr x hx; omega) (by omega)) ?_
      rintro _ h11 ⟨rfl, e⟩; subst e
      refine hJ2 _ _ (hJ _ _ ⟨?_, st⟩)
      rw [trueP_iff.2 (find_sound hT hTot hc hr hl' h0 fun d hd => trueP_iff.1 (List.all_eq_true.1 hal d hd))]; rfl
  · refine brF (decide_eq_false (by omega)) ?_
    refine jn_in fun J hJ => ?_
    have fin : ∀ h', Ext [] h h' → J true h' := fun h' x => hJ _ _ (hK _ _ ⟨rfl, x⟩)
    by_cases h0 : (checkP mc l).2.2 = 0
    · refine brF (by simpa using h0) ?_
      have hf := check_find hc hr hl' h0
      refine jn_in fun J2 hJ2 => ?_
      refine brT hf ?_
      refine jn_in fun J3 hJ3 => ?_
      have ls := osl_len (st.own 2 rfl)
      simp only [nats, List.length_map] at ls
      by_cases hp : 0 < (findP mc l).1.length
      · exact brT (decide_eq_true (by rw [ls]; omega)) (hJ3 _ _ (hJ2 _ _ (fin _ (st.frame (by simp)))))
      · refine brF (decide_eq_false (by rw [ls]; omega)) ?_
        refine call_of (always_c (st.own 0 rfl).rsl) ?_
        rintro _ h8 ⟨rfl, x8⟩
        have st := st.ext x8
        rw [hc, (find_some hc hr hl' hf).resolve_left hp]
        exact hJ3 _ _ (hJ2 _ _ (fin _ (st.frame (by simp))))
    · exact brT (by simpa using h0) (fin _ (st.frame (by simp)))

end Go.Proofs.S

/-
  What the laws of rup share: the hints, frozen with their headers; heads of slices.
-/
set_option linter.unusedVariables false
set_option linter.unusedSimpArgs false
namespace Go.Sx
open Go
variable {α β : Type} {h : Heap} {enc : α → Value} {xs : List α} {s : Sl}
theorem Inner.map {I J : β → Sl → Asn} (hf : ∀ x p S h, (I x p).P S h → (J x p).P S h) : ∀ {xs : List β} {ps : List Sl} {S : List Nat}, Inner I xs ps S h → Inner J xs ps S h
  | [], [], _, e => e
  | x :: xs, p :: ps, S, ⟨S1, S2, e, hp, hi⟩ => ⟨S1, S2, e, hf _ _ _ _ hp, hi.map hf⟩
  | [], _ :: _, _, e => e.elim
  | _ :: _, [], _, e => e.elim
theorem Inner.each {I : β → Sl → Asn} : ∀ {xs : List β} {ps : List Sl} {S : List Nat}, Inner I xs ps S h → ∀ A ∈ List.zipWith (fun c p => I c p) xs ps, ∃ S', A.P S' h ∧ ∀ b ∈ S', b ∈ S
  | [], [], _, _, A, hA => by simp at hA
  | x :: xs, p :: ps, S, ⟨S1, S2, e, hp, hi⟩, A, hA => by
    subst e
    simp only [List.zipWith_cons_cons, List.mem_cons] at hA
    rcases hA with rfl | hA
    · exact ⟨S1, hp, fun b hb => List.mem_append_left _ hb⟩
    · obtain ⟨S', q, k⟩ := hi.each A hA
      exact ⟨S', q, fun b hb => List.mem_append_right _ (k b hb)⟩
  | [], _ :: _, _, e, _, _ => e.elim
  | _ :: _, [], _, e, _, _ => e.elim
/-- The head of a slice. -/
theorem slH_min (hA : At h (rsl enc xs s)) (m : Nat) {K : Sl → HP} (hK : ∀ s0, (∀ h', At h' (rsl enc xs s) → At h' (rsl enc (xs.take m) s0)) → K s0 h) :
    slH ⟨s.a, s.len, s.cap⟩ (if (m : Int) < (s.len : Int) then (m : Int) else (s.len : Int)) 1 K h := by
  have l1 := rsl_len hA
  have l2 := rsl_cap hA
  have em : (if (m : Int) < (s.len : Int) then (m : Int) else (s.len : Int)) = ((min xs.length m : Nat) : Int) := by split <;> omega
  rw [em]
  refine ⟨Int.natCast_nonneg _, Int.ofNat_le.2 (show min xs.length m ≤ s.cap by omega), ?_⟩
  rw [Int.toNat_natCast]
  refine hK _ fun h' hA' => ?_
  have := rsl_sub hA' (l := 0) (m := min xs.length m) (by omega) (by omega)
  have e : xs.take (min xs.length m) = xs.take m := by
    rcases Nat.le_total xs.length m with k | k
    · rw [Nat.min_eq_left k, List.take_length, List.take_of_length_le k]
    · rw [Nat.min_eq_right k]
  rw [List.drop_zero, e] at this; exact this
end Go.Sx
namespace Go.Proofs.S
open Go Go.Sx Go.Proofs Go.Cl Go.Rp

variable {h : Heap} {c d A us : List Int} {cs ds hs l : List (List Int)} {s s2 s3 : Sl} {fr : Fr} {G As : List Asn} {b n : Nat} {t : TypeId}

/-- Clauses of one's own, frozen: their headers, they, each of them. -/
theorem Hs.rowsF (st : Hs fr G As h) (k : Nat) (hk : As[k]? = some (llo l s)) : ∃ ps : List Sl, ps.length = l.length ∧ Hs fr (G ++ (rsl Ty.sl.enc ps s :: lli l s :: rows l ps)) (As.eraseIdx k) h := by
  obtain ⟨S, hs, hz, hf⟩ := st.freeze k hk
  obtain ⟨S1, p, d⟩ := hz (llo l s) (by simp)
  obtain ⟨ps, Sa, Sb, e, hp, hi⟩ := osg_rsg p
  subst e
  have hi2 : Inner (fun c p => li c p) l ps Sb h := hi.map fun x p S h k => osl_rsl k
  refine ⟨ps, hi.len, S, hs, fun A hA => ?_, hf⟩
  rcases List.mem_append.1 hA with hA | hA
  · exact hz A (List.mem_append_left _ hA)
  · simp only [List.mem_cons] at hA
    rcases hA with rfl | rfl | hA
    · exact ⟨Sa, hp, fun b hb => d b (List.mem_append_left _ hb)⟩
    · exact ⟨Sa ++ Sb, ⟨ps, Sa, Sb, rfl, hp, hi2⟩, d⟩
    · obtain ⟨S', q, k⟩ := hi2.each A hA
      exact ⟨S', q, fun b hb => d b (List.mem_append_right _ (k b hb))⟩

end Go.Proofs.S
