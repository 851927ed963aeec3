/-
  RupFinds: the walk.
-/
import Derived.Test.YtcoeaaobbfbcjaaRuX
import Derived.Test.YtcoeaaobbfbcjaaSxWn
import Derived.Test.YtcoeaaobbfbcjaaRpS
import Derived.Test.YtcoeaaobbfbcjaaSxW3
set_option linter.unusedVariables false
set_option linter.unusedSimpArgs false
namespace Go.Proofs.S
open Go Go.Sx Go.Proofs Go.Cl Go.Rp

variable {h : Heap} {c d A us : List Int} {cs ds hs : List (List Int)} {s s2 s3 : Sl} {fr : Fr} {G As : List Asn} {b : Nat}

set_option maxRecDepth 4000 in
theorem finds_c (hA : At h (li c s)) (hB : At h (lli cs s2)) (hl : c.length ≤ 1048576) (hl2 : cs.length ≤ 65536) (hcl : ∀ c ∈ cs, c.length ≤ 1048576) (hf : fuelP cs ≤ 500000) :
    callT Try.prog fn_salvorlaw08_finds #[.slice s.a s.len s.cap, .slice s2.a s2.len s2.cap] .bool (fun r h' => r = true ∧ Ext [] h h') h := by
  refine callT_gen fun K hK => S_salvorlaw08_finds (a0 := s) (a1 := s2) K ?_
  unfold F_salvorlaw08_finds
  have st := Hs.start h [li c s, lli cs s2] (by simp [hA, hB])
  refine call_of (Copies_c (st.fz 1 rfl) hcl (by omega)) ?_
  rintro r0 h1 ⟨n1, x1⟩
  have st := st.new x1 n1
  refine call_of (Find_c (st.fz 0 rfl) (llo_lli (st.own 0 rfl)) hl (by omega) (by omega)) ?_
  rintro _ h2 ⟨s1, rfl, n2, x2⟩
  have st := st.new x2 n2
  refine call_of (Ints_c (st.fz 0 rfl) hl) ?_
  rintro r2 h3 ⟨n3, x3⟩
  have st := st.new x3 n3
  refine call_of (r2_right_c (st.own 2 rfl).rsl (by omega)) ?_
  rintro _ h4 ⟨rfl, e⟩; subst e
  have ls := osl_len (st.own 1 rfl)
  simp only [nats, List.length_map] at ls
  refine jn_mid (M := fun t h' => t = (wrongP cs || !rightC c) ∧ Hs [([], h)] [li c s, lli cs s2] [llo cs r0, nio (findP c cs).1 s1, iox c r2] h') ?_ ?_
  rotate_left
  · intro J hJ
    cases hc : rightC c
    · exact brT rfl (hJ _ _ ⟨by simp [hc], st⟩)
    · refine brF rfl ?_
      refine call_of (Lists_c (st.fz 1 rfl) hcl (by omega)) ?_
      rintro r21 h5 ⟨n5, x5⟩
      have st := st.new x5 n5
      refine call_of (r8_clauses_c (lix_lli (st.own 3 rfl)) hcl (by omega)) ?_
      rintro _ h6 ⟨rfl, e⟩; subst e
      exact hJ _ _ ⟨by simp [hc], st.drop 3 rfl⟩
  rintro _ h5 ⟨rfl, st⟩
  cases hw : (wrongP cs || !rightC c)
  rotate_left
  · have e : findP c cs = ([], false, 20) := by unfold findP; rw [hw]; rfl
    rw [e] at ls st ⊢
    refine brT rfl ?_
    refine jn_in fun J hJ => brT (by simpa using ls) (hJ _ _ ?_)
    refine jn_in fun J hJ => brT rfl (hJ _ _ ?_)
    exact hK _ _ ⟨rfl, st.frame (by simp)⟩
  rw [Bool.or_eq_false_iff, Bool.not_eq_false'] at hw
  have hr := all_right hw.1
  refine brF rfl ?_
  refine call_of (Ints_c (st.fz 0 rfl) hl) ?_
  rintro r10 h6 ⟨n6, x6⟩
  have st := st.new x6 n6
  refine call_of (Lists_c (st.fz 1 rfl) hcl (by omega)) ?_
  rintro r11 h7 ⟨n7, x7⟩
  have st := st.new x7 n7
  refine call_of (r8_Find_c (st.own 3 rfl).rsl (lix_lli (st.own 4 rfl)) hw.2 hr hl2 hf) ?_
  rintro _ h8 ⟨s8, rfl, n8, x8⟩
  have st := st.new x8 n8
  have hfl : (findP c cs).1.length ≤ 1048576 := by
    cases hok : (findP c cs).2.1
    · cases ha : alwaysC c
      · rcases find_cases hw.2 hr hl2 ha with ⟨e, _⟩ | ⟨_, _, _, _, _, _, e⟩
        · rw [e]; simp
        · rw [e] at hok; cases hok
      · rw [find_eq hw.2 hr hl2, ha]; simp
    · have law := found_law hw.2 hr hl2 hok
      have := nodup_bound _ law.nodup law.lt
      omega
  refine call_of (equal_int (st.own 1 rfl).rsl (st.own 5 rfl).rsl (by simp only [nats, List.length_map]; omega)) ?_
  rintro _ h9 ⟨rfl, e⟩; subst e
  rw [decide_eq_true rfl]
  refine jn_in fun J hJ => brT rfl (hJ _ _ ?_)
  refine jn_in fun J hJ => brT (by simp) (hJ _ _ ?_)
  rw [find_err hw.2 hr hl2]
  refine jn_in fun J hJ => brT rfl ?_
  refine call_of (SameLists_c (llo_lli (st.own 0 rfl)) (st.fz 1 rfl) hcl (by omega)) ?_
  rintro _ h10 ⟨rfl, x10⟩
  have st := st.ext x10
  exact hJ _ _ (hK _ _ ⟨rfl, st.frame (by simp)⟩)

theorem rupFinds_F (hA : At h (li c s)) (hB : At h (lli cs s2)) (K : Bool → HP) (hK : ∀ x h', (x = true ∧ Ext [] h h') → K x h') : F_salvorlaw08_RupFinds s s2 K h := by
  unfold F_salvorlaw08_RupFinds
  have l1 := rsl_len hA
  refine jn_mid (M := fun t h' => (t = false → c.length ≤ 20 ∧ cs.length ≤ 30 ∧ ∀ c ∈ cs, c.length ≤ 12) ∧ Ext [] h h') ?_ ?_
  rotate_left
  · intro J hJ
    by_cases h2 : c.length > 20
    · exact brT (by rw [l1]; exact decide_eq_true (by omega)) (hJ _ _ ⟨(by intro e; cases e), Ext.refl' _ _⟩)
    · refine brF (by rw [l1]; exact decide_eq_false (by omega)) ?_
      refine call_of (Few_c (m := 30) (k := 12) hB (by decide)) ?_
      rintro _ h3 ⟨rfl, x3⟩
      refine hJ _ _ ⟨fun e => ?_, x3⟩
      rw [Bool.not_eq_false', Bool.and_eq_true, decide_eq_true_eq, List.all_eq_true] at e
      exact ⟨by omega, e.1, fun c hc => by simpa using e.2 c hc⟩
  rintro t2 h2 ⟨ht, x2⟩
  refine jn_mid (M := fun t h' => t = true ∧ Ext [] h h') ?_ ?_
  rotate_left
  · intro J hJ
    cases t2
    · refine brF rfl ?_
      obtain ⟨q1, q3, q4⟩ := ht rfl
      refine call_of (finds_c (hA.ext x2) (hB.ext x2) (by omega) (by omega) (fun c hc => by have := q4 c hc; omega) (by
        have := flat_le q3 q4
        unfold fuelP; omega)) ?_
      rintro _ h3 ⟨rfl, x3⟩
      exact hJ _ _ ⟨rfl, x2.nil_trans x3⟩
    · exact brT rfl (hJ _ _ ⟨rfl, x2⟩)
  rintro _ h3 ⟨rfl, x3⟩
  refine jn_in fun J hJ => brT rfl ?_
  refine call_of (awake_c h3) ?_
  rintro _ h4 ⟨rfl, x4⟩
  exact hJ _ _ (hK _ _ ⟨rfl, x3.nil_trans x4⟩)

end Go.Proofs.S

/-
  RupSound.
-/
set_option linter.unusedVariables false
set_option linter.unusedSimpArgs false
namespace Go.Proofs.S
open Go Go.Sx Go.Proofs Go.Cl Go.Rp

variable {h : Heap} {c d A us : List Int} {cs ds hs : List (List Int)} {s s2 s3 : Sl} {fr : Fr} {G As : List Asn} {b n : Nat} {t : TypeId}

theorem bitB_not {b : Nat} {x : Int} (h : bitB b x = true) : ¬ bitB b (-x) = true := by
  unfold bitB at h ⊢
  rw [Int.neg_neg]
  generalize b / 2 ^ x.toNat % 2 = z1 at *
  generalize b / 2 ^ (-x).toNat % 2 = z2 at *
  simp at h ⊢
  omega
theorem bitB_or {b : Nat} {x : Int} (h : x ≠ 0) : bitB b x = true ∨ bitB b (-x) = true := by
  unfold bitB
  rw [Int.neg_neg]
  have e1 : b / 2 ^ x.toNat % 2 < 2 := Nat.mod_lt _ (by decide)
  have e2 : b / 2 ^ (-x).toNat % 2 < 2 := Nat.mod_lt _ (by decide)
  generalize b / 2 ^ x.toNat % 2 = z1 at *
  generalize b / 2 ^ (-x).toNat % 2 = z2 at *
  simp
  omega
theorem trueP_iff {b : Nat} {c : List Int} : trueP b c = true ↔ ∃ x ∈ c, bitB b x = true := by unfold trueP; rw [List.any_eq_true]

theorem allR_small (l : List (List Int)) (m : Nat) : ∀ c ∈ allR l m, (∀ x ∈ c, -40 ≤ x ∧ x ≤ 40) ∧ c.length ≤ 1048576 := fun c hc => by
  obtain ⟨d, rfl⟩ := allR_mem hc
  exact ⟨fun x hx => by have := madeR_range hx; omega, by have := madeR_len d; omega⟩
theorem allR_fuel (l : List (List Int)) (m : Nat) (hm : m ≤ 1000) : fuelP (allR l m) ≤ 1000000 := by
  have h1 := allR_len l m
  have := flat_le (m := m) (k := 6) h1 fun c hc => by obtain ⟨d, rfl⟩ := allR_mem hc; exact madeR_len d
  unfold fuelP; omega

set_option maxRecDepth 4000 in
theorem rupSound_F (hA : At h (l8 c s)) (hB : At h (ll8 cs s2)) (K : Bool → HP) (hK : ∀ x h', (x = true ∧ Ext [] h h') → K x h') : F_salvorlaw08_RupSound s s2 K h := by
  unfold F_salvorlaw08_RupSound
  have st := Hs.start h [l8 c s, ll8 cs s2] (by simp [hA, hB])
  refine call_of (awake_c h) ?_
  rintro _ h1 ⟨rfl, x1⟩
  refine brF rfl ?_
  have st := st.ext x1
  refine call_of (Made_c (st.fz 0 rfl)) ?_
  rintro r1 h2 ⟨n2, x2⟩
  have st := st.new x2 n2
  refine call_of (All_c (m := 14) (st.fz 1 rfl) (by decide)) ?_
  rintro r2 h3 ⟨n3, x3⟩
  have st := st.new x3 n3
  have hc := madeR_right c
  have hr := allR_right cs 14
  have hl := allR_len cs 14
  have hcl := madeR_len c
  have hsm := allR_small cs 14
  have hfu := allR_fuel cs 14 (by decide)
  have hcr : ∀ x ∈ madeR c, x ≠ 0 ∧ -6 ≤ x ∧ x ≤ 6 := fun x hx => madeR_range hx
  generalize madeR c = mc at *
  generalize allR cs 14 = l at *
  have hl' : l.length ≤ 65536 := by omega
  refine call_of (Check_c (st.own 0 rfl).rsl (llo_lli (st.own 1 rfl)) (by omega) (by omega)) ?_
  rintro _ h4 ⟨rfl, x4⟩
  have st := st.ext x4
  refine call_of (Find_c (st.own 0 rfl).rsl (llo_lli (st.own 1 rfl)) (by omega) (by omega) hfu) ?_
  rintro _ h5 ⟨s5, rfl, n5, x5⟩
  have st := st.new x5 n5
  have fe := find_err hc hr hl'
  have cle := check_le hc hr hl'
  have lr2 : r2.len = l.length := rsg_len (llo_lli (st.own 1 rfl))
  simp only
  rw [fe]
  -- the first test is false
  refine jn_mid (M := fun t h' => t = false ∧ h' = h5) ?_ ?_
  rotate_left
  · intro J hJ
    refine brF rfl ?_
    refine jn_in fun J2 hJ2 => ?_
    have fin : J2 false h5 := hJ2 _ _ (hJ _ _ ⟨rfl, rfl⟩)
    by_cases h0 : (checkP mc l).2.2 = 0
    · refine brT (by simpa using h0) ?_
      refine jn_in fun J3 hJ3 => ?_
      refine brF (decide_eq_false (show ¬ ((((checkP mc l).2.1 : Nat) : Int) < 0) by omega)) (hJ3 _ _ ?_)
      rw [show decide ((((checkP mc l).2.1 : Nat) : Int) > (r2.len : Int)) = false from decide_eq_false (by omega)]; exact fin

    · exact brF (by simpa using h0) fin
  rintro _ h6 ⟨rfl, e⟩; subst e
  refine brF rfl ?_
  have lst := fun {h' : Heap} {As : List Asn} (st : Hs [([], h)] [l8 c s, ll8 cs s2] As h') => st.frame (h0 := h) (by simp)
  -- the loop
  refine lfp_invh (I := fun m σ h' => ∃ (k : Nat) (x : Bool), σ = (((2 * k : Nat) : Int), x, ()) ∧ k ≤ 64 ∧ m = 64 - k ∧ Hs [([], h)] [l8 c s, ll8 cs s2] [lo mc r1, llo l r2, nio (findP mc l).1 s5] h')
    ⟨_, 0, false, by rw [Nat.mul_zero]; rfl, by omega, rfl, by

      exact st⟩ ?_
  clear st
  rintro m σ h7 X ⟨k, x, rfl, hk, rfl, st⟩ hX
  simp only
  rcases Nat.lt_or_ge k 64 with hlt | hlt
  · refine brT (decide_eq_true (by omega)) ?_
    obtain ⟨q, eq⟩ : ∃ q, q = 2 * k := ⟨_, rfl⟩
    rw [← eq]
    have next : ∀ h', Hs [([], h)] [l8 c s, ll8 cs s2] [lo mc r1, llo l r2, nio (findP mc l).1 s5] h' → X (IntKind.wrap .i64 ((q : Int) + 2), x, ()) h' := fun h' st => by
      rw [wrap_i64 (by omega) (by omega)]
      exact hX _ _ _ ⟨k + 1, x, by rw [show ((2 * (k + 1) : Nat) : Int) = (q : Int) + 2 by omega], by omega, rfl, st⟩ (by omega)
    have hT : ∀ x, bitB q x = true → ¬ bitB q (-x) = true := fun x => bitB_not
    have hTot : ∀ x ∈ mc, bitB q x = true ∨ bitB q (-x) = true := fun x hx => bitB_or (hcr x hx).1
    -- the first: not all of the hints hold, or the clause holds
    refine jn_mid (M := fun t h' => (t = true → (checkP mc l).2.2 = 0 ∧ (l.take (checkP mc l).2.1).all (trueP q) = true) ∧ Hs [([], h)] [l8 c s, ll8 cs s2] [lo mc r1, llo l r2, nio (findP mc l).1 s5] h') ?_ ?_
    rotate_left
    · intro J hJ
      by_cases h0 : (checkP mc l).2.2 = 0
      · refine brT (by simpa using h0) ?_
        obtain ⟨ps, lp, ho, _⟩ := rsg_open (llo_lli (st.own 1 rfl))
        have hcap := rsl_cap ho
        refine ⟨by omega, by show (((checkP mc l).2.1 : Nat) : Int) ≤ (r2.cap : Int); omega, ?_⟩
        rw [Int.toNat_natCast]
        refine call_of (AllTrue_c (m := q) (rsg_take (llo_lli (st.own 1 rfl)) cle) (fun d hd => hsm d (List.mem_of_mem_take hd)) (by simp; omega)) ?_
        rintro _ h8 ⟨rfl, x8⟩
        exact hJ _ _ ⟨fun e => ⟨h0, e⟩, st.ext x8⟩
      · exact brF (by simpa using h0) (hJ _ _ ⟨(by intro e; cases e), st⟩)
    rintro t1 h8 ⟨ht1, st⟩
    refine jn_mid (M := fun t h' => t = false ∧ Hs [([], h)] [l8 c s, ll8 cs s2] [lo mc r1, llo l r2, nio (findP mc l).1 s5] h') ?_ ?_
    rotate_left
    · intro J hJ
      cases t1
      · exact brF rfl (hJ _ _ ⟨rfl, st⟩)
      · refine brT rfl ?_
        obtain ⟨h0, hal⟩ := ht1 rfl
        refine call_of (True_c (m := q) (st.own 0 rfl).rsl (fun x hx => by have := hcr x hx; omega) (by omega)) ?_
        rintro _ h9 ⟨rfl, e⟩; subst e
        refine hJ _ _ ⟨?_, st⟩
        rw [trueP_iff.2 (check_sound hT hTot hc hr hl' h0 fun d hd => trueP_iff.1 (List.all_eq_true.1 hal d hd))]; rfl
    rintro _ h9 ⟨rfl, st⟩
    refine jn_mid (M := fun t h' => t = false ∧ Hs [([], h)] [l8 c s, ll8 cs s2] [lo mc r1, llo l r2, nio (findP mc l).1 s5] h') ?_ ?_
    · rintro _ h9 ⟨rfl, st⟩
      exact brF rfl (next _ st)
    intro J hJ
    refine brF rfl ?_
    refine jn_mid (M := fun t h' => (t = true → (findP mc l).2.1 = true ∧ l.all (trueP q) = true) ∧ Hs [([], h)] [l8 c s, ll8 cs s2] [lo mc r1, llo l r2, nio (findP mc l).1 s5] h') ?_ ?_
    rotate_left
    · intro J hJ
      cases hf : (findP mc l).2.1
      · exact brF rfl (hJ _ _ ⟨(by intro e; cases e), st⟩)
      · refine brT rfl ?_
        refine call_of (AllTrue_c (m := q) (llo_lli (st.own 1 rfl)) hsm (by omega)) ?_
        rintro _ h10 ⟨rfl, x8⟩
        exact hJ _ _ ⟨fun e => ⟨hf, e⟩, st.ext x8⟩
    rintro t2 h10 ⟨ht2, st⟩
    refine jn_in fun J2 hJ2 => ?_
    cases t2
    · exact brF rfl (hJ2 _ _ (hJ _ _ ⟨rfl, st⟩))
    · refine brT rfl ?_
      obtain ⟨h0, hal⟩ := ht2 rfl
      refine call_of (True_c (m := q) (st.own 0 rfl).rsl (fun x hx => by have := hcr x hx; omega) (by omega)) ?_
      rintro _ h11 ⟨rfl, e⟩; subst e
      refine hJ2 _ _ (hJ _ _ ⟨?_, st⟩)
      rw [trueP_iff.2 (find_sound hT hTot hc hr hl' h0 fun d hd => trueP_iff.1 (List.all_eq_true.1 hal d hd))]; rfl
  · refine brF (decide_eq_false (by omega)) ?_
    refine jn_in fun J hJ => ?_
    have fin : ∀ h', Ext [] h h' → J true h' := fun h' x => hJ _ _ (hK _ _ ⟨rfl, x⟩)
    by_cases h0 : (checkP mc l).2.2 = 0
    · refine brF (by simpa using h0) ?_
      have hf := check_find hc hr hl' h0
      refine jn_in fun J2 hJ2 => ?_
      refine brT hf ?_
      refine jn_in fun J3 hJ3 => ?_
      have ls := osl_len (st.own 2 rfl)
      simp only [nats, List.length_map] at ls
      by_cases hp : 0 < (findP mc l).1.length
      · exact brT (decide_eq_true (by rw [ls]; omega)) (hJ3 _ _ (hJ2 _ _ (fin _ (st.frame (by simp)))))
      · refine brF (decide_eq_false (by rw [ls]; omega)) ?_
        refine call_of (always_c (st.own 0 rfl).rsl) ?_
        rintro _ h8 ⟨rfl, x8⟩
        have st := st.ext x8
        rw [hc, (find_some hc hr hl' hf).resolve_left hp]
        exact hJ3 _ _ (hJ2 _ _ (fin _ (st.frame (by simp))))
    · exact brT (by simpa using h0) (fin _ (st.frame (by simp)))

end Go.Proofs.S

/-
  What the laws of rup share: the hints, frozen with their headers; heads of slices.
-/
set_option linter.unusedVariables false
set_option linter.unusedSimpArgs false
namespace Go.Sx
open Go
variable {α β : Type} {h : Heap} {enc : α → Value} {xs : List α} {s : Sl}
theorem Inner.map {I J : β → Sl → Asn} (hf : ∀ x p S h, (I x p).P S h → (J x p).P S h) : ∀ {xs : List β} {ps : List Sl} {S : List Nat}, Inner I xs ps S h → Inner J xs ps S h
  | [], [], _, e => e
  | x :: xs, p :: ps, S, ⟨S1, S2, e, hp, hi⟩ => ⟨S1, S2, e, hf _ _ _ _ hp, hi.map hf⟩
  | [], _ :: _, _, e => e.elim
  | _ :: _, [], _, e => e.elim
theorem Inner.each {I : β → Sl → Asn} : ∀ {xs : List β} {ps : List Sl} {S : List Nat}, Inner I xs ps S h → ∀ A ∈ List.zipWith (fun c p => I c p) xs ps, ∃ S', A.P S' h ∧ ∀ b ∈ S', b ∈ S
  | [], [], _, _, A, hA => by simp at hA
  | x :: xs, p :: ps, S, ⟨S1, S2, e, hp, hi⟩, A, hA => by
    subst e
    simp only [List.zipWith_cons_cons, List.mem_cons] at hA
    rcases hA with rfl | hA
    · exact ⟨S1, hp, fun b hb => List.mem_append_left _ hb⟩
    · obtain ⟨S', q, k⟩ := hi.each A hA
      exact ⟨S', q, fun b hb => List.mem_append_right _ (k b hb)⟩
  | [], _ :: _, _, e, _, _ => e.elim
  | _ :: _, [], _, e, _, _ => e.elim
/-- The head of a slice. -/
theorem slH_min (hA : At h (rsl enc xs s)) (m : Nat) {K : Sl → HP} (hK : ∀ s0, (∀ h', At h' (rsl enc xs s) → At h' (rsl enc (xs.take m) s0)) → K s0 h) :
    slH ⟨s.a, s.len, s.cap⟩ (if (m : Int) < (s.len : Int) then (m : Int) else (s.len : Int)) 1 K h := by
  have l1 := rsl_len hA
  have l2 := rsl_cap hA
  have em : (if (m : Int) < (s.len : Int) then (m : Int) else (s.len : Int)) = ((min xs.length m : Nat) : Int) := by split <;> omega
  rw [em]
  refine ⟨Int.natCast_nonneg _, Int.ofNat_le.2 (show min xs.length m ≤ s.cap by omega), ?_⟩
  rw [Int.toNat_natCast]
  refine hK _ fun h' hA' => ?_
  have := rsl_sub hA' (l := 0) (m := min xs.length m) (by omega) (by omega)
  have e : xs.take (min xs.length m) = xs.take m := by
    rcases Nat.le_total xs.length m with k | k
    · rw [Nat.min_eq_left k, List.take_length, List.take_of_length_le k]
    · rw [Nat.min_eq_right k]
  rw [List.drop_zero, e] at this; exact this
end Go.Sx
namespace Go.Proofs.S
open Go Go.Sx Go.Proofs Go.Cl Go.Rp

variable {h : Heap} {c d A us : List Int} {cs ds hs l : List (List Int)} {s s2 s3 : Sl} {fr : Fr} {G As : List Asn} {b n : Nat} {t : TypeId}

/-- Clauses of one's own, frozen: their headers, they, each of them. -/
theorem Hs.rowsF (st : Hs fr G As h) (k : Nat) (hk : As[k]? = some (llo l s)) : ∃ ps : List Sl, ps.length = l.length ∧ Hs fr (G ++ (rsl Ty.sl.enc ps s :: lli l s :: rows l ps)) (As.eraseIdx k) h := by
  obtain ⟨S, hs, hz, hf⟩ := st.freeze k hk
  obtain ⟨S1, p, d⟩ := hz (llo l s) (by simp)
  obtain ⟨ps, Sa, Sb, e, hp, hi⟩ := osg_rsg p
  subst e
  have hi2 : Inner (fun c p => li c p) l ps Sb h := hi.map fun x p S h k => osl_rsl k
  refine ⟨ps, hi.len, S, hs, fun A hA => ?_, hf⟩
  rcases List.mem_append.1 hA with hA | hA
  · exact hz A (List.mem_append_left _ hA)
  · simp only [List.mem_cons] at hA
    rcases hA with rfl | rfl | hA
    · exact ⟨Sa, hp, fun b hb => d b (List.mem_append_left _ hb)⟩
    · exact ⟨Sa ++ Sb, ⟨ps, Sa, Sb, rfl, hp, hi2⟩, d⟩
    · obtain ⟨S', q, k⟩ := hi2.each A hA
      exact ⟨S', q, fun b hb => d b (List.mem_append_right _ (k b hb))⟩

end Go.Proofs.S

/-
  RupMore.
-/
set_option linter.unusedVariables false
set_option linter.unusedSimpArgs false
namespace Go.Proofs.S
open Go Go.Sx Go.Proofs Go.Cl Go.Rp

variable {h : Heap} {c d A us o e : List Int} {cs ds hs l : List (List Int)} {s s2 s3 s4 : Sl} {fr : Fr} {G As : List Asn} {b n : Nat} {t : TypeId}

theorem right_small (h : ∀ x ∈ c, x ≠ 0 ∧ -6 ≤ x ∧ x ≤ 6) (hl : c.length ≤ 4096) : rightC c = true := by
  simp only [rightC, Bool.and_eq_true, decide_eq_true_eq, List.all_eq_true]
  exact ⟨hl, fun x hx => rt_iff.2 (by have := h x hx; omega)⟩

theorem growG_c {n : Int} {K : Sl → HP} (hW : W_grow ty_clauses_Clause 24 (.slice none 0 0) ⟨none, 0, 0⟩ n K h) : callT Try.prog fn_slices_Grow_clauses_Clause_clauses_Clause #[.slice none 0 0, .int .i64 n] .sl K h :=
  S_slices_Grow_clauses_Clause_clauses_Clause (a0 := ⟨none, 0, 0⟩) (a1 := n) K hW
theorem concatG_c {ps ps2 : List Sl} {b : Nat} {t0 : TypeId} (kb : Blk h b t0 [.slice s.a s.len s.cap, .slice s2.a s2.len s2.cap]) (hA : At h (rsl Ty.sl.enc ps s)) (hB : At h (rsl Ty.sl.enc ps2 s2)) (hl : ps.length + ps2.length ≤ 1048576) :
    callT Try.prog fn_slices_Concat_clauses_Clause_clauses_Clause #[.slice (some ⟨b, 0, none⟩) 2 2] .sl (fun s' h' => New h.size h' (osl ty_clauses_Clause Ty.sl.enc (ps ++ ps2) s') ∧ Ext [] h h') h := by
  refine callT_gen fun K hK => S_slices_Concat_clauses_Clause_clauses_Clause (a0 := ⟨some ⟨b, 0, none⟩, 2, 2⟩) K ?_
  have hp : At h (rsl Ty.sl.enc [s, s2] ⟨some ⟨b, 0, none⟩, 2, 2⟩) := ⟨[b], osl_rsl (t := t0) (.inl ⟨b, [], rfl, rfl, kb⟩)⟩
  refine w_concat (P := Try.prog) (τ := .sl) (t := ty_clauses_Clause) (by_ := 24) (z := .slice none 0 0) (fg := fn_slices_Grow_clauses_Clause_clauses_Clause) (xss := [ps, ps2]) hp rfl ?_ (by simp) (by simp; omega) (by decide) leaf_sl (fun n K h hW => growG_c hW) (fun s' h' a b => hK _ _ ⟨by simpa using a, b⟩)
  intro i hi
  match i, hi with
  | 0, _ => exact hA
  | 1, _ => exact hB

theorem lli_two {l l2 : List (List Int)} {ps ps2 : List Sl} (h1 : ps.length = l.length) (h2 : ps2.length = l2.length) (ho : At h (rsl Ty.sl.enc (ps ++ ps2) s)) (r1 : ∀ i (a : i < l.length) (b : i < ps.length), At h (li l[i] ps[i])) (r2 : ∀ i (a : i < l2.length) (b : i < ps2.length), At h (li l2[i] ps2[i])) :
    At h (lli (l ++ l2) s) := by
  refine rsg_at (ps := ps ++ ps2) (by simp; omega) ho fun i a b => ?_
  by_cases hi : i < l.length
  · rw [List.getElem_append_left hi, List.getElem_append_left (by omega)]; exact r1 _ _ _
  · rw [List.getElem_append_right (by omega), List.getElem_append_right (by omega)]
    simp only [h1]
    exact r2 _ _ (by simp at b; omega)

theorem fuel_small {l : List (List Int)} (h1 : l.length ≤ 1000) (h2 : ∀ c ∈ l, c.length ≤ 6) : fuelP l ≤ 1000000 := by
  have := flat_le h1 h2
  unfold fuelP; omega

set_option maxRecDepth 4000 in
theorem rupMore_F {which : Int} (hA : At h (l8 c s)) (hB : At h (l8 e s2)) (hC : At h (ll8 cs s3)) (hD : At h (ll8 ds s4)) (hw : 0 ≤ which ∧ which < 256) (K : Bool → HP) (hK : ∀ x h', (x = true ∧ Ext [] h h') → K x h') : F_salvorlaw08_RupMore s s2 s3 s4 which K h := by
  unfold F_salvorlaw08_RupMore
  have st := Hs.start h [l8 c s, l8 e s2, ll8 cs s3, ll8 ds s4] (by simp [hA, hB, hC, hD])
  refine call_of (awake_c h) ?_
  rintro _ h1 ⟨rfl, x1⟩
  refine brF rfl ?_
  have st := st.ext x1
  refine call_of (Made_c (st.fz 0 rfl)) ?_
  rintro r1 h2 ⟨n2, x2⟩
  have st := (st.new x2 n2).froz 0 rfl
  refine call_of (All_c (m := 10) (st.fz 2 rfl) (by decide)) ?_
  rintro r2 h3 ⟨n3, x3⟩
  obtain ⟨ps, lp, st⟩ := Hs.rowsF (st.new x3 n3) 0 rfl
  have hc := madeR_right c
  have hr := allR_right cs 10
  have hl := allR_len cs 10
  have hcl := madeR_len c
  have hcr : ∀ x ∈ madeR c, x ≠ 0 ∧ -6 ≤ x ∧ x ≤ 6 := fun x hx => madeR_range hx
  have hml : ∀ d ∈ allR cs 10, d.length ≤ 6 ∧ ∀ x ∈ d, x ≠ 0 ∧ -6 ≤ x ∧ x ≤ 6 := fun d hd => by obtain ⟨d', rfl⟩ := allR_mem hd; exact ⟨madeR_len _, fun x hx => madeR_range hx⟩
  generalize madeR c = mc at *
  generalize allR cs 10 = l at *
  have hl' : l.length ≤ 65536 := by omega
  simp only [List.cons_append, List.nil_append, List.eraseIdx_cons_zero] at st
  generalize hGG : (l8 c s :: l8 e s2 :: ll8 cs s3 :: ll8 ds s4 :: rsl i64.enc mc r1 :: rsl Ty.sl.enc ps r2 :: lli l r2 :: rows l ps) = GG at st
  have g0 : ∀ {k : Nat} {A : Asn}, (l8 c s :: l8 e s2 :: ll8 cs s3 :: ll8 ds s4 :: rsl i64.enc mc r1 :: rsl Ty.sl.enc ps r2 :: lli l r2 :: rows l ps)[k]? = some A → GG[k]? = some A := fun k => by rw [← hGG]; exact k
  have g1 : GG[1]? = some (l8 e s2) := g0 rfl
  have g3 : GG[3]? = some (ll8 ds s4) := g0 rfl
  have g4 : GG[4]? = some (li mc r1) := g0 rfl
  have g5 : GG[5]? = some (rsl Ty.sl.enc ps r2) := g0 rfl
  have g6 : GG[6]? = some (lli l r2) := g0 rfl
  have gr : ∀ i (h1 : i < l.length) (h2 : i < ps.length), li l[i] ps[i] ∈ GG := fun i h1 h2 => by
    rw [← hGG]
    have := rows_mem h1 h2
    simp [this]
  clear g0 hGG
  refine call_of (Find_c (st.fz 4 g4) (st.fz 6 g6) (by omega) (by omega) (fuel_small (by omega) fun d hd => (hml d hd).1)) ?_
  rintro _ h5 ⟨s5, rfl, n5, x5⟩
  have st := st.ext x5
  have lr2 : r2.len = l.length := rsg_len (st.fz 6 g6)
  refine call_of (All_c (m := 5) (st.fz 3 g3) (by decide)) ?_
  rintro r4 h6 ⟨n6, x6⟩
  obtain ⟨qs, lq, st⟩ := Hs.rowsF (st.new x6 n6) 0 rfl
  have hr2 := allR_right ds 5
  have hl2 := allR_len ds 5
  have hml2 : ∀ d ∈ allR ds 5, d.length ≤ 6 := fun d hd => by obtain ⟨d', rfl⟩ := allR_mem hd; exact madeR_len _
  generalize allR ds 5 = l4 at *
  simp only [List.nil_append, List.eraseIdx_cons_zero] at st
  generalize hG2 : GG ++ rsl Ty.sl.enc qs r4 :: lli l4 r4 :: rows l4 qs = G2 at st
  have up : ∀ {k : Nat} {A : Asn}, GG[k]? = some A → G2[k]? = some A := fun {k A} hk => by
    rw [← hG2, List.getElem?_append_left (List.getElem?_eq_some_iff.1 hk).1]; exact hk
  have mq : rsl Ty.sl.enc qs r4 ∈ G2 := by rw [← hG2]; simp
  have gr2 : ∀ i (h1 : i < l4.length) (h2 : i < qs.length), li l4[i] qs[i] ∈ G2 := fun i h1 h2 => by
    rw [← hG2]
    have := rows_mem h1 h2
    simp [this]
  have gr1 : ∀ i (h1 : i < l.length) (h2 : i < ps.length), li l[i] ps[i] ∈ G2 := fun i h1 h2 => by rw [← hG2]; exact List.mem_append_left _ (gr i h1 h2)
  refine st.nw fun b5 h7 st => ?_
  refine call_of (concatG_c (s := r4) (s2 := r2) (st.blk 0 rfl) (st.fzm mq) (st.fz 5 (up g5)) (by omega)) ?_
  rintro r6 h8 ⟨n8, x8⟩
  have st := (st.drop 0 rfl).new x8 n8
  have hr6 : ∀ d ∈ l4 ++ l, rightC d = true := fun d hd => (List.mem_append.1 hd).elim (hr2 d) (hr d)
  refine call_of (Find_c (st.fz 4 (up g4)) (lli_two lq lp (st.own 0 rfl).rsl (fun i a b => st.fzm (gr2 i a b)) (fun i a b => st.fzm (gr1 i a b))) (by omega) (by simp; omega) (fuel_small (by simp; omega) fun d hd => (List.mem_append.1 hd).elim (hml2 d) fun k => (hml d k).1)) ?_
  rintro _ h9 ⟨s9, rfl, n9, x9⟩
  have st := (st.ext x9).drop 0 rfl
  have made : ∀ {G : List Asn} {h' : Heap} {K2 : Sl → HP}, Hs [([], h)] G [] h' → G[1]? = some (l8 e s2) → (∀ r h'', Hs [([], h)] G [lo (madeR e) r] h'' → K2 r h'') → callT Try.prog fn_salvorlaw08_Made #[.slice s2.a s2.len s2.cap] .sl K2 h' := by
    intro G h' K2 st g hK2
    refine call_of (Made_c (st.fz 1 g)) ?_
    rintro r h'' ⟨n, x⟩
    exact hK2 r h'' (st.new x n)
  refine made st (up g1) fun r8 h10 st => ?_
  have hel := madeR_len e
  have her : ∀ x ∈ madeR e, x ≠ 0 ∧ -6 ≤ x ∧ x ≤ 6 := fun x hx => madeR_range hx
  generalize madeR e = me at *
  refine st.nw fun b9 h11 st => ?_
  refine call_of (concat2_c (s := r1) (s2 := r8) (st.blk 1 rfl) (st.fz 4 (up g4)) (st.own 0 rfl).rsl (by omega)) ?_
  rintro r10 h12 ⟨n12, x12⟩
  have st := st.new x12 n12
  have rwide : rightC (mc ++ me) = true := right_small (fun x hx => (List.mem_append.1 hx).elim (hcr x) (her x)) (by simp; omega)
  refine call_of (Find_c (st.own 2 rfl).rsl (st.fz 6 (up g6)) (by simp; omega) (by omega) (fuel_small (by omega) fun d hd => (hml d hd).1)) ?_
  rintro _ h13 ⟨s13, rfl, n13, x13⟩
  have st := (((st.ext x13).drop 2 rfl).drop 1 rfl).drop 0 rfl
  simp only
  rw [find_err hc hr hl', find_err hc hr6 (by simp; omega), find_err rwide hr hl']
  have m1 : (findP mc l).2.1 = true → (findP mc (l4 ++ l)).2.1 = true := fun k => more_find hc hc hr6 hl' (by simp; omega) (fun x hx => hx) (fun d hd => List.mem_append_right _ hd) k
  have m2 : (findP mc l).2.1 = true → (findP (mc ++ me) l).2.1 = true := fun k => more_find hc rwide hr hl' hl' (fun x hx => List.mem_append_left _ hx) (fun d hd => hd) k
  refine jn_mid (M := fun t h' => t = false ∧ h' = h13) ?_ ?_
  rotate_left
  · intro J hJ
    refine brF rfl (jn_in fun J2 hJ2 => ?_)
    cases hf : (findP mc l).2.1
    · exact brF rfl (hJ2 _ _ (hJ _ _ ⟨rfl, rfl⟩))
    · refine brT rfl (jn_in fun J3 hJ3 => brF (by rw [m1 hf]; rfl) (hJ3 _ _ (hJ2 _ _ (hJ _ _ ⟨?_, rfl⟩))))
      rw [m2 hf]; rfl
  rintro _ h14 ⟨rfl, e'⟩; subst e'
  refine brF rfl ?_
  rw [lr2]
  by_cases h0 : l.length = 0
  · exact brT (by simp [h0]) (hK _ _ ⟨rfl, st.frame (by simp)⟩)
  refine brF (by simpa using h0) ?_
  refine ⟨by omega, ?_⟩
  obtain ⟨q, hq, hql⟩ : ∃ q : Nat, Int.tmod (IntKind.wrap .i64 which) (l.length : Int) = q ∧ q < l.length := by
    rw [wrap_i64 (by omega) (by omega), Int.tmod_eq_emod_of_nonneg (by omega)]
    have h1 := Int.emod_nonneg which (show (l.length : Int) ≠ 0 by omega)
    have h2 := Int.emod_lt_of_pos which (show (0 : Int) < l.length by omega)
    exact ⟨(which % (l.length : Int)).toNat, by omega, by omega⟩
  rw [hq, ← lr2]
  have hqp : q < ps.length := by omega
  refine rdE (τ := .sl) (st.fz 5 (up g5)) hqp ?_
  have hrow := fun {h' : Heap} {As : List Asn} (st : Hs [([], h)] G2 As h') => st.fzm (gr1 q hql hqp)
  have hone := hml _ (List.getElem_mem hql)
  have hro := hr _ (List.getElem_mem hql)
  generalize l[q] = one at *
  generalize ps[q] = p at *
  have r2w : rightC (one ++ me) = true := right_small (fun x hx => (List.mem_append.1 hx).elim (hone.2 x) (her x)) (by simp; omega)
  refine made st (up g1) fun r16 h15 st => ?_
  refine st.nw fun b17 h16 st => ?_
  refine call_of (concat2_c (s := p) (s2 := r16) (st.blk 1 rfl) (hrow st) (st.own 0 rfl).rsl (by omega)) ?_
  rintro r18 h17 ⟨n17, x17⟩
  have st := st.new x17 n17
  refine st.nw fun b19 h18 st => ?_
  refine call_of (Check_c (cs := [one]) (st.own 2 rfl).rsl (lli_one (st.blk 3 rfl) (hrow st)) (by simp; omega) (by simp)) ?_
  rintro _ h19 ⟨rfl, x19⟩
  have st := ((((st.ext x19).drop 3 rfl).drop 2 rfl).drop 1 rfl).drop 0 rfl
  cases ha : alwaysC (one ++ me)
  · rw [more_one r2w hro (fun x hx => List.mem_append_left _ hx) ha]
    refine brF rfl ?_
    exact jn_in fun J hJ => brT rfl (hJ _ _ (hK _ _ ⟨rfl, st.frame (by simp)⟩))
  · rw [check_eq r2w (by simpa using hro) (by simp), ha, if_pos rfl]
    refine brF rfl ?_
    refine jn_in fun J hJ => brF rfl (jn_in fun J2 hJ2 => brT rfl ?_)
    refine made st (up g1) fun r25 h20 st => ?_
    refine st.nw fun b26 h21 st => ?_
    refine call_of (concat2_c (s := p) (s2 := r25) (st.blk 1 rfl) (hrow st) (st.own 0 rfl).rsl (by omega)) ?_
    rintro r27 h22 ⟨n22, x22⟩
    have st := st.new x22 n22
    refine call_of (always_c (st.own 2 rfl).rsl) ?_
    rintro _ h23 ⟨rfl, x23⟩
    have st := st.ext x23
    rw [r2w, ha]
    exact hJ2 _ _ (hJ _ _ (hK _ _ ⟨rfl, st.frame (by simp)⟩))

end Go.Proofs.S
