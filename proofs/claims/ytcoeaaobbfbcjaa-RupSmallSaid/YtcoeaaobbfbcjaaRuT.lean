/-
  The reference of rup: Clauses, follow, Follow, Check, without, Trim: contracts.
-/
import Derived.Test.YtcoeaaobbfbcjaaRuR
import Derived.Test.YtcoeaaobbfbcjaaRpS
import Derived.Test.YtcoeaaobbfbcjaaSxN
set_option linter.unusedVariables false
set_option linter.unusedSimpArgs false
namespace Go.Proofs.S
open Go Go.Sx Go.Proofs Go.Cl Go.Rp

variable {h : Heap} {c d A us : List Int} {cs ds hs : List (List Int)} {s s2 : Sl} {fr : Fr} {G As : List Asn} {b : Nat}

theorem r8_clauses_c (hA : At h (lli cs s)) (hc : ∀ c ∈ cs, c.length ≤ 1048576) (hl : cs.length ≤ 1048576) : callT Try.prog fn_salvorref08_Clauses #[.slice s.a s.len s.cap] .bool (fun r h' => r = !wrongP cs ∧ h' = h) h := by
  refine callT_gen fun K hK => S_salvorref08_Clauses (a0 := s) K ?_
  unfold F_salvorref08_Clauses
  have l1 := rsg_len hA
  refine lfp_invh (I := fun m σ h' => ∃ i : Nat, σ = ((i : Int), false, ()) ∧ i ≤ cs.length ∧ (∀ c ∈ cs.take i, rightC c = true) ∧ h' = h ∧ m = cs.length - i) ⟨_, 0, rfl, by omega, by simp, rfl, rfl⟩ ?_
  rintro m σ h' X ⟨i, rfl, hi, hp, rfl, em⟩ hX
  simp only
  by_cases hlt : i < cs.length
  · refine brT (by rw [l1]; exact dlt_t hlt) ?_
    rw [inc_i (by omega)]
    refine rdG hA hlt fun p hrow => ?_
    refine call_of (r2_right_c hrow (by have := hc _ (List.getElem_mem hlt); omega)) ?_
    rintro _ h2 ⟨rfl, e⟩; subst e
    cases hr : rightC cs[i]
    · refine brT rfl (hK _ _ ⟨?_, rfl⟩)
      have : wrongP cs = true := by unfold wrongP; rw [Bool.not_eq_true']; exact List.all_eq_false.2 ⟨_, List.getElem_mem hlt, by simp [hr]⟩
      rw [this]; rfl
    · refine brF rfl ?_
      exact hX _ _ _ ⟨i + 1, rfl, by omega, fun x hx => by
        rw [take_lt hlt] at hx
        rcases List.mem_append.1 hx with hx | hx
        · exact hp x hx
        · simp at hx; subst hx; exact hr, rfl, rfl⟩ (by omega)
  · refine brF (by rw [l1]; exact dlt_f hlt) (hK _ _ ⟨?_, rfl⟩)
    rw [List.take_of_length_le (by omega)] at hp
    unfold wrongP
    rw [Bool.not_not, List.all_eq_true.2 hp]

theorem r8_follow_c (hA : At h (li A s)) (hB : At h (lli cs s2)) (hr : ∀ c ∈ cs, rightC c = true) (hl : A.length ≤ 1048576) (hl2 : cs.length ≤ 1048576) :
    callT Try.prog fn_salvorref08_follow #[.slice s.a s.len s.cap, .slice s2.a s2.len s2.cap] (.tup (.cons .sl (.cons (.int .i64) (.cons .bool (.cons (.int .i64) .nil)))))
      (fun r h' => ∃ s', r = (s', (((followP A cs).2.1 : Nat) : Int), (followP A cs).2.2.1, (followP A cs).2.2.2, ()) ∧ New h.size h' (iox (if (followP A cs).2.2.2 = 0 then A ++ (followP A cs).1 else []) s') ∧ Ext [] h h') h := by
  refine callT_gen fun K hK => S_salvorref08_follow (a0 := s) (a1 := s2) K ?_
  unfold F_salvorref08_follow
  have st := Hs.start h [li A s, lli cs s2] (by simp [hA, hB])
  refine st.nw fun b0 h1 st => ?_
  have st := st.asSl 0 i64.enc [] rfl rfl
  refine st.apdS (τ := i64) (s := ⟨some ⟨b0, 0, none⟩, 0, 0⟩) (s2 := s) 0 rfl (st.fz 0 rfl) leaf_int (by simp; omega) (by decide) fun s1 h2 st => ?_
  have ls := rsg_len (st.fz 1 rfl)
  refine lfp_invh (I := fun m σ h' => ∃ (i : Nat) (o : Sl) (x1 : Int) (x2 : Bool) (x3 : Int) (x4 : Sl) (more : List Int), σ = ((i : Int), o, x1, x2, x3, x4, ()) ∧ i ≤ cs.length ∧ m = cs.length - i ∧ more.length = i ∧
      followGo (A ++ more) (cs.drop i) more i = followP A cs ∧ Hs [([], h)] [li A s, lli cs s2] [iox (A ++ more) o] h')
    ⟨_, 0, s1, 0, false, 0, ⟨none, 0, 0⟩, [], rfl, by omega, rfl, rfl, by simp [followP], by rw [List.append_nil]; exact st⟩ ?_
  clear st
  rintro m σ h' X ⟨i, o, x1, x2, x3, x4, more, rfl, hi, rfl, hml, hf, st⟩ hX
  simp only
  have fin : ∀ (s' : Sl) (n : Int) (cf : Bool) (e : Int) (L : List Int) (n' : Nat) {h'' : Heap}, followP A cs = (L, n', cf, e) → n = n' → Hs [([], h)] [li A s, lli cs s2] [iox (if e = 0 then A ++ L else []) s'] h'' → K (s', n, cf, e, ()) h'' := by
    intro s' n cf e L n' h'' eq en st
    subst en
    exact hK _ _ ⟨s', by rw [eq], by rw [eq]; exact st.res (by simp) 0 rfl, st.frame (by simp)⟩
  by_cases hlt : i < cs.length
  · refine brT (by rw [ls]; exact dlt_t hlt) ?_
    rw [List.drop_eq_getElem_cons hlt] at hf
    simp only [followGo] at hf
    refine rdG (st.fz 1 rfl) hlt fun p hp => ?_
    have hri := hr _ (List.getElem_mem hlt)
    refine call_of (r8_look_c hp (st.own 0 rfl).rsl (rightC_rt hri) (by have := rightC_len hri; omega) (by simp; omega)) ?_
    rintro _ h2 ⟨rfl, x2'⟩
    have st := st.ext x2'
    rw [inc_i (by omega)]
    by_cases h2 : (lookP (A ++ more) cs[i]).1 = 2
    · rw [if_pos h2] at hf
      refine brT (by simpa using h2) (fin _ _ _ _ _ _ hf.symm rfl ?_)
      rw [if_pos rfl]; exact st
    · rw [if_neg h2] at hf
      refine brF (by simpa using h2) ?_
      by_cases h3 : (lookP (A ++ more) cs[i]).1 = 3
      · rw [if_pos h3] at hf
        refine brF (by simpa using h3) ?_
        refine st.nw fun b5 h3 st => ?_
        refine st.apd 0 1 rfl rfl (by decide) rfl (by simp; omega) (by decide) rfl fun s6 h4 st => ?_
        have st := st.drop 1 rfl
        rw [List.append_assoc] at hf
        refine hX _ _ _ ⟨i + 1, s6, x1, x2, x3, x4, more ++ [(lookP (A ++ more) cs[i]).2], rfl, by omega, rfl, by simp [hml], hf, ?_⟩ (by omega)
        rw [← List.append_assoc]; exact st
      · rw [if_neg h3] at hf
        refine brT (by simpa using h3) (fin _ _ _ _ _ _ hf.symm rfl ?_)
        rw [if_neg (by decide)]
        exact (st.drop 0 rfl).nil ty_int i64.enc none
  · refine brF (by rw [ls]; exact dlt_f hlt) ?_
    have : i = cs.length := by omega
    subst this
    rw [List.drop_eq_nil_of_le (by omega)] at hf
    simp only [followGo] at hf
    refine fin _ _ _ _ _ _ hf.symm (by rw [ls]) ?_
    rw [if_pos rfl]; exact st

theorem r8_Follow_c (hA : At h (li A s)) (hB : At h (lli cs s2)) (hc : ∀ c ∈ cs, c.length ≤ 1048576) (hl : A.length ≤ 1048576) (hl2 : cs.length ≤ 1048576) :
    callT Try.prog fn_salvorref08_Follow #[.slice s.a s.len s.cap, .slice s2.a s2.len s2.cap] (.tup (.cons .sl (.cons (.int .i64) (.cons .bool (.cons (.int .i64) .nil)))))
      (fun r h' => ∃ s', r = (s', (((followF A cs).2.1 : Nat) : Int), (followF A cs).2.2.1, (followF A cs).2.2.2, ()) ∧ New h.size h' (iox (followF A cs).1 s') ∧ Ext [] h h') h := by
  refine callT_gen fun K hK => S_salvorref08_Follow (a0 := s) (a1 := s2) K ?_
  unfold F_salvorref08_Follow
  have ls := rsg_len hB
  have bad : ∀ {e : Int}, followF A cs = ([], 0, false, e) → K (⟨none, 0, 0⟩, 0, false, e, ()) h := by
    intro e he
    exact hK _ _ ⟨⟨none, 0, 0⟩, by rw [he]; rfl, by rw [he]; exact osl_nil _ _, Ext.refl' _ _⟩
  refine call_of (r8_clauses_c hB hc hl2) ?_
  rintro _ h1 ⟨rfl, e⟩; subst e
  cases hw : wrongP cs
  · refine brF rfl ?_
    refine call_of (r8_right_c hA (by omega)) ?_
    rintro _ h2 ⟨rfl, e⟩; subst e
    cases ho : okA A
    · exact brT rfl (bad (by unfold followF; rw [hw, ho]; rfl))
    · refine brF rfl ?_
      by_cases hm : cs.length > 65536
      · exact brT (by rw [ls]; exact decide_eq_true (by omega)) (bad (by unfold followF; rw [hw, ho, if_neg (by simp), if_neg (by simp), if_pos hm]))
      · refine brF (by rw [ls]; exact decide_eq_false (by omega)) ?_
        refine call_of (r8_follow_c hA hB (all_right hw) hl hl2) ?_
        rintro _ h3 ⟨s3, rfl, n3, x3⟩
        have eF : followF A cs = if (followP A cs).2.2.2 ≠ 0 then ([], (followP A cs).2.1, false, (followP A cs).2.2.2) else (A ++ (followP A cs).1, (followP A cs).2.1, (followP A cs).2.2.1, 0) := by
          unfold followF; rw [hw, ho, if_neg (by simp), if_neg (by simp), if_neg hm]
        by_cases h0 : (followP A cs).2.2.2 = 0
        · rw [if_neg (by simpa using h0)] at eF
          rw [if_pos h0] at n3
          exact hK _ _ ⟨s3, by rw [eF, h0], by rw [eF]; exact n3, x3⟩
        · rw [if_pos h0] at eF
          rw [if_neg h0] at n3
          exact hK _ _ ⟨s3, by rw [eF, (follow_errc A cs h0).1], by rw [eF]; exact n3, x3⟩
  · exact brT rfl (bad (by unfold followF; rw [hw]; rfl))

theorem r8_Check_c (hA : At h (li c s)) (hB : At h (lli cs s2)) (hc : ∀ c ∈ cs, c.length ≤ 1048576) (hl : c.length ≤ 1048576) (hl2 : cs.length ≤ 1048576) :
    callT Try.prog fn_salvorref08_Check #[.slice s.a s.len s.cap, .slice s2.a s2.len s2.cap] (.tup (.cons (.int .i64) (.cons (.int .i64) .nil)))
      (fun r h' => r = ((((checkP c cs).2.1 : Nat) : Int), (checkP c cs).2.2, ()) ∧ Ext [] h h') h := by
  refine callT_gen fun K hK => S_salvorref08_Check (a0 := s) (a1 := s2) K ?_
  unfold F_salvorref08_Check
  have ls := rsg_len hB
  have st := Hs.start h [li c s, lli cs s2] (by simp [hA, hB])
  refine call_of (r2_right_c hA (by omega)) ?_
  rintro _ h1 ⟨rfl, e⟩; subst e
  have bad : ∀ {e : Int}, checkP c cs = ([], 0, e) → K (0, e, ()) h1 := by
    intro e he
    exact hK _ _ ⟨by rw [he]; rfl, Ext.refl' _ _⟩
  refine jn_mid (M := fun t h' => t = (wrongP cs || !rightC c) ∧ h' = h1) ?_ ?_
  rotate_left
  · intro J hJ
    cases hc' : rightC c
    · exact brT rfl (hJ _ _ ⟨by simp [hc'], rfl⟩)
    · refine brF rfl ?_
      refine call_of (r8_clauses_c hB hc hl2) ?_
      rintro _ h2 ⟨rfl, e⟩; subst e
      exact hJ _ _ ⟨by simp [hc'], rfl⟩
  rintro _ h2 ⟨rfl, e⟩; subst e
  cases hw : (wrongP cs || !rightC c)
  rotate_left
  · exact brT rfl (bad (by unfold checkP; rw [hw]; rfl))
  refine brF rfl ?_
  rw [Bool.or_eq_false_iff, Bool.not_eq_false'] at hw
  by_cases hm : cs.length > 65536
  · exact brT (by rw [ls]; exact decide_eq_true (by omega)) (bad (by unfold checkP; rw [hw.1, hw.2, if_neg (by simp), if_pos hm]))
  refine brF (by rw [ls]; exact decide_eq_false (by omega)) ?_
  refine call_of (r8_assume_c hA hw.2) ?_
  rintro _ h3 ⟨s3, rfl, n3, x3⟩
  have st := st.new x3 n3
  have hck := check_eq hw.2 (all_right hw.1) (show cs.length ≤ 65536 by omega)
  cases ha : alwaysC c
  rotate_left
  · have eS : assumeP c = ([], true, 0) := by unfold assumeP; rw [hw.2, ha]; rfl
    rw [eS] at st ⊢
    rw [ha, if_pos rfl] at hck
    exact brT rfl (hK _ _ ⟨by rw [hck]; rfl, st.frame (by simp)⟩)
  have eS : assumeP c = (negs c, false, 0) := by unfold assumeP; rw [hw.2, ha]; rfl
  rw [eS] at st ⊢
  rw [ha, if_neg (by simp)] at hck
  refine brF rfl ?_
  have hnl : (negs c).length ≤ 4096 := by
    unfold negs; rw [List.length_map]; have := nrm_length c; have := rightC_len hw.2; omega
  refine call_of (r8_follow_c (st.own 0 rfl).rsl (st.fz 1 rfl) (all_right hw.1) (by show (negs c).length ≤ _; omega) hl2) ?_
  rintro _ h4 ⟨s4, rfl, n4, x4⟩
  have st := st.ext x4
  refine jn_mid (M := fun t h' => t = decide ((followP (negs c) cs).2.2.2 = 0 ∧ (followP (negs c) cs).2.2.1 = false) ∧ h' = h4) ?_ ?_
  rotate_left
  · intro J hJ
    by_cases he : (followP (negs c) cs).2.2.2 = 0
    · refine brT (by simpa using he) (hJ _ _ ⟨?_, rfl⟩)
      cases hc : (followP (negs c) cs).2.2.1 <;> simp [he, hc]
    · refine brF (by simpa using he) (hJ _ _ ⟨?_, rfl⟩)
      simp [he]
  rintro _ h5 ⟨rfl, e⟩; subst e
  have fin : ∀ e : Int, e = (if (followP (negs c) cs).2.2.2 = 0 ∧ (followP (negs c) cs).2.2.1 = false then 82 else (followP (negs c) cs).2.2.2) → K ((((followP (negs c) cs).2.1 : Nat) : Int), e, ()) h5 := by
    rintro e rfl
    exact hK _ _ ⟨by rw [hck], st.frame (by simp)⟩
  refine jn_in fun J hJ => ?_
  by_cases hc : (followP (negs c) cs).2.2.2 = 0 ∧ (followP (negs c) cs).2.2.1 = false
  · exact brT (decide_eq_true hc) (hJ _ _ (fin _ (by rw [if_pos hc])))
  · exact brF (decide_eq_false hc) (hJ _ _ (fin _ (by rw [if_neg hc])))

end Go.Proofs.S

/-
  The reference of rup: without, Trim: contracts.
-/
set_option linter.unusedVariables false
set_option linter.unusedSimpArgs false
namespace Go.Proofs.S
open Go Go.Sx Go.Proofs Go.Cl Go.Rp

variable {h : Heap} {c d A us : List Int} {cs ds hs : List (List Int)} {s s2 : Sl} {fr : Fr} {G As : List Asn} {b : Nat}

/-! ### plain -/
theorem follow_cut : ∀ {cs : List (List Int)} {A more : List Int} {n : Nat}, followP A cs = (more, n, true, 0) → followP A (cs.take n) = (more, n, true, 0)
  | [], A, more, n, h => by rw [followP_nil] at h; cases h
  | c :: cs, A, more, n, h => by
    by_cases h2 : (lookP A c).1 = 2
    · rw [followP_fail h2] at h
      cases h
      rw [List.take_succ_cons, followP_fail h2]
    · by_cases h3 : (lookP A c).1 = 3
      · rw [followP_unit (x := (lookP A c).2) (Prod.ext h3 rfl)] at h
        generalize hF : followP (A ++ [(lookP A c).2]) cs = F at h
        obtain ⟨m, k, cf, er⟩ := F
        simp only [Prod.mk.injEq] at h
        obtain ⟨e1, e2, e3, e4⟩ := h
        subst e2 e3 e4
        rw [if_pos rfl] at e1
        subst e1
        rw [List.take_succ_cons, followP_unit (x := (lookP A c).2) (Prod.ext h3 rfl), follow_cut hF]
        simp
      · rw [followP_bad h2 h3] at h; cases h
theorem follow_units_len : ∀ {cs : List (List Int)} {A more : List Int} {n : Nat}, followP A cs = (more, n, true, 0) → n = more.length + 1
  | [], A, more, n, h => by rw [followP_nil] at h; cases h
  | c :: cs, A, more, n, h => by
    by_cases h2 : (lookP A c).1 = 2
    · rw [followP_fail h2] at h
      cases h; rfl
    · by_cases h3 : (lookP A c).1 = 3
      · rw [followP_unit (x := (lookP A c).2) (Prod.ext h3 rfl)] at h
        generalize hF : followP (A ++ [(lookP A c).2]) cs = F at h
        obtain ⟨m, k, cf, er⟩ := F
        simp only [Prod.mk.injEq] at h
        obtain ⟨e1, e2, e3, e4⟩ := h
        subst e2 e3 e4
        rw [if_pos rfl] at e1
        subst e1
        have := follow_units_len hF
        simp; omega
      · rw [followP_bad h2 h3] at h; cases h

/-! ### without -/

abbrev ndB (hs : List (List Int)) (us : List Int) (j : Nat) : Bool := (neededP hs us).contains j
def exB (hs : List (List Int)) (us : List Int) (t k : Nat) : Bool := (List.range k).any fun q => decide (t < q) && ndB hs us q && (hs.getD q []).contains (-(us.getD t 0))
/-- From t on it is known. -/
def St1 (hs : List (List Int)) (us : List Int) (t : Nat) (xs : List Bool) : Prop := xs.length = hs.length ∧ ∀ j, j < hs.length → xs[j]? = some (decide (t ≤ j) && ndB hs us j)
/-- The one at t is looked for, k is the next. -/
def St2 (hs : List (List Int)) (us : List Int) (t k : Nat) (xs : List Bool) : Prop := xs.length = hs.length ∧ ∀ j, j < hs.length → xs[j]? = some (if j = t then exB hs us t k else decide (t ≤ j) && ndB hs us j)

theorem ndB_iff {j : Nat} : ndB hs us j = true ↔ Nd hs us j := by rw [ndB, List.contains_iff_mem]; exact mem_needed
theorem ndB_last (hl : hs.length = us.length + 1) : ndB hs us us.length = true := ndB_iff.2 (.last (by omega) (Nat.le_refl _))
theorem exB_none (t : Nat) : exB hs us t (t + 1) = false := by
  unfold exB
  rw [List.any_eq_false]
  intro q hq
  rw [List.mem_range] at hq
  simp; omega
theorem exB_succ (t k : Nat) (h : t < k) : exB hs us t (k + 1) = (exB hs us t k || (ndB hs us k && (hs.getD k []).contains (-(us.getD t 0)))) := by
  unfold exB
  rw [List.range_succ, List.any_append]
  simp [h]
theorem exB_all {t : Nat} (ht : t < us.length) (hl : hs.length = us.length + 1) : exB hs us t hs.length = ndB hs us t := by
  rw [Bool.eq_iff_iff, ndB_iff]
  unfold exB
  rw [List.any_eq_true]
  constructor
  · rintro ⟨q, hq, h⟩
    rw [List.mem_range] at hq
    simp only [Bool.and_eq_true, decide_eq_true_eq, List.contains_iff_mem] at h
    exact .next h.1.1 hq (ndB_iff.1 (by rw [ndB, List.contains_iff_mem]; exact h.1.2)) ht h.2
  · intro h
    cases h with
    | last h1 h2 => omega
    | next h1 h2 h3 h4 h5 =>
      rename_i k
      refine ⟨k, List.mem_range.2 h2, ?_⟩
      simp only [Bool.and_eq_true, decide_eq_true_eq, List.contains_iff_mem]
      exact ⟨⟨h1, by have := ndB_iff.2 h3; rwa [ndB, List.contains_iff_mem] at this⟩, h5⟩

abbrev bo (xs : List Bool) (s : Sl) : Asn := osl ty_bool Ty.bool.enc xs s

theorem without_c (hA : At h (lli hs s)) (hB : At h (li us s2)) (hl : hs.length = us.length + 1) (hrt : ∀ x ∈ us, rt x = true) (hrl : ∀ c ∈ hs, c.length ≤ 1048576) (hb : hs.length ≤ 1048576) :
    callT Try.prog fn_salvorref08_without #[.slice s.a s.len s.cap, .slice s2.a s2.len s2.cap] .sl (fun s' h' => New h.size h' (iox (nats (neededP hs us)) s') ∧ Ext [] h h') h := by
  refine callT_gen fun K hK => S_salvorref08_without (a0 := s) (a1 := s2) K ?_
  unfold F_salvorref08_without
  have st := Hs.start h [lli hs s, li us s2] (by simp [hA, hB])
  have ls := rsg_len hA
  have ls2 := rsl_len hB
  rw [ls]
  refine Hs.mks1 (τ := .bool) (t := ty_bool) (z := false) st (by omega) (by decide) fun s0 h1 st => ?_
  have l0 : s0.len = hs.length := by have := osl_len (st.own 0 rfl); simpa using this
  rw [show IntKind.wrap .i64 ((hs.length : Int) - 1) = ((us.length : Nat) : Int) by rw [wrap_i64 (by omega) (by omega)]; omega]
  rw [show IntKind.wrap .i64 ((hs.length : Int) - 2) = (us.length : Int) - 1 by rw [wrap_i64 (by omega) (by omega)]; omega]
  refine st.wrE (τ := .bool) 0 rfl (i := us.length) (by simp; omega) true fun h2 st => ?_
  have st0 : St1 hs us us.length ((List.replicate hs.length false).set us.length true) := by
    refine ⟨by simp, fun j hj => ?_⟩
    by_cases e : us.length = j
    · subst e
      rw [List.getElem?_set_self (by simp; omega), ndB_last hl]; simp
    · rw [List.getElem?_set_ne e, List.getElem?_replicate, if_pos hj, decide_eq_false (by omega)]; rfl
  refine lfp_invh (I := fun m σ h' => ∃ (t : Nat) (xs : List Bool), σ = ((t : Int) - 1, ()) ∧ t ≤ us.length ∧ m = t ∧ St1 hs us t xs ∧ Hs [([], h)] [lli hs s, li us s2] [bo xs s0] h')
    ⟨_, us.length, _, rfl, Nat.le_refl _, rfl, st0, st⟩ ?_
  clear st
  rintro m σ h3 X ⟨t, xs, rfl, ht, rfl, hst, st⟩ hX
  simp only
  cases m with
  | succ t =>
    have et : ((t + 1 : Nat) : Int) - 1 = (t : Int) := by omega
    rw [et]
    refine brT (decide_eq_true (show (t : Int) ≥ 0 by omega)) ?_
    rw [inc_i (by omega)]
    have st2 : St2 hs us t (t + 1) xs := by
      refine ⟨hst.1, fun j hj => ?_⟩
      rw [hst.2 j hj]
      by_cases e : j = t
      · subst e; rw [if_pos rfl, exB_none, decide_eq_false (by omega)]; rfl
      · rw [if_neg e]
        congr 2
        by_cases h : t + 1 ≤ j
        · rw [decide_eq_true h, decide_eq_true (by omega)]
        · rw [decide_eq_false h, decide_eq_false (by omega)]
    refine lfp_invh (I := fun m σ h' => ∃ (k : Nat) (xs : List Bool), σ = ((k : Int), ()) ∧ t < k ∧ k ≤ hs.length ∧ m = hs.length - k ∧ St2 hs us t k xs ∧ Hs [([], h)] [lli hs s, li us s2] [bo xs s0] h')
      ⟨_, t + 1, xs, rfl, by omega, by omega, rfl, st2, st⟩ ?_
    clear st st2 hst
    rintro m σ h4 Y ⟨k, xs, rfl, htk, hk, rfl, hst, st⟩ hY
    simp only
    by_cases hlt : k < hs.length
    · refine brT (dlt_t hlt) ?_
      rw [inc_i (by omega)]
      have hkx : k < xs.length := by rw [hst.1]; exact hlt
      have ek : xs[k] = ndB hs us k := by
        have := hst.2 k hlt
        rw [List.getElem?_eq_getElem hkx, if_neg (by omega), decide_eq_true (by omega), Bool.true_and] at this
        exact Option.some.inj this
      refine rdE (τ := .bool) (st.own 0 rfl).rsl hkx ?_
      rw [ek]
      have keep : exB hs us t (k + 1) = exB hs us t k → Y (((k + 1 : Nat) : Int), ()) h4 := fun he => by
        refine hY _ _ _ ⟨k + 1, xs, rfl, by omega, by omega, rfl, ⟨hst.1, fun j hj => ?_⟩, st⟩ (by omega)
        rw [hst.2 j hj, he]
      have es := exB_succ (hs := hs) (us := us) t k htk
      cases hn : ndB hs us k
      · rw [hn, Bool.false_and, Bool.or_false] at es
        exact brF rfl (jn_in fun J hJ => hJ _ _ (keep es))
      · rw [hn, Bool.true_and, getD_lt hlt, getD_lt (show t < us.length by omega)] at es
        refine brT rfl ?_
        rw [← ls]
        refine rdG (st.fz 0 rfl) hlt fun p hp => ?_
        refine rdE (τ := i64) (st.fz 1 rfl) (show t < us.length by omega) ?_
        rw [wneg (hrt _ (List.getElem_mem _))]
        refine call_of (r8_has_c hp (by have := hrl _ (List.getElem_mem hlt); omega) _) ?_
        rintro _ h5 ⟨rfl, e⟩; subst e
        refine jn_in fun J hJ => ?_
        cases hcn : hs[k].contains (-us[t])
        · rw [hcn, Bool.or_false] at es
          exact brF rfl (hJ _ _ (keep es))
        · rw [hcn, Bool.or_true] at es
          refine brT rfl ?_
          refine st.wrE (τ := .bool) 0 rfl (i := t) (by rw [hst.1]; omega) true fun h6 st => ?_
          refine hJ _ _ (hY _ _ _ ⟨k + 1, _, rfl, by omega, by omega, rfl, ⟨by simp [hst.1], fun j hj => ?_⟩, st⟩ (by omega))
          by_cases e : t = j
          · subst e
            rw [List.getElem?_set_self (by rw [hst.1]; omega), if_pos rfl, es]
          · rw [List.getElem?_set_ne e, hst.2 j hj, if_neg (fun k => e k.symm), if_neg (fun k => e k.symm)]
    · refine brF (dlt_f hlt) ?_
      have : k = hs.length := by omega
      subst this
      rw [show IntKind.wrap .i64 ((t : Int) - 1) = (t : Int) - 1 from wrap_i64 (by omega) (by omega)]
      refine hX _ _ _ ⟨t, xs, rfl, by omega, rfl, ⟨hst.1, fun j hj => ?_⟩, st⟩ (by omega)
      rw [hst.2 j hj]
      by_cases e : j = t
      · subst e; rw [if_pos rfl, exB_all (by omega) hl, decide_eq_true (Nat.le_refl _), Bool.true_and]
      · rw [if_neg e]
  | zero =>
    refine brF (decide_eq_false (by show ¬ (((0 : Nat) : Int) - 1 ≥ 0); omega)) ?_
    have hx : ∀ j (hj : j < hs.length) (h2 : j < xs.length), xs[j] = ndB hs us j := fun j hj h2 => by
      have := hst.2 j hj
      rw [List.getElem?_eq_getElem h2, decide_eq_true (by omega), Bool.true_and] at this
      exact Option.some.inj this
    have st := st.nil ty_int i64.enc none
    refine lfp_invh (I := fun m σ h' => ∃ (i : Nat) (o : Sl), σ = ((i : Int), o, ()) ∧ i ≤ hs.length ∧ m = hs.length - i ∧ Hs [([], h)] [lli hs s, li us s2] [bo xs s0, iox (nats ((List.range i).filter (ndB hs us))) o] h')
      ⟨_, 0, ⟨none, 0, 0⟩, rfl, by omega, rfl, st⟩ ?_
    clear st
    rintro m σ h5 Y ⟨i, o, rfl, hi, rfl, st⟩ hY
    simp only
    by_cases hlt : i < hs.length
    · refine brT (dlt_t hlt) ?_
      rw [inc_i (by omega)]
      have h2 : i < xs.length := by rw [hst.1]; exact hlt
      refine rdE (τ := .bool) (st.own 0 rfl).rsl h2 ?_
      rw [hx i hlt h2]
      refine jn_in fun J hJ => ?_
      have ef : (List.range (i + 1)).filter (ndB hs us) = (List.range i).filter (ndB hs us) ++ (if ndB hs us i then [i] else []) := by
        rw [List.range_succ, List.filter_append]
        simp only [List.filter_cons, List.filter_nil]
      have hle := List.length_filter_le (ndB hs us) (List.range i)
      rw [List.length_range] at hle
      cases hn : ndB hs us i
      · rw [hn] at ef
        simp only [Bool.false_eq_true, if_false, List.append_nil] at ef
        refine brF rfl (hJ _ _ (hY _ _ _ ⟨i + 1, o, rfl, by omega, rfl, ?_⟩ (by omega)))
        rw [ef]; exact st
      · rw [hn] at ef
        simp only [if_true] at ef
        refine brT rfl ?_
        refine st.nw fun b24 h6 st => ?_
        refine st.apd (enc := i64.enc) (v := (i : Int)) 1 2 rfl rfl (by decide) rfl (by simp [nats]; omega) (by decide) rfl fun s25 h7 st => ?_
        have st := st.drop 2 rfl
        refine hJ _ _ (hY _ _ _ ⟨i + 1, s25, rfl, by omega, rfl, ?_⟩ (by omega))
        rw [show nats ((List.range (i + 1)).filter (ndB hs us)) = nats ((List.range i).filter (ndB hs us)) ++ [(i : Int)] by rw [ef]; simp [nats]]
        exact st
    · refine brF (dlt_f hlt) ?_
      have : i = hs.length := by omega
      subst this
      have e : (List.range hs.length).filter (ndB hs us) = neededP hs us := needed_eq (List.Pairwise.filter _ List.pairwise_lt_range) fun x => by
        rw [List.mem_filter, List.mem_range, ndB_iff]
        exact ⟨fun h => h.2, fun h => ⟨h.lt, h⟩⟩
      rw [e] at st
      have st := st.drop 0 rfl
      exact hK _ _ ⟨st.res (by simp) 0 rfl, st.frame (by simp)⟩

theorem r8_Trim_c (hA : At h (li c s)) (hB : At h (lli cs s2)) (hc : ∀ c ∈ cs, c.length ≤ 1048576) (hl : c.length ≤ 1048576) (hl2 : cs.length ≤ 1048576) :
    callT Try.prog fn_salvorref08_Trim #[.slice s.a s.len s.cap, .slice s2.a s2.len s2.cap] (.tup (.cons .sl (.cons (.int .i64) .nil)))
      (fun r h' => ∃ s', r = (s', (trimP c cs).2, ()) ∧ New h.size h' (iox (nats (trimP c cs).1) s') ∧ Ext [] h h') h := by
  refine callT_gen fun K hK => S_salvorref08_Trim (a0 := s) (a1 := s2) K ?_
  unfold F_salvorref08_Trim
  have st := Hs.start h [li c s, lli cs s2] (by simp [hA, hB])
  refine call_of (r8_Check_c hA hB hc hl hl2) ?_
  rintro _ h1 ⟨rfl, x1⟩
  have st := st.ext x1
  refine jn_mid (M := fun t h' => t = decide ((checkP c cs).2.2 ≠ 0 ∨ (checkP c cs).2.1 = 0) ∧ h' = h1) ?_ ?_
  rotate_left
  · intro J hJ
    by_cases he : (checkP c cs).2.2 = 0
    · refine brF (by simpa using he) (hJ _ _ ⟨?_, rfl⟩)
      by_cases h0 : (checkP c cs).2.1 = 0
      · rw [decide_eq_true (.inr h0)]; simp [h0]
      · rw [decide_eq_false (by simp [he, h0])]; simpa using h0
    · refine brT (by simpa using he) (hJ _ _ ⟨?_, rfl⟩)
      rw [decide_eq_true (.inl he)]
  rintro _ h2 ⟨rfl, e⟩; subst e
  by_cases hc' : (checkP c cs).2.2 ≠ 0 ∨ (checkP c cs).2.1 = 0
  · have eT : trimP c cs = ([], (checkP c cs).2.2) := by unfold trimP; rw [if_pos hc']
    exact brT (decide_eq_true hc') (hK _ _ ⟨⟨none, 0, 0⟩, by rw [eT], by rw [eT]; exact osl_nil _ _, x1⟩)
  · have eT : trimP c cs = (neededP (cs.take (checkP c cs).2.1) (checkP c cs).1, 0) := by unfold trimP; rw [if_neg hc']
    refine brF (decide_eq_false hc') ?_
    simp only [not_or, ne_eq, Decidable.not_not] at hc'
    have hw : wrongP cs = false ∧ rightC c = true ∧ ¬ cs.length > 65536 ∧ alwaysC c = false := by
      unfold checkP at hc'
      split at hc'
      · simp at hc'
      · rename_i h1
        split at hc'
        · simp at hc'
        · rename_i h2
          split at hc'
          · simp at hc'
          · rename_i h3
            simp only [Bool.or_eq_true, not_or, Bool.not_eq_true, Bool.not_eq_false'] at h1
            exact ⟨h1.1, by simpa using h1.2, h2, by simpa using h3⟩
    obtain ⟨w1, w2, w3, w4⟩ := hw
    have hright := all_right w1
    have hck := check_eq w2 hright (show cs.length ≤ 65536 by omega)
    rw [w4, if_neg (by simp)] at hck
    have hconf := check_conf w2 hright (show cs.length ≤ 65536 by omega) w4 hc'.1
    generalize hF : followP (negs c) cs = F at hck hconf
    obtain ⟨more, n, cf, er⟩ := F
    simp only at hck hconf
    subst hconf
    have her : er = 0 := by
      apply Classical.byContradiction
      intro hne
      have := (follow_errc (negs c) cs (by rw [hF]; exact hne)).1
      rw [hF] at this; cases this
    subst her
    rw [if_neg (by simp)] at hck
    rw [hck] at eT hc' ⊢
    simp only at eT hc' ⊢
    have hnle : n ≤ cs.length := by have := follow_le (negs c) cs; rw [hF] at this; exact this
    have hno := okA_negs w2 w4
    -- the hints up to the conflict
    have hft : followP (negs c) (cs.take n) = (more, n, true, 0) := follow_cut hF
    have hmn : n = more.length + 1 := follow_units_len hF
    have hmr : ∀ x ∈ more, rt x = true := fun x hx => by
      have := follow_ok (A := negs c) (cs := cs) hno fun d hd => rightC_rt (hright d hd)
      rw [hF] at this
      exact (okA_iff.1 this).1 x (List.mem_append_right _ hx)
    have eS : assumeP c = (negs c, false, 0) := by unfold assumeP; rw [w2, w4]; rfl
    have hnl : (negs c).length ≤ 4096 := by
      unfold negs; rw [List.length_map]; have := nrm_length c; have := rightC_len w2; omega
    refine call_of (r8_assume_c (st.fz 0 rfl) w2) ?_
    rintro _ h3 ⟨s3, rfl, n3, x3⟩
    have st := st.new x3 n3
    rw [eS] at st ⊢
    have ls3 : s3.len = (negs c).length := osl_len (st.own 0 rfl)
    have ls2 := rsg_len (st.fz 1 rfl)
    have hcap : s2.len ≤ s2.cap := by
      obtain ⟨ps, _, ho, _⟩ := lli_open (st.fz 1 rfl)
      exact rsl_cap ho
    refine ⟨by omega, by show ((n : Nat) : Int) ≤ (s2.cap : Int); omega, ?_⟩
    rw [Int.toNat_natCast]
    refine call_of (r8_follow_c (st.own 0 rfl).rsl (rsg_take (st.fz 1 rfl) hnle) (fun d hd => hright d (List.mem_of_mem_take hd)) (by show (negs c).length ≤ _; omega) (by simp; omega)) ?_
    rintro _ h4 ⟨s4, rfl, n4, x4⟩
    have st := st.new x4 n4
    rw [hft] at st
    simp only [if_true] at st
    have ls4 := osl_len (st.own 1 rfl)
    refine ⟨by omega, by show ((n : Nat) : Int) ≤ (s2.cap : Int); omega, ?_⟩
    rw [Int.toNat_natCast]
    simp only [List.length_append] at ls4
    refine ⟨by omega, by show (s3.len : Int) ≤ (s4.len : Int); omega, ?_⟩
    rw [Int.toNat_natCast]
    have hsuf : At h4 (li more (slR s4 s3.len s4.len 1)) := by
      have := rsl_sub (st.own 1 rfl).rsl (l := (negs c).length) (m := (negs c ++ more).length) (by simp) (Nat.le_refl _)
      rw [List.take_length, List.drop_left] at this
      rw [ls3, ls4]; simpa using this
    refine call_of (without_c (rsg_take (st.fz 1 rfl) hnle) hsuf (by simp; omega) hmr (fun d hd => hc d (List.mem_of_mem_take hd)) (by simp; omega)) ?_
    rintro s5 h5 ⟨n5, x5⟩
    have hx : Ext [] h h4 := st.frame (by simp)
    exact hK _ _ ⟨s5, by rw [eT], by rw [eT]; exact n5.mono hx.1, hx.nil_trans x5⟩

end Go.Proofs.S
