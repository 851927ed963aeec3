/-
  The reference of rup: Clauses, follow, Follow, Check, without, Trim: contracts.
-/
import Derived.Test.YtcoeaaobbfbcjaaRuR
import Derived.Test.YtcoeaaobbfbcjaaRpS
import Derived.Test.YtcoeaaobbfbcjaaSxN
set_option linter.unusedVariables false
set_option linter.unusedSimpArgs false
namespace Go.Proofs.S
open Go Go.Sx Go.Proofs Go.Cl Go.Rp

variable {h : Heap} {c d A us : List Int} {cs ds hs : List (List Int)} {s s2 : Sl} {fr : Fr} {G As : List Asn} {b : Nat}

theorem r8_clauses_c (hA : At h (lli cs s)) (hc : ∀ c ∈ cs, c.length ≤ 1048576) (hl : cs.length ≤ 1048576) : callT Try.prog fn_salvorref08_Clauses #[.slice s.a s.len s.cap] .bool (fun r h' => r = !wrongP cs ∧ h' = h) h := by
  refine callT_gen fun K hK => S_salvorref08_Clauses (a0 := s) K ?_
  unfold F_salvorref08_Clauses
  have l1 := rsg_len hA
  refine lfp_invh (I := fun m σ h' => ∃ i : Nat, σ = ((i : Int), false, ()) ∧ i ≤ cs.length ∧ (∀ c ∈ cs.take i, rightC c = true) ∧ h' = h ∧ m = cs.length - i) ⟨_, 0, rfl, by omega, by simp, rfl, rfl⟩ ?_
  rintro m σ h' X ⟨i, rfl, hi, hp, rfl, em⟩ hX
  simp only
  by_cases hlt : i < cs.length
  · refine brT (by rw [l1]; exact dlt_t hlt) ?_
    rw [inc_i (by omega)]
    refine rdG hA hlt fun p hrow => ?_
    refine call_of (r2_right_c hrow (by have := hc _ (List.getElem_mem hlt); omega)) ?_
    rintro _ h2 ⟨rfl, e⟩; subst e
    cases hr : rightC cs[i]
    · refine brT rfl (hK _ _ ⟨?_, rfl⟩)
      have : wrongP cs = true := by unfold wrongP; rw [Bool.not_eq_true']; exact List.all_eq_false.2 ⟨_, List.getElem_mem hlt, by simp [hr]⟩
      rw [this]; rfl
    · refine brF rfl ?_
      exact hX _ _ _ ⟨i + 1, rfl, by omega, fun x hx => by
        rw [take_lt hlt] at hx
        rcases List.mem_append.1 hx with hx | hx
        · exact hp x hx
        · simp at hx; subst hx; exact hr, rfl, rfl⟩ (by omega)
  · refine brF (by rw [l1]; exact dlt_f hlt) (hK _ _ ⟨?_, rfl⟩)
    rw [List.take_of_length_le (by omega)] at hp
    unfold wrongP
    rw [Bool.not_not, List.all_eq_true.2 hp]

theorem r8_follow_c (hA : At h (li A s)) (hB : At h (lli cs s2)) (hr : ∀ c ∈ cs, rightC c = true) (hl : A.length ≤ 1048576) (hl2 : cs.length ≤ 1048576) :
    callT Try.prog fn_salvorref08_follow #[.slice s.a s.len s.cap, .slice s2.a s2.len s2.cap] (.tup (.cons .sl (.cons (.int .i64) (.cons .bool (.cons (.int .i64) .nil)))))
      (fun r h' => ∃ s', r = (s', (((followP A cs).2.1 : Nat) : Int), (followP A cs).2.2.1, (followP A cs).2.2.2, ()) ∧ New h.size h' (iox (if (followP A cs).2.2.2 = 0 then A ++ (followP A cs).1 else []) s') ∧ Ext [] h h') h := by
  refine callT_gen fun K hK => S_salvorref08_follow (a0 := s) (a1 := s2) K ?_
  unfold F_salvorref08_follow
  have st := Hs.start h [li A s, lli cs s2] (by simp [hA, hB])
  refine st.nw fun b0 h1 st => ?_
  have st := st.asSl 0 i64.enc [] rfl rfl
  refine st.apdS (τ := i64) (s := ⟨some ⟨b0, 0, none⟩, 0, 0⟩) (s2 := s) 0 rfl (st.fz 0 rfl) leaf_int (by simp; omega) (by decide) fun s1 h2 st => ?_
  have ls := rsg_len (st.fz 1 rfl)
  refine lfp_invh (I := fun m σ h' => ∃ (i : Nat) (o : Sl) (x1 : Int) (x2 : Bool) (x3 : Int) (x4 : Sl) (more : List Int), σ = ((i : Int), o, x1, x2, x3, x4, ()) ∧ i ≤ cs.length ∧ m = cs.length - i ∧ more.length = i ∧
      followGo (A ++ more) (cs.drop i) more i = followP A cs ∧ Hs [([], h)] [li A s, lli cs s2] [iox (A ++ more) o] h')
    ⟨_, 0, s1, 0, false, 0, ⟨none, 0, 0⟩, [], rfl, by omega, rfl, rfl, by simp [followP], by rw [List.append_nil]; exact st⟩ ?_
  clear st
  rintro m σ h' X ⟨i, o, x1, x2, x3, x4, more, rfl, hi, rfl, hml, hf, st⟩ hX
  simp only
  have fin : ∀ (s' : Sl) (n : Int) (cf : Bool) (e : Int) (L : List Int) (n' : Nat) {h'' : Heap}, followP A cs = (L, n', cf, e) → n = n' → Hs [([], h)] [li A s, lli cs s2] [iox (if e = 0 then A ++ L else []) s'] h'' → K (s', n, cf, e, ()) h'' := by
    intro s' n cf e L n' h'' eq en st
    subst en
    exact hK _ _ ⟨s', by rw [eq], by rw [eq]; exact st.res (by simp) 0 rfl, st.frame (by simp)⟩
  by_cases hlt : i < cs.length
  · refine brT (by rw [ls]; exact dlt_t hlt) ?_
    rw [List.drop_eq_getElem_cons hlt] at hf
    simp only [followGo] at hf
    refine rdG (st.fz 1 rfl) hlt fun p hp => ?_
    have hri := hr _ (List.getElem_mem hlt)
    refine call_of (r8_look_c hp (st.own 0 rfl).rsl (rightC_rt hri) (by have := rightC_len hri; omega) (by simp; omega)) ?_
    rintro _ h2 ⟨rfl, x2'⟩
    have st := st.ext x2'
    rw [inc_i (by omega)]
    by_cases h2 : (lookP (A ++ more) cs[i]).1 = 2
    · rw [if_pos h2] at hf
      refine brT (by simpa using h2) (fin _ _ _ _ _ _ hf.symm rfl ?_)
      rw [if_pos rfl]; exact st
    · rw [if_neg h2] at hf
      refine brF (by simpa using h2) ?_
      by_cases h3 : (lookP (A ++ more) cs[i]).1 = 3
      · rw [if_pos h3] at hf
        refine brF (by simpa using h3) ?_
        refine st.nw fun b5 h3 st => ?_
        refine st.apd 0 1 rfl rfl (by decide) rfl (by simp; omega) (by decide) rfl fun s6 h4 st => ?_
        have st := st.drop 1 rfl
        rw [List.append_assoc] at hf
        refine hX _ _ _ ⟨i + 1, s6, x1, x2, x3, x4, more ++ [(lookP (A ++ more) cs[i]).2], rfl, by omega, rfl, by simp [hml], hf, ?_⟩ (by omega)
        rw [← List.append_assoc]; exact st
      · rw [if_neg h3] at hf
        refine brT (by simpa using h3) (fin _ _ _ _ _ _ hf.symm rfl ?_)
        rw [if_neg (by decide)]
        exact (st.drop 0 rfl).nil ty_int i64.enc none
  · refine brF (by rw [ls]; exact dlt_f hlt) ?_
    have : i = cs.length := by omega
    subst this
    rw [List.drop_eq_nil_of_le (by omega)] at hf
    simp only [followGo] at hf
    refine fin _ _ _ _ _ _ hf.symm (by rw [ls]) ?_
    rw [if_pos rfl]; exact st

theorem r8_Follow_c (hA : At h (li A s)) (hB : At h (lli cs s2)) (hc : ∀ c ∈ cs, c.length ≤ 1048576) (hl : A.length ≤ 1048576) (hl2 : cs.length ≤ 1048576) :
    callT Try.prog fn_salvorref08_Follow #[.slice s.a s.len s.cap, .slice s2.a s2.len s2.cap] (.tup (.cons .sl (.cons (.int .i64) (.cons .bool (.cons (.int .i64) .nil)))))
      (fun r h' => ∃ s', r = (s', (((followF A cs).2.1 : Nat) : Int), (followF A cs).2.2.1, (followF A cs).2.2.2, ()) ∧ New h.size h' (iox (followF A cs).1 s') ∧ Ext [] h h') h := by
  refine callT_gen fun K hK => S_salvorref08_Follow (a0 := s) (a1 := s2) K ?_
  unfold F_salvorref08_Follow
  have ls := rsg_len hB
  have bad : ∀ {e : Int}, followF A cs = ([], 0, false, e) → K (⟨none, 0, 0⟩, 0, false, e, ()) h := by
    intro e he
    exact hK _ _ ⟨⟨none, 0, 0⟩, by rw [he]; rfl, by rw [he]; exact osl_nil _ _, Ext.refl' _ _⟩
  refine call_of (r8_clauses_c hB hc hl2) ?_
  rintro _ h1 ⟨rfl, e⟩; subst e
  cases hw : wrongP cs
  · refine brF rfl ?_
    refine call_of (r8_right_c hA (by omega)) ?_
    rintro _ h2 ⟨rfl, e⟩; subst e
    cases ho : okA A
    · exact brT rfl (bad (by unfold followF; rw [hw, ho]; rfl))
    · refine brF rfl ?_
      by_cases hm : cs.length > 65536
      · exact brT (by rw [ls]; exact decide_eq_true (by omega)) (bad (by unfold followF; rw [hw, ho, if_neg (by simp), if_neg (by simp), if_pos hm]))
      · refine brF (by rw [ls]; exact decide_eq_false (by omega)) ?_
        refine call_of (r8_follow_c hA hB (all_right hw) hl hl2) ?_
        rintro _ h3 ⟨s3, rfl, n3, x3⟩
        have eF : followF A cs = if (followP A cs).2.2.2 ≠ 0 then ([], (followP A cs).2.1, false, (followP A cs).2.2.2) else (A ++ (followP A cs).1, (followP A cs).2.1, (followP A cs).2.2.1, 0) := by
          unfold followF; rw [hw, ho, if_neg (by simp), if_neg (by simp), if_neg hm]
        by_cases h0 : (followP A cs).2.2.2 = 0
        · rw [if_neg (by simpa using h0)] at eF
          rw [if_pos h0] at n3
          exact hK _ _ ⟨s3, by rw [eF, h0], by rw [eF]; exact n3, x3⟩
        · rw [if_pos h0] at eF
          rw [if_neg h0] at n3
          exact hK _ _ ⟨s3, by rw [eF, (follow_errc A cs h0).1], by rw [eF]; exact n3, x3⟩
  · exact brT rfl (bad (by unfold followF; rw [hw]; rfl))

theorem r8_Check_c (hA : At h (li c s)) (hB : At h (lli cs s2)) (hc : ∀ c ∈ cs, c.length ≤ 1048576) (hl : c.length ≤ 1048576) (hl2 : cs.length ≤ 1048576) :
    callT Try.prog fn_salvorref08_Check #[.slice s.a s.len s.cap, .slice s2.a s2.len s2.cap] (.tup (.cons (.int .i64) (.cons (.int .i64) .nil)))
      (fun r h' => r = ((((checkP c cs).2.1 : Nat) : Int), (checkP c cs).2.2, ()) ∧ Ext [] h h') h := by
  refine callT_gen fun K hK => S_salvorref08_Check (a0 := s) (a1 := s2) K ?_
  unfold F_salvorref08_Check
  have ls := rsg_len hB
  have st := Hs.start h [li c s, lli cs s2] (by simp [hA, hB])
  refine call_of (r2_right_c hA (by omega)) ?_
  rintro _ h1 ⟨rfl, e⟩; subst e
  have bad : ∀ {e : Int}, checkP c cs = ([], 0, e) → K (0, e, ()) h1 := by
    intro e he
    exact hK _ _ ⟨by rw [he]; rfl, Ext.refl' _ _⟩
  refine jn_mid (M := fun t h' => t = (wrongP cs || !rightC c) ∧ h' = h1) ?_ ?_
  rotate_left
  · intro J hJ
    cases hc' : rightC c
    · exact brT rfl (hJ _ _ ⟨by simp [hc'], rfl⟩)
    · refine brF rfl ?_
      refine call_of (r8_clauses_c hB hc hl2) ?_
      rintro _ h2 ⟨rfl, e⟩; subst e
      exact hJ _ _ ⟨by simp [hc'], rfl⟩
  rintro _ h2 ⟨rfl, e⟩; subst e
  cases hw : (wrongP cs || !rightC c)
  rotate_left
  · exact brT rfl (bad (by unfold checkP; rw [hw]; rfl))
  refine brF rfl ?_
  rw [Bool.or_eq_false_iff, Bool.not_eq_false'] at hw
  by_cases hm : cs.length > 65536
  · exact brT (by rw [ls]; exact decide_eq_true (by omega)) (bad (by unfold checkP; rw [hw.1, hw.2, if_neg (by simp), if_pos hm]))
  refine brF (by rw [ls]; exact decide_eq_false (by omega)) ?_
  refine call_of (r8_assume_c hA hw.2) ?_
  rintro _ h3 ⟨s3, rfl, n3, x3⟩
  have st := st.new x3 n3
  have hck := check_eq hw.2 (all_right hw.1) (show cs.length ≤ 65536 by omega)
  cases ha : alwaysC c
  rotate_left
  · have eS : assumeP c = ([], true, 0) := by unfold assumeP; rw [hw.2, ha]; rfl
    rw [eS] at st ⊢
    rw [ha, if_pos rfl] at hck
    exact brT rfl (hK _ _ ⟨by rw [hck]; rfl, st.frame (by simp)⟩)
  have eS : assumeP c = (negs c, false, 0) := by unfold assumeP; rw [hw.2, ha]; rfl
  rw [eS] at st ⊢
  rw [ha, if_neg (by simp)] at hck
  refine brF rfl ?_
  have hnl : (negs c).length ≤ 4096 := by
    unfold negs; rw [List.length_map]; have := nrm_length c; have := rightC_len hw.2; omega
  refine call_of (r8_follow_c (st.own 0 rfl).rsl (st.fz 1 rfl) (all_right hw.1) (by show (negs c).length ≤ _; omega) hl2) ?_
  rintro _ h4 ⟨s4, rfl, n4, x4⟩
  have st := st.ext x4
  refine jn_mid (M := fun t h' => t = decide ((followP (negs c) cs).2.2.2 = 0 ∧ (followP (negs c) cs).2.2.1 = false) ∧ h' = h4) ?_ ?_
  rotate_left
  · intro J hJ
    by_cases he : (followP (negs c) cs).2.2.2 = 0
    · refine brT (by simpa using he) (hJ _ _ ⟨?_, rfl⟩)
      cases hc : (followP (negs c) cs).2.2.1 <;> simp [he, hc]
    · refine brF (by simpa using he) (hJ _ _ ⟨?_, rfl⟩)
      simp [he]
  rintro _ h5 ⟨rfl, e⟩; subst e
  have fin : ∀ e : Int, e = (if (followP (negs c) cs).2.2.2 = 0 ∧ (followP (negs c) cs).2.2.1 = false then 82 else (followP (negs c) cs).2.2.2) → K ((((followP (negs c) cs).2.1 : Nat) : Int), e, ()) h5 := by
    rintro e rfl
    exact hK _ _ ⟨by rw [hck], st.frame (by simp)⟩
  refine jn_in fun J hJ => ?_
  by_cases hc : (followP (negs c) cs).2.2.2 = 0 ∧ (followP (negs c) cs).2.2.1 = false
  · exact brT (decide_eq_true hc) (hJ _ _ (fin _ (by rw [if_pos hc])))
  · exact brF (decide_eq_false hc) (hJ _ _ (fin _ (by rw [if_neg hc])))

end Go.Proofs.S
