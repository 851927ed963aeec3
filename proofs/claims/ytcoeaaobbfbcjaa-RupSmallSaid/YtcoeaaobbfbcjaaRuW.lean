/-
  RupFollows.
-/
import Derived.Test.YtcoeaaobbfbcjaaClV
import Derived.Test.YtcoeaaobbfbcjaaRuT
import Derived.Test.YtcoeaaobbfbcjaaSxWn
import Derived.Test.YtcoeaaobbfbcjaaSxCk
set_option linter.unusedVariables false
set_option linter.unusedSimpArgs false
namespace Go.Proofs.S
open Go Go.Sx Go.Proofs Go.Cl Go.Rp

variable {h : Heap} {c d A us : List Int} {cs ds hs : List (List Int)} {s s2 s3 : Sl} {fr : Fr} {G As : List Asn} {b : Nat}

abbrev lix (l : List (List Int)) (s : Sl) : Asn := osg (fun c p => iox c p) ty_sl_int l s
theorem lix_lli (hA : At h (lix cs s)) : At h (lli cs s) := by
  obtain ⟨ps, lp, ho, hr⟩ := rsg_open hA.rsg
  exact rsg_at lp ho fun i h1 h2 => (hr i h1 h2).rsl

theorem Lists_c (hA : At h (lli cs s)) (hc : ∀ c ∈ cs, c.length ≤ 1048576) (hl : cs.length ≤ 1048576) : callT Try.prog fn_salvorlaw08_Lists #[.slice s.a s.len s.cap] .sl (fun s' h' => New h.size h' (lix cs s') ∧ Ext [] h h') h := by
  refine callT_gen fun K hK => S_salvorlaw08_Lists (a0 := s) K ?_
  unfold F_salvorlaw08_Lists
  have l3 := rsg_len hA
  have st := (Hs.start h [lli cs s] (by simp [hA])).nilg (fun c p => iox c p) ty_sl_int none
  refine lfp_invh (I := fun m σ h' => ∃ (i : Nat) (s' : Sl), σ = ((i : Int), s', ()) ∧ i ≤ cs.length ∧ Hs [([], h)] [lli cs s] [lix (cs.take i) s'] h' ∧ m = cs.length - i) ⟨_, 0, ⟨none, 0, 0⟩, rfl, by omega, st, rfl⟩ ?_
  clear st
  rintro m' σ h2 X ⟨i, s', rfl, hi, st, em⟩ hX
  simp only
  by_cases hlt : i < cs.length
  · refine brT (by rw [l3]; exact dlt_t hlt) ?_
    refine rdG (st.fz 0 rfl) hlt fun p hp => ?_
    refine call_of (Ints_c hp (hc _ (List.getElem_mem hlt))) ?_
    rintro s5 h3 ⟨n5, x5⟩
    have st := st.new x5 n5
    refine st.nw fun b6 h4 st => ?_
    refine Hs.apdG (I := fun c p => iox c p) (x := cs[i]) (p := s5) st 0 2 1 rfl rfl rfl (by decide) (by decide) (by simp; omega) (by decide) rfl fun s7 h5 st => ?_
    have st := (st.drop 2 rfl).drop 1 rfl
    rw [inc_i (by omega)]
    refine hX _ _ _ ⟨i + 1, s7, rfl, by omega, ?_, rfl⟩ (by omega)
    rw [take_lt hlt]; exact st
  · refine brF (by rw [l3]; exact dlt_f hlt) ?_
    rw [List.take_of_length_le (by omega)] at st
    exact hK _ _ ⟨st.res (by simp) 0 rfl, st.frame (by simp)⟩

theorem Copies_c (hA : At h (lli cs s)) (hc : ∀ c ∈ cs, c.length ≤ 1048576) (hl : cs.length ≤ 1048576) : callT Try.prog fn_salvorlaw08_Copies #[.slice s.a s.len s.cap] .sl (fun s' h' => New h.size h' (llo cs s') ∧ Ext [] h h') h := by
  refine callT_gen fun K hK => S_salvorlaw08_Copies (a0 := s) K ?_
  unfold F_salvorlaw08_Copies
  have l3 := rsg_len hA
  have st := (Hs.start h [lli cs s] (by simp [hA])).nilg (fun c p => lo c p) ty_clauses_Clause none
  refine lfp_invh (I := fun m σ h' => ∃ (i : Nat) (s' : Sl), σ = ((i : Int), s', ()) ∧ i ≤ cs.length ∧ Hs [([], h)] [lli cs s] [llo (cs.take i) s'] h' ∧ m = cs.length - i) ⟨_, 0, ⟨none, 0, 0⟩, rfl, by omega, st, rfl⟩ ?_
  clear st
  rintro m' σ h2 X ⟨i, s', rfl, hi, st, em⟩ hX
  simp only
  by_cases hlt : i < cs.length
  · refine brT (by rw [l3]; exact dlt_t hlt) ?_
    refine rdG (st.fz 0 rfl) hlt fun p hp => ?_
    refine cloneC_c st hp (hc _ (List.getElem_mem hlt)) fun s5 h3 st => ?_
    refine st.nw fun b6 h4 st => ?_
    refine Hs.apdG (I := fun c p => lo c p) (x := cs[i]) (p := s5) st 0 2 1 rfl rfl rfl (by decide) (by decide) (by simp; omega) (by decide) rfl fun s7 h5 st => ?_
    have st := (st.drop 2 rfl).drop 1 rfl
    rw [inc_i (by omega)]
    refine hX _ _ _ ⟨i + 1, s7, rfl, by omega, ?_, rfl⟩ (by omega)
    rw [take_lt hlt]; exact st
  · refine brF (by rw [l3]; exact dlt_f hlt) ?_
    rw [List.take_of_length_le (by omega)] at st
    exact hK _ _ ⟨st.res (by simp) 0 rfl, st.frame (by simp)⟩

theorem SameLists_c (hA : At h (lli cs s)) (hB : At h (lli cs s2)) (hc : ∀ c ∈ cs, c.length ≤ 1048576) (hl : cs.length ≤ 1048576) : callT Try.prog fn_salvorlaw08_SameLists #[.slice s.a s.len s.cap, .slice s2.a s2.len s2.cap] .bool (fun r h' => r = true ∧ Ext [] h h') h := by
  refine callT_gen fun K hK => S_salvorlaw08_SameLists (a0 := s) (a1 := s2) K ?_
  unfold F_salvorlaw08_SameLists
  have hf : ∀ x ∈ cs, ∀ y ∈ cs, ∀ p q h', Ext [] h h' → At h' (li x p) → At h' (li y q) → callF Try.prog (.func (.func fn_salvorlaw08_SameLists_1) #[] #[]) #[Ty.sl.enc p, Ty.sl.enc q] .bool (fun b h2 => b = decide (x = y) ∧ Ext [] h' h2) h' := by
    intro x hx y hy p q h' xx hp hq
    refine callF_func (callT_gen fun K hK => S_salvorlaw08_SameLists_1 (a0 := p) (a1 := q) K ?_)
    unfold F_salvorlaw08_SameLists_1
    refine call_of (equal_clause hp hq (by have := hc x hx; omega)) ?_
    rintro _ h3 ⟨rfl, e⟩; subst e
    exact hK _ _ ⟨rfl, Ext.refl' _ _⟩
  refine call_of (R := fun r h' => r = true ∧ Ext [] h h') (callT_gen fun K hK => S_slices_EqualFunc_clauses_Clause_clauses_Clause_clauses_Clause_clauses_Clause (a0 := s) (a1 := s2) (a2 := .func (.func fn_salvorlaw08_SameLists_1) #[] #[]) K
    (w_equalFuncG (P := Try.prog) (I := fun c p => li c p) (J := fun c p => li c p) (r := fun x y => decide (x = y)) hA hB (by omega) hf fun b h' hb x => hK _ _ ⟨hb.2 ⟨rfl, fun i h1 h2 => decide_eq_true rfl⟩, x⟩)) ?_
  rintro _ h2 ⟨rfl, x2⟩
  exact hK _ _ ⟨rfl, x2⟩

theorem Few_c {m k : Nat} (hA : At h (lli cs s)) (hl : m ≤ 1000) : callT Try.prog fn_salvorlaw08_Few #[.slice s.a s.len s.cap, .int .i64 m, .int .i64 k] .bool (fun r h' => r = (decide (cs.length ≤ m) && cs.all fun c => decide (c.length ≤ k)) ∧ Ext [] h h') h := by
  refine callT_gen fun K hK => S_salvorlaw08_Few (a0 := s) (a1 := (m : Int)) (a2 := (k : Int)) K ?_
  unfold F_salvorlaw08_Few
  have ls := rsg_len hA
  have st := Hs.start h [lli cs s] (by simp [hA])
  refine st.nw fun b0 h1 st => ?_
  have kb := st.blk 0 rfl
  have x1 : Ext [] h h1 := st.frame (by simp)
  refine jn_in fun J hJ => ?_
  by_cases hm : cs.length ≤ m
  · refine brT (by rw [ls]; exact decide_eq_true (by omega)) ?_
    refine S_slices_ContainsFunc_clauses_Clause_clauses_Clause (a0 := s) (a1 := .func (.func fn_salvorlaw08_Few_1) #[] #[.pointer (some ⟨b0, 0, none⟩)]) _ ?_
    unfold F_slices_ContainsFunc_clauses_Clause_clauses_Clause
    have hc : ∀ x ∈ cs, ∀ q h', Ext [] h1 h' → At h' (li x q) → callF Try.prog (.func (.func fn_salvorlaw08_Few_1) #[] #[.pointer (some ⟨b0, 0, none⟩)]) #[Ty.sl.enc q] .bool (fun r h2 => r = !decide (x.length ≤ k) ∧ Ext [] h' h2) h' := by
      intro x hx q h2 x2 hq
      refine callF_func (callT_gen fun K hK => S_salvorlaw08_Few_1 (a0 := q) (c0 := ⟨b0, 0, none⟩) K ?_)
      unfold F_salvorlaw08_Few_1
      rw [ld_int (i := 0) (kb.ext x2 (by simp)) rfl]
      refine hK _ _ ⟨?_, Ext.refl' _ _⟩
      rw [rsl_len hq]
      by_cases hx : x.length ≤ k
      · rw [decide_eq_true hx, decide_eq_false (by omega)]; rfl
      · rw [decide_eq_false hx, decide_eq_true (by omega)]; rfl
    refine call_of (R := fun r h' => r = fidx (fun c => !decide (c.length ≤ k)) cs ∧ Ext [] h1 h') (callT_gen fun K hK => S_slices_IndexFunc_clauses_Clause_clauses_Clause (a0 := s) (a1 := .func (.func fn_salvorlaw08_Few_1) #[] #[.pointer (some ⟨b0, 0, none⟩)]) K (w_indexFuncG (p := fun c => !decide (c.length ≤ k)) (st.fz 0 rfl) (by omega) hc fun h' x => hK _ _ ⟨rfl, x⟩)) ?_
    rintro _ h2 ⟨rfl, x2⟩
    refine hJ _ _ (hK _ _ ⟨?_, x1.nil_trans x2⟩)
    rw [fidx_ge, decide_eq_true hm, Bool.true_and, Bool.eq_iff_iff]; simp
  · refine brF (by rw [ls]; exact decide_eq_false (by omega)) (hJ _ _ (hK _ _ ⟨?_, x1⟩))
    rw [decide_eq_false hm]; rfl

set_option maxRecDepth 4000 in
theorem follows_c (hA : At h (li A s)) (hB : At h (li c s2)) (hC : At h (lli cs s3)) (hl : A.length ≤ 500000) (hl2 : c.length ≤ 1048576) (hl3 : cs.length ≤ 500000) (hcl : ∀ c ∈ cs, c.length ≤ 1048576) :
    callT Try.prog fn_salvorlaw08_follows #[.slice s.a s.len s.cap, .slice s2.a s2.len s2.cap, .slice s3.a s3.len s3.cap] .bool (fun r h' => r = true ∧ Ext [] h h') h := by
  refine callT_gen fun K hK => S_salvorlaw08_follows (a0 := s) (a1 := s2) (a2 := s3) K ?_
  unfold F_salvorlaw08_follows
  have st := Hs.start h [li A s, li c s2, lli cs s3] (by simp [hA, hB, hC])
  refine call_of (Ints_c (st.fz 0 rfl) (by omega)) ?_
  rintro r0 h1 ⟨n1, x1⟩
  have st := st.new x1 n1
  refine call_of (Ints_c (st.fz 1 rfl) (by omega)) ?_
  rintro r1 h2 ⟨n2, x2⟩
  have st := st.new x2 n2
  refine call_of (Lists_c (st.fz 2 rfl) hcl (by omega)) ?_
  rintro r2 h3 ⟨n3, x3⟩
  have st := st.new x3 n3
  refine call_of (Copies_c (st.fz 2 rfl) hcl (by omega)) ?_
  rintro r3 h4 ⟨n4, x4⟩
  have st := st.new x4 n4
  refine cloneL_c st (st.fz 0 rfl) (by omega) fun r4 h5 st => ?_
  refine call_of (Follow_c (st.own 4 rfl).rsl (llo_lli (st.own 3 rfl)) (by omega) (by omega)) ?_
  rintro _ h6 ⟨s6, rfl, n6, x6⟩
  have st := st.new x6 n6
  refine call_of (r8_Follow_c (st.own 0 rfl).rsl (lix_lli (st.own 2 rfl)) hcl (by omega) (by omega)) ?_
  rintro _ h7 ⟨s7, rfl, n7, x7⟩
  have st := st.new x7 n7
  have hFl : (followF A cs).1.length ≤ 1048576 := by
    unfold followF
    split
    · simp
    · split
      · simp
      · split
        · simp
        · split
          · simp
          · have := follow_more_le A cs; simp; omega
  refine call_of (Ints_c (st.own 5 rfl).rsl hFl) ?_
  rintro r7 h8 ⟨n8, x8⟩
  have st := st.new x8 n8
  refine call_of (equal_int (st.own 7 rfl).rsl (st.own 6 rfl).rsl (by omega)) ?_
  rintro _ h9 ⟨rfl, e⟩; subst e
  rw [decide_eq_true rfl]
  refine jn_in fun J hJ => brF rfl (hJ _ _ ?_)
  refine jn_in fun J hJ => brF (by simp) (hJ _ _ ?_)
  refine jn_in fun J hJ => brF (by simp) (hJ _ _ ?_)
  refine brF (by simp) ?_
  refine fill_loop st 5 rfl (by omega) fun c' h10 st => ?_
  refine call_of (Check_c (st.fz 1 rfl) (llo_lli (st.own 3 rfl)) (by omega) (by omega)) ?_
  rintro _ h11 ⟨rfl, x11⟩
  have st := st.ext x11
  refine call_of (r8_Check_c (st.own 1 rfl).rsl (lix_lli (st.own 2 rfl)) hcl (by omega) (by omega)) ?_
  rintro _ h12 ⟨rfl, x12⟩
  have st := st.ext x12
  refine jn_in fun J hJ => brF (by simp) (hJ _ _ ?_)
  refine brF (by simp) ?_
  refine call_of (Trim_c (st.fz 1 rfl) (llo_lli (st.own 3 rfl)) (by omega) (by omega)) ?_
  rintro _ h13 ⟨s13, rfl, n13, x13⟩
  have st := st.new x13 n13
  refine call_of (r8_Trim_c (st.own 1 rfl).rsl (lix_lli (st.own 2 rfl)) hcl (by omega) (by omega)) ?_
  rintro _ h14 ⟨s14, rfl, n14, x14⟩
  have st := st.new x14 n14
  have hTl : (nats (trimP c cs).1).length ≤ 1048576 := by
    simp only [nats, List.length_map]
    unfold trimP
    split
    · simp
    · have := rise_len (n := 0) (sorted_needed (cs.take (checkP c cs).2.1) (checkP c cs).1) fun k hk => ⟨by omega, (mem_needed.1 hk).lt⟩
      have h2 := List.length_take_le' (checkP c cs).2.1 cs
      rcases this with h | h
      · simp only; omega
      · simp only [h]; simp
  refine call_of (equal_int (st.own 8 rfl).rsl (st.own 9 rfl).rsl (by omega)) ?_
  rintro _ h15 ⟨rfl, e⟩; subst e
  rw [decide_eq_true rfl]
  refine jn_in fun J hJ => brT rfl (hJ _ _ ?_)
  refine jn_in fun J hJ => brT (by simp) ?_
  refine call_of (SameLists_c (llo_lli (st.own 3 rfl)) (st.fz 2 rfl) hcl (by omega)) ?_
  rintro _ h16 ⟨rfl, x16⟩
  have st := st.ext x16
  refine hJ _ _ (jn_in fun J hJ => brT rfl ?_)
  refine call_of (equal_lit (st.own 4 rfl).rsl (st.fz 0 rfl) (by omega)) ?_
  rintro _ h17 ⟨rfl, e⟩; subst e
  rw [decide_eq_true rfl]
  refine hJ _ _ (jn_in fun J hJ => brT rfl ?_)
  refine call_of (Ints_c (st.fz 1 rfl) (by omega)) ?_
  rintro r33 h18 ⟨n18, x18⟩
  have st := st.new x18 n18
  refine call_of (equal_int (st.own 10 rfl).rsl (st.own 1 rfl).rsl (by omega)) ?_
  rintro _ h19 ⟨rfl, e⟩; subst e
  rw [decide_eq_true rfl]
  exact hJ _ _ (hK _ _ ⟨rfl, st.frame (by simp)⟩)

theorem rupFollows_F (hA : At h (li A s)) (hB : At h (li c s2)) (hC : At h (lli cs s3)) (K : Bool → HP) (hK : ∀ x h', (x = true ∧ Ext [] h h') → K x h') : F_salvorlaw08_RupFollows s s2 s3 K h := by
  unfold F_salvorlaw08_RupFollows
  have l1 := rsl_len hA
  have l2 := rsl_len hB
  refine jn_mid (M := fun t h' => t = decide (c.length > 40 ∨ A.length > 40) ∧ h' = h) ?_ ?_
  rotate_left
  · intro J hJ
    by_cases h1 : c.length > 40
    · exact brT (by rw [l2]; exact decide_eq_true (by omega)) (hJ _ _ ⟨(decide_eq_true (.inl h1)).symm, rfl⟩)
    · refine brF (by rw [l2]; exact decide_eq_false (by omega)) (hJ _ _ ⟨?_, rfl⟩)
      rw [l1]
      by_cases h2 : A.length > 40
      · rw [decide_eq_true (show (A.length : Int) > 40 by omega), decide_eq_true (.inr h2)]
      · rw [decide_eq_false (show ¬ (A.length : Int) > 40 by omega), decide_eq_false (by omega)]
  rintro _ h1 ⟨rfl, e⟩; subst e
  refine jn_mid (M := fun t h' => (t = false → c.length ≤ 40 ∧ A.length ≤ 40 ∧ cs.length ≤ 40 ∧ ∀ c ∈ cs, c.length ≤ 20) ∧ Ext [] h1 h') ?_ ?_
  rotate_left
  · intro J hJ
    by_cases h2 : c.length > 40 ∨ A.length > 40
    · exact brT (decide_eq_true h2) (hJ _ _ ⟨(by intro e; cases e), Ext.refl' _ _⟩)
    · refine brF (decide_eq_false h2) ?_
      refine call_of (Few_c (m := 40) (k := 20) hC (by decide)) ?_
      rintro _ h3 ⟨rfl, x3⟩
      refine hJ _ _ ⟨fun e => ?_, x3⟩
      rw [Bool.not_eq_false', Bool.and_eq_true, decide_eq_true_eq, List.all_eq_true] at e
      exact ⟨by omega, by omega, e.1, fun c hc => by simpa using e.2 c hc⟩
  rintro t2 h2 ⟨ht, x2⟩
  refine jn_mid (M := fun t h' => t = true ∧ Ext [] h1 h') ?_ ?_
  rotate_left
  · intro J hJ
    cases t2
    · refine brF rfl ?_
      obtain ⟨q1, q2, q3, q4⟩ := ht rfl
      refine call_of (follows_c (hA.ext x2) (hB.ext x2) (hC.ext x2) (by omega) (by omega) (by omega) (fun c hc => by have := q4 c hc; omega)) ?_
      rintro _ h3 ⟨rfl, x3⟩
      exact hJ _ _ ⟨rfl, x2.nil_trans x3⟩
    · exact brT rfl (hJ _ _ ⟨rfl, x2⟩)
  rintro _ h3 ⟨rfl, x3⟩
  refine jn_in fun J hJ => brT rfl ?_
  refine call_of (awake_c h3) ?_
  rintro _ h4 ⟨rfl, x4⟩
  exact hJ _ _ (hK _ _ ⟨rfl, x3.nil_trans x4⟩)

end Go.Proofs.S
