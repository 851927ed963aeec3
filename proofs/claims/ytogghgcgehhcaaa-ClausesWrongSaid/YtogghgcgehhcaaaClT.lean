/-
  The reference over clauses: Without, Clashes, Union, Resolve, Compare; lists of numbers as clauses and back.
-/
import Derived.Test.YtogghgcgehhcaaaClR
set_option linter.unusedVariables false
namespace Go.Proofs.S
open Go Go.Sx Go.Proofs Go.Cl

variable {h : Heap} {c d : List Int} {s s2 : Sl} {fr : Fr} {G As : List Asn}

theorem r2_without_c (hA : At h (li c s)) (hr : rightC c = true) (l : Int) : callT Try.prog fn_salvorref02_Without #[.slice s.a s.len s.cap, .int .i64 l] (.tup (.cons .sl (.cons (.int .i64) .nil)))
    (fun r h' => ∃ s', r = (s', (withoutP c l).2, ()) ∧ New h.size h' (io (withoutP c l).1 s') ∧ Ext [] h h') h := by
  refine callT_gen fun K hK => S_salvorref02_Without (a0 := s) (a1 := l) K ?_
  unfold F_salvorref02_Without
  have l1 := rsl_len hA
  have hl := rightC_len hr
  refine call_of (r1_right_c l) ?_
  rintro r h1 ⟨rfl, rfl⟩
  cases hlr : rt l with
  | false =>
    simp only [Bool.not_false, brB_true]
    have e : withoutP c l = ([], 10) := by simp [withoutP, hr, hlr]
    exact hK _ _ ⟨⟨none, 0, 0⟩, by rw [e], by rw [e]; exact osl_nil _ _, Ext.refl' _ _⟩
  | true =>
    simp only [Bool.not_true, brB_false]
    have e : withoutP c l = ((nrm c).filter (fun x => !(x == l)), 0) := by simp [withoutP, hr, hlr]
    have st := (Hs.start h1 [] (by simp)).nil ty_int i64.enc none
    refine lfp_invh (I := fun m σ h' => ∃ (i : Nat) (s' : Sl), σ = ((i : Int), s', ()) ∧ i ≤ c.length ∧ Hs [([], h1)] [] [io ((c.take i).filter (fun x => !(x == l))) s'] h' ∧ m = c.length - i) ⟨_, 0, ⟨none, 0, 0⟩, rfl, by omega, st, rfl⟩ ?_
    clear st
    rintro m σ h2 X ⟨i, s', rfl, hi, st, em⟩ hX
    have hA1 := hA.ext (st.frame (by simp))
    have hle := List.length_filter_le (fun x => !(x == l)) (c.take i)
    simp only [List.length_take] at hle
    simp only
    by_cases hlt : i < c.length
    · rw [show decide ((i : Int) < (s.len : Int)) = true by rw [l1]; exact dlt_t hlt, brB_true, inc_i (show i < 4611686018427387904 by omega)]
      refine rdE (τ := i64) hA1 hlt ?_
      refine jn_in fun J hJ => ?_
      by_cases he : c[i] = l
      · rw [show (c[i] != l) = false by simp [he], brB_false]
        refine hJ _ _ (hX _ _ _ ⟨i + 1, s', rfl, by omega, ?_, rfl⟩ (by omega))
        have e2 : (!(c[i] == l)) = false := by simp [he]
        rw [take_succ_getE hlt, filter_snoc, e2]; simp only [Bool.false_eq_true, if_false, List.append_nil]; exact st
      · rw [show (c[i] != l) = true by simp [he], brB_true]
        refine rdE (τ := i64) hA1 hlt ?_
        refine st.nw fun b9 h3 st => ?_
        refine st.apd (enc := i64.enc) (v := c[i]) 0 1 rfl rfl (by decide) rfl (by omega) (by decide) rfl fun s7 h4 st => ?_
        refine hJ _ _ (hX _ _ _ ⟨i + 1, s7, rfl, by omega, ?_, rfl⟩ (by omega))
        have st := st.drop 1 rfl
        have e2 : (!(c[i] == l)) = true := by simp [he]
        rw [take_succ_getE hlt, filter_snoc, e2]; simp only [if_true]; exact st
    · rw [show decide ((i : Int) < (s.len : Int)) = false by rw [l1]; exact dlt_f hlt, brB_false]
      rw [List.take_of_length_le (by omega)] at st
      have hle2 := List.length_filter_le (fun x => !(x == l)) c
      refine call_of (r2_norm_c (st.own 0 rfl).rsl (by omega) (fun x hx => rightC_rt hr x (List.mem_filter.1 hx).1)) ?_
      rintro s5 h5 ⟨n5, x5⟩
      have st := st.new x5 n5
      rw [nrm_filter hr] at st
      exact hK _ _ ⟨s5, by rw [e], by rw [e]; exact st.res (by simp) 1 rfl, st.frame (by simp)⟩

theorem r2_clashes_c (hA : At h (li c s)) (hB : At h (li d s2)) (hr : rightC c = true) (hr2 : rightC d = true) : callT Try.prog fn_salvorref02_Clashes #[.slice s.a s.len s.cap, .slice s2.a s2.len s2.cap] .sl
    (fun s' h' => New h.size h' (io (clashesP c d).1 s') ∧ Ext [] h h') h := by
  refine callT_gen fun K hK => S_salvorref02_Clashes (a0 := s) (a1 := s2) K ?_
  unfold F_salvorref02_Clashes
  have l1 := rsl_len hA
  have hl := rightC_len hr
  have hl2 := rightC_len hr2
  have e : clashesP c d = ((nrm c).filter (fun l => d.contains (-l)), 0) := by simp [clashesP, hr, hr2]
  have st := (Hs.start h [] (by simp)).nil ty_int i64.enc none
  refine lfp_invh (I := fun m σ h' => ∃ (i : Nat) (s' : Sl), σ = ((i : Int), s', ()) ∧ i ≤ c.length ∧ Hs [([], h)] [] [io ((c.take i).filter (fun l => d.contains (-l))) s'] h' ∧ m = c.length - i) ⟨_, 0, ⟨none, 0, 0⟩, rfl, by omega, st, rfl⟩ ?_
  clear st
  rintro m σ h2 X ⟨i, s', rfl, hi, st, em⟩ hX
  have hA1 := hA.ext (st.frame (by simp))
  have hle := List.length_filter_le (fun l => d.contains (-l)) (c.take i)
  simp only [List.length_take] at hle
  simp only
  by_cases hlt : i < c.length
  · rw [show decide ((i : Int) < (s.len : Int)) = true by rw [l1]; exact dlt_t hlt, brB_true, inc_i (show i < 4611686018427387904 by omega)]
    refine rdE (τ := i64) hA1 hlt ?_
    rw [wneg (rightC_rt hr _ (List.getElem_mem hlt))]
    refine call_of (r2_has_c (hB.ext (st.frame (by simp))) (by omega) _) ?_
    rintro r h3 ⟨rfl, rfl⟩
    refine jn_in fun J hJ => ?_
    cases he : d.contains (-c[i]) with
    | false =>
      simp only [brB_false]
      refine hJ _ _ (hX _ _ _ ⟨i + 1, s', rfl, by omega, ?_, rfl⟩ (by omega))
      rw [take_succ_getE hlt, filter_snoc, he]; simp only [Bool.false_eq_true, if_false, List.append_nil]; exact st
    | true =>
      simp only [brB_true]
      refine rdE (τ := i64) hA1 hlt ?_
      refine st.nw fun b9 h3 st => ?_
      refine st.apd (enc := i64.enc) (v := c[i]) 0 1 rfl rfl (by decide) rfl (by omega) (by decide) rfl fun s7 h4 st => ?_
      refine hJ _ _ (hX _ _ _ ⟨i + 1, s7, rfl, by omega, ?_, rfl⟩ (by omega))
      have st := st.drop 1 rfl
      rw [take_succ_getE hlt, filter_snoc, he]; simp only [if_true]; exact st
  · rw [show decide ((i : Int) < (s.len : Int)) = false by rw [l1]; exact dlt_f hlt, brB_false]
    rw [List.take_of_length_le (by omega)] at st
    have hle2 := List.length_filter_le (fun l => d.contains (-l)) c
    refine call_of (r2_norm_c (st.own 0 rfl).rsl (by omega) (fun x hx => rightC_rt hr x (List.mem_filter.1 hx).1)) ?_
    rintro s5 h5 ⟨n5, x5⟩
    have st := st.new x5 n5
    rw [nrm_filter hr] at st
    exact hK _ _ ⟨by rw [e]; exact st.res (by simp) 1 rfl, st.frame (by simp)⟩

theorem r2_union_c (hA : At h (li c s)) (hB : At h (li d s2)) (hr : rightC c = true) (hr2 : rightC d = true) : callT Try.prog fn_salvorref02_Union #[.slice s.a s.len s.cap, .slice s2.a s2.len s2.cap] (.tup (.cons .sl (.cons (.int .i64) .nil)))
    (fun r h' => ∃ s', r = (s', (unionP c d).2, ()) ∧ New h.size h' (io (unionP c d).1 s') ∧ Ext [] h h') h := by
  refine callT_gen fun K hK => S_salvorref02_Union (a0 := s) (a1 := s2) K ?_
  unfold F_salvorref02_Union
  have l1 := rightC_len hr
  have l2 := rightC_len hr2
  have st := Hs.start h [] (by simp)
  refine st.nw fun b0 h1 st => ?_
  have st := st.asSl 0 i64.enc [] rfl rfl
  refine st.apdS (τ := i64) 0 rfl (hA.ext (st.frame (by simp))) leaf_int (by simp; omega) (by decide) fun s3 h3 st => ?_
  refine st.apdS (τ := i64) 0 rfl (hB.ext (st.frame (by simp))) leaf_int (by simp; omega) (by decide) fun s4 h4 st => ?_
  refine call_of (r2_norm_c (c := c ++ d) (st.own 0 rfl).rsl (by simp; omega) (fun x hx => by
    rcases List.mem_append.1 hx with hx | hx
    · exact rightC_rt hr x hx
    · exact rightC_rt hr2 x hx)) ?_
  rintro s5 h5 ⟨n5, x5⟩
  have st := st.new x5 n5
  have l3 := osl_len n5.at
  by_cases hm : (nrm (c ++ d)).length > 4096
  · rw [decide_eq_true (show (s5.len : Int) > 4096 by omega), brB_true]
    have e : unionP c d = ([], 5) := by simp [unionP, hr, hr2, hm]
    exact hK _ _ ⟨⟨none, 0, 0⟩, by rw [e], by rw [e]; exact osl_nil _ _, st.frame (by simp)⟩
  · rw [decide_eq_false (show ¬ (s5.len : Int) > 4096 by omega), brB_false]
    have e : unionP c d = (nrm (c ++ d), 0) := by simp [unionP, hr, hr2, hm]
    exact hK _ _ ⟨s5, by rw [e], by rw [e]; exact st.res (by simp) 1 rfl, st.frame (by simp)⟩

theorem r2_resolve_c (hA : At h (li c s)) (hB : At h (li d s2)) (hr : rightC c = true) (hr2 : rightC d = true) (l : Int) : callT Try.prog fn_salvorref02_Resolve #[.slice s.a s.len s.cap, .slice s2.a s2.len s2.cap, .int .i64 l] (.tup (.cons .sl (.cons (.int .i64) .nil)))
    (fun r h' => ∃ s', r = (s', (resolveP c d l).2, ()) ∧ New h.size h' (io (resolveP c d l).1 s') ∧ Ext [] h h') h := by
  refine callT_gen fun K hK => S_salvorref02_Resolve (a0 := s) (a1 := s2) (a2 := l) K ?_
  unfold F_salvorref02_Resolve
  have hl := rightC_len hr
  have hl2 := rightC_len hr2
  have done : ∀ (e : Int) (h' : Heap), Ext [] h h' → resolveP c d l = ([], e) → K (⟨none, 0, 0⟩, e, ()) h' := fun e h' x er => hK _ _ ⟨⟨none, 0, 0⟩, by rw [er], by rw [er]; exact osl_nil _ _, x⟩
  have st := Hs.start h [] (by simp)
  refine call_of (r1_right_c l) ?_
  rintro r h3 ⟨rfl, rfl⟩
  cases hlr : rt l with
  | false => simp only [Bool.not_false, brB_true]; exact done 10 _ (st.frame (by simp)) (by simp [resolveP, hr, hr2, hlr])
  | true =>
    simp only [Bool.not_true, brB_false]
    refine call_of (r2_has_c hA (by omega) l) ?_
    rintro r h4 ⟨rfl, rfl⟩
    cases hh : c.contains l with
    | false => simp only [Bool.not_false, brB_true]; exact done 21 _ (st.frame (by simp)) (by unfold resolveP; rw [hr, hr2, hlr, hh]; rfl)
    | true =>
      simp only [Bool.not_true, brB_false]
      rw [wneg hlr]
      refine call_of (r2_has_c hB (by omega) (-l)) ?_
      rintro r h6 ⟨rfl, rfl⟩
      cases hh2 : d.contains (-l) with
      | false => simp only [Bool.not_false, brB_true]; exact done 21 _ (st.frame (by simp)) (by unfold resolveP; rw [hr, hr2, hlr, hh, hh2]; rfl)
      | true =>
        simp only [Bool.not_true, brB_false]
        refine call_of (r2_without_c hA hr l) ?_
        rintro _ h7 ⟨s7, rfl, n7, x7⟩
        have st := st.new x7 n7
        refine call_of (r2_without_c (hB.ext (st.frame (by simp))) hr2 (-l)) ?_
        rintro _ h9 ⟨s9, rfl, n9, x9⟩
        have st := st.new x9 n9
        refine call_of (r2_union_c (st.own 0 rfl).rsl (st.own 1 rfl).rsl (right_without hr l) (right_without hr2 (-l))) ?_
        rintro _ h10 ⟨s10, rfl, n10, x10⟩
        have st := st.new x10 n10
        have e : resolveP c d l = unionP (withoutP c l).1 (withoutP d (-l)).1 := by unfold resolveP; rw [hr, hr2, hlr, hh, hh2]; rfl
        exact hK _ _ ⟨s10, by rw [e], by rw [e]; exact st.res (by simp) 2 rfl, st.frame (by simp)⟩

theorem r2_compare_c (hA : At h (li c s)) (hB : At h (li d s2)) (hr : rightC c = true) (hr2 : rightC d = true) : callT Try.prog fn_salvorref02_Compare #[.slice s.a s.len s.cap, .slice s2.a s2.len s2.cap] (.int .i64)
    (fun r h' => r = compareP c d ∧ Ext [] h h') h := by
  refine callT_gen fun K hK => S_salvorref02_Compare (a0 := s) (a1 := s2) K ?_
  unfold F_salvorref02_Compare
  have hl := rightC_len hr
  have hl2 := rightC_len hr2
  have hn := nrm_length c
  have st := Hs.start h [] (by simp)
  refine call_of (r2_norm_c hA (by omega) (rightC_rt hr)) ?_
  rintro s3 h3 ⟨n3, x3⟩
  have st := st.new x3 n3
  refine call_of (r2_norm_c (hB.ext (st.frame (by simp))) (by omega) (rightC_rt hr2)) ?_
  rintro s4 h4 ⟨n4, x4⟩
  have st := st.new x4 n4
  have hN := (st.own 0 rfl).rsl
  have hM := (st.own 1 rfl).rsl
  have l1 := rsl_len hN
  have l2 := rsl_len hM
  have e : compareP c d = (if cmpI (nrm c).length (nrm d).length ≠ 0 then cmpI (nrm c).length (nrm d).length else cmpL cmpLit (nrm c) (nrm d)) := by simp [compareP, hr, hr2]
  have key : ∀ r : Int, r = compareP c d → K r h4 := fun r er => hK _ _ ⟨er, st.frame (by simp)⟩
  by_cases hlen : (nrm c).length = (nrm d).length
  · rw [show ((s3.len : Int) != (s4.len : Int)) = false by rw [l1, l2, hlen]; simp, brB_false]
    have e2 : compareP c d = cmpL cmpLit (nrm c) (nrm d) := by rw [e, hlen, if_neg (by simp [cmpI_zero])]
    refine lfp_invh (I := fun m σ h' => ∃ i : Nat, σ = ((i : Int), 0, ()) ∧ i ≤ (nrm c).length ∧ cmpL cmpLit ((nrm c).drop i) ((nrm d).drop i) = compareP c d ∧ h' = h4 ∧ m = (nrm c).length - i) ⟨_, 0, rfl, by omega, e2.symm, rfl, rfl⟩ ?_
    rintro m σ h' X ⟨i, rfl, hi, hD, rfl, em⟩ hX
    simp only
    by_cases hlt : i < (nrm c).length
    · rw [show decide ((i : Int) < (s3.len : Int)) = true by rw [l1]; exact dlt_t hlt, brB_true, inc_i (show i < 4611686018427387904 by omega)]
      refine rdE (τ := i64) hN hlt ?_
      refine rdE (τ := i64) hM (show i < (nrm d).length by omega) ?_
      refine call_of (r1_compare_c (rightC_rt (right_nrm hr) _ (List.getElem_mem _)) (rightC_rt (right_nrm hr2) _ (List.getElem_mem _))) ?_
      rintro r h5 ⟨rfl, rfl⟩
      rw [List.drop_eq_getElem_cons hlt, List.drop_eq_getElem_cons (show i < (nrm d).length by omega), cmpL] at hD
      by_cases h0 : cmpLit (nrm c)[i] ((nrm d)[i]'(by omega)) = 0
      · rw [if_neg (by simp [h0])] at hD
        rw [show (cmpLit (nrm c)[i] ((nrm d)[i]'(by omega)) != 0) = false by simp [h0], brB_false]
        exact hX _ _ _ ⟨i + 1, rfl, by omega, hD, rfl, rfl⟩ (by omega)
      · rw [if_pos h0] at hD
        rw [show (cmpLit (nrm c)[i] ((nrm d)[i]'(by omega)) != 0) = true by simp [h0], brB_true]
        exact key _ hD
    · rw [show decide ((i : Int) < (s3.len : Int)) = false by rw [l1]; exact dlt_f hlt, brB_false]
      rw [List.drop_eq_nil_of_le (by omega), List.drop_eq_nil_of_le (by omega)] at hD
      exact key _ hD
  · rw [show ((s3.len : Int) != (s4.len : Int)) = true by rw [l1, l2]; simp; omega, brB_true]
    have e2 : compareP c d = cmpI (nrm c).length (nrm d).length := by rw [e, if_pos]; simp only [ne_eq, cmpI_zero]; omega
    by_cases hlt : (nrm c).length < (nrm d).length
    · rw [decide_eq_true (show (s3.len : Int) < (s4.len : Int) by omega), brB_true]
      exact key _ (by rw [e2]; unfold cmpI; rw [if_pos (by omega)])
    · rw [decide_eq_false (show ¬ (s3.len : Int) < (s4.len : Int) by omega), brB_false]
      exact key _ (by rw [e2]; unfold cmpI; rw [if_neg (by omega), if_pos (by omega)])

/-! ### lists of numbers, clauses -/

theorem clause_c (hA : At h (li c s)) (hl : c.length ≤ 1048576) : callT Try.prog fn_salvorlaw02_Clause #[.slice s.a s.len s.cap] .sl (fun s' h' => New h.size h' (lo c s') ∧ Ext [] h h') h := by
  refine callT_gen fun K hK => S_salvorlaw02_Clause (a0 := s) K ?_
  unfold F_salvorlaw02_Clause
  have l1 := rsl_len hA
  have st := (Hs.start h [] (by simp)).nil ty_lits_Lit i64.enc none
  refine lfp_invh (I := fun m σ h' => ∃ (i : Nat) (s' : Sl), σ = ((i : Int), s', ()) ∧ i ≤ c.length ∧ Hs [([], h)] [] [lo (c.take i) s'] h' ∧ m = c.length - i) ⟨_, 0, ⟨none, 0, 0⟩, rfl, by omega, st, rfl⟩ ?_
  clear st
  rintro m σ h2 X ⟨i, s', rfl, hi, st, em⟩ hX
  have hA1 := hA.ext (st.frame (by simp))
  simp only
  by_cases hlt : i < c.length
  · rw [show decide ((i : Int) < (s.len : Int)) = true by rw [l1]; exact dlt_t hlt, brB_true, inc_i (show i < 4611686018427387904 by omega)]
    refine rdE (τ := i64) hA1 hlt ?_
    refine st.nw fun b9 h3 st => ?_
    refine st.apd (enc := i64.enc) (v := c[i]) 0 1 rfl rfl (by decide) rfl (by simp; omega) (by decide) rfl fun s7 h4 st => ?_
    refine hX _ _ _ ⟨i + 1, s7, rfl, by omega, ?_, rfl⟩ (by omega)
    have st := st.drop 1 rfl
    rw [take_succ_getE hlt]; exact st
  · rw [show decide ((i : Int) < (s.len : Int)) = false by rw [l1]; exact dlt_f hlt, brB_false]
    rw [List.take_of_length_le (by omega)] at st
    exact hK _ _ ⟨st.res (by simp) 0 rfl, st.frame (by simp)⟩

theorem ints_c (hA : At h (li c s)) (hl : c.length ≤ 1048576) : callT Try.prog fn_salvorlaw02_Ints #[.slice s.a s.len s.cap] .sl (fun s' h' => New h.size h' (io c s') ∧ Ext [] h h') h := by
  refine callT_gen fun K hK => S_salvorlaw02_Ints (a0 := s) K ?_
  unfold F_salvorlaw02_Ints
  have l1 := rsl_len hA
  have st := (Hs.start h [] (by simp)).nil ty_int i64.enc none
  refine lfp_invh (I := fun m σ h' => ∃ (i : Nat) (s' : Sl), σ = ((i : Int), s', ()) ∧ i ≤ c.length ∧ Hs [([], h)] [] [io (c.take i) s'] h' ∧ m = c.length - i) ⟨_, 0, ⟨none, 0, 0⟩, rfl, by omega, st, rfl⟩ ?_
  clear st
  rintro m σ h2 X ⟨i, s', rfl, hi, st, em⟩ hX
  have hA1 := hA.ext (st.frame (by simp))
  simp only
  by_cases hlt : i < c.length
  · rw [show decide ((i : Int) < (s.len : Int)) = true by rw [l1]; exact dlt_t hlt, brB_true, inc_i (show i < 4611686018427387904 by omega)]
    refine rdE (τ := i64) hA1 hlt ?_
    refine st.nw fun b9 h3 st => ?_
    refine st.apd (enc := i64.enc) (v := c[i]) 0 1 rfl rfl (by decide) rfl (by simp; omega) (by decide) rfl fun s7 h4 st => ?_
    refine hX _ _ _ ⟨i + 1, s7, rfl, by omega, ?_, rfl⟩ (by omega)
    have st := st.drop 1 rfl
    rw [take_succ_getE hlt]; exact st
  · rw [show decide ((i : Int) < (s.len : Int)) = false by rw [l1]; exact dlt_f hlt, brB_false]
    rw [List.take_of_length_le (by omega)] at st
    exact hK _ _ ⟨st.res (by simp) 0 rfl, st.frame (by simp)⟩

end Go.Proofs.S
