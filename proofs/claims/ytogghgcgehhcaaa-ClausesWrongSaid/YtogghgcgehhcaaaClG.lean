/-
  The package clauses: Compare, Union, Resolve: contracts.
-/
import Derived.Test.YtogghgcgehhcaaaClE
import Derived.Test.YtogghgcgehhcaaaSxW3
set_option linter.unusedVariables false
namespace Go.Proofs.S
open Go Go.Sx Go.Proofs Go.Cl

variable {h : Heap} {c d : List Int} {s s2 : Sl} {fr : Fr} {G As : List Asn}

theorem grow_c {n : Int} {K : Sl → HP} (hW : W_grow ty_lits_Lit 8 (.int .i64 0) ⟨none, 0, 0⟩ n K h) : callT Try.prog fn_slices_Grow_clauses_Clause_lits_Lit #[.slice none 0 0, .int .i64 n] .sl K h :=
  S_slices_Grow_clauses_Clause_lits_Lit (a0 := ⟨none, 0, 0⟩) (a1 := n) K hW

theorem concat2_c {b : Nat} {t0 : TypeId} (kb : Blk h b t0 [.slice s.a s.len s.cap, .slice s2.a s2.len s2.cap]) (hA : At h (li c s)) (hB : At h (li d s2)) (hl : c.length + d.length ≤ 1048576) :
    callT Try.prog fn_slices_Concat_clauses_Clause_lits_Lit #[.slice (some ⟨b, 0, none⟩) 2 2] .sl (fun s' h' => New h.size h' (lo (c ++ d) s') ∧ Ext [] h h') h := by
  refine callT_gen fun K hK => S_slices_Concat_clauses_Clause_lits_Lit (a0 := ⟨some ⟨b, 0, none⟩, 2, 2⟩) K ?_
  have hp : At h (rsl Ty.sl.enc [s, s2] ⟨some ⟨b, 0, none⟩, 2, 2⟩) := ⟨[b], osl_rsl (t := t0) (.inl ⟨b, [], rfl, rfl, kb⟩)⟩
  refine w_concat (P := Try.prog) (τ := i64) (t := ty_lits_Lit) (by_ := 8) (z := .int .i64 0) (fg := fn_slices_Grow_clauses_Clause_lits_Lit) (xss := [c, d]) hp rfl ?_ (by simp) (by simp; omega) (by decide) leaf_int (fun n K h hW => grow_c hW) (fun s' h' a b => hK _ _ ⟨by simpa using a, b⟩)
  intro i hi
  match i, hi with
  | 0, _ => exact hA
  | 1, _ => exact hB

theorem union_c (hA : At h (li c s)) (hB : At h (li d s2)) : callT Try.prog fn_clauses_Union #[.slice s.a s.len s.cap, .slice s2.a s2.len s2.cap] (.tup (.cons .sl (.cons (.int .i64) .nil)))
    (fun r h' => ∃ s', r = (s', (unionP c d).2, ()) ∧ New h.size h' (lo (unionP c d).1 s') ∧ Ext [] h h') h := by
  refine callT_gen fun K hK => S_clauses_Union (a0 := s) (a1 := s2) K ?_
  unfold F_clauses_Union
  have st := Hs.start h [] (by simp)
  refine call_of (right_c hA) ?_
  rintro r h2 ⟨rfl, x2⟩
  have st := st.ext x2
  cases hr : rightC c with
  | false =>
    simp only [Bool.not_false, brB_true]
    exact hK _ _ ⟨⟨none, 0, 0⟩, by simp [unionP, hr], by rw [show unionP c d = ([], 20) by simp [unionP, hr]]; exact osl_nil _ _, st.frame (by simp)⟩
  | true =>
    simp only [Bool.not_true, brB_false]
    refine call_of (right_c (hB.ext (st.frame (by simp)))) ?_
    rintro r h3 ⟨rfl, x3⟩
    have st := st.ext x3
    cases hr2 : rightC d with
    | false =>
      simp only [Bool.not_false, brB_true]
      exact hK _ _ ⟨⟨none, 0, 0⟩, by simp [unionP, hr2], by rw [show unionP c d = ([], 20) by simp [unionP, hr2]]; exact osl_nil _ _, st.frame (by simp)⟩
    | true =>
      simp only [Bool.not_true, brB_false]
      have l1 := rightC_len hr
      have l2 := rightC_len hr2
      refine st.nw fun b2 h4 st => ?_
      refine call_of (concat2_c (st.blk 0 rfl) (hA.ext (st.frame (by simp))) (hB.ext (st.frame (by simp))) (by omega)) ?_
      rintro s5 h5 ⟨n5, x5⟩
      have st := st.new x5 n5
      refine call_of (normal_u (st.own 1 rfl).rsl (by simp; omega) (fun x hx => by
        rcases List.mem_append.1 hx with hx | hx
        · exact rightC_rt hr x hx
        · exact rightC_rt hr2 x hx)) ?_
      rintro s6 h6 ⟨n6, x6⟩
      have st := st.new x6 n6
      have l3 := osl_len n6.at
      have hn := nrm_length (c ++ d)
      by_cases hm : (nrm (c ++ d)).length > 4096
      · have e : decide ((s6.len : Int) > 4096) = true := decide_eq_true (by omega)
        rw [e, brB_true]
        exact hK _ _ ⟨⟨none, 0, 0⟩, by simp [unionP, hr, hr2, hm], by rw [show unionP c d = ([], 5) by simp [unionP, hr, hr2, hm]]; exact osl_nil _ _, st.frame (by simp)⟩
      · have e : decide ((s6.len : Int) > 4096) = false := decide_eq_false (by omega)
        rw [e, brB_false]
        have e2 : unionP c d = (nrm (c ++ d), 0) := by simp [unionP, hr, hr2, hm]
        exact hK _ _ ⟨s6, by rw [e2], by rw [e2]; exact st.res (by simp) 2 rfl, st.frame (by simp)⟩

theorem or2_c {b : Nat} {t0 : TypeId} {x y : Int} (kb : Blk h b t0 [.int .i64 x, .int .i64 y]) : callT Try.prog fn_cmp_Or_int #[.slice (some ⟨b, 0, none⟩) 2 2] (.int .i64) (fun r h' => r = orP [x, y] ∧ h' = h) h := by
  refine callT_gen fun K hK => S_cmp_Or_int (a0 := ⟨some ⟨b, 0, none⟩, 2, 2⟩) K ?_
  have hp : At h (rsl i64.enc [x, y] ⟨some ⟨b, 0, none⟩, 2, 2⟩) := ⟨[b], osl_rsl (t := t0) (.inl ⟨b, [], rfl, rfl, kb⟩)⟩
  exact w_or hp (by simp) (hK _ _ ⟨rfl, rfl⟩)

theorem comparefunc_c (hA : At h (li c s)) (hB : At h (li d s2)) (hl : c.length ≤ 1099511627776) :
    callT Try.prog fn_slices_CompareFunc_clauses_Clause_clauses_Clause_lits_Lit_lits_Lit #[.slice s.a s.len s.cap, .slice s2.a s2.len s2.cap, .func (.func fn_lits_Compare) #[] #[]] (.int .i64) (fun r h' => r = cmpL cmpLit c d ∧ Ext [] h h') h :=
  callT_gen fun K hK => S_slices_CompareFunc_clauses_Clause_clauses_Clause_lits_Lit_lits_Lit (a0 := s) (a1 := s2) (a2 := .func (.func fn_lits_Compare) #[] #[]) K
    (w_compareFunc (P := Try.prog) (τ := i64) (c := cmpLit) hA hB hl (fun x hx y hy h' _ => callF_of (compareF x y) fun r h2 ⟨e, e2⟩ => ⟨e, by rw [e2]; exact Ext.refl' _ _⟩) fun h' x => hK _ _ ⟨rfl, x⟩)

theorem compare_c (hA : At h (li c s)) (hB : At h (li d s2)) : callT Try.prog fn_clauses_Compare #[.slice s.a s.len s.cap, .slice s2.a s2.len s2.cap] (.int .i64) (fun r h' => r = compareP c d ∧ Ext [] h h') h := by
  refine callT_gen fun K hK => S_clauses_Compare (a0 := s) (a1 := s2) K ?_
  unfold F_clauses_Compare
  have st := Hs.start h [] (by simp)
  refine call_of (right_c hA) ?_
  rintro r h2 ⟨rfl, x2⟩
  have st := st.ext x2
  cases hr : rightC c with
  | false => simp only [Bool.not_false, brB_true]; exact hK _ _ ⟨by simp [compareP, hr], st.frame (by simp)⟩
  | true =>
    simp only [Bool.not_true, brB_false]
    refine call_of (right_c (hB.ext (st.frame (by simp)))) ?_
    rintro r h3 ⟨rfl, x3⟩
    have st := st.ext x3
    cases hr2 : rightC d with
    | false => simp only [Bool.not_false, brB_true]; exact hK _ _ ⟨by simp [compareP, hr2], st.frame (by simp)⟩
    | true =>
      simp only [Bool.not_true, brB_false]
      refine call_of (normal_c (hA.ext (st.frame (by simp))) hr) ?_
      rintro s4 h4 ⟨n4, x4⟩
      have st := st.new x4 n4
      refine call_of (normal_c (hB.ext (st.frame (by simp))) hr2) ?_
      rintro s5 h5 ⟨n5, x5⟩
      have st := st.new x5 n5
      refine call_of (cmp_int_c _ _) ?_
      rintro r6 h6 ⟨rfl, rfl⟩
      refine call_of (comparefunc_c (st.own 0 rfl).rsl (st.own 1 rfl).rsl (by have := nrm_length c; have := rightC_len hr; omega)) ?_
      rintro r7 h7 ⟨rfl, x7⟩
      have st := st.ext x7
      refine st.nw fun b8 h8 st => ?_
      refine call_of (or2_c (st.blk 2 rfl)) ?_
      rintro r9 h9 ⟨rfl, rfl⟩
      refine hK _ _ ⟨?_, st.frame (by simp)⟩
      rw [osl_len (st.own 0 rfl), osl_len (st.own 1 rfl)]
      simp only [compareP, hr, hr2, orP, Bool.and_self, if_true]
      split
      · rfl
      · split
        · rfl
        · rename_i h1 h2; simp at h2; rw [h2]

theorem resolve_c (hA : At h (li c s)) (hB : At h (li d s2)) (l : Int) : callT Try.prog fn_clauses_Resolve #[.slice s.a s.len s.cap, .slice s2.a s2.len s2.cap, .int .i64 l] (.tup (.cons .sl (.cons (.int .i64) .nil)))
    (fun r h' => ∃ s', r = (s', (resolveP c d l).2, ()) ∧ New h.size h' (lo (resolveP c d l).1 s') ∧ Ext [] h h') h := by
  refine callT_gen fun K hK => S_clauses_Resolve (a0 := s) (a1 := s2) (a2 := l) K ?_
  unfold F_clauses_Resolve
  have st := Hs.start h [] (by simp)
  have done : ∀ (e : Int) (h' : Heap), Ext [] h h' → resolveP c d l = ([], e) → K (⟨none, 0, 0⟩, e, ()) h' := fun e h' x er => hK _ _ ⟨⟨none, 0, 0⟩, by rw [er], by rw [er]; exact osl_nil _ _, x⟩
  refine call_of (right_c hA) ?_
  rintro r h2 ⟨rfl, x2⟩
  have st := st.ext x2
  cases hr : rightC c with
  | false => simp only [Bool.not_false, brB_true]; exact done 20 _ (st.frame (by simp)) (by simp [resolveP, hr])
  | true =>
    simp only [Bool.not_true, brB_false]
    refine call_of (right_c (hB.ext (st.frame (by simp)))) ?_
    rintro r h3 ⟨rfl, x3⟩
    have st := st.ext x3
    cases hr2 : rightC d with
    | false => simp only [Bool.not_false, brB_true]; exact done 20 _ (st.frame (by simp)) (by simp [resolveP, hr2])
    | true =>
      simp only [Bool.not_true, brB_false]
      refine call_of (clauses_wrong_c l) ?_
      rintro r h3 ⟨rfl, rfl⟩
      cases hl : rt l with
      | false => simp only [Bool.not_false, brB_true]; exact done 10 _ (st.frame (by simp)) (by simp [resolveP, hr, hr2, hl])
      | true =>
        simp only [Bool.not_true, brB_false]
        refine call_of (has_c (hA.ext (st.frame (by simp))) l) ?_
        rintro r h4 ⟨rfl, x4⟩
        have st := st.ext x4
        unfold hasC
        rw [hr, Bool.true_and]
        cases hh : c.contains l with
        | false => simp only [Bool.not_false, brB_true]; exact done 21 _ (st.frame (by simp)) (by unfold resolveP; rw [hr, hr2, hl, hh]; rfl)
        | true =>
          simp only [Bool.not_true, brB_false]
          refine call_of (lits_Neg_c l) ?_
          rintro r h5 ⟨rfl, rfl⟩
          rw [negL_rt hl]
          refine call_of (has_c (hB.ext (st.frame (by simp))) (-l)) ?_
          rintro r h6 ⟨rfl, x6⟩
          have st := st.ext x6
          unfold hasC
          rw [hr2, Bool.true_and]
          cases hh2 : d.contains (-l) with
          | false => simp only [Bool.not_false, brB_true]; exact done 21 _ (st.frame (by simp)) (by unfold resolveP; rw [hr, hr2, hl, hh, hh2]; rfl)
          | true =>
            simp only [Bool.not_true, brB_false]
            refine call_of (without_c (hA.ext (st.frame (by simp))) l) ?_
            rintro _ h7 ⟨s7, rfl, n7, x7⟩
            have st := st.new x7 n7
            refine call_of (lits_Neg_c l) ?_
            rintro r h8 ⟨rfl, rfl⟩
            rw [negL_rt hl]
            refine call_of (without_c (hB.ext (st.frame (by simp))) (-l)) ?_
            rintro _ h9 ⟨s9, rfl, n9, x9⟩
            have st := st.new x9 n9
            refine call_of (union_c (st.own 0 rfl).rsl (st.own 1 rfl).rsl) ?_
            rintro _ h10 ⟨s10, rfl, n10, x10⟩
            have st := st.new x10 n10
            have e : resolveP c d l = unionP (withoutP c l).1 (withoutP d (-l)).1 := by unfold resolveP; rw [hr, hr2, hl, hh, hh2]; rfl
            exact hK _ _ ⟨s10, by rw [e], by rw [e]; exact st.res (by simp) 2 rfl, st.frame (by simp)⟩

end Go.Proofs.S
