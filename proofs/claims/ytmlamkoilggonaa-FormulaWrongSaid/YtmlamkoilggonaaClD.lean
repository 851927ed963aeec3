/-
  The package clauses: Norm, Has, Always, Same, Within, Without, Holds: contracts.
-/
import Derived.Test.YtmlamkoilggonaaClA
import Derived.Test.YtmlamkoilggonaaClQ
import Derived.Test.YtmlamkoilggonaaSxW3
set_option linter.unusedVariables false
namespace Go.Proofs.S
open Go Go.Sx Go.Proofs Go.Cl

variable {h : Heap} {c d : List Int} {s s2 : Sl} {fr : Fr} {G As : List Asn}

theorem index_clause (hA : At h (li c s)) (hl : c.length ≤ 1099511627776) (v : Int) : callT Try.prog fn_slices_Index_clauses_Clause_lits_Lit #[.slice s.a s.len s.cap, .int .i64 v] (.int .i64) (fun r h' => r = fidx (fun x => v == x) c ∧ h' = h) h :=
  callT_gen fun K hK => S_slices_Index_clauses_Clause_lits_Lit (a0 := s) (a1 := v) K (w_index (τ := i64) (eq := fun x => v == x) hA hl (hK _ _ ⟨rfl, rfl⟩))

theorem any_eq_contains (c : List Int) (v : Int) : c.any (fun x => v == x) = c.contains v := by
  rw [Bool.eq_iff_iff, List.any_eq_true, List.contains_iff_mem]
  exact ⟨fun ⟨x, hx, e⟩ => by simp at e; subst e; exact hx, fun hx => ⟨v, hx, by simp⟩⟩

theorem contains_clause (hA : At h (li c s)) (hl : c.length ≤ 1099511627776) (v : Int) : callT Try.prog fn_slices_Contains_clauses_Clause_lits_Lit #[.slice s.a s.len s.cap, .int .i64 v] .bool (fun r h' => r = c.contains v ∧ h' = h) h := by
  refine callT_gen fun K hK => S_slices_Contains_clauses_Clause_lits_Lit (a0 := s) (a1 := v) K ?_
  refine call_of (index_clause hA hl v) ?_
  rintro r h' ⟨rfl, rfl⟩
  exact hK _ _ ⟨by rw [fidx_ge, any_eq_contains], rfl⟩

theorem bne_iff' (x y : Int) : (x != y) = true ↔ x ≠ y := by simp
theorem equal_clause (hA : At h (li c s)) (hB : At h (li d s2)) (hl : c.length ≤ 1099511627776) : callT Try.prog fn_slices_Equal_clauses_Clause_lits_Lit #[.slice s.a s.len s.cap, .slice s2.a s2.len s2.cap] .bool (fun r h' => r = decide (c = d) ∧ h' = h) h :=
  callT_gen fun K hK => S_slices_Equal_clauses_Clause_lits_Lit (a0 := s) (a1 := s2) K (w_equal (τ := i64) (ne := fun x y => x != y) bne_iff' hA hB hl fun b hb => hK _ _ ⟨by rw [Bool.eq_iff_iff, hb]; simp, rfl⟩)
theorem always_c (hA : At h (li c s)) : callT Try.prog fn_clauses_Always #[.slice s.a s.len s.cap] .bool (fun r h' => r = (rightC c && alwaysC c) ∧ Ext [] h h') h := by
  refine callT_gen fun K hK => S_clauses_Always (a0 := s) K ?_
  unfold F_clauses_Always
  have st := Hs.start h [] (by simp)
  refine st.nw fun b0 h1 st => ?_
  refine call_of (right_c (hA.ext (st.frame (by simp)))) ?_
  rintro r h2 ⟨rfl, x2⟩
  have st := st.ext x2
  cases hr : rightC c with
  | false =>
    simp only [Bool.not_false, brB_true]
    refine st.st1 0 0 rfl (by simp) fun h3 st => ?_
    intro h4 hm
    have st := st.marked hm
    rw [st.ldb 0 0 rfl rfl]
    exact hK _ _ ⟨by simp [hr], st.frame (by simp)⟩
  | true =>
    simp only [Bool.not_true, brB_false]
    refine st.nw fun b3 h3 st => ?_
    refine st.st1 1 0 rfl (by simp) fun h4 st => ?_
    refine Hs.sorted st fun b h5 st => ?_
    have hA5 := hA.ext (st.frame (by simp))
    have kb := st.blk 2 rfl
    refine st.range (P := Try.prog) (τ := .cons i64 .nil) (nxL (nrm c)) (finL (nrm c)) (fun S hz hf => sorted_hit kb hA5 hr S) (fun _ _ _ _ => rfl)
      (fun pre Bs => ∃ last : Int, Bs = [cl b0 ty_bool [.bool false], cl b3 ty_lits_Lit [.int .i64 last], cl b ty_clauses_Clause [.slice s.a s.len s.cap]] ∧ ∀ L, pre.map (·.1) ++ L = nrm c → alwScan last L = alwaysC c)
      (fun j Bs => j = .ret ∧ alwaysC c = true ∧ ∃ last : Int, Bs = [cl b0 ty_bool [.bool true], cl b3 ty_lits_Lit [.int .i64 last], cl b ty_clauses_Clause [.slice s.a s.len s.cap]])
      ⟨0, rfl, fun L e => by have e : L = nrm c := e; rw [e]; exact alwScan_eq hr⟩ ?_ ?_ ?_ ?_
    · rintro pre ⟨x, ⟨⟩⟩ Bs B hb ⟨r, hr2⟩ ⟨last, rfl, hl⟩ st next jump hnext hjump
      have hx := hl _ hr2
      simp only [alwScan] at hx
      simp only
      rw [st.ldi 1 0 rfl rfl]
      by_cases h0 : last = 0
      · have e : (last != 0) = false := by simp [h0]
        rw [e, brB_false]
        refine st.st1 1 0 rfl (by simp) fun h6 st => ?_
        refine hnext _ _ ⟨x, rfl, fun L e => ?_⟩ st
        have e2 : L = r := by
          rw [List.map_append, List.append_assoc] at e
          have := List.append_cancel_left (e.trans hr2.symm)
          simpa using this
        rw [e2, ← hx, h0]; simp
      · have e : (last != 0) = true := by simp [h0]
        rw [e, brB_true, st.ldi 1 0 rfl rfl]
        refine call_of (lits_Neg_c last) ?_
        rintro r' h6 ⟨rfl, rfl⟩
        by_cases hn : x = negL last
        · have e : (x == negL last) = true := by simp [hn]
          rw [e, brB_true]
          refine st.st1 0 0 rfl (by simp) fun h7 st => ?_
          exact hjump .ret _ _ ⟨rfl, by rw [← hx]; simp [h0, hn], last, rfl⟩ st
        · have e : (x == negL last) = false := by simp [hn]
          rw [e, brB_false]
          refine st.st1 1 0 rfl (by simp) fun h7 st => ?_
          refine hnext _ _ ⟨x, rfl, fun L e => ?_⟩ st
          have e2 : L = r := by
            rw [List.map_append, List.append_assoc] at e
            have := List.append_cancel_left (e.trans hr2.symm)
            simpa using this
          rw [e2, ← hx]; simp [hn]
    · rintro pre Bs h6 hf ⟨last, rfl, hl⟩ st
      have hf0 : alwaysC c = false := by
        rw [← hl [] (by rw [List.append_nil]; exact hf)]; rfl
      refine st.st1 0 0 rfl (by simp) fun h7 st => ?_
      intro h8 hm
      have st := st.marked hm
      rw [st.ldb 0 0 rfl rfl]
      exact hK _ _ ⟨by simp [hf0], st.frame (by simp)⟩
    · rintro Bs h6 ⟨_, ha, last, rfl⟩ st
      intro h8 hm
      have st := st.marked hm
      rw [st.ldb 0 0 rfl rfl]
      exact hK _ _ ⟨by simp [hr, ha], st.frame (by simp)⟩
    · intro i id Kx hi; simp at hi

theorem norm_c (hA : At h (li c s)) : callT Try.prog fn_clauses_Norm #[.slice s.a s.len s.cap] (.tup (.cons .sl (.cons .bool (.cons (.int .i64) .nil))))
    (fun r h' => ∃ s', r = (s', (normP c).2.1, (normP c).2.2, ()) ∧ New h.size h' (lo (normP c).1 s') ∧ Ext [] h h') h := by
  refine callT_gen fun K hK => S_clauses_Norm (a0 := s) K ?_
  unfold F_clauses_Norm
  refine call_of (right_c hA) ?_
  rintro r h1 ⟨rfl, x1⟩
  cases hr : rightC c with
  | false =>
    simp only [Bool.not_false, brB_true]
    exact hK _ _ ⟨⟨none, 0, 0⟩, by simp [normP, hr], by simp only [normP, hr]; exact osl_nil _ _, x1⟩
  | true =>
    simp only [Bool.not_true, brB_false]
    refine call_of (normal_c (hA.ext x1) hr) ?_
    rintro s' h2 ⟨hn, x2⟩
    refine call_of (always_c ((hA.ext x1).ext x2)) ?_
    rintro r h3 ⟨rfl, x3⟩
    exact hK _ _ ⟨s', by simp [normP, hr], by simp only [normP, hr]; exact (hn.mono x1.1).ext x3, (x1.nil_trans x2).nil_trans x3⟩

end Go.Proofs.S

/-
  The package clauses: Without, Holds, Within, Clashes, Normal: contracts.
-/
set_option linter.unusedVariables false
namespace Go.Proofs.S
open Go Go.Sx Go.Proofs Go.Cl

variable {h : Heap} {c d : List Int} {s s2 : Sl} {fr : Fr} {G As : List Asn}

theorem delete_c {S1 : List Nat} {fv : Value} {q : Int → Bool} (p : (lo c s).P S1 h) (hl : c.length ≤ 1099511627776) (hc : ∀ h', Ext S1 h h' → ∀ x ∈ c, callF Try.prog fv #[.int .i64 x] .bool (fun r h2 => r = q x ∧ Ext [] h' h2) h') :
    callT Try.prog fn_slices_DeleteFunc_clauses_Clause_lits_Lit #[.slice s.a s.len s.cap, fv] .sl (fun s' h' => (lo (c.filter (fun x => !q x)) s').P S1 h' ∧ Ext S1 h h') h :=
  callT_gen fun K hK => S_slices_DeleteFunc_clauses_Clause_lits_Lit (a0 := s) (a1 := fv) K
    (w_delete (P := Try.prog) (τ := i64) (t := ty_lits_Lit) (fi := fn_slices_IndexFunc_clauses_Clause_lits_Lit) (p := q) p hl rfl leaf_int (fun K hW => S_slices_IndexFunc_clauses_Clause_lits_Lit (a0 := s) (a1 := fv) K hW) hc fun s' h' a b => hK _ _ ⟨a, b⟩)

theorem not_mem_take_succ {d : List Int} {i : Nat} {x : Int} (hi : i < d.length) (hp : x ∉ d.take i) (he : ¬ x = d[i]) : x ∉ d.take (i + 1) := by
  rw [take_succ_getE hi, List.mem_append]; rintro (k | k)
  · exact hp k
  · exact he (by simpa using k)
theorem any_con_f {c d : List Int} (hn : ∀ x ∈ c, x ∉ d) : (c.any fun x => d.contains x) = false := by
  rw [List.any_eq_false]; intro x hx; simpa using hn x hx
theorem any_con_t {c d : List Int} {x : Int} (hx : x ∈ c) (hd : x ∈ d) : (c.any fun x => d.contains x) = true := List.any_eq_true.2 ⟨x, hx, by simpa using hd⟩
theorem all_con_t {c d : List Int} (hn : ∀ x ∈ c, x ∈ d) : (c.all fun x => d.contains x) = true := by
  rw [List.all_eq_true]; intro x hx; simpa using hn x hx
theorem all_con_f {c d : List Int} {x : Int} (hx : x ∈ c) (hd : x ∉ d) : (c.all fun x => d.contains x) = false := List.all_eq_false.2 ⟨x, hx, by simpa using hd⟩
theorem mem_snoc1 {A : List Int} {x y : Int} (h : y ∈ A ++ [x]) : y ∈ A ∨ y = x := by simpa using h
theorem pre_snoc {pre : List (Int × Unit)} {x : Int} : (pre ++ [(x, ())]).map (·.1) = pre.map (·.1) ++ [x] := by simp
theorem filter_snoc {A : List Int} {x : Int} {p : Int → Bool} : (A ++ [x]).filter p = A.filter p ++ (if p x then [x] else []) := by
  rw [List.filter_append]; cases h : p x <;> simp [h]

end Go.Proofs.S

/-
  The package clauses: Compare, Union, Resolve: contracts.
-/
set_option linter.unusedVariables false
namespace Go.Proofs.S
open Go Go.Sx Go.Proofs Go.Cl

variable {h : Heap} {c d : List Int} {s s2 : Sl} {fr : Fr} {G As : List Asn}

theorem or2_c {b : Nat} {t0 : TypeId} {x y : Int} (kb : Blk h b t0 [.int .i64 x, .int .i64 y]) : callT Try.prog fn_cmp_Or_int #[.slice (some ⟨b, 0, none⟩) 2 2] (.int .i64) (fun r h' => r = orP [x, y] ∧ h' = h) h := by
  refine callT_gen fun K hK => S_cmp_Or_int (a0 := ⟨some ⟨b, 0, none⟩, 2, 2⟩) K ?_
  have hp : At h (rsl i64.enc [x, y] ⟨some ⟨b, 0, none⟩, 2, 2⟩) := ⟨[b], osl_rsl (t := t0) (.inl ⟨b, [], rfl, rfl, kb⟩)⟩
  exact w_or hp (by simp) (hK _ _ ⟨rfl, rfl⟩)

theorem comparefunc_c (hA : At h (li c s)) (hB : At h (li d s2)) (hl : c.length ≤ 1099511627776) :
    callT Try.prog fn_slices_CompareFunc_clauses_Clause_clauses_Clause_lits_Lit_lits_Lit #[.slice s.a s.len s.cap, .slice s2.a s2.len s2.cap, .func (.func fn_lits_Compare) #[] #[]] (.int .i64) (fun r h' => r = cmpL cmpLit c d ∧ Ext [] h h') h :=
  callT_gen fun K hK => S_slices_CompareFunc_clauses_Clause_clauses_Clause_lits_Lit_lits_Lit (a0 := s) (a1 := s2) (a2 := .func (.func fn_lits_Compare) #[] #[]) K
    (w_compareFunc (P := Try.prog) (τ := i64) (c := cmpLit) hA hB hl (fun x hx y hy h' _ => callF_of (compareF x y) fun r h2 ⟨e, e2⟩ => ⟨e, by rw [e2]; exact Ext.refl' _ _⟩) fun h' x => hK _ _ ⟨rfl, x⟩)

theorem compare_c (hA : At h (li c s)) (hB : At h (li d s2)) : callT Try.prog fn_clauses_Compare #[.slice s.a s.len s.cap, .slice s2.a s2.len s2.cap] (.int .i64) (fun r h' => r = compareP c d ∧ Ext [] h h') h := by
  refine callT_gen fun K hK => S_clauses_Compare (a0 := s) (a1 := s2) K ?_
  unfold F_clauses_Compare
  have st := Hs.start h [] (by simp)
  refine call_of (right_c hA) ?_
  rintro r h2 ⟨rfl, x2⟩
  have st := st.ext x2
  cases hr : rightC c with
  | false => simp only [Bool.not_false, brB_true]; exact hK _ _ ⟨by simp [compareP, hr], st.frame (by simp)⟩
  | true =>
    simp only [Bool.not_true, brB_false]
    refine call_of (right_c (hB.ext (st.frame (by simp)))) ?_
    rintro r h3 ⟨rfl, x3⟩
    have st := st.ext x3
    cases hr2 : rightC d with
    | false => simp only [Bool.not_false, brB_true]; exact hK _ _ ⟨by simp [compareP, hr2], st.frame (by simp)⟩
    | true =>
      simp only [Bool.not_true, brB_false]
      refine call_of (normal_c (hA.ext (st.frame (by simp))) hr) ?_
      rintro s4 h4 ⟨n4, x4⟩
      have st := st.new x4 n4
      refine call_of (normal_c (hB.ext (st.frame (by simp))) hr2) ?_
      rintro s5 h5 ⟨n5, x5⟩
      have st := st.new x5 n5
      refine call_of (cmp_int_c _ _) ?_
      rintro r6 h6 ⟨rfl, rfl⟩
      refine call_of (comparefunc_c (st.own 0 rfl).rsl (st.own 1 rfl).rsl (by have := nrm_length c; have := rightC_len hr; omega)) ?_
      rintro r7 h7 ⟨rfl, x7⟩
      have st := st.ext x7
      refine st.nw fun b8 h8 st => ?_
      refine call_of (or2_c (st.blk 2 rfl)) ?_
      rintro r9 h9 ⟨rfl, rfl⟩
      refine hK _ _ ⟨?_, st.frame (by simp)⟩
      rw [osl_len (st.own 0 rfl), osl_len (st.own 1 rfl)]
      simp only [compareP, hr, hr2, orP, Bool.and_self, if_true]
      split
      · rfl
      · split
        · rfl
        · rename_i h1 h2; simp at h2; rw [h2]

end Go.Proofs.S
