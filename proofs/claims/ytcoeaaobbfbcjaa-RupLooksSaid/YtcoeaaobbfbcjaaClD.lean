/-
  The package clauses: Norm, Has, Always, Same, Within, Without, Holds: contracts.
-/
import Derived.Test.YtcoeaaobbfbcjaaClC
set_option linter.unusedVariables false
namespace Go.Proofs.S
open Go Go.Sx Go.Proofs Go.Cl

variable {h : Heap} {c d : List Int} {s s2 : Sl} {fr : Fr} {G As : List Asn}

theorem index_clause (hA : At h (li c s)) (hl : c.length ≤ 1099511627776) (v : Int) : callT Try.prog fn_slices_Index_clauses_Clause_lits_Lit #[.slice s.a s.len s.cap, .int .i64 v] (.int .i64) (fun r h' => r = fidx (fun x => v == x) c ∧ h' = h) h :=
  callT_gen fun K hK => S_slices_Index_clauses_Clause_lits_Lit (a0 := s) (a1 := v) K (w_index (τ := i64) (eq := fun x => v == x) hA hl (hK _ _ ⟨rfl, rfl⟩))

theorem any_eq_contains (c : List Int) (v : Int) : c.any (fun x => v == x) = c.contains v := by
  rw [Bool.eq_iff_iff, List.any_eq_true, List.contains_iff_mem]
  exact ⟨fun ⟨x, hx, e⟩ => by simp at e; subst e; exact hx, fun hx => ⟨v, hx, by simp⟩⟩

theorem contains_clause (hA : At h (li c s)) (hl : c.length ≤ 1099511627776) (v : Int) : callT Try.prog fn_slices_Contains_clauses_Clause_lits_Lit #[.slice s.a s.len s.cap, .int .i64 v] .bool (fun r h' => r = c.contains v ∧ h' = h) h := by
  refine callT_gen fun K hK => S_slices_Contains_clauses_Clause_lits_Lit (a0 := s) (a1 := v) K ?_
  refine call_of (index_clause hA hl v) ?_
  rintro r h' ⟨rfl, rfl⟩
  exact hK _ _ ⟨by rw [fidx_ge, any_eq_contains], rfl⟩

theorem index_lit (hA : At h (li c s)) (hl : c.length ≤ 1099511627776) (v : Int) : callT Try.prog fn_slices_Index_lits_Lit_lits_Lit #[.slice s.a s.len s.cap, .int .i64 v] (.int .i64) (fun r h' => r = fidx (fun x => v == x) c ∧ h' = h) h :=
  callT_gen fun K hK => S_slices_Index_lits_Lit_lits_Lit (a0 := s) (a1 := v) K (w_index (τ := i64) (eq := fun x => v == x) hA hl (hK _ _ ⟨rfl, rfl⟩))

theorem contains_lit (hA : At h (li c s)) (hl : c.length ≤ 1099511627776) (v : Int) : callT Try.prog fn_slices_Contains_lits_Lit_lits_Lit #[.slice s.a s.len s.cap, .int .i64 v] .bool (fun r h' => r = c.contains v ∧ h' = h) h := by
  refine callT_gen fun K hK => S_slices_Contains_lits_Lit_lits_Lit (a0 := s) (a1 := v) K ?_
  refine call_of (index_lit hA hl v) ?_
  rintro r h' ⟨rfl, rfl⟩
  exact hK _ _ ⟨by rw [fidx_ge, any_eq_contains], rfl⟩

theorem bne_iff' (x y : Int) : (x != y) = true ↔ x ≠ y := by simp
theorem equal_clause (hA : At h (li c s)) (hB : At h (li d s2)) (hl : c.length ≤ 1099511627776) : callT Try.prog fn_slices_Equal_clauses_Clause_lits_Lit #[.slice s.a s.len s.cap, .slice s2.a s2.len s2.cap] .bool (fun r h' => r = decide (c = d) ∧ h' = h) h :=
  callT_gen fun K hK => S_slices_Equal_clauses_Clause_lits_Lit (a0 := s) (a1 := s2) K (w_equal (τ := i64) (ne := fun x y => x != y) bne_iff' hA hB hl fun b hb => hK _ _ ⟨by rw [Bool.eq_iff_iff, hb]; simp, rfl⟩)
theorem equal_lit (hA : At h (li c s)) (hB : At h (li d s2)) (hl : c.length ≤ 1099511627776) : callT Try.prog fn_slices_Equal_lits_Lit_lits_Lit #[.slice s.a s.len s.cap, .slice s2.a s2.len s2.cap] .bool (fun r h' => r = decide (c = d) ∧ h' = h) h :=
  callT_gen fun K hK => S_slices_Equal_lits_Lit_lits_Lit (a0 := s) (a1 := s2) K (w_equal (τ := i64) (ne := fun x y => x != y) bne_iff' hA hB hl fun b hb => hK _ _ ⟨by rw [Bool.eq_iff_iff, hb]; simp, rfl⟩)
theorem equal_int (hA : At h (li c s)) (hB : At h (li d s2)) (hl : c.length ≤ 1099511627776) : callT Try.prog fn_slices_Equal_int_int #[.slice s.a s.len s.cap, .slice s2.a s2.len s2.cap] .bool (fun r h' => r = decide (c = d) ∧ h' = h) h :=
  callT_gen fun K hK => S_slices_Equal_int_int (a0 := s) (a1 := s2) K (w_equal (τ := i64) (ne := fun x y => x != y) bne_iff' hA hB hl fun b hb => hK _ _ ⟨by rw [Bool.eq_iff_iff, hb]; simp, rfl⟩)

theorem has_c (hA : At h (li c s)) (l : Int) : callT Try.prog fn_clauses_Has #[.slice s.a s.len s.cap, .int .i64 l] .bool (fun r h' => r = hasC c l ∧ Ext [] h h') h := by
  refine callT_gen fun K hK => S_clauses_Has (a0 := s) (a1 := l) K ?_
  unfold F_clauses_Has
  refine call_of (right_c hA) ?_
  rintro r h1 ⟨rfl, x1⟩
  cases hr : rightC c with
  | true =>
    simp only [brB_true]
    refine call_of (contains_clause (hA.ext x1) (by have := rightC_len hr; omega) l) ?_
    rintro r h2 ⟨rfl, rfl⟩
    exact hK _ _ ⟨by simp [hasC, hr], x1⟩
  | false =>
    simp only [brB_false]
    exact hK _ _ ⟨by simp [hasC, hr], x1⟩

theorem always_c (hA : At h (li c s)) : callT Try.prog fn_clauses_Always #[.slice s.a s.len s.cap] .bool (fun r h' => r = (rightC c && alwaysC c) ∧ Ext [] h h') h := by
  refine callT_gen fun K hK => S_clauses_Always (a0 := s) K ?_
  unfold F_clauses_Always
  have st := Hs.start h [] (by simp)
  refine st.nw fun b0 h1 st => ?_
  refine call_of (right_c (hA.ext (st.frame (by simp)))) ?_
  rintro r h2 ⟨rfl, x2⟩
  have st := st.ext x2
  cases hr : rightC c with
  | false =>
    simp only [Bool.not_false, brB_true]
    refine st.st1 0 0 rfl (by simp) fun h3 st => ?_
    intro h4 hm
    have st := st.marked hm
    rw [st.ldb 0 0 rfl rfl]
    exact hK _ _ ⟨by simp [hr], st.frame (by simp)⟩
  | true =>
    simp only [Bool.not_true, brB_false]
    refine st.nw fun b3 h3 st => ?_
    refine st.st1 1 0 rfl (by simp) fun h4 st => ?_
    refine Hs.sorted st fun b h5 st => ?_
    have hA5 := hA.ext (st.frame (by simp))
    have kb := st.blk 2 rfl
    refine st.range (P := Try.prog) (τ := .cons i64 .nil) (nxL (nrm c)) (finL (nrm c)) (fun S hz hf => sorted_hit kb hA5 hr S) (fun _ _ _ _ => rfl)
      (fun pre Bs => ∃ last : Int, Bs = [cl b0 ty_bool [.bool false], cl b3 ty_lits_Lit [.int .i64 last], cl b ty_clauses_Clause [.slice s.a s.len s.cap]] ∧ ∀ L, pre.map (·.1) ++ L = nrm c → alwScan last L = alwaysC c)
      (fun j Bs => j = .ret ∧ alwaysC c = true ∧ ∃ last : Int, Bs = [cl b0 ty_bool [.bool true], cl b3 ty_lits_Lit [.int .i64 last], cl b ty_clauses_Clause [.slice s.a s.len s.cap]])
      ⟨0, rfl, fun L e => by have e : L = nrm c := e; rw [e]; exact alwScan_eq hr⟩ ?_ ?_ ?_ ?_
    · rintro pre ⟨x, ⟨⟩⟩ Bs B hb ⟨r, hr2⟩ ⟨last, rfl, hl⟩ st next jump hnext hjump
      have hx := hl _ hr2
      simp only [alwScan] at hx
      simp only
      rw [st.ldi 1 0 rfl rfl]
      by_cases h0 : last = 0
      · have e : (last != 0) = false := by simp [h0]
        rw [e, brB_false]
        refine st.st1 1 0 rfl (by simp) fun h6 st => ?_
        refine hnext _ _ ⟨x, rfl, fun L e => ?_⟩ st
        have e2 : L = r := by
          rw [List.map_append, List.append_assoc] at e
          have := List.append_cancel_left (e.trans hr2.symm)
          simpa using this
        rw [e2, ← hx, h0]; simp
      · have e : (last != 0) = true := by simp [h0]
        rw [e, brB_true, st.ldi 1 0 rfl rfl]
        refine call_of (lits_Neg_c last) ?_
        rintro r' h6 ⟨rfl, rfl⟩
        by_cases hn : x = negL last
        · have e : (x == negL last) = true := by simp [hn]
          rw [e, brB_true]
          refine st.st1 0 0 rfl (by simp) fun h7 st => ?_
          exact hjump .ret _ _ ⟨rfl, by rw [← hx]; simp [h0, hn], last, rfl⟩ st
        · have e : (x == negL last) = false := by simp [hn]
          rw [e, brB_false]
          refine st.st1 1 0 rfl (by simp) fun h7 st => ?_
          refine hnext _ _ ⟨x, rfl, fun L e => ?_⟩ st
          have e2 : L = r := by
            rw [List.map_append, List.append_assoc] at e
            have := List.append_cancel_left (e.trans hr2.symm)
            simpa using this
          rw [e2, ← hx]; simp [hn]
    · rintro pre Bs h6 hf ⟨last, rfl, hl⟩ st
      have hf0 : alwaysC c = false := by
        rw [← hl [] (by rw [List.append_nil]; exact hf)]; rfl
      refine st.st1 0 0 rfl (by simp) fun h7 st => ?_
      intro h8 hm
      have st := st.marked hm
      rw [st.ldb 0 0 rfl rfl]
      exact hK _ _ ⟨by simp [hf0], st.frame (by simp)⟩
    · rintro Bs h6 ⟨_, ha, last, rfl⟩ st
      intro h8 hm
      have st := st.marked hm
      rw [st.ldb 0 0 rfl rfl]
      exact hK _ _ ⟨by simp [hr, ha], st.frame (by simp)⟩
    · intro i id Kx hi; simp at hi

theorem norm_c (hA : At h (li c s)) : callT Try.prog fn_clauses_Norm #[.slice s.a s.len s.cap] (.tup (.cons .sl (.cons .bool (.cons (.int .i64) .nil))))
    (fun r h' => ∃ s', r = (s', (normP c).2.1, (normP c).2.2, ()) ∧ New h.size h' (lo (normP c).1 s') ∧ Ext [] h h') h := by
  refine callT_gen fun K hK => S_clauses_Norm (a0 := s) K ?_
  unfold F_clauses_Norm
  refine call_of (right_c hA) ?_
  rintro r h1 ⟨rfl, x1⟩
  cases hr : rightC c with
  | false =>
    simp only [Bool.not_false, brB_true]
    exact hK _ _ ⟨⟨none, 0, 0⟩, by simp [normP, hr], by simp only [normP, hr]; exact osl_nil _ _, x1⟩
  | true =>
    simp only [Bool.not_true, brB_false]
    refine call_of (normal_c (hA.ext x1) hr) ?_
    rintro s' h2 ⟨hn, x2⟩
    refine call_of (always_c ((hA.ext x1).ext x2)) ?_
    rintro r h3 ⟨rfl, x3⟩
    exact hK _ _ ⟨s', by simp [normP, hr], by simp only [normP, hr]; exact (hn.mono x1.1).ext x3, (x1.nil_trans x2).nil_trans x3⟩

end Go.Proofs.S

/-
  The package clauses: Without, Holds, Within, Clashes, Normal: contracts.
-/
set_option linter.unusedVariables false
namespace Go.Proofs.S
open Go Go.Sx Go.Proofs Go.Cl

variable {h : Heap} {c d : List Int} {s s2 : Sl} {fr : Fr} {G As : List Asn}

theorem not_mem_take_succ {d : List Int} {i : Nat} {x : Int} (hi : i < d.length) (hp : x ∉ d.take i) (he : ¬ x = d[i]) : x ∉ d.take (i + 1) := by
  rw [take_succ_getE hi, List.mem_append]; rintro (k | k)
  · exact hp k
  · exact he (by simpa using k)
theorem any_con_f {c d : List Int} (hn : ∀ x ∈ c, x ∉ d) : (c.any fun x => d.contains x) = false := by
  rw [List.any_eq_false]; intro x hx; simpa using hn x hx
theorem any_con_t {c d : List Int} {x : Int} (hx : x ∈ c) (hd : x ∈ d) : (c.any fun x => d.contains x) = true := List.any_eq_true.2 ⟨x, hx, by simpa using hd⟩
theorem all_con_t {c d : List Int} (hn : ∀ x ∈ c, x ∈ d) : (c.all fun x => d.contains x) = true := by
  rw [List.all_eq_true]; intro x hx; simpa using hn x hx
theorem all_con_f {c d : List Int} {x : Int} (hx : x ∈ c) (hd : x ∉ d) : (c.all fun x => d.contains x) = false := List.all_eq_false.2 ⟨x, hx, by simpa using hd⟩
theorem mem_snoc1 {A : List Int} {x y : Int} (h : y ∈ A ++ [x]) : y ∈ A ∨ y = x := by simpa using h
theorem pre_snoc {pre : List (Int × Unit)} {x : Int} : (pre ++ [(x, ())]).map (·.1) = pre.map (·.1) ++ [x] := by simp
theorem filter_snoc {A : List Int} {x : Int} {p : Int → Bool} : (A ++ [x]).filter p = A.filter p ++ (if p x then [x] else []) := by
  rw [List.filter_append]; cases h : p x <;> simp [h]

end Go.Proofs.S
