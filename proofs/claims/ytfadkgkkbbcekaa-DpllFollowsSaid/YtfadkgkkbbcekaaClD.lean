/-
  The package clauses: Norm, Has, Always, Same, Within, Without, Holds: contracts.
-/
import Derived.Test.YtfadkgkkbbcekaaClA
set_option linter.unusedVariables false
namespace Go.Proofs.S
open Go Go.Sx Go.Proofs Go.Cl

variable {h : Heap} {c d : List Int} {s s2 : Sl} {fr : Fr} {G As : List Asn}

theorem index_clause (hA : At h (li c s)) (hl : c.length ≤ 1099511627776) (v : Int) : callT Try.prog fn_slices_Index_clauses_Clause_lits_Lit #[.slice s.a s.len s.cap, .int .i64 v] (.int .i64) (fun r h' => r = fidx (fun x => v == x) c ∧ h' = h) h :=
  callT_gen fun K hK => S_slices_Index_clauses_Clause_lits_Lit (a0 := s) (a1 := v) K (w_index (τ := i64) (eq := fun x => v == x) hA hl (hK _ _ ⟨rfl, rfl⟩))

theorem any_eq_contains (c : List Int) (v : Int) : c.any (fun x => v == x) = c.contains v := by
  rw [Bool.eq_iff_iff, List.any_eq_true, List.contains_iff_mem]
  exact ⟨fun ⟨x, hx, e⟩ => by simp at e; subst e; exact hx, fun hx => ⟨v, hx, by simp⟩⟩

theorem contains_clause (hA : At h (li c s)) (hl : c.length ≤ 1099511627776) (v : Int) : callT Try.prog fn_slices_Contains_clauses_Clause_lits_Lit #[.slice s.a s.len s.cap, .int .i64 v] .bool (fun r h' => r = c.contains v ∧ h' = h) h := by
  refine callT_gen fun K hK => S_slices_Contains_clauses_Clause_lits_Lit (a0 := s) (a1 := v) K ?_
  refine call_of (index_clause hA hl v) ?_
  rintro r h' ⟨rfl, rfl⟩
  exact hK _ _ ⟨by rw [fidx_ge, any_eq_contains], rfl⟩

theorem index_lit (hA : At h (li c s)) (hl : c.length ≤ 1099511627776) (v : Int) : callT Try.prog fn_slices_Index_lits_Lit_lits_Lit #[.slice s.a s.len s.cap, .int .i64 v] (.int .i64) (fun r h' => r = fidx (fun x => v == x) c ∧ h' = h) h :=
  callT_gen fun K hK => S_slices_Index_lits_Lit_lits_Lit (a0 := s) (a1 := v) K (w_index (τ := i64) (eq := fun x => v == x) hA hl (hK _ _ ⟨rfl, rfl⟩))

theorem contains_lit (hA : At h (li c s)) (hl : c.length ≤ 1099511627776) (v : Int) : callT Try.prog fn_slices_Contains_lits_Lit_lits_Lit #[.slice s.a s.len s.cap, .int .i64 v] .bool (fun r h' => r = c.contains v ∧ h' = h) h := by
  refine callT_gen fun K hK => S_slices_Contains_lits_Lit_lits_Lit (a0 := s) (a1 := v) K ?_
  refine call_of (index_lit hA hl v) ?_
  rintro r h' ⟨rfl, rfl⟩
  exact hK _ _ ⟨by rw [fidx_ge, any_eq_contains], rfl⟩

theorem bne_iff' (x y : Int) : (x != y) = true ↔ x ≠ y := by simp
theorem equal_lit (hA : At h (li c s)) (hB : At h (li d s2)) (hl : c.length ≤ 1099511627776) : callT Try.prog fn_slices_Equal_lits_Lit_lits_Lit #[.slice s.a s.len s.cap, .slice s2.a s2.len s2.cap] .bool (fun r h' => r = decide (c = d) ∧ h' = h) h :=
  callT_gen fun K hK => S_slices_Equal_lits_Lit_lits_Lit (a0 := s) (a1 := s2) K (w_equal (τ := i64) (ne := fun x y => x != y) bne_iff' hA hB hl fun b hb => hK _ _ ⟨by rw [Bool.eq_iff_iff, hb]; simp, rfl⟩)
theorem equal_int (hA : At h (li c s)) (hB : At h (li d s2)) (hl : c.length ≤ 1099511627776) : callT Try.prog fn_slices_Equal_int_int #[.slice s.a s.len s.cap, .slice s2.a s2.len s2.cap] .bool (fun r h' => r = decide (c = d) ∧ h' = h) h :=
  callT_gen fun K hK => S_slices_Equal_int_int (a0 := s) (a1 := s2) K (w_equal (τ := i64) (ne := fun x y => x != y) bne_iff' hA hB hl fun b hb => hK _ _ ⟨by rw [Bool.eq_iff_iff, hb]; simp, rfl⟩)

theorem has_c (hA : At h (li c s)) (l : Int) : callT Try.prog fn_clauses_Has #[.slice s.a s.len s.cap, .int .i64 l] .bool (fun r h' => r = hasC c l ∧ Ext [] h h') h := by
  refine callT_gen fun K hK => S_clauses_Has (a0 := s) (a1 := l) K ?_
  unfold F_clauses_Has
  refine call_of (right_c hA) ?_
  rintro r h1 ⟨rfl, x1⟩
  cases hr : rightC c with
  | true =>
    simp only [brB_true]
    refine call_of (contains_clause (hA.ext x1) (by have := rightC_len hr; omega) l) ?_
    rintro r h2 ⟨rfl, rfl⟩
    exact hK _ _ ⟨by simp [hasC, hr], x1⟩
  | false =>
    simp only [brB_false]
    exact hK _ _ ⟨by simp [hasC, hr], x1⟩

theorem always_c (hA : At h (li c s)) : callT Try.prog fn_clauses_Always #[.slice s.a s.len s.cap] .bool (fun r h' => r = (rightC c && alwaysC c) ∧ Ext [] h h') h := by
  refine callT_gen fun K hK => S_clauses_Always (a0 := s) K ?_
  unfold F_clauses_Always
  have st := Hs.start h [] (by simp)
  refine st.nw fun b0 h1 st => ?_
  refine call_of (right_c (hA.ext (st.frame (by simp)))) ?_
  rintro r h2 ⟨rfl, x2⟩
  have st := st.ext x2
  cases hr : rightC c with
  | false =>
    simp only [Bool.not_false, brB_true]
    refine st.st1 0 0 rfl (by simp) fun h3 st => ?_
    intro h4 hm
    have st := st.marked hm
    rw [st.ldb 0 0 rfl rfl]
    exact hK _ _ ⟨by simp [hr], st.frame (by simp)⟩
  | true =>
    simp only [Bool.not_true, brB_false]
    refine st.nw fun b3 h3 st => ?_
    refine st.st1 1 0 rfl (by simp) fun h4 st => ?_
    refine Hs.sorted st fun b h5 st => ?_
    have hA5 := hA.ext (st.frame (by simp))
    have kb := st.blk 2 rfl
    refine st.range (P := Try.prog) (τ := .cons i64 .nil) (nxL (nrm c)) (finL (nrm c)) (fun S hz hf => sorted_hit kb hA5 hr S) (fun _ _ _ _ => rfl)
      (fun pre Bs => ∃ last : Int, Bs = [cl b0 ty_bool [.bool false], cl b3 ty_lits_Lit [.int .i64 last], cl b ty_clauses_Clause [.slice s.a s.len s.cap]] ∧ ∀ L, pre.map (·.1) ++ L = nrm c → alwScan last L = alwaysC c)
      (fun j Bs => j = .ret ∧ alwaysC c = true ∧ ∃ last : Int, Bs = [cl b0 ty_bool [.bool true], cl b3 ty_lits_Lit [.int .i64 last], cl b ty_clauses_Clause [.slice s.a s.len s.cap]])
      ⟨0, rfl, fun L e => by have e : L = nrm c := e; rw [e]; exact alwScan_eq hr⟩ ?_ ?_ ?_ ?_
    · rintro pre ⟨x, ⟨⟩⟩ Bs B hb ⟨r, hr2⟩ ⟨last, rfl, hl⟩ st next jump hnext hjump
      have hx := hl _ hr2
      simp only [alwScan] at hx
      simp only
      rw [st.ldi 1 0 rfl rfl]
      by_cases h0 : last = 0
      · have e : (last != 0) = false := by simp [h0]
        rw [e, brB_false]
        refine st.st1 1 0 rfl (by simp) fun h6 st => ?_
        refine hnext _ _ ⟨x, rfl, fun L e => ?_⟩ st
        have e2 : L = r := by
          rw [List.map_append, List.append_assoc] at e
          have := List.append_cancel_left (e.trans hr2.symm)
          simpa using this
        rw [e2, ← hx, h0]; simp
      · have e : (last != 0) = true := by simp [h0]
        rw [e, brB_true, st.ldi 1 0 rfl rfl]
        refine call_of (lits_Neg_c last) ?_
        rintro r' h6 ⟨rfl, rfl⟩
        by_cases hn : x = negL last
        · have e : (x == negL last) = true := by simp [hn]
          rw [e, brB_true]
          refine st.st1 0 0 rfl (by simp) fun h7 st => ?_
          exact hjump .ret _ _ ⟨rfl, by rw [← hx]; simp [h0, hn], last, rfl⟩ st
        · have e : (x == negL last) = false := by simp [hn]
          rw [e, brB_false]
          refine st.st1 1 0 rfl (by simp) fun h7 st => ?_
          refine hnext _ _ ⟨x, rfl, fun L e => ?_⟩ st
          have e2 : L = r := by
            rw [List.map_append, List.append_assoc] at e
            have := List.append_cancel_left (e.trans hr2.symm)
            simpa using this
          rw [e2, ← hx]; simp [hn]
    · rintro pre Bs h6 hf ⟨last, rfl, hl⟩ st
      have hf0 : alwaysC c = false := by
        rw [← hl [] (by rw [List.append_nil]; exact hf)]; rfl
      refine st.st1 0 0 rfl (by simp) fun h7 st => ?_
      intro h8 hm
      have st := st.marked hm
      rw [st.ldb 0 0 rfl rfl]
      exact hK _ _ ⟨by simp [hf0], st.frame (by simp)⟩
    · rintro Bs h6 ⟨_, ha, last, rfl⟩ st
      intro h8 hm
      have st := st.marked hm
      rw [st.ldb 0 0 rfl rfl]
      exact hK _ _ ⟨by simp [hr, ha], st.frame (by simp)⟩
    · intro i id Kx hi; simp at hi

theorem bs_c (hA : At h (li c s)) (hs : Strict c) (hl : c.length ≤ 4096) (v : Int) :
    callT Try.prog fn_slices_BinarySearchFunc_clauses_Clause_lits_Lit_lits_Lit #[.slice s.a s.len s.cap, .int .i64 v, .func (.func fn_lits_Compare) #[] #[]] (.tup (.cons (.int .i64) (.cons .bool .nil)))
      (fun r h' => r.2.1 = c.contains v ∧ Ext [] h h') h := by
  have hget : ∀ i j (hj : j < c.length) (hij : i < j), ltL (c[i]'(by omega)) c[j] = true := fun i j hj hij => List.pairwise_iff_getElem.1 hs i j (by omega) hj hij
  refine callT_gen fun K hK => S_slices_BinarySearchFunc_clauses_Clause_lits_Lit_lits_Lit (a0 := s) (a1 := v) (a2 := .func (.func fn_lits_Compare) #[] #[]) K ?_
  refine w_bsearch (P := Try.prog) (τ := i64) (σ2 := i64) (c := fun x => cmpLit x v) hA (by omega) (fun x hx h' x' => callF_of (compareF x v) fun r h2 ⟨e, e2⟩ => ⟨e, by rw [e2]; exact Ext.refl' _ _⟩) ?_ ?_
  · intro i j hj hij hc
    have h1 : ltL c[j] v = true := by simp [ltL, hc]
    have := ltL_trans (hget i j hj hij) h1
    simpa [ltL] using this
  · intro i b h' x hi hlo hhi hb
    refine hK _ _ ⟨?_, x⟩
    show b = c.contains v
    rw [Bool.eq_iff_iff, hb, List.contains_iff_mem]
    constructor
    · rintro ⟨hil, e⟩
      rw [← cmpLit_zero.1 e]; exact List.getElem_mem hil
    · intro hm
      obtain ⟨p, hp, e⟩ := List.mem_iff_getElem.1 hm
      have h0 : cmpLit c[p] v = 0 := cmpLit_zero.2 e
      have hip : i ≤ p := by
        rcases Nat.lt_or_ge p i with k | k
        · have := hlo p hp k; omega
        · exact k
      rcases Nat.lt_or_eq_of_le hip with k | k
      · have := hget i p hp k
        rw [e] at this
        have h2 : cmpLit (c[i]'(by omega)) v < 0 := by simpa [ltL] using this
        exact absurd h2 (hhi i (by omega) (Nat.le_refl _))
      · subst k; exact ⟨hp, h0⟩

end Go.Proofs.S

set_option linter.unusedVariables false
namespace Go.Proofs.S
open Go Go.Sx Go.Proofs Go.Cl

variable {h : Heap} {c d : List Int} {s s2 : Sl} {fr : Fr} {G As : List Asn}

theorem delete_c {S1 : List Nat} {fv : Value} {q : Int → Bool} (p : (lo c s).P S1 h) (hl : c.length ≤ 1099511627776) (hc : ∀ h', Ext S1 h h' → ∀ x ∈ c, callF Try.prog fv #[.int .i64 x] .bool (fun r h2 => r = q x ∧ Ext [] h' h2) h') :
    callT Try.prog fn_slices_DeleteFunc_clauses_Clause_lits_Lit #[.slice s.a s.len s.cap, fv] .sl (fun s' h' => (lo (c.filter (fun x => !q x)) s').P S1 h' ∧ Ext S1 h h') h :=
  callT_gen fun K hK => S_slices_DeleteFunc_clauses_Clause_lits_Lit (a0 := s) (a1 := fv) K
    (w_delete (P := Try.prog) (τ := i64) (t := ty_lits_Lit) (fi := fn_slices_IndexFunc_clauses_Clause_lits_Lit) (p := q) p hl rfl leaf_int (fun K hW => S_slices_IndexFunc_clauses_Clause_lits_Lit (a0 := s) (a1 := fv) K hW) hc fun s' h' a b => hK _ _ ⟨a, b⟩)

theorem without1_c {b : Nat} {t0 : TypeId} {l : Int} (kb : Blk h b t0 [.int .i64 l]) (x : Int) : callT Try.prog fn_clauses_Without_1 #[.int .i64 x, .pointer (some ⟨b, 0, none⟩)] .bool (fun r h' => r = (x == l) ∧ Ext [] h h') h := by
  refine callT_gen fun K hK => S_clauses_Without_1 (a0 := x) (c0 := ⟨b, 0, none⟩) K ?_
  unfold F_clauses_Without_1
  rw [ld_int (i := 0) kb rfl]
  exact hK _ _ ⟨rfl, Ext.refl' _ _⟩

theorem without_c (hA : At h (li c s)) (l : Int) : callT Try.prog fn_clauses_Without #[.slice s.a s.len s.cap, .int .i64 l] (.tup (.cons .sl (.cons (.int .i64) .nil)))
    (fun r h' => ∃ s', r = (s', (withoutP c l).2, ()) ∧ New h.size h' (lo (withoutP c l).1 s') ∧ Ext [] h h') h := by
  refine callT_gen fun K hK => S_clauses_Without (a0 := s) (a1 := l) K ?_
  unfold F_clauses_Without
  have st := Hs.start h [] (by simp)
  refine st.nw fun b0 h1 st => ?_
  refine call_of (right_c (hA.ext (st.frame (by simp)))) ?_
  rintro r h2 ⟨rfl, x2⟩
  have st := st.ext x2
  cases hr : rightC c with
  | false =>
    simp only [Bool.not_false, brB_true]
    exact hK _ _ ⟨⟨none, 0, 0⟩, by simp [withoutP, hr], by simp only [withoutP, hr]; exact osl_nil _ _, st.frame (by simp)⟩
  | true =>
    simp only [Bool.not_true, brB_false]
    rw [st.ldi 0 0 rfl rfl]
    refine call_of (clauses_wrong_c l) ?_
    rintro r h3 ⟨rfl, rfl⟩
    cases hl : rt l with
    | false =>
      simp only [Bool.not_false, brB_true]
      exact hK _ _ ⟨⟨none, 0, 0⟩, by simp [withoutP, hr, hl], by simp only [withoutP, hr, hl]; exact osl_nil _ _, st.frame (by simp)⟩
    | true =>
      simp only [Bool.not_true, brB_false]
      refine call_of (normal_c (hA.ext (st.frame (by simp))) hr) ?_
      rintro s4 h4 ⟨n4, x4⟩
      have st := (st.new x4 n4).freeze 0 rfl
      obtain ⟨S1, p, hG, hw⟩ := st.focusG 0 rfl
      refine call_of (delete_c (q := fun x => x == l) p (by have := nrm_length c; have := rightC_len hr; omega) (fun h' x y hy => callF_func ?_)) ?_
      · obtain ⟨_, _, kb⟩ := hG h' x (cl b0 ty_lits_Lit [.int .i64 l]) (by simp)
        exact without1_c kb y
      · rintro s5 h5 ⟨p5, x5⟩
        have st := hw _ S1 h5 x5 p5 (fun b hb => .inl hb)
        exact hK _ _ ⟨s5, by simp [withoutP, hr, hl], by simp only [withoutP, hr, hl]; exact st.res (by simp) 0 rfl, st.frame (by simp)⟩

theorem not_mem_take_succ {d : List Int} {i : Nat} {x : Int} (hi : i < d.length) (hp : x ∉ d.take i) (he : ¬ x = d[i]) : x ∉ d.take (i + 1) := by
  rw [take_succ_getE hi, List.mem_append]; rintro (k | k)
  · exact hp k
  · exact he (by simpa using k)
theorem any_con_f {c d : List Int} (hn : ∀ x ∈ c, x ∉ d) : (c.any fun x => d.contains x) = false := by
  rw [List.any_eq_false]; intro x hx; simpa using hn x hx
theorem any_con_t {c d : List Int} {x : Int} (hx : x ∈ c) (hd : x ∈ d) : (c.any fun x => d.contains x) = true := List.any_eq_true.2 ⟨x, hx, by simpa using hd⟩
theorem all_con_t {c d : List Int} (hn : ∀ x ∈ c, x ∈ d) : (c.all fun x => d.contains x) = true := by
  rw [List.all_eq_true]; intro x hx; simpa using hn x hx
theorem all_con_f {c d : List Int} {x : Int} (hx : x ∈ c) (hd : x ∉ d) : (c.all fun x => d.contains x) = false := List.all_eq_false.2 ⟨x, hx, by simpa using hd⟩
theorem mem_snoc1 {A : List Int} {x y : Int} (h : y ∈ A ++ [x]) : y ∈ A ∨ y = x := by simpa using h
theorem pre_snoc {pre : List (Int × Unit)} {x : Int} : (pre ++ [(x, ())]).map (·.1) = pre.map (·.1) ++ [x] := by simp
theorem filter_snoc {A : List Int} {x : Int} {p : Int → Bool} : (A ++ [x]).filter p = A.filter p ++ (if p x then [x] else []) := by
  rw [List.filter_append]; cases h : p x <;> simp [h]

theorem clash1_c {b : Nat} {t0 : TypeId} (kb : Blk h b t0 [.slice s2.a s2.len s2.cap]) (hB : At h (li d s2)) (hs : Strict d) (hl : d.length ≤ 4096) (x : Int) :
    callT Try.prog fn_clauses_Clashes_1 #[.int .i64 x, .pointer (some ⟨b, 0, none⟩)] .bool (fun r h' => r = d.contains (negL x) ∧ Ext [] h h') h := by
  refine callT_gen fun K hK => S_clauses_Clashes_1 (a0 := x) (c0 := ⟨b, 0, none⟩) K ?_
  unfold F_clauses_Clashes_1
  rw [ld_sl (i := 0) kb rfl]
  refine call_of (lits_Neg_c x) ?_
  rintro r h1 ⟨rfl, rfl⟩
  rw [ck_ok (i := 0) kb rfl]
  refine call_of (bs_c hB hs hl (negL x)) ?_
  rintro r h2 ⟨e, x2⟩
  exact hK _ _ ⟨e, x2⟩

theorem clashes_c (hA : At h (li c s)) (hB : At h (li d s2)) : callT Try.prog fn_clauses_Clashes #[.slice s.a s.len s.cap, .slice s2.a s2.len s2.cap] (.tup (.cons .sl (.cons (.int .i64) .nil)))
    (fun r h' => ∃ s', r = (s', (clashesP c d).2, ()) ∧ New h.size h' (lo (clashesP c d).1 s') ∧ Ext [] h h') h := by
  refine callT_gen fun K hK => S_clauses_Clashes (a0 := s) (a1 := s2) K ?_
  unfold F_clauses_Clashes
  have st := Hs.start h [] (by simp)
  refine call_of (right_c hA) ?_
  rintro r h2 ⟨rfl, x2⟩
  have st := st.ext x2
  cases hr : rightC c with
  | false =>
    simp only [Bool.not_false, brB_true]
    intro h4 hm
    have st := st.marked hm
    exact hK _ _ ⟨⟨none, 0, 0⟩, by simp [clashesP, hr], by simp only [clashesP, hr]; exact osl_nil _ _, st.frame (by simp)⟩
  | true =>
    simp only [Bool.not_true, brB_false]
    refine call_of (right_c (hB.ext (st.frame (by simp)))) ?_
    rintro r h3 ⟨rfl, x3⟩
    have st := st.ext x3
    cases hr2 : rightC d with
    | false =>
      simp only [Bool.not_false, brB_true]
      intro h4 hm
      have st := st.marked hm
      exact hK _ _ ⟨⟨none, 0, 0⟩, by simp [clashesP, hr2], by rw [show clashesP c d = ([], 20) by simp [clashesP, hr2]]; exact osl_nil _ _, st.frame (by simp)⟩
    | true =>
      simp only [Bool.not_true, brB_false]
      refine call_of (normal_c (hB.ext (st.frame (by simp))) hr2) ?_
      rintro s5 h5 ⟨n5, x5⟩
      have st := (st.new x5 n5).freeze 0 rfl
      refine st.nw fun b3 h6 st => ?_
      refine st.st1 0 0 rfl (by simp) fun h7 st => ?_
      refine st.nw fun b4 h8 st => ?_
      refine st.st1 1 0 rfl (by simp) fun h9 st => ?_
      refine st.nw fun b5 h10 st => ?_
      have st := st.nil ty_lits_Lit i64.enc none
      refine Hs.sorted st fun b h11 st => ?_
      have hA5 := hA.ext (st.frame (by simp))
      have kb := st.blk 4 rfl
      refine st.range (P := Try.prog) (τ := .cons i64 .nil) (nxL (nrm c)) (finL (nrm c)) (fun S hz hf => sorted_hit kb hA5 hr S) (fun _ _ _ _ => rfl)
        (fun pre Bs => ∃ s' : Sl, Bs = [cl b3 ty_clauses_Clause [.slice s5.a s5.len s5.cap], cl b4 ty_func_lits_Lit_bool [.func (.func fn_clauses_Clashes_1) #[] #[.pointer (some ⟨b3, 0, none⟩)]], cl b5 ty_sl_lits_Lit [.slice s'.a s'.len s'.cap], lo ((pre.map (·.1)).filter (fun l => d.contains (-l))) s', cl b ty_clauses_Clause [.slice s.a s.len s.cap]])
        (fun j Bs => False) ⟨⟨none, 0, 0⟩, rfl⟩ ?_ ?_ ?_ ?_
      · rintro pre ⟨x, ⟨⟩⟩ Bs B hb ⟨r, hr2'⟩ ⟨s', rfl⟩ st next jump hnext hjump
        have hx : x ∈ c := (mem_nrm hr).1 (by rw [← hr2']; simp)
        have hlen : pre.length < 4096 := by
          have h1 := congrArg List.length hr2'
          have := nrm_length c
          have := rightC_len hr
          simp at h1; omega
        simp only
        rw [st.ldv 1 0 rfl rfl]
        have hB6 := st.fz 0 rfl
        refine callF_func ?_
        refine call_of (clash1_c (st.blk 0 rfl) hB6.rsl (strict_nrm hr2) (by have := nrm_length d; have := rightC_len hr2; omega) x) ?_
        rintro r6 h6 ⟨e6, x6⟩
        have st := st.ext x6
        rw [negL_rt (rightC_rt hr x hx)] at e6
        have e7 : (nrm d).contains (-x) = d.contains (-x) := by
          rw [Bool.eq_iff_iff, List.contains_iff_mem, List.contains_iff_mem]; exact mem_nrm hr2
        rw [e6, e7]
        refine jn_in fun J hJ => ?_
        cases hd : d.contains (-x) with
        | true =>
          simp only [brB_true]
          rw [st.lds 2 0 rfl rfl]
          refine st.nw fun b16 h7 st => ?_
          refine st.apd (enc := i64.enc) (v := x) 3 5 rfl rfl (by decide) rfl ?_ (by decide) rfl fun s7 h8 st => ?_
          · have := List.length_filter_le (fun l => d.contains (-l)) (pre.map (·.1))
            simp at this; simp; omega
          refine st.st1 2 0 rfl (by simp) fun h9 st => ?_
          refine hJ _ _ (hnext _ _ ⟨s7, ?_⟩ (st.drop 5 rfl))
          rw [pre_snoc, filter_snoc]; simp only [hd, if_true]; rfl
        | false =>
          simp only [brB_false]
          refine hJ _ _ (hnext _ _ ⟨s', ?_⟩ st)
          rw [pre_snoc, filter_snoc]; simp only [hd, Bool.false_eq_true, if_false, List.append_nil]
      · rintro pre Bs h6 hf ⟨s', rfl⟩ st
        rw [show pre.map (·.1) = nrm c from hf] at st
        rw [st.lds 2 0 rfl rfl]
        intro h8 hm
        have st := st.marked hm
        exact hK _ _ ⟨s', by simp [clashesP, hr, hr2], by simp only [clashesP, hr, hr2]; exact st.res (by simp) 3 rfl, st.frame (by simp)⟩
      · rintro Bs h6 hf; exact hf.elim
      · intro i id Kx hi; simp at hi

end Go.Proofs.S
