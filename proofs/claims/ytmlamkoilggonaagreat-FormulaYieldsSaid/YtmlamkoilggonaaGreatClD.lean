/-
  The package clauses: Norm, Has, Always, Same, Within, Without, Holds: contracts.
-/
import Derived.Test.YtmlamkoilggonaaGreatClA
import Derived.Test.YtmlamkoilggonaaGreatClQ
import Derived.Test.YtmlamkoilggonaaGreatSxW3
set_option linter.unusedVariables false
namespace Go.Proofs.S
open Go Go.Sx Go.Proofs Go.Cl

variable {h : Heap} {c d : List Int} {s s2 : Sl} {fr : Fr} {G As : List Asn}

theorem index_clause (hA : At h (li c s)) (hl : c.length ≤ 1099511627776) (v : Int) : callT Tryz.prog fn_slices_Index_clauses_Clause_lits_Lit #[.slice s.a s.len s.cap, .int .i64 v] (.int .i64) (fun r h' => r = fidx (fun x => v == x) c ∧ h' = h) h :=
  callT_gen fun K hK => S_slices_Index_clauses_Clause_lits_Lit (a0 := s) (a1 := v) K (w_index (τ := i64) (eq := fun x => v == x) hA hl (hK _ _ ⟨rfl, rfl⟩))

theorem any_eq_contains (c : List Int) (v : Int) : c.any (fun x => v == x) = c.contains v := by
  rw [Bool.eq_iff_iff, List.any_eq_true, List.contains_iff_mem]
  exact ⟨fun ⟨x, hx, e⟩ => by simp at e; subst e; exact hx, fun hx => ⟨v, hx, by simp⟩⟩

theorem contains_clause (hA : At h (li c s)) (hl : c.length ≤ 1099511627776) (v : Int) : callT Tryz.prog fn_slices_Contains_clauses_Clause_lits_Lit #[.slice s.a s.len s.cap, .int .i64 v] .bool (fun r h' => r = c.contains v ∧ h' = h) h := by
  refine callT_gen fun K hK => S_slices_Contains_clauses_Clause_lits_Lit (a0 := s) (a1 := v) K ?_
  refine call_of (index_clause hA hl v) ?_
  rintro r h' ⟨rfl, rfl⟩
  exact hK _ _ ⟨by rw [fidx_ge, any_eq_contains], rfl⟩

theorem bne_iff' (x y : Int) : (x != y) = true ↔ x ≠ y := by simp
theorem equal_clause (hA : At h (li c s)) (hB : At h (li d s2)) (hl : c.length ≤ 1099511627776) : callT Tryz.prog fn_slices_Equal_clauses_Clause_lits_Lit #[.slice s.a s.len s.cap, .slice s2.a s2.len s2.cap] .bool (fun r h' => r = decide (c = d) ∧ h' = h) h :=
  callT_gen fun K hK => S_slices_Equal_clauses_Clause_lits_Lit (a0 := s) (a1 := s2) K (w_equal (τ := i64) (ne := fun x y => x != y) bne_iff' hA hB hl fun b hb => hK _ _ ⟨by rw [Bool.eq_iff_iff, hb]; simp, rfl⟩)
theorem equal_int (hA : At h (li c s)) (hB : At h (li d s2)) (hl : c.length ≤ 1099511627776) : callT Tryz.prog fn_slices_Equal_int_int #[.slice s.a s.len s.cap, .slice s2.a s2.len s2.cap] .bool (fun r h' => r = decide (c = d) ∧ h' = h) h :=
  callT_gen fun K hK => S_slices_Equal_int_int (a0 := s) (a1 := s2) K (w_equal (τ := i64) (ne := fun x y => x != y) bne_iff' hA hB hl fun b hb => hK _ _ ⟨by rw [Bool.eq_iff_iff, hb]; simp, rfl⟩)

theorem has_c (hA : At h (li c s)) (l : Int) : callT Tryz.prog fn_clauses_Has #[.slice s.a s.len s.cap, .int .i64 l] .bool (fun r h' => r = hasC c l ∧ Ext [] h h') h := by
  refine callT_gen fun K hK => S_clauses_Has (a0 := s) (a1 := l) K ?_
  unfold F_clauses_Has
  refine call_of (right_c hA) ?_
  rintro r h1 ⟨rfl, x1⟩
  cases hr : rightC c with
  | true =>
    simp only [brB_true]
    refine call_of (contains_clause (hA.ext x1) (by have := rightC_len hr; omega) l) ?_
    rintro r h2 ⟨rfl, rfl⟩
    exact hK _ _ ⟨by simp [hasC, hr], x1⟩
  | false =>
    simp only [brB_false]
    exact hK _ _ ⟨by simp [hasC, hr], x1⟩

theorem always_c (hA : At h (li c s)) : callT Tryz.prog fn_clauses_Always #[.slice s.a s.len s.cap] .bool (fun r h' => r = (rightC c && alwaysC c) ∧ Ext [] h h') h := by
  refine callT_gen fun K hK => S_clauses_Always (a0 := s) K ?_
  unfold F_clauses_Always
  have st := Hs.start h [] (by simp)
  refine st.nw fun b0 h1 st => ?_
  refine call_of (right_c (hA.ext (st.frame (by simp)))) ?_
  rintro r h2 ⟨rfl, x2⟩
  have st := st.ext x2
  cases hr : rightC c with
  | false =>
    simp only [Bool.not_false, brB_true]
    refine st.st1 0 0 rfl (by simp) fun h3 st => ?_
    intro h4 hm
    have st := st.marked hm
    rw [st.ldb 0 0 rfl rfl]
    exact hK _ _ ⟨by simp [hr], st.frame (by simp)⟩
  | true =>
    simp only [Bool.not_true, brB_false]
    refine st.nw fun b3 h3 st => ?_
    refine st.st1 1 0 rfl (by simp) fun h4 st => ?_
    refine Hs.sorted st fun b h5 st => ?_
    have hA5 := hA.ext (st.frame (by simp))
    have kb := st.blk 2 rfl
    refine st.range (P := Tryz.prog) (τ := .cons i64 .nil) (nxL (nrm c)) (finL (nrm c)) (fun S hz hf => sorted_hit kb hA5 hr S) (fun _ _ _ _ => rfl)
      (fun pre Bs => ∃ last : Int, Bs = [cl b0 ty_bool [.bool false], cl b3 ty_lits_Lit [.int .i64 last], cl b ty_clauses_Clause [.slice s.a s.len s.cap]] ∧ ∀ L, pre.map (·.1) ++ L = nrm c → alwScan last L = alwaysC c)
      (fun j Bs => j = .ret ∧ alwaysC c = true ∧ ∃ last : Int, Bs = [cl b0 ty_bool [.bool true], cl b3 ty_lits_Lit [.int .i64 last], cl b ty_clauses_Clause [.slice s.a s.len s.cap]])
      ⟨0, rfl, fun L e => by have e : L = nrm c := e; rw [e]; exact alwScan_eq hr⟩ ?_ ?_ ?_ ?_
    · rintro pre ⟨x, ⟨⟩⟩ Bs B hb ⟨r, hr2⟩ ⟨last, rfl, hl⟩ st next jump hnext hjump
      have hx := hl _ hr2
      simp only [alwScan] at hx
      simp only
      rw [st.ldi 1 0 rfl rfl]
      by_cases h0 : last = 0
      · have e : (last != 0) = false := by simp [h0]
        rw [e, brB_false]
        refine st.st1 1 0 rfl (by simp) fun h6 st => ?_
        refine hnext _ _ ⟨x, rfl, fun L e => ?_⟩ st
        have e2 : L = r := by
          rw [List.map_append, List.append_assoc] at e
          have := List.append_cancel_left (e.trans hr2.symm)
          simpa using this
        rw [e2, ← hx, h0]; simp
      · have e : (last != 0) = true := by simp [h0]
        rw [e, brB_true, st.ldi 1 0 rfl rfl]
        refine call_of (lits_Neg_c last) ?_
        rintro r' h6 ⟨rfl, rfl⟩
        by_cases hn : x = negL last
        · have e : (x == negL last) = true := by simp [hn]
          rw [e, brB_true]
          refine st.st1 0 0 rfl (by simp) fun h7 st => ?_
          exact hjump .ret _ _ ⟨rfl, by rw [← hx]; simp [h0, hn], last, rfl⟩ st
        · have e : (x == negL last) = false := by simp [hn]
          rw [e, brB_false]
          refine st.st1 1 0 rfl (by simp) fun h7 st => ?_
          refine hnext _ _ ⟨x, rfl, fun L e => ?_⟩ st
          have e2 : L = r := by
            rw [List.map_append, List.append_assoc] at e
            have := List.append_cancel_left (e.trans hr2.symm)
            simpa using this
          rw [e2, ← hx]; simp [hn]
    · rintro pre Bs h6 hf ⟨last, rfl, hl⟩ st
      have hf0 : alwaysC c = false := by
        rw [← hl [] (by rw [List.append_nil]; exact hf)]; rfl
      refine st.st1 0 0 rfl (by simp) fun h7 st => ?_
      intro h8 hm
      have st := st.marked hm
      rw [st.ldb 0 0 rfl rfl]
      exact hK _ _ ⟨by simp [hf0], st.frame (by simp)⟩
    · rintro Bs h6 ⟨_, ha, last, rfl⟩ st
      intro h8 hm
      have st := st.marked hm
      rw [st.ldb 0 0 rfl rfl]
      exact hK _ _ ⟨by simp [hr, ha], st.frame (by simp)⟩
    · intro i id Kx hi; simp at hi

theorem norm_c (hA : At h (li c s)) : callT Tryz.prog fn_clauses_Norm #[.slice s.a s.len s.cap] (.tup (.cons .sl (.cons .bool (.cons (.int .i64) .nil))))
    (fun r h' => ∃ s', r = (s', (normP c).2.1, (normP c).2.2, ()) ∧ New h.size h' (lo (normP c).1 s') ∧ Ext [] h h') h := by
  refine callT_gen fun K hK => S_clauses_Norm (a0 := s) K ?_
  unfold F_clauses_Norm
  refine call_of (right_c hA) ?_
  rintro r h1 ⟨rfl, x1⟩
  cases hr : rightC c with
  | false =>
    simp only [Bool.not_false, brB_true]
    exact hK _ _ ⟨⟨none, 0, 0⟩, by simp [normP, hr], by simp only [normP, hr]; exact osl_nil _ _, x1⟩
  | true =>
    simp only [Bool.not_true, brB_false]
    refine call_of (normal_c (hA.ext x1) hr) ?_
    rintro s' h2 ⟨hn, x2⟩
    refine call_of (always_c ((hA.ext x1).ext x2)) ?_
    rintro r h3 ⟨rfl, x3⟩
    exact hK _ _ ⟨s', by simp [normP, hr], by simp only [normP, hr]; exact (hn.mono x1.1).ext x3, (x1.nil_trans x2).nil_trans x3⟩

theorem same_c (hA : At h (li c s)) (hB : At h (li d s2)) : callT Tryz.prog fn_clauses_Same #[.slice s.a s.len s.cap, .slice s2.a s2.len s2.cap] .bool (fun r h' => r = sameP c d ∧ Ext [] h h') h := by
  refine callT_gen fun K hK => S_clauses_Same (a0 := s) (a1 := s2) K ?_
  unfold F_clauses_Same
  refine call_of (right_c hA) ?_
  rintro r h1 ⟨rfl, x1⟩
  cases hr : rightC c with
  | false => simp only [brB_false]; exact hK _ _ ⟨by simp [sameP, hr], x1⟩
  | true =>
    simp only [brB_true]
    refine call_of (right_c (hB.ext x1)) ?_
    rintro r h2 ⟨rfl, x2⟩
    have x12 := x1.nil_trans x2
    cases hr2 : rightC d with
    | false => simp only [brB_false]; exact hK _ _ ⟨by simp [sameP, hr2], x12⟩
    | true =>
      simp only [brB_true]
      refine call_of (normal_c (hA.ext x12) hr) ?_
      rintro s3 h3 ⟨n3, x3⟩
      refine call_of (normal_c ((hB.ext x12).ext x3) hr2) ?_
      rintro s4 h4 ⟨n4, x4⟩
      refine call_of (equal_clause (n3.at.ext x4).rsl n4.at.rsl (by have := nrm_length c; have := rightC_len hr; omega)) ?_
      rintro r h5 ⟨rfl, rfl⟩
      exact hK _ _ ⟨by simp [sameP, hr, hr2], (x12.nil_trans x3).nil_trans x4⟩

/-- Is a literal in a row that is in order? -/
theorem bs_c (hA : At h (li c s)) (hs : Strict c) (hl : c.length ≤ 4096) (v : Int) :
    callT Tryz.prog fn_slices_BinarySearchFunc_clauses_Clause_lits_Lit_lits_Lit #[.slice s.a s.len s.cap, .int .i64 v, .func (.func fn_lits_Compare) #[] #[]] (.tup (.cons (.int .i64) (.cons .bool .nil)))
      (fun r h' => r.2.1 = c.contains v ∧ Ext [] h h') h := by
  have hget : ∀ i j (hj : j < c.length) (hij : i < j), ltL (c[i]'(by omega)) c[j] = true := fun i j hj hij => List.pairwise_iff_getElem.1 hs i j (by omega) hj hij
  refine callT_gen fun K hK => S_slices_BinarySearchFunc_clauses_Clause_lits_Lit_lits_Lit (a0 := s) (a1 := v) (a2 := .func (.func fn_lits_Compare) #[] #[]) K ?_
  refine w_bsearch (P := Tryz.prog) (τ := i64) (σ2 := i64) (c := fun x => cmpLit x v) hA (by omega) (fun x hx h' x' => callF_of (compareF x v) fun r h2 ⟨e, e2⟩ => ⟨e, by rw [e2]; exact Ext.refl' _ _⟩) ?_ ?_
  · intro i j hj hij hc
    have h1 : ltL c[j] v = true := by simp [ltL, hc]
    have := ltL_trans (hget i j hj hij) h1
    simpa [ltL] using this
  · intro i b h' x hi hlo hhi hb
    refine hK _ _ ⟨?_, x⟩
    show b = c.contains v
    rw [Bool.eq_iff_iff, hb, List.contains_iff_mem]
    constructor
    · rintro ⟨hil, e⟩
      rw [← cmpLit_zero.1 e]; exact List.getElem_mem hil
    · intro hm
      obtain ⟨p, hp, e⟩ := List.mem_iff_getElem.1 hm
      have h0 : cmpLit c[p] v = 0 := cmpLit_zero.2 e
      have hip : i ≤ p := by
        rcases Nat.lt_or_ge p i with k | k
        · have := hlo p hp k; omega
        · exact k
      rcases Nat.lt_or_eq_of_le hip with k | k
      · have := hget i p hp k
        rw [e] at this
        have h2 : cmpLit (c[i]'(by omega)) v < 0 := by simpa [ltL] using this
        exact absurd h2 (hhi i (by omega) (Nat.le_refl _))
      · subst k; exact ⟨hp, h0⟩

end Go.Proofs.S

/-
  The package clauses: Without, Holds, Within, Clashes, Normal: contracts.
-/
set_option linter.unusedVariables false
namespace Go.Proofs.S
open Go Go.Sx Go.Proofs Go.Cl

variable {h : Heap} {c d : List Int} {s s2 : Sl} {fr : Fr} {G As : List Asn}

theorem delete_c {S1 : List Nat} {fv : Value} {q : Int → Bool} (p : (lo c s).P S1 h) (hl : c.length ≤ 1099511627776) (hc : ∀ h', Ext S1 h h' → ∀ x ∈ c, callF Tryz.prog fv #[.int .i64 x] .bool (fun r h2 => r = q x ∧ Ext [] h' h2) h') :
    callT Tryz.prog fn_slices_DeleteFunc_clauses_Clause_lits_Lit #[.slice s.a s.len s.cap, fv] .sl (fun s' h' => (lo (c.filter (fun x => !q x)) s').P S1 h' ∧ Ext S1 h h') h :=
  callT_gen fun K hK => S_slices_DeleteFunc_clauses_Clause_lits_Lit (a0 := s) (a1 := fv) K
    (w_delete (P := Tryz.prog) (τ := i64) (t := ty_lits_Lit) (fi := fn_slices_IndexFunc_clauses_Clause_lits_Lit) (p := q) p hl rfl leaf_int (fun K hW => S_slices_IndexFunc_clauses_Clause_lits_Lit (a0 := s) (a1 := fv) K hW) hc fun s' h' a b => hK _ _ ⟨a, b⟩)

theorem without1_c {b : Nat} {t0 : TypeId} {l : Int} (kb : Blk h b t0 [.int .i64 l]) (x : Int) : callT Tryz.prog fn_clauses_Without_1 #[.int .i64 x, .pointer (some ⟨b, 0, none⟩)] .bool (fun r h' => r = (x == l) ∧ Ext [] h h') h := by
  refine callT_gen fun K hK => S_clauses_Without_1 (a0 := x) (c0 := ⟨b, 0, none⟩) K ?_
  unfold F_clauses_Without_1
  rw [ld_int (i := 0) kb rfl]
  exact hK _ _ ⟨rfl, Ext.refl' _ _⟩

theorem without_c (hA : At h (li c s)) (l : Int) : callT Tryz.prog fn_clauses_Without #[.slice s.a s.len s.cap, .int .i64 l] (.tup (.cons .sl (.cons (.int .i64) .nil)))
    (fun r h' => ∃ s', r = (s', (withoutP c l).2, ()) ∧ New h.size h' (lo (withoutP c l).1 s') ∧ Ext [] h h') h := by
  refine callT_gen fun K hK => S_clauses_Without (a0 := s) (a1 := l) K ?_
  unfold F_clauses_Without
  have st := Hs.start h [] (by simp)
  refine st.nw fun b0 h1 st => ?_
  refine call_of (right_c (hA.ext (st.frame (by simp)))) ?_
  rintro r h2 ⟨rfl, x2⟩
  have st := st.ext x2
  cases hr : rightC c with
  | false =>
    simp only [Bool.not_false, brB_true]
    exact hK _ _ ⟨⟨none, 0, 0⟩, by simp [withoutP, hr], by simp only [withoutP, hr]; exact osl_nil _ _, st.frame (by simp)⟩
  | true =>
    simp only [Bool.not_true, brB_false]
    rw [st.ldi 0 0 rfl rfl]
    refine call_of (clauses_wrong_c l) ?_
    rintro r h3 ⟨rfl, rfl⟩
    cases hl : rt l with
    | false =>
      simp only [Bool.not_false, brB_true]
      exact hK _ _ ⟨⟨none, 0, 0⟩, by simp [withoutP, hr, hl], by simp only [withoutP, hr, hl]; exact osl_nil _ _, st.frame (by simp)⟩
    | true =>
      simp only [Bool.not_true, brB_false]
      refine call_of (normal_c (hA.ext (st.frame (by simp))) hr) ?_
      rintro s4 h4 ⟨n4, x4⟩
      have st := (st.new x4 n4).freeze 0 rfl
      obtain ⟨S1, p, hG, hw⟩ := st.focusG 0 rfl
      refine call_of (delete_c (q := fun x => x == l) p (by have := nrm_length c; have := rightC_len hr; omega) (fun h' x y hy => callF_func ?_)) ?_
      · obtain ⟨_, _, kb⟩ := hG h' x (cl b0 ty_lits_Lit [.int .i64 l]) (by simp)
        exact without1_c kb y
      · rintro s5 h5 ⟨p5, x5⟩
        have st := hw _ S1 h5 x5 p5 (fun b hb => .inl hb)
        exact hK _ _ ⟨s5, by simp [withoutP, hr, hl], by simp only [withoutP, hr, hl]; exact st.res (by simp) 0 rfl, st.frame (by simp)⟩

theorem normal_is_c (hA : At h (li c s)) : callT Tryz.prog fn_clauses_Normal #[.slice s.a s.len s.cap] .bool (fun r h' => r = (rightC c && decide (c = nrm c)) ∧ Ext [] h h') h := by
  refine callT_gen fun K hK => S_clauses_Normal (a0 := s) K ?_
  unfold F_clauses_Normal
  refine call_of (right_c hA) ?_
  rintro r h1 ⟨rfl, x1⟩
  cases hr : rightC c with
  | false => simp only [brB_false]; exact hK _ _ ⟨by simp [hr], x1⟩
  | true =>
    simp only [brB_true]
    refine call_of (normal_c (hA.ext x1) hr) ?_
    rintro s3 h3 ⟨n3, x3⟩
    refine call_of (equal_clause ((hA.ext x1).ext x3) n3.at.rsl (by have := rightC_len hr; omega)) ?_
    rintro r h5 ⟨rfl, rfl⟩
    exact hK _ _ ⟨by simp [hr], x1.nil_trans x3⟩

theorem not_mem_take_succ {d : List Int} {i : Nat} {x : Int} (hi : i < d.length) (hp : x ∉ d.take i) (he : ¬ x = d[i]) : x ∉ d.take (i + 1) := by
  rw [take_succ_getE hi, List.mem_append]; rintro (k | k)
  · exact hp k
  · exact he (by simpa using k)
theorem any_con_f {c d : List Int} (hn : ∀ x ∈ c, x ∉ d) : (c.any fun x => d.contains x) = false := by
  rw [List.any_eq_false]; intro x hx; simpa using hn x hx
theorem any_con_t {c d : List Int} {x : Int} (hx : x ∈ c) (hd : x ∈ d) : (c.any fun x => d.contains x) = true := List.any_eq_true.2 ⟨x, hx, by simpa using hd⟩
theorem all_con_t {c d : List Int} (hn : ∀ x ∈ c, x ∈ d) : (c.all fun x => d.contains x) = true := by
  rw [List.all_eq_true]; intro x hx; simpa using hn x hx
theorem all_con_f {c d : List Int} {x : Int} (hx : x ∈ c) (hd : x ∉ d) : (c.all fun x => d.contains x) = false := List.all_eq_false.2 ⟨x, hx, by simpa using hd⟩
theorem mem_snoc1 {A : List Int} {x y : Int} (h : y ∈ A ++ [x]) : y ∈ A ∨ y = x := by simpa using h
theorem pre_snoc {pre : List (Int × Unit)} {x : Int} : (pre ++ [(x, ())]).map (·.1) = pre.map (·.1) ++ [x] := by simp
theorem filter_snoc {A : List Int} {x : Int} {p : Int → Bool} : (A ++ [x]).filter p = A.filter p ++ (if p x then [x] else []) := by
  rw [List.filter_append]; cases h : p x <;> simp [h]

theorem holds_c (hA : At h (li c s)) (hB : At h (li d s2)) (hl : d.length ≤ 1099511627776) : callT Tryz.prog fn_clauses_Holds #[.slice s.a s.len s.cap, .slice s2.a s2.len s2.cap] .bool (fun r h' => r = holdsP c d ∧ Ext [] h h') h := by
  refine callT_gen fun K hK => S_clauses_Holds (a0 := s) (a1 := s2) K ?_
  unfold F_clauses_Holds
  have st := Hs.start h [li d s2] (by simp [hB])
  refine st.nw fun b0 h1 st => ?_
  refine call_of (right_c (hA.ext (st.frame (by simp)))) ?_
  rintro r h2 ⟨rfl, x2⟩
  have st := st.ext x2
  cases hr : rightC c with
  | false =>
    simp only [Bool.not_false, brB_true]
    intro h4 hm
    have st := st.marked hm
    exact hK _ _ ⟨by simp [holdsP, hr], st.frame (by simp)⟩
  | true =>
    simp only [Bool.not_true, brB_false]
    refine st.nw fun b2 h3 st => ?_
    refine st.st1 1 0 rfl (by simp) fun h4 st => ?_
    refine Hs.sorted st fun b h5 st => ?_
    have hA5 := hA.ext (st.frame (by simp))
    have kb := st.blk 2 rfl
    refine jn_in fun J hJ => ?_
    refine st.range (P := Tryz.prog) (τ := .cons i64 .nil) (nxL (nrm c)) (finL (nrm c)) (fun S hz hf => sorted_hit kb hA5 hr S) (fun _ _ _ _ => rfl)
      (fun pre Bs => Bs = [cl b0 ty_sl_lits_Lit [.slice s2.a s2.len s2.cap], cl b2 ty_bool [.bool false], cl b ty_clauses_Clause [.slice s.a s.len s.cap]] ∧ ∀ x ∈ pre.map (·.1), x ∉ d)
      (fun j Bs => j = .exit 0 ∧ Bs = [cl b0 ty_sl_lits_Lit [.slice s2.a s2.len s2.cap], cl b2 ty_bool [.bool true], cl b ty_clauses_Clause [.slice s.a s.len s.cap]] ∧ ∃ x ∈ c, x ∈ d)
      ⟨rfl, by simp⟩ ?_ ?_ ?_ ?_
    · rintro pre ⟨x, ⟨⟩⟩ Bs B hb ⟨r, hr2⟩ ⟨rfl, hn⟩ st next jump hnext hjump
      have hx : x ∈ c := (mem_nrm hr).1 (by rw [← hr2]; simp)
      simp only
      rw [st.lds 0 0 rfl rfl]
      have hB6 := st.fz 0 rfl
      have l2 := rsl_len hB6
      refine lfp_invh (I := fun m σ h' => ∃ i : Nat, σ = ((i : Int), ()) ∧ i ≤ d.length ∧ x ∉ d.take i ∧ h' = hb ∧ m = d.length - i) ⟨_, 0, rfl, by omega, by simp, rfl, rfl⟩ ?_
      rintro m σ h' X ⟨i, rfl, hi, hp, rfl, em⟩ hX
      simp only
      by_cases hlt : i < d.length
      · rw [show decide ((i : Int) < (s2.len : Int)) = true by rw [l2]; exact dlt_t hlt, brB_true]
        rw [inc_i (show i < 4611686018427387904 by omega)]
        refine rdE (τ := i64) hB6 hlt ?_
        by_cases he : x = d[i]
        · have e : (x == d[i]) = true := by simp [he]
          rw [e, brB_true]
          refine st.st1 1 0 rfl (by simp) fun h7 st => ?_
          exact hjump (.exit 0) _ _ ⟨rfl, rfl, x, hx, by rw [he]; exact List.getElem_mem _⟩ st
        · have e : (x == d[i]) = false := by simp [he]
          rw [e, brB_false]
          exact hX _ _ _ ⟨i + 1, rfl, by omega, not_mem_take_succ hlt hp he, rfl, rfl⟩ (by omega)
      · rw [show decide ((i : Int) < (s2.len : Int)) = false by rw [l2]; exact dlt_f hlt, brB_false]
        rw [List.take_of_length_le (by omega)] at hp
        refine hnext _ _ ⟨rfl, fun y hy => ?_⟩ st
        rcases mem_snoc1 (pre_snoc ▸ hy) with hy | hy
        · exact hn y hy
        · subst hy; exact hp
    · rintro pre Bs h6 hf ⟨rfl, hn⟩ st
      refine hJ _ _ ?_
      rw [st.ldb 1 0 rfl rfl]
      intro h8 hm
      have st := st.marked hm
      refine hK _ _ ⟨?_, st.frame (by simp)⟩
      have := any_con_f (c := c) (d := d) fun x hx => hn x (by rw [show pre.map (·.1) = nrm c from hf]; exact (mem_nrm hr).2 hx)
      unfold holdsP; rw [this, hr]; rfl
    · rintro Bs h6 ⟨e, _⟩ st; cases e
    · rintro i id Kx hi hk Bs h6 ⟨_, rfl, x, hx, hd⟩ st
      cases i with
      | succ i => simp at hi
      | zero =>
        simp at hk; subst hk
        refine hJ _ _ ?_
        rw [st.ldb 1 0 rfl rfl]
        intro h8 hm
        have st := st.marked hm
        refine hK _ _ ⟨?_, st.frame (by simp)⟩
        have := any_con_t (c := c) (d := d) hx hd
        unfold holdsP; rw [this, hr]; rfl

theorem clash1_c {b : Nat} {t0 : TypeId} (kb : Blk h b t0 [.slice s2.a s2.len s2.cap]) (hB : At h (li d s2)) (hs : Strict d) (hl : d.length ≤ 4096) (x : Int) :
    callT Tryz.prog fn_clauses_Clashes_1 #[.int .i64 x, .pointer (some ⟨b, 0, none⟩)] .bool (fun r h' => r = d.contains (negL x) ∧ Ext [] h h') h := by
  refine callT_gen fun K hK => S_clauses_Clashes_1 (a0 := x) (c0 := ⟨b, 0, none⟩) K ?_
  unfold F_clauses_Clashes_1
  rw [ld_sl (i := 0) kb rfl]
  refine call_of (lits_Neg_c x) ?_
  rintro r h1 ⟨rfl, rfl⟩
  rw [ck_ok (i := 0) kb rfl]
  refine call_of (bs_c hB hs hl (negL x)) ?_
  rintro r h2 ⟨e, x2⟩
  exact hK _ _ ⟨e, x2⟩

theorem clashes_c (hA : At h (li c s)) (hB : At h (li d s2)) : callT Tryz.prog fn_clauses_Clashes #[.slice s.a s.len s.cap, .slice s2.a s2.len s2.cap] (.tup (.cons .sl (.cons (.int .i64) .nil)))
    (fun r h' => ∃ s', r = (s', (clashesP c d).2, ()) ∧ New h.size h' (lo (clashesP c d).1 s') ∧ Ext [] h h') h := by
  refine callT_gen fun K hK => S_clauses_Clashes (a0 := s) (a1 := s2) K ?_
  unfold F_clauses_Clashes
  have st := Hs.start h [] (by simp)
  refine call_of (right_c hA) ?_
  rintro r h2 ⟨rfl, x2⟩
  have st := st.ext x2
  cases hr : rightC c with
  | false =>
    simp only [Bool.not_false, brB_true]
    intro h4 hm
    have st := st.marked hm
    exact hK _ _ ⟨⟨none, 0, 0⟩, by simp [clashesP, hr], by simp only [clashesP, hr]; exact osl_nil _ _, st.frame (by simp)⟩
  | true =>
    simp only [Bool.not_true, brB_false]
    refine call_of (right_c (hB.ext (st.frame (by simp)))) ?_
    rintro r h3 ⟨rfl, x3⟩
    have st := st.ext x3
    cases hr2 : rightC d with
    | false =>
      simp only [Bool.not_false, brB_true]
      intro h4 hm
      have st := st.marked hm
      exact hK _ _ ⟨⟨none, 0, 0⟩, by simp [clashesP, hr2], by rw [show clashesP c d = ([], 20) by simp [clashesP, hr2]]; exact osl_nil _ _, st.frame (by simp)⟩
    | true =>
      simp only [Bool.not_true, brB_false]
      refine call_of (normal_c (hB.ext (st.frame (by simp))) hr2) ?_
      rintro s5 h5 ⟨n5, x5⟩
      have st := (st.new x5 n5).freeze 0 rfl
      refine st.nw fun b3 h6 st => ?_
      refine st.st1 0 0 rfl (by simp) fun h7 st => ?_
      refine st.nw fun b4 h8 st => ?_
      refine st.st1 1 0 rfl (by simp) fun h9 st => ?_
      refine st.nw fun b5 h10 st => ?_
      have st := st.nil ty_lits_Lit i64.enc none
      refine Hs.sorted st fun b h11 st => ?_
      have hA5 := hA.ext (st.frame (by simp))
      have kb := st.blk 4 rfl
      refine st.range (P := Tryz.prog) (τ := .cons i64 .nil) (nxL (nrm c)) (finL (nrm c)) (fun S hz hf => sorted_hit kb hA5 hr S) (fun _ _ _ _ => rfl)
        (fun pre Bs => ∃ s' : Sl, Bs = [cl b3 ty_clauses_Clause [.slice s5.a s5.len s5.cap], cl b4 ty_func_lits_Lit_bool [.func (.func fn_clauses_Clashes_1) #[] #[.pointer (some ⟨b3, 0, none⟩)]], cl b5 ty_sl_lits_Lit [.slice s'.a s'.len s'.cap], lo ((pre.map (·.1)).filter (fun l => d.contains (-l))) s', cl b ty_clauses_Clause [.slice s.a s.len s.cap]])
        (fun j Bs => False) ⟨⟨none, 0, 0⟩, rfl⟩ ?_ ?_ ?_ ?_
      · rintro pre ⟨x, ⟨⟩⟩ Bs B hb ⟨r, hr2'⟩ ⟨s', rfl⟩ st next jump hnext hjump
        have hx : x ∈ c := (mem_nrm hr).1 (by rw [← hr2']; simp)
        have hlen : pre.length < 4096 := by
          have h1 := congrArg List.length hr2'
          have := nrm_length c
          have := rightC_len hr
          simp at h1; omega
        simp only
        rw [st.ldv 1 0 rfl rfl]
        have hB6 := st.fz 0 rfl
        refine callF_func ?_
        refine call_of (clash1_c (st.blk 0 rfl) hB6.rsl (strict_nrm hr2) (by have := nrm_length d; have := rightC_len hr2; omega) x) ?_
        rintro r6 h6 ⟨e6, x6⟩
        have st := st.ext x6
        rw [negL_rt (rightC_rt hr x hx)] at e6
        have e7 : (nrm d).contains (-x) = d.contains (-x) := by
          rw [Bool.eq_iff_iff, List.contains_iff_mem, List.contains_iff_mem]; exact mem_nrm hr2
        rw [e6, e7]
        refine jn_in fun J hJ => ?_
        cases hd : d.contains (-x) with
        | true =>
          simp only [brB_true]
          rw [st.lds 2 0 rfl rfl]
          refine st.nw fun b16 h7 st => ?_
          refine st.apd (enc := i64.enc) (v := x) 3 5 rfl rfl (by decide) rfl ?_ (by decide) rfl fun s7 h8 st => ?_
          · have := List.length_filter_le (fun l => d.contains (-l)) (pre.map (·.1))
            simp at this; simp; omega
          refine st.st1 2 0 rfl (by simp) fun h9 st => ?_
          refine hJ _ _ (hnext _ _ ⟨s7, ?_⟩ (st.drop 5 rfl))
          rw [pre_snoc, filter_snoc]; simp only [hd, if_true]; rfl
        | false =>
          simp only [brB_false]
          refine hJ _ _ (hnext _ _ ⟨s', ?_⟩ st)
          rw [pre_snoc, filter_snoc]; simp only [hd, Bool.false_eq_true, if_false, List.append_nil]
      · rintro pre Bs h6 hf ⟨s', rfl⟩ st
        rw [show pre.map (·.1) = nrm c from hf] at st
        rw [st.lds 2 0 rfl rfl]
        intro h8 hm
        have st := st.marked hm
        exact hK _ _ ⟨s', by simp [clashesP, hr, hr2], by simp only [clashesP, hr, hr2]; exact st.res (by simp) 3 rfl, st.frame (by simp)⟩
      · rintro Bs h6 hf; exact hf.elim
      · intro i id Kx hi; simp at hi

end Go.Proofs.S

/-
  The package clauses: Compare, Union, Resolve: contracts.
-/
set_option linter.unusedVariables false
namespace Go.Proofs.S
open Go Go.Sx Go.Proofs Go.Cl

variable {h : Heap} {c d : List Int} {s s2 : Sl} {fr : Fr} {G As : List Asn}

theorem grow_c {n : Int} {K : Sl → HP} (hW : W_grow ty_lits_Lit 8 (.int .i64 0) ⟨none, 0, 0⟩ n K h) : callT Tryz.prog fn_slices_Grow_clauses_Clause_lits_Lit #[.slice none 0 0, .int .i64 n] .sl K h :=
  S_slices_Grow_clauses_Clause_lits_Lit (a0 := ⟨none, 0, 0⟩) (a1 := n) K hW

theorem concat2_c {b : Nat} {t0 : TypeId} (kb : Blk h b t0 [.slice s.a s.len s.cap, .slice s2.a s2.len s2.cap]) (hA : At h (li c s)) (hB : At h (li d s2)) (hl : c.length + d.length ≤ 1048576) :
    callT Tryz.prog fn_slices_Concat_clauses_Clause_lits_Lit #[.slice (some ⟨b, 0, none⟩) 2 2] .sl (fun s' h' => New h.size h' (lo (c ++ d) s') ∧ Ext [] h h') h := by
  refine callT_gen fun K hK => S_slices_Concat_clauses_Clause_lits_Lit (a0 := ⟨some ⟨b, 0, none⟩, 2, 2⟩) K ?_
  have hp : At h (rsl Ty.sl.enc [s, s2] ⟨some ⟨b, 0, none⟩, 2, 2⟩) := ⟨[b], osl_rsl (t := t0) (.inl ⟨b, [], rfl, rfl, kb⟩)⟩
  refine w_concat (P := Tryz.prog) (τ := i64) (t := ty_lits_Lit) (by_ := 8) (z := .int .i64 0) (fg := fn_slices_Grow_clauses_Clause_lits_Lit) (xss := [c, d]) hp rfl ?_ (by simp) (by simp; omega) (by decide) leaf_int (fun n K h hW => grow_c hW) (fun s' h' a b => hK _ _ ⟨by simpa using a, b⟩)
  intro i hi
  match i, hi with
  | 0, _ => exact hA
  | 1, _ => exact hB

theorem union_c (hA : At h (li c s)) (hB : At h (li d s2)) : callT Tryz.prog fn_clauses_Union #[.slice s.a s.len s.cap, .slice s2.a s2.len s2.cap] (.tup (.cons .sl (.cons (.int .i64) .nil)))
    (fun r h' => ∃ s', r = (s', (unionP c d).2, ()) ∧ New h.size h' (lo (unionP c d).1 s') ∧ Ext [] h h') h := by
  refine callT_gen fun K hK => S_clauses_Union (a0 := s) (a1 := s2) K ?_
  unfold F_clauses_Union
  have st := Hs.start h [] (by simp)
  refine call_of (right_c hA) ?_
  rintro r h2 ⟨rfl, x2⟩
  have st := st.ext x2
  cases hr : rightC c with
  | false =>
    simp only [Bool.not_false, brB_true]
    exact hK _ _ ⟨⟨none, 0, 0⟩, by simp [unionP, hr], by rw [show unionP c d = ([], 20) by simp [unionP, hr]]; exact osl_nil _ _, st.frame (by simp)⟩
  | true =>
    simp only [Bool.not_true, brB_false]
    refine call_of (right_c (hB.ext (st.frame (by simp)))) ?_
    rintro r h3 ⟨rfl, x3⟩
    have st := st.ext x3
    cases hr2 : rightC d with
    | false =>
      simp only [Bool.not_false, brB_true]
      exact hK _ _ ⟨⟨none, 0, 0⟩, by simp [unionP, hr2], by rw [show unionP c d = ([], 20) by simp [unionP, hr2]]; exact osl_nil _ _, st.frame (by simp)⟩
    | true =>
      simp only [Bool.not_true, brB_false]
      have l1 := rightC_len hr
      have l2 := rightC_len hr2
      refine st.nw fun b2 h4 st => ?_
      refine call_of (concat2_c (st.blk 0 rfl) (hA.ext (st.frame (by simp))) (hB.ext (st.frame (by simp))) (by omega)) ?_
      rintro s5 h5 ⟨n5, x5⟩
      have st := st.new x5 n5
      refine call_of (normal_u (st.own 1 rfl).rsl (by simp; omega) (fun x hx => by
        rcases List.mem_append.1 hx with hx | hx
        · exact rightC_rt hr x hx
        · exact rightC_rt hr2 x hx)) ?_
      rintro s6 h6 ⟨n6, x6⟩
      have st := st.new x6 n6
      have l3 := osl_len n6.at
      have hn := nrm_length (c ++ d)
      by_cases hm : (nrm (c ++ d)).length > 4096
      · have e : decide ((s6.len : Int) > 4096) = true := decide_eq_true (by omega)
        rw [e, brB_true]
        exact hK _ _ ⟨⟨none, 0, 0⟩, by simp [unionP, hr, hr2, hm], by rw [show unionP c d = ([], 5) by simp [unionP, hr, hr2, hm]]; exact osl_nil _ _, st.frame (by simp)⟩
      · have e : decide ((s6.len : Int) > 4096) = false := decide_eq_false (by omega)
        rw [e, brB_false]
        have e2 : unionP c d = (nrm (c ++ d), 0) := by simp [unionP, hr, hr2, hm]
        exact hK _ _ ⟨s6, by rw [e2], by rw [e2]; exact st.res (by simp) 2 rfl, st.frame (by simp)⟩

theorem or2_c {b : Nat} {t0 : TypeId} {x y : Int} (kb : Blk h b t0 [.int .i64 x, .int .i64 y]) : callT Tryz.prog fn_cmp_Or_int #[.slice (some ⟨b, 0, none⟩) 2 2] (.int .i64) (fun r h' => r = orP [x, y] ∧ h' = h) h := by
  refine callT_gen fun K hK => S_cmp_Or_int (a0 := ⟨some ⟨b, 0, none⟩, 2, 2⟩) K ?_
  have hp : At h (rsl i64.enc [x, y] ⟨some ⟨b, 0, none⟩, 2, 2⟩) := ⟨[b], osl_rsl (t := t0) (.inl ⟨b, [], rfl, rfl, kb⟩)⟩
  exact w_or hp (by simp) (hK _ _ ⟨rfl, rfl⟩)

theorem comparefunc_c (hA : At h (li c s)) (hB : At h (li d s2)) (hl : c.length ≤ 1099511627776) :
    callT Tryz.prog fn_slices_CompareFunc_clauses_Clause_clauses_Clause_lits_Lit_lits_Lit #[.slice s.a s.len s.cap, .slice s2.a s2.len s2.cap, .func (.func fn_lits_Compare) #[] #[]] (.int .i64) (fun r h' => r = cmpL cmpLit c d ∧ Ext [] h h') h :=
  callT_gen fun K hK => S_slices_CompareFunc_clauses_Clause_clauses_Clause_lits_Lit_lits_Lit (a0 := s) (a1 := s2) (a2 := .func (.func fn_lits_Compare) #[] #[]) K
    (w_compareFunc (P := Tryz.prog) (τ := i64) (c := cmpLit) hA hB hl (fun x hx y hy h' _ => callF_of (compareF x y) fun r h2 ⟨e, e2⟩ => ⟨e, by rw [e2]; exact Ext.refl' _ _⟩) fun h' x => hK _ _ ⟨rfl, x⟩)

theorem compare_c (hA : At h (li c s)) (hB : At h (li d s2)) : callT Tryz.prog fn_clauses_Compare #[.slice s.a s.len s.cap, .slice s2.a s2.len s2.cap] (.int .i64) (fun r h' => r = compareP c d ∧ Ext [] h h') h := by
  refine callT_gen fun K hK => S_clauses_Compare (a0 := s) (a1 := s2) K ?_
  unfold F_clauses_Compare
  have st := Hs.start h [] (by simp)
  refine call_of (right_c hA) ?_
  rintro r h2 ⟨rfl, x2⟩
  have st := st.ext x2
  cases hr : rightC c with
  | false => simp only [Bool.not_false, brB_true]; exact hK _ _ ⟨by simp [compareP, hr], st.frame (by simp)⟩
  | true =>
    simp only [Bool.not_true, brB_false]
    refine call_of (right_c (hB.ext (st.frame (by simp)))) ?_
    rintro r h3 ⟨rfl, x3⟩
    have st := st.ext x3
    cases hr2 : rightC d with
    | false => simp only [Bool.not_false, brB_true]; exact hK _ _ ⟨by simp [compareP, hr2], st.frame (by simp)⟩
    | true =>
      simp only [Bool.not_true, brB_false]
      refine call_of (normal_c (hA.ext (st.frame (by simp))) hr) ?_
      rintro s4 h4 ⟨n4, x4⟩
      have st := st.new x4 n4
      refine call_of (normal_c (hB.ext (st.frame (by simp))) hr2) ?_
      rintro s5 h5 ⟨n5, x5⟩
      have st := st.new x5 n5
      refine call_of (cmp_int_c _ _) ?_
      rintro r6 h6 ⟨rfl, rfl⟩
      refine call_of (comparefunc_c (st.own 0 rfl).rsl (st.own 1 rfl).rsl (by have := nrm_length c; have := rightC_len hr; omega)) ?_
      rintro r7 h7 ⟨rfl, x7⟩
      have st := st.ext x7
      refine st.nw fun b8 h8 st => ?_
      refine call_of (or2_c (st.blk 2 rfl)) ?_
      rintro r9 h9 ⟨rfl, rfl⟩
      refine hK _ _ ⟨?_, st.frame (by simp)⟩
      rw [osl_len (st.own 0 rfl), osl_len (st.own 1 rfl)]
      simp only [compareP, hr, hr2, orP, Bool.and_self, if_true]
      split
      · rfl
      · split
        · rfl
        · rename_i h1 h2; simp at h2; rw [h2]

theorem resolve_c (hA : At h (li c s)) (hB : At h (li d s2)) (l : Int) : callT Tryz.prog fn_clauses_Resolve #[.slice s.a s.len s.cap, .slice s2.a s2.len s2.cap, .int .i64 l] (.tup (.cons .sl (.cons (.int .i64) .nil)))
    (fun r h' => ∃ s', r = (s', (resolveP c d l).2, ()) ∧ New h.size h' (lo (resolveP c d l).1 s') ∧ Ext [] h h') h := by
  refine callT_gen fun K hK => S_clauses_Resolve (a0 := s) (a1 := s2) (a2 := l) K ?_
  unfold F_clauses_Resolve
  have st := Hs.start h [] (by simp)
  have done : ∀ (e : Int) (h' : Heap), Ext [] h h' → resolveP c d l = ([], e) → K (⟨none, 0, 0⟩, e, ()) h' := fun e h' x er => hK _ _ ⟨⟨none, 0, 0⟩, by rw [er], by rw [er]; exact osl_nil _ _, x⟩
  refine call_of (right_c hA) ?_
  rintro r h2 ⟨rfl, x2⟩
  have st := st.ext x2
  cases hr : rightC c with
  | false => simp only [Bool.not_false, brB_true]; exact done 20 _ (st.frame (by simp)) (by simp [resolveP, hr])
  | true =>
    simp only [Bool.not_true, brB_false]
    refine call_of (right_c (hB.ext (st.frame (by simp)))) ?_
    rintro r h3 ⟨rfl, x3⟩
    have st := st.ext x3
    cases hr2 : rightC d with
    | false => simp only [Bool.not_false, brB_true]; exact done 20 _ (st.frame (by simp)) (by simp [resolveP, hr2])
    | true =>
      simp only [Bool.not_true, brB_false]
      refine call_of (clauses_wrong_c l) ?_
      rintro r h3 ⟨rfl, rfl⟩
      cases hl : rt l with
      | false => simp only [Bool.not_false, brB_true]; exact done 10 _ (st.frame (by simp)) (by simp [resolveP, hr, hr2, hl])
      | true =>
        simp only [Bool.not_true, brB_false]
        refine call_of (has_c (hA.ext (st.frame (by simp))) l) ?_
        rintro r h4 ⟨rfl, x4⟩
        have st := st.ext x4
        unfold hasC
        rw [hr, Bool.true_and]
        cases hh : c.contains l with
        | false => simp only [Bool.not_false, brB_true]; exact done 21 _ (st.frame (by simp)) (by unfold resolveP; rw [hr, hr2, hl, hh]; rfl)
        | true =>
          simp only [Bool.not_true, brB_false]
          refine call_of (lits_Neg_c l) ?_
          rintro r h5 ⟨rfl, rfl⟩
          rw [negL_rt hl]
          refine call_of (has_c (hB.ext (st.frame (by simp))) (-l)) ?_
          rintro r h6 ⟨rfl, x6⟩
          have st := st.ext x6
          unfold hasC
          rw [hr2, Bool.true_and]
          cases hh2 : d.contains (-l) with
          | false => simp only [Bool.not_false, brB_true]; exact done 21 _ (st.frame (by simp)) (by unfold resolveP; rw [hr, hr2, hl, hh, hh2]; rfl)
          | true =>
            simp only [Bool.not_true, brB_false]
            refine call_of (without_c (hA.ext (st.frame (by simp))) l) ?_
            rintro _ h7 ⟨s7, rfl, n7, x7⟩
            have st := st.new x7 n7
            refine call_of (lits_Neg_c l) ?_
            rintro r h8 ⟨rfl, rfl⟩
            rw [negL_rt hl]
            refine call_of (without_c (hB.ext (st.frame (by simp))) (-l)) ?_
            rintro _ h9 ⟨s9, rfl, n9, x9⟩
            have st := st.new x9 n9
            refine call_of (union_c (st.own 0 rfl).rsl (st.own 1 rfl).rsl) ?_
            rintro _ h10 ⟨s10, rfl, n10, x10⟩
            have st := st.new x10 n10
            have e : resolveP c d l = unionP (withoutP c l).1 (withoutP d (-l)).1 := by unfold resolveP; rw [hr, hr2, hl, hh, hh2]; rfl
            exact hK _ _ ⟨s10, by rw [e], by rw [e]; exact st.res (by simp) 2 rfl, st.frame (by simp)⟩

end Go.Proofs.S
