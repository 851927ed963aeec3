/-
  The laws' helpers: one, pair.
-/
import Derived.Test.YtogghgcgehhcaaaClU
set_option linter.unusedVariables false
set_option linter.unusedSimpArgs false
namespace Go.Proofs.S
open Go Go.Sx Go.Proofs Go.Cl

variable {h : Heap} {c d : List Int} {s s2 : Sl} {fr : Fr} {G As : List Asn}

theorem withoutP_len (c : List Int) (l : Int) : (withoutP c l).1.length ≤ c.length := by
  unfold withoutP
  split
  · split
    · exact Nat.le_trans (List.length_filter_le _ _) (nrm_length c)
    · exact Nat.zero_le _
  · exact Nat.zero_le _

/-- All of a row is made 0. -/
theorem zero_loop (st : Hs fr G As h) (k : Nat) (hk : As[k]? = some (lo c s)) (hl : c.length ≤ 1099511627776) {Kn : HP} (hK : ∀ c' h', Hs fr G (As.set k (lo c' s)) h' → Kn h') :
    lfp (σ := (Int × Unit)) (fun X s26 => brB (decide (s26.1 < (s.len : Int))) (sx s.a s.len s26.1 1 fun p27 => Sx.st1 p27 (.int .i64 (0 : Int)) <| X ((IntKind.wrap .i64 (s26.1 + (1 : Int))), ())) Kn) ((0 : Int), ()) h := by
  have hkl := (List.getElem?_eq_some_iff.1 hk).1
  have l1 := osl_len (st.own k hk)
  refine lfp_invh (I := fun m σ h' => ∃ (i : Nat) (c' : List Int), σ = ((i : Int), ()) ∧ i ≤ c.length ∧ c'.length = c.length ∧ Hs fr G (As.set k (lo c' s)) h' ∧ m = c.length - i)
    ⟨_, 0, c, rfl, by omega, rfl, by
      have e : As.set k (lo c s) = As := by
        have := (List.getElem?_eq_some_iff.1 hk).2
        rw [← this]; exact List.set_getElem_self hkl
      rw [e]; exact st, rfl⟩ ?_
  rintro m σ h' X ⟨i, c', rfl, hi, hc, st, em⟩ hX
  simp only
  by_cases hlt : i < c.length
  · rw [show decide ((i : Int) < (s.len : Int)) = true by rw [l1]; exact dlt_t hlt, brB_true, inc_i (show i < 4611686018427387904 by omega)]
    refine Hs.wrE (τ := i64) st k (xs := c') (by rw [List.getElem?_set, if_pos rfl, if_pos hkl]) (show i < c'.length by omega) 0 fun h2 st2 => ?_
    refine hX _ _ _ ⟨i + 1, c'.set i 0, rfl, by omega, by simpa using hc, ?_, rfl⟩ (by omega)
    rw [List.set_set] at st2; exact st2
  · rw [show decide ((i : Int) < (s.len : Int)) = false by rw [l1]; exact dlt_f hlt, brB_false]
    exact hK c' h' st

theorem one_c (hA : At h (li c s)) (hB : At h (li d s2)) (hl : c.length ≤ 1048576) (hl2 : d.length ≤ 1048576) (l : Int) :
    callT Try.prog fn_salvorlaw02_one #[.slice s.a s.len s.cap, .int .i64 l, .slice s2.a s2.len s2.cap] .bool (fun r h' => r = true ∧ Ext [] h h') h := by
  refine callT_gen fun K hK => S_salvorlaw02_one (a0 := s) (a1 := l) (a2 := s2) K ?_
  unfold F_salvorlaw02_one
  have hn := nrm_length c
  have hw := withoutP_len c l
  have st := Hs.start h [li c s, li d s2] (by simp [hA, hB])
  refine call_of (clause_c (st.fz 0 rfl) hl) ?_
  rintro s0 h1 ⟨n0, x0⟩
  have st := st.new x0 n0
  try simp only [List.nil_append, List.cons_append, List.set_cons_zero, List.set_cons_succ, List.eraseIdx_cons_zero, List.eraseIdx_cons_succ, List.length_cons, List.length_nil, Nat.zero_add, Nat.reduceAdd] at st
  refine call_of (r2_right_c (st.fz 0 rfl) (by omega)) ?_
  rintro _ _ ⟨rfl, rfl⟩
  refine call_of (norm_c (st.own 0 rfl).rsl) ?_
  rintro _ h2 ⟨sn, rfl, n2, x2⟩
  have st := st.new x2 n2
  try simp only [List.nil_append, List.cons_append, List.set_cons_zero, List.set_cons_succ, List.eraseIdx_cons_zero, List.eraseIdx_cons_succ, List.length_cons, List.length_nil, Nat.zero_add, Nat.reduceAdd] at st
  refine call_of (without_c (st.own 0 rfl).rsl l) ?_
  rintro _ h3 ⟨sw, rfl, n3, x3⟩
  have st := st.new x3 n3
  try simp only [List.nil_append, List.cons_append, List.set_cons_zero, List.set_cons_succ, List.eraseIdx_cons_zero, List.eraseIdx_cons_succ, List.length_cons, List.length_nil, Nat.zero_add, Nat.reduceAdd] at st
  refine call_of (right_c (st.own 0 rfl).rsl) ?_
  rintro _ h4 ⟨rfl, x4⟩
  have st := st.ext x4
  simp only [beq_self_eq_true, Bool.not_true, brB_false]
  refine call_of (has_c (st.own 0 rfl).rsl l) ?_
  rintro _ h5 ⟨rfl, x5⟩
  have st := st.ext x5
  cases hr : rightC c with
  | true =>
    have en : normP c = (nrm c, alwaysC c, 0) := by unfold normP; rw [hr]; rfl
    have eh : hasC c l = c.contains l := by unfold hasC; rw [hr]; rfl
    have eo : holdsP c d = c.any fun x => d.contains x := by unfold holdsP; rw [hr]; rfl
    rw [en] at st
    rw [en, eh]
    simp only [brB_true]
    refine call_of (r2_has_c (st.fz 0 rfl) (by omega) l) ?_
    rintro _ _ ⟨rfl, rfl⟩
    simp only [beq_self_eq_true, Bool.not_true, brB_false]
    refine call_of (always_c (st.own 0 rfl).rsl) ?_
    rintro _ h6 ⟨rfl, x6⟩
    have st := st.ext x6
    rw [hr, Bool.true_and]
    refine call_of (r2_always_c (st.fz 0 rfl) hr) ?_
    rintro _ _ ⟨rfl, rfl⟩
    simp only [beq_self_eq_true, Bool.not_true, brB_false]
    refine call_of (clause_c (st.fz 1 rfl) hl2) ?_
    rintro s9 h9 ⟨n9, x9⟩
    have st := st.new x9 n9
    try simp only [List.nil_append, List.cons_append, List.set_cons_zero, List.set_cons_succ, List.eraseIdx_cons_zero, List.eraseIdx_cons_succ, List.length_cons, List.length_nil, Nat.zero_add, Nat.reduceAdd] at st
    refine call_of (holds_c (st.own 0 rfl).rsl (st.own 3 rfl).rsl (by omega)) ?_
    rintro _ h10 ⟨rfl, x10⟩
    have st := st.ext x10
    rw [eo]
    refine call_of (r2_holds_c (st.fz 0 rfl) (st.fz 1 rfl) (by omega) (by omega)) ?_
    rintro _ _ ⟨rfl, rfl⟩
    simp only [beq_self_eq_true, Bool.not_true, brB_false]
    refine call_of (ints_c (st.own 0 rfl).rsl hl) ?_
    rintro s12 h12 ⟨n12, x12⟩
    have st := st.new x12 n12
    try simp only [List.nil_append, List.cons_append, List.set_cons_zero, List.set_cons_succ, List.eraseIdx_cons_zero, List.eraseIdx_cons_succ, List.length_cons, List.length_nil, Nat.zero_add, Nat.reduceAdd] at st
    refine call_of (equal_int (st.own 4 rfl).rsl (st.fz 0 rfl) (by omega)) ?_
    rintro _ _ ⟨rfl, rfl⟩
    simp only [decide_true, Bool.not_true, brB_false]
    refine call_of (r2_without_c (st.fz 0 rfl) hr l) ?_
    rintro _ h15 ⟨s15, rfl, n15, x15⟩
    have st := st.new x15 n15
    try simp only [List.nil_append, List.cons_append, List.set_cons_zero, List.set_cons_succ, List.eraseIdx_cons_zero, List.eraseIdx_cons_succ, List.length_cons, List.length_nil, Nat.zero_add, Nat.reduceAdd] at st
    (change brB false _ _ _; rw [brB_false])
    refine call_of (ints_c (st.own 1 rfl).rsl (by omega)) ?_
    rintro s16 h16 ⟨n16, x16⟩
    have st := st.new x16 n16
    try simp only [List.nil_append, List.cons_append, List.set_cons_zero, List.set_cons_succ, List.eraseIdx_cons_zero, List.eraseIdx_cons_succ, List.length_cons, List.length_nil, Nat.zero_add, Nat.reduceAdd] at st
    refine call_of (r2_norm_c (st.fz 0 rfl) (by omega) (rightC_rt hr)) ?_
    rintro s17 h17 ⟨n17, x17⟩
    have st := st.new x17 n17
    try simp only [List.nil_append, List.cons_append, List.set_cons_zero, List.set_cons_succ, List.eraseIdx_cons_zero, List.eraseIdx_cons_succ, List.length_cons, List.length_nil, Nat.zero_add, Nat.reduceAdd] at st
    refine call_of (equal_int (st.own 6 rfl).rsl (st.own 7 rfl).rsl (by omega)) ?_
    rintro _ _ ⟨rfl, rfl⟩
    simp only [decide_true, Bool.not_true, brB_false]
    refine call_of (r2_always_c (st.fz 0 rfl) hr) ?_
    rintro _ _ ⟨rfl, rfl⟩
    simp only [beq_self_eq_true, Bool.not_true, brB_false]
    refine call_of (normal_is_c (st.own 0 rfl).rsl) ?_
    rintro _ h20 ⟨rfl, x20⟩
    have st := st.ext x20
    refine call_of (r2_norm_c (st.fz 0 rfl) (by omega) (rightC_rt hr)) ?_
    rintro s21 h21 ⟨n21, x21⟩
    have st := st.new x21 n21
    try simp only [List.nil_append, List.cons_append, List.set_cons_zero, List.set_cons_succ, List.eraseIdx_cons_zero, List.eraseIdx_cons_succ, List.length_cons, List.length_nil, Nat.zero_add, Nat.reduceAdd] at st
    refine call_of (equal_int (st.fz 0 rfl) (st.own 8 rfl).rsl (by omega)) ?_
    rintro _ _ ⟨rfl, rfl⟩
    rw [hr, Bool.true_and]
    simp only [beq_self_eq_true, Bool.not_true, brB_false, bne_self_eq_false]
    refine call_of (ints_c (st.own 2 rfl).rsl (by omega)) ?_
    rintro s23 h23 ⟨n23, x23⟩
    have st := st.new x23 n23
    try simp only [List.nil_append, List.cons_append, List.set_cons_zero, List.set_cons_succ, List.eraseIdx_cons_zero, List.eraseIdx_cons_succ, List.length_cons, List.length_nil, Nat.zero_add, Nat.reduceAdd] at st
    refine call_of (equal_int (st.own 9 rfl).rsl (st.own 5 rfl).rsl (by omega)) ?_
    rintro _ _ ⟨rfl, rfl⟩
    simp only [decide_true, Bool.not_true, brB_false]
    refine zero_loop st 1 rfl (by omega) fun c1 h24 st => ?_
    refine zero_loop st 2 rfl (by omega) fun c2 h25 st => ?_
    refine call_of (ints_c (st.own 0 rfl).rsl hl) ?_
    rintro s31 h31 ⟨n31, x31⟩
    have st := st.new x31 n31
    refine call_of (equal_int (st.own 10 rfl).rsl (st.fz 0 rfl) (by omega)) ?_
    rintro _ _ ⟨rfl, rfl⟩
    exact hK _ _ ⟨by simp, st.frame (by simp)⟩
  | false =>
    have en : normP c = ([], false, 20) := by unfold normP; rw [hr]; rfl
    have ew : withoutP c l = ([], 20) := by unfold withoutP; rw [hr]; rfl
    have eh : hasC c l = false := by unfold hasC; rw [hr]; rfl
    have eo : holdsP c d = false := by unfold holdsP; rw [hr]; rfl
    rw [en, ew] at st
    rw [en, ew, eh]
    simp only [brB_false, beq_self_eq_true, Bool.not_true]
    refine call_of (always_c (st.own 0 rfl).rsl) ?_
    rintro _ h6 ⟨rfl, x6⟩
    have st := st.ext x6
    rw [hr, Bool.false_and]
    simp only [brB_false, beq_self_eq_true, Bool.not_true]
    refine call_of (clause_c (st.fz 1 rfl) hl2) ?_
    rintro s9 h9 ⟨n9, x9⟩
    have st := st.new x9 n9
    try simp only [List.nil_append, List.cons_append, List.set_cons_zero, List.set_cons_succ, List.eraseIdx_cons_zero, List.eraseIdx_cons_succ, List.length_cons, List.length_nil, Nat.zero_add, Nat.reduceAdd] at st
    refine call_of (holds_c (st.own 0 rfl).rsl (st.own 3 rfl).rsl (by omega)) ?_
    rintro _ h10 ⟨rfl, x10⟩
    have st := st.ext x10
    rw [eo]
    simp only [brB_false, beq_self_eq_true, Bool.not_true]
    refine call_of (ints_c (st.own 0 rfl).rsl hl) ?_
    rintro s12 h12 ⟨n12, x12⟩
    have st := st.new x12 n12
    try simp only [List.nil_append, List.cons_append, List.set_cons_zero, List.set_cons_succ, List.eraseIdx_cons_zero, List.eraseIdx_cons_succ, List.length_cons, List.length_nil, Nat.zero_add, Nat.reduceAdd] at st
    refine call_of (equal_int (st.own 4 rfl).rsl (st.fz 0 rfl) (by omega)) ?_
    rintro _ _ ⟨rfl, rfl⟩
    simp only [decide_true, Bool.not_true, brB_false, Bool.not_false, brB_true]
    refine call_of (normal_is_c (st.own 0 rfl).rsl) ?_
    rintro _ h20 ⟨rfl, x20⟩
    have st := st.ext x20
    rw [hr, Bool.false_and]
    have q1 := osl_len (st.own 1 rfl)
    have q2 := osl_len (st.own 2 rfl)
    simp only [Bool.not_false, brB_true, q1, q2]
    (change brB true _ _ _; rw [brB_true]); (change brB true _ _ _; rw [brB_true]); (change brB true _ _ _; rw [brB_true])
    exact hK _ _ ⟨rfl, st.frame (by simp)⟩

theorem pair_c (hA : At h (li c s)) (hB : At h (li d s2)) (hl : c.length ≤ 1048576) (hl2 : d.length ≤ 1048576) (l : Int) :
    callT Try.prog fn_salvorlaw02_pair #[.slice s.a s.len s.cap, .slice s2.a s2.len s2.cap, .int .i64 l] .bool (fun r h' => r = true ∧ Ext [] h h') h := by
  refine callT_gen fun K hK => S_salvorlaw02_pair (a0 := s) (a1 := s2) (a2 := l) K ?_
  unfold F_salvorlaw02_pair
  have st := Hs.start h [li c s, li d s2] (by simp [hA, hB])
  refine call_of (clause_c (st.fz 0 rfl) hl) ?_
  rintro s0 h1 ⟨n0, x0⟩
  have st := st.new x0 n0
  try simp only [List.nil_append, List.cons_append, List.set_cons_zero, List.set_cons_succ, List.eraseIdx_cons_zero, List.eraseIdx_cons_succ, List.length_cons, List.length_nil, Nat.zero_add, Nat.reduceAdd] at st
  refine call_of (clause_c (st.fz 1 rfl) hl2) ?_
  rintro s1 h2 ⟨n1, x1⟩
  have st := st.new x1 n1
  try simp only [List.nil_append, List.cons_append, List.set_cons_zero, List.set_cons_succ, List.eraseIdx_cons_zero, List.eraseIdx_cons_succ, List.length_cons, List.length_nil, Nat.zero_add, Nat.reduceAdd] at st
  refine call_of (union_c (st.own 0 rfl).rsl (st.own 1 rfl).rsl) ?_
  rintro _ h3 ⟨su, rfl, nu, xu⟩
  have st := st.new xu nu
  try simp only [List.nil_append, List.cons_append, List.set_cons_zero, List.set_cons_succ, List.eraseIdx_cons_zero, List.eraseIdx_cons_succ, List.length_cons, List.length_nil, Nat.zero_add, Nat.reduceAdd] at st
  refine call_of (clashes_c (st.own 0 rfl).rsl (st.own 1 rfl).rsl) ?_
  rintro _ h4 ⟨sc, rfl, nc, xc⟩
  have st := st.new xc nc
  try simp only [List.nil_append, List.cons_append, List.set_cons_zero, List.set_cons_succ, List.eraseIdx_cons_zero, List.eraseIdx_cons_succ, List.length_cons, List.length_nil, Nat.zero_add, Nat.reduceAdd] at st
  refine call_of (resolve_c (st.own 0 rfl).rsl (st.own 1 rfl).rsl l) ?_
  rintro _ h5 ⟨sr, rfl, nr, xr⟩
  have st := st.new xr nr
  try simp only [List.nil_append, List.cons_append, List.set_cons_zero, List.set_cons_succ, List.eraseIdx_cons_zero, List.eraseIdx_cons_succ, List.length_cons, List.length_nil, Nat.zero_add, Nat.reduceAdd] at st
  refine call_of (ints_c (st.own 0 rfl).rsl hl) ?_
  rintro s5 h6 ⟨n5, x5⟩
  have st := st.new x5 n5
  try simp only [List.nil_append, List.cons_append, List.set_cons_zero, List.set_cons_succ, List.eraseIdx_cons_zero, List.eraseIdx_cons_succ, List.length_cons, List.length_nil, Nat.zero_add, Nat.reduceAdd] at st
  refine call_of (equal_int (st.own 5 rfl).rsl (st.fz 0 rfl) (by omega)) ?_
  rintro _ _ ⟨rfl, rfl⟩
  simp only [decide_true, Bool.not_true, brB_false]
  refine call_of (ints_c (st.own 1 rfl).rsl hl2) ?_
  rintro s7 h7 ⟨n7, x7⟩
  have st := st.new x7 n7
  try simp only [List.nil_append, List.cons_append, List.set_cons_zero, List.set_cons_succ, List.eraseIdx_cons_zero, List.eraseIdx_cons_succ, List.length_cons, List.length_nil, Nat.zero_add, Nat.reduceAdd] at st
  refine call_of (equal_int (st.own 6 rfl).rsl (st.fz 1 rfl) (by omega)) ?_
  rintro _ _ ⟨rfl, rfl⟩
  simp only [decide_true, Bool.not_true, brB_false]
  have st := (st.drop 6 rfl).drop 5 rfl
  try simp only [List.nil_append, List.cons_append, List.set_cons_zero, List.set_cons_succ, List.eraseIdx_cons_zero, List.eraseIdx_cons_succ, List.length_cons, List.length_nil, Nat.zero_add, Nat.reduceAdd] at st
  refine call_of (r2_right_c (st.fz 0 rfl) (by omega)) ?_
  rintro _ hq ⟨rfl, rfl⟩
  have wrong : (rightC c && rightC d) = false → callT Try.prog fn_clauses_Same #[(.slice s0.a s0.len s0.cap), (.slice s1.a s1.len s1.cap)] .bool (fun r10 => brB (!r10)
      (callT Try.prog fn_clauses_Within #[(.slice s0.a s0.len s0.cap), (.slice s1.a s1.len s1.cap)] .bool fun r11 => brB (!r11)
        (callT Try.prog fn_clauses_Compare #[(.slice s0.a s0.len s0.cap), (.slice s1.a s1.len s1.cap)] (.int .i64) fun r12 => brB (r12 == (0 : Int))
          (brB ((IntKind.wrap .i64 ((IntKind.wrap .i64 ((su.len : Int) + (sc.len : Int))) + (sr.len : Int))) == (0 : Int))
            (brB ((unionP c d).2 == (20 : Int)) (brB ((clashesP c d).2 == (unionP c d).2) (K ((resolveP c d l).2 == (unionP c d).2)) (K false)) (K false)) (K false)) (K false)) (K false)) (K false)) hq := by
    intro hw
    have eu : unionP c d = ([], 20) := by unfold unionP; rw [hw]; rfl
    have ec : clashesP c d = ([], 20) := by unfold clashesP; rw [hw]; rfl
    have er : resolveP c d l = ([], 20) := by unfold resolveP; rw [hw]; rfl
    have es : sameP c d = false := by unfold sameP; rw [hw]; rfl
    have ei : withinP c d = false := by unfold withinP; rw [hw]; rfl
    have ep : compareP c d = 0 := by unfold compareP; rw [hw]; rfl
    rw [eu, ec, er] at st
    rw [eu, ec, er]
    refine call_of (same_c (st.own 0 rfl).rsl (st.own 1 rfl).rsl) ?_
    rintro _ h8 ⟨rfl, x8⟩
    have st := st.ext x8
    rw [es]
    (change brB true _ _ _; rw [brB_true])
    refine call_of (within_c (st.own 0 rfl).rsl (st.own 1 rfl).rsl) ?_
    rintro _ h9 ⟨rfl, x9⟩
    have st := st.ext x9
    rw [ei]
    (change brB true _ _ _; rw [brB_true])
    refine call_of (compare_c (st.own 0 rfl).rsl (st.own 1 rfl).rsl) ?_
    rintro _ h10 ⟨rfl, x10⟩
    have st := st.ext x10
    have q1 := osl_len (st.own 2 rfl)
    have q2 := osl_len (st.own 3 rfl)
    have q3 := osl_len (st.own 4 rfl)
    rw [ep, q1, q2, q3]
    (change brB true _ _ _; rw [brB_true]); (change brB true _ _ _; rw [brB_true]); (change brB true _ _ _; rw [brB_true]); (change brB true _ _ _; rw [brB_true])
    exact hK _ _ ⟨rfl, st.frame (by simp)⟩
  cases hr : rightC c with
  | false =>
    simp only [Bool.not_false, brB_true]
    exact wrong (by rw [hr]; rfl)
  | true =>
    simp only [Bool.not_true, brB_false]
    refine call_of (r2_right_c (st.fz 1 rfl) (by omega)) ?_
    rintro _ _ ⟨rfl, rfl⟩
    cases hr2 : rightC d with
    | false =>
      simp only [Bool.not_false, brB_true]
      exact wrong (by rw [hr, hr2]; rfl)
    | true =>
      clear wrong
      have ei : withinP c d = c.all fun x => d.contains x := by unfold withinP; rw [hr, hr2]; rfl
      have ec : (clashesP c d).2 = 0 := by unfold clashesP; rw [hr, hr2]; rfl
      have lu : (unionP c d).1.length ≤ 4096 := by
        unfold unionP; rw [hr, hr2]; simp only [Bool.and_self, if_true]; split <;> simp only [List.length_nil] <;> omega
      have lc : (clashesP c d).1.length ≤ c.length := by
        unfold clashesP; rw [hr, hr2]; exact Nat.le_trans (List.length_filter_le _ _) (nrm_length c)
      have lr : (resolveP c d l).1.length ≤ 4096 := by
        unfold resolveP; rw [hr, hr2]
        simp only [Bool.and_self, if_true]
        split
        · split
          · unfold unionP; rw [right_without hr l, right_without hr2 (-l)]; simp only [Bool.and_self, if_true]; split <;> simp only [List.length_nil] <;> omega
          · simp
        · simp
      simp only [Bool.not_true, brB_false]
      refine call_of (r2_union_c (st.fz 0 rfl) (st.fz 1 rfl) hr hr2) ?_
      rintro _ h8 ⟨sp, rfl, np, xp⟩
      have st := st.new xp np
      try simp only [List.nil_append, List.cons_append, List.set_cons_zero, List.set_cons_succ, List.eraseIdx_cons_zero, List.eraseIdx_cons_succ, List.length_cons, List.length_nil, Nat.zero_add, Nat.reduceAdd] at st
      refine call_of (r2_resolve_c (st.fz 0 rfl) (st.fz 1 rfl) hr hr2 l) ?_
      rintro _ h9 ⟨sq, rfl, nq, xq⟩
      have st := st.new xq nq
      try simp only [List.nil_append, List.cons_append, List.set_cons_zero, List.set_cons_succ, List.eraseIdx_cons_zero, List.eraseIdx_cons_succ, List.length_cons, List.length_nil, Nat.zero_add, Nat.reduceAdd] at st
      refine call_of (r2_compare_c (st.fz 0 rfl) (st.fz 1 rfl) hr hr2) ?_
      rintro _ h10 ⟨rfl, x10⟩
      have st := st.ext x10
      refine call_of (same_c (st.own 0 rfl).rsl (st.own 1 rfl).rsl) ?_
      rintro _ h11 ⟨rfl, x11⟩
      have st := st.ext x11
      rw [same_compare hr hr2, beq_self_eq_true, brB_true]
      refine call_of (within_c (st.own 0 rfl).rsl (st.own 1 rfl).rsl) ?_
      rintro _ h12 ⟨rfl, x12⟩
      have st := st.ext x12
      refine call_of (r2_within_c (st.fz 0 rfl) (st.fz 1 rfl) (by omega) (by omega)) ?_
      rintro _ _ ⟨rfl, rfl⟩
      rw [ei, beq_self_eq_true, brB_true]
      refine call_of (compare_c (st.own 0 rfl).rsl (st.own 1 rfl).rsl) ?_
      rintro _ h13 ⟨rfl, x13⟩
      have st := st.ext x13
      rw [beq_self_eq_true, brB_true]
      refine call_of (ints_c (st.own 2 rfl).rsl (by omega)) ?_
      rintro s14 h14 ⟨n14, x14⟩
      have st := st.new x14 n14
      try simp only [List.nil_append, List.cons_append, List.set_cons_zero, List.set_cons_succ, List.eraseIdx_cons_zero, List.eraseIdx_cons_succ, List.length_cons, List.length_nil, Nat.zero_add, Nat.reduceAdd] at st
      refine call_of (equal_int (st.own 7 rfl).rsl (st.own 5 rfl).rsl (by omega)) ?_
      rintro _ _ ⟨rfl, rfl⟩
      simp only [decide_true, brB_true, beq_self_eq_true]
      refine call_of (ints_c (st.own 3 rfl).rsl (by omega)) ?_
      rintro s15 h15 ⟨n15, x15⟩
      have st := st.new x15 n15
      try simp only [List.nil_append, List.cons_append, List.set_cons_zero, List.set_cons_succ, List.eraseIdx_cons_zero, List.eraseIdx_cons_succ, List.length_cons, List.length_nil, Nat.zero_add, Nat.reduceAdd] at st
      refine call_of (r2_clashes_c (st.fz 0 rfl) (st.fz 1 rfl) hr hr2) ?_
      rintro s16 h16 ⟨n16, x16⟩
      have st := st.new x16 n16
      try simp only [List.nil_append, List.cons_append, List.set_cons_zero, List.set_cons_succ, List.eraseIdx_cons_zero, List.eraseIdx_cons_succ, List.length_cons, List.length_nil, Nat.zero_add, Nat.reduceAdd] at st
      refine call_of (equal_int (st.own 8 rfl).rsl (st.own 9 rfl).rsl (by omega)) ?_
      rintro _ _ ⟨rfl, rfl⟩
      rw [ec]
      simp only [decide_true, brB_true, beq_self_eq_true]
      refine call_of (ints_c (st.own 4 rfl).rsl (by omega)) ?_
      rintro s17 h17 ⟨n17, x17⟩
      have st := st.new x17 n17
      try simp only [List.nil_append, List.cons_append, List.set_cons_zero, List.set_cons_succ, List.eraseIdx_cons_zero, List.eraseIdx_cons_succ, List.length_cons, List.length_nil, Nat.zero_add, Nat.reduceAdd] at st
      refine call_of (equal_int (st.own 10 rfl).rsl (st.own 6 rfl).rsl (by omega)) ?_
      rintro _ _ ⟨rfl, rfl⟩
      simp only [decide_true, brB_true, beq_self_eq_true]
      exact hK _ _ ⟨rfl, st.frame (by simp)⟩

end Go.Proofs.S
