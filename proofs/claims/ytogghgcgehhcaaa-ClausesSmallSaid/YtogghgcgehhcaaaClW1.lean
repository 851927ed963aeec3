/-
  ClausesOne, ClausesPairs: the walks.
-/
import Derived.Test.YtogghgcgehhcaaaClV
import Derived.Test.YtogghgcgehhcaaaClP
set_option linter.unusedVariables false
set_option linter.unusedSimpArgs false
namespace Go.Proofs.S
open Go Go.Sx Go.Proofs Go.Cl

variable {h : Heap} {c d : List Int} {s s2 : Sl} {fr : Fr} {G As : List Asn}

theorem clausesOne_F (hA : At h (li c s)) (hB : At h (li d s2)) (l : Int) (K : Bool → HP) (hK : ∀ x h', (x = true ∧ Ext [] h h') → K x h') : F_salvorlaw02_ClausesOne s l s2 K h := by
  unfold F_salvorlaw02_ClausesOne
  have l1 := rsl_len hA
  have l2 := rsl_len hB
  by_cases h1 : c.length > 200
  · rw [decide_eq_true (show (s.len : Int) > 200 by omega), brB_true]
    exact call_of awake_c fun r h' e => hK r h' e
  · rw [decide_eq_false (show ¬ (s.len : Int) > 200 by omega), brB_false]
    by_cases h2 : d.length > 100
    · rw [decide_eq_true (show (s2.len : Int) > 100 by omega), brB_true]
      exact call_of awake_c fun r h' e => hK r h' e
    · rw [decide_eq_false (show ¬ (s2.len : Int) > 100 by omega), brB_false]
      refine call_of (one_c hA hB (by omega) (by omega) l) ?_
      rintro _ h3 ⟨rfl, x3⟩
      rw [brB_true]
      exact call_of awake_c fun r h' e => hK r h' ⟨e.1, x3.nil_trans e.2⟩

theorem clausesPairs_F (hA : At h (li c s)) (hB : At h (li d s2)) (l : Int) (K : Bool → HP) (hK : ∀ x h', (x = true ∧ Ext [] h h') → K x h') : F_salvorlaw02_ClausesPairs s s2 l K h := by
  unfold F_salvorlaw02_ClausesPairs
  have l1 := rsl_len hA
  have l2 := rsl_len hB
  by_cases h1 : c.length > 200
  · rw [decide_eq_true (show (s.len : Int) > 200 by omega), brB_true]
    exact call_of awake_c fun r h' e => hK r h' e
  · rw [decide_eq_false (show ¬ (s.len : Int) > 200 by omega), brB_false]
    by_cases h2 : d.length > 200
    · rw [decide_eq_true (show (s2.len : Int) > 200 by omega), brB_true]
      exact call_of awake_c fun r h' e => hK r h' e
    · rw [decide_eq_false (show ¬ (s2.len : Int) > 200 by omega), brB_false]
      refine call_of (pair_c hA hB (by omega) (by omega) l) ?_
      rintro _ h3 ⟨rfl, x3⟩
      rw [brB_true]
      exact call_of awake_c fun r h' e => hK r h' ⟨e.1, x3.nil_trans e.2⟩

end Go.Proofs.S

/-
  ClausesOrder, ClausesLess: the walks.
-/
set_option linter.unusedVariables false
set_option linter.unusedSimpArgs false
namespace Go.Proofs.S
open Go Go.Sx Go.Proofs Go.Cl

variable {h : Heap} {c d e : List Int} {s s2 s3 : Sl} {fr : Fr} {G As : List Asn}

theorem litOf_range {n : Int} (h0 : 0 ≤ n) : (1 ≤ litOf n ∧ litOf n ≤ 8) ∨ (-8 ≤ litOf n ∧ litOf n ≤ -1) := by unfold litOf; split <;> omega
theorem made_range (hu : U8 c) : ∀ x ∈ madeP c, (1 ≤ x ∧ x ≤ 8) ∨ (-8 ≤ x ∧ x ≤ -1) := by
  intro x hx
  obtain ⟨n, hn, rfl⟩ := List.mem_map.1 hx
  exact litOf_range (hu n (List.mem_of_mem_take hn)).1
theorem made_len (c : List Int) : (madeP c).length ≤ 20 := by unfold madeP; simp; omega
theorem made_right (hu : U8 c) : rightC (madeP c) = true := by
  have := made_len c
  simp only [rightC, Bool.and_eq_true, List.all_eq_true, decide_eq_true_eq]
  exact ⟨by omega, fun x hx => rt_iff.2 (by have := made_range hu x hx; omega)⟩

theorem clausesOrder_F (hA : At h (lu c s)) (hB : At h (lu d s2)) (hC : At h (lu e s3)) (uc : U8 c) (ud : U8 d) (ue : U8 e)
    (K : Bool → HP) (hK : ∀ x h', (x = true ∧ Ext [] h h') → K x h') : F_salvorlaw02_ClausesOrder s s2 s3 K h := by
  unfold F_salvorlaw02_ClausesOrder
  have st := Hs.start h [lu c s, lu d s2, lu e s3] (by simp [hA, hB, hC])
  refine call_of (made_c (st.fz 0 rfl) uc) ?_
  rintro r0 h1 ⟨n1, x1⟩
  have st := st.new x1 n1
  try simp only [List.nil_append, List.cons_append, List.set_cons_zero, List.set_cons_succ, List.eraseIdx_cons_zero, List.eraseIdx_cons_succ, List.length_cons, List.length_nil, Nat.zero_add, Nat.reduceAdd] at st
  refine call_of (made_c (st.fz 1 rfl) ud) ?_
  rintro r1 h2 ⟨n2, x2⟩
  have st := st.new x2 n2
  try simp only [List.nil_append, List.cons_append, List.set_cons_zero, List.set_cons_succ, List.eraseIdx_cons_zero, List.eraseIdx_cons_succ, List.length_cons, List.length_nil, Nat.zero_add, Nat.reduceAdd] at st
  refine call_of (made_c (st.fz 2 rfl) ue) ?_
  rintro r2 h3 ⟨n3, x3⟩
  have st := st.new x3 n3
  try simp only [List.nil_append, List.cons_append, List.set_cons_zero, List.set_cons_succ, List.eraseIdx_cons_zero, List.eraseIdx_cons_succ, List.length_cons, List.length_nil, Nat.zero_add, Nat.reduceAdd] at st
  have ra := made_right uc
  have rb := made_right ud
  have rc := made_right ue
  generalize madeP c = a at *
  generalize madeP d = b at *
  generalize madeP e = g at *
  have ea : normP a = (nrm a, alwaysC a, 0) := by unfold normP; rw [ra]; rfl
  have eb : normP b = (nrm b, alwaysC b, 0) := by unfold normP; rw [rb]; rfl
  refine call_of (norm_c (st.own 0 rfl).rsl) ?_
  rintro _ h4 ⟨s4, rfl, n4, x4⟩
  have st := st.new x4 n4
  try simp only [List.nil_append, List.cons_append, List.set_cons_zero, List.set_cons_succ, List.eraseIdx_cons_zero, List.eraseIdx_cons_succ, List.length_cons, List.length_nil, Nat.zero_add, Nat.reduceAdd] at st
  refine call_of (norm_c (st.own 1 rfl).rsl) ?_
  rintro _ h5 ⟨s5, rfl, n5, x5⟩
  have st := st.new x5 n5
  try simp only [List.nil_append, List.cons_append, List.set_cons_zero, List.set_cons_succ, List.eraseIdx_cons_zero, List.eraseIdx_cons_succ, List.length_cons, List.length_nil, Nat.zero_add, Nat.reduceAdd] at st
  refine call_of (compare_c (st.own 0 rfl).rsl (st.own 1 rfl).rsl) ?_
  rintro _ h6 ⟨rfl, x6⟩
  have st := st.ext x6
  rw [ea, eb] at st
  rw [ea, eb]
  have q1 : s4.len = (nrm a).length := osl_len (st.own 3 rfl)
  have q2 : s5.len = (nrm b).length := osl_len (st.own 4 rfl)
  (change brB true _ _ _; rw [brB_true])
  refine call_of (compare_c (st.own 1 rfl).rsl (st.own 0 rfl).rsl) ?_
  rintro _ h7 ⟨rfl, x7⟩
  have st := st.ext x7
  have v := compare_vals ra rb
  have an := compare_anti ra rb
  have e1 : (compareP a b == IntKind.wrap .i64 (0 - compareP b a)) = true := by
    rw [wrap_i64 (by omega) (by omega), show 0 - compareP b a = compareP a b by omega]; simp
  rw [e1, brB_true]
  refine call_of (same_c (st.own 0 rfl).rsl (st.own 1 rfl).rsl) ?_
  rintro _ h8 ⟨rfl, x8⟩
  have st := st.ext x8
  rw [same_compare ra rb, beq_self_eq_true, brB_true]
  have tail : ∀ h', Hs [([], h)] [lu c s, lu d s2, lu e s3] [lo a r0, lo b r1, lo g r2, lo (nrm a) s4, lo (nrm b) s5] h' →
      brB (decide ((s4.len : Int) ≥ (s5.len : Int)))
        (callT Try.prog fn_clauses_Compare #[(.slice s4.a s4.len s4.cap), (.slice s5.a s5.len s5.cap)] (.int .i64) fun r8 => brB (compareP a b == r8) (callT Try.prog fn_salvorlaw02_awake #[] .bool fun r9 => K r9) (K false))
        (brB (compareP a b == (-1 : Int)) (callT Try.prog fn_clauses_Compare #[(.slice s4.a s4.len s4.cap), (.slice s5.a s5.len s5.cap)] (.int .i64) fun r10 => brB (compareP a b == r10) (callT Try.prog fn_salvorlaw02_awake #[] .bool fun r11 => K r11) (K false)) (K false)) h' := by
    intro h' st
    by_cases hlen : (nrm a).length ≥ (nrm b).length
    · rw [decide_eq_true (by omega), brB_true]
      refine call_of (compare_c (st.own 3 rfl).rsl (st.own 4 rfl).rsl) ?_
      rintro _ h9 ⟨rfl, x9⟩
      have st := st.ext x9
      rw [compare_nrm ra rb, beq_self_eq_true, brB_true]
      exact call_of awake_c fun r h' e => hK r h' ⟨e.1, (st.frame (by simp)).nil_trans e.2⟩
    · rw [decide_eq_false (by omega), brB_false, compare_len ra rb (by omega)]
      (change brB true _ _ _; rw [brB_true])
      refine call_of (compare_c (st.own 3 rfl).rsl (st.own 4 rfl).rsl) ?_
      rintro _ h9 ⟨rfl, x9⟩
      have st := st.ext x9
      rw [compare_nrm ra rb, compare_len ra rb (by omega)]
      (change brB true _ _ _; rw [brB_true])
      exact call_of awake_c fun r h' e => hK r h' ⟨e.1, (st.frame (by simp)).nil_trans e.2⟩
  by_cases h1 : compareP a b > 0
  · rw [decide_eq_true h1, brB_true]; exact tail _ st
  · rw [decide_eq_false h1, brB_false]
    refine call_of (compare_c (st.own 1 rfl).rsl (st.own 2 rfl).rsl) ?_
    rintro _ h9 ⟨rfl, x9⟩
    have st := st.ext x9
    by_cases h2 : compareP b g > 0
    · rw [decide_eq_true h2, brB_true]; exact tail _ st
    · rw [decide_eq_false h2, brB_false]
      refine call_of (compare_c (st.own 0 rfl).rsl (st.own 2 rfl).rsl) ?_
      rintro _ h10 ⟨rfl, x10⟩
      have st := st.ext x10
      rw [decide_eq_true (compare_trans ra rb rc (by omega) (by omega)), brB_true]
      exact tail _ st

/-! ### ClausesLess -/

/-- The literal of one number. -/
theorem made_one (x : Int) : madeP [x] = [litOf x] := rfl

theorem less_tail {l : Int} {st0 : Heap} {a : List Int} {r0 rw : Sl} {wl : List Int} (ra : rightC a = true) (hl : rt l = true) (hlen : a.length ≤ 20)
    (hw : wl = (withoutP a l).1) {K : Bool → HP} (hK : ∀ x h', (x = true ∧ Ext [] st0 h') → K x h') :
    ∀ h', Ext [] st0 h' → At h' (li a r0) → At h' (li wl rw) →
    lfp (σ := (Int × (Bool × Unit))) (fun X15 s16 => brB (decide (s16.1 < (r0.len : Int))) (sx r0.a r0.len s16.1 1 fun p17 => ldT (.int .i64) p17 fun x18 => brB (x18 != l)
      (callT Try.prog fn_clauses_Has #[(.slice rw.a rw.len rw.cap), (.int .i64 x18)] .bool fun r19 => brB (!r19) (K false) (X15 ((IntKind.wrap .i64 (s16.1 + (1 : Int))), s16.2.1, ()))) (X15 ((IntKind.wrap .i64 (s16.1 + (1 : Int))), s16.2.1, ())))
      (callT Try.prog fn_salvorlaw02_awake #[] .bool fun r20 => K r20)) ((0 : Int), false, ()) h' := by
  intro h' x hA hW
  have l1 := rsl_len hA
  refine lfp_invh (I := fun m σ h2 => ∃ i : Nat, σ = ((i : Int), false, ()) ∧ i ≤ a.length ∧ Ext [] h' h2 ∧ m = a.length - i) ⟨_, 0, rfl, by omega, Ext.refl' _ _, rfl⟩ ?_
  rintro m σ h2 X ⟨i, rfl, hi, x2, em⟩ hX
  simp only
  by_cases hlt : i < a.length
  · rw [show decide ((i : Int) < (r0.len : Int)) = true by rw [l1]; exact dlt_t hlt, brB_true, inc_i (show i < 4611686018427387904 by omega)]
    refine rdE (τ := i64) (hA.ext x2) hlt ?_
    by_cases he : a[i] = l
    · rw [show (a[i] != l) = false by simp [he], brB_false]
      exact hX _ _ _ ⟨i + 1, rfl, by omega, x2, rfl⟩ (by omega)
    · rw [show (a[i] != l) = true by simp [he], brB_true]
      refine call_of (has_c (hW.ext x2) a[i]) ?_
      rintro _ h3 ⟨rfl, x3⟩
      have : hasC wl a[i] = true := by
        rw [hw]; exact (has_iff (right_without ra l)).2 ((mem_without ra hl).2 ⟨List.getElem_mem hlt, he⟩)
      rw [this]; simp only [Bool.not_true, brB_false]
      exact hX _ _ _ ⟨i + 1, rfl, by omega, x2.nil_trans x3, rfl⟩ (by omega)
  · rw [show decide ((i : Int) < (r0.len : Int)) = false by rw [l1]; exact dlt_f hlt, brB_false]
    exact call_of awake_c fun r h' e => hK r h' ⟨e.1, (x.nil_trans x2).nil_trans e.2⟩

theorem right_one {l : Int} (hl : rt l = true) : rightC [l] = true := by unfold rightC; simp [hl]

theorem clausesLess_F {k : Int} (hA : At h (lu c s)) (uc : U8 c) (k0 : 0 ≤ k) (k1 : k ≤ 255)
    (K : Bool → HP) (hK : ∀ x h', (x = true ∧ Ext [] h h') → K x h') : F_salvorlaw02_ClausesLess s k K h := by
  unfold F_salvorlaw02_ClausesLess
  have ra := made_right uc
  have la := made_len c
  have hl : rt (litOf k) = true := rt_iff.2 (by have := litOf_range k0; omega)
  have uk : U8 [k] := by intro n hn; simp at hn; subst hn; exact ⟨k0, k1⟩
  have r1 := right_one hl
  have rw' := right_without ra (litOf k)
  have lw := withoutP_len (madeP c) (litOf k)
  have ew : (withoutP (madeP c) (litOf k)).2 = 0 := by rw [without_eq ra hl]
  have eu1 := union_eq rw' r1 (by simp; omega)
  have eu2 := union_eq ra r1 (by simp; omega)
  have eh : hasC (withoutP (madeP c) (litOf k)).1 (litOf k) = false := by
    rw [has_eq rw']
    have : litOf k ∉ (withoutP (madeP c) (litOf k)).1 := fun hin => ((mem_without ra hl).1 hin).2 rfl
    simpa using this
  have ei : withinP (withoutP (madeP c) (litOf k)).1 (madeP c) = true := (Go.Cl.within_iff rw' ra).2 fun x hx => ((mem_without ra hl).1 hx).1
  have eq1 : nrm ((withoutP (madeP c) (litOf k)).1 ++ [litOf k]) = nrm (madeP c ++ [litOf k]) := by
    refine nrm_congr (rightC_rt (right_app rw' r1 (by simp; omega))) (rightC_rt (right_app ra r1 (by simp; omega))) fun x => ?_
    rw [List.mem_append, List.mem_append, mem_without ra hl, List.mem_singleton]
    constructor
    · rintro (⟨h, _⟩ | h)
      · exact .inl h
      · exact .inr h
    · rintro (h | h)
      · by_cases e : x = litOf k
        · exact .inr e
        · exact .inl ⟨h, e⟩
      · exact .inr h
  have es : sameP (withoutP (madeP c) (litOf k)).1 (madeP c) = !hasC (madeP c) (litOf k) := by
    rw [Bool.eq_iff_iff, same_iff rw' ra, has_eq ra]
    simp only [Bool.not_eq_true', List.contains_eq_mem, decide_eq_false_iff_not]
    constructor
    · intro h hin; exact ((mem_without ra hl).1 ((h _).2 hin)).2 rfl
    · intro h x
      rw [mem_without ra hl]
      exact ⟨fun a => a.1, fun a => ⟨a, fun e => h (e ▸ a)⟩⟩
  have st := Hs.start h [lu c s] (by simp [hA])
  constructor
  · refine call_of (made_c (st.fz 0 rfl) uc) ?_
    rintro r0 h1 ⟨n1, x1⟩
    have st := st.new x1 n1
    refine st.nw fun b1 h2 st => ?_
    have st := st.asSl 1 (Ty.int .u8).enc [k] rfl rfl
    try simp only [List.nil_append, List.cons_append, List.set_cons_zero, List.set_cons_succ, List.eraseIdx_cons_zero, List.eraseIdx_cons_succ, List.length_cons, List.length_nil, Nat.zero_add, Nat.reduceAdd] at st
    refine call_of (made_c (c := [k]) (st.own 1 rfl).rsl uk) ?_
    rintro r2 h3 ⟨n3, x3⟩
    have st := st.new x3 n3
    try simp only [List.nil_append, List.cons_append, List.set_cons_zero, List.set_cons_succ, List.eraseIdx_cons_zero, List.eraseIdx_cons_succ, List.length_cons, List.length_nil, Nat.zero_add, Nat.reduceAdd] at st
    rw [made_one] at st
    refine rdE (τ := i64) (i := 0) (xs := [litOf k]) (st.own 2 rfl).rsl (by simp) ?_
    simp only [List.getElem_cons_zero]
    refine call_of (without_c (st.own 0 rfl).rsl (litOf k)) ?_
    rintro _ h5 ⟨s5, rfl, n5, x5⟩
    have st := st.new x5 n5
    refine st.nw fun b6 h6 st => ?_
    have st := st.asSl 4 i64.enc [litOf k] rfl rfl
    try simp only [List.nil_append, List.cons_append, List.set_cons_zero, List.set_cons_succ, List.eraseIdx_cons_zero, List.eraseIdx_cons_succ, List.length_cons, List.length_nil, Nat.zero_add, Nat.reduceAdd] at st
    refine call_of (union_c (st.own 3 rfl).rsl (st.own 4 rfl).rsl) ?_
    rintro _ h7 ⟨s7, rfl, n7, x7⟩
    have st := st.new x7 n7
    refine st.nw fun b8 h8 st => ?_
    have st := st.asSl 6 i64.enc [litOf k] rfl rfl
    try simp only [List.nil_append, List.cons_append, List.set_cons_zero, List.set_cons_succ, List.eraseIdx_cons_zero, List.eraseIdx_cons_succ, List.length_cons, List.length_nil, Nat.zero_add, Nat.reduceAdd] at st
    refine call_of (union_c (st.own 0 rfl).rsl (st.own 6 rfl).rsl) ?_
    rintro _ h9 ⟨s9, rfl, n9, x9⟩
    have st := st.new x9 n9
    try simp only [List.nil_append, List.cons_append, List.set_cons_zero, List.set_cons_succ, List.eraseIdx_cons_zero, List.eraseIdx_cons_succ, List.length_cons, List.length_nil, Nat.zero_add, Nat.reduceAdd] at st
    rw [eu1, eu2] at st
    rw [ew, eu1, eu2]
    (change brB false _ _ _; rw [brB_false])
    refine call_of (has_c (st.own 3 rfl).rsl (litOf k)) ?_
    rintro _ h10 ⟨rfl, x10⟩
    have st := st.ext x10
    rw [eh, brB_false]
    refine call_of (within_c (st.own 3 rfl).rsl (st.own 0 rfl).rsl) ?_
    rintro _ h11 ⟨rfl, x11⟩
    have st := st.ext x11
    rw [ei]; simp only [Bool.not_true, brB_false]
    refine call_of (equal_clause (st.own 5 rfl).rsl (st.own 7 rfl).rsl (Nat.le_trans (nrm_length _) (by rw [List.length_append]; simp; omega))) ?_
    rintro _ _ ⟨rfl, rfl⟩
    rw [decide_eq_true eq1]; simp only [Bool.not_true, brB_false]
    refine call_of (same_c (st.own 3 rfl).rsl (st.own 0 rfl).rsl) ?_
    rintro _ h12 ⟨rfl, x12⟩
    have st := st.ext x12
    refine call_of (has_c (st.own 0 rfl).rsl (litOf k)) ?_
    rintro _ h13 ⟨rfl, x13⟩
    have st := st.ext x13
    rw [es, show ((!hasC (madeP c) (litOf k)) == hasC (madeP c) (litOf k)) = false by cases hasC (madeP c) (litOf k) <;> rfl, brB_false]
    exact less_tail ra hl la rfl hK h13 (st.frame (by simp)) (st.own 0 rfl).rsl (st.own 3 rfl).rsl
  · refine st.nw fun b1 h2 st => ?_
    have st := st.asSl 0 (Ty.int .u8).enc [k] rfl rfl
    try simp only [List.nil_append, List.cons_append, List.set_cons_zero, List.set_cons_succ, List.eraseIdx_cons_zero, List.eraseIdx_cons_succ, List.length_cons, List.length_nil, Nat.zero_add, Nat.reduceAdd] at st
    refine call_of (made_c (st.fz 0 rfl) uc) ?_
    rintro r0 h1 ⟨n1, x1⟩
    have st := st.new x1 n1
    try simp only [List.nil_append, List.cons_append, List.set_cons_zero, List.set_cons_succ, List.eraseIdx_cons_zero, List.eraseIdx_cons_succ, List.length_cons, List.length_nil, Nat.zero_add, Nat.reduceAdd] at st
    refine call_of (made_c (c := [k]) (st.own 0 rfl).rsl uk) ?_
    rintro r2 h3 ⟨n3, x3⟩
    have st := st.new x3 n3
    try simp only [List.nil_append, List.cons_append, List.set_cons_zero, List.set_cons_succ, List.eraseIdx_cons_zero, List.eraseIdx_cons_succ, List.length_cons, List.length_nil, Nat.zero_add, Nat.reduceAdd] at st
    rw [made_one] at st
    refine rdE (τ := i64) (i := 0) (xs := [litOf k]) (st.own 2 rfl).rsl (by simp) ?_
    simp only [List.getElem_cons_zero]
    refine call_of (without_c (st.own 1 rfl).rsl (litOf k)) ?_
    rintro _ h5 ⟨s5, rfl, n5, x5⟩
    have st := st.new x5 n5
    refine st.nw fun b6 h6 st => ?_
    have st := st.asSl 4 i64.enc [litOf k] rfl rfl
    try simp only [List.nil_append, List.cons_append, List.set_cons_zero, List.set_cons_succ, List.eraseIdx_cons_zero, List.eraseIdx_cons_succ, List.length_cons, List.length_nil, Nat.zero_add, Nat.reduceAdd] at st
    refine call_of (union_c (st.own 3 rfl).rsl (st.own 4 rfl).rsl) ?_
    rintro _ h7 ⟨s7, rfl, n7, x7⟩
    have st := st.new x7 n7
    refine st.nw fun b8 h8 st => ?_
    have st := st.asSl 6 i64.enc [litOf k] rfl rfl
    try simp only [List.nil_append, List.cons_append, List.set_cons_zero, List.set_cons_succ, List.eraseIdx_cons_zero, List.eraseIdx_cons_succ, List.length_cons, List.length_nil, Nat.zero_add, Nat.reduceAdd] at st
    refine call_of (union_c (st.own 1 rfl).rsl (st.own 6 rfl).rsl) ?_
    rintro _ h9 ⟨s9, rfl, n9, x9⟩
    have st := st.new x9 n9
    try simp only [List.nil_append, List.cons_append, List.set_cons_zero, List.set_cons_succ, List.eraseIdx_cons_zero, List.eraseIdx_cons_succ, List.length_cons, List.length_nil, Nat.zero_add, Nat.reduceAdd] at st
    rw [eu1, eu2] at st
    rw [ew, eu1, eu2]
    (change brB false _ _ _; rw [brB_false])
    refine call_of (has_c (st.own 3 rfl).rsl (litOf k)) ?_
    rintro _ h10 ⟨rfl, x10⟩
    have st := st.ext x10
    rw [eh, brB_false]
    refine call_of (within_c (st.own 3 rfl).rsl (st.own 1 rfl).rsl) ?_
    rintro _ h11 ⟨rfl, x11⟩
    have st := st.ext x11
    rw [ei]; simp only [Bool.not_true, brB_false]
    refine call_of (equal_clause (st.own 5 rfl).rsl (st.own 7 rfl).rsl (Nat.le_trans (nrm_length _) (by rw [List.length_append]; simp; omega))) ?_
    rintro _ _ ⟨rfl, rfl⟩
    rw [decide_eq_true eq1]; simp only [Bool.not_true, brB_false]
    refine call_of (same_c (st.own 3 rfl).rsl (st.own 1 rfl).rsl) ?_
    rintro _ h12 ⟨rfl, x12⟩
    have st := st.ext x12
    refine call_of (has_c (st.own 1 rfl).rsl (litOf k)) ?_
    rintro _ h13 ⟨rfl, x13⟩
    have st := st.ext x13
    rw [es, show ((!hasC (madeP c) (litOf k)) == hasC (madeP c) (litOf k)) = false by cases hasC (madeP c) (litOf k) <;> rfl, brB_false]
    exact less_tail ra hl la rfl hK h13 (st.frame (by simp)) (st.own 1 rfl).rsl (st.own 3 rfl).rsl

end Go.Proofs.S

/-
  ClausesFollow, ClausesWithin: the walks.
-/
set_option linter.unusedVariables false
set_option linter.unusedSimpArgs false
namespace Go.Proofs.S
open Go Go.Sx Go.Proofs Go.Cl

variable {h : Heap} {c d e : List Int} {s s2 s3 : Sl} {fr : Fr} {G As : List Asn}

/-! ### two roads that meet -/

theorem br_sh {b : Bool} {A T : HP} (hA : b = true → (∀ h', Ext [] h h' → T h') → A h) (hT : ∀ h', Ext [] h h' → T h') : brB b A T h := by
  cases b with
  | false => rw [brB_false]; exact hT h (Ext.refl' _ _)
  | true => rw [brB_true]; exact hA rfl hT
/-- b && !f() -/
theorem br_opt {b : Bool} {P : Program} {f : FuncId} {args : Array Value} {F T : HP} (ht : b = true → callT P f args .bool (fun r h' => r = true ∧ Ext [] h h') h) (hT : ∀ h', Ext [] h h' → T h') :
    brB b (callT P f args .bool fun r => brB (!r) F T) T h :=
  br_sh (fun e tail => call_of (ht e) (by rintro _ h' ⟨rfl, x⟩; simp only [Bool.not_true, brB_false]; exact tail h' x)) hT
/-- v == (f() || g()) -/
theorem br_or {v r0 q0 : Bool} {P : Program} {f g : FuncId} {a1 a2 : Array Value} {F T : HP} (hf : callT P f a1 .bool (fun r h' => r = r0 ∧ Ext [] h h') h)
    (hg : ∀ h', Ext [] h h' → callT P g a2 .bool (fun r h2 => r = q0 ∧ Ext [] h' h2) h') (hv : v = (r0 || q0)) (hT : ∀ h', Ext [] h h' → T h') :
    callT P f a1 .bool (fun r => brB r (brB (!(v == true)) F T) (callT P g a2 .bool fun q => brB (!(v == q)) F T)) h := by
  refine call_of hf ?_
  rintro r h1 ⟨e1, x1⟩
  rw [e1]
  cases r0 with
  | true =>
    have e : v = true := by rw [hv]; rfl
    rw [e, brB_true]; simp only [beq_self_eq_true, Bool.not_true, brB_false]; exact hT _ x1
  | false =>
    rw [brB_false]
    refine call_of (hg h1 x1) ?_
    rintro r2 h2 ⟨e2, x2⟩
    rw [e2]
    have e : v = q0 := by rw [hv]; cases q0 <;> rfl
    rw [e]; simp only [beq_self_eq_true, Bool.not_true, brB_false]; exact hT _ (x1.nil_trans x2)
/-- (b && f()) == g() -/
theorem br_and {b r0 q0 : Bool} {P : Program} {f g : FuncId} {a1 a2 : Array Value} {F T : HP} (hf : callT P f a1 .bool (fun r h' => r = r0 ∧ Ext [] h h') h)
    (hg : ∀ h', Ext [] h h' → callT P g a2 .bool (fun r h2 => r = q0 ∧ Ext [] h' h2) h') (hv : (b && r0) = q0) (hT : ∀ h', Ext [] h h' → T h') :
    brB b (callT P f a1 .bool fun r => callT P g a2 .bool fun q => brB (!(r == q)) F T) (callT P g a2 .bool fun q => brB (!(false == q)) F T) h := by
  cases b with
  | true =>
    rw [brB_true]
    refine call_of hf ?_
    rintro r1 h1 ⟨e1, x1⟩
    refine call_of (hg h1 x1) ?_
    rintro r2 h2 ⟨e2, x2⟩
    rw [e1, e2]
    have e : r0 = q0 := by rw [← hv]; rfl
    rw [e]; simp only [beq_self_eq_true, Bool.not_true, brB_false]; exact hT _ (x1.nil_trans x2)
  | false =>
    rw [brB_false]
    refine call_of (hg h (Ext.refl' _ _)) ?_
    rintro r2 h2 ⟨e2, x2⟩
    rw [e2]
    have e : q0 = false := by rw [← hv]; rfl
    rw [e]; simp only [beq_self_eq_true, Bool.not_true, brB_false]; exact hT _ x2

/-! ### models -/

theorem mem_model {b : Nat} {x : Int} : x ∈ modelP b ↔ ∃ v, v < 8 ∧ mlit b v = x := by unfold modelP; simp
theorem model_len (b : Nat) : (modelP b).length = 8 := by unfold modelP; simp
theorem mlit_abs (b v : Nat) : mlit b v = (v : Int) + 1 ∨ mlit b v = -((v : Int) + 1) := by unfold mlit; split <;> simp
/-- A model has no literal with its negation. -/
theorem model_cons {b : Nat} {x : Int} (h1 : x ∈ modelP b) (h2 : -x ∈ modelP b) : False := by
  obtain ⟨v, _, rfl⟩ := mem_model.1 h1
  obtain ⟨w, _, e⟩ := mem_model.1 h2
  have a1 := mlit_abs b v
  have a2 := mlit_abs b w
  have : w = v := by omega
  subst this
  omega

/-! ### ClausesFollow -/

section follow
variable {a b : List Int} {x : Int}

theorem mem_resolve (ra : rightC a = true) (rb : rightC b = true) (rx : rt x = true) (hl : a.length + b.length ≤ 4096) (ha : x ∈ a) (hb : -x ∈ b) :
    resolveP a b x = (nrm ((withoutP a x).1 ++ (withoutP b (-x)).1), 0) ∧ rightC (nrm ((withoutP a x).1 ++ (withoutP b (-x)).1)) = true ∧
      ∀ y, y ∈ nrm ((withoutP a x).1 ++ (withoutP b (-x)).1) ↔ (y ∈ a ∧ y ≠ x) ∨ (y ∈ b ∧ y ≠ -x) := by
  have h1 := right_without ra x
  have h2 := right_without rb (-x)
  have l1 := withoutP_len a x
  have l2 := withoutP_len b (-x)
  have h3 := right_app h1 h2 (by omega)
  refine ⟨?_, right_nrm h3, fun y => ?_⟩
  · unfold resolveP
    rw [ra, rb, rx, show a.contains x = true by simpa using ha, show b.contains (-x) = true by simpa using hb]
    simp only [Bool.and_self, if_true]
    exact union_eq h1 h2 (by omega)
  · rw [mem_nrm h3, List.mem_append, mem_without ra rx, mem_without rb (rt_neg rx)]

set_option maxRecDepth 20000 in
theorem clausesFollow_F {k : Int} (hA : At h (lu c s)) (hB : At h (lu d s2)) (uc : U8 c) (ud : U8 d) (k0 : 0 ≤ k) (k1 : k ≤ 255)
    (K : Bool → HP) (hK : ∀ x h', (x = true ∧ Ext [] h h') → K x h') : F_salvorlaw02_ClausesFollow s s2 k K h := by
  unfold F_salvorlaw02_ClausesFollow
  have uk : U8 [k] := by intro n hn; simp at hn; subst hn; exact ⟨k0, k1⟩
  have rx : rt (litOf k) = true := rt_iff.2 (by have := litOf_range k0; omega)
  have st := Hs.start h [lu c s, lu d s2] (by simp [hA, hB])
  refine st.nw fun b1 h2 st => ?_
  have st := st.asSl 0 (Ty.int .u8).enc [k] rfl rfl
  try simp only [List.nil_append, List.cons_append, List.set_cons_zero, List.set_cons_succ, List.eraseIdx_cons_zero, List.eraseIdx_cons_succ, List.length_cons, List.length_nil, Nat.zero_add, Nat.reduceAdd] at st
  refine call_of (made_c (c := [k]) (st.own 0 rfl).rsl uk) ?_
  rintro r1 h3 ⟨n3, x3⟩
  have st := st.new x3 n3
  try simp only [List.nil_append, List.cons_append, List.set_cons_zero, List.set_cons_succ, List.eraseIdx_cons_zero, List.eraseIdx_cons_succ, List.length_cons, List.length_nil, Nat.zero_add, Nat.reduceAdd] at st
  rw [made_one] at st
  refine rdE (τ := i64) (i := 0) (xs := [litOf k]) (st.own 1 rfl).rsl (by simp) ?_
  simp only [List.getElem_cons_zero, wneg rx]
  refine call_of (made_c (st.fz 0 rfl) uc) ?_
  rintro r4 h4 ⟨n4, x4⟩
  have st := st.new x4 n4
  refine st.nw fun b5 h5 st => ?_
  try simp only [List.nil_append, List.cons_append, List.set_cons_zero, List.set_cons_succ, List.eraseIdx_cons_zero, List.eraseIdx_cons_succ, List.length_cons, List.length_nil, Nat.zero_add, Nat.reduceAdd] at st
  have ra0 := made_right uc
  have la0 := made_len c
  have rb0 := made_right ud
  have lb0 := made_len d
  refine st.apd (enc := i64.enc) (v := litOf k) 2 3 rfl rfl (by decide) rfl (by omega) (by decide) rfl fun s6 h6 st => ?_
  refine call_of (made_c (st.fz 1 rfl) ud) ?_
  rintro r7 h7 ⟨n7, x7⟩
  have st := st.new x7 n7
  refine st.nw fun b8 h8 st => ?_
  try simp only [List.nil_append, List.cons_append, List.set_cons_zero, List.set_cons_succ, List.eraseIdx_cons_zero, List.eraseIdx_cons_succ, List.length_cons, List.length_nil, Nat.zero_add, Nat.reduceAdd] at st
  refine st.apd (enc := i64.enc) (v := -litOf k) 4 5 rfl rfl (by decide) rfl (by omega) (by decide) rfl fun s9 h9 st => ?_
  try simp only [List.nil_append, List.cons_append, List.set_cons_zero, List.set_cons_succ, List.eraseIdx_cons_zero, List.eraseIdx_cons_succ, List.length_cons, List.length_nil, Nat.zero_add, Nat.reduceAdd] at st
  have r1x := right_one rx
  have r1n := right_one (rt_neg rx)
  have ra := right_app ra0 r1x (by simp; omega)
  have rb := right_app rb0 r1n (by simp; omega)
  have la : (madeP c ++ [litOf k]).length ≤ 21 := by simp; omega
  have lb : (madeP d ++ [-litOf k]).length ≤ 21 := by simp; omega
  have xa : litOf k ∈ madeP c ++ [litOf k] := by simp
  have xb : -litOf k ∈ madeP d ++ [-litOf k] := by simp
  generalize madeP c ++ [litOf k] = a at *
  generalize madeP d ++ [-litOf k] = b at *
  generalize litOf k = x at *
  obtain ⟨er, rr, mr⟩ := mem_resolve ra rb rx (by omega) xa xb
  have ec : clashesP a b = ((nrm a).filter (fun l => b.contains (-l)), 0) := by unfold clashesP; rw [ra, rb]; rfl
  have ep : (withoutP a x).2 = 0 := by rw [without_eq ra rx]
  have eq : (withoutP b (-x)).2 = 0 := by rw [without_eq rb (rt_neg rx)]
  have rp := right_without ra x
  have rq := right_without rb (-x)
  refine call_of (resolve_c (st.own 2 rfl).rsl (st.own 4 rfl).rsl x) ?_
  rintro _ h10 ⟨s10, rfl, n10, x10⟩
  have st := st.new x10 n10
  refine call_of (clashes_c (st.own 2 rfl).rsl (st.own 4 rfl).rsl) ?_
  rintro _ h11 ⟨s11, rfl, n11, x11⟩
  have st := st.new x11 n11
  try simp only [List.nil_append, List.cons_append, List.set_cons_zero, List.set_cons_succ, List.eraseIdx_cons_zero, List.eraseIdx_cons_succ, List.length_cons, List.length_nil, Nat.zero_add, Nat.reduceAdd] at st
  rw [er, ec] at st
  rw [er, ec]
  (change brB false _ _ _; rw [brB_false])
  have xC : x ∈ (nrm a).filter (fun l => b.contains (-l)) := List.mem_filter.2 ⟨(mem_nrm ra).2 xa, by simpa using xb⟩
  have lC : ((nrm a).filter (fun l => b.contains (-l))).length ≤ 21 := Nat.le_trans (List.length_filter_le _ _) (Nat.le_trans (nrm_length a) la)
  have q11 : s11.len = ((nrm a).filter (fun l => b.contains (-l))).length := osl_len (st.own 7 rfl)
  have hne := List.length_pos_of_mem xC
  rw [show ((s11.len : Int) == 0) = false by simp; omega, brB_false]
  refine call_of (contains_lit (c := (nrm a).filter (fun l => b.contains (-l))) (st.own 7 rfl).rsl (by omega) x) ?_
  rintro _ hq ⟨rfl, rfl⟩
  rw [show ((nrm a).filter (fun l => b.contains (-l))).contains x = true by rw [List.contains_iff_mem]; exact xC]
  simp only [Bool.not_true, brB_false]
  have hR : At hq (li (nrm ((withoutP a x).1 ++ (withoutP b (-x)).1)) s10) := (st.own 6 rfl).rsl
  have ha : At hq (li a s6) := (st.own 2 rfl).rsl
  have hb : At hq (li b s9) := (st.own 4 rfl).rsl
  have xx := st.frame (h0 := h) (by simp)
  clear st
  generalize nrm ((withoutP a x).1 ++ (withoutP b (-x)).1) = R at *
  refine call_of (has_c hR x) ?_
  rintro _ h12 ⟨rfl, x12⟩
  refine br_opt (fun e13 => call_of (has_c (hb.ext x12) x) (by
    rintro _ h13 ⟨rfl, x13⟩
    refine ⟨(has_iff rb).2 ?_, x13⟩
    rcases (mr x).1 ((has_iff rr).1 e13) with h | h
    · exact absurd rfl h.2
    · exact h.1)) fun h13 x13 => ?_
  have x13 := x12.nil_trans x13
  refine call_of (has_c (hR.ext x13) (-x)) ?_
  rintro _ h14 ⟨rfl, x14⟩
  have x14 := x13.nil_trans x14
  refine br_opt (fun e15 => call_of (has_c (ha.ext x14) (-x)) (by
    rintro _ h15 ⟨rfl, x15⟩
    refine ⟨(has_iff ra).2 ?_, x15⟩
    rcases (mr (-x)).1 ((has_iff rr).1 e15) with h | h
    · exact h.1
    · exact absurd rfl h.2)) fun h15 x15 => ?_
  have x15 := x14.nil_trans x15
  refine br_opt (fun e17 => call_of (always_c (hR.ext x15)) (by
    rintro _ h16 ⟨rfl, x16⟩
    refine ⟨?_, x16⟩
    rw [rr, Bool.true_and, always_iff]
    have hlt : 1 < ((nrm a).filter (fun l => b.contains (-l))).length := by
      have := of_decide_eq_true e17; omega
    have hnd : ((nrm a).filter (fun l => b.contains (-l))).Nodup := Strict.nodup ((strict_nrm ra).filter _)
    obtain ⟨z, hz, hzx⟩ : ∃ z ∈ (nrm a).filter (fun l => b.contains (-l)), z ≠ x := by
      refine Classical.byContradiction fun hn => ?_
      have hall : ∀ z ∈ (nrm a).filter (fun l => b.contains (-l)), z = x := fun z hz => Classical.byContradiction fun hh => hn ⟨z, hz, hh⟩
      generalize (nrm a).filter (fun l => b.contains (-l)) = L at hall hnd hlt
      match L, hall, hnd, hlt with
      | y :: z :: L, hall, hnd, _ =>
        have h1 := hall y (by simp)
        have h2 := hall z (by simp)
        rw [List.nodup_cons] at hnd
        exact hnd.1 (by rw [h1, h2]; simp)
    obtain ⟨hz1, hz2⟩ := List.mem_filter.1 hz
    exact ⟨z, (mr z).2 (.inl ⟨(mem_nrm ra).1 hz1, hzx⟩), (mr (-z)).2 (.inr ⟨by simpa using hz2, by omega⟩)⟩)) fun h16 x16 => ?_
  have x16 := x15.nil_trans x16
  refine call_of (without_c (ha.ext x16) x) ?_
  rintro _ h18 ⟨s18, rfl, n18, x18⟩
  have x18' := x16.nil_trans x18
  refine call_of (without_c (hb.ext x18') (-x)) ?_
  rintro _ h19 ⟨s19, rfl, n19, x19⟩
  have x19' := x18'.nil_trans x19
  rw [ep, eq]
  (change brB false _ _ _; rw [brB_false])
  have hR := hR.ext x19'
  have ha := ha.ext x19'
  have hb := hb.ext x19'
  have hp : At h19 (li (withoutP a x).1 s18) := (n18.at.ext x19).rsl
  have hq : At h19 (li (withoutP b (-x)).1 s19) := n19.at.rsl
  have xx := xx.nil_trans x19'
  have eR : ∀ m, holdsP R m = (holdsP (withoutP a x).1 m || holdsP (withoutP b (-x)).1 m) := fun m => by
    rw [Bool.eq_iff_iff, Bool.or_eq_true, holds_iff rr, holds_iff rp, holds_iff rq]
    constructor
    · rintro ⟨y, hy, hm⟩
      rcases (mr y).1 hy with h | h
      · exact .inl ⟨y, (mem_without ra rx).2 h, hm⟩
      · exact .inr ⟨y, (mem_without rb (rt_neg rx)).2 h, hm⟩
    · rintro (⟨y, hy, hm⟩ | ⟨y, hy, hm⟩)
      · exact ⟨y, (mr y).2 (.inl ((mem_without ra rx).1 hy)), hm⟩
      · exact ⟨y, (mr y).2 (.inr ((mem_without rb (rt_neg rx)).1 hy)), hm⟩
  refine lfp_invh (I := fun m σ h2 => ∃ i : Nat, σ = ((i : Int), false, ()) ∧ i ≤ 256 ∧ Ext [] h19 h2 ∧ m = 256 - i) ⟨_, 0, rfl, by omega, Ext.refl' _ _, rfl⟩ ?_
  rintro m σ h20 X ⟨i, rfl, hi, y0, em⟩ hX
  simp only
  by_cases hlt : i < 256
  · rw [show decide ((i : Int) < 256) = true from decide_eq_true (by omega), brB_true, inc_i (show i < 4611686018427387904 by omega), wrap_u8 (x := (i : Int)) (by omega) (by omega)]
    refine call_of (model_c hlt) ?_
    rintro s22 h22 ⟨n22, y1⟩
    have hm : At h22 (li (modelP i) s22) := n22.at.rsl
    have y1 := y0.nil_trans y1
    have lm := model_len i
    refine call_of (holds_c (hR.ext y1) hm (by omega)) ?_
    rintro _ h23 ⟨rfl, y2⟩
    have hm := hm.ext y2
    have y2 := y1.nil_trans y2
    refine call_of (holds_c (ha.ext y2) hm (by omega)) ?_
    rintro _ h24 ⟨rfl, y3⟩
    have hm := hm.ext y3
    have y3 := y2.nil_trans y3
    refine br_sh (fun e24 tail => call_of (holds_c (hb.ext y3) hm (by omega)) (by
      rintro _ h25 ⟨rfl, y4⟩
      refine br_sh (fun e25 tail2 => ?_) fun h26 y5 => tail h26 (y4.nil_trans y5)
      have : holdsP R (modelP i) = true := by
        obtain ⟨y, hy, hym⟩ := (holds_iff ra).1 e24
        obtain ⟨z, hz, hzm⟩ := (holds_iff rb).1 e25
        refine (holds_iff rr).2 ?_
        by_cases eyx : y = x
        · refine ⟨z, (mr z).2 (.inr ⟨hz, fun ez => ?_⟩), hzm⟩
          subst eyx; subst ez
          exact model_cons hym hzm
        · exact ⟨y, (mr y).2 (.inl ⟨hy, eyx⟩), hym⟩
      rw [show (!holdsP R (modelP i)) = false by rw [this]; rfl, brB_false]
      exact tail _ y4)) fun h26 y4 => ?_
    have hm := hm.ext y4
    have y4 := y3.nil_trans y4
    refine br_or (q0 := holdsP (withoutP b (-x)).1 (modelP i)) (holds_c (hp.ext y4) hm (by omega)) (fun h27 y5 => holds_c ((hq.ext y4).ext y5) (hm.ext y5) (by omega)) (eR _) fun h28 y6 => ?_
    exact hX _ _ _ ⟨i + 1, rfl, by omega, y4.nil_trans y6, rfl⟩ (by omega)
  · rw [show decide ((i : Int) < 256) = false from decide_eq_false (by omega), brB_false]
    exact call_of awake_c fun r h' e => hK r h' ⟨e.1, (xx.nil_trans y0).nil_trans e.2⟩

end follow
end Go.Proofs.S

/-
  ClausesWithin: the walk.
-/
set_option linter.unusedVariables false
set_option linter.unusedSimpArgs false
namespace Go.Proofs.S
open Go Go.Sx Go.Proofs Go.Cl

variable {h : Heap} {c d e : List Int} {s s2 s3 : Sl}

theorem wt {P : Program} {f : FuncId} {args : Array Value} {r0 : Bool} (hc : callT P f args .bool (fun r h' => r = r0 ∧ Ext [] h h') h) (e : r0 = true) : callT P f args .bool (fun r h' => r = true ∧ Ext [] h h') h := by rw [e] at hc; exact hc

set_option maxRecDepth 20000 in
theorem clausesWithin_F (hA : At h (lu c s)) (hB : At h (lu d s2)) (hC : At h (lu e s3)) (uc : U8 c) (ud : U8 d) (ue : U8 e)
    (K : Bool → HP) (hK : ∀ x h', (x = true ∧ Ext [] h h') → K x h') : F_salvorlaw02_ClausesWithin s s2 s3 K h := by
  unfold F_salvorlaw02_ClausesWithin
  refine call_of (made_c hA uc) ?_
  rintro r0 h1 ⟨n1, x1⟩
  refine call_of (made_c (hB.ext x1) ud) ?_
  rintro r1 h2 ⟨n2, x2⟩
  have x2' := x1.nil_trans x2
  refine call_of (made_c (hC.ext x2') ue) ?_
  rintro r2 h3 ⟨n3, x3⟩
  have ra := made_right uc
  have la := made_len c
  have rb := made_right ud
  have lb := made_len d
  have rc := made_right ue
  have ha := (n1.at.rsl.ext x2).ext x3
  have hb := n2.at.rsl.ext x3
  have hc := n3.at.rsl
  have xx := x2'.nil_trans x3
  clear hA hB hC x1 x2 x3 n1 n2 n3 x2'
  generalize madeP c = a at *
  generalize madeP d = b at *
  generalize madeP e = g at *
  have eu := union_eq ra rb (by omega)
  have rab := right_app ra rb (by omega)
  have ru := right_nrm rab
  have mu : ∀ x, x ∈ nrm (a ++ b) ↔ x ∈ a ∨ x ∈ b := fun x => by rw [mem_nrm rab, List.mem_append]
  refine call_of (union_c ha hb) ?_
  rintro _ h4 ⟨s4, rfl, n4, x4⟩
  rw [eu] at n4
  rw [eu]
  have hu := n4.at.rsl
  have ha := ha.ext x4
  have hb := hb.ext x4
  have hc := hc.ext x4
  have xx := xx.nil_trans x4
  clear x4 n4 eu
  generalize nrm (a ++ b) = u at *
  have w1 := @Go.Cl.within_iff a b ra rb
  refine call_of (within_c ha hb) ?_
  rintro _ h5 ⟨rfl, x5⟩
  (change brB false _ _ _; rw [brB_false])
  refine call_of (wt (within_c (ha.ext x5) (ha.ext x5)) ((Go.Cl.within_iff ra ra).2 fun x hx => hx)) ?_
  rintro _ h6 ⟨rfl, x6⟩
  have x6 := x5.nil_trans x6
  (change brB false _ _ _; rw [brB_false])
  refine call_of (wt (within_c (ha.ext x6) (hu.ext x6)) ((Go.Cl.within_iff ra ru).2 fun x hx => (mu x).2 (.inl hx))) ?_
  rintro _ h7 ⟨rfl, x7⟩
  have x7 := x6.nil_trans x7
  (change brB false _ _ _; rw [brB_false])
  refine call_of (wt (within_c (hb.ext x7) (hu.ext x7)) ((Go.Cl.within_iff rb ru).2 fun x hx => (mu x).2 (.inr hx))) ?_
  rintro _ h8 ⟨rfl, x8⟩
  have x8 := x7.nil_trans x8
  (change brB false _ _ _; rw [brB_false])
  refine br_sh (fun e4 tail => call_of (within_c (hb.ext x8) (hc.ext x8)) (by
    rintro _ h9 ⟨rfl, x9⟩
    have x9' := x8.nil_trans x9
    refine br_sh (fun e8 tail2 => call_of (wt (within_c (ha.ext x9') (hc.ext x9')) ((Go.Cl.within_iff ra rc).2 fun x hx => (Go.Cl.within_iff rb rc).1 e8 x (w1.1 e4 x hx))) (by
      rintro _ h10 ⟨rfl, x10⟩
      (change brB false _ _ _; rw [brB_false])
      exact tail _ (x9.nil_trans x10))) fun h10 x10 => tail h10 (x9.nil_trans x10))) fun h9 x9 => ?_
  have x9 := x8.nil_trans x9
  refine br_and (q0 := sameP a b) (within_c (hb.ext x9) (ha.ext x9)) (fun h' x => same_c ((ha.ext x9).ext x) ((hb.ext x9).ext x)) ?_ fun h10 x10 => ?_
  · rw [Bool.eq_iff_iff, Bool.and_eq_true, w1, Go.Cl.within_iff rb ra, same_iff ra rb]
    exact ⟨fun ⟨p, q⟩ x => ⟨p x, q x⟩, fun p => ⟨fun x => (p x).1, fun x => (p x).2⟩⟩
  have x10 := x9.nil_trans x10
  refine call_of (same_c (hu.ext x10) (hb.ext x10)) ?_
  rintro _ h11 ⟨rfl, x11⟩
  have x11 := x10.nil_trans x11
  have es : withinP a b = sameP u b := by
    rw [Bool.eq_iff_iff, w1, same_iff ru rb]
    constructor
    · intro p x; rw [mu]; exact ⟨fun q => q.elim (p x) id, .inr⟩
    · intro p x hx; exact (p x).1 ((mu x).2 (.inl hx))
  rw [show (!(withinP a b == sameP u b)) = false by rw [es]; simp, brB_false]
  refine call_of (within_c (ha.ext x11) (hc.ext x11)) ?_
  rintro _ h12 ⟨rfl, x12⟩
  have x12 := x11.nil_trans x12
  refine br_sh (fun e13 tail => call_of (within_c (hb.ext x12) (hc.ext x12)) (by
    rintro _ h13 ⟨rfl, x13⟩
    have x13' := x12.nil_trans x13
    refine br_sh (fun e14 tail2 => call_of (wt (within_c (hu.ext x13') (hc.ext x13')) ((Go.Cl.within_iff ru rc).2 fun x hx => ((mu x).1 hx).elim ((Go.Cl.within_iff ra rc).1 e13 x) ((Go.Cl.within_iff rb rc).1 e14 x))) (by
      rintro _ h14 ⟨rfl, x14⟩
      (change brB false _ _ _; rw [brB_false])
      exact tail _ (x13.nil_trans x14))) fun h14 x14 => tail h14 (x13.nil_trans x14))) fun h13 x13 => ?_
  have x13 := x12.nil_trans x13
  have xx := xx.nil_trans x13
  have ha := ha.ext x13
  have hb := hb.ext x13
  have hu := hu.ext x13
  clear hc x5 x6 x7 x8 x9 x10 x11 x12 x13
  refine lfp_invh (I := fun m σ h2 => ∃ i : Nat, σ = ((i : Int), false, ()) ∧ i ≤ 256 ∧ Ext [] h13 h2 ∧ m = 256 - i) ⟨_, 0, rfl, by omega, Ext.refl' _ _, rfl⟩ ?_
  rintro m σ h20 X ⟨i, rfl, hi, y0, em⟩ hX
  simp only
  by_cases hlt : i < 256
  · rw [show decide ((i : Int) < 256) = true from decide_eq_true (by omega), brB_true, inc_i (show i < 4611686018427387904 by omega), wrap_u8 (x := (i : Int)) (by omega) (by omega)]
    refine call_of (model_c hlt) ?_
    rintro s22 h22 ⟨n22, y1⟩
    have hm : At h22 (li (modelP i) s22) := n22.at.rsl
    have y1 := y0.nil_trans y1
    have lm := model_len i
    refine call_of (holds_c (ha.ext y1) hm (by omega)) ?_
    rintro _ h23 ⟨rfl, y2⟩
    have hm := hm.ext y2
    have y2 := y1.nil_trans y2
    refine call_of (holds_c (hb.ext y2) hm (by omega)) ?_
    rintro _ h24 ⟨rfl, y3⟩
    have hm := hm.ext y3
    have y3 := y2.nil_trans y3
    have eH : holdsP u (modelP i) = (holdsP a (modelP i) || holdsP b (modelP i)) := by
      rw [Bool.eq_iff_iff, Bool.or_eq_true, holds_iff ru, holds_iff ra, holds_iff rb]
      constructor
      · rintro ⟨y, hy, hym⟩
        rcases (mu y).1 hy with h | h
        · exact .inl ⟨y, h, hym⟩
        · exact .inr ⟨y, h, hym⟩
      · rintro (⟨y, hy, hym⟩ | ⟨y, hy, hym⟩)
        · exact ⟨y, (mu y).2 (.inl hy), hym⟩
        · exact ⟨y, (mu y).2 (.inr hy), hym⟩
    refine br_sh (fun e24 tail => br_sh (fun e25 tail2 => ?_) tail) fun h25 y4 => ?_
    · have : holdsP b (modelP i) = true := by
        obtain ⟨y, hy, hym⟩ := (holds_iff ra).1 e25
        exact (holds_iff rb).2 ⟨y, w1.1 e24 y hy, hym⟩
      rw [show (!holdsP b (modelP i)) = false by rw [this]; rfl, brB_false]
      exact tail _ (Ext.refl' _ _)
    · have hm := hm.ext y4
      have y4 := y3.nil_trans y4
      refine call_of (holds_c (hu.ext y4) hm (by omega)) ?_
      rintro _ h26 ⟨rfl, y5⟩
      have y5 := y4.nil_trans y5
      have nx := hX _ _ h26 ⟨i + 1, rfl, by omega, y5, rfl⟩ (by omega)
      rw [eH]
      cases holdsP a (modelP i) with
      | true => simp only [brB_true, Bool.true_or, beq_self_eq_true, Bool.not_true, brB_false]; exact nx
      | false => simp only [Bool.false_or, beq_self_eq_true, Bool.not_true, brB_false]; exact nx
  · rw [show decide ((i : Int) < 256) = false from decide_eq_false (by omega), brB_false]
    exact call_of awake_c fun r h' e => hK r h' ⟨e.1, (xx.nil_trans y0).nil_trans e.2⟩

end Go.Proofs.S
