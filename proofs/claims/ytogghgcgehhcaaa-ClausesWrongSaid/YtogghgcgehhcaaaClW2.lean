/-
  ClausesOrder, ClausesLess: the walks.
-/
import Derived.Test.YtogghgcgehhcaaaClW1
import Derived.Test.YtogghgcgehhcaaaClO
set_option linter.unusedVariables false
set_option linter.unusedSimpArgs false
namespace Go.Proofs.S
open Go Go.Sx Go.Proofs Go.Cl

variable {h : Heap} {c d e : List Int} {s s2 s3 : Sl} {fr : Fr} {G As : List Asn}

theorem litOf_range {n : Int} (h0 : 0 ≤ n) : (1 ≤ litOf n ∧ litOf n ≤ 8) ∨ (-8 ≤ litOf n ∧ litOf n ≤ -1) := by unfold litOf; split <;> omega
theorem made_range (hu : U8 c) : ∀ x ∈ madeP c, (1 ≤ x ∧ x ≤ 8) ∨ (-8 ≤ x ∧ x ≤ -1) := by
  intro x hx
  obtain ⟨n, hn, rfl⟩ := List.mem_map.1 hx
  exact litOf_range (hu n (List.mem_of_mem_take hn)).1
theorem made_len (c : List Int) : (madeP c).length ≤ 20 := by unfold madeP; simp; omega
theorem made_right (hu : U8 c) : rightC (madeP c) = true := by
  have := made_len c
  simp only [rightC, Bool.and_eq_true, List.all_eq_true, decide_eq_true_eq]
  exact ⟨by omega, fun x hx => rt_iff.2 (by have := made_range hu x hx; omega)⟩

theorem clausesOrder_F (hA : At h (lu c s)) (hB : At h (lu d s2)) (hC : At h (lu e s3)) (uc : U8 c) (ud : U8 d) (ue : U8 e)
    (K : Bool → HP) (hK : ∀ x h', (x = true ∧ Ext [] h h') → K x h') : F_salvorlaw02_ClausesOrder s s2 s3 K h := by
  unfold F_salvorlaw02_ClausesOrder
  have st := Hs.start h [lu c s, lu d s2, lu e s3] (by simp [hA, hB, hC])
  refine call_of (made_c (st.fz 0 rfl) uc) ?_
  rintro r0 h1 ⟨n1, x1⟩
  have st := st.new x1 n1
  try simp only [List.nil_append, List.cons_append, List.set_cons_zero, List.set_cons_succ, List.eraseIdx_cons_zero, List.eraseIdx_cons_succ, List.length_cons, List.length_nil, Nat.zero_add, Nat.reduceAdd] at st
  refine call_of (made_c (st.fz 1 rfl) ud) ?_
  rintro r1 h2 ⟨n2, x2⟩
  have st := st.new x2 n2
  try simp only [List.nil_append, List.cons_append, List.set_cons_zero, List.set_cons_succ, List.eraseIdx_cons_zero, List.eraseIdx_cons_succ, List.length_cons, List.length_nil, Nat.zero_add, Nat.reduceAdd] at st
  refine call_of (made_c (st.fz 2 rfl) ue) ?_
  rintro r2 h3 ⟨n3, x3⟩
  have st := st.new x3 n3
  try simp only [List.nil_append, List.cons_append, List.set_cons_zero, List.set_cons_succ, List.eraseIdx_cons_zero, List.eraseIdx_cons_succ, List.length_cons, List.length_nil, Nat.zero_add, Nat.reduceAdd] at st
  have ra := made_right uc
  have rb := made_right ud
  have rc := made_right ue
  generalize madeP c = a at *
  generalize madeP d = b at *
  generalize madeP e = g at *
  have ea : normP a = (nrm a, alwaysC a, 0) := by unfold normP; rw [ra]; rfl
  have eb : normP b = (nrm b, alwaysC b, 0) := by unfold normP; rw [rb]; rfl
  refine call_of (norm_c (st.own 0 rfl).rsl) ?_
  rintro _ h4 ⟨s4, rfl, n4, x4⟩
  have st := st.new x4 n4
  try simp only [List.nil_append, List.cons_append, List.set_cons_zero, List.set_cons_succ, List.eraseIdx_cons_zero, List.eraseIdx_cons_succ, List.length_cons, List.length_nil, Nat.zero_add, Nat.reduceAdd] at st
  refine call_of (norm_c (st.own 1 rfl).rsl) ?_
  rintro _ h5 ⟨s5, rfl, n5, x5⟩
  have st := st.new x5 n5
  try simp only [List.nil_append, List.cons_append, List.set_cons_zero, List.set_cons_succ, List.eraseIdx_cons_zero, List.eraseIdx_cons_succ, List.length_cons, List.length_nil, Nat.zero_add, Nat.reduceAdd] at st
  refine call_of (compare_c (st.own 0 rfl).rsl (st.own 1 rfl).rsl) ?_
  rintro _ h6 ⟨rfl, x6⟩
  have st := st.ext x6
  rw [ea, eb] at st
  rw [ea, eb]
  have q1 : s4.len = (nrm a).length := osl_len (st.own 3 rfl)
  have q2 : s5.len = (nrm b).length := osl_len (st.own 4 rfl)
  (change brB true _ _ _; rw [brB_true])
  refine call_of (compare_c (st.own 1 rfl).rsl (st.own 0 rfl).rsl) ?_
  rintro _ h7 ⟨rfl, x7⟩
  have st := st.ext x7
  have v := compare_vals ra rb
  have an := compare_anti ra rb
  have e1 : (compareP a b == IntKind.wrap .i64 (0 - compareP b a)) = true := by
    rw [wrap_i64 (by omega) (by omega), show 0 - compareP b a = compareP a b by omega]; simp
  rw [e1, brB_true]
  refine call_of (same_c (st.own 0 rfl).rsl (st.own 1 rfl).rsl) ?_
  rintro _ h8 ⟨rfl, x8⟩
  have st := st.ext x8
  rw [same_compare ra rb, beq_self_eq_true, brB_true]
  have tail : ∀ h', Hs [([], h)] [lu c s, lu d s2, lu e s3] [lo a r0, lo b r1, lo g r2, lo (nrm a) s4, lo (nrm b) s5] h' →
      brB (decide ((s4.len : Int) ≥ (s5.len : Int)))
        (callT Try.prog fn_clauses_Compare #[(.slice s4.a s4.len s4.cap), (.slice s5.a s5.len s5.cap)] (.int .i64) fun r8 => brB (compareP a b == r8) (callT Try.prog fn_salvorlaw02_awake #[] .bool fun r9 => K r9) (K false))
        (brB (compareP a b == (-1 : Int)) (callT Try.prog fn_clauses_Compare #[(.slice s4.a s4.len s4.cap), (.slice s5.a s5.len s5.cap)] (.int .i64) fun r10 => brB (compareP a b == r10) (callT Try.prog fn_salvorlaw02_awake #[] .bool fun r11 => K r11) (K false)) (K false)) h' := by
    intro h' st
    by_cases hlen : (nrm a).length ≥ (nrm b).length
    · rw [decide_eq_true (by omega), brB_true]
      refine call_of (compare_c (st.own 3 rfl).rsl (st.own 4 rfl).rsl) ?_
      rintro _ h9 ⟨rfl, x9⟩
      have st := st.ext x9
      rw [compare_nrm ra rb, beq_self_eq_true, brB_true]
      exact call_of awake_c fun r h' e => hK r h' ⟨e.1, (st.frame (by simp)).nil_trans e.2⟩
    · rw [decide_eq_false (by omega), brB_false, compare_len ra rb (by omega)]
      (change brB true _ _ _; rw [brB_true])
      refine call_of (compare_c (st.own 3 rfl).rsl (st.own 4 rfl).rsl) ?_
      rintro _ h9 ⟨rfl, x9⟩
      have st := st.ext x9
      rw [compare_nrm ra rb, compare_len ra rb (by omega)]
      (change brB true _ _ _; rw [brB_true])
      exact call_of awake_c fun r h' e => hK r h' ⟨e.1, (st.frame (by simp)).nil_trans e.2⟩
  by_cases h1 : compareP a b > 0
  · rw [decide_eq_true h1, brB_true]; exact tail _ st
  · rw [decide_eq_false h1, brB_false]
    refine call_of (compare_c (st.own 1 rfl).rsl (st.own 2 rfl).rsl) ?_
    rintro _ h9 ⟨rfl, x9⟩
    have st := st.ext x9
    by_cases h2 : compareP b g > 0
    · rw [decide_eq_true h2, brB_true]; exact tail _ st
    · rw [decide_eq_false h2, brB_false]
      refine call_of (compare_c (st.own 0 rfl).rsl (st.own 2 rfl).rsl) ?_
      rintro _ h10 ⟨rfl, x10⟩
      have st := st.ext x10
      rw [decide_eq_true (compare_trans ra rb rc (by omega) (by omega)), brB_true]
      exact tail _ st

/-! ### ClausesLess -/

/-- The literal of one number. -/
theorem made_one (x : Int) : madeP [x] = [litOf x] := rfl

theorem less_tail {l : Int} {st0 : Heap} {a : List Int} {r0 rw : Sl} {wl : List Int} (ra : rightC a = true) (hl : rt l = true) (hlen : a.length ≤ 20)
    (hw : wl = (withoutP a l).1) {K : Bool → HP} (hK : ∀ x h', (x = true ∧ Ext [] st0 h') → K x h') :
    ∀ h', Ext [] st0 h' → At h' (li a r0) → At h' (li wl rw) →
    lfp (σ := (Int × (Bool × Unit))) (fun X15 s16 => brB (decide (s16.1 < (r0.len : Int))) (sx r0.a r0.len s16.1 1 fun p17 => ldT (.int .i64) p17 fun x18 => brB (x18 != l)
      (callT Try.prog fn_clauses_Has #[(.slice rw.a rw.len rw.cap), (.int .i64 x18)] .bool fun r19 => brB (!r19) (K false) (X15 ((IntKind.wrap .i64 (s16.1 + (1 : Int))), s16.2.1, ()))) (X15 ((IntKind.wrap .i64 (s16.1 + (1 : Int))), s16.2.1, ())))
      (callT Try.prog fn_salvorlaw02_awake #[] .bool fun r20 => K r20)) ((0 : Int), false, ()) h' := by
  intro h' x hA hW
  have l1 := rsl_len hA
  refine lfp_invh (I := fun m σ h2 => ∃ i : Nat, σ = ((i : Int), false, ()) ∧ i ≤ a.length ∧ Ext [] h' h2 ∧ m = a.length - i) ⟨_, 0, rfl, by omega, Ext.refl' _ _, rfl⟩ ?_
  rintro m σ h2 X ⟨i, rfl, hi, x2, em⟩ hX
  simp only
  by_cases hlt : i < a.length
  · rw [show decide ((i : Int) < (r0.len : Int)) = true by rw [l1]; exact dlt_t hlt, brB_true, inc_i (show i < 4611686018427387904 by omega)]
    refine rdE (τ := i64) (hA.ext x2) hlt ?_
    by_cases he : a[i] = l
    · rw [show (a[i] != l) = false by simp [he], brB_false]
      exact hX _ _ _ ⟨i + 1, rfl, by omega, x2, rfl⟩ (by omega)
    · rw [show (a[i] != l) = true by simp [he], brB_true]
      refine call_of (has_c (hW.ext x2) a[i]) ?_
      rintro _ h3 ⟨rfl, x3⟩
      have : hasC wl a[i] = true := by
        rw [hw]; exact (has_iff (right_without ra l)).2 ((mem_without ra hl).2 ⟨List.getElem_mem hlt, he⟩)
      rw [this]; simp only [Bool.not_true, brB_false]
      exact hX _ _ _ ⟨i + 1, rfl, by omega, x2.nil_trans x3, rfl⟩ (by omega)
  · rw [show decide ((i : Int) < (r0.len : Int)) = false by rw [l1]; exact dlt_f hlt, brB_false]
    exact call_of awake_c fun r h' e => hK r h' ⟨e.1, (x.nil_trans x2).nil_trans e.2⟩

theorem right_one {l : Int} (hl : rt l = true) : rightC [l] = true := by unfold rightC; simp [hl]

theorem clausesLess_F {k : Int} (hA : At h (lu c s)) (uc : U8 c) (k0 : 0 ≤ k) (k1 : k ≤ 255)
    (K : Bool → HP) (hK : ∀ x h', (x = true ∧ Ext [] h h') → K x h') : F_salvorlaw02_ClausesLess s k K h := by
  unfold F_salvorlaw02_ClausesLess
  have ra := made_right uc
  have la := made_len c
  have hl : rt (litOf k) = true := rt_iff.2 (by have := litOf_range k0; omega)
  have uk : U8 [k] := by intro n hn; simp at hn; subst hn; exact ⟨k0, k1⟩
  have r1 := right_one hl
  have rw' := right_without ra (litOf k)
  have lw := withoutP_len (madeP c) (litOf k)
  have ew : (withoutP (madeP c) (litOf k)).2 = 0 := by rw [without_eq ra hl]
  have eu1 := union_eq rw' r1 (by simp; omega)
  have eu2 := union_eq ra r1 (by simp; omega)
  have eh : hasC (withoutP (madeP c) (litOf k)).1 (litOf k) = false := by
    rw [has_eq rw']
    have : litOf k ∉ (withoutP (madeP c) (litOf k)).1 := fun hin => ((mem_without ra hl).1 hin).2 rfl
    simpa using this
  have ei : withinP (withoutP (madeP c) (litOf k)).1 (madeP c) = true := (Go.Cl.within_iff rw' ra).2 fun x hx => ((mem_without ra hl).1 hx).1
  have eq1 : nrm ((withoutP (madeP c) (litOf k)).1 ++ [litOf k]) = nrm (madeP c ++ [litOf k]) := by
    refine nrm_congr (rightC_rt (right_app rw' r1 (by simp; omega))) (rightC_rt (right_app ra r1 (by simp; omega))) fun x => ?_
    rw [List.mem_append, List.mem_append, mem_without ra hl, List.mem_singleton]
    constructor
    · rintro (⟨h, _⟩ | h)
      · exact .inl h
      · exact .inr h
    · rintro (h | h)
      · by_cases e : x = litOf k
        · exact .inr e
        · exact .inl ⟨h, e⟩
      · exact .inr h
  have es : sameP (withoutP (madeP c) (litOf k)).1 (madeP c) = !hasC (madeP c) (litOf k) := by
    rw [Bool.eq_iff_iff, same_iff rw' ra, has_eq ra]
    simp only [Bool.not_eq_true', List.contains_eq_mem, decide_eq_false_iff_not]
    constructor
    · intro h hin; exact ((mem_without ra hl).1 ((h _).2 hin)).2 rfl
    · intro h x
      rw [mem_without ra hl]
      exact ⟨fun a => a.1, fun a => ⟨a, fun e => h (e ▸ a)⟩⟩
  have st := Hs.start h [lu c s] (by simp [hA])
  constructor
  · refine call_of (made_c (st.fz 0 rfl) uc) ?_
    rintro r0 h1 ⟨n1, x1⟩
    have st := st.new x1 n1
    refine st.nw fun b1 h2 st => ?_
    have st := st.asSl 1 (Ty.int .u8).enc [k] rfl rfl
    try simp only [List.nil_append, List.cons_append, List.set_cons_zero, List.set_cons_succ, List.eraseIdx_cons_zero, List.eraseIdx_cons_succ, List.length_cons, List.length_nil, Nat.zero_add, Nat.reduceAdd] at st
    refine call_of (made_c (c := [k]) (st.own 1 rfl).rsl uk) ?_
    rintro r2 h3 ⟨n3, x3⟩
    have st := st.new x3 n3
    try simp only [List.nil_append, List.cons_append, List.set_cons_zero, List.set_cons_succ, List.eraseIdx_cons_zero, List.eraseIdx_cons_succ, List.length_cons, List.length_nil, Nat.zero_add, Nat.reduceAdd] at st
    rw [made_one] at st
    refine rdE (τ := i64) (i := 0) (xs := [litOf k]) (st.own 2 rfl).rsl (by simp) ?_
    simp only [List.getElem_cons_zero]
    refine call_of (without_c (st.own 0 rfl).rsl (litOf k)) ?_
    rintro _ h5 ⟨s5, rfl, n5, x5⟩
    have st := st.new x5 n5
    refine st.nw fun b6 h6 st => ?_
    have st := st.asSl 4 i64.enc [litOf k] rfl rfl
    try simp only [List.nil_append, List.cons_append, List.set_cons_zero, List.set_cons_succ, List.eraseIdx_cons_zero, List.eraseIdx_cons_succ, List.length_cons, List.length_nil, Nat.zero_add, Nat.reduceAdd] at st
    refine call_of (union_c (st.own 3 rfl).rsl (st.own 4 rfl).rsl) ?_
    rintro _ h7 ⟨s7, rfl, n7, x7⟩
    have st := st.new x7 n7
    refine st.nw fun b8 h8 st => ?_
    have st := st.asSl 6 i64.enc [litOf k] rfl rfl
    try simp only [List.nil_append, List.cons_append, List.set_cons_zero, List.set_cons_succ, List.eraseIdx_cons_zero, List.eraseIdx_cons_succ, List.length_cons, List.length_nil, Nat.zero_add, Nat.reduceAdd] at st
    refine call_of (union_c (st.own 0 rfl).rsl (st.own 6 rfl).rsl) ?_
    rintro _ h9 ⟨s9, rfl, n9, x9⟩
    have st := st.new x9 n9
    try simp only [List.nil_append, List.cons_append, List.set_cons_zero, List.set_cons_succ, List.eraseIdx_cons_zero, List.eraseIdx_cons_succ, List.length_cons, List.length_nil, Nat.zero_add, Nat.reduceAdd] at st
    rw [eu1, eu2] at st
    rw [ew, eu1, eu2]
    (change brB false _ _ _; rw [brB_false])
    refine call_of (has_c (st.own 3 rfl).rsl (litOf k)) ?_
    rintro _ h10 ⟨rfl, x10⟩
    have st := st.ext x10
    rw [eh, brB_false]
    refine call_of (within_c (st.own 3 rfl).rsl (st.own 0 rfl).rsl) ?_
    rintro _ h11 ⟨rfl, x11⟩
    have st := st.ext x11
    rw [ei]; simp only [Bool.not_true, brB_false]
    refine call_of (equal_clause (st.own 5 rfl).rsl (st.own 7 rfl).rsl (Nat.le_trans (nrm_length _) (by rw [List.length_append]; simp; omega))) ?_
    rintro _ _ ⟨rfl, rfl⟩
    rw [decide_eq_true eq1]; simp only [Bool.not_true, brB_false]
    refine call_of (same_c (st.own 3 rfl).rsl (st.own 0 rfl).rsl) ?_
    rintro _ h12 ⟨rfl, x12⟩
    have st := st.ext x12
    refine call_of (has_c (st.own 0 rfl).rsl (litOf k)) ?_
    rintro _ h13 ⟨rfl, x13⟩
    have st := st.ext x13
    rw [es, show ((!hasC (madeP c) (litOf k)) == hasC (madeP c) (litOf k)) = false by cases hasC (madeP c) (litOf k) <;> rfl, brB_false]
    exact less_tail ra hl la rfl hK h13 (st.frame (by simp)) (st.own 0 rfl).rsl (st.own 3 rfl).rsl
  · refine st.nw fun b1 h2 st => ?_
    have st := st.asSl 0 (Ty.int .u8).enc [k] rfl rfl
    try simp only [List.nil_append, List.cons_append, List.set_cons_zero, List.set_cons_succ, List.eraseIdx_cons_zero, List.eraseIdx_cons_succ, List.length_cons, List.length_nil, Nat.zero_add, Nat.reduceAdd] at st
    refine call_of (made_c (st.fz 0 rfl) uc) ?_
    rintro r0 h1 ⟨n1, x1⟩
    have st := st.new x1 n1
    try simp only [List.nil_append, List.cons_append, List.set_cons_zero, List.set_cons_succ, List.eraseIdx_cons_zero, List.eraseIdx_cons_succ, List.length_cons, List.length_nil, Nat.zero_add, Nat.reduceAdd] at st
    refine call_of (made_c (c := [k]) (st.own 0 rfl).rsl uk) ?_
    rintro r2 h3 ⟨n3, x3⟩
    have st := st.new x3 n3
    try simp only [List.nil_append, List.cons_append, List.set_cons_zero, List.set_cons_succ, List.eraseIdx_cons_zero, List.eraseIdx_cons_succ, List.length_cons, List.length_nil, Nat.zero_add, Nat.reduceAdd] at st
    rw [made_one] at st
    refine rdE (τ := i64) (i := 0) (xs := [litOf k]) (st.own 2 rfl).rsl (by simp) ?_
    simp only [List.getElem_cons_zero]
    refine call_of (without_c (st.own 1 rfl).rsl (litOf k)) ?_
    rintro _ h5 ⟨s5, rfl, n5, x5⟩
    have st := st.new x5 n5
    refine st.nw fun b6 h6 st => ?_
    have st := st.asSl 4 i64.enc [litOf k] rfl rfl
    try simp only [List.nil_append, List.cons_append, List.set_cons_zero, List.set_cons_succ, List.eraseIdx_cons_zero, List.eraseIdx_cons_succ, List.length_cons, List.length_nil, Nat.zero_add, Nat.reduceAdd] at st
    refine call_of (union_c (st.own 3 rfl).rsl (st.own 4 rfl).rsl) ?_
    rintro _ h7 ⟨s7, rfl, n7, x7⟩
    have st := st.new x7 n7
    refine st.nw fun b8 h8 st => ?_
    have st := st.asSl 6 i64.enc [litOf k] rfl rfl
    try simp only [List.nil_append, List.cons_append, List.set_cons_zero, List.set_cons_succ, List.eraseIdx_cons_zero, List.eraseIdx_cons_succ, List.length_cons, List.length_nil, Nat.zero_add, Nat.reduceAdd] at st
    refine call_of (union_c (st.own 1 rfl).rsl (st.own 6 rfl).rsl) ?_
    rintro _ h9 ⟨s9, rfl, n9, x9⟩
    have st := st.new x9 n9
    try simp only [List.nil_append, List.cons_append, List.set_cons_zero, List.set_cons_succ, List.eraseIdx_cons_zero, List.eraseIdx_cons_succ, List.length_cons, List.length_nil, Nat.zero_add, Nat.reduceAdd] at st
    rw [eu1, eu2] at st
    rw [ew, eu1, eu2]
    (change brB false _ _ _; rw [brB_false])
    refine call_of (has_c (st.own 3 rfl).rsl (litOf k)) ?_
    rintro _ h10 ⟨rfl, x10⟩
    have st := st.ext x10
    rw [eh, brB_false]
    refine call_of (within_c (st.own 3 rfl).rsl (st.own 1 rfl).rsl) ?_
    rintro _ h11 ⟨rfl, x11⟩
    have st := st.ext x11
    rw [ei]; simp only [Bool.not_true, brB_false]
    refine call_of (equal_clause (st.own 5 rfl).rsl (st.own 7 rfl).rsl (Nat.le_trans (nrm_length _) (by rw [List.length_append]; simp; omega))) ?_
    rintro _ _ ⟨rfl, rfl⟩
    rw [decide_eq_true eq1]; simp only [Bool.not_true, brB_false]
    refine call_of (same_c (st.own 3 rfl).rsl (st.own 1 rfl).rsl) ?_
    rintro _ h12 ⟨rfl, x12⟩
    have st := st.ext x12
    refine call_of (has_c (st.own 1 rfl).rsl (litOf k)) ?_
    rintro _ h13 ⟨rfl, x13⟩
    have st := st.ext x13
    rw [es, show ((!hasC (madeP c) (litOf k)) == hasC (madeP c) (litOf k)) = false by cases hasC (madeP c) (litOf k) <;> rfl, brB_false]
    exact less_tail ra hl la rfl hK h13 (st.frame (by simp)) (st.own 1 rfl).rsl (st.own 3 rfl).rsl

end Go.Proofs.S
