/-
  The package lits, and the library's functions that clauses use: contracts.
-/
import Derived.Test.YtjkgncibelojnaaGreatClF
import Derived.Test.YtjkgncibelojnaaGreatSxSort
import Derived.Test.YtjkgncibelojnaaGreatSxW2
set_option linter.unusedVariables false
namespace Go.Proofs.S
open Go Go.Sx Go.Proofs Go.Cl

variable {h : Heap}

theorem callT_gen {P : Program} {f : FuncId} {args : Array Value} {τ : Ty} {R : τ.T → HP} {h : Heap} (hc : ∀ K : τ.T → HP, (∀ x h', R x h' → K x h') → callT P f args τ K h) : callT P f args τ R h := hc R fun _ _ r => r

theorem lits_Right_c (x : Int) : callT Tryz.prog fn_lits_Right #[.int .i64 x] .bool (fun r h' => r = rt x ∧ h' = h) h := by
  refine S_lits_Right (a0 := x) _ ?_
  unfold F_lits_Right
  by_cases h1 : x = 0
  · have e : (x != 0) = false := by simp [h1]
    rw [e, brB_false]; exact ⟨by simp [rt, h1], rfl⟩
  · have e : (x != 0) = true := by simp [h1]
    rw [e, brB_true]
    by_cases h2 : x ≥ -1048576
    · rw [decide_eq_true h2, brB_true]; exact ⟨by simp [rt, h1]; try omega, by trivial⟩
    · rw [decide_eq_false h2, brB_false]; exact ⟨by simp [rt, h2]; try omega, by trivial⟩

theorem clauses_wrong_c (x : Int) : callT Tryz.prog fn_clauses_wrong #[.int .i64 x] .bool (fun r h' => r = !rt x ∧ h' = h) h := by
  refine S_clauses_wrong (a0 := x) _ ?_
  unfold F_clauses_wrong
  refine call_of (lits_Right_c x) ?_
  rintro r h' ⟨rfl, rfl⟩
  exact ⟨rfl, rfl⟩

theorem wneg {x : Int} (h : rt x = true) : IntKind.wrap .i64 (0 - x) = -x := by
  have := rt_iff.1 h
  rw [wrap_i64 (by omega) (by omega)]; omega

theorem lits_Neg_c (x : Int) : callT Tryz.prog fn_lits_Neg #[.int .i64 x] (.int .i64) (fun r h' => r = negL x ∧ h' = h) h := by
  refine S_lits_Neg (a0 := x) _ ?_
  unfold F_lits_Neg
  refine call_of (lits_Right_c x) ?_
  rintro r h' ⟨rfl, rfl⟩
  cases hx : rt x with
  | true => simp only [Bool.not_true, brB_false]; exact ⟨by rw [wneg hx]; simp [negL, hx], by trivial⟩
  | false => simp only [Bool.not_false, brB_true]; exact ⟨by simp [negL, hx], by trivial⟩

theorem lits_Var_c (x : Int) : callT Tryz.prog fn_lits_Var #[.int .i64 x] (.int .i64) (fun r h' => r = (if rt x then (if x < 0 then -x else x) else 0) ∧ h' = h) h := by
  refine S_lits_Var (a0 := x) _ ?_
  unfold F_lits_Var
  refine call_of (lits_Right_c x) ?_
  rintro r h' ⟨rfl, rfl⟩
  cases hx : rt x with
  | true =>
    simp only [Bool.not_true, brB_false, wneg hx]
    refine ⟨?_, by trivial⟩
    show (if -x > x then -x else x) = _
    simp only [if_true]
    split <;> split <;> omega
  | false => simp only [Bool.not_false, brB_true]; exact ⟨by simp, by trivial⟩

theorem lits_Index_c (x : Int) : callT Tryz.prog fn_lits_Index #[.int .i64 x] (.tup (.cons (.int .i64) (.cons (.int .i64) .nil))) (fun r h' => r = (if rt x then (ix x, 0, ()) else (0, 10, ())) ∧ h' = h) h := by
  refine S_lits_Index (a0 := x) _ ?_
  unfold F_lits_Index
  refine call_of (lits_Right_c x) ?_
  rintro r h' ⟨rfl, rfl⟩
  cases hx : rt x with
  | true =>
    simp only [Bool.not_true, brB_false]
    refine call_of (lits_Var_c x) ?_
    rintro r h' ⟨rfl, rfl⟩
    have := rt_iff.1 hx
    simp only [hx, if_true]
    refine jn_in fun J hJ => ?_
    by_cases hneg : x < 0
    · simp only [hneg, if_true, decide_true, brB_true]
      refine hJ _ _ ⟨?_, rfl⟩
      rw [wrap_i64 (x := -x - 1) (by omega) (by omega), wrap_i64 (x := 2 * (-x - 1)) (by omega) (by omega), wrap_i64 (by omega) (by omega)]
      simp [ix, hneg]
    · simp only [hneg, if_false, decide_false, brB_false]
      refine hJ _ _ ⟨?_, rfl⟩
      rw [wrap_i64 (x := x - 1) (by omega) (by omega), wrap_i64 (by omega) (by omega)]
      simp [ix, hneg]
  | false => simp only [Bool.not_false, brB_true]; exact ⟨by simp, by trivial⟩

theorem cmp_int_c (a b : Int) : callT Tryz.prog fn_cmp_Compare_int #[.int .i64 a, .int .i64 b] (.int .i64) (fun r h' => r = cmpI a b ∧ h' = h) h := by
  refine S_cmp_Compare_int (a0 := a) (a1 := b) _ ?_
  unfold F_cmp_Compare_int
  have nan : ∀ (x : Int) (h : Heap), callT Tryz.prog fn_cmp_isNaN_int #[.int .i64 x] .bool (fun r h' => r = false ∧ h' = h) h := fun x h => by
    refine S_cmp_isNaN_int (a0 := x) _ ?_
    unfold F_cmp_isNaN_int
    exact ⟨by simp, by trivial⟩
  refine call_of (nan a h) ?_
  rintro r h' ⟨rfl, rfl⟩
  refine call_of (nan b _) ?_
  rintro r h' ⟨rfl, rfl⟩
  simp only [brB_false]
  by_cases h1 : a < b
  · simp only [h1, decide_true, brB_true]; exact ⟨by simp [cmpI, h1], trivial⟩
  · simp only [h1, decide_false, brB_false]
    by_cases h2 : a > b
    · simp only [h2, decide_true, brB_true]; exact ⟨by simp [cmpI, h1, h2], trivial⟩
    · simp only [h2, decide_false, brB_false]; exact ⟨by simp [cmpI, h1, h2], trivial⟩

theorem cmp_lit_c (a b : Int) : callT Tryz.prog fn_cmp_Compare_lits_Lit #[.int .i64 a, .int .i64 b] (.int .i64) (fun r h' => r = cmpI a b ∧ h' = h) h := by
  refine S_cmp_Compare_lits_Lit (a0 := a) (a1 := b) _ ?_
  unfold F_cmp_Compare_lits_Lit
  have nan : ∀ (x : Int) (h : Heap), callT Tryz.prog fn_cmp_isNaN_lits_Lit #[.int .i64 x] .bool (fun r h' => r = false ∧ h' = h) h := fun x h => by
    refine S_cmp_isNaN_lits_Lit (a0 := x) _ ?_
    unfold F_cmp_isNaN_lits_Lit
    exact ⟨by simp, by trivial⟩
  refine call_of (nan a h) ?_
  rintro r h' ⟨rfl, rfl⟩
  refine call_of (nan b _) ?_
  rintro r h' ⟨rfl, rfl⟩
  simp only [brB_false]
  by_cases h1 : a < b
  · simp only [h1, decide_true, brB_true]; exact ⟨by simp [cmpI, h1], trivial⟩
  · simp only [h1, decide_false, brB_false]
    by_cases h2 : a > b
    · simp only [h2, decide_true, brB_true]; exact ⟨by simp [cmpI, h1, h2], trivial⟩
    · simp only [h2, decide_false, brB_false]; exact ⟨by simp [cmpI, h1, h2], trivial⟩

theorem lits_Compare_c (a b : Int) : callT Tryz.prog fn_lits_Compare #[.int .i64 a, .int .i64 b] (.int .i64) (fun r h' => r = cmpLit a b ∧ h' = h) h := by
  refine S_lits_Compare (a0 := a) (a1 := b) _ ?_
  unfold F_lits_Compare
  refine call_of (lits_Index_c a) ?_
  rintro r h' ⟨rfl, rfl⟩
  refine call_of (lits_Index_c b) ?_
  rintro r h' ⟨rfl, rfl⟩
  have e0 : ((0 : Int) == 0) = true := rfl
  have e10 : ((10 : Int) == 0) = false := rfl
  cases ha : rt a <;> cases hb : rt b <;> simp only [Bool.false_eq_true, if_true, if_false, e0, e10, brB_true, brB_false]
  · refine call_of (cmp_lit_c a b) ?_
    rintro r h' ⟨rfl, rfl⟩
    exact ⟨by simp [cmpLit, ha, hb], by trivial⟩
  · exact ⟨by simp [cmpLit, ha, hb], by trivial⟩
  · exact ⟨by simp [cmpLit, ha, hb], by trivial⟩
  · refine call_of (cmp_int_c _ _) ?_
    rintro r h' ⟨rfl, rfl⟩
    exact ⟨by simp [cmpLit, ha, hb], by trivial⟩

theorem compareF (a b : Int) : callF Tryz.prog (.func (.func fn_lits_Compare) #[] #[]) #[.int .i64 a, .int .i64 b] (.int .i64) (fun r h' => r = cmpLit a b ∧ h' = h) h := callF_func (lits_Compare_c a b)
theorem wrongF (a : Int) : callF Tryz.prog (.func (.func fn_clauses_wrong) #[] #[]) #[.int .i64 a] .bool (fun r h' => r = !rt a ∧ h' = h) h := callF_func (clauses_wrong_c a)

end Go.Proofs.S

set_option linter.unusedVariables false
namespace Go.Proofs.S
open Go Go.Sx Go.Proofs Go.Cl

abbrev i64 : Ty := .int .i64
abbrev li (c : List Int) (s : Sl) : Asn := rsl i64.enc c s
abbrev lo (c : List Int) (s : Sl) : Asn := osl ty_lits_Lit i64.enc c s

variable {h : Heap} {c d : List Int} {s s2 : Sl} {fr : Fr} {G As : List Asn}

theorem predWrong (c : List Int) (h : Heap) : PredOk Tryz.prog i64 (.func (.func fn_clauses_wrong) #[] #[]) (fun x => !rt x) c h :=
  fun x _ h' _ => callF_of (wrongF x) fun r h2 ⟨e, e2⟩ => ⟨e, by rw [e2]; exact Ext.refl' _ _⟩

theorem right_c (hA : At h (li c s)) : callT Tryz.prog fn_clauses_Right #[.slice s.a s.len s.cap] .bool (fun r h' => r = rightC c ∧ Ext [] h h') h := by
  refine S_clauses_Right (a0 := s) _ ?_
  unfold F_clauses_Right
  have hl := rsl_len hA
  by_cases h1 : c.length ≤ 4096
  · have e : decide ((s.len : Int) ≤ 4096) = true := by rw [hl]; simp; omega
    rw [e, brB_true]
    refine call_of (R := fun r h' => r = c.any (fun x => !rt x) ∧ Ext [] h h') ?_ ?_
    · refine S_slices_ContainsFunc_clauses_Clause_lits_Lit (a0 := s) _ ?_
      unfold F_slices_ContainsFunc_clauses_Clause_lits_Lit
      refine call_of (R := fun r h' => r = fidx (fun x => !rt x) c ∧ Ext [] h h') ?_ ?_
      · refine callT_gen fun K hK => S_slices_IndexFunc_clauses_Clause_lits_Lit (a0 := s) K ?_
        exact w_indexFunc (P := Tryz.prog) (τ := i64) hA (by omega) (predWrong c h) fun h' x => hK _ _ ⟨rfl, x⟩
      · rintro r h' ⟨rfl, x⟩
        exact ⟨fidx_ge _ _, x⟩
    · rintro r h' ⟨rfl, x⟩
      refine ⟨?_, x⟩
      have : (!c.any fun x => !rt x) = c.all rt := by rw [List.not_any_eq_all_not]; congr 1; funext x; simp
      simp [rightC, h1, this]
  · have e : decide ((s.len : Int) ≤ 4096) = false := by rw [hl]; simp; omega
    rw [e, brB_false]
    exact ⟨by simp [rightC, h1], Ext.refl' _ _⟩

theorem sorts_Lit_swo : Go.Sort.SWO ltL := ⟨ltL_irrefl, fun x y z => ltL_trans, fun x y z => ltL_ntrans⟩

abbrev sf_lits : SF := ⟨fn_slices_pdqsortCmpFunc_lits_Lit, fn_slices_insertionSortCmpFunc_lits_Lit, fn_slices_heapSortCmpFunc_lits_Lit, fn_slices_siftDownCmpFunc_lits_Lit, fn_slices_breakPatternsCmpFunc_lits_Lit, fn_slices_choosePivotCmpFunc_lits_Lit, fn_slices_reverseRangeCmpFunc_lits_Lit, fn_slices_partialInsertionSortCmpFunc_lits_Lit, fn_slices_partitionEqualCmpFunc_lits_Lit, fn_slices_partitionCmpFunc_lits_Lit, fn_slices_medianCmpFunc_lits_Lit, fn_slices_medianAdjacentCmpFunc_lits_Lit, fn_slices_order2CmpFunc_lits_Lit, fn_slices_nextPowerOfTwo, fn_slices_xorshift_Next, fn_math_bits_Len, fn_math_bits_Len64, ty_slices_xorshift, ty_int⟩

theorem sorts_lits : Sorts Tryz.prog i64 sf_lits where
  pdq := fun K hF => S_slices_pdqsortCmpFunc_lits_Lit K hF
  ins := fun K hF => S_slices_insertionSortCmpFunc_lits_Lit K hF
  heap := fun K hF => S_slices_heapSortCmpFunc_lits_Lit K hF
  sift := fun K hF => S_slices_siftDownCmpFunc_lits_Lit K hF
  brk := fun K hF => S_slices_breakPatternsCmpFunc_lits_Lit K hF
  piv := fun K hF => S_slices_choosePivotCmpFunc_lits_Lit K hF
  rev := fun K hF => S_slices_reverseRangeCmpFunc_lits_Lit K hF
  pins := fun K hF => S_slices_partialInsertionSortCmpFunc_lits_Lit K hF
  peq := fun K hF => S_slices_partitionEqualCmpFunc_lits_Lit K hF
  part := fun K hF => S_slices_partitionCmpFunc_lits_Lit K hF
  med := fun K hF => S_slices_medianCmpFunc_lits_Lit K hF
  meda := fun K hF => S_slices_medianAdjacentCmpFunc_lits_Lit K hF
  ord2 := fun K hF => S_slices_order2CmpFunc_lits_Lit K hF
  npow := fun K hF => S_slices_nextPowerOfTwo K hF
  xsh := fun K hF => S_slices_xorshift_Next K hF
  len := fun K hF => S_math_bits_Len K hF
  len64 := fun K hF => S_math_bits_Len64 K hF

theorem values_c (hs : True) : callT Tryz.prog fn_slices_Values_clauses_Clause_lits_Lit #[.slice s.a s.len s.cap] .val
    (fun r h' => ∃ b, r = .func (.func fn_slices_Values_clauses_Clause_lits_Lit_1) #[] #[.pointer (some ⟨b, 0, none⟩)] ∧ Blk h' b ty_clauses_Clause [.slice s.a s.len s.cap] ∧ Ext [] h h') h := by
  refine S_slices_Values_clauses_Clause_lits_Lit (a0 := s) _ ?_
  unfold F_slices_Values_clauses_Clause_lits_Lit
  rw [nw_eq]
  exact ⟨h.size, rfl, Blk.new h _ #[.slice s.a s.len s.cap], (Ext.refl' _ _).push _⟩

theorem collect_c {fv : Value} {L : List Int} {F : List Nat} (hF : ∀ b ∈ F, b < h.size) (hit : ∀ h1, Ext [] h h1 → IterSpec Tryz.prog (.cons i64 .nil) fv h1 (nxL L) (finL L) F []) (hL : L.length ≤ 1099511627776) :
    callT Tryz.prog fn_slices_Collect_lits_Lit #[fv] .sl (fun s' h' => New h.size h' (lo L s') ∧ Ext [] h h') h := by
  refine S_slices_Collect_lits_Lit (a0 := fv) _ ?_
  unfold F_slices_Collect_lits_Lit
  refine call_of (R := fun s' h' => New h.size h' (lo L s') ∧ Ext [] h h') ?_ (fun s' h' hx => hx)
  refine S_slices_AppendSeq_lits_Lit_lits_Lit (a0 := ⟨none, 0, 0⟩) (a1 := fv) _ ?_
  unfold F_slices_AppendSeq_lits_Lit_lits_Lit
  have st := Hs.start h [] (by simp)
  refine Hs.nw (st.nil ty_lits_Lit i64.enc none) fun b0 h1 st => ?_
  refine Hs.collect (P := Tryz.prog) (τ := i64) (xs := []) (L := L) (s := ⟨none, 0, 0⟩) (t := ty_lits_Lit) (by_ := 8) st 0 1 (by decide) rfl rfl leaf_int (by simp; omega) (by decide) (fun S hz hf => ?_) fun s' h2 st => ?_
  · obtain ⟨x, hS⟩ := hf ([], h) (by simp)
    refine ⟨F, fun b hb => ⟨Nat.lt_of_lt_of_le (hF b hb) x.1, fun hin => ?_⟩, fun h3 hn => hit h3 (x.nil_trans hn.1)⟩
    rcases hS b hin with k | k
    · cases k
    · have := hF b hb; simp only at k; omega
  · rw [st.lds 1 0 rfl rfl]
    intro h3 hm
    have st := st.marked hm
    exact ⟨st.res (by simp) 0 rfl, st.frame (by simp)⟩

theorem sorted_row_c (hA : At h (li c s)) (hlen : c.length ≤ 1048576) {b : Nat} {t0 : TypeId} (kb : Blk h b t0 [.slice s.a s.len s.cap]) :
    callT Tryz.prog fn_slices_SortedFunc_lits_Lit #[.func (.func fn_slices_Values_clauses_Clause_lits_Lit_1) #[] #[.pointer (some ⟨b, 0, none⟩)], .func (.func fn_lits_Compare) #[] #[]] .sl
      (fun s' h' => ∃ ys, ys.Perm c ∧ ys.Pairwise (fun a b => ltL b a = false) ∧ New h.size h' (lo ys s') ∧ Ext [] h h') h := by
  obtain ⟨SA, hSA⟩ := hA
  refine S_slices_SortedFunc_lits_Lit _ ?_
  unfold F_slices_SortedFunc_lits_Lit
  refine call_of (collect_c (F := SA) (L := c) (fun b hb => At.lt hSA b hb) (fun h1 x => values_iter (kb.ext x (by simp)) (Asn.ext hSA x (by simp)) (by omega) (fun yl h' K hW => S_slices_Values_clauses_Clause_lits_Lit_1 (a0 := yl) K hW)) (by omega)) ?_
  rintro s' h1 ⟨⟨S1, p, hge⟩, x1⟩
  refine call_of (R := fun _ h' => ∃ ys, ys.Perm c ∧ ys.Pairwise (fun a b => ltL b a = false) ∧ (lo ys s').P S1 h' ∧ Ext S1 h1 h') ?_ ?_
  · refine S_slices_SortFunc_lits_Lit_lits_Lit (a0 := s') (a1 := .func (.func fn_lits_Compare) #[] #[]) _ ?_
    unfold F_slices_SortFunc_lits_Lit_lits_Lit
    exact Go.Sx.sort_c (P := Tryz.prog) (τ := i64) sorts_lits sorts_Lit_swo p (by omega) (fun h' x y hx hy hz => callF_of (compareF x y) fun r h2 ⟨e, e2⟩ => ⟨by rw [e]; simp [ltL], by rw [e2]; exact Ext.refl' _ _⟩)
      (fun _ h' => ∃ ys, ys.Perm c ∧ ys.Pairwise (fun a b => ltL b a = false) ∧ (lo ys s').P S1 h' ∧ Ext S1 h1 h') fun ys h' a b c' d => ⟨ys, a, b, c', d⟩
  · rintro _ h2 ⟨ys, a, b', p2, x2⟩
    refine ⟨ys, a, b', ⟨S1, p2, hge⟩, x1.trans x2 fun y hy => .inr (hge y hy)⟩

end Go.Proofs.S
