/-
  The package lits, and the library's functions that clauses use: contracts.
-/
import Derived.Test.YtjkgncibelojnaaGreatClF
import Derived.Test.YtjkgncibelojnaaGreatSxSort
import Derived.Test.YtjkgncibelojnaaGreatSxW2
set_option linter.unusedVariables false
namespace Go.Proofs.S
open Go Go.Sx Go.Proofs Go.Cl
variable {h : Heap}
theorem callT_gen {P : Program} {f : FuncId} {args : Array Value} {τ : Ty} {R : τ.T → HP} {h : Heap} (hc : ∀ K : τ.T → HP, (∀ x h', R x h' → K x h') → callT P f args τ K h) : callT P f args τ R h := hc R fun _ _ r => r
theorem lits_Right_c (x : Int) : callT Tryz.prog fn_lits_Right #[.int .i64 x] .bool (fun r h' => r = rt x ∧ h' = h) h := by
  refine S_lits_Right (a0 := x) _ ?_
  unfold F_lits_Right
  by_cases h1 : x = 0
  · have e : (x != 0) = false := by simp [h1]
    rw [e, brB_false]; exact ⟨by simp [rt, h1], rfl⟩
  · have e : (x != 0) = true := by simp [h1]
    rw [e, brB_true]
    by_cases h2 : x ≥ -1048576
    · rw [decide_eq_true h2, brB_true]; exact ⟨by simp [rt, h1]; try omega, by trivial⟩
    · rw [decide_eq_false h2, brB_false]; exact ⟨by simp [rt, h2]; try omega, by trivial⟩
theorem clauses_wrong_c (x : Int) : callT Tryz.prog fn_clauses_wrong #[.int .i64 x] .bool (fun r h' => r = !rt x ∧ h' = h) h := by
  refine S_clauses_wrong (a0 := x) _ ?_
  unfold F_clauses_wrong
  refine call_of (lits_Right_c x) ?_
  rintro r h' ⟨rfl, rfl⟩
  exact ⟨rfl, rfl⟩
theorem wneg {x : Int} (h : rt x = true) : IntKind.wrap .i64 (0 - x) = -x := by
  have := rt_iff.1 h
  rw [wrap_i64 (by omega) (by omega)]; omega
theorem lits_Neg_c (x : Int) : callT Tryz.prog fn_lits_Neg #[.int .i64 x] (.int .i64) (fun r h' => r = negL x ∧ h' = h) h := by
  refine S_lits_Neg (a0 := x) _ ?_
  unfold F_lits_Neg
  refine call_of (lits_Right_c x) ?_
  rintro r h' ⟨rfl, rfl⟩
  cases hx : rt x with
  | true => simp only [Bool.not_true, brB_false]; exact ⟨by rw [wneg hx]; simp [negL, hx], by trivial⟩
  | false => simp only [Bool.not_false, brB_true]; exact ⟨by simp [negL, hx], by trivial⟩
theorem lits_Var_c (x : Int) : callT Tryz.prog fn_lits_Var #[.int .i64 x] (.int .i64) (fun r h' => r = (if rt x then (if x < 0 then -x else x) else 0) ∧ h' = h) h := by
  refine S_lits_Var (a0 := x) _ ?_
  unfold F_lits_Var
  refine call_of (lits_Right_c x) ?_
  rintro r h' ⟨rfl, rfl⟩
  cases hx : rt x with
  | true =>
    simp only [Bool.not_true, brB_false, wneg hx]
    refine ⟨?_, by trivial⟩
    show (if -x > x then -x else x) = _
    simp only [if_true]
    split <;> split <;> omega
  | false => simp only [Bool.not_false, brB_true]; exact ⟨by simp, by trivial⟩
theorem lits_Index_c (x : Int) : callT Tryz.prog fn_lits_Index #[.int .i64 x] (.tup (.cons (.int .i64) (.cons (.int .i64) .nil))) (fun r h' => r = (if rt x then (ix x, 0, ()) else (0, 10, ())) ∧ h' = h) h := by
  refine S_lits_Index (a0 := x) _ ?_
  unfold F_lits_Index
  refine call_of (lits_Right_c x) ?_
  rintro r h' ⟨rfl, rfl⟩
  cases hx : rt x with
  | true =>
    simp only [Bool.not_true, brB_false]
    refine call_of (lits_Var_c x) ?_
    rintro r h' ⟨rfl, rfl⟩
    have := rt_iff.1 hx
    simp only [hx, if_true]
    refine jn_in fun J hJ => ?_
    by_cases hneg : x < 0
    · simp only [hneg, if_true, decide_true, brB_true]
      refine hJ _ _ ⟨?_, rfl⟩
      rw [wrap_i64 (x := -x - 1) (by omega) (by omega), wrap_i64 (x := 2 * (-x - 1)) (by omega) (by omega), wrap_i64 (by omega) (by omega)]
      simp [ix, hneg]
    · simp only [hneg, if_false, decide_false, brB_false]
      refine hJ _ _ ⟨?_, rfl⟩
      rw [wrap_i64 (x := x - 1) (by omega) (by omega), wrap_i64 (by omega) (by omega)]
      simp [ix, hneg]
  | false => simp only [Bool.not_false, brB_true]; exact ⟨by simp, by trivial⟩
theorem cmp_int_c (a b : Int) : callT Tryz.prog fn_cmp_Compare_int #[.int .i64 a, .int .i64 b] (.int .i64) (fun r h' => r = cmpI a b ∧ h' = h) h := by
  refine S_cmp_Compare_int (a0 := a) (a1 := b) _ ?_
  unfold F_cmp_Compare_int
  have nan : ∀ (x : Int) (h : Heap), callT Tryz.prog fn_cmp_isNaN_int #[.int .i64 x] .bool (fun r h' => r = false ∧ h' = h) h := fun x h => by
    refine S_cmp_isNaN_int (a0 := x) _ ?_
    unfold F_cmp_isNaN_int
    exact ⟨by simp, by trivial⟩
  refine call_of (nan a h) ?_
  rintro r h' ⟨rfl, rfl⟩
  refine call_of (nan b _) ?_
  rintro r h' ⟨rfl, rfl⟩
  simp only [brB_false]
  by_cases h1 : a < b
  · simp only [h1, decide_true, brB_true]; exact ⟨by simp [cmpI, h1], trivial⟩
  · simp only [h1, decide_false, brB_false]
    by_cases h2 : a > b
    · simp only [h2, decide_true, brB_true]; exact ⟨by simp [cmpI, h1, h2], trivial⟩
    · simp only [h2, decide_false, brB_false]; exact ⟨by simp [cmpI, h1, h2], trivial⟩
theorem cmp_lit_c (a b : Int) : callT Tryz.prog fn_cmp_Compare_lits_Lit #[.int .i64 a, .int .i64 b] (.int .i64) (fun r h' => r = cmpI a b ∧ h' = h) h := by
  refine S_cmp_Compare_lits_Lit (a0 := a) (a1 := b) _ ?_
  unfold F_cmp_Compare_lits_Lit
  have nan : ∀ (x : Int) (h : Heap), callT Tryz.prog fn_cmp_isNaN_lits_Lit #[.int .i64 x] .bool (fun r h' => r = false ∧ h' = h) h := fun x h => by
    refine S_cmp_isNaN_lits_Lit (a0 := x) _ ?_
    unfold F_cmp_isNaN_lits_Lit
    exact ⟨by simp, by trivial⟩
  refine call_of (nan a h) ?_
  rintro r h' ⟨rfl, rfl⟩
  refine call_of (nan b _) ?_
  rintro r h' ⟨rfl, rfl⟩
  simp only [brB_false]
  by_cases h1 : a < b
  · simp only [h1, decide_true, brB_true]; exact ⟨by simp [cmpI, h1], trivial⟩
  · simp only [h1, decide_false, brB_false]
    by_cases h2 : a > b
    · simp only [h2, decide_true, brB_true]; exact ⟨by simp [cmpI, h1, h2], trivial⟩
    · simp only [h2, decide_false, brB_false]; exact ⟨by simp [cmpI, h1, h2], trivial⟩
theorem lits_Compare_c (a b : Int) : callT Tryz.prog fn_lits_Compare #[.int .i64 a, .int .i64 b] (.int .i64) (fun r h' => r = cmpLit a b ∧ h' = h) h := by
  refine S_lits_Compare (a0 := a) (a1 := b) _ ?_
  unfold F_lits_Compare
  refine call_of (lits_Index_c a) ?_
  rintro r h' ⟨rfl, rfl⟩
  refine call_of (lits_Index_c b) ?_
  rintro r h' ⟨rfl, rfl⟩
  have e0 : ((0 : Int) == 0) = true := rfl
  have e10 : ((10 : Int) == 0) = false := rfl
  cases ha : rt a <;> cases hb : rt b <;> simp only [Bool.false_eq_true, if_true, if_false, e0, e10, brB_true, brB_false]
  · refine call_of (cmp_lit_c a b) ?_
    rintro r h' ⟨rfl, rfl⟩
    exact ⟨by simp [cmpLit, ha, hb], by trivial⟩
  · exact ⟨by simp [cmpLit, ha, hb], by trivial⟩
  · exact ⟨by simp [cmpLit, ha, hb], by trivial⟩
  · refine call_of (cmp_int_c _ _) ?_
    rintro r h' ⟨rfl, rfl⟩
    exact ⟨by simp [cmpLit, ha, hb], by trivial⟩
theorem compareF (a b : Int) : callF Tryz.prog (.func (.func fn_lits_Compare) #[] #[]) #[.int .i64 a, .int .i64 b] (.int .i64) (fun r h' => r = cmpLit a b ∧ h' = h) h := callF_func (lits_Compare_c a b)
theorem wrongF (a : Int) : callF Tryz.prog (.func (.func fn_clauses_wrong) #[] #[]) #[.int .i64 a] .bool (fun r h' => r = !rt a ∧ h' = h) h := callF_func (clauses_wrong_c a)
end Go.Proofs.S
namespace Go.Proofs.S
open Go Go.Sx Go.Proofs Go.Cl
abbrev i64 : Ty := .int .i64
abbrev li (c : List Int) (s : Sl) : Asn := rsl i64.enc c s
abbrev lo (c : List Int) (s : Sl) : Asn := osl ty_lits_Lit i64.enc c s
variable {h : Heap} {c d : List Int} {s s2 : Sl} {fr : Fr} {G As : List Asn}
theorem predWrong (c : List Int) (h : Heap) : PredOk Tryz.prog i64 (.func (.func fn_clauses_wrong) #[] #[]) (fun x => !rt x) c h :=
  fun x _ h' _ => callF_of (wrongF x) fun r h2 ⟨e, e2⟩ => ⟨e, by rw [e2]; exact Ext.refl' _ _⟩
theorem right_c (hA : At h (li c s)) : callT Tryz.prog fn_clauses_Right #[.slice s.a s.len s.cap] .bool (fun r h' => r = rightC c ∧ Ext [] h h') h := by
  refine S_clauses_Right (a0 := s) _ ?_
  unfold F_clauses_Right
  have hl := rsl_len hA
  by_cases h1 : c.length ≤ 4096
  · have e : decide ((s.len : Int) ≤ 4096) = true := by rw [hl]; simp; omega
    rw [e, brB_true]
    refine call_of (R := fun r h' => r = c.any (fun x => !rt x) ∧ Ext [] h h') ?_ ?_
    · refine S_slices_ContainsFunc_clauses_Clause_lits_Lit (a0 := s) _ ?_
      unfold F_slices_ContainsFunc_clauses_Clause_lits_Lit
      refine call_of (R := fun r h' => r = fidx (fun x => !rt x) c ∧ Ext [] h h') ?_ ?_
      · refine callT_gen fun K hK => S_slices_IndexFunc_clauses_Clause_lits_Lit (a0 := s) K ?_
        exact w_indexFunc (P := Tryz.prog) (τ := i64) hA (by omega) (predWrong c h) fun h' x => hK _ _ ⟨rfl, x⟩
      · rintro r h' ⟨rfl, x⟩
        exact ⟨fidx_ge _ _, x⟩
    · rintro r h' ⟨rfl, x⟩
      refine ⟨?_, x⟩
      have : (!c.any fun x => !rt x) = c.all rt := by rw [List.not_any_eq_all_not]; congr 1; funext x; simp
      simp [rightC, h1, this]
  · have e : decide ((s.len : Int) ≤ 4096) = false := by rw [hl]; simp; omega
    rw [e, brB_false]
    exact ⟨by simp [rightC, h1], Ext.refl' _ _⟩
theorem sorts_Lit_swo : Go.Sort.SWO ltL := ⟨ltL_irrefl, fun x y z => ltL_trans, fun x y z => ltL_ntrans⟩
abbrev sf_lits : SF := ⟨fn_slices_pdqsortCmpFunc_lits_Lit, fn_slices_insertionSortCmpFunc_lits_Lit, fn_slices_heapSortCmpFunc_lits_Lit, fn_slices_siftDownCmpFunc_lits_Lit, fn_slices_breakPatternsCmpFunc_lits_Lit, fn_slices_choosePivotCmpFunc_lits_Lit, fn_slices_reverseRangeCmpFunc_lits_Lit, fn_slices_partialInsertionSortCmpFunc_lits_Lit, fn_slices_partitionEqualCmpFunc_lits_Lit, fn_slices_partitionCmpFunc_lits_Lit, fn_slices_medianCmpFunc_lits_Lit, fn_slices_medianAdjacentCmpFunc_lits_Lit, fn_slices_order2CmpFunc_lits_Lit, fn_slices_nextPowerOfTwo, fn_slices_xorshift_Next, fn_math_bits_Len, fn_math_bits_Len64, ty_slices_xorshift, ty_int⟩
theorem sorts_lits : Sorts Tryz.prog i64 sf_lits where
  pdq := fun K hF => S_slices_pdqsortCmpFunc_lits_Lit K hF
  ins := fun K hF => S_slices_insertionSortCmpFunc_lits_Lit K hF
  heap := fun K hF => S_slices_heapSortCmpFunc_lits_Lit K hF
  sift := fun K hF => S_slices_siftDownCmpFunc_lits_Lit K hF
  brk := fun K hF => S_slices_breakPatternsCmpFunc_lits_Lit K hF
  piv := fun K hF => S_slices_choosePivotCmpFunc_lits_Lit K hF
  rev := fun K hF => S_slices_reverseRangeCmpFunc_lits_Lit K hF
  pins := fun K hF => S_slices_partialInsertionSortCmpFunc_lits_Lit K hF
  peq := fun K hF => S_slices_partitionEqualCmpFunc_lits_Lit K hF
  part := fun K hF => S_slices_partitionCmpFunc_lits_Lit K hF
  med := fun K hF => S_slices_medianCmpFunc_lits_Lit K hF
  meda := fun K hF => S_slices_medianAdjacentCmpFunc_lits_Lit K hF
  ord2 := fun K hF => S_slices_order2CmpFunc_lits_Lit K hF
  npow := fun K hF => S_slices_nextPowerOfTwo K hF
  xsh := fun K hF => S_slices_xorshift_Next K hF
  len := fun K hF => S_math_bits_Len K hF
  len64 := fun K hF => S_math_bits_Len64 K hF
theorem values_c (hs : True) : callT Tryz.prog fn_slices_Values_clauses_Clause_lits_Lit #[.slice s.a s.len s.cap] .val
    (fun r h' => ∃ b, r = .func (.func fn_slices_Values_clauses_Clause_lits_Lit_1) #[] #[.pointer (some ⟨b, 0, none⟩)] ∧ Blk h' b ty_clauses_Clause [.slice s.a s.len s.cap] ∧ Ext [] h h') h := by
  refine S_slices_Values_clauses_Clause_lits_Lit (a0 := s) _ ?_
  unfold F_slices_Values_clauses_Clause_lits_Lit
  rw [nw_eq]
  exact ⟨h.size, rfl, Blk.new h _ #[.slice s.a s.len s.cap], (Ext.refl' _ _).push _⟩
theorem collect_c {fv : Value} {L : List Int} {F : List Nat} (hF : ∀ b ∈ F, b < h.size) (hit : ∀ h1, Ext [] h h1 → IterSpec Tryz.prog (.cons i64 .nil) fv h1 (nxL L) (finL L) F []) (hL : L.length ≤ 1099511627776) :
    callT Tryz.prog fn_slices_Collect_lits_Lit #[fv] .sl (fun s' h' => New h.size h' (lo L s') ∧ Ext [] h h') h := by
  refine S_slices_Collect_lits_Lit (a0 := fv) _ ?_
  unfold F_slices_Collect_lits_Lit
  refine call_of (R := fun s' h' => New h.size h' (lo L s') ∧ Ext [] h h') ?_ (fun s' h' hx => hx)
  refine S_slices_AppendSeq_lits_Lit_lits_Lit (a0 := ⟨none, 0, 0⟩) (a1 := fv) _ ?_
  unfold F_slices_AppendSeq_lits_Lit_lits_Lit
  have st := Hs.start h [] (by simp)
  refine Hs.nw (st.nil ty_lits_Lit i64.enc none) fun b0 h1 st => ?_
  refine Hs.collect (P := Tryz.prog) (τ := i64) (xs := []) (L := L) (s := ⟨none, 0, 0⟩) (t := ty_lits_Lit) (by_ := 8) st 0 1 (by decide) rfl rfl leaf_int (by simp; omega) (by decide) (fun S hz hf => ?_) fun s' h2 st => ?_
  · obtain ⟨x, hS⟩ := hf ([], h) (by simp)
    refine ⟨F, fun b hb => ⟨Nat.lt_of_lt_of_le (hF b hb) x.1, fun hin => ?_⟩, fun h3 hn => hit h3 (x.nil_trans hn.1)⟩
    rcases hS b hin with k | k
    · cases k
    · have := hF b hb; simp only at k; omega
  · rw [st.lds 1 0 rfl rfl]
    intro h3 hm
    have st := st.marked hm
    exact ⟨st.res (by simp) 0 rfl, st.frame (by simp)⟩
theorem sorted_row_c (hA : At h (li c s)) (hlen : c.length ≤ 1048576) {b : Nat} {t0 : TypeId} (kb : Blk h b t0 [.slice s.a s.len s.cap]) :
    callT Tryz.prog fn_slices_SortedFunc_lits_Lit #[.func (.func fn_slices_Values_clauses_Clause_lits_Lit_1) #[] #[.pointer (some ⟨b, 0, none⟩)], .func (.func fn_lits_Compare) #[] #[]] .sl
      (fun s' h' => ∃ ys, ys.Perm c ∧ ys.Pairwise (fun a b => ltL b a = false) ∧ New h.size h' (lo ys s') ∧ Ext [] h h') h := by
  obtain ⟨SA, hSA⟩ := hA
  refine S_slices_SortedFunc_lits_Lit _ ?_
  unfold F_slices_SortedFunc_lits_Lit
  refine call_of (collect_c (F := SA) (L := c) (fun b hb => At.lt hSA b hb) (fun h1 x => values_iter (kb.ext x (by simp)) (Asn.ext hSA x (by simp)) (by omega) (fun yl h' K hW => S_slices_Values_clauses_Clause_lits_Lit_1 (a0 := yl) K hW)) (by omega)) ?_
  rintro s' h1 ⟨⟨S1, p, hge⟩, x1⟩
  refine call_of (R := fun _ h' => ∃ ys, ys.Perm c ∧ ys.Pairwise (fun a b => ltL b a = false) ∧ (lo ys s').P S1 h' ∧ Ext S1 h1 h') ?_ ?_
  · refine S_slices_SortFunc_lits_Lit_lits_Lit (a0 := s') (a1 := .func (.func fn_lits_Compare) #[] #[]) _ ?_
    unfold F_slices_SortFunc_lits_Lit_lits_Lit
    exact Go.Sx.sort_c (P := Tryz.prog) (τ := i64) sorts_lits sorts_Lit_swo p (by omega) (fun h' x y hx hy hz => callF_of (compareF x y) fun r h2 ⟨e, e2⟩ => ⟨by rw [e]; simp [ltL], by rw [e2]; exact Ext.refl' _ _⟩)
      (fun _ h' => ∃ ys, ys.Perm c ∧ ys.Pairwise (fun a b => ltL b a = false) ∧ (lo ys s').P S1 h' ∧ Ext S1 h1 h') fun ys h' a b c' d => ⟨ys, a, b, c', d⟩
  · rintro _ h2 ⟨ys, a, b', p2, x2⟩
    refine ⟨ys, a, b', ⟨S1, p2, hge⟩, x1.trans x2 fun y hy => .inr (hge y hy)⟩
end Go.Proofs.S
namespace Go.Proofs.S
open Go Go.Sx Go.Proofs Go.Cl
variable {h : Heap} {c d : List Int} {s s2 : Sl} {fr : Fr} {G As : List Asn}
abbrev sortedV (b : Nat) : Value := .func (.func fn_clauses_sorted_1) #[] #[.pointer (some ⟨b, 0, none⟩)]
theorem Hs.sorted (st : Hs fr G As h) {K : Value → HP} (hK : ∀ b h', Hs fr G (As ++ [cl b ty_clauses_Clause [.slice s.a s.len s.cap]]) h' → K (sortedV b) h') :
    callT Tryz.prog fn_clauses_sorted #[.slice s.a s.len s.cap] .val K h := by
  refine S_clauses_sorted (a0 := s) K ?_
  unfold F_clauses_sorted
  exact Hs.nw st fun b h' st => hK b h' st
theorem dd_drop {ys : List Int} {i : Nat} (hi : i < ys.length) (last : Int) : dd last (ys.drop i) = if ys[i] = last then dd last (ys.drop (i + 1)) else ys[i] :: dd ys[i] (ys.drop (i + 1)) := by
  rw [List.drop_eq_getElem_cons hi, dd]
theorem sorted_iterU {b : Nat} {t0 : TypeId} (kb : Blk h b t0 [.slice s.a s.len s.cap]) (hA : At h (li c s)) (hlenC : c.length ≤ 1048576) (hrt : ∀ x ∈ c, rt x = true) :
    IterSpec Tryz.prog (.cons i64 .nil) (sortedV b) h (nxL (nrm c)) (finL (nrm c)) [] [] := by
  refine iter_of (G := []) (by simp) (by simp) ?_
  intro A D B0 yl cl' it K hfin hD
  refine callF_func (S_clauses_sorted_1 (a0 := yl) (c0 := ⟨b, 0, none⟩) K ?_)
  unfold F_clauses_sorted_1
  rw [ld_sl (i := 0) kb rfl]
  refine call_of (values_c (s := s) trivial) ?_
  rintro fv h1 ⟨b1, rfl, kb1, x1⟩
  refine call_of (sorted_row_c (hA.ext x1) hlenC kb1) ?_
  rintro s' h2 ⟨ys, hp, hs, hn, x2⟩
  have hnrm := nrm_of_sorted hp hs hrt
  have x12 := x1.nil_trans x2
  obtain ⟨S0, st0, hback⟩ := it.open cl'
  have hn' : New h.size h2 (lo ys s') := hn.mono x1.1
  have it := hback _ h2 (st0.new x12 hn')
  simp only [List.nil_append] at it
  have hlen : ys.length ≤ 1048576 := by rw [hp.length_eq]; exact hlenC
  refine lfp_invh (I := fun m σ h' => ∃ (i : Nat) (last : Int) (pre : List (Int × Unit)) (B : List Nat), σ = ((i : Int), last, ()) ∧ i ≤ ys.length ∧ pre.map (·.1) ++ dd last (ys.drop i) = nrm c ∧ It h [] A [] [lo ys s'] pre B h' ∧ m = ys.length - i)
    ⟨_, 0, 0, [], B0, rfl, by omega, by simpa using hnrm, it, rfl⟩ ?_
  clear it
  rintro m σ h3 X ⟨i, last, pre, B, rfl, hi, hpre, it, em⟩ hX
  have hA3 : At h3 (lo ys s') := by
    obtain ⟨S, st, _⟩ := it.open cl'
    exact st.own 0 rfl
  have l1 := osl_len hA3
  by_cases hlt : i < ys.length
  · rw [show decide ((i : Int) < (s'.len : Int)) = true by rw [l1]; exact dlt_t hlt, brB_true]
    rw [inc_i (show i < 4611686018427387904 by omega)]
    rw [dd_drop hlt] at hpre
    refine jn_in fun J hJ => ?_
    refine rdE (τ := i64) hA3.rsl hlt ?_
    by_cases hel : ys[i] = last
    · have e : (ys[i] == last) = true := by simp [hel]
      rw [if_pos hel] at hpre
      rw [e, brB_true]
      exact hJ _ _ (hX _ _ _ ⟨i + 1, last, pre, B, rfl, by omega, hpre, it, rfl⟩ (by omega))
    · have e : (ys[i] == last) = false := by simp [hel]
      rw [if_neg hel] at hpre
      rw [e, brB_false]
      refine It.yield (τ := .cons i64 .nil) cl' it (x := (ys[i], ())) ⟨_, hpre⟩ (fun B' h4 it2 => ?_) (fun B' h4 hd => ?_)
      · simp only [Bool.not_true, brB_false]
        refine hJ _ _ (hX _ _ _ ⟨i + 1, ys[i], _, B', rfl, by omega, ?_, it2, rfl⟩ (by omega))
        rw [List.map_append, List.append_assoc]; exact hpre
      · simp only [Bool.not_false, brB_true]
        exact hD B' h4 hd
  · rw [show decide ((i : Int) < (s'.len : Int)) = false by rw [l1]; exact dlt_f hlt, brB_false]
    rw [List.drop_eq_nil_of_le (by omega)] at hpre
    refine hfin pre B h3 ?_ it.1
    show pre.map (·.1) = nrm c
    rw [← hpre]; simp [dd]
theorem sorted_iter {b : Nat} {t0 : TypeId} (kb : Blk h b t0 [.slice s.a s.len s.cap]) (hA : At h (li c s)) (hr : rightC c = true) :
    IterSpec Tryz.prog (.cons i64 .nil) (sortedV b) h (nxL (nrm c)) (finL (nrm c)) [] [] := sorted_iterU kb hA (by have := rightC_len hr; omega) (rightC_rt hr)
theorem sorted_hit {b : Nat} {t0 : TypeId} (kb : Blk h b t0 [.slice s.a s.len s.cap]) (hA : At h (li c s)) (hr : rightC c = true) (S : List Nat) :
    ∃ F : List Nat, (∀ x ∈ F, x < h.size ∧ x ∉ S) ∧ ∀ h1, NewL h h1 → IterSpec Tryz.prog (.cons i64 .nil) (sortedV b) h1 (nxL (nrm c)) (finL (nrm c)) F [] :=
  ⟨[], by simp, fun h1 hn => sorted_iter (kb.ext hn.1 (by simp)) (hA.ext hn.1) hr⟩
theorem normal_u (hA : At h (li c s)) (hl2 : c.length ≤ 1048576) (hrt : ∀ x ∈ c, rt x = true) : callT Tryz.prog fn_clauses_normal #[.slice s.a s.len s.cap] .sl (fun s' h' => New h.size h' (lo (nrm c) s') ∧ Ext [] h h') h := by
  refine S_clauses_normal (a0 := s) _ ?_
  unfold F_clauses_normal
  have st := Hs.start h [] (by simp)
  refine Hs.nw (st.nil ty_lits_Lit i64.enc none) fun b0 h1 st => ?_
  have hA1 := hA.ext (st.frame (by simp))
  refine Hs.sorted st fun b h2 st => ?_
  have hA2 := hA.ext (st.frame (by simp))
  have hl := nrm_length c
  have kb := st.blk 2 rfl
  refine Hs.collect (P := Tryz.prog) (τ := i64) (xs := []) (L := nrm c) (s := ⟨none, 0, 0⟩) (t := ty_lits_Lit) (by_ := 8) st 0 1 (by decide) rfl rfl leaf_int (by simp; omega) (by decide) (fun S hz hf => ⟨[], by simp, fun h1 hn => sorted_iterU (kb.ext hn.1 (by simp)) (hA2.ext hn.1) hl2 hrt⟩) fun s' h3 st => ?_
  rw [st.lds 1 0 rfl rfl]
  intro h4 hm
  have st := st.marked hm
  exact ⟨st.res (by simp) 0 rfl, st.frame (by simp)⟩
theorem normal_c (hA : At h (li c s)) (hr : rightC c = true) : callT Tryz.prog fn_clauses_normal #[.slice s.a s.len s.cap] .sl (fun s' h' => New h.size h' (lo (nrm c) s') ∧ Ext [] h h') h :=
  normal_u hA (by have := rightC_len hr; omega) (rightC_rt hr)
end Go.Proofs.S
namespace Go.Cl
open Go.Sx
def alwaysC (c : List Int) : Bool := c.any fun x => c.contains (-x)
def normP (c : List Int) : List Int × Bool × Int := if rightC c then (nrm c, alwaysC c, 0) else ([], false, 20)
theorem rt_neg {x : Int} (h : rt x = true) : rt (-x) = true := by have := rt_iff.1 h; exact rt_iff.2 (by omega)
theorem negL_rt {x : Int} (h : rt x = true) : negL x = -x := by simp [negL, h]
theorem mem_nrm {c : List Int} (h : rightC c = true) {x : Int} : x ∈ nrm c ↔ x ∈ c := (nrm_spec (rightC_rt h)).2 x
theorem strict_nrm {c : List Int} (h : rightC c = true) : Strict (nrm c) := (nrm_spec (rightC_rt h)).1
theorem right_nrm {c : List Int} (h : rightC c = true) : rightC (nrm c) = true := by
  simp only [rightC, Bool.and_eq_true, List.all_eq_true, decide_eq_true_eq]
  exact ⟨Nat.le_trans (nrm_length c) (rightC_len h), fun x hx => rightC_rt h x ((mem_nrm h).1 hx)⟩
def alwScan (last : Int) : List Int → Bool
  | [] => false
  | x :: xs => (decide (last ≠ 0) && decide (x = negL last)) || alwScan x xs
theorem alwScan_mem : ∀ {L : List Int} {last : Int}, alwScan last L = true → (∀ x ∈ L, rt x = true) → (last = 0 ∨ rt last = true) → ∃ x, (x = last ∨ x ∈ L) ∧ x ≠ 0 ∧ -x ∈ L
  | x :: xs, last, h, hr, hl => by
    simp only [alwScan, Bool.or_eq_true, Bool.and_eq_true, decide_eq_true_eq] at h
    rcases h with ⟨h0, h1⟩ | h
    · rcases hl with hl | hl
      · exact absurd hl h0
      · exact ⟨last, .inl rfl, h0, by rw [h1, negL_rt hl]; simp⟩
    · obtain ⟨y, hy, h0, hn⟩ := alwScan_mem h (fun z hz => hr z (by simp [hz])) (.inr (hr x (by simp)))
      exact ⟨y, .inr (by rcases hy with rfl | hy <;> simp [*]), h0, by simp [hn]⟩
theorem alwScan_app : ∀ (A : List Int) (last v : Int) (B : List Int), rt v = true → alwScan last (A ++ v :: negL v :: B) = true
  | [], last, v, B, h => by
    have : v ≠ 0 := (rt_iff.1 h).1
    simp [alwScan, this]
  | a :: A, last, v, B, h => by
    simp only [List.cons_append, alwScan, Bool.or_eq_true]
    exact .inr (alwScan_app A a v B h)
theorem alwScan_eq {c : List Int} (h : rightC c = true) : alwScan 0 (nrm c) = alwaysC c := by
  have hs := strict_nrm h
  have hr : ∀ x ∈ nrm c, rt x = true := rightC_rt (right_nrm h)
  cases ha : alwaysC c with
  | true =>
    simp only [alwaysC, List.any_eq_true, List.contains_iff_mem] at ha
    obtain ⟨x, hx, hnx⟩ := ha
    -- the one that is not negated
    obtain ⟨v, hv0, hv, hnv⟩ : ∃ v : Int, 0 < v ∧ v ∈ nrm c ∧ -v ∈ nrm c := by
      have := rt_iff.1 (rightC_rt h x hx)
      by_cases hp : 0 < x
      · exact ⟨x, hp, (mem_nrm h).2 hx, (mem_nrm h).2 hnx⟩
      · exact ⟨-x, by omega, (mem_nrm h).2 hnx, by rw [Int.neg_neg]; exact (mem_nrm h).2 hx⟩
    have hrv := hr v hv
    have hrn := hr _ hnv
    obtain ⟨A, B, e⟩ := List.append_of_mem hv
    rw [e] at hs hnv ⊢
    have hs2 := (List.pairwise_append.1 hs).2.1
    rw [List.pairwise_cons] at hs2
    have hlt : ltL v (-v) = true := by rw [ltL_rt hrv hrn]; unfold ix; split <;> split <;> omega
    have hB : -v ∈ B := by
      rcases List.mem_append.1 hnv with k | k
      · have := (List.pairwise_append.1 hs).2.2 _ k v (by simp)
        rw [ltL_asymm hlt] at this; cases this
      · rcases List.mem_cons.1 k with k | k
        · omega
        · exact k
    cases B with
    | nil => cases hB
    | cons y B =>
      have hy : y = -v := by
        rcases List.mem_cons.1 hB with k | k
        · exact k.symm
        · have h1 := hs2.1 y (by simp)
          have h2 := (List.pairwise_cons.1 hs2.2).1 _ k
          have hry : rt y = true := hr y (by rw [e]; simp)
          rw [ltL_rt hrv hry] at h1
          rw [ltL_rt hry hrn] at h2
          unfold ix at h1 h2
          split at h1 <;> split at h1 <;> split at h2 <;> (try split at h2) <;> omega
      subst hy
      have := alwScan_app A 0 v B hrv
      rw [negL_rt hrv] at this; exact this
  | false =>
    cases hb : alwScan 0 (nrm c) with
    | false => rfl
    | true =>
      obtain ⟨x, hx, h0, hn⟩ := alwScan_mem hb hr (.inl rfl)
      have : alwaysC c = true := by
        simp only [alwaysC, List.any_eq_true, List.contains_iff_mem]
        rcases hx with rfl | hx
        · exact absurd rfl h0
        · exact ⟨x, (mem_nrm h).1 hx, (mem_nrm h).1 hn⟩
      rw [this] at ha; cases ha
end Go.Cl
namespace Go.Proofs.S
open Go Go.Sx Go.Proofs Go.Cl
variable {h : Heap} {c d : List Int} {s s2 : Sl} {fr : Fr} {G As : List Asn}
theorem index_clause (hA : At h (li c s)) (hl : c.length ≤ 1099511627776) (v : Int) : callT Tryz.prog fn_slices_Index_clauses_Clause_lits_Lit #[.slice s.a s.len s.cap, .int .i64 v] (.int .i64) (fun r h' => r = fidx (fun x => v == x) c ∧ h' = h) h :=
  callT_gen fun K hK => S_slices_Index_clauses_Clause_lits_Lit (a0 := s) (a1 := v) K (w_index (τ := i64) (eq := fun x => v == x) hA hl (hK _ _ ⟨rfl, rfl⟩))
theorem any_eq_contains (c : List Int) (v : Int) : c.any (fun x => v == x) = c.contains v := by
  rw [Bool.eq_iff_iff, List.any_eq_true, List.contains_iff_mem]
  exact ⟨fun ⟨x, hx, e⟩ => by simp at e; subst e; exact hx, fun hx => ⟨v, hx, by simp⟩⟩
theorem contains_clause (hA : At h (li c s)) (hl : c.length ≤ 1099511627776) (v : Int) : callT Tryz.prog fn_slices_Contains_clauses_Clause_lits_Lit #[.slice s.a s.len s.cap, .int .i64 v] .bool (fun r h' => r = c.contains v ∧ h' = h) h := by
  refine callT_gen fun K hK => S_slices_Contains_clauses_Clause_lits_Lit (a0 := s) (a1 := v) K ?_
  refine call_of (index_clause hA hl v) ?_
  rintro r h' ⟨rfl, rfl⟩
  exact hK _ _ ⟨by rw [fidx_ge, any_eq_contains], rfl⟩
theorem index_lit (hA : At h (li c s)) (hl : c.length ≤ 1099511627776) (v : Int) : callT Tryz.prog fn_slices_Index_lits_Lit_lits_Lit #[.slice s.a s.len s.cap, .int .i64 v] (.int .i64) (fun r h' => r = fidx (fun x => v == x) c ∧ h' = h) h :=
  callT_gen fun K hK => S_slices_Index_lits_Lit_lits_Lit (a0 := s) (a1 := v) K (w_index (τ := i64) (eq := fun x => v == x) hA hl (hK _ _ ⟨rfl, rfl⟩))
theorem contains_lit (hA : At h (li c s)) (hl : c.length ≤ 1099511627776) (v : Int) : callT Tryz.prog fn_slices_Contains_lits_Lit_lits_Lit #[.slice s.a s.len s.cap, .int .i64 v] .bool (fun r h' => r = c.contains v ∧ h' = h) h := by
  refine callT_gen fun K hK => S_slices_Contains_lits_Lit_lits_Lit (a0 := s) (a1 := v) K ?_
  refine call_of (index_lit hA hl v) ?_
  rintro r h' ⟨rfl, rfl⟩
  exact hK _ _ ⟨by rw [fidx_ge, any_eq_contains], rfl⟩
theorem bne_iff' (x y : Int) : (x != y) = true ↔ x ≠ y := by simp
theorem equal_lit (hA : At h (li c s)) (hB : At h (li d s2)) (hl : c.length ≤ 1099511627776) : callT Tryz.prog fn_slices_Equal_lits_Lit_lits_Lit #[.slice s.a s.len s.cap, .slice s2.a s2.len s2.cap] .bool (fun r h' => r = decide (c = d) ∧ h' = h) h :=
  callT_gen fun K hK => S_slices_Equal_lits_Lit_lits_Lit (a0 := s) (a1 := s2) K (w_equal (τ := i64) (ne := fun x y => x != y) bne_iff' hA hB hl fun b hb => hK _ _ ⟨by rw [Bool.eq_iff_iff, hb]; simp, rfl⟩)
theorem equal_int (hA : At h (li c s)) (hB : At h (li d s2)) (hl : c.length ≤ 1099511627776) : callT Tryz.prog fn_slices_Equal_int_int #[.slice s.a s.len s.cap, .slice s2.a s2.len s2.cap] .bool (fun r h' => r = decide (c = d) ∧ h' = h) h :=
  callT_gen fun K hK => S_slices_Equal_int_int (a0 := s) (a1 := s2) K (w_equal (τ := i64) (ne := fun x y => x != y) bne_iff' hA hB hl fun b hb => hK _ _ ⟨by rw [Bool.eq_iff_iff, hb]; simp, rfl⟩)
theorem always_c (hA : At h (li c s)) : callT Tryz.prog fn_clauses_Always #[.slice s.a s.len s.cap] .bool (fun r h' => r = (rightC c && alwaysC c) ∧ Ext [] h h') h := by
  refine callT_gen fun K hK => S_clauses_Always (a0 := s) K ?_
  unfold F_clauses_Always
  have st := Hs.start h [] (by simp)
  refine st.nw fun b0 h1 st => ?_
  refine call_of (right_c (hA.ext (st.frame (by simp)))) ?_
  rintro r h2 ⟨rfl, x2⟩
  have st := st.ext x2
  cases hr : rightC c with
  | false =>
    simp only [Bool.not_false, brB_true]
    refine st.st1 0 0 rfl (by simp) fun h3 st => ?_
    intro h4 hm
    have st := st.marked hm
    rw [st.ldb 0 0 rfl rfl]
    exact hK _ _ ⟨by simp [hr], st.frame (by simp)⟩
  | true =>
    simp only [Bool.not_true, brB_false]
    refine st.nw fun b3 h3 st => ?_
    refine st.st1 1 0 rfl (by simp) fun h4 st => ?_
    refine Hs.sorted st fun b h5 st => ?_
    have hA5 := hA.ext (st.frame (by simp))
    have kb := st.blk 2 rfl
    refine st.range (P := Tryz.prog) (τ := .cons i64 .nil) (nxL (nrm c)) (finL (nrm c)) (fun S hz hf => sorted_hit kb hA5 hr S) (fun _ _ _ _ => rfl)
      (fun pre Bs => ∃ last : Int, Bs = [cl b0 ty_bool [.bool false], cl b3 ty_lits_Lit [.int .i64 last], cl b ty_clauses_Clause [.slice s.a s.len s.cap]] ∧ ∀ L, pre.map (·.1) ++ L = nrm c → alwScan last L = alwaysC c)
      (fun j Bs => j = .ret ∧ alwaysC c = true ∧ ∃ last : Int, Bs = [cl b0 ty_bool [.bool true], cl b3 ty_lits_Lit [.int .i64 last], cl b ty_clauses_Clause [.slice s.a s.len s.cap]])
      ⟨0, rfl, fun L e => by have e : L = nrm c := e; rw [e]; exact alwScan_eq hr⟩ ?_ ?_ ?_ ?_
    · rintro pre ⟨x, ⟨⟩⟩ Bs B hb ⟨r, hr2⟩ ⟨last, rfl, hl⟩ st next jump hnext hjump
      have hx := hl _ hr2
      simp only [alwScan] at hx
      simp only
      rw [st.ldi 1 0 rfl rfl]
      by_cases h0 : last = 0
      · have e : (last != 0) = false := by simp [h0]
        rw [e, brB_false]
        refine st.st1 1 0 rfl (by simp) fun h6 st => ?_
        refine hnext _ _ ⟨x, rfl, fun L e => ?_⟩ st
        have e2 : L = r := by
          rw [List.map_append, List.append_assoc] at e
          have := List.append_cancel_left (e.trans hr2.symm)
          simpa using this
        rw [e2, ← hx, h0]; simp
      · have e : (last != 0) = true := by simp [h0]
        rw [e, brB_true, st.ldi 1 0 rfl rfl]
        refine call_of (lits_Neg_c last) ?_
        rintro r' h6 ⟨rfl, rfl⟩
        by_cases hn : x = negL last
        · have e : (x == negL last) = true := by simp [hn]
          rw [e, brB_true]
          refine st.st1 0 0 rfl (by simp) fun h7 st => ?_
          exact hjump .ret _ _ ⟨rfl, by rw [← hx]; simp [h0, hn], last, rfl⟩ st
        · have e : (x == negL last) = false := by simp [hn]
          rw [e, brB_false]
          refine st.st1 1 0 rfl (by simp) fun h7 st => ?_
          refine hnext _ _ ⟨x, rfl, fun L e => ?_⟩ st
          have e2 : L = r := by
            rw [List.map_append, List.append_assoc] at e
            have := List.append_cancel_left (e.trans hr2.symm)
            simpa using this
          rw [e2, ← hx]; simp [hn]
    · rintro pre Bs h6 hf ⟨last, rfl, hl⟩ st
      have hf0 : alwaysC c = false := by
        rw [← hl [] (by rw [List.append_nil]; exact hf)]; rfl
      refine st.st1 0 0 rfl (by simp) fun h7 st => ?_
      intro h8 hm
      have st := st.marked hm
      rw [st.ldb 0 0 rfl rfl]
      exact hK _ _ ⟨by simp [hf0], st.frame (by simp)⟩
    · rintro Bs h6 ⟨_, ha, last, rfl⟩ st
      intro h8 hm
      have st := st.marked hm
      rw [st.ldb 0 0 rfl rfl]
      exact hK _ _ ⟨by simp [hr, ha], st.frame (by simp)⟩
    · intro i id Kx hi; simp at hi
theorem norm_c (hA : At h (li c s)) : callT Tryz.prog fn_clauses_Norm #[.slice s.a s.len s.cap] (.tup (.cons .sl (.cons .bool (.cons (.int .i64) .nil))))
    (fun r h' => ∃ s', r = (s', (normP c).2.1, (normP c).2.2, ()) ∧ New h.size h' (lo (normP c).1 s') ∧ Ext [] h h') h := by
  refine callT_gen fun K hK => S_clauses_Norm (a0 := s) K ?_
  unfold F_clauses_Norm
  refine call_of (right_c hA) ?_
  rintro r h1 ⟨rfl, x1⟩
  cases hr : rightC c with
  | false =>
    simp only [Bool.not_false, brB_true]
    exact hK _ _ ⟨⟨none, 0, 0⟩, by simp [normP, hr], by simp only [normP, hr]; exact osl_nil _ _, x1⟩
  | true =>
    simp only [Bool.not_true, brB_false]
    refine call_of (normal_c (hA.ext x1) hr) ?_
    rintro s' h2 ⟨hn, x2⟩
    refine call_of (always_c ((hA.ext x1).ext x2)) ?_
    rintro r h3 ⟨rfl, x3⟩
    exact hK _ _ ⟨s', by simp [normP, hr], by simp only [normP, hr]; exact (hn.mono x1.1).ext x3, (x1.nil_trans x2).nil_trans x3⟩
end Go.Proofs.S
namespace Go.Proofs.S
open Go Go.Sx Go.Proofs Go.Cl
variable {h : Heap} {c d : List Int} {s s2 : Sl} {fr : Fr} {G As : List Asn}
end Go.Proofs.S
