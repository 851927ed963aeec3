/-
  The package clauses: Right, sorted, normal: contracts.
-/
import Derived.Test.YtogghgcgehhcaaaClA
set_option linter.unusedVariables false
namespace Go.Proofs.S
open Go Go.Sx Go.Proofs Go.Cl

abbrev i64 : Ty := .int .i64
/-- A list of literals that is read; one of one's own. -/
abbrev li (c : List Int) (s : Sl) : Asn := rsl i64.enc c s
abbrev lo (c : List Int) (s : Sl) : Asn := osl ty_lits_Lit i64.enc c s

variable {h : Heap} {c d : List Int} {s s2 : Sl} {fr : Fr} {G As : List Asn}

theorem predWrong (c : List Int) (h : Heap) : PredOk Try.prog i64 (.func (.func fn_clauses_wrong) #[] #[]) (fun x => !rt x) c h :=
  fun x _ h' _ => callF_of (wrongF x) fun r h2 ⟨e, e2⟩ => ⟨e, by rw [e2]; exact Ext.refl' _ _⟩

theorem right_c (hA : At h (li c s)) : callT Try.prog fn_clauses_Right #[.slice s.a s.len s.cap] .bool (fun r h' => r = rightC c ∧ Ext [] h h') h := by
  refine S_clauses_Right (a0 := s) _ ?_
  unfold F_clauses_Right
  have hl := rsl_len hA
  by_cases h1 : c.length ≤ 4096
  · have e : decide ((s.len : Int) ≤ 4096) = true := by rw [hl]; simp; omega
    rw [e, brB_true]
    refine call_of (R := fun r h' => r = c.any (fun x => !rt x) ∧ Ext [] h h') ?_ ?_
    · refine S_slices_ContainsFunc_clauses_Clause_lits_Lit (a0 := s) _ ?_
      unfold F_slices_ContainsFunc_clauses_Clause_lits_Lit
      refine call_of (R := fun r h' => r = fidx (fun x => !rt x) c ∧ Ext [] h h') ?_ ?_
      · refine callT_gen fun K hK => S_slices_IndexFunc_clauses_Clause_lits_Lit (a0 := s) K ?_
        exact w_indexFunc (P := Try.prog) (τ := i64) hA (by omega) (predWrong c h) fun h' x => hK _ _ ⟨rfl, x⟩
      · rintro r h' ⟨rfl, x⟩
        exact ⟨fidx_ge _ _, x⟩
    · rintro r h' ⟨rfl, x⟩
      refine ⟨?_, x⟩
      have : (!c.any fun x => !rt x) = c.all rt := by rw [List.not_any_eq_all_not]; congr 1; funext x; simp
      simp [rightC, h1, this]
  · have e : decide ((s.len : Int) ≤ 4096) = false := by rw [hl]; simp; omega
    rw [e, brB_false]
    exact ⟨by simp [rightC, h1], Ext.refl' _ _⟩

theorem sorts_Lit_swo : Go.Sort.SWO ltL := ⟨ltL_irrefl, fun x y z => ltL_trans, fun x y z => ltL_ntrans⟩

abbrev sf_lits : SF := ⟨fn_slices_pdqsortCmpFunc_lits_Lit, fn_slices_insertionSortCmpFunc_lits_Lit, fn_slices_heapSortCmpFunc_lits_Lit, fn_slices_siftDownCmpFunc_lits_Lit, fn_slices_breakPatternsCmpFunc_lits_Lit, fn_slices_choosePivotCmpFunc_lits_Lit, fn_slices_reverseRangeCmpFunc_lits_Lit, fn_slices_partialInsertionSortCmpFunc_lits_Lit, fn_slices_partitionEqualCmpFunc_lits_Lit, fn_slices_partitionCmpFunc_lits_Lit, fn_slices_medianCmpFunc_lits_Lit, fn_slices_medianAdjacentCmpFunc_lits_Lit, fn_slices_order2CmpFunc_lits_Lit, fn_slices_nextPowerOfTwo, fn_slices_xorshift_Next, fn_math_bits_Len, fn_math_bits_Len64, ty_slices_xorshift, ty_int⟩

theorem sorts_lits : Sorts Try.prog i64 sf_lits where
  pdq := fun K hF => S_slices_pdqsortCmpFunc_lits_Lit K hF
  ins := fun K hF => S_slices_insertionSortCmpFunc_lits_Lit K hF
  heap := fun K hF => S_slices_heapSortCmpFunc_lits_Lit K hF
  sift := fun K hF => S_slices_siftDownCmpFunc_lits_Lit K hF
  brk := fun K hF => S_slices_breakPatternsCmpFunc_lits_Lit K hF
  piv := fun K hF => S_slices_choosePivotCmpFunc_lits_Lit K hF
  rev := fun K hF => S_slices_reverseRangeCmpFunc_lits_Lit K hF
  pins := fun K hF => S_slices_partialInsertionSortCmpFunc_lits_Lit K hF
  peq := fun K hF => S_slices_partitionEqualCmpFunc_lits_Lit K hF
  part := fun K hF => S_slices_partitionCmpFunc_lits_Lit K hF
  med := fun K hF => S_slices_medianCmpFunc_lits_Lit K hF
  meda := fun K hF => S_slices_medianAdjacentCmpFunc_lits_Lit K hF
  ord2 := fun K hF => S_slices_order2CmpFunc_lits_Lit K hF
  npow := fun K hF => S_slices_nextPowerOfTwo K hF
  xsh := fun K hF => S_slices_xorshift_Next K hF
  len := fun K hF => S_math_bits_Len K hF
  len64 := fun K hF => S_math_bits_Len64 K hF

theorem values_c (hs : True) : callT Try.prog fn_slices_Values_clauses_Clause_lits_Lit #[.slice s.a s.len s.cap] .val
    (fun r h' => ∃ b, r = .func (.func fn_slices_Values_clauses_Clause_lits_Lit_1) #[] #[.pointer (some ⟨b, 0, none⟩)] ∧ Blk h' b ty_clauses_Clause [.slice s.a s.len s.cap] ∧ Ext [] h h') h := by
  refine S_slices_Values_clauses_Clause_lits_Lit (a0 := s) _ ?_
  unfold F_slices_Values_clauses_Clause_lits_Lit
  rw [nw_eq]
  exact ⟨h.size, rfl, Blk.new h _ #[.slice s.a s.len s.cap], (Ext.refl' _ _).push _⟩

/-- What an iterator hands over, collected. -/
theorem collect_c {fv : Value} {L : List Int} {F : List Nat} (hF : ∀ b ∈ F, b < h.size) (hit : ∀ h1, Ext [] h h1 → IterSpec Try.prog (.cons i64 .nil) fv h1 (nxL L) (finL L) F []) (hL : L.length ≤ 1099511627776) :
    callT Try.prog fn_slices_Collect_lits_Lit #[fv] .sl (fun s' h' => New h.size h' (lo L s') ∧ Ext [] h h') h := by
  refine S_slices_Collect_lits_Lit (a0 := fv) _ ?_
  unfold F_slices_Collect_lits_Lit
  refine call_of (R := fun s' h' => New h.size h' (lo L s') ∧ Ext [] h h') ?_ (fun s' h' hx => hx)
  refine S_slices_AppendSeq_lits_Lit_lits_Lit (a0 := ⟨none, 0, 0⟩) (a1 := fv) _ ?_
  unfold F_slices_AppendSeq_lits_Lit_lits_Lit
  have st := Hs.start h [] (by simp)
  refine Hs.nw (st.nil ty_lits_Lit i64.enc none) fun b0 h1 st => ?_
  refine Hs.collect (P := Try.prog) (τ := i64) (xs := []) (L := L) (s := ⟨none, 0, 0⟩) (t := ty_lits_Lit) (by_ := 8) st 0 1 (by decide) rfl rfl leaf_int (by simp; omega) (by decide) (fun S hz hf => ?_) fun s' h2 st => ?_
  · obtain ⟨x, hS⟩ := hf ([], h) (by simp)
    refine ⟨F, fun b hb => ⟨Nat.lt_of_lt_of_le (hF b hb) x.1, fun hin => ?_⟩, fun h3 hn => hit h3 (x.nil_trans hn.1)⟩
    rcases hS b hin with k | k
    · cases k
    · have := hF b hb; simp only at k; omega
  · rw [st.lds 1 0 rfl rfl]
    intro h3 hm
    have st := st.marked hm
    exact ⟨st.res (by simp) 0 rfl, st.frame (by simp)⟩

/-- A sorted row of one's own. -/
theorem sorted_row_c (hA : At h (li c s)) (hlen : c.length ≤ 1048576) {b : Nat} {t0 : TypeId} (kb : Blk h b t0 [.slice s.a s.len s.cap]) :
    callT Try.prog fn_slices_SortedFunc_lits_Lit #[.func (.func fn_slices_Values_clauses_Clause_lits_Lit_1) #[] #[.pointer (some ⟨b, 0, none⟩)], .func (.func fn_lits_Compare) #[] #[]] .sl
      (fun s' h' => ∃ ys, ys.Perm c ∧ ys.Pairwise (fun a b => ltL b a = false) ∧ New h.size h' (lo ys s') ∧ Ext [] h h') h := by
  obtain ⟨SA, hSA⟩ := hA
  refine S_slices_SortedFunc_lits_Lit _ ?_
  unfold F_slices_SortedFunc_lits_Lit
  refine call_of (collect_c (F := SA) (L := c) (fun b hb => At.lt hSA b hb) (fun h1 x => values_iter (kb.ext x (by simp)) (Asn.ext hSA x (by simp)) (by omega) (fun yl h' K hW => S_slices_Values_clauses_Clause_lits_Lit_1 (a0 := yl) K hW)) (by omega)) ?_
  rintro s' h1 ⟨⟨S1, p, hge⟩, x1⟩
  refine call_of (R := fun _ h' => ∃ ys, ys.Perm c ∧ ys.Pairwise (fun a b => ltL b a = false) ∧ (lo ys s').P S1 h' ∧ Ext S1 h1 h') ?_ ?_
  · refine S_slices_SortFunc_lits_Lit_lits_Lit (a0 := s') (a1 := .func (.func fn_lits_Compare) #[] #[]) _ ?_
    unfold F_slices_SortFunc_lits_Lit_lits_Lit
    exact Go.Sx.sort_c (P := Try.prog) (τ := i64) sorts_lits sorts_Lit_swo p (by omega) (fun h' x y hx hy hz => callF_of (compareF x y) fun r h2 ⟨e, e2⟩ => ⟨by rw [e]; simp [ltL], by rw [e2]; exact Ext.refl' _ _⟩)
      (fun _ h' => ∃ ys, ys.Perm c ∧ ys.Pairwise (fun a b => ltL b a = false) ∧ (lo ys s').P S1 h' ∧ Ext S1 h1 h') fun ys h' a b c' d => ⟨ys, a, b, c', d⟩
  · rintro _ h2 ⟨ys, a, b', p2, x2⟩
    refine ⟨ys, a, b', ⟨S1, p2, hge⟩, x1.trans x2 fun y hy => .inr (hge y hy)⟩

end Go.Proofs.S
