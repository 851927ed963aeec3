/-
  The package formula: Norm: contract.
-/
import Derived.Test.YtmlamkoilggonaaGreatFoJ
import Derived.Test.YtmlamkoilggonaaGreatSxW3
import Derived.Test.YtmlamkoilggonaaGreatClO
import Derived.Test.YtmlamkoilggonaaGreatSxCp
import Derived.Test.YtmlamkoilggonaaGreatClR
set_option linter.unusedVariables false
set_option linter.unusedSimpArgs false
namespace Go.Cl
open Go Go.Sx

def Nf (c : List Int) : Prop := rightC c = true ∧ nrm c = c
theorem totC : TotC Nf compareP where
  zero := fun {a b} ha hb => by
    have := same_compare ha.1 hb.1
    unfold sameP at this
    rw [ha.1, hb.1, Bool.true_and, Bool.true_and, ha.2, hb.2] at this
    constructor
    · intro h
      rw [h] at this
      exact of_decide_eq_true (this.trans (by rfl))
    · intro h
      rw [decide_eq_true h] at this
      exact eq_of_beq this.symm
  anti := fun {a b} ha hb => by have := compare_anti ha.1 hb.1; omega
  trans := fun {a b d} ha hb hd h k => compare_trans ha.1 hb.1 hd.1 h k
def normL (cs : List (List Int)) : List (List Int) := sortC compareP ((cs.filter fun c => !alwaysC c).map nrm)
def normF (n : Int) (cs : List (List Int)) : (Int × List (List Int)) × Int := if (checkP n cs).2 ≠ 0 then ((0, []), (checkP n cs).2) else ((n, normL cs), 0)
theorem nf_nrm {c : List Int} (h : rightC c = true) : Nf (nrm c) := ⟨right_nrm h, nrm_nrm h⟩

end Go.Cl
namespace Go.Proofs.S
open Go Go.Sx Go.Proofs Go.Cl

variable {h : Heap} {c d : List Int} {s s2 : Sl} {fr : Fr} {G As : List Asn} {m : List Bool} {sm : Sl}

abbrev sf_clauses : SF := ⟨fn_slices_pdqsortCmpFunc_clauses_Clause, fn_slices_insertionSortCmpFunc_clauses_Clause, fn_slices_heapSortCmpFunc_clauses_Clause, fn_slices_siftDownCmpFunc_clauses_Clause, fn_slices_breakPatternsCmpFunc_clauses_Clause, fn_slices_choosePivotCmpFunc_clauses_Clause, fn_slices_reverseRangeCmpFunc_clauses_Clause, fn_slices_partialInsertionSortCmpFunc_clauses_Clause, fn_slices_partitionEqualCmpFunc_clauses_Clause, fn_slices_partitionCmpFunc_clauses_Clause, fn_slices_medianCmpFunc_clauses_Clause, fn_slices_medianAdjacentCmpFunc_clauses_Clause, fn_slices_order2CmpFunc_clauses_Clause, fn_slices_nextPowerOfTwo, fn_slices_xorshift_Next, fn_math_bits_Len, fn_math_bits_Len64, ty_slices_xorshift, ty_int⟩

theorem sorts_clauses : Sorts Tryz.prog .sl sf_clauses where
  pdq := fun K hF => S_slices_pdqsortCmpFunc_clauses_Clause K hF
  ins := fun K hF => S_slices_insertionSortCmpFunc_clauses_Clause K hF
  heap := fun K hF => S_slices_heapSortCmpFunc_clauses_Clause K hF
  sift := fun K hF => S_slices_siftDownCmpFunc_clauses_Clause K hF
  brk := fun K hF => S_slices_breakPatternsCmpFunc_clauses_Clause K hF
  piv := fun K hF => S_slices_choosePivotCmpFunc_clauses_Clause K hF
  rev := fun K hF => S_slices_reverseRangeCmpFunc_clauses_Clause K hF
  pins := fun K hF => S_slices_partialInsertionSortCmpFunc_clauses_Clause K hF
  peq := fun K hF => S_slices_partitionEqualCmpFunc_clauses_Clause K hF
  part := fun K hF => S_slices_partitionCmpFunc_clauses_Clause K hF
  med := fun K hF => S_slices_medianCmpFunc_clauses_Clause K hF
  meda := fun K hF => S_slices_medianAdjacentCmpFunc_clauses_Clause K hF
  ord2 := fun K hF => S_slices_order2CmpFunc_clauses_Clause K hF
  npow := fun K hF => S_slices_nextPowerOfTwo K hF
  xsh := fun K hF => S_slices_xorshift_Next K hF
  len := fun K hF => S_math_bits_Len K hF
  len64 := fun K hF => S_math_bits_Len64 K hF

theorem encIi (x y : Int) (h : i64.enc x = i64.enc y) : x = y := by
  have h : Value.int .i64 x = .int .i64 y := h
  injection h
theorem compact_clauses {fv : Value} {K : Sl → HP} (hW : W_compact Tryz.prog .sl (.slice none 0 0) s fv K h) : callT Tryz.prog fn_slices_CompactFunc_clauses_Clause_clauses_Clause #[.slice s.a s.len s.cap, fv] .sl K h :=
  S_slices_CompactFunc_clauses_Clause_clauses_Clause (a0 := s) (a1 := fv) K hW
theorem norm1F {p q : Sl} (hA : At h (li c p)) (hB : At h (li d q)) (hl : c.length ≤ 1099511627776) : callF Tryz.prog (.func (.func fn_formula_Norm_1) #[] #[]) #[.slice p.a p.len p.cap, .slice q.a q.len q.cap] .bool (fun r h' => r = decide (c = d) ∧ h' = h) h := by
  refine callF_func (callT_gen fun K hK => S_formula_Norm_1 (a0 := p) (a1 := q) K ?_)
  unfold F_formula_Norm_1
  refine call_of (equal_clause hA hB hl) ?_
  rintro r hq ⟨e, rfl⟩
  exact hK _ _ ⟨e, rfl⟩

abbrev lgo (cs : List (List Int)) (s : Sl) : Asn := rsg (fun c p => lo c p) cs s
theorem lgo_lli {n : Nat} {cs : List (List Int)} (hA : New n h (lgo cs s)) : New n h (lli cs s) := frsg_mono (fun c p S h q => osl_rsl q) hA

theorem fnorm_c {n : Int} {cs : List (List Int)} (hA : At h (lli cs s)) :
    callT Tryz.prog fn_formula_Norm #[.agg #[.int .i64 n, .slice s.a s.len s.cap]] (.tup (.cons (.agg (.cons (.int .i64) (.cons .sl .nil))) (.cons (.int .i64) .nil)))
      (fun r h' => ∃ s', r = (((normF n cs).1.1, s', ()), (normF n cs).2, ()) ∧ New h.size h' (lgo (normF n cs).1.2 s') ∧ Ext [] h h') h := by
  refine callT_gen fun K hK => S_formula_Norm (a0 := (n, s, ())) K ?_
  unfold F_formula_Norm
  have st := Hs.start h [lli cs s] (by simp [hA])
  refine st.nw fun b0 h1 st => ?_
  refine st.nw fun b1 h2 st => ?_
  have st := st.freeze 0 rfl
  simp only [List.nil_append, List.cons_append, List.eraseIdx_cons_zero, addr_add, Nat.zero_add] at st ⊢
  refine ldF (s := s) (st.fblk 1 rfl) ?_
  refine call_of (check_c (n := n) (st.fz 0 rfl)) ?_
  rintro _ h4 ⟨rfl, x4⟩
  have st := st.ext x4
  simp only
  by_cases hc : (checkP n cs).2 = 0
  · rw [show ((checkP n cs).2 != 0) = false by simp [hc], brB_false]
    have hg := check_good.1 hc
    have ea : normF n cs = ((n, normL cs), 0) := by unfold normF; rw [if_neg (by simp [hc])]
    rw [ea] at hK
    rw [ld_int (i := 0) (st.fblk 1 rfl) rfl]
    refine st.nw fun b6 h6 st => ?_
    simp only [List.nil_append, List.cons_append, addr_add, Nat.zero_add] at st ⊢
    refine st.st1 1 0 rfl (by simp) fun h7 st => ?_
    refine st.st1 1 1 rfl (by simp) fun h8 st => ?_
    simp only [List.set_cons_zero, List.set_cons_succ] at st
    rw [ld_sl (i := 1) (st.fblk 1 rfl) rfl]
    have st := st.nilg (fun c p => lo c p) ty_clauses_Clause none
    simp only [List.nil_append, List.cons_append] at st
    have l1 := rsg_len (st.fz 0 rfl)
    have hlen := good_len hg
    refine lfp_invh (I := fun μ σ h' => ∃ (i : Nat) (s' : Sl), σ = ((i : Int), ()) ∧ i ≤ cs.length ∧
        Hs [([], h)] [lli cs s, cF b0 n s] [cl b1 ty_formula_Formula [.int .i64 0, .slice none 0 0], cl b6 ty_formula_Formula [.int .i64 n, .slice s'.a s'.len s'.cap], llo (((cs.take i).filter fun c => !alwaysC c).map nrm) s'] h' ∧ μ = cs.length - i)
      ⟨_, 0, ⟨none, 0, 0⟩, rfl, by omega, st, rfl⟩ ?_
    clear st
    rintro μ σ h9 X ⟨i, s', rfl, hi, st, em⟩ hX
    simp only
    have hfl : (((cs.take i).filter fun c => !alwaysC c).map nrm).length ≤ i := by
      rw [List.length_map]
      exact Nat.le_trans (List.length_filter_le _ _) (by simp; omega)
    by_cases hlt : i < cs.length
    · rw [decide_eq_true (show (i : Int) < (s.len : Int) by omega), brB_true, inc_i (show i < 4611686018427387904 by omega)]
      refine rdG (st.fz 0 rfl) hlt fun p hp => ?_
      have hcr := (hg.2.2 _ (List.getElem_mem hlt)).1
      refine call_of (norm_c hp) ?_
      rintro _ h10 ⟨r12, rfl, n10, x10⟩
      have st := st.new x10 n10
      simp only [List.nil_append, List.cons_append] at st
      have en : normP cs[i] = (nrm cs[i], alwaysC cs[i], 0) := by unfold normP; rw [if_pos hcr]
      rw [en] at st ⊢
      refine jn_in fun J hJ => ?_
      have fin : ∀ s' h', Hs [([], h)] [lli cs s, cF b0 n s] [cl b1 ty_formula_Formula [.int .i64 0, .slice none 0 0], cl b6 ty_formula_Formula [.int .i64 n, .slice s'.a s'.len s'.cap], llo (((cs.take (i + 1)).filter fun c => !alwaysC c).map nrm) s'] h' → J () h' :=
        fun s' h' st => hJ _ _ (hX _ _ _ ⟨i + 1, s', rfl, by omega, st, rfl⟩ (by omega))
      rw [take_succ_getE hlt, List.filter_append, List.map_append] at fin
      simp only
      by_cases hal : alwaysC cs[i] = true
      · rw [hal, Bool.not_true, brB_false]
        rw [List.filter_cons_of_neg (p := fun c : List Int => !alwaysC c) (by rw [hal]; decide), List.filter_nil, List.map_nil, List.append_nil] at fin
        exact fin s' _ (st.drop 3 rfl)
      · rw [Bool.not_eq_true] at hal
        rw [hal, Bool.not_false, brB_true]
        rw [List.filter_cons_of_pos (p := fun c : List Int => !alwaysC c) (by rw [hal]; rfl), List.filter_nil] at fin
        rw [st.lds 1 1 rfl rfl]
        refine st.nw fun b16 h12 st => ?_
        simp only [List.nil_append, List.cons_append] at st
        refine Hs.apdG (I := fun c p => lo c p) (x := nrm cs[i]) (p := r12) st 2 4 3 rfl rfl rfl (by decide) (by decide) (by omega) (by decide) rfl fun s17 h13 st => ?_
        simp only [List.set_cons_zero, List.set_cons_succ] at st
        refine st.st1 1 1 rfl (by simp) fun h14 st => ?_
        simp only [List.set_cons_zero, List.set_cons_succ] at st
        exact fin s17 _ ((st.drop 4 rfl).drop 3 rfl)
    rw [decide_eq_false (show ¬ (i : Int) < (s.len : Int) by omega), brB_false]
    rw [List.take_of_length_le (by omega)] at st hfl
    have hM : ∀ x ∈ (cs.filter fun c => !alwaysC c).map nrm, Nf x := fun x hx => by
      obtain ⟨y, hy, rfl⟩ := List.mem_map.1 hx
      exact nf_nrm (hg.2.2 y (List.mem_filter.1 hy).1).1
    have hnl : normL cs = sortC compareP ((cs.filter fun c => !alwaysC c).map nrm) := rfl
    rw [hnl] at hK
    generalize (cs.filter fun c => !alwaysC c).map nrm = xs at *
    rw [st.lds 1 1 rfl rfl]
    refine S_slices_SortFunc_clauses_Clause_clauses_Clause (a0 := s') (a1 := .func (.func fn_clauses_Compare) #[] #[]) _ ?_
    unfold F_slices_SortFunc_clauses_Clause_clauses_Clause
    have hnf0 : Nf [] := by have := nf_nrm (c := []) (by rfl); rwa [List.eq_nil_of_length_eq_zero (show (nrm []).length = 0 by have := nrm_length ([] : List Int); simp only [List.length_nil] at this; omega)] at this
    refine Hs.sortG sorts_clauses totC [] hnf0 (det_osl encIi) st 2 rfl hM (by omega) (fun x y p q h' hx hy hp hq _ => ?_) fun ps ys val h8 sg st => ?_
    · refine callF_func (call_of (compare_c hp.rsl hq.rsl) fun r h2 ⟨e, e2⟩ => ⟨?_, e2⟩)
      have e : r = compareP x y := e
      rw [e]
    · simp only [List.set_cons_zero, List.set_cons_succ, List.nil_append, List.cons_append] at st
      show ldT .sl _ _ _
      rw [st.lds 1 1 rfl rfl]
      refine compact_clauses (s := s') ?_
      refine Hs.compactG totC sg st 2 3 rfl rfl (by decide) (by omega) (fun x y p q h' hx hy hp hq _ => ?_) fun s'' h9 st => ?_
      · exact callF_of (norm1F hp.rsl hq.rsl (by have := rightC_len (hM x hx).1; omega)) fun r h2 ⟨e, e2⟩ => ⟨e, by rw [e2]; exact Ext.refl' _ _⟩
      · refine st.st1 1 1 rfl (by simp) fun h10 st => ?_
        simp only [List.set_cons_zero, List.set_cons_succ] at st
        refine ldF (s := s'') (st.blk 1 rfl) ?_
        refine st.st1 0 0 rfl (by simp) fun h11 st => ?_
        refine st.st1 0 1 rfl (by simp) fun h12 st => ?_
        refine ldF (s := s'') (st.blk 0 rfl) ?_
        exact hK _ _ ⟨s'', rfl, st.res (by simp) 2 rfl, st.frame (by simp)⟩
  · rw [show ((checkP n cs).2 != 0) = true by simpa using hc, brB_true]
    refine st.st1 0 0 rfl (by simp) fun h5 st => ?_
    refine st.st1 0 1 rfl (by simp) fun h6 st => ?_
    refine ldF (s := ⟨none, 0, 0⟩) (st.blk 0 rfl) ?_
    have ea : normF n cs = ((0, []), (checkP n cs).2) := by unfold normF; rw [if_pos hc]
    refine hK _ _ ⟨⟨none, 0, 0⟩, by rw [ea], ?_, st.frame (by simp)⟩
    rw [ea]; exact New.rsg (I := fun c p => lo c p) (t := 0) (osg_nil _ _)

end Go.Proofs.S

set_option linter.unusedVariables false
set_option linter.unusedSimpArgs false
namespace Go.Proofs.S
open Go Go.Sx Go.Proofs Go.Cl

variable {h : Heap} {c d : List Int} {s s2 : Sl} {fr : Fr} {G As : List Asn} {m : List Bool} {sm : Sl}

theorem lawOf_c {n : Int} {cs : List (List Int)} (hA : At h (lli cs s)) (hl : cs.length ≤ 1048576) (hc : ∀ c ∈ cs, c.length ≤ 1048576) :
    callT Tryz.prog fn_salvorlaw05_Of #[.int .i64 n, .slice s.a s.len s.cap] (.agg (.cons (.int .i64) (.cons .sl .nil))) (fun r h' => ∃ s', r = (n, s', ()) ∧ New h.size h' (llo cs s') ∧ Ext [] h h') h := by
  refine callT_gen fun K hK => S_salvorlaw05_Of (a0 := n) (a1 := s) K ?_
  unfold F_salvorlaw05_Of
  have st := Hs.start h [lli cs s] (by simp [hA])
  have l1 := rsg_len hA
  refine st.nw fun b0 h1 st => ?_
  refine st.nw fun b1 h2 st => ?_
  simp only [addr_add, Nat.zero_add, List.nil_append, List.cons_append] at st ⊢
  refine st.st1 1 0 rfl (by simp) fun h4 st => ?_
  refine st.st1 1 1 rfl (by simp) fun h5 st => ?_
  simp only [List.set_cons_zero, List.set_cons_succ] at st
  have st := st.nilg (fun c p => lo c p) ty_clauses_Clause none
  simp only [List.nil_append, List.cons_append] at st
  refine lfp_invh (I := fun m σ h' => ∃ (i : Nat) (s' : Sl), σ = ((i : Int), ()) ∧ i ≤ cs.length ∧
      Hs [([], h)] [lli cs s] [cl b0 ty_formula_Formula [.int .i64 0, .slice none 0 0], cl b1 ty_formula_Formula [.int .i64 n, .slice s'.a s'.len s'.cap], llo (cs.take i) s'] h' ∧ m = cs.length - i)
    ⟨_, 0, ⟨none, 0, 0⟩, rfl, by omega, st, rfl⟩ ?_
  clear st
  rintro m1 σ h6 X ⟨i, s', rfl, hi, st, em⟩ hX
  simp only
  by_cases hlt : i < cs.length
  · rw [show decide ((i : Int) < (s.len : Int)) = true by rw [l1]; exact dlt_t hlt, brB_true, inc_i (show i < 4611686018427387904 by omega)]
    refine rdG (st.fz 0 rfl) hlt fun p hp => ?_
    rw [st.lds 1 1 rfl rfl]
    refine call_of (clause_c hp (hc _ (List.getElem_mem hlt))) ?_
    rintro r7 h7 ⟨n7, x7⟩
    have st := st.new x7 n7
    simp only [List.nil_append, List.cons_append] at st
    rw [st.ck 1 1 rfl rfl]
    refine st.nw fun b8 h8 st => ?_
    simp only [List.nil_append, List.cons_append] at st
    refine Hs.apdG (I := fun c p => lo c p) (x := cs[i]) (p := r7) st 2 4 3 rfl rfl rfl (by decide) (by decide) (by simp; omega) (by decide) rfl fun s9 h9 st => ?_
    simp only [List.set_cons_zero, List.set_cons_succ] at st
    refine st.st1 1 1 rfl (by simp) fun h10 st => ?_
    simp only [List.set_cons_zero, List.set_cons_succ] at st
    refine hX _ _ _ ⟨i + 1, s9, rfl, by omega, ?_, rfl⟩ (by omega)
    rw [take_succ_getE hlt]; exact (st.drop 4 rfl).drop 3 rfl
  · rw [show decide ((i : Int) < (s.len : Int)) = false by rw [l1]; exact dlt_f hlt, brB_false]
    rw [List.take_of_length_le (by omega)] at st
    refine ldF (s := s') (st.blk 1 rfl) ?_
    refine st.st1 0 0 rfl (by simp) fun h7 st => ?_
    refine st.st1 0 1 rfl (by simp) fun h8 st => ?_
    refine ldF (s := s') (st.blk 0 rfl) ?_
    exact hK _ _ ⟨s', rfl, st.res (by simp) 2 rfl, st.frame (by simp)⟩

abbrev llu (cs : List (List Int)) (s : Sl) : Asn := rsg (fun c p => lu c p) cs s
def madeF (cs : List (List Int)) : List (List Int) := (cs.take 30).map madeP
theorem madeF_len (cs : List (List Int)) : (madeF cs).length ≤ 30 := by unfold madeF; simp; omega

theorem rsgcap {β : Type} {I : β → Sl → Asn} {xs : List β} (hA : At h (rsg I xs s)) : s.len ≤ s.cap := by
  obtain ⟨ps, _, ho, _⟩ := rsg_open hA
  exact rsl_cap ho
theorem rsgtake {β : Type} {I : β → Sl → Asn} {xs : List β} (hA : At h (rsg I xs s)) {n : Nat} (hn : n ≤ xs.length) : At h (rsg I (xs.take n) (slR s 0 n 1)) := by
  obtain ⟨ps, hl, ho, hx⟩ := rsg_open hA
  have h1 := rsl_sub ho (l := 0) (m := n) (by omega) (by omega)
  rw [List.drop_zero] at h1
  refine rsg_at (ps := ps.take n) (by simp; omega) h1 fun i h1 h2 => ?_
  rw [List.getElem_take, List.getElem_take]
  exact hx i _ _

theorem lawMade_c {cs : List (List Int)} (hA : At h (llu cs s)) (hu : ∀ c ∈ cs, U8 c) :
    callT Tryz.prog fn_salvorlaw05_Made #[.slice s.a s.len s.cap] (.agg (.cons (.int .i64) (.cons .sl .nil))) (fun r h' => ∃ s', r = (8, s', ()) ∧ New h.size h' (llo (madeF cs) s') ∧ Ext [] h h') h := by
  refine callT_gen fun K hK => S_salvorlaw05_Made (a0 := s) K ?_
  unfold F_salvorlaw05_Made
  have l1 := rsg_len hA
  have c1 := rsgcap hA
  have hS : At h (llu (cs.take 30) (slR ⟨s.a, s.len, s.cap⟩ 0 (min cs.length 30) 1)) := by
    have := rsgtake hA (n := min cs.length 30) (by omega)
    have e : List.take (min cs.length 30) cs = cs.take 30 := by
      rcases Nat.le_total cs.length 30 with k | k
      · rw [Nat.min_eq_left k, List.take_length, List.take_of_length_le k]
      · rw [Nat.min_eq_right k]
    rw [e] at this; exact this
  have em : (if (30 : Int) < (s.len : Int) then (30 : Int) else (s.len : Int)) = ((min cs.length 30 : Nat) : Int) := by split <;> omega
  have hcap : min cs.length 30 ≤ s.cap := by omega
  rw [em]
  have hn : ∀ {K : Sl → HP} {h' : Heap}, K (slR ⟨s.a, s.len, s.cap⟩ 0 (min cs.length 30) 1) h' → slH ⟨s.a, s.len, s.cap⟩ ((min cs.length 30 : Nat) : Int) 1 K h' := fun hk => ⟨Int.natCast_nonneg _, Int.ofNat_le.2 hcap, by rw [Int.toNat_natCast]; exact hk⟩
  unfold madeF at hK
  have hu2 : ∀ c ∈ cs.take 30, U8 c := fun n hn => hu n (List.mem_of_mem_take hn)
  have hl2 : (cs.take 30).length ≤ 30 := by simp; omega
  generalize cs.take 30 = ds at *
  have l3 := rsg_len hS
  generalize hs0 : slR ⟨s.a, s.len, s.cap⟩ 0 (min cs.length 30) 1 = s0 at *
  have st := Hs.start h [llu ds s0] (by simp [hS])
  refine st.nw fun b0 h1 st => ?_
  refine st.nw fun b1 h2 st => ?_
  simp only [addr_add, Nat.zero_add, List.nil_append, List.cons_append] at st ⊢
  refine st.st1 1 0 rfl (by simp) fun h4 st => ?_
  refine st.st1 1 1 rfl (by simp) fun h5 st => ?_
  simp only [List.set_cons_zero, List.set_cons_succ] at st
  refine hn ?_
  have st := st.nilg (fun c p => lo c p) ty_clauses_Clause none
  simp only [List.nil_append, List.cons_append] at st
  refine lfp_invh (I := fun m σ h' => ∃ (i : Nat) (s' : Sl), σ = ((i : Int), ()) ∧ i ≤ ds.length ∧
      Hs [([], h)] [llu ds s0] [cl b0 ty_formula_Formula [.int .i64 0, .slice none 0 0], cl b1 ty_formula_Formula [.int .i64 8, .slice s'.a s'.len s'.cap], llo ((ds.take i).map madeP) s'] h' ∧ m = ds.length - i)
    ⟨_, 0, ⟨none, 0, 0⟩, rfl, by omega, st, rfl⟩ ?_
  clear st
  rintro m1 σ h6 X ⟨i, s', rfl, hi, st, em⟩ hX
  simp only
  by_cases hlt : i < ds.length
  · rw [show decide ((i : Int) < (s0.len : Int)) = true by rw [l3]; exact dlt_t hlt, brB_true, inc_i (show i < 4611686018427387904 by omega)]
    refine rdG (st.fz 0 rfl) hlt fun p hp => ?_
    rw [st.lds 1 1 rfl rfl]
    refine call_of (made_c hp (hu2 _ (List.getElem_mem hlt))) ?_
    rintro r7 h7 ⟨n7, x7⟩
    have st := st.new x7 n7
    simp only [List.nil_append, List.cons_append] at st
    rw [st.ck 1 1 rfl rfl]
    refine st.nw fun b8 h8 st => ?_
    simp only [List.nil_append, List.cons_append] at st
    refine Hs.apdG (I := fun c p => lo c p) (x := madeP ds[i]) (p := r7) st 2 4 3 rfl rfl rfl (by decide) (by decide) (by simp; omega) (by decide) rfl fun s9 h9 st => ?_
    simp only [List.set_cons_zero, List.set_cons_succ] at st
    refine st.st1 1 1 rfl (by simp) fun h10 st => ?_
    simp only [List.set_cons_zero, List.set_cons_succ] at st
    refine hX _ _ _ ⟨i + 1, s9, rfl, by omega, ?_, rfl⟩ (by omega)
    rw [take_succ_getE hlt, List.map_append]; exact (st.drop 4 rfl).drop 3 rfl
  · rw [show decide ((i : Int) < (s0.len : Int)) = false by rw [l3]; exact dlt_f hlt, brB_false]
    rw [List.take_of_length_le (by omega)] at st
    refine ldF (s := s') (st.blk 1 rfl) ?_
    refine st.st1 0 0 rfl (by simp) fun h7 st => ?_
    refine st.st1 0 1 rfl (by simp) fun h8 st => ?_
    refine ldF (s := s') (st.blk 0 rfl) ?_
    exact hK _ _ ⟨s', rfl, st.res (by simp) 2 rfl, st.frame (by simp)⟩

theorem modelsF_row {v : Nat} {cs : List (List Int)} {m : List Bool} (h : m ∈ modelsF v cs) : m.length = v ∧ failsGo m 0 cs < 0 := by
  unfold modelsF at h
  obtain ⟨a, b⟩ := List.mem_filter.1 h
  exact ⟨Cr.mem_allB.1 a, of_decide_eq_true b⟩

theorem collected_c {v : Nat} {cs : List (List Int)} (hA : At h (lli cs s)) (hg : GoodF v cs) (hv : v ≤ 8) :
    callT Tryz.prog fn_salvorlaw05_collected #[.agg #[.int .i64 v, .slice s.a s.len s.cap]] (.tup (.cons .sl (.cons .bool .nil)))
      (fun r h' => ∃ s', r = (s', true, ()) ∧ New h.size h' (osg (fun c p => ob c p) ty_sl_bool (modelsF v cs) s') ∧ Ext [] h h') h := by
  refine callT_gen fun K hK => S_salvorlaw05_collected (a0 := ((v : Int), s, ())) K ?_
  unfold F_salvorlaw05_collected
  show (nw _ _ _) h
  have st := Hs.start h [lli cs s] (by simp [hA])
  refine st.nw fun b0 h1 st => ?_
  refine st.nw fun b1 h2 st => ?_
  refine st.nw fun b2 h3 st => ?_
  simp only [List.nil_append, List.cons_append] at st
  refine ldF (s := s) (st.blk 0 rfl) ?_
  have hc := check_good.2 hg
  have hle : (modelsF v cs).length ≤ 256 := by
    have h1 : (modelsF v cs).length ≤ (Cr.allB v).length := List.length_filter_le _ _
    rw [Cr.allB_len] at h1
    have hN2 : 2 ^ v ≤ 2 ^ 8 := Nat.pow_le_pow_right (by decide) hv
    have e8 : (2 : Nat) ^ 8 = 256 := by decide
    omega
  refine Hs.Models (n := (v : Int)) (cs := cs) st (st.fz 0 rfl) (fun hc' => absurd hc hc') (fun _ hn => by omega) (fun v' hv' hc hv16 b s' h5 st => ?_)
  have : v' = v := by omega
  subst this
  simp only
  rw [show ((0 : Int) != 0) = false from rfl, brB_false]
  refine ⟨.inr ⟨_, _, _, rfl⟩, ?_⟩
  show (brB false _ _) h5
  rw [brB_false]
  refine st.nw fun b10 h6 st => ?_
  have st := st.nilg (fun c p => ob c p) ty_sl_bool none
  simp only [List.nil_append, List.cons_append] at st
  refine st.rangeG (modNx v' cs) (modGf v' cs) (modFin v' cs) (models_hit 1 2 rfl rfl hg hv16) (fun _ _ _ _ => rfl)
    (fun pre Bs => ∃ s' : Sl, Bs = [cl b0 ty_formula_Formula [.int .i64 v', .slice s.a s.len s.cap], cl b1 ty_sl_sl_bool [.slice none 0 0], cl b2 ty_bool [.bool false], cl b10 ty_sl_sl_bool [.slice s'.a s'.len s'.cap], osg (fun c p => ob c p) ty_sl_bool ((modelsF v' cs).take pre.length) s'])
    (fun _ _ => False) ⟨⟨none, 0, 0⟩, rfl⟩ ?_ ?_ (fun _ _ hf => hf.elim) (fun i id K hi => by simp at hi)
  · rintro pre ⟨x, ⟨⟩⟩ Bs B hb hnx ⟨s15, rfl⟩ st next jump hnext hjump
    have hlt : pre.length < (modelsF v' cs).length := hnx
    have eg : modGf v' cs pre (x, ()) = ob (modelsF v' cs)[pre.length] x := by
      show ob ((modelsF v' cs).getD pre.length []) x = _
      rw [List.getD_eq_getElem?_getD, List.getElem?_eq_getElem hlt]; rfl
    rw [eg] at st
    simp only [List.nil_append, List.cons_append] at st
    simp only
    rw [st.lds 3 0 rfl rfl]
    have l15 := rsg_len (st.own 4 rfl).rsg
    rw [List.length_take] at l15
    simp only
    rw [decide_eq_false (show ¬ (s15.len : Int) > 255 by omega), brB_false, st.lds 3 0 rfl rfl]
    refine st.nw fun b17 h10 st => ?_
    simp only [List.nil_append, List.cons_append] at st
    refine Hs.apdG (I := fun c p => ob c p) (x := (modelsF v' cs)[pre.length]) (p := x) st 4 6 5 rfl rfl rfl (by decide) (by decide) (by simp; omega) (by decide) rfl fun s24 h11 st => ?_
    simp only [List.set_cons_zero, List.set_cons_succ] at st
    refine st.st1 3 0 rfl (by simp) fun h12 st => ?_
    simp only [List.set_cons_zero, List.set_cons_succ] at st
    have st := (st.drop 6 rfl).drop 5 rfl
    simp only [List.eraseIdx_cons_zero, List.eraseIdx_cons_succ] at st
    refine hnext _ _ ⟨s24, ?_⟩ st
    rw [List.length_append, List.length_singleton, take_succ_getE hlt]
  · rintro pre Bs h10 hfin ⟨s15, rfl⟩ st
    have hfin : pre.length = (modelsF v' cs).length := hfin
    rw [hfin, List.take_length] at st
    rw [st.lds 3 0 rfl rfl]
    refine st.st1 1 0 rfl (by simp) fun h11 st => ?_
    refine st.st1 2 0 rfl (by simp) fun h12 st => ?_
    simp only [List.set_cons_zero, List.set_cons_succ] at st
    intro h13 hM
    have st := st.marked hM
    rw [st.lds 1 0 rfl rfl, st.ldb 2 0 rfl rfl]
    exact hK _ _ ⟨s15, rfl, st.res (by simp) 4 rfl, st.frame (by simp)⟩

end Go.Proofs.S
