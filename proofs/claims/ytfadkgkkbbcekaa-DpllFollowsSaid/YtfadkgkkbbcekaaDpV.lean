/-
  DpllImplies, walked.
-/
import Derived.Test.YtfadkgkkbbcekaaDpO
import Derived.Test.YtfadkgkkbbcekaaSxW3
set_option linter.unusedVariables false
set_option linter.unusedSimpArgs false
namespace Go.Proofs.S
open Go Go.Sx Go.Proofs Go.Cl Go.Dp

variable {h : Heap} {l cs : List (List Int)} {s s2 : Sl} {c : List Int}

theorem all_take {α : Type} {p : α → Bool} {L : List α} {i : Nat} (hi : i < L.length) : (L.take (i + 1)).all p = ((L.take i).all p && p L[i]) := by
  rw [take_succ_getE hi, List.all_append, List.all_cons, List.all_nil, Bool.and_true]

set_option maxHeartbeats 1000000 in
theorem dpllImplies_F {k : Int} (hA : At h (llu l s)) (hu : ∀ c ∈ l, U8 c) (hB : At h (lu c s2)) (hc : U8 c) (h0 : 0 ≤ k) (h1 : k ≤ 255) (K : Bool → HP) (hK : ∀ x h', (x = true ∧ Ext [] h h') → K x h') : F_salvorlaw19_DpllImplies s s2 k K h := by
  unfold F_salvorlaw19_DpllImplies
  show (callT _ _ _ _ _) h
  have st := Hs.start h [llu l s, lu c s2] (by simp [hA, hB])
  have hg := good8 l
  have hlen := good_len hg
  have hd := madeP_good c
  have hml := madeF_len l
  have hmp : (madeP c).length ≤ 20 := by unfold madeP; simp; omega
  have hsz : ∀ d ∈ madeF l, d.length ≤ 20 := by
    intro d hd
    unfold madeF at hd
    obtain ⟨e, _, rfl⟩ := List.mem_map.1 hd
    unfold madeP; simp; omega
  refine call_of (lawMade_c (st.fz 0 rfl) hu) ?_
  rintro _ h2 ⟨s', rfl, hn2, x2⟩
  have st := Hs.fzl (st.new x2 hn2)
  refine call_of (made_c (st.fz 1 rfl) hc) ?_
  rintro sm h3 ⟨hn3, x3⟩
  have st := Hs.fzl (st.new x3 hn3)
  generalize madeF l = M at *
  generalize madeP c = d at *
  refine st.nw fun b2 h4 st => ?_
  refine st.nw fun b3 h5 st => ?_
  simp only [List.cons_append, List.nil_append, addr_add, Nat.zero_add] at st ⊢
  refine st.st1 0 0 rfl (by simp) fun h6 st => ?_
  refine st.st1 0 1 rfl (by simp) fun h7 st => ?_
  refine st.st1 1 0 rfl (by simp) fun h8 st => ?_
  simp only [List.set_cons_zero, List.set_cons_succ] at st
  have st := (st.freeze 0 rfl).freeze 0 rfl
  simp only [List.cons_append, List.nil_append, List.eraseIdx_cons_zero] at st
  refine ldF (st.fblk 4 rfl) ?_
  rw [ld_sl (i := 0) (st.fblk 5 rfl) rfl]
  have impl := fun {h' : Heap} {p : Sl} {e : List Int} (q : At h' (llo M s')) (hp : At h' (li e p)) (hr : rightC e = true) (hb : ∀ x ∈ e, beyP 8 x = false) =>
    (implied_good hg hr hb) ▸ implied_c (n := 8) (fu := 1000) (llo_at q) hp hlen.1 hlen.2 (by have := rightC_len hr; omega) (fun _ => by decide)
  refine call_of (impl (st.fz 2 rfl) (st.fz 3 rfl).rsl hd.1 hd.2) ?_
  rintro _ h9 ⟨rfl, x9⟩
  have st := st.ext x9
  refine ldF (st.fblk 4 rfl) ?_
  refine Hs.Models (n := 8) (cs := M) st (llo_at (st.fz 2 rfl)) (fun hc' => absurd (check_good.2 hg) hc') (fun _ hn => absurd hn (by decide)) (fun v hv hc0 hv16 b sq h10 st => ?_)
  have ev : v = 8 := by omega
  subst ev
  simp only [List.cons_append, List.nil_append] at st
  refine jn_in fun J hJ => brF rfl ?_
  refine ⟨.inr ⟨_, _, _, rfl⟩, hJ _ _ (brF rfl ?_)⟩
  clear J hJ
  refine st.nw fun b11 h11 st => ?_
  refine st.st1 0 0 rfl (by simp) fun h12 st => ?_
  simp only [List.cons_append, List.nil_append, List.set_cons_zero] at st
  refine st.rangeG (modNx 8 M) (modGf 8 M) (modFin 8 M) (models_hit 6 7 rfl rfl hg hv16) (fun _ _ _ _ => rfl)
    (fun pre Bs => Bs = [cl b11 ty_bool [.bool (((modelsF 8 M).take pre.length).all fun m => d.any (Fo.tru m))]])
    (fun _ _ => False) (by simp) ?_ ?_ (fun _ _ hf => hf.elim) (fun i id K hi => by simp at hi)
  · rintro pre ⟨x, ⟨⟩⟩ Bs B hb hnx rfl st next jump hnext hjump
    have hlt : pre.length < (modelsF 8 M).length := hnx
    have eg : modGf 8 M pre (x, ()) = ob (modelsF 8 M)[pre.length] x := by
      show ob ((modelsF 8 M).getD pre.length []) x = _
      rw [List.getD_eq_getElem?_getD, List.getElem?_eq_getElem hlt]; rfl
    rw [eg] at st
    simp only [List.cons_append, List.nil_append] at st
    have hm8 := (modelsF_row (List.getElem_mem hlt)).1
    rw [st.ldb 0 0 rfl rfl]
    refine jn_in fun J hJ => ?_
    have fin : ∀ (t : Bool) (h' : Heap), t = (((modelsF 8 M).take (pre.length + 1)).all fun m => d.any (Fo.tru m)) →
        Hs ((B, hb) :: [([], h)]) [llu l s, lu c s2, llo M s', lo d sm, cl b2 ty_formula_Formula [.int .i64 8, .slice s'.a s'.len s'.cap], cl b3 ty_clauses_Clause [.slice sm.a sm.len sm.cap], cF b 8 sq, lli M sq]
          [cl b11 ty_bool [.bool (((modelsF 8 M).take pre.length).all fun m => d.any (Fo.tru m))], ob (modelsF 8 M)[pre.length] x] h' → J t h' := by
      rintro t h' rfl st
      refine hJ _ _ ?_
      refine st.st1 0 0 rfl (by simp) fun h13 st => ?_
      simp only [List.set_cons_zero] at st
      have st := st.drop 1 rfl
      simp only [List.eraseIdx_cons_succ, List.eraseIdx_cons_zero] at st
      refine hnext _ _ ?_ st
      rw [List.length_append, List.length_singleton]
    cases hall : ((modelsF 8 M).take pre.length).all fun m => d.any (Fo.tru m)
    rotate_left
    · refine brT rfl ?_
      rw [ld_sl (i := 0) (st.fblk 5 rfl) rfl]
      refine call_of (fholds_c (st.fz 3 rfl).rsl (st.own 1 rfl).rsl) ?_
      rintro _ h13 ⟨rfl, x13⟩
      refine fin _ _ ?_ (st.ext x13)
      rw [holdsF_good hd.1 hd.2 hm8, all_take hlt, hall, Bool.true_and]; rfl
    · refine brF rfl (fin _ _ ?_ st)
      rw [all_take hlt, hall, Bool.false_and]
  · rintro pre Bs h13 hfin rfl st
    have hfin : pre.length = (modelsF 8 M).length := hfin
    rw [hfin, List.take_length] at st
    rw [st.ldb 0 0 rfl rfl]
    refine brF (by simp) ?_
    rw [ld_sl (i := 1) (st.fblk 4 rfl) rfl]
    have lM := rsg_len (llo_at (st.fz 2 rfl))
    have st := st.drop 0 rfl
    simp only [List.eraseIdx_cons_zero] at st
    refine jn_in fun J hJ => ?_
    have fin : ∀ (t : Bool) (h' : Heap), Hs [([], h)] [llu l s, lu c s2, llo M s', lo d sm, cl b2 ty_formula_Formula [.int .i64 8, .slice s'.a s'.len s'.cap], cl b3 ty_clauses_Clause [.slice sm.a sm.len sm.cap], cF b 8 sq, lli M sq] [] h' → J (t, ()) h' := by
      intro t h' st
      refine hJ _ _ ?_
      refine call_of (dawake_c _) ?_
      rintro _ h14 ⟨rfl, x14⟩ h15 hM
      have st := (st.ext x14).marked hM
      exact hK _ _ ⟨rfl, st.frame (by simp)⟩
    by_cases hz : 0 < M.length
    · refine brT (decide_eq_true (show (0 : Int) < (s'.len : Int) by omega)) ?_
      obtain ⟨w, rfl⟩ := Int.eq_ofNat_of_zero_le h0
      rw [ld_sl (i := 1) (st.fblk 4 rfl) rfl]
      refine (nz_ok (show (s'.len : Int) ≠ 0 by omega)).mpr ?_
      have e1 : Int.tmod (IntKind.wrap .i64 ((w : Nat) : Int)) (s'.len : Int) = ((w % M.length : Nat) : Int) := by
        rw [wrap_i64 (by omega) (by omega), lM]; rfl
      have e2 : Int.tmod (IntKind.wrap .i64 (IntKind.wrap .u8 (Int.tdiv ((w : Nat) : Int) 16))) (s'.len : Int) = ((w / 16 % M.length : Nat) : Int) := by
        have e3 : Int.tdiv ((w : Nat) : Int) 16 = ((w / 16 : Nat) : Int) := rfl
        have e4 : IntKind.wrap .u8 ((w / 16 : Nat) : Int) = ((w / 16 : Nat) : Int) := by
          simp [IntKind.wrap, IntKind.bits, IntKind.signed]
          omega
        rw [e3, e4, wrap_i64 (by omega) (by omega), lM]; rfl
      rw [e1]
      have hi1 : w % M.length < M.length := Nat.mod_lt _ hz
      have hi2 : w / 16 % M.length < M.length := Nat.mod_lt _ hz
      generalize w % M.length = i at *
      refine rdG (llo_at (st.fz 2 rfl)) hi1 fun p hp => ?_
      rw [ld_sl (i := 1) (st.fblk 4 rfl) rfl]
      refine (nz_ok (show (16 : Int) ≠ 0 by decide)).mpr ?_
      refine (nz_ok (show (s'.len : Int) ≠ 0 by omega)).mpr ?_
      rw [e2]
      generalize w / 16 % M.length = j at *
      refine rdG (llo_at (st.fz 2 rfl)) hi2 fun q hq => ?_
      refine ldF (st.fblk 4 rfl) ?_
      obtain ⟨rx, gx⟩ := hg.2.2 _ (List.getElem_mem hi1)
      obtain ⟨ry, gy⟩ := hg.2.2 _ (List.getElem_mem hi2)
      have zx := hsz _ (List.getElem_mem hi1)
      have zy := hsz _ (List.getElem_mem hi2)
      have mx : M[i] ∈ M := List.getElem_mem hi1
      have my : M[j] ∈ M := List.getElem_mem hi2
      have own : ∀ e ∈ M, ∀ m ∈ modelsF 8 M, e.any (Fo.tru m) = true := fun e he m hm => List.all_eq_true.1 (mem_modelsT.1 hm).2 e he
      refine call_of (impl (st.fz 2 rfl) hp rx gx) ?_
      rintro _ h14 ⟨rfl, x14⟩
      rw [List.all_eq_true.2 (own _ mx)]
      have st := st.ext x14
      have hp := hp.ext x14
      have hq := hq.ext x14
      refine call_of (clashes_c hp hq) ?_
      rintro _ h15 ⟨r15, rfl, n15, x15⟩
      have ecl : clashesP M[i] M[j] = ((nrm M[i]).filter (fun l => M[j].contains (-l)), 0) := by unfold clashesP; rw [rx, ry]; rfl
      rw [ecl] at n15 ⊢
      have st := st.new x15 n15
      have hp := hp.ext x15
      have hq := hq.ext x15
      simp only [List.nil_append] at st
      refine jn_in fun J2 hJ2 => brF rfl (hJ2 _ _ (brF rfl ?_))
      clear J2 hJ2
      have l15 := osl_len (st.own 0 rfl)
      have hmem : ∀ l ∈ (nrm M[i]).filter (fun l => M[j].contains (-l)), l ∈ M[i] ∧ -l ∈ M[j] := fun l hl => by
        obtain ⟨q1, q2⟩ := List.mem_filter.1 hl
        exact ⟨(mem_nrm rx).1 q1, by simpa using q2⟩
      have hcl : ((nrm M[i]).filter (fun l => M[j].contains (-l))).length ≤ 4096 := Nat.le_trans (List.length_filter_le _ _) (Nat.le_trans (nrm_length _) (rightC_len rx))
      generalize (nrm M[i]).filter (fun l => M[j].contains (-l)) = C at *
      refine lfp_invh (I := fun μ σ h' => ∃ n : Nat, σ = ((n : Int), false, ()) ∧ n ≤ C.length ∧ Hs [([], h)] [llu l s, lu c s2, llo M s', lo d sm, cl b2 ty_formula_Formula [.int .i64 8, .slice s'.a s'.len s'.cap], cl b3 ty_clauses_Clause [.slice sm.a sm.len sm.cap], cF b 8 sq, lli M sq] [osl ty_lits_Lit i64.enc C r15] h' ∧ At h' (li M[i] p) ∧ At h' (li M[j] q) ∧ μ = C.length - n)
        ⟨_, 0, rfl, by omega, st, hp, hq, rfl⟩ ?_
      clear st hp hq
      rintro μ σ h16 X ⟨n, rfl, hn, st, hp, hq, em⟩ hX
      simp only
      by_cases hlt : n < C.length
      · refine brT (by rw [l15]; exact dlt_t hlt) ?_
        rw [inc_i (show n < 4611686018427387904 by omega)]
        refine rdE (τ := i64) (st.own 0 rfl).rsl hlt ?_
        obtain ⟨ha, hb⟩ := hmem _ (List.getElem_mem hlt)
        generalize C[n] = by_ at *
        have rb : rt by_ = true := rightC_rt rx by_ ha
        obtain ⟨e0, hh⟩ := res_holds rx ry gx gy rb (by omega) ha hb
        obtain ⟨er, hrr, hrm⟩ := mem_res rx ry rb (by omega) ha hb
        refine call_of (resolve_c hp hq by_) ?_
        rintro _ h19 ⟨r39, rfl, n19, x19⟩
        have st := st.new x19 n19
        simp only [List.nil_append, List.cons_append] at st
        refine ldF (st.fblk 4 rfl) ?_
        have hbr : ∀ x ∈ (resolveP M[i] M[j] by_).1, beyP 8 x = false := by
          rw [er]
          intro x hx
          rcases (hrm x).1 hx with k | k
          · exact gx x k.1
          · exact gy x k.1
        have hrr : rightC (resolveP M[i] M[j] by_).1 = true := by rw [er]; exact hrr
        refine call_of (impl (st.fz 2 rfl) (st.own 1 rfl).rsl hrr hbr) ?_
        rintro _ h20 ⟨rfl, x20⟩
        have hres : ∀ m ∈ modelsF 8 M, (resolveP M[i] M[j] by_).1.any (Fo.tru m) = true := by
          intro m hm
          have hm8 := (mem_modelsT.1 hm).1
          have := hh m hm8 (own _ mx m hm) (own _ my m hm)
          rw [holdsF_good hrr hbr hm8] at this
          exact this
        rw [List.all_eq_true.2 hres, e0]
        have hp := (hp.ext x19).ext x20
        have hq := (hq.ext x19).ext x20
        have st := (st.ext x20).drop 1 rfl
        refine jn_in fun J2 hJ2 => brF rfl (hJ2 _ _ (brF rfl ?_))
        exact hX _ _ _ ⟨n + 1, rfl, by omega, st, hp, hq, rfl⟩ (by omega)
      · refine brF (by rw [l15]; exact dlt_f hlt) ?_
        exact fin _ _ (st.drop 0 rfl)
    · refine brF (decide_eq_false (show ¬ (0 : Int) < (s'.len : Int) by omega)) (fin _ _ st)

end Go.Proofs.S

set_option linter.unusedVariables false
set_option linter.unusedSimpArgs false
namespace Go.Proofs.S
open Go Go.Sx Go.Proofs Go.Cl Go.Dp

variable {h : Heap} {l cs : List (List Int)} {s s2 sm : Sl} {c d : List Int} {m : List Bool} {b : Nat}

theorem growL_c {n : Int} {K : Sl → HP} (hW : W_grow ty_lits_Lit 8 (.int .i64 0) ⟨none, 0, 0⟩ n K h) : callT Try.prog fn_slices_Grow_lits_Lit_lits_Lit #[.slice none 0 0, .int .i64 n] .sl K h :=
  S_slices_Grow_lits_Lit_lits_Lit (a0 := ⟨none, 0, 0⟩) (a1 := n) K hW
theorem concatL_c {t0 : TypeId} (kb : Blk h b t0 [.slice s.a s.len s.cap, .slice s2.a s2.len s2.cap]) (hA : At h (li c s)) (hB : At h (li d s2)) (hl : c.length + d.length ≤ 1048576) :
    callT Try.prog fn_slices_Concat_lits_Lit_lits_Lit #[.slice (some ⟨b, 0, none⟩) 2 2] .sl (fun s' h' => New h.size h' (lo (c ++ d) s') ∧ Ext [] h h') h := by
  refine callT_gen fun K hK => S_slices_Concat_lits_Lit_lits_Lit (a0 := ⟨some ⟨b, 0, none⟩, 2, 2⟩) K ?_
  have hp : At h (rsl Ty.sl.enc [s, s2] ⟨some ⟨b, 0, none⟩, 2, 2⟩) := ⟨[b], osl_rsl (t := t0) (.inl ⟨b, [], rfl, rfl, kb⟩)⟩
  refine w_concat (P := Try.prog) (τ := i64) (t := ty_lits_Lit) (by_ := 8) (z := .int .i64 0) (fg := fn_slices_Grow_lits_Lit_lits_Lit) (xss := [c, d]) hp rfl ?_ (by simp) (by simp; omega) (by decide) leaf_int (fun n K h hW => growL_c hW) (fun s' h' a b => hK _ _ ⟨by simpa using a, b⟩)
  intro i hi
  match i, hi with
  | 0, _ => exact hA
  | 1, _ => exact hB

theorem holds1_c {x : Int} (kb : Blk h b ty_sl_bool [.slice sm.a sm.len sm.cap]) (hm : At h (lb m sm)) (hx : beyP m.length x = false) :
    callT Try.prog fn_salvorlaw19_DpllFollows_1i1 #[.int .i64 x, .pointer (some ⟨b, 0, none⟩)] .bool (fun r h' => r = !Fo.tru m x ∧ Ext [] h h') h := by
  refine callT_gen fun K hK => S_salvorlaw19_DpllFollows_1i1 (a0 := x) (c0 := ⟨b, 0, none⟩) K ?_
  unfold F_salvorlaw19_DpllFollows_1i1
  have st := Hs.start h [lb m sm, cl b ty_sl_bool [.slice sm.a sm.len sm.cap]] (by
    intro A hA
    simp only [List.mem_cons, List.not_mem_nil, or_false] at hA
    rcases hA with rfl | rfl
    · exact hm
    · exact ⟨[b], rfl, kb⟩)
  refine Hs.lit st [x] 1 rfl rfl fun b1 h1 st => ?_
  simp only [List.cons_append, List.nil_append] at st
  rw [ld_sl (i := 0) (st.fblk 1 rfl) rfl]
  refine call_of (fholds_c (st.fz 2 rfl) (st.fz 0 rfl)) ?_
  rintro _ h2 ⟨rfl, x2⟩
  have hr : rightC [x] = true := by
    unfold rightC
    simp [(bey_iffL.1 hx).1]
  refine hK _ _ ⟨?_, (st.ext x2).frame (by simp)⟩
  rw [holdsF_good hr (n := m.length) (by simpa using hx) rfl]
  simp only [List.any_cons, List.any_nil, Bool.or_false]; rfl
theorem containsFunc_lits {fv : Value} {p : Int → Bool} (hA : At h (li c s)) (hl : c.length ≤ 1099511627776) (hp : PredOk Try.prog i64 fv p c h) :
    callT Try.prog fn_slices_ContainsFunc_lits_Lit_lits_Lit #[.slice s.a s.len s.cap, fv] .bool (fun r h' => r = c.any p ∧ Ext [] h h') h := by
  refine callT_gen fun K hK => S_slices_ContainsFunc_lits_Lit_lits_Lit (a0 := s) (a1 := fv) K ?_
  unfold F_slices_ContainsFunc_lits_Lit_lits_Lit
  refine call_of (R := fun r h' => r = fidx p c ∧ Ext [] h h') (callT_gen fun K hK => S_slices_IndexFunc_lits_Lit_lits_Lit (a0 := s) (a1 := fv) K (w_indexFunc (P := Try.prog) (τ := i64) hA hl hp fun h' x => hK _ _ ⟨rfl, x⟩)) ?_
  rintro r h2 ⟨er, x⟩
  have er : r = fidx p c := er
  subst er
  exact hK _ _ ⟨fidx_ge _ _, x⟩
theorem holdsAll_c (hm : At h (lb m sm)) (hA : At h (li c s)) (hx : ∀ x ∈ c, beyP m.length x = false) (hl : c.length ≤ 1048576) :
    callT Try.prog fn_salvorlaw19_DpllFollows_1 #[.slice sm.a sm.len sm.cap, .slice s.a s.len s.cap] .bool (fun r h' => r = c.all (Fo.tru m) ∧ Ext [] h h') h := by
  refine callT_gen fun K hK => S_salvorlaw19_DpllFollows_1 (a0 := sm) (a1 := s) K ?_
  unfold F_salvorlaw19_DpllFollows_1
  have st := Hs.start h [lb m sm, li c s] (by simp [hm, hA])
  refine st.nw fun b0 h1 st => ?_
  simp only [List.nil_append] at st
  refine call_of (containsFunc_lits (p := fun x => !Fo.tru m x) (st.fz 1 rfl) (by omega) fun x hx2 h' x' => callF_func (holds1_c ((st.blk 0 rfl).ext x' (by simp)) ((st.fz 0 rfl).ext x') (hx x hx2))) ?_
  rintro _ h2 ⟨rfl, x'⟩
  have x1 := st.frame (h0 := h) (by simp)
  refine hK _ _ ⟨?_, x1.nil_trans x'⟩
  rw [Bool.eq_iff_iff, Bool.not_eq_true', List.any_eq_false, List.all_eq_true]
  exact ⟨fun q x hx => by simpa using q x hx, fun q x hx => by simp [q x hx]⟩

theorem neg_wrap {x : Int} (hr : rt x = true) : IntKind.wrap .i64 (0 - x) = -x := by
  have := rt_iff.1 hr
  rw [wrap_i64 (by omega) (by omega)]; omega

set_option maxRecDepth 100000 in
set_option maxHeartbeats 1000000 in
theorem dpllFollows_F (hA : At h (llu l s)) (hu : ∀ c ∈ l, U8 c) (hB : At h (lu c s2)) (hc : U8 c) (K : Bool → HP) (hK : ∀ x h', (x = true ∧ Ext [] h h') → K x h') : F_salvorlaw19_DpllFollows s s2 K h := by
  unfold F_salvorlaw19_DpllFollows
  show (nw _ _ _) h
  have st := Hs.start h [llu l s, lu c s2] (by simp [hA, hB])
  have hg := good8 l
  have hi : Fo.InV 8 (madeF l) := inv_good (n := 8) hg
  have hlen := good_len hg
  have hd := madeP_good c
  have hml := madeF_len l
  have hmp : (madeP c).length ≤ 20 := by unfold madeP; simp; omega
  refine st.nw fun b0 h1 st => ?_
  refine call_of (lawMade_c (st.fz 0 rfl) hu) ?_
  rintro _ h2 ⟨s', rfl, hn2, x2⟩
  have st := Hs.fzl (st.new x2 hn2)
  refine Hs.frml st fun b2 h3 st => ?_
  refine st.nw fun b3 h4 st => ?_
  simp only [List.cons_append, List.nil_append] at st
  refine call_of (made_c (st.fz 1 rfl) hc) ?_
  rintro sm h5 ⟨hn5, x5⟩
  have st := Hs.fzl (st.new x5 hn5)
  have st := st.nil ty_lits_Lit i64.enc none
  simp only [List.cons_append, List.nil_append] at st
  have hcons := fun x (hx : x ∈ madeP c) => bey_iffL.1 (hd.2 x hx)
  generalize madeF l = M at *
  generalize madeP c = d at *
  have lsm := osl_len (st.fz 4 rfl)
  have hP : Asg 8 (someGo [] d) := some_asg d [] Asg.nil hcons
  have hPl : (someGo [] d).length ≤ 20 := by have := some_len d []; simp at this; omega
  refine lfp_invh (I := fun m σ h' => ∃ (i : Nat) (sg : Sl), σ = ((i : Int), ()) ∧ i ≤ d.length ∧ Hs [([], h)] [llu l s, lu c s2, llo M s', cl b2 ty_formula_Formula [.int .i64 8, .slice s'.a s'.len s'.cap], lo d sm]
      [cl b0 ty_bool [.bool false], cl b3 ty_sl_lits_Lit [.slice sg.a sg.len sg.cap], lo (someGo [] (d.take i)) sg] h' ∧ m = d.length - i)
    ⟨_, 0, ⟨none, 0, 0⟩, rfl, by omega, st, rfl⟩ ?_
  clear st
  rintro m σ h6 X ⟨i, sg, rfl, hii, st, rfl⟩ hX
  simp only
  have hsl : (someGo [] (d.take i)).length ≤ 20 := by have := some_len (d.take i) []; simp at this; omega
  by_cases hlt : i < d.length
  · refine brT (by rw [lsm]; exact dlt_t hlt) ?_
    rw [inc_i (show i < 4611686018427387904 by omega)]
    refine rdE (τ := i64) (st.fz 4 rfl).rsl hlt ?_
    rw [st.lds 1 0 rfl rfl, neg_wrap (hcons _ (List.getElem_mem hlt)).1]
    refine call_of (contains_lit (st.own 2 rfl).rsl (by omega) _) ?_
    rintro _ h7 ⟨rfl, e⟩; subst e
    have et := some_take hlt []
    refine jn_in fun J hJ => ?_
    cases hcon : (someGo [] (d.take i)).contains (-d[i]) with
    | true =>
      rw [hcon, if_pos rfl] at et
      refine brF rfl (hJ _ _ (hX _ _ _ ⟨i + 1, sg, rfl, by omega, ?_, rfl⟩ (by omega)))
      rw [et]; exact st
    | false =>
      rw [hcon, if_neg (by simp)] at et
      refine brT rfl ?_
      rw [st.lds 1 0 rfl rfl]
      refine st.nw fun b14 h8 st => ?_
      simp only [List.cons_append, List.nil_append] at st
      refine st.apd (v := d[i]) 2 3 rfl rfl (by decide) rfl (by omega) (by decide) rfl fun s15 h9 st => ?_
      refine st.st1 1 0 rfl (by simp) fun h10 st => ?_
      simp only [List.set_cons_zero, List.set_cons_succ] at st
      have st := st.drop 3 rfl
      refine hJ _ _ (hX _ _ _ ⟨i + 1, s15, rfl, by omega, ?_, rfl⟩ (by omega))
      rw [et]; exact st
  refine brF (by rw [lsm]; exact dlt_f hlt) ?_
  rw [List.take_of_length_le (by omega)] at st hsl
  clear hX
  generalize someGo [] d = P at *
  have st := (st.freeze 1 rfl).freeze 1 rfl
  simp only [List.cons_append, List.nil_append, List.eraseIdx_cons_succ, List.eraseIdx_cons_zero] at st
  refine ldF (st.fblk 3 rfl) ?_
  rw [ld_sl (i := 0) (st.fblk 5 rfl) rfl]
  have fol := fun {h' : Heap} {p : Sl} {L : List Int} (q : At h' (llo M s')) (hp : At h' (li L p)) (hL : Asg 8 L) (hl : L.length ≤ 1048576) =>
    (show followsP 8 M L = ((followP 8 M L).1, (followP 8 M L).2, 0) by
      unfold followsP
      rw [if_neg (by simp [check_good.2 hg]), if_neg (by simp [(modelF_asg (n := 8) (c := L)).2 ⟨by decide, by decide, hL⟩])]; rfl) ▸ follows_c (n := 8) (llo_at q) hp hlen.1 hlen.2 hl
  refine call_of (fol (st.fz 2 rfl) (st.fz 6 rfl).rsl hP (by omega)) ?_
  rintro _ h7 ⟨so, rfl, n7, x7⟩
  have st := Hs.fzl (st.new x7 n7)
  refine st.nw fun b19 h8 st => ?_
  refine st.nw fun b20 h9 st => ?_
  simp only [List.cons_append, List.nil_append] at st
  refine st.st1 1 0 rfl (by simp) fun h10 st => ?_
  refine st.st1 2 0 rfl (by simp) fun h11 st => ?_
  simp only [List.set_cons_zero, List.set_cons_succ] at st
  have st := (st.freeze 1 rfl).freeze 1 rfl
  simp only [List.cons_append, List.nil_append, List.eraseIdx_cons_succ, List.eraseIdx_cons_zero] at st
  have hnw := follow_new hi P
  have hfr := hnw.fresh
  have hOl : (followP 8 M P).1.length ≤ 8 := hnw.len
  have hPO := follow_asg hi hP
  have hix := follow_idx hi hP
  have hho := fun m hm ha => follow_holds (m := m) hi hP hm ha
  have hag := follow_again hi P
  generalize (followP 8 M P).1 = O at *
  generalize (followP 8 M P).2 = at_ at *
  have lM := rsg_len (llo_at (st.fz 2 rfl))
  refine jn_in fun J hJ => brF rfl ?_
  rw [ld_int (i := 0) (st.fblk 9 rfl) rfl]
  refine hJ _ _ ?_
  clear J hJ
  refine jn_in fun J hJ => brF (decide_eq_false (show ¬ at_ < -1 by rcases hix with k | ⟨j, _, k, _⟩ <;> omega)) ?_
  rw [ld_int (i := 0) (st.fblk 9 rfl) rfl, addr_add, Nat.zero_add, ld_sl (i := 1) (st.fblk 3 rfl) rfl]
  refine hJ _ _ (brF (decide_eq_false (show ¬ at_ ≥ (s'.len : Int) by rcases hix with k | ⟨j, _, k, _⟩ <;> omega)) ?_)
  clear J hJ
  rw [ld_sl (i := 0) (st.fblk 8 rfl) rfl]
  have lso := osl_len (st.fz 7 rfl)
  have hcap := rsl_cap (st.fz 7 rfl).rsl
  refine lfp_invh (I := fun μ σ h' => ∃ i : Nat, σ = ((i : Int), ()) ∧ i ≤ O.length ∧ h' = h11 ∧ μ = O.length - i) ⟨_, 0, rfl, by omega, rfl, rfl⟩ ?_
  rintro μ σ h12 X ⟨i, rfl, hiO, rfl, rfl⟩ hX
  simp only
  by_cases hlt2 : i < O.length
  · refine brT (by rw [lso]; exact dlt_t hlt2) ?_
    rw [inc_i (show i < 4611686018427387904 by omega)]
    refine rdE (τ := i64) (st.fz 7 rfl).rsl hlt2 ?_
    obtain ⟨f1, f2, f3, f4⟩ := hfr i hlt2
    have hrO := (hPO.inV O[i] (List.mem_append_right _ (List.getElem_mem hlt2))).1
    rw [ld_sl (i := 0) (st.fblk 5 rfl) rfl, neg_wrap hrO]
    have hsub := rsl_sub (st.fz 7 rfl).rsl (Nat.zero_le i) (Nat.le_of_lt hlt2)
    rw [List.drop_zero] at hsub
    have cap : ∀ {K : Sl → HP}, K (slR ⟨so.a, so.len, so.cap⟩ 0 i 1) h12 → slH ⟨so.a, so.len, so.cap⟩ (i : Int) 1 K h12 := fun hk => ⟨Int.natCast_nonneg _, Int.ofNat_le.2 (show i ≤ so.cap by omega), by rw [Int.toNat_natCast]; exact hk⟩
    refine call_of (contains_lit (st.fz 6 rfl).rsl (by omega) _) ?_
    rintro _ h13 ⟨rfl, e⟩; subst e
    refine jn_in fun J hJ => brF (by simpa using f1) ?_
    rw [ld_sl (i := 0) (st.fblk 5 rfl) rfl]
    refine call_of (contains_lit (st.fz 6 rfl).rsl (by omega) _) ?_
    rintro _ h14 ⟨rfl, e⟩; subst e
    refine hJ _ _ ?_
    clear J hJ
    refine jn_in fun J hJ => brF (by simpa using f2) ?_
    rw [ld_sl (i := 0) (st.fblk 8 rfl) rfl]
    refine cap ?_
    refine call_of (contains_lit hsub (by simp; omega) _) ?_
    rintro _ h15 ⟨rfl, e⟩; subst e
    refine hJ _ _ ?_
    clear J hJ
    refine jn_in fun J hJ => brF (by simpa using f3) ?_
    rw [ld_sl (i := 0) (st.fblk 8 rfl) rfl]
    refine cap ?_
    refine call_of (contains_lit hsub (by simp; omega) _) ?_
    rintro _ h16 ⟨rfl, e⟩; subst e
    refine hJ _ _ (brF (by simpa using f4) ?_)
    exact hX _ _ _ ⟨i + 1, rfl, by omega, rfl, rfl⟩ (by omega)
  refine brF (by rw [lso]; exact dlt_f hlt2) ?_
  clear hX
  refine ldF (st.fblk 3 rfl) ?_
  refine Hs.Models (n := 8) (cs := M) st (llo_at (st.fz 2 rfl)) (fun hc' => absurd (check_good.2 hg) hc') (fun _ hn => absurd hn (by decide)) (fun v hv hc0 hv16 b sq h13 st => ?_)
  have ev : v = 8 := by omega
  subst ev
  simp only [List.cons_append, List.nil_append] at st
  refine jn_in fun J hJ => brF rfl ?_
  refine ⟨.inr ⟨_, _, _, rfl⟩, hJ _ _ (brF rfl ?_)⟩
  clear J hJ
  refine st.nw fun b53 h14 st => ?_
  simp only [List.cons_append, List.nil_append] at st
  refine st.st1 1 0 rfl (by simp) fun h15 st => ?_
  have st := st.freeze 1 rfl
  simp only [List.cons_append, List.nil_append, List.set_cons_zero, List.set_cons_succ, List.eraseIdx_cons_succ, List.eraseIdx_cons_zero] at st
  refine st.rangeG (modNx 8 M) (modGf 8 M) (modFin 8 M) (models_hit 10 11 rfl rfl hg hv16) (fun _ _ _ _ => rfl)
    (fun pre Bs => Bs = [cl b0 ty_bool [.bool false]]) (fun _ _ => False) rfl ?_ ?_ (fun _ _ hf => hf.elim) (fun i id K hi => by simp at hi)
  · rintro pre ⟨x, ⟨⟩⟩ Bs B hb hnx rfl st next jump hnext hjump
    have hlt : pre.length < (modelsF 8 M).length := hnx
    have eg : modGf 8 M pre (x, ()) = ob (modelsF 8 M)[pre.length] x := by
      show ob ((modelsF 8 M).getD pre.length []) x = _
      rw [List.getD_eq_getElem?_getD, List.getElem?_eq_getElem hlt]; rfl
    rw [eg] at st
    simp only [List.cons_append, List.nil_append] at st
    obtain ⟨hm8, hmh⟩ := mem_modelsT.1 (List.getElem_mem hlt)
    generalize (modelsF 8 M)[pre.length] = mm at *
    have hb8 : ∀ {L : List Int}, Asg 8 L → ∀ x ∈ L, beyP mm.length x = false := fun hL x hx => by
      rw [hm8]; exact bey_iffL.2 (hL.inV x hx)
    have hbO : ∀ x ∈ O, beyP mm.length x = false := fun x hx => hb8 hPO x (List.mem_append_right _ hx)
    rw [ld_val (i := 0) (st.fblk 12 rfl) rfl, ld_sl (i := 0) (st.fblk 5 rfl) rfl]
    refine callF_of (callF_func (holdsAll_c (st.own 1 rfl).rsl (st.fz 6 rfl).rsl (hb8 hP) (by omega))) ?_
    rintro _ h16 ⟨rfl, x16⟩
    have st := st.ext x16
    refine jn_in fun J hJ => ?_
    cases hall : P.all (Fo.tru mm) with
    | false => exact brF rfl (hJ _ _ (brF rfl (hnext _ _ rfl (st.drop 1 rfl))))
    | true =>
      obtain ⟨ha1, ha2⟩ := hho mm hmh hall
      refine brT rfl ?_
      rw [ld_int (i := 0) (st.fblk 9 rfl) rfl]
      refine jn_in fun J2 hJ2 => brF (decide_eq_false (show ¬ at_ ≥ 0 by omega)) ?_
      rw [ld_val (i := 0) (st.fblk 12 rfl) rfl, ld_sl (i := 0) (st.fblk 8 rfl) rfl]
      refine callF_of (callF_func (holdsAll_c (st.own 1 rfl).rsl (st.fz 7 rfl).rsl hbO (by omega))) ?_
      rintro _ h17 ⟨rfl, x17⟩
      rw [ha2]
      exact hJ2 _ _ (hJ _ _ (brF rfl (hnext _ _ rfl ((st.ext x17).drop 1 rfl))))
  · rintro pre Bs h16 hfin rfl st
    rw [ld_sl (i := 0) (st.fblk 5 rfl) rfl, ld_sl (i := 0) (st.fblk 8 rfl) rfl]
    refine st.nw fun b71 h17 st => ?_
    simp only [List.cons_append, List.nil_append] at st
    refine call_of (concatL_c (st.blk 1 rfl) (st.fz 6 rfl).rsl (st.fz 7 rfl).rsl (by omega)) ?_
    rintro r72 h18 ⟨n18, x18⟩
    have st := Hs.fzl (st.new x18 n18)
    simp only [List.cons_append, List.nil_append] at st
    refine ldF (st.fblk 3 rfl) ?_
    refine call_of (fol (st.fz 2 rfl) (st.fz 13 rfl).rsl hPO (by simp; omega)) ?_
    rw [hag]
    rintro _ h19 ⟨s74, rfl, n19, x19⟩
    have l74 := osl_len n19.at
    have st := st.ext x19
    refine jn_in fun J hJ => brF rfl ?_
    rw [ld_int (i := 0) (st.fblk 9 rfl) rfl]
    refine hJ _ _ ?_
    clear J hJ
    refine jn_in fun J hJ => brF (by simp) (hJ _ _ (brF (by rw [l74]; rfl) ?_))
    clear J hJ
    rw [ld_int (i := 0) (st.fblk 9 rfl) rfl]
    refine jn_in fun J hJ => ?_
    have fin : ∀ h', Hs [([], h)] [llu l s, lu c s2, llo M s', cl b2 ty_formula_Formula [.int .i64 8, .slice s'.a s'.len s'.cap], lo d sm, cl b3 ty_sl_lits_Lit [.slice sg.a sg.len sg.cap], lo P sg, lo O so, cl b19 ty_sl_lits_Lit [.slice so.a so.len so.cap], cl b20 ty_int [.int .i64 at_], cF b 8 sq, lli M sq, cl b53 ty_func_sl_bool_sl_lits_Lit_bool [.func (.func fn_salvorlaw19_DpllFollows_1) #[] #[]], lo (P ++ O) r72]
        [cl b0 ty_bool [.bool false], cl b71 ty_sl_lits_Lit [.slice sg.a sg.len sg.cap, .slice so.a so.len so.cap]] h' → J () h' := by
      intro h' st
      refine hJ _ _ ?_
      refine call_of (dawake_c _) ?_
      rintro _ h20 ⟨rfl, x20⟩
      refine (st.ext x20).st1 0 0 rfl (by simp) fun h21 st => ?_
      intro h22 hM
      have st := st.marked hM
      simp only [List.set_cons_zero] at st
      rw [st.ldb 0 0 rfl rfl]
      exact hK _ _ ⟨rfl, st.frame (by simp)⟩
    rcases hix with rfl | ⟨j, hj, rfl, hall⟩
    · exact brF rfl (fin _ st)
    · refine brT (decide_eq_true (Int.natCast_nonneg _)) ?_
      rw [addr_add, Nat.zero_add, ld_sl (i := 1) (st.fblk 3 rfl) rfl, ld_int (i := 0) (st.fblk 9 rfl) rfl]
      refine rdG (llo_at (st.fz 2 rfl)) hj fun p hp => ?_
      have lp := rsl_len hp
      have hcl := hlen.2 _ (List.getElem_mem hj)
      refine lfp_invh (I := fun μ σ h' => ∃ i : Nat, σ = ((i : Int), ()) ∧ i ≤ M[j].length ∧ h' = h19 ∧ μ = M[j].length - i) ⟨_, 0, rfl, by omega, rfl, rfl⟩ ?_
      rintro μ σ h20 X ⟨i, rfl, hiM, rfl, rfl⟩ hX
      simp only
      by_cases hlt3 : i < M[j].length
      · refine brT (by rw [lp]; exact dlt_t hlt3) ?_
        rw [inc_i (show i < 4611686018427387904 by omega)]
        refine rdE (τ := i64) hp hlt3 ?_
        rw [neg_wrap (hi _ (List.getElem_mem hj) _ (List.getElem_mem hlt3)).1]
        refine call_of (contains_lit (st.fz 13 rfl).rsl (by simp; omega) _) ?_
        rintro _ h21 ⟨rfl, e⟩; subst e
        refine brF (by rw [List.contains_iff_mem.2 (hall _ (List.getElem_mem hlt3))]; rfl) ?_
        exact hX _ _ _ ⟨i + 1, rfl, by omega, rfl, rfl⟩ (by omega)
      · exact brF (by rw [lp]; exact dlt_f hlt3) (fin _ st)

end Go.Proofs.S
