/-
  The package formula: Assign, Model: contracts.
-/
import Derived.Test.YtmlamkoilggonaaGreatFoH
import Derived.Test.YtmlamkoilggonaaGreatClR
set_option linter.unusedVariables false
set_option linter.unusedSimpArgs false
namespace Go.Sx
open Go
theorem Hs.swap2 {fr : Fr} {G : List Asn} {A B : Asn} {h : Heap} (st : Hs fr G [A, B] h) : Hs fr G [B, A] h := by
  obtain ⟨S, ⟨S1, S2, e, hd, hA, S3, S4, e2, hd2, hB, e3⟩, hz, hf⟩ := st
  subst e e2 e3
  have hm : ∀ b ∈ S3 ++ (S1 ++ []), b ∈ S1 ++ (S3 ++ []) := fun b hb => by
    simp only [List.append_nil, List.mem_append] at hb ⊢; exact hb.symm
  refine ⟨S3 ++ (S1 ++ []), ⟨S3, S1 ++ [], rfl, fun b hb hin => ?_, hB, S1, [], rfl, by simp, hA, rfl⟩, hz.mono fun b hb => .inl (hm b hb), hf.mono fun b hb => .inl (hm b hb)⟩
  simp only [List.append_nil] at hin
  exact hd b hin (by simpa using hb)
end Go.Sx
namespace Go.Proofs.S
open Go Go.Sx Go.Proofs Go.Cl

variable {h : Heap} {c d : List Int} {s s2 : Sl} {fr : Fr} {G As : List Asn} {m : List Bool} {sm : Sl}

theorem bey_rt {n x : Int} (h : beyP n x = false) : rt x = true ∧ varL x ≤ n := by
  unfold beyP at h
  simp only [Bool.or_eq_false_iff, Bool.not_eq_false', decide_eq_false_iff_not] at h
  exact ⟨h.1, by omega⟩
theorem varL_pos {x : Int} (h : rt x = true) : 1 ≤ varL x ∧ varL x ≤ 1048576 := by
  have := rt_iff.1 h
  unfold varL
  rw [if_pos h]; split <;> omega

def assignL (l : Int) (cs : List (List Int)) : List (List Int) := (cs.filter fun c => !c.contains l).map fun c => c.filter fun x => !(x == -l)
theorem assignL_step (l : Int) {cs : List (List Int)} {i : Nat} (hi : i < cs.length) : assignL l (cs.take (i + 1)) = assignL l (cs.take i) ++ (if cs[i].contains l then [] else [cs[i].filter fun x => !(x == -l)]) := by
  unfold assignL
  rw [take_succ_getE hi, List.filter_append, List.map_append]
  congr 1
  by_cases hc : cs[i].contains l = true
  · rw [if_pos hc, List.filter_cons_of_neg (p := fun c : List Int => !c.contains l) (by rw [hc]; decide)]; rfl
  · rw [if_neg hc, List.filter_cons_of_pos (p := fun c : List Int => !c.contains l) (by rw [Bool.not_eq_true] at hc; rw [hc]; rfl)]; rfl
theorem assignL_len (l : Int) (cs : List (List Int)) : (assignL l cs).length ≤ cs.length := by
  unfold assignL
  rw [List.length_map]; exact List.length_filter_le _ _
def assignF (n : Int) (cs : List (List Int)) (l : Int) : (Int × List (List Int)) × Int :=
  if (checkP n cs).2 ≠ 0 then ((0, []), (checkP n cs).2) else if beyP n l then ((0, []), 51) else ((n, assignL l cs), 0)

theorem assign1_c {b : Nat} {t0 : TypeId} {l : Int} (hl : rt l = true) (kb : Blk h b t0 [.int .i64 l]) (x : Int) : callT Tryz.prog fn_formula_Assign_1 #[.int .i64 x, .pointer (some ⟨b, 0, none⟩)] .bool (fun r h' => r = (x == -l) ∧ Ext [] h h') h := by
  refine callT_gen fun K hK => S_formula_Assign_1 (a0 := x) (c0 := ⟨b, 0, none⟩) K ?_
  unfold F_formula_Assign_1
  rw [ld_int (i := 0) kb rfl, wneg hl]
  exact hK _ _ ⟨rfl, Ext.refl' _ _⟩

theorem assign_c {n : Int} {cs : List (List Int)} (hA : At h (lli cs s)) (l : Int) :
    callT Tryz.prog fn_formula_Assign #[.agg #[.int .i64 n, .slice s.a s.len s.cap], .int .i64 l] (.tup (.cons (.agg (.cons (.int .i64) (.cons .sl .nil))) (.cons (.int .i64) .nil)))
      (fun r h' => ∃ s', r = (((assignF n cs l).1.1, s', ()), (assignF n cs l).2, ()) ∧ New h.size h' (llo (assignF n cs l).1.2 s') ∧ Ext [] h h') h := by
  refine callT_gen fun K hK => S_formula_Assign (a0 := (n, s, ())) (a1 := l) K ?_
  unfold F_formula_Assign
  have st := Hs.start h [lli cs s] (by simp [hA])
  refine st.nw fun b0 h1 st => ?_
  refine st.nw fun b1 h2 st => ?_
  refine st.nw fun b2 h3 st => ?_
  have st := (st.freeze 0 rfl).freeze 0 rfl
  simp only [List.nil_append, List.cons_append, List.eraseIdx_cons_zero, addr_add, Nat.zero_add] at st ⊢
  have bad : ∀ {e : Int} {h' : Heap}, (assignF n cs l) = ((0, []), e) → Hs [([], h)] [lli cs s, cF b0 n s, cl b1 ty_lits_Lit [.int .i64 l]] [cl b2 ty_formula_Formula [.int .i64 0, .slice none 0 0]] h' →
      (st1 (⟨b2, 0, none⟩ : Addr) (.int .i64 (0 : Int)) <| st1 (⟨b2, 1, none⟩ : Addr) (.slice none 0 0) <| ldA (.cons (.int .i64) (.cons .sl .nil)) (⟨b2, 0, none⟩ : Addr) fun x5 => K ((x5.1, ⟨x5.2.1.a, x5.2.1.len, x5.2.1.cap⟩, ()), e, ())) h' := by
    intro e h' he st
    refine st.st1 0 0 rfl (by simp) fun h5 st => ?_
    refine st.st1 0 1 rfl (by simp) fun h6 st => ?_
    refine ldF (s := ⟨none, 0, 0⟩) (st.blk 0 rfl) ?_
    refine hK _ _ ⟨⟨none, 0, 0⟩, by rw [he], ?_, st.frame (by simp)⟩
    rw [he]; exact osg_nil _ _
  refine ldF (s := s) (st.fblk 1 rfl) ?_
  refine call_of (check_c (n := n) (st.fz 0 rfl)) ?_
  rintro _ h4 ⟨rfl, x4⟩
  have st := st.ext x4
  simp only
  by_cases hc : (checkP n cs).2 = 0
  · rw [show ((checkP n cs).2 != 0) = false by simp [hc], brB_false]
    have hg := check_good.1 hc
    rw [ld_int (i := 0) (st.fblk 1 rfl) rfl, ld_int (i := 0) (st.fblk 2 rfl) rfl]
    refine beyond_c n fun b8 h5 x5 kb => ?_
    have st := st.ext x5
    rw [ck_ok (i := 0) (st.fblk 2 rfl) rfl]
    refine callF_of (beyondF kb l) ?_
    rintro _ hq ⟨rfl, rfl⟩
    cases hb : beyP n l with
    | true =>
      rw [brB_true]
      exact bad (by unfold assignF; rw [if_neg (by simp [hc]), if_pos hb]) st
    | false =>
      rw [brB_false]
      have hrt := (bey_rt hb).1
      rw [ld_int (i := 0) (st.fblk 1 rfl) rfl]
      refine st.nw fun b12 h6 st => ?_
      simp only [List.nil_append, List.cons_append, addr_add, Nat.zero_add] at st ⊢
      refine st.st1 1 0 rfl (by simp) fun h7 st => ?_
      refine st.st1 1 1 rfl (by simp) fun h8 st => ?_
      simp only [List.set_cons_zero, List.set_cons_succ] at st
      rw [ld_sl (i := 1) (st.fblk 1 rfl) rfl]
      have st := st.nilg (fun c p => lo c p) ty_clauses_Clause none
      simp only [List.nil_append, List.cons_append] at st
      have l1 := rsg_len (st.fz 0 rfl)
      have hlen := good_len hg
      refine lfp_invh (I := fun μ σ h' => ∃ (i : Nat) (s' : Sl), σ = ((i : Int), ()) ∧ i ≤ cs.length ∧
          Hs [([], h)] [lli cs s, cF b0 n s, cl b1 ty_lits_Lit [.int .i64 l]] [cl b2 ty_formula_Formula [.int .i64 0, .slice none 0 0], cl b12 ty_formula_Formula [.int .i64 n, .slice s'.a s'.len s'.cap], llo (assignL l (cs.take i)) s'] h' ∧ μ = cs.length - i)
        ⟨_, 0, ⟨none, 0, 0⟩, rfl, by omega, st, rfl⟩ ?_
      clear st
      rintro μ σ h9 X ⟨i, s', rfl, hi, st, em⟩ hX
      simp only
      by_cases hlt : i < cs.length
      · rw [decide_eq_true (show (i : Int) < (s.len : Int) by omega), brB_true, inc_i (show i < 4611686018427387904 by omega)]
        refine rdG (st.fz 0 rfl) hlt fun p hp => ?_
        have hcl := hlen.2 _ (List.getElem_mem hlt)
        rw [ld_int (i := 0) (st.fblk 2 rfl) rfl]
        refine call_of (contains_clause hp (by omega) l) ?_
        rintro r hq ⟨er, rfl⟩
        have er : r = cs[i].contains l := er
        subst er
        refine jn_in fun J hJ => ?_
        have fin : ∀ s' h', Hs [([], h)] [lli cs s, cF b0 n s, cl b1 ty_lits_Lit [.int .i64 l]] [cl b2 ty_formula_Formula [.int .i64 0, .slice none 0 0], cl b12 ty_formula_Formula [.int .i64 n, .slice s'.a s'.len s'.cap], llo (assignL l (cs.take (i + 1))) s'] h' → J () h' :=
          fun s' h' st => hJ _ _ (hX _ _ _ ⟨i + 1, s', rfl, by omega, st, rfl⟩ (by omega))
        rw [assignL_step l hlt] at fin
        have hal := Nat.le_trans (assignL_len l (cs.take i)) (show (cs.take i).length ≤ i by simp; omega)
        cases hcl2 : cs[i].contains l with
        | true =>
          rw [if_pos hcl2, List.append_nil] at fin
          rw [Bool.not_true, brB_false]
          exact fin s' _ st
        | false =>
          rw [if_neg (by rw [hcl2]; decide)] at fin
          rw [Bool.not_false, brB_true]
          rw [st.lds 1 1 rfl rfl]
          refine Hs.fclone_c st hp hcl fun r23 h10 st => ?_
          simp only [List.nil_append, List.cons_append] at st
          rw [st.ck 1 1 rfl rfl]
          obtain ⟨S1, p1, hG, hw⟩ := st.focusG 3 rfl
          refine call_of (delete_c (q := fun x => x == -l) p1 (by omega) (fun h' x y hy => callF_func ?_)) ?_
          · obtain ⟨_, _, kb⟩ := hG h' x (cl b1 ty_lits_Lit [.int .i64 l]) (by simp)
            exact assign1_c hrt kb y
          · rintro r24 h11 ⟨p11, x11⟩
            have st := hw _ S1 h11 x11 p11 (fun b hb => .inl hb)
            simp only [List.set_cons_zero, List.set_cons_succ] at st
            rw [st.ck 1 1 rfl rfl]
            refine st.nw fun b25 h12 st => ?_
            simp only [List.nil_append, List.cons_append] at st
            refine Hs.apdG (I := fun c p => lo c p) (x := cs[i].filter fun x => !(x == -l)) (p := r24) st 2 4 3 rfl rfl rfl (by decide) (by decide) (by omega) (by decide) rfl fun s26 h13 st => ?_
            simp only [List.set_cons_zero, List.set_cons_succ] at st
            refine st.st1 1 1 rfl (by simp) fun h14 st => ?_
            simp only [List.set_cons_zero, List.set_cons_succ] at st
            exact fin s26 _ ((st.drop 4 rfl).drop 3 rfl)
      rw [decide_eq_false (show ¬ (i : Int) < (s.len : Int) by omega), brB_false]
      rw [List.take_of_length_le (by omega)] at st
      refine ldF (s := s') (st.blk 1 rfl) ?_
      refine st.st1 0 0 rfl (by simp) fun h10 st => ?_
      refine st.st1 0 1 rfl (by simp) fun h11 st => ?_
      refine ldF (s := s') (st.blk 0 rfl) ?_
      have ea : assignF n cs l = ((n, assignL l cs), 0) := by unfold assignF; rw [if_neg (by simp [hc]), if_neg (by simp [hb])]
      refine hK _ _ ⟨s', by rw [ea], ?_, st.frame (by simp)⟩
      rw [ea]; exact st.res (by simp) 2 rfl
  · rw [show ((checkP n cs).2 != 0) = true by simpa using hc, brB_true]
    exact bad (by unfold assignF; rw [if_pos hc]) st

end Go.Proofs.S

set_option linter.unusedVariables false
set_option linter.unusedSimpArgs false
namespace Go.Proofs.S
open Go Go.Sx Go.Proofs Go.Cl

variable {h : Heap} {c d : List Int} {s s2 : Sl} {fr : Fr} {G As : List Asn} {m : List Bool} {sm : Sl}

def modelGo (n : Int) : List Bool → List Bool → List Int → List Bool × Int
  | out, set, [] => (out, 0)
  | out, set, x :: l => if beyP n x then ([], 51) else
      if set.getD (varL x - 1).toNat false && (out.getD (varL x - 1).toNat false == decide (x < 0)) then ([], 52) else
      modelGo n (out.set (varL x - 1).toNat (!decide (x < 0))) (set.set (varL x - 1).toNat true) l
theorem modelGo_cons (n : Int) (out set : List Bool) (x : Int) (l : List Int) : modelGo n out set (x :: l) = if beyP n x then ([], 51) else
      if set.getD (varL x - 1).toNat false && (out.getD (varL x - 1).toNat false == decide (x < 0)) then ([], 52) else
      modelGo n (out.set (varL x - 1).toNat (!decide (x < 0))) (set.set (varL x - 1).toNat true) l := rfl
theorem modelGo_nil (n : Int) (out set : List Bool) : modelGo n out set [] = (out, 0) := rfl
def modelF (n : Int) (l : List Int) : List Bool × Int := if varsP n then modelGo n (List.replicate n.toNat false) (List.replicate n.toNat false) l else ([], 50)

theorem model_loop {n : Nat} {so ss : Sl} {out set : List Bool} (hl : c.length ≤ 1099511627776) (hn : n ≤ 1048576)
    {K : (Sl × (Int × Unit)) → HP} (h0 : Heap)
    (hK : ∀ s' h', New h0.size h' (ob (modelGo n out set c).1 s') → Ext [] h0 h' → K (s', (modelGo n out set c).2, ()) h')
    (ho : out.length = n) (hs : set.length = n) {G : List Asn} (g : Nat) (hg : G[g]? = some (li c s)) (st : Hs [([], h0)] G [ob out so, ob set ss] h) :
    lfp (σ := (Int × (Int × (Sl × Unit)))) (fun X3 s4 =>
      brB (decide (s4.1 < (s.len : Int)))
      (sx s.a s.len s4.1 1 fun p5 => ldT (.int .i64) p5 fun x6 =>
        callT Tryz.prog fn_formula_beyond #[(.int .i64 (n : Int))] .val fun r7 => callF Tryz.prog r7 #[(.int .i64 x6)] .bool fun r8 =>
        brB r8 (K (⟨none, 0, 0⟩, (51 : Int), ()))
        (callT Tryz.prog fn_lits_Var #[(.int .i64 x6)] (.int .i64) fun r9 =>
          sx ss.a ss.len (IntKind.wrap .i64 (r9 - (1 : Int))) 1 fun p10 => ldT .bool p10 fun x11 =>
          brB x11
          (sx so.a so.len (IntKind.wrap .i64 (r9 - (1 : Int))) 1 fun p12 => ldT .bool p12 fun x13 =>
            callT Tryz.prog fn_lits_Negated #[(.int .i64 x6)] .bool fun r14 => Sx.ck p12 (.bool x13) <|
            brB (x13 == r14) (K (⟨none, 0, 0⟩, (52 : Int), ()))
            (callT Tryz.prog fn_lits_Negated #[(.int .i64 x6)] .bool fun r15 =>
              sx so.a so.len (IntKind.wrap .i64 (r9 - (1 : Int))) 1 fun p16 => Sx.st1 p16 (.bool (!r15)) <|
              sx ss.a ss.len (IntKind.wrap .i64 (r9 - (1 : Int))) 1 fun p17 => Sx.st1 p17 (.bool true) <|
              X3 ((IntKind.wrap .i64 (s4.1 + (1 : Int))), s4.2.1, ⟨s4.2.2.1.a, s4.2.2.1.len, s4.2.2.1.cap⟩, ())))
          (callT Tryz.prog fn_lits_Negated #[(.int .i64 x6)] .bool fun r18 =>
            sx so.a so.len (IntKind.wrap .i64 (r9 - (1 : Int))) 1 fun p19 => Sx.st1 p19 (.bool (!r18)) <|
            sx ss.a ss.len (IntKind.wrap .i64 (r9 - (1 : Int))) 1 fun p20 => Sx.st1 p20 (.bool true) <|
            X3 ((IntKind.wrap .i64 (s4.1 + (1 : Int))), s4.2.1, ⟨s4.2.2.1.a, s4.2.2.1.len, s4.2.2.1.cap⟩, ()))))
      (K (⟨so.a, so.len, so.cap⟩, (0 : Int), ())))
      ((0 : Int), (0 : Int), ⟨none, 0, 0⟩, ()) h := by
  have l1 := rsl_len (st.fz g hg)
  refine lfp_invh (I := fun μ σ h' => ∃ (i : Nat) (out' set' : List Bool), σ = ((i : Int), 0, ⟨none, 0, 0⟩, ()) ∧ i ≤ c.length ∧ out'.length = n ∧ set'.length = n ∧ modelGo n out' set' (c.drop i) = modelGo n out set c ∧ Hs [([], h0)] G [ob out' so, ob set' ss] h' ∧ μ = c.length - i)
    ⟨_, 0, out, set, rfl, by omega, ho, hs, rfl, st, rfl⟩ ?_
  clear st ho hs
  rintro μ σ h1 X ⟨i, out', set', rfl, hi, ho, hs, hm, st, em⟩ hX
  simp only
  by_cases hlt : i < c.length
  · rw [decide_eq_true (show (i : Int) < (s.len : Int) by omega), brB_true, inc_i (show i < 4611686018427387904 by omega)]
    rw [List.drop_eq_getElem_cons hlt, modelGo_cons] at hm
    refine rdE (τ := i64) (st.fz g hg) hlt ?_
    refine beyond_c n fun b7 h2 x2 kb => ?_
    have st := st.ext x2
    refine callF_of (beyondF kb c[i]) ?_
    rintro _ hq ⟨rfl, rfl⟩
    cases hb : beyP n c[i] with
    | true =>
      rw [if_pos hb] at hm
      rw [brB_true]
      rw [← hm] at hK
      exact hK ⟨none, 0, 0⟩ _ (osl_nil _ _) (st.frame (by simp))
    | false =>
      rw [if_neg (by simp [hb])] at hm
      rw [brB_false]
      obtain ⟨hrt, hv⟩ := bey_rt hb
      obtain ⟨hv1, hvb⟩ := varL_pos hrt
      refine call_of (lits_Var_c c[i]) ?_
      rintro r hq ⟨er, rfl⟩
      have er : r = varL c[i] := er
      subst er
      have e1 : IntKind.wrap .i64 (varL c[i] - 1) = (((varL c[i] - 1).toNat : Nat) : Int) := by rw [wrap_i64 (by omega) (by omega)]; omega
      rw [e1]
      have hj : (varL c[i] - 1).toNat < n := by omega
      have hnx : ∀ h', Hs [([], h0)] G [ob out' so, ob set' ss] h' → (set'.getD (varL c[i] - 1).toNat false && (out'.getD (varL c[i] - 1).toNat false == decide (c[i] < 0))) = false → 
          (callT Tryz.prog fn_lits_Negated #[(.int .i64 c[i])] .bool fun r15 =>
              sx so.a so.len (((varL c[i] - 1).toNat : Nat) : Int) 1 fun p16 => Sx.st1 p16 (.bool (!r15)) <|
              sx ss.a ss.len (((varL c[i] - 1).toNat : Nat) : Int) 1 fun p17 => Sx.st1 p17 (.bool true) <|
              X (((i + 1 : Nat) : Int), 0, ⟨none, 0, 0⟩, ())) h' := by
        intro h' st hno
        rw [if_neg (by rw [hno]; decide)] at hm
        refine call_of (neg_c c[i]) ?_
        rintro r hq ⟨er, rfl⟩
        have er : r = decide (c[i] < 0) := by rw [hrt, Bool.true_and] at er; exact er
        subst er
        generalize (varL c[i] - 1).toNat = j at *
        refine st.wrE (τ := .bool) 0 rfl (show j < out'.length by omega) _ fun h3 st => ?_
        simp only [List.set_cons_zero] at st
        refine st.wrE (τ := .bool) 1 rfl (show j < set'.length by omega) true fun h4 st => ?_
        simp only [List.set_cons_zero, List.set_cons_succ] at st
        exact hX _ _ _ ⟨i + 1, _, _, rfl, by omega, by simpa using ho, by simpa using hs, hm, st, rfl⟩ (by omega)
      refine rdE (τ := .bool) (st.own 1 rfl).rsl (show (varL c[i] - 1).toNat < set'.length by omega) ?_
      have es : set'.getD (varL c[i] - 1).toNat false = set'[(varL c[i] - 1).toNat]'(by omega) := by rw [List.getD_eq_getElem?_getD, List.getElem?_eq_getElem (by omega)]; rfl
      have eo : out'.getD (varL c[i] - 1).toNat false = out'[(varL c[i] - 1).toNat]'(by omega) := by rw [List.getD_eq_getElem?_getD, List.getElem?_eq_getElem (by omega)]; rfl
      cases hset : set'[(varL c[i] - 1).toNat]'(by omega) with
      | false =>
        rw [brB_false]
        exact hnx _ st (by rw [es, hset]; rfl)
      | true =>
        rw [brB_true]
        have hjo : (varL c[i] - 1).toNat < out'.length := by omega
        obtain ⟨a, ea, hc⟩ := rsl_cells (st.own 0 rfl).rsl (List.getElem?_eq_getElem hjo)
        refine ⟨a, ea, by omega, by rw [osl_len (st.own 0 rfl)]; omega, out'[(varL c[i] - 1).toNat], by simpa using hc, ?_⟩
        refine call_of (neg_c c[i]) ?_
        rintro r hq ⟨er, rfl⟩
        have er : r = decide (c[i] < 0) := by rw [hrt, Bool.true_and] at er; exact er
        subst er
        refine ⟨by rw [Int.toNat_natCast, Nat.mul_one]; exact hc, ?_⟩
        cases hoo : (out'[(varL c[i] - 1).toNat] == decide (c[i] < 0)) with
        | true =>
          rw [if_pos (by rw [es, hset, eo, hoo]; rfl)] at hm
          rw [brB_true]
          rw [← hm] at hK
          exact hK ⟨none, 0, 0⟩ _ (osl_nil _ _) (st.frame (by simp))
        | false =>
          rw [brB_false]
          exact hnx _ st (by rw [es, hset, eo, hoo]; rfl)
  · rw [decide_eq_false (show ¬ (i : Int) < (s.len : Int) by omega), brB_false]
    rw [List.drop_eq_nil_of_le (by omega), modelGo_nil] at hm
    rw [← hm] at hK
    exact hK _ _ (st.res (by simp) 0 rfl) (st.frame (by simp))

theorem fmodel_c {n : Int} (hA : At h (li c s)) (hl : c.length ≤ 1099511627776) :
    callT Tryz.prog fn_formula_Model #[.int .i64 n, .slice s.a s.len s.cap] (.tup (.cons .sl (.cons (.int .i64) .nil)))
      (fun r h' => ∃ s', r = (s', (modelF n c).2, ()) ∧ New h.size h' (ob (modelF n c).1 s') ∧ Ext [] h h') h := by
  refine callT_gen fun K hK => S_formula_Model (a0 := n) (a1 := s) K ?_
  unfold F_formula_Model
  refine call_of (vars_c n) ?_
  rintro _ hq ⟨rfl, rfl⟩
  unfold modelF at hK
  cases hv : varsP n with
  | false =>
    rw [hv] at hK
    rw [Bool.not_false, brB_true]
    exact hK _ _ ⟨⟨none, 0, 0⟩, rfl, osl_nil _ _, Ext.refl' _ _⟩
  | true =>
    rw [hv, if_pos rfl] at hK
    rw [Bool.not_true, brB_false]
    have hn : 0 ≤ n ∧ n ≤ 1048576 := by
      unfold varsP at hv
      simp only [Bool.and_eq_true, decide_eq_true_eq] at hv
      exact ⟨hv.1, hv.2⟩
    obtain ⟨n, rfl⟩ := Int.eq_ofNat_of_zero_le hn.1
    rw [Int.toNat_natCast] at hK
    have hl2 : n ≤ 1048576 := by omega
    have hK2 : ∀ s' h', New hq.size h' (ob (modelGo n (List.replicate n false) (List.replicate n false) c).1 s') → Ext [] hq h' → K (s', (modelGo n (List.replicate n false) (List.replicate n false) c).2, ()) h' := fun s' h' a b => hK _ _ ⟨s', rfl, a, b⟩
    have st := Hs.start hq [li c s] (by simp [hA])
    refine ⟨?_, ?_⟩
    · refine Hs.mks1 (n := n) (τ := .bool) (z := false) st (by omega) (by decide) fun s1 h1 st => ?_
      simp only [List.nil_append] at st
      refine ⟨?_, ?_⟩
      · refine Hs.mks1 (n := n) (τ := .bool) (z := false) st (by omega) (by decide) fun s2 h2 st => ?_
        simp only [List.nil_append, List.cons_append] at st
        exact model_loop hl hl2 hq hK2 (by simp) (by simp) 0 rfl st
      · refine Hs.mks1 (n := n) (τ := .bool) (z := false) st (by omega) (by decide) fun s2 h2 st => ?_
        simp only [List.nil_append, List.cons_append] at st
        exact model_loop hl hl2 hq hK2 (by simp) (by simp) 0 rfl st
    · refine Hs.mks1 (n := n) (τ := .bool) (z := false) st (by omega) (by decide) fun s1 h1 st => ?_
      simp only [List.nil_append] at st
      refine Hs.mks1 (n := n) (τ := .bool) (z := false) st (by omega) (by decide) fun s2 h2 st => ?_
      simp only [List.nil_append, List.cons_append] at st
      exact model_loop hl hl2 hq hK2 (by simp) (by simp) 0 rfl st.swap2

end Go.Proofs.S
