/-
  The package formula: Models, Count, First: contracts.
-/
import Derived.Test.YtfadkgkkbbcekaaSxSg
import Derived.Test.YtfadkgkkbbcekaaClT
set_option linter.unusedVariables false
set_option linter.unusedSimpArgs false
namespace Go.Proofs.S
open Go Go.Sx Go.Proofs Go.Cl

variable {h : Heap} {c d : List Int} {s s2 : Sl} {fr : Fr} {G As : List Asn} {m : List Bool} {sm : Sl}

theorem good_vars {n : Int} {cs : List (List Int)} (hg : GoodF n cs) : 0 ≤ n ∧ n ≤ 1048576 := by
  have := hg.1
  unfold varsP at this
  simp only [Bool.and_eq_true, decide_eq_true_eq] at this
  exact ⟨this.1, this.2⟩
theorem good_len {n : Int} {cs : List (List Int)} (hg : GoodF n cs) : cs.length ≤ 1048576 ∧ ∀ c ∈ cs, c.length ≤ 1048576 :=
  ⟨by have := hg.2.1; omega, fun c hc => by have := rightC_len (hg.2.2 c hc).1; omega⟩

end Go.Proofs.S

set_option linter.unusedVariables false
set_option linter.unusedSimpArgs false
namespace Go.Sx
open Go
theorem Hs.swap2 {fr : Fr} {G : List Asn} {A B : Asn} {h : Heap} (st : Hs fr G [A, B] h) : Hs fr G [B, A] h := by
  obtain ⟨S, ⟨S1, S2, e, hd, hA, S3, S4, e2, hd2, hB, e3⟩, hz, hf⟩ := st
  subst e e2 e3
  have hm : ∀ b ∈ S3 ++ (S1 ++ []), b ∈ S1 ++ (S3 ++ []) := fun b hb => by
    simp only [List.append_nil, List.mem_append] at hb ⊢; exact hb.symm
  refine ⟨S3 ++ (S1 ++ []), ⟨S3, S1 ++ [], rfl, fun b hb hin => ?_, hB, S1, [], rfl, by simp, hA, rfl⟩, hz.mono fun b hb => .inl (hm b hb), hf.mono fun b hb => .inl (hm b hb)⟩
  simp only [List.append_nil] at hin
  exact hd b hin (by simpa using hb)
end Go.Sx
namespace Go.Proofs.S
open Go Go.Sx Go.Proofs Go.Cl

variable {h : Heap} {c d : List Int} {s s2 : Sl} {fr : Fr} {G As : List Asn} {m : List Bool} {sm : Sl}

theorem bey_rt {n x : Int} (h : beyP n x = false) : rt x = true ∧ varL x ≤ n := by
  unfold beyP at h
  simp only [Bool.or_eq_false_iff, Bool.not_eq_false', decide_eq_false_iff_not] at h
  exact ⟨h.1, by omega⟩
theorem varL_pos {x : Int} (h : rt x = true) : 1 ≤ varL x ∧ varL x ≤ 1048576 := by
  have := rt_iff.1 h
  unfold varL
  rw [if_pos h]; split <;> omega

end Go.Proofs.S

set_option linter.unusedVariables false
set_option linter.unusedSimpArgs false
namespace Go.Proofs.S
open Go Go.Sx Go.Proofs Go.Cl

variable {h : Heap} {c d : List Int} {s s2 : Sl} {fr : Fr} {G As : List Asn} {m : List Bool} {sm : Sl}

def modelGo (n : Int) : List Bool → List Bool → List Int → List Bool × Int
  | out, set, [] => (out, 0)
  | out, set, x :: l => if beyP n x then ([], 51) else
      if set.getD (varL x - 1).toNat false && (out.getD (varL x - 1).toNat false == decide (x < 0)) then ([], 52) else
      modelGo n (out.set (varL x - 1).toNat (!decide (x < 0))) (set.set (varL x - 1).toNat true) l
theorem modelGo_cons (n : Int) (out set : List Bool) (x : Int) (l : List Int) : modelGo n out set (x :: l) = if beyP n x then ([], 51) else
      if set.getD (varL x - 1).toNat false && (out.getD (varL x - 1).toNat false == decide (x < 0)) then ([], 52) else
      modelGo n (out.set (varL x - 1).toNat (!decide (x < 0))) (set.set (varL x - 1).toNat true) l := rfl
theorem modelGo_nil (n : Int) (out set : List Bool) : modelGo n out set [] = (out, 0) := rfl
def modelF (n : Int) (l : List Int) : List Bool × Int := if varsP n then modelGo n (List.replicate n.toNat false) (List.replicate n.toNat false) l else ([], 50)

theorem model_loop {n : Nat} {so ss : Sl} {out set : List Bool} (hl : c.length ≤ 1099511627776) (hn : n ≤ 1048576)
    {K : (Sl × (Int × Unit)) → HP} (h0 : Heap)
    (hK : ∀ s' h', New h0.size h' (ob (modelGo n out set c).1 s') → Ext [] h0 h' → K (s', (modelGo n out set c).2, ()) h')
    (ho : out.length = n) (hs : set.length = n) {G : List Asn} (g : Nat) (hg : G[g]? = some (li c s)) (st : Hs [([], h0)] G [ob out so, ob set ss] h) :
    lfp (σ := (Int × (Int × (Sl × Unit)))) (fun X3 s4 =>
      brB (decide (s4.1 < (s.len : Int)))
      (sx s.a s.len s4.1 1 fun p5 => ldT (.int .i64) p5 fun x6 =>
        callT Try.prog fn_formula_beyond #[(.int .i64 (n : Int))] .val fun r7 => callF Try.prog r7 #[(.int .i64 x6)] .bool fun r8 =>
        brB r8 (K (⟨none, 0, 0⟩, (51 : Int), ()))
        (callT Try.prog fn_lits_Var #[(.int .i64 x6)] (.int .i64) fun r9 =>
          sx ss.a ss.len (IntKind.wrap .i64 (r9 - (1 : Int))) 1 fun p10 => ldT .bool p10 fun x11 =>
          brB x11
          (sx so.a so.len (IntKind.wrap .i64 (r9 - (1 : Int))) 1 fun p12 => ldT .bool p12 fun x13 =>
            callT Try.prog fn_lits_Negated #[(.int .i64 x6)] .bool fun r14 => Sx.ck p12 (.bool x13) <|
            brB (x13 == r14) (K (⟨none, 0, 0⟩, (52 : Int), ()))
            (callT Try.prog fn_lits_Negated #[(.int .i64 x6)] .bool fun r15 =>
              sx so.a so.len (IntKind.wrap .i64 (r9 - (1 : Int))) 1 fun p16 => Sx.st1 p16 (.bool (!r15)) <|
              sx ss.a ss.len (IntKind.wrap .i64 (r9 - (1 : Int))) 1 fun p17 => Sx.st1 p17 (.bool true) <|
              X3 ((IntKind.wrap .i64 (s4.1 + (1 : Int))), s4.2.1, ⟨s4.2.2.1.a, s4.2.2.1.len, s4.2.2.1.cap⟩, ())))
          (callT Try.prog fn_lits_Negated #[(.int .i64 x6)] .bool fun r18 =>
            sx so.a so.len (IntKind.wrap .i64 (r9 - (1 : Int))) 1 fun p19 => Sx.st1 p19 (.bool (!r18)) <|
            sx ss.a ss.len (IntKind.wrap .i64 (r9 - (1 : Int))) 1 fun p20 => Sx.st1 p20 (.bool true) <|
            X3 ((IntKind.wrap .i64 (s4.1 + (1 : Int))), s4.2.1, ⟨s4.2.2.1.a, s4.2.2.1.len, s4.2.2.1.cap⟩, ()))))
      (K (⟨so.a, so.len, so.cap⟩, (0 : Int), ())))
      ((0 : Int), (0 : Int), ⟨none, 0, 0⟩, ()) h := by
  have l1 := rsl_len (st.fz g hg)
  refine lfp_invh (I := fun μ σ h' => ∃ (i : Nat) (out' set' : List Bool), σ = ((i : Int), 0, ⟨none, 0, 0⟩, ()) ∧ i ≤ c.length ∧ out'.length = n ∧ set'.length = n ∧ modelGo n out' set' (c.drop i) = modelGo n out set c ∧ Hs [([], h0)] G [ob out' so, ob set' ss] h' ∧ μ = c.length - i)
    ⟨_, 0, out, set, rfl, by omega, ho, hs, rfl, st, rfl⟩ ?_
  clear st ho hs
  rintro μ σ h1 X ⟨i, out', set', rfl, hi, ho, hs, hm, st, em⟩ hX
  simp only
  by_cases hlt : i < c.length
  · rw [decide_eq_true (show (i : Int) < (s.len : Int) by omega), brB_true, inc_i (show i < 4611686018427387904 by omega)]
    rw [List.drop_eq_getElem_cons hlt, modelGo_cons] at hm
    refine rdE (τ := i64) (st.fz g hg) hlt ?_
    refine beyond_c n fun b7 h2 x2 kb => ?_
    have st := st.ext x2
    refine callF_of (beyondF kb c[i]) ?_
    rintro _ hq ⟨rfl, rfl⟩
    cases hb : beyP n c[i] with
    | true =>
      rw [if_pos hb] at hm
      rw [brB_true]
      rw [← hm] at hK
      exact hK ⟨none, 0, 0⟩ _ (osl_nil _ _) (st.frame (by simp))
    | false =>
      rw [if_neg (by simp [hb])] at hm
      rw [brB_false]
      obtain ⟨hrt, hv⟩ := bey_rt hb
      obtain ⟨hv1, hvb⟩ := varL_pos hrt
      refine call_of (lits_Var_c c[i]) ?_
      rintro r hq ⟨er, rfl⟩
      have er : r = varL c[i] := er
      subst er
      have e1 : IntKind.wrap .i64 (varL c[i] - 1) = (((varL c[i] - 1).toNat : Nat) : Int) := by rw [wrap_i64 (by omega) (by omega)]; omega
      rw [e1]
      have hj : (varL c[i] - 1).toNat < n := by omega
      have hnx : ∀ h', Hs [([], h0)] G [ob out' so, ob set' ss] h' → (set'.getD (varL c[i] - 1).toNat false && (out'.getD (varL c[i] - 1).toNat false == decide (c[i] < 0))) = false → 
          (callT Try.prog fn_lits_Negated #[(.int .i64 c[i])] .bool fun r15 =>
              sx so.a so.len (((varL c[i] - 1).toNat : Nat) : Int) 1 fun p16 => Sx.st1 p16 (.bool (!r15)) <|
              sx ss.a ss.len (((varL c[i] - 1).toNat : Nat) : Int) 1 fun p17 => Sx.st1 p17 (.bool true) <|
              X (((i + 1 : Nat) : Int), 0, ⟨none, 0, 0⟩, ())) h' := by
        intro h' st hno
        rw [if_neg (by rw [hno]; decide)] at hm
        refine call_of (neg_c c[i]) ?_
        rintro r hq ⟨er, rfl⟩
        have er : r = decide (c[i] < 0) := by rw [hrt, Bool.true_and] at er; exact er
        subst er
        generalize (varL c[i] - 1).toNat = j at *
        refine st.wrE (τ := .bool) 0 rfl (show j < out'.length by omega) _ fun h3 st => ?_
        simp only [List.set_cons_zero] at st
        refine st.wrE (τ := .bool) 1 rfl (show j < set'.length by omega) true fun h4 st => ?_
        simp only [List.set_cons_zero, List.set_cons_succ] at st
        exact hX _ _ _ ⟨i + 1, _, _, rfl, by omega, by simpa using ho, by simpa using hs, hm, st, rfl⟩ (by omega)
      refine rdE (τ := .bool) (st.own 1 rfl).rsl (show (varL c[i] - 1).toNat < set'.length by omega) ?_
      have es : set'.getD (varL c[i] - 1).toNat false = set'[(varL c[i] - 1).toNat]'(by omega) := by rw [List.getD_eq_getElem?_getD, List.getElem?_eq_getElem (by omega)]; rfl
      have eo : out'.getD (varL c[i] - 1).toNat false = out'[(varL c[i] - 1).toNat]'(by omega) := by rw [List.getD_eq_getElem?_getD, List.getElem?_eq_getElem (by omega)]; rfl
      cases hset : set'[(varL c[i] - 1).toNat]'(by omega) with
      | false =>
        rw [brB_false]
        exact hnx _ st (by rw [es, hset]; rfl)
      | true =>
        rw [brB_true]
        have hjo : (varL c[i] - 1).toNat < out'.length := by omega
        obtain ⟨a, ea, hc⟩ := rsl_cells (st.own 0 rfl).rsl (List.getElem?_eq_getElem hjo)
        refine ⟨a, ea, by omega, by rw [osl_len (st.own 0 rfl)]; omega, out'[(varL c[i] - 1).toNat], by simpa using hc, ?_⟩
        refine call_of (neg_c c[i]) ?_
        rintro r hq ⟨er, rfl⟩
        have er : r = decide (c[i] < 0) := by rw [hrt, Bool.true_and] at er; exact er
        subst er
        refine ⟨by rw [Int.toNat_natCast, Nat.mul_one]; exact hc, ?_⟩
        cases hoo : (out'[(varL c[i] - 1).toNat] == decide (c[i] < 0)) with
        | true =>
          rw [if_pos (by rw [es, hset, eo, hoo]; rfl)] at hm
          rw [brB_true]
          rw [← hm] at hK
          exact hK ⟨none, 0, 0⟩ _ (osl_nil _ _) (st.frame (by simp))
        | false =>
          rw [brB_false]
          exact hnx _ st (by rw [es, hset, eo, hoo]; rfl)
  · rw [decide_eq_false (show ¬ (i : Int) < (s.len : Int) by omega), brB_false]
    rw [List.drop_eq_nil_of_le (by omega), modelGo_nil] at hm
    rw [← hm] at hK
    exact hK _ _ (st.res (by simp) 0 rfl) (st.frame (by simp))

theorem fmodel_c {n : Int} (hA : At h (li c s)) (hl : c.length ≤ 1099511627776) :
    callT Try.prog fn_formula_Model #[.int .i64 n, .slice s.a s.len s.cap] (.tup (.cons .sl (.cons (.int .i64) .nil)))
      (fun r h' => ∃ s', r = (s', (modelF n c).2, ()) ∧ New h.size h' (ob (modelF n c).1 s') ∧ Ext [] h h') h := by
  refine callT_gen fun K hK => S_formula_Model (a0 := n) (a1 := s) K ?_
  unfold F_formula_Model
  refine call_of (vars_c n) ?_
  rintro _ hq ⟨rfl, rfl⟩
  unfold modelF at hK
  cases hv : varsP n with
  | false =>
    rw [hv] at hK
    rw [Bool.not_false, brB_true]
    exact hK _ _ ⟨⟨none, 0, 0⟩, rfl, osl_nil _ _, Ext.refl' _ _⟩
  | true =>
    rw [hv, if_pos rfl] at hK
    rw [Bool.not_true, brB_false]
    have hn : 0 ≤ n ∧ n ≤ 1048576 := by
      unfold varsP at hv
      simp only [Bool.and_eq_true, decide_eq_true_eq] at hv
      exact ⟨hv.1, hv.2⟩
    obtain ⟨n, rfl⟩ := Int.eq_ofNat_of_zero_le hn.1
    rw [Int.toNat_natCast] at hK
    have hl2 : n ≤ 1048576 := by omega
    have hK2 : ∀ s' h', New hq.size h' (ob (modelGo n (List.replicate n false) (List.replicate n false) c).1 s') → Ext [] hq h' → K (s', (modelGo n (List.replicate n false) (List.replicate n false) c).2, ()) h' := fun s' h' a b => hK _ _ ⟨s', rfl, a, b⟩
    have st := Hs.start hq [li c s] (by simp [hA])
    refine ⟨?_, ?_⟩
    · refine Hs.mks1 (n := n) (τ := .bool) (z := false) st (by omega) (by decide) fun s1 h1 st => ?_
      simp only [List.nil_append] at st
      refine ⟨?_, ?_⟩
      · refine Hs.mks1 (n := n) (τ := .bool) (z := false) st (by omega) (by decide) fun s2 h2 st => ?_
        simp only [List.nil_append, List.cons_append] at st
        exact model_loop hl hl2 hq hK2 (by simp) (by simp) 0 rfl st
      · refine Hs.mks1 (n := n) (τ := .bool) (z := false) st (by omega) (by decide) fun s2 h2 st => ?_
        simp only [List.nil_append, List.cons_append] at st
        exact model_loop hl hl2 hq hK2 (by simp) (by simp) 0 rfl st
    · refine Hs.mks1 (n := n) (τ := .bool) (z := false) st (by omega) (by decide) fun s1 h1 st => ?_
      simp only [List.nil_append] at st
      refine Hs.mks1 (n := n) (τ := .bool) (z := false) st (by omega) (by decide) fun s2 h2 st => ?_
      simp only [List.nil_append, List.cons_append] at st
      exact model_loop hl hl2 hq hK2 (by simp) (by simp) 0 rfl st.swap2

end Go.Proofs.S
