/-
  The package formula: vars, beyond, Check: contracts.
-/
import Derived.Test.YtfadkgkkbbcekaaClT
set_option linter.unusedVariables false
set_option linter.unusedSimpArgs false
namespace Go.Proofs.S
open Go Go.Sx Go.Proofs Go.Cl

variable {h : Heap} {c d : List Int} {s s2 : Sl} {fr : Fr} {G As : List Asn}
abbrev lli (cs : List (List Int)) (s : Sl) : Asn := rsg (fun c p => li c p) cs s

theorem containsFunc_c {fv : Value} {p : Int → Bool} (hA : At h (li c s)) (hl : c.length ≤ 1099511627776) (hp : PredOk Try.prog i64 fv p c h) :
    callT Try.prog fn_slices_ContainsFunc_clauses_Clause_lits_Lit #[.slice s.a s.len s.cap, fv] .bool (fun r h' => r = c.any p ∧ Ext [] h h') h := by
  refine callT_gen fun K hK => S_slices_ContainsFunc_clauses_Clause_lits_Lit (a0 := s) (a1 := fv) K ?_
  unfold F_slices_ContainsFunc_clauses_Clause_lits_Lit
  refine call_of (R := fun r h' => r = fidx p c ∧ Ext [] h h') ?_ ?_
  · exact callT_gen fun K hK => S_slices_IndexFunc_clauses_Clause_lits_Lit (a0 := s) (a1 := fv) K (w_indexFunc (P := Try.prog) (τ := i64) hA hl hp fun h' x => hK _ _ ⟨rfl, x⟩)
  · rintro r h' ⟨rfl, x⟩
    exact hK _ _ ⟨fidx_ge _ _, x⟩

theorem vars_c (n : Int) : callT Try.prog fn_formula_vars #[.int .i64 n] .bool (fun r h' => r = varsP n ∧ h' = h) h := by
  refine callT_gen fun K hK => S_formula_vars (a0 := n) K ?_
  unfold F_formula_vars
  by_cases h1 : n ≥ 0
  · rw [decide_eq_true h1, brB_true]; exact hK _ _ ⟨by simp [varsP, h1], rfl⟩
  · rw [decide_eq_false h1, brB_false]; exact hK _ _ ⟨by simp [varsP, h1], rfl⟩

abbrev beyondV (b : Nat) : Value := .func (.func fn_formula_beyond_1) #[] #[.pointer (some ⟨b, 0, none⟩)]
theorem beyond_c (n : Int) {K : Value → HP} (hK : ∀ b h', Ext [] h h' → Blk h' b ty_int [.int .i64 n] → K (beyondV b) h') : callT Try.prog fn_formula_beyond #[.int .i64 n] .val K h := by
  refine S_formula_beyond (a0 := n) K ?_
  unfold F_formula_beyond
  rw [nw_eq]
  exact hK _ _ ((Ext.refl' [] h).push _) (Blk.new h _ #[.int .i64 n])
theorem beyond1_c {b : Nat} {n : Int} (kb : Blk h b ty_int [.int .i64 n]) (x : Int) : callT Try.prog fn_formula_beyond_1 #[.int .i64 x, .pointer (some ⟨b, 0, none⟩)] .bool (fun r h' => r = beyP n x ∧ h' = h) h := by
  refine callT_gen fun K hK => S_formula_beyond_1 (a0 := x) (c0 := ⟨b, 0, none⟩) K ?_
  unfold F_formula_beyond_1
  refine call_of (lits_Right_c x) ?_
  rintro r h' ⟨rfl, rfl⟩
  cases hx : rt x with
  | false => simp only [Bool.not_false, brB_true]; exact hK _ _ ⟨by simp [beyP, hx], rfl⟩
  | true =>
    simp only [Bool.not_true, brB_false]
    rw [ld_int (i := 0) kb rfl]
    refine call_of (lits_Var_c x) ?_
    rintro r h2 ⟨rfl, rfl⟩
    rw [ck_ok (i := 0) kb rfl]
    exact hK _ _ ⟨by simp [beyP, varL, hx], rfl⟩
theorem beyondF {b : Nat} {n : Int} (kb : Blk h b ty_int [.int .i64 n]) (x : Int) : callF Try.prog (beyondV b) #[.int .i64 x] .bool (fun r h' => r = beyP n x ∧ h' = h) h := callF_func (beyond1_c kb x)
theorem predBeyond {b : Nat} {n : Int} (kb : Blk h b ty_int [.int .i64 n]) (c : List Int) : PredOk Try.prog i64 (beyondV b) (beyP n) c h :=
  fun x _ h' x' => callF_of (beyondF (kb.ext x' (by simp)) x) fun r h2 ⟨e, e2⟩ => ⟨e, by rw [e2]; exact Ext.refl' _ _⟩

theorem check_c {n : Int} {cs : List (List Int)} (hA : At h (lli cs s)) : callT Try.prog fn_formula_Check #[.agg #[.int .i64 n, .slice s.a s.len s.cap]] (.tup (.cons (.int .i64) (.cons (.int .i64) .nil)))
    (fun r h' => r = ((checkP n cs).1, (checkP n cs).2, ()) ∧ Ext [] h h') h := by
  refine callT_gen fun K hK => S_formula_Check (a0 := (n, s, ())) K ?_
  unfold F_formula_Check
  have st := Hs.start h [lli cs s] (by simp [hA])
  have l1 := rsg_len hA
  refine st.nw fun b0 h1 st => ?_
  simp only [addr_add, Nat.zero_add]
  rw [st.ldi 0 0 rfl rfl]
  refine call_of (vars_c n) ?_
  rintro _ hq ⟨rfl, rfl⟩
  cases hv : varsP n with
  | false => simp only [Bool.not_false, brB_true]; exact hK _ _ ⟨by simp [checkP, hv], st.frame (by simp)⟩
  | true =>
    simp only [Bool.not_true, brB_false]
    rw [st.lds 0 1 rfl rfl]
    by_cases hl : cs.length > 262144
    · rw [decide_eq_true (show (s.len : Int) > 262144 by omega), brB_true]
      exact hK _ _ ⟨by simp [checkP, hv, hl], st.frame (by simp)⟩
    · rw [decide_eq_false (show ¬ (s.len : Int) > 262144 by omega), brB_false, st.lds 0 1 rfl rfl]
      have e : checkP n cs = checkGo n 0 cs := by simp [checkP, hv, hl]
      refine lfp_invh (I := fun m σ h' => ∃ i : Nat, σ = ((i : Int), 0, 0, ()) ∧ i ≤ cs.length ∧ checkGo n i (cs.drop i) = checkP n cs ∧ Hs [([], h)] [lli cs s] [cl b0 ty_formula_Formula [.int .i64 n, .slice s.a s.len s.cap]] h' ∧ m = cs.length - i)
        ⟨_, 0, rfl, by omega, e.symm, st, rfl⟩ ?_
      clear st
      rintro m σ h2 X ⟨i, rfl, hi, hc, st, em⟩ hX
      simp only
      by_cases hlt : i < cs.length
      · rw [show decide ((i : Int) < (s.len : Int)) = true by rw [l1]; exact dlt_t hlt, brB_true, inc_i (show i < 4611686018427387904 by omega)]
        rw [List.drop_eq_getElem_cons hlt, checkGo] at hc
        refine rdG (st.fz 0 rfl) hlt fun p hp => ?_
        refine call_of (right_c hp) ?_
        rintro _ h3 ⟨rfl, x3⟩
        have st := st.ext x3
        by_cases hr : rightC cs[i] = true
        · rw [if_pos hr] at hc
          rw [hr]; simp only [Bool.not_true, brB_false]
          rw [st.ldi 0 0 rfl rfl]
          refine beyond_c n fun b h4 x4 kb => ?_
          have st := st.ext x4
          refine call_of (containsFunc_c ((hp.ext x3).ext x4) (by have := rightC_len hr; omega) (predBeyond kb _)) ?_
          rintro _ h5 ⟨rfl, x5⟩
          have st := st.ext x5
          by_cases hb : cs[i].any (beyP n) = true
          · rw [if_pos hb] at hc
            rw [hb, brB_true]
            exact hK _ _ ⟨by rw [← hc], st.frame (by simp)⟩
          · rw [if_neg hb] at hc
            rw [show cs[i].any (beyP n) = false by simpa using hb, brB_false]
            exact hX _ _ _ ⟨i + 1, rfl, by omega, hc, st, rfl⟩ (by omega)
        · rw [if_neg hr] at hc
          rw [show rightC cs[i] = false by simpa using hr]; simp only [Bool.not_false, brB_true]
          exact hK _ _ ⟨by rw [← hc], st.frame (by simp)⟩
      · rw [show decide ((i : Int) < (s.len : Int)) = false by rw [l1]; exact dlt_f hlt, brB_false]
        rw [List.drop_eq_nil_of_le (by omega), checkGo] at hc
        exact hK _ _ ⟨by rw [← hc], st.frame (by simp)⟩

end Go.Proofs.S

set_option linter.unusedVariables false
set_option linter.unusedSimpArgs false
namespace Go.Proofs.S
open Go Go.Sx Go.Proofs Go.Cl

variable {h : Heap} {c d : List Int} {s s2 : Sl} {fr : Fr} {G As : List Asn} {m : List Bool} {sm : Sl}
abbrev lb (m : List Bool) (s : Sl) : Asn := rsl Ty.bool.enc m s

theorem neg_c (x : Int) : callT Try.prog fn_lits_Negated #[.int .i64 x] .bool (fun r h' => r = (rt x && decide (x < 0)) ∧ h' = h) h := by
  refine callT_gen fun K hK => S_lits_Negated (a0 := x) K ?_
  unfold F_lits_Negated
  refine call_of (lits_Right_c x) ?_
  rintro _ hq ⟨rfl, rfl⟩
  cases hx : rt x with
  | true => rw [brB_true]; exact hK _ _ ⟨by simp [hx], rfl⟩
  | false => rw [brB_false]; exact hK _ _ ⟨by simp [hx], rfl⟩

def trueIn (m : List Bool) (x : Int) : Bool := (m[(varL x - 1).toNat]?.getD false) != decide (x < 0)

abbrev inV (b : Nat) : Value := .func (.func fn_formula_in_1) #[] #[.pointer (some ⟨b, 0, none⟩)]
theorem in_c {K : Value → HP} (hK : ∀ b h', Ext [] h h' → Blk h' b ty_sl_bool [.slice sm.a sm.len sm.cap] → K (inV b) h') : callT Try.prog fn_formula_in #[.slice sm.a sm.len sm.cap] .val K h := by
  refine S_formula_in (a0 := sm) K ?_
  unfold F_formula_in
  rw [nw_eq]
  exact hK _ _ ((Ext.refl' [] h).push _) (Blk.new h _ #[.slice sm.a sm.len sm.cap])

theorem in1_c {b : Nat} (kb : Blk h b ty_sl_bool [.slice sm.a sm.len sm.cap]) (hm : At h (lb m sm)) {x : Int} (hx : beyP m.length x = false) :
    callT Try.prog fn_formula_in_1 #[.int .i64 x, .pointer (some ⟨b, 0, none⟩)] .bool (fun r h' => r = trueIn m x ∧ h' = h) h := by
  refine callT_gen fun K hK => S_formula_in_1 (a0 := x) (c0 := ⟨b, 0, none⟩) K ?_
  unfold F_formula_in_1
  have hr : rt x = true := by
    cases h : rt x with
    | true => rfl
    | false => simp [beyP, h] at hx
  have hv : varL x ≤ m.length := by simpa [beyP, hr] using hx
  have hv1 : 1 ≤ varL x := by have := rt_iff.1 hr; unfold varL; rw [if_pos hr]; split <;> omega
  have hi : (varL x - 1).toNat < m.length := by omega
  rw [ld_sl (i := 0) kb rfl]
  refine call_of (lits_Var_c x) ?_
  rintro r h2 ⟨er, rfl⟩
  have er : r = varL x := er
  subst er
  rw [ck_ok (i := 0) kb rfl]
  have hvb : varL x ≤ 1048576 := by have := rt_iff.1 hr; unfold varL; rw [if_pos hr]; split <;> omega
  have e1 : IntKind.wrap .i64 (varL x - 1) = (((varL x - 1).toNat : Nat) : Int) := by rw [wrap_i64 (by omega) (by omega)]; omega
  rw [e1]
  obtain ⟨a, ea, hc⟩ := rsl_cells hm (List.getElem?_eq_getElem hi)
  refine ⟨a, ea, by omega, by rw [rsl_len hm]; omega, m[(varL x - 1).toNat], by simpa using hc, ?_⟩
  refine call_of (neg_c x) ?_
  rintro _ hq ⟨rfl, rfl⟩
  refine ⟨by rw [Int.toNat_natCast, Nat.mul_one]; exact hc, ?_⟩
  rw [ck_ok (i := 0) kb rfl]
  refine hK _ _ ⟨?_, rfl⟩
  unfold trueIn
  rw [List.getElem?_eq_getElem hi, hr]
  rfl

theorem predIn {b : Nat} (kb : Blk h b ty_sl_bool [.slice sm.a sm.len sm.cap]) (hm : At h (lb m sm)) {c : List Int} (hc : ∀ x ∈ c, beyP m.length x = false) : PredOk Try.prog i64 (inV b) (trueIn m) c h :=
  fun x hx h' x' => callF_func (call_of (in1_c (kb.ext x' (by simp)) (hm.ext x') (hc x hx)) fun r h2 ⟨e, e2⟩ => ⟨e, by rw [e2]; exact Ext.refl' _ _⟩)

def holdsF (c : List Int) (m : List Bool) : Bool := rightC c && (!(c.any (beyP m.length)) && c.any (trueIn m))

theorem fholds_c (hA : At h (li c s)) (hm : At h (lb m sm)) : callT Try.prog fn_formula_Holds #[.slice s.a s.len s.cap, .slice sm.a sm.len sm.cap] .bool (fun r h' => r = holdsF c m ∧ Ext [] h h') h := by
  refine callT_gen fun K hK => S_formula_Holds (a0 := s) (a1 := sm) K ?_
  unfold F_formula_Holds
  refine call_of (right_c hA) ?_
  rintro _ h1 ⟨rfl, x1⟩
  cases hr : rightC c with
  | false => rw [brB_false]; exact hK _ _ ⟨by simp [holdsF, hr], x1⟩
  | true =>
    rw [brB_true]
    have hl := rightC_len hr
    refine beyond_c (sm.len : Int) fun b h2 x2 kb => ?_
    rw [rsl_len hm] at kb
    have x2 := x1.nil_trans x2
    refine call_of (containsFunc_c (hA.ext x2) (by omega) (predBeyond kb c)) ?_
    rintro _ h3 ⟨rfl, x3⟩
    have x3 := x2.nil_trans x3
    cases hb : c.any (beyP m.length) with
    | true => simp only [Bool.not_true, brB_false]; exact hK _ _ ⟨by simp [holdsF, hb], x3⟩
    | false =>
      simp only [Bool.not_false, brB_true]
      refine in_c fun b h4 x4 kb => ?_
      have x4 := x3.nil_trans x4
      have hall : ∀ x ∈ c, beyP m.length x = false := fun x hx => by
        cases h : beyP m.length x with
        | false => rfl
        | true => rw [List.any_eq_true.2 ⟨x, hx, h⟩] at hb; cases hb
      refine call_of (containsFunc_c (hA.ext x4) (by omega) (predIn kb (hm.ext x4) hall)) ?_
      rintro _ h5 ⟨rfl, x5⟩
      exact hK _ _ ⟨by unfold holdsF; rw [hr, hb]; rfl, x4.nil_trans x5⟩

def failsGo (m : List Bool) : Nat → List (List Int) → Int
  | _, [] => -1
  | i, c :: cs => if c.any (trueIn m) then failsGo m (i + 1) cs else i

theorem fails_c {cs : List (List Int)} (hA : At h (lli cs s)) (hm : At h (lb m sm)) (hg : GoodF m.length cs) :
    callT Try.prog fn_formula_fails #[.agg #[.int .i64 m.length, .slice s.a s.len s.cap], .slice sm.a sm.len sm.cap] (.int .i64) (fun r h' => r = failsGo m 0 cs ∧ Ext [] h h') h := by
  refine callT_gen fun K hK => S_formula_fails (a0 := ((m.length : Int), s, ())) (a1 := sm) K ?_
  unfold F_formula_fails
  have st := Hs.start h [lli cs s, lb m sm] (by simp [hA, hm])
  have l1 := rsg_len hA
  have hcl := hg.2.1
  refine st.nw fun b0 h1 st => ?_
  simp only [addr_add, Nat.zero_add]
  refine in_c fun b h2 x2 kb => ?_
  have st := st.ext x2
  rw [st.lds 0 1 rfl rfl]
  refine jn_in fun J hJ => ?_
  refine lfp_invh (I := fun m1 σ h' => ∃ i : Nat, σ = ((i : Int), -1, ()) ∧ i ≤ cs.length ∧ failsGo m i (cs.drop i) = failsGo m 0 cs ∧ Ext [] h2 h' ∧ m1 = cs.length - i)
    ⟨_, 0, rfl, by omega, rfl, Ext.refl' _ _, rfl⟩ ?_
  rintro m1 σ h3 X ⟨i, rfl, hi, hc, x3, em⟩ hX
  have st := st.ext x3
  simp only
  by_cases hlt : i < cs.length
  · rw [show decide ((i : Int) < (s.len : Int)) = true by rw [l1]; exact dlt_t hlt, brB_true, inc_i (show i < 4611686018427387904 by omega)]
    rw [List.drop_eq_getElem_cons hlt, failsGo] at hc
    obtain ⟨hr, hb⟩ := hg.2.2 _ (List.getElem_mem hlt)
    refine rdG (st.fz 0 rfl) hlt fun p hp => ?_
    refine call_of (containsFunc_c hp (by have := rightC_len hr; omega) (predIn (kb.ext x3 (by simp)) (st.fz 1 rfl) hb)) ?_
    rintro _ h4 ⟨rfl, x4⟩
    have st := st.ext x4
    cases ht : cs[i].any (trueIn m) with
    | true =>
      rw [if_pos ht] at hc
      simp only [Bool.not_true, brB_false]
      exact hX _ _ _ ⟨i + 1, rfl, by omega, hc, x3.nil_trans x4, rfl⟩ (by omega)
    | false =>
      rw [if_neg (by simp [ht])] at hc
      simp only [Bool.not_false, brB_true]
      exact hJ _ _ (hK _ _ ⟨hc, st.frame (by simp)⟩)
  · rw [show decide ((i : Int) < (s.len : Int)) = false by rw [l1]; exact dlt_f hlt, brB_false]
    rw [List.drop_eq_nil_of_le (by omega), failsGo] at hc
    exact hJ _ _ (hK _ _ ⟨hc, st.frame (by simp)⟩)

end Go.Proofs.S
