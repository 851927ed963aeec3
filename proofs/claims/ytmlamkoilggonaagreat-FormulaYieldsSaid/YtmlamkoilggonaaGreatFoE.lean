/-
  The package formula: Same: contract.
-/
import Derived.Test.YtmlamkoilggonaaGreatFoA
import Derived.Test.YtmlamkoilggonaaGreatCrP
import Derived.Test.YtmlamkoilggonaaGreatSxSg
set_option linter.unusedVariables false
set_option linter.unusedSimpArgs false
namespace Go.Proofs.S
open Go Go.Sx Go.Proofs Go.Cl

variable {h : Heap} {c d : List Int} {s s2 : Sl} {fr : Fr} {G As : List Asn} {m : List Bool} {sm : Sl}

theorem same1F {p q : Sl} (hA : At h (li c p)) (hB : At h (li d q)) (hl : c.length ≤ 1099511627776) : callF Tryz.prog (.func (.func fn_formula_Same_1) #[] #[]) #[.slice p.a p.len p.cap, .slice q.a q.len q.cap] .bool (fun r h' => r = decide (c = d) ∧ h' = h) h := by
  refine callF_func (callT_gen fun K hK => S_formula_Same_1 (a0 := p) (a1 := q) K ?_)
  unfold F_formula_Same_1
  refine call_of (equal_clause hA hB hl) ?_
  rintro r h' e
  exact hK _ _ e

theorem equalFunc_c {cs ds : List (List Int)} (hA : At h (lli cs s)) (hB : At h (lli ds s2)) (hl : cs.length ≤ 1099511627776) (hc : ∀ c ∈ cs, c.length ≤ 1099511627776) :
    callT Tryz.prog fn_slices_EqualFunc_clauses_Clause_clauses_Clause_clauses_Clause_clauses_Clause #[.slice s.a s.len s.cap, .slice s2.a s2.len s2.cap, .func (.func fn_formula_Same_1) #[] #[]] .bool (fun r h' => r = decide (cs = ds) ∧ h' = h) h := by
  refine callT_gen fun K hK => S_slices_EqualFunc_clauses_Clause_clauses_Clause_clauses_Clause_clauses_Clause (a0 := s) (a1 := s2) (a2 := .func (.func fn_formula_Same_1) #[] #[]) K ?_
  unfold F_slices_EqualFunc_clauses_Clause_clauses_Clause_clauses_Clause_clauses_Clause
  have l1 := rsg_len hA
  have l2 := rsg_len hB
  by_cases hlen : cs.length = ds.length
  · rw [show ((s.len : Int) != (s2.len : Int)) = false by rw [l1, l2, hlen]; simp, brB_false]
    refine lfp_invh (I := fun m σ h' => ∃ i : Nat, σ = ((i : Int), false, ()) ∧ i ≤ cs.length ∧ (∀ j (hj : j < cs.length), j < i → cs[j] = ds[j]'(by omega)) ∧ h' = h ∧ m = cs.length - i) ⟨_, 0, rfl, by omega, fun j _ hj => by omega, rfl, rfl⟩ ?_
    rintro m σ h' X ⟨i, rfl, hi, hp, rfl, em⟩ hX
    simp only
    by_cases hlt : i < cs.length
    · rw [show decide ((i : Int) < (s.len : Int)) = true by rw [l1]; exact dlt_t hlt, brB_true, inc_i (show i < 4611686018427387904 by omega)]
      refine rdG hA hlt fun p hpp => ?_
      refine rdG hB (show i < ds.length by omega) fun q hqq => ?_
      refine callF_of (same1F hpp hqq (hc _ (List.getElem_mem hlt))) ?_
      rintro r h2 ⟨er, rfl⟩
      rw [er]
      by_cases he : cs[i] = ds[i]'(by omega)
      · rw [decide_eq_true he, show (!true) = false from rfl, brB_false]
        refine hX _ _ _ ⟨i + 1, rfl, by omega, fun j hj hji => ?_, rfl, rfl⟩ (by omega)
        by_cases ej : j = i
        · subst ej; exact he
        · exact hp j hj (by omega)
      · rw [decide_eq_false he, show (!false) = true from rfl, brB_true]
        exact hK _ _ ⟨(decide_eq_false fun e => he (by subst e; rfl)).symm, rfl⟩
    · rw [show decide ((i : Int) < (s.len : Int)) = false by rw [l1]; exact dlt_f hlt, brB_false]
      exact hK _ _ ⟨(decide_eq_true (List.ext_getElem hlen fun j h1 h2 => hp j h1 (by omega))).symm, rfl⟩
  · rw [show ((s.len : Int) != (s2.len : Int)) = true by rw [l1, l2]; simp; omega, brB_true]
    exact hK _ _ ⟨(decide_eq_false fun e => hlen (congrArg List.length e)).symm, rfl⟩

theorem Same_c {n n2 : Int} {cs ds : List (List Int)} (hA : At h (lli cs s)) (hB : At h (lli ds s2)) (hl : cs.length ≤ 1099511627776) (hc : ∀ c ∈ cs, c.length ≤ 1099511627776) :
    callT Tryz.prog fn_formula_Same #[.agg #[.int .i64 n, .slice s.a s.len s.cap], .agg #[.int .i64 n2, .slice s2.a s2.len s2.cap]] .bool (fun r h' => r = (decide (n = n2) && decide (cs = ds)) ∧ Ext [] h h') h := by
  refine callT_gen fun K hK => S_formula_Same (a0 := (n, s, ())) (a1 := (n2, s2, ())) K ?_
  unfold F_formula_Same
  have st := Hs.start h [lli cs s, lli ds s2] (by simp [hA, hB])
  refine st.nw fun b0 h1 st => ?_
  refine st.nw fun b1 h2 st => ?_
  simp only [addr_add, Nat.zero_add]
  rw [st.ldi 0 0 rfl rfl, st.ldi 1 0 rfl rfl]
  by_cases hn : n = n2
  · rw [show (n == n2) = true by simp [hn], brB_true, st.lds 0 1 rfl rfl, st.lds 1 1 rfl rfl]
    refine call_of (equalFunc_c (st.fz 0 rfl) (st.fz 1 rfl) hl hc) ?_
    rintro _ h3 ⟨rfl, rfl⟩
    exact hK _ _ ⟨by simp [hn], st.frame (by simp)⟩
  · rw [show (n == n2) = false by simp [hn], brB_false]
    exact hK _ _ ⟨by simp [hn], st.frame (by simp)⟩

end Go.Proofs.S

/-
  The package formula: Lits: contract.
-/
set_option linter.unusedVariables false
set_option linter.unusedSimpArgs false
namespace Go.Proofs.S
open Go Go.Sx Go.Proofs Go.Cl

variable {h : Heap} {c d : List Int} {s s2 : Sl} {fr : Fr} {G As : List Asn} {m : List Bool} {sm : Sl}

theorem of_c {v : Int} (b : Bool) (h1 : 1 ≤ v) (h2 : v ≤ 1048576) : callT Tryz.prog fn_lits_Of #[.int .i64 v, .bool b] (.tup (.cons (.int .i64) (.cons (.int .i64) .nil))) (fun r h' => r = ((if b then -v else v), 0, ()) ∧ h' = h) h := by
  refine callT_gen fun K hK => S_lits_Of (a0 := v) (a1 := b) K ?_
  unfold F_lits_Of
  rw [decide_eq_false (show ¬ v < 1 by omega), brB_false, decide_eq_false (show ¬ v > 1048576 by omega), brB_false]
  cases b with
  | true => rw [brB_true, wrap_i64 (x := 0 - v) (by omega) (by omega)]; exact hK _ _ ⟨by simp, rfl⟩
  | false => rw [brB_false]; exact hK _ _ ⟨rfl, rfl⟩

/-- The literals of a model. -/
def litsGo : Nat → List Bool → List Int
  | _, [] => []
  | i, b :: m => (if b then (i : Int) + 1 else -((i : Int) + 1)) :: litsGo (i + 1) m
theorem litsGo_len : ∀ (i : Nat) (m : List Bool), (litsGo i m).length = m.length
  | _, [] => rfl
  | i, b :: m => by simp [litsGo, litsGo_len (i + 1) m]
theorem litsGo_app : ∀ (i : Nat) (a b : List Bool), litsGo i (a ++ b) = litsGo i a ++ litsGo (i + a.length) b
  | i, [], b => rfl
  | i, x :: a, b => by simp only [List.cons_append, litsGo, litsGo_app (i + 1) a b, List.length_cons]; congr 3; omega

theorem Lits_c (hm : At h (lb m sm)) (hl : m.length ≤ 1048576) : callT Tryz.prog fn_formula_Lits #[.slice sm.a sm.len sm.cap] .sl (fun s' h' => New h.size h' (lo (litsGo 0 m) s') ∧ Ext [] h h') h := by
  refine callT_gen fun K hK => S_formula_Lits (a0 := sm) K ?_
  unfold F_formula_Lits
  have l1 := rsl_len hm
  have l2 := rsl_cap hm
  rw [if_neg (show ¬ (1048576 : Int) < (sm.len : Int) by omega)]
  refine ⟨Int.natCast_nonneg _, Int.ofNat_le.2 (show sm.len ≤ sm.cap from l2), ?_⟩
  rw [Int.toNat_natCast]
  have hS : At h (lb m (slR ⟨sm.a, sm.len, sm.cap⟩ 0 sm.len 1)) := by
    have := rsl_sub hm (l := 0) (m := sm.len) (by omega) (by omega)
    rw [List.drop_zero, List.take_of_length_le (by omega)] at this; exact this
  generalize slR ⟨sm.a, sm.len, sm.cap⟩ 0 sm.len 1 = s0 at hS
  have l3 := rsl_len hS
  have st := (Hs.start h [] (by simp)).nil ty_lits_Lit i64.enc none
  refine lfp_invh (I := fun m1 σ h' => ∃ (i : Nat) (s' : Sl), σ = ((i : Int), s', ()) ∧ i ≤ m.length ∧ Hs [([], h)] [] [lo (litsGo 0 (m.take i)) s'] h' ∧ m1 = m.length - i) ⟨_, 0, ⟨none, 0, 0⟩, rfl, by omega, st, rfl⟩ ?_
  clear st
  rintro m1 σ h2 X ⟨i, s', rfl, hi, st, em⟩ hX
  simp only
  by_cases hlt : i < m.length
  · rw [show decide ((i : Int) < (s0.len : Int)) = true by rw [l3]; exact dlt_t hlt, brB_true, inc_i (show i < 4611686018427387904 by omega)]
    refine rdE (τ := .bool) (hS.ext (st.frame (by simp))) hlt ?_
    refine call_of (of_c (v := ((i + 1 : Nat) : Int)) (!m[i]) (by omega) (by omega)) ?_
    rintro r hq ⟨er, rfl⟩
    subst er
    refine st.nw fun b6 h3 st => ?_
    refine st.apd (enc := i64.enc) (v := (if (!m[i]) = true then -((i + 1 : Nat) : Int) else ((i + 1 : Nat) : Int))) 0 1 rfl rfl (by decide) rfl (by rw [litsGo_len]; simp; omega) (by decide) rfl fun s7 h4 st => ?_
    refine hX _ _ _ ⟨i + 1, s7, rfl, by omega, ?_, rfl⟩ (by omega)
    have st := st.drop 1 rfl
    have e : litsGo 0 (m.take (i + 1)) = litsGo 0 (m.take i) ++ [if (!m[i]) = true then -((i + 1 : Nat) : Int) else ((i + 1 : Nat) : Int)] := by
      rw [take_succ_getE hlt, litsGo_app, List.length_take, Nat.min_eq_left hi, Nat.zero_add]
      simp only [litsGo]
      cases m[i] <;> simp
    rw [e]; exact st
  · rw [show decide ((i : Int) < (s0.len : Int)) = false by rw [l3]; exact dlt_f hlt, brB_false]
    rw [List.take_of_length_le (by omega)] at st
    exact hK _ _ ⟨st.res (by simp) 0 rfl, st.frame (by simp)⟩

end Go.Proofs.S

/-
  The package formula: Models, Count, First: contracts.
-/
set_option linter.unusedVariables false
set_option linter.unusedSimpArgs false
namespace Go.Proofs.S
open Go Go.Sx Go.Proofs Go.Cl

variable {h : Heap} {c d : List Int} {s s2 : Sl} {fr : Fr} {G As : List Asn} {m : List Bool} {sm : Sl}

theorem filter_at {α : Type} {M : List α} {p : α → Bool} {w : Nat} (hw : w < M.length) (hp : p M[w] = true) (d : α) : ((M.take w).filter p).length < (M.filter p).length ∧ (M.filter p).getD ((M.take w).filter p).length d = M[w] := by
  have e : M.filter p = (M.take w).filter p ++ M[w] :: (M.drop (w + 1)).filter p := by
    conv => lhs; rw [← List.take_append_drop w M, List.drop_eq_getElem_cons hw, List.filter_append, List.filter_cons_of_pos hp]
  rw [e]
  constructor
  · simp
  · rw [List.getD_eq_getElem?_getD, List.getElem?_append_right (Nat.le_refl _)]; simp

abbrev ob (m : List Bool) (s : Sl) : Asn := osl ty_bool Ty.bool.enc m s
/-- All models, in order. -/
def modelsF (v : Nat) (cs : List (List Int)) : List (List Bool) := (Cr.allB v).filter fun m => decide (failsGo m 0 cs < 0)
abbrev modV (b : Nat) : Value := .func (.func fn_formula_Models_1) #[] #[.pointer (some ⟨b, 0, none⟩)]
abbrev cF (b : Nat) (n : Int) (s : Sl) : Asn := cl b ty_formula_Formula [.int .i64 n, .slice s.a s.len s.cap]
abbrev modNx (v : Nat) (cs : List (List Int)) (pre : List (Sl × Unit)) (x : Sl × Unit) : Prop := pre.length < (modelsF v cs).length
abbrev modGf (v : Nat) (cs : List (List Int)) (pre : List (Sl × Unit)) (x : Sl × Unit) : Asn := ob ((modelsF v cs).getD pre.length []) x.1
abbrev modFin (v : Nat) (cs : List (List Int)) (pre : List (Sl × Unit)) : Prop := pre.length = (modelsF v cs).length

theorem models_iter {b v : Nat} {cs : List (List Int)} {s : Sl} {F : List Nat} (hG : ∀ C ∈ [cF b v s, lli cs s], ∃ SC, C.P SC h ∧ ∀ b ∈ SC, b ∈ F) (hF : ∀ b ∈ F, b < h.size) (hg : GoodF v cs) (hv : v ≤ 16) :
    IterG Tryz.prog (.cons .sl .nil) (modV b) h (fun pre x h2 N => modNx v cs pre x ∧ (modGf v cs pre x).P N h2) (modFin v cs) F [] := by
  refine iter_of hG hF ?_
  intro A D B0 yl c it K hfin hD
  refine callF_func (S_formula_Models_1 (a0 := yl) (c0 := ⟨b, 0, none⟩) K ?_)
  unfold F_formula_Models_1
  obtain ⟨S, st, close⟩ := it.open c
  rw [ld_int (i := 0) (st.fblk 0 rfl) rfl]
  have it := close _ _ st
  refine ⟨Int.natCast_nonneg _, ?_⟩
  rw [pow64' (show v ≤ 60 by omega)]
  have hM : (Cr.allB v).length = 2 ^ v := Cr.allB_len v
  have hN2 : 2 ^ v ≤ 2 ^ 16 := Nat.pow_le_pow_right (by decide) hv
  have e16 : (2 : Nat) ^ 16 = 65536 := by decide
  rw [e16] at hN2
  have hget : ∀ w (hw : w < (Cr.allB v).length), (Cr.allB v)[w] = Cr.bitsB v w := fun w hw => by simp only [Cr.allB_bits, List.getElem_map, List.getElem_range]
  rw [← hM] at hN2 ⊢
  clear st close
  refine lfp_invh (I := fun μ σ h' => ∃ (w : Nat) (pre : List (Sl × Unit)) (B : List Nat), σ = ((w : Int), ()) ∧ w ≤ (Cr.allB v).length ∧ pre.length = (((Cr.allB v).take w).filter fun m => decide (failsGo m 0 cs < 0)).length ∧ It h F A [cF b v s, lli cs s] [] pre B h' ∧ μ = (Cr.allB v).length - w)
    ⟨_, 0, [], B0, rfl, by omega, rfl, it, rfl⟩ ?_
  clear it
  rintro μ σ h1 X ⟨w, pre, B, rfl, hw, hp, it, em⟩ hX
  simp only
  by_cases hlt : w < (Cr.allB v).length
  · rw [decide_eq_true (Int.ofNat_lt.2 hlt), brB_true, inc_i (show w < 4611686018427387904 by omega)]
    obtain ⟨S, st, close⟩ := it.open c
    rw [ld_int (i := 0) (st.fblk 0 rfl) rfl]
    refine Hs.mks1 (n := v) (τ := .bool) (z := false) st (by omega) (by decide) fun s4 h2 st => ?_
    simp only [List.nil_append] at st
    have l4 : s4.len = v := by rw [osl_len (st.own 0 rfl)]; simp
    refine lfp_invh (I := fun μ σ h' => ∃ i : Nat, σ = ((i : Int), ()) ∧ i ≤ v ∧ Hs [(S, h1)] [cF b v s, lli cs s] [ob (((List.range i).map fun i => decide (w / 2 ^ (v - 1 - i) % 2 = 1)) ++ List.replicate (v - i) false) s4] h' ∧ μ = v - i) ⟨_, 0, rfl, by omega, by simpa using st, rfl⟩ ?_
    clear st
    rintro μ2 σ h3 X2 ⟨i, rfl, hi, st, em2⟩ hX2
    simp only
    by_cases hlt2 : i < v
    · rw [decide_eq_true (show (i : Int) < (s4.len : Int) by omega), brB_true, inc_i (show i < 4611686018427387904 by omega)]
      rw [ld_int (i := 0) (st.fblk 0 rfl) rfl]
      have ej : IntKind.wrap .i64 ((IntKind.wrap .i64 ((v : Int) - (1 : Int))) - (i : Int)) = ((v - 1 - i : Nat) : Int) := by
        rw [wrap_i64 (x := (v : Int) - 1) (by omega) (by omega), wrap_i64 (by omega) (by omega)]; omega
      rw [ej]
      refine ⟨Int.natCast_nonneg _, ?_⟩
      have hq : w / 2 ^ (v - 1 - i) < 4611686018427387904 := Nat.lt_of_le_of_lt (Nat.div_le_self _ _) (by omega)
      rw [shr_nat' (by omega), band64' hq]
      refine st.wrE (τ := .bool) 0 rfl (show i < _ by simp; omega) _ fun h4 st => ?_
      refine hX2 _ _ _ ⟨i + 1, rfl, by omega, ?_, rfl⟩ (by omega)
      simp only [List.set_cons_zero] at st
      rw [set_map_range' (fun i => decide (w / 2 ^ (v - 1 - i) % 2 = 1)) v i false hlt2] at st
      exact st
    rw [decide_eq_false (show ¬ (i : Int) < (s4.len : Int) by omega), brB_false]
    have e : i = v := by omega
    subst e
    rw [Nat.sub_self, List.replicate_zero, List.append_nil] at st
    change Hs [(S, h1)] [cF b i s, lli cs s] [ob (Cr.bitsB i w) s4] h3 at st
    clear hX2 X2 em2 hlt2 hi
    refine ldF (st.fblk 0 rfl) ?_
    have hb := bitsB_len' i w
    have hfc := fails_c (m := Cr.bitsB i w) (st.fz 1 rfl) (st.own 0 rfl).rsl (by rw [hb]; exact hg)
    rw [hb] at hfc
    refine call_of hfc ?_
    rintro r h5 ⟨er, x5⟩
    have er : r = failsGo (Cr.bitsB i w) 0 cs := er
    subst er
    have st := st.ext x5
    have htk : (Cr.allB i).take (w + 1) = (Cr.allB i).take w ++ [Cr.bitsB i w] := by rw [take_succ_getE hlt, hget w hlt]
    by_cases hok : failsGo (Cr.bitsB i w) 0 cs < 0
    · rw [decide_eq_true hok, brB_true]
      have it := close _ _ st
      have hfa := filter_at (p := fun m => decide (failsGo m 0 cs < 0)) hlt (by rw [hget w hlt]; exact decide_eq_true hok) []
      rw [hget w hlt] at hfa
      have hl2 : pre.length < (modelsF i cs).length := by rw [hp]; exact hfa.1
      have hl3 : (modelsF i cs).getD (((Cr.allB i).take w).filter fun m => decide (failsGo m 0 cs < 0)).length [] = Cr.bitsB i w := hfa.2
      · refine it.give c (x := (s4, ())) 0 rfl (fun N hN => ⟨hl2, ?_⟩) (fun B' h4 it => ?_) (fun B' h4 hd => hD B' h4 hd)
        · show (ob ((modelsF _ cs).getD pre.length []) s4).P N _
          rw [hp, hl3]; exact hN
        rw [Bool.not_true, brB_false]
        refine hX _ _ _ ⟨w + 1, _, B', rfl, by omega, ?_, it, rfl⟩ (by omega)
        rw [List.length_append, hp, htk, List.filter_append, List.length_append]
        simp [hok]
    · rw [decide_eq_false hok, brB_false]
      refine hX _ _ _ ⟨w + 1, pre, B, rfl, by omega, ?_, close _ _ (st.drop 0 rfl), rfl⟩ (by omega)
      rw [hp, htk, List.filter_append]
      simp [hok]
  rw [decide_eq_false (fun q => hlt (Int.ofNat_lt.1 q)), brB_false]
  refine hfin pre B _ ?_ it.1
  show pre.length = (modelsF _ cs).length
  rw [hp, List.take_of_length_le (by omega)]; rfl

theorem modelsV_iter {b v : Nat} {cs : List (List Int)} {s : Sl} {F : List Nat} (hG : ∀ C ∈ [cF b v s, lli cs s], ∃ SC, C.P SC h ∧ ∀ b ∈ SC, b ∈ F) (hF : ∀ b ∈ F, b < h.size) (hg : GoodF v cs) (hv : v ≤ 16) :
    IterG Tryz.prog (.cons .val .nil) (modV b) h (fun pre x _ N => (pre.length < (modelsF v cs).length) ∧ N = []) (fun pre => pre.length = (modelsF v cs).length) F [] := by
  refine iter_of hG hF ?_
  intro A D B0 yl c it K hfin hD
  refine callF_func (S_formula_Models_1 (a0 := yl) (c0 := ⟨b, 0, none⟩) K ?_)
  unfold F_formula_Models_1
  obtain ⟨S, st, close⟩ := it.open c
  rw [ld_int (i := 0) (st.fblk 0 rfl) rfl]
  have it := close _ _ st
  refine ⟨Int.natCast_nonneg _, ?_⟩
  rw [pow64' (show v ≤ 60 by omega)]
  have hM : (Cr.allB v).length = 2 ^ v := Cr.allB_len v
  have hN2 : 2 ^ v ≤ 2 ^ 16 := Nat.pow_le_pow_right (by decide) hv
  have e16 : (2 : Nat) ^ 16 = 65536 := by decide
  rw [e16] at hN2
  have hget : ∀ w (hw : w < (Cr.allB v).length), (Cr.allB v)[w] = Cr.bitsB v w := fun w hw => by simp only [Cr.allB_bits, List.getElem_map, List.getElem_range]
  rw [← hM] at hN2 ⊢
  clear st close
  refine lfp_invh (I := fun μ σ h' => ∃ (w : Nat) (pre : List (Value × Unit)) (B : List Nat), σ = ((w : Int), ()) ∧ w ≤ (Cr.allB v).length ∧ pre.length = (((Cr.allB v).take w).filter fun m => decide (failsGo m 0 cs < 0)).length ∧ It h F A [cF b v s, lli cs s] [] pre B h' ∧ μ = (Cr.allB v).length - w)
    ⟨_, 0, [], B0, rfl, by omega, rfl, it, rfl⟩ ?_
  clear it
  rintro μ σ h1 X ⟨w, pre, B, rfl, hw, hp, it, em⟩ hX
  simp only
  by_cases hlt : w < (Cr.allB v).length
  · rw [decide_eq_true (Int.ofNat_lt.2 hlt), brB_true, inc_i (show w < 4611686018427387904 by omega)]
    obtain ⟨S, st, close⟩ := it.open c
    rw [ld_int (i := 0) (st.fblk 0 rfl) rfl]
    refine Hs.mks1 (n := v) (τ := .bool) (z := false) st (by omega) (by decide) fun s4 h2 st => ?_
    simp only [List.nil_append] at st
    have l4 : s4.len = v := by rw [osl_len (st.own 0 rfl)]; simp
    refine lfp_invh (I := fun μ σ h' => ∃ i : Nat, σ = ((i : Int), ()) ∧ i ≤ v ∧ Hs [(S, h1)] [cF b v s, lli cs s] [ob (((List.range i).map fun i => decide (w / 2 ^ (v - 1 - i) % 2 = 1)) ++ List.replicate (v - i) false) s4] h' ∧ μ = v - i) ⟨_, 0, rfl, by omega, by simpa using st, rfl⟩ ?_
    clear st
    rintro μ2 σ h3 X2 ⟨i, rfl, hi, st, em2⟩ hX2
    simp only
    by_cases hlt2 : i < v
    · rw [decide_eq_true (show (i : Int) < (s4.len : Int) by omega), brB_true, inc_i (show i < 4611686018427387904 by omega)]
      rw [ld_int (i := 0) (st.fblk 0 rfl) rfl]
      have ej : IntKind.wrap .i64 ((IntKind.wrap .i64 ((v : Int) - (1 : Int))) - (i : Int)) = ((v - 1 - i : Nat) : Int) := by
        rw [wrap_i64 (x := (v : Int) - 1) (by omega) (by omega), wrap_i64 (by omega) (by omega)]; omega
      rw [ej]
      refine ⟨Int.natCast_nonneg _, ?_⟩
      have hq : w / 2 ^ (v - 1 - i) < 4611686018427387904 := Nat.lt_of_le_of_lt (Nat.div_le_self _ _) (by omega)
      rw [shr_nat' (by omega), band64' hq]
      refine st.wrE (τ := .bool) 0 rfl (show i < _ by simp; omega) _ fun h4 st => ?_
      refine hX2 _ _ _ ⟨i + 1, rfl, by omega, ?_, rfl⟩ (by omega)
      simp only [List.set_cons_zero] at st
      rw [set_map_range' (fun i => decide (w / 2 ^ (v - 1 - i) % 2 = 1)) v i false hlt2] at st
      exact st
    rw [decide_eq_false (show ¬ (i : Int) < (s4.len : Int) by omega), brB_false]
    have e : i = v := by omega
    subst e
    rw [Nat.sub_self, List.replicate_zero, List.append_nil] at st
    change Hs [(S, h1)] [cF b i s, lli cs s] [ob (Cr.bitsB i w) s4] h3 at st
    clear hX2 X2 em2 hlt2 hi
    refine ldF (st.fblk 0 rfl) ?_
    have hb := bitsB_len' i w
    have hfc := fails_c (m := Cr.bitsB i w) (st.fz 1 rfl) (st.own 0 rfl).rsl (by rw [hb]; exact hg)
    rw [hb] at hfc
    refine call_of hfc ?_
    rintro r h5 ⟨er, x5⟩
    have er : r = failsGo (Cr.bitsB i w) 0 cs := er
    subst er
    have st := st.ext x5
    have htk : (Cr.allB i).take (w + 1) = (Cr.allB i).take w ++ [Cr.bitsB i w] := by rw [take_succ_getE hlt, hget w hlt]
    by_cases hok : failsGo (Cr.bitsB i w) 0 cs < 0
    · rw [decide_eq_true hok, brB_true]
      have it := close _ _ st
      have hfa := filter_at (p := fun m => decide (failsGo m 0 cs < 0)) hlt (by rw [hget w hlt]; exact decide_eq_true hok) []
      rw [hget w hlt] at hfa
      have hl2 : pre.length < (modelsF i cs).length := by rw [hp]; exact hfa.1
      have hl3 : (modelsF i cs).getD (((Cr.allB i).take w).filter fun m => decide (failsGo m 0 cs < 0)).length [] = Cr.bitsB i w := hfa.2
      · refine it.yield c (x := ((.slice s4.a s4.len s4.cap : Value), ())) hl2 (fun B' h4 it => ?_) (fun B' h4 hd => hD B' h4 hd)
        rw [Bool.not_true, brB_false]
        obtain ⟨S, st, close⟩ := it.open c
        have it := close _ _ (st.drop 0 rfl)
        refine hX _ _ _ ⟨w + 1, _, B', rfl, by omega, ?_, it, rfl⟩ (by omega)
        rw [List.length_append, hp, htk, List.filter_append, List.length_append]
        simp [hok]
    · rw [decide_eq_false hok, brB_false]
      refine hX _ _ _ ⟨w + 1, pre, B, rfl, by omega, ?_, close _ _ (st.drop 0 rfl), rfl⟩ (by omega)
      rw [hp, htk, List.filter_append]
      simp [hok]
  rw [decide_eq_false (fun q => hlt (Int.ofNat_lt.1 q)), brB_false]
  refine hfin pre B _ ?_ it.1
  show pre.length = (modelsF _ cs).length
  rw [hp, List.take_of_length_le (by omega)]; rfl

end Go.Proofs.S
