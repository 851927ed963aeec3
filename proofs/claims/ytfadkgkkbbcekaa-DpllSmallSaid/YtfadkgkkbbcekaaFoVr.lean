/-
  lits.Vars, a search in a sorted row of numbers, an insertion: contracts.
-/
import Derived.Test.YtfadkgkkbbcekaaFoO
import Derived.Test.YtfadkgkkbbcekaaDpH
import Derived.Test.YtfadkgkkbbcekaaFoT
import Derived.Test.YtfadkgkkbbcekaaFoI
import Derived.Test.YtfadkgkkbbcekaaFoL
set_option linter.unusedVariables false
set_option linter.unusedSimpArgs false
namespace Go.Proofs.S
open Go Go.Sx Go.Proofs Go.Cl

variable {h : Heap} {c d : List Int} {s s2 : Sl} {fr : Fr} {G As : List Asn} {b : Nat}

theorem hitG {S : List Nat} : ∀ (GG : List Asn), (∀ C ∈ GG, C ∈ G) → FzOk G S h → ∃ F : List Nat, (∀ b ∈ F, b < h.size ∧ b ∉ S) ∧ ∀ h1, Ext [] h h1 → ∀ C ∈ GG, ∃ SC, C.P SC h1 ∧ ∀ b ∈ SC, b ∈ F
  | [], _, _ => ⟨[], by simp, by simp⟩
  | C :: GG, hsub, hz => by
    obtain ⟨F, hF, hall⟩ := hitG GG (fun C hC => hsub C (List.mem_cons_of_mem _ hC)) hz
    obtain ⟨S1, p1, d1⟩ := hz C (hsub C (by simp))
    refine ⟨S1 ++ F, fun b hb => (List.mem_append.1 hb).elim (fun k => ⟨At.lt p1 b k, d1 b k⟩) (hF b), fun h1 x D hD => ?_⟩
    rcases List.mem_cons.1 hD with rfl | hD
    · exact ⟨S1, Asn.ext p1 x (by simp), fun b hb => List.mem_append_left _ hb⟩
    · obtain ⟨SC, p, q⟩ := hall h1 x D hD
      exact ⟨SC, p, fun b hb => List.mem_append_right _ (q b hb)⟩

def vrL (c : List Int) : List (Int × Unit) := (c.filter rt).map fun x => (varL x, ())
abbrev vrNx (L : List (Int × Unit)) (pre : List (Int × Unit)) (x : Int × Unit) : Prop := ∃ r, L = pre ++ x :: r
abbrev vrFin (L pre : List (Int × Unit)) : Prop := pre = L
abbrev vrV (b0 : Nat) : Value := .func (.func fn_lits_variables_1) #[] #[.pointer (some ⟨b0, 0, none⟩)]
abbrev vrG (b0 : Nat) (c : List Int) (s : Sl) : List Asn := [cl b0 ty_sl_lits_Lit [.slice s.a s.len s.cap], li c s]

theorem variables_iter {b0 : Nat} {F : List Nat} (hG : ∀ C ∈ vrG b0 c s, ∃ SC, C.P SC h ∧ ∀ b ∈ SC, b ∈ F) (hF : ∀ b ∈ F, b < h.size) (hl : c.length ≤ 1099511627776) :
    IterSpec Try.prog (.cons i64 .nil) (vrV b0) h (vrNx (vrL c)) (vrFin (vrL c)) F [] := by
  refine iter_of hG hF ?_
  intro At0 D B0 yl cc it K hfin hD
  refine callF_func (S_lits_variables_1 (a0 := yl) (c0 := ⟨b0, 0, none⟩) K ?_)
  unfold F_lits_variables_1
  obtain ⟨S, st, close⟩ := it.open cc
  rw [ld_sl (i := 0) (st.fblk 0 rfl) rfl]
  clear st close
  refine lfp_invh (I := fun μ σ h' => ∃ (i : Nat) (pre : List (Int × Unit)) (B : List Nat), σ = ((i : Int), ()) ∧ i ≤ c.length ∧ pre ++ vrL (c.drop i) = vrL c ∧ It h F At0 (vrG b0 c s) [] pre B h' ∧ μ = c.length - i)
    ⟨_, 0, [], B0, rfl, by omega, by simp, it, rfl⟩ ?_
  rintro μ σ h' X ⟨i, pre, B, rfl, hi, hp, it, rfl⟩ hX
  simp only
  obtain ⟨S, st, close⟩ := it.open cc
  have ls := rsl_len (st.fz 1 rfl)
  by_cases hlt : i < c.length
  · refine brT (by rw [ls]; exact decide_eq_true (by omega)) ?_
    rw [List.drop_eq_getElem_cons hlt] at hp
    refine rdE (τ := i64) (st.fz 1 rfl) hlt ?_
    refine call_of (lits_Right_c c[i]) ?_
    rintro _ h2 ⟨rfl, e⟩; subst e
    cases hr : rt c[i]
    · refine brF rfl ?_
      rw [inc_i (by omega)]
      simp only [vrL, List.filter_cons, hr, Bool.false_eq_true, if_false] at hp
      exact hX _ _ _ ⟨i + 1, pre, B, rfl, by omega, hp, it, rfl⟩ (by omega)
    · refine brT rfl ?_
      simp only [vrL, List.filter_cons, hr, if_true, List.map_cons] at hp
      refine call_of (lits_Var_c c[i]) ?_
      rintro _ h2 ⟨er, e⟩; subst e
      have er : _ = varL c[i] := er.trans (by unfold varL; rfl)
      subst er
      refine It.yield (τ := .cons i64 .nil) cc it (x := (varL c[i], ())) ⟨_, hp.symm⟩ (fun B' h3 it => ?_) (fun B' h3 hd => ?_)
      · refine brF rfl ?_
        rw [inc_i (by omega)]
        exact hX _ _ _ ⟨i + 1, _, B', rfl, by omega, by rw [List.append_assoc]; exact hp, it, rfl⟩ (by omega)
      · exact brT rfl (hD B' h3 hd)
  · refine brF (by rw [ls]; exact decide_eq_false (by omega)) ?_
    rw [List.drop_eq_nil_of_le (by omega)] at hp
    simp only [vrL, List.filter_nil, List.map_nil, List.append_nil] at hp
    exact hfin pre B h' hp it.1
theorem variables_range (st : Hs fr G As h) {b0 : Nat} (hm : ∀ C ∈ vrG b0 c s, C ∈ G) (hl : c.length ≤ 1099511627776) :
    ∀ S, FzOk G S h → FrOk fr S h → ∃ F, (∀ b ∈ F, b < h.size ∧ b ∉ S) ∧ ∀ h1, NewL h h1 → IterSpec Try.prog (.cons i64 .nil) (vrV b0) h1 (vrNx (vrL c)) (vrFin (vrL c)) F [] := by
  intro S hz _
  obtain ⟨F, hF, hall⟩ := hitG (vrG b0 c s) hm hz
  exact ⟨F, hF, fun h1 hn => variables_iter (hall h1 hn.1) (fun b hb => Nat.lt_of_lt_of_le (hF b hb).1 hn.1.1) hl⟩

end Go.Proofs.S

set_option linter.unusedVariables false
set_option linter.unusedSimpArgs false
namespace Go.Proofs.S
open Go Go.Sx Go.Proofs Go.Cl Go.Dp

variable {h : Heap} {c d L : List Int} {s s2 sv : Sl} {fr : Fr} {G As : List Asn} {b sb v : Nat} {g : Int} {cs : List (List Int)}

def maxI (a b : Int) : Int := if b > a then b else a
def greatP (c : List Int) : Int := (vrL c).foldl (fun a x => maxI a x.1) 0

theorem greatest_c (hA : At h (li c s)) (hl : c.length ≤ 1048576) : callT Try.prog fn_lits_Greatest #[.slice s.a s.len s.cap] (.int .i64) (fun r h' => r = greatP c ∧ Ext [] h h') h := by
  refine callT_gen fun K hK => S_lits_Greatest (a0 := s) K ?_
  unfold F_lits_Greatest
  show (nw _ _ _) h
  have st := Hs.start h [li c s] (by simp [hA])
  refine st.nw fun b0 h1 st => ?_
  refine st.st1 0 0 rfl (by simp) fun h3 st => ?_
  refine S_lits_variables (a0 := s) _ ?_
  unfold F_lits_variables
  refine st.nw fun b2 h4 st => ?_
  simp only [List.nil_append, List.cons_append, List.set_cons_zero, List.set_cons_succ] at st
  have st := st.freeze 1 rfl
  simp only [List.nil_append, List.cons_append, List.eraseIdx_cons_zero, List.eraseIdx_cons_succ] at st
  refine st.range (P := Try.prog) (τ := .cons i64 .nil) (vrNx (vrL c)) (vrFin (vrL c)) (variables_range st (by
      intro C hC
      simp only [vrG, List.mem_cons, List.not_mem_nil, or_false] at hC
      rcases hC with rfl | rfl
      · exact .tail _ (.head _)
      · exact .head _) (by omega)) (fun _ _ _ _ => rfl)
    (fun pre Bs => Bs = [cl b0 ty_int [.int .i64 (pre.foldl (fun a x => maxI a x.1) 0)]])
    (fun j Bs => False) rfl ?_ ?_ ?_ ?_
  · rintro pre x Bs B hb ⟨r, hr2⟩ rfl st next jump hnext hjump
    rw [st.ldi 0 0 rfl rfl]
    refine st.st1 0 0 rfl (by simp) fun h5 st => hnext _ _ ?_ st
    simp only [List.set_cons_zero, List.foldl_append, List.foldl_cons, List.foldl_nil]
    rfl
  · rintro pre Bs h5 rfl rfl st
    rw [st.ldi 0 0 rfl rfl]
    refine fun h6 hM => ?_
    have st := st.marked hM
    exact hK _ _ ⟨rfl, st.frame (by simp)⟩
  · rintro Bs h5 hf; exact hf.elim
  · rintro i id K hi; simp at hi

theorem fold_max : ∀ (l : List (Int × Unit)) (a n : Int), (l.foldl (fun a x => maxI a x.1) a > n ↔ a > n ∨ ∃ x ∈ l, x.1 > n)
  | [], a, n => by simp
  | x :: l, a, n => by
    rw [List.foldl_cons, fold_max l]
    have : maxI a x.1 > n ↔ a > n ∨ x.1 > n := by unfold maxI; split <;> omega
    rw [this]
    simp only [List.mem_cons, exists_eq_or_imp, or_assoc]
theorem great_gt {n : Int} (hr : rightC c = true) (hn : 0 ≤ n) : greatP c > n ↔ ∃ x ∈ c, varL x > n := by
  unfold greatP
  rw [fold_max]
  have hall : ∀ x ∈ c, rt x = true := by
    unfold rightC at hr
    simp only [Bool.and_eq_true, List.all_eq_true] at hr
    exact hr.2
  constructor
  · rintro (q | ⟨x, hx, q⟩)
    · omega
    · obtain ⟨y, hy, rfl⟩ := List.mem_map.1 hx
      exact ⟨y, (List.mem_filter.1 hy).1, q⟩
  · rintro ⟨x, hx, q⟩
    exact .inr ⟨(varL x, ()), List.mem_map.2 ⟨x, List.mem_filter.2 ⟨hx, hall x hx⟩, rfl⟩, q⟩

def impliedP (n : Int) (cs : List (List Int)) (c : List Int) (fu : Int) : Bool × Int :=
  if wrongP n cs fu ≠ 0 then (false, wrongP n cs fu) else if rightC c = false then (false, 20) else if greatP c > n then (false, 51) else if alwaysC c then (true, 0) else
    ((underP n cs (c.map negL) fu).2 == 0 && !(underP n cs (c.map negL) fu).1.1, (underP n cs (c.map negL) fu).2)

set_option maxHeartbeats 1000000 in
theorem implied_c {n fu : Int} {sl : Sl} (hA : At h (lli cs s)) (hli : At h (li c sl)) (hl : cs.length ≤ 1048576) (hc : ∀ c ∈ cs, c.length ≤ 1048576) (hcl : c.length ≤ 1048576) (hn : (checkP n cs).2 = 0 → n ≤ 60) :
    callT Try.prog fn_dpll_Implied #[.agg #[.int .i64 n, .slice s.a s.len s.cap], .slice sl.a sl.len sl.cap, .int .i64 fu] (.tup (.cons .bool (.cons (.int .i64) .nil)))
      (fun r h' => r = ((impliedP n cs c fu).1, (impliedP n cs c fu).2, ()) ∧ Ext [] h h') h := by
  refine callT_gen fun K hK => S_dpll_Implied (a0 := (n, s, ())) (a1 := sl) (a2 := fu) K ?_
  unfold F_dpll_Implied
  have st := Hs.start h [lli cs s, li c sl] (by simp [hA, hli])
  have hsl := rsl_len hli
  refine st.nw fun b0 h1 st => ?_
  simp only [List.nil_append] at st
  refine ldF (st.blk 0 rfl) ?_
  refine call_of (wrong_c (st.fz 0 rfl)) ?_
  rintro _ h2 ⟨rfl, x2⟩
  have st := st.ext x2
  simp only
  unfold impliedP at hK
  by_cases hw : wrongP n cs fu = 0
  rotate_left
  · rw [if_pos hw] at hK
    exact brT (bne_iff_ne.2 hw) (hK _ _ ⟨rfl, st.frame (by simp)⟩)
  rw [if_neg (by simp [hw])] at hK
  refine brF (by rw [hw]; rfl) ?_
  refine call_of (right_c (st.fz 1 rfl)) ?_
  rintro _ h3 ⟨rfl, x3⟩
  have st := st.ext x3
  cases hr : rightC c with
  | false =>
    rw [if_pos hr] at hK
    exact brT rfl (hK _ _ ⟨rfl, st.frame (by simp)⟩)
  | true =>
    rw [if_neg (by simp [hr])] at hK
    refine brF rfl ?_
    rw [st.ldi 0 0 rfl rfl]
    refine call_of (greatest_c (st.fz 1 rfl) hcl) ?_
    rintro _ h4 ⟨rfl, x4⟩
    have st := st.ext x4
    rw [st.ck 0 0 rfl rfl]
    by_cases hg : greatP c > n
    · rw [if_pos hg] at hK
      exact brT (decide_eq_true hg) (hK _ _ ⟨rfl, st.frame (by simp)⟩)
    rw [if_neg hg] at hK
    refine brF (decide_eq_false hg) ?_
    refine call_of (always_c (st.fz 1 rfl)) ?_
    rintro _ h5 ⟨rfl, x5⟩
    have st := st.ext x5
    rw [hr, Bool.true_and]
    cases ha : alwaysC c with
    | true =>
      rw [if_pos ha] at hK
      exact brT rfl (hK _ _ ⟨rfl, st.frame (by simp)⟩)
    | false =>
      rw [if_neg (by simp [ha])] at hK
      refine brF rfl ?_
      have st := st.nil ty_lits_Lit i64.enc none
      simp only [List.cons_append, List.nil_append] at st
      refine lfp_invh (I := fun m σ h' => ∃ (i : Nat) (so : Sl), σ = ((i : Int), so, ()) ∧ i ≤ c.length ∧ Hs [([], h)] [lli cs s, li c sl] [cl b0 ty_formula_Formula [.int .i64 n, .slice s.a s.len s.cap], lo ((c.take i).map negL) so] h' ∧ m = c.length - i)
        ⟨_, 0, _, rfl, by omega, by simpa using st, rfl⟩ ?_
      clear st
      rintro m σ h6 X ⟨i, so, rfl, hi, st, rfl⟩ hX
      simp only
      by_cases hlt : i < c.length
      · rw [decide_eq_true (show (i : Int) < (sl.len : Int) by omega), brB_true, inc_i (show i < 4611686018427387904 by omega)]
        refine rd_ok (τ := i64) (st.fz 1 rfl) (List.getElem?_eq_getElem hlt) ?_
        refine call_of (lits_Neg_c c[i]) ?_
        rintro _ h7 ⟨rfl, e⟩; subst e
        refine st.nw fun b12 h8 st => ?_
        simp only [List.cons_append, List.nil_append] at st
        refine st.apd (v := negL c[i]) 1 2 rfl rfl (by decide) rfl (by simp; omega) (by decide) rfl fun s13 h9 st => ?_
        simp only [List.set_cons_zero, List.set_cons_succ] at st
        have st := st.drop 2 rfl
        simp only [List.eraseIdx_cons_succ, List.eraseIdx_cons_zero] at st
        refine hX _ _ _ ⟨i + 1, s13, rfl, by omega, ?_, rfl⟩ (by omega)
        have ht : c.take (i + 1) = c.take i ++ [c[i]] := by simp
        rw [ht, List.map_append]
        exact st
      · rw [decide_eq_false (show ¬ (i : Int) < (sl.len : Int) by omega), brB_false]
        rw [List.take_of_length_le (by omega)] at st
        refine ldF (st.blk 0 rfl) ?_
        refine call_of (under_c (st.fz 0 rfl) (st.own 1 rfl).rsl hl hc (by simpa using hcl) hn) ?_
        rintro _ h7 ⟨s', rfl, _, x7⟩
        have st := st.ext x7
        simp only
        refine st.nw fun b16 h8 st => ?_
        simp only [List.cons_append, List.nil_append, addr_add, Nat.zero_add] at st ⊢
        refine st.st1 2 0 rfl (by simp) fun h9 st => ?_
        refine st.st1 2 1 rfl (by simp) fun h10 st => ?_
        refine st.st1 2 2 rfl (by simp) fun h11 st => ?_
        simp only [List.set_cons_zero, List.set_cons_succ] at st
        refine jn_in fun J hJ => ?_
        cases he : ((underP n cs (c.map negL) fu).2 == 0) with
        | true =>
          rw [he] at hK
          refine brT rfl ?_
          rw [st.ldb 2 0 rfl rfl]
          exact hJ _ _ (hK _ _ ⟨rfl, st.frame (by simp)⟩)
        | false =>
          rw [he] at hK
          exact brF rfl (hJ _ _ (hK _ _ ⟨rfl, st.frame (by simp)⟩))

end Go.Proofs.S

set_option linter.unusedVariables false
set_option linter.unusedSimpArgs false
namespace Go.Proofs.S
open Go Go.Sx Go.Proofs Go.Cl Go.Dp

variable {h : Heap} {c d L : List Int} {s s2 sv : Sl} {fr : Fr} {G As : List Asn} {b sb v : Nat} {g : Int} {cs : List (List Int)}

def allL (v : Nat) (cs : List (List Int)) : List (List Bool) := mods (trace v cs (v + 1) [])
abbrev dAllV (b : Nat) : Value := .func (.func fn_dpll_All_1) #[] #[.pointer (some ⟨b, 0, none⟩)]
abbrev allNx (MS : List (List Bool)) (pre : List (Sl × Unit)) (x : Sl × Unit) : Prop := pre.length < MS.length
abbrev allGf (MS : List (List Bool)) (pre : List (Sl × Unit)) (x : Sl × Unit) : Asn := ob (MS.getD pre.length []) x.1
abbrev allFin (MS : List (List Bool)) (pre : List (Sl × Unit)) : Prop := pre.length = MS.length

set_option maxRecDepth 100000 in
theorem all_iter {F : List Nat} (hG : ∀ C ∈ [cF b v s, lli cs s], ∃ SC, C.P SC h ∧ ∀ b ∈ SC, b ∈ F) (hF : ∀ b ∈ F, b < h.size) (hg : GoodF v cs) (hv : v ≤ 60) :
    IterG Try.prog (.cons .sl .nil) (dAllV b) h (fun pre x h2 N => allNx (allL v cs) pre x ∧ (allGf (allL v cs) pre x).P N h2) (allFin (allL v cs)) F [] := by
  refine iter_ofD hG hF ?_
  intro A D B0 yl hlf cli sure it K hfin hD
  refine callF_func (S_dpll_All_1 (a0 := yl) (c0 := ⟨b, 0, none⟩) K ?_)
  unfold F_dpll_All_1
  obtain ⟨S, st, close⟩ := it.open cli
  refine ldF (st.fblk 0 rfl) ?_
  rw [ld_int (i := 0) (st.fblk 0 rfl) rfl]
  have e1 : IntKind.wrap .i64 ((v : Int) + 1) = ((v + 1 : Nat) : Int) := by rw [wrap_i64 (by omega) (by omega)]; omega
  rw [e1]
  refine Hs.mks1 (n := v + 1) (τ := i64) (z := (0 : Int)) st (by omega) (by decide) fun sv h3 st => ?_
  rw [← row_nil] at st
  simp only [List.nil_append] at st
  obtain ⟨fu, hfu, hfe⟩ : ∃ fu : Nat, (fu : Int) = 9223372036854775807 ∧ fu = 9223372036854775807 := ⟨9223372036854775807, rfl, rfl⟩
  rw [← hfu]
  refine st.nw fun b3 h4 st => ?_
  simp only [List.cons_append, List.nil_append] at st
  have st := st.hd 1 rfl
  simp only [List.eraseIdx_cons_succ, List.eraseIdx_cons_zero] at st
  have it := close _ _ st
  have hi := inv_good hg
  have hl := good_len hg
  have hfl := freeN_le (v := v) (L := [])
  have hng := trace_guesses hi (show v ≤ 1048576 by omega) (v + 1) []
  have h61 : 2 ^ (freeN v [] + 1) ≤ 2 ^ 61 := Nat.pow_le_pow_right (by decide) (by omega)
  have e61 : (2 : Nat) ^ 61 = 2305843009213693952 := by decide
  let M : MP := { h0 := h, F := F, A := A, D := D, G := [cF b v s, lli cs s], sb := b3, v := v, fu := fu, s := s, sv := sv }
  have H : MH M cs (allL v cs) yl := ⟨cli, sure, hlf, hi, hl.1, hl.2, by show v ≤ _; omega, by show fu ≤ _; omega⟩
  have hR : RC M cs [] := fun h' hGG _ => hGG _ (List.mem_cons_of_mem _ (List.mem_cons_self ..))
  have hcall := models_rec H (v + 1) [] 0 [] B0 [] h4 hR Asg.nil (by show freeN v [] < _; omega) it (Nat.zero_le _) (by show 0 + ng (trace v cs (v + 1) []) ≤ _; omega) (fun i m hm => by rw [List.length_nil, Nat.zero_add]; exact hm)
  refine call_of hcall ?_
  rintro r h5 (⟨_, xs, B', hxs, _, it⟩ | ⟨_, T1, T2, xs, B', e, hgt, _⟩ | ⟨_, T1, m, T2, xs, B1, k1, B', e, _, _, _, it⟩)
  · exact hfin _ _ _ (by rw [List.nil_append]; exact hxs) it.1
  · exfalso
    have hgt : 0 + ng T1 = fu := hgt
    have e : trace v cs (v + 1) [] = T1 ++ .guess :: T2 := e
    have : ng T1 ≤ ng (trace v cs (v + 1) []) := by rw [e, ng_append]; omega
    omega
  · exact hD _ _ it.1

theorem all_hit (gb gl : Nat) (hgb : G[gb]? = some (cF b v s)) (hgl : G[gl]? = some (lli cs s)) (hg : GoodF v cs) (hv : v ≤ 60) :
    ∀ S, FzOk G S h → FrOk fr S h → ∃ F, (∀ b ∈ F, b < h.size ∧ b ∉ S) ∧ ∀ h1, NewL h h1 → IterG Try.prog (.cons .sl .nil) (dAllV b) h1 (fun pre x h2 N => allNx (allL v cs) pre x ∧ (allGf (allL v cs) pre x).P N h2) (allFin (allL v cs)) F [] := by
  intro S hz _
  obtain ⟨F, hF, hall⟩ := hitG [cF b v s, lli cs s] (fun C hC => by
    simp only [List.mem_cons, List.not_mem_nil, or_false] at hC
    rcases hC with rfl | rfl
    · exact List.mem_of_getElem? hgb
    · exact List.mem_of_getElem? hgl) hz
  exact ⟨F, hF, fun h1 hn => all_iter (hall h1 hn.1) (fun b hb => Nat.lt_of_lt_of_le (hF b hb).1 hn.1.1) hg hv⟩

theorem Hs.All {n : Int} {K : (Value × Int × Unit) → HP} (st : Hs fr G As h) (hA : At h (lli cs s)) (hl : cs.length ≤ 1048576) (hc : ∀ c ∈ cs, c.length ≤ 1048576)
    (no : (checkP n cs).2 ≠ 0 → ∀ h', Hs fr G As h' → K (.nilFunc, (checkP n cs).2, ()) h')
    (ok : (checkP n cs).2 = 0 → ∀ b s' h', Hs fr G (As ++ [cl b ty_formula_Formula [.int .i64 n, .slice s'.a s'.len s'.cap], llo cs s']) h' → K (dAllV b, 0, ()) h') :
    callT Try.prog fn_dpll_All #[.agg #[.int .i64 n, .slice s.a s.len s.cap]] (.tup (.cons .val (.cons (.int .i64) .nil))) K h := by
  refine S_dpll_All (a0 := (n, s, ())) K ?_
  unfold F_dpll_All
  obtain ⟨st, back⟩ := st.beside
  have st := st.less (G' := G) (fun A hA => hA)
  refine st.nw fun b0 h1 st => ?_
  simp only [List.nil_append] at st
  have x1 := st.frame (h0 := h) (by simp)
  refine ldF (st.blk 0 rfl) ?_
  refine call_of (check_c (hA.ext x1)) ?_
  rintro _ h2 ⟨rfl, x2⟩
  have st := st.ext x2
  simp only
  by_cases he : (checkP n cs).2 = 0
  rotate_left
  · exact brT (bne_iff_ne.2 he) (no he _ (by simpa using back _ _ (st.drop 0 rfl)))
  refine brF (by rw [he]; rfl) ?_
  refine ldF (st.blk 0 rfl) ?_
  refine call_of (copy_c (hA.ext (st.frame (h0 := h) (by simp))) hl hc) ?_
  rintro _ h3 ⟨s', rfl, hn, x3⟩
  have st := st.new x3 hn
  simp only [List.cons_append, List.nil_append] at st
  refine st.nw fun b5 h4 st => ?_
  simp only [List.cons_append, List.nil_append, addr_add, Nat.zero_add] at st ⊢
  refine st.st1 2 0 rfl (by simp) fun h5 st => ?_
  refine st.st1 2 1 rfl (by simp) fun h6 st => ?_
  simp only [List.set_cons_zero, List.set_cons_succ] at st
  have st := (st.drop 0 rfl).hd 1 rfl
  exact ok he b5 s' _ (back _ _ st)

theorem allL_eq (hg : GoodF v cs) : allL v cs = modelsF v cs := by
  have hi := inv_good hg
  have hv := good_vars hg
  unfold allL
  rw [trace_mods hi (by omega) (v + 1) [] Asg.nil (by have := freeN_le (v := v) (L := []); omega)]
  unfold under modelsF
  refine List.filter_congr fun m _ => ?_
  rw [List.all_nil, Bool.true_and]
  rw [Bool.eq_iff_iff, decide_eq_true_eq, failsGo_neg]
  unfold Fo.hold
  rw [List.all_eq_true]
  exact Iff.rfl

end Go.Proofs.S

set_option linter.unusedVariables false
set_option linter.unusedSimpArgs false
namespace Go.Proofs.S
open Go Go.Sx Go.Proofs Go.Cl Go.Dp

variable {h : Heap} {c d L : List Int} {s s2 sv : Sl} {fr : Fr} {G As : List Asn} {b sb v n : Nat} {g : Int} {cs : List (List Int)} {t : TypeId} {A : Asn}

theorem Hs.fzl (st : Hs fr G (As ++ [A]) h) : Hs fr (G ++ [A]) As h := by
  have st := st.freeze As.length (lastA _ _)
  rwa [List.eraseIdx_append_of_length_le (Nat.le_refl _), Nat.sub_self, List.eraseIdx_cons_zero, List.append_nil] at st

theorem Hs.lit (st : Hs fr G As h) (xs : List Int) {vs : Array Value} (n : Nat) (hn : n = xs.length) (hvs : vs.toList = xs.map i64.enc) {K : Nat → HP}
    (hK : ∀ b h', Hs fr (G ++ [li xs ⟨some ⟨b, 0, none⟩, n, n⟩]) As h' → K b h') : Sx.nw vs t K h := by
  subst hn
  refine st.nw fun b h1 st => ?_
  rw [hvs] at st
  have st := st.asSl As.length i64.enc xs (lastA _ _) rfl
  have st := st.froz As.length (by rw [List.getElem?_set_self (by simp)])
  rw [List.set_append_right _ _ (Nat.le_refl _), Nat.sub_self, List.set_cons_zero, List.eraseIdx_append_of_length_le (Nat.le_refl _), Nat.sub_self, List.eraseIdx_cons_zero, List.append_nil] at st
  exact hK b h1 st

def AllAt (h : Heap) : List (List Int) → List Sl → Prop
  | [], [] => True
  | c :: cs, p :: ps => At h (li c p) ∧ AllAt h cs ps
  | _, _ => False
theorem AllAt.len : ∀ {cs : List (List Int)} {ps : List Sl}, AllAt h cs ps → ps.length = cs.length
  | [], [], _ => rfl
  | c :: cs, p :: ps, ⟨_, k⟩ => by simp [AllAt.len k]
  | [], _ :: _, k => k.elim
  | _ :: _, [], k => k.elim
theorem AllAt.get : ∀ {cs : List (List Int)} {ps : List Sl}, AllAt h cs ps → ∀ i (h1 : i < cs.length) (h2 : i < ps.length), At h (li cs[i] ps[i])
  | c :: cs, p :: ps, ⟨k, _⟩, 0, _, _ => k
  | c :: cs, p :: ps, ⟨_, k⟩, i + 1, h1, h2 => AllAt.get k i (Nat.lt_of_succ_lt_succ h1) (Nat.lt_of_succ_lt_succ h2)
  | [], _, _, i, h1, _ => by simp at h1
  | _ :: _, [], k, _, _, _ => k.elim
theorem lli_mk {ps : List Sl} {vs : List Value} (hb : Blk h b t vs) (hvs : vs = ps.map Ty.sl.enc) (hn : n = ps.length) (ha : AllAt h cs ps) : At h (lli cs ⟨some ⟨b, 0, none⟩, n, n⟩) := by
  subst hvs hn
  exact rsg_at ha.len ⟨[b], rfl, Nat.le_refl _, .inr ⟨⟨b, 0, none⟩, rfl, rfl, hb.isCells, fun i x hi => by rw [addr_add, cell_blk hb, Nat.zero_add, List.getElem?_map, hi]; rfl⟩⟩ ha.get

theorem Hs.ans (st : Hs fr G As h) {x : Bool} {s' : Sl} {g : Int} {K : Nat → HP} (hK : ∀ b h', Hs fr (G ++ [cl b ty_dpll_Answer [.bool x, .slice s'.a s'.len s'.cap, .int .i64 g]]) As h' → K b h') :
    Sx.nw #[.bool false, .slice none 0 0, .int .i64 0] ty_dpll_Answer (fun b => st1 ⟨b, 0, none⟩ (.bool x) <| st1 ((⟨b, 0, none⟩ : Addr).add 1) (.slice s'.a s'.len s'.cap) <| st1 ((⟨b, 0, none⟩ : Addr).add 2) (.int .i64 g) <| K b) h := by
  refine st.nw fun b h1 st => ?_
  simp only [addr_add, Nat.zero_add]
  refine st.st1 As.length 0 (lastA _ _) (by simp) fun h2 st => ?_
  rw [List.set_append_right _ _ (Nat.le_refl _), Nat.sub_self, List.set_cons_zero] at st
  refine st.st1 As.length 1 (lastA _ _) (by simp) fun h3 st => ?_
  rw [List.set_append_right _ _ (Nat.le_refl _), Nat.sub_self, List.set_cons_zero] at st
  refine st.st1 As.length 2 (lastA _ _) (by simp) fun h4 st => ?_
  rw [List.set_append_right _ _ (Nat.le_refl _), Nat.sub_self, List.set_cons_zero] at st
  exact hK b h4 (Hs.fzl st)
theorem Hs.frml (st : Hs fr G As h) {x : Int} {s' : Sl} {K : Nat → HP} (hK : ∀ b h', Hs fr (G ++ [cl b ty_formula_Formula [.int .i64 x, .slice s'.a s'.len s'.cap]]) As h' → K b h') :
    Sx.nw #[.int .i64 0, .slice none 0 0] ty_formula_Formula (fun b => st1 ⟨b, 0, none⟩ (.int .i64 x) <| st1 ((⟨b, 0, none⟩ : Addr).add 1) (.slice s'.a s'.len s'.cap) <| K b) h := by
  refine st.nw fun b h1 st => ?_
  simp only [addr_add, Nat.zero_add]
  refine st.st1 As.length 0 (lastA _ _) (by simp) fun h2 st => ?_
  rw [List.set_append_right _ _ (Nat.le_refl _), Nat.sub_self, List.set_cons_zero] at st
  refine st.st1 As.length 1 (lastA _ _) (by simp) fun h3 st => ?_
  rw [List.set_append_right _ _ (Nat.le_refl _), Nat.sub_self, List.set_cons_zero] at st
  exact hK b h3 (Hs.fzl st)

end Go.Proofs.S
