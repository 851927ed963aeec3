/-
  The package rat: propagate (its orders printed by gen/mkrap.py), named: contracts.
-/
import Derived.Test.YtjkgncibelojnaaGreatRaE
import Derived.Test.YtjkgncibelojnaaGreatSxW3
set_option linter.unusedVariables false
set_option linter.unusedSimpArgs false
namespace Go.Sx
open Go
theorem Hs.only {fr : Fr} {G As : List Asn} {h : Heap} {A : Asn} (st : Hs fr G As h) (k : Nat) (hk : As[k]? = some A) : Hs fr G [A] h := by
  obtain ⟨S, hs, hz, hf⟩ := st
  obtain ⟨S1, S2, hm, hd, hA, hr, _⟩ := hs.focus k hk
  have hS : ∀ b ∈ S1 ++ [], b ∈ S ∨ h.size ≤ b := fun b hb => .inl ((hm b).2 (.inl (by simpa using hb)))
  exact ⟨S1 ++ [], ⟨S1, [], rfl, by simp, hA, rfl⟩, hz.mono hS, hf.mono hS⟩
end Go.Sx
namespace Go.Proofs.S
open Go Go.Sx Go.Proofs Go.Cl Go.Rp Go.Rt

variable {h : Heap} {c d A ids : List Int} {l : List Ent} {s s2 : Sl} {fr : Fr} {G As : List Asn} {id p : Int}

abbrev nio' (c : List Int) (s : Sl) : Asn := osl ty_int i64.enc c s

end Go.Proofs.S

set_option linter.unusedVariables false
set_option linter.unusedSimpArgs false
namespace Go.Proofs.S
open Go Go.Sx Go.Proofs Go.Cl Go.Rp Go.Rt

variable {h : Heap} {c d A ids : List Int} {l : List Ent} {gs : List Grp} {s s2 sc : Sl} {fr : Fr} {G As : List Asn} {id p : Int} {i : Nat}

def fixS (p : Int) (A : List Int) (i : Nat) : List Int := (A.take i).map (fun x => if x = -p then p else x) ++ A.drop i
theorem fixS_len : (fixS p A i).length = A.length := by unfold fixS; simp; omega
theorem fixS_at (hi : i < A.length) : (fixS p A i)[i]'(by rw [fixS_len]; exact hi) = A[i] := by
  unfold fixS
  rw [List.getElem_append_right (by simp; omega)]
  simp [Nat.min_eq_left (Nat.le_of_lt hi)]
theorem fixS_set (hi : i < A.length) (e : A[i] = -p) : (fixS p A i).set i p = fixS p A (i + 1) := by
  unfold fixS
  have hl : ((A.take i).map (fun x => if x = -p then p else x)).length = i := by simp; omega
  rw [List.set_append_right _ _ (by omega), hl, Nat.sub_self, List.drop_eq_getElem_cons hi, List.set_cons_zero, List.take_succ_eq_append_getElem hi, List.map_append, List.map_singleton, if_pos e, List.append_assoc]
  rfl
theorem fixS_skip (hi : i < A.length) (e : A[i] ≠ -p) : fixS p A i = fixS p A (i + 1) := by
  unfold fixS
  rw [List.drop_eq_getElem_cons hi, List.take_succ_eq_append_getElem hi, List.map_append, List.map_singleton, if_neg e, List.append_assoc]
  rfl
theorem mem_take1 {x : Int} (hi : i < A.length) : x ∈ A.take (i + 1) ↔ x ∈ A.take i ∨ A[i] = x := by
  rw [List.take_succ_eq_append_getElem hi, List.mem_append, List.mem_singleton]
  exact ⟨fun k => k.imp id Eq.symm, fun k => k.imp id Eq.symm⟩

set_option maxHeartbeats 1000000 in
theorem Repair_c (hA : At h (li c s)) (hB : At h (li A s2)) (hl : c.length ≤ 1099511627776) (hl2 : A.length ≤ 1099511627776) :
    callT Tryz.prog fn_rat_Repair #[.slice s.a s.len s.cap, .slice s2.a s2.len s2.cap] (.tup (.cons .sl (.cons (.int .i64) .nil)))
      (fun r h' => ∃ s', r = (s', (repairP c A).2, ()) ∧ New h.size h' (lo (repairP c A).1 s') ∧ Ext [] h h') h := by
  refine callT_gen fun K hK => S_rat_Repair (a0 := s) (a1 := s2) K ?_
  unfold F_rat_Repair
  have hK : ∀ s' (o : List Int) (e : Int) h', repairP c A = (o, e) → New h.size h' (lo o s') → Ext [] h h' → K (s', e, ()) h' := fun s' o e h' he n x => hK _ _ ⟨s', by rw [he], by rw [he]; exact n, x⟩
  have st := Hs.start h [li c s, li A s2] (by simp [hA, hB])
  have lc := rsl_len hA
  have no : ∀ e h', repairP c A = ([], e) → Ext [] h h' → K (⟨none, 0, 0⟩, e, ()) h' := fun e h' he x => hK _ _ _ _ he (osl_nil h.size h') x
  refine call_of (Look_c (st.fz 0 rfl) (st.fz 1 rfl) hl hl2) ?_
  rintro _ h1 ⟨rfl, x1⟩
  have st := st.ext x1
  unfold repairP at hK no
  unfold lookF
  cases hr : rightC c with
  | false => rw [hr] at no; exact brT rfl (no _ _ rfl (st.frame (by simp)))
  | true =>
  cases ho : okA A with
  | false => rw [hr, ho] at no; exact brT rfl (no _ _ rfl (st.frame (by simp)))
  | true =>
  rw [hr, ho] at hK no
  refine brF rfl ?_
  simp only [Bool.not_true, Bool.false_eq_true, if_false] at hK no ⊢
  cases c with
  | nil => exact brT (by rw [lc]; rfl) (no _ _ rfl (st.frame (by simp)))
  | cons p r =>
  refine brF (by rw [lc]; simp; omega) ?_
  have hp : rt p = true := rightC_rt hr p (by simp)
  simp only at hK no
  by_cases h1 : (lookP A (p :: r)).1 = 1
  · refine brT (by rw [h1]; rfl) ?_
    rw [if_pos h1] at hK
    refine cloneL_c st (st.fz 1 rfl) hl2 fun s' h2 st => ?_
    exact hK _ _ _ _ rfl (st.res (by simp) 0 rfl) (st.frame (by simp))
  refine brF (by simpa using h1) ?_
  rw [if_neg h1] at hK
  refine cloneL_c st (st.fz 1 rfl) hl2 fun s3 h2 st => ?_
  simp only [List.nil_append] at st
  refine lfp_invh (I := fun m σ h' => ∃ (i : Nat), σ = ((i : Int), decide (-p ∈ A.take i), ()) ∧ i ≤ A.length ∧ Hs [([], h)] [li (p :: r) s, li A s2] [lo (fixS p A i) s3] h' ∧ m = A.length - i)
    ⟨_, 0, by simp, by omega, by simpa [fixS] using st, rfl⟩ ?_
  have l3 : s3.len = A.length := osl_len (st.own 0 rfl)
  clear st
  rintro m σ h1 X ⟨i, rfl, hi, st, rfl⟩ hX
  simp only
  by_cases hlt : i < A.length
  · refine brT (by rw [l3]; exact dlt_t hlt) ?_
    refine rdE (τ := i64) (st.own 0 rfl).rsl (i := i) (by rw [fixS_len]; exact hlt) ?_
    rw [fixS_at hlt]
    refine rdE (τ := i64) (i := 0) (st.fz 0 rfl) (by simp) ?_
    refine call_of (lits_Neg_c _) ?_
    rintro _ h2 ⟨rfl, e⟩; subst e
    rw [show negL (p :: r)[0] = -p from negL_rt hp]
    refine jn_in fun J hJ => ?_
    by_cases he : A[i] = -p
    · refine brT (by simpa using he) ?_
      refine rdE (τ := i64) (i := 0) (st.fz 0 rfl) (by simp) ?_
      refine st.wrE (τ := i64) 0 rfl (i := i) (by rw [fixS_len]; exact hlt) _ fun h3 st => hJ _ _ ?_
      rw [inc_i (by omega)]
      have st := st
      refine hX _ _ _ ⟨i + 1, ?_, by omega, ?_, rfl⟩ (by omega)
      · rw [show decide (-p ∈ A.take (i + 1)) = true from decide_eq_true ((mem_take1 hlt).2 (.inr he))]
      · rw [← fixS_set hlt he]; exact st
    · refine brF (by simpa using he) (hJ _ _ ?_)
      rw [inc_i (by omega)]
      refine hX _ _ _ ⟨i + 1, ?_, by omega, ?_, rfl⟩ (by omega)
      · rw [show decide (-p ∈ A.take (i + 1)) = decide (-p ∈ A.take i) from decide_eq_decide.2 ((mem_take1 hlt).trans ⟨fun k => k.resolve_right he, .inl⟩)]
      · rw [← fixS_skip hlt he]; exact st
  · refine brF (by rw [l3]; exact dlt_f hlt) ?_
    have ei : i = A.length := by omega
    subst ei
    rw [List.take_length]
    refine jn_in fun J hJ => ?_
    by_cases hm : -p ∈ A
    · refine brF (by rw [decide_eq_true hm]; rfl) (hJ _ _ ?_)
      refine hK _ _ _ _ rfl ?_ (st.frame (by simp))
      have : fixP p A = fixS p A A.length := by unfold fixP fixS; rw [if_pos hm]; simp
      rw [this]
      exact st.res (by simp) 0 rfl
    · refine brT (by rw [decide_eq_false hm]; rfl) ?_
      refine rdE (τ := i64) (i := 0) (st.fz 0 rfl) (by simp) ?_
      refine st.nw fun b4 h3 st => ?_
      simp only [List.cons_append, List.nil_append] at st
      refine st.apd (v := p) 0 1 rfl rfl (by decide) rfl (by rw [fixS_len]; omega) (by decide) rfl fun s7 h4 st => hJ _ _ ?_
      refine hK _ _ _ _ rfl ?_ (st.frame (by simp))
      have : fixP p A = fixS p A A.length ++ [p] := by
        unfold fixP fixS; rw [if_neg hm, List.take_length, List.drop_length, List.append_nil]
        congr 1
        refine ((List.map_congr_left fun x hx => ?_).trans (List.map_id A)).symm
        rw [if_neg (show ¬ x = -p from fun e => hm (e ▸ hx))]; rfl
      rw [this]
      exact st.res (by simp) 0 rfl

end Go.Proofs.S
