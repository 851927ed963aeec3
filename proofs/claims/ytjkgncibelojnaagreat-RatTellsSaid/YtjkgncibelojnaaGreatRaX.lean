/-
  checks; RatChecks.
-/
import Derived.Test.YtjkgncibelojnaaGreatClV
set_option linter.unusedVariables false
set_option linter.unusedSimpArgs false
namespace Go.Proofs.S
open Go Go.Sx Go.Proofs Go.Cl Go.Rp Go.Rt

variable {h h0 : Heap} {c d A f ids hs W : List Int} {l : List Ent} {cs : List (List Int)} {gs us vs : List Grp} {s s2 s3 s4 sc sl sh sg sx1 sx2 sl2 sh2 sg2 sa sr : Sl} {fr : Fr} {G As : List Asn} {id p n : Int} {i k : Nat} {b m b0 b1 bs : Nat}

theorem ckRow {t : TypeId} {vs : List Value} {X : HP} (hb : Blk h b t vs) (hX : X h) : ckA ⟨b, 0, none⟩ vs X h := ⟨CellsAt_blk' _ hb 0 fun j hj => by rw [Nat.zero_add], hX⟩
abbrev st3 (b : Nat) (t : TypeId) (x y z : Sl) : Asn := cl b t [.slice x.a x.len x.cap, .slice y.a y.len y.cap, .slice z.a z.len z.cap]

end Go.Proofs.S

set_option linter.unusedVariables false
set_option linter.unusedSimpArgs false
namespace Go.Sx
open Go
section
variable {xs : List tPr.T} {s p : Sl} {fr : Fr} {G As : List Asn} {h : Heap} {t : TypeId} {b : Nat}
theorem Hs.prA {K : Addr → HP} (st : Hs fr G As h) (k : Nat) (hk : As[k]? = some (osn t 2 tPr.vals xs s)) {i : Nat} (hi : i < xs.length)
    (hK : ∀ b, s.a = some ⟨b, 0, none⟩ → K ⟨b, i * 2, none⟩ h) : sx s.a s.len (i : Int) 2 K h := by
  obtain ⟨S1, p, hwr⟩ := st.focus k hk
  rcases p with ⟨b, rest, cap, eS, es, hr, hb⟩ | ⟨_, ex, _⟩
  · subst es
    refine ⟨_, rfl, Int.natCast_nonneg _, Int.ofNat_lt.2 hi, ?_⟩
    rw [Int.toNat_natCast]
    simp only [addr_add, Nat.zero_add]
    exact hK b rfl
  · subst ex; simp at hi
end
end Go.Sx
namespace Go.Proofs.S
open Go Go.Sx Go.Proofs Go.Cl Go.Rp Go.Rt

variable {h h0 : Heap} {c d A f ids hs W : List Int} {l : List Ent} {cs : List (List Int)} {gs us vs : List Grp} {s s2 s3 s4 sc sl sh sg sx1 sx2 sl2 sh2 sg2 sa sr : Sl} {fr : Fr} {G As : List Asn} {id p n : Int} {i k : Nat} {b m b0 b1 bs : Nat}

theorem fixM_take (hlt : i < A.length) : (A.take (i + 1)).map (fun x => if x = -p then p else x) = (A.take i).map (fun x => if x = -p then p else x) ++ [if A[i] = -p then p else A[i]] := by
  rw [take_lt hlt, List.map_append, List.map_singleton]
theorem fixP_eq : fixP p A = A.map (fun x => if x = -p then p else x) ++ (if -p ∈ A then [] else [p]) := by
  unfold fixP
  by_cases hm : -p ∈ A
  · rw [if_pos hm, if_pos hm, List.append_nil]
  · rw [if_neg hm, if_neg hm]
    congr 1
    refine ((List.map_congr_left fun x hx => ?_).trans (List.map_id A)).symm
    rw [if_neg (show ¬ x = -p from fun e => hm (e ▸ hx))]; rfl

theorem repair_len : (repairP c A).1.length ≤ A.length + 1 := by
  unfold repairP
  split
  · simp
  split
  · simp
  cases c with
  | nil => simp
  | cons p r =>
    simp only
    split
    · simp
    · rcases fix_len p A with ⟨_, k⟩ | ⟨_, k⟩ <;> simp only [k] <;> omega
set_option maxHeartbeats 1000000 in
theorem r9_Repair_c (hA : At h (li c s)) (hB : At h (li A s2)) (hl : c.length ≤ 1048576) (hl2 : A.length ≤ 1048576) :
    callT Tryz.prog fn_salvorref09_Repair #[.slice s.a s.len s.cap, .slice s2.a s2.len s2.cap] (.tup (.cons .sl (.cons (.int .i64) .nil)))
      (fun r h' => ∃ s', r = (s', (repairP c A).2, ()) ∧ New h.size h' (nio' (repairP c A).1 s') ∧ Ext [] h h') h := by
  refine callT_gen fun K hK => S_salvorref09_Repair (a0 := s) (a1 := s2) K ?_
  unfold F_salvorref09_Repair
  have hK : ∀ s' (o : List Int) (e : Int) h', repairP c A = (o, e) → New h.size h' (nio' o s') → Ext [] h h' → K (s', e, ()) h' := fun s' o e h' he n x => hK _ _ ⟨s', by rw [he], by rw [he]; exact n, x⟩
  have st := Hs.start h [li c s, li A s2] (by simp [hA, hB])
  have lc := rsl_len hA
  have lA := rsl_len hB
  have no : ∀ e h', repairP c A = ([], e) → Ext [] h h' → K (⟨none, 0, 0⟩, e, ()) h' := fun e h' he x => hK _ _ _ _ he (osl_nil h.size h') x
  unfold repairP at hK no
  refine call_of (r2_right_c (st.fz 0 rfl) (by omega)) ?_
  rintro _ _ ⟨rfl, e⟩; rw [e]; clear e
  cases hr : rightC c with
  | false => rw [hr] at no; exact brT rfl (no _ _ rfl (st.frame (by simp)))
  | true =>
  refine brF rfl ?_
  refine call_of (r8_right_c (st.fz 1 rfl) (by omega)) ?_
  rintro _ _ ⟨rfl, e⟩; rw [e]; clear e
  cases ho : okA A with
  | false => rw [hr, ho] at no; exact brT rfl (no _ _ rfl (st.frame (by simp)))
  | true =>
  rw [hr, ho] at hK no
  refine brF rfl ?_
  simp only [Bool.not_true, Bool.false_eq_true, if_false] at hK no ⊢
  cases c with
  | nil => exact brT (by rw [lc]; rfl) (no _ _ rfl (st.frame (by simp)))
  | cons p r =>
  refine brF (by rw [lc]; simp; omega) ?_
  have hp : rt p = true := rightC_rt hr p (by simp)
  simp only at hK no
  refine call_of (r8_look_c (st.fz 0 rfl) (st.fz 1 rfl) (rightC_rt hr) (by omega) (by omega)) ?_
  rintro _ h2 ⟨rfl, x2⟩
  have st := st.ext x2
  by_cases h1 : (lookP A (p :: r)).1 = 1
  · refine brT (by simpa using h1) ?_
    rw [if_pos h1] at hK
    refine copy_c st (st.fz 1 rfl) (by omega) fun s' h2 st => ?_
    exact hK _ _ _ _ rfl (st.res (by simp) 0 rfl) (st.frame (by simp))
  refine brF (by simpa using h1) ?_
  rw [if_neg h1] at hK
  have st := st.nil ty_int i64.enc none
  simp only [List.nil_append] at st
  refine lfp_invh (I := fun m σ h' => ∃ (i : Nat) (so : Sl), σ = ((i : Int), decide (-p ∈ A.take i), so, ()) ∧ i ≤ A.length ∧ Hs [([], h)] [li (p :: r) s, li A s2] [nio' ((A.take i).map (fun x => if x = -p then p else x)) so] h' ∧ m = A.length - i)
    ⟨_, 0, ⟨none, 0, 0⟩, by simp, by omega, by simpa using st, rfl⟩ ?_
  clear st
  rintro m σ h3 X ⟨i, so, rfl, hi, st, rfl⟩ hX
  simp only
  by_cases hlt : i < A.length
  · refine brT (by rw [lA]; exact dlt_t hlt) ?_
    refine rdE (τ := i64) (st.fz 1 rfl) hlt ?_
    refine rdE (τ := i64) (i := 0) (st.fz 0 rfl) (by simp) ?_
    rw [show (p :: r)[0] = p from rfl, negW hp]
    have ft := fixM_take (p := p) hlt
    have fl : ((A.take i).map (fun x => if x = -p then p else x)).length ≤ i := by rw [List.length_map, List.length_take]; omega
    refine jn_in fun J hJ => ?_
    by_cases he : A[i] = -p
    · refine brT (by simpa using he) ?_
      refine rdE (τ := i64) (i := 0) (st.fz 0 rfl) (by simp) ?_
      refine st.nw fun b6 h6 st => ?_
      simp only [List.cons_append, List.nil_append] at st
      refine st.apd (v := p) 0 1 rfl rfl (by decide) rfl (by omega) (by decide) rfl fun s7 h7 st => hJ _ _ ?_
      simp only [List.set_cons_zero, List.set_cons_succ] at st
      rw [inc_i (by omega)]
      refine hX _ _ _ ⟨i + 1, s7, ?_, by omega, ?_, rfl⟩ (by omega)
      · rw [show decide (-p ∈ A.take (i + 1)) = true from decide_eq_true ((mem_take1 hlt).2 (.inr he))]
      · rw [ft, if_pos he]; exact st.drop 1 rfl
    · refine brF (by simpa using he) ?_
      refine rdE (τ := i64) (st.fz 1 rfl) hlt ?_
      refine st.nw fun b6 h6 st => ?_
      simp only [List.cons_append, List.nil_append] at st
      refine st.apd (v := A[i]) 0 1 rfl rfl (by decide) rfl (by omega) (by decide) rfl fun s7 h7 st => hJ _ _ ?_
      simp only [List.set_cons_zero, List.set_cons_succ] at st
      rw [inc_i (by omega)]
      refine hX _ _ _ ⟨i + 1, s7, ?_, by omega, ?_, rfl⟩ (by omega)
      · rw [show decide (-p ∈ A.take (i + 1)) = decide (-p ∈ A.take i) from decide_eq_decide.2 ((mem_take1 hlt).trans ⟨fun k => k.resolve_right he, .inl⟩)]
      · rw [ft, if_neg he]; exact st.drop 1 rfl
  · refine brF (by rw [lA]; exact dlt_f hlt) ?_
    rw [List.take_of_length_le (by omega)] at st ⊢
    rw [fixP_eq] at hK
    refine jn_in fun J hJ => ?_
    by_cases hm : -p ∈ A
    · rw [if_pos hm, List.append_nil] at hK
      refine brF (by rw [decide_eq_true hm]; rfl) (hJ _ _ ?_)
      exact hK _ _ _ _ rfl (st.res (by simp) 0 rfl) (st.frame (by simp))
    · rw [if_neg hm] at hK
      refine brT (by rw [decide_eq_false hm]; rfl) ?_
      refine rdE (τ := i64) (i := 0) (st.fz 0 rfl) (by simp) ?_
      refine st.nw fun b4 h3 st => ?_
      simp only [List.cons_append, List.nil_append] at st
      refine st.apd (v := p) 0 1 rfl rfl (by decide) rfl (by simp; omega) (by decide) rfl fun s7 h4 st => hJ _ _ ?_
      exact hK _ _ _ _ rfl (st.res (by simp) 0 rfl) (st.frame (by simp))

set_option maxHeartbeats 1000000 in
theorem repairs_c (hA : At h (li c s)) (hB : At h (li A s2)) (hl : c.length ≤ 1000) (hl2 : A.length ≤ 1000) :
    callT Tryz.prog fn_salvorlaw09_repairs #[.slice s.a s.len s.cap, .slice s2.a s2.len s2.cap] .bool (fun r h' => r = true ∧ Ext [] h h') h := by
  refine callT_gen fun K hK => S_salvorlaw09_repairs (a0 := s) (a1 := s2) K ?_
  unfold F_salvorlaw09_repairs
  have st := Hs.start h [li c s, li A s2] (by simp [hA, hB])
  refine call_of (Ints_c (st.fz 0 rfl) (by omega)) ?_
  rintro r0 h1 ⟨n0, x1⟩
  have st := (st.new x1 n0).froz 0 rfl
  simp only [List.nil_append, List.cons_append, List.eraseIdx_cons_zero] at st
  refine call_of (Ints_c (st.fz 1 rfl) (by omega)) ?_
  rintro r1 h2 ⟨n1, x2⟩
  have st := (st.new x2 n1).froz 0 rfl
  simp only [List.nil_append, List.cons_append, List.eraseIdx_cons_zero] at st
  refine call_of (Repair_c (st.fz 0 rfl) (st.fz 1 rfl) (by omega) (by omega)) ?_
  rintro _ h3 ⟨s3, rfl, n3, x3⟩
  have st := st.new x3 n3
  simp only [List.nil_append] at st
  have hgl : (repairP c A).1.length ≤ 1001 := by have := repair_len (c := c) (A := A); omega
  refine call_of (r9_Repair_c (st.fz 2 rfl) (st.fz 3 rfl) (by omega) (by omega)) ?_
  rintro _ h4 ⟨s4, rfl, n4, x4⟩
  have st := st.new x4 n4
  simp only [List.cons_append, List.nil_append] at st
  generalize repairP c A = R at *
  obtain ⟨got, er⟩ := R
  simp only at hgl st ⊢
  refine call_of (Ints_c (st.own 0 rfl).rsl (by omega)) ?_
  rintro r4 h5 ⟨n5, x5⟩
  have st := st.new x5 n5
  simp only [List.cons_append, List.nil_append] at st
  refine call_of (equal_int (st.own 2 rfl).rsl (st.own 1 rfl).rsl (by omega)) ?_
  rintro _ h6 ⟨rfl, e⟩; subst e
  refine jn_in fun J hJ => brF (by simp) (hJ _ _ (brF (by simp) ?_))
  clear J hJ
  have st := (st.drop 2 rfl).drop 1 rfl
  simp only [List.eraseIdx_cons_succ, List.eraseIdx_cons_zero] at st
  have lg : s3.len = got.length := osl_len (st.own 0 rfl)
  refine lfp_invh (I := fun m σ h' => ∃ (i : Nat) (g2 : List Int), σ = ((i : Int), ()) ∧ i ≤ got.length ∧ g2.length = got.length ∧ Hs [([], h)] [li c s, li A s2, li c r0, li A r1] [lo g2 s3] h' ∧ m = got.length - i)
    ⟨_, 0, got, rfl, by omega, rfl, st, rfl⟩ ?_
  clear st
  rintro m σ h7 X ⟨i, g2, rfl, hi, hg2, st, rfl⟩ hX
  simp only
  by_cases hlt : i < got.length
  · refine brT (by rw [lg]; exact dlt_t hlt) ?_
    refine st.wrE (τ := i64) 0 rfl (i := i) (by omega) 99 fun h8 st => ?_
    rw [inc_i (by omega)]
    exact hX _ _ _ ⟨i + 1, g2.set i 99, rfl, by omega, by simpa using hg2, st, rfl⟩ (by omega)
  · refine brF (by rw [lg]; exact dlt_f hlt) ?_
    refine call_of (Ints_c (st.fz 0 rfl) (by omega)) ?_
    rintro r11 h8 ⟨n11, x11⟩
    have st := st.ext x11
    refine call_of (equal_int n11.at.rsl (st.fz 2 rfl) (by omega)) ?_
    rintro _ h9 ⟨rfl, e⟩; subst e
    refine jn_in fun J hJ => brT (by simp) ?_
    refine call_of (Ints_c (st.fz 1 rfl) (by omega)) ?_
    rintro r15 h10 ⟨n15, x15⟩
    have st := st.ext x15
    refine call_of (equal_int n15.at.rsl (st.fz 3 rfl) (by omega)) ?_
    rintro _ h11 ⟨rfl, e⟩; subst e
    exact hJ _ _ (hK _ _ ⟨by simp, st.frame (by simp)⟩)

end Go.Proofs.S
