/-
  The package rup: wrong, many, first, Look, Assume, follow, Follow: contracts.
-/
import Derived.Test.YtcoeaaobbfbcjaaRuA
set_option linter.unusedVariables false
set_option linter.unusedSimpArgs false
namespace Go.Proofs.S
open Go Go.Sx Go.Proofs Go.Cl Go.Rp

variable {h : Heap} {c d A : List Int} {cs ds : List (List Int)} {s s2 : Sl} {fr : Fr} {G As : List Asn} {b : Nat}

abbrev lli (cs : List (List Int)) (s : Sl) : Asn := rsg (fun c p => li c p) cs s

theorem lli_nil (h : Heap) : At h (lli [] ⟨none, 0, 0⟩) := (osg_nil (I := fun c p => li c p) (t := ty_clauses_Clause) 0 h).at.rsg
theorem lli_open (hA : At h (lli cs s)) : ∃ ps, ps.length = cs.length ∧ At h (rsl Ty.sl.enc ps s) ∧ ∀ i (h1 : i < cs.length) (h2 : i < ps.length), At h (li cs[i] ps[i]) := rsg_open hA
theorem lli_one {p : Sl} {t : TypeId} (hb : Blk h b t [.slice p.a p.len p.cap]) (hA : At h (li c p)) : At h (lli [c] ⟨some ⟨b, 0, none⟩, 1, 1⟩) := by
  refine rsg_at (ps := [p]) rfl ⟨[b], rfl, by simp, .inr ⟨⟨b, 0, none⟩, rfl, rfl, hb.isCells, fun i x hi => ?_⟩⟩ fun i h1 h2 => ?_
  · match i, hi with
    | 0, hi => simp at hi; subst hi; rw [addr_add, cell_blk hb]; rfl
    | i + 1, hi => simp at hi
  · simp at h1; subst h1; exact hA

theorem cloneG_c {ps : List Sl} {K : Sl → HP} (st : Hs fr G As h) (hy : At h (rsl Ty.sl.enc ps s)) (hlen : ps.length ≤ 1048576) (hK : ∀ s' h', Hs fr G (As ++ [osl ty_clauses_Clause Ty.sl.enc ps s']) h' → K s' h') :
    callT Try.prog fn_slices_Clone_clauses_Clause_clauses_Clause #[.slice s.a s.len s.cap] .sl K h :=
  S_slices_Clone_clauses_Clause_clauses_Clause (a0 := s) K (Hs.clone (τ := .sl) (t := ty_clauses_Clause) (by_ := 24) (z := .slice none 0 0) st hy leaf_sl (by omega) (by decide) hK)
theorem cloneL_c {K : Sl → HP} (st : Hs fr G As h) (hy : At h (li c s)) (hlen : c.length ≤ 1099511627776) (hK : ∀ s' h', Hs fr G (As ++ [lo c s']) h' → K s' h') :
    callT Try.prog fn_slices_Clone_lits_Lit_lits_Lit #[.slice s.a s.len s.cap] .sl K h :=
  S_slices_Clone_lits_Lit_lits_Lit (a0 := s) K (Hs.clone (τ := i64) (t := ty_lits_Lit) (by_ := 8) (z := .int .i64 0) st hy leaf_int (by omega) (by decide) hK)

theorem wrong_c (hA : At h (lli cs s)) (hB : At h (lli ds s2)) (hl : cs.length ≤ 1048576) (hl2 : ds.length ≤ 1048576) :
    callT Try.prog fn_rup_wrong #[.slice s.a s.len s.cap, .slice s2.a s2.len s2.cap] (.int .i64) (fun r h' => r = (if wrongP (cs ++ ds) then 20 else 0) ∧ Ext [] h h') h := by
  refine callT_gen fun K hK => S_rup_wrong (a0 := s) (a1 := s2) K ?_
  unfold F_rup_wrong
  obtain ⟨ps, pl, pA, pI⟩ := lli_open hA
  obtain ⟨qs, ql, qA, qI⟩ := lli_open hB
  have st := Hs.start h [] (by simp)
  refine cloneG_c st pA (by omega) fun s0 h1 st => ?_
  refine st.apdS (τ := .sl) 0 rfl (qA.ext (st.frame (by simp))) leaf_sl (by rw [pl, ql]; omega) (by decide) fun s1 h2 st => ?_
  have hlen := osl_len (st.own 0 rfl)
  have hin : ∀ i (h1 : i < (cs ++ ds).length) (h2 : i < (ps ++ qs).length), At h (li (cs ++ ds)[i] (ps ++ qs)[i]) := by
    intro i h1 h2
    by_cases hi : i < cs.length
    · rw [List.getElem_append_left hi, List.getElem_append_left (by omega)]; exact pI i hi (by omega)
    · rw [List.getElem_append_right (by omega), List.getElem_append_right (by omega)]
      have := qI (i - cs.length) (by simp at h1; omega) (by simp at h2; omega)
      simp only [pl]; exact this
  have hlen2 : (ps ++ qs).length = (cs ++ ds).length := by simp [pl, ql]
  refine lfp_invh (I := fun m σ h' => ∃ (i : Nat) (e : Int), σ = ((i : Int), e, ()) ∧ i ≤ (cs ++ ds).length ∧ m = (cs ++ ds).length - i ∧ (∀ j (hj : j < (cs ++ ds).length), j < i → rightC (cs ++ ds)[j] = true) ∧ Hs [([], h)] [] [osl ty_clauses_Clause Ty.sl.enc (ps ++ qs) s1] h')
    ⟨_, 0, 0, rfl, by omega, rfl, fun j hj h => by omega, st⟩ ?_
  rintro m σ h' X ⟨i, e, rfl, hi, rfl, hp, st⟩ hX
  simp only
  by_cases hlt : i < (cs ++ ds).length
  · refine brT (by rw [hlen]; simp at hlt ⊢; omega) ?_
    refine rdE (τ := .sl) (st.own 0 rfl).rsl (i := i) (by omega) ?_
    refine call_of (right_c ((hin i hlt (by omega)).ext (st.frame (by simp)))) ?_
    rintro _ h3 ⟨rfl, x3⟩
    have st := st.ext x3
    cases hr : rightC (cs ++ ds)[i]
    · refine brT rfl (hK _ _ ⟨?_, st.frame (by simp)⟩)
      have : wrongP (cs ++ ds) = true := by
        unfold wrongP
        rw [Bool.not_eq_true', List.all_eq_false]
        exact ⟨_, List.getElem_mem hlt, by rw [hr]; decide⟩
      rw [if_pos this]
    · refine brF rfl ?_
      rw [inc_i (by simp at hlt; omega)]
      refine hX _ _ _ ⟨i + 1, e, rfl, by omega, rfl, fun j hj hji => ?_, st⟩ (by omega)
      by_cases hji' : j = i
      · subst hji'; exact hr
      · exact hp j hj (by omega)
  · refine brF (by rw [hlen]; simp at hlt ⊢; omega) (hK _ _ ⟨?_, st.frame (by simp)⟩)
    have : wrongP (cs ++ ds) = false := by
      unfold wrongP
      rw [Bool.not_eq_false', List.all_eq_true]
      intro x hx
      obtain ⟨j, hj, rfl⟩ := List.mem_iff_getElem.1 hx
      exact hp j hj (by omega)
    rw [this]; rfl

theorem many_c (hA : At h (lli cs s)) : callT Try.prog fn_rup_many #[.slice s.a s.len s.cap] (.int .i64) (fun r h' => r = (if cs.length > 65536 then 5 else 0) ∧ h' = h) h := by
  refine callT_gen fun K hK => S_rup_many (a0 := s) K ?_
  unfold F_rup_many
  have := rsg_len hA
  by_cases hc : cs.length > 65536
  · exact brT (by simp; omega) (hK _ _ ⟨by rw [if_pos hc], rfl⟩)
  · exact brF (by simp; omega) (hK _ _ ⟨by rw [if_neg hc], rfl⟩)

def firstNZ : List Int → Int
  | [] => 0
  | x :: r => if x ≠ 0 then x else firstNZ r
theorem first_c {es : List Int} (hA : At h (li es s)) (hl : es.length ≤ 1048576) : callT Try.prog fn_rup_first #[.slice s.a s.len s.cap] (.int .i64) (fun r h' => r = firstNZ es ∧ h' = h) h := by
  refine callT_gen fun K hK => S_rup_first (a0 := s) K ?_
  unfold F_rup_first
  have ls := rsl_len hA
  refine lfp_invh (I := fun m σ h' => ∃ (i : Nat) (e : Int), σ = ((i : Int), e, ()) ∧ i ≤ es.length ∧ m = es.length - i ∧ firstNZ (es.drop i) = firstNZ es ∧ h' = h) ⟨_, 0, 0, rfl, by omega, rfl, rfl, rfl⟩ ?_
  rintro m σ h' X ⟨i, e, rfl, hi, rfl, hf, eh⟩ hX
  subst eh
  simp only
  by_cases hlt : i < es.length
  · refine brT (by simp; omega) ?_
    refine rdE (τ := i64) hA hlt ?_
    rw [List.drop_eq_getElem_cons hlt] at hf
    simp only [firstNZ] at hf
    by_cases h0 : es[i] ≠ 0
    · rw [if_pos h0] at hf
      exact brT (by simpa using h0) (hK _ _ ⟨hf, rfl⟩)
    · rw [if_neg h0] at hf
      refine brF (by simpa using h0) ?_
      rw [inc_i (by omega)]
      exact hX _ _ _ ⟨i + 1, e, rfl, by omega, rfl, hf, rfl⟩ (by omega)
  · refine brF (by simp; omega) (hK _ _ ⟨?_, rfl⟩)
    rw [List.drop_eq_nil_of_le (by omega)] at hf
    exact hf
/-- Of two, in a row of one's own. -/
theorem first2_c {x y : Int} (st : Hs fr G As h) {K : Int → HP} (hK : ∀ h', Hs fr G As h' → K (if x ≠ 0 then x else y) h') :
    (nw #[(.int .i64 x), (.int .i64 y)] ty_api_Errno fun b7 => callT Try.prog fn_rup_first #[(.slice (some (⟨b7, 0, none⟩ : Addr)) 2 2)] (.int .i64) K) h := by
  obtain ⟨st, back⟩ := st.beside
  refine st.nw fun b h1 st => ?_
  have st := st.asSl 0 (Value.int .i64) [x, y] rfl rfl
  refine call_of (first_c (s := ⟨some ⟨b, 0, none⟩, 2, 2⟩) (st.own 0 rfl).rsl (by simp)) ?_
  rintro _ h2 ⟨rfl, e⟩; subst e
  have e1 : firstNZ [x, y] = if x ≠ 0 then x else y := by
    unfold firstNZ firstNZ firstNZ
    by_cases hx : x ≠ 0
    · rw [if_pos hx, if_pos hx]
    · rw [if_neg hx, if_neg hx]
      by_cases hy : y = 0 <;> simp [hy]
  rw [e1]
  exact hK _ (by simpa using back _ _ (st.drop 0 rfl))

/-- What Look returns. -/
def lookF (A c : List Int) : Int × Int × Int := if !rightC c then (0, 0, 20) else if !okA A then (0, 0, 80) else ((lookP A c).1, (lookP A c).2, 0)
theorem Look_c (hA : At h (li c s)) (hB : At h (li A s2)) (hl : c.length ≤ 1099511627776) (hl2 : A.length ≤ 1099511627776) :
    callT Try.prog fn_rup_Look #[.slice s.a s.len s.cap, .slice s2.a s2.len s2.cap] (.tup (.cons (.int .u8) (.cons i64 (.cons (.int .i64) .nil))))
      (fun r h' => r = ((lookF A c).1, (lookF A c).2.1, (lookF A c).2.2, ()) ∧ Ext [] h h') h := by
  refine callT_gen fun K hK => S_rup_Look (a0 := s) (a1 := s2) K ?_
  unfold F_rup_Look
  have st := Hs.start h [] (by simp)
  have wr : ∀ h', Hs [([], h)] [] [] h' → rightC c = false → K (0, 0, 20, ()) h' := fun h' st hr =>
    hK _ _ ⟨by unfold lookF; rw [hr]; rfl, st.frame (by simp)⟩
  refine assigned_c st hB hl2 (fun ho bv h1 st => ?_) (fun ho h1 st => ?_)
  · refine call_of (right_c (hA.ext (st.frame (by simp)))) ?_
    rintro _ h2 ⟨rfl, x2⟩
    have st := st.ext x2
    cases hr : rightC c
    · exact brT rfl (wr _ (st.drop 0 rfl) hr)
    · refine brF rfl (brF rfl ?_)
      refine call_of (look_c (st.own 0 rfl) ho (hA.ext (st.frame (by simp))) (rightC_rt hr) hl) ?_
      rintro _ h3 ⟨rfl, e⟩; subst e
      refine hK _ _ ⟨?_, st.frame (by simp)⟩
      unfold lookF; rw [hr, ho]; rfl
  · refine call_of (right_c (hA.ext (st.frame (by simp)))) ?_
    rintro _ h2 ⟨rfl, x2⟩
    have st := st.ext x2
    cases hr : rightC c
    · exact brT rfl (wr _ st hr)
    · refine brF rfl (brT rfl (hK _ _ ⟨?_, st.frame (by simp)⟩))
      unfold lookF; rw [hr, ho]; rfl
theorem Right_c (hB : At h (li A s2)) (hl2 : A.length ≤ 1099511627776) : callT Try.prog fn_rup_Right #[.slice s2.a s2.len s2.cap] .bool (fun r h' => r = okA A ∧ Ext [] h h') h := by
  refine callT_gen fun K hK => S_rup_Right (a0 := s2) K ?_
  unfold F_rup_Right
  refine assigned_c (Hs.start h [] (by simp)) hB hl2 (fun ho bv h1 st => ?_) (fun ho h1 st => ?_)
  · exact hK _ _ ⟨ho.symm, st.frame (by simp)⟩
  · exact hK _ _ ⟨ho.symm, st.frame (by simp)⟩

theorem sortLit_c {xs : List Int} (st : Hs fr G As h) (k : Nat) (hk : As[k]? = some (lo xs s)) (hlen : xs.length ≤ 1099511627776) {K : Unit → HP}
    (hK : ∀ (ys : List Int) (h' : Heap), ys.Perm xs → ys.Pairwise (fun a b => ltL b a = false) → Hs fr G (As.set k (lo ys s)) h' → K () h') :
    callT Try.prog fn_slices_SortFunc_lits_Lit_lits_Lit #[.slice s.a s.len s.cap, .func (.func fn_lits_Compare) #[] #[]] (.tup .nil) K h := by
  refine S_slices_SortFunc_lits_Lit_lits_Lit (a0 := s) (a1 := .func (.func fn_lits_Compare) #[] #[]) K ?_
  unfold F_slices_SortFunc_lits_Lit_lits_Lit
  refine Hs.sort (τ := i64) sorts_lits sorts_Lit_swo st k hk hlen (fun h' x y _ _ _ => ?_) K hK
  refine callF_of (compareF x y) ?_
  rintro r h'' ⟨rfl, e⟩
  subst e
  exact ⟨by unfold ltL; simp, Ext.refl' _ _⟩

theorem Assume_c (hA : At h (li c s)) (hl : c.length ≤ 1099511627776) : callT Try.prog fn_rup_Assume #[.slice s.a s.len s.cap] (.tup (.cons .sl (.cons .bool (.cons (.int .i64) .nil))))
    (fun r h' => ∃ s', r = (s', (assumeP c).2.1, (assumeP c).2.2, ()) ∧ New h.size h' (lo (assumeP c).1 s') ∧ Ext [] h h') h := by
  refine callT_gen fun K hK => S_rup_Assume (a0 := s) K ?_
  unfold F_rup_Assume
  have st := Hs.start h [] (by simp)
  refine call_of (norm_c hA) ?_
  rintro _ h1 ⟨s', rfl, hn, x1⟩
  have st := st.new x1 hn
  cases hr : rightC c with
  | false =>
    have e1 : normP c = ([], false, 20) := by unfold normP; rw [hr]; rfl
    have e2 : assumeP c = ([], false, 20) := by unfold assumeP; rw [hr]; rfl
    rw [e1]
    refine jn_in fun J hJ => brT rfl (hJ _ _ (brT rfl (hK _ _ ⟨⟨none, 0, 0⟩, by rw [e2], by rw [e2]; exact osl_nil _ _, x1⟩)))
  | true =>
    have e1 : normP c = (nrm c, alwaysC c, 0) := by unfold normP; rw [hr]; rfl
    rw [e1] at st ⊢
    refine jn_in fun J hJ => brF rfl (hJ _ _ ?_)
    cases ha : alwaysC c with
    | true =>
      have e2 : assumeP c = ([], true, 0) := by unfold assumeP; rw [hr, ha]; rfl
      exact brT rfl (hK _ _ ⟨⟨none, 0, 0⟩, by rw [e2], by rw [e2]; exact osl_nil _ _, x1⟩)
    | false =>
      have e2 : assumeP c = (negs c, false, 0) := by unfold assumeP; rw [hr, ha]; rfl
      refine brF rfl ?_
      have hln := nrm_length c
      have hlc := rightC_len hr
      have ls := osl_len (st.own 0 rfl)
      have st := st.nil ty_lits_Lit i64.enc none
      refine lfp_invh (I := fun m σ h' => ∃ (i : Nat) (o : Sl), σ = ((i : Int), o, ()) ∧ i ≤ (nrm c).length ∧ m = (nrm c).length - i ∧ Hs [([], h)] [] [lo (nrm c) s', lo (((nrm c).take i).map fun x => -x) o] h')
        ⟨_, 0, ⟨none, 0, 0⟩, rfl, by omega, rfl, st⟩ ?_
      rintro m σ h' X ⟨i, o, rfl, hi, rfl, st⟩ hX
      simp only
      by_cases hlt : i < (nrm c).length
      · refine brT (by rw [ls]; simpa using hlt) ?_
        refine rdE (τ := i64) (st.own 0 rfl).rsl hlt ?_
        refine call_of (lits_Neg_c _) ?_
        rintro _ h2 ⟨rfl, e⟩; subst e
        rw [negL_rt (rightC_rt hr _ ((mem_nrm hr).1 (List.getElem_mem hlt)))]
        refine st.nw fun b h3 st => ?_
        refine st.apd 1 2 rfl rfl (by decide) rfl (by simp; omega) (by decide) rfl fun s9 h4 st => ?_
        have st := st.drop 2 rfl
        rw [inc_i (by omega)]
        refine hX _ _ _ ⟨i + 1, s9, rfl, by omega, rfl, ?_⟩ (by omega)
        rw [take_lt hlt, List.map_append]; exact st
      · refine brF (by rw [ls]; simpa using hlt) ?_
        have : i = (nrm c).length := by omega
        subst this
        rw [List.take_length] at st
        refine sortLit_c st 1 rfl (by simp; omega) fun ys h2 hp hs st => ?_
        have hs' : Strict ys := by
          have hnd : ys.Nodup := (hp.nodup_iff).2 (strict_negs hr ha).nodup
          refine hs.imp₂ ?_ hnd |>.imp (fun h => h)
          intro a b h1 h2
          cases hab : ltL a b with
          | true => rfl
          | false => exact absurd (ltL_total hab h1) h2
        have ey : ys = negs c := negs_unique hr ha hs' fun x => by
          rw [hp.mem_iff]; exact (mem_negs hr)
        subst ey
        have st := st.drop 0 rfl
        exact hK _ _ ⟨o, by rw [e2], by rw [e2]; exact st.res (by simp) 0 rfl, st.frame (by simp)⟩

/-- Clauses that are right, followed. -/
theorem followM_c (st : Hs fr G As h) (k : Nat) (hk : As[k]? = some (vals b A)) (ho : okA A = true) (hA : lli cs s ∈ G) (hr : ∀ c ∈ cs, rightC c = true) (hl : cs.length ≤ 1048576) {K : (Sl × Int × Bool × Int × Unit) → HP}
    (hK : ∀ s' A' h', Hs fr G (As.set k (vals b A') ++ [lo (followP A cs).1 s']) h' → K (s', ((followP A cs).2.1 : Nat), (followP A cs).2.2.1, (followP A cs).2.2.2, ()) h') :
    callT Try.prog fn_rup_values_follow #[.map (some b), .slice s.a s.len s.cap] (.tup (.cons .sl (.cons (.int .i64) (.cons .bool (.cons (.int .i64) .nil))))) K h := by
  refine S_rup_values_follow (a0 := .map (some b)) (a1 := s) K ?_
  unfold F_rup_values_follow
  obtain ⟨S1, st, back⟩ := st.within k hk
  have ls := rsg_len (st.fzm hA)
  have st := st.nil ty_lits_Lit i64.enc none
  refine lfp_invh (I := fun m σ h' => ∃ (i : Nat) (o : Sl) (x1 : Int) (x2 : Bool) (x3 : Int) (x4 : Sl) (more : List Int), σ = ((i : Int), o, x1, x2, x3, x4, ()) ∧ i ≤ cs.length ∧ m = cs.length - i ∧ more.length = i ∧ okA (A ++ more) = true ∧
      followGo (A ++ more) (cs.drop i) more i = followP A cs ∧ Hs [(S1, h)] G [vals b (A ++ more), lo more o] h')
    ⟨_, 0, ⟨none, 0, 0⟩, 0, false, 0, ⟨none, 0, 0⟩, [], rfl, by omega, rfl, rfl, by simpa using ho, by simp [followP], by simpa using st⟩ ?_
  rintro m σ h' X ⟨i, o, x1, x2, x3, x4, more, rfl, hi, rfl, hml, hok, hf, st⟩ hX
  simp only
  by_cases hlt : i < cs.length
  · refine brT (by rw [ls]; simpa using hlt) ?_
    rw [List.drop_eq_getElem_cons hlt] at hf
    simp only [followGo] at hf
    refine rdG (st.fzm hA) hlt fun p hp => ?_
    have hri := hr _ (List.getElem_mem hlt)
    refine call_of (look_c (st.own 0 rfl) hok hp (rightC_rt hri) (by have := rightC_len hri; omega)) ?_
    rintro _ h2 ⟨rfl, e⟩; subst e
    by_cases h2 : (lookP (A ++ more) cs[i]).1 = 2
    · rw [if_pos h2] at hf
      refine brT (by simpa using h2) ?_
      rw [inc_i (by omega)]
      have st := back _ _ _ st
      have := hK o (A ++ more) _ (by rw [← hf]; exact st)
      rw [← hf] at this
      exact this
    · rw [if_neg h2] at hf
      refine brF (by simpa using h2) ?_
      by_cases h3 : (lookP (A ++ more) cs[i]).1 = 3
      · rw [if_pos h3] at hf
        have hu := look_unit' h3
        have hrt := rightC_rt hri _ hu.2.1
        refine brT (by simpa using h3) ?_
        refine st.nw fun b5 h3 st => ?_
        refine st.apd 1 2 rfl rfl (by decide) rfl (by rw [hml]; omega) (by decide) rfl fun s6 h4 st => ?_
        have st := st.drop 2 rfl
        refine Hs.putV st 0 rfl hrt hu.2.2.1 fun h5 st => ?_
        rw [inc_i (by omega)]
        have hok' := okA_snoc hok hrt hu.2.2.1
        rw [List.append_assoc] at hf hok'
        refine hX _ _ _ ⟨i + 1, s6, x1, x2, x3, x4, more ++ [(lookP (A ++ more) cs[i]).2], rfl, by omega, rfl, by simp [hml], hok', hf, ?_⟩ (by omega)
        rw [← List.append_assoc]; exact st
      · rw [if_neg h3] at hf
        refine brF (by simpa using h3) ?_
        have st := ((st.drop 1 rfl).nil ty_lits_Lit i64.enc none)
        have st := back _ _ _ st
        have := hK ⟨none, 0, 0⟩ (A ++ more) _ (by rw [← hf]; exact st)
        rw [← hf] at this
        exact this
  · refine brF (by rw [ls]; simpa using hlt) ?_
    have : i = cs.length := by omega
    subst this
    rw [List.drop_eq_nil_of_le (by omega)] at hf
    simp only [followGo] at hf
    have st := back _ _ _ st
    have := hK o (A ++ more) _ (by rw [← hf]; exact st)
    rw [← hf] at this
    rw [ls]
    exact this

end Go.Proofs.S
