/-
  The package rup: values of variables, what a clause is: contracts.
-/
import Derived.Test.YtjkgncibelojnaaGreatSxW3
import Derived.Test.YtjkgncibelojnaaGreatSxSg
import Derived.Test.YtjkgncibelojnaaGreatRpR
set_option linter.unusedVariables false
set_option linter.unusedSimpArgs false
namespace Go.Proofs.S
open Go Go.Sx Go.Proofs Go.Cl Go.Rp
variable {h : Heap} {c d A : List Int} {s s2 : Sl} {fr : Fr} {G As : List Asn} {b : Nat}
abbrev τ3 : Ty := .tup (.cons (.int .u8) (.cons i64 .nil))
theorem lits_Negated_c (x : Int) : callT Tryz.prog fn_lits_Negated #[.int .i64 x] .bool (fun r h' => r = (rt x && decide (x < 0)) ∧ h' = h) h := by
  refine callT_gen fun K hK => S_lits_Negated (a0 := x) K ?_
  unfold F_lits_Negated
  refine call_of (lits_Right_c x) ?_
  rintro _ h' ⟨rfl, rfl⟩
  cases hx : rt x
  · exact brF rfl (hK _ _ ⟨by rw [hx]; rfl, rfl⟩)
  · exact brT rfl (hK _ _ ⟨by rw [hx]; rfl, rfl⟩)
def vf (A : List Int) (y : Int) : Option Int := if 0 < y then (if y ∈ A then some 1 else if -y ∈ A then some (-1) else none) else none
abbrev vals (b : Nat) (A : List Int) : Asn := mp b .i64 i64 (vf A)
theorem vf_put {l : Int} (hl : rt l = true) (hn : -l ∉ A) :
    (fun y => if y = (if l < 0 then -l else l) then some (if l < 0 then (-1 : Int) else 1) else vf A y) = vf (A ++ [l]) := by
  have h0 := rt_iff.1 hl
  funext y
  unfold vf
  by_cases hneg : l < 0
  · simp only [if_pos hneg]
    by_cases hy : y = -l
    · subst hy
      have : ¬ (-l ∈ A ++ [l]) := by simp only [List.mem_append, List.mem_singleton, not_or]; exact ⟨hn, by omega⟩
      rw [if_pos rfl, if_pos (by omega), if_neg this, if_pos (by simp)]
    · rw [if_neg hy]
      by_cases hy0 : 0 < y
      · rw [if_pos hy0, if_pos hy0]
        have e1 : (y ∈ A ++ [l]) ↔ y ∈ A := by simp only [List.mem_append, List.mem_singleton]; constructor; (rintro (h | h); exact h; omega); exact .inl
        have e2 : (-y ∈ A ++ [l]) ↔ -y ∈ A := by simp only [List.mem_append, List.mem_singleton]; constructor; (rintro (h | h); exact h; omega); exact .inl
        simp only [e1, e2]
      · rw [if_neg hy0, if_neg hy0]
  · simp only [if_neg hneg]
    by_cases hy : y = l
    · subst hy
      rw [if_pos rfl, if_pos (by omega), if_pos (by simp)]
    · rw [if_neg hy]
      by_cases hy0 : 0 < y
      · rw [if_pos hy0, if_pos hy0]
        have e1 : (y ∈ A ++ [l]) ↔ y ∈ A := by simp only [List.mem_append, List.mem_singleton]; constructor; (rintro (h | h); exact h; omega); exact .inl
        have e2 : (-y ∈ A ++ [l]) ↔ -y ∈ A := by simp only [List.mem_append, List.mem_singleton]; constructor; (rintro (h | h); exact h; omega); exact .inl
        simp only [e1, e2]
      · rw [if_neg hy0, if_neg hy0]
theorem of_c (hA : At h (vals b A)) (ho : okA A = true) {l : Int} (hl : rt l = true) : callT Tryz.prog fn_rup_values_of #[.map (some b), .int .i64 l] (.int .i64) (fun r h' => r = valA A l ∧ h' = h) h := by
  have h0 := rt_iff.1 hl
  refine callT_gen fun K hK => S_rup_values_of (a0 := .map (some b)) (a1 := l) K ?_
  unfold F_rup_values_of
  refine call_of (lits_Var_c l) ?_
  rintro _ h1 ⟨rfl, e⟩; subst e
  rw [if_pos hl]
  refine mget_ok (z := (0 : Int)) hA ?_
  refine call_of (lits_Negated_c l) ?_
  rintro _ h2 ⟨rfl, e⟩; subst e
  rw [hl, Bool.true_and]
  have nb := (okA_iff.1 ho).2
  by_cases hneg : l < 0
  · refine brT (decide_eq_true hneg) (hK _ _ ⟨?_, rfl⟩)
    rw [if_pos hneg]
    unfold vf valA
    rw [if_pos (by omega), Int.neg_neg]
    by_cases h1 : l ∈ A
    · have : -l ∉ A := nb l h1
      rw [if_neg this, if_pos h1, if_pos h1]; rfl
    · by_cases h2 : -l ∈ A
      · rw [if_pos h2, if_neg h1, if_pos h2]; rfl
      · rw [if_neg h2, if_neg h1, if_neg h1, if_neg h2]; rfl
  · refine brF (decide_eq_false hneg) (hK _ _ ⟨?_, rfl⟩)
    rw [if_neg hneg]
    unfold vf valA
    rw [if_pos (by omega)]
    split
    · rfl
    · split <;> rfl
theorem Hs.putV (st : Hs fr G As h) (k : Nat) (hk : As[k]? = some (vals b A)) {l : Int} (hl : rt l = true) (hn : -l ∉ A) {K : Unit → HP}
    (hK : ∀ h', Hs fr G (As.set k (vals b (A ++ [l]))) h' → K () h') : callT Tryz.prog fn_rup_values_put #[.map (some b), .int .i64 l] (.tup .nil) K h := by
  have h0 := rt_iff.1 hl
  refine S_rup_values_put (a0 := .map (some b)) (a1 := l) K ?_
  unfold F_rup_values_put
  refine call_of (lits_Var_c l) ?_
  rintro _ h1 ⟨rfl, e⟩; subst e
  rw [if_pos hl]
  refine Hs.mput (v := (1 : Int)) st k hk fun h2 st => ?_
  refine call_of (lits_Negated_c l) ?_
  rintro _ h3 ⟨rfl, e⟩; subst e
  rw [hl, Bool.true_and]
  refine jn_in fun J hJ => ?_
  have e := vf_put hl hn
  by_cases hneg : l < 0
  · refine brT (decide_eq_true hneg) ?_
    refine call_of (lits_Var_c l) ?_
    rintro _ h4 ⟨rfl, e4⟩; subst e4
    rw [if_pos hl]
    have hkl : k < As.length := (List.getElem?_eq_some_iff.1 hk).1
    refine Hs.mput (b := b) (κ := .i64) (τ := i64) (v := (-1 : Int)) (f := fun y => if y = (if l < 0 then -l else l) then some (1 : Int) else vf A y) st k (by rw [List.getElem?_set_self hkl]) fun h5 st => ?_
    refine hJ _ _ (hK _ ?_)
    show Hs fr G (As.set k (mp b .i64 i64 (vf (A ++ [l])))) _
    rw [← e]
    simp only [List.set_set, if_pos hneg] at st ⊢
    have : (fun y => if y = -l then some (-1 : Int) else if y = -l then some 1 else vf A y) = (fun y => if y = -l then some (-1) else vf A y) := by
      funext y; split <;> rfl
    rw [this] at st; exact st
  · refine brF (decide_eq_false hneg) (hJ _ _ (hK _ ?_))
    show Hs fr G (As.set k (mp b .i64 i64 (vf (A ++ [l])))) _
    rw [← e]
    simp only [if_neg hneg] at st ⊢
    exact st
theorem take_lt {α : Type} {L : List α} {i : Nat} (hi : i < L.length) : L.take (i + 1) = L.take i ++ [L[i]] := by simp
theorem assigned_c (st : Hs fr G As h) (hA : At h (li A s)) (hlen : A.length ≤ 1099511627776) {K : (Value × Bool × Unit) → HP}
    (ok : okA A = true → ∀ b h', Hs fr G (As ++ [vals b A]) h' → K (.map (some b), true, ()) h') (no : okA A = false → ∀ h', Hs fr G As h' → K (.map none, false, ()) h') :
    callT Tryz.prog fn_rup_assigned #[.slice s.a s.len s.cap] (.tup (.cons .val (.cons .bool .nil))) K h := by
  refine S_rup_assigned (a0 := s) K ?_
  unfold F_rup_assigned
  obtain ⟨st, back⟩ := st.beside
  refine st.mkm .i64 i64 fun b h1 st => ?_
  have ls := rsl_len hA
  have e0 : (fun _ : Int => (none : Option Int)) = vf [] := by funext y; simp [vf]
  rw [show (fun _ => none : Int → Option i64.T) = vf [] from e0] at st
  refine lfp_invh (I := fun m σ h' => ∃ (i : Nat) (bb : Bool) (vv : Value), σ = ((i : Int), bb, vv, ()) ∧ i ≤ A.length ∧ m = A.length - i ∧ okA (A.take i) = true ∧ Hs [([], h)] G [vals b (A.take i)] h')
    ⟨_, 0, false, .map none, rfl, by omega, rfl, by rw [List.take_zero]; rfl, by simpa using st⟩ ?_
  rintro m σ h' X ⟨i, bb, vv, rfl, hi, rfl, ho, st⟩ hX
  simp only
  by_cases hlt : i < A.length
  · refine brT (by simp; omega) ?_
    refine rdE (τ := i64) (hA.ext (st.frame (by simp))) hlt ?_
    refine call_of (lits_Right_c _) ?_
    rintro _ h2 ⟨rfl, e⟩; subst e
    have etk := take_lt hlt
    refine jn_mid (M := fun t h'' => t = !(rt A[i] && !(A.take i).contains (-A[i])) ∧ h'' = h2) ?_ ?_
    rotate_left
    · intro J hJ
      cases hr : rt A[i]
      · exact brT rfl (hJ _ _ ⟨by rw [hr]; rfl, rfl⟩)
      · refine brF rfl ?_
        refine call_of (of_c (st.own 0 rfl) ho hr) ?_
        rintro _ h3 ⟨rfl, e⟩; subst e
        refine hJ _ _ ⟨?_, rfl⟩
        have x0 := rt_iff.1 hr
        unfold valA
        by_cases h1 : A[i] ∈ A.take i
        · have : -A[i] ∉ A.take i := (okA_iff.1 ho).2 _ h1
          have hcf : (A.take i).contains (-A[i]) = false := by simpa using this
          rw [if_pos h1, hr, hcf]; rfl
        · rw [if_neg h1]
          by_cases h2 : -A[i] ∈ A.take i
          · have hct : (A.take i).contains (-A[i]) = true := by simpa using h2
            rw [if_pos h2, hr, hct]; rfl
          · have hcf : (A.take i).contains (-A[i]) = false := by simpa using h2
            rw [if_neg h2, hr, hcf]; rfl
    rintro _ h3 ⟨rfl, e⟩; subst e
    cases hc : (rt A[i] && !(A.take i).contains (-A[i]))
    · refine brT rfl ?_
      refine no ?_ _ (by simpa using back _ _ (st.drop 0 rfl))
      cases hh : okA A with
      | false => rfl
      | true =>
        exfalso
        have hp : okA (A.take (i + 1)) = true := okA_prefix (B := A.drop (i + 1)) (by rw [List.take_append_drop]; exact hh)
        rw [etk] at hp
        obtain ⟨a, b⟩ := okA_iff.1 hp
        have hm : A[i] ∈ A.take i ++ [A[i]] := List.mem_append_right _ (List.mem_singleton.2 rfl)
        have h1 := a A[i] hm
        have h2 := b A[i] hm
        rw [h1, Bool.true_and, Bool.not_eq_false'] at hc
        exact h2 (List.mem_append_left _ (List.contains_iff_mem.1 hc))
    · rw [Bool.and_eq_true, Bool.not_eq_true'] at hc
      have hc : rt A[i] = true ∧ -A[i] ∉ A.take i := ⟨hc.1, fun hm => by rw [List.contains_iff_mem.2 hm] at hc; exact absurd hc.2 (by decide)⟩
      refine brF rfl ?_
      refine Hs.putV st 0 rfl hc.1 hc.2 fun h4 st => ?_
      rw [inc_i (by omega)]
      have ho' : okA (A.take (i + 1)) = true := by rw [etk]; exact okA_snoc ho hc.1 hc.2
      exact hX _ _ _ ⟨i + 1, bb, vv, rfl, by omega, rfl, ho', by rw [etk]; exact st⟩ (by omega)
  · refine brF (by simp; omega) ?_
    have : i = A.length := by omega
    subst this
    rw [List.take_length] at ho st
    exact ok ho _ _ (back _ _ st)
theorem look_c (hV : At h (vals b A)) (ho : okA A = true) (hA : At h (li c s)) (hr : ∀ x ∈ c, rt x = true) (hlen : c.length ≤ 1099511627776) :
    callT Tryz.prog fn_rup_values_look #[.map (some b), .slice s.a s.len s.cap] τ3 (fun r h' => r = ((lookP A c).1, (lookP A c).2, ()) ∧ h' = h) h := by
  refine callT_gen fun K hK => S_rup_values_look (a0 := .map (some b)) (a1 := s) K ?_
  unfold F_rup_values_look
  have ls := rsl_len hA
  have hr0 : ∀ x ∈ c, x ≠ 0 := fun x hx => (rt_iff.1 (hr x hx)).1
  refine jn_mid (M := fun σ h' => h' = h ∧ (if σ.2.2.1 ≠ 3 then (σ.2.2.1, 0) else (σ.2.2.1, σ.2.1)) = lookP A c) ?_ ?_
  · rintro ⟨i, u, k, _⟩ h1 ⟨e, hk⟩
    subst e
    simp only at hk ⊢
    refine jn_in fun J hJ => ?_
    by_cases h3 : k = 3
    · refine brF (by simp [h3]) (hJ _ _ (hK _ _ ⟨?_, rfl⟩))
      rw [if_neg (by simp [h3])] at hk
      rw [← hk]
    · refine brT (by simpa using h3) (hJ _ _ (hK _ _ ⟨?_, rfl⟩))
      rw [if_pos h3] at hk
      rw [← hk]
  intro J0 hJ0
  refine lfp_invh (I := fun m σ h' => ∃ (i : Nat) (u k : Int), σ = ((i : Int), u, k, ()) ∧ i ≤ c.length ∧ m = c.length - i ∧ lookGo A (c.drop i) k u = lookP A c ∧ h' = h)
    ⟨_, 0, 0, 2, rfl, by omega, rfl, by rw [List.drop_zero]; exact lookGo_look hr0, rfl⟩ ?_
  rintro m σ h' X ⟨i, u, k, rfl, hi, rfl, hg, e⟩ hX
  subst e
  simp only
  by_cases hlt : i < c.length
  · refine brT (by simp; omega) ?_
    rw [List.drop_eq_getElem_cons hlt] at hg
    simp only [lookGo] at hg
    refine jn_in fun J6 hJ6 => ?_
    have next : ∀ u k : Int, lookGo A (c.drop (i + 1)) k u = lookP A c → J6 (u, k, ()) h' := fun u k hg => by
      refine hJ6 _ _ ?_
      simp only
      rw [inc_i (by omega)]
      exact hX _ _ _ ⟨i + 1, u, k, rfl, by omega, rfl, hg, rfl⟩ (by omega)
    refine rdE (τ := i64) hA hlt ?_
    refine call_of (of_c hV ho (hr _ (List.getElem_mem hlt))) ?_
    rintro _ h2 ⟨rfl, e⟩; subst e
    by_cases h1 : valA A c[i] > 0
    · refine brT (decide_eq_true h1) (hJ0 _ _ ⟨rfl, ?_⟩)
      rw [if_pos h1] at hg
      rw [← hg]; rfl
    · rw [if_neg h1] at hg
      refine brF (decide_eq_false h1) ?_
      refine jn_mid (M := fun t h'' => t = decide (valA A c[i] < 0 ∨ c[i] = u) ∧ h'' = h2) ?_ ?_
      rotate_left
      · intro J hJ
        by_cases h2 : valA A c[i] < 0
        · refine brT (decide_eq_true h2) (hJ _ _ ⟨?_, rfl⟩)
          symm; exact decide_eq_true (.inl h2)
        · refine brF (decide_eq_false h2) (hJ _ _ ⟨?_, rfl⟩)
          by_cases h3 : c[i] = u
          · rw [decide_eq_true (.inr h3)]; simpa using h3
          · rw [decide_eq_false (by simp [h2, h3])]; simpa using h3
      rintro _ h3 ⟨rfl, e⟩; subst e
      by_cases h2 : valA A c[i] < 0 ∨ c[i] = u
      · rw [if_pos h2] at hg
        exact brT (decide_eq_true h2) (next _ _ hg)
      · rw [if_neg h2] at hg
        refine brF (decide_eq_false h2) ?_
        refine jn_in fun J13 hJ13 => ?_
        by_cases h4 : u = 0
        · rw [if_pos h4] at hg
          exact brT (by simpa using h4) (hJ13 _ _ (next _ _ hg))
        · rw [if_neg h4] at hg
          exact brF (by simpa using h4) (hJ13 _ _ (next _ _ hg))
  · refine brF (by simp; omega) (hJ0 _ _ ⟨rfl, ?_⟩)
    rw [List.drop_eq_nil_of_le (by omega)] at hg
    simp only [lookGo] at hg
    exact hg
end Go.Proofs.S
namespace Go.Proofs.S
open Go Go.Sx Go.Proofs Go.Cl Go.Rp
variable {h : Heap} {c d A : List Int} {cs ds : List (List Int)} {s s2 : Sl} {fr : Fr} {G As : List Asn} {b : Nat}
abbrev lli (cs : List (List Int)) (s : Sl) : Asn := rsg (fun c p => li c p) cs s
theorem lli_open (hA : At h (lli cs s)) : ∃ ps, ps.length = cs.length ∧ At h (rsl Ty.sl.enc ps s) ∧ ∀ i (h1 : i < cs.length) (h2 : i < ps.length), At h (li cs[i] ps[i]) := rsg_open hA
theorem lli_one {p : Sl} {t : TypeId} (hb : Blk h b t [.slice p.a p.len p.cap]) (hA : At h (li c p)) : At h (lli [c] ⟨some ⟨b, 0, none⟩, 1, 1⟩) := by
  refine rsg_at (ps := [p]) rfl ⟨[b], rfl, by simp, .inr ⟨⟨b, 0, none⟩, rfl, rfl, hb.isCells, fun i x hi => ?_⟩⟩ fun i h1 h2 => ?_
  · match i, hi with
    | 0, hi => simp at hi; subst hi; rw [addr_add, cell_blk hb]; rfl
    | i + 1, hi => simp at hi
  · simp at h1; subst h1; exact hA
theorem cloneG_c {ps : List Sl} {K : Sl → HP} (st : Hs fr G As h) (hy : At h (rsl Ty.sl.enc ps s)) (hlen : ps.length ≤ 1048576) (hK : ∀ s' h', Hs fr G (As ++ [osl ty_clauses_Clause Ty.sl.enc ps s']) h' → K s' h') :
    callT Tryz.prog fn_slices_Clone_clauses_Clause_clauses_Clause #[.slice s.a s.len s.cap] .sl K h :=
  S_slices_Clone_clauses_Clause_clauses_Clause (a0 := s) K (Hs.clone (τ := .sl) (t := ty_clauses_Clause) (by_ := 24) (z := .slice none 0 0) st hy leaf_sl (by omega) (by decide) hK)
theorem cloneL_c {K : Sl → HP} (st : Hs fr G As h) (hy : At h (li c s)) (hlen : c.length ≤ 1099511627776) (hK : ∀ s' h', Hs fr G (As ++ [lo c s']) h' → K s' h') :
    callT Tryz.prog fn_slices_Clone_lits_Lit_lits_Lit #[.slice s.a s.len s.cap] .sl K h :=
  S_slices_Clone_lits_Lit_lits_Lit (a0 := s) K (Hs.clone (τ := i64) (t := ty_lits_Lit) (by_ := 8) (z := .int .i64 0) st hy leaf_int (by omega) (by decide) hK)
theorem wrong_c (hA : At h (lli cs s)) (hB : At h (lli ds s2)) (hl : cs.length ≤ 1048576) (hl2 : ds.length ≤ 1048576) :
    callT Tryz.prog fn_rup_wrong #[.slice s.a s.len s.cap, .slice s2.a s2.len s2.cap] (.int .i64) (fun r h' => r = (if wrongP (cs ++ ds) then 20 else 0) ∧ Ext [] h h') h := by
  refine callT_gen fun K hK => S_rup_wrong (a0 := s) (a1 := s2) K ?_
  unfold F_rup_wrong
  obtain ⟨ps, pl, pA, pI⟩ := lli_open hA
  obtain ⟨qs, ql, qA, qI⟩ := lli_open hB
  have st := Hs.start h [] (by simp)
  refine cloneG_c st pA (by omega) fun s0 h1 st => ?_
  refine st.apdS (τ := .sl) 0 rfl (qA.ext (st.frame (by simp))) leaf_sl (by rw [pl, ql]; omega) (by decide) fun s1 h2 st => ?_
  have hlen := osl_len (st.own 0 rfl)
  have hin : ∀ i (h1 : i < (cs ++ ds).length) (h2 : i < (ps ++ qs).length), At h (li (cs ++ ds)[i] (ps ++ qs)[i]) := by
    intro i h1 h2
    by_cases hi : i < cs.length
    · rw [List.getElem_append_left hi, List.getElem_append_left (by omega)]; exact pI i hi (by omega)
    · rw [List.getElem_append_right (by omega), List.getElem_append_right (by omega)]
      have := qI (i - cs.length) (by simp at h1; omega) (by simp at h2; omega)
      simp only [pl]; exact this
  have hlen2 : (ps ++ qs).length = (cs ++ ds).length := by simp [pl, ql]
  refine lfp_invh (I := fun m σ h' => ∃ (i : Nat) (e : Int), σ = ((i : Int), e, ()) ∧ i ≤ (cs ++ ds).length ∧ m = (cs ++ ds).length - i ∧ (∀ j (hj : j < (cs ++ ds).length), j < i → rightC (cs ++ ds)[j] = true) ∧ Hs [([], h)] [] [osl ty_clauses_Clause Ty.sl.enc (ps ++ qs) s1] h')
    ⟨_, 0, 0, rfl, by omega, rfl, fun j hj h => by omega, st⟩ ?_
  rintro m σ h' X ⟨i, e, rfl, hi, rfl, hp, st⟩ hX
  simp only
  by_cases hlt : i < (cs ++ ds).length
  · refine brT (by rw [hlen]; simp at hlt ⊢; omega) ?_
    refine rdE (τ := .sl) (st.own 0 rfl).rsl (i := i) (by omega) ?_
    refine call_of (right_c ((hin i hlt (by omega)).ext (st.frame (by simp)))) ?_
    rintro _ h3 ⟨rfl, x3⟩
    have st := st.ext x3
    cases hr : rightC (cs ++ ds)[i]
    · refine brT rfl (hK _ _ ⟨?_, st.frame (by simp)⟩)
      have : wrongP (cs ++ ds) = true := by
        unfold wrongP
        rw [Bool.not_eq_true', List.all_eq_false]
        exact ⟨_, List.getElem_mem hlt, by rw [hr]; decide⟩
      rw [if_pos this]
    · refine brF rfl ?_
      rw [inc_i (by simp at hlt; omega)]
      refine hX _ _ _ ⟨i + 1, e, rfl, by omega, rfl, fun j hj hji => ?_, st⟩ (by omega)
      by_cases hji' : j = i
      · subst hji'; exact hr
      · exact hp j hj (by omega)
  · refine brF (by rw [hlen]; simp at hlt ⊢; omega) (hK _ _ ⟨?_, st.frame (by simp)⟩)
    have : wrongP (cs ++ ds) = false := by
      unfold wrongP
      rw [Bool.not_eq_false', List.all_eq_true]
      intro x hx
      obtain ⟨j, hj, rfl⟩ := List.mem_iff_getElem.1 hx
      exact hp j hj (by omega)
    rw [this]; rfl
theorem many_c (hA : At h (lli cs s)) : callT Tryz.prog fn_rup_many #[.slice s.a s.len s.cap] (.int .i64) (fun r h' => r = (if cs.length > 65536 then 5 else 0) ∧ h' = h) h := by
  refine callT_gen fun K hK => S_rup_many (a0 := s) K ?_
  unfold F_rup_many
  have := rsg_len hA
  by_cases hc : cs.length > 65536
  · exact brT (by simp; omega) (hK _ _ ⟨by rw [if_pos hc], rfl⟩)
  · exact brF (by simp; omega) (hK _ _ ⟨by rw [if_neg hc], rfl⟩)
def firstNZ : List Int → Int
  | [] => 0
  | x :: r => if x ≠ 0 then x else firstNZ r
theorem first_c {es : List Int} (hA : At h (li es s)) (hl : es.length ≤ 1048576) : callT Tryz.prog fn_rup_first #[.slice s.a s.len s.cap] (.int .i64) (fun r h' => r = firstNZ es ∧ h' = h) h := by
  refine callT_gen fun K hK => S_rup_first (a0 := s) K ?_
  unfold F_rup_first
  have ls := rsl_len hA
  refine lfp_invh (I := fun m σ h' => ∃ (i : Nat) (e : Int), σ = ((i : Int), e, ()) ∧ i ≤ es.length ∧ m = es.length - i ∧ firstNZ (es.drop i) = firstNZ es ∧ h' = h) ⟨_, 0, 0, rfl, by omega, rfl, rfl, rfl⟩ ?_
  rintro m σ h' X ⟨i, e, rfl, hi, rfl, hf, eh⟩ hX
  subst eh
  simp only
  by_cases hlt : i < es.length
  · refine brT (by simp; omega) ?_
    refine rdE (τ := i64) hA hlt ?_
    rw [List.drop_eq_getElem_cons hlt] at hf
    simp only [firstNZ] at hf
    by_cases h0 : es[i] ≠ 0
    · rw [if_pos h0] at hf
      exact brT (by simpa using h0) (hK _ _ ⟨hf, rfl⟩)
    · rw [if_neg h0] at hf
      refine brF (by simpa using h0) ?_
      rw [inc_i (by omega)]
      exact hX _ _ _ ⟨i + 1, e, rfl, by omega, rfl, hf, rfl⟩ (by omega)
  · refine brF (by simp; omega) (hK _ _ ⟨?_, rfl⟩)
    rw [List.drop_eq_nil_of_le (by omega)] at hf
    exact hf
theorem first2_c {x y : Int} (st : Hs fr G As h) {K : Int → HP} (hK : ∀ h', Hs fr G As h' → K (if x ≠ 0 then x else y) h') :
    (nw #[(.int .i64 x), (.int .i64 y)] ty_api_Errno fun b7 => callT Tryz.prog fn_rup_first #[(.slice (some (⟨b7, 0, none⟩ : Addr)) 2 2)] (.int .i64) K) h := by
  obtain ⟨st, back⟩ := st.beside
  refine st.nw fun b h1 st => ?_
  have st := st.asSl 0 (Value.int .i64) [x, y] rfl rfl
  refine call_of (first_c (s := ⟨some ⟨b, 0, none⟩, 2, 2⟩) (st.own 0 rfl).rsl (by simp)) ?_
  rintro _ h2 ⟨rfl, e⟩; subst e
  have e1 : firstNZ [x, y] = if x ≠ 0 then x else y := by
    unfold firstNZ firstNZ firstNZ
    by_cases hx : x ≠ 0
    · rw [if_pos hx, if_pos hx]
    · rw [if_neg hx, if_neg hx]
      by_cases hy : y = 0 <;> simp [hy]
  rw [e1]
  exact hK _ (by simpa using back _ _ (st.drop 0 rfl))
def lookF (A c : List Int) : Int × Int × Int := if !rightC c then (0, 0, 20) else if !okA A then (0, 0, 80) else ((lookP A c).1, (lookP A c).2, 0)
theorem Look_c (hA : At h (li c s)) (hB : At h (li A s2)) (hl : c.length ≤ 1099511627776) (hl2 : A.length ≤ 1099511627776) :
    callT Tryz.prog fn_rup_Look #[.slice s.a s.len s.cap, .slice s2.a s2.len s2.cap] (.tup (.cons (.int .u8) (.cons i64 (.cons (.int .i64) .nil))))
      (fun r h' => r = ((lookF A c).1, (lookF A c).2.1, (lookF A c).2.2, ()) ∧ Ext [] h h') h := by
  refine callT_gen fun K hK => S_rup_Look (a0 := s) (a1 := s2) K ?_
  unfold F_rup_Look
  have st := Hs.start h [] (by simp)
  have wr : ∀ h', Hs [([], h)] [] [] h' → rightC c = false → K (0, 0, 20, ()) h' := fun h' st hr =>
    hK _ _ ⟨by unfold lookF; rw [hr]; rfl, st.frame (by simp)⟩
  refine assigned_c st hB hl2 (fun ho bv h1 st => ?_) (fun ho h1 st => ?_)
  · refine call_of (right_c (hA.ext (st.frame (by simp)))) ?_
    rintro _ h2 ⟨rfl, x2⟩
    have st := st.ext x2
    cases hr : rightC c
    · exact brT rfl (wr _ (st.drop 0 rfl) hr)
    · refine brF rfl (brF rfl ?_)
      refine call_of (look_c (st.own 0 rfl) ho (hA.ext (st.frame (by simp))) (rightC_rt hr) hl) ?_
      rintro _ h3 ⟨rfl, e⟩; subst e
      refine hK _ _ ⟨?_, st.frame (by simp)⟩
      unfold lookF; rw [hr, ho]; rfl
  · refine call_of (right_c (hA.ext (st.frame (by simp)))) ?_
    rintro _ h2 ⟨rfl, x2⟩
    have st := st.ext x2
    cases hr : rightC c
    · exact brT rfl (wr _ st hr)
    · refine brF rfl (brT rfl (hK _ _ ⟨?_, st.frame (by simp)⟩))
      unfold lookF; rw [hr, ho]; rfl
theorem sortLit_c {xs : List Int} (st : Hs fr G As h) (k : Nat) (hk : As[k]? = some (lo xs s)) (hlen : xs.length ≤ 1099511627776) {K : Unit → HP}
    (hK : ∀ (ys : List Int) (h' : Heap), ys.Perm xs → ys.Pairwise (fun a b => ltL b a = false) → Hs fr G (As.set k (lo ys s)) h' → K () h') :
    callT Tryz.prog fn_slices_SortFunc_lits_Lit_lits_Lit #[.slice s.a s.len s.cap, .func (.func fn_lits_Compare) #[] #[]] (.tup .nil) K h := by
  refine S_slices_SortFunc_lits_Lit_lits_Lit (a0 := s) (a1 := .func (.func fn_lits_Compare) #[] #[]) K ?_
  unfold F_slices_SortFunc_lits_Lit_lits_Lit
  refine Hs.sort (τ := i64) sorts_lits sorts_Lit_swo st k hk hlen (fun h' x y _ _ _ => ?_) K hK
  refine callF_of (compareF x y) ?_
  rintro r h'' ⟨rfl, e⟩
  subst e
  exact ⟨by unfold ltL; simp, Ext.refl' _ _⟩
theorem Assume_c (hA : At h (li c s)) (hl : c.length ≤ 1099511627776) : callT Tryz.prog fn_rup_Assume #[.slice s.a s.len s.cap] (.tup (.cons .sl (.cons .bool (.cons (.int .i64) .nil))))
    (fun r h' => ∃ s', r = (s', (assumeP c).2.1, (assumeP c).2.2, ()) ∧ New h.size h' (lo (assumeP c).1 s') ∧ Ext [] h h') h := by
  refine callT_gen fun K hK => S_rup_Assume (a0 := s) K ?_
  unfold F_rup_Assume
  have st := Hs.start h [] (by simp)
  refine call_of (norm_c hA) ?_
  rintro _ h1 ⟨s', rfl, hn, x1⟩
  have st := st.new x1 hn
  cases hr : rightC c with
  | false =>
    have e1 : normP c = ([], false, 20) := by unfold normP; rw [hr]; rfl
    have e2 : assumeP c = ([], false, 20) := by unfold assumeP; rw [hr]; rfl
    rw [e1]
    refine jn_in fun J hJ => brT rfl (hJ _ _ (brT rfl (hK _ _ ⟨⟨none, 0, 0⟩, by rw [e2], by rw [e2]; exact osl_nil _ _, x1⟩)))
  | true =>
    have e1 : normP c = (nrm c, alwaysC c, 0) := by unfold normP; rw [hr]; rfl
    rw [e1] at st ⊢
    refine jn_in fun J hJ => brF rfl (hJ _ _ ?_)
    cases ha : alwaysC c with
    | true =>
      have e2 : assumeP c = ([], true, 0) := by unfold assumeP; rw [hr, ha]; rfl
      exact brT rfl (hK _ _ ⟨⟨none, 0, 0⟩, by rw [e2], by rw [e2]; exact osl_nil _ _, x1⟩)
    | false =>
      have e2 : assumeP c = (negs c, false, 0) := by unfold assumeP; rw [hr, ha]; rfl
      refine brF rfl ?_
      have hln := nrm_length c
      have hlc := rightC_len hr
      have ls := osl_len (st.own 0 rfl)
      have st := st.nil ty_lits_Lit i64.enc none
      refine lfp_invh (I := fun m σ h' => ∃ (i : Nat) (o : Sl), σ = ((i : Int), o, ()) ∧ i ≤ (nrm c).length ∧ m = (nrm c).length - i ∧ Hs [([], h)] [] [lo (nrm c) s', lo (((nrm c).take i).map fun x => -x) o] h')
        ⟨_, 0, ⟨none, 0, 0⟩, rfl, by omega, rfl, st⟩ ?_
      rintro m σ h' X ⟨i, o, rfl, hi, rfl, st⟩ hX
      simp only
      by_cases hlt : i < (nrm c).length
      · refine brT (by rw [ls]; simpa using hlt) ?_
        refine rdE (τ := i64) (st.own 0 rfl).rsl hlt ?_
        refine call_of (lits_Neg_c _) ?_
        rintro _ h2 ⟨rfl, e⟩; subst e
        rw [negL_rt (rightC_rt hr _ ((mem_nrm hr).1 (List.getElem_mem hlt)))]
        refine st.nw fun b h3 st => ?_
        refine st.apd 1 2 rfl rfl (by decide) rfl (by simp; omega) (by decide) rfl fun s9 h4 st => ?_
        have st := st.drop 2 rfl
        rw [inc_i (by omega)]
        refine hX _ _ _ ⟨i + 1, s9, rfl, by omega, rfl, ?_⟩ (by omega)
        rw [take_lt hlt, List.map_append]; exact st
      · refine brF (by rw [ls]; simpa using hlt) ?_
        have : i = (nrm c).length := by omega
        subst this
        rw [List.take_length] at st
        refine sortLit_c st 1 rfl (by simp; omega) fun ys h2 hp hs st => ?_
        have hs' : Strict ys := by
          have hnd : ys.Nodup := (hp.nodup_iff).2 (strict_negs hr ha).nodup
          refine hs.imp₂ ?_ hnd |>.imp (fun h => h)
          intro a b h1 h2
          cases hab : ltL a b with
          | true => rfl
          | false => exact absurd (ltL_total hab h1) h2
        have ey : ys = negs c := negs_unique hr ha hs' fun x => by
          rw [hp.mem_iff]; exact (mem_negs hr)
        subst ey
        have st := st.drop 0 rfl
        exact hK _ _ ⟨o, by rw [e2], by rw [e2]; exact st.res (by simp) 0 rfl, st.frame (by simp)⟩
end Go.Proofs.S
