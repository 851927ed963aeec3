/-
  The reference of rat: Right, find, Find, has, always, Literal, Candidates, follow, open.
-/
import Derived.Test.YtjkgncibelojnaaGreatRaN
set_option linter.unusedVariables false
set_option linter.unusedSimpArgs false
namespace Go.Proofs.S
open Go Go.Sx Go.Proofs Go.Cl Go.Rp Go.Rt
variable {h : Heap} {c d A f ids hs : List Int} {l : List Ent} {cs : List (List Int)} {gs us vs : List Grp} {s s2 s3 s4 sc : Sl} {fr : Fr} {G As : List Asn} {id p n : Int} {i k : Nat} {b m : Nat}
theorem negW {x : Int} (hr : rt x = true) : IntKind.wrap .i64 (0 - x) = -x := by
  have := rt_iff.1 hr
  rw [wrap_i64 (by omega) (by omega)]; omega
theorem r9_has_c (hA : At h (li c s)) (hl : c.length ≤ 1099511627776) (v : Int) : callT Tryz.prog fn_salvorref09_has #[.slice s.a s.len s.cap, .int .i64 v] .bool (fun r h' => r = c.contains v ∧ h' = h) h := by
  refine callT_gen fun K hK => S_salvorref09_has (a0 := s) (a1 := v) K ?_
  unfold F_salvorref09_has
  have l1 := rsl_len hA
  refine lfp_invh (I := fun m σ h' => ∃ i : Nat, σ = ((i : Int), false, ()) ∧ i ≤ c.length ∧ v ∉ c.take i ∧ h' = h ∧ m = c.length - i) ⟨_, 0, rfl, by omega, by simp, rfl, rfl⟩ ?_
  rintro m σ h' X ⟨i, rfl, hi, hp, rfl, em⟩ hX
  simp only
  by_cases hlt : i < c.length
  · refine brT (by rw [l1]; exact dlt_t hlt) ?_
    rw [inc_i (by omega)]
    refine rdE (τ := i64) hA hlt ?_
    by_cases he : c[i] = v
    · refine brT (by simpa using he) (hK _ _ ⟨?_, rfl⟩)
      symm; rw [List.contains_iff_mem, ← he]; exact List.getElem_mem hlt
    · refine brF (by simpa using he) ?_
      exact hX _ _ _ ⟨i + 1, rfl, by omega, fun hx => by
        rw [take_lt hlt] at hx
        rcases List.mem_append.1 hx with hx | hx
        · exact hp hx
        · simp at hx; exact he hx.symm, rfl, rfl⟩ (by omega)
  · refine brF (by rw [l1]; exact dlt_f hlt) (hK _ _ ⟨?_, rfl⟩)
    rw [List.take_of_length_le (by omega)] at hp
    symm; simpa using hp
theorem r9_always_c (hA : At h (li c s)) (hr : rightC c = true) : callT Tryz.prog fn_salvorref09_always #[.slice s.a s.len s.cap] .bool (fun r h' => r = alwaysC c ∧ h' = h) h := by
  refine callT_gen fun K hK => S_salvorref09_always (a0 := s) K ?_
  unfold F_salvorref09_always
  have l1 := rsl_len hA
  have hcl := rightC_len hr
  refine lfp_invh (I := fun m σ h' => ∃ i : Nat, σ = ((i : Int), false, ()) ∧ i ≤ c.length ∧ (∀ x ∈ c.take i, c.contains (-x) = false) ∧ h' = h ∧ m = c.length - i) ⟨_, 0, rfl, by omega, by simp, rfl, rfl⟩ ?_
  rintro m σ h' X ⟨i, rfl, hi, hp, rfl, em⟩ hX
  simp only
  by_cases hlt : i < c.length
  · refine brT (by rw [l1]; exact dlt_t hlt) ?_
    refine rdE (τ := i64) hA hlt ?_
    rw [negW (rightC_rt hr _ (List.getElem_mem hlt))]
    refine call_of (r9_has_c hA (by omega) _) ?_
    rintro _ h2 ⟨rfl, e⟩; subst e
    cases hb : c.contains (-c[i]) with
    | true =>
      refine brT rfl (hK _ _ ⟨?_, rfl⟩)
      symm; unfold alwaysC
      exact List.any_eq_true.2 ⟨_, List.getElem_mem hlt, hb⟩
    | false =>
      refine brF rfl ?_
      rw [inc_i (by omega)]
      exact hX _ _ _ ⟨i + 1, rfl, by omega, fun x hx => by
        rw [take_lt hlt] at hx
        rcases List.mem_append.1 hx with hx | hx
        · exact hp x hx
        · simp at hx; subst hx; exact hb, rfl, rfl⟩ (by omega)
  · refine brF (by rw [l1]; exact dlt_f hlt) (hK _ _ ⟨?_, rfl⟩)
    rw [List.take_of_length_le (by omega)] at hp
    symm; unfold alwaysC
    exact List.any_eq_false.2 fun x hx => by rw [hp x hx]; simp
def findI (l : List Ent) (id : Int) : Int := match findE l id with | some i => (i : Int) | none => -1
theorem r9_find_c (hA : At h (ent l s)) (hl : l.length ≤ 1099511627776) (id : Int) : callT Tryz.prog fn_salvorref09_find #[.slice s.a s.len s.cap, .int .i64 id] (.int .i64) (fun r h' => r = findI l id ∧ h' = h) h := by
  refine callT_gen fun K hK => S_salvorref09_find (a0 := s) (a1 := id) K ?_
  unfold F_salvorref09_find
  have l1 := rsp_len hA
  refine lfp_invh (I := fun m σ h' => ∃ i : Nat, σ = ((i : Int), 0, ()) ∧ i ≤ l.length ∧ (∀ x ∈ l.take i, x.1 ≠ id) ∧ h' = h ∧ m = l.length - i) ⟨_, 0, rfl, by omega, by simp, rfl, rfl⟩ ?_
  rintro m σ h' X ⟨i, rfl, hi, hp, rfl, em⟩ hX
  simp only
  by_cases hlt : i < l.length
  · refine brT (by rw [l1]; exact dlt_t hlt) ?_
    refine rdPri hA hlt ?_
    by_cases he : l[i].1 = id
    · refine brT (by simpa using he) (hK _ _ ⟨?_, rfl⟩)
      have : findE l id = some i := by
        unfold findE
        rw [List.findIdx?_eq_some_iff_getElem]
        exact ⟨hlt, by simpa using he, fun j hj => by
          have := hp l[j] (List.mem_take_iff_getElem.2 ⟨j, by omega, rfl⟩)
          simpa using this⟩
      unfold findI; rw [this]
    · refine brF (by simpa using he) ?_
      rw [inc_i (by omega)]
      exact hX _ _ _ ⟨i + 1, rfl, by omega, fun x hx => by
        rw [take_lt hlt] at hx
        rcases List.mem_append.1 hx with hx | hx
        · exact hp x hx
        · simp at hx; subst hx; exact he, rfl, rfl⟩ (by omega)
  · refine brF (by rw [l1]; exact dlt_f hlt) (hK _ _ ⟨?_, rfl⟩)
    rw [List.take_of_length_le (by omega)] at hp
    unfold findI; rw [findE_no hp]
theorem r9_Find_c (hA : At h (ent l s)) (hl : l.length ≤ 1099511627776) (id : Int) : callT Tryz.prog fn_salvorref09_Find #[.slice s.a s.len s.cap, .int .i64 id] (.int .i64) (fun r h' => r = findI l id ∧ h' = h) h := by
  refine callT_gen fun K hK => S_salvorref09_Find (a0 := s) (a1 := id) K ?_
  unfold F_salvorref09_Find
  refine call_of (r9_find_c hA hl id) ?_
  rintro _ h2 ⟨rfl, e⟩; subst e
  exact hK _ _ ⟨rfl, rfl⟩
theorem r9_Literal_c (x : Int) (h : Heap) : callT Tryz.prog fn_salvorref09_Literal #[.int .i64 x] (.int .i64) (fun r h' => r = (if rt x then 0 else 10) ∧ h' = h) h := by
  refine callT_gen fun K hK => S_salvorref09_Literal (a0 := x) K ?_
  unfold F_salvorref09_Literal
  refine call_of (r1_right_c x) ?_
  rintro _ h2 ⟨rfl, e⟩; subst e
  cases hr : rt x with
  | true => exact brF rfl (hK _ _ ⟨by rw [hr]; rfl, rfl⟩)
  | false => exact brT rfl (hK _ _ ⟨by rw [hr]; rfl, rfl⟩)
theorem r9_Right_c (hA : At h (ent l s)) (hl : l.length ≤ 1099511627776) (hll : ∀ x ∈ l, x.2.length ≤ 1099511627776) : callT Tryz.prog fn_salvorref09_Right #[.slice s.a s.len s.cap] .bool (fun r h' => r = rightE l ∧ h' = h) h := by
  refine callT_gen fun K hK => S_salvorref09_Right (a0 := s) K ?_
  unfold F_salvorref09_Right
  have l1 := rsp_len hA
  by_cases hbig : l.length > 1048576
  · refine brT (decide_eq_true (by omega)) (hK _ _ ⟨?_, rfl⟩)
    unfold rightE; rw [decide_eq_false (show ¬ l.length ≤ 1048576 by omega), Bool.and_false]
  refine brF (decide_eq_false (by omega)) ?_
  have hK : ∀ b, b = rightGo 0 l → K b h := fun b e => hK _ _ ⟨by unfold rightE; rw [← e, decide_eq_true (show l.length ≤ 1048576 by omega), Bool.and_true], rfl⟩
  refine lfp_invh (I := fun m σ h' => ∃ (i : Nat) (last : Int), σ = ((i : Int), false, ()) ∧ i ≤ l.length ∧ 0 ≤ last ∧ (∀ (h0 : 0 < i) (h1 : i - 1 < l.length), l[i - 1].1 = last) ∧ (i = 0 → last = 0) ∧ rightGo last (l.drop i) = rightGo 0 l ∧ h' = h ∧ m = l.length - i)
    ⟨_, 0, 0, rfl, by omega, by omega, fun h0 => by omega, fun _ => rfl, by simp, rfl, rfl⟩ ?_
  rintro m σ h1 X ⟨i, last, rfl, hi, hl0, hla, hla0, hg, rfl, rfl⟩ hX
  simp only
  by_cases hlt : i < l.length
  · refine brT (by rw [l1]; exact dlt_t hlt) ?_
    rw [List.drop_eq_getElem_cons hlt, rightGo] at hg
    refine rdPri hA hlt ?_
    have no : (decide (last < l[i].1) && decide (l[i].1 ≤ maxID) && rightC l[i].2) = false → K false h1 := fun e => hK _ (by rw [← hg, e]; rfl)
    by_cases c1 : l[i].1 < 1
    · exact brT (decide_eq_true c1) (no (by rw [decide_eq_false (show ¬ last < l[i].1 by omega)]; rfl))
    refine brF (decide_eq_false c1) ?_
    refine rdPri hA hlt ?_
    by_cases c2 : l[i].1 > 1073741824
    · exact brT (decide_eq_true c2) (no (by rw [show decide (l[i].1 ≤ maxID) = false from decide_eq_false (by unfold maxID; omega)]; simp))
    refine brF (decide_eq_false c2) ?_
    have cont : last < l[i].1 → rightC l[i].2 = true → X (IntKind.wrap .i64 ((i : Int) + 1), false, ()) h1 := fun q1 q2 => by
      rw [inc_i (by omega)]
      refine hX _ _ _ ⟨i + 1, l[i].1, rfl, by omega, by omega, fun _ _ => rfl, fun h => by omega, ?_, rfl, rfl⟩ (by omega)
      rw [← hg, decide_eq_true q1, q2, show decide (l[i].1 ≤ maxID) = true from decide_eq_true (by unfold maxID; omega)]
      rfl
    by_cases c3 : 0 < i
    · refine brT (decide_eq_true (by omega)) ?_
      refine rdPri hA hlt ?_
      rw [show IntKind.wrap .i64 ((i : Int) - 1) = ((i - 1 : Nat) : Int) by rw [wrap_i64 (by omega) (by omega)]; omega]
      refine rdPri hA (show i - 1 < l.length by omega) ?_
      rw [hla c3 (by omega)]
      by_cases c4 : l[i].1 ≤ last
      · exact brT (decide_eq_true c4) (no (by rw [decide_eq_false (show ¬ last < l[i].1 by omega)]; rfl))
      refine brF (decide_eq_false c4) ?_
      refine rdPrs hA hlt fun q hq => ?_
      refine call_of (r2_right_c hq (hll _ (List.getElem_mem hlt))) ?_
      rintro _ h2 ⟨rfl, e⟩; subst e
      cases hr : rightC l[i].2 with
      | false => exact brT rfl (no (by rw [hr]; simp))
      | true => exact brF rfl (cont (by omega) hr)
    · refine brF (decide_eq_false (by omega)) ?_
      refine rdPrs hA hlt fun q hq => ?_
      refine call_of (r2_right_c hq (hll _ (List.getElem_mem hlt))) ?_
      rintro _ h2 ⟨rfl, e⟩; subst e
      cases hr : rightC l[i].2 with
      | false => exact brT rfl (no (by rw [hr]; simp))
      | true => exact brF rfl (cont (by rw [hla0 (by omega)]; omega) hr)
  · refine brF (by rw [l1]; exact dlt_f hlt) ?_
    rw [List.drop_eq_nil_of_le (by omega)] at hg
    exact hK _ hg
theorem cand_take (hlt : i < l.length) : ((l.take (i + 1)).filter (isCand p)).map (·.1) = ((l.take i).filter (isCand p)).map (·.1) ++ (if isCand p l[i] = true then [l[i].1] else []) := by
  rw [take_lt hlt, List.filter_append, List.map_append]
  congr 1
  cases hc : isCand p l[i] <;> simp [hc]
theorem r9_Candidates_c (hA : At h (ent l s)) (hE : rightE l = true) (hp : rt p = true) : callT Tryz.prog fn_salvorref09_Candidates #[.slice s.a s.len s.cap, .int .i64 p] .sl (fun s' h' => New h.size h' (nio' (candIDs l p) s') ∧ Ext [] h h') h := by
  refine callT_gen fun K hK => S_salvorref09_Candidates (a0 := s) (a1 := p) K ?_
  unfold F_salvorref09_Candidates
  have l1 := rsp_len hA
  have hll := rightE_len hE
  have st := (Hs.start h [ent l s] (by simp [hA])).nil ty_int i64.enc none
  refine lfp_invh (I := fun m σ h' => ∃ (i : Nat) (so : Sl), σ = ((i : Int), so, ()) ∧ i ≤ l.length ∧ Hs [([], h)] [ent l s] [nio' (((l.take i).filter (isCand p)).map (·.1)) so] h' ∧ m = l.length - i)
    ⟨_, 0, _, rfl, by omega, st, rfl⟩ ?_
  clear st
  rintro m σ h1 X ⟨i, so, rfl, hi, st, rfl⟩ hX
  simp only
  by_cases hlt : i < l.length
  · refine brT (by rw [l1]; exact dlt_t hlt) ?_
    have hr := rightE_lits hE _ (List.getElem_mem hlt)
    have hrl := rightC_len hr
    have ll : (((l.take i).filter (isCand p)).map (·.1)).length ≤ i := by
      rw [List.length_map]; exact Nat.le_trans (List.length_filter_le _ _) (by rw [List.length_take]; omega)
    refine rdPrs (st.fz 0 rfl) hlt fun q hq => ?_
    rw [negW hp]
    refine call_of (r9_has_c hq (by omega) _) ?_
    rintro _ h2 ⟨rfl, e⟩; subst e
    refine jn_mid (M := fun t h' => t = isCand p l[i] ∧ h' = h2) ?_ ?_
    rotate_left
    · intro J hJ
      cases hb : l[i].2.contains (-p) with
      | false => exact brF rfl (hJ _ _ ⟨by unfold isCand; rw [hb]; rfl, rfl⟩)
      | true =>
        refine brT rfl ?_
        refine rdPrs (st.fz 0 rfl) hlt fun q hq => ?_
        refine call_of (r9_always_c hq hr) ?_
        rintro _ h3 ⟨rfl, e⟩; subst e
        exact hJ _ _ ⟨by unfold isCand; rw [hb]; rfl, rfl⟩
    rintro _ h3 ⟨rfl, e⟩
    subst e
    refine jn_in fun J hJ => ?_
    have ct := cand_take (p := p) hlt
    cases hc : isCand p l[i] with
    | false =>
      rw [hc] at ct
      refine brF rfl (hJ _ _ ?_)
      rw [inc_i (by omega)]
      refine hX _ _ _ ⟨i + 1, so, rfl, by omega, ?_, rfl⟩ (by omega)
      rw [ct]; simpa using st
    | true =>
      rw [hc] at ct
      refine brT rfl ?_
      refine rdPri (st.fz 0 rfl) hlt ?_
      refine st.nw fun b6 h5 st => ?_
      simp only [List.cons_append, List.nil_append] at st
      refine st.apd (v := l[i].1) 0 1 rfl rfl (by decide) rfl (by omega) (by decide) rfl fun s7 h6 st => hJ _ _ ?_
      simp only [List.set_cons_zero, List.set_cons_succ] at st
      rw [inc_i (by omega)]
      refine hX _ _ _ ⟨i + 1, s7, rfl, by omega, ?_, rfl⟩ (by omega)
      rw [ct]; exact st.drop 1 rfl
  · refine brF (by rw [l1]; exact dlt_f hlt) ?_
    rw [List.take_of_length_le (by omega)] at st
    exact hK _ _ ⟨st.res (by simp) 0 rfl, st.frame (by simp)⟩
theorem copy_c {K : Sl → HP} (st : Hs fr G As h) (hy : At h (li c s)) (hlen : c.length ≤ 1099511627776) (hK : ∀ s' h', Hs fr G (As ++ [nio' c s']) h' → K s' h') :
    nw #[] ty_int (fun b0 => apd ty_int 1 8 #[(.int .i64 (0 : Int))] ⟨(some (⟨b0, 0, none⟩ : Addr)), 0, 0⟩ ⟨s.a, s.len, s.cap⟩ K) h := by
  refine st.nwX fun b0 h1 x1 st => ?_
  have st := st.asSl As.length i64.enc [] (lastA _ _) rfl
  rw [List.set_append_right _ _ (Nat.le_refl _), Nat.sub_self, List.set_cons_zero] at st
  refine Hs.apdS (τ := i64) st As.length (lastA _ _) (hy.ext x1) leaf_int (by simp; omega) (by decide) fun s' h2 st => ?_
  rw [List.set_append_right _ _ (Nat.le_refl _), Nat.sub_self, List.set_cons_zero, List.nil_append] at st
  exact hK s' h2 st
theorem findI_some (hE : rightE l = true) (id : Int) : (findI l id < 0 ∧ lookE l id = none) ∨ ∃ j : Nat, ∃ hj : j < l.length, findI l id = (j : Int) ∧ l[j].1 = id ∧ lookE l id = some l[j].2 := by
  by_cases hx : ∃ x ∈ l, x.1 = id
  · right
    obtain ⟨x, hx, rfl⟩ := hx
    obtain ⟨j, hj, rfl⟩ := List.mem_iff_getElem.1 hx
    exact ⟨j, hj, by unfold findI; rw [findE_at hE hj], rfl, lookE_at hE hj⟩
  · left
    have hn : ∀ x ∈ l, x.1 ≠ id := fun x hx' e => hx ⟨x, hx', e⟩
    exact ⟨by unfold findI; rw [findE_no hn]; decide, lookE_no hn⟩
set_option maxHeartbeats 1000000 in
theorem r9_follow_c (hA : At h (ent l s)) (hE : rightE l = true) (hB : At h (li A s2)) (hH : At h (li ids s3)) (hl : A.length + ids.length ≤ 10000000) :
    callT Tryz.prog fn_salvorref09_follow #[.slice s.a s.len s.cap, .slice s2.a s2.len s2.cap, .slice s3.a s3.len s3.cap] (.tup (.cons .sl (.cons .bool (.cons (.int .i64) (.cons (.int .i64) .nil)))))
      (fun r h' => ∃ s', r = (s', (followR l A ids).2.1, (followR l A ids).2.2.1, (followR l A ids).2.2.2, ()) ∧ New h.size h' (nio' (followR l A ids).1 s') ∧ Ext [] h h') h := by
  refine callT_gen fun K hK => S_salvorref09_follow (a0 := s) (a1 := s2) (a2 := s3) K ?_
  unfold F_salvorref09_follow
  have hK : ∀ s' B (b : Bool) (x e : Int) h', followR l A ids = (B, b, x, e) → New h.size h' (nio' B s') → Ext [] h h' → K (s', b, x, e, ()) h' := fun s' B b x e h' he n x' => hK _ _ ⟨s', by rw [he], by rw [he]; exact n, x'⟩
  have hll := rightE_len hE
  have l3 := rsl_len hH
  have st := Hs.start h [ent l s, li A s2, li ids s3] (by simp [hA, hB, hH])
  refine copy_c st (st.fz 1 rfl) (by omega) fun s1 h1 st => ?_
  simp only [List.nil_append] at st
  refine lfp_invh (I := fun m σ h' => ∃ (i : Nat) (B : List Int) (so : Sl) (u1 u2 : Int) (u3 : Bool) (u4 : Sl), σ = ((i : Int), so, u1, u2, u3, u4, ()) ∧ i ≤ ids.length ∧ followR l B (ids.drop i) = followR l A ids ∧ B.length = A.length + i ∧ Hs [([], h)] [ent l s, li A s2, li ids s3] [nio' B so] h' ∧ m = ids.length - i)
    ⟨_, 0, A, _, _, _, _, _, rfl, by omega, rfl, by omega, st, rfl⟩ ?_
  clear st
  rintro m σ h2 X ⟨i, B, so, u1, u2, u3, u4, rfl, hi, hf, hBl, st, rfl⟩ hX
  simp only
  by_cases hlt : i < ids.length
  · refine brT (by rw [l3]; exact dlt_t hlt) ?_
    rw [List.drop_eq_getElem_cons hlt, followR] at hf
    refine rdE (τ := i64) (st.fz 2 rfl) hlt ?_
    refine call_of (r9_find_c (st.fz 0 rfl) (by omega) _) ?_
    rintro _ h3 ⟨rfl, e⟩; subst e
    rcases findI_some hE ids[i] with ⟨h1, h2⟩ | ⟨j, hj, h1, h2, h4⟩
    · rw [h2] at hf
      refine brT (decide_eq_true h1) ?_
      refine rdE (τ := i64) (st.fz 2 rfl) hlt ?_
      exact hK _ _ _ _ _ _ hf.symm (osl_nil h.size _) (st.frame (by simp))
    · rw [h4] at hf
      simp only at hf
      rw [h1]
      refine brF (decide_eq_false (show ¬ ((j : Int) < 0) by omega)) ?_
      refine rdPrs (st.fz 0 rfl) hj fun q hq => ?_
      have hr := rightE_lits hE _ (List.getElem_mem hj)
      have hrl := rightC_len hr
      refine call_of (r8_look_c hq (st.own 0 rfl).rsl (rightC_rt hr) (by omega) (by omega)) ?_
      rintro _ h5 ⟨rfl, x5⟩
      have st := st.ext x5
      generalize hL : lookP B l[j].2 = R at hf ⊢
      obtain ⟨kd, u⟩ := R
      simp only at hf ⊢
      by_cases k2 : kd = 2
      · rw [if_pos k2] at hf
        exact brT (by simpa using k2) (hK _ _ _ _ _ _ hf.symm (st.res (by simp) 0 rfl) (st.frame (by simp)))
      rw [if_neg k2] at hf
      refine brF (by simpa using k2) ?_
      by_cases k3 : kd = 3
      · rw [if_pos k3] at hf
        refine brF (by simpa using k3) ?_
        refine st.nw fun b6 h6 st => ?_
        simp only [List.cons_append, List.nil_append] at st
        refine st.apd (v := u) 0 1 rfl rfl (by decide) rfl (by omega) (by decide) rfl fun s7 h7 st => ?_
        simp only [List.set_cons_zero, List.set_cons_succ] at st
        rw [inc_i (by omega)]
        exact hX _ _ _ ⟨i + 1, B ++ [u], s7, _, _, _, _, rfl, by omega, hf, by simp; omega, st.drop 1 rfl, rfl⟩ (by omega)
      · rw [if_neg k3] at hf
        refine brT (by simpa using k3) ?_
        refine rdE (τ := i64) (st.fz 2 rfl) hlt ?_
        exact hK _ _ _ _ _ _ hf.symm (osl_nil h.size _) (st.frame (by simp))
  · refine brF (by rw [l3]; exact dlt_f hlt) ?_
    rw [List.drop_eq_nil_of_le (by omega), followR] at hf
    exact hK _ _ _ _ _ _ hf.symm (st.res (by simp) 0 rfl) (st.frame (by simp))
set_option maxHeartbeats 1000000 in
theorem r9_open_c (hB : At h (li d s)) (hA : At h (li A s2)) (hr : ∀ x ∈ d, rt x = true) (hp : rt p = true) (hl : d.length + A.length ≤ 10000000) :
    callT Tryz.prog fn_salvorref09_open #[.slice s.a s.len s.cap, .int .i64 p, .slice s2.a s2.len s2.cap] (.tup (.cons .sl (.cons .bool .nil)))
      (fun r h' => ∃ s', r = (s', (restP p A d).2, ()) ∧ New h.size h' (nio' (if (restP p A d).2 then A ++ (restP p A d).1 else []) s') ∧ Ext [] h h') h := by
  refine callT_gen fun K hK => S_salvorref09_open (a0 := s) (a1 := p) (a2 := s2) K ?_
  unfold F_salvorref09_open
  have l3 := rsl_len hB
  have st := Hs.start h [li d s, li A s2] (by simp [hA, hB])
  refine copy_c st (st.fz 1 rfl) (by omega) fun s1 h1 st => ?_
  simp only [List.nil_append] at st
  refine lfp_invh (I := fun m σ h' => ∃ (i : Nat) (so : Sl) (u3 : Bool) (u4 : Sl), σ = ((i : Int), so, u3, u4, ()) ∧ i ≤ d.length ∧ (∀ x ∈ d.take i, (decide (x ≠ -p) && A.contains x) = false) ∧ Hs [([], h)] [li d s, li A s2] [nio' (A ++ ((d.take i).filter fun x => decide (x ≠ -p)).map (fun x => -x)) so] h' ∧ m = d.length - i)
    ⟨_, 0, _, _, _, rfl, by omega, by simp, by simpa using st, rfl⟩ ?_
  clear st
  rintro m σ h2 X ⟨i, so, u3, u4, rfl, hi, hno, st, rfl⟩ hX
  simp only
  by_cases hlt : i < d.length
  · refine brT (by rw [l3]; exact dlt_t hlt) ?_
    have ll : (A ++ ((d.take i).filter fun x => decide (x ≠ -p)).map (fun x => -x)).length ≤ A.length + i := by
      rw [List.length_append, List.length_map]
      have := List.length_filter_le (fun x => decide (x ≠ -p)) (d.take i)
      rw [List.length_take] at this; omega
    refine jn_in fun J hJ => ?_
    refine rdE (τ := i64) (st.fz 0 rfl) hlt ?_
    rw [negW hp]
    by_cases he : d[i] = -p
    · refine brT (by simpa using he) (hJ _ _ ?_)
      rw [inc_i (by omega)]
      refine hX _ _ _ ⟨i + 1, so, u3, u4, rfl, by omega, fun x hx => ?_, ?_, rfl⟩ (by omega)
      · rw [take_lt hlt] at hx
        rcases List.mem_append.1 hx with hx | hx
        · exact hno x hx
        · simp only [List.mem_singleton] at hx; subst hx; simp [he]
      · rw [take_lt hlt, List.filter_append]
        have : ([d[i]].filter fun x => decide (x ≠ -p)) = [] := by simp [he]
        rw [this, List.append_nil]; exact st
    refine brF (by simpa using he) ?_
    refine rdE (τ := i64) (st.fz 0 rfl) hlt ?_
    refine call_of (r9_has_c (st.fz 1 rfl) (by omega) _) ?_
    rintro _ h3 ⟨rfl, e⟩; subst e
    cases hb : A.contains d[i] with
    | true =>
      refine brT rfl ?_
      have e : restP p A d = ([], false) := by
        unfold restP
        rw [if_pos (List.any_eq_true.2 ⟨d[i], List.getElem_mem hlt, by rw [hb]; simp [he]⟩)]
      refine hK _ _ ⟨⟨none, 0, 0⟩, by rw [e], ?_, st.frame (by simp)⟩
      rw [e]; exact osl_nil h.size _
    | false =>
      refine brF rfl ?_
      refine rdE (τ := i64) (st.fz 0 rfl) hlt ?_
      rw [negW (hr _ (List.getElem_mem hlt))]
      refine st.nw fun b6 h6 st => ?_
      simp only [List.cons_append, List.nil_append] at st
      refine st.apd (v := -d[i]) 0 1 rfl rfl (by decide) rfl (by omega) (by decide) rfl fun s7 h7 st => hJ _ _ ?_
      simp only [List.set_cons_zero, List.set_cons_succ] at st
      rw [inc_i (by omega)]
      refine hX _ _ _ ⟨i + 1, s7, u3, u4, rfl, by omega, fun x hx => ?_, ?_, rfl⟩ (by omega)
      · rw [take_lt hlt] at hx
        rcases List.mem_append.1 hx with hx | hx
        · exact hno x hx
        · simp only [List.mem_singleton] at hx; subst hx; rw [hb]; simp
      · rw [take_lt hlt, List.filter_append]
        have : ([d[i]].filter fun x => decide (x ≠ -p)) = [d[i]] := by simp [he]
        rw [this, List.map_append, ← List.append_assoc]; exact st.drop 1 rfl
  · refine brF (by rw [l3]; exact dlt_f hlt) ?_
    rw [List.take_of_length_le (by omega)] at st hno
    have e : restP p A d = ((d.filter fun x => decide (x ≠ -p)).map (fun x => -x), true) := by
      unfold restP
      rw [if_neg]
      rw [Bool.not_eq_true, List.any_eq_false]
      exact fun x hx => by rw [hno x hx]; simp
    refine hK _ _ ⟨_, by rw [e], ?_, st.frame (by simp)⟩
    rw [e, if_pos rfl]; exact st.res (by simp) 0 rfl
end Go.Proofs.S
