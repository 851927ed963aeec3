/-
  The reference over clauses: contracts.
-/
import Derived.Test.YtmlamkoilggonaaGreatSxW3
set_option linter.unusedVariables false
namespace Go.Proofs.S
open Go Go.Sx Go.Proofs Go.Cl

variable {h : Heap} {c d : List Int} {s s2 : Sl} {fr : Fr} {G As : List Asn}
/-- A list of numbers of one's own. -/
abbrev io (c : List Int) (s : Sl) : Asn := osl ty_int i64.enc c s

/-! ### plain -/

theorem nrm_filter (hr : rightC c = true) (p : Int → Bool) : nrm (c.filter p) = (nrm c).filter p := by
  refine (nrm_eq (fun x hx => rightC_rt hr x (List.mem_filter.1 hx).1) ((strict_nrm hr).filter _) fun x => ?_).symm
  rw [List.mem_filter, List.mem_filter, mem_nrm hr]

theorem sel {N : List Int} (hs : Strict N) (hrt : ∀ x ∈ N, rt x = true) (hm : ∀ x, x ∈ N ↔ x ∈ c) {k : Nat} (hk : k ≤ N.length) {last b : Int} (hl : ∀ j (hj : j < N.length), ix N[j] > last ↔ k ≤ j)
    (hb : (b = -1 ∧ ∀ x ∈ c, ¬ ix x > last) ∨ (∃ x ∈ c, ix x = b ∧ ix x > last ∧ ∀ y ∈ c, ix y > last → b ≤ ix y)) : (k = N.length ∧ b = -1) ∨ (∃ hk : k < N.length, b = ix N[k]) := by
  rcases hb with ⟨rfl, hn⟩ | ⟨x, hx, e, hgt, hmin⟩
  · refine .inl ⟨?_, rfl⟩
    rcases Nat.lt_or_eq_of_le hk with h | h
    · exact absurd ((hl k h).2 (Nat.le_refl _)) (hn _ ((hm _).1 (List.getElem_mem h)))
    · exact h
  · obtain ⟨j, hj, rfl⟩ := List.mem_iff_getElem.1 ((hm x).2 hx)
    have hkj := (hl j hj).1 hgt
    have hkl : k < N.length := by omega
    refine .inr ⟨hkl, ?_⟩
    have h1 := hmin _ ((hm _).1 (List.getElem_mem hkl)) ((hl k hkl).2 (Nat.le_refl _))
    rcases Nat.lt_or_eq_of_le hkj with h | h
    · have := List.pairwise_iff_getElem.1 hs k j hkl hj h
      rw [ltL_rt (hrt _ (List.getElem_mem _)) (hrt _ (List.getElem_mem _))] at this
      omega
    · subst h; exact e.symm

theorem mem_take_succ {d : List Int} {i : Nat} (hi : i < d.length) {y : Int} : y ∈ d.take (i + 1) ↔ y ∈ d.take i ∨ y = d[i] := by rw [take_succ_getE hi, List.mem_append, List.mem_singleton]
theorem ix_nonneg {x : Int} (h : rt x = true) : 0 ≤ ix x := by have := rt_iff.1 h; unfold ix; split <;> omega

/-! ### salvorref01 -/

theorem r1_right_c (x : Int) : callT Tryz.prog fn_salvorref01_Right #[.int .i64 x] .bool (fun r h' => r = rt x ∧ h' = h) h := by
  refine callT_gen fun K hK => S_salvorref01_Right (a0 := x) K ?_
  unfold F_salvorref01_Right
  have key : ∀ b : Bool, b = rt x → K b h := fun b e => hK _ _ ⟨e, rfl⟩
  by_cases h1 : x ≥ 1
  · rw [decide_eq_true h1, brB_true]
    by_cases h2 : x ≤ 1048576
    · rw [decide_eq_true h2, brB_true]; exact key _ (rt_iff.2 (by omega)).symm
    · rw [decide_eq_false h2, brB_false]
      rw [decide_eq_true (show x ≥ -1048576 by omega), brB_true]
      refine key _ ?_
      rw [decide_eq_false (by omega)]
      cases h : rt x with
      | false => rfl
      | true => have := rt_iff.1 h; omega
  · rw [decide_eq_false h1, brB_false]
    by_cases h2 : x ≥ -1048576
    · rw [decide_eq_true h2, brB_true]
      refine key _ ?_
      by_cases h3 : x ≤ -1
      · rw [decide_eq_true h3]; exact (rt_iff.2 (by omega)).symm
      · rw [decide_eq_false h3]
        cases h : rt x with
        | false => rfl
        | true => have := rt_iff.1 h; omega
    · rw [decide_eq_false h2, brB_false]
      refine key _ ?_
      cases h : rt x with
      | false => rfl
      | true => have := rt_iff.1 h; omega

theorem r1_index_c (x : Int) : callT Tryz.prog fn_salvorref01_Index #[.int .i64 x] (.int .i64) (fun r h' => r = (if rt x then ix x else -1) ∧ h' = h) h := by
  refine callT_gen fun K hK => S_salvorref01_Index (a0 := x) K ?_
  unfold F_salvorref01_Index
  refine call_of (r1_right_c x) ?_
  rintro r h' ⟨rfl, rfl⟩
  cases hx : rt x with
  | false => simp only [Bool.not_false, brB_true]; exact hK _ _ ⟨by simp [hx], rfl⟩
  | true =>
    have := rt_iff.1 hx
    simp only [Bool.not_true, brB_false]
    by_cases hneg : x < 0
    · simp only [hneg, decide_true, brB_true]
      refine hK _ _ ⟨?_, rfl⟩
      rw [wrap_i64 (x := 0 - x) (by omega) (by omega), wrap_i64 (x := 0 - x - 1) (by omega) (by omega), wrap_i64 (x := 2 * (0 - x - 1)) (by omega) (by omega), wrap_i64 (by omega) (by omega)]
      simp [hx, ix, hneg]
    · simp only [hneg, decide_false, brB_false]
      refine hK _ _ ⟨?_, rfl⟩
      rw [wrap_i64 (x := x - 1) (by omega) (by omega), wrap_i64 (by omega) (by omega)]
      simp [hx, ix, hneg]

theorem r1_at_c {x : Int} (hx : rt x = true) : callT Tryz.prog fn_salvorref01_At #[.int .i64 (ix x)] (.int .i64) (fun r h' => r = x ∧ h' = h) h := by
  refine callT_gen fun K hK => S_salvorref01_At (a0 := ix x) K ?_
  unfold F_salvorref01_At
  have hx' := rt_iff.1 hx
  have h0 := ix_nonneg hx
  have h1 : ix x ≤ 2097151 := by unfold ix; split <;> omega
  rw [decide_eq_false (show ¬ ix x < 0 by omega), brB_false, decide_eq_false (show ¬ ix x > 2097151 by omega), brB_false]
  refine ⟨by decide, by decide, ?_⟩
  rw [Int.tmod_eq_emod_of_nonneg h0, Int.tdiv_eq_ediv_of_nonneg h0]
  by_cases hneg : x < 0
  · have e1 : ix x = 2 * (-x - 1) + 1 := by unfold ix; rw [if_pos hneg]
    have e2 : ix x % 2 = 1 := by omega
    have e3 : ix x / 2 = -x - 1 := by omega
    rw [e2, e3]
    rw [show ((1 : Int) == 1) = true from rfl, brB_true]
    refine hK _ _ ⟨?_, rfl⟩
    rw [wrap_i64 (x := -x - 1) (by omega) (by omega), wrap_i64 (x := -x - 1 + 1) (by omega) (by omega), wrap_i64 (by omega) (by omega)]
    exact (show (0 - (-x - 1 + 1) : Int) = x by omega)
  · have e1 : ix x = 2 * (x - 1) := by unfold ix; rw [if_neg hneg]
    have e2 : ix x % 2 = 0 := by omega
    have e3 : ix x / 2 = x - 1 := by omega
    rw [e2, e3]
    rw [show ((0 : Int) == 1) = false from rfl, brB_false]
    refine hK _ _ ⟨?_, rfl⟩
    rw [wrap_i64 (x := x - 1) (by omega) (by omega), wrap_i64 (by omega) (by omega)]
    exact (show (x - 1 + 1 : Int) = x by omega)

theorem r1_compare_c {x y : Int} (hx : rt x = true) (hy : rt y = true) : callT Tryz.prog fn_salvorref01_Compare #[.int .i64 x, .int .i64 y] (.int .i64) (fun r h' => r = cmpLit x y ∧ h' = h) h := by
  refine callT_gen fun K hK => S_salvorref01_Compare (a0 := x) (a1 := y) K ?_
  unfold F_salvorref01_Compare
  refine call_of (r1_index_c x) ?_
  rintro r h' ⟨rfl, rfl⟩
  refine call_of (r1_index_c y) ?_
  rintro r h' ⟨rfl, rfl⟩
  simp only [hx, hy, if_true]
  have h0 := ix_nonneg hx
  rw [decide_eq_false (show ¬ ix x < 0 by omega), brB_false]
  refine jn_in fun J hJ => hJ _ _ ?_
  simp only
  have key : ∀ r : Int, r = cmpI (ix x) (ix y) → K r h' := fun r e => hK _ _ ⟨by rw [cmpLit_rt hx hy, e], rfl⟩
  by_cases h1 : ix x < ix y
  · rw [decide_eq_true h1, brB_true]; exact key _ (by simp [cmpI, h1])
  · rw [decide_eq_false h1, brB_false]
    by_cases h2 : ix x > ix y
    · rw [decide_eq_true h2, brB_true]; exact key _ (by simp [cmpI, h1, h2])
    · rw [decide_eq_false h2, brB_false]; exact key _ (by simp [cmpI, h1, h2])

/-! ### salvorref02 -/

theorem r2_right_c (hA : At h (li c s)) (hl : c.length ≤ 1099511627776) : callT Tryz.prog fn_salvorref02_Right #[.slice s.a s.len s.cap] .bool (fun r h' => r = rightC c ∧ h' = h) h := by
  refine callT_gen fun K hK => S_salvorref02_Right (a0 := s) K ?_
  unfold F_salvorref02_Right
  have l1 := rsl_len hA
  by_cases h1 : c.length > 4096
  · rw [decide_eq_true (show (s.len : Int) > 4096 by omega), brB_true]
    refine hK _ _ ⟨?_, rfl⟩
    unfold rightC; rw [decide_eq_false (by omega)]; rfl
  · rw [decide_eq_false (show ¬ (s.len : Int) > 4096 by omega), brB_false]
    refine lfp_invh (I := fun m σ h' => ∃ i : Nat, σ = ((i : Int), false, ()) ∧ i ≤ c.length ∧ (∀ j (hj : j < c.length), j < i → rt c[j] = true) ∧ h' = h ∧ m = c.length - i) ⟨_, 0, rfl, by omega, by omega, rfl, rfl⟩ ?_
    rintro m σ h' X ⟨i, rfl, hi, hp, rfl, em⟩ hX
    simp only
    by_cases hlt : i < c.length
    · rw [show decide ((i : Int) < (s.len : Int)) = true by rw [l1]; exact dlt_t hlt, brB_true, inc_i (show i < 4611686018427387904 by omega)]
      refine rdE (τ := i64) hA hlt ?_
      refine call_of (r1_right_c _) ?_
      rintro r h2 ⟨rfl, rfl⟩
      cases he : rt c[i] with
      | true =>
        simp only [Bool.not_true, brB_false]
        refine hX _ _ _ ⟨i + 1, rfl, by omega, fun j hj hji => ?_, rfl, rfl⟩ (by omega)
        by_cases ej : j = i
        · subst ej; exact he
        · exact hp j hj (by omega)
      | false =>
        simp only [Bool.not_false, brB_true]
        refine hK _ _ ⟨?_, rfl⟩
        have : c.all rt = false := List.all_eq_false.2 ⟨_, List.getElem_mem hlt, by simp [he]⟩
        unfold rightC; rw [this, Bool.and_false]
    · rw [show decide ((i : Int) < (s.len : Int)) = false by rw [l1]; exact dlt_f hlt, brB_false]
      refine hK _ _ ⟨?_, rfl⟩
      have : c.all rt = true := by
        rw [List.all_eq_true]
        intro x hx
        obtain ⟨j, hj, rfl⟩ := List.mem_iff_getElem.1 hx
        exact hp j hj (by omega)
      unfold rightC; rw [this, decide_eq_true (by omega)]; rfl

/-- A search by a test that is called, or is not: what these loops share. -/
theorem r2_has_c (hA : At h (li c s)) (hl : c.length ≤ 1099511627776) (l : Int) : callT Tryz.prog fn_salvorref02_Has #[.slice s.a s.len s.cap, .int .i64 l] .bool (fun r h' => r = c.contains l ∧ h' = h) h := by
  refine callT_gen fun K hK => S_salvorref02_Has (a0 := s) (a1 := l) K ?_
  unfold F_salvorref02_Has
  have l1 := rsl_len hA
  refine lfp_invh (I := fun m σ h' => ∃ i : Nat, σ = ((i : Int), false, ()) ∧ i ≤ c.length ∧ l ∉ c.take i ∧ h' = h ∧ m = c.length - i) ⟨_, 0, rfl, by omega, by simp, rfl, rfl⟩ ?_
  rintro m σ h' X ⟨i, rfl, hi, hp, rfl, em⟩ hX
  simp only
  by_cases hlt : i < c.length
  · rw [show decide ((i : Int) < (s.len : Int)) = true by rw [l1]; exact dlt_t hlt, brB_true, inc_i (show i < 4611686018427387904 by omega)]
    refine rdE (τ := i64) hA hlt ?_
    by_cases he : c[i] = l
    · rw [show (c[i] == l) = true by simp [he], brB_true]
      refine hK _ _ ⟨?_, rfl⟩
      symm; rw [List.contains_iff_mem]; exact he ▸ List.getElem_mem hlt
    · rw [show (c[i] == l) = false by simp [he], brB_false]
      exact hX _ _ _ ⟨i + 1, rfl, by omega, not_mem_take_succ hlt hp (fun e => he e.symm), rfl, rfl⟩ (by omega)
  · rw [show decide ((i : Int) < (s.len : Int)) = false by rw [l1]; exact dlt_f hlt, brB_false]
    rw [List.take_of_length_le (by omega)] at hp
    refine hK _ _ ⟨?_, rfl⟩
    symm; simpa using hp

theorem r2_always_c (hA : At h (li c s)) (hr : rightC c = true) : callT Tryz.prog fn_salvorref02_Always #[.slice s.a s.len s.cap] .bool (fun r h' => r = alwaysC c ∧ h' = h) h := by
  refine callT_gen fun K hK => S_salvorref02_Always (a0 := s) K ?_
  unfold F_salvorref02_Always
  have l1 := rsl_len hA
  have hl := rightC_len hr
  refine lfp_invh (I := fun m σ h' => ∃ i : Nat, σ = ((i : Int), false, ()) ∧ i ≤ c.length ∧ (∀ x ∈ c.take i, c.contains (-x) = false) ∧ h' = h ∧ m = c.length - i) ⟨_, 0, rfl, by omega, by simp, rfl, rfl⟩ ?_
  rintro m σ h' X ⟨i, rfl, hi, hp, rfl, em⟩ hX
  simp only
  by_cases hlt : i < c.length
  · rw [show decide ((i : Int) < (s.len : Int)) = true by rw [l1]; exact dlt_t hlt, brB_true, inc_i (show i < 4611686018427387904 by omega)]
    refine rdE (τ := i64) hA hlt ?_
    rw [wneg (rightC_rt hr _ (List.getElem_mem hlt))]
    refine call_of (r2_has_c hA (by omega) _) ?_
    rintro r h2 ⟨rfl, rfl⟩
    cases he : c.contains (-c[i]) with
    | true =>
      simp only [brB_true]
      exact hK _ _ ⟨(List.any_eq_true.2 ⟨_, List.getElem_mem hlt, he⟩).symm, rfl⟩
    | false =>
      simp only [brB_false]
      refine hX _ _ _ ⟨i + 1, rfl, by omega, fun x hx => ?_, rfl, rfl⟩ (by omega)
      rw [take_succ_getE hlt] at hx
      rcases mem_snoc1 hx with hx | hx
      · exact hp x hx
      · subst hx; exact he
  · rw [show decide ((i : Int) < (s.len : Int)) = false by rw [l1]; exact dlt_f hlt, brB_false]
    rw [List.take_of_length_le (by omega)] at hp
    refine hK _ _ ⟨?_, rfl⟩
    symm; unfold alwaysC; rw [List.any_eq_false]; intro x hx; rw [hp x hx]; simp

theorem r2_norm_c (hA : At h (li c s)) (hl : c.length ≤ 1048576) (hrt : ∀ x ∈ c, rt x = true) : callT Tryz.prog fn_salvorref02_Norm #[.slice s.a s.len s.cap] .sl (fun s' h' => New h.size h' (io (nrm c) s') ∧ Ext [] h h') h := by
  refine callT_gen fun K hK => S_salvorref02_Norm (a0 := s) K ?_
  unfold F_salvorref02_Norm
  obtain ⟨hsN, hmN⟩ := nrm_spec hrt
  have hrN : ∀ x ∈ nrm c, rt x = true := fun x hx => hrt x ((hmN x).1 hx)
  have hlN := nrm_length c
  have st := (Hs.start h [] (by simp)).nil ty_int i64.enc none
  refine lfp_invh (I := fun m σ h' => ∃ (k : Nat) (last : Int) (s' : Sl), σ = (last, s', ⟨none, 0, 0⟩, ()) ∧ k ≤ (nrm c).length ∧ (∀ j (hj : j < (nrm c).length), ix (nrm c)[j] > last ↔ k ≤ j) ∧ Hs [([], h)] [] [io ((nrm c).take k) s'] h' ∧ m = (nrm c).length - k)
    ⟨_, 0, -1, ⟨none, 0, 0⟩, rfl, by omega, fun j hj => ⟨fun _ => by omega, fun _ => by have := ix_nonneg (hrN _ (List.getElem_mem hj)); omega⟩, st, rfl⟩ ?_
  clear st
  rintro m σ h1 X ⟨k, last, s', rfl, hk, hlast, st, em⟩ hX
  have hA1 := hA.ext (st.frame (by simp))
  have l1 := rsl_len hA
  simp only
  refine lfp_invh (I := fun m σ h' => ∃ (i : Nat) (b : Int), σ = ((i : Int), b, ()) ∧ i ≤ c.length ∧ ((b = -1 ∧ ∀ x ∈ c.take i, ¬ ix x > last) ∨ (∃ x ∈ c.take i, ix x = b ∧ ix x > last ∧ ∀ y ∈ c.take i, ix y > last → b ≤ ix y)) ∧ h' = h1 ∧ m = c.length - i)
    ⟨_, 0, -1, rfl, by omega, .inl ⟨rfl, by simp⟩, rfl, rfl⟩ ?_
  rintro m2 σ2 h' Y ⟨i, b, rfl, hi, hb, rfl, em2⟩ hY
  simp only
  by_cases hlt : i < c.length
  · rw [show decide ((i : Int) < (s.len : Int)) = true by rw [l1]; exact dlt_t hlt, brB_true, inc_i (show i < 4611686018427387904 by omega)]
    refine rdE (τ := i64) hA1 hlt ?_
    refine call_of (r1_index_c _) ?_
    rintro r h2 ⟨rfl, rfl⟩
    have hri := hrt _ (List.getElem_mem hlt)
    have hin := ix_nonneg hri
    rw [if_pos hri]
    have hmem : ∀ y, y ∈ c.take (i + 1) ↔ y ∈ c.take i ∨ y = c[i] := fun y => mem_take_succ hlt
    by_cases hgt : ix c[i] > last
    · rw [decide_eq_true hgt, brB_true]
      by_cases hb0 : b < 0
      · rw [decide_eq_true hb0, brB_true]
        refine jn_in fun J hJ => hJ _ _ (hY _ _ _ ⟨i + 1, _, rfl, by omega, .inr ⟨c[i], (hmem _).2 (.inr rfl), rfl, hgt, fun y hy hyg => ?_⟩, rfl, rfl⟩ (by omega))
        rcases hb with ⟨_, hn⟩ | ⟨x, hx, e, hg, _⟩
        · rcases (hmem y).1 hy with hy | rfl
          · exact absurd hyg (hn y hy)
          · exact Int.le_refl _
        · have := ix_nonneg (hrt x (List.mem_of_mem_take hx)); omega
      · rw [decide_eq_false hb0, brB_false]
        rcases hb with ⟨rfl, _⟩ | ⟨x, hx, e, hg, hmin⟩
        · omega
        · refine jn_in fun J hJ => ?_
          by_cases hlt2 : ix c[i] < b
          · rw [decide_eq_true hlt2, brB_true]
            refine hJ _ _ (hY _ _ _ ⟨i + 1, _, rfl, by omega, .inr ⟨c[i], (hmem _).2 (.inr rfl), rfl, hgt, fun y hy hyg => ?_⟩, rfl, rfl⟩ (by omega))
            rcases (hmem y).1 hy with hy | rfl
            · have := hmin y hy hyg; omega
            · exact Int.le_refl _
          · rw [decide_eq_false hlt2, brB_false]
            refine hJ _ _ (hY _ _ _ ⟨i + 1, _, rfl, by omega, .inr ⟨x, (hmem _).2 (.inl hx), e, hg, fun y hy hyg => ?_⟩, rfl, rfl⟩ (by omega))
            rcases (hmem y).1 hy with hy | rfl
            · exact hmin y hy hyg
            · omega
    · rw [decide_eq_false hgt, brB_false]
      refine jn_in fun J hJ => hJ _ _ (hY _ _ _ ⟨i + 1, b, rfl, by omega, ?_, rfl, rfl⟩ (by omega))
      rcases hb with ⟨e, hn⟩ | ⟨x, hx, e, hg, hmin⟩
      · refine .inl ⟨e, fun y hy => ?_⟩
        rcases (hmem y).1 hy with hy | rfl
        · exact hn y hy
        · exact hgt
      · refine .inr ⟨x, (hmem _).2 (.inl hx), e, hg, fun y hy hyg => ?_⟩
        rcases (hmem y).1 hy with hy | rfl
        · exact hmin y hy hyg
        · exact absurd hyg hgt
  · rw [show decide ((i : Int) < (s.len : Int)) = false by rw [l1]; exact dlt_f hlt, brB_false]
    rw [List.take_of_length_le (by omega)] at hb
    rcases sel hsN hrN hmN hk hlast hb with ⟨ek, rfl⟩ | ⟨hkl, rfl⟩
    · rw [show decide ((-1 : Int) < 0) = true from rfl, brB_true]
      rw [ek, List.take_length] at st
      exact hK _ _ ⟨st.res (by simp) 0 rfl, st.frame (by simp)⟩
    · have hrk := hrN _ (List.getElem_mem hkl)
      have := ix_nonneg hrk
      rw [decide_eq_false (show ¬ ix (nrm c)[k] < 0 by omega), brB_false]
      refine call_of (r1_at_c hrk) ?_
      rintro r h2 ⟨rfl, rfl⟩
      refine st.nw fun b14 h3 st => ?_
      refine st.apd (enc := i64.enc) (v := (nrm c)[k]) 0 1 rfl rfl (by decide) rfl (by simp; omega) (by decide) rfl fun s7 h4 st => ?_
      refine hX _ _ _ ⟨k + 1, _, s7, rfl, by omega, fun j hj => ?_, ?_, rfl⟩ (by omega)
      · show ix (nrm c)[k] < ix (nrm c)[j] ↔ _
        rw [← ltL_rt hrk (hrN _ (List.getElem_mem hj))]
        constructor
        · intro hh
          rcases Nat.lt_or_ge k j with hkj | hkj
          · omega
          · rcases Nat.lt_or_eq_of_le hkj with hjk | hjk
            · rw [ltL_asymm (List.pairwise_iff_getElem.1 hsN j k hj hkl hjk)] at hh; cases hh
            · subst hjk; rw [ltL_irrefl] at hh; cases hh
        · intro hh; exact List.pairwise_iff_getElem.1 hsN k j hkl hj (by omega)
      · have st := st.drop 1 rfl
        rw [take_succ_getE hkl]; exact st

end Go.Proofs.S
