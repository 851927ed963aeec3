/-
  The reference over clauses: contracts.
-/
import Derived.Test.YtmlamkoilggonaaGreatSxW3
import Derived.Test.YtmlamkoilggonaaGreatClC
set_option linter.unusedVariables false
namespace Go.Proofs.S
open Go Go.Sx Go.Proofs Go.Cl

variable {h : Heap} {c d : List Int} {s s2 : Sl} {fr : Fr} {G As : List Asn}
abbrev io (c : List Int) (s : Sl) : Asn := osl ty_int i64.enc c s

theorem nrm_filter (hr : rightC c = true) (p : Int → Bool) : nrm (c.filter p) = (nrm c).filter p := by
  refine (nrm_eq (fun x hx => rightC_rt hr x (List.mem_filter.1 hx).1) ((strict_nrm hr).filter _) fun x => ?_).symm
  rw [List.mem_filter, List.mem_filter, mem_nrm hr]

theorem sel {N : List Int} (hs : Strict N) (hrt : ∀ x ∈ N, rt x = true) (hm : ∀ x, x ∈ N ↔ x ∈ c) {k : Nat} (hk : k ≤ N.length) {last b : Int} (hl : ∀ j (hj : j < N.length), ix N[j] > last ↔ k ≤ j)
    (hb : (b = -1 ∧ ∀ x ∈ c, ¬ ix x > last) ∨ (∃ x ∈ c, ix x = b ∧ ix x > last ∧ ∀ y ∈ c, ix y > last → b ≤ ix y)) : (k = N.length ∧ b = -1) ∨ (∃ hk : k < N.length, b = ix N[k]) := by
  rcases hb with ⟨rfl, hn⟩ | ⟨x, hx, e, hgt, hmin⟩
  · refine .inl ⟨?_, rfl⟩
    rcases Nat.lt_or_eq_of_le hk with h | h
    · exact absurd ((hl k h).2 (Nat.le_refl _)) (hn _ ((hm _).1 (List.getElem_mem h)))
    · exact h
  · obtain ⟨j, hj, rfl⟩ := List.mem_iff_getElem.1 ((hm x).2 hx)
    have hkj := (hl j hj).1 hgt
    have hkl : k < N.length := by omega
    refine .inr ⟨hkl, ?_⟩
    have h1 := hmin _ ((hm _).1 (List.getElem_mem hkl)) ((hl k hkl).2 (Nat.le_refl _))
    rcases Nat.lt_or_eq_of_le hkj with h | h
    · have := List.pairwise_iff_getElem.1 hs k j hkl hj h
      rw [ltL_rt (hrt _ (List.getElem_mem _)) (hrt _ (List.getElem_mem _))] at this
      omega
    · subst h; exact e.symm

theorem mem_take_succ {d : List Int} {i : Nat} (hi : i < d.length) {y : Int} : y ∈ d.take (i + 1) ↔ y ∈ d.take i ∨ y = d[i] := by rw [take_succ_getE hi, List.mem_append, List.mem_singleton]
theorem ix_nonneg {x : Int} (h : rt x = true) : 0 ≤ ix x := by have := rt_iff.1 h; unfold ix; split <;> omega

theorem r1_right_c (x : Int) : callT Tryz.prog fn_salvorref01_Right #[.int .i64 x] .bool (fun r h' => r = rt x ∧ h' = h) h := by
  refine callT_gen fun K hK => S_salvorref01_Right (a0 := x) K ?_
  unfold F_salvorref01_Right
  have key : ∀ b : Bool, b = rt x → K b h := fun b e => hK _ _ ⟨e, rfl⟩
  by_cases h1 : x ≥ 1
  · rw [decide_eq_true h1, brB_true]
    by_cases h2 : x ≤ 1048576
    · rw [decide_eq_true h2, brB_true]; exact key _ (rt_iff.2 (by omega)).symm
    · rw [decide_eq_false h2, brB_false]
      rw [decide_eq_true (show x ≥ -1048576 by omega), brB_true]
      refine key _ ?_
      rw [decide_eq_false (by omega)]
      cases h : rt x with
      | false => rfl
      | true => have := rt_iff.1 h; omega
  · rw [decide_eq_false h1, brB_false]
    by_cases h2 : x ≥ -1048576
    · rw [decide_eq_true h2, brB_true]
      refine key _ ?_
      by_cases h3 : x ≤ -1
      · rw [decide_eq_true h3]; exact (rt_iff.2 (by omega)).symm
      · rw [decide_eq_false h3]
        cases h : rt x with
        | false => rfl
        | true => have := rt_iff.1 h; omega
    · rw [decide_eq_false h2, brB_false]
      refine key _ ?_
      cases h : rt x with
      | false => rfl
      | true => have := rt_iff.1 h; omega

theorem r1_index_c (x : Int) : callT Tryz.prog fn_salvorref01_Index #[.int .i64 x] (.int .i64) (fun r h' => r = (if rt x then ix x else -1) ∧ h' = h) h := by
  refine callT_gen fun K hK => S_salvorref01_Index (a0 := x) K ?_
  unfold F_salvorref01_Index
  refine call_of (r1_right_c x) ?_
  rintro r h' ⟨rfl, rfl⟩
  cases hx : rt x with
  | false => simp only [Bool.not_false, brB_true]; exact hK _ _ ⟨by simp [hx], rfl⟩
  | true =>
    have := rt_iff.1 hx
    simp only [Bool.not_true, brB_false]
    by_cases hneg : x < 0
    · simp only [hneg, decide_true, brB_true]
      refine hK _ _ ⟨?_, rfl⟩
      rw [wrap_i64 (x := 0 - x) (by omega) (by omega), wrap_i64 (x := 0 - x - 1) (by omega) (by omega), wrap_i64 (x := 2 * (0 - x - 1)) (by omega) (by omega), wrap_i64 (by omega) (by omega)]
      simp [hx, ix, hneg]
    · simp only [hneg, decide_false, brB_false]
      refine hK _ _ ⟨?_, rfl⟩
      rw [wrap_i64 (x := x - 1) (by omega) (by omega), wrap_i64 (by omega) (by omega)]
      simp [hx, ix, hneg]

theorem r1_at_c {x : Int} (hx : rt x = true) : callT Tryz.prog fn_salvorref01_At #[.int .i64 (ix x)] (.int .i64) (fun r h' => r = x ∧ h' = h) h := by
  refine callT_gen fun K hK => S_salvorref01_At (a0 := ix x) K ?_
  unfold F_salvorref01_At
  have hx' := rt_iff.1 hx
  have h0 := ix_nonneg hx
  have h1 : ix x ≤ 2097151 := by unfold ix; split <;> omega
  rw [decide_eq_false (show ¬ ix x < 0 by omega), brB_false, decide_eq_false (show ¬ ix x > 2097151 by omega), brB_false]
  refine ⟨by decide, by decide, ?_⟩
  rw [Int.tmod_eq_emod_of_nonneg h0, Int.tdiv_eq_ediv_of_nonneg h0]
  by_cases hneg : x < 0
  · have e1 : ix x = 2 * (-x - 1) + 1 := by unfold ix; rw [if_pos hneg]
    have e2 : ix x % 2 = 1 := by omega
    have e3 : ix x / 2 = -x - 1 := by omega
    rw [e2, e3]
    rw [show ((1 : Int) == 1) = true from rfl, brB_true]
    refine hK _ _ ⟨?_, rfl⟩
    rw [wrap_i64 (x := -x - 1) (by omega) (by omega), wrap_i64 (x := -x - 1 + 1) (by omega) (by omega), wrap_i64 (by omega) (by omega)]
    exact (show (0 - (-x - 1 + 1) : Int) = x by omega)
  · have e1 : ix x = 2 * (x - 1) := by unfold ix; rw [if_neg hneg]
    have e2 : ix x % 2 = 0 := by omega
    have e3 : ix x / 2 = x - 1 := by omega
    rw [e2, e3]
    rw [show ((0 : Int) == 1) = false from rfl, brB_false]
    refine hK _ _ ⟨?_, rfl⟩
    rw [wrap_i64 (x := x - 1) (by omega) (by omega), wrap_i64 (by omega) (by omega)]
    exact (show (x - 1 + 1 : Int) = x by omega)

theorem r1_compare_c {x y : Int} (hx : rt x = true) (hy : rt y = true) : callT Tryz.prog fn_salvorref01_Compare #[.int .i64 x, .int .i64 y] (.int .i64) (fun r h' => r = cmpLit x y ∧ h' = h) h := by
  refine callT_gen fun K hK => S_salvorref01_Compare (a0 := x) (a1 := y) K ?_
  unfold F_salvorref01_Compare
  refine call_of (r1_index_c x) ?_
  rintro r h' ⟨rfl, rfl⟩
  refine call_of (r1_index_c y) ?_
  rintro r h' ⟨rfl, rfl⟩
  simp only [hx, hy, if_true]
  have h0 := ix_nonneg hx
  rw [decide_eq_false (show ¬ ix x < 0 by omega), brB_false]
  refine jn_in fun J hJ => hJ _ _ ?_
  simp only
  have key : ∀ r : Int, r = cmpI (ix x) (ix y) → K r h' := fun r e => hK _ _ ⟨by rw [cmpLit_rt hx hy, e], rfl⟩
  by_cases h1 : ix x < ix y
  · rw [decide_eq_true h1, brB_true]; exact key _ (by simp [cmpI, h1])
  · rw [decide_eq_false h1, brB_false]
    by_cases h2 : ix x > ix y
    · rw [decide_eq_true h2, brB_true]; exact key _ (by simp [cmpI, h1, h2])
    · rw [decide_eq_false h2, brB_false]; exact key _ (by simp [cmpI, h1, h2])

theorem r2_right_c (hA : At h (li c s)) (hl : c.length ≤ 1099511627776) : callT Tryz.prog fn_salvorref02_Right #[.slice s.a s.len s.cap] .bool (fun r h' => r = rightC c ∧ h' = h) h := by
  refine callT_gen fun K hK => S_salvorref02_Right (a0 := s) K ?_
  unfold F_salvorref02_Right
  have l1 := rsl_len hA
  by_cases h1 : c.length > 4096
  · rw [decide_eq_true (show (s.len : Int) > 4096 by omega), brB_true]
    refine hK _ _ ⟨?_, rfl⟩
    unfold rightC; rw [decide_eq_false (by omega)]; rfl
  · rw [decide_eq_false (show ¬ (s.len : Int) > 4096 by omega), brB_false]
    refine lfp_invh (I := fun m σ h' => ∃ i : Nat, σ = ((i : Int), false, ()) ∧ i ≤ c.length ∧ (∀ j (hj : j < c.length), j < i → rt c[j] = true) ∧ h' = h ∧ m = c.length - i) ⟨_, 0, rfl, by omega, by omega, rfl, rfl⟩ ?_
    rintro m σ h' X ⟨i, rfl, hi, hp, rfl, em⟩ hX
    simp only
    by_cases hlt : i < c.length
    · rw [show decide ((i : Int) < (s.len : Int)) = true by rw [l1]; exact dlt_t hlt, brB_true, inc_i (show i < 4611686018427387904 by omega)]
      refine rdE (τ := i64) hA hlt ?_
      refine call_of (r1_right_c _) ?_
      rintro r h2 ⟨rfl, rfl⟩
      cases he : rt c[i] with
      | true =>
        simp only [Bool.not_true, brB_false]
        refine hX _ _ _ ⟨i + 1, rfl, by omega, fun j hj hji => ?_, rfl, rfl⟩ (by omega)
        by_cases ej : j = i
        · subst ej; exact he
        · exact hp j hj (by omega)
      | false =>
        simp only [Bool.not_false, brB_true]
        refine hK _ _ ⟨?_, rfl⟩
        have : c.all rt = false := List.all_eq_false.2 ⟨_, List.getElem_mem hlt, by simp [he]⟩
        unfold rightC; rw [this, Bool.and_false]
    · rw [show decide ((i : Int) < (s.len : Int)) = false by rw [l1]; exact dlt_f hlt, brB_false]
      refine hK _ _ ⟨?_, rfl⟩
      have : c.all rt = true := by
        rw [List.all_eq_true]
        intro x hx
        obtain ⟨j, hj, rfl⟩ := List.mem_iff_getElem.1 hx
        exact hp j hj (by omega)
      unfold rightC; rw [this, decide_eq_true (by omega)]; rfl

theorem r2_has_c (hA : At h (li c s)) (hl : c.length ≤ 1099511627776) (l : Int) : callT Tryz.prog fn_salvorref02_Has #[.slice s.a s.len s.cap, .int .i64 l] .bool (fun r h' => r = c.contains l ∧ h' = h) h := by
  refine callT_gen fun K hK => S_salvorref02_Has (a0 := s) (a1 := l) K ?_
  unfold F_salvorref02_Has
  have l1 := rsl_len hA
  refine lfp_invh (I := fun m σ h' => ∃ i : Nat, σ = ((i : Int), false, ()) ∧ i ≤ c.length ∧ l ∉ c.take i ∧ h' = h ∧ m = c.length - i) ⟨_, 0, rfl, by omega, by simp, rfl, rfl⟩ ?_
  rintro m σ h' X ⟨i, rfl, hi, hp, rfl, em⟩ hX
  simp only
  by_cases hlt : i < c.length
  · rw [show decide ((i : Int) < (s.len : Int)) = true by rw [l1]; exact dlt_t hlt, brB_true, inc_i (show i < 4611686018427387904 by omega)]
    refine rdE (τ := i64) hA hlt ?_
    by_cases he : c[i] = l
    · rw [show (c[i] == l) = true by simp [he], brB_true]
      refine hK _ _ ⟨?_, rfl⟩
      symm; rw [List.contains_iff_mem]; exact he ▸ List.getElem_mem hlt
    · rw [show (c[i] == l) = false by simp [he], brB_false]
      exact hX _ _ _ ⟨i + 1, rfl, by omega, not_mem_take_succ hlt hp (fun e => he e.symm), rfl, rfl⟩ (by omega)
  · rw [show decide ((i : Int) < (s.len : Int)) = false by rw [l1]; exact dlt_f hlt, brB_false]
    rw [List.take_of_length_le (by omega)] at hp
    refine hK _ _ ⟨?_, rfl⟩
    symm; simpa using hp

theorem r2_always_c (hA : At h (li c s)) (hr : rightC c = true) : callT Tryz.prog fn_salvorref02_Always #[.slice s.a s.len s.cap] .bool (fun r h' => r = alwaysC c ∧ h' = h) h := by
  refine callT_gen fun K hK => S_salvorref02_Always (a0 := s) K ?_
  unfold F_salvorref02_Always
  have l1 := rsl_len hA
  have hl := rightC_len hr
  refine lfp_invh (I := fun m σ h' => ∃ i : Nat, σ = ((i : Int), false, ()) ∧ i ≤ c.length ∧ (∀ x ∈ c.take i, c.contains (-x) = false) ∧ h' = h ∧ m = c.length - i) ⟨_, 0, rfl, by omega, by simp, rfl, rfl⟩ ?_
  rintro m σ h' X ⟨i, rfl, hi, hp, rfl, em⟩ hX
  simp only
  by_cases hlt : i < c.length
  · rw [show decide ((i : Int) < (s.len : Int)) = true by rw [l1]; exact dlt_t hlt, brB_true, inc_i (show i < 4611686018427387904 by omega)]
    refine rdE (τ := i64) hA hlt ?_
    rw [wneg (rightC_rt hr _ (List.getElem_mem hlt))]
    refine call_of (r2_has_c hA (by omega) _) ?_
    rintro r h2 ⟨rfl, rfl⟩
    cases he : c.contains (-c[i]) with
    | true =>
      simp only [brB_true]
      exact hK _ _ ⟨(List.any_eq_true.2 ⟨_, List.getElem_mem hlt, he⟩).symm, rfl⟩
    | false =>
      simp only [brB_false]
      refine hX _ _ _ ⟨i + 1, rfl, by omega, fun x hx => ?_, rfl, rfl⟩ (by omega)
      rw [take_succ_getE hlt] at hx
      rcases mem_snoc1 hx with hx | hx
      · exact hp x hx
      · subst hx; exact he
  · rw [show decide ((i : Int) < (s.len : Int)) = false by rw [l1]; exact dlt_f hlt, brB_false]
    rw [List.take_of_length_le (by omega)] at hp
    refine hK _ _ ⟨?_, rfl⟩
    symm; unfold alwaysC; rw [List.any_eq_false]; intro x hx; rw [hp x hx]; simp

theorem r2_norm_c (hA : At h (li c s)) (hl : c.length ≤ 1048576) (hrt : ∀ x ∈ c, rt x = true) : callT Tryz.prog fn_salvorref02_Norm #[.slice s.a s.len s.cap] .sl (fun s' h' => New h.size h' (io (nrm c) s') ∧ Ext [] h h') h := by
  refine callT_gen fun K hK => S_salvorref02_Norm (a0 := s) K ?_
  unfold F_salvorref02_Norm
  obtain ⟨hsN, hmN⟩ := nrm_spec hrt
  have hrN : ∀ x ∈ nrm c, rt x = true := fun x hx => hrt x ((hmN x).1 hx)
  have hlN := nrm_length c
  have st := (Hs.start h [] (by simp)).nil ty_int i64.enc none
  refine lfp_invh (I := fun m σ h' => ∃ (k : Nat) (last : Int) (s' : Sl), σ = (last, s', ⟨none, 0, 0⟩, ()) ∧ k ≤ (nrm c).length ∧ (∀ j (hj : j < (nrm c).length), ix (nrm c)[j] > last ↔ k ≤ j) ∧ Hs [([], h)] [] [io ((nrm c).take k) s'] h' ∧ m = (nrm c).length - k)
    ⟨_, 0, -1, ⟨none, 0, 0⟩, rfl, by omega, fun j hj => ⟨fun _ => by omega, fun _ => by have := ix_nonneg (hrN _ (List.getElem_mem hj)); omega⟩, st, rfl⟩ ?_
  clear st
  rintro m σ h1 X ⟨k, last, s', rfl, hk, hlast, st, em⟩ hX
  have hA1 := hA.ext (st.frame (by simp))
  have l1 := rsl_len hA
  simp only
  refine lfp_invh (I := fun m σ h' => ∃ (i : Nat) (b : Int), σ = ((i : Int), b, ()) ∧ i ≤ c.length ∧ ((b = -1 ∧ ∀ x ∈ c.take i, ¬ ix x > last) ∨ (∃ x ∈ c.take i, ix x = b ∧ ix x > last ∧ ∀ y ∈ c.take i, ix y > last → b ≤ ix y)) ∧ h' = h1 ∧ m = c.length - i)
    ⟨_, 0, -1, rfl, by omega, .inl ⟨rfl, by simp⟩, rfl, rfl⟩ ?_
  rintro m2 σ2 h' Y ⟨i, b, rfl, hi, hb, rfl, em2⟩ hY
  simp only
  by_cases hlt : i < c.length
  · rw [show decide ((i : Int) < (s.len : Int)) = true by rw [l1]; exact dlt_t hlt, brB_true, inc_i (show i < 4611686018427387904 by omega)]
    refine rdE (τ := i64) hA1 hlt ?_
    refine call_of (r1_index_c _) ?_
    rintro r h2 ⟨rfl, rfl⟩
    have hri := hrt _ (List.getElem_mem hlt)
    have hin := ix_nonneg hri
    rw [if_pos hri]
    have hmem : ∀ y, y ∈ c.take (i + 1) ↔ y ∈ c.take i ∨ y = c[i] := fun y => mem_take_succ hlt
    by_cases hgt : ix c[i] > last
    · rw [decide_eq_true hgt, brB_true]
      by_cases hb0 : b < 0
      · rw [decide_eq_true hb0, brB_true]
        refine jn_in fun J hJ => hJ _ _ (hY _ _ _ ⟨i + 1, _, rfl, by omega, .inr ⟨c[i], (hmem _).2 (.inr rfl), rfl, hgt, fun y hy hyg => ?_⟩, rfl, rfl⟩ (by omega))
        rcases hb with ⟨_, hn⟩ | ⟨x, hx, e, hg, _⟩
        · rcases (hmem y).1 hy with hy | rfl
          · exact absurd hyg (hn y hy)
          · exact Int.le_refl _
        · have := ix_nonneg (hrt x (List.mem_of_mem_take hx)); omega
      · rw [decide_eq_false hb0, brB_false]
        rcases hb with ⟨rfl, _⟩ | ⟨x, hx, e, hg, hmin⟩
        · omega
        · refine jn_in fun J hJ => ?_
          by_cases hlt2 : ix c[i] < b
          · rw [decide_eq_true hlt2, brB_true]
            refine hJ _ _ (hY _ _ _ ⟨i + 1, _, rfl, by omega, .inr ⟨c[i], (hmem _).2 (.inr rfl), rfl, hgt, fun y hy hyg => ?_⟩, rfl, rfl⟩ (by omega))
            rcases (hmem y).1 hy with hy | rfl
            · have := hmin y hy hyg; omega
            · exact Int.le_refl _
          · rw [decide_eq_false hlt2, brB_false]
            refine hJ _ _ (hY _ _ _ ⟨i + 1, _, rfl, by omega, .inr ⟨x, (hmem _).2 (.inl hx), e, hg, fun y hy hyg => ?_⟩, rfl, rfl⟩ (by omega))
            rcases (hmem y).1 hy with hy | rfl
            · exact hmin y hy hyg
            · omega
    · rw [decide_eq_false hgt, brB_false]
      refine jn_in fun J hJ => hJ _ _ (hY _ _ _ ⟨i + 1, b, rfl, by omega, ?_, rfl, rfl⟩ (by omega))
      rcases hb with ⟨e, hn⟩ | ⟨x, hx, e, hg, hmin⟩
      · refine .inl ⟨e, fun y hy => ?_⟩
        rcases (hmem y).1 hy with hy | rfl
        · exact hn y hy
        · exact hgt
      · refine .inr ⟨x, (hmem _).2 (.inl hx), e, hg, fun y hy hyg => ?_⟩
        rcases (hmem y).1 hy with hy | rfl
        · exact hmin y hy hyg
        · exact absurd hyg hgt
  · rw [show decide ((i : Int) < (s.len : Int)) = false by rw [l1]; exact dlt_f hlt, brB_false]
    rw [List.take_of_length_le (by omega)] at hb
    rcases sel hsN hrN hmN hk hlast hb with ⟨ek, rfl⟩ | ⟨hkl, rfl⟩
    · rw [show decide ((-1 : Int) < 0) = true from rfl, brB_true]
      rw [ek, List.take_length] at st
      exact hK _ _ ⟨st.res (by simp) 0 rfl, st.frame (by simp)⟩
    · have hrk := hrN _ (List.getElem_mem hkl)
      have := ix_nonneg hrk
      rw [decide_eq_false (show ¬ ix (nrm c)[k] < 0 by omega), brB_false]
      refine call_of (r1_at_c hrk) ?_
      rintro r h2 ⟨rfl, rfl⟩
      refine st.nw fun b14 h3 st => ?_
      refine st.apd (enc := i64.enc) (v := (nrm c)[k]) 0 1 rfl rfl (by decide) rfl (by simp; omega) (by decide) rfl fun s7 h4 st => ?_
      refine hX _ _ _ ⟨k + 1, _, s7, rfl, by omega, fun j hj => ?_, ?_, rfl⟩ (by omega)
      · show ix (nrm c)[k] < ix (nrm c)[j] ↔ _
        rw [← ltL_rt hrk (hrN _ (List.getElem_mem hj))]
        constructor
        · intro hh
          rcases Nat.lt_or_ge k j with hkj | hkj
          · omega
          · rcases Nat.lt_or_eq_of_le hkj with hjk | hjk
            · rw [ltL_asymm (List.pairwise_iff_getElem.1 hsN j k hj hkl hjk)] at hh; cases hh
            · subst hjk; rw [ltL_irrefl] at hh; cases hh
        · intro hh; exact List.pairwise_iff_getElem.1 hsN k j hkl hj (by omega)
      · have st := st.drop 1 rfl
        rw [take_succ_getE hkl]; exact st

end Go.Proofs.S

set_option linter.unusedVariables false
namespace Go.Proofs.S
open Go Go.Sx Go.Proofs Go.Cl

variable {h : Heap} {c d : List Int} {s s2 : Sl} {fr : Fr} {G As : List Asn}

theorem r2_compare_c (hA : At h (li c s)) (hB : At h (li d s2)) (hr : rightC c = true) (hr2 : rightC d = true) : callT Tryz.prog fn_salvorref02_Compare #[.slice s.a s.len s.cap, .slice s2.a s2.len s2.cap] (.int .i64)
    (fun r h' => r = compareP c d ∧ Ext [] h h') h := by
  refine callT_gen fun K hK => S_salvorref02_Compare (a0 := s) (a1 := s2) K ?_
  unfold F_salvorref02_Compare
  have hl := rightC_len hr
  have hl2 := rightC_len hr2
  have hn := nrm_length c
  have st := Hs.start h [] (by simp)
  refine call_of (r2_norm_c hA (by omega) (rightC_rt hr)) ?_
  rintro s3 h3 ⟨n3, x3⟩
  have st := st.new x3 n3
  refine call_of (r2_norm_c (hB.ext (st.frame (by simp))) (by omega) (rightC_rt hr2)) ?_
  rintro s4 h4 ⟨n4, x4⟩
  have st := st.new x4 n4
  have hN := (st.own 0 rfl).rsl
  have hM := (st.own 1 rfl).rsl
  have l1 := rsl_len hN
  have l2 := rsl_len hM
  have e : compareP c d = (if cmpI (nrm c).length (nrm d).length ≠ 0 then cmpI (nrm c).length (nrm d).length else cmpL cmpLit (nrm c) (nrm d)) := by simp [compareP, hr, hr2]
  have key : ∀ r : Int, r = compareP c d → K r h4 := fun r er => hK _ _ ⟨er, st.frame (by simp)⟩
  by_cases hlen : (nrm c).length = (nrm d).length
  · rw [show ((s3.len : Int) != (s4.len : Int)) = false by rw [l1, l2, hlen]; simp, brB_false]
    have e2 : compareP c d = cmpL cmpLit (nrm c) (nrm d) := by rw [e, hlen, if_neg (by simp [cmpI_zero])]
    refine lfp_invh (I := fun m σ h' => ∃ i : Nat, σ = ((i : Int), 0, ()) ∧ i ≤ (nrm c).length ∧ cmpL cmpLit ((nrm c).drop i) ((nrm d).drop i) = compareP c d ∧ h' = h4 ∧ m = (nrm c).length - i) ⟨_, 0, rfl, by omega, e2.symm, rfl, rfl⟩ ?_
    rintro m σ h' X ⟨i, rfl, hi, hD, rfl, em⟩ hX
    simp only
    by_cases hlt : i < (nrm c).length
    · rw [show decide ((i : Int) < (s3.len : Int)) = true by rw [l1]; exact dlt_t hlt, brB_true, inc_i (show i < 4611686018427387904 by omega)]
      refine rdE (τ := i64) hN hlt ?_
      refine rdE (τ := i64) hM (show i < (nrm d).length by omega) ?_
      refine call_of (r1_compare_c (rightC_rt (right_nrm hr) _ (List.getElem_mem _)) (rightC_rt (right_nrm hr2) _ (List.getElem_mem _))) ?_
      rintro r h5 ⟨rfl, rfl⟩
      rw [List.drop_eq_getElem_cons hlt, List.drop_eq_getElem_cons (show i < (nrm d).length by omega), cmpL] at hD
      by_cases h0 : cmpLit (nrm c)[i] ((nrm d)[i]'(by omega)) = 0
      · rw [if_neg (by simp [h0])] at hD
        rw [show (cmpLit (nrm c)[i] ((nrm d)[i]'(by omega)) != 0) = false by simp [h0], brB_false]
        exact hX _ _ _ ⟨i + 1, rfl, by omega, hD, rfl, rfl⟩ (by omega)
      · rw [if_pos h0] at hD
        rw [show (cmpLit (nrm c)[i] ((nrm d)[i]'(by omega)) != 0) = true by simp [h0], brB_true]
        exact key _ hD
    · rw [show decide ((i : Int) < (s3.len : Int)) = false by rw [l1]; exact dlt_f hlt, brB_false]
      rw [List.drop_eq_nil_of_le (by omega), List.drop_eq_nil_of_le (by omega)] at hD
      exact key _ hD
  · rw [show ((s3.len : Int) != (s4.len : Int)) = true by rw [l1, l2]; simp; omega, brB_true]
    have e2 : compareP c d = cmpI (nrm c).length (nrm d).length := by rw [e, if_pos]; simp only [ne_eq, cmpI_zero]; omega
    by_cases hlt : (nrm c).length < (nrm d).length
    · rw [decide_eq_true (show (s3.len : Int) < (s4.len : Int) by omega), brB_true]
      exact key _ (by rw [e2]; unfold cmpI; rw [if_pos (by omega)])
    · rw [decide_eq_false (show ¬ (s3.len : Int) < (s4.len : Int) by omega), brB_false]
      exact key _ (by rw [e2]; unfold cmpI; rw [if_neg (by omega), if_pos (by omega)])

theorem clause_c (hA : At h (li c s)) (hl : c.length ≤ 1048576) : callT Tryz.prog fn_salvorlaw02_Clause #[.slice s.a s.len s.cap] .sl (fun s' h' => New h.size h' (lo c s') ∧ Ext [] h h') h := by
  refine callT_gen fun K hK => S_salvorlaw02_Clause (a0 := s) K ?_
  unfold F_salvorlaw02_Clause
  have l1 := rsl_len hA
  have st := (Hs.start h [] (by simp)).nil ty_lits_Lit i64.enc none
  refine lfp_invh (I := fun m σ h' => ∃ (i : Nat) (s' : Sl), σ = ((i : Int), s', ()) ∧ i ≤ c.length ∧ Hs [([], h)] [] [lo (c.take i) s'] h' ∧ m = c.length - i) ⟨_, 0, ⟨none, 0, 0⟩, rfl, by omega, st, rfl⟩ ?_
  clear st
  rintro m σ h2 X ⟨i, s', rfl, hi, st, em⟩ hX
  have hA1 := hA.ext (st.frame (by simp))
  simp only
  by_cases hlt : i < c.length
  · rw [show decide ((i : Int) < (s.len : Int)) = true by rw [l1]; exact dlt_t hlt, brB_true, inc_i (show i < 4611686018427387904 by omega)]
    refine rdE (τ := i64) hA1 hlt ?_
    refine st.nw fun b9 h3 st => ?_
    refine st.apd (enc := i64.enc) (v := c[i]) 0 1 rfl rfl (by decide) rfl (by simp; omega) (by decide) rfl fun s7 h4 st => ?_
    refine hX _ _ _ ⟨i + 1, s7, rfl, by omega, ?_, rfl⟩ (by omega)
    have st := st.drop 1 rfl
    rw [take_succ_getE hlt]; exact st
  · rw [show decide ((i : Int) < (s.len : Int)) = false by rw [l1]; exact dlt_f hlt, brB_false]
    rw [List.take_of_length_le (by omega)] at st
    exact hK _ _ ⟨st.res (by simp) 0 rfl, st.frame (by simp)⟩

theorem ints_c (hA : At h (li c s)) (hl : c.length ≤ 1048576) : callT Tryz.prog fn_salvorlaw02_Ints #[.slice s.a s.len s.cap] .sl (fun s' h' => New h.size h' (io c s') ∧ Ext [] h h') h := by
  refine callT_gen fun K hK => S_salvorlaw02_Ints (a0 := s) K ?_
  unfold F_salvorlaw02_Ints
  have l1 := rsl_len hA
  have st := (Hs.start h [] (by simp)).nil ty_int i64.enc none
  refine lfp_invh (I := fun m σ h' => ∃ (i : Nat) (s' : Sl), σ = ((i : Int), s', ()) ∧ i ≤ c.length ∧ Hs [([], h)] [] [io (c.take i) s'] h' ∧ m = c.length - i) ⟨_, 0, ⟨none, 0, 0⟩, rfl, by omega, st, rfl⟩ ?_
  clear st
  rintro m σ h2 X ⟨i, s', rfl, hi, st, em⟩ hX
  have hA1 := hA.ext (st.frame (by simp))
  simp only
  by_cases hlt : i < c.length
  · rw [show decide ((i : Int) < (s.len : Int)) = true by rw [l1]; exact dlt_t hlt, brB_true, inc_i (show i < 4611686018427387904 by omega)]
    refine rdE (τ := i64) hA1 hlt ?_
    refine st.nw fun b9 h3 st => ?_
    refine st.apd (enc := i64.enc) (v := c[i]) 0 1 rfl rfl (by decide) rfl (by simp; omega) (by decide) rfl fun s7 h4 st => ?_
    refine hX _ _ _ ⟨i + 1, s7, rfl, by omega, ?_, rfl⟩ (by omega)
    have st := st.drop 1 rfl
    rw [take_succ_getE hlt]; exact st
  · rw [show decide ((i : Int) < (s.len : Int)) = false by rw [l1]; exact dlt_f hlt, brB_false]
    rw [List.take_of_length_le (by omega)] at st
    exact hK _ _ ⟨st.res (by simp) 0 rfl, st.frame (by simp)⟩

end Go.Proofs.S

set_option linter.unusedVariables false
namespace Go.Cl
open Go.Sx

def insL (x : Int) : List Int → List Int
  | [] => [x]
  | y :: ys => if x = y then y :: ys else if ltL x y then x :: y :: ys else y :: insL x ys
def nrmF (c : List Int) : List Int := c.foldr insL []

theorem mem_insL {x z : Int} : ∀ {ys : List Int}, z ∈ insL x ys ↔ z = x ∨ z ∈ ys
  | [] => by simp [insL]
  | y :: ys => by
    unfold insL
    split
    · rename_i e; subst e; simp
    · split
      · simp
      · rw [List.mem_cons, mem_insL, List.mem_cons]
        constructor
        · rintro (h | h | h)
          · exact .inr (.inl h)
          · exact .inl h
          · exact .inr (.inr h)
        · rintro (h | h | h)
          · exact .inr (.inl h)
          · exact .inl h
          · exact .inr (.inr h)

theorem insL_strict {x : Int} : ∀ {ys : List Int}, Strict ys → Strict (insL x ys)
  | [], _ => by simp [insL]
  | y :: ys, h => by
    have h' := List.pairwise_cons.1 h
    unfold insL
    split
    · exact h
    · split
      · rename_i hlt
        exact List.pairwise_cons.2 ⟨fun z hz => by
          rcases List.mem_cons.1 hz with rfl | hz
          · exact hlt
          · exact ltL_trans hlt (h'.1 z hz), h⟩
      · rename_i hne hlt
        have hyx : ltL y x = true := by
          cases hh : ltL y x with
          | true => rfl
          | false => exact absurd (ltL_total (by simpa using hlt) hh) hne
        refine List.pairwise_cons.2 ⟨fun z hz => ?_, insL_strict h'.2⟩
        rcases mem_insL.1 hz with rfl | hz
        · exact hyx
        · exact h'.1 z hz

theorem nrmF_spec : ∀ (c : List Int), Strict (nrmF c) ∧ ∀ x, x ∈ nrmF c ↔ x ∈ c
  | [] => ⟨List.Pairwise.nil, fun x => Iff.rfl⟩
  | y :: ys => by
    obtain ⟨h1, h2⟩ := nrmF_spec ys
    exact ⟨insL_strict h1, fun x => by rw [show nrmF (y :: ys) = insL y (nrmF ys) from rfl, mem_insL, h2, List.mem_cons]⟩

def nrmT (c : List Int) : List Int := if c.all rt then nrmF c else nrm c
theorem nrm_T : nrm = nrmT := by
  funext c
  unfold nrmT
  split
  · rename_i h
    rw [List.all_eq_true] at h
    exact (nrm_eq h (nrmF_spec c).1 (nrmF_spec c).2).symm
  · rfl

theorem cmpL_zero : ∀ {xs ys : List Int}, cmpL cmpLit xs ys = 0 ↔ xs = ys
  | [], [] => by simp [cmpL]
  | [], y :: ys => by simp [cmpL]
  | x :: xs, [] => by simp [cmpL]
  | x :: xs, y :: ys => by
    simp only [cmpL]
    by_cases h : cmpLit x y = 0
    · rw [if_neg (by simp [h]), cmpL_zero, cmpLit_zero.1 h]; simp
    · rw [if_pos h]
      constructor
      · intro e; exact absurd e h
      · intro e; injection e with e1 e2; exact absurd (cmpLit_zero.2 e1) h

theorem same_compare {c d : List Int} (hr : rightC c = true) (hr2 : rightC d = true) : sameP c d = (compareP c d == 0) := by
  unfold sameP compareP
  rw [hr, hr2]
  simp only [Bool.and_self, Bool.true_and, if_true]
  by_cases hl : (nrm c).length = (nrm d).length
  · rw [hl, if_neg (by simp [cmpI_zero]), Bool.eq_iff_iff]
    simp [cmpL_zero]
  · have h0 : cmpI (nrm c).length (nrm d).length ≠ 0 := by rw [ne_eq, cmpI_zero]; omega
    rw [if_pos h0]
    have h1 : ¬ nrm c = nrm d := fun e => hl (by rw [e])
    rw [decide_eq_false h1]
    symm; simpa using h0

end Go.Cl

set_option linter.unusedVariables false
set_option linter.unusedSimpArgs false
namespace Go.Proofs.S
open Go Go.Sx Go.Proofs Go.Cl

variable {h : Heap} {c d : List Int} {s s2 : Sl} {fr : Fr} {G As : List Asn}

theorem u8_of {l : List Int} (hw : ∀ z ∈ l, 0 ≤ z ∧ z < 256) : ∀ n ∈ l, 0 ≤ n ∧ n ≤ 255 := fun n hn => by have := hw n hn; omega

def litOf (n : Int) : Int := if n % 2 = 1 then -(1 + n / 2 % 8) else 1 + n / 2 % 8
def madeP (l : List Int) : List Int := (l.take 20).map litOf
def U8 (l : List Int) : Prop := ∀ n ∈ l, 0 ≤ n ∧ n ≤ 255
abbrev lu (l : List Int) (s : Sl) : Asn := rsl (Ty.int .u8).enc l s

theorem wrap_u8 {x : Int} (h0 : 0 ≤ x) (h1 : x ≤ 255) : IntKind.wrap .u8 x = x := by
  have e : IntKind.wrap .u8 x = x % 256 := by simp [IntKind.wrap, IntKind.bits, IntKind.signed]
  rw [e]; omega

theorem made_step {x : Int} (h0 : 0 ≤ x) (h1 : x ≤ 255) : IntKind.wrap .i64 (IntKind.wrap .u8 ((1 : Int) + (Int.tmod (IntKind.wrap .u8 (Int.tdiv x (2 : Int))) (8 : Int)))) = 1 + x / 2 % 8 := by
  rw [Int.tdiv_eq_ediv_of_nonneg h0, wrap_u8 (x := x / 2) (by omega) (by omega), Int.tmod_eq_emod_of_nonneg (by omega), wrap_u8 (x := 1 + x / 2 % 8) (by omega) (by omega), wrap_i64 (by omega) (by omega)]

theorem made_c (hA : At h (lu c s)) (hu : U8 c) : callT Tryz.prog fn_salvorlaw02_Made #[.slice s.a s.len s.cap] .sl (fun s' h' => New h.size h' (lo (madeP c) s') ∧ Ext [] h h') h := by
  refine callT_gen fun K hK => S_salvorlaw02_Made (a0 := s) K ?_
  unfold F_salvorlaw02_Made
  have l1 := rsl_len hA
  have l2 := rsl_cap hA
  have em : (if (20 : Int) < (s.len : Int) then (20 : Int) else (s.len : Int)) = ((min c.length 20 : Nat) : Int) := by split <;> omega
  rw [em]
  refine ⟨Int.natCast_nonneg _, Int.ofNat_le.2 (show min c.length 20 ≤ s.cap by omega), ?_⟩
  rw [Int.toNat_natCast]
  have hS : At h (lu (c.take 20) (slR ⟨s.a, s.len, s.cap⟩ 0 (min c.length 20) 1)) := by
    have := rsl_sub hA (l := 0) (m := min c.length 20) (by omega) (by omega)
    have e : List.take (min c.length 20) c = c.take 20 := by
      rcases Nat.le_total c.length 20 with k | k
      · rw [Nat.min_eq_left k, List.take_length, List.take_of_length_le k]
      · rw [Nat.min_eq_right k]
    rw [e] at this; exact this
  generalize slR ⟨s.a, s.len, s.cap⟩ 0 (min c.length 20) 1 = s0 at hS
  have l3 := rsl_len hS
  unfold madeP at hK
  have hu2 : U8 (c.take 20) := fun n hn => hu n (List.mem_of_mem_take hn)
  have hl2 : (c.take 20).length ≤ 20 := by simp; omega
  generalize c.take 20 = d at *
  have st := (Hs.start h [] (by simp)).nil ty_lits_Lit i64.enc none
  refine lfp_invh (I := fun m σ h' => ∃ (i : Nat) (s' : Sl), σ = ((i : Int), s', ()) ∧ i ≤ d.length ∧ Hs [([], h)] [] [lo ((d.take i).map litOf) s'] h' ∧ m = d.length - i) ⟨_, 0, ⟨none, 0, 0⟩, rfl, by omega, st, rfl⟩ ?_
  clear st
  rintro m σ h2 X ⟨i, s', rfl, hi, st, em⟩ hX
  have hA1 := hS.ext (st.frame (by simp))
  simp only
  by_cases hlt : i < d.length
  · rw [show decide ((i : Int) < (s0.len : Int)) = true by rw [l3]; exact dlt_t hlt, brB_true, inc_i (show i < 4611686018427387904 by omega)]
    refine rdE (τ := .int .u8) hA1 hlt ?_
    obtain ⟨hx0, hx1⟩ := hu2 _ (List.getElem_mem hlt)
    refine ⟨by decide, by decide, by decide, jn_in fun J hJ => ?_⟩
    rw [made_step hx0 hx1, Int.tmod_eq_emod_of_nonneg hx0, wrap_i64 (x := 0 - (1 + d[i] / 2 % 8)) (by omega) (by omega)]
    have fin : J (litOf d[i], ()) h2 := by
      refine hJ _ _ ?_
      refine st.nw fun b9 h3 st => ?_
      refine st.apd (enc := i64.enc) (v := litOf d[i]) 0 1 rfl rfl (by decide) rfl (by simp; omega) (by decide) rfl fun s7 h4 st => ?_
      refine hX _ _ _ ⟨i + 1, s7, rfl, by omega, ?_, rfl⟩ (by omega)
      have st := st.drop 1 rfl
      rw [take_succ_getE hlt, List.map_append]; exact st
    unfold litOf at fin
    by_cases h2 : d[i] % 2 = 1
    · rw [show (d[i] % 2 == 1) = true by simp [h2], brB_true]
      rw [if_pos h2, ← Int.zero_sub] at fin; exact fin
    · rw [show (d[i] % 2 == 1) = false by simp [h2], brB_false]
      rw [if_neg h2] at fin; exact fin
  · rw [show decide ((i : Int) < (s0.len : Int)) = false by rw [l3]; exact dlt_f hlt, brB_false]
    rw [List.take_of_length_le (by omega)] at st
    exact hK _ _ ⟨st.res (by simp) 0 rfl, st.frame (by simp)⟩

def mlit (b v : Nat) : Int := if b / 2 ^ v % 2 = 1 then -((v : Int) + 1) else (v : Int) + 1
def modelP (b : Nat) : List Int := (List.range 8).map (mlit b)

theorem band_bit (b v : Nat) (hb : b < 256) (hv : v < 8) : (bAnd .u8 (Int.fdiv (b : Int) (2 ^ (min (v : Int).toNat 8))) 1 == 1) = decide (b / 2 ^ v % 2 = 1) := by
  have e1 : Int.fdiv (b : Int) (2 ^ (min (v : Int).toNat 8)) = ((b / 2 ^ v : Nat) : Int) := by
    rw [Int.toNat_natCast, Nat.min_eq_left (by omega), Int.fdiv_eq_ediv_of_nonneg _ (by exact Int.le_of_lt (Int.pow_pos (by decide)))]
    simp
  have hlt : b / 2 ^ v < 256 := Nat.lt_of_le_of_lt (Nat.div_le_self _ _) hb
  rw [e1]
  generalize b / 2 ^ v = x at hlt
  have e2 : bAnd .u8 (x : Int) 1 = ((x % 2 : Nat) : Int) := by
    unfold bAnd
    have e3 : (BitVec.ofInt 8 (x : Int) &&& BitVec.ofInt 8 1).toNat = x % 2 := by
      rw [BitVec.toNat_and]
      have e4 : (BitVec.ofInt 8 (x : Int)).toNat = x := by simp [BitVec.toNat_ofInt]; omega
      rw [e4, show (BitVec.ofInt 8 1).toNat = 1 from rfl, Nat.and_one_is_mod]
    show IntKind.wrap .u8 (((BitVec.ofInt 8 (x : Int) &&& BitVec.ofInt 8 1).toNat : Nat) : Int) = _
    rw [e3, wrap_u8 (by omega) (by omega)]
  rw [e2]
  rcases Nat.mod_two_eq_zero_or_one x with k | k <;> rw [k] <;> rfl

end Go.Proofs.S
