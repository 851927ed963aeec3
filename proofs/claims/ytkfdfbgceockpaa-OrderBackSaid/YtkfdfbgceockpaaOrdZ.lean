/-
  slices.Equal, Index, Contains over rows of numbers.
-/
import Derived.Test.YtkfdfbgceockpaaOrdY
set_option linter.unusedVariables false
namespace Go.Proofs.Ord
open Go Go.Sx Go.Proofs

theorem ISl0.rd {h : Heap} {b : Nat} {xs : List Int} {s : Sl} (hs : ISl0 h b xs s) {i : Nat} (hi : i < xs.length) {K : Int → HP} : sx s.a s.len (i : Int) 1 (fun p => ldT (.int .i64) p K) h = K (g xs i) h := by
  rcases hs with ⟨rest, rfl, hb⟩ | ⟨rfl, _, _⟩
  · exact rdn hb hi
  · simp at hi
theorem ISl0.len {h : Heap} {b : Nat} {xs : List Int} {s : Sl} (hs : ISl0 h b xs s) : s.len = xs.length := by
  rcases hs with ⟨rest, rfl, hb⟩ | ⟨rfl, e, _⟩
  · rfl
  · exact e
theorem ISl0.ext {h h' : Heap} {b : Nat} {xs : List Int} {s : Sl} {T : List Nat} (hs : ISl0 h b xs s) (he : Ext T h h') (hn : b ∉ T) : ISl0 h' b xs s := by
  rcases hs with ⟨rest, e, hb⟩ | hh
  · exact .inl ⟨rest, e, hb.ext he hn⟩
  · exact .inr hh

theorem equal_c {h : Heap} {b1 b2 : Nat} {xs ys : List Int} {s t : Sl} (hs : ISl0 h b1 xs s) (ht : ISl0 h b2 ys t) (hl : xs.length ≤ 2000000) :
    callT Try.prog fn_slices_Equal_int_int #[.slice s.a s.len s.cap, .slice t.a t.len t.cap] .bool (fun x h' => x = decide (xs = ys) ∧ h' = h) h := by
  refine callT_gen fun K hK => ?_
  refine S_slices_Equal_int_int (a0 := s) (a1 := t) K ?_
  unfold F_slices_Equal_int_int
  have l1 := hs.len
  have l2 := ht.len
  by_cases hne : xs.length = ys.length
  · have e : ((s.len : Int) != (t.len : Int)) = false := by simp [l1, l2, hne]
    simp only [e, brB_false]
    refine lfp_invh (I := fun m σ h' => ∃ i : Nat, σ = ((i : Int), false, ()) ∧ i ≤ xs.length ∧ (∀ j, j < i → g xs j = g ys j) ∧ h' = h ∧ m = xs.length - i) ⟨_, 0, rfl, by omega, fun j hj => by omega, rfl, rfl⟩ ?_
    rintro m σ h' X ⟨i, rfl, hi, hp, rfl, rfl⟩ hX
    by_cases hlt : i < xs.length
    · have e : decide ((i : Int) < (s.len : Int)) = true := by simp; omega
      have ei : IntKind.wrap .i64 ((i : Int) + 1) = (i + 1 : Nat) := by rw [wrap_i64 (by omega) (by omega)]; omega
      simp only [e, brB_true, hs.rd hlt, ht.rd (show i < ys.length by omega), ei]
      by_cases he : g xs i = g ys i
      · have e2 : (g xs i != g ys i) = false := by simp [he]
        simp only [e2, brB_false]
        refine hX _ _ _ ⟨i + 1, rfl, by omega, fun j hj => ?_, rfl, rfl⟩ (by omega)
        by_cases ej : j = i
        · subst ej; exact he
        · exact hp j (by omega)
      · have e2 : (g xs i != g ys i) = true := by simp [he]
        simp only [e2, brB_true]
        refine hK _ _ ⟨?_, rfl⟩
        symm; rw [decide_eq_false_iff_not]; rintro rfl; exact he rfl
    · have e : decide ((i : Int) < (s.len : Int)) = false := by simp; omega
      simp only [e, brB_false]
      refine hK _ _ ⟨?_, rfl⟩
      symm; rw [decide_eq_true_iff]
      exact ext_g hne fun j hj => hp j (by omega)
  · have e : ((s.len : Int) != (t.len : Int)) = true := by simp [l1, l2]; omega
    simp only [e, brB_true]
    refine hK _ _ ⟨?_, rfl⟩
    symm; rw [decide_eq_false_iff_not]; rintro rfl; exact hne rfl

/-- Where v stands. -/
theorem index_c {h : Heap} {b : Nat} {xs : List Int} {s : Sl} (hs : ISl0 h b xs s) (hl : xs.length ≤ 2000000) (v : Int) :
    callT Try.prog fn_slices_Index_int_int #[.slice s.a s.len s.cap, .int .i64 v] (.int .i64)
      (fun x h' => ((x = -1 ∧ v ∉ xs) ∨ (∃ i : Nat, x = i ∧ i < xs.length ∧ g xs i = v ∧ ∀ j, j < i → g xs j ≠ v)) ∧ h' = h) h := by
  refine callT_gen fun K hK => ?_
  refine S_slices_Index_int_int (a0 := s) (a1 := v) K ?_
  unfold F_slices_Index_int_int
  have l1 := hs.len
  refine lfp_invh (I := fun m σ h' => ∃ i : Nat, σ = ((i : Int), 0, ()) ∧ i ≤ xs.length ∧ (∀ j, j < i → g xs j ≠ v) ∧ h' = h ∧ m = xs.length - i) ⟨_, 0, rfl, by omega, fun j hj => by omega, rfl, rfl⟩ ?_
  rintro m σ h' X ⟨i, rfl, hi, hp, rfl, rfl⟩ hX
  by_cases hlt : i < xs.length
  · have e : decide ((i : Int) < (s.len : Int)) = true := by simp; omega
    have ei : IntKind.wrap .i64 ((i : Int) + 1) = (i + 1 : Nat) := by rw [wrap_i64 (by omega) (by omega)]; omega
    simp only [e, brB_true, hs.rd hlt, ei]
    by_cases he : g xs i = v
    · have e2 : (v == g xs i) = true := by simp [he]
      simp only [e2, brB_true]
      exact hK _ _ ⟨.inr ⟨i, rfl, hlt, he, hp⟩, rfl⟩
    · have e2 : (v == g xs i) = false := by simp; exact fun e => he e.symm
      simp only [e2, brB_false]
      refine hX _ _ _ ⟨i + 1, rfl, by omega, fun j hj => ?_, rfl, rfl⟩ (by omega)
      by_cases ej : j = i
      · subst ej; exact he
      · exact hp j (by omega)
  · have e : decide ((i : Int) < (s.len : Int)) = false := by simp; omega
    simp only [e, brB_false]
    refine hK _ _ ⟨.inl ⟨rfl, fun hm => ?_⟩, rfl⟩
    obtain ⟨j, hj, ej⟩ := mem_g.1 hm
    exact hp j (by omega) ej

theorem contains_c {h : Heap} {b : Nat} {xs : List Int} {s : Sl} (hs : ISl0 h b xs s) (hl : xs.length ≤ 2000000) (v : Int) :
    callT Try.prog fn_slices_Contains_int_int #[.slice s.a s.len s.cap, .int .i64 v] .bool (fun x h' => x = decide (v ∈ xs) ∧ h' = h) h := by
  refine callT_gen fun K hK => ?_
  refine S_slices_Contains_int_int (a0 := s) (a1 := v) K ?_
  unfold F_slices_Contains_int_int
  refine call_of (index_c hs hl v) ?_
  rintro x h' ⟨hx, rfl⟩
  refine hK _ _ ⟨?_, rfl⟩
  rcases hx with ⟨rfl, hn⟩ | ⟨i, rfl, hi, e, _⟩
  · simp [hn]
  · have : v ∈ xs := e ▸ g_mem hi
    simp [this]

end Go.Proofs.Ord
