/-
  slices.Equal, Index, Contains over rows of numbers.
-/
import Derived.Test.YtkfdfbgceockpaaOrdX
set_option linter.unusedVariables false
set_option linter.unusedSimpArgs false
set_option linter.unusedSectionVars false
namespace Go.Proofs.Ord
open Go Go.Sx Go.Proofs

theorem ISl0.rd {h : Heap} {b : Nat} {xs : List Int} {s : Sl} (hs : ISl0 h b xs s) {i : Nat} (hi : i < xs.length) {K : Int → HP} : sx s.a s.len (i : Int) 1 (fun p => ldT (.int .i64) p K) h = K (g xs i) h := by
  rcases hs with ⟨rest, rfl, hb⟩ | ⟨rfl, _, _⟩
  · exact rdn hb hi
  · simp at hi
theorem ISl0.len {h : Heap} {b : Nat} {xs : List Int} {s : Sl} (hs : ISl0 h b xs s) : s.len = xs.length := by
  rcases hs with ⟨rest, rfl, hb⟩ | ⟨rfl, e, _⟩
  · rfl
  · exact e
theorem ISl0.ext {h h' : Heap} {b : Nat} {xs : List Int} {s : Sl} {T : List Nat} (hs : ISl0 h b xs s) (he : Ext T h h') (hn : b ∉ T) : ISl0 h' b xs s := by
  rcases hs with ⟨rest, e, hb⟩ | hh
  · exact .inl ⟨rest, e, hb.ext he hn⟩
  · exact .inr hh

theorem equal_c {h : Heap} {b1 b2 : Nat} {xs ys : List Int} {s t : Sl} (hs : ISl0 h b1 xs s) (ht : ISl0 h b2 ys t) (hl : xs.length ≤ 2000000) :
    callT Try.prog fn_slices_Equal_int_int #[.slice s.a s.len s.cap, .slice t.a t.len t.cap] .bool (fun x h' => x = decide (xs = ys) ∧ h' = h) h := by
  refine callT_gen fun K hK => ?_
  refine S_slices_Equal_int_int (a0 := s) (a1 := t) K ?_
  unfold F_slices_Equal_int_int
  have l1 := hs.len
  have l2 := ht.len
  by_cases hne : xs.length = ys.length
  · have e : ((s.len : Int) != (t.len : Int)) = false := by simp [l1, l2, hne]
    simp only [e, brB_false]
    refine lfp_invh (I := fun m σ h' => ∃ i : Nat, σ = ((i : Int), false, ()) ∧ i ≤ xs.length ∧ (∀ j, j < i → g xs j = g ys j) ∧ h' = h ∧ m = xs.length - i) ⟨_, 0, rfl, by omega, fun j hj => by omega, rfl, rfl⟩ ?_
    rintro m σ h' X ⟨i, rfl, hi, hp, rfl, rfl⟩ hX
    by_cases hlt : i < xs.length
    · have e : decide ((i : Int) < (s.len : Int)) = true := by simp; omega
      have ei : IntKind.wrap .i64 ((i : Int) + 1) = (i + 1 : Nat) := by rw [wrap_i64 (by omega) (by omega)]; omega
      simp only [e, brB_true, hs.rd hlt, ht.rd (show i < ys.length by omega), ei]
      by_cases he : g xs i = g ys i
      · have e2 : (g xs i != g ys i) = false := by simp [he]
        simp only [e2, brB_false]
        refine hX _ _ _ ⟨i + 1, rfl, by omega, fun j hj => ?_, rfl, rfl⟩ (by omega)
        by_cases ej : j = i
        · subst ej; exact he
        · exact hp j (by omega)
      · have e2 : (g xs i != g ys i) = true := by simp [he]
        simp only [e2, brB_true]
        refine hK _ _ ⟨?_, rfl⟩
        symm; rw [decide_eq_false_iff_not]; rintro rfl; exact he rfl
    · have e : decide ((i : Int) < (s.len : Int)) = false := by simp; omega
      simp only [e, brB_false]
      refine hK _ _ ⟨?_, rfl⟩
      symm; rw [decide_eq_true_iff]
      exact ext_g hne fun j hj => hp j (by omega)
  · have e : ((s.len : Int) != (t.len : Int)) = true := by simp [l1, l2]; omega
    simp only [e, brB_true]
    refine hK _ _ ⟨?_, rfl⟩
    symm; rw [decide_eq_false_iff_not]; rintro rfl; exact hne rfl

/-- Where v stands. -/
theorem index_c {h : Heap} {b : Nat} {xs : List Int} {s : Sl} (hs : ISl0 h b xs s) (hl : xs.length ≤ 2000000) (v : Int) :
    callT Try.prog fn_slices_Index_int_int #[.slice s.a s.len s.cap, .int .i64 v] (.int .i64)
      (fun x h' => ((x = -1 ∧ v ∉ xs) ∨ (∃ i : Nat, x = i ∧ i < xs.length ∧ g xs i = v ∧ ∀ j, j < i → g xs j ≠ v)) ∧ h' = h) h := by
  refine callT_gen fun K hK => ?_
  refine S_slices_Index_int_int (a0 := s) (a1 := v) K ?_
  unfold F_slices_Index_int_int
  have l1 := hs.len
  refine lfp_invh (I := fun m σ h' => ∃ i : Nat, σ = ((i : Int), 0, ()) ∧ i ≤ xs.length ∧ (∀ j, j < i → g xs j ≠ v) ∧ h' = h ∧ m = xs.length - i) ⟨_, 0, rfl, by omega, fun j hj => by omega, rfl, rfl⟩ ?_
  rintro m σ h' X ⟨i, rfl, hi, hp, rfl, rfl⟩ hX
  by_cases hlt : i < xs.length
  · have e : decide ((i : Int) < (s.len : Int)) = true := by simp; omega
    have ei : IntKind.wrap .i64 ((i : Int) + 1) = (i + 1 : Nat) := by rw [wrap_i64 (by omega) (by omega)]; omega
    simp only [e, brB_true, hs.rd hlt, ei]
    by_cases he : g xs i = v
    · have e2 : (v == g xs i) = true := by simp [he]
      simp only [e2, brB_true]
      exact hK _ _ ⟨.inr ⟨i, rfl, hlt, he, hp⟩, rfl⟩
    · have e2 : (v == g xs i) = false := by simp; exact fun e => he e.symm
      simp only [e2, brB_false]
      refine hX _ _ _ ⟨i + 1, rfl, by omega, fun j hj => ?_, rfl, rfl⟩ (by omega)
      by_cases ej : j = i
      · subst ej; exact he
      · exact hp j (by omega)
  · have e : decide ((i : Int) < (s.len : Int)) = false := by simp; omega
    simp only [e, brB_false]
    refine hK _ _ ⟨.inl ⟨rfl, fun hm => ?_⟩, rfl⟩
    obtain ⟨j, hj, ej⟩ := mem_g.1 hm
    exact hp j (by omega) ej

theorem contains_c {h : Heap} {b : Nat} {xs : List Int} {s : Sl} (hs : ISl0 h b xs s) (hl : xs.length ≤ 2000000) (v : Int) :
    callT Try.prog fn_slices_Contains_int_int #[.slice s.a s.len s.cap, .int .i64 v] .bool (fun x h' => x = decide (v ∈ xs) ∧ h' = h) h := by
  refine callT_gen fun K hK => ?_
  refine S_slices_Contains_int_int (a0 := s) (a1 := v) K ?_
  unfold F_slices_Contains_int_int
  refine call_of (index_c hs hl v) ?_
  rintro x h' ⟨hx, rfl⟩
  refine hK _ _ ⟨?_, rfl⟩
  rcases hx with ⟨rfl, hn⟩ | ⟨i, rfl, hi, e, _⟩
  · simp [hn]
  · have : v ∈ xs := e ▸ g_mem hi
    simp [this]

end Go.Proofs.Ord

/-
  The law's own look that the order answers at all.
-/
set_option linter.unusedVariables false
set_option linter.unusedSimpArgs false
set_option linter.unusedSectionVars false
namespace Go.Proofs.Ord
open Go Go.Sx Go.Proofs

theorem Own.list {h0 h : Heap} {S : List Nat} {o n : Nat} {act : List Int} {step : Int} {L : List Int} (w : Own h0 h S o n act step L) (hn : n ≤ 5000) :
    callT Try.prog fn_salvorlaw11_list #[.pointer (pt o)] (.tup (.cons .sl (.cons .bool .nil)))
      (fun x h' => ∃ s b, x = (s, true, ()) ∧ ISl0 h' b L s ∧ h.size ≤ b ∧ b < h'.size ∧ Ext [] h h' ∧ Own h0 h' S o n act step L) h :=
  call_of (list_c w.1 hn) fun x h' ⟨s, b, e, i, h1, h2, x'⟩ => ⟨s, b, e, i, h1, h2, x', w.1.ext x' (by simp), w.2.1, w.2.2.1.nil_trans x', w.2.2.2⟩

theorem Own.ext0 {h0 h h' : Heap} {S : List Nat} {o n : Nat} {act : List Int} {step : Int} {L : List Int} (w : Own h0 h S o n act step L) (x : Ext [] h h') : Own h0 h' S o n act step L :=
  ⟨w.1.ext x (by simp), w.2.1, w.2.2.1.nil_trans x, w.2.2.2⟩

theorem Own.bump {h0 h : Heap} {S : List Nat} {o n : Nat} {act : List Int} {step : Int} {L : List Int} (w : Own h0 h S o n act step L) (v : Int) (hn : n ≤ 12) :
    callT Try.prog fn_order_Order_Bump #[.pointer (pt o), .int .i64 v] (.int .i64)
      (fun x h' => x = (if 1 ≤ v ∧ v ≤ n then 0 else 110) ∧ Own h0 h' S o n (bumpA act n v step) (bumpS act n v step) (srt (bumpA act n v step) L) ∧ Ext S h h') h :=
  call_of (bump_c w.1 w.2.1 v fun _ _ _ => fun h b xs rest lt cmp a b' c => sortsTo12 h b xs rest lt cmp a b' (by omega)) fun x h' ⟨e, k⟩ => ⟨e, w.keeps k (w.2.1.bump w.1.len.1 v), k.2⟩
theorem Own.push {h0 h : Heap} {S : List Nat} {o n : Nat} {act : List Int} {step : Int} {L : List Int} (w : Own h0 h S o n act step L) (v : Int) :
    callT Try.prog fn_order_Order_Push #[.pointer (pt o), .int .i64 v] (.int .i64)
      (fun x h' => x = (if 1 ≤ v ∧ v ≤ n then 0 else 110) ∧ ∃ S', Own h0 h' S' o n act step (pushL act n v L) ∧ Ext S h h' ∧ Foot S S' h) h :=
  call_of (push_c w.1 v) fun x h' ⟨e, S', r, x', f⟩ => ⟨e, S', ⟨r, w.2.1, w.2.2.1.trans x' (fun b hb => .inr (w.2.2.2 b hb)), fun b hb => by
    rcases f b hb with k | k
    · exact w.2.2.2 b k
    · exact Nat.le_trans w.2.2.1.1 k⟩, x', f⟩
theorem Own.remove {h0 h : Heap} {S : List Nat} {o n : Nat} {act : List Int} {step : Int} {L : List Int} (w : Own h0 h S o n act step L) (v : Int) :
    callT Try.prog fn_order_Order_Remove #[.pointer (pt o), .int .i64 v] (.int .i64)
      (fun x h' => x = (if 1 ≤ v ∧ v ≤ n then 0 else 110) ∧ Own h0 h' S o n act step (L.erase v) ∧ Ext S h h') h :=
  call_of (remove_c w.1 v) fun x h' ⟨e, k⟩ => ⟨e, w.keeps k w.2.1, k.2⟩
theorem Own.pop {h0 h : Heap} {S : List Nat} {o n : Nat} {act : List Int} {step : Int} {L : List Int} (w : Own h0 h S o n act step L) :
    callT Try.prog fn_order_Order_Pop #[.pointer (pt o)] (.tup (.cons (.int .i64) (.cons .bool .nil)))
      (fun x h' => x = (L.headD 0, decide (0 < L.length), ()) ∧ Own h0 h' S o n act step L.tail ∧ Ext S h h') h :=
  call_of (pop_c w.1) fun x h' ⟨e, k⟩ => ⟨e, w.keeps k w.2.1, k.2⟩
theorem Own.decay {h0 h : Heap} {S : List Nat} {o n : Nat} {act : List Int} {step : Int} {L : List Int} (w : Own h0 h S o n act step L) (hs : step + step / 16 + 1 ≤ maxA) :
    callT Try.prog fn_order_Order_Decay #[.pointer (pt o)] (.int .i64)
      (fun x h' => x = 0 ∧ Own h0 h' S o n act (step + step / 16 + 1) L ∧ Ext S h h') h :=
  call_of (decayR_c w.1 w.2.1) fun x h' hx => by
    rcases hx with ⟨_, hg, _⟩ | ⟨e, hg, k⟩
    · omega
    · exact ⟨e, w.keeps k ⟨w.2.1.lo, w.2.1.hi, by have := w.2.1.s1; omega, hg⟩, k.2⟩

theorem ISl.lit {h : Heap} {xs : List Int} : ISl (h.push (.cells (ints xs).toArray 3)) h.size xs ⟨pt h.size, xs.length, xs.length⟩ :=
  ⟨[], rfl, by simpa using Blk.new h 3 (ints xs).toArray⟩

theorem awake_c (h : Heap) : callT Try.prog fn_salvorlaw11_awake #[] .bool (fun x h' => x = true ∧ Ext [] h h') h := by
  refine callT_gen fun K hK => ?_
  apply S_salvorlaw11_awake
  unfold F_salvorlaw11_awake
  refine call_of (new_c 3 (by omega) h) ?_
  rintro _ h1 ⟨o, S, rfl, rep, x1, hS⟩
  have w : Own h h1 S o 3 (zeros 4) 1024 (iota 3) := ⟨rep, Lim.new _, x1, hS⟩
  have e1 : ((0 : Int) != 0) = false := rfl
  simp only [e1, brB_false, Option.isNone_some]
  refine call_of (w.bump 3 (by omega)) ?_
  rintro _ h2 ⟨rfl, w, _⟩
  have eA : bumpA (zeros 4) 3 3 1024 = [0, 0, 0, 1024] := by decide +kernel
  have eS : bumpS (zeros 4) 3 3 1024 = 1024 := by decide +kernel
  have eL : srt [0, 0, 0, 1024] (iota 3) = [3, 1, 2] := (Sorted.eq_srt (by decide +kernel) (by decide +kernel)).symm
  rw [eA, eS, eL] at w
  have i0 : (if (1 : Int) ≤ 3 ∧ (3 : Int) ≤ (3 : Nat) then (0 : Int) else 110) = 0 := rfl
  simp only [i0, e1, brB_false]
  have i1 : (if (1 : Int) ≤ 3 ∧ (3 : Int) ≤ (3 : Nat) then ((g [0, 0, 0, 1024] (3 : Int).toNat, 0, ()) : Int × Int × Unit) else (0, 110, ())) = (1024, 0, ()) := rfl
  refine call_of (activityR_c w.1 3) ?_
  rintro _ h3 ⟨rfl, rfl⟩
  rw [i1]
  refine call_of (w.list (by omega)) ?_
  rintro _ h4 ⟨s4, b4, rfl, is4, _, lt4, x4, w⟩
  have e2 : ((1024 : Int) != 1024) = false := rfl
  simp only [e1, e2, brB_false, Bool.not_true, nw_eq]
  have x5 := (Ext.refl [] h4).push (.cells (ints [3, 1, 2]).toArray 3)
  have is5 := ISl.lit (h := h4) (xs := [3, 1, 2])
  have is4' := is4.ext x5 (by simp)
  have w5 := w.ext0 x5
  have nx5 : (h4.push (.cells (ints [3, 1, 2]).toArray 3)) = h4.push (.cells #[.int .i64 3, .int .i64 1, .int .i64 2] 3) := rfl
  rw [nx5] at is5 is4' w5
  generalize h4.push (.cells #[.int .i64 3, .int .i64 1, .int .i64 2] 3) = h5 at *
  refine call_of (equal_c is4' (.inl is5) (by decide)) ?_
  rintro _ h6 ⟨rfl, rfl⟩
  simp only [decide_true, Bool.not_true, brB_false]
  refine call_of (w5.decay (by decide)) ?_
  rintro _ h7 ⟨rfl, w, _⟩
  have eD : (1024 : Int) + 1024 / 16 + 1 = 1089 := by decide
  rw [eD] at w
  simp only [e1, brB_false]
  refine call_of (stepR_c w.1) ?_
  rintro _ h8 ⟨rfl, rfl⟩
  have e3 : ((1089 : Int) != 1089) = false := rfl
  simp only [e3, brB_false]
  refine call_of (w.bump 2 (by omega)) ?_
  rintro _ h9 ⟨rfl, w, _⟩
  have eA : bumpA [0, 0, 0, 1024] 3 2 1089 = [0, 0, 1089, 1024] := by decide +kernel
  have eS : bumpS [0, 0, 0, 1024] 3 2 1089 = 1089 := by decide +kernel
  have eL : srt [0, 0, 1089, 1024] [3, 1, 2] = [2, 3, 1] := (Sorted.eq_srt (by decide +kernel) (by decide +kernel)).symm
  rw [eA, eS, eL] at w
  have i0 : (if (1 : Int) ≤ 2 ∧ (2 : Int) ≤ (3 : Nat) then (0 : Int) else 110) = 0 := rfl
  simp only [i0, e1, brB_false]
  have ltS := w.1.lt
  refine call_of (w.list (by omega)) ?_
  rintro _ h10 ⟨s9, b9, rfl, is9, g9, lt9, x10, w⟩
  have nb9 : ∀ b ∈ S, b ≠ b9 := fun b hb => by have := ltS b hb; omega
  refine call_of w.pop ?_
  rintro _ h11 ⟨rfl, w, x11⟩
  have is9 := is9.ext x11 (fun hb => nb9 _ hb rfl)
  refine call_of (peekR_c w.1) ?_
  rintro _ h12 ⟨rfl, rfl⟩
  simp only [Bool.not_true, brB_false, nw_eq]
  have x13 := (Ext.refl [] h12).push (.cells (ints [2, 3, 1]).toArray 3)
  have is13 := ISl.lit (h := h12) (xs := [2, 3, 1])
  have is9' := is9.ext x13 (by simp)
  have w13 := w.ext0 x13
  have nx13 : (h12.push (.cells (ints [2, 3, 1]).toArray 3)) = h12.push (.cells #[.int .i64 2, .int .i64 3, .int .i64 1] 3) := rfl
  rw [nx13] at is13 is9' w13 x13
  generalize h12.push (.cells #[.int .i64 2, .int .i64 3, .int .i64 1] 3) = h13 at *
  refine call_of (equal_c is9' (.inl is13) (by decide)) ?_
  rintro _ h14 ⟨rfl, rfl⟩
  simp only [decide_true, Bool.not_true, brB_false]
  have f1 : (([2, 3, 1] : List Int).headD 0 != 2) = false := rfl
  have f2 : ((([2, 3, 1] : List Int).tail).headD 0 != 3) = false := rfl
  have f3 : (!decide (0 < ([2, 3, 1] : List Int).length)) = false := rfl
  have f4 : (!decide (0 < (([2, 3, 1] : List Int).tail).length)) = false := rfl
  simp only [f1, f2, f3, f4, brB_false]
  refine call_of (w13.push 2) ?_
  rintro _ h15 ⟨rfl, S', w, x15, f15⟩
  have is9 := is9'.ext x15 (fun hb => nb9 _ hb rfl)
  have eP : pushL [0, 0, 1089, 1024] 3 2 ([2, 3, 1] : List Int).tail = [2, 3, 1] := by
    have : pushL [0, 0, 1089, 1024] 3 2 ([2, 3, 1] : List Int).tail = srt [0, 0, 1089, 1024] [2, 3, 1] := by
      unfold pushL; rw [if_pos (by decide)]; rfl
    rw [this]; exact (Sorted.eq_srt (by decide +kernel) (by decide +kernel)).symm
  rw [eP] at w
  simp only [i0, e1, brB_false]
  refine call_of (w.bump 4 (by omega)) ?_
  rintro _ h16 ⟨rfl, w, x16⟩
  have is9 := is9.ext x16 (fun hb => by
    rcases f15 _ hb with k | k
    · exact nb9 _ k rfl
    · have := x11.1; have := x13.1; omega)
  have eA : bumpA [0, 0, 1089, 1024] 3 4 1089 = [0, 0, 1089, 1024] := by decide +kernel
  have eS : bumpS [0, 0, 1089, 1024] 3 4 1089 = 1089 := by decide +kernel
  have eL : srt [0, 0, 1089, 1024] [2, 3, 1] = [2, 3, 1] := (Sorted.eq_srt (by decide +kernel) (by decide +kernel)).symm
  rw [eA, eS, eL] at w
  have i4 : (if (1 : Int) ≤ 4 ∧ (4 : Int) ≤ (3 : Nat) then (0 : Int) else 110) = 110 := rfl
  have e4 : ((110 : Int) != 110) = false := rfl
  simp only [i4, e4, brB_false]
  refine call_of (w.list (by omega)) ?_
  rintro _ h17 ⟨s17, b17, rfl, is17, _, _, x17, w⟩
  have is9 := is9.ext x17 (by simp)
  simp only [brB_true]
  refine call_of (equal_c is17 is9 (by decide)) ?_
  rintro _ h18 ⟨rfl, rfl⟩
  simp only [decide_true, brB_true]
  refine call_of (lenR_c w.1) ?_
  rintro _ h19 ⟨rfl, rfl⟩
  exact hK _ _ ⟨rfl, w.2.2.1⟩

end Go.Proofs.Ord
