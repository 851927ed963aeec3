/-
  slices.IndexFunc, DeleteFunc over rows of numbers.
-/
import Derived.Test.YtkfdfbgceockpaaOrdL6
set_option linter.unusedVariables false
namespace Go.Proofs.Ord
open Go Go.Sx Go.Proofs

/-- A row of values is stored. -/
theorem stA_ok {b off : Nat} {t : TypeId} {K : HP} : ∀ (vs : List Value) {h : Heap} {c : List Value} (i : Nat) (hb : Blk h b t c), off + i + vs.length ≤ c.length → (∀ v ∈ vs, leafB v = true) →
    (∀ h' c', Blk h' b t c' → Ext [b] h h' → c'.length = c.length → (∀ j, j < off + i → c'[j]? = c[j]?) → K h') → stA ⟨b, off, none⟩ i vs K h
  | [], h, c, i, hb, hl, hv, hK => hK h c hb (Ext.refl _ _) rfl fun _ _ => rfl
  | v :: vs, h, c, i, hb, hl, hv, hK => by
    simp only [stA, hv v (by simp), addr_add]
    simp only [List.length_cons] at hl
    rw [st_ok hb (by omega)]
    refine stA_ok vs (i + 1) (hb.set (off + i) v) (by simp; omega) (fun u hu => hv u (by simp [hu])) ?_
    intro h' c' hb' x hl' hj
    have xs := (Ext.refl [b] h).set ⟨b, off + i, none⟩ v (by simp)
    refine hK h' c' hb' (xs.trans x (fun y hy => .inl hy)) (by simpa using hl') fun j hj' => ?_
    rw [hj j (by omega), List.getElem?_set_ne (by omega)]

theorem indexFunc_c {h : Heap} {b : Nat} {xs : List Int} {s : Sl} {cmp : Value} {p : Int → Bool} (hs : ISl0 h b xs s) (hl : xs.length ≤ 2000000)
    (hc : ∀ x ∈ xs, callF Try.prog cmp #[.int .i64 x] .bool (fun r h' => r = p x ∧ h' = h) h) :
    callT Try.prog fn_slices_IndexFunc_int_int #[.slice s.a s.len s.cap, cmp] (.int .i64)
      (fun x h' => ((x = -1 ∧ ∀ v ∈ xs, p v = false) ∨ (∃ i : Nat, x = i ∧ i < xs.length ∧ p (g xs i) = true ∧ ∀ j, j < i → p (g xs j) = false)) ∧ h' = h) h := by
  refine callT_gen fun K hK => ?_
  refine S_slices_IndexFunc_int_int (a0 := s) (a1 := cmp) K ?_
  unfold F_slices_IndexFunc_int_int
  obtain ⟨sa, sl, sc⟩ := s
  have l1 : sl = xs.length := hs.len
  subst l1
  refine lfp_invh (I := fun m σ h' => ∃ i : Nat, σ = ((i : Int), 0, ()) ∧ i ≤ xs.length ∧ (∀ j, j < i → p (g xs j) = false) ∧ h' = h ∧ m = xs.length - i) ⟨_, 0, rfl, by omega, fun j hj => by omega, rfl, rfl⟩ ?_
  rintro m σ h' X ⟨i, rfl, hi, hp, rfl, rfl⟩ hX
  by_cases hlt : i < xs.length
  · simp only [dec_lt_t hlt, brB_true, inc64 (show i < 100000000 by omega)]
    rw [hs.rd hlt]
    refine callF_of (hc _ (g_mem hlt)) ?_
    rintro r _ ⟨rfl, rfl⟩
    cases he : p (g xs i) with
    | true => simp only [brB_true]; exact hK _ _ ⟨.inr ⟨i, rfl, hlt, he, hp⟩, rfl⟩
    | false =>
      simp only [brB_false]
      refine hX _ _ _ ⟨i + 1, rfl, by omega, fun j hj => ?_, rfl, rfl⟩ (by omega)
      by_cases ej : j = i
      · subst ej; exact he
      · exact hp j (by omega)
  · simp only [dec_lt_f hlt, brB_false]
    refine hK _ _ ⟨.inl ⟨rfl, fun v hv => ?_⟩, rfl⟩
    obtain ⟨j, hj, ej⟩ := mem_g.1 hv
    exact ej ▸ hp j (by omega)

theorem take_succ_g {xs : List Int} {i : Nat} (hi : i < xs.length) : xs.take (i + 1) = xs.take i ++ [g xs i] := by
  rw [List.take_add_one]; simp [g, List.getD_eq_getElem?_getD, List.getElem?_eq_getElem hi]

theorem filter_first {xs : List Int} {p : Int → Bool} {i : Nat} (hi : i ≤ xs.length) (h : ∀ j, j < i → p (g xs j) = true) : (xs.take i).filter p = xs.take i := by
  refine List.filter_eq_self.2 fun x hx => ?_
  obtain ⟨j, hj, e⟩ := List.mem_iff_getElem.1 hx
  simp at hj
  have := h j (by omega)
  rw [List.getElem_take] at e
  simpa [g, List.getD_eq_getElem?_getD, List.getElem?_eq_getElem (show j < xs.length by omega), e] using this

theorem deleteFunc_c {h : Heap} {b : Nat} {xs : List Int} {s : Sl} {cmp : Value} {p : Int → Bool} (hs : ISl h b xs s) (hl : xs.length ≤ 2000000)
    (hc : ∀ h', Ext [b] h h' → ∀ x ∈ xs, callF Try.prog cmp #[.int .i64 x] .bool (fun r h2 => r = p x ∧ h2 = h') h') :
    callT Try.prog fn_slices_DeleteFunc_int_int #[.slice s.a s.len s.cap, cmp] .sl (fun s' h' => ISl h' b (xs.filter (fun x => !p x)) s' ∧ Ext [b] h h') h := by
  refine callT_gen fun K hK => ?_
  refine S_slices_DeleteFunc_int_int (a0 := s) (a1 := cmp) K ?_
  unfold F_slices_DeleteFunc_int_int
  refine call_of (indexFunc_c (.inl hs) hl (hc h (Ext.refl _ _))) ?_
  rintro x _ ⟨hx, rfl⟩
  obtain ⟨rest, rfl, hb⟩ := hs
  rcases hx with ⟨rfl, hn⟩ | ⟨i0, rfl, hi0, hp0, hlt0⟩
  · simp only [beq_self_eq_true, brB_true]
    refine hK _ _ ⟨?_, Ext.refl _ _⟩
    rw [List.filter_eq_self.2 fun x hx => by simp [hn x hx]]
    exact ⟨rest, rfl, hb⟩
  · have e : ((i0 : Int) == -1) = false := by simp
    simp only [e, brB_false, inc64 (show i0 < 100000000 by omega)]
    rename_i h
    refine lfp_invh (I := fun m σ h' => ∃ (j : Nat) (ys : List Int), σ = ((j : Int), (((xs.take j).filter (fun x => !p x)).length : Int), ()) ∧ j ≤ xs.length ∧ ((xs.take j).filter (fun x => !p x)).length < j ∧ ys.length = xs.length ∧
        ys.take ((xs.take j).filter (fun x => !p x)).length = (xs.take j).filter (fun x => !p x) ∧ ys.drop j = xs.drop j ∧ Blk h' b 3 (ints ys ++ rest) ∧ Ext [b] h h' ∧ m = xs.length - j)
      ⟨_, i0 + 1, xs, ?_, by omega, ?_, rfl, ?_, rfl, hb, Ext.refl _ _, rfl⟩ ?_
    · rw [take_succ_g hi0, List.filter_append, filter_first (by omega) (fun j hj => by simp [hlt0 j hj])]
      simp [hp0]
      try omega
    · rw [take_succ_g hi0, List.filter_append, filter_first (by omega) (fun j hj => by simp [hlt0 j hj])]
      simp [hp0]
      try omega
    · rw [take_succ_g hi0, List.filter_append, filter_first (by omega) (fun j hj => by simp [hlt0 j hj])]
      simp [hp0]
      try omega
    · rintro m σ h' X ⟨j, ys, rfl, hj, hlt, hys, ht, hd, hb', x', rfl⟩ hX
      by_cases hjl : j < xs.length
      · have eg : g ys j = g xs j := by
          have := congrArg (fun l => g l 0) hd
          simpa [g, List.getD_eq_getElem?_getD] using this
        simp only [dec_lt_t hjl, brB_true, inc64 (show j < 100000000 by omega)]
        have := hys ▸ rdn (k := j) hb' (K := fun x => callF Try.prog cmp #[.int .i64 x] .bool fun r5 => jn (σ := Int × Unit) (fun s7 => X (((j + 1 : Nat) : Int), s7.1, ())) fun J6 => brB (!r5) (sx (pt b) xs.length (((xs.take j).filter (fun x => !p x)).length : Int) 1 fun p8 => st1 p8 (.int .i64 x) (J6 (IntKind.wrap .i64 ((((xs.take j).filter (fun x => !p x)).length : Int) + 1), ()))) (J6 ((((xs.take j).filter (fun x => !p x)).length : Int), ()))) (by omega)
        rw [this, eg]
        refine callF_of (hc h' x' _ (g_mem hjl)) ?_
        rintro r _ ⟨rfl, rfl⟩
        refine jn_in fun J hJ => ?_
        cases he : p (g xs j) with
        | true =>
          simp only [Bool.not_true, brB_false]
          have ef : (xs.take (j + 1)).filter (fun x => !p x) = (xs.take j).filter (fun x => !p x) := by rw [take_succ_g hjl, List.filter_append]; simp [he]
          refine hJ _ _ (hX _ _ _ ⟨j + 1, ys, by rw [ef], by omega, by rw [ef]; omega, hys, by rw [ef]; exact ht, ?_, hb', x', rfl⟩ (by omega))
          have := congrArg (List.drop 1) hd
          simpa [List.drop_drop, Nat.add_comm] using this
        | false =>
          simp only [Bool.not_false, brB_true]
          have ef : (xs.take (j + 1)).filter (fun x => !p x) = (xs.take j).filter (fun x => !p x) ++ [g xs j] := by rw [take_succ_g hjl, List.filter_append]; simp [he]
          generalize ek : ((xs.take j).filter (fun x => !p x)).length = k at *
          have ew := wrn (b := b) (xs := ys) (rest := rest) hb' (k := k) (v := .int .i64 (g xs j)) (K := J (IntKind.wrap .i64 ((k : Int) + 1), ())) (by omega)
          rw [hys] at ew
          rw [ew, inc64 (show k < 100000000 by omega)]
          have xs1 := x'.set ⟨b, k, none⟩ (.int .i64 (g xs j)) (by simp)
          refine hJ _ _ (hX _ _ _ ⟨j + 1, ys.set k (g xs j), by rw [ef]; simp [ek], by omega, by rw [ef]; simp [ek]; omega, by simpa using hys, ?_, ?_, Blk.set_ints hb' (g xs j) (by omega), xs1, rfl⟩ (by omega))
          · rw [ef]
            simp only [List.length_append, ek, List.length_cons, List.length_nil]
            rw [take_succ_g (by simp; omega), g_set, if_pos ⟨rfl, by omega⟩, List.take_set_of_le (Nat.le_refl _), ht]
          · rw [List.drop_set_of_lt (by omega)]
            have := congrArg (List.drop 1) hd
            simpa [List.drop_drop, Nat.add_comm] using this
      · have ej : j = xs.length := by omega
        subst ej
        simp only [dec_lt_f hjl, brB_false]
        rw [List.take_length] at hlt ht ⊢
        generalize xs.filter (fun x => !p x) = zs at *
        refine ⟨by omega, by (show (zs.length : Int) ≤ (xs.length : Nat); omega), ?_⟩
        have e1 : (slR ⟨pt b, xs.length, xs.length + rest.length⟩ (zs.length : Int).toNat xs.length 1) = ⟨some ⟨b, zs.length, none⟩, xs.length - zs.length, xs.length + rest.length - zs.length⟩ := by
          simp [slR]; omega
        show clr _ _ _ _
        rw [e1]
        unfold clr
        simp only
        have ez : (Builtin.zeroCells #[Value.int .i64 0] (xs.length - zs.length)).toList.length = xs.length - zs.length := by simp [Builtin.zeroCells]
        refine stA_ok _ 0 hb' (by rw [ez]; simp; omega) ?_ ?_
        · intro v hv
          simp [Builtin.zeroCells] at hv
          obtain ⟨k, _, rfl⟩ := hv
          rw [Nat.mod_one]; rfl
        · intro h2 c' hb2 x2 hl2 hj2
          refine ⟨by omega, by (show (zs.length : Int) ≤ ((xs.length + rest.length : Nat) : Int); omega), hK _ _ ⟨⟨c'.drop zs.length, ?_, ?_⟩, x'.trans x2 (fun y hy => .inl hy)⟩⟩
          · simp [slR, hl2, hys]; omega
          · have : ints zs ++ c'.drop zs.length = c' := by
              have e2 : c'.take zs.length = ints zs := by
                apply List.ext_getElem?
                intro j
                by_cases hj : j < zs.length
                · rw [List.getElem?_take_of_lt hj, hj2 j (by omega)]
                  rw [List.getElem?_append_left (by simp; omega)]
                  have := congrArg (fun l : List Int => l[j]?) ht
                  simp only [List.getElem?_take_of_lt hj] at this
                  simp [this]
                · rw [List.getElem?_eq_none (by simp; omega), List.getElem?_eq_none (by simp; omega)]
              rw [← e2, List.take_append_drop]
            rw [this]; exact hb2

end Go.Proofs.Ord
