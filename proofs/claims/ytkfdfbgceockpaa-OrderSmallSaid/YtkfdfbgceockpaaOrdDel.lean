/-
  slices.IndexFunc, DeleteFunc over rows of numbers.
-/
import Derived.Test.YtkfdfbgceockpaaOrdL6
set_option linter.unusedVariables false
namespace Go.Proofs.Ord
open Go Go.Sx Go.Proofs

/-- A row of values is stored. -/
theorem stA_ok {b off : Nat} {t : TypeId} {K : HP} : ∀ (vs : List Value) {h : Heap} {c : List Value} (i : Nat) (hb : Blk h b t c), off + i + vs.length ≤ c.length → (∀ v ∈ vs, leafB v = true) →
    (∀ h' c', Blk h' b t c' → Ext [b] h h' → c'.length = c.length → (∀ j, j < off + i → c'[j]? = c[j]?) → K h') → stA ⟨b, off, none⟩ i vs K h
  | [], h, c, i, hb, hl, hv, hK => hK h c hb (Ext.refl _ _) rfl fun _ _ => rfl
  | v :: vs, h, c, i, hb, hl, hv, hK => by
    simp only [stA, hv v (by simp), addr_add]
    simp only [List.length_cons] at hl
    rw [st_ok hb (by omega)]
    refine stA_ok vs (i + 1) (hb.set (off + i) v) (by simp; omega) (fun u hu => hv u (by simp [hu])) ?_
    intro h' c' hb' x hl' hj
    have xs := (Ext.refl [b] h).set ⟨b, off + i, none⟩ v (by simp)
    refine hK h' c' hb' (xs.trans x (fun y hy => .inl hy)) (by simpa using hl') fun j hj' => ?_
    rw [hj j (by omega), List.getElem?_set_ne (by omega)]

theorem indexFunc_c {h : Heap} {b : Nat} {xs : List Int} {s : Sl} {cmp : Value} {p : Int → Bool} (hs : ISl0 h b xs s) (hl : xs.length ≤ 2000000)
    (hc : ∀ x ∈ xs, callF Try.prog cmp #[.int .i64 x] .bool (fun r h' => r = p x ∧ h' = h) h) :
    callT Try.prog fn_slices_IndexFunc_int_int #[.slice s.a s.len s.cap, cmp] (.int .i64)
      (fun x h' => ((x = -1 ∧ ∀ v ∈ xs, p v = false) ∨ (∃ i : Nat, x = i ∧ i < xs.length ∧ p (g xs i) = true ∧ ∀ j, j < i → p (g xs j) = false)) ∧ h' = h) h := by
  refine callT_gen fun K hK => ?_
  refine S_slices_IndexFunc_int_int (a0 := s) (a1 := cmp) K ?_
  unfold F_slices_IndexFunc_int_int
  obtain ⟨sa, sl, sc⟩ := s
  have l1 : sl = xs.length := hs.len
  subst l1
  refine lfp_invh (I := fun m σ h' => ∃ i : Nat, σ = ((i : Int), 0, ()) ∧ i ≤ xs.length ∧ (∀ j, j < i → p (g xs j) = false) ∧ h' = h ∧ m = xs.length - i) ⟨_, 0, rfl, by omega, fun j hj => by omega, rfl, rfl⟩ ?_
  rintro m σ h' X ⟨i, rfl, hi, hp, rfl, rfl⟩ hX
  by_cases hlt : i < xs.length
  · simp only [dec_lt_t hlt, brB_true, inc64 (show i < 100000000 by omega)]
    rw [hs.rd hlt]
    refine callF_of (hc _ (g_mem hlt)) ?_
    rintro r _ ⟨rfl, rfl⟩
    cases he : p (g xs i) with
    | true => simp only [brB_true]; exact hK _ _ ⟨.inr ⟨i, rfl, hlt, he, hp⟩, rfl⟩
    | false =>
      simp only [brB_false]
      refine hX _ _ _ ⟨i + 1, rfl, by omega, fun j hj => ?_, rfl, rfl⟩ (by omega)
      by_cases ej : j = i
      · subst ej; exact he
      · exact hp j (by omega)
  · simp only [dec_lt_f hlt, brB_false]
    refine hK _ _ ⟨.inl ⟨rfl, fun v hv => ?_⟩, rfl⟩
    obtain ⟨j, hj, ej⟩ := mem_g.1 hv
    exact ej ▸ hp j (by omega)

theorem take_succ_g {xs : List Int} {i : Nat} (hi : i < xs.length) : xs.take (i + 1) = xs.take i ++ [g xs i] := by
  rw [List.take_add_one]; simp [g, List.getD_eq_getElem?_getD, List.getElem?_eq_getElem hi]

theorem filter_first {xs : List Int} {p : Int → Bool} {i : Nat} (hi : i ≤ xs.length) (h : ∀ j, j < i → p (g xs j) = true) : (xs.take i).filter p = xs.take i := by
  refine List.filter_eq_self.2 fun x hx => ?_
  obtain ⟨j, hj, e⟩ := List.mem_iff_getElem.1 hx
  simp at hj
  have := h j (by omega)
  rw [List.getElem_take] at e
  simpa [g, List.getD_eq_getElem?_getD, List.getElem?_eq_getElem (show j < xs.length by omega), e] using this

theorem deleteFunc_c {h : Heap} {b : Nat} {xs : List Int} {s : Sl} {cmp : Value} {p : Int → Bool} (hs : ISl h b xs s) (hl : xs.length ≤ 2000000)
    (hc : ∀ h', Ext [b] h h' → ∀ x ∈ xs, callF Try.prog cmp #[.int .i64 x] .bool (fun r h2 => r = p x ∧ h2 = h') h') :
    callT Try.prog fn_slices_DeleteFunc_int_int #[.slice s.a s.len s.cap, cmp] .sl (fun s' h' => ISl h' b (xs.filter (fun x => !p x)) s' ∧ Ext [b] h h') h := by
  refine callT_gen fun K hK => ?_
  refine S_slices_DeleteFunc_int_int (a0 := s) (a1 := cmp) K ?_
  unfold F_slices_DeleteFunc_int_int
  refine call_of (indexFunc_c (.inl hs) hl (hc h (Ext.refl _ _))) ?_
  rintro x _ ⟨hx, rfl⟩
  obtain ⟨rest, rfl, hb⟩ := hs
  rcases hx with ⟨rfl, hn⟩ | ⟨i0, rfl, hi0, hp0, hlt0⟩
  · simp only [beq_self_eq_true, brB_true]
    refine hK _ _ ⟨?_, Ext.refl _ _⟩
    rw [List.filter_eq_self.2 fun x hx => by simp [hn x hx]]
    exact ⟨rest, rfl, hb⟩
  · have e : ((i0 : Int) == -1) = false := by simp
    simp only [e, brB_false, inc64 (show i0 < 100000000 by omega)]
    rename_i h
    refine lfp_invh (I := fun m σ h' => ∃ (j : Nat) (ys : List Int), σ = ((j : Int), (((xs.take j).filter (fun x => !p x)).length : Int), ()) ∧ j ≤ xs.length ∧ ((xs.take j).filter (fun x => !p x)).length < j ∧ ys.length = xs.length ∧
        ys.take ((xs.take j).filter (fun x => !p x)).length = (xs.take j).filter (fun x => !p x) ∧ ys.drop j = xs.drop j ∧ Blk h' b 3 (ints ys ++ rest) ∧ Ext [b] h h' ∧ m = xs.length - j)
      ⟨_, i0 + 1, xs, ?_, by omega, ?_, rfl, ?_, rfl, hb, Ext.refl _ _, rfl⟩ ?_
    · rw [take_succ_g hi0, List.filter_append, filter_first (by omega) (fun j hj => by simp [hlt0 j hj])]
      simp [hp0]
      try omega
    · rw [take_succ_g hi0, List.filter_append, filter_first (by omega) (fun j hj => by simp [hlt0 j hj])]
      simp [hp0]
      try omega
    · rw [take_succ_g hi0, List.filter_append, filter_first (by omega) (fun j hj => by simp [hlt0 j hj])]
      simp [hp0]
      try omega
    · rintro m σ h' X ⟨j, ys, rfl, hj, hlt, hys, ht, hd, hb', x', rfl⟩ hX
      by_cases hjl : j < xs.length
      · have eg : g ys j = g xs j := by
          have := congrArg (fun l => g l 0) hd
          simpa [g, List.getD_eq_getElem?_getD] using this
        simp only [dec_lt_t hjl, brB_true, inc64 (show j < 100000000 by omega)]
        have := hys ▸ rdn (k := j) hb' (K := fun x => callF Try.prog cmp #[.int .i64 x] .bool fun r5 => jn (σ := Int × Unit) (fun s7 => X (((j + 1 : Nat) : Int), s7.1, ())) fun J6 => brB (!r5) (sx (pt b) xs.length (((xs.take j).filter (fun x => !p x)).length : Int) 1 fun p8 => st1 p8 (.int .i64 x) (J6 (IntKind.wrap .i64 ((((xs.take j).filter (fun x => !p x)).length : Int) + 1), ()))) (J6 ((((xs.take j).filter (fun x => !p x)).length : Int), ()))) (by omega)
        rw [this, eg]
        refine callF_of (hc h' x' _ (g_mem hjl)) ?_
        rintro r _ ⟨rfl, rfl⟩
        refine jn_in fun J hJ => ?_
        cases he : p (g xs j) with
        | true =>
          simp only [Bool.not_true, brB_false]
          have ef : (xs.take (j + 1)).filter (fun x => !p x) = (xs.take j).filter (fun x => !p x) := by rw [take_succ_g hjl, List.filter_append]; simp [he]
          refine hJ _ _ (hX _ _ _ ⟨j + 1, ys, by rw [ef], by omega, by rw [ef]; omega, hys, by rw [ef]; exact ht, ?_, hb', x', rfl⟩ (by omega))
          have := congrArg (List.drop 1) hd
          simpa [List.drop_drop, Nat.add_comm] using this
        | false =>
          simp only [Bool.not_false, brB_true]
          have ef : (xs.take (j + 1)).filter (fun x => !p x) = (xs.take j).filter (fun x => !p x) ++ [g xs j] := by rw [take_succ_g hjl, List.filter_append]; simp [he]
          generalize ek : ((xs.take j).filter (fun x => !p x)).length = k at *
          have ew := wrn (b := b) (xs := ys) (rest := rest) hb' (k := k) (v := .int .i64 (g xs j)) (K := J (IntKind.wrap .i64 ((k : Int) + 1), ())) (by omega)
          rw [hys] at ew
          rw [ew, inc64 (show k < 100000000 by omega)]
          have xs1 := x'.set ⟨b, k, none⟩ (.int .i64 (g xs j)) (by simp)
          refine hJ _ _ (hX _ _ _ ⟨j + 1, ys.set k (g xs j), by rw [ef]; simp [ek], by omega, by rw [ef]; simp [ek]; omega, by simpa using hys, ?_, ?_, Blk.set_ints hb' (g xs j) (by omega), xs1, rfl⟩ (by omega))
          · rw [ef]
            simp only [List.length_append, ek, List.length_cons, List.length_nil]
            rw [take_succ_g (by simp; omega), g_set, if_pos ⟨rfl, by omega⟩, List.take_set_of_le (Nat.le_refl _), ht]
          · rw [List.drop_set_of_lt (by omega)]
            have := congrArg (List.drop 1) hd
            simpa [List.drop_drop, Nat.add_comm] using this
      · have ej : j = xs.length := by omega
        subst ej
        simp only [dec_lt_f hjl, brB_false]
        rw [List.take_length] at hlt ht ⊢
        generalize xs.filter (fun x => !p x) = zs at *
        refine ⟨by omega, by (show (zs.length : Int) ≤ (xs.length : Nat); omega), ?_⟩
        have e1 : (slR ⟨pt b, xs.length, xs.length + rest.length⟩ (zs.length : Int).toNat xs.length 1) = ⟨some ⟨b, zs.length, none⟩, xs.length - zs.length, xs.length + rest.length - zs.length⟩ := by
          simp [slR]; omega
        show clr _ _ _ _
        rw [e1]
        unfold clr
        simp only
        have ez : (Builtin.zeroCells #[Value.int .i64 0] (xs.length - zs.length)).toList.length = xs.length - zs.length := by simp [Builtin.zeroCells]
        refine stA_ok _ 0 hb' (by rw [ez]; simp; omega) ?_ ?_
        · intro v hv
          simp [Builtin.zeroCells] at hv
          obtain ⟨k, _, rfl⟩ := hv
          rw [Nat.mod_one]; rfl
        · intro h2 c' hb2 x2 hl2 hj2
          refine ⟨by omega, by (show (zs.length : Int) ≤ ((xs.length + rest.length : Nat) : Int); omega), hK _ _ ⟨⟨c'.drop zs.length, ?_, ?_⟩, x'.trans x2 (fun y hy => .inl hy)⟩⟩
          · simp [slR, hl2, hys]; omega
          · have : ints zs ++ c'.drop zs.length = c' := by
              have e2 : c'.take zs.length = ints zs := by
                apply List.ext_getElem?
                intro j
                by_cases hj : j < zs.length
                · rw [List.getElem?_take_of_lt hj, hj2 j (by omega)]
                  rw [List.getElem?_append_left (by simp; omega)]
                  have := congrArg (fun l : List Int => l[j]?) ht
                  simp only [List.getElem?_take_of_lt hj] at this
                  simp [this]
                · rw [List.getElem?_eq_none (by simp; omega), List.getElem?_eq_none (by simp; omega)]
              rw [← e2, List.take_append_drop]
            rw [this]; exact hb2

end Go.Proofs.Ord

/-
  OrderBack.
-/
set_option linter.unusedVariables false
namespace Go.Proofs.Ord
open Go Go.Sx Go.Proofs

theorem ev12 {x : Int} (h0 : 0 ≤ x) (h1 : x < 256) : IntKind.wrap .i64 (1 + IntKind.wrap .i64 (Int.tmod x 12)) = 1 + x % 12 := by
  have et : Int.tmod x 12 = x % 12 := Int.tmod_eq_emod_of_nonneg h0
  rw [et, wrap_i64 (x := x % 12) (by omega) (by omega), wrap_i64 (by omega) (by omega)]

theorem index_lt {L : List Int} {act : List Int} (s : Sorted act L) {i : Nat} {x a : Int} (ha : a ∈ L) (hi : (i : Int) < x)
    (hx : (x = -1 ∧ a ∉ L) ∨ (∃ k : Nat, x = k ∧ k < L.length ∧ g L k = a ∧ ∀ j, j < k → g L j ≠ a)) : bef act (g L i) a = true := by
  rcases hx with ⟨_, hn⟩ | ⟨k, rfl, hk, rfl, _⟩
  · exact absurd ha hn
  · exact s.g (by omega) hk

theorem orderBack_F {h : Heap} {a : Sl} {p q : Int} (hb : Byts h a.a a.len) (hc : a.len ≤ a.cap) (hp0 : 0 ≤ p) (hp1 : p < 256) (hq0 : 0 ≤ q) (hq1 : q < 256) :
    ∀ K : Bool → HP, (∀ x h', (x = true ∧ Ext [] h h') → K x h') → F_salvorlaw11_OrderBack a p q K h := by
  intro K hK
  unfold F_salvorlaw11_OrderBack
  rw [ev12 hp0 hp1, ev12 hq0 hq1]
  obtain ⟨v, ev⟩ : ∃ v : Int, v = 1 + p % 12 := ⟨_, rfl⟩
  obtain ⟨u, eu⟩ : ∃ u : Int, u = 1 + q % 12 := ⟨_, rfl⟩
  have v1 : 1 ≤ v ∧ v ≤ (12 : Nat) := by omega
  have u1 : 1 ≤ u ∧ u ≤ (12 : Nat) := by omega
  rw [← ev, ← eu]
  refine call_of (put_law hb hc) ?_
  rintro _ h1 ⟨o, S, act, step, L, rfl, w⟩
  have e0 : ((0 : Int) != 0) = false := rfl
  simp only [Bool.not_true, brB_false, nz_ok (show (12 : Int) ≠ 0 by decide)]
  refine call_of (w.push v) ?_
  rintro _ h2 ⟨rfl, S2, w, _, _⟩
  simp only [if_pos v1, e0, brB_false]
  have hvL : v ∈ pushL act 12 v L := by
    unfold pushL
    split
    · simp [mem_srt]
    · rename_i hn; exact Classical.not_not.1 fun h => hn ⟨v1.1, v1.2, h⟩
  generalize pushL act 12 v L = L at *
  refine call_of (w.push v) ?_
  rintro _ h3 ⟨rfl, S3, w, _, _⟩
  have eP : pushL act 12 v L = L := by unfold pushL; rw [if_neg (fun h => h.2.2 hvL)]
  rw [eP] at w
  simp only [if_pos v1, e0, brB_false]
  refine call_of (hasR_c w.1 v) ?_
  rintro _ _ ⟨rfl, rfl⟩
  simp only [hvL, decide_true, Bool.not_true, brB_false]
  refine call_of (w.list (by omega)) ?_
  rintro _ h4 ⟨⟨sa, sl, sc⟩, b1, rfl, is1, _, _, _, w⟩
  have l1 : sl = L.length := is1.len
  subst l1
  refine call_of (lenR_c w.1) ?_
  rintro _ _ ⟨rfl, rfl⟩
  simp only [Bool.not_true, brB_false]
  have hlL := w.1.len
  have hnd := w.1.sorted.nodup
  refine call_of (w.remove v) ?_
  rintro _ h5 ⟨rfl, w, _⟩
  simp only [if_pos v1, e0, brB_false]
  have nin : v ∉ L.erase v := hnd.not_mem_erase
  have ll : (L.erase v).length = L.length - 1 := List.length_erase_of_mem hvL
  have lpos : 0 < L.length := List.length_pos_of_mem hvL
  generalize L.erase v = L2 at *
  refine call_of (w.remove v) ?_
  rintro _ h6 ⟨rfl, w, _⟩
  rw [List.erase_of_not_mem nin] at w
  simp only [if_pos v1, e0, brB_false]
  refine call_of (hasR_c w.1 v) ?_
  rintro _ _ ⟨rfl, rfl⟩
  simp only [nin, decide_false, brB_false]
  refine call_of (lenR_c w.1) ?_
  rintro _ _ ⟨rfl, rfl⟩
  have e1 : ((L2.length : Int) != IntKind.wrap .i64 ((L.length : Int) - 1)) = false := by
    rw [wrap_i64 (by omega) (by omega)]; simp only [bne_eq_false_iff_eq]; omega
  simp only [e1, brB_false]
  refine call_of (w.bump u (by omega)) ?_
  rintro _ h7 ⟨rfl, w, _⟩
  simp only [if_pos u1, e0, brB_false]
  have nin : v ∉ srt (bumpA act 12 u step) L2 := by rw [mem_srt]; exact nin
  have ll : (srt (bumpA act 12 u step) L2).length = L.length - 1 := by rw [length_srt]; exact ll
  generalize srt (bumpA act 12 u step) L2 = L3 at *
  generalize bumpA act 12 u step = act3 at *
  generalize bumpS act 12 u step = step3 at *
  refine call_of (w.push v) ?_
  rintro _ h8 ⟨rfl, S4, w, _, _⟩
  simp only [if_pos v1, e0, brB_false]
  have eP : pushL act3 12 v L3 = srt act3 (v :: L3) := by unfold pushL; rw [if_pos ⟨v1.1, v1.2, nin⟩]
  rw [eP] at w
  have hvL : v ∈ srt act3 (v :: L3) := by simp [mem_srt]
  have ll : (srt act3 (v :: L3)).length = L.length := by rw [length_srt]; simp; omega
  generalize srt act3 (v :: L3) = L4 at *
  refine call_of (lenR_c w.1) ?_
  rintro _ _ ⟨rfl, rfl⟩
  have e2 : ((L4.length : Int) != (L.length : Int)) = false := by simp only [bne_eq_false_iff_eq]; omega
  simp only [e2, brB_false]
  refine call_of (w.list (by omega)) ?_
  rintro _ h9 ⟨⟨ta, tl, tc⟩, b2, rfl, is2, _, _, _, w⟩
  have l2 : tl = L4.length := is2.len
  subst l2
  have hmem := w.1.mem
  have i0 : ∀ v : Int, v ∈ L4 → (if 1 ≤ v ∧ v ≤ (12 : Nat) then ((g act3 v.toNat, 0, ()) : Int × Int × Unit) else (0, 110, ())) = (g act3 v.toNat, 0, ()) := fun v hv => if_pos (hmem v hv)
  refine call_of (activityR_c w.1 v) ?_
  rintro _ h9 ⟨rfl, rfl⟩
  rw [i0 v hvL]
  refine lfp_invh (I := fun m σ h' => ∃ (i : Nat), σ = ((i : Int), false, ()) ∧ i ≤ L4.length ∧ h' = h9 ∧ m = L4.length - i) ⟨_, 0, rfl, by omega, rfl, rfl⟩ ?_
  rintro m σ h' X ⟨i, rfl, hi, rfl, rfl⟩ hX
  by_cases hlt : i < L4.length
  · simp only [dec_lt_t hlt, brB_true, inc64 (show i < 100000000 by omega)]
    rw [is2.rd hlt]
    refine call_of (activityR_c w.1 _) ?_
    rintro _ _ ⟨rfl, rfl⟩
    rw [i0 _ (g_mem hlt)]
    have e3 : (IntKind.wrap .i64 ((0 : Int) + 0) != 0) = false := by decide
    simp only [e3, brB_false]
    refine call_of (index_c is2 (by omega) v) ?_
    rintro x _ ⟨hx, rfl⟩
    have next := hX _ _ _ ⟨i + 1, rfl, by omega, rfl, rfl⟩ (by omega)
    by_cases hix : (i : Int) < x
    · have hs := bef_iff.1 (index_lt w.1.sorted hvL hix hx)
      simp only [hix, decide_true, brB_true]
      have e4 : decide (g act3 (g L4 i).toNat < g act3 v.toNat) = false := by simp; omega
      simp only [e4, brB_false]
      by_cases he : g act3 (g L4 i).toNat = g act3 v.toNat
      · have e5 : (g act3 (g L4 i).toNat == g act3 v.toNat) = true := by simp [he]
        have e6 : decide (g L4 i > v) = false := by simp; omega
        simp only [e5, brB_true, e6, brB_false]
        exact next
      · have e5 : (g act3 (g L4 i).toNat == g act3 v.toNat) = false := by simp [he]
        simp only [e5, brB_false]
        exact next
    · simp only [hix, decide_false, brB_false]
      exact next
  · have e4 : ((L4.length : Int) == (L.length : Int)) = true := by simp; omega
    simp only [dec_lt_f hlt, brB_false, brB_true, e4]
    refine call_of (contains_c is2 (by omega) v) ?_
    rintro _ _ ⟨rfl, rfl⟩
    simp only [hvL, decide_true, brB_true]
    refine call_of (awake_c _) ?_
    rintro _ h8 ⟨rfl, x8⟩
    exact hK _ _ ⟨rfl, w.2.2.1.nil_trans x8⟩

end Go.Proofs.Ord
