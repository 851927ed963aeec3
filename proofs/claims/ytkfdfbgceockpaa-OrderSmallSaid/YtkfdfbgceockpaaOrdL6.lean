/-
  OrderPops.
-/
import Derived.Test.YtkfdfbgceockpaaOrdZ
set_option linter.unusedVariables false
namespace Go.Proofs.Ord
open Go Go.Sx Go.Proofs

theorem Own.srtd {h0 h : Heap} {S : List Nat} {o n : Nat} {act : List Int} {step : Int} {L : List Int} (w : Own h0 h S o n act step L) : srt act L = L :=
  (w.1.sorted.eq_srt (List.Perm.refl _)).symm

theorem dec_lt_t {i n : Nat} (h : i < n) : decide ((i : Int) < (n : Int)) = true := by simp; omega
theorem dec_lt_f {i n : Nat} (h : ¬ i < n) : decide ((i : Int) < (n : Int)) = false := by simp; omega
theorem inc64 {i : Nat} (h : i < 100000000) : IntKind.wrap .i64 ((i : Int) + 1) = ((i + 1 : Nat) : Int) := by rw [wrap_i64 (by omega) (by omega)]; omega
theorem dec64 {i : Nat} (h : i < 100000000) (h0 : 0 < i) : IntKind.wrap .i64 ((i : Int) - 1) = ((i - 1 : Nat) : Int) := by rw [wrap_i64 (by omega) (by omega)]; omega

theorem Sorted.g {act L : List Int} (s : Sorted act L) {i j : Nat} (h : i < j) (hj : j < L.length) : bef act (g L i) (g L j) = true := by
  have := List.pairwise_iff_getElem.1 s i j (by omega) hj h
  simpa [Ord.g, List.getD_eq_getElem?_getD, List.getElem?_eq_getElem (show i < L.length by omega), List.getElem?_eq_getElem hj] using this

theorem first_at {L : List Int} (n : L.Nodup) {i : Nat} (hi : i < L.length) {x : Int}
    (hx : (x = -1 ∧ g L i ∉ L) ∨ (∃ k : Nat, x = k ∧ k < L.length ∧ g L k = g L i ∧ ∀ j, j < k → g L j ≠ g L i)) : x = i := by
  rcases hx with ⟨_, hn⟩ | ⟨k, rfl, hk, ek, hlt⟩
  · exact absurd (g_mem hi) hn
  · have : k = i := by
      have h1 := (List.nodup_iff_pairwise_ne.1 n)
      have h2 := List.pairwise_iff_getElem.1 h1
      by_cases hki : k = i
      · exact hki
      · exfalso
        rcases Nat.lt_or_gt_of_ne hki with hl | hl
        · refine h2 k i hk hi hl ?_
          simpa [g, List.getD_eq_getElem?_getD, List.getElem?_eq_getElem hk, List.getElem?_eq_getElem hi] using ek
        · exact hlt i hl rfl
    rw [this]

theorem orderPops_F {h : Heap} {a : Sl} (hb : Byts h a.a a.len) (hc : a.len ≤ a.cap) :
    ∀ K : Bool → HP, (∀ x h', (x = true ∧ Ext [] h h') → K x h') → F_salvorlaw11_OrderPops a K h := by
  intro K hK
  unfold F_salvorlaw11_OrderPops
  refine call_of (put_law hb hc) ?_
  rintro _ h1 ⟨o, S, act, step, L, rfl, w⟩
  simp only [Bool.not_true, brB_false]
  have ltS := w.1.lt
  refine call_of (w.list (by omega)) ?_
  rintro _ h2 ⟨s1, b1, rfl, is1, g1, lt1, x2, w⟩
  have nb1 : b1 ∉ S := fun hb => by have := ltS b1 hb; omega
  obtain ⟨sa, sl, sc⟩ := s1
  have l1 : sl = L.length := is1.len
  subst l1
  simp only [Bool.not_true, brB_false]
  refine call_of (lenR_c w.1) ?_
  rintro _ h3 ⟨rfl, rfl⟩
  simp only [bne_self_eq_false, brB_false]
  have hlL := w.1.len
  have hmem := w.1.mem
  have srtd := w.1.sorted
  have hnd := srtd.nodup
  have i0 : ∀ v : Int, v ∈ L → (if 1 ≤ v ∧ v ≤ (12 : Nat) then ((g act v.toNat, 0, ()) : Int × Int × Unit) else (0, 110, ())) = (g act v.toNat, 0, ()) := fun v hv => if_pos (hmem v hv)
  have e0 : ((0 : Int) != 0) = false := rfl
  refine lfp_invh (I := fun m σ h' => ∃ (i : Nat), σ = ((i : Int), false, ()) ∧ i ≤ L.length ∧ h' = h3 ∧ m = L.length - i) ⟨_, 0, rfl, by omega, rfl, rfl⟩ ?_
  rintro m σ h' X ⟨i, rfl, hi, rfl, rfl⟩ hX
  by_cases hlt : i < L.length
  · simp only [dec_lt_t hlt, brB_true, inc64 (show i < 100000000 by omega)]
    rw [is1.rd hlt]
    refine call_of (activityR_c w.1 _) ?_
    rintro _ _ ⟨rfl, rfl⟩
    rw [i0 _ (g_mem hlt)]
    simp only [e0, brB_false]
    refine call_of (hasR_c w.1 _) ?_
    rintro _ _ ⟨rfl, rfl⟩
    simp only [g_mem hlt, decide_true, Bool.not_true, brB_false]
    refine call_of (index_c is1 (by omega) (g L i)) ?_
    rintro x _ ⟨hx, rfl⟩
    have ex := first_at hnd hlt hx
    subst ex
    have e2 : ((i : Int) != (i : Int)) = false := by simp
    simp only [e2, brB_false]
    refine jn_in fun J hJ => ?_
    by_cases h0 : 0 < i
    · have e3 : decide ((i : Int) > 0) = true := by simp; omega
      have hl' : i - 1 < L.length := by omega
      simp only [e3, brB_true, dec64 (show i < 100000000 by omega) h0]
      rw [is1.rd hl']
      refine call_of (activityR_c w.1 _) ?_
      rintro _ _ ⟨rfl, rfl⟩
      rw [i0 _ (g_mem hl')]
      have hs := bef_iff.1 (srtd.g (show i - 1 < i by omega) hlt)
      simp only [e0, brB_false]
      have e4 : decide (g act (g L (i - 1)).toNat < g act (g L i).toNat) = false := by simp; omega
      simp only [e4, brB_false]
      by_cases he : g act (g L (i - 1)).toNat = g act (g L i).toNat
      · have e5 : (g act (g L (i - 1)).toNat == g act (g L i).toNat) = true := by simp [he]
        simp only [e5, brB_true]
        rw [is1.rd hl']
        have e6 : decide (g L (i - 1) > g L i) = false := by simp; omega
        simp only [e6, brB_false]
        exact hJ _ _ (hX _ _ _ ⟨i + 1, rfl, by omega, rfl, rfl⟩ (by omega))
      · have e5 : (g act (g L (i - 1)).toNat == g act (g L i).toNat) = false := by simp [he]
        simp only [e5, brB_false]
        exact hJ _ _ (hX _ _ _ ⟨i + 1, rfl, by omega, rfl, rfl⟩ (by omega))
    · have e3 : decide ((i : Int) > 0) = false := by simp; omega
      simp only [e3, brB_false]
      exact hJ _ _ (hX _ _ _ ⟨i + 1, rfl, by omega, rfl, rfl⟩ (by omega))
  simp only [dec_lt_f hlt, brB_false]
  clear hX hlt hi i X
  refine lfp_invh (I := fun m σ h'' => ∃ (i : Nat), σ = ((i : Int), false, ()) ∧ 1 ≤ i ∧ i ≤ 13 ∧ h'' = h' ∧ m = 13 - i) ⟨_, 1, rfl, by omega, by omega, rfl, rfl⟩ ?_
  rintro m σ h'' X ⟨i, rfl, hi1, hi, rfl, rfl⟩ hX
  by_cases hlt : i < 13
  · have e3 : decide ((i : Int) ≤ 12) = true := by simp; omega
    simp only [e3, brB_true, inc64 (show i < 100000000 by omega)]
    refine call_of (hasR_c w.1 _) ?_
    rintro _ _ ⟨rfl, rfl⟩
    refine call_of (contains_c is1 (by omega) _) ?_
    rintro _ _ ⟨rfl, rfl⟩
    simp only [beq_self_eq_true, Bool.not_true, brB_false]
    exact hX _ _ _ ⟨i + 1, rfl, by omega, by omega, rfl, rfl⟩ (by omega)
  have e3 : decide ((i : Int) ≤ 12) = false := by simp; omega
  simp only [e3, brB_false]
  clear hX hlt hi hi1 i X e3
  refine lfp_invh (I := fun m σ h'' => ∃ (i : Nat), σ = ((i : Int), false, ()) ∧ i ≤ L.length ∧ Own h h'' S o 12 act step (L.drop i) ∧ ISl0 h'' b1 L ⟨sa, L.length, sc⟩ ∧ m = L.length - i) ⟨_, 0, rfl, by omega, w, is1, rfl⟩ ?_
  clear w is1
  rintro m σ h3 X ⟨i, rfl, hi, w, is1, rfl⟩ hX
  by_cases hlt : i < L.length
  · simp only [dec_lt_t hlt, brB_true, inc64 (show i < 100000000 by omega)]
    rw [is1.rd hlt]
    have hd : (L.drop i) = g L i :: L.drop (i + 1) := by
      rw [List.drop_eq_getElem_cons hlt]; simp [g, List.getD_eq_getElem?_getD, List.getElem?_eq_getElem hlt]
    refine call_of (peekR_c w.1) ?_
    rintro _ _ ⟨rfl, rfl⟩
    refine call_of w.pop ?_
    rintro _ h4 ⟨rfl, w4, x4⟩
    have is4 := is1.ext x4 nb1
    rw [hd] at w4 ⊢
    have nin : g L i ∉ L.drop (i + 1) := by
      have := hnd.sublist (List.drop_sublist i L)
      rw [hd] at this
      exact (List.nodup_cons.1 this).1
    simp only [List.tail_cons] at w4
    simp only [List.headD_cons, bne_self_eq_false, brB_false, List.length_cons, Nat.zero_lt_succ, decide_true, Bool.not_true]
    refine call_of (hasR_c w4.1 _) ?_
    rintro _ _ ⟨rfl, rfl⟩
    simp only [nin, decide_false, brB_false]
    refine call_of (lenR_c w4.1) ?_
    rintro _ _ ⟨rfl, rfl⟩
    have e5 : (((L.drop (i + 1)).length : Int) != IntKind.wrap .i64 (IntKind.wrap .i64 ((L.length : Int) - 1) - (i : Int))) = false := by
      rw [wrap_i64 (x := (L.length : Int) - 1) (by omega) (by omega), wrap_i64 (by omega) (by omega)]
      simp only [List.length_drop, bne_eq_false_iff_eq]; omega
    rw [e5]
    simp only [brB_false]
    exact hX _ _ _ ⟨i + 1, rfl, by omega, w4, is4, rfl⟩ (by omega)
  · simp only [dec_lt_f hlt, brB_false]
    have hd : L.drop i = [] := List.drop_eq_nil_of_le (by omega)
    rw [hd] at w
    refine call_of w.pop ?_
    rintro _ h4 ⟨rfl, w4, x4⟩
    simp only [List.length_nil, Nat.lt_irrefl, decide_false, Bool.not_false, brB_true]
    refine call_of (lenR_c w4.1) ?_
    rintro _ _ ⟨rfl, rfl⟩
    have e6 : ((([] : List Int).tail.length : Int) == 0) = true := rfl
    simp only [e6, brB_true]
    refine call_of (awake_c _) ?_
    rintro _ h8 ⟨rfl, x8⟩
    exact hK _ _ ⟨rfl, w4.2.2.1.nil_trans x8⟩

end Go.Proofs.Ord
