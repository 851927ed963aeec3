/-
  OrderBack.
-/
import Derived.Test.YtkfdfbgceockpaaOrdL6
set_option linter.unusedVariables false
namespace Go.Proofs.Ord
open Go Go.Sx Go.Proofs

theorem ev12 {x : Int} (h0 : 0 ≤ x) (h1 : x < 256) : IntKind.wrap .i64 (1 + IntKind.wrap .i64 (Int.tmod x 12)) = 1 + x % 12 := by
  have et : Int.tmod x 12 = x % 12 := Int.tmod_eq_emod_of_nonneg h0
  rw [et, wrap_i64 (x := x % 12) (by omega) (by omega), wrap_i64 (by omega) (by omega)]

theorem index_lt {L : List Int} {act : List Int} (s : Sorted act L) {i : Nat} {x a : Int} (ha : a ∈ L) (hi : (i : Int) < x)
    (hx : (x = -1 ∧ a ∉ L) ∨ (∃ k : Nat, x = k ∧ k < L.length ∧ g L k = a ∧ ∀ j, j < k → g L j ≠ a)) : bef act (g L i) a = true := by
  rcases hx with ⟨_, hn⟩ | ⟨k, rfl, hk, rfl, _⟩
  · exact absurd ha hn
  · exact s.g (by omega) hk

theorem orderBack_F {h : Heap} {a : Sl} {p q : Int} (hb : Byts h a.a a.len) (hc : a.len ≤ a.cap) (hp0 : 0 ≤ p) (hp1 : p < 256) (hq0 : 0 ≤ q) (hq1 : q < 256) :
    ∀ K : Bool → HP, (∀ x h', (x = true ∧ Ext [] h h') → K x h') → F_salvorlaw11_OrderBack a p q K h := by
  intro K hK
  unfold F_salvorlaw11_OrderBack
  rw [ev12 hp0 hp1, ev12 hq0 hq1]
  obtain ⟨v, ev⟩ : ∃ v : Int, v = 1 + p % 12 := ⟨_, rfl⟩
  obtain ⟨u, eu⟩ : ∃ u : Int, u = 1 + q % 12 := ⟨_, rfl⟩
  have v1 : 1 ≤ v ∧ v ≤ (12 : Nat) := by omega
  have u1 : 1 ≤ u ∧ u ≤ (12 : Nat) := by omega
  rw [← ev, ← eu]
  refine call_of (put_law hb hc) ?_
  rintro _ h1 ⟨o, S, act, step, L, rfl, w⟩
  have e0 : ((0 : Int) != 0) = false := rfl
  simp only [Bool.not_true, brB_false, nz_ok (show (12 : Int) ≠ 0 by decide)]
  refine call_of (w.push v) ?_
  rintro _ h2 ⟨rfl, S2, w, _, _⟩
  simp only [if_pos v1, e0, brB_false]
  have hvL : v ∈ pushL act 12 v L := by
    unfold pushL
    split
    · simp [mem_srt]
    · rename_i hn; exact Classical.not_not.1 fun h => hn ⟨v1.1, v1.2, h⟩
  generalize pushL act 12 v L = L at *
  refine call_of (w.push v) ?_
  rintro _ h3 ⟨rfl, S3, w, _, _⟩
  have eP : pushL act 12 v L = L := by unfold pushL; rw [if_neg (fun h => h.2.2 hvL)]
  rw [eP] at w
  simp only [if_pos v1, e0, brB_false]
  refine call_of (hasR_c w.1 v) ?_
  rintro _ _ ⟨rfl, rfl⟩
  simp only [hvL, decide_true, Bool.not_true, brB_false]
  refine call_of (w.list (by omega)) ?_
  rintro _ h4 ⟨⟨sa, sl, sc⟩, b1, rfl, is1, _, _, _, w⟩
  have l1 : sl = L.length := is1.len
  subst l1
  refine call_of (lenR_c w.1) ?_
  rintro _ _ ⟨rfl, rfl⟩
  simp only [Bool.not_true, brB_false]
  have hlL := w.1.len
  have hnd := w.1.sorted.nodup
  refine call_of (w.remove v) ?_
  rintro _ h5 ⟨rfl, w, _⟩
  simp only [if_pos v1, e0, brB_false]
  have nin : v ∉ L.erase v := hnd.not_mem_erase
  have ll : (L.erase v).length = L.length - 1 := List.length_erase_of_mem hvL
  have lpos : 0 < L.length := List.length_pos_of_mem hvL
  generalize L.erase v = L2 at *
  refine call_of (w.remove v) ?_
  rintro _ h6 ⟨rfl, w, _⟩
  rw [List.erase_of_not_mem nin] at w
  simp only [if_pos v1, e0, brB_false]
  refine call_of (hasR_c w.1 v) ?_
  rintro _ _ ⟨rfl, rfl⟩
  simp only [nin, decide_false, brB_false]
  refine call_of (lenR_c w.1) ?_
  rintro _ _ ⟨rfl, rfl⟩
  have e1 : ((L2.length : Int) != IntKind.wrap .i64 ((L.length : Int) - 1)) = false := by
    rw [wrap_i64 (by omega) (by omega)]; simp only [bne_eq_false_iff_eq]; omega
  simp only [e1, brB_false]
  refine call_of (w.bump u (by omega)) ?_
  rintro _ h7 ⟨rfl, w, _⟩
  simp only [if_pos u1, e0, brB_false]
  have nin : v ∉ srt (bumpA act 12 u step) L2 := by rw [mem_srt]; exact nin
  have ll : (srt (bumpA act 12 u step) L2).length = L.length - 1 := by rw [length_srt]; exact ll
  generalize srt (bumpA act 12 u step) L2 = L3 at *
  generalize bumpA act 12 u step = act3 at *
  generalize bumpS act 12 u step = step3 at *
  refine call_of (w.push v) ?_
  rintro _ h8 ⟨rfl, S4, w, _, _⟩
  simp only [if_pos v1, e0, brB_false]
  have eP : pushL act3 12 v L3 = srt act3 (v :: L3) := by unfold pushL; rw [if_pos ⟨v1.1, v1.2, nin⟩]
  rw [eP] at w
  have hvL : v ∈ srt act3 (v :: L3) := by simp [mem_srt]
  have ll : (srt act3 (v :: L3)).length = L.length := by rw [length_srt]; simp; omega
  generalize srt act3 (v :: L3) = L4 at *
  refine call_of (lenR_c w.1) ?_
  rintro _ _ ⟨rfl, rfl⟩
  have e2 : ((L4.length : Int) != (L.length : Int)) = false := by simp only [bne_eq_false_iff_eq]; omega
  simp only [e2, brB_false]
  refine call_of (w.list (by omega)) ?_
  rintro _ h9 ⟨⟨ta, tl, tc⟩, b2, rfl, is2, _, _, _, w⟩
  have l2 : tl = L4.length := is2.len
  subst l2
  have hmem := w.1.mem
  have i0 : ∀ v : Int, v ∈ L4 → (if 1 ≤ v ∧ v ≤ (12 : Nat) then ((g act3 v.toNat, 0, ()) : Int × Int × Unit) else (0, 110, ())) = (g act3 v.toNat, 0, ()) := fun v hv => if_pos (hmem v hv)
  refine call_of (activityR_c w.1 v) ?_
  rintro _ h9 ⟨rfl, rfl⟩
  rw [i0 v hvL]
  refine lfp_invh (I := fun m σ h' => ∃ (i : Nat), σ = ((i : Int), false, ()) ∧ i ≤ L4.length ∧ h' = h9 ∧ m = L4.length - i) ⟨_, 0, rfl, by omega, rfl, rfl⟩ ?_
  rintro m σ h' X ⟨i, rfl, hi, rfl, rfl⟩ hX
  by_cases hlt : i < L4.length
  · simp only [dec_lt_t hlt, brB_true, inc64 (show i < 100000000 by omega)]
    rw [is2.rd hlt]
    refine call_of (activityR_c w.1 _) ?_
    rintro _ _ ⟨rfl, rfl⟩
    rw [i0 _ (g_mem hlt)]
    have e3 : (IntKind.wrap .i64 ((0 : Int) + 0) != 0) = false := by decide
    simp only [e3, brB_false]
    refine call_of (index_c is2 (by omega) v) ?_
    rintro x _ ⟨hx, rfl⟩
    have next := hX _ _ _ ⟨i + 1, rfl, by omega, rfl, rfl⟩ (by omega)
    by_cases hix : (i : Int) < x
    · have hs := bef_iff.1 (index_lt w.1.sorted hvL hix hx)
      simp only [hix, decide_true, brB_true]
      have e4 : decide (g act3 (g L4 i).toNat < g act3 v.toNat) = false := by simp; omega
      simp only [e4, brB_false]
      by_cases he : g act3 (g L4 i).toNat = g act3 v.toNat
      · have e5 : (g act3 (g L4 i).toNat == g act3 v.toNat) = true := by simp [he]
        have e6 : decide (g L4 i > v) = false := by simp; omega
        simp only [e5, brB_true, e6, brB_false]
        exact next
      · have e5 : (g act3 (g L4 i).toNat == g act3 v.toNat) = false := by simp [he]
        simp only [e5, brB_false]
        exact next
    · simp only [hix, decide_false, brB_false]
      exact next
  · have e4 : ((L4.length : Int) == (L.length : Int)) = true := by simp; omega
    simp only [dec_lt_f hlt, brB_false, brB_true, e4]
    refine call_of (contains_c is2 (by omega) v) ?_
    rintro _ _ ⟨rfl, rfl⟩
    simp only [hvL, decide_true, brB_true]
    refine call_of (awake_c _) ?_
    rintro _ h8 ⟨rfl, x8⟩
    exact hK _ _ ⟨rfl, w.2.2.1.nil_trans x8⟩

end Go.Proofs.Ord
