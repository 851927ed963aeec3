/-
  OrderWrong.
-/
import Derived.Test.YtkfdfbgceockpaaOrdAw
set_option linter.unusedVariables false
namespace Go.Proofs.Ord
open Go Go.Sx Go.Proofs

theorem Own.sorted {h0 h : Heap} {S : List Nat} {o n : Nat} {act : List Int} {step : Int} {L : List Int} (w : Own h0 h S o n act step L) : srt act L = L :=
  (w.1.sorted.eq_srt (List.Perm.refl _)).symm

theorem orderWrong_F {h : Heap} {a : Sl} {k : Int} (hb : Byts h a.a a.len) (hc : a.len ≤ a.cap) :
    ∀ K : Bool → HP, (∀ x h', (x = true ∧ Ext [] h h') → K x h') → F_salvorlaw11_OrderWrong a k K h := by
  intro K hK
  unfold F_salvorlaw11_OrderWrong
  refine call_of (put_law hb hc) ?_
  rintro _ h1 ⟨o, S, act, step, L, rfl, w⟩
  simp only [Bool.not_true, brB_false]
  have ltS := w.1.lt
  refine call_of (w.list (by omega)) ?_
  rintro _ h2 ⟨s1, b1, rfl, is1, g1, lt1, x2, w⟩
  have nb1 : b1 ∉ S := fun hb => by have := ltS b1 hb; omega
  simp only [nw_eq]
  have xx := (Ext.refl [] h2).push (.cells #[.int .i64 0, .int .i64 (if (-1 : Int) < k then (-1 : Int) else k), .int .i64 (if (13 : Int) > k then (13 : Int) else k)] 3)
  have kb := Blk.new h2 3 #[.int .i64 0, .int .i64 (if (-1 : Int) < k then (-1 : Int) else k), .int .i64 (if (13 : Int) > k then (13 : Int) else k)]
  have is1 := is1.ext xx (by simp)
  have ltS2 := w.1.lt
  have w := w.ext0 xx
  have nb2 : h2.size ∉ S := fun hb => by have := ltS2 _ hb; omega
  have s3 : (h2.push (.cells #[.int .i64 0, .int .i64 (if (-1 : Int) < k then (-1 : Int) else k), .int .i64 (if (13 : Int) > k then (13 : Int) else k)] 3)).size = h2.size + 1 := by simp
  generalize h2.push (.cells #[.int .i64 0, .int .i64 (if (-1 : Int) < k then (-1 : Int) else k), .int .i64 (if (13 : Int) > k then (13 : Int) else k)] 3) = h3 at *
  have hlL := w.1.len
  have hmem := w.1.mem
  refine lfp_invh (I := fun m σ h' => ∃ (i : Nat) (S : List Nat), σ = ((i : Int), false, ()) ∧ i ≤ 3 ∧ Own h h' S o 12 act step L ∧ ISl0 h' b1 L s1 ∧ b1 ∉ S ∧ h2.size ∉ S ∧ h3.size ≤ h'.size ∧
      Blk h' h2.size 3 [.int .i64 0, .int .i64 (if (-1 : Int) < k then (-1 : Int) else k), .int .i64 (if (13 : Int) > k then (13 : Int) else k)] ∧ m = 3 - i)
    ⟨_, 0, S, rfl, by omega, w, is1, nb1, nb2, Nat.le_refl _, kb, rfl⟩ ?_
  clear w is1 nb1 nb2 kb
  rintro m σ h' X ⟨i, S, rfl, hi, w, is1, nb1, nb2, hz, kb, rfl⟩ hX
  by_cases hlt : i < 3
  · have e : decide ((i : Int) < 3) = true := by simp; omega
    have ei : IntKind.wrap .i64 ((i : Int) + 1) = (i + 1 : Nat) := by rw [wrap_i64 (by omega) (by omega)]; omega
    have ex : ∃ v : Int, [Value.int .i64 0, .int .i64 (if (-1 : Int) < k then (-1 : Int) else k), .int .i64 (if (13 : Int) > k then (13 : Int) else k)][i]? = some (.int .i64 v) ∧ ¬ (1 ≤ v ∧ v ≤ (12 : Nat)) := by
      have : i = 0 ∨ i = 1 ∨ i = 2 := by omega
      rcases this with rfl | rfl | rfl
      · exact ⟨_, rfl, by omega⟩
      · exact ⟨_, rfl, by split <;> omega⟩
      · exact ⟨_, rfl, by split <;> omega⟩
    obtain ⟨v, ev, hv⟩ := ex
    simp only [e, brB_true, ei]
    rw [sx_ok (by omega) (by omega), addr_add]
    simp only [Int.toNat_natCast, Nat.mul_one, Nat.zero_add]
    rw [ld_int kb ev]
    have hvL : v ∉ L := fun hm => hv (hmem v hm)
    refine call_of (activityR_c w.1 v) ?_
    rintro _ h4 ⟨rfl, rfl⟩
    rw [if_neg hv]
    refine call_of (w.bump v (by omega)) ?_
    rintro _ h5 ⟨rfl, w5, x5⟩
    have eA : bumpA act 12 v step = act := by unfold bumpA; rw [if_neg hv]
    have eS : bumpS act 12 v step = step := by unfold bumpS; rw [if_neg hv]
    rw [eA, eS, w.sorted] at w5
    have e110 : ((110 : Int) != 110) = false := rfl
    simp only [if_neg hv, e110, brB_false]
    have is5 := is1.ext x5 nb1
    have kb5 := kb.ext x5 nb2
    refine call_of (w5.push v) ?_
    rintro _ h6 ⟨rfl, S6, w6, x6, f6⟩
    have eP : pushL act 12 v L = L := by unfold pushL; rw [if_neg (fun h => hv ⟨h.1, h.2.1⟩)]
    rw [eP] at w6
    have z5 := x5.1
    have nb16 : b1 ∉ S6 := fun hb => by
      rcases f6 _ hb with k | k
      · exact nb1 k
      · omega
    have nb26 : h2.size ∉ S6 := fun hb => by
      rcases f6 _ hb with k | k
      · exact nb2 k
      · omega
    have is6 := is5.ext x6 nb1
    have kb6 := kb5.ext x6 nb2
    simp only [if_neg hv, e110, brB_false]
    refine call_of (w6.remove v) ?_
    rintro _ h7 ⟨rfl, w7, x7⟩
    rw [List.erase_of_not_mem hvL] at w7
    have is7 := is6.ext x7 nb16
    have kb7 := kb6.ext x7 nb26
    simp only [if_neg hv, e110, brB_false]
    refine call_of (hasR_c w7.1 v) ?_
    rintro _ h8 ⟨rfl, rfl⟩
    simp only [hvL, decide_false, brB_false]
    have z6 := x6.1
    have z7 := x7.1
    exact hX _ _ _ ⟨i + 1, S6, rfl, by omega, w7, is7, nb16, nb26, by omega, kb7, rfl⟩ (by omega)
  · have e : decide ((i : Int) < 3) = false := by simp; omega
    simp only [e, brB_false]
    refine call_of (new_bad _ (.inl (by split <;> omega)) h') ?_
    rintro _ h4 ⟨rfl, rfl⟩
    refine call_of (new_bad _ (.inr (by split <;> omega)) h4) ?_
    rintro _ h5 ⟨rfl, rfl⟩
    refine call_of (w.list (by omega)) ?_
    rintro _ h6 ⟨s6, b6, rfl, is6, _, _, x6, w6⟩
    have is1' := is1.ext x6 (by simp)
    simp only [brB_true]
    refine call_of (equal_c is1' is6 (by omega)) ?_
    rintro _ h7 ⟨rfl, rfl⟩
    have e2 : ((2 : Int) == 2) = true := rfl
    simp only [decide_true, brB_true, Option.isNone_none, e2]
    refine call_of (awake_c h7) ?_
    rintro _ h8 ⟨rfl, x8⟩
    exact hK _ _ ⟨rfl, w6.2.2.1.nil_trans x8⟩

end Go.Proofs.Ord
