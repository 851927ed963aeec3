/-
  slices.SortFunc over few numbers: by insertion.
-/
import Derived.Test.YtkfdfbgceockpaaOrdL
set_option linter.unusedVariables false
namespace Go.Proofs.Ord
open Go Go.Sx Go.Proofs

/-- A function value that compares: it turns nothing. -/
def Cmps (cmp : Value) (lt : Int → Int → Bool) (M : List Int) (I : HP) : Prop :=
  ∀ h a b, I h → a ∈ M → b ∈ M → callF Try.prog cmp #[.int .i64 a, .int .i64 b] (.int .i64) (fun r h' => (r < 0 ↔ lt a b = true) ∧ h' = h) h

structure WeakLt (lt : Int → Int → Bool) : Prop where
  asymm : ∀ a b, lt a b = true → lt b a = false
  ff : ∀ a b c, lt b a = false → lt c b = false → lt c a = false

/-- All up to i is in order, but for what stands at j, which is not behind what follows. -/
structure Ins (lt : Int → Int → Bool) (ys : List Int) (i j : Nat) : Prop where
  rest : ∀ p q, p < q → q ≤ i → p ≠ j → q ≠ j → lt (g ys q) (g ys p) = false
  aft : ∀ q, j < q → q ≤ i → lt (g ys q) (g ys j) = false

def Upto (lt : Int → Int → Bool) (ys : List Int) (i : Nat) : Prop := ∀ p q, p < q → q < i → lt (g ys q) (g ys p) = false

theorem Ins.step {lt : Int → Int → Bool} (w : WeakLt lt) {ys : List Int} {i j : Nat} (c : Ins lt ys i j) (h0 : 0 < j) (hj : j ≤ i) (hi : i < ys.length) (hlt : lt (g ys j) (g ys (j - 1)) = true) :
    Ins lt ((ys.set j (g ys (j - 1))).set (j - 1) (g ys j)) i (j - 1) := by
  have gs := g_swap (H := ys) (i := j) (p := j - 1) (by omega) (by omega)
  refine ⟨fun p q hpq hq hp1 hq1 => ?_, fun q hq1 hq2 => ?_⟩
  · rw [gs, gs, if_neg (Ne.symm hq1), if_neg (Ne.symm hp1)]
    by_cases e1 : j = q
    · subst e1
      rw [if_pos rfl, if_neg (by omega)]
      exact c.rest p (j - 1) (by omega) (by omega) (by omega) (by omega)
    · rw [if_neg e1]
      by_cases e2 : j = p
      · subst e2
        rw [if_pos rfl]
        exact c.rest (j - 1) q (by omega) hq (by omega) (by omega)
      · rw [if_neg e2]
        exact c.rest p q hpq hq (by omega) (by omega)
  · rw [gs, gs, if_neg (by omega), if_pos rfl]
    by_cases e1 : j = q
    · rw [if_pos e1]; exact w.asymm _ _ hlt
    · rw [if_neg e1]; exact c.aft q (by omega) hq2

theorem Ins.done {lt : Int → Int → Bool} (w : WeakLt lt) {ys : List Int} {i j : Nat} (c : Ins lt ys i j) (hd : j = 0 ∨ lt (g ys j) (g ys (j - 1)) = false) : Upto lt ys (i + 1) := by
  intro p q hpq hq
  by_cases e1 : q = j
  · subst e1
    rcases hd with hd | hd
    · omega
    · by_cases e2 : p = q - 1
      · rw [e2]; exact hd
      · exact w.ff _ _ _ (c.rest p (q - 1) (by omega) (by omega) (by omega) (by omega)) hd
  · by_cases e2 : p = j
    · rw [e2]; exact c.aft q (by omega) (by omega)
    · exact c.rest p q hpq (by omega) e2 e1

theorem Upto.ins {lt : Int → Int → Bool} {ys : List Int} {i : Nat} (u : Upto lt ys i) : Ins lt ys i i :=
  ⟨fun p q hpq hq _ hq1 => u p q hpq (by omega), fun q h1 h2 => by omega⟩

theorem swap_perm {ys : List Int} {i j : Nat} (hi : i < ys.length) (hj : j < ys.length) : ((ys.set i (g ys j)).set j (g ys i)).Perm ys := by
  have e1 : g ys i = ys[i] := by simp only [g, List.getD_eq_getElem?_getD]; rw [List.getElem?_eq_getElem hi]; rfl
  have e2 : g ys j = ys[j] := by simp only [g, List.getD_eq_getElem?_getD]; rw [List.getElem?_eq_getElem hj]; rfl
  rw [e1, e2]
  exact List.set_set_perm hi hj

theorem g_mem {xs : List Int} {i : Nat} (hi : i < xs.length) : g xs i ∈ xs := mem_g.2 ⟨i, hi, rfl⟩

/-- The sorted part is the whole: insertion from l to r sorts these. -/
theorem insertion_c {h : Heap} {b : Nat} {xs : List Int} {rest : List Value} {lt : Int → Int → Bool} {cmp : Value} (w : WeakLt lt) (hb : Blk h b 3 (ints xs ++ rest)) (hlen : xs.length ≤ 2000000)
    (hc : Cmps cmp lt xs (fun h' => Ext [b] h h')) :
    callT Try.prog fn_slices_insertionSortCmpFunc_int #[.slice (pt b) xs.length (xs.length + rest.length), .int .i64 0, .int .i64 xs.length, cmp] (.tup .nil)
      (fun _ h' => ∃ ys, ys.Perm xs ∧ Upto lt ys ys.length ∧ Blk h' b 3 (ints ys ++ rest) ∧ Ext [b] h h') h := by
  refine callT_gen fun K hK => ?_
  refine S_slices_insertionSortCmpFunc_int (a0 := ⟨pt b, xs.length, xs.length + rest.length⟩) (a1 := 0) (a2 := xs.length) (a3 := cmp) K ?_
  unfold F_slices_insertionSortCmpFunc_int
  have ew : IntKind.wrap .i64 ((0 : Int) + 1) = 1 := rfl
  rw [ew]
  refine lfp_invh (I := fun m s h' => ∃ (i : Nat) (ys : List Int), s = ((i : Int), ()) ∧ 1 ≤ i ∧ (i ≤ xs.length ∨ (i = 1 ∧ xs.length = 0)) ∧ ys.Perm xs ∧ Upto lt ys i ∧ Blk h' b 3 (ints ys ++ rest) ∧ Ext [b] h h' ∧ m = xs.length - i)
    ⟨_, 1, xs, rfl, by omega, by omega, List.Perm.refl _, fun p q h1 h2 => by omega, hb, Ext.refl _ _, rfl⟩ ?_
  rintro m s h' X ⟨i, ys, rfl, hi1, hi2, hp, hu, hb', x, rfl⟩ hX
  have hyl := hp.length_eq
  by_cases hlt : i < xs.length
  · have e : decide ((i : Int) < (xs.length : Int)) = true := by simp; omega
    simp only [e, brB_true]
    refine lfp_invh (I := fun m s h' => ∃ (j : Nat) (ys : List Int), s = ((j : Int), ()) ∧ j ≤ i ∧ ys.Perm xs ∧ Ins lt ys i j ∧ Blk h' b 3 (ints ys ++ rest) ∧ Ext [b] h h' ∧ m = j)
      ⟨_, i, ys, rfl, by omega, hp, hu.ins, hb', x, rfl⟩ ?_
    rintro m2 s2 h2 X2 ⟨j, zs, rfl, hj, hpz, hin, hbz, xz, em⟩ hX2
    have hzl := hpz.length_eq
    have ei : IntKind.wrap .i64 ((i : Int) + 1) = (i + 1 : Nat) := by rw [wrap_i64 (by omega) (by omega)]; omega
    by_cases hj0 : 0 < j
    · have e : decide ((j : Int) > 0) = true := by simp; omega
      have ej : IntKind.wrap .i64 ((j : Int) - 1) = (j - 1 : Nat) := by rw [wrap_i64 (by omega) (by omega)]; omega
      simp only [e, brB_true, ej, ← hzl, rdn hbz (k := j) (show j < zs.length by omega), rdn hbz (k := j - 1) (show j - 1 < zs.length by omega)]
      refine callF_of (hc _ _ _ xz (hpz.mem_iff.1 (g_mem (by omega))) (hpz.mem_iff.1 (g_mem (by omega)))) ?_
      rintro rr h3 ⟨hr, rfl⟩
      by_cases hneg : rr < 0
      · simp only [hneg, decide_true, brB_true, rdn hbz (k := j) (show j < zs.length by omega), rdn hbz (k := j - 1) (show j - 1 < zs.length by omega), wrn hbz (k := j) (show j < zs.length by omega)]
        have b2 := Blk.set_ints hbz (i := j) (g zs (j - 1)) (by omega)
        have x2 := xz.set ⟨b, j, none⟩ (.int .i64 (g zs (j - 1))) (by simp)
        generalize setC h3 ⟨b, j, none⟩ (.int .i64 (g zs (j - 1))) = h4 at *
        have l2 : (zs.set j (g zs (j - 1))).length = zs.length := by simp
        rw [← l2, wrn b2 (k := j - 1) (by omega)]
        have b3 := Blk.set_ints b2 (i := j - 1) (g zs j) (by omega)
        have x3 := x2.set ⟨b, j - 1, none⟩ (.int .i64 (g zs j)) (by simp)
        exact hX2 _ _ _ ⟨j - 1, _, rfl, by omega, (swap_perm (by omega) (by omega)).trans hpz, hin.step w hj0 hj (by omega) (hr.1 hneg), b3, x3, rfl⟩ (by omega)
      · simp only [hneg, decide_false, brB_false, ei]
        have hlf : lt (g zs j) (g zs (j - 1)) = false := by
          cases hh : lt (g zs j) (g zs (j - 1)) with
          | false => rfl
          | true => exact absurd (hr.2 hh) hneg
        exact hX _ _ _ ⟨i + 1, zs, rfl, by omega, by omega, hpz, hin.done w (.inr hlf), hbz, xz, rfl⟩ (by omega)
    · have e : decide ((j : Int) > 0) = false := by simp; omega
      simp only [e, brB_false, ei]
      exact hX _ _ _ ⟨i + 1, zs, rfl, by omega, by omega, hpz, hin.done w (.inl (by omega)), hbz, xz, rfl⟩ (by omega)
  · have e : decide ((i : Int) < (xs.length : Int)) = false := by simp; omega
    simp only [e, brB_false]
    exact hK _ _ ⟨ys, hp, fun p q h1 h2 => hu p q h1 (by omega), hb', x⟩

end Go.Proofs.Ord
