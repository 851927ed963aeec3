/-
  slices.SortFunc over few numbers: by insertion.
-/
import Derived.Test.YtkfdfbgceockpaaOrdN
set_option linter.unusedVariables false
set_option linter.unusedSimpArgs false
set_option linter.unusedSectionVars false
namespace Go.Proofs.Ord
open Go Go.Sx Go.Proofs

/-- A function value that compares: it turns nothing. -/
def Cmps (cmp : Value) (lt : Int → Int → Bool) (M : List Int) (I : HP) : Prop :=
  ∀ h a b, I h → a ∈ M → b ∈ M → callF Try.prog cmp #[.int .i64 a, .int .i64 b] (.int .i64) (fun r h' => (r < 0 ↔ lt a b = true) ∧ h' = h) h

structure WeakLt (lt : Int → Int → Bool) : Prop where
  asymm : ∀ a b, lt a b = true → lt b a = false
  ff : ∀ a b c, lt b a = false → lt c b = false → lt c a = false

/-- All up to i is in order, but for what stands at j, which is not behind what follows. -/
structure Ins (lt : Int → Int → Bool) (ys : List Int) (i j : Nat) : Prop where
  rest : ∀ p q, p < q → q ≤ i → p ≠ j → q ≠ j → lt (g ys q) (g ys p) = false
  aft : ∀ q, j < q → q ≤ i → lt (g ys q) (g ys j) = false

def Upto (lt : Int → Int → Bool) (ys : List Int) (i : Nat) : Prop := ∀ p q, p < q → q < i → lt (g ys q) (g ys p) = false

theorem Ins.step {lt : Int → Int → Bool} (w : WeakLt lt) {ys : List Int} {i j : Nat} (c : Ins lt ys i j) (h0 : 0 < j) (hj : j ≤ i) (hi : i < ys.length) (hlt : lt (g ys j) (g ys (j - 1)) = true) :
    Ins lt ((ys.set j (g ys (j - 1))).set (j - 1) (g ys j)) i (j - 1) := by
  have gs := g_swap (H := ys) (i := j) (p := j - 1) (by omega) (by omega)
  refine ⟨fun p q hpq hq hp1 hq1 => ?_, fun q hq1 hq2 => ?_⟩
  · rw [gs, gs, if_neg (Ne.symm hq1), if_neg (Ne.symm hp1)]
    by_cases e1 : j = q
    · subst e1
      rw [if_pos rfl, if_neg (by omega)]
      exact c.rest p (j - 1) (by omega) (by omega) (by omega) (by omega)
    · rw [if_neg e1]
      by_cases e2 : j = p
      · subst e2
        rw [if_pos rfl]
        exact c.rest (j - 1) q (by omega) hq (by omega) (by omega)
      · rw [if_neg e2]
        exact c.rest p q hpq hq (by omega) (by omega)
  · rw [gs, gs, if_neg (by omega), if_pos rfl]
    by_cases e1 : j = q
    · rw [if_pos e1]; exact w.asymm _ _ hlt
    · rw [if_neg e1]; exact c.aft q (by omega) hq2

theorem Ins.done {lt : Int → Int → Bool} (w : WeakLt lt) {ys : List Int} {i j : Nat} (c : Ins lt ys i j) (hd : j = 0 ∨ lt (g ys j) (g ys (j - 1)) = false) : Upto lt ys (i + 1) := by
  intro p q hpq hq
  by_cases e1 : q = j
  · subst e1
    rcases hd with hd | hd
    · omega
    · by_cases e2 : p = q - 1
      · rw [e2]; exact hd
      · exact w.ff _ _ _ (c.rest p (q - 1) (by omega) (by omega) (by omega) (by omega)) hd
  · by_cases e2 : p = j
    · rw [e2]; exact c.aft q (by omega) (by omega)
    · exact c.rest p q hpq (by omega) e2 e1

theorem Upto.ins {lt : Int → Int → Bool} {ys : List Int} {i : Nat} (u : Upto lt ys i) : Ins lt ys i i :=
  ⟨fun p q hpq hq _ hq1 => u p q hpq (by omega), fun q h1 h2 => by omega⟩

theorem swap_perm {ys : List Int} {i j : Nat} (hi : i < ys.length) (hj : j < ys.length) : ((ys.set i (g ys j)).set j (g ys i)).Perm ys := by
  have e1 : g ys i = ys[i] := by simp only [g, List.getD_eq_getElem?_getD]; rw [List.getElem?_eq_getElem hi]; rfl
  have e2 : g ys j = ys[j] := by simp only [g, List.getD_eq_getElem?_getD]; rw [List.getElem?_eq_getElem hj]; rfl
  rw [e1, e2]
  exact List.set_set_perm hi hj

theorem g_mem {xs : List Int} {i : Nat} (hi : i < xs.length) : g xs i ∈ xs := mem_g.2 ⟨i, hi, rfl⟩

/-- The sorted part is the whole: insertion from l to r sorts these. -/
theorem insertion_c {h : Heap} {b : Nat} {xs : List Int} {rest : List Value} {lt : Int → Int → Bool} {cmp : Value} (w : WeakLt lt) (hb : Blk h b 3 (ints xs ++ rest)) (hlen : xs.length ≤ 2000000)
    (hc : Cmps cmp lt xs (fun h' => Ext [b] h h')) :
    callT Try.prog fn_slices_insertionSortCmpFunc_int #[.slice (pt b) xs.length (xs.length + rest.length), .int .i64 0, .int .i64 xs.length, cmp] (.tup .nil)
      (fun _ h' => ∃ ys, ys.Perm xs ∧ Upto lt ys ys.length ∧ Blk h' b 3 (ints ys ++ rest) ∧ Ext [b] h h') h := by
  refine callT_gen fun K hK => ?_
  refine S_slices_insertionSortCmpFunc_int (a0 := ⟨pt b, xs.length, xs.length + rest.length⟩) (a1 := 0) (a2 := xs.length) (a3 := cmp) K ?_
  unfold F_slices_insertionSortCmpFunc_int
  have ew : IntKind.wrap .i64 ((0 : Int) + 1) = 1 := rfl
  rw [ew]
  refine lfp_invh (I := fun m s h' => ∃ (i : Nat) (ys : List Int), s = ((i : Int), ()) ∧ 1 ≤ i ∧ (i ≤ xs.length ∨ (i = 1 ∧ xs.length = 0)) ∧ ys.Perm xs ∧ Upto lt ys i ∧ Blk h' b 3 (ints ys ++ rest) ∧ Ext [b] h h' ∧ m = xs.length - i)
    ⟨_, 1, xs, rfl, by omega, by omega, List.Perm.refl _, fun p q h1 h2 => by omega, hb, Ext.refl _ _, rfl⟩ ?_
  rintro m s h' X ⟨i, ys, rfl, hi1, hi2, hp, hu, hb', x, rfl⟩ hX
  have hyl := hp.length_eq
  by_cases hlt : i < xs.length
  · have e : decide ((i : Int) < (xs.length : Int)) = true := by simp; omega
    simp only [e, brB_true]
    refine lfp_invh (I := fun m s h' => ∃ (j : Nat) (ys : List Int), s = ((j : Int), ()) ∧ j ≤ i ∧ ys.Perm xs ∧ Ins lt ys i j ∧ Blk h' b 3 (ints ys ++ rest) ∧ Ext [b] h h' ∧ m = j)
      ⟨_, i, ys, rfl, by omega, hp, hu.ins, hb', x, rfl⟩ ?_
    rintro m2 s2 h2 X2 ⟨j, zs, rfl, hj, hpz, hin, hbz, xz, em⟩ hX2
    have hzl := hpz.length_eq
    have ei : IntKind.wrap .i64 ((i : Int) + 1) = (i + 1 : Nat) := by rw [wrap_i64 (by omega) (by omega)]; omega
    by_cases hj0 : 0 < j
    · have e : decide ((j : Int) > 0) = true := by simp; omega
      have ej : IntKind.wrap .i64 ((j : Int) - 1) = (j - 1 : Nat) := by rw [wrap_i64 (by omega) (by omega)]; omega
      simp only [e, brB_true, ej, ← hzl, rdn hbz (k := j) (show j < zs.length by omega), rdn hbz (k := j - 1) (show j - 1 < zs.length by omega)]
      refine callF_of (hc _ _ _ xz (hpz.mem_iff.1 (g_mem (by omega))) (hpz.mem_iff.1 (g_mem (by omega)))) ?_
      rintro rr h3 ⟨hr, rfl⟩
      by_cases hneg : rr < 0
      · simp only [hneg, decide_true, brB_true, rdn hbz (k := j) (show j < zs.length by omega), rdn hbz (k := j - 1) (show j - 1 < zs.length by omega), wrn hbz (k := j) (show j < zs.length by omega)]
        have b2 := Blk.set_ints hbz (i := j) (g zs (j - 1)) (by omega)
        have x2 := xz.set ⟨b, j, none⟩ (.int .i64 (g zs (j - 1))) (by simp)
        generalize setC h3 ⟨b, j, none⟩ (.int .i64 (g zs (j - 1))) = h4 at *
        have l2 : (zs.set j (g zs (j - 1))).length = zs.length := by simp
        rw [← l2, wrn b2 (k := j - 1) (by omega)]
        have b3 := Blk.set_ints b2 (i := j - 1) (g zs j) (by omega)
        have x3 := x2.set ⟨b, j - 1, none⟩ (.int .i64 (g zs j)) (by simp)
        exact hX2 _ _ _ ⟨j - 1, _, rfl, by omega, (swap_perm (by omega) (by omega)).trans hpz, hin.step w hj0 hj (by omega) (hr.1 hneg), b3, x3, rfl⟩ (by omega)
      · simp only [hneg, decide_false, brB_false, ei]
        have hlf : lt (g zs j) (g zs (j - 1)) = false := by
          cases hh : lt (g zs j) (g zs (j - 1)) with
          | false => rfl
          | true => exact absurd (hr.2 hh) hneg
        exact hX _ _ _ ⟨i + 1, zs, rfl, by omega, by omega, hpz, hin.done w (.inr hlf), hbz, xz, rfl⟩ (by omega)
    · have e : decide ((j : Int) > 0) = false := by simp; omega
      simp only [e, brB_false, ei]
      exact hX _ _ _ ⟨i + 1, zs, rfl, by omega, by omega, hpz, hin.done w (.inl (by omega)), hbz, xz, rfl⟩ (by omega)
  · have e : decide ((i : Int) < (xs.length : Int)) = false := by simp; omega
    simp only [e, brB_false]
    exact hK _ _ ⟨ys, hp, fun p q h1 h2 => hu p q h1 (by omega), hb', x⟩

end Go.Proofs.Ord

/-
  slices.SortFunc up to twelve numbers; then Bump.
-/
set_option linter.unusedVariables false
set_option linter.unusedSimpArgs false
set_option linter.unusedSectionVars false
namespace Go.Proofs.Ord
open Go Go.Sx Go.Proofs

theorem six_any {s : ByteArray} {i : Int} {K : Int → HP} {h : Heap} (h0 : 0 ≤ i) (h1 : i.toNat < s.size) (hK : ∀ c, K c h) : six s i K h :=
  ⟨s[i.toNat]'h1, h0, getElem?_pos s i.toNat h1, hK _⟩

theorem len64_c {a : Int} (h0 : 0 ≤ a) (h1 : a < 256) (h : Heap) : callT Try.prog fn_math_bits_Len #[.int .u64 a] (.int .i64) (fun _ h' => h' = h) h := by
  refine callT_gen fun K hK => ?_
  apply S_math_bits_Len
  unfold F_math_bits_Len
  have : callT Try.prog fn_math_bits_Len64 #[.int .u64 a] (.int .i64) (fun _ h' => h' = h) h := by
    refine callT_gen fun K hK => ?_
    apply S_math_bits_Len64
    unfold F_math_bits_Len64
    have d1 : decide (a ≥ 4294967296) = false := by simp; omega
    have d2 : decide (a ≥ 65536) = false := by simp; omega
    have d3 : decide (a ≥ 256) = false := by simp; omega
    refine jn_in fun J0 hJ0 => ?_
    simp only [d1, brB_false]
    refine hJ0 _ _ (jn_in fun J2 hJ2 => ?_)
    simp only [d2, brB_false]
    refine hJ2 _ _ (jn_in fun J4 hJ4 => ?_)
    simp only [d3, brB_false]
    refine hJ4 _ _ ?_
    have e : IntKind.wrap .u8 a = a := by
      have e : IntKind.wrap .u8 a = a % 256 := by simp [IntKind.wrap, IntKind.bits, IntKind.signed]
      rw [e]; omega
    show six _ (IntKind.wrap .u8 a) _ _
    rw [e]
    have h256 : a.toNat < 256 := by omega
    refine six_any h0 (Nat.lt_of_lt_of_eq h256 ?_) fun c => hK _ _ rfl
    kernel_rfl
  refine call_of this ?_
  rintro x h' rfl
  exact hK _ _ rfl

/-- SortFunc sorts rows of up to m numbers. -/
def SortsTo (m : Nat) : Prop :=
  ∀ (h : Heap) (b : Nat) (xs : List Int) (rest : List Value) (lt : Int → Int → Bool) (cmp : Value), WeakLt lt → Blk h b 3 (ints xs ++ rest) → xs.length ≤ m → Cmps cmp lt xs (fun h' => Ext [b] h h') →
    callT Try.prog fn_slices_SortFunc_int_int #[.slice (pt b) xs.length (xs.length + rest.length), cmp] (.tup .nil)
      (fun _ h' => ∃ ys, ys.Perm xs ∧ Upto lt ys ys.length ∧ Blk h' b 3 (ints ys ++ rest) ∧ Ext [b] h h') h

theorem sortsTo12 : SortsTo 12 := by
  intro h b xs rest lt cmp w hb hlen hc
  refine callT_gen fun K hK => ?_
  refine S_slices_SortFunc_int_int (a0 := ⟨pt b, xs.length, xs.length + rest.length⟩) (a1 := cmp) K ?_
  unfold F_slices_SortFunc_int_int
  have ew : IntKind.wrap .u64 (xs.length : Int) = xs.length := by
    have e : IntKind.wrap .u64 (xs.length : Int) = (xs.length : Int) % 18446744073709551616 := by simp [IntKind.wrap, IntKind.bits, IntKind.signed]
    rw [e]; omega
  simp only [ew]
  refine call_of (len64_c (by omega) (by omega) h) ?_
  rintro lim h' rfl
  refine call_of (R := fun _ h2 => ∃ ys, ys.Perm xs ∧ Upto lt ys ys.length ∧ Blk h2 b 3 (ints ys ++ rest) ∧ Ext [b] h' h2) ?_ fun _ h2 r => hK _ _ r
  refine callT_gen fun K hK => ?_
  refine S_slices_pdqsortCmpFunc_int (a0 := ⟨pt b, xs.length, xs.length + rest.length⟩) (a1 := 0) (a2 := xs.length) (a3 := lim) (a4 := cmp) K ?_
  unfold F_slices_pdqsortCmpFunc_int
  refine lfp_invh (I := fun m s h2 => s = (true, true, 0, (xs.length : Int), lim, ()) ∧ h2 = h') ⟨0, rfl, rfl⟩ ?_
  rintro m s h2 X ⟨rfl, rfl⟩ hX
  refine jn_in fun J hJ => ?_
  have e : decide (IntKind.wrap .i64 ((xs.length : Int) - 0) ≤ 12) = true := by rw [wrap_i64 (by omega) (by omega)]; simp; omega
  simp only [e, brB_true]
  refine call_of (insertion_c w hb (by omega) hc) ?_
  rintro _ h3 r
  exact hK _ _ r

end Go.Proofs.Ord

/-
  Bump.
-/
set_option linter.unusedVariables false
set_option linter.unusedSimpArgs false
set_option linter.unusedSectionVars false
namespace Go.Proofs.Ord
open Go Go.Sx Go.Proofs

abbrev maxA : Int := 1125899906842624

def bumpA (act : List Int) (n : Nat) (v step : Int) : List Int :=
  if 1 ≤ v ∧ v ≤ n then (if g act v.toNat + step > maxA then (act.set v.toNat (g act v.toNat + step)).map (· / 1073741824) else act.set v.toNat (g act v.toNat + step)) else act
def bumpS (act : List Int) (n : Nat) (v step : Int) : Int :=
  if 1 ≤ v ∧ v ≤ n then (if g act v.toNat + step > maxA then (if 1 > step / 1073741824 then 1 else step / 1073741824) else step) else step

theorem weakBef (act : List Int) : WeakLt (bef act) := ⟨fun a b h => bef_asymm h, fun a b c h k => bef_trans_ff k h⟩

theorem sort_nil {h : Heap} {a : Option Addr} {cmp : Value} : callT Try.prog fn_slices_SortFunc_int_int #[.slice a 0 0, cmp] (.tup .nil) (fun _ h' => h' = h) h := by
  refine callT_gen fun K hK => ?_
  refine S_slices_SortFunc_int_int (a0 := ⟨a, 0, 0⟩) (a1 := cmp) K ?_
  unfold F_slices_SortFunc_int_int
  have ew : IntKind.wrap .u64 (((0 : Nat)) : Int) = 0 := rfl
  simp only [ew]
  refine call_of (len64_c (by omega) (by omega) h) ?_
  rintro lim h' rfl
  refine call_of (R := fun _ h2 => h2 = h') ?_ fun _ h2 r => hK _ _ r
  refine callT_gen fun K hK => ?_
  refine S_slices_pdqsortCmpFunc_int (a0 := ⟨a, 0, 0⟩) (a1 := 0) (a2 := 0) (a3 := lim) (a4 := cmp) K ?_
  unfold F_slices_pdqsortCmpFunc_int
  refine lfp_invh (I := fun m s h2 => s = (true, true, 0, 0, lim, ()) ∧ h2 = h') ⟨0, rfl, rfl⟩ ?_
  rintro m s h2 X ⟨rfl, rfl⟩ hX
  refine jn_in fun J hJ => ?_
  have e : decide (IntKind.wrap .i64 ((0 : Int) - 0) ≤ 12) = true := rfl
  simp only [e, brB_true]
  refine call_of (R := fun _ h3 => h3 = h2) ?_ fun _ h3 r => hK _ _ r
  refine callT_gen fun K hK => ?_
  refine S_slices_insertionSortCmpFunc_int (a0 := ⟨a, 0, 0⟩) (a1 := 0) (a2 := 0) (a3 := cmp) K ?_
  unfold F_slices_insertionSortCmpFunc_int
  refine lfp_invh (I := fun m s h3 => s = (1, ()) ∧ h3 = h2) ⟨0, rfl, rfl⟩ ?_
  rintro m s h3 X ⟨rfl, rfl⟩ hX
  exact hK _ _ rfl

section
variable {h : Heap} {o ab hb pb : Nat} {act H Pl : List Int} {step : Int}

theorem Raw.setAct (r : Raw h o ab hb pb act H Pl step) {i : Nat} (v : Int) (hi : i < act.length) : Raw (setC h ⟨ab, i, none⟩ (.int .i64 v)) o ab hb pb (act.set i v) H Pl step := by
  rcases r with ⟨ra, rh, rp, r⟩ | ⟨e, ra, rp, ha, r⟩
  · exact .inl ⟨ra, rh, rp, r.toRawC.setAct v hi, r.Hh.set_ne _ (Ne.symm r.ah), r.oh, r.ah, r.ph⟩
  · exact .inr ⟨e, ra, rp, ha, r.setAct v hi⟩
theorem Raw.setPl (r : Raw h o ab hb pb act H Pl step) {i : Nat} (v : Int) (hi : i < Pl.length) : Raw (setC h ⟨pb, i, none⟩ (.int .i64 v)) o ab hb pb act H (Pl.set i v) step := by
  rcases r with ⟨ra, rh, rp, r⟩ | ⟨e, ra, rp, ha, r⟩
  · exact .inl ⟨ra, rh, rp, r.setPl' v hi⟩
  · exact .inr ⟨e, ra, rp, ha, r.setPl v hi⟩
theorem Raw.setStep (r : Raw h o ab hb pb act H Pl step) (s : Int) : Raw (setC h ⟨o, 3, none⟩ (.int .i64 s)) o ab hb pb act H Pl s := by
  rcases r with ⟨ra, rh, rp, r⟩ | ⟨e, ra, rp, ha, r⟩
  · exact .inl ⟨ra, rh, rp, r.toRawC.setStep s, r.Hh.set_ne _ (Ne.symm r.oh), r.oh, r.ah, r.ph⟩
  · exact .inr ⟨e, ra, rp, ha, r.setStep s⟩

/-- One comes forward: what was in order stays so, but for it. -/
theorem Heaped.forward (hp : Heaped act H) {n : Nat} (c : Cons H Pl n) (hl : act.length = n + 1) {v : Nat} {d : Int} (hd : 0 ≤ d) (h1 : 1 ≤ v) (hv : v ≤ n) :
    (g Pl v < 0 → Heaped (act.set v (g act v + d)) H) ∧ (∀ i, i < H.length → g H i = v → Hole (act.set v (g act v + d)) H i ∧ DownOk (act.set v (g act v + d)) H i) := by
  have ga : ∀ w : Nat, g (act.set v (g act v + d)) w = if v = w then g act v + d else g act w := by
    intro w
    rw [g_set]
    by_cases e : v = w
    · rw [if_pos ⟨e, by omega⟩, if_pos e]
    · rw [if_neg (by omega), if_neg e]
  have hb : ∀ x y : Int, 0 ≤ x → 0 ≤ y → x ≠ v → bef act x y = false → bef (act.set v (g act v + d)) x y = false := by
    intro x y hx hy hxv hxy
    rw [bef_false] at hxy ⊢
    rw [ga, ga, if_neg (by omega)]
    by_cases e : v = y.toNat
    · rw [if_pos e]; rw [← e] at hxy; omega
    · rw [if_neg e]; exact hxy
  refine ⟨fun hout j j0 j1 => ?_, fun i hi hv' => ⟨⟨fun j j0 j1 e1 e2 => ?_, fun j j0 j1 e1 i0 => ?_⟩, fun j j0 j1 e1 => ?_⟩⟩
  all_goals
    have d1 := par_def j
    have rj := c.rng j j1
    have rp := c.rng (par j) (by omega)
  · refine hb _ _ (by omega) (by omega) ?_ (hp j j0 j1)
    intro e
    have f := c.fwd j j1
    rw [e] at f; simp at f; omega
  · refine hb _ _ (by omega) (by omega) ?_ (hp j j0 j1)
    intro e; exact e1 (c.inj j1 hi (by rw [e, hv']))
  · have d2 := par_def i
    have rp2 := c.rng (par i) (by omega)
    refine hb _ _ (by omega) (by omega) ?_ ?_
    · intro e; have := c.inj j1 hi (by rw [e, hv']); omega
    · have a := hp j j0 j1
      rw [e1] at a
      exact bef_trans_ff a (hp i i0 hi)
  · have ri := c.rng i hi
    refine hb _ _ (by omega) (by omega) ?_ ?_
    · intro e; have := c.inj j1 hi (by rw [e, hv']); omega
    · have a := hp j j0 j1
      rwa [e1] at a
end

theorem bump1_c {h : Heap} {o ab pb : Nat} {ha : Option Addr} {lh ch : Nat} {act Pl : List Int} {step : Int} {ra rp : List Value} {b0 : Nat}
    (r : RawC h o ab pb act Pl step ha lh ch ra rp) (k0 : Blk h b0 24 [.pointer (pt o)]) {x y : Int} (hx : 0 ≤ x ∧ x < act.length) (hy : 0 ≤ y ∧ y < act.length) :
    callF Try.prog (.func (.func 36) #[] #[.pointer (pt b0)]) #[.int .i64 x, .int .i64 y] (.int .i64) (fun r h' => (r < 0 ↔ bef act x y = true) ∧ h' = h) h := by
  refine callF_func (S_order_Order_Bump_1 (a0 := x) (a1 := y) (c0 := ⟨b0, 0, none⟩) _ ?_)
  have key : ∀ K : Int → HP, (∀ r, (r < 0 ↔ bef act x y = true) → K r h) → F_order_Order_Bump_1 x y ⟨b0, 0, none⟩ K h := by
    intro K hK
    unfold F_order_Order_Bump_1
    simp only [ld_ptr (i := 0) k0 rfl]
    refine call_of (before_c r hx hy) ?_
    rintro bb h' ⟨rfl, rfl⟩
    cases hbf : bef act x y with
    | true => exact hK _ (by rw [hbf]; simp)
    | false => exact hK _ (by rw [hbf]; simp)
  exact key _ fun r hr => ⟨hr, rfl⟩

end Go.Proofs.Ord
