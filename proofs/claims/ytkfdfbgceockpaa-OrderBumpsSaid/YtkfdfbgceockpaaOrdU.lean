/-
  Bump.
-/
import Derived.Test.YtkfdfbgceockpaaOrdT
set_option linter.unusedVariables false
namespace Go.Proofs.Ord
open Go Go.Sx Go.Proofs

abbrev maxA : Int := 1125899906842624

def bumpA (act : List Int) (n : Nat) (v step : Int) : List Int :=
  if 1 ≤ v ∧ v ≤ n then (if g act v.toNat + step > maxA then (act.set v.toNat (g act v.toNat + step)).map (· / 1073741824) else act.set v.toNat (g act v.toNat + step)) else act
def bumpS (act : List Int) (n : Nat) (v step : Int) : Int :=
  if 1 ≤ v ∧ v ≤ n then (if g act v.toNat + step > maxA then (if 1 > step / 1073741824 then 1 else step / 1073741824) else step) else step

theorem weakBef (act : List Int) : WeakLt (bef act) := ⟨fun a b h => bef_asymm h, fun a b c h k => bef_trans_ff k h⟩

theorem sort_nil {h : Heap} {a : Option Addr} {cmp : Value} : callT Try.prog fn_slices_SortFunc_int_int #[.slice a 0 0, cmp] (.tup .nil) (fun _ h' => h' = h) h := by
  refine callT_gen fun K hK => ?_
  refine S_slices_SortFunc_int_int (a0 := ⟨a, 0, 0⟩) (a1 := cmp) K ?_
  unfold F_slices_SortFunc_int_int
  have ew : IntKind.wrap .u64 (((0 : Nat)) : Int) = 0 := rfl
  simp only [ew]
  refine call_of (len64_c (by omega) (by omega) h) ?_
  rintro lim h' rfl
  refine call_of (R := fun _ h2 => h2 = h') ?_ fun _ h2 r => hK _ _ r
  refine callT_gen fun K hK => ?_
  refine S_slices_pdqsortCmpFunc_int (a0 := ⟨a, 0, 0⟩) (a1 := 0) (a2 := 0) (a3 := lim) (a4 := cmp) K ?_
  unfold F_slices_pdqsortCmpFunc_int
  refine lfp_invh (I := fun m s h2 => s = (true, true, 0, 0, lim, ()) ∧ h2 = h') ⟨0, rfl, rfl⟩ ?_
  rintro m s h2 X ⟨rfl, rfl⟩ hX
  refine jn_in fun J hJ => ?_
  have e : decide (IntKind.wrap .i64 ((0 : Int) - 0) ≤ 12) = true := rfl
  simp only [e, brB_true]
  refine call_of (R := fun _ h3 => h3 = h2) ?_ fun _ h3 r => hK _ _ r
  refine callT_gen fun K hK => ?_
  refine S_slices_insertionSortCmpFunc_int (a0 := ⟨a, 0, 0⟩) (a1 := 0) (a2 := 0) (a3 := cmp) K ?_
  unfold F_slices_insertionSortCmpFunc_int
  refine lfp_invh (I := fun m s h3 => s = (1, ()) ∧ h3 = h2) ⟨0, rfl, rfl⟩ ?_
  rintro m s h3 X ⟨rfl, rfl⟩ hX
  exact hK _ _ rfl

section
variable {h : Heap} {o ab hb pb : Nat} {act H Pl : List Int} {step : Int}

theorem Raw.setAct (r : Raw h o ab hb pb act H Pl step) {i : Nat} (v : Int) (hi : i < act.length) : Raw (setC h ⟨ab, i, none⟩ (.int .i64 v)) o ab hb pb (act.set i v) H Pl step := by
  rcases r with ⟨ra, rh, rp, r⟩ | ⟨e, ra, rp, ha, r⟩
  · exact .inl ⟨ra, rh, rp, r.toRawC.setAct v hi, r.Hh.set_ne _ (Ne.symm r.ah), r.oh, r.ah, r.ph⟩
  · exact .inr ⟨e, ra, rp, ha, r.setAct v hi⟩
theorem Raw.setPl (r : Raw h o ab hb pb act H Pl step) {i : Nat} (v : Int) (hi : i < Pl.length) : Raw (setC h ⟨pb, i, none⟩ (.int .i64 v)) o ab hb pb act H (Pl.set i v) step := by
  rcases r with ⟨ra, rh, rp, r⟩ | ⟨e, ra, rp, ha, r⟩
  · exact .inl ⟨ra, rh, rp, r.setPl' v hi⟩
  · exact .inr ⟨e, ra, rp, ha, r.setPl v hi⟩
theorem Raw.setStep (r : Raw h o ab hb pb act H Pl step) (s : Int) : Raw (setC h ⟨o, 3, none⟩ (.int .i64 s)) o ab hb pb act H Pl s := by
  rcases r with ⟨ra, rh, rp, r⟩ | ⟨e, ra, rp, ha, r⟩
  · exact .inl ⟨ra, rh, rp, r.toRawC.setStep s, r.Hh.set_ne _ (Ne.symm r.oh), r.oh, r.ah, r.ph⟩
  · exact .inr ⟨e, ra, rp, ha, r.setStep s⟩

/-- One comes forward: what was in order stays so, but for it. -/
theorem Heaped.forward (hp : Heaped act H) {n : Nat} (c : Cons H Pl n) (hl : act.length = n + 1) {v : Nat} {d : Int} (hd : 0 ≤ d) (h1 : 1 ≤ v) (hv : v ≤ n) :
    (g Pl v < 0 → Heaped (act.set v (g act v + d)) H) ∧ (∀ i, i < H.length → g H i = v → Hole (act.set v (g act v + d)) H i ∧ DownOk (act.set v (g act v + d)) H i) := by
  have ga : ∀ w : Nat, g (act.set v (g act v + d)) w = if v = w then g act v + d else g act w := by
    intro w
    rw [g_set]
    by_cases e : v = w
    · rw [if_pos ⟨e, by omega⟩, if_pos e]
    · rw [if_neg (by omega), if_neg e]
  have hb : ∀ x y : Int, 0 ≤ x → 0 ≤ y → x ≠ v → bef act x y = false → bef (act.set v (g act v + d)) x y = false := by
    intro x y hx hy hxv hxy
    rw [bef_false] at hxy ⊢
    rw [ga, ga, if_neg (by omega)]
    by_cases e : v = y.toNat
    · rw [if_pos e]; rw [← e] at hxy; omega
    · rw [if_neg e]; exact hxy
  refine ⟨fun hout j j0 j1 => ?_, fun i hi hv' => ⟨⟨fun j j0 j1 e1 e2 => ?_, fun j j0 j1 e1 i0 => ?_⟩, fun j j0 j1 e1 => ?_⟩⟩
  all_goals
    have d1 := par_def j
    have rj := c.rng j j1
    have rp := c.rng (par j) (by omega)
  · refine hb _ _ (by omega) (by omega) ?_ (hp j j0 j1)
    intro e
    have f := c.fwd j j1
    rw [e] at f; simp at f; omega
  · refine hb _ _ (by omega) (by omega) ?_ (hp j j0 j1)
    intro e; exact e1 (c.inj j1 hi (by rw [e, hv']))
  · have d2 := par_def i
    have rp2 := c.rng (par i) (by omega)
    refine hb _ _ (by omega) (by omega) ?_ ?_
    · intro e; have := c.inj j1 hi (by rw [e, hv']); omega
    · have a := hp j j0 j1
      rw [e1] at a
      exact bef_trans_ff a (hp i i0 hi)
  · have ri := c.rng i hi
    refine hb _ _ (by omega) (by omega) ?_ ?_
    · intro e; have := c.inj j1 hi (by rw [e, hv']); omega
    · have a := hp j j0 j1
      rwa [e1] at a
end

theorem bump1_c {h : Heap} {o ab pb : Nat} {ha : Option Addr} {lh ch : Nat} {act Pl : List Int} {step : Int} {ra rp : List Value} {b0 : Nat}
    (r : RawC h o ab pb act Pl step ha lh ch ra rp) (k0 : Blk h b0 24 [.pointer (pt o)]) {x y : Int} (hx : 0 ≤ x ∧ x < act.length) (hy : 0 ≤ y ∧ y < act.length) :
    callF Try.prog (.func (.func 36) #[] #[.pointer (pt b0)]) #[.int .i64 x, .int .i64 y] (.int .i64) (fun r h' => (r < 0 ↔ bef act x y = true) ∧ h' = h) h := by
  refine callF_func (S_order_Order_Bump_1 (a0 := x) (a1 := y) (c0 := ⟨b0, 0, none⟩) _ ?_)
  have key : ∀ K : Int → HP, (∀ r, (r < 0 ↔ bef act x y = true) → K r h) → F_order_Order_Bump_1 x y ⟨b0, 0, none⟩ K h := by
    intro K hK
    unfold F_order_Order_Bump_1
    simp only [ld_ptr (i := 0) k0 rfl]
    refine call_of (before_c r hx hy) ?_
    rintro bb h' ⟨rfl, rfl⟩
    cases hbf : bef act x y with
    | true => exact hK _ (by rw [hbf]; simp)
    | false => exact hK _ (by rw [hbf]; simp)
  exact key _ fun r hr => ⟨hr, rfl⟩

end Go.Proofs.Ord
