/-
  slices.SortFunc up to twelve numbers; then Bump.
-/
import Derived.Test.YtkfdfbgceockpaaOrdS
set_option linter.unusedVariables false
namespace Go.Proofs.Ord
open Go Go.Sx Go.Proofs

theorem six_any {s : ByteArray} {i : Int} {K : Int → HP} {h : Heap} (h0 : 0 ≤ i) (h1 : i.toNat < s.size) (hK : ∀ c, K c h) : six s i K h :=
  ⟨s[i.toNat]'h1, h0, getElem?_pos s i.toNat h1, hK _⟩

theorem len64_c {a : Int} (h0 : 0 ≤ a) (h1 : a < 256) (h : Heap) : callT Try.prog fn_math_bits_Len #[.int .u64 a] (.int .i64) (fun _ h' => h' = h) h := by
  refine callT_gen fun K hK => ?_
  apply S_math_bits_Len
  unfold F_math_bits_Len
  have : callT Try.prog fn_math_bits_Len64 #[.int .u64 a] (.int .i64) (fun _ h' => h' = h) h := by
    refine callT_gen fun K hK => ?_
    apply S_math_bits_Len64
    unfold F_math_bits_Len64
    have d1 : decide (a ≥ 4294967296) = false := by simp; omega
    have d2 : decide (a ≥ 65536) = false := by simp; omega
    have d3 : decide (a ≥ 256) = false := by simp; omega
    refine jn_in fun J0 hJ0 => ?_
    simp only [d1, brB_false]
    refine hJ0 _ _ (jn_in fun J2 hJ2 => ?_)
    simp only [d2, brB_false]
    refine hJ2 _ _ (jn_in fun J4 hJ4 => ?_)
    simp only [d3, brB_false]
    refine hJ4 _ _ ?_
    have e : IntKind.wrap .u8 a = a := by
      have e : IntKind.wrap .u8 a = a % 256 := by simp [IntKind.wrap, IntKind.bits, IntKind.signed]
      rw [e]; omega
    show six _ (IntKind.wrap .u8 a) _ _
    rw [e]
    have h256 : a.toNat < 256 := by omega
    refine six_any h0 (Nat.lt_of_lt_of_eq h256 ?_) fun c => hK _ _ rfl
    kernel_rfl
  refine call_of this ?_
  rintro x h' rfl
  exact hK _ _ rfl

/-- SortFunc sorts rows of up to m numbers. -/
def SortsTo (m : Nat) : Prop :=
  ∀ (h : Heap) (b : Nat) (xs : List Int) (rest : List Value) (lt : Int → Int → Bool) (cmp : Value), WeakLt lt → Blk h b 3 (ints xs ++ rest) → xs.length ≤ m → Cmps cmp lt xs (fun h' => Ext [b] h h') →
    callT Try.prog fn_slices_SortFunc_int_int #[.slice (pt b) xs.length (xs.length + rest.length), cmp] (.tup .nil)
      (fun _ h' => ∃ ys, ys.Perm xs ∧ Upto lt ys ys.length ∧ Blk h' b 3 (ints ys ++ rest) ∧ Ext [b] h h') h

theorem sortsTo12 : SortsTo 12 := by
  intro h b xs rest lt cmp w hb hlen hc
  refine callT_gen fun K hK => ?_
  refine S_slices_SortFunc_int_int (a0 := ⟨pt b, xs.length, xs.length + rest.length⟩) (a1 := cmp) K ?_
  unfold F_slices_SortFunc_int_int
  have ew : IntKind.wrap .u64 (xs.length : Int) = xs.length := by
    have e : IntKind.wrap .u64 (xs.length : Int) = (xs.length : Int) % 18446744073709551616 := by simp [IntKind.wrap, IntKind.bits, IntKind.signed]
    rw [e]; omega
  simp only [ew]
  refine call_of (len64_c (by omega) (by omega) h) ?_
  rintro lim h' rfl
  refine call_of (R := fun _ h2 => ∃ ys, ys.Perm xs ∧ Upto lt ys ys.length ∧ Blk h2 b 3 (ints ys ++ rest) ∧ Ext [b] h' h2) ?_ fun _ h2 r => hK _ _ r
  refine callT_gen fun K hK => ?_
  refine S_slices_pdqsortCmpFunc_int (a0 := ⟨pt b, xs.length, xs.length + rest.length⟩) (a1 := 0) (a2 := xs.length) (a3 := lim) (a4 := cmp) K ?_
  unfold F_slices_pdqsortCmpFunc_int
  refine lfp_invh (I := fun m s h2 => s = (true, true, 0, (xs.length : Int), lim, ()) ∧ h2 = h') ⟨0, rfl, rfl⟩ ?_
  rintro m s h2 X ⟨rfl, rfl⟩ hX
  refine jn_in fun J hJ => ?_
  have e : decide (IntKind.wrap .i64 ((xs.length : Int) - 0) ≤ 12) = true := by rw [wrap_i64 (by omega) (by omega)]; simp; omega
  simp only [e, brB_true]
  refine call_of (insertion_c w hb (by omega) hc) ?_
  rintro _ h3 r
  exact hK _ _ r

end Go.Proofs.Ord
