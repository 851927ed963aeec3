/-
  slices.CompactFunc, slices.EqualFunc over slices of slices. Nothing here names a program.
-/
import Derived.Test.YtfadkgkkbbcekaaSxCp
import Derived.Test.YtfadkgkkbbcekaaFoA
set_option linter.unusedVariables false
namespace Go.Sx
open Go

section
variable {P : Program} {τ : Ty} {t : TypeId} {h h' : Heap} {xs ys : List τ.T} {s s2 : Sl} {fr : Fr} {G As : List Asn} {z : Value}

def W_equalFunc (P : Program) (τ σ : Ty) (s s2 : Sl) (fv : Value) (K : Bool → HP) : HP :=
  brB ((s.len : Int) != (s2.len : Int)) (K false)
    (lfp (σ := Int × Bool × Unit) (fun X0 s1 => brB (decide (s1.1 < (s.len : Int)))
      (sx s.a s.len s1.1 1 fun p2 => ldT τ p2 fun x3 => sx s2.a s2.len s1.1 1 fun p4 => ldT σ p4 fun x5 => callF P fv #[τ.enc x3, σ.enc x5] .bool fun r6 =>
        brB (!r6) (K false) (X0 ((IntKind.wrap .i64 (s1.1 + (1 : Int))), s1.2.1, ())))
      (K true)) ((0 : Int), false, ()))

theorem w_equalFuncG {β γ : Type} {I : β → Sl → Asn} {J : γ → Sl → Asn} {fv : Value} {r : β → γ → Bool} {us : List β} {vs : List γ} (hA : At h (rsg I us s)) (hB : At h (rsg J vs s2)) (hl : us.length ≤ 1099511627776)
    (hc : ∀ x ∈ us, ∀ y ∈ vs, ∀ p q h', Ext [] h h' → At h' (I x p) → At h' (J y q) → callF P fv #[Ty.sl.enc p, Ty.sl.enc q] .bool (fun b h2 => b = r x y ∧ Ext [] h' h2) h') {K : Bool → HP}
    (hK : ∀ (b : Bool) h', (b = true ↔ us.length = vs.length ∧ ∀ i (h1 : i < us.length) (h2 : i < vs.length), r us[i] vs[i] = true) → Ext [] h h' → K b h') : W_equalFunc P .sl .sl s s2 fv K h := by
  unfold W_equalFunc
  have l1 := rsg_len hA
  have l2 := rsg_len hB
  by_cases hlen : us.length = vs.length
  · rw [show ((s.len : Int) != (s2.len : Int)) = false by rw [l1, l2, hlen]; simp, brB_false]
    refine lfp_invh (I := fun m σ h' => ∃ i : Nat, σ = ((i : Int), false, ()) ∧ i ≤ us.length ∧ (∀ j (h1 : j < us.length) (h2 : j < vs.length), j < i → r us[j] vs[j] = true) ∧ Ext [] h h' ∧ m = us.length - i) ⟨_, 0, rfl, by omega, fun j _ _ h => by omega, Ext.refl' _ _, rfl⟩ ?_
    rintro m σ h' X ⟨i, rfl, hi, hall, x, em⟩ hX
    simp only
    by_cases hlt : i < us.length
    · rw [show decide ((i : Int) < (s.len : Int)) = true by rw [l1]; exact dlt_t hlt, brB_true, inc_i (show i < 4611686018427387904 by omega)]
      refine rdG (hA.ext x) hlt fun p hp => ?_
      refine rdG (hB.ext x) (show i < vs.length by omega) fun q hq => ?_
      refine callF_of (hc _ (List.getElem_mem hlt) _ (List.getElem_mem (show i < vs.length by omega)) p q h' x hp hq) ?_
      rintro b h2 ⟨eb, x2⟩
      have eb : b = r us[i] vs[i] := eb
      subst eb
      have x2' := x.nil_trans x2
      cases hr : r us[i] vs[i] with
      | false =>
        simp only [Bool.not_false, brB_true]
        refine hK _ _ ⟨fun h => (by cases h), fun h => ?_⟩ x2'
        have := h.2 i hlt (by omega)
        rw [hr] at this; cases this
      | true =>
        simp only [Bool.not_true, brB_false]
        refine hX _ _ _ ⟨i + 1, rfl, by omega, fun j h1 h2 hj => ?_, x2', rfl⟩ (by omega)
        rcases Nat.lt_or_ge j i with k | k
        · exact hall j h1 h2 k
        · have : j = i := by omega
          subst this; exact hr
    · rw [show decide ((i : Int) < (s.len : Int)) = false by rw [l1]; exact dlt_f hlt, brB_false]
      exact hK _ _ ⟨fun _ => ⟨hlen, fun j h1 h2 => hall j h1 h2 (by omega)⟩, fun _ => rfl⟩ x
  · rw [show ((s.len : Int) != (s2.len : Int)) = true by rw [l1, l2]; simp; omega, brB_true]
    exact hK _ _ ⟨fun h => (by cases h), fun h => absurd h.1 hlen⟩ (Ext.refl' _ _)

end
end Go.Sx
