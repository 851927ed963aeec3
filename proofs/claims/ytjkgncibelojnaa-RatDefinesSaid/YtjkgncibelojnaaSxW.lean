/-
  The library's functions over slices, as words over any element of one cell. Nothing here names a program.
-/
import Derived.Test.YtjkgncibelojnaaSxSort
set_option linter.unusedVariables false
namespace Go.Sx
open Go

section
variable {P : Program} {τ : Ty} {t : TypeId} {h h' : Heap} {xs ys : List τ.T} {s s2 : Sl}

theorem dlt_t {i n : Nat} (h : i < n) : decide ((i : Int) < (n : Int)) = true := by simp; omega
theorem dlt_f {i n : Nat} (h : ¬ i < n) : decide ((i : Int) < (n : Int)) = false := by simp; omega
theorem inc_i {i : Nat} (h : i < 4611686018427387904) : IntKind.wrap .i64 ((i : Int) + 1) = ((i + 1 : Nat) : Int) := by rw [wrap_i64 (by omega) (by omega)]; omega
def fidx {α : Type} (p : α → Bool) (xs : List α) : Int := match xs.findIdx? p with | some i => (i : Int) | none => -1

theorem fidx_some {α : Type} {p : α → Bool} {xs : List α} {i : Nat} (hi : i < xs.length) (hp : p xs[i] = true) (hn : ∀ j (hj : j < i), p (xs[j]'(by omega)) = false) : fidx p xs = i := by
  have : xs.findIdx? p = some i := List.findIdx?_eq_some_iff_getElem.2 ⟨hi, hp, fun j hj => by simp [hn j hj]⟩
  simp [fidx, this]
theorem fidx_none {α : Type} {p : α → Bool} {xs : List α} (hn : ∀ j (hj : j < xs.length), p xs[j] = false) : fidx p xs = -1 := by
  have : xs.findIdx? p = none := List.findIdx?_eq_none_iff.2 fun x hx => by
    obtain ⟨j, hj, e⟩ := List.mem_iff_getElem.1 hx
    rw [← e]; exact hn j hj
  simp [fidx, this]
theorem fidx_ge {α : Type} (p : α → Bool) (xs : List α) : decide (fidx p xs ≥ 0) = xs.any p := by
  unfold fidx
  cases hh : xs.findIdx? p with
  | none =>
    have := List.findIdx?_eq_none_iff.1 hh
    have : xs.any p = false := by rw [List.any_eq_false]; intro x hx; simp [this x hx]
    rw [this]; decide
  | some i =>
    obtain ⟨hi, hp, _⟩ := List.findIdx?_eq_some_iff_getElem.1 hh
    have : xs.any p = true := List.any_eq_true.2 ⟨_, List.getElem_mem hi, hp⟩
    rw [this]; simp

theorem rdE (hA : At h (rsl τ.enc xs s)) {i : Nat} (hi : i < xs.length) {K : τ.T → HP} (hK : K xs[i] h) : sx s.a s.len (i : Int) 1 (fun p => ldT τ p K) h :=
  rd_ok hA (List.getElem?_eq_getElem hi) hK

def W_index (τ : Ty) (eq : τ.T → Bool) (s : Sl) (K : Int → HP) : HP :=
  lfp (σ := Int × Int × Unit) (fun X0 s1 => brB (decide (s1.1 < (s.len : Int)))
    (sx s.a s.len s1.1 1 fun p2 => ldT τ p2 fun x3 => brB (eq x3) (K s1.1) (X0 ((IntKind.wrap .i64 (s1.1 + (1 : Int))), s1.2.1, ())))
    (K (-1 : Int))) ((0 : Int), (0 : Int), ())

theorem w_index {eq : τ.T → Bool} (hA : At h (rsl τ.enc xs s)) (hl : xs.length ≤ 1099511627776) {K : Int → HP} (hK : K (fidx eq xs) h) : W_index τ eq s K h := by
  have l1 := rsl_len hA
  refine lfp_invh (I := fun m σ h' => ∃ i : Nat, σ = ((i : Int), 0, ()) ∧ i ≤ xs.length ∧ (∀ j (hj : j < xs.length), j < i → eq xs[j] = false) ∧ h' = h ∧ m = xs.length - i) ⟨_, 0, rfl, by omega, fun j _ hj => by omega, rfl, rfl⟩ ?_
  rintro m σ h' X ⟨i, rfl, hi, hp, rfl, em⟩ hX
  by_cases hlt : i < xs.length
  · simp only [l1, dlt_t hlt, brB_true, inc_i (show i < 4611686018427387904 by omega)]
    rw [← l1]
    refine rdE hA hlt ?_
    cases he : eq xs[i] with
    | true =>
      simp only [brB_true]
      rw [fidx_some hlt he (fun j hj => hp j (by omega) hj)] at hK
      exact hK
    | false =>
      simp only [brB_false]
      refine hX _ _ _ ⟨i + 1, rfl, by omega, fun j hj hji => ?_, rfl, rfl⟩ (by omega)
      by_cases ej : j = i
      · subst ej; exact he
      · exact hp j hj (by omega)
  · simp only [l1, dlt_f hlt, brB_false]
    rw [fidx_none (fun j hj => hp j hj (by omega))] at hK
    exact hK

def PredOk (P : Program) (τ : Ty) (fv : Value) (p : τ.T → Bool) (xs : List τ.T) (h : Heap) : Prop :=
  ∀ x ∈ xs, ∀ h', Ext [] h h' → callF P fv #[τ.enc x] .bool (fun r h2 => r = p x ∧ Ext [] h' h2) h'

def W_indexFunc (P : Program) (τ : Ty) (s : Sl) (fv : Value) (K : Int → HP) : HP :=
  lfp (σ := Int × Int × Unit) (fun X0 s1 => brB (decide (s1.1 < (s.len : Int)))
    (sx s.a s.len s1.1 1 fun p2 => ldT τ p2 fun x3 => callF P fv #[τ.enc x3] .bool fun r4 => brB r4 (K s1.1) (X0 ((IntKind.wrap .i64 (s1.1 + (1 : Int))), s1.2.1, ())))
    (K (-1 : Int))) ((0 : Int), (0 : Int), ())

theorem w_indexFunc {fv : Value} {p : τ.T → Bool} (hA : At h (rsl τ.enc xs s)) (hl : xs.length ≤ 1099511627776) (hp : PredOk P τ fv p xs h) {K : Int → HP} (hK : ∀ h', Ext [] h h' → K (fidx p xs) h') : W_indexFunc P τ s fv K h := by
  have l1 := rsl_len hA
  refine lfp_invh (I := fun m σ h' => ∃ i : Nat, σ = ((i : Int), 0, ()) ∧ i ≤ xs.length ∧ (∀ j (hj : j < xs.length), j < i → p xs[j] = false) ∧ Ext [] h h' ∧ m = xs.length - i) ⟨_, 0, rfl, by omega, fun j _ hj => by omega, Ext.refl' _ _, rfl⟩ ?_
  rintro m σ h' X ⟨i, rfl, hi, hpp, x, em⟩ hX
  by_cases hlt : i < xs.length
  · simp only [l1, dlt_t hlt, brB_true, inc_i (show i < 4611686018427387904 by omega)]
    rw [← l1]
    refine rdE (hA.ext x) hlt ?_
    refine callF_of (hp _ (List.getElem_mem hlt) h' x) ?_
    rintro r h2 ⟨rfl, x2⟩
    cases he : p xs[i] with
    | true =>
      simp only [brB_true]
      have := hK h2 (x.nil_trans x2)
      rw [fidx_some hlt he (fun j hj => hpp j (by omega) hj)] at this
      exact this
    | false =>
      simp only [brB_false]
      refine hX _ _ _ ⟨i + 1, rfl, by omega, fun j hj hji => ?_, x.nil_trans x2, rfl⟩ (by omega)
      by_cases ej : j = i
      · subst ej; exact he
      · exact hpp j hj (by omega)
  · simp only [l1, dlt_f hlt, brB_false]
    have := hK h' x
    rw [fidx_none (fun j hj => hpp j hj (by omega))] at this
    exact this

def W_equal (τ : Ty) (ne : τ.T → τ.T → Bool) (s s2 : Sl) (K : Bool → HP) : HP :=
  brB ((s.len : Int) != (s2.len : Int)) (K false)
    (lfp (σ := Int × Bool × Unit) (fun X0 s1 => brB (decide (s1.1 < (s.len : Int)))
      (sx s.a s.len s1.1 1 fun p2 => ldT τ p2 fun x3 => sx s2.a s2.len s1.1 1 fun p4 => ldT τ p4 fun x5 => brB (ne x3 x5) (K false) (X0 ((IntKind.wrap .i64 (s1.1 + (1 : Int))), s1.2.1, ())))
      (K true)) ((0 : Int), false, ()))

theorem w_equal {ne : τ.T → τ.T → Bool} (hne : ∀ x y, ne x y = true ↔ x ≠ y) (hA : At h (rsl τ.enc xs s)) (hB : At h (rsl τ.enc ys s2)) (hl : xs.length ≤ 1099511627776) {K : Bool → HP} (hK : ∀ b : Bool, (b = true ↔ xs = ys) → K b h) : W_equal τ ne s s2 K h := by
  have l1 := rsl_len hA
  have l2 := rsl_len hB
  unfold W_equal
  by_cases hlen : xs.length = ys.length
  · have e : ((s.len : Int) != (s2.len : Int)) = false := by rw [l1, l2, hlen]; simp
    rw [e, brB_false]
    refine lfp_invh (I := fun m σ h' => ∃ i : Nat, σ = ((i : Int), false, ()) ∧ i ≤ xs.length ∧ (∀ j (hj : j < xs.length), j < i → xs[j] = ys[j]'(by omega)) ∧ h' = h ∧ m = xs.length - i) ⟨_, 0, rfl, by omega, fun j _ hj => by omega, rfl, rfl⟩ ?_
    rintro m σ h' X ⟨i, rfl, hi, hp, rfl, em⟩ hX
    by_cases hlt : i < xs.length
    · rw [show decide ((i : Int) < (s.len : Int)) = true by rw [l1]; exact dlt_t hlt, brB_true, inc_i (show i < 4611686018427387904 by omega)]
      refine rdE hA hlt ?_
      refine rdE hB (show i < ys.length by omega) ?_
      cases he : ne xs[i] ys[i] with
      | true =>
        simp only [brB_true]
        refine hK false ⟨fun h => (by cases h), fun e => ?_⟩
        subst e; exact absurd rfl ((hne _ _).1 he)
      | false =>
        simp only [brB_false]
        refine hX _ _ _ ⟨i + 1, rfl, by omega, fun j hj hji => ?_, rfl, rfl⟩ (by omega)
        by_cases ej : j = i
        · subst ej
          exact Classical.not_not.1 fun hh => by rw [(hne _ _).2 hh] at he; cases he
        · exact hp j hj (by omega)
    · rw [show decide ((i : Int) < (s.len : Int)) = false by rw [l1]; exact dlt_f hlt, brB_false]
      exact hK true ⟨fun _ => List.ext_getElem hlen fun j h1 h2 => hp j h1 (by omega), fun _ => rfl⟩
  · have e : ((s.len : Int) != (s2.len : Int)) = true := by rw [l1, l2]; simp; omega
    rw [e, brB_true]
    exact hK false ⟨fun h => (by cases h), fun e => absurd (congrArg List.length e) hlen⟩

theorem fdiv1 (x : Nat) : Int.fdiv (x : Int) (2 ^ (min ((1 : Int)).toNat 64)) = ((x / 2 : Nat) : Int) := by
  have e : (2 : Int) ^ (min ((1 : Int)).toNat 64) = 2 := rfl
  rw [e, Int.fdiv_eq_ediv_of_nonneg _ (by omega)]; rfl

theorem wrapu {x : Int} (h0 : 0 ≤ x) (h1 : x < 18446744073709551616) : IntKind.wrap .u64 x = x := by
  have e : IntKind.wrap .u64 x = x % 18446744073709551616 := by simp [IntKind.wrap, IntKind.bits, IntKind.signed]
  rw [e]; omega

theorem mid_eq {i j : Nat} (hi : i ≤ 1099511627776) (hj : j ≤ 1099511627776) :
    IntKind.wrap .i64 (Int.fdiv (IntKind.wrap .u64 (IntKind.wrap .i64 ((i : Int) + (j : Int)))) (2 ^ (min ((1 : Int)).toNat 64))) = (((i + j) / 2 : Nat) : Int) := by
  have e1 : IntKind.wrap .i64 ((i : Int) + (j : Int)) = ((i + j : Nat) : Int) := by rw [wrap_i64 (by omega) (by omega)]; omega
  rw [e1, wrapu (by omega) (by omega), fdiv1, wrap_i64 (by omega) (by omega)]

end
end Go.Sx
