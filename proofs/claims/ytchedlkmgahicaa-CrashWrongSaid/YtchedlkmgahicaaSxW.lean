/-
  The library's functions over slices, as words over any element of one cell. Nothing here names a program.
-/
import Derived.Test.YtchedlkmgahicaaCrF
set_option linter.unusedVariables false
namespace Go.Sx
open Go

section
variable {P : Program} {τ : Ty} {t : TypeId} {h h' : Heap} {xs ys : List τ.T} {s s2 : Sl}

theorem dlt_t {i n : Nat} (h : i < n) : decide ((i : Int) < (n : Int)) = true := by simp; omega
theorem dlt_f {i n : Nat} (h : ¬ i < n) : decide ((i : Int) < (n : Int)) = false := by simp; omega
theorem inc_i {i : Nat} (h : i < 4611686018427387904) : IntKind.wrap .i64 ((i : Int) + 1) = ((i + 1 : Nat) : Int) := by rw [wrap_i64 (by omega) (by omega)]; omega
theorem dec_i {i : Nat} (h : i < 4611686018427387904) (h0 : 0 < i) : IntKind.wrap .i64 ((i : Int) - 1) = ((i - 1 : Nat) : Int) := by rw [wrap_i64 (by omega) (by omega)]; omega

def fidx {α : Type} (p : α → Bool) (xs : List α) : Int := match xs.findIdx? p with | some i => (i : Int) | none => -1

theorem fidx_some {α : Type} {p : α → Bool} {xs : List α} {i : Nat} (hi : i < xs.length) (hp : p xs[i] = true) (hn : ∀ j (hj : j < i), p (xs[j]'(by omega)) = false) : fidx p xs = i := by
  have : xs.findIdx? p = some i := List.findIdx?_eq_some_iff_getElem.2 ⟨hi, hp, fun j hj => by simp [hn j hj]⟩
  simp [fidx, this]
theorem fidx_none {α : Type} {p : α → Bool} {xs : List α} (hn : ∀ j (hj : j < xs.length), p xs[j] = false) : fidx p xs = -1 := by
  have : xs.findIdx? p = none := List.findIdx?_eq_none_iff.2 fun x hx => by
    obtain ⟨j, hj, e⟩ := List.mem_iff_getElem.1 hx
    rw [← e]; exact hn j hj
  simp [fidx, this]
theorem fidx_ge {α : Type} (p : α → Bool) (xs : List α) : decide (fidx p xs ≥ 0) = xs.any p := by
  unfold fidx
  cases hh : xs.findIdx? p with
  | none =>
    have := List.findIdx?_eq_none_iff.1 hh
    have : xs.any p = false := by rw [List.any_eq_false]; intro x hx; simp [this x hx]
    rw [this]; decide
  | some i =>
    obtain ⟨hi, hp, _⟩ := List.findIdx?_eq_some_iff_getElem.1 hh
    have : xs.any p = true := List.any_eq_true.2 ⟨_, List.getElem_mem hi, hp⟩
    rw [this]; simp

theorem rdE (hA : At h (rsl τ.enc xs s)) {i : Nat} (hi : i < xs.length) {K : τ.T → HP} (hK : K xs[i] h) : sx s.a s.len (i : Int) 1 (fun p => ldT τ p K) h :=
  rd_ok hA (List.getElem?_eq_getElem hi) hK

def W_index (τ : Ty) (eq : τ.T → Bool) (s : Sl) (K : Int → HP) : HP :=
  lfp (σ := Int × Int × Unit) (fun X0 s1 => brB (decide (s1.1 < (s.len : Int)))
    (sx s.a s.len s1.1 1 fun p2 => ldT τ p2 fun x3 => brB (eq x3) (K s1.1) (X0 ((IntKind.wrap .i64 (s1.1 + (1 : Int))), s1.2.1, ())))
    (K (-1 : Int))) ((0 : Int), (0 : Int), ())

theorem w_index {eq : τ.T → Bool} (hA : At h (rsl τ.enc xs s)) (hl : xs.length ≤ 1099511627776) {K : Int → HP} (hK : K (fidx eq xs) h) : W_index τ eq s K h := by
  have l1 := rsl_len hA
  refine lfp_invh (I := fun m σ h' => ∃ i : Nat, σ = ((i : Int), 0, ()) ∧ i ≤ xs.length ∧ (∀ j (hj : j < xs.length), j < i → eq xs[j] = false) ∧ h' = h ∧ m = xs.length - i) ⟨_, 0, rfl, by omega, fun j _ hj => by omega, rfl, rfl⟩ ?_
  rintro m σ h' X ⟨i, rfl, hi, hp, rfl, em⟩ hX
  by_cases hlt : i < xs.length
  · simp only [l1, dlt_t hlt, brB_true, inc_i (show i < 4611686018427387904 by omega)]
    rw [← l1]
    refine rdE hA hlt ?_
    cases he : eq xs[i] with
    | true =>
      simp only [brB_true]
      rw [fidx_some hlt he (fun j hj => hp j (by omega) hj)] at hK
      exact hK
    | false =>
      simp only [brB_false]
      refine hX _ _ _ ⟨i + 1, rfl, by omega, fun j hj hji => ?_, rfl, rfl⟩ (by omega)
      by_cases ej : j = i
      · subst ej; exact he
      · exact hp j hj (by omega)
  · simp only [l1, dlt_f hlt, brB_false]
    rw [fidx_none (fun j hj => hp j hj (by omega))] at hK
    exact hK

def W_equal (τ : Ty) (ne : τ.T → τ.T → Bool) (s s2 : Sl) (K : Bool → HP) : HP :=
  brB ((s.len : Int) != (s2.len : Int)) (K false)
    (lfp (σ := Int × Bool × Unit) (fun X0 s1 => brB (decide (s1.1 < (s.len : Int)))
      (sx s.a s.len s1.1 1 fun p2 => ldT τ p2 fun x3 => sx s2.a s2.len s1.1 1 fun p4 => ldT τ p4 fun x5 => brB (ne x3 x5) (K false) (X0 ((IntKind.wrap .i64 (s1.1 + (1 : Int))), s1.2.1, ())))
      (K true)) ((0 : Int), false, ()))

theorem w_equal {ne : τ.T → τ.T → Bool} (hne : ∀ x y, ne x y = true ↔ x ≠ y) (hA : At h (rsl τ.enc xs s)) (hB : At h (rsl τ.enc ys s2)) (hl : xs.length ≤ 1099511627776) {K : Bool → HP} (hK : ∀ b : Bool, (b = true ↔ xs = ys) → K b h) : W_equal τ ne s s2 K h := by
  have l1 := rsl_len hA
  have l2 := rsl_len hB
  unfold W_equal
  by_cases hlen : xs.length = ys.length
  · have e : ((s.len : Int) != (s2.len : Int)) = false := by rw [l1, l2, hlen]; simp
    rw [e, brB_false]
    refine lfp_invh (I := fun m σ h' => ∃ i : Nat, σ = ((i : Int), false, ()) ∧ i ≤ xs.length ∧ (∀ j (hj : j < xs.length), j < i → xs[j] = ys[j]'(by omega)) ∧ h' = h ∧ m = xs.length - i) ⟨_, 0, rfl, by omega, fun j _ hj => by omega, rfl, rfl⟩ ?_
    rintro m σ h' X ⟨i, rfl, hi, hp, rfl, em⟩ hX
    by_cases hlt : i < xs.length
    · rw [show decide ((i : Int) < (s.len : Int)) = true by rw [l1]; exact dlt_t hlt, brB_true, inc_i (show i < 4611686018427387904 by omega)]
      refine rdE hA hlt ?_
      refine rdE hB (show i < ys.length by omega) ?_
      cases he : ne xs[i] ys[i] with
      | true =>
        simp only [brB_true]
        refine hK false ⟨fun h => (by cases h), fun e => ?_⟩
        subst e; exact absurd rfl ((hne _ _).1 he)
      | false =>
        simp only [brB_false]
        refine hX _ _ _ ⟨i + 1, rfl, by omega, fun j hj hji => ?_, rfl, rfl⟩ (by omega)
        by_cases ej : j = i
        · subst ej
          exact Classical.not_not.1 fun hh => by rw [(hne _ _).2 hh] at he; cases he
        · exact hp j hj (by omega)
    · rw [show decide ((i : Int) < (s.len : Int)) = false by rw [l1]; exact dlt_f hlt, brB_false]
      exact hK true ⟨fun _ => List.ext_getElem hlen fun j h1 h2 => hp j h1 (by omega), fun _ => rfl⟩
  · have e : ((s.len : Int) != (s2.len : Int)) = true := by rw [l1, l2]; simp; omega
    rw [e, brB_true]
    exact hK false ⟨fun h => (by cases h), fun e => absurd (congrArg List.length e) hlen⟩

def Cmp2Ok (P : Program) (τ : Ty) (fv : Value) (c : τ.T → τ.T → Int) (xs ys : List τ.T) (h : Heap) : Prop :=
  ∀ x ∈ xs, ∀ y ∈ ys, ∀ h', Ext [] h h' → callF P fv #[τ.enc x, τ.enc y] (.int .i64) (fun r h2 => r = c x y ∧ Ext [] h' h2) h'

def cmpL {α : Type} (c : α → α → Int) : List α → List α → Int
  | [], [] => 0
  | [], _ :: _ => -1
  | _ :: _, [] => 1
  | x :: xs, y :: ys => if c x y ≠ 0 then c x y else cmpL c xs ys

def W_compareFunc (P : Program) (τ : Ty) (s s2 : Sl) (fv : Value) (K : Int → HP) : HP :=
  lfp (σ := Int × Int × Unit) (fun X0 s1 => brB (decide (s1.1 < (s.len : Int)))
    (sx s.a s.len s1.1 1 fun p2 => ldT τ p2 fun x3 => brB (decide (s1.1 ≥ (s2.len : Int))) (K (1 : Int))
      (sx s2.a s2.len s1.1 1 fun p4 => ldT τ p4 fun x5 => callF P fv #[τ.enc x3, τ.enc x5] (.int .i64) fun r6 => brB (r6 != (0 : Int)) (K r6) (X0 ((IntKind.wrap .i64 (s1.1 + (1 : Int))), s1.2.1, ()))))
    (brB (decide ((s.len : Int) < (s2.len : Int))) (K (-1 : Int)) (K (0 : Int)))) ((0 : Int), (0 : Int), ())

theorem w_compareFunc {fv : Value} {c : τ.T → τ.T → Int} (hA : At h (rsl τ.enc xs s)) (hB : At h (rsl τ.enc ys s2)) (hl : xs.length ≤ 1099511627776) (hc : Cmp2Ok P τ fv c xs ys h) {K : Int → HP} (hK : ∀ h', Ext [] h h' → K (cmpL c xs ys) h') :
    W_compareFunc P τ s s2 fv K h := by
  have l1 := rsl_len hA
  have l2 := rsl_len hB
  refine lfp_invh (I := fun m σ h' => ∃ i : Nat, σ = ((i : Int), 0, ()) ∧ i ≤ xs.length ∧ i ≤ ys.length ∧ cmpL c (xs.drop i) (ys.drop i) = cmpL c xs ys ∧ Ext [] h h' ∧ m = xs.length - i) ⟨_, 0, rfl, by omega, by omega, rfl, Ext.refl' _ _, rfl⟩ ?_
  rintro m σ h' X ⟨i, rfl, hi, hi2, hD, x, em⟩ hX
  by_cases hlt : i < xs.length
  · rw [show decide ((i : Int) < (s.len : Int)) = true by rw [l1]; exact dlt_t hlt, brB_true, inc_i (show i < 4611686018427387904 by omega)]
    refine rdE (hA.ext x) hlt ?_
    rw [List.drop_eq_getElem_cons hlt] at hD
    by_cases hlt2 : i < ys.length
    · have e : decide ((i : Int) ≥ (s2.len : Int)) = false := by rw [l2]; simp; omega
      rw [e, brB_false]
      refine rdE (hB.ext x) hlt2 ?_
      rw [List.drop_eq_getElem_cons hlt2] at hD
      refine callF_of (hc _ (List.getElem_mem hlt) _ (List.getElem_mem hlt2) h' x) ?_
      rintro r h2 ⟨rfl, x2⟩
      simp only [cmpL] at hD
      by_cases h0 : c xs[i] ys[i] = 0
      · rw [if_neg (by simp [h0])] at hD
        have e : (c xs[i] ys[i] != 0) = false := by simp [h0]
        rw [e, brB_false]
        exact hX _ _ _ ⟨i + 1, rfl, by omega, by omega, hD, x.nil_trans x2, rfl⟩ (by omega)
      · rw [if_pos h0] at hD
        have e : (c xs[i] ys[i] != 0) = true := by simp [h0]
        rw [e, brB_true, hD]
        exact hK h2 (x.nil_trans x2)
    · have e : decide ((i : Int) ≥ (s2.len : Int)) = true := by rw [l2]; simp; omega
      rw [List.drop_eq_nil_of_le (show ys.length ≤ i by omega)] at hD
      rw [e, brB_true]
      have := hK h' x
      rw [← hD] at this
      exact this
  · rw [show decide ((i : Int) < (s.len : Int)) = false by rw [l1]; exact dlt_f hlt, brB_false]
    rw [List.drop_eq_nil_of_le (show xs.length ≤ i by omega)] at hD
    have hk := hK h' x
    by_cases hlt2 : i < ys.length
    · have e : decide ((s.len : Int) < (s2.len : Int)) = true := by rw [l1, l2]; simp; omega
      rw [List.drop_eq_getElem_cons hlt2] at hD
      rw [e, brB_true]
      rw [← hD] at hk; exact hk
    · have e : decide ((s.len : Int) < (s2.len : Int)) = false := by rw [l1, l2]; simp; omega
      rw [List.drop_eq_nil_of_le (show ys.length ≤ i by omega)] at hD
      rw [e, brB_false]
      rw [← hD] at hk; exact hk

end
end Go.Sx
