/-
  The library's functions over slices, as words over any element of one cell. Nothing here names a program.
-/
import Derived.Test.YtfadkgkkbbcekaaSxSort
set_option linter.unusedVariables false
namespace Go.Sx
open Go

section
variable {P : Program} {τ : Ty} {t : TypeId} {h h' : Heap} {xs ys : List τ.T} {s s2 : Sl}

theorem dlt_t {i n : Nat} (h : i < n) : decide ((i : Int) < (n : Int)) = true := by simp; omega
theorem dlt_f {i n : Nat} (h : ¬ i < n) : decide ((i : Int) < (n : Int)) = false := by simp; omega
theorem inc_i {i : Nat} (h : i < 4611686018427387904) : IntKind.wrap .i64 ((i : Int) + 1) = ((i + 1 : Nat) : Int) := by rw [wrap_i64 (by omega) (by omega)]; omega
theorem dec_i {i : Nat} (h : i < 4611686018427387904) (h0 : 0 < i) : IntKind.wrap .i64 ((i : Int) - 1) = ((i - 1 : Nat) : Int) := by rw [wrap_i64 (by omega) (by omega)]; omega

def fidx {α : Type} (p : α → Bool) (xs : List α) : Int := match xs.findIdx? p with | some i => (i : Int) | none => -1

theorem fidx_some {α : Type} {p : α → Bool} {xs : List α} {i : Nat} (hi : i < xs.length) (hp : p xs[i] = true) (hn : ∀ j (hj : j < i), p (xs[j]'(by omega)) = false) : fidx p xs = i := by
  have : xs.findIdx? p = some i := List.findIdx?_eq_some_iff_getElem.2 ⟨hi, hp, fun j hj => by simp [hn j hj]⟩
  simp [fidx, this]
theorem fidx_none {α : Type} {p : α → Bool} {xs : List α} (hn : ∀ j (hj : j < xs.length), p xs[j] = false) : fidx p xs = -1 := by
  have : xs.findIdx? p = none := List.findIdx?_eq_none_iff.2 fun x hx => by
    obtain ⟨j, hj, e⟩ := List.mem_iff_getElem.1 hx
    rw [← e]; exact hn j hj
  simp [fidx, this]
theorem fidx_ge {α : Type} (p : α → Bool) (xs : List α) : decide (fidx p xs ≥ 0) = xs.any p := by
  unfold fidx
  cases hh : xs.findIdx? p with
  | none =>
    have := List.findIdx?_eq_none_iff.1 hh
    have : xs.any p = false := by rw [List.any_eq_false]; intro x hx; simp [this x hx]
    rw [this]; decide
  | some i =>
    obtain ⟨hi, hp, _⟩ := List.findIdx?_eq_some_iff_getElem.1 hh
    have : xs.any p = true := List.any_eq_true.2 ⟨_, List.getElem_mem hi, hp⟩
    rw [this]; simp

theorem rdE (hA : At h (rsl τ.enc xs s)) {i : Nat} (hi : i < xs.length) {K : τ.T → HP} (hK : K xs[i] h) : sx s.a s.len (i : Int) 1 (fun p => ldT τ p K) h :=
  rd_ok hA (List.getElem?_eq_getElem hi) hK

def W_index (τ : Ty) (eq : τ.T → Bool) (s : Sl) (K : Int → HP) : HP :=
  lfp (σ := Int × Int × Unit) (fun X0 s1 => brB (decide (s1.1 < (s.len : Int)))
    (sx s.a s.len s1.1 1 fun p2 => ldT τ p2 fun x3 => brB (eq x3) (K s1.1) (X0 ((IntKind.wrap .i64 (s1.1 + (1 : Int))), s1.2.1, ())))
    (K (-1 : Int))) ((0 : Int), (0 : Int), ())

theorem w_index {eq : τ.T → Bool} (hA : At h (rsl τ.enc xs s)) (hl : xs.length ≤ 1099511627776) {K : Int → HP} (hK : K (fidx eq xs) h) : W_index τ eq s K h := by
  have l1 := rsl_len hA
  refine lfp_invh (I := fun m σ h' => ∃ i : Nat, σ = ((i : Int), 0, ()) ∧ i ≤ xs.length ∧ (∀ j (hj : j < xs.length), j < i → eq xs[j] = false) ∧ h' = h ∧ m = xs.length - i) ⟨_, 0, rfl, by omega, fun j _ hj => by omega, rfl, rfl⟩ ?_
  rintro m σ h' X ⟨i, rfl, hi, hp, rfl, em⟩ hX
  by_cases hlt : i < xs.length
  · simp only [l1, dlt_t hlt, brB_true, inc_i (show i < 4611686018427387904 by omega)]
    rw [← l1]
    refine rdE hA hlt ?_
    cases he : eq xs[i] with
    | true =>
      simp only [brB_true]
      rw [fidx_some hlt he (fun j hj => hp j (by omega) hj)] at hK
      exact hK
    | false =>
      simp only [brB_false]
      refine hX _ _ _ ⟨i + 1, rfl, by omega, fun j hj hji => ?_, rfl, rfl⟩ (by omega)
      by_cases ej : j = i
      · subst ej; exact he
      · exact hp j hj (by omega)
  · simp only [l1, dlt_f hlt, brB_false]
    rw [fidx_none (fun j hj => hp j hj (by omega))] at hK
    exact hK

def PredOk (P : Program) (τ : Ty) (fv : Value) (p : τ.T → Bool) (xs : List τ.T) (h : Heap) : Prop :=
  ∀ x ∈ xs, ∀ h', Ext [] h h' → callF P fv #[τ.enc x] .bool (fun r h2 => r = p x ∧ Ext [] h' h2) h'

def W_indexFunc (P : Program) (τ : Ty) (s : Sl) (fv : Value) (K : Int → HP) : HP :=
  lfp (σ := Int × Int × Unit) (fun X0 s1 => brB (decide (s1.1 < (s.len : Int)))
    (sx s.a s.len s1.1 1 fun p2 => ldT τ p2 fun x3 => callF P fv #[τ.enc x3] .bool fun r4 => brB r4 (K s1.1) (X0 ((IntKind.wrap .i64 (s1.1 + (1 : Int))), s1.2.1, ())))
    (K (-1 : Int))) ((0 : Int), (0 : Int), ())

theorem w_indexFunc {fv : Value} {p : τ.T → Bool} (hA : At h (rsl τ.enc xs s)) (hl : xs.length ≤ 1099511627776) (hp : PredOk P τ fv p xs h) {K : Int → HP} (hK : ∀ h', Ext [] h h' → K (fidx p xs) h') : W_indexFunc P τ s fv K h := by
  have l1 := rsl_len hA
  refine lfp_invh (I := fun m σ h' => ∃ i : Nat, σ = ((i : Int), 0, ()) ∧ i ≤ xs.length ∧ (∀ j (hj : j < xs.length), j < i → p xs[j] = false) ∧ Ext [] h h' ∧ m = xs.length - i) ⟨_, 0, rfl, by omega, fun j _ hj => by omega, Ext.refl' _ _, rfl⟩ ?_
  rintro m σ h' X ⟨i, rfl, hi, hpp, x, em⟩ hX
  by_cases hlt : i < xs.length
  · simp only [l1, dlt_t hlt, brB_true, inc_i (show i < 4611686018427387904 by omega)]
    rw [← l1]
    refine rdE (hA.ext x) hlt ?_
    refine callF_of (hp _ (List.getElem_mem hlt) h' x) ?_
    rintro r h2 ⟨rfl, x2⟩
    cases he : p xs[i] with
    | true =>
      simp only [brB_true]
      have := hK h2 (x.nil_trans x2)
      rw [fidx_some hlt he (fun j hj => hpp j (by omega) hj)] at this
      exact this
    | false =>
      simp only [brB_false]
      refine hX _ _ _ ⟨i + 1, rfl, by omega, fun j hj hji => ?_, x.nil_trans x2, rfl⟩ (by omega)
      by_cases ej : j = i
      · subst ej; exact he
      · exact hpp j hj (by omega)
  · simp only [l1, dlt_f hlt, brB_false]
    have := hK h' x
    rw [fidx_none (fun j hj => hpp j hj (by omega))] at this
    exact this

def W_equal (τ : Ty) (ne : τ.T → τ.T → Bool) (s s2 : Sl) (K : Bool → HP) : HP :=
  brB ((s.len : Int) != (s2.len : Int)) (K false)
    (lfp (σ := Int × Bool × Unit) (fun X0 s1 => brB (decide (s1.1 < (s.len : Int)))
      (sx s.a s.len s1.1 1 fun p2 => ldT τ p2 fun x3 => sx s2.a s2.len s1.1 1 fun p4 => ldT τ p4 fun x5 => brB (ne x3 x5) (K false) (X0 ((IntKind.wrap .i64 (s1.1 + (1 : Int))), s1.2.1, ())))
      (K true)) ((0 : Int), false, ()))

theorem w_equal {ne : τ.T → τ.T → Bool} (hne : ∀ x y, ne x y = true ↔ x ≠ y) (hA : At h (rsl τ.enc xs s)) (hB : At h (rsl τ.enc ys s2)) (hl : xs.length ≤ 1099511627776) {K : Bool → HP} (hK : ∀ b : Bool, (b = true ↔ xs = ys) → K b h) : W_equal τ ne s s2 K h := by
  have l1 := rsl_len hA
  have l2 := rsl_len hB
  unfold W_equal
  by_cases hlen : xs.length = ys.length
  · have e : ((s.len : Int) != (s2.len : Int)) = false := by rw [l1, l2, hlen]; simp
    rw [e, brB_false]
    refine lfp_invh (I := fun m σ h' => ∃ i : Nat, σ = ((i : Int), false, ()) ∧ i ≤ xs.length ∧ (∀ j (hj : j < xs.length), j < i → xs[j] = ys[j]'(by omega)) ∧ h' = h ∧ m = xs.length - i) ⟨_, 0, rfl, by omega, fun j _ hj => by omega, rfl, rfl⟩ ?_
    rintro m σ h' X ⟨i, rfl, hi, hp, rfl, em⟩ hX
    by_cases hlt : i < xs.length
    · rw [show decide ((i : Int) < (s.len : Int)) = true by rw [l1]; exact dlt_t hlt, brB_true, inc_i (show i < 4611686018427387904 by omega)]
      refine rdE hA hlt ?_
      refine rdE hB (show i < ys.length by omega) ?_
      cases he : ne xs[i] ys[i] with
      | true =>
        simp only [brB_true]
        refine hK false ⟨fun h => (by cases h), fun e => ?_⟩
        subst e; exact absurd rfl ((hne _ _).1 he)
      | false =>
        simp only [brB_false]
        refine hX _ _ _ ⟨i + 1, rfl, by omega, fun j hj hji => ?_, rfl, rfl⟩ (by omega)
        by_cases ej : j = i
        · subst ej
          exact Classical.not_not.1 fun hh => by rw [(hne _ _).2 hh] at he; cases he
        · exact hp j hj (by omega)
    · rw [show decide ((i : Int) < (s.len : Int)) = false by rw [l1]; exact dlt_f hlt, brB_false]
      exact hK true ⟨fun _ => List.ext_getElem hlen fun j h1 h2 => hp j h1 (by omega), fun _ => rfl⟩
  · have e : ((s.len : Int) != (s2.len : Int)) = true := by rw [l1, l2]; simp; omega
    rw [e, brB_true]
    exact hK false ⟨fun h => (by cases h), fun e => absurd (congrArg List.length e) hlen⟩

def Cmp2Ok (P : Program) (τ : Ty) (fv : Value) (c : τ.T → τ.T → Int) (xs ys : List τ.T) (h : Heap) : Prop :=
  ∀ x ∈ xs, ∀ y ∈ ys, ∀ h', Ext [] h h' → callF P fv #[τ.enc x, τ.enc y] (.int .i64) (fun r h2 => r = c x y ∧ Ext [] h' h2) h'

def cmpL {α : Type} (c : α → α → Int) : List α → List α → Int
  | [], [] => 0
  | [], _ :: _ => -1
  | _ :: _, [] => 1
  | x :: xs, y :: ys => if c x y ≠ 0 then c x y else cmpL c xs ys

def W_compareFunc (P : Program) (τ : Ty) (s s2 : Sl) (fv : Value) (K : Int → HP) : HP :=
  lfp (σ := Int × Int × Unit) (fun X0 s1 => brB (decide (s1.1 < (s.len : Int)))
    (sx s.a s.len s1.1 1 fun p2 => ldT τ p2 fun x3 => brB (decide (s1.1 ≥ (s2.len : Int))) (K (1 : Int))
      (sx s2.a s2.len s1.1 1 fun p4 => ldT τ p4 fun x5 => callF P fv #[τ.enc x3, τ.enc x5] (.int .i64) fun r6 => brB (r6 != (0 : Int)) (K r6) (X0 ((IntKind.wrap .i64 (s1.1 + (1 : Int))), s1.2.1, ()))))
    (brB (decide ((s.len : Int) < (s2.len : Int))) (K (-1 : Int)) (K (0 : Int)))) ((0 : Int), (0 : Int), ())

theorem w_compareFunc {fv : Value} {c : τ.T → τ.T → Int} (hA : At h (rsl τ.enc xs s)) (hB : At h (rsl τ.enc ys s2)) (hl : xs.length ≤ 1099511627776) (hc : Cmp2Ok P τ fv c xs ys h) {K : Int → HP} (hK : ∀ h', Ext [] h h' → K (cmpL c xs ys) h') :
    W_compareFunc P τ s s2 fv K h := by
  have l1 := rsl_len hA
  have l2 := rsl_len hB
  refine lfp_invh (I := fun m σ h' => ∃ i : Nat, σ = ((i : Int), 0, ()) ∧ i ≤ xs.length ∧ i ≤ ys.length ∧ cmpL c (xs.drop i) (ys.drop i) = cmpL c xs ys ∧ Ext [] h h' ∧ m = xs.length - i) ⟨_, 0, rfl, by omega, by omega, rfl, Ext.refl' _ _, rfl⟩ ?_
  rintro m σ h' X ⟨i, rfl, hi, hi2, hD, x, em⟩ hX
  by_cases hlt : i < xs.length
  · rw [show decide ((i : Int) < (s.len : Int)) = true by rw [l1]; exact dlt_t hlt, brB_true, inc_i (show i < 4611686018427387904 by omega)]
    refine rdE (hA.ext x) hlt ?_
    rw [List.drop_eq_getElem_cons hlt] at hD
    by_cases hlt2 : i < ys.length
    · have e : decide ((i : Int) ≥ (s2.len : Int)) = false := by rw [l2]; simp; omega
      rw [e, brB_false]
      refine rdE (hB.ext x) hlt2 ?_
      rw [List.drop_eq_getElem_cons hlt2] at hD
      refine callF_of (hc _ (List.getElem_mem hlt) _ (List.getElem_mem hlt2) h' x) ?_
      rintro r h2 ⟨rfl, x2⟩
      simp only [cmpL] at hD
      by_cases h0 : c xs[i] ys[i] = 0
      · rw [if_neg (by simp [h0])] at hD
        have e : (c xs[i] ys[i] != 0) = false := by simp [h0]
        rw [e, brB_false]
        exact hX _ _ _ ⟨i + 1, rfl, by omega, by omega, hD, x.nil_trans x2, rfl⟩ (by omega)
      · rw [if_pos h0] at hD
        have e : (c xs[i] ys[i] != 0) = true := by simp [h0]
        rw [e, brB_true, hD]
        exact hK h2 (x.nil_trans x2)
    · have e : decide ((i : Int) ≥ (s2.len : Int)) = true := by rw [l2]; simp; omega
      rw [List.drop_eq_nil_of_le (show ys.length ≤ i by omega)] at hD
      rw [e, brB_true]
      have := hK h' x
      rw [← hD] at this
      exact this
  · rw [show decide ((i : Int) < (s.len : Int)) = false by rw [l1]; exact dlt_f hlt, brB_false]
    rw [List.drop_eq_nil_of_le (show xs.length ≤ i by omega)] at hD
    have hk := hK h' x
    by_cases hlt2 : i < ys.length
    · have e : decide ((s.len : Int) < (s2.len : Int)) = true := by rw [l1, l2]; simp; omega
      rw [List.drop_eq_getElem_cons hlt2] at hD
      rw [e, brB_true]
      rw [← hD] at hk; exact hk
    · have e : decide ((s.len : Int) < (s2.len : Int)) = false := by rw [l1, l2]; simp; omega
      rw [List.drop_eq_nil_of_le (show ys.length ≤ i by omega)] at hD
      rw [e, brB_false]
      rw [← hD] at hk; exact hk

def W_bsearch (P : Program) (τ σ2 : Ty) (s : Sl) (v : σ2.T) (fv : Value) (K : (Int × Bool × Unit) → HP) : HP :=
  lfp (σ := Int × Int × Unit) (fun X0 s1 => brB (decide (s1.2.1 < s1.1))
    (ge0 (1 : Int) <| sx s.a s.len (IntKind.wrap .i64 (Int.fdiv (IntKind.wrap .u64 (IntKind.wrap .i64 (s1.2.1 + s1.1))) (2 ^ (min ((1 : Int)).toNat 64)))) 1 fun p2 => ldT τ p2 fun x3 =>
      callF P fv #[τ.enc x3, σ2.enc v] (.int .i64) fun r4 =>
      jn (σ := Int × Int × Unit) (fun s6 => X0 (s6.1, s6.2.1, ())) (fun J5 => brB (decide (r4 < (0 : Int)))
        (J5 (s1.1, (IntKind.wrap .i64 ((IntKind.wrap .i64 (Int.fdiv (IntKind.wrap .u64 (IntKind.wrap .i64 (s1.2.1 + s1.1))) (2 ^ (min ((1 : Int)).toNat 64)))) + (1 : Int))), ()))
        (J5 ((IntKind.wrap .i64 (Int.fdiv (IntKind.wrap .u64 (IntKind.wrap .i64 (s1.2.1 + s1.1))) (2 ^ (min ((1 : Int)).toNat 64)))), s1.2.1, ()))))
    (brB (decide (s1.2.1 < (s.len : Int))) (sx s.a s.len s1.2.1 1 fun p7 => ldT τ p7 fun x8 => callF P fv #[τ.enc x8, σ2.enc v] (.int .i64) fun r9 => K (s1.2.1, (r9 == (0 : Int)), ())) (K (s1.2.1, false, ()))))
    ((s.len : Int), (0 : Int), ())

theorem fdiv1 (x : Nat) : Int.fdiv (x : Int) (2 ^ (min ((1 : Int)).toNat 64)) = ((x / 2 : Nat) : Int) := by
  have e : (2 : Int) ^ (min ((1 : Int)).toNat 64) = 2 := rfl
  rw [e, Int.fdiv_eq_ediv_of_nonneg _ (by omega)]; rfl

theorem wrapu {x : Int} (h0 : 0 ≤ x) (h1 : x < 18446744073709551616) : IntKind.wrap .u64 x = x := by
  have e : IntKind.wrap .u64 x = x % 18446744073709551616 := by simp [IntKind.wrap, IntKind.bits, IntKind.signed]
  rw [e]; omega

theorem mid_eq {i j : Nat} (hi : i ≤ 1099511627776) (hj : j ≤ 1099511627776) :
    IntKind.wrap .i64 (Int.fdiv (IntKind.wrap .u64 (IntKind.wrap .i64 ((i : Int) + (j : Int)))) (2 ^ (min ((1 : Int)).toNat 64))) = (((i + j) / 2 : Nat) : Int) := by
  have e1 : IntKind.wrap .i64 ((i : Int) + (j : Int)) = ((i + j : Nat) : Int) := by rw [wrap_i64 (by omega) (by omega)]; omega
  rw [e1, wrapu (by omega) (by omega), fdiv1, wrap_i64 (by omega) (by omega)]

theorem w_bsearch {σ2 : Ty} {fv : Value} {v : σ2.T} {c : τ.T → Int} (hA : At h (rsl τ.enc xs s)) (hl : xs.length ≤ 1099511627776)
    (hc : ∀ x ∈ xs, ∀ h', Ext [] h h' → callF P fv #[τ.enc x, σ2.enc v] (.int .i64) (fun r h2 => r = c x ∧ Ext [] h' h2) h')
    (hm : ∀ i j (hj : j < xs.length) (hij : i < j), c xs[j] < 0 → c (xs[i]'(by omega)) < 0) {K : (Int × Bool × Unit) → HP}
    (hK : ∀ (i : Nat) (b : Bool) h', Ext [] h h' → i ≤ xs.length → (∀ j (hj : j < xs.length), j < i → c xs[j] < 0) → (∀ j (hj : j < xs.length), i ≤ j → ¬ c xs[j] < 0) → (b = true ↔ ∃ hi : i < xs.length, c xs[i] = 0) → K ((i : Int), b, ()) h') :
    W_bsearch P τ σ2 s v fv K h := by
  have l1 := rsl_len hA
  unfold W_bsearch
  rw [l1]
  refine lfp_invh (I := fun m σ h' => ∃ i j : Nat, σ = ((j : Int), (i : Int), ()) ∧ i ≤ j ∧ j ≤ xs.length ∧ (∀ k (hk : k < xs.length), k < i → c xs[k] < 0) ∧ (∀ k (hk : k < xs.length), j ≤ k → ¬ c xs[k] < 0) ∧ Ext [] h h' ∧ m = j - i)
    ⟨_, 0, xs.length, rfl, by omega, by omega, fun k _ hk => by omega, fun k hk hk' => by omega, Ext.refl' _ _, rfl⟩ ?_
  rintro m σ h' X ⟨i, j, rfl, hij, hj, hlo, hhi, x, em⟩ hX
  by_cases hlt : i < j
  · have hmid : (i + j) / 2 < xs.length := by omega
    simp only [dlt_t hlt, brB_true, ge0_ok (show (0 : Int) ≤ 1 by decide), mid_eq (show i ≤ 1099511627776 by omega) (show j ≤ 1099511627776 by omega), inc_i (show (i + j) / 2 < 4611686018427387904 by omega)]
    rw [← l1]
    refine rdE (hA.ext x) hmid ?_
    refine callF_of (hc _ (List.getElem_mem hmid) h' x) ?_
    rintro r h2 ⟨rfl, x2⟩
    refine jn_in fun J hJ => ?_
    by_cases hneg : c xs[(i + j) / 2] < 0
    · simp only [hneg, decide_true, brB_true]
      refine hJ _ _ (hX _ _ _ ⟨(i + j) / 2 + 1, j, rfl, by omega, hj, fun k hk hki => ?_, hhi, x.nil_trans x2, rfl⟩ (by omega))
      rcases Nat.lt_or_ge k ((i + j) / 2) with hk2 | hk2
      · exact hm k _ hmid hk2 hneg
      · have : k = (i + j) / 2 := by omega
        subst this; exact hneg
    · simp only [hneg, decide_false, brB_false]
      refine hJ _ _ (hX _ _ _ ⟨i, (i + j) / 2, rfl, by omega, by omega, hlo, fun k hk hki hc' => ?_, x.nil_trans x2, rfl⟩ (by omega))
      rcases Nat.lt_or_ge ((i + j) / 2) k with hk2 | hk2
      · exact hneg (hm _ k hk hk2 hc')
      · have : k = (i + j) / 2 := by omega
        subst this; exact hneg hc'
  · have eij : i = j := by omega
    subst eij
    simp only [dlt_f hlt, brB_false]
    by_cases hin : i < xs.length
    · simp only [dlt_t hin, brB_true]
      rw [← l1]
      refine rdE (hA.ext x) hin ?_
      refine callF_of (hc _ (List.getElem_mem hin) h' x) ?_
      rintro r h2 ⟨rfl, x2⟩
      exact hK i _ h2 (x.nil_trans x2) hj hlo hhi ⟨fun e => ⟨hin, by simpa using e⟩, fun ⟨_, e⟩ => by simp [e]⟩
    · simp only [dlt_f hin, brB_false]
      exact hK i false h' x hj hlo hhi ⟨fun e => (by cases e), fun ⟨hi, _⟩ => absurd hi hin⟩

def W_isSorted (P : Program) (τ : Ty) (s : Sl) (fv : Value) (K : Bool → HP) : HP :=
  lfp (σ := Int × Bool × Unit) (fun X0 s1 => brB (decide (s1.1 > (0 : Int)))
    (sx s.a s.len s1.1 1 fun p2 => ldT τ p2 fun x3 => sx s.a s.len (IntKind.wrap .i64 (s1.1 - (1 : Int))) 1 fun p4 => ldT τ p4 fun x5 =>
      callF P fv #[τ.enc x3, τ.enc x5] (.int .i64) fun r6 => brB (decide (r6 < (0 : Int))) (K false) (X0 ((IntKind.wrap .i64 (s1.1 - (1 : Int))), s1.2.1, ())))
    (K true)) ((IntKind.wrap .i64 ((s.len : Int) - (1 : Int))), false, ())

theorem w_isSorted {fv : Value} {c : τ.T → τ.T → Int} (hA : At h (rsl τ.enc xs s)) (hl : xs.length ≤ 1099511627776) (hc : Cmp2Ok P τ fv c xs xs h)
    (hs : ∀ i (hi : i + 1 < xs.length), ¬ c xs[i + 1] (xs[i]'(by omega)) < 0) {K : Bool → HP} (hK : ∀ h', Ext [] h h' → K true h') : W_isSorted P τ s fv K h := by
  have l1 := rsl_len hA
  unfold W_isSorted
  rw [l1]
  refine lfp_invh (I := fun m σ h' => ∃ i : Nat, σ = ((i : Int) - 1, false, ()) ∧ i ≤ xs.length ∧ Ext [] h h' ∧ m = i) ⟨_, xs.length, by rw [wrap_i64 (by omega) (by omega)], by omega, Ext.refl' _ _, rfl⟩ ?_
  rintro m σ h' X ⟨i, rfl, hi, x, em⟩ hX
  by_cases h0 : 1 < i
  · have e : decide ((i : Int) - 1 > 0) = true := by simp; omega
    have e1 : (i : Int) - 1 = ((i - 1 : Nat) : Int) := by omega
    rw [e, brB_true, e1, dec_i (by omega) (by omega), ← l1]
    refine rdE (hA.ext x) (show i - 1 < xs.length by omega) ?_
    refine rdE (hA.ext x) (show i - 1 - 1 < xs.length by omega) ?_
    refine callF_of (hc _ (List.getElem_mem _) _ (List.getElem_mem _) h' x) ?_
    rintro r h2 ⟨rfl, x2⟩
    have := hs (i - 2) (by omega)
    have e2 : decide (c (xs[i - 1]'(by omega)) (xs[i - 1 - 1]'(by omega)) < 0) = false := by
      simp only [decide_eq_false_iff_not]
      have e3 : i - 2 + 1 = i - 1 := by omega
      have e4 : i - 1 - 1 = i - 2 := by omega
      simp only [e3, e4] at this ⊢; exact this
    rw [e2, brB_false]
    exact hX _ _ _ ⟨i - 1, by congr 1; omega, by omega, x.nil_trans x2, rfl⟩ (by omega)
  · have e : decide ((i : Int) - 1 > 0) = false := by simp; omega
    rw [e, brB_false]
    exact hK h' x

end
end Go.Sx
