/-
  The law's put, and what the laws ask of an order.
-/
import Derived.Test.YtkfdfbgceockpaaOrdW
set_option linter.unusedVariables false
set_option linter.unusedSimpArgs false
set_option linter.unusedSectionVars false
namespace Go.Proofs.Ord
open Go Go.Sx Go.Proofs

section
variable {h : Heap} {S : List Nat} {o n : Nat} {act : List Int} {step : Int} {L : List Int}

theorem stepR_c (r : Rep h S o n act step L) : callT Try.prog fn_order_Order_Step #[.pointer (pt o)] (.int .i64) (fun x h' => x = step ∧ h' = h) h := by
  obtain ⟨ab, hb, pb, H, Pl, rfl, r, c, hp, hl, hn, rfl, hbl⟩ := r
  obtain ⟨ha, ch, ra, rp, rc⟩ := r.common
  exact step_c rc
theorem lenR_c (r : Rep h S o n act step L) : callT Try.prog fn_order_Order_Len #[.pointer (pt o)] (.int .i64) (fun x h' => x = L.length ∧ h' = h) h := by
  obtain ⟨ab, hb, pb, H, Pl, rfl, r, c, hp, hl, hn, rfl, hbl⟩ := r
  obtain ⟨ha, ch, ra, rp, rc⟩ := r.common
  rw [length_srt]
  exact len_c rc
theorem activityR_c (r : Rep h S o n act step L) (v : Int) : callT Try.prog fn_order_Order_Activity #[.pointer (pt o), .int .i64 v] (.tup (.cons (.int .i64) (.cons (.int .i64) .nil)))
    (fun x h' => x = (if 1 ≤ v ∧ v ≤ n then (g act v.toNat, 0, ()) else (0, 110, ())) ∧ h' = h) h := by
  obtain ⟨ab, hb, pb, H, Pl, rfl, r, c, hp, hl, hn, rfl, hbl⟩ := r
  obtain ⟨ha, ch, ra, rp, rc⟩ := r.common
  refine call_of (activity_c rc v) ?_
  rintro x h' ⟨rfl, rfl⟩
  refine ⟨?_, rfl⟩
  by_cases hv : 1 ≤ v ∧ v ≤ n
  · rw [if_pos hv, if_pos (by omega)]
  · rw [if_neg hv, if_neg (by omega)]
theorem hasR_c (r : Rep h S o n act step L) (v : Int) : callT Try.prog fn_order_Order_Has #[.pointer (pt o), .int .i64 v] .bool (fun x h' => x = decide (v ∈ L) ∧ h' = h) h := by
  obtain ⟨ab, hb, pb, H, Pl, rfl, r, c, hp, hl, hn, rfl, hbl⟩ := r
  obtain ⟨ha, ch, ra, rp, rc⟩ := r.common
  have hpl := c.len
  refine call_of (has_c rc (by omega) v) ?_
  rintro x h' ⟨rfl, rfl⟩
  refine ⟨?_, rfl⟩
  have e : (1 ≤ v ∧ v < act.length ∧ 0 ≤ g Pl v.toNat) ↔ v ∈ srt act H := by
    rw [mem_srt, c.mem]; omega
  simp only [e]

theorem decayR_c (r : Rep h S o n act step L) (lim : Lim act step) : callT Try.prog fn_order_Order_Decay #[.pointer (pt o)] (.int .i64)
    (fun x h' => (x = 4 ∧ step + step / 16 + 1 > maxA ∧ h' = h) ∨ (x = 0 ∧ step + step / 16 + 1 ≤ maxA ∧ Keeps h S o n act (step + step / 16 + 1) L h')) h := by
  obtain ⟨ab, hb, pb, H, Pl, rfl, r, c, hp, hl, hn, rfl, hbl⟩ := r
  obtain ⟨ha, ch, ra, rp, rc⟩ := r.common
  refine call_of (decay_c rc lim.s1 lim.s2) ?_
  rintro x h' (⟨rfl, hg, rfl⟩ | ⟨rfl, hg, rc', x⟩)
  · exact .inl ⟨rfl, hg, rfl⟩
  · refine .inr ⟨rfl, hg, ⟨ab, hb, pb, H, Pl, rfl, ?_, c, hp, hl, hn, rfl, Nat.lt_of_lt_of_le hbl x.1⟩, x.mono (by simp)⟩
    rcases r with ⟨ra', rh', rp', r⟩ | ⟨e0, ra', rp', ha', r⟩
    · have eO := rc.O.inj r.O
      simp at eO
      obtain ⟨_, ⟨e3, e4⟩, _⟩ := eO
      subst e3; subst e4
      exact .inl ⟨ra, rh', rp, rc', r.Hh.ext x (by simp; exact Ne.symm r.oh), r.oh, r.ah, r.ph⟩
    · subst e0
      have eO := rc.O.inj r.O
      simp at eO
      have e5 := eO.2.1.2
      subst e5
      exact .inr ⟨rfl, ra, rp, ha, rc'⟩
end

theorem Lim.bump {act : List Int} {step : Int} {n : Nat} (l : Lim act step) (hl : act.length = n + 1) (v : Int) : Lim (bumpA act n v step) (bumpS act n v step) := by
  unfold bumpA bumpS
  have s1 := l.s1
  have s2 := l.s2
  by_cases hv : 1 ≤ v ∧ v ≤ n
  · simp only [if_pos hv]
    have a1 := l.lo v.toNat
    have a2 := l.hi v.toNat
    by_cases hg : g act v.toNat + step > maxA
    · simp only [if_pos hg]
      have gm : ∀ i, 0 ≤ g ((act.set v.toNat (g act v.toNat + step)).map (· / 1073741824)) i ∧ g ((act.set v.toNat (g act v.toNat + step)).map (· / 1073741824)) i ≤ maxA := by
        intro i
        by_cases hi : i < act.length
        · rw [g_map (by simpa using hi), g_set]
          have b1 := l.lo i
          have b2 := l.hi i
          simp only [maxA] at *
          split <;> constructor <;> omega
        · have : g ((act.set v.toNat (g act v.toNat + step)).map (· / 1073741824)) i = 0 := by
            simp only [g, List.getD_eq_getElem?_getD]
            rw [List.getElem?_eq_none (by simp; omega)]; rfl
          rw [this]; simp
      refine ⟨fun i => (gm i).1, fun i => (gm i).2, ?_, ?_⟩
      · split <;> omega
      · simp only [maxA] at *; split <;> omega
    · simp only [if_neg hg]
      refine ⟨fun i => ?_, fun i => ?_, s1, s2⟩
      · rw [g_set]; have := l.lo i; split <;> omega
      · rw [g_set]; have := l.hi i; split <;> omega
  · simp only [if_neg hv]; exact l

theorem Lim.new (n : Nat) : Lim (zeros n) 1024 := ⟨fun i => by rw [g_zeros]; omega, fun i => by rw [g_zeros]; decide, by decide, by decide⟩

end Go.Proofs.Ord

/-
  The law's put.
-/
set_option linter.unusedVariables false
set_option linter.unusedSimpArgs false
set_option linter.unusedSectionVars false
namespace Go.Proofs.Ord
open Go Go.Sx Go.Proofs

/-- A row of bytes that an argument holds. -/
def Byts (h : Heap) (a : Option Addr) (len : Nat) : Prop := ∀ i, i < len → ∃ ad x, a = some ad ∧ cell h (ad.add i) = some (.int .u8 x) ∧ 0 ≤ x ∧ x < 256 ∧ (ad.add i).block < h.size

theorem Byts.ext {h h' : Heap} {a : Option Addr} {len : Nat} (b : Byts h a len) (he : Ext [] h h') : Byts h' a len := by
  intro i hi
  obtain ⟨ad, x, e, hc, h0, h1, hlt⟩ := b i hi
  refine ⟨ad, x, e, ?_, h0, h1, Nat.lt_of_lt_of_le hlt he.1⟩
  unfold cell at hc ⊢
  rw [he.2 _ hlt (by simp)]; exact hc

theorem Byts.rd {h : Heap} {a : Option Addr} {len : Nat} (b : Byts h a len) {i : Nat} (hi : i < len) {K : Int → HP} (hK : ∀ x, 0 ≤ x → x < 256 → K x h) :
    sx a len (i : Int) 1 (fun p => ldT (.int .u8) p K) h := by
  obtain ⟨ad, x, e, hc, h0, h1, hlt⟩ := b i hi
  refine ⟨ad, e, by omega, by omega, x, ?_, hK x h0 h1⟩
  simp only [Int.toNat_natCast, Nat.mul_one]
  exact hc

/-- An order of a law's own: its blocks are new. -/
def Own (h0 h : Heap) (S : List Nat) (o n : Nat) (act : List Int) (step : Int) (L : List Int) : Prop :=
  Rep h S o n act step L ∧ Lim act step ∧ Ext [] h0 h ∧ ∀ b ∈ S, h0.size ≤ b

theorem Own.keeps {h0 h h' : Heap} {S : List Nat} {o n : Nat} {act act' : List Int} {step step' : Int} {L L' : List Int} (w : Own h0 h S o n act step L) (k : Keeps h S o n act' step' L' h') (l : Lim act' step') : Own h0 h' S o n act' step' L' :=
  ⟨k.1, l, w.2.2.1.trans k.2 (fun b hb => .inr (w.2.2.2 b hb)), w.2.2.2⟩

/-- How far the step may have come behind i calls. -/
def stepB : Nat → Int
  | 0 => 1024
  | i + 1 => stepB i + stepB i / 16 + 1

theorem stepB_mono : ∀ (i : Nat), 1 ≤ stepB i ∧ ∀ d, stepB i ≤ stepB (i + d)
  | 0 => ⟨by decide, fun d => by
    induction d with
    | zero => exact Int.le_refl _
    | succ d ih =>
      have : stepB (0 + (d + 1)) = stepB (0 + d) + stepB (0 + d) / 16 + 1 := rfl
      have h0 : (1024 : Int) ≤ stepB (0 + d) := ih
      rw [this]; show (1024 : Int) ≤ _; omega⟩
  | i + 1 => by
    obtain ⟨h1, h2⟩ := stepB_mono i
    have e : stepB (i + 1) = stepB i + stepB i / 16 + 1 := rfl
    refine ⟨by rw [e]; omega, fun d => ?_⟩
    induction d with
    | zero => exact Int.le_refl _
    | succ d ih =>
      have e2 : stepB (i + 1 + (d + 1)) = stepB (i + 1 + d) + stepB (i + 1 + d) / 16 + 1 := rfl
      have : 1 ≤ stepB (i + 1) := by rw [e]; omega
      rw [e2]; omega

theorem stepB_80 : stepB 80 ≤ maxA := by decide +kernel
theorem stepB_lim {i : Nat} (h : i ≤ 80) : stepB i ≤ maxA := by
  have := (stepB_mono i).2 (80 - i)
  rw [show i + (80 - i) = 80 by omega] at this
  have := stepB_80; omega

theorem bumpS_le {act : List Int} {n : Nat} {v step : Int} (h : 1 ≤ step) : bumpS act n v step ≤ step := by
  unfold bumpS
  split
  · split
    · split <;> omega
    · exact Int.le_refl _
  · exact Int.le_refl _

theorem stepB_80' : stepB 80 ≤ 1000000 := by decide +kernel
theorem stepB_le {i : Nat} (h : i ≤ 80) : stepB i ≤ 1000000 := by
  have := (stepB_mono i).2 (80 - i)
  rw [show i + (80 - i) = 80 by omega] at this
  have := stepB_80'; omega

theorem bumpA_le {act : List Int} {n : Nat} {v step b : Int} (lo : ∀ i, 0 ≤ g act i) (hs : 1 ≤ step) (hb : ∀ j, g act j ≤ b) (j : Nat) : g (bumpA act n v step) j ≤ b + step := by
  have h1 : ∀ j, g (act.set v.toNat (g act v.toNat + step)) j ≤ b + step := by
    intro j
    rw [g_set]
    have := hb j; have := hb v.toNat
    split <;> omega
  have h2 : ∀ j, 0 ≤ g (act.set v.toNat (g act v.toNat + step)) j := by
    intro j
    rw [g_set]
    have := lo j; have := lo v.toNat
    split <;> omega
  unfold bumpA
  split
  · split
    · by_cases hj : j < (act.set v.toNat (g act v.toNat + step)).length
      · rw [g_map hj]; have := h1 j; have := h2 j; omega
      · have : g ((act.set v.toNat (g act v.toNat + step)).map (· / 1073741824)) j = 0 := by
          simp only [g, List.getD_eq_getElem?_getD]
          rw [List.getElem?_eq_none (by simpa using hj)]; rfl
        rw [this]; have := h1 j; have := h2 j; omega
    · exact h1 j
  · have := hb j; omega

theorem put_lawB {h : Heap} {a : Sl} (hb : Byts h a.a a.len) (hc : a.len ≤ a.cap) :
    callT Try.prog fn_salvorlaw11_put #[.slice a.a a.len a.cap] (.tup (.cons .ptr (.cons .bool .nil)))
      (fun x h' => ∃ o S act step L, x = (pt o, true, ()) ∧ Own h h' S o 12 act step L ∧ step ≤ 1000000 ∧ ∀ j, g act j ≤ 80000000) h := by
  refine callT_gen fun K hK => ?_
  refine S_salvorlaw11_put (a0 := a) K ?_
  unfold F_salvorlaw11_put
  refine call_of (new_c 12 (by omega) h) ?_
  rintro _ h1 ⟨o, S, rfl, rep, x1, hS⟩
  have e1 : ((0 : Int) != 0) = false := rfl
  simp only [e1, brB_false, Option.isNone_some]
  obtain ⟨m, em⟩ : ∃ m : Nat, (if (80 : Int) < (a.len : Int) then (80 : Int) else (a.len : Int)) = m := ⟨min 80 a.len, by split <;> omega⟩
  have hm : m ≤ a.len := by split at em <;> omega
  rw [em]
  refine ⟨by omega, (by show (m : Int) ≤ (a.cap : Int); omega), ?_⟩
  have hb1 : Byts h (slR a 0 (m : Int).toNat 1).a (slR a 0 (m : Int).toNat 1).len := by
    intro i hi
    simp only [slR, Int.toNat_natCast, Nat.sub_zero] at hi ⊢
    obtain ⟨ad, x, e, hc', h0, h1, hlt⟩ := hb i (by omega)
    rw [if_neg (by omega), e]
    refine ⟨ad, x, ?_, hc', h0, h1, hlt⟩
    simp only [Nat.zero_mul, Option.map_some, Option.some.injEq]
    unfold Addr.add; simp
  have hl1 : (slR a 0 (m : Int).toNat 1).len = m := by simp [slR]
  generalize slR a 0 (m : Int).toNat 1 = s at *
  rw [hl1] at hb1
  simp only [hl1]
  have w0 : Own h h1 S o 12 (zeros 13) 1024 (iota 12) := ⟨rep, Lim.new _, x1, hS⟩
  refine lfp_invh (I := fun k σ h' => ∃ (i : Nat) (act L : List Int) (step : Int), σ = ((i : Int), 0, false, none, ()) ∧ i ≤ m ∧ Own h h' S o 12 act step L ∧ step ≤ stepB i ∧ (∀ j, g act j ≤ i * 1000000) ∧ k = m - i)
    ⟨_, 0, _, _, _, rfl, by omega, w0, Int.le_refl _, fun j => by rw [g_zeros]; omega, rfl⟩ ?_
  rintro k σ h' X ⟨i, act, L, step, rfl, hi, w, hst, hac, rfl⟩ hX
  have hm80 : m ≤ 80 := by split at em <;> omega
  have hnext : stepB (i + 1) = stepB i + stepB i / 16 + 1 := rfl
  have hs1 := (stepB_mono i).1
  by_cases hlt : i < m
  · have e : decide ((i : Int) < (m : Int)) = true := by simp; omega
    simp only [e, brB_true]
    refine (hb1.ext w.2.2.1).rd hlt ?_
    intro x hx0 hx1
    have ei : IntKind.wrap .i64 ((i : Int) + 1) = (i + 1 : Nat) := by
      rw [wrap_i64 (by omega) (by omega)]; omega
    have et : Int.tmod x 12 = x % 12 := Int.tmod_eq_emod_of_nonneg hx0
    have ev : IntKind.wrap .i64 (1 + IntKind.wrap .i64 (x % 12)) = 1 + x % 12 := by
      rw [wrap_i64 (x := x % 12) (by omega) (by omega), wrap_i64 (by omega) (by omega)]
    refine jn_mid (M := fun s h2 => s.1 = 0 ∧ ∃ act L step, Own h h2 S o 12 act step L ∧ step ≤ stepB (i + 1) ∧ ∀ j, g act j ≤ (i + 1 : Nat) * 1000000) ?_ ?_
    · rintro ⟨e, ⟨⟩⟩ h2 ⟨e0, act, L, step, w2, hs2, ha2⟩
      simp only at e0
      subst e0
      simp only [e1, brB_false, ei]
      exact hX _ _ _ ⟨i + 1, act, L, step, rfl, by omega, w2, hs2, ha2, rfl⟩ (by omega)
    intro J hJ
    have hlr := w.1.len
    have hac' : ∀ j, g act j ≤ (i + 1 : Nat) * 1000000 := fun j => by have := hac j; omega
    by_cases h160 : x < 160
    · simp only [h160, decide_true, brB_true, et, nz_ok (show (12 : Int) ≠ 0 by decide)]
      have ev' : IntKind.wrap .i64 (1 + IntKind.wrap .i64 (x % 12)) = 1 + x % 12 := ev
      rw [ev']
      refine call_of (bump_c w.1 w.2.1 (1 + x % 12) (fun _ _ _ => sortsTo12)) ?_
      rintro _ h2 ⟨rfl, kp⟩
      rw [if_pos (by omega)]
      exact hJ _ _ ⟨rfl, _, _, _, w.keeps kp (w.2.1.bump hlr.1 _), by have := bumpS_le (act := act) (n := 12) (v := 1 + x % 12) w.2.1.s1; omega, fun j => by have := bumpA_le (n := 12) (v := 1 + x % 12) w.2.1.lo w.2.1.s1 hac j; have := stepB_le (show i ≤ 80 by omega); omega⟩
    · simp only [h160, decide_false, brB_false]
      refine jn_in fun J9 hJ9 => ?_
      by_cases h200 : x < 200
      · simp only [h200, decide_true, brB_true]
        refine call_of (decayR_c w.1 w.2.1) ?_
        rintro r h2 (⟨rfl, hg, rfl⟩ | ⟨rfl, hg, kp⟩)
        · have := stepB_lim (i := i + 1) (by omega)
          omega
        · refine hJ9 _ _ (hJ _ _ ⟨rfl, _, _, _, w.keeps kp ⟨w.2.1.lo, w.2.1.hi, (by have := w.2.1.s1; omega), hg⟩, by omega, hac'⟩)
      · simp only [h200, decide_false, brB_false]
        refine jn_in fun J12 hJ12 => ?_
        by_cases h220 : x < 220
        · simp only [h220, decide_true, brB_true, et, nz_ok (show (12 : Int) ≠ 0 by decide)]
          rw [ev]
          refine call_of (remove_c w.1 (1 + x % 12)) ?_
          rintro _ h2 ⟨rfl, kp⟩
          rw [if_pos (by omega)]
          exact hJ12 _ _ (hJ9 _ _ (hJ _ _ ⟨rfl, _, _, _, w.keeps kp w.2.1, by omega, hac'⟩))
        · simp only [h220, decide_false, brB_false]
          refine call_of (pop_c w.1) ?_
          rintro _ h2 ⟨rfl, kp⟩
          exact hJ12 _ _ (hJ9 _ _ (hJ _ _ ⟨rfl, _, _, _, w.keeps kp w.2.1, by omega, hac'⟩))
  · have e : decide ((i : Int) < (m : Int)) = false := by simp; omega
    simp only [e, brB_false]
    exact hK _ _ ⟨o, S, act, step, L, rfl, w, by have := stepB_le (show i ≤ 80 by omega); omega, fun j => by have := hac j; omega⟩

theorem put_law {h : Heap} {a : Sl} (hb : Byts h a.a a.len) (hc : a.len ≤ a.cap) :
    callT Try.prog fn_salvorlaw11_put #[.slice a.a a.len a.cap] (.tup (.cons .ptr (.cons .bool .nil)))
      (fun x h' => ∃ o S act step L, x = (pt o, true, ()) ∧ Own h h' S o 12 act step L) h :=
  call_of (put_lawB hb hc) fun x h' ⟨o, S, act, step, L, e, w, _⟩ => ⟨o, S, act, step, L, e, w⟩

end Go.Proofs.Ord
