/-
  The law's put, and what the laws ask of an order.
-/
import Derived.Test.YtkfdfbgceockpaaOrdW
set_option linter.unusedVariables false
namespace Go.Proofs.Ord
open Go Go.Sx Go.Proofs

section
variable {h : Heap} {S : List Nat} {o n : Nat} {act : List Int} {step : Int} {L : List Int}

theorem stepR_c (r : Rep h S o n act step L) : callT Try.prog fn_order_Order_Step #[.pointer (pt o)] (.int .i64) (fun x h' => x = step ∧ h' = h) h := by
  obtain ⟨ab, hb, pb, H, Pl, rfl, r, c, hp, hl, hn, rfl, hbl⟩ := r
  obtain ⟨ha, ch, ra, rp, rc⟩ := r.common
  exact step_c rc
theorem lenR_c (r : Rep h S o n act step L) : callT Try.prog fn_order_Order_Len #[.pointer (pt o)] (.int .i64) (fun x h' => x = L.length ∧ h' = h) h := by
  obtain ⟨ab, hb, pb, H, Pl, rfl, r, c, hp, hl, hn, rfl, hbl⟩ := r
  obtain ⟨ha, ch, ra, rp, rc⟩ := r.common
  rw [length_srt]
  exact len_c rc
theorem activityR_c (r : Rep h S o n act step L) (v : Int) : callT Try.prog fn_order_Order_Activity #[.pointer (pt o), .int .i64 v] (.tup (.cons (.int .i64) (.cons (.int .i64) .nil)))
    (fun x h' => x = (if 1 ≤ v ∧ v ≤ n then (g act v.toNat, 0, ()) else (0, 110, ())) ∧ h' = h) h := by
  obtain ⟨ab, hb, pb, H, Pl, rfl, r, c, hp, hl, hn, rfl, hbl⟩ := r
  obtain ⟨ha, ch, ra, rp, rc⟩ := r.common
  refine call_of (activity_c rc v) ?_
  rintro x h' ⟨rfl, rfl⟩
  refine ⟨?_, rfl⟩
  by_cases hv : 1 ≤ v ∧ v ≤ n
  · rw [if_pos hv, if_pos (by omega)]
  · rw [if_neg hv, if_neg (by omega)]
theorem hasR_c (r : Rep h S o n act step L) (v : Int) : callT Try.prog fn_order_Order_Has #[.pointer (pt o), .int .i64 v] .bool (fun x h' => x = decide (v ∈ L) ∧ h' = h) h := by
  obtain ⟨ab, hb, pb, H, Pl, rfl, r, c, hp, hl, hn, rfl, hbl⟩ := r
  obtain ⟨ha, ch, ra, rp, rc⟩ := r.common
  have hpl := c.len
  refine call_of (has_c rc (by omega) v) ?_
  rintro x h' ⟨rfl, rfl⟩
  refine ⟨?_, rfl⟩
  have e : (1 ≤ v ∧ v < act.length ∧ 0 ≤ g Pl v.toNat) ↔ v ∈ srt act H := by
    rw [mem_srt, c.mem]; omega
  simp only [e]

theorem decayR_c (r : Rep h S o n act step L) (lim : Lim act step) : callT Try.prog fn_order_Order_Decay #[.pointer (pt o)] (.int .i64)
    (fun x h' => (x = 4 ∧ step + step / 16 + 1 > maxA ∧ h' = h) ∨ (x = 0 ∧ step + step / 16 + 1 ≤ maxA ∧ Keeps h S o n act (step + step / 16 + 1) L h')) h := by
  obtain ⟨ab, hb, pb, H, Pl, rfl, r, c, hp, hl, hn, rfl, hbl⟩ := r
  obtain ⟨ha, ch, ra, rp, rc⟩ := r.common
  refine call_of (decay_c rc lim.s1 lim.s2) ?_
  rintro x h' (⟨rfl, hg, rfl⟩ | ⟨rfl, hg, rc', x⟩)
  · exact .inl ⟨rfl, hg, rfl⟩
  · refine .inr ⟨rfl, hg, ⟨ab, hb, pb, H, Pl, rfl, ?_, c, hp, hl, hn, rfl, Nat.lt_of_lt_of_le hbl x.1⟩, x.mono (by simp)⟩
    rcases r with ⟨ra', rh', rp', r⟩ | ⟨e0, ra', rp', ha', r⟩
    · have eO := rc.O.inj r.O
      simp at eO
      obtain ⟨_, ⟨e3, e4⟩, _⟩ := eO
      subst e3; subst e4
      exact .inl ⟨ra, rh', rp, rc', r.Hh.ext x (by simp; exact Ne.symm r.oh), r.oh, r.ah, r.ph⟩
    · subst e0
      have eO := rc.O.inj r.O
      simp at eO
      have e5 := eO.2.1.2
      subst e5
      exact .inr ⟨rfl, ra, rp, ha, rc'⟩
end

theorem Lim.bump {act : List Int} {step : Int} {n : Nat} (l : Lim act step) (hl : act.length = n + 1) (v : Int) : Lim (bumpA act n v step) (bumpS act n v step) := by
  unfold bumpA bumpS
  have s1 := l.s1
  have s2 := l.s2
  by_cases hv : 1 ≤ v ∧ v ≤ n
  · simp only [if_pos hv]
    have a1 := l.lo v.toNat
    have a2 := l.hi v.toNat
    by_cases hg : g act v.toNat + step > maxA
    · simp only [if_pos hg]
      have gm : ∀ i, 0 ≤ g ((act.set v.toNat (g act v.toNat + step)).map (· / 1073741824)) i ∧ g ((act.set v.toNat (g act v.toNat + step)).map (· / 1073741824)) i ≤ maxA := by
        intro i
        by_cases hi : i < act.length
        · rw [g_map (by simpa using hi), g_set]
          have b1 := l.lo i
          have b2 := l.hi i
          simp only [maxA] at *
          split <;> constructor <;> omega
        · have : g ((act.set v.toNat (g act v.toNat + step)).map (· / 1073741824)) i = 0 := by
            simp only [g, List.getD_eq_getElem?_getD]
            rw [List.getElem?_eq_none (by simp; omega)]; rfl
          rw [this]; simp
      refine ⟨fun i => (gm i).1, fun i => (gm i).2, ?_, ?_⟩
      · split <;> omega
      · simp only [maxA] at *; split <;> omega
    · simp only [if_neg hg]
      refine ⟨fun i => ?_, fun i => ?_, s1, s2⟩
      · rw [g_set]; have := l.lo i; split <;> omega
      · rw [g_set]; have := l.hi i; split <;> omega
  · simp only [if_neg hv]; exact l

theorem Lim.new (n : Nat) : Lim (zeros n) 1024 := ⟨fun i => by rw [g_zeros]; omega, fun i => by rw [g_zeros]; decide, by decide, by decide⟩

end Go.Proofs.Ord
