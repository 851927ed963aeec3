/-
  More of the library's functions over slices: Grow from nil, Concat, cmp.Or. Nothing here names a program.
-/
import Derived.Test.YtfadkgkkbbcekaaSxW2
import Derived.Test.YtfadkgkkbbcekaaClD
set_option linter.unusedVariables false
namespace Go.Sx
open Go

section
variable {P : Program} {τ : Ty} {t : TypeId} {h h' : Heap} {xs ys : List τ.T} {s s2 : Sl} {fr : Fr} {G As : List Asn} {by_ : Nat} {z : Value}

theorem Hs.wrE (st : Hs fr G As h) (k : Nat) (hk : As[k]? = some (osl t τ.enc xs s)) {i : Nat} (hi : i < xs.length) (v : τ.T) {K : HP} (hK : ∀ h', Hs fr G (As.set k (osl t τ.enc (xs.set i v) s)) h' → K h') :
    sx s.a s.len (i : Int) 1 (fun p => Sx.st1 p (τ.enc v) K) h := by
  obtain ⟨S1, p, hw⟩ := st.focus k hk
  rcases p with ⟨b, rest, eS, es, hb⟩ | ⟨_, ex, _⟩
  · subst es
    refine ⟨_, rfl, by omega, Int.ofNat_lt.2 hi, ?_⟩
    rw [Int.toNat_natCast, Nat.mul_one, addr_add]
    show Sx.st1 _ _ _ _
    rw [st_ok hb (by simp; omega)]
    have hb2 := hb.set (0 + i) (τ.enc v)
    have e3 : (xs.map τ.enc ++ rest).set (0 + i) (τ.enc v) = (xs.set i v).map τ.enc ++ rest := by
      rw [List.set_append_left _ _ (by simp; omega)]; simp
    rw [e3] at hb2
    exact hK _ (hw _ [b] _ ((Ext.refl' S1 h).set _ _ (by simp [eS])) (.inl ⟨b, rest, rfl, by simp, hb2⟩) (by simp [eS]))
  · subst ex; simp at hi

theorem addr_add_add (a : Addr) (l i : Nat) : (a.add l).add i = a.add (l + i) := by
  unfold Addr.add
  by_cases h1 : l = 0
  · subst h1; simp
  · by_cases h2 : i = 0
    · subst h2; simp
    · simp [h1, h2, Nat.add_assoc]

theorem rsl_sub {α : Type} {enc : α → Value} {xs : List α} {s : Sl} (hA : At h (rsl enc xs s)) {l m : Nat} (hlm : l ≤ m) (hm : m ≤ xs.length) : At h (rsl enc ((xs.take m).drop l) (slR s l m 1)) := by
  obtain ⟨S, e1, e2, k⟩ := hA
  have hlen : ((xs.take m).drop l).length = m - l := by simp; omega
  by_cases hml : m = l
  · subst hml
    refine ⟨[], by simp [slR], by simp [slR], .inl ⟨by simp, rfl⟩⟩
  · rcases k with ⟨ex, _⟩ | ⟨a, ea, eS, hc, hx⟩
    · subst ex; simp at hm; omega
    · have e3 : ¬ s.cap = l := by omega
      refine ⟨[a.block], by rw [hlen]; rfl, by simp [slR]; omega, .inr ⟨a.add (l * 1), by simp [slR, e3, ea], by unfold Addr.add; split <;> rfl, ?_, fun i x hi => ?_⟩⟩
      · have eb : (a.add (l * 1)).block = a.block := by unfold Addr.add; split <;> rfl
        rw [eb]; exact hc
      · rw [List.getElem?_drop, List.getElem?_take] at hi
        split at hi
        · have := hx (l + i) x hi
          rw [Nat.mul_one, addr_add_add]; exact this
        · cases hi

end
end Go.Sx

set_option linter.unusedVariables false
namespace Go.Proofs.S
open Go Go.Sx Go.Proofs Go.Cl

variable {h : Heap} {c d : List Int} {s s2 : Sl} {fr : Fr} {G As : List Asn}

end Go.Proofs.S

set_option linter.unusedVariables false
namespace Go.Proofs.S
open Go Go.Sx Go.Proofs Go.Cl

variable {h : Heap} {c d : List Int} {s s2 : Sl} {fr : Fr} {G As : List Asn}
abbrev io (c : List Int) (s : Sl) : Asn := osl ty_int i64.enc c s

theorem r1_right_c (x : Int) : callT Try.prog fn_salvorref01_Right #[.int .i64 x] .bool (fun r h' => r = rt x ∧ h' = h) h := by
  refine callT_gen fun K hK => S_salvorref01_Right (a0 := x) K ?_
  unfold F_salvorref01_Right
  have key : ∀ b : Bool, b = rt x → K b h := fun b e => hK _ _ ⟨e, rfl⟩
  by_cases h1 : x ≥ 1
  · rw [decide_eq_true h1, brB_true]
    by_cases h2 : x ≤ 1048576
    · rw [decide_eq_true h2, brB_true]; exact key _ (rt_iff.2 (by omega)).symm
    · rw [decide_eq_false h2, brB_false]
      rw [decide_eq_true (show x ≥ -1048576 by omega), brB_true]
      refine key _ ?_
      rw [decide_eq_false (by omega)]
      cases h : rt x with
      | false => rfl
      | true => have := rt_iff.1 h; omega
  · rw [decide_eq_false h1, brB_false]
    by_cases h2 : x ≥ -1048576
    · rw [decide_eq_true h2, brB_true]
      refine key _ ?_
      by_cases h3 : x ≤ -1
      · rw [decide_eq_true h3]; exact (rt_iff.2 (by omega)).symm
      · rw [decide_eq_false h3]
        cases h : rt x with
        | false => rfl
        | true => have := rt_iff.1 h; omega
    · rw [decide_eq_false h2, brB_false]
      refine key _ ?_
      cases h : rt x with
      | false => rfl
      | true => have := rt_iff.1 h; omega

theorem r2_right_c (hA : At h (li c s)) (hl : c.length ≤ 1099511627776) : callT Try.prog fn_salvorref02_Right #[.slice s.a s.len s.cap] .bool (fun r h' => r = rightC c ∧ h' = h) h := by
  refine callT_gen fun K hK => S_salvorref02_Right (a0 := s) K ?_
  unfold F_salvorref02_Right
  have l1 := rsl_len hA
  by_cases h1 : c.length > 4096
  · rw [decide_eq_true (show (s.len : Int) > 4096 by omega), brB_true]
    refine hK _ _ ⟨?_, rfl⟩
    unfold rightC; rw [decide_eq_false (by omega)]; rfl
  · rw [decide_eq_false (show ¬ (s.len : Int) > 4096 by omega), brB_false]
    refine lfp_invh (I := fun m σ h' => ∃ i : Nat, σ = ((i : Int), false, ()) ∧ i ≤ c.length ∧ (∀ j (hj : j < c.length), j < i → rt c[j] = true) ∧ h' = h ∧ m = c.length - i) ⟨_, 0, rfl, by omega, by omega, rfl, rfl⟩ ?_
    rintro m σ h' X ⟨i, rfl, hi, hp, rfl, em⟩ hX
    simp only
    by_cases hlt : i < c.length
    · rw [show decide ((i : Int) < (s.len : Int)) = true by rw [l1]; exact dlt_t hlt, brB_true, inc_i (show i < 4611686018427387904 by omega)]
      refine rdE (τ := i64) hA hlt ?_
      refine call_of (r1_right_c _) ?_
      rintro r h2 ⟨rfl, rfl⟩
      cases he : rt c[i] with
      | true =>
        simp only [Bool.not_true, brB_false]
        refine hX _ _ _ ⟨i + 1, rfl, by omega, fun j hj hji => ?_, rfl, rfl⟩ (by omega)
        by_cases ej : j = i
        · subst ej; exact he
        · exact hp j hj (by omega)
      | false =>
        simp only [Bool.not_false, brB_true]
        refine hK _ _ ⟨?_, rfl⟩
        have : c.all rt = false := List.all_eq_false.2 ⟨_, List.getElem_mem hlt, by simp [he]⟩
        unfold rightC; rw [this, Bool.and_false]
    · rw [show decide ((i : Int) < (s.len : Int)) = false by rw [l1]; exact dlt_f hlt, brB_false]
      refine hK _ _ ⟨?_, rfl⟩
      have : c.all rt = true := by
        rw [List.all_eq_true]
        intro x hx
        obtain ⟨j, hj, rfl⟩ := List.mem_iff_getElem.1 hx
        exact hp j hj (by omega)
      unfold rightC; rw [this, decide_eq_true (by omega)]; rfl

theorem r2_has_c (hA : At h (li c s)) (hl : c.length ≤ 1099511627776) (l : Int) : callT Try.prog fn_salvorref02_Has #[.slice s.a s.len s.cap, .int .i64 l] .bool (fun r h' => r = c.contains l ∧ h' = h) h := by
  refine callT_gen fun K hK => S_salvorref02_Has (a0 := s) (a1 := l) K ?_
  unfold F_salvorref02_Has
  have l1 := rsl_len hA
  refine lfp_invh (I := fun m σ h' => ∃ i : Nat, σ = ((i : Int), false, ()) ∧ i ≤ c.length ∧ l ∉ c.take i ∧ h' = h ∧ m = c.length - i) ⟨_, 0, rfl, by omega, by simp, rfl, rfl⟩ ?_
  rintro m σ h' X ⟨i, rfl, hi, hp, rfl, em⟩ hX
  simp only
  by_cases hlt : i < c.length
  · rw [show decide ((i : Int) < (s.len : Int)) = true by rw [l1]; exact dlt_t hlt, brB_true, inc_i (show i < 4611686018427387904 by omega)]
    refine rdE (τ := i64) hA hlt ?_
    by_cases he : c[i] = l
    · rw [show (c[i] == l) = true by simp [he], brB_true]
      refine hK _ _ ⟨?_, rfl⟩
      symm; rw [List.contains_iff_mem]; exact he ▸ List.getElem_mem hlt
    · rw [show (c[i] == l) = false by simp [he], brB_false]
      exact hX _ _ _ ⟨i + 1, rfl, by omega, not_mem_take_succ hlt hp (fun e => he e.symm), rfl, rfl⟩ (by omega)
  · rw [show decide ((i : Int) < (s.len : Int)) = false by rw [l1]; exact dlt_f hlt, brB_false]
    rw [List.take_of_length_le (by omega)] at hp
    refine hK _ _ ⟨?_, rfl⟩
    symm; simpa using hp

theorem r2_always_c (hA : At h (li c s)) (hr : rightC c = true) : callT Try.prog fn_salvorref02_Always #[.slice s.a s.len s.cap] .bool (fun r h' => r = alwaysC c ∧ h' = h) h := by
  refine callT_gen fun K hK => S_salvorref02_Always (a0 := s) K ?_
  unfold F_salvorref02_Always
  have l1 := rsl_len hA
  have hl := rightC_len hr
  refine lfp_invh (I := fun m σ h' => ∃ i : Nat, σ = ((i : Int), false, ()) ∧ i ≤ c.length ∧ (∀ x ∈ c.take i, c.contains (-x) = false) ∧ h' = h ∧ m = c.length - i) ⟨_, 0, rfl, by omega, by simp, rfl, rfl⟩ ?_
  rintro m σ h' X ⟨i, rfl, hi, hp, rfl, em⟩ hX
  simp only
  by_cases hlt : i < c.length
  · rw [show decide ((i : Int) < (s.len : Int)) = true by rw [l1]; exact dlt_t hlt, brB_true, inc_i (show i < 4611686018427387904 by omega)]
    refine rdE (τ := i64) hA hlt ?_
    rw [wneg (rightC_rt hr _ (List.getElem_mem hlt))]
    refine call_of (r2_has_c hA (by omega) _) ?_
    rintro r h2 ⟨rfl, rfl⟩
    cases he : c.contains (-c[i]) with
    | true =>
      simp only [brB_true]
      exact hK _ _ ⟨(List.any_eq_true.2 ⟨_, List.getElem_mem hlt, he⟩).symm, rfl⟩
    | false =>
      simp only [brB_false]
      refine hX _ _ _ ⟨i + 1, rfl, by omega, fun x hx => ?_, rfl, rfl⟩ (by omega)
      rw [take_succ_getE hlt] at hx
      rcases mem_snoc1 hx with hx | hx
      · exact hp x hx
      · subst hx; exact he
  · rw [show decide ((i : Int) < (s.len : Int)) = false by rw [l1]; exact dlt_f hlt, brB_false]
    rw [List.take_of_length_le (by omega)] at hp
    refine hK _ _ ⟨?_, rfl⟩
    symm; unfold alwaysC; rw [List.any_eq_false]; intro x hx; rw [hp x hx]; simp

end Go.Proofs.S
