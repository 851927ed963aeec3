/-
  The reference of rup: has, Right, Look, Assume: contracts.
-/
import Derived.Test.YtjkgncibelojnaaGreatRuE
import Derived.Test.YtjkgncibelojnaaGreatSxW3
set_option linter.unusedVariables false
set_option linter.unusedSimpArgs false
namespace Go.Proofs.S
open Go Go.Sx Go.Proofs Go.Cl Go.Rp

variable {h : Heap} {c d A us : List Int} {cs ds hs : List (List Int)} {s s2 : Sl} {fr : Fr} {G As : List Asn} {b : Nat}

theorem r8_has_c (hA : At h (li c s)) (hl : c.length ≤ 1099511627776) (v : Int) : callT Tryz.prog fn_salvorref08_has #[.slice s.a s.len s.cap, .int .i64 v] .bool (fun r h' => r = c.contains v ∧ h' = h) h := by
  refine callT_gen fun K hK => S_salvorref08_has (a0 := s) (a1 := v) K ?_
  unfold F_salvorref08_has
  have l1 := rsl_len hA
  refine lfp_invh (I := fun m σ h' => ∃ i : Nat, σ = ((i : Int), false, ()) ∧ i ≤ c.length ∧ v ∉ c.take i ∧ h' = h ∧ m = c.length - i) ⟨_, 0, rfl, by omega, by simp, rfl, rfl⟩ ?_
  rintro m σ h' X ⟨i, rfl, hi, hp, rfl, em⟩ hX
  simp only
  by_cases hlt : i < c.length
  · refine brT (by rw [l1]; exact dlt_t hlt) ?_
    rw [inc_i (by omega)]
    refine rdE (τ := i64) hA hlt ?_
    by_cases he : c[i] = v
    · refine brT (by simpa using he) (hK _ _ ⟨?_, rfl⟩)
      symm; rw [List.contains_iff_mem, ← he]; exact List.getElem_mem hlt
    · refine brF (by simpa using he) ?_
      exact hX _ _ _ ⟨i + 1, rfl, by omega, fun hx => by
        rw [take_lt hlt] at hx
        rcases List.mem_append.1 hx with hx | hx
        · exact hp hx
        · simp at hx; exact he hx.symm, rfl, rfl⟩ (by omega)
  · refine brF (by rw [l1]; exact dlt_f hlt) (hK _ _ ⟨?_, rfl⟩)
    rw [List.take_of_length_le (by omega)] at hp
    symm; simpa using hp

theorem r8_right_c (hA : At h (li c s)) (hl : c.length ≤ 1099511627776) : callT Tryz.prog fn_salvorref08_Right #[.slice s.a s.len s.cap] .bool (fun r h' => r = okA c ∧ h' = h) h := by
  refine callT_gen fun K hK => S_salvorref08_Right (a0 := s) K ?_
  unfold F_salvorref08_Right
  have l1 := rsl_len hA
  refine lfp_invh (I := fun m σ h' => ∃ i : Nat, σ = ((i : Int), false, ()) ∧ i ≤ c.length ∧ (∀ x ∈ c.take i, rt x = true ∧ -x ∉ c) ∧ h' = h ∧ m = c.length - i) ⟨_, 0, rfl, by omega, by simp, rfl, rfl⟩ ?_
  rintro m σ h' X ⟨i, rfl, hi, hp, rfl, em⟩ hX
  simp only
  by_cases hlt : i < c.length
  · refine brT (by rw [l1]; exact dlt_t hlt) ?_
    rw [inc_i (by omega)]
    refine rdE (τ := i64) hA hlt ?_
    refine call_of (r1_right_c _) ?_
    rintro _ h2 ⟨rfl, e⟩; subst e
    have bad : (rt c[i] = true → -c[i] ∈ c) → K false h2 := fun hb => hK _ _ ⟨by
      cases ho : okA c
      · rfl
      · obtain ⟨a, b⟩ := okA_iff.1 ho
        exact absurd (hb (a _ (List.getElem_mem hlt))) (b _ (List.getElem_mem hlt)), rfl⟩
    refine jn_in fun J hJ => ?_
    cases hr : rt c[i]
    · exact brT rfl (hJ _ _ (brT rfl (bad fun k => by rw [hr] at k; cases k)))
    · refine brF rfl ?_
      refine rdE (τ := i64) hA hlt ?_
      rw [wneg hr]
      refine call_of (r8_has_c hA hl _) ?_
      rintro _ h3 ⟨rfl, e⟩; subst e
      refine hJ _ _ ?_
      by_cases hn : -c[i] ∈ c
      · exact brT (by simpa using hn) (bad fun _ => hn)
      · refine brF (by simpa using hn) ?_
        exact hX _ _ _ ⟨i + 1, rfl, by omega, fun x hx => by
          rw [take_lt hlt] at hx
          rcases List.mem_append.1 hx with hx | hx
          · exact hp x hx
          · simp at hx; subst hx; exact ⟨hr, hn⟩, rfl, rfl⟩ (by omega)
  · refine brF (by rw [l1]; exact dlt_f hlt) (hK _ _ ⟨?_, rfl⟩)
    rw [List.take_of_length_le (by omega)] at hp
    symm; exact okA_iff.2 ⟨fun x hx => (hp x hx).1, fun x hx => (hp x hx).2⟩

theorem freeGo_snoc {A : List Int} : ∀ {L acc : List Int} {x : Int}, freeGo A acc (L ++ [x]) = (if A.contains (-x) || (freeGo A acc L).contains x then freeGo A acc L else freeGo A acc L ++ [x])
  | [], acc, x => by simp [freeGo]
  | l :: L, acc, x => by
    simp only [List.cons_append, freeGo]
    split
    · exact freeGo_snoc
    · exact freeGo_snoc
theorem freeGo_len {A : List Int} : ∀ {L acc : List Int}, (freeGo A acc L).length ≤ acc.length + L.length
  | [], acc => by simp [freeGo]
  | l :: L, acc => by
    simp only [freeGo]
    split
    · have := freeGo_len (A := A) (L := L) (acc := acc); simp; omega
    · have := freeGo_len (A := A) (L := L) (acc := acc ++ [l]); simp at this ⊢; omega

theorem r8_look_c (hA : At h (li c s)) (hB : At h (li A s2)) (hr : ∀ x ∈ c, rt x = true) (hl : c.length ≤ 1048576) (hl2 : A.length ≤ 1099511627776) : callT Tryz.prog fn_salvorref08_Look #[.slice s.a s.len s.cap, .slice s2.a s2.len s2.cap] (.tup (.cons (.int .i64) (.cons (.int .i64) .nil)))
    (fun r h' => r = ((lookP A c).1, (lookP A c).2, ()) ∧ Ext [] h h') h := by
  refine callT_gen fun K hK => S_salvorref08_Look (a0 := s) (a1 := s2) K ?_
  unfold F_salvorref08_Look
  have l1 := rsl_len hA
  have st := (Hs.start h [li c s, li A s2] (by simp [hA, hB])).nil ty_int i64.enc none
  refine lfp_invh (I := fun m σ h' => ∃ (i : Nat) (f : Sl) (x y : Int), σ = ((i : Int), f, x, y, ()) ∧ i ≤ c.length ∧ (∀ x ∈ c.take i, x ∉ A) ∧ m = c.length - i ∧ Hs [([], h)] [li c s, li A s2] [iox (freeGo A [] (c.take i)) f] h')
    ⟨_, 0, ⟨none, 0, 0⟩, 0, 0, rfl, by omega, by simp, rfl, by simpa [freeGo] using st⟩ ?_
  clear st
  rintro m σ h1 X ⟨i, f, x, y, rfl, hi, hp, rfl, st⟩ hX
  have hfl := freeGo_len (A := A) (L := c.take i) (acc := [])
  simp only [List.length_take, List.length_nil] at hfl
  simp only
  by_cases hlt : i < c.length
  · refine brT (by rw [l1]; exact dlt_t hlt) ?_
    rw [inc_i (by omega)]
    refine rdE (τ := i64) (st.fz 0 rfl) hlt ?_
    refine call_of (r8_has_c (st.fz 1 rfl) hl2 _) ?_
    rintro _ h2 ⟨rfl, e⟩; subst e
    by_cases h1 : c[i] ∈ A
    · refine brT (by simpa using h1) (hK _ _ ⟨?_, st.frame (by simp)⟩)
      have : lookP A c = (1, 0) := by unfold lookP; rw [if_pos (List.any_eq_true.2 ⟨_, List.getElem_mem hlt, by simpa using h1⟩)]
      rw [this]
    · refine brF (by simpa using h1) ?_
      refine rdE (τ := i64) (st.fz 0 rfl) hlt ?_
      rw [wneg (hr _ (List.getElem_mem hlt))]
      refine call_of (r8_has_c (st.fz 1 rfl) hl2 _) ?_
      rintro _ h3 ⟨rfl, e⟩; subst e
      have hp' : ∀ x ∈ c.take (i + 1), x ∉ A := fun x hx => by
        rw [take_lt hlt] at hx
        rcases List.mem_append.1 hx with hx | hx
        · exact hp x hx
        · simp at hx; subst hx; exact h1
      refine jn_mid (M := fun t h' => t = !(A.contains (-c[i]) || (freeGo A [] (c.take i)).contains c[i]) ∧ h' = h3) ?_ ?_
      rotate_left
      · intro J hJ
        cases h2 : A.contains (-c[i])
        · refine brT rfl ?_
          refine rdE (τ := i64) (st.fz 0 rfl) hlt ?_
          refine call_of (r8_has_c (st.own 0 rfl).rsl (by omega) _) ?_
          rintro _ h4 ⟨rfl, e⟩; subst e
          exact hJ _ _ ⟨by rw [h2, Bool.false_or], rfl⟩
        · exact brF rfl (hJ _ _ ⟨by rw [h2]; rfl, rfl⟩)
      rintro _ h4 ⟨rfl, e⟩; subst e
      refine jn_in fun J hJ => ?_
      have eg := freeGo_snoc (A := A) (L := c.take i) (acc := []) (x := c[i])
      rw [← take_lt hlt] at eg
      cases hb : (A.contains (-c[i]) || (freeGo A [] (c.take i)).contains c[i])
      · rw [hb, if_neg (by simp)] at eg
        refine brT rfl ?_
        refine rdE (τ := i64) (st.fz 0 rfl) hlt ?_
        refine st.nw fun b14 h5 st => ?_
        refine st.apd 0 1 rfl rfl (by decide) rfl (by omega) (by decide) rfl fun s15 h6 st => ?_
        have st := st.drop 1 rfl
        rw [← eg] at st
        exact hJ _ _ (hX _ _ _ ⟨i + 1, s15, x, y, rfl, by omega, hp', rfl, st⟩ (by omega))
      · rw [hb, if_pos rfl] at eg
        refine brF rfl (hJ _ _ ?_)
        rw [← eg] at st
        exact hX _ _ _ ⟨i + 1, f, x, y, rfl, by omega, hp', rfl, st⟩ (by omega)
  · refine brF (by rw [l1]; exact dlt_f hlt) ?_
    rw [List.take_of_length_le (by omega)] at hp st
    have hany : ¬ (c.any A.contains = true) := fun hc => by
      obtain ⟨x, hx, hA⟩ := List.any_eq_true.1 hc
      exact hp x hx (by simpa using hA)
    have eL : lookP A c = kindOf (freeGo A [] c) := by unfold lookP; rw [if_neg hany]; rfl
    rw [eL] at hK
    have lf := osl_len (st.own 0 rfl)
    rcases kindOf_cases (freeGo A [] c) with ⟨e, hL⟩ | ⟨z, e, hL⟩ | ⟨e, z, y', r, hL⟩
    · rw [hL] at lf
      exact brT (by simpa using lf) (hK _ _ ⟨by rw [e], st.frame (by simp)⟩)
    · have lf' := lf
      rw [hL] at lf
      simp at lf
      refine brF (by simp [lf]) (brT (by simp [lf]) ?_)
      rw [show (0 : Int) = ((0 : Nat) : Int) from rfl]
      refine rdE (τ := i64) (st.own 0 rfl).rsl (i := 0) (by omega) ?_
      refine hK _ _ ⟨?_, st.frame (by simp)⟩
      rw [e]
      simp only [hL]; rfl
    · rw [hL] at lf
      simp at lf
      exact brF (by rw [beq_eq_false_iff_ne]; show ((f.len : Nat) : Int) ≠ 0; omega) (brF (by rw [beq_eq_false_iff_ne]; show ((f.len : Nat) : Int) ≠ 1; omega) (hK _ _ ⟨by rw [e], st.frame (by simp)⟩))

end Go.Proofs.S
