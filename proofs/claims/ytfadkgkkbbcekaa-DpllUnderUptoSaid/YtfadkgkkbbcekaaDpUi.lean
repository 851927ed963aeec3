/-
  The law's implied, few: contracts; DpllUnder, DpllImplied, walked.
-/
import Derived.Test.YtfadkgkkbbcekaaDpUo
set_option linter.unusedVariables false
set_option linter.unusedSimpArgs false
namespace Go.Proofs.S
open Go Go.Sx Go.Proofs Go.Cl Go.Dp

variable {h : Heap} {cs : List (List Int)} {s s2 sl : Sl} {l c : List Int} {v : Nat} {n fu : Int} {G : List Asn}

theorem few19_c (hA : At h (lli cs s)) : callT Try.prog fn_salvorlaw19_few #[.agg #[.int .i64 n, .slice s.a s.len s.cap]] .bool (fun r h' => (r = true → n ≤ 12 ∨ n > 1048576) ∧ Ext [] h h') h := by
  refine callT_gen fun K hK => S_salvorlaw19_few (a0 := (n, s, ())) K ?_
  unfold F_salvorlaw19_few
  have st := Hs.start h [lli cs s] (by simp [hA])
  have l1 := rsg_len hA
  have l2 := rsgcap hA
  refine st.nw fun b0 h1 st => ?_
  simp only [List.nil_append] at st
  rw [addr_add, st.lds 0 1 rfl rfl, st.lds 0 1 rfl rfl]
  have em : (if (61 : Int) < (s.len : Int) then (61 : Int) else (s.len : Int)) = ((min cs.length 61 : Nat) : Int) := by split <;> omega
  rw [em]
  refine ⟨Int.natCast_nonneg _, Int.ofNat_le.2 (show min cs.length 61 ≤ s.cap by omega), ?_⟩
  rw [Int.toNat_natCast]
  have hT := rsgtake (st.fz 0 rfl) (n := min cs.length 61) (by omega)
  have lT : (slR ⟨s.a, s.len, s.cap⟩ 0 (min cs.length 61) 1).len = _ := rsg_len hT
  have xf := st.frame (h0 := h) (by simp)
  refine lfp_invh (I := fun μ σ h' => ∃ (i : Nat) (u : Int), σ = ((i : Int), u, ()) ∧ i ≤ (cs.take (min cs.length 61)).length ∧ h' = h1 ∧ μ = (cs.take (min cs.length 61)).length - i) ⟨_, 0, 0, rfl, by omega, rfl, rfl⟩ ?_
  rintro μ σ h' X ⟨i, u, rfl, hi, rfl, em2⟩ hX
  simp only
  by_cases hlt : i < (cs.take (min cs.length 61)).length
  · refine brT (decide_eq_true (by omega)) ?_
    refine rdG hT hlt fun p hp => ?_
    rw [inc_i (by simp at hlt; omega)]
    exact hX _ _ _ ⟨i + 1, _, rfl, by omega, rfl, rfl⟩ (by omega)
  · refine brF (decide_eq_false (by omega)) ?_
    rw [st.ldi 0 0 rfl rfl]
    have fin : ∀ (t : Bool) (J : Bool → HP), (t = true → n ≤ 12 ∨ n > 1048576) → (∀ z h2, (jn (σ := Bool) (fun t12 => jn (σ := Bool) (fun t14 => K t14) (fun J13 => brB t12 (J13 ((decide (u ≤ (300 : Int))))) (J13 false)))
        (fun J11 => brB z (ldT .sl (⟨b0, 1, none⟩ : Addr) fun x15 => J11 ((decide ((x15.len : Int) ≤ (60 : Int))))) (J11 false))) h2 → J z h2) → J t h' := by
      intro t J ht hJ
      refine hJ _ _ (jn_in fun J1 hJ1 => ?_)
      cases t with
      | false => exact brF rfl (hJ1 _ _ (jn_in fun J2 hJ2 => brF rfl (hJ2 _ _ (hK _ _ ⟨fun e => (by cases e), xf⟩))))
      | true =>
        refine brT rfl ?_
        rw [st.lds 0 1 rfl rfl]
        refine hJ1 _ _ (jn_in fun J2 hJ2 => ?_)
        by_cases q : decide ((s.len : Int) ≤ 60) = true
        · exact brT q (hJ2 _ _ (hK _ _ ⟨fun _ => ht rfl, xf⟩))
        · exact brF (by simpa using q) (hJ2 _ _ (hK _ _ ⟨fun _ => ht rfl, xf⟩))
    refine jn_in fun J hJ => ?_
    by_cases h12 : n ≤ 12
    · exact brT (decide_eq_true h12) (fin _ J (fun _ => .inl h12) (by simpa using hJ))
    · refine brF (decide_eq_false h12) ?_
      rw [st.ldi 0 0 rfl rfl]
      exact fin _ J (fun q => .inr (of_decide_eq_true q)) (by simpa using hJ)

theorem fueled_c (h : Heap) : callT Try.prog fn_salvorlaw19_fueled #[.int .i64 fu] .bool (fun r h' => h' = h) h := by
  refine callT_gen fun K hK => S_salvorlaw19_fueled (a0 := fu) K ?_
  unfold F_salvorlaw19_fueled
  refine jn_in fun J hJ => ?_
  by_cases h0 : decide (fu ≤ 300) = true
  · exact brT h0 (hJ _ _ (hK _ _ rfl))
  · exact brF (by simpa using h0) (hJ _ _ (hK _ _ rfl))

theorem small_vars (hr : n ≤ 12 ∨ n > 1048576) : (checkP n cs).2 = 0 → n ≤ 60 := fun hck => by
  have := good_vars (check_good.1 hck)
  omega

theorem dpllUnder_F (hA : At h (lli cs s)) (hB : At h (li l sl)) (hl : cs.length ≤ 1048576) (hc : ∀ c ∈ cs, c.length ≤ 1048576) (K : Bool → HP) (hK : ∀ x h', (x = true ∧ Ext [] h h') → K x h') : F_salvorlaw19_DpllUnder (n, s, ()) sl fu K h := by
  unfold F_salvorlaw19_DpllUnder
  have st := Hs.start h [lli cs s, li l sl] (by simp [hA, hB])
  have lsl := rsl_len hB
  refine st.nw fun b0 h1 st => ?_
  have st := Hs.fzl (As := []) st
  simp only [List.cons_append, List.nil_append] at st
  refine ldF (st.fblk 2 rfl) ?_
  refine call_of (few19_c (n := n) (st.fz 0 rfl)) ?_
  rintro r2 h2 ⟨hr, x2⟩
  have st := st.ext x2
  have last : ∀ (J : Bool → HP) h', (∀ z h2, (jn (σ := Bool) (fun t10 => K t10) (fun J9 => brB z (callT Try.prog fn_salvorlaw19_awake #[] .bool fun r11 => J9 (r11)) (J9 false))) h2 → J z h2) → Ext [] h h' → J true h' := fun J h' hJ x => hJ _ _ (by
    refine jn_in fun J9 hJ9 => brT rfl ?_
    refine call_of (dawake_c _) ?_
    rintro _ h3 ⟨rfl, x3⟩
    exact hJ9 _ _ (hK _ _ ⟨rfl, x.nil_trans x3⟩))
  have x0 := st.frame (h0 := h) (by simp)
  refine jn_in fun J3 hJ3 => ?_
  cases r2 with
  | false => exact brT rfl (hJ3 _ _ (jn_in fun J5 hJ5 => brT rfl (hJ5 _ _ (jn_in fun J7 hJ7 => brT rfl (last J7 _ hJ7 x0)))))
  | true =>
    refine brF rfl ?_
    by_cases h20 : (sl.len : Int) > 20
    · rw [decide_eq_true h20]
      exact hJ3 _ _ (jn_in fun J5 hJ5 => brT rfl (hJ5 _ _ (jn_in fun J7 hJ7 => brT rfl (last J7 _ hJ7 x0))))
    · rw [decide_eq_false h20]
      refine hJ3 _ _ (jn_in fun J5 hJ5 => brF rfl ?_)
      refine call_of (fueled_c _) ?_
      rintro r14 _ rfl
      refine hJ5 _ _ (jn_in fun J7 hJ7 => ?_)
      cases r14 with
      | false => exact brT rfl (last J7 _ hJ7 x0)
      | true =>
        refine brF rfl ?_
        refine ldF (st.fblk 2 rfl) ?_
        refine call_of (lawUnder_c (n := n) (fu := fu) (st.fz 0 rfl) (st.fz 1 rfl) hl hc (by omega) (small_vars (hr rfl))) ?_
        rintro _ h3 ⟨rfl, x3⟩
        exact last J7 _ hJ7 (x0.nil_trans x3)

end Go.Proofs.S
