/-
  The package crash: valid, Valid, Pairs, fits, apply, Apply: contracts.
-/
import Derived.Test.YtchedlkmgahicaaCrA
set_option linter.unusedVariables false
set_option linter.unusedSimpArgs false
namespace Go.Proofs.S
open Go Go.Sx Go.Proofs Go.Cr

variable {h : Heap} {l : List Ent} {k : List Bool} {m : List Int} {s s2 s3 : Sl} {fr : Fr} {G As : List Asn}

theorem K_ge {k : List Bool} {i : Nat} (h : k.length ≤ i) : K k i = false := by unfold K; rw [List.getD_eq_getElem?_getD, List.getElem?_eq_none h]; rfl
theorem contains_false {k : List Bool} {a b : Nat} (hb : b ≤ k.length) : ((k.take b).drop a).contains false = false ↔ ∀ j, a ≤ j → j < b → K k j = true := by
  rw [← Bool.not_eq_true, List.contains_iff_mem]
  constructor
  · intro h j h1 h2
    cases hk : K k j with
    | true => rfl
    | false =>
      refine absurd (List.mem_iff_getElem.2 ⟨j - a, by simp; omega, ?_⟩) h
      rw [List.getElem_drop, List.getElem_take]
      have e : a + (j - a) = j := by omega
      simp only [e]
      rw [← K_get (by omega)]; exact hk
  · intro h hm
    obtain ⟨i, hi, e⟩ := List.mem_iff_getElem.1 hm
    have hi' : i < min b k.length - a := by simpa using hi
    rw [List.getElem_drop, List.getElem_take, ← K_get (by omega)] at e
    rw [h (a + i) (by omega) (by omega)] at e; cases e
theorem contains_true {k : List Bool} {a : Nat} : (k.drop a).contains true = true ↔ ∃ j, a ≤ j ∧ K k j = true := by
  rw [List.contains_iff_mem]
  constructor
  · intro hm
    obtain ⟨i, hi, e⟩ := List.mem_iff_getElem.1 hm
    have hi' : i < k.length - a := by simpa using hi
    rw [List.getElem_drop, ← K_get (by omega)] at e
    exact ⟨a + i, by omega, e⟩
  · rintro ⟨j, h1, h2⟩
    rcases Nat.lt_or_ge j k.length with q | q
    · refine List.mem_iff_getElem.2 ⟨j - a, by simp; omega, ?_⟩
      rw [List.getElem_drop]
      have e : a + (j - a) = j := by omega
      simp only [e]
      rw [← K_get q]; exact h2
    · rw [K_ge q] at h2; cases h2

theorem valid_c (hA : At h (le l s)) (hB : At h (lb k s2)) (hl : l.length ≤ 1099511627776) (hk : k.length = l.length) (hm : Mono l) :
    callT Try.prog fn_crash_valid #[.slice s.a s.len s.cap, .slice s2.a s2.len s2.cap] .bool (fun r h' => r = vld l k ∧ Ext [] h h') h := by
  refine callT_gen fun K hK => S_crash_valid (a0 := s) (a1 := s2) K ?_
  unfold F_crash_valid
  have l1 := rsn_len hA
  have l2 := rsl_len hB
  have c2 := rsl_cap hB
  refine group_c fun b h1 x1 kb => ?_
  refine jn_mid (fun σ h' => h' = h1 ∧ ∃ a : Nat, σ = ((a : Int), ()) ∧ a ≤ l.length ∧ (∀ j, j < a → Cr.K k j = true) ∧ (∀ j, j < a → a < l.length → E l j < E l a) ∧
    (a < l.length → ¬ ∀ j, a ≤ j → j < gEnd l a → Cr.K k j = true)) ?_ ?_
  · rintro σ h2 ⟨rfl, a, rfl, ha, hall, hlo, hno⟩
    simp only
    by_cases e : a = l.length
    · rw [show ((a : Int) == (s.len : Int)) = true by rw [l1, e]; simp, brB_true]
      refine hK _ _ ⟨?_, x1⟩
      symm; rw [vld_iff]
      exact fun i hi _ j hj _ => hall j (by omega)
    · have ha' : a < l.length := by omega
      obtain ⟨g1, g2, g3, g4⟩ := gEnd_spec ha'
      rw [show ((a : Int) == (s.len : Int)) = false by rw [l1]; simp; omega, brB_false]
      refine callF_of (groupF kb (hA.ext x1) hl ha') ?_
      rintro r hq ⟨er, rfl⟩
      have er : r = (gEnd l a : Int) := er
      subst er
      refine ⟨by omega, by simp only; omega, ?_⟩
      rw [Int.toNat_natCast]
      have hS := rsl_sub (hB.ext x1) (l := gEnd l a) (m := k.length) (by omega) (Nat.le_refl _)
      rw [List.take_length, ← l2] at hS
      refine call_of (contains_bool hS (by simp; omega) true) ?_
      rintro r hq ⟨er, rfl⟩
      have er : r = (k.drop (gEnd l a)).contains true := er
      subst er
      refine hK _ _ ⟨?_, x1⟩
      rw [Bool.eq_iff_iff, Bool.not_eq_true', vld_iff]
      constructor
      · intro hn i hi hki j hj hlt
        have hi2 : i < gEnd l a := by
          rcases Nat.lt_or_ge i (gEnd l a) with q | q
          · exact q
          · have := contains_true.2 ⟨i, q, hki⟩
            rw [hn] at this; cases this
        have hja : j < a := by
          rcases Nat.lt_or_ge j a with q | q
          · exact q
          · exfalso
            rcases Nat.lt_or_ge i a with q2 | q2
            · have := hm i j (by omega) hj; omega
            · have h1 := g3 i q2 hi2
              have h2 := hm a j q hj
              omega
        exact hall j hja
      · intro hv
        cases hc : (k.drop (gEnd l a)).contains true with
        | false => rfl
        | true =>
          exfalso
          obtain ⟨i, h1, h2⟩ := contains_true.1 hc
          have hi : i < l.length := by
            rcases Nat.lt_or_ge i k.length with q | q
            · omega
            · rw [K_ge q] at h2; cases h2
          refine hno ha' fun j h3 h4 => hv i hi h2 j (by omega) ?_
          have e1 := g3 j h3 h4
          have e2 := g4 (by omega)
          have e3 := hm (gEnd l a) i h1 hi
          have e4 := hm a (gEnd l a) (by omega) (by omega)
          omega
  · intro J hJ
    refine lfp_invh (I := fun μ σ h' => ∃ a : Nat, σ = ((a : Int), ()) ∧ a ≤ l.length ∧ (∀ j, j < a → Cr.K k j = true) ∧ (∀ j, j < a → a < l.length → E l j < E l a) ∧ h' = h1 ∧ μ = l.length - a) ⟨_, 0, rfl, by omega, fun j hj => by omega, fun j hj => by omega, rfl, rfl⟩ ?_
    rintro μ σ h2 X ⟨a, rfl, ha, hall, hlo, rfl, em⟩ hX
    simp only
    by_cases ha' : a < l.length
    · obtain ⟨g1, g2, g3, g4⟩ := gEnd_spec ha'
      rw [show decide ((a : Int) < (s.len : Int)) = true by rw [l1]; exact dlt_t ha', brB_true]
      refine callF_of (groupF kb (hA.ext x1) hl ha') ?_
      rintro r hq ⟨er, rfl⟩
      have er : r = (gEnd l a : Int) := er
      subst er
      refine ⟨by omega, by simp only; omega, by omega, by omega, ?_⟩
      rw [Int.toNat_natCast, Int.toNat_natCast]
      have hS := rsl_sub (hB.ext x1) (l := a) (m := gEnd l a) (by omega) (by omega)
      refine call_of (contains_bool hS (by simp; omega) false) ?_
      rintro r hq ⟨er, rfl⟩
      have er : r = ((k.take (gEnd l a)).drop a).contains false := er
      subst er
      cases hc : ((k.take (gEnd l a)).drop a).contains false with
      | true =>
        simp only [Bool.not_true, brB_false]
        refine hJ _ _ ⟨rfl, a, rfl, ha, hall, hlo, fun _ hh => ?_⟩
        rw [(contains_false (by omega)).2 hh] at hc; cases hc
      | false =>
        simp only [Bool.not_false, brB_true]
        have hg := (contains_false (by omega)).1 hc
        refine callF_of (groupF kb (hA.ext x1) hl ha') ?_
        rintro r hq ⟨er, rfl⟩
        have er : r = (gEnd l a : Int) := er
        subst er
        refine hX _ _ _ ⟨gEnd l a, rfl, g2, fun j hj => ?_, fun j hj hlt => ?_, rfl, rfl⟩ (by omega)
        · rcases Nat.lt_or_ge j a with q | q
          · exact hall j q
          · exact hg j q hj
        · have e2 := g4 hlt
          have e4 := hm a (gEnd l a) (by omega) (by omega)
          rcases Nat.lt_or_ge j a with q | q
          · have := hm j a (by omega) (by omega); omega
          · have := g3 j q hj; omega
    · rw [show decide ((a : Int) < (s.len : Int)) = false by rw [l1]; exact dlt_f ha', brB_false]
      exact hJ _ _ ⟨rfl, a, rfl, ha, hall, hlo, fun q => absurd q ha'⟩

theorem Valid_c (hA : At h (le l s)) (hB : At h (lb k s2)) (hl : l.length ≤ 1099511627776) :
    callT Try.prog fn_crash_Valid #[.slice s.a s.len s.cap, .slice s2.a s2.len s2.cap] (.tup (.cons .bool (.cons (.int .i64) .nil))) (fun r h' => r = ((validP l k).1, (validP l k).2, ()) ∧ Ext [] h h') h := by
  refine callT_gen fun K hK => S_crash_Valid (a0 := s) (a1 := s2) K ?_
  unfold F_crash_Valid
  refine call_of (check_c hA hB hl) ?_
  rintro r h1 ⟨er, x1⟩
  have er : r = checkC l k := er
  subst er
  unfold validP at hK
  by_cases h0 : checkC l k = 0
  · rw [show (checkC l k != 0) = false by simp [h0], brB_false]
    rw [if_pos h0] at hK
    have hr : rightL l = true ∧ k.length = l.length := by
      unfold checkC at h0; split at h0
      · rename_i hr; split at h0
        · exact ⟨hr, by assumption⟩
        · simp at h0
      · simp at h0
    refine call_of (valid_c (hA.ext x1) (hB.ext x1) hl hr.2 (right_mono hr.1)) ?_
    rintro _ h2 ⟨rfl, x2⟩
    exact hK _ _ ⟨rfl, x1.nil_trans x2⟩
  · rw [show (checkC l k != 0) = true by simp [h0], brB_true]
    rw [if_neg h0] at hK
    exact hK _ _ ⟨rfl, x1⟩

theorem check_right (h0 : checkC l k = 0) : rightL l = true ∧ k.length = l.length := by
  unfold checkC at h0; split at h0
  · rename_i hr; split at h0
    · exact ⟨hr, by assumption⟩
    · simp at h0
  · simp at h0

theorem pairs_c (hA : At h (le l s)) (hB : At h (lb k s2)) (hl : l.length ≤ 1099511627776) :
    callT Try.prog fn_crash_Pairs #[.slice s.a s.len s.cap, .slice s2.a s2.len s2.cap] (.tup (.cons .bool (.cons (.int .i64) .nil))) (fun r h' => r = ((validP l k).1, (validP l k).2, ()) ∧ Ext [] h h') h := by
  refine callT_gen fun K hK => S_crash_Pairs (a0 := s) (a1 := s2) K ?_
  unfold F_crash_Pairs
  have l1 := rsn_len hA
  have l2 := rsl_len hB
  refine call_of (check_c hA hB hl) ?_
  rintro r h1 ⟨er, x1⟩
  have er : r = checkC l k := er
  subst er
  unfold validP at hK
  by_cases h0 : checkC l k = 0
  · rw [show (checkC l k != 0) = false by simp [h0], brB_false]
    rw [if_pos h0] at hK
    obtain ⟨hr, hk⟩ := check_right h0
    have hm := right_mono hr
    have st := (Hs.start h [le l s, lb k s2] (by simp [hA, hB])).ext x1
    refine jn_mid (fun σ h' => Ext [] h h' ∧ σ.2.1 = vld l k) ?_ ?_
    · rintro σ h2 ⟨x2, e⟩
      simp only [e]
      exact hK _ _ ⟨rfl, x2⟩
    · intro J hJ
      refine lfp_invh (I := fun μ σ h' => ∃ i : Nat, σ = ((i : Int), true, ()) ∧ i ≤ l.length ∧ (∀ a, a < i → Cr.K k a = true → ∀ j, j < l.length → E l j < E l a → Cr.K k j = true) ∧ Hs [([], h)] [le l s, lb k s2] [] h' ∧ μ = l.length - i)
        ⟨_, 0, rfl, by omega, fun a ha => by omega, st, rfl⟩ ?_
      clear st
      rintro μ σ h2 X ⟨i, rfl, hi, hn, st, em⟩ hX
      simp only
      by_cases hlt : i < l.length
      · rw [show decide ((i : Int) < (s.len : Int)) = true by rw [l1]; exact dlt_t hlt, brB_true, inc_i (show i < 4611686018427387904 by omega)]
        -- the entry is all right
        refine jn_mid (fun σ h' => σ = (true, ()) ∧ (Cr.K k i = true → ∀ j, j < l.length → E l j < E l i → Cr.K k j = true) ∧ Hs [([], h)] [le l s, lb k s2] [] h') ?_ ?_
        · rintro σ h3 ⟨rfl, hc, st⟩
          refine hX _ _ _ ⟨i + 1, rfl, by omega, fun a ha => ?_, st, rfl⟩ (by omega)
          rcases Nat.lt_or_ge a i with q | q
          · exact hn a q
          · have : a = i := by omega
            subst this; exact hc
        · intro J2 hJ2
          refine Hs.rdEnt st (st.fz 0 rfl) hlt fun b h3 st => ?_
          refine rdE (τ := .bool) (st.fz 1 rfl) (show i < k.length by omega) ?_
          rw [← K_get (show i < k.length by omega)]
          cases hki : Cr.K k i with
          | false =>
            simp only [Bool.not_false, brB_true]
            exact hJ2 _ _ ⟨rfl, (fun h => by rw [hki] at h; cases h), st.drop 0 rfl⟩
          | true =>
            simp only [Bool.not_true, brB_false]
            refine lfp_invh (I := fun μ σ h' => ∃ j : Nat, σ = ((j : Int), true, ()) ∧ j ≤ l.length ∧ (∀ a, a < j → E l a < E l i ∧ Cr.K k a = true) ∧ Hs [([], h)] [le l s, lb k s2] [cE b l[i]] h' ∧ μ = l.length - j)
              ⟨_, 0, rfl, by omega, fun a ha => by omega, st, rfl⟩ ?_
            clear st
            rintro μ σ h4 X2 ⟨j, rfl, hj, hn2, st, em⟩ hX2
            simp only
            by_cases hlt2 : j < l.length
            · rw [show decide ((j : Int) < (s.len : Int)) = true by rw [l1]; exact dlt_t hlt2, brB_true, inc_i (show j < 4611686018427387904 by omega)]
              refine Hs.rdEnt st (st.fz 0 rfl) hlt2 fun b2 h5 st => ?_
              simp only [addr_add, Nat.zero_add]
              rw [st.ldi 1 2 rfl rfl, st.ldi 0 2 rfl rfl, ← E_get hlt, ← E_get hlt2]
              by_cases hge : E l j ≥ E l i
              · rw [decide_eq_true hge, brB_true]
                refine hJ2 _ _ ⟨rfl, fun _ a ha hla => (hn2 a ?_).2, (st.drop 1 rfl).drop 0 rfl⟩
                rcases Nat.lt_or_ge a j with q | q
                · exact q
                · have := hm j a q ha; omega
              · rw [decide_eq_false hge, brB_false]
                refine rdE (τ := .bool) (st.fz 1 rfl) (show j < k.length by omega) ?_
                rw [← K_get (show j < k.length by omega)]
                cases hkj : Cr.K k j with
                | false =>
                  simp only [Bool.not_false, brB_true]
                  refine hJ _ _ ⟨st.frame (by simp), ?_⟩
                  simp only
                  symm; rw [← Bool.not_eq_true, vld_iff]
                  intro hv
                  have := hv i hlt hki j hlt2 (by omega)
                  rw [hkj] at this; cases this
                | true =>
                  simp only [Bool.not_true, brB_false]
                  refine hX2 _ _ _ ⟨j + 1, rfl, by omega, fun a ha => ?_, st.drop 1 rfl, rfl⟩ (by omega)
                  rcases Nat.lt_or_ge a j with q | q
                  · exact hn2 a q
                  · have : a = j := by omega
                    subst this; exact ⟨by omega, hkj⟩
            · rw [show decide ((j : Int) < (s.len : Int)) = false by rw [l1]; exact dlt_f hlt2, brB_false]
              exact hJ2 _ _ ⟨rfl, fun _ a ha hla => (hn2 a (by omega)).2, st.drop 0 rfl⟩
      · rw [show decide ((i : Int) < (s.len : Int)) = false by rw [l1]; exact dlt_f hlt, brB_false]
        refine hJ _ _ ⟨st.frame (by simp), ?_⟩
        symm; rw [vld_iff]
        exact fun a ha hka j hj hla => hn a (by omega) hka j hj hla
  · rw [show (checkC l k != 0) = true by simp [h0], brB_true]
    rw [if_neg h0] at hK
    exact hK _ _ ⟨rfl, x1⟩

theorem fits1_c {b : Nat} (kb : Blk h b ty_sl_bitword_Word [.slice s2.a s2.len s2.cap]) (x : Ent) :
    callT Try.prog fn_crash_fits_1 #[.agg #[.int .i64 x.1, .int .u32 x.2.1, .int .i64 x.2.2.1], .pointer (some ⟨b, 0, none⟩)] .bool (fun r h' => r = decide (x.1 ≥ (s2.len : Int)) ∧ Ext [] h h') h := by
  refine callT_gen fun K hK => S_crash_fits_1 (a0 := x) (c0 := ⟨b, 0, none⟩) K ?_
  unfold F_crash_fits_1
  have st := Hs.start h [] (by simp)
  refine st.nw fun b0 h1 st => ?_
  rw [st.ldi 0 0 rfl rfl]
  have kb' := kb.ext (st.frame (by simp)) (by simp)
  rw [ld_sl (i := 0) kb' rfl]
  exact hK _ _ ⟨rfl, st.frame (by simp)⟩

theorem indexFunc_ent {fv : Value} {p : Ent → Bool} (hA : At h (le l s)) (hl : l.length ≤ 1099511627776) (hp : PredOkN Try.prog tE fv p l h) :
    callT Try.prog fn_slices_IndexFunc_disk_Entry_disk_Entry #[.slice s.a s.len s.cap, fv] (.int .i64) (fun r h' => r = fidx p l ∧ Ext [] h h') h :=
  callT_gen fun K hK => S_slices_IndexFunc_disk_Entry_disk_Entry (a0 := s) (a1 := fv) K (w_indexFuncN (τ := tE) hA hl hp fun h' x => hK _ _ ⟨rfl, x⟩)
theorem containsFunc_ent {fv : Value} {p : Ent → Bool} (hA : At h (le l s)) (hl : l.length ≤ 1099511627776) (hp : PredOkN Try.prog tE fv p l h) :
    callT Try.prog fn_slices_ContainsFunc_disk_Entry_disk_Entry #[.slice s.a s.len s.cap, fv] .bool (fun r h' => r = l.any p ∧ Ext [] h h') h := by
  refine callT_gen fun K hK => S_slices_ContainsFunc_disk_Entry_disk_Entry (a0 := s) (a1 := fv) K ?_
  unfold F_slices_ContainsFunc_disk_Entry_disk_Entry
  refine call_of (indexFunc_ent hA hl hp) ?_
  rintro r h' ⟨er, x⟩
  have er : r = fidx p l := er
  subst er
  exact hK _ _ ⟨fidx_ge _ _, x⟩

theorem fits_c (hA : At h (le l s)) (hW : At h (lw m s2)) (hl : l.length ≤ 1099511627776) :
    callT Try.prog fn_crash_fits #[.slice s2.a s2.len s2.cap, .slice s.a s.len s.cap] .bool (fun r h' => r = fitsP m.length l ∧ Ext [] h h') h := by
  refine callT_gen fun K hK => S_crash_fits (a0 := s2) (a1 := s) K ?_
  unfold F_crash_fits
  rw [nw_eq]
  have x0 : Ext [] h (h.push (.cells #[(.slice s2.a s2.len s2.cap)] ty_sl_bitword_Word)) := (Ext.refl' [] h).push _
  have kb : Blk _ h.size ty_sl_bitword_Word [.slice s2.a s2.len s2.cap] := Blk.new h _ #[.slice s2.a s2.len s2.cap]
  refine call_of (containsFunc_ent (p := fun x => decide (x.1 ≥ (m.length : Int))) (hA.ext x0) hl fun x _ h' x' => ?_) ?_
  · refine callF_func (call_of (fits1_c (kb.ext x' (by simp)) x) fun r h2 ⟨e, e2⟩ => ⟨?_, e2⟩)
    have e : r = decide (x.1 ≥ (s2.len : Int)) := e
    rw [e, rsl_len hW]
  · rintro _ h2 ⟨rfl, x2⟩
    exact hK _ _ ⟨rfl, x0.nil_trans x2⟩

theorem Hs.clone_bool {K : Sl → HP} (st : Hs fr G As h) (hy : At h (lb k s)) (hlen : k.length ≤ 1099511627776) (hK : ∀ s' h', Hs fr G (As ++ [ob k s']) h' → K s' h') :
    callT Try.prog fn_slices_Clone_bool_bool #[.slice s.a s.len s.cap] .sl K h :=
  S_slices_Clone_bool_bool (a0 := s) K (st.clone (τ := .bool) (by_ := 1) hy leaf_bool (by omega) (by decide) hK)
theorem Hs.clone_word {K : Sl → HP} (st : Hs fr G As h) (hy : At h (lw m s)) (hlen : m.length ≤ 1099511627776) (hK : ∀ s' h', Hs fr G (As ++ [ow m s']) h' → K s' h') :
    callT Try.prog fn_slices_Clone_bitword_Word_bitword_Word #[.slice s.a s.len s.cap] .sl K h :=
  S_slices_Clone_bitword_Word_bitword_Word (a0 := s) K (st.clone (τ := u32) (by_ := 4) hy leaf_int (by omega) (by decide) hK)

theorem set_toNat {m : List Int} {x : Int} (h0 : 0 ≤ x) (h1 : x < m.length) : x = ((x.toNat : Nat) : Int) ∧ x.toNat < m.length := by omega

theorem apply_c (hA : At h (le l s)) (hB : At h (lb k s2)) (hW : At h (lw m s3)) (hl : l.length ≤ 1099511627776) (hm : m.length ≤ 1099511627776) (hk : k.length = l.length) (hr : rightL l = true) (hf : fitsP m.length l = true) :
    callT Try.prog fn_crash_apply #[.slice s3.a s3.len s3.cap, .slice s.a s.len s.cap, .slice s2.a s2.len s2.cap] .sl (fun s' h' => New h.size h' (ow (applyP m l k) s') ∧ Ext [] h h') h := by
  refine callT_gen fun K hK => S_crash_apply (a0 := s3) (a1 := s) (a2 := s2) K ?_
  unfold F_crash_apply
  have l1 := rsn_len hA
  have st := Hs.start h [le l s, lb k s2] (by simp [hA, hB])
  refine Hs.clone_word st hW hm fun r0 h1 st => ?_
  refine lfp_invh (I := fun μ σ h' => ∃ i : Nat, σ = ((i : Int), ()) ∧ i ≤ l.length ∧ Hs [([], h)] [le l s, lb k s2] [ow (applyP m (l.take i) (k.take i)) r0] h' ∧ μ = l.length - i) ⟨_, 0, rfl, by omega, by simpa [applyP] using st, rfl⟩ ?_
  clear st
  rintro μ σ h2 X ⟨i, rfl, hi, st, em⟩ hX
  simp only
  by_cases hlt : i < l.length
  · rw [show decide ((i : Int) < (s.len : Int)) = true by rw [l1]; exact dlt_t hlt, brB_true, inc_i (show i < 4611686018427387904 by omega)]
    refine Hs.rdEnt st (st.fz 0 rfl) hlt fun b h3 st => ?_
    refine rdE (τ := .bool) (st.fz 1 rfl) (show i < k.length by omega) ?_
    rw [← K_get (show i < k.length by omega)]
    refine jn_mid (fun σ h' => Hs [([], h)] [le l s, lb k s2] [ow (applyP m (l.take (i + 1)) (k.take (i + 1))) r0] h') ?_ ?_
    · rintro σ h4 st
      exact hX _ _ _ ⟨i + 1, rfl, by omega, st, rfl⟩ (by omega)
    · intro J hJ
      have hbl := right_bl hr (List.getElem_mem hlt)
      have hfl : l[i].1 < m.length := by
        unfold fitsP at hf
        simp only [Bool.not_eq_true', List.any_eq_false, decide_eq_true_eq] at hf
        have := hf _ (List.getElem_mem hlt); omega
      rw [applyP_step hlt hk] at hJ
      cases hki : Cr.K k i with
      | true =>
        rw [if_pos hki] at hJ
        rw [brB_true]
        simp only [addr_add, Nat.zero_add]
        rw [st.ldi 1 0 rfl rfl, st.ldi 1 1 rfl rfl]
        obtain ⟨e1, e2⟩ := set_toNat (m := applyP m (l.take i) (k.take i)) hbl.1 (by rw [applyP_len]; exact hfl)
        rw [e1]
        refine st.wrE (τ := u32) 0 rfl e2 _ fun h4 st => ?_
        exact hJ _ _ (st.drop 1 rfl)
      | false =>
        rw [if_neg (by simp [hki])] at hJ
        rw [brB_false]
        exact hJ _ _ (st.drop 1 rfl)
  · rw [show decide ((i : Int) < (s.len : Int)) = false by rw [l1]; exact dlt_f hlt, brB_false]
    rw [List.take_of_length_le (show l.length ≤ i by omega), List.take_of_length_le (show k.length ≤ i by omega)] at st
    exact hK _ _ ⟨st.res (by simp) 0 rfl, st.frame (by simp)⟩

theorem Apply_c (hA : At h (le l s)) (hB : At h (lb k s2)) (hW : At h (lw m s3)) (hl : l.length ≤ 1099511627776) (hm : m.length ≤ 1099511627776) :
    callT Try.prog fn_crash_Apply #[.slice s3.a s3.len s3.cap, .slice s.a s.len s.cap, .slice s2.a s2.len s2.cap] (.tup (.cons .sl (.cons (.int .i64) .nil)))
      (fun r h' => ∃ s', r = (s', (applyC m l k).2, ()) ∧ New h.size h' (ow (applyC m l k).1 s') ∧ Ext [] h h') h := by
  refine callT_gen fun K hK => S_crash_Apply (a0 := s3) (a1 := s) (a2 := s2) K ?_
  unfold F_crash_Apply
  refine call_of (check_c hA hB hl) ?_
  rintro r h1 ⟨er, x1⟩
  have er : r = checkC l k := er
  subst er
  unfold applyC at hK
  by_cases h0 : checkC l k = 0
  · rw [show (checkC l k != 0) = false by simp [h0], brB_false]
    rw [if_pos h0] at hK
    obtain ⟨hr, hk⟩ := check_right h0
    refine call_of (fits_c (hA.ext x1) (hW.ext x1) hl) ?_
    rintro _ h2 ⟨rfl, x2⟩
    have x2 := x1.nil_trans x2
    cases hf : fitsP m.length l with
    | false => simp only [Bool.not_false, brB_true]; exact hK _ _ ⟨⟨none, 0, 0⟩, by simp [hf], by rw [hf]; exact osl_nil _ _, x2⟩
    | true =>
      simp only [Bool.not_true, brB_false]
      refine call_of (apply_c (hA.ext x2) (hB.ext x2) (hW.ext x2) hl hm hk hr hf) ?_
      rintro s' h3 ⟨n, x3⟩
      exact hK _ _ ⟨s', by simp [hf], by rw [hf]; exact n.mono x2.1, x2.nil_trans x3⟩
  · rw [show (checkC l k != 0) = true by simp [h0], brB_true]
    rw [if_neg h0] at hK
    exact hK _ _ ⟨⟨none, 0, 0⟩, rfl, osl_nil _ _, x1⟩

end Go.Proofs.S
