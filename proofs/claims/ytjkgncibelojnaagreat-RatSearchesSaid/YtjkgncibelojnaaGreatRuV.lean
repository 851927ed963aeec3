/-
  The reference of rup: without, Trim: contracts.
-/
import Derived.Test.YtjkgncibelojnaaGreatRaW
import Derived.Test.YtjkgncibelojnaaGreatRaU
import Derived.Test.YtjkgncibelojnaaGreatRuG
import Derived.Test.YtjkgncibelojnaaGreatSxG
set_option linter.unusedVariables false
set_option linter.unusedSimpArgs false
namespace Go.Proofs.S
open Go Go.Sx Go.Proofs Go.Cl Go.Rp

variable {h : Heap} {c d A us : List Int} {cs ds hs : List (List Int)} {s s2 : Sl} {fr : Fr} {G As : List Asn} {b : Nat}

abbrev ndB (hs : List (List Int)) (us : List Int) (j : Nat) : Bool := (neededP hs us).contains j
def exB (hs : List (List Int)) (us : List Int) (t k : Nat) : Bool := (List.range k).any fun q => decide (t < q) && ndB hs us q && (hs.getD q []).contains (-(us.getD t 0))
def St1 (hs : List (List Int)) (us : List Int) (t : Nat) (xs : List Bool) : Prop := xs.length = hs.length ∧ ∀ j, j < hs.length → xs[j]? = some (decide (t ≤ j) && ndB hs us j)
def St2 (hs : List (List Int)) (us : List Int) (t k : Nat) (xs : List Bool) : Prop := xs.length = hs.length ∧ ∀ j, j < hs.length → xs[j]? = some (if j = t then exB hs us t k else decide (t ≤ j) && ndB hs us j)

theorem ndB_iff {j : Nat} : ndB hs us j = true ↔ Nd hs us j := by rw [ndB, List.contains_iff_mem]; exact mem_needed
theorem ndB_last (hl : hs.length = us.length + 1) : ndB hs us us.length = true := ndB_iff.2 (.last (by omega) (Nat.le_refl _))
theorem exB_none (t : Nat) : exB hs us t (t + 1) = false := by
  unfold exB
  rw [List.any_eq_false]
  intro q hq
  rw [List.mem_range] at hq
  simp; omega
theorem exB_succ (t k : Nat) (h : t < k) : exB hs us t (k + 1) = (exB hs us t k || (ndB hs us k && (hs.getD k []).contains (-(us.getD t 0)))) := by
  unfold exB
  rw [List.range_succ, List.any_append]
  simp [h]
theorem exB_all {t : Nat} (ht : t < us.length) (hl : hs.length = us.length + 1) : exB hs us t hs.length = ndB hs us t := by
  rw [Bool.eq_iff_iff, ndB_iff]
  unfold exB
  rw [List.any_eq_true]
  constructor
  · rintro ⟨q, hq, h⟩
    rw [List.mem_range] at hq
    simp only [Bool.and_eq_true, decide_eq_true_eq, List.contains_iff_mem] at h
    exact .next h.1.1 hq (ndB_iff.1 (by rw [ndB, List.contains_iff_mem]; exact h.1.2)) ht h.2
  · intro h
    cases h with
    | last h1 h2 => omega
    | next h1 h2 h3 h4 h5 =>
      rename_i k
      refine ⟨k, List.mem_range.2 h2, ?_⟩
      simp only [Bool.and_eq_true, decide_eq_true_eq, List.contains_iff_mem]
      exact ⟨⟨h1, by have := ndB_iff.2 h3; rwa [ndB, List.contains_iff_mem] at this⟩, h5⟩

abbrev bo (xs : List Bool) (s : Sl) : Asn := osl ty_bool Ty.bool.enc xs s

theorem without_c (hA : At h (lli hs s)) (hB : At h (li us s2)) (hl : hs.length = us.length + 1) (hrt : ∀ x ∈ us, rt x = true) (hrl : ∀ c ∈ hs, c.length ≤ 1048576) (hb : hs.length ≤ 1048576) :
    callT Tryz.prog fn_salvorref08_without #[.slice s.a s.len s.cap, .slice s2.a s2.len s2.cap] .sl (fun s' h' => New h.size h' (iox (nats (neededP hs us)) s') ∧ Ext [] h h') h := by
  refine callT_gen fun K hK => S_salvorref08_without (a0 := s) (a1 := s2) K ?_
  unfold F_salvorref08_without
  have st := Hs.start h [lli hs s, li us s2] (by simp [hA, hB])
  have ls := rsg_len hA
  have ls2 := rsl_len hB
  rw [ls]
  refine Hs.mks1 (τ := .bool) (t := ty_bool) (z := false) st (by omega) (by decide) fun s0 h1 st => ?_
  have l0 : s0.len = hs.length := by have := osl_len (st.own 0 rfl); simpa using this
  rw [show IntKind.wrap .i64 ((hs.length : Int) - 1) = ((us.length : Nat) : Int) by rw [wrap_i64 (by omega) (by omega)]; omega]
  rw [show IntKind.wrap .i64 ((hs.length : Int) - 2) = (us.length : Int) - 1 by rw [wrap_i64 (by omega) (by omega)]; omega]
  refine st.wrE (τ := .bool) 0 rfl (i := us.length) (by simp; omega) true fun h2 st => ?_
  have st0 : St1 hs us us.length ((List.replicate hs.length false).set us.length true) := by
    refine ⟨by simp, fun j hj => ?_⟩
    by_cases e : us.length = j
    · subst e
      rw [List.getElem?_set_self (by simp; omega), ndB_last hl]; simp
    · rw [List.getElem?_set_ne e, List.getElem?_replicate, if_pos hj, decide_eq_false (by omega)]; rfl
  refine lfp_invh (I := fun m σ h' => ∃ (t : Nat) (xs : List Bool), σ = ((t : Int) - 1, ()) ∧ t ≤ us.length ∧ m = t ∧ St1 hs us t xs ∧ Hs [([], h)] [lli hs s, li us s2] [bo xs s0] h')
    ⟨_, us.length, _, rfl, Nat.le_refl _, rfl, st0, st⟩ ?_
  clear st
  rintro m σ h3 X ⟨t, xs, rfl, ht, rfl, hst, st⟩ hX
  simp only
  cases m with
  | succ t =>
    have et : ((t + 1 : Nat) : Int) - 1 = (t : Int) := by omega
    rw [et]
    refine brT (decide_eq_true (show (t : Int) ≥ 0 by omega)) ?_
    rw [inc_i (by omega)]
    have st2 : St2 hs us t (t + 1) xs := by
      refine ⟨hst.1, fun j hj => ?_⟩
      rw [hst.2 j hj]
      by_cases e : j = t
      · subst e; rw [if_pos rfl, exB_none, decide_eq_false (by omega)]; rfl
      · rw [if_neg e]
        congr 2
        by_cases h : t + 1 ≤ j
        · rw [decide_eq_true h, decide_eq_true (by omega)]
        · rw [decide_eq_false h, decide_eq_false (by omega)]
    refine lfp_invh (I := fun m σ h' => ∃ (k : Nat) (xs : List Bool), σ = ((k : Int), ()) ∧ t < k ∧ k ≤ hs.length ∧ m = hs.length - k ∧ St2 hs us t k xs ∧ Hs [([], h)] [lli hs s, li us s2] [bo xs s0] h')
      ⟨_, t + 1, xs, rfl, by omega, by omega, rfl, st2, st⟩ ?_
    clear st st2 hst
    rintro m σ h4 Y ⟨k, xs, rfl, htk, hk, rfl, hst, st⟩ hY
    simp only
    by_cases hlt : k < hs.length
    · refine brT (dlt_t hlt) ?_
      rw [inc_i (by omega)]
      have hkx : k < xs.length := by rw [hst.1]; exact hlt
      have ek : xs[k] = ndB hs us k := by
        have := hst.2 k hlt
        rw [List.getElem?_eq_getElem hkx, if_neg (by omega), decide_eq_true (by omega), Bool.true_and] at this
        exact Option.some.inj this
      refine rdE (τ := .bool) (st.own 0 rfl).rsl hkx ?_
      rw [ek]
      have keep : exB hs us t (k + 1) = exB hs us t k → Y (((k + 1 : Nat) : Int), ()) h4 := fun he => by
        refine hY _ _ _ ⟨k + 1, xs, rfl, by omega, by omega, rfl, ⟨hst.1, fun j hj => ?_⟩, st⟩ (by omega)
        rw [hst.2 j hj, he]
      have es := exB_succ (hs := hs) (us := us) t k htk
      cases hn : ndB hs us k
      · rw [hn, Bool.false_and, Bool.or_false] at es
        exact brF rfl (jn_in fun J hJ => hJ _ _ (keep es))
      · rw [hn, Bool.true_and, getD_lt hlt, getD_lt (show t < us.length by omega)] at es
        refine brT rfl ?_
        rw [← ls]
        refine rdG (st.fz 0 rfl) hlt fun p hp => ?_
        refine rdE (τ := i64) (st.fz 1 rfl) (show t < us.length by omega) ?_
        rw [wneg (hrt _ (List.getElem_mem _))]
        refine call_of (r8_has_c hp (by have := hrl _ (List.getElem_mem hlt); omega) _) ?_
        rintro _ h5 ⟨rfl, e⟩; subst e
        refine jn_in fun J hJ => ?_
        cases hcn : hs[k].contains (-us[t])
        · rw [hcn, Bool.or_false] at es
          exact brF rfl (hJ _ _ (keep es))
        · rw [hcn, Bool.or_true] at es
          refine brT rfl ?_
          refine st.wrE (τ := .bool) 0 rfl (i := t) (by rw [hst.1]; omega) true fun h6 st => ?_
          refine hJ _ _ (hY _ _ _ ⟨k + 1, _, rfl, by omega, by omega, rfl, ⟨by simp [hst.1], fun j hj => ?_⟩, st⟩ (by omega))
          by_cases e : t = j
          · subst e
            rw [List.getElem?_set_self (by rw [hst.1]; omega), if_pos rfl, es]
          · rw [List.getElem?_set_ne e, hst.2 j hj, if_neg (fun k => e k.symm), if_neg (fun k => e k.symm)]
    · refine brF (dlt_f hlt) ?_
      have : k = hs.length := by omega
      subst this
      rw [show IntKind.wrap .i64 ((t : Int) - 1) = (t : Int) - 1 from wrap_i64 (by omega) (by omega)]
      refine hX _ _ _ ⟨t, xs, rfl, by omega, rfl, ⟨hst.1, fun j hj => ?_⟩, st⟩ (by omega)
      rw [hst.2 j hj]
      by_cases e : j = t
      · subst e; rw [if_pos rfl, exB_all (by omega) hl, decide_eq_true (Nat.le_refl _), Bool.true_and]
      · rw [if_neg e]
  | zero =>
    refine brF (decide_eq_false (by show ¬ (((0 : Nat) : Int) - 1 ≥ 0); omega)) ?_
    have hx : ∀ j (hj : j < hs.length) (h2 : j < xs.length), xs[j] = ndB hs us j := fun j hj h2 => by
      have := hst.2 j hj
      rw [List.getElem?_eq_getElem h2, decide_eq_true (by omega), Bool.true_and] at this
      exact Option.some.inj this
    have st := st.nil ty_int i64.enc none
    refine lfp_invh (I := fun m σ h' => ∃ (i : Nat) (o : Sl), σ = ((i : Int), o, ()) ∧ i ≤ hs.length ∧ m = hs.length - i ∧ Hs [([], h)] [lli hs s, li us s2] [bo xs s0, iox (nats ((List.range i).filter (ndB hs us))) o] h')
      ⟨_, 0, ⟨none, 0, 0⟩, rfl, by omega, rfl, st⟩ ?_
    clear st
    rintro m σ h5 Y ⟨i, o, rfl, hi, rfl, st⟩ hY
    simp only
    by_cases hlt : i < hs.length
    · refine brT (dlt_t hlt) ?_
      rw [inc_i (by omega)]
      have h2 : i < xs.length := by rw [hst.1]; exact hlt
      refine rdE (τ := .bool) (st.own 0 rfl).rsl h2 ?_
      rw [hx i hlt h2]
      refine jn_in fun J hJ => ?_
      have ef : (List.range (i + 1)).filter (ndB hs us) = (List.range i).filter (ndB hs us) ++ (if ndB hs us i then [i] else []) := by
        rw [List.range_succ, List.filter_append]
        simp only [List.filter_cons, List.filter_nil]
      have hle := List.length_filter_le (ndB hs us) (List.range i)
      rw [List.length_range] at hle
      cases hn : ndB hs us i
      · rw [hn] at ef
        simp only [Bool.false_eq_true, if_false, List.append_nil] at ef
        refine brF rfl (hJ _ _ (hY _ _ _ ⟨i + 1, o, rfl, by omega, rfl, ?_⟩ (by omega)))
        rw [ef]; exact st
      · rw [hn] at ef
        simp only [if_true] at ef
        refine brT rfl ?_
        refine st.nw fun b24 h6 st => ?_
        refine st.apd (enc := i64.enc) (v := (i : Int)) 1 2 rfl rfl (by decide) rfl (by simp [nats]; omega) (by decide) rfl fun s25 h7 st => ?_
        have st := st.drop 2 rfl
        refine hJ _ _ (hY _ _ _ ⟨i + 1, s25, rfl, by omega, rfl, ?_⟩ (by omega))
        rw [show nats ((List.range (i + 1)).filter (ndB hs us)) = nats ((List.range i).filter (ndB hs us)) ++ [(i : Int)] by rw [ef]; simp [nats]]
        exact st
    · refine brF (dlt_f hlt) ?_
      have : i = hs.length := by omega
      subst this
      have e : (List.range hs.length).filter (ndB hs us) = neededP hs us := needed_eq (List.Pairwise.filter _ List.pairwise_lt_range) fun x => by
        rw [List.mem_filter, List.mem_range, ndB_iff]
        exact ⟨fun h => h.2, fun h => ⟨h.lt, h⟩⟩
      rw [e] at st
      have st := st.drop 0 rfl
      exact hK _ _ ⟨st.res (by simp) 0 rfl, st.frame (by simp)⟩

end Go.Proofs.S

set_option linter.unusedVariables false
set_option linter.unusedSimpArgs false
namespace Go.Proofs.S
open Go Go.Sx Go.Proofs Go.Cl Go.Rp

variable {h : Heap} {c d A us : List Int} {cs ds hs : List (List Int)} {s s2 s3 : Sl} {fr : Fr} {G As : List Asn} {b : Nat}

end Go.Proofs.S
