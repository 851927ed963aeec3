/-
  The reference of rup: without, Trim: contracts.
-/
import Derived.Test.YtjkgncibelojnaaGreatRaW
import Derived.Test.YtjkgncibelojnaaGreatRaU
import Derived.Test.YtjkgncibelojnaaGreatRuG
import Derived.Test.YtjkgncibelojnaaGreatSxG
set_option linter.unusedVariables false
set_option linter.unusedSimpArgs false
namespace Go.Proofs.S
open Go Go.Sx Go.Proofs Go.Cl Go.Rp
variable {h : Heap} {c d A us : List Int} {cs ds hs : List (List Int)} {s s2 : Sl} {fr : Fr} {G As : List Asn} {b : Nat}
abbrev ndB (hs : List (List Int)) (us : List Int) (j : Nat) : Bool := (neededP hs us).contains j
def exB (hs : List (List Int)) (us : List Int) (t k : Nat) : Bool := (List.range k).any fun q => decide (t < q) && ndB hs us q && (hs.getD q []).contains (-(us.getD t 0))
def St1 (hs : List (List Int)) (us : List Int) (t : Nat) (xs : List Bool) : Prop := xs.length = hs.length ∧ ∀ j, j < hs.length → xs[j]? = some (decide (t ≤ j) && ndB hs us j)
def St2 (hs : List (List Int)) (us : List Int) (t k : Nat) (xs : List Bool) : Prop := xs.length = hs.length ∧ ∀ j, j < hs.length → xs[j]? = some (if j = t then exB hs us t k else decide (t ≤ j) && ndB hs us j)
theorem ndB_iff {j : Nat} : ndB hs us j = true ↔ Nd hs us j := by rw [ndB, List.contains_iff_mem]; exact mem_needed
theorem ndB_last (hl : hs.length = us.length + 1) : ndB hs us us.length = true := ndB_iff.2 (.last (by omega) (Nat.le_refl _))
theorem exB_none (t : Nat) : exB hs us t (t + 1) = false := by
  unfold exB
  rw [List.any_eq_false]
  intro q hq
  rw [List.mem_range] at hq
  simp; omega
theorem exB_succ (t k : Nat) (h : t < k) : exB hs us t (k + 1) = (exB hs us t k || (ndB hs us k && (hs.getD k []).contains (-(us.getD t 0)))) := by
  unfold exB
  rw [List.range_succ, List.any_append]
  simp [h]
theorem exB_all {t : Nat} (ht : t < us.length) (hl : hs.length = us.length + 1) : exB hs us t hs.length = ndB hs us t := by
  rw [Bool.eq_iff_iff, ndB_iff]
  unfold exB
  rw [List.any_eq_true]
  constructor
  · rintro ⟨q, hq, h⟩
    rw [List.mem_range] at hq
    simp only [Bool.and_eq_true, decide_eq_true_eq, List.contains_iff_mem] at h
    exact .next h.1.1 hq (ndB_iff.1 (by rw [ndB, List.contains_iff_mem]; exact h.1.2)) ht h.2
  · intro h
    cases h with
    | last h1 h2 => omega
    | next h1 h2 h3 h4 h5 =>
      rename_i k
      refine ⟨k, List.mem_range.2 h2, ?_⟩
      simp only [Bool.and_eq_true, decide_eq_true_eq, List.contains_iff_mem]
      exact ⟨⟨h1, by have := ndB_iff.2 h3; rwa [ndB, List.contains_iff_mem] at this⟩, h5⟩
abbrev bo (xs : List Bool) (s : Sl) : Asn := osl ty_bool Ty.bool.enc xs s
theorem without_c (hA : At h (lli hs s)) (hB : At h (li us s2)) (hl : hs.length = us.length + 1) (hrt : ∀ x ∈ us, rt x = true) (hrl : ∀ c ∈ hs, c.length ≤ 1048576) (hb : hs.length ≤ 1048576) :
    callT Tryz.prog fn_salvorref08_without #[.slice s.a s.len s.cap, .slice s2.a s2.len s2.cap] .sl (fun s' h' => New h.size h' (iox (nats (neededP hs us)) s') ∧ Ext [] h h') h := by
  refine callT_gen fun K hK => S_salvorref08_without (a0 := s) (a1 := s2) K ?_
  unfold F_salvorref08_without
  have st := Hs.start h [lli hs s, li us s2] (by simp [hA, hB])
  have ls := rsg_len hA
  have ls2 := rsl_len hB
  rw [ls]
  refine Hs.mks1 (τ := .bool) (t := ty_bool) (z := false) st (by omega) (by decide) fun s0 h1 st => ?_
  have l0 : s0.len = hs.length := by have := osl_len (st.own 0 rfl); simpa using this
  rw [show IntKind.wrap .i64 ((hs.length : Int) - 1) = ((us.length : Nat) : Int) by rw [wrap_i64 (by omega) (by omega)]; omega]
  rw [show IntKind.wrap .i64 ((hs.length : Int) - 2) = (us.length : Int) - 1 by rw [wrap_i64 (by omega) (by omega)]; omega]
  refine st.wrE (τ := .bool) 0 rfl (i := us.length) (by simp; omega) true fun h2 st => ?_
  have st0 : St1 hs us us.length ((List.replicate hs.length false).set us.length true) := by
    refine ⟨by simp, fun j hj => ?_⟩
    by_cases e : us.length = j
    · subst e
      rw [List.getElem?_set_self (by simp; omega), ndB_last hl]; simp
    · rw [List.getElem?_set_ne e, List.getElem?_replicate, if_pos hj, decide_eq_false (by omega)]; rfl
  refine lfp_invh (I := fun m σ h' => ∃ (t : Nat) (xs : List Bool), σ = ((t : Int) - 1, ()) ∧ t ≤ us.length ∧ m = t ∧ St1 hs us t xs ∧ Hs [([], h)] [lli hs s, li us s2] [bo xs s0] h')
    ⟨_, us.length, _, rfl, Nat.le_refl _, rfl, st0, st⟩ ?_
  clear st
  rintro m σ h3 X ⟨t, xs, rfl, ht, rfl, hst, st⟩ hX
  simp only
  cases m with
  | succ t =>
    have et : ((t + 1 : Nat) : Int) - 1 = (t : Int) := by omega
    rw [et]
    refine brT (decide_eq_true (show (t : Int) ≥ 0 by omega)) ?_
    rw [inc_i (by omega)]
    have st2 : St2 hs us t (t + 1) xs := by
      refine ⟨hst.1, fun j hj => ?_⟩
      rw [hst.2 j hj]
      by_cases e : j = t
      · subst e; rw [if_pos rfl, exB_none, decide_eq_false (by omega)]; rfl
      · rw [if_neg e]
        congr 2
        by_cases h : t + 1 ≤ j
        · rw [decide_eq_true h, decide_eq_true (by omega)]
        · rw [decide_eq_false h, decide_eq_false (by omega)]
    refine lfp_invh (I := fun m σ h' => ∃ (k : Nat) (xs : List Bool), σ = ((k : Int), ()) ∧ t < k ∧ k ≤ hs.length ∧ m = hs.length - k ∧ St2 hs us t k xs ∧ Hs [([], h)] [lli hs s, li us s2] [bo xs s0] h')
      ⟨_, t + 1, xs, rfl, by omega, by omega, rfl, st2, st⟩ ?_
    clear st st2 hst
    rintro m σ h4 Y ⟨k, xs, rfl, htk, hk, rfl, hst, st⟩ hY
    simp only
    by_cases hlt : k < hs.length
    · refine brT (dlt_t hlt) ?_
      rw [inc_i (by omega)]
      have hkx : k < xs.length := by rw [hst.1]; exact hlt
      have ek : xs[k] = ndB hs us k := by
        have := hst.2 k hlt
        rw [List.getElem?_eq_getElem hkx, if_neg (by omega), decide_eq_true (by omega), Bool.true_and] at this
        exact Option.some.inj this
      refine rdE (τ := .bool) (st.own 0 rfl).rsl hkx ?_
      rw [ek]
      have keep : exB hs us t (k + 1) = exB hs us t k → Y (((k + 1 : Nat) : Int), ()) h4 := fun he => by
        refine hY _ _ _ ⟨k + 1, xs, rfl, by omega, by omega, rfl, ⟨hst.1, fun j hj => ?_⟩, st⟩ (by omega)
        rw [hst.2 j hj, he]
      have es := exB_succ (hs := hs) (us := us) t k htk
      cases hn : ndB hs us k
      · rw [hn, Bool.false_and, Bool.or_false] at es
        exact brF rfl (jn_in fun J hJ => hJ _ _ (keep es))
      · rw [hn, Bool.true_and, getD_lt hlt, getD_lt (show t < us.length by omega)] at es
        refine brT rfl ?_
        rw [← ls]
        refine rdG (st.fz 0 rfl) hlt fun p hp => ?_
        refine rdE (τ := i64) (st.fz 1 rfl) (show t < us.length by omega) ?_
        rw [wneg (hrt _ (List.getElem_mem _))]
        refine call_of (r8_has_c hp (by have := hrl _ (List.getElem_mem hlt); omega) _) ?_
        rintro _ h5 ⟨rfl, e⟩; subst e
        refine jn_in fun J hJ => ?_
        cases hcn : hs[k].contains (-us[t])
        · rw [hcn, Bool.or_false] at es
          exact brF rfl (hJ _ _ (keep es))
        · rw [hcn, Bool.or_true] at es
          refine brT rfl ?_
          refine st.wrE (τ := .bool) 0 rfl (i := t) (by rw [hst.1]; omega) true fun h6 st => ?_
          refine hJ _ _ (hY _ _ _ ⟨k + 1, _, rfl, by omega, by omega, rfl, ⟨by simp [hst.1], fun j hj => ?_⟩, st⟩ (by omega))
          by_cases e : t = j
          · subst e
            rw [List.getElem?_set_self (by rw [hst.1]; omega), if_pos rfl, es]
          · rw [List.getElem?_set_ne e, hst.2 j hj, if_neg (fun k => e k.symm), if_neg (fun k => e k.symm)]
    · refine brF (dlt_f hlt) ?_
      have : k = hs.length := by omega
      subst this
      rw [show IntKind.wrap .i64 ((t : Int) - 1) = (t : Int) - 1 from wrap_i64 (by omega) (by omega)]
      refine hX _ _ _ ⟨t, xs, rfl, by omega, rfl, ⟨hst.1, fun j hj => ?_⟩, st⟩ (by omega)
      rw [hst.2 j hj]
      by_cases e : j = t
      · subst e; rw [if_pos rfl, exB_all (by omega) hl, decide_eq_true (Nat.le_refl _), Bool.true_and]
      · rw [if_neg e]
  | zero =>
    refine brF (decide_eq_false (by show ¬ (((0 : Nat) : Int) - 1 ≥ 0); omega)) ?_
    have hx : ∀ j (hj : j < hs.length) (h2 : j < xs.length), xs[j] = ndB hs us j := fun j hj h2 => by
      have := hst.2 j hj
      rw [List.getElem?_eq_getElem h2, decide_eq_true (by omega), Bool.true_and] at this
      exact Option.some.inj this
    have st := st.nil ty_int i64.enc none
    refine lfp_invh (I := fun m σ h' => ∃ (i : Nat) (o : Sl), σ = ((i : Int), o, ()) ∧ i ≤ hs.length ∧ m = hs.length - i ∧ Hs [([], h)] [lli hs s, li us s2] [bo xs s0, iox (nats ((List.range i).filter (ndB hs us))) o] h')
      ⟨_, 0, ⟨none, 0, 0⟩, rfl, by omega, rfl, st⟩ ?_
    clear st
    rintro m σ h5 Y ⟨i, o, rfl, hi, rfl, st⟩ hY
    simp only
    by_cases hlt : i < hs.length
    · refine brT (dlt_t hlt) ?_
      rw [inc_i (by omega)]
      have h2 : i < xs.length := by rw [hst.1]; exact hlt
      refine rdE (τ := .bool) (st.own 0 rfl).rsl h2 ?_
      rw [hx i hlt h2]
      refine jn_in fun J hJ => ?_
      have ef : (List.range (i + 1)).filter (ndB hs us) = (List.range i).filter (ndB hs us) ++ (if ndB hs us i then [i] else []) := by
        rw [List.range_succ, List.filter_append]
        simp only [List.filter_cons, List.filter_nil]
      have hle := List.length_filter_le (ndB hs us) (List.range i)
      rw [List.length_range] at hle
      cases hn : ndB hs us i
      · rw [hn] at ef
        simp only [Bool.false_eq_true, if_false, List.append_nil] at ef
        refine brF rfl (hJ _ _ (hY _ _ _ ⟨i + 1, o, rfl, by omega, rfl, ?_⟩ (by omega)))
        rw [ef]; exact st
      · rw [hn] at ef
        simp only [if_true] at ef
        refine brT rfl ?_
        refine st.nw fun b24 h6 st => ?_
        refine st.apd (enc := i64.enc) (v := (i : Int)) 1 2 rfl rfl (by decide) rfl (by simp [nats]; omega) (by decide) rfl fun s25 h7 st => ?_
        have st := st.drop 2 rfl
        refine hJ _ _ (hY _ _ _ ⟨i + 1, s25, rfl, by omega, rfl, ?_⟩ (by omega))
        rw [show nats ((List.range (i + 1)).filter (ndB hs us)) = nats ((List.range i).filter (ndB hs us)) ++ [(i : Int)] by rw [ef]; simp [nats]]
        exact st
    · refine brF (dlt_f hlt) ?_
      have : i = hs.length := by omega
      subst this
      have e : (List.range hs.length).filter (ndB hs us) = neededP hs us := needed_eq (List.Pairwise.filter _ List.pairwise_lt_range) fun x => by
        rw [List.mem_filter, List.mem_range, ndB_iff]
        exact ⟨fun h => h.2, fun h => ⟨h.lt, h⟩⟩
      rw [e] at st
      have st := st.drop 0 rfl
      exact hK _ _ ⟨st.res (by simp) 0 rfl, st.frame (by simp)⟩
end Go.Proofs.S
namespace Go.Proofs.S
open Go Go.Sx Go.Proofs Go.Cl Go.Rp
variable {h : Heap} {c d A us : List Int} {cs ds hs : List (List Int)} {s s2 s3 : Sl} {fr : Fr} {G As : List Asn} {b : Nat}
end Go.Proofs.S
namespace Go.Proofs.S
open Go Go.Sx Go.Proofs Go.Cl Go.Rp
variable {h : Heap} {c d A us : List Int} {cs ds hs : List (List Int)} {s s2 s3 : Sl} {fr : Fr} {G As : List Asn} {b : Nat}
def Sc (A : List Int) (cs : List (List Int)) (i : Nat) (x kind best : Int) : Prop :=
  (∃ j, (cs.take i).findIdx? (fun c => (lookP A c).1 == 2) = some j ∧ kind = 2 ∧ best = j ∧ x = 0) ∨
  ((cs.take i).findIdx? (fun c => (lookP A c).1 == 2) = none ∧ ∃ j, (cs.take i).findIdx? (fun c => (lookP A c).1 == 3) = some j ∧ kind = 3 ∧ best = j ∧ x = (lookP A (cs.getD j [])).2) ∨
  ((cs.take i).findIdx? (fun c => (lookP A c).1 == 2) = none ∧ (cs.take i).findIdx? (fun c => (lookP A c).1 == 3) = none ∧ kind = 9 ∧ best = -1 ∧ x = 0)
theorem fi_succ {p : List Int → Bool} {i : Nat} (hi : i < cs.length) : (cs.take (i + 1)).findIdx? p = ((cs.take i).findIdx? p).or (if p cs[i] then some i else none) := by
  rw [take_lt hi, List.findIdx?_append]
  congr 1
  simp only [List.findIdx?_cons, List.findIdx?_nil]
  cases p cs[i]
  · rfl
  · simp; omega
theorem Sc.step {i : Nat} {x kind best : Int} (sc : Sc A cs i x kind best) (hi : i < cs.length) :
    if ((lookP A cs[i]).1 = 2 ∨ (lookP A cs[i]).1 = 3) ∧ (lookP A cs[i]).1 < kind then Sc A cs (i + 1) (lookP A cs[i]).2 (lookP A cs[i]).1 (i : Int) else Sc A cs (i + 1) x kind best := by
  have e2 := fi_succ (p := fun c => (lookP A c).1 == 2) hi
  have e3 := fi_succ (p := fun c => (lookP A c).1 == 3) hi
  rcases sc with ⟨j, h1, rfl, rfl, rfl⟩ | ⟨h1, j, h2, rfl, rfl, rfl⟩ | ⟨h1, h2, rfl, rfl, rfl⟩
  · rw [if_neg (by omega)]
    exact .inl ⟨j, by rw [e2, h1]; rfl, rfl, rfl, rfl⟩
  · by_cases hk : (lookP A cs[i]).1 = 2
    · rw [if_pos ⟨.inl hk, by omega⟩]
      exact .inl ⟨i, by rw [e2, h1]; simp [hk], hk, rfl, look_snd (by omega)⟩
    · rw [if_neg (by omega)]
      exact .inr (.inl ⟨by rw [e2, h1]; simp [hk], j, by rw [e3, h2]; rfl, rfl, rfl, rfl⟩)
  · by_cases hk : (lookP A cs[i]).1 = 2
    · rw [if_pos ⟨.inl hk, by omega⟩]
      exact .inl ⟨i, by rw [e2, h1]; simp [hk], hk, rfl, look_snd (by omega)⟩
    · by_cases hk3 : (lookP A cs[i]).1 = 3
      · rw [if_pos ⟨.inr hk3, by omega⟩]
        exact .inr (.inl ⟨by rw [e2, h1]; simp [hk], i, by rw [e3, h2]; simp [hk3], hk3, rfl, by rw [getD_lt hi]⟩)
      · rw [if_neg (by omega)]
        exact .inr (.inr ⟨by rw [e2, h1]; simp [hk], by rw [e3, h2]; simp [hk3], rfl, rfl, rfl⟩)
theorem Sc.done {x kind best : Int} (sc : Sc A cs cs.length x kind best) : (nextP A cs = none ∧ best = -1) ∨ (∃ j : Nat, nextP A cs = some (j, x) ∧ best = j ∧ ((kind = 2 ∧ x = 0) ∨ (kind = 3 ∧ ∃ hj : j < cs.length, lookP A cs[j] = (3, x)))) := by
  unfold Sc at sc
  rw [List.take_length] at sc
  rcases sc with ⟨j, h1, rfl, rfl, rfl⟩ | ⟨h1, j, h2, rfl, rfl, rfl⟩ | ⟨h1, h2, rfl, rfl, rfl⟩
  · exact .inr ⟨j, by unfold nextP; rw [h1], rfl, .inl ⟨rfl, rfl⟩⟩
  · obtain ⟨hj, h3, _⟩ := List.findIdx?_eq_some_iff_getElem.1 h2
    refine .inr ⟨j, by unfold nextP; rw [h1, h2]; rfl, rfl, .inr ⟨rfl, hj, ?_⟩⟩
    rw [getD_lt hj]
    exact Prod.ext (by simpa using h3) rfl
  · exact .inl ⟨by unfold nextP; rw [h1, h2]; rfl, rfl⟩
abbrev hix (ps : List Sl) (taken : List Nat) (s : Sl) : Asn := osl ty_sl_int Ty.sl.enc (hdrs ps taken) s
set_option maxRecDepth 4000 in
theorem r8_Find_c (hA : At h (li c s)) (hB : At h (lli cs s2)) (hc : rightC c = true) (hr : ∀ d ∈ cs, rightC d = true) (hl2 : cs.length ≤ 65536) (hf : fuelP cs ≤ 500000) :
    callT Tryz.prog fn_salvorref08_Find #[.slice s.a s.len s.cap, .slice s2.a s2.len s2.cap] (.tup (.cons .sl (.cons .bool .nil)))
      (fun r h' => ∃ s', r = (s', (findP c cs).2.1, ()) ∧ New h.size h' (nio (findP c cs).1 s') ∧ Ext [] h h') h := by
  refine callT_gen fun K hK => S_salvorref08_Find (a0 := s) (a1 := s2) K ?_
  unfold F_salvorref08_Find
  obtain ⟨ps, lp, hps, hrow⟩ := lli_open hB
  let GG : List Asn := li c s :: lli cs s2 :: rsl Ty.sl.enc ps s2 :: rows cs ps
  have st : Hs [([], h)] GG [] h := Hs.start h GG (by
    intro A hA'
    simp only [GG, List.mem_cons] at hA'
    rcases hA' with rfl | rfl | rfl | hA'
    · exact hA
    · exact hB
    · exact hps
    · exact rows_at lp hrow _ hA')
  have bad : ∀ {ok : Bool} {e : Int} {h'} {As : List Asn}, Hs [([], h)] GG As h' → findP c cs = ([], ok, e) → K (⟨none, 0, 0⟩, ok, ()) h' := by
    intro ok e h' As st he
    exact hK _ _ ⟨⟨none, 0, 0⟩, by rw [he], by rw [he]; exact osl_nil _ _, st.frame (by simp)⟩
  refine call_of (r8_assume_c (st.fz 0 rfl) hc) ?_
  rintro _ h5 ⟨s5, rfl, n5, x5⟩
  have st := st.new x5 n5
  have eF0 := find_eq hc hr hl2
  cases ha : alwaysC c
  rotate_left
  · have eS : assumeP c = ([], true, 0) := by unfold assumeP; rw [hc, ha]; rfl
    rw [eS] at st ⊢
    rw [ha, if_pos rfl] at eF0
    exact brT rfl (bad st eF0)
  have eS : assumeP c = (negs c, false, 0) := by unfold assumeP; rw [hc, ha]; rfl
  rw [eS] at st ⊢
  refine brF rfl ?_
  have hno := okA_negs hc ha
  have hnl : (negs c).length ≤ 4096 := by
    unfold negs; rw [List.length_map]; have := nrm_length c; have := rightC_len hc; omega
  have hrt := rts hr
  have eF : findP c cs = match findGo cs (fuelP cs) (negs c) [] [] with
    | none => ([], false, (0 : Int))
    | some (taken, units) => ((neededP (taken.map fun i => cs.getD i []) units).map fun k => taken.getD k 0, true, (0 : Int)) := by
    rw [eF0, ha, if_neg (by simp)]
    cases findGo cs (fuelP cs) (negs c) [] [] <;> rfl
  have st := st.nil ty_int i64.enc none
  have st := st.nil ty_sl_int Ty.sl.enc none
  have st := st.nil ty_int i64.enc none
  refine lfp_invh (I := fun m σ h' => ∃ (n : Nat) (taken : List Nat) (units : List Int) (u Hh T a : Sl) (r : Bool × Sl × Unit), σ = (Hh, u, T, a, r) ∧ m = n ∧ meas (negs c ++ units) cs < n ∧ Run (negs c) cs taken units ∧
      findGo cs n (negs c ++ units) taken units = findGo cs (fuelP cs) (negs c) [] [] ∧ taken.length + n ≤ fuelP cs ∧
      Hs [([], h)] GG [iox (negs c ++ units) a, iox units u, hix ps taken Hh, nio taken T] h')
    ⟨_, fuelP cs, [], [], ⟨none, 0, 0⟩, ⟨none, 0, 0⟩, ⟨none, 0, 0⟩, s5, _, rfl, rfl, meas_le _ _, Run.nil hno, by rw [List.append_nil], by simp, by rw [List.append_nil]; exact st⟩ ?_
  clear st
  rintro m σ h' X ⟨n, taken, units, u, Hh, T, a, r, rfl, rfl, hme, run, hg, hbud, st⟩ hX
  simp only
  obtain ⟨n, rfl⟩ : ∃ n', m = n' + 1 := ⟨m - 1, by omega⟩
  simp only [findGo] at hg
  have ls2 := rsg_len (st.fz 1 rfl)
  have ltk := run.len
  refine lfp_invh (I := fun m σ h' => ∃ (i : Nat) (x kind best : Int), σ = ((i : Int), x, kind, best, ()) ∧ i ≤ cs.length ∧ m = cs.length - i ∧ Sc (negs c ++ units) cs i x kind best ∧ Hs [([], h)] GG [iox (negs c ++ units) a, iox units u, hix ps taken Hh, nio taken T] h')
    ⟨_, 0, 0, 9, -1, rfl, by omega, rfl, .inr (.inr ⟨by simp, by simp, rfl, rfl, rfl⟩), st⟩ ?_
  clear st
  rintro m σ h6 Y ⟨i, x, kind, best, rfl, hi, rfl, sc, st⟩ hY
  simp only
  by_cases hlt : i < cs.length
  · refine brT (by rw [ls2]; exact dlt_t hlt) ?_
    rw [inc_i (by omega)]
    refine rdG (st.fz 1 rfl) hlt fun p hp => ?_
    have hri := hr _ (List.getElem_mem hlt)
    refine call_of (r8_look_c hp (st.own 0 rfl).rsl (rightC_rt hri) (by have := rightC_len hri; omega) (by simp; omega)) ?_
    rintro _ h7 ⟨rfl, x7⟩
    have st := st.ext x7
    have stp := sc.step hlt
    refine jn_mid (M := fun t h' => t = decide ((lookP (negs c ++ units) cs[i]).1 = 2 ∨ (lookP (negs c ++ units) cs[i]).1 = 3) ∧ h' = h7) ?_ ?_
    rotate_left
    · intro J hJ
      by_cases h2 : (lookP (negs c ++ units) cs[i]).1 = 2
      · exact brT (by simpa using h2) (hJ _ _ ⟨(decide_eq_true (.inl h2)).symm, rfl⟩)
      · refine brF (by simpa using h2) (hJ _ _ ⟨?_, rfl⟩)
        by_cases h3 : (lookP (negs c ++ units) cs[i]).1 = 3
        · rw [decide_eq_true (.inr h3)]; simpa using h3
        · rw [decide_eq_false (by simp [h2, h3])]; simpa using h3
    rintro _ h8 ⟨rfl, e⟩; subst e
    refine jn_mid (M := fun t h' => t = decide (((lookP (negs c ++ units) cs[i]).1 = 2 ∨ (lookP (negs c ++ units) cs[i]).1 = 3) ∧ (lookP (negs c ++ units) cs[i]).1 < kind) ∧ h' = h8) ?_ ?_
    rotate_left
    · intro J hJ
      by_cases h2 : (lookP (negs c ++ units) cs[i]).1 = 2 ∨ (lookP (negs c ++ units) cs[i]).1 = 3
      · refine brT (decide_eq_true h2) (hJ _ _ ⟨?_, rfl⟩)
        by_cases h3 : (lookP (negs c ++ units) cs[i]).1 < kind
        · rw [decide_eq_true h3, decide_eq_true ⟨h2, h3⟩]
        · rw [decide_eq_false h3, decide_eq_false (fun k => h3 k.2)]
      · exact brF (decide_eq_false h2) (hJ _ _ ⟨(decide_eq_false (fun k => h2 k.1)).symm, rfl⟩)
    rintro _ h9 ⟨rfl, e⟩; subst e
    refine jn_in fun J hJ => ?_
    by_cases ht : ((lookP (negs c ++ units) cs[i]).1 = 2 ∨ (lookP (negs c ++ units) cs[i]).1 = 3) ∧ (lookP (negs c ++ units) cs[i]).1 < kind
    · rw [if_pos ht] at stp
      exact brT (decide_eq_true ht) (hJ _ _ (hY _ _ _ ⟨i + 1, _, _, _, rfl, by omega, rfl, stp, st⟩ (by omega)))
    · rw [if_neg ht] at stp
      exact brF (decide_eq_false ht) (hJ _ _ (hY _ _ _ ⟨i + 1, _, _, _, rfl, by omega, rfl, stp, st⟩ (by omega)))
  refine brF (by rw [ls2]; exact dlt_f hlt) ?_
  have ei : i = cs.length := by omega
  subst ei
  rcases sc.done with ⟨hn, rfl⟩ | ⟨j, hn, rfl, hkx⟩
  · rw [hn] at hg
    refine brT rfl (bad (e := 0) st ?_)
    rw [eF, ← hg]
  · rw [hn] at hg
    simp only at hg
    obtain ⟨hj, hmv⟩ := next_some hn
    refine brF (decide_eq_false (show ¬ ((j : Int) < 0) by omega)) ?_
    have hjp : j < ps.length := by omega
    have lh : (hdrs ps taken).length = taken.length := by simp [hdrs]
    have ln : (nats taken).length = taken.length := by simp [nats]
    have eH : hdrs ps taken ++ [ps[j]] = hdrs ps (taken ++ [j]) := by simp only [hdrs, List.map_append, List.map_cons, List.map_nil]; rw [getD_lt hjp]
    have eT : nats taken ++ [(j : Int)] = nats (taken ++ [j]) := by simp [nats]
    refine st.nw fun b14 h8 st => ?_
    refine st.apd 3 4 rfl rfl (by decide) rfl (by omega) (by decide) rfl fun s15 h9 st => ?_
    have st := st.drop 4 rfl
    refine rdE (τ := .sl) (st.fz 2 rfl) hjp ?_
    refine st.nw fun b18 h10 st => ?_
    refine st.apd 2 4 rfl rfl (by decide) rfl (by omega) (by decide) rfl fun s19 h11 st => ?_
    have st := st.drop 4 rfl
    rw [eH, eT] at st
    have hall : ∀ k ∈ taken ++ [j], k < cs.length := by
      intro k hk
      rcases List.mem_append.1 hk with hk | hk
      · exact run.lt k hk
      · simp at hk; omega
    have hur : ∀ x ∈ units, rt x = true := fun x hx => (okA_iff.1 run.ok).1 x (List.mem_append_right _ hx)
    by_cases hx : x = 0
    · rw [if_pos hx] at hg
      have hk2 : kind = 2 := by
        rcases hkx with ⟨k, _⟩ | ⟨_, _, h3⟩
        · exact k
        · have := rt_iff.1 (hrt _ (List.getElem_mem hj) _ (look_unit.1 h3).2.1)
          exact absurd hx this.1
      refine brT (by simpa using hk2) ?_
      have hrow' : ∀ i (h1 : i < cs.length) (h2 : i < ps.length), At h11 (li cs[i] ps[i]) := fun i h1 h2 => st.fzm (List.mem_cons_of_mem _ (List.mem_cons_of_mem _ (List.mem_cons_of_mem _ (rows_mem h1 h2))))
      refine call_of (without_c (hdrs_lli lp hall (st.own 2 rfl).rsl hrow') (st.own 1 rfl).rsl (by simp [ltk]) hur ?_ (by simp; omega)) ?_
      · intro d hd
        rw [List.mem_map] at hd
        obtain ⟨k, hk, rfl⟩ := hd
        rw [getD_lt (hall k hk)]
        have := rightC_len (hr _ (List.getElem_mem (hall k hk))); omega
      rintro r16 h12 ⟨n9, x9⟩
      have st := st.new x9 n9
      have st := st.nil ty_int i64.enc none
      have hnd := fun k (hk : k ∈ neededP ((taken ++ [j]).map fun i => cs.getD i []) units) => (mem_needed.1 hk).lt
      have hlen : (neededP ((taken ++ [j]).map fun i => cs.getD i []) units).length ≤ (taken ++ [j]).length := by
        have := rise_len (n := 0) (m := (taken ++ [j]).length) (sorted_needed ((taken ++ [j]).map fun i => cs.getD i []) units) fun k hk => ⟨by omega, by simpa using hnd k hk⟩
        rcases this with h1 | h1
        · omega
        · rw [h1]; simp
      generalize eN : neededP ((taken ++ [j]).map fun i => cs.getD i []) units = N at *
      have ls := osl_len (st.own 4 rfl)
      simp only [nats, List.length_map] at ls
      refine lfp_invh (I := fun m σ h' => ∃ (q : Nat) (o : Sl), σ = ((q : Int), o, ()) ∧ q ≤ N.length ∧ m = N.length - q ∧
          Hs [([], h)] GG [iox (negs c ++ units) a, iox units u, hix ps (taken ++ [j]) s19, nio (taken ++ [j]) s15, nio N r16, nio ((N.take q).map fun k => (taken ++ [j]).getD k 0) o] h')
        ⟨_, 0, ⟨none, 0, 0⟩, rfl, by omega, rfl, st⟩ ?_
      clear st
      rintro m σ h13 X2 ⟨q, o, rfl, hq, rfl, st⟩ hX2
      simp only
      by_cases hjl : q < N.length
      · refine brT (by rw [ls]; exact decide_eq_true (by omega)) ?_
        refine rdE (τ := i64) (st.own 4 rfl).rsl (i := q) (by simpa [nats] using hjl) ?_
        have hk := hnd N[q] (List.getElem_mem hjl)
        simp only [List.length_map] at hk
        have e1 : (nats N)[q]'(by simpa [nats] using hjl) = ((N[q] : Nat) : Int) := by simp [nats]
        rw [e1]
        refine rdE (τ := i64) (st.own 3 rfl).rsl (i := N[q]) (by simpa [nats] using hk) ?_
        have e2 : (nats (taken ++ [j]))[N[q]]'(by simpa [nats] using hk) = (((taken ++ [j]).getD N[q] 0 : Nat) : Int) := by
          rw [getD_lt hk]; simp only [nats, List.getElem_map]
        rw [e2]
        refine st.nw fun b23 h10 st => ?_
        refine st.apd 5 6 rfl rfl (by decide) rfl (by simp at hlen ⊢; omega) (by decide) rfl fun s24 h11 st => ?_
        have st := st.drop 6 rfl
        rw [inc_i (by simp at hlen; omega)]
        refine hX2 _ _ _ ⟨q + 1, s24, rfl, by omega, rfl, ?_⟩ (by omega)
        have e3 : nats ((N.take q).map fun k => (taken ++ [j]).getD k 0) ++ [(((taken ++ [j]).getD N[q] 0 : Nat) : Int)] = nats ((N.take (q + 1)).map fun k => (taken ++ [j]).getD k 0) := by
          rw [take_lt hjl]; simp only [nats, List.map_append, List.map_cons, List.map_nil]
        have st := st
        rw [show osl ty_int i64.enc (nats ((N.take q).map fun k => (taken ++ [j]).getD k 0) ++ [(((taken ++ [j]).getD N[q] 0 : Nat) : Int)]) s24 = nio ((N.take (q + 1)).map fun k => (taken ++ [j]).getD k 0) s24 from by rw [e3]] at st
        exact st
      · refine brF (by rw [ls]; exact decide_eq_false (by omega)) ?_
        have : q = N.length := by omega
        subst this
        rw [List.take_length] at st
        have st := ((((st.drop 4 rfl).drop 3 rfl).drop 2 rfl).drop 1 rfl).drop 0 rfl
        have e : findP c cs = (N.map fun k => (taken ++ [j]).getD k 0, true, 0) := by rw [eF, ← hg]; show (List.map _ (neededP _ _), _, _) = _; rw [eN]
        exact hK _ _ ⟨o, by rw [e], by rw [e]; exact st.res (by simp) 0 rfl, st.frame (by simp)⟩
    · rw [if_neg hx] at hg
      have h3 := hmv.resolve_left (fun k => hx k.1)
      have hk3 : kind = 3 := by
        rcases hkx with ⟨_, k⟩ | ⟨k, _⟩
        · exact absurd k hx
        · exact k
      refine brF (by simp [hk3]) ?_
      obtain ⟨u1, u2, u3, u4⟩ := look_unit.1 h3
      have hml := meas_lt (A := negs c ++ units) (l := cs) (x := x) (List.mem_flatten.2 ⟨_, List.getElem_mem hj, u2⟩) (u1 x u2) u3
      refine st.nw fun b29 h12 st => ?_
      refine st.apd 1 4 rfl rfl (by decide) rfl (by omega) (by decide) rfl fun s30 h13 st => ?_
      have st := st.drop 4 rfl
      refine st.nw fun b31 h14 st => ?_
      refine st.apd 0 4 rfl rfl (by decide) rfl (by simp; omega) (by decide) rfl fun s32 h15 st => ?_
      have st := st.drop 4 rfl
      rw [List.append_assoc] at hml hg
      refine hX _ _ _ ⟨n, taken ++ [j], units ++ [x], s30, s19, s15, s32, r, rfl, rfl, by omega, run.snoc hrt hj h3, hg, by simp; omega, ?_⟩ (by omega)
      rw [← List.append_assoc]; exact st
end Go.Proofs.S
namespace Go.Proofs.S
open Go Go.Sx Go.Proofs Go.Cl Go.Rp Go.Rt
variable {h : Heap} {c d A ids : List Int} {l : List Ent} {gs : List Grp} {s s2 s3 s4 s5 sc : Sl} {fr : Fr} {G As : List Asn} {id p : Int} {i : Nat}
theorem r9_named_c {at_ : List Nat} (hA : At h (ent l s)) (hB : At h (nio at_ s2)) (hin : ∀ i ∈ at_, i < l.length) (hl : at_.length ≤ 1099511627776) :
    callT Tryz.prog fn_salvorref09_named #[.slice s.a s.len s.cap, .slice s2.a s2.len s2.cap] .sl (fun s' h' => New h.size h' (nio' (named l at_) s') ∧ Ext [] h h') h := by
  refine callT_gen fun K hK => S_salvorref09_named (a0 := s) (a1 := s2) K ?_
  unfold F_salvorref09_named
  have hB : At h (li (nats at_) s2) := hB.rsl
  have st := Hs.start h [ent l s, li (nats at_) s2] (by simp [hA, hB])
  have l2 := rsl_len hB
  simp only [nats, List.length_map] at l2
  have st := st.nil ty_int i64.enc none
  simp only [List.nil_append] at st
  refine lfp_invh (I := fun m σ h' => ∃ (i : Nat) (so : Sl), σ = ((i : Int), so, ()) ∧ i ≤ at_.length ∧ Hs [([], h)] [ent l s, li (nats at_) s2] [nio' (named l (at_.take i)) so] h' ∧ m = at_.length - i)
    ⟨_, 0, _, rfl, by omega, st, rfl⟩ ?_
  clear st
  rintro m σ h1 X ⟨i, so, rfl, hi, st, rfl⟩ hX
  simp only
  by_cases hlt : i < at_.length
  · refine brT (by rw [l2]; exact dlt_t hlt) ?_
    refine rdE (τ := i64) (i := i) (st.fz 1 rfl) (by simpa [nats] using hlt) ?_
    have e : (nats at_)[i]'(by simpa [nats] using hlt) = ((at_[i] : Nat) : Int) := by simp [nats]
    rw [e]
    have hk := hin _ (List.getElem_mem hlt)
    refine rdPri (st.fz 0 rfl) hk ?_
    refine st.nw fun b6 h2 st => ?_
    simp only [List.cons_append, List.nil_append] at st
    refine st.apd (v := l[at_[i]].1) 0 1 rfl rfl (by decide) rfl (by simp [named]; omega) (by decide) rfl fun s7 h3 st => ?_
    simp only [List.set_cons_zero, List.set_cons_succ] at st
    rw [inc_i (by omega)]
    refine hX _ _ _ ⟨i + 1, s7, rfl, by omega, ?_, rfl⟩ (by omega)
    have et : at_.take (i + 1) = at_.take i ++ [at_[i]] := by simp
    have en : named l (at_.take (i + 1)) = named l (at_.take i) ++ [l[at_[i]].1] := by
      rw [et]
      unfold named
      rw [List.map_append, List.map_singleton, List.getD_eq_getElem?_getD, List.getElem?_eq_getElem hk]; rfl
    rw [en]
    exact st.drop 1 rfl
  · refine brF (by rw [l2]; exact dlt_f hlt) ?_
    rw [List.take_of_length_le (by omega)] at st
    exact hK _ _ ⟨st.res (by simp) 0 rfl, st.frame (by simp)⟩
end Go.Proofs.S
namespace Go.Proofs.S
open Go Go.Sx Go.Proofs Go.Cl Go.Rp Go.Rt
variable {h h0 : Heap} {c d A ids : List Int} {l : List Ent} {gs : List Grp} {s s2 s3 s4 s5 sc : Sl} {fr : Fr} {G As : List Asn} {id p : Int} {i b12 : Nat}
def PrW (a0 : Sl) (b12 : Nat) (K : Sl → HP) (A0 : Sl) : HP :=
 lfp (σ := (Bool × (Sl × Unit))) (fun X13 s14 =>
 brB s14.1
 (lfp (σ := (Int × (Bool × (Sl × Unit)))) (fun X15 s16 =>
 jn (σ := Bool) (fun t18 =>
 brB t18
 (sx a0.a a0.len s16.1 2 fun p19 =>
 ldT .sl (p19.add 1) fun x20 =>
 callT Tryz.prog fn_salvorref08_Look #[(.slice x20.a x20.len x20.cap), (.slice s16.2.2.1.a s16.2.2.1.len s16.2.2.1.cap)] (.tup (.cons (.int .i64) (.cons (.int .i64) .nil))) fun r21 =>
 jn (σ := (Bool × (Sl × Unit))) (fun s23 =>
 X15 ((IntKind.wrap .i64 (s16.1 + (1 : Int))), s23.1, ⟨s23.2.1.a, s23.2.1.len, s23.2.1.cap⟩, ()))
 (fun J22 =>
 brB (r21.1 == (3 : Int))
 (nw #[(.int .i64 r21.2.1)] ty_int fun b24 =>
 apd ty_int 1 8 #[(.int .i64 (0 : Int))] ⟨s16.2.2.1.a, s16.2.2.1.len, s16.2.2.1.cap⟩ ⟨(some (⟨b24, 0, none⟩ : Addr)), 1, 1⟩ fun s25 =>
 ldT .sl ((⟨b12, 0, none⟩ : Addr).add 1) fun x26 =>
 sx a0.a a0.len s16.1 2 fun p27 =>
 ldT (.int .i64) p27 fun x28 =>
 nw #[(.int .i64 x28)] ty_int fun b29 =>
 apd ty_int 1 8 #[(.int .i64 (0 : Int))] ⟨x26.a, x26.len, x26.cap⟩ ⟨(some (⟨b29, 0, none⟩ : Addr)), 1, 1⟩ fun s30 =>
 st1 ((⟨b12, 0, none⟩ : Addr).add 1) (.slice s30.a s30.len s30.cap) <|
 J22 (true, ⟨s25.a, s25.len, s25.cap⟩, ()))
 (J22 (s16.2.1, ⟨s16.2.2.1.a, s16.2.2.1.len, s16.2.2.1.cap⟩, ()))))
 (X13 (s16.2.1, ⟨s16.2.2.1.a, s16.2.2.1.len, s16.2.2.1.cap⟩, ())))
 (fun J17 =>
 brB (decide (s16.1 < (a0.len : Int)))
 (J17 ((!s16.2.1)))
 (J17 false)))
 ((0 : Int), false, ⟨s14.2.1.a, s14.2.1.len, s14.2.1.cap⟩, ()))
 (K s14.2.1))
 (true, ⟨A0.a, A0.len, A0.cap⟩, ())
theorem prop_find (hlt : i < l.length) (hn : ∀ x ∈ l.take i, (lookP A x.2).1 ≠ 3) (h3 : (lookP A l[i].2).1 = 3) (n : Nat) : propGo l (n + 1) A ids = propGo l n (A ++ [(lookP A l[i].2).2]) (ids ++ [l[i].1]) := by
  rw [propGo]
  have : l.find? (fun x => (lookP A x.2).1 == 3) = some l[i] := by
    rw [List.find?_eq_some_iff_getElem]
    refine ⟨by simpa using h3, i, hlt, rfl, fun j hj => ?_⟩
    have := hn l[j] (List.mem_take_iff_getElem.2 ⟨j, by omega, rfl⟩)
    simpa using this
  rw [this]
theorem prop_none (hn : ∀ x ∈ l, (lookP A x.2).1 ≠ 3) (n : Nat) : propGo l (n + 1) A ids = (A, ids) := by
  rw [propGo]
  have : l.find? (fun x => (lookP A x.2).1 == 3) = none := by
    rw [List.find?_eq_none]
    intro x hx; simpa using hn x hx
  rw [this]
set_option maxRecDepth 20000 in
set_option maxHeartbeats 1000000 in
theorem prW_c {v0 v2 w0 w1 w2 : Value} {b0 : Nat} {K : Sl → HP} (hE : rightE l = true) (ge : G[0]? = some (ent l s)) (ho : okA c = true) (hcl : c.length ≤ 4096) (hf : fuelE l ≤ 1000000)
    (st : Hs [([], h0)] G [cl b12 ty_salvorref09_Step [v0, .slice none 0 0, v2], nio' c s2, nio' [] ⟨none, 0, 0⟩, cl b0 ty_salvorref09_Step [w0, w1, w2]] h)
    (hK : ∀ sA sI h', Hs [([], h0)] G [cl b12 ty_salvorref09_Step [v0, .slice sI.a sI.len sI.cap, v2], nio' (propGo l (fuelE l) c []).1 sA, nio' (propGo l (fuelE l) c []).2 sI, cl b0 ty_salvorref09_Step [w0, w1, w2]] h' → K sA h') : PrW s b12 K s2 h := by
  unfold PrW
  have ls := rsp_len (st.fz 0 ge)
  have hll := rightE_len hE
  refine lfp_invh (I := fun m σ h' => ∃ (n : Nat) (more : Bool) (A ids : List Int) (sA sI : Sl), σ = (more, sA, ()) ∧ okA A = true ∧ (if more then propGo l n A ids else (A, ids)) = propGo l (fuelE l) c [] ∧ meas A (clsE l) < n ∧ A.length + n ≤ 4096 + fuelE l ∧ ids.length + n ≤ fuelE l ∧
      Hs [([], h0)] G [cl b12 ty_salvorref09_Step [v0, .slice sI.a sI.len sI.cap, v2], nio' A sA, nio' ids sI, cl b0 ty_salvorref09_Step [w0, w1, w2]] h' ∧ m = if more then n + 1 else 0)
    ⟨_, fuelE l, true, c, [], s2, ⟨none, 0, 0⟩, rfl, ho, rfl, meas_le _ _, by omega, by simp, st, rfl⟩ ?_
  clear st
  rintro m σ h1 X ⟨n, more, A, ids, sA, sI, rfl, hoA, hg, hme, hAl, hil, st, rfl⟩ hX
  simp only
  cases more with
  | false =>
    have hg : (A, ids) = propGo l (fuelE l) c [] := hg
    rw [← hg] at hK
    exact brF rfl (hK _ _ _ st)
  | true =>
  refine brT rfl ?_
  have hg : propGo l n A ids = propGo l (fuelE l) c [] := hg
  obtain ⟨n, rfl⟩ : ∃ n', n = n' + 1 := ⟨n - 1, by omega⟩
  refine lfp_invh (I := fun m σ h' => ∃ (i : Nat) (mr : Bool) (A2 ids2 : List Int) (sA sI : Sl), σ = ((i : Int), mr, sA, ()) ∧ i ≤ l.length ∧
      ((mr = false ∧ A2 = A ∧ ids2 = ids ∧ ∀ x ∈ l.take i, (lookP A x.2).1 ≠ 3) ∨ (mr = true ∧ okA A2 = true ∧ propGo l n A2 ids2 = propGo l (fuelE l) c [] ∧ meas A2 (clsE l) < n ∧ A2.length = A.length + 1 ∧ ids2.length = ids.length + 1)) ∧
      Hs [([], h0)] G [cl b12 ty_salvorref09_Step [v0, .slice sI.a sI.len sI.cap, v2], nio' A2 sA, nio' ids2 sI, cl b0 ty_salvorref09_Step [w0, w1, w2]] h' ∧ m = l.length - i)
    ⟨_, 0, false, A, ids, sA, sI, rfl, by omega, .inl ⟨rfl, rfl, rfl, by simp⟩, st, rfl⟩ ?_
  clear st
  rintro m σ h2 Y ⟨i, mr, A2, ids2, sA, sI, rfl, hi, hor, st, rfl⟩ hY
  simp only
  have stop : (mr = true ∨ ¬ i < l.length) → X (mr, ⟨sA.a, sA.len, sA.cap⟩, ()) h2 := fun q => by
    rcases hor with ⟨rfl, rfl, rfl, hn⟩ | ⟨rfl, o2, g2, m2, l2, l3⟩
    · have hi2 : ¬ i < l.length := q.resolve_left (by simp)
      rw [List.take_of_length_le (by omega)] at hn
      rw [prop_none hn] at hg
      exact hX _ _ _ ⟨n + 1, false, A2, ids2, sA, sI, rfl, hoA, hg, by omega, by omega, by omega, st, rfl⟩ (by simp)
    · exact hX _ _ _ ⟨n, true, A2, ids2, sA, sI, rfl, o2, g2, m2, by omega, by omega, st, rfl⟩ (by simp)
  refine jn_in fun J hJ => ?_
  by_cases hlt : i < l.length
  rotate_left
  · exact brF (by rw [ls]; exact dlt_f hlt) (hJ _ _ (brF rfl (stop (.inr hlt))))
  refine brT (by rw [ls]; exact dlt_t hlt) ?_
  cases mr with
  | true => exact hJ _ _ (brF rfl (stop (.inl rfl)))
  | false =>
  obtain ⟨_, rfl, rfl, hn⟩ := hor.resolve_right (by rintro ⟨q, _⟩; cases q)
  refine hJ _ _ (brT rfl ?_)
  clear J hJ
  have hrc := rightE_lits hE _ (List.getElem_mem hlt)
  have hrl := rightC_len hrc
  refine rdPrs (st.fz 0 ge) hlt fun q hq => ?_
  refine call_of (r8_look_c hq (st.own 1 rfl).rsl (rightC_rt hrc) (by omega) (by omega)) ?_
  rintro _ h3 ⟨rfl, x3⟩
  have st := st.ext x3
  refine jn_in fun J hJ => ?_
  by_cases k3 : (lookP A2 l[i].2).1 = 3
  rotate_left
  · refine brF (by simpa using k3) (hJ _ _ ?_)
    rw [inc_i (by omega)]
    refine hY _ _ _ ⟨i + 1, false, A2, ids2, sA, sI, rfl, by omega, .inl ⟨rfl, rfl, rfl, fun x hx => ?_⟩, st, rfl⟩ (by omega)
    rw [take_lt hlt] at hx
    rcases List.mem_append.1 hx with hx | hx
    · exact hn x hx
    · simp only [List.mem_singleton] at hx; subst hx; exact k3
  refine brT (by simpa using k3) ?_
  have hu := look_unit' k3
  have hux := rightC_rt hrc _ hu.2.1
  have hoA2 := okA_snoc hoA hux hu.2.2.1
  have hml := meas_lt (A := A2) (l := clsE l) (x := (lookP A2 l[i].2).2) (List.mem_flatten.2 ⟨l[i].2, List.mem_map.2 ⟨l[i], List.getElem_mem hlt, rfl⟩, hu.2.1⟩) (hu.1 _ hu.2.1) hu.2.2.1
  rw [prop_find hlt hn k3] at hg
  refine st.nw fun b24 h4 st => ?_
  simp only [List.cons_append, List.nil_append] at st
  refine st.apd (v := (lookP A2 l[i].2).2) 1 4 rfl rfl (by decide) rfl (by omega) (by decide) rfl fun s25 h5 st => ?_
  simp only [List.set_cons_zero, List.set_cons_succ, addr_add, Nat.zero_add] at st ⊢
  rw [st.lds 0 1 rfl rfl]
  refine rdPri (st.fz 0 ge) hlt ?_
  refine st.nw fun b29 h6 st => ?_
  simp only [List.cons_append, List.nil_append] at st
  refine st.apd (v := l[i].1) 2 5 rfl rfl (by decide) rfl (by omega) (by decide) rfl fun s30 h7 st => ?_
  simp only [List.set_cons_zero, List.set_cons_succ] at st
  refine st.st1 0 1 rfl (by simp) fun h8 st => hJ _ _ ?_
  simp only [List.set_cons_zero, List.set_cons_succ] at st
  rw [inc_i (by omega)]
  refine hY _ _ _ ⟨i + 1, true, _, _, s25, s30, rfl, by omega, .inr ⟨rfl, hoA2, hg, by omega, by simp, by simp⟩, (st.drop 5 rfl).drop 4 rfl, rfl⟩ (by omega)
end Go.Proofs.S
