/-
  The laws of rup that do not use the reference, as statements of lists. No program here.
-/
import Derived.Test.YtcoeaaobbfbcjaaRpR
set_option linter.unusedVariables false
set_option linter.unusedSimpArgs false
namespace Go.Rp
open Go Go.Cl

variable {c : List Int} {hs ds : List (List Int)}

theorem wrong_f (hr : ∀ d ∈ hs, rightC d = true) : wrongP hs = false := by
  unfold wrongP; rw [Bool.not_eq_false', List.all_eq_true]; exact hr
theorem check_eq (hc : rightC c = true) (hr : ∀ d ∈ hs, rightC d = true) (hl : hs.length ≤ 65536) :
    checkP c hs = if alwaysC c = true then ([], 0, 0) else ((followP (negs c) hs).1, (followP (negs c) hs).2.1, if (followP (negs c) hs).2.2.2 = 0 ∧ (followP (negs c) hs).2.2.1 = false then 82 else (followP (negs c) hs).2.2.2) := by
  unfold checkP; rw [wrong_f hr, hc, if_neg (by simp), if_neg (by omega)]
theorem find_eq (hc : rightC c = true) (hr : ∀ d ∈ hs, rightC d = true) (hl : hs.length ≤ 65536) :
    findP c hs = if alwaysC c = true then ([], true, (0 : Int)) else match findGo hs (fuelP hs) (negs c) [] [] with
    | none => ([], false, (0 : Int))
    | some (taken, units) => ((neededP (taken.map fun i => hs.getD i []) units).map fun k => taken.getD k 0, true, (0 : Int)) := by
  unfold findP; rw [wrong_f hr, hc, if_neg (by simp), if_neg (by omega)]
  cases findGo hs (fuelP hs) (negs c) [] [] <;> rfl
theorem rts (hr : ∀ d ∈ hs, rightC d = true) : ∀ d ∈ hs, ∀ x ∈ d, rt x = true := fun d hd => rightC_rt (hr d hd)

theorem find_cases (hc : rightC c = true) (hr : ∀ d ∈ hs, rightC d = true) (hl : hs.length ≤ 65536) (ha : alwaysC c = false) :
    (findP c hs = ([], false, 0) ∧ ∃ B, okA B = true ∧ (∀ x ∈ negs c, x ∈ B) ∧ Closed B hs) ∨
    (∃ taken units i, ∃ hi : i < hs.length, Run (negs c) hs taken units ∧ (lookP (negs c ++ units) hs[i]).1 = 2 ∧
      findP c hs = ((neededP ((taken ++ [i]).map fun i => hs.getD i []) units).map fun k => (taken ++ [i]).getD k 0, true, 0)) := by
  have hno := okA_negs hc ha
  have e := find_eq hc hr hl
  rw [ha, if_neg (by simp)] at e
  have h := findGo_spec (rts hr) (fuelP hs) [] [] (Run.nil hno) (by rw [List.append_nil]; exact meas_le _ _)
  rw [List.append_nil] at h
  rcases h with ⟨h1, h2⟩ | ⟨taken, units, i, hi, h1, h2, h3⟩
  · exact .inl ⟨by rw [e, h1], h2⟩
  · exact .inr ⟨taken, units, i, hi, h2, h3, by rw [e, h1]⟩

theorem find_err (hc : rightC c = true) (hr : ∀ d ∈ hs, rightC d = true) (hl : hs.length ≤ 65536) : (findP c hs).2.2 = 0 := by
  cases ha : alwaysC c
  · rcases find_cases hc hr hl ha with ⟨h, _⟩ | ⟨_, _, _, _, _, _, h⟩ <;> rw [h]
  · rw [find_eq hc hr hl, ha]; rfl
theorem check_le (hc : rightC c = true) (hr : ∀ d ∈ hs, rightC d = true) (hl : hs.length ≤ 65536) : (checkP c hs).2.1 ≤ hs.length := by
  rw [check_eq hc hr hl]
  split
  · simp
  · exact follow_le _ _
theorem run_follow {A : List Int} {taken : List Nat} {units : List Int} {i : Nat} (r : Run A hs taken units) (hi : i < hs.length) (hf : (lookP (A ++ units) hs[i]).1 = 2) :
    followP A ((taken ++ [i]).map fun i => hs.getD i []) = (units, units.length + 1, true, 0) := by
  rw [List.map_append, r.follow]
  simp only [List.map_cons, List.map_nil]
  rw [getD_lt hi, followP_fail hf]; simp
/-- What is found: the hints lead to a conflict. -/
theorem find_ok (hc : rightC c = true) (hr : ∀ d ∈ hs, rightC d = true) (hl : hs.length ≤ 65536) (h : (findP c hs).2.1 = true) : alwaysC c = true ∨ ∃ ds, (∀ d ∈ ds, d ∈ hs) ∧ (followP (negs c) ds).2.2.1 = true := by
  cases ha : alwaysC c
  · right
    rcases find_cases hc hr hl ha with ⟨e, _⟩ | ⟨taken, units, i, hi, r, hf, e⟩
    · rw [e] at h; cases h
    · refine ⟨_, fun d hd => ?_, by rw [run_follow r hi hf]⟩
      rw [List.mem_map] at hd
      obtain ⟨k, hk, rfl⟩ := hd
      have hk' : k < hs.length := by
        rcases List.mem_append.1 hk with hk | hk
        · exact r.lt k hk
        · simp at hk; omega
      rw [getD_lt hk']; exact List.getElem_mem _
  · exact .inl rfl
theorem find_no (hc : rightC c = true) (hr : ∀ d ∈ hs, rightC d = true) (hl : hs.length ≤ 65536) (h : (findP c hs).2.1 = false) : alwaysC c = false ∧ ∃ B, okA B = true ∧ (∀ x ∈ negs c, x ∈ B) ∧ Closed B hs := by
  cases ha : alwaysC c
  · rcases find_cases hc hr hl ha with ⟨_, e⟩ | ⟨taken, units, i, hi, r, hf, e⟩
    · exact ⟨rfl, e⟩
    · rw [e] at h; cases h
  · rw [find_eq hc hr hl, ha, if_pos rfl] at h; cases h

/-! ### RupSound -/

theorem negs_true {T : Int → Prop} (hc : rightC c = true) (hTot : ∀ x ∈ c, T x ∨ T (-x)) (hn : ¬ ∃ x ∈ c, T x) : ∀ x ∈ negs c, T x := fun x hx => by
  have h1 := (mem_negs hc).1 hx
  rcases hTot _ h1 with h2 | h2
  · exact absurd ⟨_, h1, h2⟩ hn
  · rwa [Int.neg_neg] at h2
theorem always_true {T : Int → Prop} (hTot : ∀ x ∈ c, T x ∨ T (-x)) (ha : alwaysC c = true) : ∃ x ∈ c, T x := by
  unfold alwaysC at ha
  rw [List.any_eq_true] at ha
  obtain ⟨x, hx, hn⟩ := ha
  simp only [List.contains_iff_mem] at hn
  rcases hTot x hx with h | h
  · exact ⟨x, hx, h⟩
  · exact ⟨-x, hn, h⟩
theorem check_sound {T : Int → Prop} (hT : ∀ x, T x → ¬ T (-x)) (hTot : ∀ x ∈ c, T x ∨ T (-x)) (hc : rightC c = true) (hr : ∀ d ∈ hs, rightC d = true) (hl : hs.length ≤ 65536)
    (h0 : (checkP c hs).2.2 = 0) (hh : ∀ d ∈ hs.take (checkP c hs).2.1, ∃ x ∈ d, T x) : ∃ x ∈ c, T x := by
  cases ha : alwaysC c
  · rw [check_eq hc hr hl, ha, if_neg (by simp)] at h0 hh
    simp only at h0 hh
    apply Classical.byContradiction
    intro hn
    have := follow_sound hT (negs_true hc hTot hn) hh
    rw [this] at h0
    by_cases h1 : (followP (negs c) hs).2.2.2 = 0
    · rw [if_pos ⟨h1, rfl⟩] at h0; cases h0
    · rw [if_neg (fun k => h1 k.1)] at h0; exact h1 h0
  · exact always_true hTot ha
theorem find_sound {T : Int → Prop} (hT : ∀ x, T x → ¬ T (-x)) (hTot : ∀ x ∈ c, T x ∨ T (-x)) (hc : rightC c = true) (hr : ∀ d ∈ hs, rightC d = true) (hl : hs.length ≤ 65536)
    (h0 : (findP c hs).2.1 = true) (hh : ∀ d ∈ hs, ∃ x ∈ d, T x) : ∃ x ∈ c, T x := by
  rcases find_ok hc hr hl h0 with ha | ⟨ds, hd, hf⟩
  · exact always_true hTot ha
  · apply Classical.byContradiction
    intro hn
    have := follow_sound hT (negs_true hc hTot hn) (cs := ds) fun d h => hh d (hd d (List.mem_of_mem_take h))
    rw [this] at hf; cases hf
theorem check_conf (hc : rightC c = true) (hr : ∀ d ∈ hs, rightC d = true) (hl : hs.length ≤ 65536) (ha : alwaysC c = false) (h0 : (checkP c hs).2.2 = 0) : (followP (negs c) hs).2.2.1 = true := by
  rw [check_eq hc hr hl, ha, if_neg (by simp)] at h0
  simp only at h0
  by_cases h1 : (followP (negs c) hs).2.2.2 = 0 ∧ (followP (negs c) hs).2.2.1 = false
  · rw [if_pos h1] at h0; cases h0
  · rw [if_neg h1] at h0
    simpa using fun k => h1 ⟨h0, k⟩
theorem check_find (hc : rightC c = true) (hr : ∀ d ∈ hs, rightC d = true) (hl : hs.length ≤ 65536) (h0 : (checkP c hs).2.2 = 0) : (findP c hs).2.1 = true := by
  cases hf : (findP c hs).2.1
  · obtain ⟨ha, B, hB, hsub, hcl⟩ := find_no hc hr hl hf
    have := check_conf hc hr hl ha h0
    rw [closed_follow hB hsub hcl] at this; cases this
  · rfl
theorem find_some (hc : rightC c = true) (hr : ∀ d ∈ hs, rightC d = true) (hl : hs.length ≤ 65536) (h : (findP c hs).2.1 = true) : 0 < (findP c hs).1.length ∨ alwaysC c = true := by
  cases ha : alwaysC c
  · left
    rcases find_cases hc hr hl ha with ⟨e, _⟩ | ⟨taken, units, i, hi, r, hf, e⟩
    · rw [e] at h; cases h
    · rw [e]
      simp only [List.length_map]
      have : units.length ∈ neededP ((taken ++ [i]).map fun i => hs.getD i []) units := mem_needed.2 (.last (by have := r.len; simp; omega) (Nat.le_refl _))
      exact List.length_pos_of_mem this
  · exact .inr rfl

/-! ### RupNone -/

theorem none_check (hc : rightC c = true) (hr : ∀ d ∈ hs, rightC d = true) (hl : hs.length ≤ 65536) (hl2 : ds.length ≤ 65536) (hd : ∀ d ∈ ds, d ∈ hs) (h : (findP c hs).2.1 = false) : (checkP c ds).2.2 ≠ 0 := fun h0 => by
  obtain ⟨ha, B, hB, hsub, hcl⟩ := find_no hc hr hl h
  have := check_conf hc (fun d k => hr d (hd d k)) hl2 ha h0
  rw [closed_follow hB hsub fun d k => hcl d (hd d k)] at this; cases this

/-! ### RupMore -/

theorem more_find {c' : List Int} {hs' : List (List Int)} (hc : rightC c = true) (hc' : rightC c' = true) (hr : ∀ d ∈ hs', rightC d = true) (hl : hs.length ≤ 65536) (hl' : hs'.length ≤ 65536) (hsub : ∀ x ∈ c, x ∈ c') (hhs : ∀ d ∈ hs, d ∈ hs')
    (h : (findP c hs).2.1 = true) : (findP c' hs').2.1 = true := by
  cases hf : (findP c' hs').2.1
  · obtain ⟨ha, B, hB, hB2, hcl⟩ := find_no hc' hr hl' hf
    rcases find_ok hc (fun d k => hr d (hhs d k)) hl h with ha2 | ⟨ds, hd, hfl⟩
    · unfold alwaysC at ha ha2
      rw [List.any_eq_true] at ha2
      obtain ⟨x, hx, hn⟩ := ha2
      simp only [List.contains_iff_mem] at hn
      rw [List.any_eq_false] at ha
      exact absurd (by simpa using hsub _ hn) (ha x (hsub x hx))
    · rw [closed_follow hB (fun x hx => hB2 x ((mem_negs hc').2 (hsub _ ((mem_negs hc).1 hx)))) fun d k => hcl d (hhs d (hd d k))] at hfl; cases hfl
  · rfl
theorem more_one {c' : List Int} (hc' : rightC c' = true) (hc : rightC c = true) (hsub : ∀ x ∈ c, x ∈ c') (ha : alwaysC c' = false) : checkP c' [c] = ([], 1, 0) := by
  have hno := okA_iff.1 (okA_negs hc' ha)
  have h2 : (lookP (negs c') c).1 = 2 := look_fails.2 ⟨fun x hx hn => hno.2 x hn ((mem_negs hc').2 (by rw [Int.neg_neg]; exact hsub x hx)), fun x hx => (mem_negs hc').2 (by rw [Int.neg_neg]; exact hsub x hx)⟩
  rw [check_eq hc' (by simpa using hc) (by simp), ha, if_neg (by simp), followP_fail h2]; simp

/-! ### RupSteps -/

variable {A : List Int}
theorem followF_eq (ho : okA A = true) (hr : ∀ d ∈ hs, rightC d = true) (hl : hs.length ≤ 65536) :
    followF A hs = if (followP A hs).2.2.2 ≠ 0 then ([], (followP A hs).2.1, false, (followP A hs).2.2.2) else (A ++ (followP A hs).1, (followP A hs).2.1, (followP A hs).2.2.1, 0) := by
  unfold followF; rw [wrong_f hr, ho, if_neg (by simp), if_neg (by simp), if_neg (by omega)]
theorem follow_units : ∀ {cs : List (List Int)} {A : List Int} (i : Nat) (hi : i < (followP A cs).1.length), ∃ h2 : i < cs.length, (followP A cs).1[i] ∈ cs[i] ∧ (followP A cs).1[i] ∉ A ++ (followP A cs).1.take i := by
  intro cs
  induction cs with
  | nil => intro A i hi; simp [followP_nil] at hi
  | cons c cs ih =>
    intro A i hi
    by_cases h2 : (lookP A c).1 = 2
    · rw [followP_fail h2] at hi; simp at hi
    · by_cases h3 : (lookP A c).1 = 3
      · have hu := look_unit' h3
        have e := followP_unit (cs := cs) (x := (lookP A c).2) (Prod.ext h3 rfl)
        by_cases h0 : (followP (A ++ [(lookP A c).2]) cs).2.2.2 = 0
        · have e1 : (followP A (c :: cs)).1 = (lookP A c).2 :: (followP (A ++ [(lookP A c).2]) cs).1 := by rw [e]; simp only; rw [if_pos h0]
          rw [e1] at hi
          simp only [e1]
          cases i with
          | zero => exact ⟨by simp, hu.2.1, by simpa using hu.1 _ hu.2.1⟩
          | succ i =>
            obtain ⟨a, b, d⟩ := ih i (by simpa using hi)
            refine ⟨by simp; omega, by simpa using b, ?_⟩
            simpa using d
        · have e1 : (followP A (c :: cs)).1 = [] := by rw [e]; simp only; rw [if_neg h0]
          rw [e1] at hi; simp at hi
      · rw [followP_bad h2 h3] at hi; simp at hi
theorem steps_app {k : Nat} (hk : k ≤ hs.length) : followP A hs = (if (followP A (hs.take k)).2.2.2 ≠ 0 ∨ (followP A (hs.take k)).2.2.1 = true then followP A (hs.take k)
     else ((if (followP (A ++ (followP A (hs.take k)).1) (hs.drop k)).2.2.2 = 0 then (followP A (hs.take k)).1 ++ (followP (A ++ (followP A (hs.take k)).1) (hs.drop k)).1 else []), k + (followP (A ++ (followP A (hs.take k)).1) (hs.drop k)).2.1, (followP (A ++ (followP A (hs.take k)).1) (hs.drop k)).2.2.1, (followP (A ++ (followP A (hs.take k)).1) (hs.drop k)).2.2.2)) := by
  have h := follow_app (A := A) (cs := hs.take k) (ds := hs.drop k)
  rw [List.take_append_drop, List.length_take, Nat.min_eq_left hk] at h
  exact h

/-! ### RupFound -/

theorem nodup_bound : ∀ (m : Nat) {L : List Nat}, L.Nodup → (∀ x ∈ L, x < m) → L.length ≤ m
  | 0, L, _, h => by
    cases L with
    | nil => simp
    | cons x L => have := h x (by simp); omega
  | m + 1, L, nd, h => by
    by_cases hm : m ∈ L
    · have := nodup_bound m (L := L.erase m) (nd.erase m) fun x hx => by
        have h1 := h x (List.mem_of_mem_erase hx)
        have h2 : x ≠ m := fun e => by subst e; exact (List.Nodup.not_mem_erase nd) hx
        omega
      rw [List.length_erase_of_mem hm] at this; omega
    · have := nodup_bound m nd fun x hx => by
        have h1 := h x hx
        have h2 : x ≠ m := fun e => by subst e; exact hm hx
        omega
      omega

theorem Run.nodup {A0 : List Int} {l : List (List Int)} {taken : List Nat} {units : List Int} (r : Run A0 l taken units) {i : Nat} (hi : i < l.length) (hf : (lookP (A0 ++ units) l[i]).1 = 2) : (taken ++ [i]).Nodup := by
  have hlen := r.len
  have un := fun k (hk : k < units.length) => look_unit.1 (r.un k hk)
  rw [List.nodup_append]
  refine ⟨?_, by simp, ?_⟩
  · rw [List.Nodup, List.pairwise_iff_getElem]
    intro p q hp hq hpq e
    have h1 := (un p (by omega)).2.1
    have h2 := (un q (by omega)).1
    rw [getD_lt hp, e] at h1
    rw [getD_lt hq] at h2
    refine h2 _ h1 (List.mem_append_right _ ?_)
    rw [getD_lt (by omega)]
    exact List.mem_take_iff_getElem.2 ⟨p, by omega, rfl⟩
  · rintro a ha b hb e
    simp at hb; subst hb; subst e
    obtain ⟨p, hp, e⟩ := List.getElem_of_mem ha
    have h1 := (un p (by omega)).2.1
    rw [getD_lt hp, e, getD_lt hi] at h1
    refine (look_fails.1 hf).1 _ h1 (List.mem_append_right _ ?_)
    rw [getD_lt (by omega)]; exact List.getElem_mem _

theorem check_erase {c : List Int} {hs : List (List Int)} (hc : rightC c = true) (hr : ∀ d ∈ hs, rightC d = true) (hl : hs.length ≤ 65536) (ha : alwaysC c = false) (h : (followP (negs c) hs).2.2.1 = false) :
    (checkP c hs).2.2 = 81 ∨ (checkP c hs).2.2 = 82 := by
  rw [check_eq hc hr hl, ha, if_neg (by simp)]
  simp only
  by_cases h0 : (followP (negs c) hs).2.2.2 = 0
  · rw [if_pos ⟨h0, h⟩]; exact .inr rfl
  · rw [if_neg (fun k => h0 k.1)]; exact .inl ((follow_err _ _).resolve_left h0)

structure FoundOk (c : List Int) (l : List (List Int)) (F : List Nat) : Prop where
  lt : ∀ k ∈ F, k < l.length
  nodup : F.Nodup
  chk : (checkP c (F.map fun k => l.getD k [])).2.2 = 0
  num : (checkP c (F.map fun k => l.getD k [])).2.1 = F.length
  trim : trimP c (F.map fun k => l.getD k []) = (List.range F.length, 0)
  less : ∀ i, i < F.length → (checkP c ((F.map fun k => l.getD k []).eraseIdx i)).2.2 = 81 ∨ (checkP c ((F.map fun k => l.getD k []).eraseIdx i)).2.2 = 82

theorem found_law {c : List Int} {l : List (List Int)} (hc : rightC c = true) (hr : ∀ d ∈ l, rightC d = true) (hl : l.length ≤ 65536) (h : (findP c l).2.1 = true) : FoundOk c l (findP c l).1 := by
  cases ha : alwaysC c
  rotate_left
  · have e : (findP c l).1 = [] := by rw [find_eq hc hr hl, ha]; rfl
    have e1 : checkP c [] = ([], 0, 0) := by rw [check_eq hc (by simp) (by simp), ha]; rfl
    rw [e]
    refine ⟨by simp, by simp, by simp [e1], by simp [e1], by simp [trimP, e1], by simp⟩
  · rcases find_cases hc hr hl ha with ⟨e, _⟩ | ⟨taken, units, i, hi, r, hf, e⟩
    · rw [e] at h; cases h
    rw [e]
    simp only
    generalize hK : neededP ((taken ++ [i]).map fun i => l.getD i []) units = K
    have tg := r.tight hi hf hK.symm
    have hlt : ∀ k ∈ K, k < (taken ++ [i]).length := fun k hk => by
      rw [← hK] at hk
      simpa using (mem_needed.1 hk).lt
    have hT : ∀ k ∈ taken ++ [i], k < l.length := fun k hk => by
      rcases List.mem_append.1 hk with hk | hk
      · exact r.lt k hk
      · simp at hk; omega
    have hnd := r.nodup hi hf
    have hsort : K.Pairwise (· < ·) := by rw [← hK]; exact sorted_needed _ _
    have nd : (K.map fun k => (taken ++ [i]).getD k 0).Nodup := by
      rw [List.Nodup, List.pairwise_map, List.pairwise_iff_getElem]
      intro p q hp hq hpq
      have hpq2 := List.pairwise_iff_getElem.1 hsort p q hp hq hpq
      have h1 := hlt _ (List.getElem_mem hp)
      have h2 := hlt _ (List.getElem_mem hq)
      rw [getD_lt h1, getD_lt h2]
      exact List.pairwise_iff_getElem.1 hnd _ _ h1 h2 hpq2
    have lt : ∀ k ∈ K.map fun k => (taken ++ [i]).getD k 0, k < l.length := fun k hk => by
      rw [List.mem_map] at hk
      obtain ⟨j, hj, rfl⟩ := hk
      rw [getD_lt (hlt j hj)]; exact hT _ (List.getElem_mem _)
    have hlen := nodup_bound _ nd lt
    have em : ((K.map fun k => (taken ++ [i]).getD k 0).map fun k => l.getD k []) = K.map fun k => l.getD ((taken ++ [i]).getD k 0) [] := by simp
    have hrr : ∀ d ∈ (K.map fun k => l.getD ((taken ++ [i]).getD k 0) []), rightC d = true := fun d hd => by
      rw [← em, List.mem_map] at hd
      obtain ⟨k, hk, rfl⟩ := hd
      rw [getD_lt (lt k hk)]; exact hr _ (List.getElem_mem _)
    have hll : (K.map fun k => l.getD ((taken ++ [i]).getD k 0) []).length ≤ 65536 := by simp at hlen ⊢; omega
    have hfo := tg.follow
    have hck := check_eq hc hrr hll
    rw [ha, if_neg (by simp), hfo] at hck
    simp only at hck
    rw [if_neg (by simp)] at hck
    refine ⟨lt, nd, by rw [em, hck], by rw [em, hck]; simp, ?_, fun j hj => ?_⟩
    · rw [em]
      unfold trimP
      rw [hck]
      have hne : ¬ ((0 : Int) ≠ 0 ∨ (K.map fun k => l.getD ((taken ++ [i]).getD k 0) []).length = 0) := by
        have := tg.len; omega
      rw [if_neg hne, List.take_length, tg.needed]; simp
    · rw [em]
      refine check_erase hc (fun d hd => hrr d (List.mem_of_mem_eraseIdx hd)) (by have := List.length_eraseIdx_le (K.map fun k => l.getD ((taken ++ [i]).getD k 0) []) j; omega) ha (tg.less ?_)
      have := tg.len
      simp at this hj ⊢; omega

end Go.Rp
