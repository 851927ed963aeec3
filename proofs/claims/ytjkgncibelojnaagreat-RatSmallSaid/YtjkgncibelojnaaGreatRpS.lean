/-
  The laws of rup that do not use the reference, as statements of lists. No program here.
-/
import Derived.Test.YtjkgncibelojnaaGreatRpR
set_option linter.unusedVariables false
set_option linter.unusedSimpArgs false
namespace Go.Rp
open Go Go.Cl
variable {c : List Int} {hs ds : List (List Int)}
theorem wrong_f (hr : ∀ d ∈ hs, rightC d = true) : wrongP hs = false := by
  unfold wrongP; rw [Bool.not_eq_false', List.all_eq_true]; exact hr
theorem check_eq (hc : rightC c = true) (hr : ∀ d ∈ hs, rightC d = true) (hl : hs.length ≤ 65536) :
    checkP c hs = if alwaysC c = true then ([], 0, 0) else ((followP (negs c) hs).1, (followP (negs c) hs).2.1, if (followP (negs c) hs).2.2.2 = 0 ∧ (followP (negs c) hs).2.2.1 = false then 82 else (followP (negs c) hs).2.2.2) := by
  unfold checkP; rw [wrong_f hr, hc, if_neg (by simp), if_neg (by omega)]
theorem find_eq (hc : rightC c = true) (hr : ∀ d ∈ hs, rightC d = true) (hl : hs.length ≤ 65536) :
    findP c hs = if alwaysC c = true then ([], true, (0 : Int)) else match findGo hs (fuelP hs) (negs c) [] [] with
    | none => ([], false, (0 : Int))
    | some (taken, units) => ((neededP (taken.map fun i => hs.getD i []) units).map fun k => taken.getD k 0, true, (0 : Int)) := by
  unfold findP; rw [wrong_f hr, hc, if_neg (by simp), if_neg (by omega)]
  cases findGo hs (fuelP hs) (negs c) [] [] <;> rfl
theorem rts (hr : ∀ d ∈ hs, rightC d = true) : ∀ d ∈ hs, ∀ x ∈ d, rt x = true := fun d hd => rightC_rt (hr d hd)
theorem find_cases (hc : rightC c = true) (hr : ∀ d ∈ hs, rightC d = true) (hl : hs.length ≤ 65536) (ha : alwaysC c = false) :
    (findP c hs = ([], false, 0) ∧ ∃ B, okA B = true ∧ (∀ x ∈ negs c, x ∈ B) ∧ Closed B hs) ∨
    (∃ taken units i, ∃ hi : i < hs.length, Run (negs c) hs taken units ∧ (lookP (negs c ++ units) hs[i]).1 = 2 ∧
      findP c hs = ((neededP ((taken ++ [i]).map fun i => hs.getD i []) units).map fun k => (taken ++ [i]).getD k 0, true, 0)) := by
  have hno := okA_negs hc ha
  have e := find_eq hc hr hl
  rw [ha, if_neg (by simp)] at e
  have h := findGo_spec (rts hr) (fuelP hs) [] [] (Run.nil hno) (by rw [List.append_nil]; exact meas_le _ _)
  rw [List.append_nil] at h
  rcases h with ⟨h1, h2⟩ | ⟨taken, units, i, hi, h1, h2, h3⟩
  · exact .inl ⟨by rw [e, h1], h2⟩
  · exact .inr ⟨taken, units, i, hi, h2, h3, by rw [e, h1]⟩
variable {A : List Int}
theorem nodup_bound : ∀ (m : Nat) {L : List Nat}, L.Nodup → (∀ x ∈ L, x < m) → L.length ≤ m
  | 0, L, _, h => by
    cases L with
    | nil => simp
    | cons x L => have := h x (by simp); omega
  | m + 1, L, nd, h => by
    by_cases hm : m ∈ L
    · have := nodup_bound m (L := L.erase m) (nd.erase m) fun x hx => by
        have h1 := h x (List.mem_of_mem_erase hx)
        have h2 : x ≠ m := fun e => by subst e; exact (List.Nodup.not_mem_erase nd) hx
        omega
      rw [List.length_erase_of_mem hm] at this; omega
    · have := nodup_bound m nd fun x hx => by
        have h1 := h x hx
        have h2 : x ≠ m := fun e => by subst e; exact hm hx
        omega
      omega
theorem Run.nodup {A0 : List Int} {l : List (List Int)} {taken : List Nat} {units : List Int} (r : Run A0 l taken units) {i : Nat} (hi : i < l.length) (hf : (lookP (A0 ++ units) l[i]).1 = 2) : (taken ++ [i]).Nodup := by
  have hlen := r.len
  have un := fun k (hk : k < units.length) => look_unit.1 (r.un k hk)
  rw [List.nodup_append]
  refine ⟨?_, by simp, ?_⟩
  · rw [List.Nodup, List.pairwise_iff_getElem]
    intro p q hp hq hpq e
    have h1 := (un p (by omega)).2.1
    have h2 := (un q (by omega)).1
    rw [getD_lt hp, e] at h1
    rw [getD_lt hq] at h2
    refine h2 _ h1 (List.mem_append_right _ ?_)
    rw [getD_lt (by omega)]
    exact List.mem_take_iff_getElem.2 ⟨p, by omega, rfl⟩
  · rintro a ha b hb e
    simp at hb; subst hb; subst e
    obtain ⟨p, hp, e⟩ := List.getElem_of_mem ha
    have h1 := (un p (by omega)).2.1
    rw [getD_lt hp, e, getD_lt hi] at h1
    refine (look_fails.1 hf).1 _ h1 (List.mem_append_right _ ?_)
    rw [getD_lt (by omega)]; exact List.getElem_mem _
theorem check_erase {c : List Int} {hs : List (List Int)} (hc : rightC c = true) (hr : ∀ d ∈ hs, rightC d = true) (hl : hs.length ≤ 65536) (ha : alwaysC c = false) (h : (followP (negs c) hs).2.2.1 = false) :
    (checkP c hs).2.2 = 81 ∨ (checkP c hs).2.2 = 82 := by
  rw [check_eq hc hr hl, ha, if_neg (by simp)]
  simp only
  by_cases h0 : (followP (negs c) hs).2.2.2 = 0
  · rw [if_pos ⟨h0, h⟩]; exact .inr rfl
  · rw [if_neg (fun k => h0 k.1)]; exact .inl ((follow_err _ _).resolve_left h0)
structure FoundOk (c : List Int) (l : List (List Int)) (F : List Nat) : Prop where
  lt : ∀ k ∈ F, k < l.length
  nodup : F.Nodup
  chk : (checkP c (F.map fun k => l.getD k [])).2.2 = 0
  num : (checkP c (F.map fun k => l.getD k [])).2.1 = F.length
  trim : trimP c (F.map fun k => l.getD k []) = (List.range F.length, 0)
  less : ∀ i, i < F.length → (checkP c ((F.map fun k => l.getD k []).eraseIdx i)).2.2 = 81 ∨ (checkP c ((F.map fun k => l.getD k []).eraseIdx i)).2.2 = 82
theorem found_law {c : List Int} {l : List (List Int)} (hc : rightC c = true) (hr : ∀ d ∈ l, rightC d = true) (hl : l.length ≤ 65536) (h : (findP c l).2.1 = true) : FoundOk c l (findP c l).1 := by
  cases ha : alwaysC c
  rotate_left
  · have e : (findP c l).1 = [] := by rw [find_eq hc hr hl, ha]; rfl
    have e1 : checkP c [] = ([], 0, 0) := by rw [check_eq hc (by simp) (by simp), ha]; rfl
    rw [e]
    refine ⟨by simp, by simp, by simp [e1], by simp [e1], by simp [trimP, e1], by simp⟩
  · rcases find_cases hc hr hl ha with ⟨e, _⟩ | ⟨taken, units, i, hi, r, hf, e⟩
    · rw [e] at h; cases h
    rw [e]
    simp only
    generalize hK : neededP ((taken ++ [i]).map fun i => l.getD i []) units = K
    have tg := r.tight hi hf hK.symm
    have hlt : ∀ k ∈ K, k < (taken ++ [i]).length := fun k hk => by
      rw [← hK] at hk
      simpa using (mem_needed.1 hk).lt
    have hT : ∀ k ∈ taken ++ [i], k < l.length := fun k hk => by
      rcases List.mem_append.1 hk with hk | hk
      · exact r.lt k hk
      · simp at hk; omega
    have hnd := r.nodup hi hf
    have hsort : K.Pairwise (· < ·) := by rw [← hK]; exact sorted_needed _ _
    have nd : (K.map fun k => (taken ++ [i]).getD k 0).Nodup := by
      rw [List.Nodup, List.pairwise_map, List.pairwise_iff_getElem]
      intro p q hp hq hpq
      have hpq2 := List.pairwise_iff_getElem.1 hsort p q hp hq hpq
      have h1 := hlt _ (List.getElem_mem hp)
      have h2 := hlt _ (List.getElem_mem hq)
      rw [getD_lt h1, getD_lt h2]
      exact List.pairwise_iff_getElem.1 hnd _ _ h1 h2 hpq2
    have lt : ∀ k ∈ K.map fun k => (taken ++ [i]).getD k 0, k < l.length := fun k hk => by
      rw [List.mem_map] at hk
      obtain ⟨j, hj, rfl⟩ := hk
      rw [getD_lt (hlt j hj)]; exact hT _ (List.getElem_mem _)
    have hlen := nodup_bound _ nd lt
    have em : ((K.map fun k => (taken ++ [i]).getD k 0).map fun k => l.getD k []) = K.map fun k => l.getD ((taken ++ [i]).getD k 0) [] := by simp
    have hrr : ∀ d ∈ (K.map fun k => l.getD ((taken ++ [i]).getD k 0) []), rightC d = true := fun d hd => by
      rw [← em, List.mem_map] at hd
      obtain ⟨k, hk, rfl⟩ := hd
      rw [getD_lt (lt k hk)]; exact hr _ (List.getElem_mem _)
    have hll : (K.map fun k => l.getD ((taken ++ [i]).getD k 0) []).length ≤ 65536 := by simp at hlen ⊢; omega
    have hfo := tg.follow
    have hck := check_eq hc hrr hll
    rw [ha, if_neg (by simp), hfo] at hck
    simp only at hck
    rw [if_neg (by simp)] at hck
    refine ⟨lt, nd, by rw [em, hck], by rw [em, hck]; simp, ?_, fun j hj => ?_⟩
    · rw [em]
      unfold trimP
      rw [hck]
      have hne : ¬ ((0 : Int) ≠ 0 ∨ (K.map fun k => l.getD ((taken ++ [i]).getD k 0) []).length = 0) := by
        have := tg.len; omega
      rw [if_neg hne, List.take_length, tg.needed]; simp
    · rw [em]
      refine check_erase hc (fun d hd => hrr d (List.mem_of_mem_eraseIdx hd)) (by have := List.length_eraseIdx_le (K.map fun k => l.getD ((taken ++ [i]).getD k 0) []) j; omega) ha (tg.less ?_)
      have := tg.len
      simp at this hj ⊢; omega
end Go.Rp
namespace Go.Rt
open Go Go.Cl Go.Rp
abbrev Ent := Int × List Int
abbrev Grp := Int × List Int
structure Stp where
  lits : List Int
  hints : List Int
  groups : List Grp
def maxID : Int := 1073741824
def rightGo (last : Int) : List Ent → Bool
  | [] => true
  | x :: l => decide (last < x.1) && decide (x.1 ≤ maxID) && rightC x.2 && rightGo x.1 l
def rightE (l : List Ent) : Bool := rightGo 0 l && decide (l.length ≤ 1048576)
def findE (l : List Ent) (id : Int) : Option Nat := l.findIdx? fun x => x.1 == id
def goodID (n : Int) : Bool := decide (1 ≤ n) && decide (n ≤ maxID)
def putHint (out : List Int) (gs : List Grp) (n : Int) : List Int × List Grp :=
  match gs.getLast? with
  | none => (out ++ [n], [])
  | some g => (out, gs.dropLast ++ [(g.1, g.2 ++ [n])])
def splitGo : List Int → List Int → List Grp → Option (List Int × List Grp)
  | [], out, gs => some (out, gs)
  | n :: l, out, gs =>
    if n = 0 ∨ n > maxID ∨ n < -maxID then none
    else if n < 0 then splitGo l out (gs ++ [(-n, [])])
    else splitGo l (putHint out gs n).1 (putHint out gs n).2
def splitP (l : List Int) : List Int × List Grp × Int := match splitGo l [] [] with
  | none => ([], [], 91)
  | some (a, b) => (a, b, 0)
def textOf (out : List Int) (gs : List Grp) : List Int := out ++ gs.flatMap fun g => -g.1 :: g.2
def joinOk (out : List Int) (gs : List Grp) : Bool := out.all goodID && gs.all fun g => goodID g.1 && g.2.all goodID
def joinP (out : List Int) (gs : List Grp) : List Int × Int := if joinOk out gs then (textOf out gs, 0) else ([], 91)
theorem textOf_put (out : List Int) (gs : List Grp) (n : Int) : textOf (putHint out gs n).1 (putHint out gs n).2 = textOf out gs ++ [n] := by
  unfold putHint
  cases hg : gs.getLast? with
  | none =>
    rw [List.getLast?_eq_none_iff] at hg
    subst hg; simp [textOf]
  | some g =>
    have e : gs = gs.dropLast ++ [g] := by
      have hne : gs ≠ [] := by rintro rfl; simp at hg
      rw [List.getLast?_eq_some_getLast hne] at hg
      have := Option.some.inj hg
      rw [← this]; exact (List.dropLast_concat_getLast hne).symm
    simp only
    have h2 : textOf out gs = textOf out (gs.dropLast ++ [g]) := by rw [← e]
    rw [h2]
    simp [textOf]
theorem joinOk_put {out : List Int} {gs : List Grp} {n : Int} (h : joinOk out gs = true) (hn : goodID n = true) : joinOk (putHint out gs n).1 (putHint out gs n).2 = true := by
  unfold putHint
  cases hg : gs.getLast? with
  | none =>
    simp only [joinOk, List.all_append, List.all_cons, List.all_nil, Bool.and_true] at h ⊢
    simp only [Bool.and_eq_true] at h ⊢
    exact ⟨h.1, hn⟩
  | some g =>
    have e : gs = gs.dropLast ++ [g] := by
      have hne : gs ≠ [] := by rintro rfl; simp at hg
      rw [List.getLast?_eq_some_getLast hne] at hg
      have := Option.some.inj hg
      rw [← this]; exact (List.dropLast_concat_getLast hne).symm
    have h2 : joinOk out (gs.dropLast ++ [g]) = true := by rw [← e]; exact h
    simp only [joinOk, List.all_append, List.all_cons, List.all_nil, Bool.and_true, Bool.and_eq_true] at h2 ⊢
    exact ⟨h2.1, h2.2.1, h2.2.2.1, h2.2.2.2, hn⟩
theorem goodID_iff {n : Int} : goodID n = true ↔ 1 ≤ n ∧ n ≤ maxID := by simp [goodID]
theorem split_text : ∀ {l out : List Int} {gs : List Grp} {a : List Int} {b : List Grp}, splitGo l out gs = some (a, b) → joinOk out gs = true → textOf a b = textOf out gs ++ l ∧ joinOk a b = true
  | [], out, gs, a, b, h, hj => by
    simp only [splitGo, Option.some.injEq, Prod.mk.injEq] at h
    obtain ⟨rfl, rfl⟩ := h
    exact ⟨by simp, hj⟩
  | n :: l, out, gs, a, b, h, hj => by
    simp only [splitGo] at h
    split at h
    · cases h
    · rename_i hn
      split at h
      · rename_i h0
        have hj2 : joinOk out (gs ++ [(-n, [])]) = true := by
          simp only [joinOk, List.all_append, List.all_cons, List.all_nil, Bool.and_true, Bool.and_eq_true] at hj ⊢
          exact ⟨hj.1, hj.2, goodID_iff.2 (by unfold maxID at *; omega)⟩
        obtain ⟨e1, e2⟩ := split_text h hj2
        exact ⟨by rw [e1]; simp [textOf], e2⟩
      · rename_i h0
        obtain ⟨e1, e2⟩ := split_text h (joinOk_put hj (goodID_iff.2 (by unfold maxID at *; omega)))
        exact ⟨by rw [e1, textOf_put]; simp, e2⟩
theorem join_bad {out : List Int} {gs : List Grp} (h : joinOk out gs = false) : joinP out gs = ([], 91) := by unfold joinP; rw [h]; rfl
def fixP (p : Int) (A : List Int) : List Int := if -p ∈ A then A.map (fun x => if x = -p then p else x) else A ++ [p]
def repairP (c A : List Int) : List Int × Int :=
  if !rightC c then ([], 20) else if !okA A then ([], 80)
  else match c with
  | [] => ([], 82)
  | p :: _ => if (lookP A c).1 = 1 then (A, 0) else (fixP p A, 0)
theorem fix_len (p : Int) (A : List Int) : (-p ∈ A ∧ (fixP p A).length = A.length) ∨ (-p ∉ A ∧ (fixP p A).length = A.length + 1) := by
  unfold fixP
  by_cases h : -p ∈ A
  · rw [if_pos h]; exact .inl ⟨h, by simp⟩
  · rw [if_neg h]; exact .inr ⟨h, by simp⟩
end Go.Rt
