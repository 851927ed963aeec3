/-
  What hints are needed, and that each of what was found is. No program here.
-/
import Derived.Test.YtjkgncibelojnaaGreatRpQ
set_option linter.unusedVariables false
set_option linter.unusedSimpArgs false
namespace Go.Rp
open Go Go.Cl
inductive Nd (hints : List (List Int)) (units : List Int) : Nat → Prop
  | last {i : Nat} : i < hints.length → units.length ≤ i → Nd hints units i
  | next {i k : Nat} : i < k → k < hints.length → Nd hints units k → i < units.length → -(units.getD i 0) ∈ hints.getD k [] → Nd hints units i
theorem Nd.lt {hints : List (List Int)} {units : List Int} {i : Nat} (h : Nd hints units i) : i < hints.length := by
  cases h with
  | last h _ => exact h
  | next h1 h2 _ _ _ => omega
theorem needGo_spec {hints : List (List Int)} {units : List Int} : ∀ (i : Nat) (N : List Int), i ≤ hints.length → (∀ x, x ∈ N ↔ ∃ k, i ≤ k ∧ Nd hints units k ∧ -x ∈ hints.getD k []) →
    (∀ j, j ∈ needGo hints units i N ↔ j < i ∧ Nd hints units j) ∧ (needGo hints units i N).Pairwise (· < ·)
  | 0, N, _, _ => ⟨fun j => by simp [needGo], by simp [needGo]⟩
  | i + 1, N, hi, hN => by
    simp only [needGo]
    have stay : (¬ Nd hints units i) → ∀ x, x ∈ N ↔ ∃ k, i ≤ k ∧ Nd hints units k ∧ -x ∈ hints.getD k [] := fun hn x => by
      rw [hN]
      constructor
      · rintro ⟨k, h1, h2, h3⟩; exact ⟨k, by omega, h2, h3⟩
      · rintro ⟨k, h1, h2, h3⟩
        refine ⟨k, ?_, h2, h3⟩
        rcases Nat.lt_or_ge i k with h | h
        · exact h
        · have : k = i := by omega
          subst this; exact absurd h2 hn
    split
    · rename_i h
      have hn : ¬ Nd hints units i := by
        intro hd
        cases hd with
        | last _ h2 => omega
        | next h1 h2 h3 h4 h5 => exact h.2 ((hN _).2 ⟨_, h1, h3, h5⟩)
      obtain ⟨m, p⟩ := needGo_spec i N (by omega) (stay hn)
      refine ⟨fun j => ?_, p⟩
      rw [m]
      constructor
      · rintro ⟨a, b⟩; exact ⟨by omega, b⟩
      · rintro ⟨a, b⟩
        refine ⟨?_, b⟩
        rcases Nat.lt_or_ge j i with h | h
        · exact h
        · have : j = i := by omega
          subst this; exact absurd b hn
    · rename_i h
      have hd : Nd hints units i := by
        rcases Nat.lt_or_ge i units.length with h1 | h1
        · have hin : units.getD i 0 ∈ N := by
            by_cases hin : units.getD i 0 ∈ N
            · exact hin
            · exact absurd ⟨h1, hin⟩ h
          obtain ⟨k, a, b, c⟩ := (hN _).1 hin
          exact .next a b.lt b h1 c
        · exact .last (by omega) h1
      obtain ⟨m, p⟩ := needGo_spec (hints := hints) (units := units) i (N ++ (hints.getD i []).map fun x => -x) (by omega) (fun x => by
        rw [List.mem_append, hN, List.mem_map]
        constructor
        · rintro (⟨k, h1, h2, h3⟩ | ⟨y, hy, rfl⟩)
          · exact ⟨k, by omega, h2, h3⟩
          · exact ⟨i, Nat.le_refl _, hd, by rw [Int.neg_neg]; exact hy⟩
        · rintro ⟨k, h1, h2, h3⟩
          rcases Nat.lt_or_ge i k with h | h
          · exact .inl ⟨k, h, h2, h3⟩
          · have : k = i := by omega
            subst this
            exact .inr ⟨-x, h3, by omega⟩)
      refine ⟨fun j => ?_, List.pairwise_append.2 ⟨p, by simp, fun a ha b hb => by simp at hb; subst hb; exact ((m a).1 ha).1⟩⟩
      rw [List.mem_append, m, List.mem_singleton]
      constructor
      · rintro (⟨a, b⟩ | rfl)
        · exact ⟨by omega, b⟩
        · exact ⟨by omega, hd⟩
      · rintro ⟨a, b⟩
        rcases Nat.lt_or_ge j i with h | h
        · exact .inl ⟨h, b⟩
        · exact .inr (by omega)
theorem mem_needed {hints : List (List Int)} {units : List Int} {j : Nat} : j ∈ neededP hints units ↔ Nd hints units j := by
  have := (needGo_spec (hints := hints) (units := units) hints.length [] (Nat.le_refl _) (fun x => by
    simp only [List.not_mem_nil, false_iff]
    rintro ⟨k, h1, h2, _⟩; have := h2.lt; omega)).1 j
  unfold neededP
  rw [this]
  exact ⟨fun h => h.2, fun h => ⟨h.lt, h⟩⟩
theorem sorted_needed (hints : List (List Int)) (units : List Int) : (neededP hints units).Pairwise (· < ·) :=
  (needGo_spec (hints := hints) (units := units) hints.length [] (Nat.le_refl _) (fun x => by
    simp only [List.not_mem_nil, false_iff]
    rintro ⟨k, h1, h2, _⟩; have := h2.lt; omega)).2
theorem rise_unique : ∀ {L M : List Nat}, L.Pairwise (· < ·) → M.Pairwise (· < ·) → (∀ x, x ∈ L ↔ x ∈ M) → L = M
  | [], [], _, _, _ => rfl
  | [], y :: M, _, _, h => by have := (h y).2 (by simp); cases this
  | x :: L, [], _, _, h => by have := (h x).1 (by simp); cases this
  | x :: L, y :: M, s, s', h => by
    have h1 := (List.pairwise_cons.1 s).1
    have h2 := (List.pairwise_cons.1 s').1
    have e : x = y := by
      rcases List.mem_cons.1 ((h x).1 (by simp)) with h3 | h3
      · exact h3
      · rcases List.mem_cons.1 ((h y).2 (by simp)) with h4 | h4
        · exact h4.symm
        · have := h1 y h4; have := h2 x h3; omega
    subst e
    rw [rise_unique (List.pairwise_cons.1 s).2 (List.pairwise_cons.1 s').2 fun z => ?_]
    constructor
    · intro hz
      rcases List.mem_cons.1 ((h z).1 (by simp [hz])) with rfl | h3
      · have := h1 z hz; omega
      · exact h3
    · intro hz
      rcases List.mem_cons.1 ((h z).2 (by simp [hz])) with rfl | h3
      · have := h2 z hz; omega
      · exact h3
theorem needed_eq {hints : List (List Int)} {units : List Int} {L : List Nat} (s : L.Pairwise (· < ·)) (h : ∀ x, x ∈ L ↔ Nd hints units x) : L = neededP hints units :=
  rise_unique s (sorted_needed _ _) fun x => by rw [h, mem_needed]
structure Tight (A0 : List Int) (hs : List (List Int)) (us : List Int) : Prop where
  len : hs.length = us.length + 1
  un : ∀ k, k < us.length → lookP (A0 ++ us.take k) (hs.getD k []) = (3, us.getD k 0)
  fail : (lookP (A0 ++ us) (hs.getD us.length [])).1 = 2
  ok : okA (A0 ++ us) = true
  need : ∀ i, i < us.length → ∃ k, i < k ∧ k ≤ us.length ∧ -(us.getD i 0) ∈ hs.getD k []
theorem Tight.run {A0 : List Int} {hs : List (List Int)} {us : List Int} (t : Tight A0 hs us) : Run A0 hs (List.range us.length) us where
  len := by simp
  lt := fun i hi => by simp at hi; have := t.len; omega
  un := fun k hk => by rw [getD_lt (L := List.range us.length) (by simpa using hk)]; simpa using t.un k hk
  ok := t.ok
theorem Tight.split {A0 : List Int} {hs : List (List Int)} {us : List Int} (t : Tight A0 hs us) : (List.range us.length).map (fun i => hs.getD i []) ++ [hs.getD us.length []] = hs := by
  apply List.ext_getElem
  · simp [t.len]
  · intro n h1 h2
    have hl := t.len
    rcases Nat.lt_or_ge n us.length with h | h
    · rw [List.getElem_append_left (by simpa using h)]
      simp [List.getElem?_eq_getElem h2]
    · have : n = us.length := by omega
      subst this
      rw [List.getElem_append_right (by simp)]
      simp [List.getElem?_eq_getElem h2]
theorem Tight.follow {A0 : List Int} {hs : List (List Int)} {us : List Int} (t : Tight A0 hs us) : followP A0 hs = (us, hs.length, true, 0) := by
  have := t.run.follow (ds := [hs.getD us.length []])
  rw [t.split, followP_fail t.fail] at this
  rw [this]
  simp [t.len]
theorem Tight.nd {A0 : List Int} {hs : List (List Int)} {us : List Int} (t : Tight A0 hs us) : ∀ n i, us.length - i = n → i ≤ us.length → Nd hs us i := by
  intro n
  induction n using Nat.strongRecOn with
  | _ n ih =>
    intro i hn hi
    have hl := t.len
    rcases Nat.lt_or_ge i us.length with h | h
    · obtain ⟨k, h1, h2, h3⟩ := t.need i h
      exact .next h1 (by omega) (ih (us.length - k) (by omega) k rfl h2) h h3
    · exact .last (by omega) h
theorem Tight.needed {A0 : List Int} {hs : List (List Int)} {us : List Int} (t : Tight A0 hs us) : neededP hs us = List.range hs.length :=
  (needed_eq List.pairwise_lt_range fun x => by
    rw [List.mem_range]
    have hl := t.len
    exact ⟨fun h => t.nd _ x rfl (by omega), fun h => h.lt⟩).symm
theorem mem_take_iff {us : List Int} {k : Nat} {x : Int} (hk : k ≤ us.length) : x ∈ us.take k ↔ ∃ j, j < k ∧ us.getD j 0 = x := by
  rw [List.mem_iff_getElem]
  constructor
  · rintro ⟨j, hj, e⟩
    have hj' : j < k ∧ j < us.length := by simp at hj; omega
    refine ⟨j, hj'.1, ?_⟩
    rw [getD_lt hj'.2, ← e, List.getElem_take]
  · rintro ⟨j, hj, e⟩
    refine ⟨j, by simp; omega, ?_⟩
    rw [List.getElem_take, ← e, getD_lt (by omega)]
theorem mem_iff_getD {us : List Int} {x : Int} : x ∈ us ↔ ∃ j, j < us.length ∧ us.getD j 0 = x := by
  have := mem_take_iff (us := us) (k := us.length) (x := x) (Nat.le_refl _)
  rwa [List.take_length] at this
def itr (f : Nat → Nat) : Nat → Nat → Nat
  | 0, x => x
  | r + 1, x => f (itr f r x)
theorem Tight.less {A0 : List Int} {hs : List (List Int)} {us : List Int} (t : Tight A0 hs us) {i : Nat} (hi : i ≤ us.length) : (followP A0 (hs.eraseIdx i)).2.2.1 = false := by
  classical
  have hl := t.len
  have fresh : ∀ j, j < us.length → us.getD j 0 ∉ A0 ++ us.take j ∧ -(us.getD j 0) ∉ A0 ++ us.take j := fun j hj => by
    obtain ⟨a, b, c, _⟩ := look_unit.1 (t.un j hj)
    exact ⟨a _ b, c⟩
  have inj : ∀ j k, j < us.length → k < us.length → us.getD j 0 = us.getD k 0 → j = k := by
    intro j k hj hk e
    rcases Nat.lt_trichotomy j k with h | h | h
    · exact absurd (List.mem_append_right A0 ((mem_take_iff (by omega)).2 ⟨j, h, e⟩)) (fresh k hk).1
    · exact h
    · exact absurd (List.mem_append_right A0 ((mem_take_iff (by omega)).2 ⟨k, h, e.symm⟩)) (fresh j hj).1
  have neg : ∀ j k, j < us.length → k < us.length → us.getD j 0 ≠ -(us.getD k 0) := by
    intro j k hj hk e
    exact (okA_iff.1 t.ok).2 _ (List.mem_append_right A0 (mem_iff_getD.2 ⟨k, hk, rfl⟩)) (by rw [← e]; exact List.mem_append_right A0 (mem_iff_getD.2 ⟨j, hj, rfl⟩))
  -- a way from i to the last one
  let nx : Nat → Nat := fun j => if h : j < us.length then Classical.choose (t.need j h) else j
  have hnx : ∀ j, j < us.length → j < nx j ∧ nx j ≤ us.length ∧ -(us.getD j 0) ∈ hs.getD (nx j) [] := fun j hj => by
    simp only [nx, dif_pos hj]; exact Classical.choose_spec (t.need j hj)
  let ch : Nat → Nat := fun r => itr nx r i
  have hle : ∀ r, ch r ≤ us.length := by
    intro r
    induction r with
    | zero => exact hi
    | succ r ih =>
      show nx (ch r) ≤ _
      rcases Nat.lt_or_ge (ch r) us.length with h | h
      · exact (hnx _ h).2.1
      · have : nx (ch r) = ch r := by simp only [nx]; rw [dif_neg (by omega)]
        rw [this]; exact ih
  have hstep : ∀ r, ch (r + 1) = nx (ch r) := fun r => rfl
  let S : Nat → Prop := fun j => ∃ r, ch r = j
  let T : Int → Prop := fun x => x ∈ A0 ∨ (∃ j, j < us.length ∧ ¬ S j ∧ x = us.getD j 0) ∨ (∃ j, j < us.length ∧ S j ∧ x = -(us.getD j 0))
  have inA : ∀ j, j < us.length → us.getD j 0 ∉ A0 := fun j hj h => (fresh j hj).1 (List.mem_append_left _ h)
  have ninA : ∀ j, j < us.length → -(us.getD j 0) ∉ A0 := fun j hj h => (fresh j hj).2 (List.mem_append_left _ h)
  have hT : ∀ x, T x → ¬ T (-x) := by
    rintro x (h1 | ⟨j, hj, hs1, rfl⟩ | ⟨j, hj, hs1, rfl⟩) (h2 | ⟨k, hk, hs2, e⟩ | ⟨k, hk, hs2, e⟩)
    · exact (okA_iff.1 t.ok).2 x (List.mem_append_left _ h1) (List.mem_append_left _ h2)
    · exact ninA k hk (by rw [← e, Int.neg_neg]; exact h1)
    · exact inA k hk (by have : x = us.getD k 0 := by omega
                         rw [← this]; exact h1)
    · exact ninA j hj h2
    · exact neg k j hk hj e.symm
    · have := inj j k hj hk (by omega); subst this; exact hs1 hs2
    · rw [Int.neg_neg] at h2; exact inA j hj h2
    · have := inj j k hj hk (by omega); subst this; exact hs2 hs1
    · exact neg j k hj hk (by omega)
  -- the last one is on the way
  have hend : ∃ r, ch r = us.length := by
    have grow : ∀ r, (∃ q, ch q = us.length) ∨ i + r ≤ ch r := by
      intro r
      induction r with
      | zero => right; show i + 0 ≤ i; omega
      | succ r ih =>
        rcases ih with h | h
        · exact .inl h
        · rcases Nat.lt_or_ge (ch r) us.length with h' | h'
          · right; rw [hstep]; have := (hnx _ h').1; omega
          · left; exact ⟨r, by have := hle r; omega⟩
    rcases grow (us.length + 1) with h | h
    · exact h
    · have := hle (us.length + 1); omega
  have back : ∀ j, S j → j ≠ i → ∃ p, p < us.length ∧ S p ∧ -(us.getD p 0) ∈ hs.getD j [] := by
    rintro j ⟨r, hr⟩ hne
    induction r with
    | zero => exact absurd hr.symm hne
    | succ r ih =>
      rcases Nat.lt_or_ge (ch r) us.length with h | h
      · refine ⟨ch r, h, ⟨r, rfl⟩, ?_⟩
        rw [← hr, hstep]; exact (hnx _ h).2.2
      · have : nx (ch r) = ch r := by simp only [nx]; rw [dif_neg (by omega)]
        rw [hstep, this] at hr
        exact ih hr
  refine follow_sound (T := T) hT (fun x hx => .inl hx) fun c hc => ?_
  have hc := List.mem_of_mem_take hc
  obtain ⟨q, hq, e⟩ := List.mem_iff_getElem.1 hc
  rw [List.getElem_eraseIdx] at e
  obtain ⟨j, hj, hne, ej⟩ : ∃ j, ∃ hj : j < hs.length, j ≠ i ∧ hs[j] = c := by
    rw [List.length_eraseIdx] at hq
    split at e
    · exact ⟨q, by split at hq <;> omega, by omega, e⟩
    · exact ⟨q + 1, by split at hq <;> omega, by omega, e⟩
  have ejd : hs.getD j [] = c := by rw [getD_lt hj, ej]
  by_cases hS : S j
  · obtain ⟨p, h1, h2, h3⟩ := back j hS hne
    exact ⟨_, by rw [← ejd]; exact h3, .inr (.inr ⟨p, h1, h2, rfl⟩)⟩
  · have hj' : j < us.length := by
      rcases Nat.lt_or_ge j us.length with h | h
      · exact h
      · exact absurd (by obtain ⟨r, hr⟩ := hend; exact ⟨r, by omega⟩) hS
    obtain ⟨_, b, _, _⟩ := look_unit.1 (t.un j hj')
    exact ⟨_, by rw [← ejd]; exact b, .inr (.inl ⟨j, hj', hS, rfl⟩)⟩
theorem Run.tight {A0 : List Int} {l : List (List Int)} {taken : List Nat} {units : List Int} {i : Nat} (r : Run A0 l taken units) (hi : i < l.length) (hf : (lookP (A0 ++ units) l[i]).1 = 2) {K : List Nat}
    (hK : K = neededP ((taken ++ [i]).map fun i => l.getD i []) units) :
    Tight A0 (K.map fun k => l.getD ((taken ++ [i]).getD k 0) []) (K.dropLast.map fun k => units.getD k 0) := by
  have hlen := r.len
  have hTl : ((taken ++ [i]).map fun i => l.getD i []).length = units.length + 1 := by simp [hlen]
  have hmem : ∀ k, k ∈ K ↔ Nd ((taken ++ [i]).map fun i => l.getD i []) units k := fun k => by rw [hK]; exact mem_needed
  have hs : K.Pairwise (· < ·) := by rw [hK]; exact sorted_needed _ _
  have hle : ∀ k ∈ K, k ≤ units.length := fun k hk => by have := ((hmem k).1 hk).lt; omega
  have hm : units.length ∈ K := (hmem _).2 (.last (by omega) (Nat.le_refl _))
  obtain ⟨D, hD⟩ : ∃ D, K = D ++ [units.length] := by
    have hne : K ≠ [] := by rintro rfl; cases hm
    refine ⟨K.dropLast, ?_⟩
    have e := List.dropLast_concat_getLast hne
    have : K.getLast hne = units.length := by
      have h1 := hle _ (List.getLast_mem hne)
      rw [← e] at hm
      rcases List.mem_append.1 hm with h | h
      · rw [← e] at hs
        have := (List.pairwise_append.1 hs).2.2 _ h (K.getLast hne) (by simp)
        omega
      · simp at h; exact h.symm
    rw [this] at e; exact e.symm
  have hTg : ∀ k, k < units.length + 1 → ((taken ++ [i]).map fun i => l.getD i []).getD k [] = l.getD ((taken ++ [i]).getD k 0) [] := fun k hk => by
    rw [getD_lt (by rw [hTl]; exact hk), List.getElem_map, getD_lt (L := taken ++ [i]) (by simp [hlen]; omega)]
  have hdl : K.dropLast = D := by rw [hD]; simp
  rw [hdl]
  have hDl : ∀ q (hq : q < D.length), D[q] < units.length := fun q hq => by
    rw [hD] at hs
    exact (List.pairwise_append.1 hs).2.2 _ (List.getElem_mem hq) _ (by simp)
  have hDs : D.Pairwise (· < ·) := by rw [hD] at hs; exact (List.pairwise_append.1 hs).1
  have hKq : ∀ q (hq : q < D.length), (K.map fun k => l.getD ((taken ++ [i]).getD k 0) []).getD q [] = l.getD ((taken ++ [i]).getD D[q] 0) [] := fun q hq => by
    have : q < K.length := by rw [hD]; simp; omega
    rw [getD_lt (by simpa using this), List.getElem_map]
    congr 2
    simp only [hD]
    rw [List.getElem_append_left hq]
  have hKe : (K.map fun k => l.getD ((taken ++ [i]).getD k 0) []).getD D.length [] = l[i] := by
    have : D.length < K.length := by rw [hD]; simp
    rw [getD_lt (by simpa using this), List.getElem_map]
    have e1 : K[D.length] = units.length := by simp only [hD]; simp
    rw [e1, ← hlen, getD_lt (L := taken ++ [i]) (by simp)]
    simp [List.getElem?_eq_getElem hi]
  have takeM : ∀ q, q ≤ D.length → ∀ x, x ∈ (D.map fun k => units.getD k 0).take q ↔ ∃ p, ∃ hp : p < D.length, p < q ∧ units.getD D[p] 0 = x := by
    intro q hq x
    rw [mem_take_iff (by simpa using hq)]
    constructor
    · rintro ⟨j, hj, e⟩
      rw [getD_lt (L := D.map _) (by simp; omega), List.getElem_map] at e
      exact ⟨j, by omega, hj, e⟩
    · rintro ⟨p, hp, hpq, e⟩
      refine ⟨p, hpq, ?_⟩
      rw [getD_lt (L := D.map _) (by simpa using hp), List.getElem_map]; exact e
  have idx : ∀ k, k ∈ K → k < units.length → ∃ p, ∃ hp : p < D.length, D[p] = k := by
    intro k hk hlt
    rw [hD] at hk
    rcases List.mem_append.1 hk with h | h
    · obtain ⟨p, hp, e⟩ := List.mem_iff_getElem.1 h; exact ⟨p, hp, e⟩
    · simp at h; omega
  have mono : ∀ p q (hp : p < D.length) (hq : q < D.length), D[p] < D[q] ↔ p < q := by
    intro p q hp hq
    constructor
    · intro h
      rcases Nat.lt_trichotomy p q with h1 | h1 | h1
      · exact h1
      · subst h1; omega
      · have := List.pairwise_iff_getElem.1 hDs q p hq hp h1; omega
    · exact fun h => List.pairwise_iff_getElem.1 hDs p q hp hq h
  refine ⟨by simp [hD], fun q hq => ?_, ?_, ?_, fun q hq => ?_⟩
  · simp only [List.length_map] at hq
    have hk := hDl q hq
    have hu := r.un D[q] hk
    rw [hKq q hq]
    have e1 : (taken ++ [i]).getD D[q] 0 = taken.getD D[q] 0 := by
      rw [getD_lt (L := taken ++ [i]) (by simp; omega), List.getElem_append_left (by omega), getD_lt (by omega)]
    rw [e1, getD_lt (L := D.map _) (by simpa using hq), List.getElem_map]
    obtain ⟨u1, u2, u3, u4⟩ := look_unit.1 hu
    have sub : ∀ x, x ∈ A0 ++ (D.map fun k => units.getD k 0).take q → x ∈ A0 ++ units.take D[q] := by
      intro x hx
      rcases List.mem_append.1 hx with hx | hx
      · exact List.mem_append_left _ hx
      · obtain ⟨p, hp, hpq, e⟩ := (takeM q (by omega) x).1 hx
        exact List.mem_append_right _ ((mem_take_iff (by omega)).2 ⟨D[p], (mono p q hp hq).2 hpq, e⟩)
    refine look_unit.2 ⟨fun y hy hin => u1 y hy (sub y hin), u2, fun hin => u3 (sub _ hin), fun y hy => ?_⟩
    rcases u4 y hy with h | h
    · exact .inl h
    · right
      rcases List.mem_append.1 h with h | h
      · exact List.mem_append_left _ h
      · obtain ⟨j, hj, e⟩ := (mem_take_iff (by omega)).1 h
        have hjK : j ∈ K := (hmem j).2 (.next hj (by rw [hTl]; omega) ((hmem _).1 (by rw [hD]; exact List.mem_append_left _ (List.getElem_mem hq))) (by omega) (by
          rw [hTg _ (by omega), e1, e, Int.neg_neg]; exact hy))
        obtain ⟨p, hp, ep⟩ := idx j hjK (by omega)
        exact List.mem_append_right _ ((takeM q (by omega) _).2 ⟨p, hp, (mono p q hp hq).1 (by omega), by rw [ep]; exact e⟩)
  · simp only [List.length_map]
    rw [hKe]
    obtain ⟨f1, f2⟩ := look_fails.1 hf
    have sub : ∀ x, x ∈ A0 ++ (D.map fun k => units.getD k 0) → x ∈ A0 ++ units := by
      intro x hx
      rcases List.mem_append.1 hx with hx | hx
      · exact List.mem_append_left _ hx
      · have := (takeM D.length (Nat.le_refl _) x).1 (by rw [List.take_of_length_le (by simp)]; exact hx)
        obtain ⟨p, hp, _, e⟩ := this
        exact List.mem_append_right _ (mem_iff_getD.2 ⟨D[p], hDl p hp, e⟩)
    refine look_fails.2 ⟨fun x hx hin => f1 x hx (sub x hin), fun x hx => ?_⟩
    rcases List.mem_append.1 (f2 x hx) with h | h
    · exact List.mem_append_left _ h
    · obtain ⟨j, hj, e⟩ := mem_iff_getD.1 h
      have hjK : j ∈ K := (hmem j).2 (.next (k := units.length) hj (by rw [hTl]; omega) ((hmem _).1 hm) hj (by
        rw [hTg _ (by omega), ← hlen, getD_lt (L := taken ++ [i]) (by simp)]
        simp only [List.getElem_append_right (Nat.le_refl _), Nat.sub_self, List.getElem_singleton]
        rw [e, Int.neg_neg, getD_lt hi]; exact hx))
      obtain ⟨p, hp, ep⟩ := idx j hjK hj
      refine List.mem_append_right _ ?_
      rw [List.mem_map]
      exact ⟨D[p], List.getElem_mem hp, by rw [ep]; exact e⟩
  · obtain ⟨a, b⟩ := okA_iff.1 r.ok
    have sub : ∀ x, x ∈ A0 ++ (D.map fun k => units.getD k 0) → x ∈ A0 ++ units := by
      intro x hx
      rcases List.mem_append.1 hx with hx | hx
      · exact List.mem_append_left _ hx
      · rw [List.mem_map] at hx
        obtain ⟨k, hk, e⟩ := hx
        obtain ⟨p, hp, ep⟩ := List.mem_iff_getElem.1 hk
        exact List.mem_append_right _ (mem_iff_getD.2 ⟨k, by rw [← ep]; exact hDl p hp, e⟩)
    exact okA_iff.2 ⟨fun x hx => a x (sub x hx), fun x hx hn => b x (sub x hx) (sub _ hn)⟩
  · simp only [List.length_map] at hq ⊢
    have hk := hDl q hq
    rw [getD_lt (L := D.map _) (by simpa using hq), List.getElem_map]
    have hqK : D[q] ∈ K := by rw [hD]; exact List.mem_append_left _ (List.getElem_mem hq)
    cases (hmem _).1 hqK with
    | last _ h => omega
    | next h1 h2 h3 h4 h5 =>
      rename_i k
      rw [hTl] at h2
      rw [hTg k h2] at h5
      rcases Nat.lt_or_ge k units.length with h | h
      · obtain ⟨p, hp, ep⟩ := idx k ((hmem k).2 h3) h
        refine ⟨p, (mono q p hq hp).1 (by omega), by omega, ?_⟩
        rw [hKq p hp, ep]; exact h5
      · have : k = units.length := by omega
        subst this
        refine ⟨D.length, hq, Nat.le_refl _, ?_⟩
        rw [hKe]
        rw [← hlen, getD_lt (L := taken ++ [i]) (by simp)] at h5
        simp only [List.getElem_append_right (Nat.le_refl _), Nat.sub_self, List.getElem_singleton] at h5
        rw [getD_lt hi] at h5; exact h5
end Go.Rp
