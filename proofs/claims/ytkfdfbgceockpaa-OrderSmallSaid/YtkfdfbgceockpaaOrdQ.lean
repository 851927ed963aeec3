/-
  What is in an order, as a sorted list. No program here.
-/
import Derived.Test.YtkfdfbgceockpaaOrdP
set_option linter.unusedVariables false
set_option linter.unusedSimpArgs false
set_option linter.unusedSectionVars false
namespace Go.Proofs.Ord
open Go Go.Sx Go.Proofs

theorem Cons.nodup {H Pl : List Int} {n : Nat} (c : Cons H Pl n) : H.Nodup := by
  rw [List.nodup_iff_pairwise_ne, List.pairwise_iff_getElem]
  intro i j hi hj hij e
  have := c.inj (i := i) (j := j) hi hj (by simp [g, List.getD_eq_getElem?_getD, hi, hj, e])
  omega

theorem mem_g {H : List Int} {x : Int} : x ∈ H ↔ ∃ i, i < H.length ∧ g H i = x := by
  rw [List.mem_iff_getElem]
  constructor
  · rintro ⟨i, hi, e⟩; exact ⟨i, hi, by simp [g, List.getD_eq_getElem?_getD, hi, e]⟩
  · rintro ⟨i, hi, e⟩; exact ⟨i, hi, by simpa [g, List.getD_eq_getElem?_getD, hi] using e⟩

theorem Cons.mem {H Pl : List Int} {n : Nat} (c : Cons H Pl n) {x : Int} : x ∈ H ↔ 1 ≤ x ∧ x ≤ n ∧ 0 ≤ g Pl x.toNat := by
  rw [mem_g]
  constructor
  · rintro ⟨i, hi, rfl⟩
    have := c.rng i hi
    have := c.fwd i hi
    exact ⟨by omega, by omega, by omega⟩
  · rintro ⟨h1, h2, h3⟩
    obtain ⟨k1, k2⟩ := c.bwd x.toNat (by omega) (by omega) h3
    exact ⟨_, k1, by omega⟩

theorem Cons.length_le {H Pl : List Int} {n : Nat} (c : Cons H Pl n) : H.length ≤ n := by
  have : H ⊆ (List.range n).map (fun k : Nat => (k : Int) + 1) := by
    intro x hx
    obtain ⟨h1, h2, _⟩ := c.mem.1 hx
    simp only [List.mem_map, List.mem_range]
    exact ⟨(x - 1).toNat, by omega, by omega⟩
  have := c.nodup.length_le_of_subset this
  simpa using this

theorem Cons.perm {H H' Pl Pl' : List Int} {n : Nat} (c : Cons H Pl n) (c' : Cons H' Pl' n) (s : Same Pl Pl') : H'.Perm H := by
  rw [List.perm_ext_iff_of_nodup c'.nodup c.nodup]
  intro x
  rw [c.mem, c'.mem]
  constructor
  · rintro ⟨h1, h2, h3⟩; exact ⟨h1, h2, (s.2 _ (by omega)).1 h3⟩
  · rintro ⟨h1, h2, h3⟩; exact ⟨h1, h2, (s.2 _ (by omega)).2 h3⟩

def srt (act xs : List Int) : List Int := xs.mergeSort (fun a b => !bef act b a)
abbrev Sorted (act L : List Int) : Prop := L.Pairwise (fun a b => bef act a b = true)

theorem srt_perm (act xs : List Int) : (srt act xs).Perm xs := List.mergeSort_perm _ _

theorem bef_total {act : List Int} {a b : Int} (hne : a ≠ b) : bef act a b = true ∨ bef act b a = true := by
  rw [bef_iff, bef_iff]; omega

theorem srt_sorted {act xs : List Int} (hn : xs.Nodup) : Sorted act (srt act xs) := by
  have h1 : (srt act xs).Pairwise (fun a b => (!bef act b a) = true) := by
    apply List.pairwise_mergeSort
    · intro a b c h1 h2
      simp only [Bool.not_eq_true'] at *
      exact bef_trans_ff h2 h1
    · intro a b
      simp only [Bool.or_eq_true, Bool.not_eq_true']
      cases h : bef act b a with
      | false => exact .inl rfl
      | true => exact .inr (bef_asymm h)
  have h2 : (srt act xs).Nodup := (srt_perm act xs).nodup_iff.2 hn
  rw [List.nodup_iff_pairwise_ne] at h2
  refine (h1.and h2).imp ?_
  rintro a b ⟨k1, k2⟩
  rcases bef_total (act := act) k2 with h | h
  · exact h
  · rw [h] at k1; cases k1

theorem Sorted.nodup {act L : List Int} (s : Sorted act L) : L.Nodup := by
  rw [List.nodup_iff_pairwise_ne]
  refine s.imp ?_
  rintro a b h rfl
  have := bef_asymm h
  rw [h] at this; cases this

theorem Sorted.unique {act L xs : List Int} (s : Sorted act L) (s' : Sorted act xs) (p : L.Perm xs) : L = xs :=
  p.eq_of_pairwise (fun a b _ _ h1 h2 => by rw [bef_asymm h1] at h2; cases h2) s s'

theorem Sorted.eq_srt {act L xs : List Int} (s : Sorted act L) (p : L.Perm xs) : L = srt act xs :=
  s.unique (srt_sorted (p.nodup_iff.1 s.nodup)) (p.trans (srt_perm act xs).symm)

theorem srt_congr {act xs ys : List Int} (hn : xs.Nodup) (p : xs.Perm ys) : srt act xs = srt act ys :=
  (srt_sorted hn).eq_srt ((srt_perm _ _).trans p)

theorem mem_srt {act xs : List Int} {x : Int} : x ∈ srt act xs ↔ x ∈ xs := (srt_perm act xs).mem_iff
theorem length_srt {act xs : List Int} : (srt act xs).length = xs.length := (srt_perm act xs).length_eq

/-- The heap's first is the list's first. -/
theorem Heaped.least {act H : List Int} (hp : Heaped act H) : ∀ j, j < H.length → bef act (g H j) (g H 0) = false := by
  intro j
  induction j using Nat.strongRecOn with
  | _ j ih =>
    intro hj
    have d := par_def j
    by_cases h0 : j = 0
    · subst h0; rw [bef_false]; omega
    · exact bef_trans_ff (hp j (by omega) hj) (ih (par j) (by omega) (by omega))

theorem srt_head {act H Pl : List Int} {n : Nat} (c : Cons H Pl n) (hp : Heaped act H) : (srt act H).headD 0 = H.headD 0 := by
  have p := srt_perm act H
  have s := srt_sorted (act := act) c.nodup
  cases H with
  | nil => rw [List.perm_nil.1 p]
  | cons x xs =>
    generalize hL : srt act (x :: xs) = L at *
    cases L with
    | nil => have := p.length_eq; simp at this
    | cons y ys =>
      show y = x
      by_cases e : y = x
      · exact e
      have hx : x ∈ y :: ys := p.mem_iff.2 (by simp)
      have hx : x ∈ ys := by simpa [Ne.symm e] using hx
      have k1 := (List.pairwise_cons.1 s).1 x hx
      have hy : y ∈ x :: xs := p.mem_iff.1 (by simp)
      obtain ⟨j, hj, ej⟩ := mem_g.1 hy
      have k2 := hp.least j hj
      rw [ej] at k2
      have : g (x :: xs) 0 = x := rfl
      rw [this, k1] at k2; cases k2

/-! ### put in, taken out -/

theorem Cons.snoc {H Pl : List Int} {n : Nat} (c : Cons H Pl n) {v : Nat} (h1 : 1 ≤ v) (h2 : v ≤ n) (h3 : g Pl v < 0) :
    Cons (H ++ [(v : Int)]) (Pl.set v H.length) n := by
  have hl := c.len
  have ga : ∀ j, g (H ++ [(v : Int)]) j = if j < H.length then g H j else if j = H.length then (v : Int) else 0 := by
    intro j
    simp only [g, List.getD_eq_getElem?_getD, List.getElem?_append]
    by_cases h : j < H.length
    · simp [h]
    · simp only [h, if_false]
      by_cases e : j = H.length
      · subst e; simp
      · have : j - H.length ≠ 0 := by omega
        rw [if_neg e]
        obtain ⟨k, hk⟩ : ∃ k, j - H.length = k + 1 := ⟨j - H.length - 1, by omega⟩
        rw [hk]; rfl
  refine ⟨by simp [hl], fun i hi => ?_, fun i hi => ?_, fun w w1 w2 w3 => ?_⟩
  · simp only [List.length_append, List.length_singleton] at hi
    rw [ga]
    by_cases h : i < H.length
    · rw [if_pos h]; exact c.rng i h
    · rw [if_neg h, if_pos (by omega)]; omega
  · simp only [List.length_append, List.length_singleton] at hi
    rw [ga]
    by_cases h : i < H.length
    · have f := c.fwd i h
      have r := c.rng i h
      rw [if_pos h, g_set, if_neg (by rintro ⟨e, _⟩; rw [← e] at f; omega)]
      exact f
    · rw [if_neg h, if_pos (by omega), g_set, if_pos ⟨by simp, by simp; omega⟩]; omega
  · rw [g_set] at w3 ⊢
    by_cases e : v = w ∧ w < Pl.length
    · rw [if_pos e, ga]; simp [e.1]
    · rw [if_neg e] at w3 ⊢
      obtain ⟨k1, k2⟩ := c.bwd w w1 w2 w3
      rw [ga, if_pos k1]
      exact ⟨by simp; omega, k2⟩

theorem Heaped.snoc {act H : List Int} (hp : Heaped act H) (v : Int) : Hole act (H ++ [v]) H.length ∧ DownOk act (H ++ [v]) H.length := by
  have ga : ∀ j, j < H.length → g (H ++ [v]) j = g H j := by
    intro j hj
    simp only [g, List.getD_eq_getElem?_getD, List.getElem?_append, hj, if_true]
  refine ⟨⟨fun j j0 j1 j2 j3 => ?_, fun j j0 j1 j2 _ => ?_⟩, fun j j0 j1 j2 => ?_⟩
  all_goals
    have d := par_def j
    simp only [List.length_append, List.length_singleton] at j1
  · rw [ga j (by omega), ga (par j) (by omega)]; exact hp j j0 (by omega)
  · omega
  · omega

theorem Cons.pop {H Pl : List Int} {n : Nat} (c : Cons H Pl n) {v : Nat} (h1 : 1 ≤ v) (h2 : v ≤ n) (h3 : g Pl v = (H.length : Int) - 1) (h4 : 0 < H.length) :
    Cons H.dropLast (Pl.set v (-1)) n := by
  have hl := c.len
  have ga : ∀ j, j < H.length - 1 → g H.dropLast j = g H j := by
    intro j hj
    simp only [g, List.getD_eq_getElem?_getD, List.getElem?_dropLast]
    rw [if_pos hj]
  obtain ⟨b1, b2⟩ := c.bwd v h1 h2 (by omega)
  have e : (g Pl v).toNat = H.length - 1 := by omega
  rw [e] at b2
  refine ⟨by simp [hl], fun i hi => ?_, fun i hi => ?_, fun w w1 w2 w3 => ?_⟩
  · simp only [List.length_dropLast] at hi
    rw [ga i hi]; exact c.rng i (by omega)
  · simp only [List.length_dropLast] at hi
    have f := c.fwd i (by omega)
    rw [ga i hi, g_set, if_neg (by rintro ⟨e', _⟩; rw [← e'] at f; omega)]
    exact f
  · rw [g_set] at w3 ⊢
    by_cases e' : v = w ∧ w < Pl.length
    · rw [if_pos e'] at w3; omega
    · rw [if_neg e'] at w3 ⊢
      obtain ⟨k1, k2⟩ := c.bwd w w1 w2 w3
      have hne : (g Pl w).toNat ≠ H.length - 1 := by
        intro e2; rw [e2, b2] at k2; apply e'; omega
      simp only [List.length_dropLast]
      refine ⟨by omega, ?_⟩
      rw [ga _ (by omega)]; exact k2

/-- v is taken out of the middle: the last one stands for it. -/
theorem Cons.cut {H Pl : List Int} {n : Nat} (c : Cons H Pl n) {v i : Nat} (h1 : 1 ≤ v) (h2 : v ≤ n) (h3 : g Pl v = (i : Int)) (h4 : i + 1 < H.length) :
    Cons (H.dropLast.set i (g H (H.length - 1))) ((Pl.set v (-1)).set (g H (H.length - 1)).toNat i) n := by
  have sw := c.swap (i := i) (p := H.length - 1) (by omega) (by omega) (by omega)
  obtain ⟨b1, b2⟩ := c.bwd v h1 h2 (by omega)
  have e : (g Pl v).toNat = i := by omega
  rw [e] at b2
  have rl := c.rng (H.length - 1) (by omega)
  have hl := c.len
  have fl := c.fwd (H.length - 1) (by omega)
  have ne : (g H (H.length - 1)).toNat ≠ v := by intro e; rw [e] at fl; omega
  have := sw.pop (v := v) h1 h2 (by
    rw [g_set, b2, if_pos ⟨by simp, by simp; omega⟩]; simp; omega) (by simp; omega)
  rw [b2] at this
  have e1 : ((H.set i (g H (H.length - 1))).set (H.length - 1) (v : Int)).dropLast = H.dropLast.set i (g H (H.length - 1)) := by
    apply ext_g (by simp)
    intro j hj
    simp only [List.length_dropLast, List.length_set] at hj
    have ga : ∀ (xs : List Int) j, j < xs.length - 1 → g xs.dropLast j = g xs j := by
      intro xs j hj
      simp only [g, List.getD_eq_getElem?_getD, List.getElem?_dropLast]
      rw [if_pos hj]
    rw [ga _ _ (by simpa using hj), g_set, if_neg (by omega), g_set, g_set, ga _ _ hj]
    simp only [List.length_dropLast]
    by_cases e : i = j
    · subst e; rw [if_pos ⟨rfl, by omega⟩, if_pos ⟨rfl, hj⟩]
    · rw [if_neg (by omega), if_neg (by omega)]
  have e2 : ((Pl.set (g H (H.length - 1)).toNat (i : Int)).set (v : Int).toNat ((H.length - 1 : Nat) : Int)).set v (-1) = (Pl.set v (-1)).set (g H (H.length - 1)).toNat i := by
    rw [show (v : Int).toNat = v by simp, List.set_set, List.set_comm _ _ ne]
  rw [e1, e2] at this
  exact this

theorem Heaped.dropLast {act H : List Int} (hp : Heaped act H) : Heaped act H.dropLast := by
  intro j j0 j1
  have d := par_def j
  simp only [List.length_dropLast] at j1
  have ga : ∀ j, j < H.length - 1 → g H.dropLast j = g H j := by
    intro j hj
    simp only [g, List.getD_eq_getElem?_getD, List.getElem?_dropLast]
    rw [if_pos hj]
  rw [ga j j1, ga _ (by omega)]
  exact hp j j0 (by omega)

theorem Heaped.set_hole {act H : List Int} (hp : Heaped act H) (i : Nat) (v : Int) : Hole act (H.set i v) i := by
  refine ⟨fun j j0 j1 j2 j3 => ?_, fun j j0 j1 j2 i0 => ?_⟩
  all_goals
    have d := par_def j
    simp only [List.length_set] at j1
  · rw [g_set, if_neg (by omega), g_set, if_neg (by omega)]; exact hp j j0 j1
  · have d2 := par_def i
    rw [g_set, if_neg (by omega), g_set, if_neg (by omega)]
    have a := hp j j0 j1
    rw [j2] at a
    exact bef_trans_ff a (hp i i0 (by omega))

end Go.Proofs.Ord
