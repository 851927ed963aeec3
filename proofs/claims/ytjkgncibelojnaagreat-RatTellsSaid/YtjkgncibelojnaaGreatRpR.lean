/-
  What hints are needed, and that each of what was found is. No program here.
-/
import Derived.Test.YtjkgncibelojnaaGreatRpQ
set_option linter.unusedVariables false
set_option linter.unusedSimpArgs false
namespace Go.Rp
open Go Go.Cl

inductive Nd (hints : List (List Int)) (units : List Int) : Nat → Prop
  | last {i : Nat} : i < hints.length → units.length ≤ i → Nd hints units i
  | next {i k : Nat} : i < k → k < hints.length → Nd hints units k → i < units.length → -(units.getD i 0) ∈ hints.getD k [] → Nd hints units i

theorem Nd.lt {hints : List (List Int)} {units : List Int} {i : Nat} (h : Nd hints units i) : i < hints.length := by
  cases h with
  | last h _ => exact h
  | next h1 h2 _ _ _ => omega

structure Tight (A0 : List Int) (hs : List (List Int)) (us : List Int) : Prop where
  len : hs.length = us.length + 1
  un : ∀ k, k < us.length → lookP (A0 ++ us.take k) (hs.getD k []) = (3, us.getD k 0)
  fail : (lookP (A0 ++ us) (hs.getD us.length [])).1 = 2
  ok : okA (A0 ++ us) = true
  need : ∀ i, i < us.length → ∃ k, i < k ∧ k ≤ us.length ∧ -(us.getD i 0) ∈ hs.getD k []

theorem Tight.run {A0 : List Int} {hs : List (List Int)} {us : List Int} (t : Tight A0 hs us) : Run A0 hs (List.range us.length) us where
  len := by simp
  lt := fun i hi => by simp at hi; have := t.len; omega
  un := fun k hk => by rw [getD_lt (L := List.range us.length) (by simpa using hk)]; simpa using t.un k hk
  ok := t.ok
theorem Tight.split {A0 : List Int} {hs : List (List Int)} {us : List Int} (t : Tight A0 hs us) : (List.range us.length).map (fun i => hs.getD i []) ++ [hs.getD us.length []] = hs := by
  apply List.ext_getElem
  · simp [t.len]
  · intro n h1 h2
    have hl := t.len
    rcases Nat.lt_or_ge n us.length with h | h
    · rw [List.getElem_append_left (by simpa using h)]
      simp [List.getElem?_eq_getElem h2]
    · have : n = us.length := by omega
      subst this
      rw [List.getElem_append_right (by simp)]
      simp [List.getElem?_eq_getElem h2]
theorem Tight.nd {A0 : List Int} {hs : List (List Int)} {us : List Int} (t : Tight A0 hs us) : ∀ n i, us.length - i = n → i ≤ us.length → Nd hs us i := by
  intro n
  induction n using Nat.strongRecOn with
  | _ n ih =>
    intro i hn hi
    have hl := t.len
    rcases Nat.lt_or_ge i us.length with h | h
    · obtain ⟨k, h1, h2, h3⟩ := t.need i h
      exact .next h1 (by omega) (ih (us.length - k) (by omega) k rfl h2) h h3
    · exact .last (by omega) h
theorem mem_take_iff {us : List Int} {k : Nat} {x : Int} (hk : k ≤ us.length) : x ∈ us.take k ↔ ∃ j, j < k ∧ us.getD j 0 = x := by
  rw [List.mem_iff_getElem]
  constructor
  · rintro ⟨j, hj, e⟩
    have hj' : j < k ∧ j < us.length := by simp at hj; omega
    refine ⟨j, hj'.1, ?_⟩
    rw [getD_lt hj'.2, ← e, List.getElem_take]
  · rintro ⟨j, hj, e⟩
    refine ⟨j, by simp; omega, ?_⟩
    rw [List.getElem_take, ← e, getD_lt (by omega)]
theorem mem_iff_getD {us : List Int} {x : Int} : x ∈ us ↔ ∃ j, j < us.length ∧ us.getD j 0 = x := by
  have := mem_take_iff (us := us) (k := us.length) (x := x) (Nat.le_refl _)
  rwa [List.take_length] at this

def itr (f : Nat → Nat) : Nat → Nat → Nat
  | 0, x => x
  | r + 1, x => f (itr f r x)

theorem Tight.less {A0 : List Int} {hs : List (List Int)} {us : List Int} (t : Tight A0 hs us) {i : Nat} (hi : i ≤ us.length) : (followP A0 (hs.eraseIdx i)).2.2.1 = false := by
  classical
  have hl := t.len
  have fresh : ∀ j, j < us.length → us.getD j 0 ∉ A0 ++ us.take j ∧ -(us.getD j 0) ∉ A0 ++ us.take j := fun j hj => by
    obtain ⟨a, b, c, _⟩ := look_unit.1 (t.un j hj)
    exact ⟨a _ b, c⟩
  have inj : ∀ j k, j < us.length → k < us.length → us.getD j 0 = us.getD k 0 → j = k := by
    intro j k hj hk e
    rcases Nat.lt_trichotomy j k with h | h | h
    · exact absurd (List.mem_append_right A0 ((mem_take_iff (by omega)).2 ⟨j, h, e⟩)) (fresh k hk).1
    · exact h
    · exact absurd (List.mem_append_right A0 ((mem_take_iff (by omega)).2 ⟨k, h, e.symm⟩)) (fresh j hj).1
  have neg : ∀ j k, j < us.length → k < us.length → us.getD j 0 ≠ -(us.getD k 0) := by
    intro j k hj hk e
    exact (okA_iff.1 t.ok).2 _ (List.mem_append_right A0 (mem_iff_getD.2 ⟨k, hk, rfl⟩)) (by rw [← e]; exact List.mem_append_right A0 (mem_iff_getD.2 ⟨j, hj, rfl⟩))
  -- a way from i to the last one
  let nx : Nat → Nat := fun j => if h : j < us.length then Classical.choose (t.need j h) else j
  have hnx : ∀ j, j < us.length → j < nx j ∧ nx j ≤ us.length ∧ -(us.getD j 0) ∈ hs.getD (nx j) [] := fun j hj => by
    simp only [nx, dif_pos hj]; exact Classical.choose_spec (t.need j hj)
  let ch : Nat → Nat := fun r => itr nx r i
  have hle : ∀ r, ch r ≤ us.length := by
    intro r
    induction r with
    | zero => exact hi
    | succ r ih =>
      show nx (ch r) ≤ _
      rcases Nat.lt_or_ge (ch r) us.length with h | h
      · exact (hnx _ h).2.1
      · have : nx (ch r) = ch r := by simp only [nx]; rw [dif_neg (by omega)]
        rw [this]; exact ih
  have hstep : ∀ r, ch (r + 1) = nx (ch r) := fun r => rfl
  let S : Nat → Prop := fun j => ∃ r, ch r = j
  let T : Int → Prop := fun x => x ∈ A0 ∨ (∃ j, j < us.length ∧ ¬ S j ∧ x = us.getD j 0) ∨ (∃ j, j < us.length ∧ S j ∧ x = -(us.getD j 0))
  have inA : ∀ j, j < us.length → us.getD j 0 ∉ A0 := fun j hj h => (fresh j hj).1 (List.mem_append_left _ h)
  have ninA : ∀ j, j < us.length → -(us.getD j 0) ∉ A0 := fun j hj h => (fresh j hj).2 (List.mem_append_left _ h)
  have hT : ∀ x, T x → ¬ T (-x) := by
    rintro x (h1 | ⟨j, hj, hs1, rfl⟩ | ⟨j, hj, hs1, rfl⟩) (h2 | ⟨k, hk, hs2, e⟩ | ⟨k, hk, hs2, e⟩)
    · exact (okA_iff.1 t.ok).2 x (List.mem_append_left _ h1) (List.mem_append_left _ h2)
    · exact ninA k hk (by rw [← e, Int.neg_neg]; exact h1)
    · exact inA k hk (by have : x = us.getD k 0 := by omega
                         rw [← this]; exact h1)
    · exact ninA j hj h2
    · exact neg k j hk hj e.symm
    · have := inj j k hj hk (by omega); subst this; exact hs1 hs2
    · rw [Int.neg_neg] at h2; exact inA j hj h2
    · have := inj j k hj hk (by omega); subst this; exact hs2 hs1
    · exact neg j k hj hk (by omega)
  -- the last one is on the way
  have hend : ∃ r, ch r = us.length := by
    have grow : ∀ r, (∃ q, ch q = us.length) ∨ i + r ≤ ch r := by
      intro r
      induction r with
      | zero => right; show i + 0 ≤ i; omega
      | succ r ih =>
        rcases ih with h | h
        · exact .inl h
        · rcases Nat.lt_or_ge (ch r) us.length with h' | h'
          · right; rw [hstep]; have := (hnx _ h').1; omega
          · left; exact ⟨r, by have := hle r; omega⟩
    rcases grow (us.length + 1) with h | h
    · exact h
    · have := hle (us.length + 1); omega
  have back : ∀ j, S j → j ≠ i → ∃ p, p < us.length ∧ S p ∧ -(us.getD p 0) ∈ hs.getD j [] := by
    rintro j ⟨r, hr⟩ hne
    induction r with
    | zero => exact absurd hr.symm hne
    | succ r ih =>
      rcases Nat.lt_or_ge (ch r) us.length with h | h
      · refine ⟨ch r, h, ⟨r, rfl⟩, ?_⟩
        rw [← hr, hstep]; exact (hnx _ h).2.2
      · have : nx (ch r) = ch r := by simp only [nx]; rw [dif_neg (by omega)]
        rw [hstep, this] at hr
        exact ih hr
  refine follow_sound (T := T) hT (fun x hx => .inl hx) fun c hc => ?_
  have hc := List.mem_of_mem_take hc
  obtain ⟨q, hq, e⟩ := List.mem_iff_getElem.1 hc
  rw [List.getElem_eraseIdx] at e
  obtain ⟨j, hj, hne, ej⟩ : ∃ j, ∃ hj : j < hs.length, j ≠ i ∧ hs[j] = c := by
    rw [List.length_eraseIdx] at hq
    split at e
    · exact ⟨q, by split at hq <;> omega, by omega, e⟩
    · exact ⟨q + 1, by split at hq <;> omega, by omega, e⟩
  have ejd : hs.getD j [] = c := by rw [getD_lt hj, ej]
  by_cases hS : S j
  · obtain ⟨p, h1, h2, h3⟩ := back j hS hne
    exact ⟨_, by rw [← ejd]; exact h3, .inr (.inr ⟨p, h1, h2, rfl⟩)⟩
  · have hj' : j < us.length := by
      rcases Nat.lt_or_ge j us.length with h | h
      · exact h
      · exact absurd (by obtain ⟨r, hr⟩ := hend; exact ⟨r, by omega⟩) hS
    obtain ⟨_, b, _, _⟩ := look_unit.1 (t.un j hj')
    exact ⟨_, by rw [← ejd]; exact b, .inr (.inl ⟨j, hj', hS, rfl⟩)⟩

end Go.Rp
