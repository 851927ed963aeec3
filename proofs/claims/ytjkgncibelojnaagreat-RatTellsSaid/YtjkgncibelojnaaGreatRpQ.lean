/-
  Unit propagation: what follows, what is found, that it is right and complete. No program here.
-/
import Derived.Test.YtjkgncibelojnaaGreatRpP
set_option linter.unusedVariables false
set_option linter.unusedSimpArgs false
namespace Go.Rp
open Go Go.Cl

theorem mem_negs {c : List Int} (h : rightC c = true) {x : Int} : x ∈ negs c ↔ -x ∈ c := by
  unfold negs
  rw [List.mem_map]
  constructor
  · rintro ⟨y, hy, rfl⟩; rw [Int.neg_neg]; exact (mem_nrm h).1 hy
  · intro hx; exact ⟨-x, (mem_nrm h).2 hx, by omega⟩
theorem okA_negs {c : List Int} (h : rightC c = true) (ha : alwaysC c = false) : okA (negs c) = true := by
  refine okA_iff.2 ⟨fun x hx => ?_, fun x hx hn => ?_⟩
  · have := rt_neg (rightC_rt h _ ((mem_negs h).1 hx)); rwa [Int.neg_neg] at this
  · have h1 := (mem_negs h).1 hx
    have h2 := (mem_negs h).1 hn
    have : alwaysC c = true := always_iff.2 ⟨-x, h1, by simpa using h2⟩
    rw [ha] at this; cases this
theorem strict_negs {c : List Int} (h : rightC c = true) (ha : alwaysC c = false) : Strict (negs c) := by
  unfold negs
  refine List.pairwise_map.2 ((strict_nrm h).imp_of_mem fun {a b} hma hmb hab => ?_)
  have h1 := (mem_nrm h).1 hma
  have h2 := (mem_nrm h).1 hmb
  have ra := rightC_rt h _ h1
  have rb := rightC_rt h _ h2
  have hne : b ≠ -a := by
    rintro rfl
    have : alwaysC c = true := always_iff.2 ⟨a, h1, h2⟩
    rw [ha] at this; cases this
  have i := (ltL_rt ra rb).1 hab
  refine (ltL_rt (rt_neg ra) (rt_neg rb)).2 ?_
  have r1 := rt_iff.1 ra
  have r2 := rt_iff.1 rb
  unfold ix at i ⊢
  split at i <;> split at i <;> split <;> split <;> omega
theorem negs_unique {c L : List Int} (h : rightC c = true) (ha : alwaysC c = false) (s : Strict L) (hm : ∀ x, x ∈ L ↔ -x ∈ c) : L = negs c :=
  s.unique (strict_negs h ha) fun x => by rw [hm, mem_negs h]

theorem followGo_more {A : List Int} : ∀ {cs : List (List Int)} {more : List Int} {i : Nat},
    followGo A cs more i = ((if (followGo A cs [] 0).2.2.2 = 0 then more ++ (followGo A cs [] 0).1 else []), i + (followGo A cs [] 0).2.1, (followGo A cs [] 0).2.2.1, (followGo A cs [] 0).2.2.2) := by
  intro cs
  induction cs generalizing A with
  | nil => intro more i; simp [followGo]
  | cons c cs ih =>
    intro more i
    simp only [followGo]
    split
    · simp
    · split
      · rw [ih (more := more ++ [_]) (i := i + 1), ih (more := [] ++ [_]) (i := 0 + 1)]
        by_cases h0 : (followGo (A ++ [(lookP A c).2]) cs [] 0).2.2.2 = 0
        · simp [h0]; omega
        · simp [h0]; omega
      · simp
theorem followP_fail {A c : List Int} {cs : List (List Int)} (h : (lookP A c).1 = 2) : followP A (c :: cs) = ([], 1, true, 0) := by
  simp [followP, followGo, h]
theorem followP_unit {A c : List Int} {cs : List (List Int)} {x : Int} (h : lookP A c = (3, x)) :
    followP A (c :: cs) = ((if (followP (A ++ [x]) cs).2.2.2 = 0 then x :: (followP (A ++ [x]) cs).1 else []), (followP (A ++ [x]) cs).2.1 + 1, (followP (A ++ [x]) cs).2.2.1, (followP (A ++ [x]) cs).2.2.2) := by
  simp only [followP, followGo, h]
  rw [followGo_more]
  by_cases h0 : (followGo (A ++ [x]) cs [] 0).2.2.2 = 0 <;> simp [h0, Nat.add_comm]
theorem followP_bad {A c : List Int} {cs : List (List Int)} (h2 : (lookP A c).1 ≠ 2) (h3 : (lookP A c).1 ≠ 3) : followP A (c :: cs) = ([], 0, false, 81) := by
  simp [followP, followGo, h2, h3]

theorem follow_sound {T : Int → Prop} (hT : ∀ x, T x → ¬ T (-x)) {A : List Int} : ∀ {cs : List (List Int)}, (∀ x ∈ A, T x) → (∀ c ∈ cs.take (followP A cs).2.1, ∃ x ∈ c, T x) → (followP A cs).2.2.1 = false := by
  intro cs
  induction cs generalizing A with
  | nil => intro _ _; rfl
  | cons c cs ih =>
    intro hA hc
    by_cases h2 : (lookP A c).1 = 2
    · rw [followP_fail h2] at hc
      obtain ⟨x, hx, ht⟩ := hc c (by simp)
      exact absurd (hA _ ((look_fails.1 h2).2 x hx)) (hT x ht)
    · by_cases h3 : (lookP A c).1 = 3
      · have hx : lookP A c = (3, (lookP A c).2) := Prod.ext h3 rfl
        rw [followP_unit hx] at hc ⊢
        simp only [List.take_succ_cons] at hc
        have hu := look_unit' h3
        refine ih (A := A ++ [(lookP A c).2]) (fun y hy => ?_) fun d hd => hc d (by simp [hd])
        rcases List.mem_append.1 hy with hy | hy
        · exact hA y hy
        · simp at hy; subst hy
          obtain ⟨z, hz, ht⟩ := hc c (by simp)
          rcases hu.2.2.2 z hz with rfl | hn
          · exact ht
          · exact absurd (hA _ hn) (hT z ht)
      · rw [followP_bad h2 h3]

structure Run (A0 : List Int) (l : List (List Int)) (taken : List Nat) (units : List Int) : Prop where
  len : taken.length = units.length
  lt : ∀ i ∈ taken, i < l.length
  un : ∀ k, k < units.length → lookP (A0 ++ units.take k) (l.getD (taken.getD k 0) []) = (3, units.getD k 0)
  ok : okA (A0 ++ units) = true

theorem Run.nil {A0 : List Int} {l : List (List Int)} (h : okA A0 = true) : Run A0 l [] [] := ⟨rfl, by simp, by simp, by simpa using h⟩
theorem getD_lt {α : Type} {L : List α} {i : Nat} {d : α} (h : i < L.length) : L.getD i d = L[i] := by simp [List.getD_eq_getElem?_getD, List.getElem?_eq_getElem h]
theorem Run.snoc {A0 : List Int} {l : List (List Int)} {taken : List Nat} {units : List Int} (r : Run A0 l taken units) (hr : ∀ c ∈ l, ∀ x ∈ c, rt x = true) {i : Nat} {x : Int} (hi : i < l.length) (h : lookP (A0 ++ units) l[i] = (3, x)) :
    Run A0 l (taken ++ [i]) (units ++ [x]) where
  len := by simp [r.len]
  lt := fun j hj => by
    simp only [List.mem_append, List.mem_singleton] at hj
    rcases hj with hj | rfl
    · exact r.lt j hj
    · exact hi
  un := fun k hk => by
    simp only [List.length_append, List.length_singleton] at hk
    by_cases hk' : k < units.length
    · have := r.un k hk'
      rw [List.take_append_of_le_length (by omega), getD_lt (L := taken ++ [i]) (by simp; have := r.len; omega), getD_lt (L := units ++ [x]) (by simp; omega), List.getElem_append_left (by have := r.len; omega), List.getElem_append_left hk', ← getD_lt (d := 0) (by have := r.len; omega), ← getD_lt (d := 0) hk']
      exact this
    · have : k = units.length := by omega
      subst this
      rw [List.take_append_of_le_length (Nat.le_refl _), List.take_length, getD_lt (L := taken ++ [i]) (by simp [r.len]), getD_lt (L := units ++ [x]) (by simp)]
      have e1 : (taken ++ [i])[units.length]'(by simp [r.len]) = i := by simp [← r.len]
      rw [e1, getD_lt hi, h]; simp
  ok := by
    have hu := look_unit.1 h
    rw [← List.append_assoc]
    exact okA_snoc r.ok (hr _ (List.getElem_mem hi) _ hu.2.1) hu.2.2.1

end Go.Rp
