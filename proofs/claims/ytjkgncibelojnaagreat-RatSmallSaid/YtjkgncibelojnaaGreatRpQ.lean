/-
  Unit propagation: what follows, what is found, that it is right and complete. No program here.
-/
import Derived.Test.YtjkgncibelojnaaGreatRpP
set_option linter.unusedVariables false
set_option linter.unusedSimpArgs false
namespace Go.Rp
open Go Go.Cl
theorem mem_negs {c : List Int} (h : rightC c = true) {x : Int} : x ∈ negs c ↔ -x ∈ c := by
  unfold negs
  rw [List.mem_map]
  constructor
  · rintro ⟨y, hy, rfl⟩; rw [Int.neg_neg]; exact (mem_nrm h).1 hy
  · intro hx; exact ⟨-x, (mem_nrm h).2 hx, by omega⟩
theorem okA_negs {c : List Int} (h : rightC c = true) (ha : alwaysC c = false) : okA (negs c) = true := by
  refine okA_iff.2 ⟨fun x hx => ?_, fun x hx hn => ?_⟩
  · have := rt_neg (rightC_rt h _ ((mem_negs h).1 hx)); rwa [Int.neg_neg] at this
  · have h1 := (mem_negs h).1 hx
    have h2 := (mem_negs h).1 hn
    have : alwaysC c = true := always_iff.2 ⟨-x, h1, by simpa using h2⟩
    rw [ha] at this; cases this
theorem strict_negs {c : List Int} (h : rightC c = true) (ha : alwaysC c = false) : Strict (negs c) := by
  unfold negs
  refine List.pairwise_map.2 ((strict_nrm h).imp_of_mem fun {a b} hma hmb hab => ?_)
  have h1 := (mem_nrm h).1 hma
  have h2 := (mem_nrm h).1 hmb
  have ra := rightC_rt h _ h1
  have rb := rightC_rt h _ h2
  have hne : b ≠ -a := by
    rintro rfl
    have : alwaysC c = true := always_iff.2 ⟨a, h1, h2⟩
    rw [ha] at this; cases this
  have i := (ltL_rt ra rb).1 hab
  refine (ltL_rt (rt_neg ra) (rt_neg rb)).2 ?_
  have r1 := rt_iff.1 ra
  have r2 := rt_iff.1 rb
  unfold ix at i ⊢
  split at i <;> split at i <;> split <;> split <;> omega
theorem negs_unique {c L : List Int} (h : rightC c = true) (ha : alwaysC c = false) (s : Strict L) (hm : ∀ x, x ∈ L ↔ -x ∈ c) : L = negs c :=
  s.unique (strict_negs h ha) fun x => by rw [hm, mem_negs h]
theorem followGo_more {A : List Int} : ∀ {cs : List (List Int)} {more : List Int} {i : Nat},
    followGo A cs more i = ((if (followGo A cs [] 0).2.2.2 = 0 then more ++ (followGo A cs [] 0).1 else []), i + (followGo A cs [] 0).2.1, (followGo A cs [] 0).2.2.1, (followGo A cs [] 0).2.2.2) := by
  intro cs
  induction cs generalizing A with
  | nil => intro more i; simp [followGo]
  | cons c cs ih =>
    intro more i
    simp only [followGo]
    split
    · simp
    · split
      · rw [ih (more := more ++ [_]) (i := i + 1), ih (more := [] ++ [_]) (i := 0 + 1)]
        by_cases h0 : (followGo (A ++ [(lookP A c).2]) cs [] 0).2.2.2 = 0
        · simp [h0]; omega
        · simp [h0]; omega
      · simp
theorem followP_nil (A : List Int) : followP A [] = ([], 0, false, 0) := rfl
theorem followP_fail {A c : List Int} {cs : List (List Int)} (h : (lookP A c).1 = 2) : followP A (c :: cs) = ([], 1, true, 0) := by
  simp [followP, followGo, h]
theorem followP_unit {A c : List Int} {cs : List (List Int)} {x : Int} (h : lookP A c = (3, x)) :
    followP A (c :: cs) = ((if (followP (A ++ [x]) cs).2.2.2 = 0 then x :: (followP (A ++ [x]) cs).1 else []), (followP (A ++ [x]) cs).2.1 + 1, (followP (A ++ [x]) cs).2.2.1, (followP (A ++ [x]) cs).2.2.2) := by
  simp only [followP, followGo, h]
  rw [followGo_more]
  by_cases h0 : (followGo (A ++ [x]) cs [] 0).2.2.2 = 0 <;> simp [h0, Nat.add_comm]
theorem followP_bad {A c : List Int} {cs : List (List Int)} (h2 : (lookP A c).1 ≠ 2) (h3 : (lookP A c).1 ≠ 3) : followP A (c :: cs) = ([], 0, false, 81) := by
  simp [followP, followGo, h2, h3]
theorem follow_err (A : List Int) : ∀ cs : List (List Int), (followP A cs).2.2.2 = 0 ∨ (followP A cs).2.2.2 = 81 := by
  intro cs
  induction cs generalizing A with
  | nil => exact .inl rfl
  | cons c cs ih =>
    by_cases h2 : (lookP A c).1 = 2
    · rw [followP_fail h2]; exact .inl rfl
    · by_cases h3 : (lookP A c).1 = 3
      · rw [followP_unit (x := (lookP A c).2) (Prod.ext h3 rfl)]; exact ih _
      · rw [followP_bad h2 h3]; exact .inr rfl
theorem follow_errc (A : List Int) : ∀ cs : List (List Int), (followP A cs).2.2.2 ≠ 0 → (followP A cs).2.2.1 = false ∧ (followP A cs).1 = [] := by
  intro cs
  induction cs generalizing A with
  | nil => intro h; exact absurd rfl h
  | cons c cs ih =>
    by_cases h2 : (lookP A c).1 = 2
    · rw [followP_fail h2]; intro h; exact absurd rfl h
    · by_cases h3 : (lookP A c).1 = 3
      · rw [followP_unit (x := (lookP A c).2) (Prod.ext h3 rfl)]
        intro h
        exact ⟨(ih _ h).1, if_neg h⟩
      · rw [followP_bad h2 h3]; intro _; exact ⟨rfl, rfl⟩
theorem follow_app {A : List Int} : ∀ {cs ds : List (List Int)}, followP A (cs ++ ds) =
    (if (followP A cs).2.2.2 ≠ 0 ∨ (followP A cs).2.2.1 = true then followP A cs
     else ((if (followP (A ++ (followP A cs).1) ds).2.2.2 = 0 then (followP A cs).1 ++ (followP (A ++ (followP A cs).1) ds).1 else []), cs.length + (followP (A ++ (followP A cs).1) ds).2.1, (followP (A ++ (followP A cs).1) ds).2.2.1, (followP (A ++ (followP A cs).1) ds).2.2.2)) := by
  intro cs
  induction cs generalizing A with
  | nil =>
    intro ds
    simp only [List.nil_append, followP_nil, List.append_nil, List.length_nil, Nat.zero_add]
    rw [if_neg (by simp)]
    rcases Decidable.em ((followP A ds).2.2.2 = 0) with h | h
    · rw [if_pos h]
    · rw [if_neg h, ← (follow_errc A ds h).2]
  | cons c cs ih =>
    intro ds
    rw [List.cons_append]
    by_cases h2 : (lookP A c).1 = 2
    · rw [followP_fail h2, followP_fail h2, if_pos (by simp)]
    · by_cases h3 : (lookP A c).1 = 3
      · have hx : lookP A c = (3, (lookP A c).2) := Prod.ext h3 rfl
        rw [followP_unit hx, followP_unit hx, ih]
        obtain ⟨F, hF⟩ : ∃ F, F = followP (A ++ [(lookP A c).2]) cs := ⟨_, rfl⟩
        rw [← hF]
        by_cases hc : F.2.2.2 ≠ 0 ∨ F.2.2.1 = true
        · rw [if_pos hc, if_pos hc]
        · have h0 : F.2.2.2 = 0 := by
            rcases Decidable.em (F.2.2.2 = 0) with h | h
            · exact h
            · exact absurd (.inl h) hc
          rw [if_neg hc, if_neg hc]
          simp only [h0, if_true, List.append_assoc, List.cons_append, List.nil_append, List.length_cons]
          obtain ⟨D, hD⟩ : ∃ D, D = followP (A ++ (lookP A c).2 :: F.1) ds := ⟨_, rfl⟩
          rw [← hD]
          by_cases hd : D.2.2.2 = 0
          · simp [hd]; omega
          · simp [hd]; omega
      · rw [followP_bad h2 h3, followP_bad h2 h3, if_pos (by simp)]
theorem follow_sound {T : Int → Prop} (hT : ∀ x, T x → ¬ T (-x)) {A : List Int} : ∀ {cs : List (List Int)}, (∀ x ∈ A, T x) → (∀ c ∈ cs.take (followP A cs).2.1, ∃ x ∈ c, T x) → (followP A cs).2.2.1 = false := by
  intro cs
  induction cs generalizing A with
  | nil => intro _ _; rfl
  | cons c cs ih =>
    intro hA hc
    by_cases h2 : (lookP A c).1 = 2
    · rw [followP_fail h2] at hc
      obtain ⟨x, hx, ht⟩ := hc c (by simp)
      exact absurd (hA _ ((look_fails.1 h2).2 x hx)) (hT x ht)
    · by_cases h3 : (lookP A c).1 = 3
      · have hx : lookP A c = (3, (lookP A c).2) := Prod.ext h3 rfl
        rw [followP_unit hx] at hc ⊢
        simp only [List.take_succ_cons] at hc
        have hu := look_unit' h3
        refine ih (A := A ++ [(lookP A c).2]) (fun y hy => ?_) fun d hd => hc d (by simp [hd])
        rcases List.mem_append.1 hy with hy | hy
        · exact hA y hy
        · simp at hy; subst hy
          obtain ⟨z, hz, ht⟩ := hc c (by simp)
          rcases hu.2.2.2 z hz with rfl | hn
          · exact ht
          · exact absurd (hA _ hn) (hT z ht)
      · rw [followP_bad h2 h3]
def Closed (B : List Int) (l : List (List Int)) : Prop := ∀ c ∈ l, (lookP B c).1 ≠ 2 ∧ (lookP B c).1 ≠ 3
def meas (A : List Int) (l : List (List Int)) : Nat := (l.flatten.filter fun x => !A.contains x && !A.contains (-x)).length
theorem meas_le (A : List Int) (l : List (List Int)) : meas A l < fuelP l := by
  unfold meas fuelP; have := List.length_filter_le (fun x => !A.contains x && !A.contains (-x)) l.flatten; omega
theorem meas_lt {A : List Int} {l : List (List Int)} {x : Int} (hx : x ∈ l.flatten) (h1 : x ∉ A) (h2 : -x ∉ A) : meas (A ++ [x]) l < meas A l := by
  unfold meas
  have mono : ∀ L : List Int, (L.filter fun y => !(A ++ [x]).contains y && !(A ++ [x]).contains (-y)).length ≤ (L.filter fun y => !A.contains y && !A.contains (-y)).length ∧
      (x ∈ L → (L.filter fun y => !(A ++ [x]).contains y && !(A ++ [x]).contains (-y)).length < (L.filter fun y => !A.contains y && !A.contains (-y)).length) := by
    intro L
    induction L with
    | nil => simp
    | cons z L ih =>
      have hz : (!(A ++ [x]).contains z && !(A ++ [x]).contains (-z)) = true → (!A.contains z && !A.contains (-z)) = true := by
        simp only [Bool.and_eq_true, Bool.not_eq_true', ← Bool.not_eq_true, List.contains_iff_mem, List.mem_append, not_or]
        exact fun h => ⟨h.1.1, h.2.1⟩
      obtain ⟨p, hp⟩ : ∃ p : Int → Bool, p = fun y => !(A ++ [x]).contains y && !(A ++ [x]).contains (-y) := ⟨_, rfl⟩
      obtain ⟨q, hq⟩ : ∃ q : Int → Bool, q = fun y => !A.contains y && !A.contains (-y) := ⟨_, rfl⟩
      have e1 : z = x → q x = true := by rintro rfl; rw [hq]; simp [h1, h2]
      have e2 : p x = false := by rw [hp]; simp
      rw [← hp, ← hq] at ih ⊢
      have hz : p z = true → q z = true := by rw [hp, hq]; exact hz
      simp only [List.filter_cons]
      constructor
      · by_cases h : p z = true
        · rw [if_pos h, if_pos (hz h), List.length_cons, List.length_cons]; have := ih.1; omega
        · rw [if_neg h]
          by_cases h' : q z = true
          · rw [if_pos h', List.length_cons]; have := ih.1; omega
          · rw [if_neg h']; exact ih.1
      · intro hm
        rcases List.mem_cons.1 hm with e | hm
        · subst e
          rw [e2, if_neg (by simp), if_pos (e1 rfl), List.length_cons]
          have := ih.1; omega
        · have := ih.2 hm
          by_cases h : p z = true
          · rw [if_pos h, if_pos (hz h), List.length_cons, List.length_cons]; omega
          · rw [if_neg h]
            by_cases h' : q z = true
            · rw [if_pos h', List.length_cons]; omega
            · rw [if_neg h']; exact this
  exact (mono l.flatten).2 hx
theorem next_some {A : List Int} {l : List (List Int)} {i : Nat} {x : Int} (h : nextP A l = some (i, x)) :
    ∃ hi : i < l.length, (x = 0 ∧ (lookP A l[i]).1 = 2) ∨ lookP A l[i] = (3, x) := by
  unfold nextP at h
  split at h
  · rename_i j hj
    simp at h
    obtain ⟨rfl, rfl⟩ := h
    obtain ⟨hl, h1, _⟩ := List.findIdx?_eq_some_iff_getElem.1 hj
    exact ⟨hl, .inl ⟨rfl, by simpa using h1⟩⟩
  · rw [Option.map_eq_some_iff] at h
    obtain ⟨j, hj, e⟩ := h
    simp at e
    obtain ⟨rfl, rfl⟩ := e
    obtain ⟨hl, h1, _⟩ := List.findIdx?_eq_some_iff_getElem.1 hj
    refine ⟨hl, .inr ?_⟩
    rw [List.getElem?_eq_getElem hl]
    exact Prod.ext (by simpa using h1) rfl
theorem next_none {A : List Int} {l : List (List Int)} (h : nextP A l = none) : Closed A l := by
  unfold nextP at h
  split at h
  · cases h
  · rename_i h2
    rw [Option.map_eq_none_iff] at h
    intro c hc
    have a := List.findIdx?_eq_none_iff.1 h2 c hc
    have b := List.findIdx?_eq_none_iff.1 h c hc
    exact ⟨by simpa using a, by simpa using b⟩
structure Run (A0 : List Int) (l : List (List Int)) (taken : List Nat) (units : List Int) : Prop where
  len : taken.length = units.length
  lt : ∀ i ∈ taken, i < l.length
  un : ∀ k, k < units.length → lookP (A0 ++ units.take k) (l.getD (taken.getD k 0) []) = (3, units.getD k 0)
  ok : okA (A0 ++ units) = true
theorem Run.nil {A0 : List Int} {l : List (List Int)} (h : okA A0 = true) : Run A0 l [] [] := ⟨rfl, by simp, by simp, by simpa using h⟩
theorem getD_lt {α : Type} {L : List α} {i : Nat} {d : α} (h : i < L.length) : L.getD i d = L[i] := by simp [List.getD_eq_getElem?_getD, List.getElem?_eq_getElem h]
theorem Run.snoc {A0 : List Int} {l : List (List Int)} {taken : List Nat} {units : List Int} (r : Run A0 l taken units) (hr : ∀ c ∈ l, ∀ x ∈ c, rt x = true) {i : Nat} {x : Int} (hi : i < l.length) (h : lookP (A0 ++ units) l[i] = (3, x)) :
    Run A0 l (taken ++ [i]) (units ++ [x]) where
  len := by simp [r.len]
  lt := fun j hj => by
    simp only [List.mem_append, List.mem_singleton] at hj
    rcases hj with hj | rfl
    · exact r.lt j hj
    · exact hi
  un := fun k hk => by
    simp only [List.length_append, List.length_singleton] at hk
    by_cases hk' : k < units.length
    · have := r.un k hk'
      rw [List.take_append_of_le_length (by omega), getD_lt (L := taken ++ [i]) (by simp; have := r.len; omega), getD_lt (L := units ++ [x]) (by simp; omega), List.getElem_append_left (by have := r.len; omega), List.getElem_append_left hk', ← getD_lt (d := 0) (by have := r.len; omega), ← getD_lt (d := 0) hk']
      exact this
    · have : k = units.length := by omega
      subst this
      rw [List.take_append_of_le_length (Nat.le_refl _), List.take_length, getD_lt (L := taken ++ [i]) (by simp [r.len]), getD_lt (L := units ++ [x]) (by simp)]
      have e1 : (taken ++ [i])[units.length]'(by simp [r.len]) = i := by simp [← r.len]
      rw [e1, getD_lt hi, h]; simp
  ok := by
    have hu := look_unit.1 h
    rw [← List.append_assoc]
    exact okA_snoc r.ok (hr _ (List.getElem_mem hi) _ hu.2.1) hu.2.2.1
theorem findGo_spec {A0 : List Int} {l : List (List Int)} (hr : ∀ c ∈ l, ∀ x ∈ c, rt x = true) : ∀ (n : Nat) (taken : List Nat) (units : List Int), Run A0 l taken units → meas (A0 ++ units) l < n →
    (findGo l n (A0 ++ units) taken units = none ∧ ∃ B, okA B = true ∧ (∀ x ∈ A0, x ∈ B) ∧ Closed B l) ∨
    (∃ taken' units' i, ∃ hi : i < l.length, findGo l n (A0 ++ units) taken units = some (taken' ++ [i], units') ∧ Run A0 l taken' units' ∧ (lookP (A0 ++ units') l[i]).1 = 2) := by
  intro n
  induction n with
  | zero => intro taken units r hm; omega
  | succ n ih =>
    intro taken units r hm
    simp only [findGo]
    cases hn : nextP (A0 ++ units) l with
    | none => exact .inl ⟨rfl, A0 ++ units, r.ok, fun x hx => List.mem_append_left _ hx, next_none hn⟩
    | some p =>
      obtain ⟨i, x⟩ := p
      obtain ⟨hi, h⟩ := next_some hn
      simp only
      rcases h with ⟨rfl, h⟩ | h
      · rw [if_pos rfl]
        exact .inr ⟨taken, units, i, hi, rfl, r, h⟩
      · obtain ⟨u1, u2, u3, u4⟩ := look_unit.1 h
        have hx0 := rt_iff.1 (hr _ (List.getElem_mem hi) _ u2)
        rw [if_neg hx0.1, List.append_assoc]
        refine ih (taken ++ [i]) (units ++ [x]) (r.snoc hr hi h) ?_
        have := meas_lt (A := A0 ++ units) (l := l) (x := x) (List.mem_flatten.2 ⟨_, List.getElem_mem hi, u2⟩) (u1 x u2) u3
        rw [← List.append_assoc]; omega
theorem Run.follow {A0 : List Int} {l : List (List Int)} : ∀ {taken : List Nat} {units : List Int}, Run A0 l taken units → ∀ {ds : List (List Int)},
    followP A0 (taken.map (fun i => l.getD i []) ++ ds) = ((if (followP (A0 ++ units) ds).2.2.2 = 0 then units ++ (followP (A0 ++ units) ds).1 else []), units.length + (followP (A0 ++ units) ds).2.1, (followP (A0 ++ units) ds).2.2.1, (followP (A0 ++ units) ds).2.2.2) := by
  intro taken units r
  have key : ∀ k, k ≤ units.length → followP A0 ((taken.take k).map (fun i => l.getD i [])) = (units.take k, k, false, 0) := by
    intro k
    induction k with
    | zero => intro _; simp [followP_nil]
    | succ k ih =>
      intro hk
      have hkt : k < taken.length := by have := r.len; omega
      rw [List.take_succ_eq_append_getElem hkt, List.map_append, follow_app, ih (by omega), if_neg (by simp)]
      have := r.un k (by omega)
      rw [getD_lt hkt] at this
      simp only [List.map_cons, List.map_nil]
      rw [followP_unit this, followP_nil]
      simp only [if_true, List.length_map, List.length_take]
      rw [List.take_succ_eq_append_getElem (by omega), getD_lt (by omega)]
      simp; omega
  intro ds
  have h := key units.length (Nat.le_refl _)
  rw [← r.len, List.take_length, r.len, List.take_length] at h
  rw [follow_app, h, if_neg (by simp)]
  simp [r.len]
end Go.Rp
