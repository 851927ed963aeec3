/-
  How many valid sets there are; sets as numbers; in plain Lean.
-/
import Derived.Test.YtchedlkmgahicaaCrP
set_option linter.unusedVariables false
namespace Go.Cr

theorem allB_add : ∀ (m n : Nat), allB (m + n) = (allB m).flatMap fun a => (allB n).map (a ++ ·)
  | 0, n => by simp [allB]
  | m + 1, n => by
    have e : ∀ n, allB (n + 1) = (allB n).map (false :: ·) ++ (allB n).map (true :: ·) := fun _ => rfl
    rw [Nat.succ_add, e, e, allB_add m n, List.flatMap_append, List.map_flatMap, List.map_flatMap, List.flatMap_map, List.flatMap_map]
    simp only [List.map_map]
    rfl

def grp (l : List Ent) : Nat := match l with | [] => 0 | x :: r => ((x :: r).takeWhile fun y => y.2.2.1 == x.2.2.1).length

theorem grp_spec {x : Ent} {r : List Ent} : (∀ y ∈ (x :: r).take (grp (x :: r)), y.2.2.1 = x.2.2.1) ∧ 0 < grp (x :: r) ∧ grp (x :: r) ≤ (x :: r).length ∧
    ∀ y, ((x :: r).drop (grp (x :: r))).head? = some y → y.2.2.1 ≠ x.2.2.1 := by
  have key : ∀ (l : List Ent) (p : Ent → Bool), (∀ y ∈ l.take (l.takeWhile p).length, p y = true) ∧ (l.takeWhile p).length ≤ l.length ∧ ∀ y, (l.drop (l.takeWhile p).length).head? = some y → p y = false := by
    intro l p
    induction l with
    | nil => simp
    | cons a l ih =>
      by_cases h : p a = true
      · rw [List.takeWhile_cons_of_pos h]
        refine ⟨?_, by simpa using ih.2.1, ?_⟩
        · intro y hy
          simp only [List.length_cons, List.take_succ_cons, List.mem_cons] at hy
          rcases hy with rfl | hy
          · exact h
          · exact ih.1 y hy
        · simpa using ih.2.2
      · rw [List.takeWhile_cons_of_neg h]
        refine ⟨by simp, by simp, ?_⟩
        intro y hy
        simp only [List.length_nil, List.drop_zero, List.head?_cons, Option.some.injEq] at hy
        subst hy; simpa using h
  obtain ⟨a, b, c⟩ := key (x :: r) fun y => y.2.2.1 == x.2.2.1
  refine ⟨fun y hy => by simpa using a y hy, ?_, b, fun y hy => by simpa using c y hy⟩
  show 0 < ((x :: r).takeWhile fun y => y.2.2.1 == x.2.2.1).length
  rw [List.takeWhile_cons_of_pos (by simp)]; simp

theorem K_app_lo {a b : List Bool} {i : Nat} (h : i < a.length) : K (a ++ b) i = K a i := by unfold K; rw [List.getD_eq_getElem?_getD, List.getD_eq_getElem?_getD, List.getElem?_append_left h]
theorem K_app_hi {a b : List Bool} {i : Nat} : K (a ++ b) (a.length + i) = K b i := by unfold K; rw [List.getD_eq_getElem?_getD, List.getD_eq_getElem?_getD, List.getElem?_append_right (by omega)]; rw [Nat.add_sub_cancel_left]
theorem E_app_lo {a b : List Ent} {i : Nat} (h : i < a.length) : E (a ++ b) i = E a i := by unfold E; rw [List.getD_eq_getElem?_getD, List.getD_eq_getElem?_getD, List.getElem?_append_left h]
theorem E_app_hi {a b : List Ent} {i : Nat} : E (a ++ b) (a.length + i) = E b i := by unfold E; rw [List.getD_eq_getElem?_getD, List.getD_eq_getElem?_getD, List.getElem?_append_right (by omega)]; rw [Nat.add_sub_cancel_left]

theorem vld_app {a b : List Ent} {k m : List Bool} (hk : k.length = a.length) (hm : m.length = b.length) (hb : ∀ i j, i < a.length → j < b.length → E a i < E b j) :
    Needs (a ++ b) (k ++ m) ↔ Needs a k ∧ Needs b m ∧ ((∃ j, j < b.length ∧ K m j = true) → ∀ i, i < a.length → K k i = true) := by
  unfold Needs
  constructor
  · intro h
    refine ⟨fun i hi hki j hj hlt => ?_, fun i hi hki j hj hlt => ?_, fun ⟨j, hj, hmj⟩ i hi => ?_⟩
    · have := h i (by simp; omega) (by rw [K_app_lo (by omega)]; exact hki) j (by simp; omega) (by rw [E_app_lo hi, E_app_lo hj]; exact hlt)
      rwa [K_app_lo (by omega)] at this
    · have := h (a.length + i) (by simp; omega) (by rw [← hk, K_app_hi]; exact hki) (a.length + j) (by simp; omega) (by rw [E_app_hi, E_app_hi]; exact hlt)
      rwa [← hk, K_app_hi] at this
    · have := h (a.length + j) (by simp; omega) (by rw [← hk, K_app_hi]; exact hmj) i (by simp; omega) (by rw [E_app_hi, E_app_lo hi]; exact hb i j hi hj)
      rwa [K_app_lo (by omega)] at this
  · rintro ⟨h1, h2, h3⟩ i hi hki j hj hlt
    simp only [List.length_append] at hi hj
    rcases Nat.lt_or_ge i a.length with q | q
    · rw [K_app_lo (by omega)] at hki
      rw [E_app_lo q] at hlt
      rcases Nat.lt_or_ge j a.length with q2 | q2
      · rw [E_app_lo q2] at hlt
        rw [K_app_lo (by omega)]; exact h1 i q hki j q2 hlt
      · obtain ⟨j', rfl⟩ := Nat.exists_eq_add_of_le q2
        rw [E_app_hi] at hlt
        have := hb i j' q (by omega); omega
    · obtain ⟨i', rfl⟩ := Nat.exists_eq_add_of_le q
      rw [← hk, K_app_hi] at hki
      rw [E_app_hi] at hlt
      rcases Nat.lt_or_ge j a.length with q2 | q2
      · rw [K_app_lo (by omega)]; exact h3 ⟨i', by omega, hki⟩ j q2
      · obtain ⟨j', rfl⟩ := Nat.exists_eq_add_of_le q2
        rw [E_app_hi] at hlt
        rw [← hk, K_app_hi]; exact h2 i' (by omega) hki j' (by omega) hlt

theorem none_iff {m : List Bool} : (∃ j, j < m.length ∧ K m j = true) ↔ m ≠ List.replicate m.length false := by
  constructor
  · rintro ⟨j, hj, h⟩ e
    rw [e] at h
    unfold K at h; rw [List.getD_eq_getElem?_getD, List.getElem?_replicate] at h; split at h <;> cases h
  · intro h
    apply Classical.byContradiction
    intro hn
    apply h
    apply List.ext_getElem
    · simp
    · intro i h1 h2
      simp only [List.getElem_replicate]
      cases hc : m[i] with
      | false => rfl
      | true => exact absurd ⟨i, h1, by rw [K_get h1]; exact hc⟩ hn
theorem all_iff {m : List Bool} : (∀ i, i < m.length → K m i = true) ↔ m = List.replicate m.length true := by
  constructor
  · intro h
    apply List.ext_getElem
    · simp
    · intro i h1 h2
      rw [List.getElem_replicate, ← K_get h1]; exact h i h1
  · intro e i hi
    rw [e]; unfold K; rw [List.getD_eq_getElem?_getD, List.getElem?_replicate, if_pos hi]; rfl

theorem flat_len_sum {α β : Type} {f : α → List β} : ∀ {l : List α}, (l.flatMap f).length = (l.map fun x => (f x).length).sum
  | [] => rfl
  | x :: l => by simp [flat_len_sum (l := l)]

theorem allB_len : ∀ n, (allB n).length = 2 ^ n
  | 0 => rfl
  | n + 1 => by unfold allB; simp [allB_len n, Nat.pow_succ]; omega

theorem filter_const_false {α : Type} {l : List α} {p : α → Bool} (h : ∀ x ∈ l, p x = false) : (l.filter p).length = 0 := by
  rw [List.filter_eq_nil_iff.2 (fun x hx => by simp [h x hx])]; rfl

theorem count_app {a b : List Ent} (hb : ∀ i j, i < a.length → j < b.length → E a i < E b j) : (valids (a ++ b)).length + 1 = (valids a).length + (valids b).length := by
  unfold valids
  rw [List.length_append, allB_add, List.filter_flatMap, flat_len_sum]
  simp only [List.filter_map, List.length_map]
  -- of a beginning k: all endings, if it is full, else one, if it is valid
  have each : ∀ k ∈ allB a.length, ((allB b.length).filter (vld (a ++ b) ∘ fun x => k ++ x)).length =
      if k = List.replicate a.length true then ((allB b.length).filter (vld b)).length else if vld a k = true then 1 else 0 := by
    intro k hk
    have hk := mem_allB.1 hk
    by_cases hf : k = List.replicate a.length true
    · rw [if_pos hf]
      congr 1
      refine List.filter_congr fun m hm => ?_
      have hm := mem_allB.1 hm
      have e : vld (a ++ b) (k ++ m) = true ↔ vld b m = true := by
        rw [vld_iff, vld_iff, vld_app hk hm hb]
        constructor
        · exact fun h => h.2.1
        · exact fun h => ⟨hf ▸ all_valid a, h, fun _ => by rw [← hk]; exact all_iff.2 (by rw [hk]; exact hf)⟩
      simp only [Function.comp]
      cases h1 : vld (a ++ b) (k ++ m) <;> cases h2 : vld b m <;> simp_all
    · rw [if_neg hf]
      have hnf : ¬ ∀ i, i < a.length → K k i = true := fun h => hf (by rw [← hk]; exact all_iff.1 (by rw [hk]; exact h))
      have e : ∀ m ∈ allB b.length, (vld (a ++ b) ∘ fun x => k ++ x) m = (vld a k && decide (m = List.replicate b.length false)) := by
        intro m hm
        have hm := mem_allB.1 hm
        simp only [Function.comp]
        have e : vld (a ++ b) (k ++ m) = true ↔ vld a k = true ∧ m = List.replicate b.length false := by
          rw [vld_iff, vld_iff, vld_app hk hm hb]
          constructor
          · rintro ⟨h1, h2, h3⟩
            refine ⟨h1, Classical.byContradiction fun hn => hnf (h3 ?_)⟩
            have := (none_iff (m := m)).2 (by rw [hm]; exact hn)
            rwa [hm] at this
          · rintro ⟨h1, h2⟩
            refine ⟨h1, h2 ▸ none_valid b, fun ⟨j, hj, hmj⟩ => absurd h2 ?_⟩
            have := (none_iff (m := m)).1 ⟨j, by omega, hmj⟩
            rwa [hm] at this
        cases h1 : vld (a ++ b) (k ++ m) <;> cases h2 : vld a k <;> by_cases h3 : m = List.replicate b.length false <;> simp_all
      rw [List.filter_congr e]
      by_cases hv : vld a k = true
      · rw [if_pos hv]
        simp only [hv, Bool.true_and]
        have nd : (allB b.length).Nodup := (allB_sorted _).imp fun {x y} h e => by subst e; rw [ltB_irrefl] at h; cases h
        have hin : List.replicate b.length false ∈ allB b.length := mem_allB.2 (by simp)
        have : ((allB b.length).filter fun m => decide (m = List.replicate b.length false)).length = (allB b.length).count (List.replicate b.length false) := by
          rw [List.count_eq_countP, List.countP_eq_length_filter]; congr 1; exact List.filter_congr fun x _ => (Bool.beq_eq_decide_eq x _).symm
        rw [this]
        exact List.Nodup.count nd ▸ (by simp [hin])
      · rw [if_neg hv]
        exact filter_const_false fun m hm => by simp [hv]
  rw [List.map_congr_left each]
  -- the full one is one of the valid ones
  have hfull : List.replicate a.length true ∈ allB a.length := mem_allB.2 (by simp)
  have hvf : vld a (List.replicate a.length true) = true := vld_iff.2 (all_valid a)
  have nd : (allB a.length).Nodup := (allB_sorted _).imp fun {x y} h e => by subst e; rw [ltB_irrefl] at h; cases h
  generalize ((allB b.length).filter (vld b)).length = c
  generalize List.replicate a.length true = f at hfull hvf
  have key : ∀ L : List (List Bool), L.Nodup → (L.map fun k => if k = f then c else if vld a k = true then 1 else 0).sum + (if f ∈ L then 1 else 0) = (L.filter (vld a)).length + (if f ∈ L then c else 0) := by
    intro L
    induction L with
    | nil => intro _; simp
    | cons k L ih =>
      intro hn
      obtain ⟨hkn, hn⟩ := List.nodup_cons.1 hn
      have := ih hn
      simp only [List.map_cons, List.sum_cons, List.mem_cons]
      by_cases e : k = f
      · subst e
        have hnot : ¬ k ∈ L := hkn
        simp only [if_true, true_or, if_neg hnot] at this ⊢
        rw [List.filter_cons_of_pos hvf, List.length_cons]
        omega
      · have e' : ¬ f = k := fun h => e h.symm
        simp only [if_neg e, e', false_or]
        by_cases hv : vld a k = true
        · rw [if_pos hv, List.filter_cons_of_pos hv, List.length_cons]; omega
        · rw [if_neg hv, List.filter_cons_of_neg hv]; omega
  have := key _ nd
  rw [if_pos hfull, if_pos hfull] at this
  omega

theorem count_one {a : List Ent} {e : Int} (h : ∀ y ∈ a, y.2.2.1 = e) : (valids a).length = 2 ^ a.length := by
  unfold valids
  rw [List.filter_eq_self.2, allB_len]
  intro k _
  refine vld_iff.2 fun i hi _ j hj hlt => ?_
  rw [E_get hi, E_get hj, h _ (List.getElem_mem hi), h _ (List.getElem_mem hj)] at hlt
  omega

theorem count_grp {x : Ent} {r : List Ent} (hm : Mono (x :: r)) : (valids (x :: r)).length + 1 = 2 ^ grp (x :: r) + (valids ((x :: r).drop (grp (x :: r)))).length := by
  obtain ⟨h1, h2, h3, h4⟩ := grp_spec (x := x) (r := r)
  generalize hl : x :: r = l at *
  have hs : l = l.take (grp l) ++ l.drop (grp l) := (List.take_append_drop _ _).symm
  have hlen : (l.take (grp l)).length = grp l := by simp; omega
  have hx0 : E l 0 = x.2.2.1 := by rw [← hl]; rfl
  have := count_app (a := l.take (grp l)) (b := l.drop (grp l)) fun i j hi hj => by
    have hj' : j < l.length - grp l := by simpa using hj
    have e1 : E (l.take (grp l)) i = x.2.2.1 := by rw [E_get hi]; exact h1 _ (List.getElem_mem hi)
    have e2 : E (l.drop (grp l)) j = E l (grp l + j) := by
      rw [E_get hj, E_get (by omega), List.getElem_drop]
    have e3 : E l (grp l) ≠ x.2.2.1 := by
      have hg : grp l < l.length := by omega
      rw [E_get hg]
      exact h4 l[grp l] (by rw [List.head?_drop, List.getElem?_eq_getElem hg])
    have e4 := hm 0 (grp l) (by omega) (by omega)
    have e5 := hm (grp l) (grp l + j) (by omega) (by omega)
    omega
  rw [← hs, count_one h1, hlen] at this
  exact this

def cntP (l : List Ent) : Int := ((min (valids l).length (2 ^ 30) : Nat) : Int)

theorem valids_pos (l : List Ent) : 1 ≤ (valids l).length := by
  have := valids_head l
  cases h : valids l with
  | nil => rw [h] at this; cases this
  | cons => simp
end Go.Cr
