/-
  How many valid sets there are; sets as numbers; in plain Lean.
-/
import Derived.Test.YtmlamkoilggonaaGreatCrP
import Derived.Test.YtmlamkoilggonaaGreatSxW3
set_option linter.unusedVariables false
namespace Go.Cr

theorem allB_add : ∀ (m n : Nat), allB (m + n) = (allB m).flatMap fun a => (allB n).map (a ++ ·)
  | 0, n => by simp [allB]
  | m + 1, n => by
    have e : ∀ n, allB (n + 1) = (allB n).map (false :: ·) ++ (allB n).map (true :: ·) := fun _ => rfl
    rw [Nat.succ_add, e, e, allB_add m n, List.flatMap_append, List.map_flatMap, List.map_flatMap, List.flatMap_map, List.flatMap_map]
    simp only [List.map_map]
    rfl

def grp (l : List Ent) : Nat := match l with | [] => 0 | x :: r => ((x :: r).takeWhile fun y => y.2.2.1 == x.2.2.1).length

theorem grp_spec {x : Ent} {r : List Ent} : (∀ y ∈ (x :: r).take (grp (x :: r)), y.2.2.1 = x.2.2.1) ∧ 0 < grp (x :: r) ∧ grp (x :: r) ≤ (x :: r).length ∧
    ∀ y, ((x :: r).drop (grp (x :: r))).head? = some y → y.2.2.1 ≠ x.2.2.1 := by
  have key : ∀ (l : List Ent) (p : Ent → Bool), (∀ y ∈ l.take (l.takeWhile p).length, p y = true) ∧ (l.takeWhile p).length ≤ l.length ∧ ∀ y, (l.drop (l.takeWhile p).length).head? = some y → p y = false := by
    intro l p
    induction l with
    | nil => simp
    | cons a l ih =>
      by_cases h : p a = true
      · rw [List.takeWhile_cons_of_pos h]
        refine ⟨?_, by simpa using ih.2.1, ?_⟩
        · intro y hy
          simp only [List.length_cons, List.take_succ_cons, List.mem_cons] at hy
          rcases hy with rfl | hy
          · exact h
          · exact ih.1 y hy
        · simpa using ih.2.2
      · rw [List.takeWhile_cons_of_neg h]
        refine ⟨by simp, by simp, ?_⟩
        intro y hy
        simp only [List.length_nil, List.drop_zero, List.head?_cons, Option.some.injEq] at hy
        subst hy; simpa using h
  obtain ⟨a, b, c⟩ := key (x :: r) fun y => y.2.2.1 == x.2.2.1
  refine ⟨fun y hy => by simpa using a y hy, ?_, b, fun y hy => by simpa using c y hy⟩
  show 0 < ((x :: r).takeWhile fun y => y.2.2.1 == x.2.2.1).length
  rw [List.takeWhile_cons_of_pos (by simp)]; simp

theorem K_app_lo {a b : List Bool} {i : Nat} (h : i < a.length) : K (a ++ b) i = K a i := by unfold K; rw [List.getD_eq_getElem?_getD, List.getD_eq_getElem?_getD, List.getElem?_append_left h]
theorem K_app_hi {a b : List Bool} {i : Nat} : K (a ++ b) (a.length + i) = K b i := by unfold K; rw [List.getD_eq_getElem?_getD, List.getD_eq_getElem?_getD, List.getElem?_append_right (by omega)]; rw [Nat.add_sub_cancel_left]
theorem E_app_lo {a b : List Ent} {i : Nat} (h : i < a.length) : E (a ++ b) i = E a i := by unfold E; rw [List.getD_eq_getElem?_getD, List.getD_eq_getElem?_getD, List.getElem?_append_left h]
theorem E_app_hi {a b : List Ent} {i : Nat} : E (a ++ b) (a.length + i) = E b i := by unfold E; rw [List.getD_eq_getElem?_getD, List.getD_eq_getElem?_getD, List.getElem?_append_right (by omega)]; rw [Nat.add_sub_cancel_left]

theorem vld_app {a b : List Ent} {k m : List Bool} (hk : k.length = a.length) (hm : m.length = b.length) (hb : ∀ i j, i < a.length → j < b.length → E a i < E b j) :
    Needs (a ++ b) (k ++ m) ↔ Needs a k ∧ Needs b m ∧ ((∃ j, j < b.length ∧ K m j = true) → ∀ i, i < a.length → K k i = true) := by
  unfold Needs
  constructor
  · intro h
    refine ⟨fun i hi hki j hj hlt => ?_, fun i hi hki j hj hlt => ?_, fun ⟨j, hj, hmj⟩ i hi => ?_⟩
    · have := h i (by simp; omega) (by rw [K_app_lo (by omega)]; exact hki) j (by simp; omega) (by rw [E_app_lo hi, E_app_lo hj]; exact hlt)
      rwa [K_app_lo (by omega)] at this
    · have := h (a.length + i) (by simp; omega) (by rw [← hk, K_app_hi]; exact hki) (a.length + j) (by simp; omega) (by rw [E_app_hi, E_app_hi]; exact hlt)
      rwa [← hk, K_app_hi] at this
    · have := h (a.length + j) (by simp; omega) (by rw [← hk, K_app_hi]; exact hmj) i (by simp; omega) (by rw [E_app_hi, E_app_lo hi]; exact hb i j hi hj)
      rwa [K_app_lo (by omega)] at this
  · rintro ⟨h1, h2, h3⟩ i hi hki j hj hlt
    simp only [List.length_append] at hi hj
    rcases Nat.lt_or_ge i a.length with q | q
    · rw [K_app_lo (by omega)] at hki
      rw [E_app_lo q] at hlt
      rcases Nat.lt_or_ge j a.length with q2 | q2
      · rw [E_app_lo q2] at hlt
        rw [K_app_lo (by omega)]; exact h1 i q hki j q2 hlt
      · obtain ⟨j', rfl⟩ := Nat.exists_eq_add_of_le q2
        rw [E_app_hi] at hlt
        have := hb i j' q (by omega); omega
    · obtain ⟨i', rfl⟩ := Nat.exists_eq_add_of_le q
      rw [← hk, K_app_hi] at hki
      rw [E_app_hi] at hlt
      rcases Nat.lt_or_ge j a.length with q2 | q2
      · rw [K_app_lo (by omega)]; exact h3 ⟨i', by omega, hki⟩ j q2
      · obtain ⟨j', rfl⟩ := Nat.exists_eq_add_of_le q2
        rw [E_app_hi] at hlt
        rw [← hk, K_app_hi]; exact h2 i' (by omega) hki j' (by omega) hlt

theorem none_iff {m : List Bool} : (∃ j, j < m.length ∧ K m j = true) ↔ m ≠ List.replicate m.length false := by
  constructor
  · rintro ⟨j, hj, h⟩ e
    rw [e] at h
    unfold K at h; rw [List.getD_eq_getElem?_getD, List.getElem?_replicate] at h; split at h <;> cases h
  · intro h
    apply Classical.byContradiction
    intro hn
    apply h
    apply List.ext_getElem
    · simp
    · intro i h1 h2
      simp only [List.getElem_replicate]
      cases hc : m[i] with
      | false => rfl
      | true => exact absurd ⟨i, h1, by rw [K_get h1]; exact hc⟩ hn
theorem all_iff {m : List Bool} : (∀ i, i < m.length → K m i = true) ↔ m = List.replicate m.length true := by
  constructor
  · intro h
    apply List.ext_getElem
    · simp
    · intro i h1 h2
      rw [List.getElem_replicate, ← K_get h1]; exact h i h1
  · intro e i hi
    rw [e]; unfold K; rw [List.getD_eq_getElem?_getD, List.getElem?_replicate, if_pos hi]; rfl

theorem flat_len_sum {α β : Type} {f : α → List β} : ∀ {l : List α}, (l.flatMap f).length = (l.map fun x => (f x).length).sum
  | [] => rfl
  | x :: l => by simp [flat_len_sum (l := l)]

theorem allB_len : ∀ n, (allB n).length = 2 ^ n
  | 0 => rfl
  | n + 1 => by unfold allB; simp [allB_len n, Nat.pow_succ]; omega

theorem filter_const_false {α : Type} {l : List α} {p : α → Bool} (h : ∀ x ∈ l, p x = false) : (l.filter p).length = 0 := by
  rw [List.filter_eq_nil_iff.2 (fun x hx => by simp [h x hx])]; rfl

theorem count_app {a b : List Ent} (hb : ∀ i j, i < a.length → j < b.length → E a i < E b j) : (valids (a ++ b)).length + 1 = (valids a).length + (valids b).length := by
  unfold valids
  rw [List.length_append, allB_add, List.filter_flatMap, flat_len_sum]
  simp only [List.filter_map, List.length_map]
  -- of a beginning k: all endings, if it is full, else one, if it is valid
  have each : ∀ k ∈ allB a.length, ((allB b.length).filter (vld (a ++ b) ∘ fun x => k ++ x)).length =
      if k = List.replicate a.length true then ((allB b.length).filter (vld b)).length else if vld a k = true then 1 else 0 := by
    intro k hk
    have hk := mem_allB.1 hk
    by_cases hf : k = List.replicate a.length true
    · rw [if_pos hf]
      congr 1
      refine List.filter_congr fun m hm => ?_
      have hm := mem_allB.1 hm
      have e : vld (a ++ b) (k ++ m) = true ↔ vld b m = true := by
        rw [vld_iff, vld_iff, vld_app hk hm hb]
        constructor
        · exact fun h => h.2.1
        · exact fun h => ⟨hf ▸ all_valid a, h, fun _ => by rw [← hk]; exact all_iff.2 (by rw [hk]; exact hf)⟩
      simp only [Function.comp]
      cases h1 : vld (a ++ b) (k ++ m) <;> cases h2 : vld b m <;> simp_all
    · rw [if_neg hf]
      have hnf : ¬ ∀ i, i < a.length → K k i = true := fun h => hf (by rw [← hk]; exact all_iff.1 (by rw [hk]; exact h))
      have e : ∀ m ∈ allB b.length, (vld (a ++ b) ∘ fun x => k ++ x) m = (vld a k && decide (m = List.replicate b.length false)) := by
        intro m hm
        have hm := mem_allB.1 hm
        simp only [Function.comp]
        have e : vld (a ++ b) (k ++ m) = true ↔ vld a k = true ∧ m = List.replicate b.length false := by
          rw [vld_iff, vld_iff, vld_app hk hm hb]
          constructor
          · rintro ⟨h1, h2, h3⟩
            refine ⟨h1, Classical.byContradiction fun hn => hnf (h3 ?_)⟩
            have := (none_iff (m := m)).2 (by rw [hm]; exact hn)
            rwa [hm] at this
          · rintro ⟨h1, h2⟩
            refine ⟨h1, h2 ▸ none_valid b, fun ⟨j, hj, hmj⟩ => absurd h2 ?_⟩
            have := (none_iff (m := m)).1 ⟨j, by omega, hmj⟩
            rwa [hm] at this
        cases h1 : vld (a ++ b) (k ++ m) <;> cases h2 : vld a k <;> by_cases h3 : m = List.replicate b.length false <;> simp_all
      rw [List.filter_congr e]
      by_cases hv : vld a k = true
      · rw [if_pos hv]
        simp only [hv, Bool.true_and]
        have nd : (allB b.length).Nodup := (allB_sorted _).imp fun {x y} h e => by subst e; rw [ltB_irrefl] at h; cases h
        have hin : List.replicate b.length false ∈ allB b.length := mem_allB.2 (by simp)
        have : ((allB b.length).filter fun m => decide (m = List.replicate b.length false)).length = (allB b.length).count (List.replicate b.length false) := by
          rw [List.count_eq_countP, List.countP_eq_length_filter]; congr 1; exact List.filter_congr fun x _ => (Bool.beq_eq_decide_eq x _).symm
        rw [this]
        exact List.Nodup.count nd ▸ (by simp [hin])
      · rw [if_neg hv]
        exact filter_const_false fun m hm => by simp [hv]
  rw [List.map_congr_left each]
  -- the full one is one of the valid ones
  have hfull : List.replicate a.length true ∈ allB a.length := mem_allB.2 (by simp)
  have hvf : vld a (List.replicate a.length true) = true := vld_iff.2 (all_valid a)
  have nd : (allB a.length).Nodup := (allB_sorted _).imp fun {x y} h e => by subst e; rw [ltB_irrefl] at h; cases h
  generalize ((allB b.length).filter (vld b)).length = c
  generalize List.replicate a.length true = f at hfull hvf
  have key : ∀ L : List (List Bool), L.Nodup → (L.map fun k => if k = f then c else if vld a k = true then 1 else 0).sum + (if f ∈ L then 1 else 0) = (L.filter (vld a)).length + (if f ∈ L then c else 0) := by
    intro L
    induction L with
    | nil => intro _; simp
    | cons k L ih =>
      intro hn
      obtain ⟨hkn, hn⟩ := List.nodup_cons.1 hn
      have := ih hn
      simp only [List.map_cons, List.sum_cons, List.mem_cons]
      by_cases e : k = f
      · subst e
        have hnot : ¬ k ∈ L := hkn
        simp only [if_true, true_or, if_neg hnot] at this ⊢
        rw [List.filter_cons_of_pos hvf, List.length_cons]
        omega
      · have e' : ¬ f = k := fun h => e h.symm
        simp only [if_neg e, e', false_or]
        by_cases hv : vld a k = true
        · rw [if_pos hv, List.filter_cons_of_pos hv, List.length_cons]; omega
        · rw [if_neg hv, List.filter_cons_of_neg hv]; omega
  have := key _ nd
  rw [if_pos hfull, if_pos hfull] at this
  omega

theorem count_one {a : List Ent} {e : Int} (h : ∀ y ∈ a, y.2.2.1 = e) : (valids a).length = 2 ^ a.length := by
  unfold valids
  rw [List.filter_eq_self.2, allB_len]
  intro k _
  refine vld_iff.2 fun i hi _ j hj hlt => ?_
  rw [E_get hi, E_get hj, h _ (List.getElem_mem hi), h _ (List.getElem_mem hj)] at hlt
  omega

theorem count_grp {x : Ent} {r : List Ent} (hm : Mono (x :: r)) : (valids (x :: r)).length + 1 = 2 ^ grp (x :: r) + (valids ((x :: r).drop (grp (x :: r)))).length := by
  obtain ⟨h1, h2, h3, h4⟩ := grp_spec (x := x) (r := r)
  generalize hl : x :: r = l at *
  have hs : l = l.take (grp l) ++ l.drop (grp l) := (List.take_append_drop _ _).symm
  have hlen : (l.take (grp l)).length = grp l := by simp; omega
  have hx0 : E l 0 = x.2.2.1 := by rw [← hl]; rfl
  have := count_app (a := l.take (grp l)) (b := l.drop (grp l)) fun i j hi hj => by
    have hj' : j < l.length - grp l := by simpa using hj
    have e1 : E (l.take (grp l)) i = x.2.2.1 := by rw [E_get hi]; exact h1 _ (List.getElem_mem hi)
    have e2 : E (l.drop (grp l)) j = E l (grp l + j) := by
      rw [E_get hj, E_get (by omega), List.getElem_drop]
    have e3 : E l (grp l) ≠ x.2.2.1 := by
      have hg : grp l < l.length := by omega
      rw [E_get hg]
      exact h4 l[grp l] (by rw [List.head?_drop, List.getElem?_eq_getElem hg])
    have e4 := hm 0 (grp l) (by omega) (by omega)
    have e5 := hm (grp l) (grp l + j) (by omega) (by omega)
    omega
  rw [← hs, count_one h1, hlen] at this
  exact this

def cntP (l : List Ent) : Int := ((min (valids l).length (2 ^ 30) : Nat) : Int)

theorem valids_pos (l : List Ent) : 1 ≤ (valids l).length := by
  have := valids_head l
  cases h : valids l with
  | nil => rw [h] at this; cases this
  | cons => simp
theorem valids_le (l : List Ent) : (valids l).length ≤ 2 ^ l.length := by
  unfold valids
  exact Nat.le_trans (List.length_filter_le _ _) (by rw [allB_len]; exact Nat.le_refl _)

def numB (k : List Bool) : Nat := k.foldl (fun x b => 2 * x + (if b then 1 else 0)) 0
theorem foldl_num : ∀ (k : List Bool) (x : Nat), k.foldl (fun x b => 2 * x + (if b then 1 else 0)) x = x * 2 ^ k.length + numB k
  | [], x => by simp [numB]
  | b :: k, x => by
    unfold numB
    rw [List.foldl_cons, List.foldl_cons, foldl_num k, foldl_num k (2 * 0 + _), List.length_cons, Nat.pow_succ]
    simp only [Nat.mul_zero, Nat.zero_add, Nat.add_mul]
    have : 2 * x * 2 ^ k.length = x * (2 ^ k.length * 2) := by rw [Nat.mul_comm 2 x, Nat.mul_assoc, Nat.mul_comm 2]
    omega
theorem numB_cons (b : Bool) (k : List Bool) : numB (b :: k) = (if b then 2 ^ k.length else 0) + numB k := by
  show (b :: k).foldl _ 0 = _
  rw [List.foldl_cons, foldl_num]
  cases b <;> simp
theorem numB_snoc (k : List Bool) (b : Bool) : numB (k ++ [b]) = 2 * numB k + (if b then 1 else 0) := by unfold numB; rw [List.foldl_append]; rfl
theorem numB_lt : ∀ k : List Bool, numB k < 2 ^ k.length
  | [] => by decide
  | b :: k => by
    rw [numB_cons, List.length_cons, Nat.pow_succ]
    have := numB_lt k
    split <;> omega
theorem ltB_num : ∀ {a b : List Bool}, a.length = b.length → (ltB a b = true ↔ numB a < numB b)
  | [], [], _ => by simp [ltB]
  | x :: a, y :: b, h => by
    have h' : a.length = b.length := by simpa using h
    have := ltB_num h'
    have h1 := numB_lt a
    have h2 := numB_lt b
    rw [numB_cons, numB_cons, h'] at *
    unfold ltB
    cases x <;> cases y <;> simp [this] <;> omega
  | [], _ :: _, h => by simp at h
  | _ :: _, [], h => by simp at h
theorem numB_false : ∀ n, numB (List.replicate n false) = 0
  | 0 => rfl
  | n + 1 => by rw [List.replicate_succ, numB_cons, numB_false n]; rfl
theorem numB_true : ∀ n, numB (List.replicate n true) + 1 = 2 ^ n
  | 0 => rfl
  | n + 1 => by
    have := numB_true n
    rw [List.replicate_succ, numB_cons, List.length_replicate, Nat.pow_succ, if_pos rfl]; omega

def bitsB (n x : Nat) : List Bool := (List.range n).map fun i => decide (x / 2 ^ (n - 1 - i) % 2 = 1)
theorem bitsB_succ (n x : Nat) : bitsB (n + 1) x = decide (x / 2 ^ n % 2 = 1) :: bitsB n x := by
  unfold bitsB
  rw [List.range_succ_eq_map, List.map_cons, List.map_map]
  congr 1
  refine List.map_congr_left fun i hi => ?_
  simp only [Function.comp]
  have : n + 1 - 1 - (i + 1) = n - 1 - i := by omega
  rw [this]
theorem bitsB_mod : ∀ (n x y : Nat), bitsB n (x + 2 ^ n * y) = bitsB n x
  | 0, x, y => rfl
  | n + 1, x, y => by
    rw [bitsB_succ, bitsB_succ]
    have e1 : x + 2 ^ (n + 1) * y = x + 2 ^ n * (2 * y) := by rw [Nat.pow_succ, Nat.mul_assoc]
    rw [e1, bitsB_mod n x (2 * y), Nat.add_mul_div_left _ _ (Nat.two_pow_pos n), Nat.add_mul_mod_self_left]
theorem allB_bits : ∀ n, allB n = (List.range (2 ^ n)).map (bitsB n)
  | 0 => rfl
  | n + 1 => by
    unfold allB
    rw [allB_bits n, Nat.pow_succ, Nat.mul_two, List.range_add, List.map_append, List.map_map, List.map_map, List.map_map]
    congr 1
    · refine List.map_congr_left fun x hx => ?_
      have hx := List.mem_range.1 hx
      simp only [Function.comp]
      rw [bitsB_succ, Nat.div_eq_of_lt hx]; rfl
    · refine List.map_congr_left fun x hx => ?_
      have hx := List.mem_range.1 hx
      simp only [Function.comp]
      rw [bitsB_succ]
      have e : 2 ^ n + x = x + 2 ^ n * 1 := by omega
      rw [e, bitsB_mod, Nat.add_mul_div_left _ _ (Nat.two_pow_pos n), Nat.div_eq_of_lt hx]; rfl

end Go.Cr

set_option linter.unusedVariables false
namespace Go.Sx
open Go Go.Cr

theorem band64' {x : Nat} (hx : x < 4611686018427387904) : (bAnd .i64 (x : Int) 1 == 1) = decide (x % 2 = 1) := by
  have e2 : bAnd .i64 (x : Int) 1 = ((x % 2 : Nat) : Int) := by
    unfold bAnd
    have e3 : (BitVec.ofInt 64 (x : Int) &&& BitVec.ofInt 64 1).toNat = x % 2 := by
      rw [BitVec.toNat_and]
      have e4 : (BitVec.ofInt 64 (x : Int)).toNat = x := by simp [BitVec.toNat_ofInt]; omega
      rw [e4, show (BitVec.ofInt 64 1).toNat = 1 from rfl, Nat.and_one_is_mod]
    show IntKind.wrap .i64 (((BitVec.ofInt 64 (x : Int) &&& BitVec.ofInt 64 1).toNat : Nat) : Int) = _
    rw [e3, wrap_i64 (by omega) (by omega)]
  rw [e2]
  rcases Nat.mod_two_eq_zero_or_one x with k | k <;> rw [k] <;> rfl
theorem pow64' {n : Nat} (hn : n ≤ 60) : IntKind.wrap .i64 ((1 : Int) * 2 ^ (min ((n : Int)).toNat 64)) = ((2 ^ n : Nat) : Int) := by
  rw [Int.toNat_natCast, Nat.min_eq_left (by omega), Int.one_mul]
  have e : (2 : Int) ^ n = ((2 ^ n : Nat) : Int) := by simp
  have : 2 ^ n ≤ 2 ^ 60 := Nat.pow_le_pow_right (by decide) hn
  have e60 : (2 : Nat) ^ 60 = 1152921504606846976 := by decide
  rw [e60] at this
  rw [e]
  generalize 2 ^ n = q at *
  rw [wrap_i64 (by omega) (by omega)]
theorem shr_nat' {x n : Nat} (hn : n ≤ 64) : Int.fdiv (x : Int) (2 ^ (min ((n : Int)).toNat 64)) = ((x / 2 ^ n : Nat) : Int) := by
  rw [Int.toNat_natCast, Nat.min_eq_left hn]
  have e : (2 : Int) ^ n = ((2 ^ n : Nat) : Int) := by simp
  rw [e]; exact (Int.ofNat_fdiv _ _).symm
theorem bitsB_len' (n x : Nat) : (bitsB n x).length = n := by simp [bitsB]
theorem set_map_range' {α : Type} (f : Nat → α) (n i : Nat) (z : α) (hi : i < n) : (((List.range i).map f) ++ List.replicate (n - i) z).set i (f i) = ((List.range (i + 1)).map f) ++ List.replicate (n - (i + 1)) z := by
  rw [List.set_append_right _ _ (by simp), List.range_succ, List.map_append]
  simp only [List.length_map, List.length_range, Nat.sub_self, List.map_cons, List.map_nil]
  obtain ⟨q, hq⟩ : ∃ q, n - i = q + 1 := ⟨n - i - 1, by omega⟩
  have e : n - (i + 1) = q := by omega
  rw [hq, e, List.replicate_succ, List.set_cons_zero]; simp
end Go.Sx

set_option linter.unusedVariables false
namespace Go.Sx
open Go

def rsn {α : Type} (n : Nat) (enc : α → List Value) (xs : List α) (s : Sl) : Asn where
  P := fun S h => s.len = xs.length ∧ s.len ≤ s.cap ∧ ((xs = [] ∧ S = []) ∨ ∃ a, s.a = some a ∧ S = [a.block] ∧ isCells h a.block ∧ ∀ i x, xs[i]? = some x → ∀ j v, (enc x)[j]? = some v → cell h (a.add (i * n + j)) = some v)
  loc := fun {S h h'} ⟨e1, e2, k⟩ hz hk => ⟨e1, e2, k.imp id fun ⟨a, ea, eS, hc, hx⟩ => by
    have eb := hk a.block (by simp [eS])
    refine ⟨a, ea, eS, ?_, fun i x hi j v hv => ?_⟩
    · exact hc.of_eq eb
    · have := hx i x hi j v hv
      unfold cell at this ⊢
      have eb2 : (a.add (i * n + j)).block = a.block := by unfold Addr.add; split <;> rfl
      rw [eb2] at this ⊢
      rw [eb]; exact this⟩
  cel := fun {S h} ⟨e1, e2, k⟩ b hb => by
    rcases k with ⟨_, e⟩ | ⟨a, _, e, hc, _⟩
    · subst e; cases hb
    · subst e; simp at hb; subst hb; exact hc

def osn {α : Type} (t : TypeId) (n : Nat) (enc : α → List Value) (xs : List α) (s : Sl) : Asn where
  P := fun S h => (∃ b rest cap, S = [b] ∧ s = ⟨some ⟨b, 0, none⟩, xs.length, xs.length + cap⟩ ∧ rest.length = cap * n ∧ Blk h b t ((xs.map enc).flatten ++ rest)) ∨ (S = [] ∧ xs = [] ∧ s.len = 0 ∧ s.cap = 0)
  loc := fun {S h h'} k hz hk => k.imp (fun ⟨b, rest, cap, e, es, hr, hb⟩ => ⟨b, rest, cap, e, es, hr, by unfold Blk; rw [hk b (by simp [e])]; exact hb⟩) id
  cel := fun {S h} k b hb => by
    rcases k with ⟨b', rest, cap, e, es, hr, hk⟩ | ⟨e, _⟩
    · subst e; simp at hb; subst hb; exact hk.isCells
    · subst e; cases hb

def Wide {α : Type} (n : Nat) (enc : α → List Value) : Prop := ∀ x, (enc x).length = n

section
variable {α : Type} {n : Nat} {enc : α → List Value} {xs : List α} {s : Sl} {fr : Fr} {G As : List Asn} {h h' : Heap} {A : Asn} {b i : Nat} {t : TypeId} {c : List Value}

theorem rsn_len (hA : At h (rsn n enc xs s)) : s.len = xs.length := let ⟨_, e, _⟩ := hA; e
theorem rsn_cap (hA : At h (rsn n enc xs s)) : s.len ≤ s.cap := let ⟨_, _, e, _⟩ := hA; e
theorem rsn_cells (hA : At h (rsn n enc xs s)) {i : Nat} {x : α} (hi : xs[i]? = some x) : ∃ a, s.a = some a ∧ ∀ j v, (enc x)[j]? = some v → cell h (a.add (i * n + j)) = some v := by
  obtain ⟨S, e, _, k⟩ := hA
  rcases k with ⟨e, _⟩ | ⟨a, ea, _, _, hx⟩
  · subst e; simp at hi
  · exact ⟨a, ea, hx i x hi⟩

theorem rdN {τ : Ty} {xs : List τ.T} (hA : At h (rsn n τ.vals xs s)) {i : Nat} (hi : i < xs.length) {K : τ.T → HP} (hK : K xs[i] h) : sx s.a s.len (i : Int) n (fun p => ldA τ p K) h := by
  obtain ⟨a, ea, hc⟩ := rsn_cells hA (List.getElem?_eq_getElem hi)
  refine ⟨a, ea, by omega, by rw [rsn_len hA]; omega, xs[i], cellsAt_of _ 0 fun j v hv => ?_, hK⟩
  rw [Int.toNat_natCast, addr_add_add, Nat.zero_add]
  exact hc j v hv

theorem rdNf {σ : Ty} (hA : At h (rsn n enc xs s)) {i : Nat} (hi : i < xs.length) (j : Nat) {v : σ.T} (hv : (enc xs[i])[j]? = some (σ.enc v)) {K : σ.T → HP} (hK : K v h) : sx s.a s.len (i : Int) n (fun p => ldT σ (p.add j) K) h := by
  obtain ⟨a, ea, hc⟩ := rsn_cells hA (List.getElem?_eq_getElem hi)
  refine ⟨a, ea, by omega, by rw [rsn_len hA]; omega, v, ?_, hK⟩
  rw [Int.toNat_natCast, addr_add_add]
  exact hc j _ hv
theorem rdN0 {σ : Ty} (hA : At h (rsn n enc xs s)) {i : Nat} (hi : i < xs.length) {v : σ.T} (hv : (enc xs[i])[0]? = some (σ.enc v)) {K : σ.T → HP} (hK : K v h) : sx s.a s.len (i : Int) n (fun p => ldT σ p K) h := by
  obtain ⟨a, ea, hc⟩ := rsn_cells hA (List.getElem?_eq_getElem hi)
  refine ⟨a, ea, by omega, by rw [rsn_len hA]; omega, v, ?_, hK⟩
  rw [Int.toNat_natCast]
  exact hc 0 _ hv

theorem flat_len (hw : Wide n enc) : ∀ xs : List α, (xs.map enc).flatten.length = xs.length * n
  | [] => by simp
  | x :: xs => by simp only [List.map_cons, List.flatten_cons, List.length_append, hw x, flat_len hw xs, List.length_cons, Nat.succ_mul]; omega
theorem flat_get (hw : Wide n enc) : ∀ {xs : List α} {i : Nat} {x : α}, xs[i]? = some x → ∀ {j : Nat} {v : Value} (R : List Value), (enc x)[j]? = some v → ((xs.map enc).flatten ++ R)[i * n + j]? = some v
  | y :: ys, 0, x, hi, j, v, R, hv => by
    simp at hi; subst hi
    have hj : j < (enc y).length := (List.getElem?_eq_some_iff.1 hv).1
    simp only [List.map_cons, List.flatten_cons, Nat.zero_mul, Nat.zero_add, List.append_assoc]
    rw [List.getElem?_append_left hj]; exact hv
  | y :: ys, i + 1, x, hi, j, v, R, hv => by
    simp only [List.map_cons, List.flatten_cons, List.append_assoc]
    rw [List.getElem?_append_right (by rw [hw y, Nat.succ_mul]; omega), hw y]
    have e : (i + 1) * n + j - n = i * n + j := by rw [Nat.succ_mul]; omega
    rw [e]
    exact flat_get hw (by simpa using hi) R hv

theorem osn_rsn {S : List Nat} (hw : Wide n enc) (p : (osn t n enc xs s).P S h) : (rsn n enc xs s).P S h := by
  rcases p with ⟨b, rest, cap, e, es, hr, hb⟩ | ⟨e, ex, e1, e2⟩
  · subst es
    refine ⟨rfl, by simp, .inr ⟨⟨b, 0, none⟩, rfl, e, hb.isCells, fun i x hi j v hv => ?_⟩⟩
    rw [addr_add, cell_blk hb, Nat.zero_add]
    exact flat_get hw hi rest hv
  · exact ⟨by simp [ex, e1], by omega, .inl ⟨ex, e⟩⟩
theorem At.rsn (hw : Wide n enc) (hA : At h (osn t n enc xs s)) : At h (rsn n enc xs s) := let ⟨S, p⟩ := hA; ⟨S, osn_rsn hw p⟩
theorem osn_len (hA : At h (osn t n enc xs s)) : s.len = xs.length := by
  obtain ⟨S, p⟩ := hA
  rcases p with ⟨b, rest, cap, e, es, hr, hb⟩ | ⟨e, ex, e1, e2⟩
  · subst es; rfl
  · subst ex; exact e1
theorem osn_nil {a : Option Addr} (k : Nat) (h : Heap) : New k h (osn t n enc ([] : List α) ⟨a, 0, 0⟩) := ⟨[], .inr ⟨rfl, rfl, rfl, rfl⟩, by simp⟩
theorem Hs.niln (st : Hs fr G As h) (t : TypeId) (n : Nat) (enc : α → List Value) (a : Option Addr) : Hs fr G (As ++ [osn t n enc ([] : List α) ⟨a, 0, 0⟩]) h := st.new (Ext.refl' _ _) (osn_nil _ _)
theorem Hs.asSn (st : Hs fr G As h) (k : Nat) (n : Nat) (enc : α → List Value) (xs : List α) (hk : As[k]? = some (cl b t c)) (hc : c = (xs.map enc).flatten) : Hs fr G (As.set k (osn t n enc xs ⟨some ⟨b, 0, none⟩, xs.length, xs.length⟩)) h :=
  st.imp k hk fun S h ⟨e, hb⟩ => .inl ⟨b, [], 0, e, rfl, by simp, by simpa [← hc] using hb⟩

theorem osn_first {S : List Nat} (hw : Wide n enc) (p : (osn t n enc xs s).P S h) : FirstCells h s.a (s.len * n) (xs.map enc).flatten := by
  rcases p with ⟨b', rest, cap, eS, es, hr, hb⟩ | ⟨_, ex, e1, e2⟩
  · subst es
    refine ⟨flat_len hw xs, CellsAt_blk' _ hb 0 fun j hj => ?_⟩
    simp only [Nat.zero_add, Nat.add_zero]; exact List.getElem?_append_left hj
  · subst ex
    unfold FirstCells
    cases s.a with
    | none => rfl
    | some a => rw [e1]; exact ⟨by simp, trivial⟩

theorem Hs.apdN {v : α} {by_ : Nat} {z : Array Value} {K : Sl → HP} (st : Hs fr G As h) (hw : Wide n enc) (hn : 0 < n) (k kx : Nat) (hk : As[k]? = some (osn t n enc xs s)) (hkx : As[kx]? = some (cl b t (enc v))) (hne : k ≠ kx)
    (hv : ∀ u ∈ enc v, leafB u = true) (hlen : (xs.length + 1) * by_ ≤ 140737488355328) (hby : 0 < by_) (hz : z.size = n)
    (hK : ∀ s' h', Hs fr G (As.set k (osn t n enc (xs ++ [v]) s')) h' → K s' h') : Sx.apd t n by_ z s ⟨some ⟨b, 0, none⟩, 1, 1⟩ K h := by
  have hx := st.blk kx hkx
  have hl := osn_len (st.own k hk)
  obtain ⟨S1, p, hwr⟩ := st.focus k hk
  have hf := osn_first hw p
  refine ⟨enc v, ⟨by simp [hw v], CellsAt_blk' _ hx 0 fun j hj => by simp⟩, fun hle => ?_, fun hgt => ?_⟩
  · rcases p with ⟨b', rest, cap, eS, es, hr, hb⟩ | ⟨_, _, e1, e2⟩
    · subst es
      simp only at hle hl ⊢
      have hc0 : 0 < cap := by omega
      have hrl : n ≤ rest.length := by rw [hr]; exact Nat.le_mul_of_pos_left n hc0
      rw [addr_add]
      refine stA_ok _ 0 hb (by rw [List.length_append, flat_len hw, hw v]; omega) hv fun h' hb' x => ?_
      have e : List.take (0 + xs.length * n + 0) ((xs.map enc).flatten ++ rest) ++ enc v ++ List.drop (0 + xs.length * n + 0 + (enc v).length) ((xs.map enc).flatten ++ rest) = ((xs ++ [v]).map enc).flatten ++ rest.drop n := by
        have e1 : 0 + xs.length * n + 0 = (xs.map enc).flatten.length := by rw [flat_len hw]; omega
        rw [e1, List.take_left, hw v, ← List.drop_drop, List.drop_left]
        simp
      rw [e] at hb'
      refine hK _ _ (hwr (osn t n enc (xs ++ [v]) ⟨some ⟨b', 0, none⟩, xs.length + 1, xs.length + cap⟩) [b'] _ (by rw [eS]; exact x) (.inl ⟨b', rest.drop n, cap - 1, rfl, ?_, ?_, hb'⟩) (by simp [eS]))
      · simp; omega
      · rw [List.length_drop, hr, Nat.sub_mul, Nat.one_mul]
    · exfalso; simp only [e1, e2] at hle; omega
  · simp only at hgt ⊢
    rw [hl] at hgt ⊢
    refine ⟨hlen, hby, ?_⟩
    rw [hl] at hf
    refine ⟨_, hf, fun nc h1 h2 => ?_⟩
    refine hK _ _ (hwr (osn t n enc (xs ++ [v]) ⟨some ⟨h.size, 0, none⟩, xs.length + 1, nc⟩) [h.size] _ ((Ext.refl' S1 h).push _) (.inl ⟨h.size, (Builtin.zeroCells z (nc - (xs.length + 1))).toList, nc - (xs.length + 1), rfl, ?_, ?_, ?_⟩) (by simp))
    · have h1' : xs.length + 1 ≤ nc := h1
      simp; omega
    · simp [Builtin.zeroCells, hz]
    · have := Blk.new h t (((xs.map enc).flatten.toArray ++ (enc v).toArray) ++ Builtin.zeroCells z (nc - (xs.length + 1)))
      simpa using this

end
end Go.Sx

set_option linter.unusedVariables false
namespace Go.Sx
open Go

section
variable {P : Program} {τ : Ty} {t : TypeId} {n : Nat} {h h' : Heap} {xs ys : List τ.T} {s s2 : Sl} {fr : Fr} {G As : List Asn} {by_ : Nat}

def PredOkN (P : Program) (τ : Ty) (fv : Value) (p : τ.T → Bool) (xs : List τ.T) (h : Heap) : Prop :=
  ∀ x ∈ xs, ∀ h', Ext [] h h' → callF P fv #[.agg (τ.vals x).toArray] .bool (fun r h2 => r = p x ∧ Ext [] h' h2) h'

def W_indexFuncN (P : Program) (τ : Ty) (n : Nat) (s : Sl) (fv : Value) (K : Int → HP) : HP :=
  lfp (σ := Int × Int × Unit) (fun X0 s1 => brB (decide (s1.1 < (s.len : Int)))
    (sx s.a s.len s1.1 n fun p2 => ldA τ p2 fun x3 => callF P fv #[.agg (τ.vals x3).toArray] .bool fun r4 => brB r4 (K s1.1) (X0 ((IntKind.wrap .i64 (s1.1 + (1 : Int))), s1.2.1, ())))
    (K (-1 : Int))) ((0 : Int), (0 : Int), ())

theorem w_indexFuncN {fv : Value} {p : τ.T → Bool} (hA : At h (rsn n τ.vals xs s)) (hl : xs.length ≤ 1099511627776) (hp : PredOkN P τ fv p xs h) {K : Int → HP} (hK : ∀ h', Ext [] h h' → K (fidx p xs) h') : W_indexFuncN P τ n s fv K h := by
  have l1 := rsn_len hA
  refine lfp_invh (I := fun m σ h' => ∃ i : Nat, σ = ((i : Int), 0, ()) ∧ i ≤ xs.length ∧ (∀ j (hj : j < i) (h2 : j < xs.length), p xs[j] = false) ∧ Ext [] h h' ∧ m = xs.length - i) ⟨_, 0, rfl, by omega, fun j hj => by omega, Ext.refl' _ _, rfl⟩ ?_
  rintro m σ h' X ⟨i, rfl, hi, hn, x, em⟩ hX
  simp only
  by_cases hlt : i < xs.length
  · rw [show decide ((i : Int) < (s.len : Int)) = true by rw [l1]; exact dlt_t hlt, brB_true, inc_i (show i < 4611686018427387904 by omega)]
    refine rdN (hA.ext x) hlt ?_
    refine callF_of (hp _ (List.getElem_mem hlt) h' x) ?_
    rintro r h2 ⟨er, x2⟩
    have er : r = p xs[i] := er
    subst er
    cases hpx : p xs[i] with
    | true =>
      rw [brB_true]
      have := hK h2 (x.nil_trans x2)
      rw [fidx_some hlt hpx fun j hj => hn j hj (by omega)] at this; exact this
    | false =>
      rw [brB_false]
      refine hX _ _ _ ⟨i + 1, rfl, by omega, fun j hj h3 => ?_, x.nil_trans x2, rfl⟩ (by omega)
      rcases Nat.lt_or_ge j i with q | q
      · exact hn j q h3
      · have : j = i := by omega
        subst this; exact hpx
  · rw [show decide ((i : Int) < (s.len : Int)) = false by rw [l1]; exact dlt_f hlt, brB_false]
    have := hK h' x
    rw [fidx_none fun j hj => hn j (by omega) hj] at this; exact this

end
end Go.Sx

set_option linter.unusedVariables false
namespace Go.Sx
open Go

section
variable {τ : Ty} {t : TypeId} {h h' : Heap} {fr : Fr} {G As : List Asn} {by_ : Nat}

theorem Hs.mks1 (st : Hs fr G As h) {n : Nat} {z : τ.T} {K : Sl → HP} (hn : n * by_ ≤ 140737488355328) (hby : 0 < by_) (hK : ∀ s' h', Hs fr G (As ++ [osl t τ.enc (List.replicate n z) s']) h' → K s' h') :
    Sx.mks t 1 by_ #[τ.enc z] (n : Int) (n : Int) K h := by
  have hn2 : n ≤ 140737488355328 := Nat.le_trans (Nat.le_mul_of_pos_right n hby) hn
  have e1 : (by_ : Int) * (n : Int) = ((n * by_ : Nat) : Int) := by rw [Int.natCast_mul, Int.mul_comm]
  refine ⟨Int.natCast_nonneg _, Int.le_refl _, by rw [e1]; omega, by omega, ?_⟩
  simp only [Int.toNat_natCast]
  refine hK _ _ (st.new ((Ext.refl' [] h).push _) ⟨[h.size], .inl ⟨h.size, [], rfl, by simp, ?_⟩, by simp⟩)
  have := Blk.new h t (if n * 1 = 0 then #[] else zrow #[τ.enc z] (n * 1))
  have e : (if n * 1 = 0 then (#[] : Array Value) else zrow #[τ.enc z] (n * 1)).toList = List.map τ.enc (List.replicate n z) ++ [] := by
    rw [Nat.mul_one, List.append_nil, List.map_replicate]
    by_cases h0 : n = 0
    · subst h0; rfl
    · rw [if_neg h0]
      apply List.ext_getElem
      · simp [zrow]
      · intro i h1 h2; simp [zrow, Nat.mod_one]
  rw [e] at this; exact this
end
end Go.Sx
