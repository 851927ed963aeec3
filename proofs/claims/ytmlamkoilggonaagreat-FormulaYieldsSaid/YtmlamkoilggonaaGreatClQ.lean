/-
  What the functions over clauses answer, in plain Lean.
-/
import Derived.Test.YtmlamkoilggonaaGreatClP
import Derived.Test.YtmlamkoilggonaaGreatSxW
set_option linter.unusedVariables false
namespace Go.Cl
open Go.Sx

def alwaysC (c : List Int) : Bool := c.any fun x => c.contains (-x)
def hasC (c : List Int) (l : Int) : Bool := rightC c && c.contains l
def normP (c : List Int) : List Int × Bool × Int := if rightC c then (nrm c, alwaysC c, 0) else ([], false, 20)
def withoutP (c : List Int) (l : Int) : List Int × Int := if rightC c then (if rt l then ((nrm c).filter (fun x => !(x == l)), 0) else ([], 10)) else ([], 20)
def unionP (a b : List Int) : List Int × Int := if rightC a && rightC b then (if (nrm (a ++ b)).length > 4096 then ([], 5) else (nrm (a ++ b), 0)) else ([], 20)
def clashesP (a b : List Int) : List Int × Int := if rightC a && rightC b then ((nrm a).filter (fun l => b.contains (-l)), 0) else ([], 20)
def compareP (a b : List Int) : Int := if rightC a && rightC b then (if cmpI (nrm a).length (nrm b).length ≠ 0 then cmpI (nrm a).length (nrm b).length else cmpL cmpLit (nrm a) (nrm b)) else 0
def withinP (a b : List Int) : Bool := rightC a && rightC b && a.all (fun x => b.contains x)
def sameP (a b : List Int) : Bool := rightC a && rightC b && decide (nrm a = nrm b)
def holdsP (c l : List Int) : Bool := rightC c && c.any (fun x => l.contains x)
def resolveP (a b : List Int) (l : Int) : List Int × Int :=
  if rightC a && rightC b then (if rt l then (if a.contains l && b.contains (-l) then unionP (withoutP a l).1 (withoutP b (-l)).1 else ([], 21)) else ([], 10)) else ([], 20)

theorem rt_neg {x : Int} (h : rt x = true) : rt (-x) = true := by have := rt_iff.1 h; exact rt_iff.2 (by omega)
theorem negL_rt {x : Int} (h : rt x = true) : negL x = -x := by simp [negL, h]

theorem mem_nrm {c : List Int} (h : rightC c = true) {x : Int} : x ∈ nrm c ↔ x ∈ c := (nrm_spec (rightC_rt h)).2 x
theorem strict_nrm {c : List Int} (h : rightC c = true) : Strict (nrm c) := (nrm_spec (rightC_rt h)).1
theorem right_nrm {c : List Int} (h : rightC c = true) : rightC (nrm c) = true := by
  simp only [rightC, Bool.and_eq_true, List.all_eq_true, decide_eq_true_eq]
  exact ⟨Nat.le_trans (nrm_length c) (rightC_len h), fun x hx => rightC_rt h x ((mem_nrm h).1 hx)⟩
theorem right_sub {c d : List Int} (h : rightC c = true) (hl : d.length ≤ c.length) (hm : ∀ x ∈ d, x ∈ c) : rightC d = true := by
  simp only [rightC, Bool.and_eq_true, List.all_eq_true, decide_eq_true_eq]
  exact ⟨Nat.le_trans hl (rightC_len h), fun x hx => rightC_rt h x (hm x hx)⟩

/-- Two beside each other, of which the second one is the first one's negation. -/
def alwScan (last : Int) : List Int → Bool
  | [] => false
  | x :: xs => (decide (last ≠ 0) && decide (x = negL last)) || alwScan x xs

theorem alwScan_mem : ∀ {L : List Int} {last : Int}, alwScan last L = true → (∀ x ∈ L, rt x = true) → (last = 0 ∨ rt last = true) → ∃ x, (x = last ∨ x ∈ L) ∧ x ≠ 0 ∧ -x ∈ L
  | x :: xs, last, h, hr, hl => by
    simp only [alwScan, Bool.or_eq_true, Bool.and_eq_true, decide_eq_true_eq] at h
    rcases h with ⟨h0, h1⟩ | h
    · rcases hl with hl | hl
      · exact absurd hl h0
      · exact ⟨last, .inl rfl, h0, by rw [h1, negL_rt hl]; simp⟩
    · obtain ⟨y, hy, h0, hn⟩ := alwScan_mem h (fun z hz => hr z (by simp [hz])) (.inr (hr x (by simp)))
      exact ⟨y, .inr (by rcases hy with rfl | hy <;> simp [*]), h0, by simp [hn]⟩

theorem alwScan_app : ∀ (A : List Int) (last v : Int) (B : List Int), rt v = true → alwScan last (A ++ v :: negL v :: B) = true
  | [], last, v, B, h => by
    have : v ≠ 0 := (rt_iff.1 h).1
    simp [alwScan, this]
  | a :: A, last, v, B, h => by
    simp only [List.cons_append, alwScan, Bool.or_eq_true]
    exact .inr (alwScan_app A a v B h)

theorem alwScan_eq {c : List Int} (h : rightC c = true) : alwScan 0 (nrm c) = alwaysC c := by
  have hs := strict_nrm h
  have hr : ∀ x ∈ nrm c, rt x = true := rightC_rt (right_nrm h)
  cases ha : alwaysC c with
  | true =>
    simp only [alwaysC, List.any_eq_true, List.contains_iff_mem] at ha
    obtain ⟨x, hx, hnx⟩ := ha
    -- the one that is not negated
    obtain ⟨v, hv0, hv, hnv⟩ : ∃ v : Int, 0 < v ∧ v ∈ nrm c ∧ -v ∈ nrm c := by
      have := rt_iff.1 (rightC_rt h x hx)
      by_cases hp : 0 < x
      · exact ⟨x, hp, (mem_nrm h).2 hx, (mem_nrm h).2 hnx⟩
      · exact ⟨-x, by omega, (mem_nrm h).2 hnx, by rw [Int.neg_neg]; exact (mem_nrm h).2 hx⟩
    have hrv := hr v hv
    have hrn := hr _ hnv
    obtain ⟨A, B, e⟩ := List.append_of_mem hv
    rw [e] at hs hnv ⊢
    have hs2 := (List.pairwise_append.1 hs).2.1
    rw [List.pairwise_cons] at hs2
    have hlt : ltL v (-v) = true := by rw [ltL_rt hrv hrn]; unfold ix; split <;> split <;> omega
    have hB : -v ∈ B := by
      rcases List.mem_append.1 hnv with k | k
      · have := (List.pairwise_append.1 hs).2.2 _ k v (by simp)
        rw [ltL_asymm hlt] at this; cases this
      · rcases List.mem_cons.1 k with k | k
        · omega
        · exact k
    cases B with
    | nil => cases hB
    | cons y B =>
      have hy : y = -v := by
        rcases List.mem_cons.1 hB with k | k
        · exact k.symm
        · have h1 := hs2.1 y (by simp)
          have h2 := (List.pairwise_cons.1 hs2.2).1 _ k
          have hry : rt y = true := hr y (by rw [e]; simp)
          rw [ltL_rt hrv hry] at h1
          rw [ltL_rt hry hrn] at h2
          unfold ix at h1 h2
          split at h1 <;> split at h1 <;> split at h2 <;> (try split at h2) <;> omega
      subst hy
      have := alwScan_app A 0 v B hrv
      rw [negL_rt hrv] at this; exact this
  | false =>
    cases hb : alwScan 0 (nrm c) with
    | false => rfl
    | true =>
      obtain ⟨x, hx, h0, hn⟩ := alwScan_mem hb hr (.inl rfl)
      have : alwaysC c = true := by
        simp only [alwaysC, List.any_eq_true, List.contains_iff_mem]
        rcases hx with rfl | hx
        · exact absurd rfl h0
        · exact ⟨x, (mem_nrm h).1 hx, (mem_nrm h).1 hn⟩
      rw [this] at ha; cases ha

theorem right_without {c : List Int} (h : rightC c = true) (l : Int) : rightC (withoutP c l).1 = true := by
  unfold withoutP
  rw [if_pos h]
  split
  · exact right_sub (right_nrm h) (List.length_filter_le _ _) (fun x hx => (List.mem_filter.1 hx).1)
  · rfl

end Go.Cl

/-
  Normal forms that can be worked out; what the laws over pairs ask, in plain Lean.
-/
set_option linter.unusedVariables false
namespace Go.Cl
open Go.Sx

def insL (x : Int) : List Int → List Int
  | [] => [x]
  | y :: ys => if x = y then y :: ys else if ltL x y then x :: y :: ys else y :: insL x ys
def nrmF (c : List Int) : List Int := c.foldr insL []

theorem mem_insL {x z : Int} : ∀ {ys : List Int}, z ∈ insL x ys ↔ z = x ∨ z ∈ ys
  | [] => by simp [insL]
  | y :: ys => by
    unfold insL
    split
    · rename_i e; subst e; simp
    · split
      · simp
      · rw [List.mem_cons, mem_insL, List.mem_cons]
        constructor
        · rintro (h | h | h)
          · exact .inr (.inl h)
          · exact .inl h
          · exact .inr (.inr h)
        · rintro (h | h | h)
          · exact .inr (.inl h)
          · exact .inl h
          · exact .inr (.inr h)

theorem insL_strict {x : Int} : ∀ {ys : List Int}, Strict ys → Strict (insL x ys)
  | [], _ => by simp [insL]
  | y :: ys, h => by
    have h' := List.pairwise_cons.1 h
    unfold insL
    split
    · exact h
    · split
      · rename_i hlt
        exact List.pairwise_cons.2 ⟨fun z hz => by
          rcases List.mem_cons.1 hz with rfl | hz
          · exact hlt
          · exact ltL_trans hlt (h'.1 z hz), h⟩
      · rename_i hne hlt
        have hyx : ltL y x = true := by
          cases hh : ltL y x with
          | true => rfl
          | false => exact absurd (ltL_total (by simpa using hlt) hh) hne
        refine List.pairwise_cons.2 ⟨fun z hz => ?_, insL_strict h'.2⟩
        rcases mem_insL.1 hz with rfl | hz
        · exact hyx
        · exact h'.1 z hz

theorem nrmF_spec : ∀ (c : List Int), Strict (nrmF c) ∧ ∀ x, x ∈ nrmF c ↔ x ∈ c
  | [] => ⟨List.Pairwise.nil, fun x => Iff.rfl⟩
  | y :: ys => by
    obtain ⟨h1, h2⟩ := nrmF_spec ys
    exact ⟨insL_strict h1, fun x => by rw [show nrmF (y :: ys) = insL y (nrmF ys) from rfl, mem_insL, h2, List.mem_cons]⟩

/-- The same, but it can be worked out. -/
def nrmT (c : List Int) : List Int := if c.all rt then nrmF c else nrm c
theorem nrm_T : nrm = nrmT := by
  funext c
  unfold nrmT
  split
  · rename_i h
    rw [List.all_eq_true] at h
    exact (nrm_eq h (nrmF_spec c).1 (nrmF_spec c).2).symm
  · rfl

theorem cmpL_zero : ∀ {xs ys : List Int}, cmpL cmpLit xs ys = 0 ↔ xs = ys
  | [], [] => by simp [cmpL]
  | [], y :: ys => by simp [cmpL]
  | x :: xs, [] => by simp [cmpL]
  | x :: xs, y :: ys => by
    simp only [cmpL]
    by_cases h : cmpLit x y = 0
    · rw [if_neg (by simp [h]), cmpL_zero, cmpLit_zero.1 h]; simp
    · rw [if_pos h]
      constructor
      · intro e; exact absurd e h
      · intro e; injection e with e1 e2; exact absurd (cmpLit_zero.2 e1) h

theorem same_compare {c d : List Int} (hr : rightC c = true) (hr2 : rightC d = true) : sameP c d = (compareP c d == 0) := by
  unfold sameP compareP
  rw [hr, hr2]
  simp only [Bool.and_self, Bool.true_and, if_true]
  by_cases hl : (nrm c).length = (nrm d).length
  · rw [hl, if_neg (by simp [cmpI_zero]), Bool.eq_iff_iff]
    simp [cmpL_zero]
  · have h0 : cmpI (nrm c).length (nrm d).length ≠ 0 := by rw [ne_eq, cmpI_zero]; omega
    rw [if_pos h0]
    have h1 : ¬ nrm c = nrm d := fun e => hl (by rw [e])
    rw [decide_eq_false h1]
    symm; simpa using h0

end Go.Cl

/-
  The order of clauses; made clauses and models: the plain laws.
-/
set_option linter.unusedVariables false
namespace Go.Cl
open Go.Sx

theorem cmpI_vals (a b : Int) : cmpI a b = -1 ∨ cmpI a b = 0 ∨ cmpI a b = 1 := by unfold cmpI; split <;> (try split) <;> simp
theorem cmpI_anti (a b : Int) : cmpI a b = -cmpI b a := by unfold cmpI; split <;> (try split) <;> (try split) <;> omega
theorem cmpI_trans {a b c : Int} (h : cmpI a b ≤ 0) (k : cmpI b c ≤ 0) : cmpI a c ≤ 0 := by unfold cmpI at *; repeat' split at h <;> repeat' split at k <;> (try split) <;> (try split) <;> omega
theorem cmpLit_vals (a b : Int) : cmpLit a b = -1 ∨ cmpLit a b = 0 ∨ cmpLit a b = 1 := by
  unfold cmpLit; split <;> split <;> first | exact cmpI_vals _ _ | simp
theorem cmpLit_anti (a b : Int) : cmpLit a b = -cmpLit b a := by
  unfold cmpLit
  cases rt a <;> cases rt b <;> simp only [if_true, if_false, Bool.false_eq_true] <;> first | exact cmpI_anti _ _ | rfl

theorem cmpL_vals : ∀ xs ys : List Int, cmpL cmpLit xs ys = -1 ∨ cmpL cmpLit xs ys = 0 ∨ cmpL cmpLit xs ys = 1
  | [], [] => by simp [cmpL]
  | [], y :: ys => by simp [cmpL]
  | x :: xs, [] => by simp [cmpL]
  | x :: xs, y :: ys => by
    simp only [cmpL]
    split
    · exact cmpLit_vals x y
    · exact cmpL_vals xs ys
theorem cmpL_anti : ∀ xs ys : List Int, cmpL cmpLit xs ys = -cmpL cmpLit ys xs
  | [], [] => by simp [cmpL]
  | [], y :: ys => by simp [cmpL]
  | x :: xs, [] => by simp [cmpL]
  | x :: xs, y :: ys => by
    have e := cmpLit_anti x y
    simp only [cmpL]
    by_cases h : cmpLit x y = 0
    · have h2 : cmpLit y x = 0 := by omega
      rw [if_neg (by simp [h]), if_neg (by simp [h2])]; exact cmpL_anti xs ys
    · have h2 : ¬ cmpLit y x = 0 := by omega
      rw [if_pos h, if_pos h2]; exact e
theorem cmpL_trans : ∀ {xs ys zs : List Int}, cmpL cmpLit xs ys ≤ 0 → cmpL cmpLit ys zs ≤ 0 → cmpL cmpLit xs zs ≤ 0
  | [], _, [], _, _ => by simp [cmpL]
  | [], _, z :: zs, _, _ => by simp [cmpL]
  | x :: xs, [], _, h, _ => by simp [cmpL] at h
  | x :: xs, y :: ys, [], _, k => by simp [cmpL] at k
  | x :: xs, y :: ys, z :: zs, h, k => by
    simp only [cmpL] at h k ⊢
    by_cases h1 : cmpLit x y = 0
    · rw [if_neg (by simp [h1])] at h
      have exy := cmpLit_zero.1 h1
      subst exy
      by_cases h2 : cmpLit x z = 0
      · rw [if_neg (by simp [h2])] at k ⊢; exact cmpL_trans h k
      · rw [if_pos h2] at k ⊢; exact k
    · rw [if_pos h1] at h
      have hxy : ltL x y = true := by simp only [ltL, decide_eq_true_eq]; omega
      have hxz : ltL x z = true := by
        by_cases h2 : cmpLit y z = 0
        · rw [← cmpLit_zero.1 h2]; exact hxy
        · rw [if_pos h2] at k
          exact ltL_trans hxy (by simp only [ltL, decide_eq_true_eq]; omega)
      simp only [ltL, decide_eq_true_eq] at hxz
      rw [if_pos (by omega)]; omega

section
variable {a b c : List Int}

theorem compare_eq (ha : rightC a = true) (hb : rightC b = true) : compareP a b = if cmpI (nrm a).length (nrm b).length ≠ 0 then cmpI (nrm a).length (nrm b).length else cmpL cmpLit (nrm a) (nrm b) := by
  unfold compareP; rw [ha, hb]; rfl
theorem compare_vals (ha : rightC a = true) (hb : rightC b = true) : compareP a b = -1 ∨ compareP a b = 0 ∨ compareP a b = 1 := by
  rw [compare_eq ha hb]; split
  · exact cmpI_vals _ _
  · exact cmpL_vals _ _
theorem compare_anti (ha : rightC a = true) (hb : rightC b = true) : compareP a b = -compareP b a := by
  rw [compare_eq ha hb, compare_eq hb ha]
  have e := cmpI_anti (nrm a).length (nrm b).length
  by_cases h : cmpI (nrm a).length (nrm b).length = 0
  · rw [if_neg (by simp [h]), if_neg (by simp; omega)]; exact cmpL_anti _ _
  · rw [if_pos h, if_pos (by omega)]; exact e
theorem compare_trans (ha : rightC a = true) (hb : rightC b = true) (hc : rightC c = true) (h : compareP a b ≤ 0) (k : compareP b c ≤ 0) : compareP a c ≤ 0 := by
  rw [compare_eq ha hb] at h
  rw [compare_eq hb hc] at k
  rw [compare_eq ha hc]
  have z1 := @cmpI_zero (nrm a).length (nrm b).length
  have z2 := @cmpI_zero (nrm b).length (nrm c).length
  have z3 := @cmpI_zero (nrm a).length (nrm c).length
  have n1 := @cmpI_neg (nrm a).length (nrm b).length
  have n2 := @cmpI_neg (nrm b).length (nrm c).length
  have n3 := @cmpI_neg (nrm a).length (nrm c).length
  by_cases h1 : cmpI (nrm a).length (nrm b).length = 0
  · rw [if_neg (by simp [h1])] at h
    by_cases h2 : cmpI (nrm b).length (nrm c).length = 0
    · rw [if_neg (by simp [h2])] at k
      rw [if_neg (by simp; omega)]; exact cmpL_trans h k
    · rw [if_pos h2] at k
      rw [if_pos (by omega)]; omega
  · rw [if_pos h1] at h
    by_cases h2 : cmpI (nrm b).length (nrm c).length = 0
    · rw [if_pos (by omega)]; omega
    · rw [if_pos h2] at k
      rw [if_pos (by omega)]; omega
theorem compare_len (ha : rightC a = true) (hb : rightC b = true) (h : (nrm a).length < (nrm b).length) : compareP a b = -1 := by
  rw [compare_eq ha hb]
  have : cmpI (nrm a).length (nrm b).length = -1 := by unfold cmpI; rw [if_pos (by omega)]
  rw [this, if_pos (by decide)]
theorem nrm_nrm (ha : rightC a = true) : nrm (nrm a) = nrm a :=
  (nrm_eq (rightC_rt (right_nrm ha)) (strict_nrm ha) fun x => Iff.rfl).symm
theorem compare_nrm (ha : rightC a = true) (hb : rightC b = true) : compareP (nrm a) (nrm b) = compareP a b := by
  rw [compare_eq ha hb, compare_eq (right_nrm ha) (right_nrm hb), nrm_nrm ha, nrm_nrm hb]

/-- The same literals, the same normal form. -/
theorem nrm_congr (ha : ∀ x ∈ a, rt x = true) (hb : ∀ x ∈ b, rt x = true) (hm : ∀ x, x ∈ a ↔ x ∈ b) : nrm a = nrm b :=
  nrm_eq hb (nrm_spec ha).1 fun x => ((nrm_spec ha).2 x).trans (hm x)
theorem nrm_inj (ha : ∀ x ∈ a, rt x = true) (hb : ∀ x ∈ b, rt x = true) (e : nrm a = nrm b) (x : Int) : x ∈ a ↔ x ∈ b := by
  rw [← (nrm_spec ha).2 x, e, (nrm_spec hb).2 x]

theorem has_iff (ha : rightC a = true) {x : Int} : hasC a x = true ↔ x ∈ a := by unfold hasC; rw [ha]; simp
theorem has_eq (ha : rightC a = true) (x : Int) : hasC a x = a.contains x := by unfold hasC; rw [ha]; rfl
theorem within_iff (ha : rightC a = true) (hb : rightC b = true) : withinP a b = true ↔ ∀ x ∈ a, x ∈ b := by unfold withinP; rw [ha, hb]; simp
theorem same_iff (ha : rightC a = true) (hb : rightC b = true) : sameP a b = true ↔ ∀ x, x ∈ a ↔ x ∈ b := by
  unfold sameP; rw [ha, hb]
  simp only [Bool.and_self, Bool.true_and, decide_eq_true_eq]
  exact ⟨nrm_inj (rightC_rt ha) (rightC_rt hb), nrm_congr (rightC_rt ha) (rightC_rt hb)⟩
theorem holds_iff (ha : rightC a = true) : holdsP a b = true ↔ ∃ x ∈ a, x ∈ b := by unfold holdsP; rw [ha]; simp
theorem always_iff : alwaysC a = true ↔ ∃ x ∈ a, -x ∈ a := by unfold alwaysC; simp

/-- Two clauses whose literals together are not too many. -/
theorem union_eq (ha : rightC a = true) (hb : rightC b = true) (hl : a.length + b.length ≤ 4096) : unionP a b = (nrm (a ++ b), 0) := by
  have := nrm_length (a ++ b)
  rw [List.length_append] at this
  unfold unionP; rw [ha, hb]; simp only [Bool.and_self, if_true]; rw [if_neg (by omega)]
theorem right_app (ha : rightC a = true) (hb : rightC b = true) (hl : a.length + b.length ≤ 4096) : rightC (a ++ b) = true := by
  simp only [rightC, Bool.and_eq_true, List.all_eq_true, decide_eq_true_eq]
  exact ⟨by simpa using hl, fun x hx => (List.mem_append.1 hx).elim (rightC_rt ha x) (rightC_rt hb x)⟩
theorem without_eq (ha : rightC a = true) {l : Int} (hl : rt l = true) : withoutP a l = ((nrm a).filter (fun x => !(x == l)), 0) := by
  unfold withoutP; rw [ha, hl]; rfl
theorem mem_without (ha : rightC a = true) {l x : Int} (hl : rt l = true) : x ∈ (withoutP a l).1 ↔ x ∈ a ∧ x ≠ l := by
  rw [without_eq ha hl]
  simp only [List.mem_filter, Bool.not_eq_true', beq_eq_false_iff_ne, ne_eq, mem_nrm ha]
end

end Go.Cl

/-
  Long clauses: all literals from k on, in plain Lean.
-/
set_option linter.unusedVariables false
namespace Go.Cl
open Go.Sx

/-- n literals from k on. -/
def upTo (k n : Nat) : List Int := (List.range n).map fun v => ((v + k : Nat) : Int)
theorem upTo_len (k n : Nat) : (upTo k n).length = n := by unfold upTo; simp
theorem upTo_get {k n i : Nat} (hi : i < (upTo k n).length) : (upTo k n)[i] = ((i + k : Nat) : Int) := by unfold upTo; simp
theorem mem_upTo {k n : Nat} {x : Int} : x ∈ upTo k n ↔ (k : Int) ≤ x ∧ x < (k : Int) + n := by
  unfold upTo
  rw [List.mem_map]
  constructor
  · rintro ⟨v, hv, rfl⟩; rw [List.mem_range] at hv; omega
  · rintro ⟨h1, h2⟩; exact ⟨x.toNat - k, List.mem_range.2 (by omega), by omega⟩
theorem upTo_rt {k n : Nat} (hk : 1 ≤ k) (hn : k + n ≤ 1048577) : ∀ x ∈ upTo k n, rt x = true := fun x hx => by
  have := mem_upTo.1 hx; exact rt_iff.2 (by omega)
theorem upTo_strict {k n : Nat} (hk : 1 ≤ k) (hn : k + n ≤ 1048577) : Strict (upTo k n) := by
  refine List.pairwise_iff_getElem.2 ?_
  intro i j hi hj hij
  have h1 := upTo_rt hk hn _ (List.getElem_mem hi)
  have h2 := upTo_rt hk hn _ (List.getElem_mem hj)
  rw [ltL_rt h1 h2]
  rw [upTo_get hi, upTo_get hj]
  unfold ix
  rw [if_neg (by omega), if_neg (by omega)]; omega
theorem upTo_take {k n m : Nat} (h : m ≤ n) : (upTo k n).take m = upTo k m := by
  unfold upTo; rw [← List.map_take, List.take_range, Nat.min_eq_left h]
theorem upTo_drop {k n m : Nat} (h : m ≤ n) : (upTo k n).drop m = upTo (k + m) (n - m) := by
  apply List.ext_getElem
  · simp [upTo_len]
  · intro i h1 h2
    rw [List.getElem_drop, upTo_get, upTo_get]
    omega
theorem upTo_right {k n : Nat} (hk : 1 ≤ k) (hn : k + n ≤ 1048577) : rightC (upTo k n) = decide (n ≤ 4096) := by
  unfold rightC
  rw [upTo_len, List.all_eq_true.2 (upTo_rt hk hn), Bool.and_true]
theorem upTo_nodup {k n : Nat} (hk : 1 ≤ k) (hn : k + n ≤ 1048577) : (upTo k n).Nodup := Strict.nodup (upTo_strict hk hn)

/-- How long a normal form is. -/
theorem nrm_len_eq {c M : List Int} (h0 : ∀ x ∈ c, rt x = true) (hn : M.Nodup) (hm : ∀ x, x ∈ M ↔ x ∈ c) : (nrm c).length = M.length :=
  ((List.perm_ext_iff_of_nodup (Strict.nodup (nrm_spec h0).1) hn).2 fun x => ((nrm_spec h0).2 x).trans (hm x).symm).length_eq

def full : List Int := upTo 1 4096
theorem full_right : rightC full = true := by unfold full; rw [upTo_right (by decide) (by decide)]; rfl
theorem mem_full {x : Int} : x ∈ full ↔ 1 ≤ x ∧ x ≤ 4096 := by unfold full; rw [mem_upTo]; omega

theorem app_rt {a b : List Int} (ha : ∀ x ∈ a, rt x = true) (hb : ∀ x ∈ b, rt x = true) : ∀ x ∈ a ++ b, rt x = true := fun x hx => (List.mem_append.1 hx).elim (ha x) (hb x)

theorem union_full : (unionP full full).2 = 0 ∧ (unionP full full).1.length = 4096 := by
  have hr := full_right
  have hl : (nrm (full ++ full)).length = 4096 := by
    rw [nrm_len_eq (M := full) (app_rt (rightC_rt hr) (rightC_rt hr)) (upTo_nodup (by decide) (by decide)) fun x => by rw [List.mem_append]; simp]
    exact upTo_len 1 4096
  have e : unionP full full = (nrm (full ++ full), 0) := by
    unfold unionP; rw [hr]; simp only [Bool.and_self, if_true]; rw [if_neg (by omega)]
  rw [e]; exact ⟨rfl, hl⟩

theorem union_more : (unionP full [4097]).2 = 5 := by
  have hr := full_right
  have hr2 : rightC [4097] = true := by decide
  have hl : (nrm (full ++ [4097])).length = 4097 := by
    rw [nrm_len_eq (M := upTo 1 4097) (app_rt (rightC_rt hr) (rightC_rt hr2)) (upTo_nodup (by decide) (by decide)) fun x => by rw [mem_upTo, List.mem_append, mem_full, List.mem_singleton]; omega]
    exact upTo_len 1 4097
  unfold unionP; rw [hr, hr2]; simp only [Bool.and_self, if_true]; rw [if_pos (by omega)]

theorem union_long (b : List Int) : (unionP (upTo 1 4097) b).2 = 20 := by
  unfold unionP; rw [upTo_right (by decide) (by decide)]; rfl

theorem resolve_full {b : List Int} (hb : rightC b = true) (h1 : -1 ∈ b) : resolveP full b 1 = unionP (withoutP full 1).1 (withoutP b (-1)).1 := by
  unfold resolveP
  rw [full_right, hb, show rt 1 = true from rfl, show full.contains 1 = true by rw [List.contains_iff_mem, mem_full]; omega, show b.contains (-1) = true by rw [List.contains_iff_mem]; exact h1]
  simp only [Bool.and_self, if_true]

theorem resolve_one : (resolveP full [-1, 2] 1).2 = 0 ∧ (resolveP full [-1, 2] 1).1.length = 4095 := by
  have hb : rightC [-1, 2] = true := by decide
  rw [resolve_full hb (by simp)]
  have h1 := right_without full_right 1
  have h2 := right_without hb (-1)
  have hl : (nrm ((withoutP full 1).1 ++ (withoutP [-1, 2] (-1)).1)).length = 4095 := by
    rw [nrm_len_eq (M := upTo 2 4095) (app_rt (rightC_rt h1) (rightC_rt h2)) (upTo_nodup (by decide) (by decide)) fun x => by
      rw [mem_upTo, List.mem_append, mem_without full_right rfl, mem_without hb rfl, mem_full]
      simp only [List.mem_cons, List.not_mem_nil, or_false]; omega]
    exact upTo_len 2 4095
  have e : unionP (withoutP full 1).1 (withoutP [-1, 2] (-1)).1 = (nrm ((withoutP full 1).1 ++ (withoutP [-1, 2] (-1)).1), 0) := by
    unfold unionP; rw [h1, h2]; simp only [Bool.and_self, if_true]; rw [if_neg (by omega)]
  rw [e]; exact ⟨rfl, hl⟩

theorem resolve_many : (resolveP full [-1, -2, -3] 1).2 = 5 := by
  have hb : rightC [-1, -2, -3] = true := by decide
  rw [resolve_full hb (by simp)]
  have h1 := right_without full_right 1
  have h2 := right_without hb (-1)
  have hl : (nrm ((withoutP full 1).1 ++ (withoutP [-1, -2, -3] (-1)).1)).length = 4097 := by
    rw [nrm_len_eq (M := upTo 2 4095 ++ [-2, -3]) (app_rt (rightC_rt h1) (rightC_rt h2)) ?_ fun x => by
      rw [List.mem_append, mem_upTo, List.mem_append, mem_without full_right rfl, mem_without hb rfl, mem_full]
      simp only [List.mem_cons, List.not_mem_nil, or_false]; omega]
    · rw [List.length_append, upTo_len]; rfl
    · rw [List.nodup_append]
      refine ⟨upTo_nodup (by decide) (by decide), by decide, fun x hx y hy e => ?_⟩
      rw [mem_upTo] at hx
      simp only [List.mem_cons, List.not_mem_nil, or_false] at hy
      omega
  unfold unionP; rw [h1, h2]; simp only [Bool.and_self, if_true]; rw [if_pos (by omega)]

end Go.Cl

/-
  Formulas, in plain Lean: no program in sight.
-/
set_option linter.unusedVariables false
namespace Go.Cl
open Go.Sx

def varsP (n : Int) : Bool := decide (n ≥ 0) && decide (n ≤ 1048576)
def varL (x : Int) : Int := if rt x then (if x < 0 then -x else x) else 0
def beyP (n x : Int) : Bool := !rt x || decide (varL x > n)
def checkGo (n : Int) : Nat → List (List Int) → Int × Int
  | _, [] => (-1, 0)
  | i, c :: cs => if rightC c then (if c.any (beyP n) then ((i : Int), 51) else checkGo n (i + 1) cs) else ((i : Int), 20)
def checkP (n : Int) (cs : List (List Int)) : Int × Int := if varsP n then (if cs.length > 262144 then (-1, 5) else checkGo n 0 cs) else (-1, 50)

/-- A right formula. -/
def GoodF (n : Int) (cs : List (List Int)) : Prop := varsP n = true ∧ cs.length ≤ 262144 ∧ ∀ c ∈ cs, rightC c = true ∧ ∀ x ∈ c, beyP n x = false

theorem checkGo_good {n : Int} : ∀ {cs : List (List Int)} {i : Nat}, (checkGo n i cs).2 = 0 ↔ ∀ c ∈ cs, rightC c = true ∧ ∀ x ∈ c, beyP n x = false
  | [], i => by simp [checkGo]
  | c :: cs, i => by
    unfold checkGo
    by_cases hr : rightC c = true
    · rw [if_pos hr]
      by_cases hb : c.any (beyP n) = true
      · rw [if_pos hb]
        constructor
        · intro h; simp at h
        · intro h
          obtain ⟨x, hx, hxb⟩ := List.any_eq_true.1 hb
          have := (h c (by simp)).2 x hx
          rw [this] at hxb; cases hxb
      · rw [if_neg hb, checkGo_good]
        have hb' : ∀ x ∈ c, beyP n x = false := by
          intro x hx
          cases h : beyP n x with
          | false => rfl
          | true => exact absurd (List.any_eq_true.2 ⟨x, hx, h⟩) hb
        constructor
        · intro h d hd
          rcases List.mem_cons.1 hd with rfl | hd
          · exact ⟨hr, hb'⟩
          · exact h d hd
        · intro h d hd; exact h d (by simp [hd])
    · rw [if_neg hr]
      constructor
      · intro h; simp at h
      · intro h; exact absurd (h c (by simp)).1 hr
theorem check_good {n : Int} {cs : List (List Int)} : (checkP n cs).2 = 0 ↔ GoodF n cs := by
  unfold checkP GoodF
  by_cases hv : varsP n = true
  · rw [if_pos hv]
    by_cases hl : cs.length > 262144
    · rw [if_pos hl]
      constructor
      · intro h; simp at h
      · intro h; omega
    · rw [if_neg hl, checkGo_good]
      exact ⟨fun h => ⟨hv, by omega, h⟩, fun h => h.2.2⟩
  · rw [if_neg hv]
    constructor
    · intro h; simp at h
    · intro h; exact absurd h.1 hv
theorem checkGo_ok {n : Int} : ∀ {cs : List (List Int)} {i : Nat}, (checkGo n i cs).2 = 0 → (checkGo n i cs).1 = -1
  | [], i, _ => rfl
  | c :: cs, i, h => by
    unfold checkGo at h ⊢
    split at h
    · split at h
      · simp at h
      · rw [if_pos (by assumption), if_neg (by assumption)]; exact checkGo_ok h
    · simp at h

end Go.Cl
