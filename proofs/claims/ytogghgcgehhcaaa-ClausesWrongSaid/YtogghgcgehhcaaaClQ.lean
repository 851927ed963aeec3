/-
  What the functions over clauses answer, in plain Lean.
-/
import Derived.Test.YtogghgcgehhcaaaClP
import Derived.Test.YtogghgcgehhcaaaSxW
set_option linter.unusedVariables false
namespace Go.Cl
open Go.Sx

def alwaysC (c : List Int) : Bool := c.any fun x => c.contains (-x)
def hasC (c : List Int) (l : Int) : Bool := rightC c && c.contains l
def normP (c : List Int) : List Int × Bool × Int := if rightC c then (nrm c, alwaysC c, 0) else ([], false, 20)
def withoutP (c : List Int) (l : Int) : List Int × Int := if rightC c then (if rt l then ((nrm c).filter (fun x => !(x == l)), 0) else ([], 10)) else ([], 20)
def unionP (a b : List Int) : List Int × Int := if rightC a && rightC b then (if (nrm (a ++ b)).length > 4096 then ([], 5) else (nrm (a ++ b), 0)) else ([], 20)
def clashesP (a b : List Int) : List Int × Int := if rightC a && rightC b then ((nrm a).filter (fun l => b.contains (-l)), 0) else ([], 20)
def compareP (a b : List Int) : Int := if rightC a && rightC b then (if cmpI (nrm a).length (nrm b).length ≠ 0 then cmpI (nrm a).length (nrm b).length else cmpL cmpLit (nrm a) (nrm b)) else 0
def withinP (a b : List Int) : Bool := rightC a && rightC b && a.all (fun x => b.contains x)
def sameP (a b : List Int) : Bool := rightC a && rightC b && decide (nrm a = nrm b)
def holdsP (c l : List Int) : Bool := rightC c && c.any (fun x => l.contains x)
def resolveP (a b : List Int) (l : Int) : List Int × Int :=
  if rightC a && rightC b then (if rt l then (if a.contains l && b.contains (-l) then unionP (withoutP a l).1 (withoutP b (-l)).1 else ([], 21)) else ([], 10)) else ([], 20)

theorem rt_neg {x : Int} (h : rt x = true) : rt (-x) = true := by have := rt_iff.1 h; exact rt_iff.2 (by omega)
theorem negL_rt {x : Int} (h : rt x = true) : negL x = -x := by simp [negL, h]

theorem mem_nrm {c : List Int} (h : rightC c = true) {x : Int} : x ∈ nrm c ↔ x ∈ c := (nrm_spec (rightC_rt h)).2 x
theorem strict_nrm {c : List Int} (h : rightC c = true) : Strict (nrm c) := (nrm_spec (rightC_rt h)).1
theorem right_nrm {c : List Int} (h : rightC c = true) : rightC (nrm c) = true := by
  simp only [rightC, Bool.and_eq_true, List.all_eq_true, decide_eq_true_eq]
  exact ⟨Nat.le_trans (nrm_length c) (rightC_len h), fun x hx => rightC_rt h x ((mem_nrm h).1 hx)⟩
theorem right_sub {c d : List Int} (h : rightC c = true) (hl : d.length ≤ c.length) (hm : ∀ x ∈ d, x ∈ c) : rightC d = true := by
  simp only [rightC, Bool.and_eq_true, List.all_eq_true, decide_eq_true_eq]
  exact ⟨Nat.le_trans hl (rightC_len h), fun x hx => rightC_rt h x (hm x hx)⟩

/-- Two beside each other, of which the second one is the first one's negation. -/
def alwScan (last : Int) : List Int → Bool
  | [] => false
  | x :: xs => (decide (last ≠ 0) && decide (x = negL last)) || alwScan x xs

theorem alwScan_mem : ∀ {L : List Int} {last : Int}, alwScan last L = true → (∀ x ∈ L, rt x = true) → (last = 0 ∨ rt last = true) → ∃ x, (x = last ∨ x ∈ L) ∧ x ≠ 0 ∧ -x ∈ L
  | x :: xs, last, h, hr, hl => by
    simp only [alwScan, Bool.or_eq_true, Bool.and_eq_true, decide_eq_true_eq] at h
    rcases h with ⟨h0, h1⟩ | h
    · rcases hl with hl | hl
      · exact absurd hl h0
      · exact ⟨last, .inl rfl, h0, by rw [h1, negL_rt hl]; simp⟩
    · obtain ⟨y, hy, h0, hn⟩ := alwScan_mem h (fun z hz => hr z (by simp [hz])) (.inr (hr x (by simp)))
      exact ⟨y, .inr (by rcases hy with rfl | hy <;> simp [*]), h0, by simp [hn]⟩

theorem alwScan_app : ∀ (A : List Int) (last v : Int) (B : List Int), rt v = true → alwScan last (A ++ v :: negL v :: B) = true
  | [], last, v, B, h => by
    have : v ≠ 0 := (rt_iff.1 h).1
    simp [alwScan, this]
  | a :: A, last, v, B, h => by
    simp only [List.cons_append, alwScan, Bool.or_eq_true]
    exact .inr (alwScan_app A a v B h)

theorem alwScan_eq {c : List Int} (h : rightC c = true) : alwScan 0 (nrm c) = alwaysC c := by
  have hs := strict_nrm h
  have hr : ∀ x ∈ nrm c, rt x = true := rightC_rt (right_nrm h)
  cases ha : alwaysC c with
  | true =>
    simp only [alwaysC, List.any_eq_true, List.contains_iff_mem] at ha
    obtain ⟨x, hx, hnx⟩ := ha
    -- the one that is not negated
    obtain ⟨v, hv0, hv, hnv⟩ : ∃ v : Int, 0 < v ∧ v ∈ nrm c ∧ -v ∈ nrm c := by
      have := rt_iff.1 (rightC_rt h x hx)
      by_cases hp : 0 < x
      · exact ⟨x, hp, (mem_nrm h).2 hx, (mem_nrm h).2 hnx⟩
      · exact ⟨-x, by omega, (mem_nrm h).2 hnx, by rw [Int.neg_neg]; exact (mem_nrm h).2 hx⟩
    have hrv := hr v hv
    have hrn := hr _ hnv
    obtain ⟨A, B, e⟩ := List.append_of_mem hv
    rw [e] at hs hnv ⊢
    have hs2 := (List.pairwise_append.1 hs).2.1
    rw [List.pairwise_cons] at hs2
    have hlt : ltL v (-v) = true := by rw [ltL_rt hrv hrn]; unfold ix; split <;> split <;> omega
    have hB : -v ∈ B := by
      rcases List.mem_append.1 hnv with k | k
      · have := (List.pairwise_append.1 hs).2.2 _ k v (by simp)
        rw [ltL_asymm hlt] at this; cases this
      · rcases List.mem_cons.1 k with k | k
        · omega
        · exact k
    cases B with
    | nil => cases hB
    | cons y B =>
      have hy : y = -v := by
        rcases List.mem_cons.1 hB with k | k
        · exact k.symm
        · have h1 := hs2.1 y (by simp)
          have h2 := (List.pairwise_cons.1 hs2.2).1 _ k
          have hry : rt y = true := hr y (by rw [e]; simp)
          rw [ltL_rt hrv hry] at h1
          rw [ltL_rt hry hrn] at h2
          unfold ix at h1 h2
          split at h1 <;> split at h1 <;> split at h2 <;> (try split at h2) <;> omega
      subst hy
      have := alwScan_app A 0 v B hrv
      rw [negL_rt hrv] at this; exact this
  | false =>
    cases hb : alwScan 0 (nrm c) with
    | false => rfl
    | true =>
      obtain ⟨x, hx, h0, hn⟩ := alwScan_mem hb hr (.inl rfl)
      have : alwaysC c = true := by
        simp only [alwaysC, List.any_eq_true, List.contains_iff_mem]
        rcases hx with rfl | hx
        · exact absurd rfl h0
        · exact ⟨x, (mem_nrm h).1 hx, (mem_nrm h).1 hn⟩
      rw [this] at ha; cases ha

theorem right_without {c : List Int} (h : rightC c = true) (l : Int) : rightC (withoutP c l).1 = true := by
  unfold withoutP
  rw [if_pos h]
  split
  · exact right_sub (right_nrm h) (List.length_filter_le _ _) (fun x hx => (List.mem_filter.1 hx).1)
  · rfl

end Go.Cl
