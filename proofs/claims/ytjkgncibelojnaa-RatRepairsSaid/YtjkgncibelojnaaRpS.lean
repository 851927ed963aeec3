/-
  The laws of rup that do not use the reference, as statements of lists. No program here.
-/
import Derived.Test.YtjkgncibelojnaaRpR
set_option linter.unusedVariables false
set_option linter.unusedSimpArgs false
namespace Go.Rp
open Go Go.Cl

variable {c : List Int} {hs ds : List (List Int)}

variable {A : List Int}
theorem Run.nodup {A0 : List Int} {l : List (List Int)} {taken : List Nat} {units : List Int} (r : Run A0 l taken units) {i : Nat} (hi : i < l.length) (hf : (lookP (A0 ++ units) l[i]).1 = 2) : (taken ++ [i]).Nodup := by
  have hlen := r.len
  have un := fun k (hk : k < units.length) => look_unit.1 (r.un k hk)
  rw [List.nodup_append]
  refine ⟨?_, by simp, ?_⟩
  · rw [List.Nodup, List.pairwise_iff_getElem]
    intro p q hp hq hpq e
    have h1 := (un p (by omega)).2.1
    have h2 := (un q (by omega)).1
    rw [getD_lt hp, e] at h1
    rw [getD_lt hq] at h2
    refine h2 _ h1 (List.mem_append_right _ ?_)
    rw [getD_lt (by omega)]
    exact List.mem_take_iff_getElem.2 ⟨p, by omega, rfl⟩
  · rintro a ha b hb e
    simp at hb; subst hb; subst e
    obtain ⟨p, hp, e⟩ := List.getElem_of_mem ha
    have h1 := (un p (by omega)).2.1
    rw [getD_lt hp, e, getD_lt hi] at h1
    refine (look_fails.1 hf).1 _ h1 (List.mem_append_right _ ?_)
    rw [getD_lt (by omega)]; exact List.getElem_mem _

structure FoundOk (c : List Int) (l : List (List Int)) (F : List Nat) : Prop where
  lt : ∀ k ∈ F, k < l.length
  nodup : F.Nodup
  chk : (checkP c (F.map fun k => l.getD k [])).2.2 = 0
  num : (checkP c (F.map fun k => l.getD k [])).2.1 = F.length
  trim : trimP c (F.map fun k => l.getD k []) = (List.range F.length, 0)
  less : ∀ i, i < F.length → (checkP c ((F.map fun k => l.getD k []).eraseIdx i)).2.2 = 81 ∨ (checkP c ((F.map fun k => l.getD k []).eraseIdx i)).2.2 = 82

end Go.Rp

set_option linter.unusedVariables false
set_option linter.unusedSimpArgs false
namespace Go.Rt
open Go Go.Cl Go.Rp

abbrev Ent := Int × List Int
abbrev Grp := Int × List Int
structure Stp where
  lits : List Int
  hints : List Int
  groups : List Grp

def maxID : Int := 1073741824
def rightGo (last : Int) : List Ent → Bool
  | [] => true
  | x :: l => decide (last < x.1) && decide (x.1 ≤ maxID) && rightC x.2 && rightGo x.1 l
def rightE (l : List Ent) : Bool := rightGo 0 l && decide (l.length ≤ 1048576)
def putHint (out : List Int) (gs : List Grp) (n : Int) : List Int × List Grp :=
  match gs.getLast? with
  | none => (out ++ [n], [])
  | some g => (out, gs.dropLast ++ [(g.1, g.2 ++ [n])])
def splitGo : List Int → List Int → List Grp → Option (List Int × List Grp)
  | [], out, gs => some (out, gs)
  | n :: l, out, gs =>
    if n = 0 ∨ n > maxID ∨ n < -maxID then none
    else if n < 0 then splitGo l out (gs ++ [(-n, [])])
    else splitGo l (putHint out gs n).1 (putHint out gs n).2
def splitP (l : List Int) : List Int × List Grp × Int := match splitGo l [] [] with
  | none => ([], [], 91)
  | some (a, b) => (a, b, 0)
def fixP (p : Int) (A : List Int) : List Int := if -p ∈ A then A.map (fun x => if x = -p then p else x) else A ++ [p]
def repairP (c A : List Int) : List Int × Int :=
  if !rightC c then ([], 20) else if !okA A then ([], 80)
  else match c with
  | [] => ([], 82)
  | p :: _ => if (lookP A c).1 = 1 then (A, 0) else (fixP p A, 0)

theorem mem_fix {p : Int} {A : List Int} (hp : p ≠ 0) {x : Int} : x ∈ fixP p A ↔ x = p ∨ (x ∈ A ∧ x ≠ -p) := by
  unfold fixP
  split
  · rename_i h
    rw [List.mem_map]
    constructor
    · rintro ⟨y, hy, e⟩
      split at e
      · exact .inl e.symm
      · rename_i hne
        subst e; exact .inr ⟨hy, hne⟩
    · rintro (rfl | ⟨h1, h2⟩)
      · exact ⟨-x, h, by simp⟩
      · exact ⟨x, h1, by rw [if_neg h2]⟩
  · rename_i h
    simp only [List.mem_append, List.mem_singleton]
    constructor
    · rintro (h1 | rfl)
      · exact .inr ⟨h1, fun e => h (e ▸ h1)⟩
      · exact .inl rfl
    · rintro (rfl | ⟨h1, _⟩)
      · exact .inr rfl
      · exact .inl h1
theorem okA_fix {p : Int} {A : List Int} (h : okA A = true) (hp : rt p = true) : okA (fixP p A) = true := by
  have p0 := (rt_iff.1 hp).1
  obtain ⟨a, b⟩ := okA_iff.1 h
  refine okA_iff.2 ⟨fun x hx => ?_, fun x hx hn => ?_⟩
  · rcases (mem_fix p0).1 hx with rfl | ⟨h1, _⟩
    · exact hp
    · exact a x h1
  · rcases (mem_fix p0).1 hx with rfl | ⟨h1, h2⟩
    · rcases (mem_fix p0).1 hn with e | ⟨_, h4⟩
      · omega
      · exact h4 rfl
    · rcases (mem_fix p0).1 hn with e | ⟨h3, _⟩
      · exact h2 (by omega)
      · exact b x h1 h3
theorem fix_len (p : Int) (A : List Int) : (-p ∈ A ∧ (fixP p A).length = A.length) ∨ (-p ∉ A ∧ (fixP p A).length = A.length + 1) := by
  unfold fixP
  by_cases h : -p ∈ A
  · rw [if_pos h]; exact .inl ⟨h, by simp⟩
  · rw [if_neg h]; exact .inr ⟨h, by simp⟩
theorem fix_at {p : Int} {A : List Int} {i : Nat} (hi : i < (fixP p A).length) : if h : i < A.length then (fixP p A)[i] = A[i] ∨ ((fixP p A)[i] = p ∧ A[i] = -p) else (fixP p A)[i] = p := by
  unfold fixP at hi ⊢
  by_cases hm : -p ∈ A
  · simp only [if_pos hm] at hi ⊢
    have h : i < A.length := by simpa using hi
    rw [dif_pos h]
    simp only [List.getElem_map]
    by_cases he : A[i] = -p
    · rw [if_pos he]; exact .inr ⟨rfl, he⟩
    · rw [if_neg he]; exact .inl rfl
  · simp only [if_neg hm] at hi ⊢
    by_cases h : i < A.length
    · rw [dif_pos h, List.getElem_append_left h]; exact .inl rfl
    · rw [dif_neg h, List.getElem_append_right (by omega)]
      simp
theorem repair_holds {p : Int} {c A : List Int} (hp : rt p = true) : (lookP (fixP p A) (p :: c)).1 = 1 :=
  look_holds.2 ⟨p, by simp, (mem_fix (rt_iff.1 hp).1).2 (.inl rfl)⟩
end Go.Rt
