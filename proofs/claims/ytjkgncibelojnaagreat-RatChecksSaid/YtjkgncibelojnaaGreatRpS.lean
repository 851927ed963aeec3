/-
  The laws of rup that do not use the reference, as statements of lists. No program here.
-/
import Derived.Test.YtjkgncibelojnaaGreatRpR
set_option linter.unusedVariables false
set_option linter.unusedSimpArgs false
namespace Go.Rp
open Go Go.Cl

variable {c : List Int} {hs ds : List (List Int)}

variable {A : List Int}
theorem Run.nodup {A0 : List Int} {l : List (List Int)} {taken : List Nat} {units : List Int} (r : Run A0 l taken units) {i : Nat} (hi : i < l.length) (hf : (lookP (A0 ++ units) l[i]).1 = 2) : (taken ++ [i]).Nodup := by
  have hlen := r.len
  have un := fun k (hk : k < units.length) => look_unit.1 (r.un k hk)
  rw [List.nodup_append]
  refine ⟨?_, by simp, ?_⟩
  · rw [List.Nodup, List.pairwise_iff_getElem]
    intro p q hp hq hpq e
    have h1 := (un p (by omega)).2.1
    have h2 := (un q (by omega)).1
    rw [getD_lt hp, e] at h1
    rw [getD_lt hq] at h2
    refine h2 _ h1 (List.mem_append_right _ ?_)
    rw [getD_lt (by omega)]
    exact List.mem_take_iff_getElem.2 ⟨p, by omega, rfl⟩
  · rintro a ha b hb e
    simp at hb; subst hb; subst e
    obtain ⟨p, hp, e⟩ := List.getElem_of_mem ha
    have h1 := (un p (by omega)).2.1
    rw [getD_lt hp, e, getD_lt hi] at h1
    refine (look_fails.1 hf).1 _ h1 (List.mem_append_right _ ?_)
    rw [getD_lt (by omega)]; exact List.getElem_mem _

structure FoundOk (c : List Int) (l : List (List Int)) (F : List Nat) : Prop where
  lt : ∀ k ∈ F, k < l.length
  nodup : F.Nodup
  chk : (checkP c (F.map fun k => l.getD k [])).2.2 = 0
  num : (checkP c (F.map fun k => l.getD k [])).2.1 = F.length
  trim : trimP c (F.map fun k => l.getD k []) = (List.range F.length, 0)
  less : ∀ i, i < F.length → (checkP c ((F.map fun k => l.getD k []).eraseIdx i)).2.2 = 81 ∨ (checkP c ((F.map fun k => l.getD k []).eraseIdx i)).2.2 = 82

end Go.Rp

set_option linter.unusedVariables false
set_option linter.unusedSimpArgs false
namespace Go.Rt
open Go Go.Cl Go.Rp

abbrev Ent := Int × List Int
abbrev Grp := Int × List Int
structure Stp where
  lits : List Int
  hints : List Int
  groups : List Grp

def maxID : Int := 1073741824
def rightGo (last : Int) : List Ent → Bool
  | [] => true
  | x :: l => decide (last < x.1) && decide (x.1 ≤ maxID) && rightC x.2 && rightGo x.1 l
def rightE (l : List Ent) : Bool := rightGo 0 l && decide (l.length ≤ 1048576)
def findE (l : List Ent) (id : Int) : Option Nat := l.findIdx? fun x => x.1 == id

def putHint (out : List Int) (gs : List Grp) (n : Int) : List Int × List Grp :=
  match gs.getLast? with
  | none => (out ++ [n], [])
  | some g => (out, gs.dropLast ++ [(g.1, g.2 ++ [n])])
def splitGo : List Int → List Int → List Grp → Option (List Int × List Grp)
  | [], out, gs => some (out, gs)
  | n :: l, out, gs =>
    if n = 0 ∨ n > maxID ∨ n < -maxID then none
    else if n < 0 then splitGo l out (gs ++ [(-n, [])])
    else splitGo l (putHint out gs n).1 (putHint out gs n).2
def splitP (l : List Int) : List Int × List Grp × Int := match splitGo l [] [] with
  | none => ([], [], 91)
  | some (a, b) => (a, b, 0)
def fixP (p : Int) (A : List Int) : List Int := if -p ∈ A then A.map (fun x => if x = -p then p else x) else A ++ [p]
def repairP (c A : List Int) : List Int × Int :=
  if !rightC c then ([], 20) else if !okA A then ([], 80)
  else match c with
  | [] => ([], 82)
  | p :: _ => if (lookP A c).1 = 1 then (A, 0) else (fixP p A, 0)

end Go.Rt
