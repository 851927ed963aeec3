/-
  Steps: hints by their IDs, candidates, groups, what Check answers, and that what holds is kept. No program here.
-/
import Derived.Test.YtjkgncibelojnaaGreatRpS
set_option linter.unusedVariables false
set_option linter.unusedSimpArgs false
namespace Go.Rt
open Go Go.Cl Go.Rp
variable {l : List Ent} {A c : List Int} {p : Int}
def lookE (l : List Ent) (id : Int) : Option (List Int) := (l.find? fun x => x.1 == id).map (·.2)
theorem lookE_mem {id : Int} {d : List Int} (h : lookE l id = some d) : (id, d) ∈ l := by
  unfold lookE at h
  rw [Option.map_eq_some_iff] at h
  obtain ⟨x, hx, rfl⟩ := h
  have h1 := List.mem_of_find?_eq_some hx
  have h2 := List.find?_some hx
  simp at h2
  subst h2; exact h1
def followR (l : List Ent) : List Int → List Int → List Int × Bool × Int × Int
  | A, [] => (A, false, 0, 0)
  | A, id :: ids => match lookE l id with
    | none => ([], false, id, 91)
    | some d => if (lookP A d).1 = 2 then (A, true, 0, 0) else if (lookP A d).1 = 3 then followR l (A ++ [(lookP A d).2]) ids else ([], false, id, 81)
def isCand (p : Int) (x : Ent) : Bool := x.2.contains (-p) && !alwaysC x.2
def candIDs (l : List Ent) (p : Int) : List Int := (l.filter (isCand p)).map (·.1)
def restP (p : Int) (A d : List Int) : List Int × Bool :=
  if d.any (fun x => decide (x ≠ -p) && A.contains x) then ([], false) else ((d.filter fun x => decide (x ≠ -p)).map (fun x => -x), true)
def scanG (want : List Int) : Int → List Grp → Int × Int
  | _, [] => (0, 0)
  | last, g :: gs => if g.1 ∉ want ∨ g.1 ≤ last then (g.1, 92) else scanG want g.1 gs
def groupsP (l : List Ent) (p : Int) (gs : List Grp) : Int × Int :=
  match (candIDs l p).find? (fun id => !(gs.map (·.1)).contains id) with
  | some id => (id, 92)
  | none => scanG (candIDs l p) 0 gs
def checkG (l : List Ent) (p : Int) (A : List Int) : List Grp → Int × Int
  | [] => (0, 0)
  | g :: gs => match lookE l g.1 with
    | none => checkG l p A gs
    | some d =>
      if (restP p A d).2 = false then checkG l p A gs
      else if (followR l (A ++ (restP p A d).1) g.2).2.2.2 ≠ 0 then ((followR l (A ++ (restP p A d).1) g.2).2.2.1, (followR l (A ++ (restP p A d).1) g.2).2.2.2)
      else if (followR l (A ++ (restP p A d).1) g.2).2.1 = false then (g.1, 93)
      else checkG l p A gs
def checkS (l : List Ent) (s : Stp) : Int × Int × Int :=
  if !rightE l then (0, 0, 90) else if !rightC s.lits then (0, 0, 20) else if alwaysC s.lits then (1, 0, 0)
  else if (followR l (negs s.lits) s.hints).2.2.2 ≠ 0 then (0, (followR l (negs s.lits) s.hints).2.2.1, (followR l (negs s.lits) s.hints).2.2.2)
  else if (followR l (negs s.lits) s.hints).2.1 = true then (1, 0, 0)
  else match s.lits with
    | [] => (0, 0, 82)
    | p :: _ =>
      if (groupsP l p s.groups).2 ≠ 0 then (0, (groupsP l p s.groups).1, (groupsP l p s.groups).2)
      else if (checkG l p (followR l (negs s.lits) s.hints).1 s.groups).2 ≠ 0 then (0, (checkG l p (followR l (negs s.lits) s.hints).1 s.groups).1, (checkG l p (followR l (negs s.lits) s.hints).1 s.groups).2)
      else (2, 0, 0)
theorem followR_ok : ∀ {ids A : List Int}, okA A = true → (∀ x ∈ l, ∀ y ∈ x.2, rt y = true) → okA (followR l A ids).1 = true
  | [], A, h, _ => h
  | id :: ids, A, h, hr => by
    simp only [followR]
    split
    · rfl
    · rename_i d hd
      split
      · exact h
      · split
        · rename_i h3
          have hu := look_unit' h3
          exact followR_ok (okA_snoc h (hr _ (lookE_mem hd) _ hu.2.1) hu.2.2.1) hr
        · rfl
theorem rightE_rt (h : rightE l = true) : ∀ x ∈ l, rightC x.2 = true := by
  unfold rightE at h
  rw [Bool.and_eq_true] at h
  have key : ∀ {l : List Ent} {last : Int}, rightGo last l = true → ∀ x ∈ l, rightC x.2 = true := by
    intro l
    induction l with
    | nil => intro _ _ x hx; cases hx
    | cons y l ih =>
      intro last h x hx
      simp only [rightGo, Bool.and_eq_true] at h
      rcases List.mem_cons.1 hx with rfl | hx
      · exact h.1.2
      · exact ih h.2 x hx
  exact key h.1
end Go.Rt
namespace Go.Rt
open Go Go.Cl Go.Rp
variable {l : List Ent} {A B c : List Int} {p : Int}
def named (l : List Ent) (at_ : List Nat) : List Int := at_.map fun i => (l.getD i (0, [])).1
def Uniq (l : List Ent) : Prop := ∀ i, i < l.length → lookE l (l.getD i (0, [])).1 = some (l.getD i (0, [])).2
theorem uniq_of_right (h : rightE l = true) : Uniq l := by
  unfold rightE at h
  rw [Bool.and_eq_true] at h
  have key : ∀ {l : List Ent} {last : Int}, rightGo last l = true → (∀ x ∈ l, last < x.1) ∧ l.Pairwise (fun x y => x.1 < y.1) := by
    intro l
    induction l with
    | nil => intro _ _; simp
    | cons y l ih =>
      intro last h
      simp only [rightGo, Bool.and_eq_true, decide_eq_true_eq] at h
      obtain ⟨a, b⟩ := ih h.2
      refine ⟨fun x hx => ?_, List.pairwise_cons.2 ⟨a, b⟩⟩
      rcases List.mem_cons.1 hx with rfl | hx
      · exact h.1.1.1
      · have := a x hx; omega
  have pw := (key h.1).2
  intro i hi
  rw [getD_lt hi]
  unfold lookE
  rw [Option.map_eq_some_iff]
  refine ⟨l[i], ?_, rfl⟩
  rw [List.find?_eq_some_iff_getElem]
  refine ⟨by simp, i, hi, rfl, fun j hj => ?_⟩
  have := List.pairwise_iff_getElem.1 pw j i (by omega) hi hj
  simp only [Bool.not_eq_true', beq_eq_false_iff_ne]
  omega
def propGo (l : List Ent) : Nat → List Int → List Int → List Int × List Int
  | 0, A, ids => (A, ids)
  | n + 1, A, ids => match l.find? (fun x => (lookP A x.2).1 == 3) with
    | none => (A, ids)
    | some x => propGo l n (A ++ [(lookP A x.2).2]) (ids ++ [x.1])
end Go.Rt
