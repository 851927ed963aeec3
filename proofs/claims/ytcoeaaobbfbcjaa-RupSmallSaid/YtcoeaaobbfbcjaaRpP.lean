/-
  Assigned literals, unit propagation along hints, as functions of lists. No program here.
-/
import Derived.Test.YtcoeaaobbfbcjaaClC
import Derived.Test.YtcoeaaobbfbcjaaSxW3
set_option linter.unusedVariables false
set_option linter.unusedSimpArgs false
namespace Go.Rp
open Go Go.Cl

/-- 1 if a literal is assigned, -1 if its negation is. -/
def valA (A : List Int) (l : Int) : Int := if l ∈ A then 1 else if -l ∈ A then -1 else 0
/-- Assigned literals: right ones, none with its negation. -/
def okA (A : List Int) : Bool := A.all rt && A.all fun x => !A.contains (-x)

theorem okA_iff {A : List Int} : okA A = true ↔ (∀ x ∈ A, rt x = true) ∧ ∀ x ∈ A, -x ∉ A := by
  simp [okA]

def freeGo (A : List Int) (acc : List Int) : List Int → List Int
  | [] => acc
  | l :: r => if A.contains (-l) || acc.contains l then freeGo A acc r else freeGo A (acc ++ [l]) r
/-- What literals of a clause are free, each once. -/
def frees (A c : List Int) : List Int := freeGo A [] c
def kindOf : List Int → Int × Int
  | [] => (2, 0)
  | [x] => (3, x)
  | _ => (4, 0)
/-- What a clause is, and its literal, if it is unit: 1 holds, 2 fails, 3 unit, 4 open. -/
def lookP (A c : List Int) : Int × Int := if c.any A.contains then (1, 0) else kindOf (frees A c)

/-- The program's way to it. -/
def lookGo (A : List Int) : List Int → Int → Int → Int × Int
  | [], k, u => if k ≠ 3 then (k, 0) else (k, u)
  | l :: r, k, u => if valA A l > 0 then (1, 0) else if valA A l < 0 ∨ l = u then lookGo A r k u else if u = 0 then lookGo A r 3 l else lookGo A r 4 u

theorem lookGo_eq {A : List Int} : ∀ {c acc : List Int} {k u : Int}, (∀ x ∈ c, x ≠ 0) → (∀ x ∈ acc, x ≠ 0) →
    ((acc = [] ∧ k = 2 ∧ u = 0) ∨ (acc = [u] ∧ k = 3) ∨ (∃ y r, acc = u :: y :: r ∧ k = 4)) →
    lookGo A c k u = if c.any A.contains then (1, 0) else kindOf (freeGo A acc c)
  | [], acc, k, u, _, _, h => by
    simp only [lookGo, List.any_nil, freeGo, Bool.false_eq_true, if_false]
    rcases h with ⟨rfl, rfl, rfl⟩ | ⟨rfl, rfl⟩ | ⟨y, r, rfl, rfl⟩ <;> rfl
  | l :: c, acc, k, u, hc, ha, h => by
    have hl : l ≠ 0 := hc l (by simp)
    have hc' : ∀ x ∈ c, x ≠ 0 := fun x hx => hc x (by simp [hx])
    simp only [lookGo, freeGo]
    by_cases h1 : l ∈ A
    · have : valA A l = 1 := by simp [valA, h1]
      rw [this]; simp [h1]
    · have hcon : A.contains l = false := by simpa using h1
      have hany : (l :: c).any A.contains = c.any A.contains := by rw [List.any_cons, hcon, Bool.false_or]
      rw [hany]
      by_cases h2 : -l ∈ A
      · have : valA A l = -1 := by simp [valA, h1, h2]
        rw [this]
        have hc2 : A.contains (-l) = true := by simpa using h2
        rw [hc2]
        simp only [Bool.true_or, if_true]
        rw [if_neg (by decide), if_pos (by simp)]
        exact lookGo_eq hc' ha h
      · have : valA A l = 0 := by simp [valA, h1, h2]
        rw [this]
        have hc2 : A.contains (-l) = false := by simpa using h2
        rw [hc2, Bool.false_or, if_neg (by decide)]
        by_cases h3 : l ∈ acc
        · have hc3 : acc.contains l = true := by simpa using h3
          rw [hc3]
          simp only [if_true]
          rcases h with ⟨rfl, rfl, rfl⟩ | ⟨rfl, rfl⟩ | ⟨y, r, rfl, rfl⟩
          · simp at h3
          · simp at h3
            rw [if_pos (.inr h3)]
            exact lookGo_eq hc' ha (.inr (.inl ⟨rfl, rfl⟩))
          · have hu : u ≠ 0 := ha u (by simp)
            by_cases h4 : l = u
            · rw [if_pos (.inr h4)]
              exact lookGo_eq hc' ha (.inr (.inr ⟨y, r, rfl, rfl⟩))
            · rw [if_neg (by simp [h4]), if_neg hu]
              exact lookGo_eq hc' ha (.inr (.inr ⟨y, r, rfl, rfl⟩))
        · have hc3 : acc.contains l = false := by simpa using h3
          rw [hc3]
          simp only [Bool.false_eq_true, if_false]
          have ha' : ∀ x ∈ acc ++ [l], x ≠ 0 := fun x hx => by
            simp only [List.mem_append, List.mem_singleton] at hx
            rcases hx with hx | rfl
            · exact ha x hx
            · exact hl
          rcases h with ⟨rfl, rfl, rfl⟩ | ⟨rfl, rfl⟩ | ⟨y, r, rfl, rfl⟩
          · rw [if_neg (by simp [hl]), if_pos rfl]
            exact lookGo_eq hc' ha' (.inr (.inl ⟨rfl, rfl⟩))
          · have hu : u ≠ 0 := ha u (by simp)
            simp at h3
            rw [if_neg (by simp [h3]), if_neg hu]
            exact lookGo_eq hc' ha' (.inr (.inr ⟨l, [], rfl, rfl⟩))
          · have hu : u ≠ 0 := ha u (by simp)
            simp at h3
            rw [if_neg (by simp [h3.1]), if_neg hu]
            exact lookGo_eq hc' ha' (.inr (.inr ⟨y, r ++ [l], by simp, rfl⟩))
theorem lookGo_look {A c : List Int} (hc : ∀ x ∈ c, x ≠ 0) : lookGo A c 2 0 = lookP A c := lookGo_eq hc (by simp) (.inl ⟨rfl, rfl, rfl⟩)

/-- The literals behind the assigned ones, how many hints there were, whether there was a conflict, the error. -/
def followGo (A : List Int) : List (List Int) → List Int → Nat → List Int × Nat × Bool × Int
  | [], more, i => (more, i, false, 0)
  | c :: cs, more, i =>
    if (lookP A c).1 = 2 then (more, i + 1, true, 0)
    else if (lookP A c).1 = 3 then followGo (A ++ [(lookP A c).2]) cs (more ++ [(lookP A c).2]) (i + 1)
    else ([], i, false, 81)
def followP (A : List Int) (hints : List (List Int)) : List Int × Nat × Bool × Int := followGo A hints [] 0
def wrongP (l : List (List Int)) : Bool := !l.all rightC
/-- What Follow returns. -/
def followF (A : List Int) (hints : List (List Int)) : List Int × Nat × Bool × Int :=
  if wrongP hints then ([], 0, false, 20) else if !okA A then ([], 0, false, 80) else if hints.length > 65536 then ([], 0, false, 5)
  else if (followP A hints).2.2.2 ≠ 0 then ([], (followP A hints).2.1, false, (followP A hints).2.2.2)
  else (A ++ (followP A hints).1, (followP A hints).2.1, (followP A hints).2.2.1, 0)
/-- The negations of a clause's literals. -/
def negs (c : List Int) : List Int := (nrm c).map fun x => -x
def assumeP (c : List Int) : List Int × Bool × Int := if rightC c then (if alwaysC c then ([], true, 0) else (negs c, false, 0)) else ([], false, 20)
def checkP (c : List Int) (hints : List (List Int)) : List Int × Nat × Int :=
  if wrongP hints || !rightC c then ([], 0, 20) else if hints.length > 65536 then ([], 0, 5) else if alwaysC c then ([], 0, 0)
  else ((followP (negs c) hints).1, (followP (negs c) hints).2.1, if (followP (negs c) hints).2.2.2 = 0 ∧ (followP (negs c) hints).2.2.1 = false then 82 else (followP (negs c) hints).2.2.2)
/-- Which hints are needed: the last ones behind the units, and those whose literal is needed; N: what is needed. -/
def needGo (hints : List (List Int)) (units : List Int) : Nat → List Int → List Nat
  | 0, _ => []
  | i + 1, N => if i < units.length ∧ units.getD i 0 ∉ N then needGo hints units i N else needGo hints units i (N ++ (hints.getD i []).map fun x => -x) ++ [i]
def neededP (hints : List (List Int)) (units : List Int) : List Nat := needGo hints units hints.length []
def trimP (c : List Int) (hints : List (List Int)) : List Nat × Int :=
  if (checkP c hints).2.2 ≠ 0 ∨ (checkP c hints).2.1 = 0 then ([], (checkP c hints).2.2) else (neededP (hints.take (checkP c hints).2.1) (checkP c hints).1, 0)
/-- The next clause of a search. -/
def nextP (A : List Int) (l : List (List Int)) : Option (Nat × Int) :=
  match l.findIdx? (fun c => (lookP A c).1 == 2) with
  | some i => some (i, 0)
  | none => (l.findIdx? (fun c => (lookP A c).1 == 3)).map fun i => (i, (lookP A (l.getD i [])).2)
def findGo (l : List (List Int)) : Nat → List Int → List Nat → List Int → Option (List Nat × List Int)
  | 0, _, _, _ => none
  | n + 1, A, taken, units =>
    match nextP A l with
    | none => none
    | some (i, x) => if x = 0 then some (taken ++ [i], units) else findGo l n (A ++ [x]) (taken ++ [i]) (units ++ [x])
def fuelP (l : List (List Int)) : Nat := l.flatten.length + 1
def findP (c : List Int) (l : List (List Int)) : List Nat × Bool × Int :=
  if wrongP l || !rightC c then ([], false, 20) else if l.length > 65536 then ([], false, 5) else if alwaysC c then ([], true, 0)
  else match findGo l (fuelP l) (negs c) [] [] with
    | none => ([], false, 0)
    | some (taken, units) => ((neededP (taken.map fun i => l.getD i []) units).map fun k => taken.getD k 0, true, 0)

/-! ### what look tells -/

theorem mem_freeGo {A : List Int} {x : Int} : ∀ {c acc : List Int}, x ∈ freeGo A acc c ↔ x ∈ acc ∨ (x ∈ c ∧ -x ∉ A)
  | [], acc => by simp [freeGo]
  | l :: c, acc => by
    simp only [freeGo]
    split
    · rename_i h
      rw [mem_freeGo]
      simp only [Bool.or_eq_true, List.contains_iff_mem] at h
      constructor
      · rintro (h1 | ⟨h1, h2⟩)
        · exact .inl h1
        · exact .inr ⟨by simp [h1], h2⟩
      · rintro (h1 | ⟨h1, h2⟩)
        · exact .inl h1
        · rcases List.mem_cons.1 h1 with rfl | h1
          · exact .inl (h.resolve_left h2)
          · exact .inr ⟨h1, h2⟩
    · rename_i h
      rw [mem_freeGo]
      simp only [Bool.or_eq_true, List.contains_iff_mem, not_or] at h
      simp only [List.mem_append, List.mem_cons, List.not_mem_nil, or_false]
      constructor
      · rintro ((h1 | rfl) | ⟨h1, h2⟩)
        · exact .inl h1
        · exact .inr ⟨.inl rfl, h.1⟩
        · exact .inr ⟨.inr h1, h2⟩
      · rintro (h1 | ⟨rfl | h1, h2⟩)
        · exact .inl (.inl h1)
        · exact .inl (.inr rfl)
        · exact .inr ⟨h1, h2⟩
theorem nodup_freeGo {A : List Int} : ∀ {c acc : List Int}, acc.Nodup → (freeGo A acc c).Nodup
  | [], acc, h => h
  | l :: c, acc, h => by
    simp only [freeGo]
    split
    · exact nodup_freeGo h
    · rename_i hh
      simp only [Bool.or_eq_true, List.contains_iff_mem, not_or] at hh
      exact nodup_freeGo (List.nodup_append.2 ⟨h, by simp, fun a ha b hb => by simp at hb; subst hb; rintro rfl; exact hh.2 ha⟩)
theorem mem_frees {A c : List Int} {x : Int} : x ∈ frees A c ↔ x ∈ c ∧ -x ∉ A := by simp [frees, mem_freeGo]
theorem nodup_frees {A c : List Int} : (frees A c).Nodup := nodup_freeGo (by simp)

theorem kindOf_cases (L : List Int) : (kindOf L = (2, 0) ∧ L = []) ∨ (∃ x, kindOf L = (3, x) ∧ L = [x]) ∨ (kindOf L = (4, 0) ∧ ∃ x y r, L = x :: y :: r) := by
  match L with
  | [] => exact .inl ⟨rfl, rfl⟩
  | [x] => exact .inr (.inl ⟨x, rfl, rfl⟩)
  | x :: y :: r => exact .inr (.inr ⟨rfl, x, y, r, rfl⟩)

theorem look_fails {A c : List Int} : (lookP A c).1 = 2 ↔ (∀ x ∈ c, x ∉ A) ∧ ∀ x ∈ c, -x ∈ A := by
  unfold lookP
  split
  · rename_i h
    obtain ⟨x, hx, hA⟩ := List.any_eq_true.1 h
    simp only [List.contains_iff_mem] at hA
    exact ⟨fun h => by simp at h, fun h => absurd hA (h.1 x hx)⟩
  · rename_i h
    have h' : ∀ x ∈ c, x ∉ A := fun x hx hA => h (List.any_eq_true.2 ⟨x, hx, by simpa using hA⟩)
    rcases kindOf_cases (frees A c) with ⟨e, hL⟩ | ⟨x, e, hL⟩ | ⟨e, x, y, r, hL⟩ <;> rw [e]
    · refine ⟨fun _ => ⟨h', fun x hx => ?_⟩, fun _ => rfl⟩
      by_cases hn : -x ∈ A
      · exact hn
      · have := mem_frees.2 ⟨hx, hn⟩
        rw [hL] at this; cases this
    · have hx := (mem_frees (A := A) (c := c) (x := x)).1 (by rw [hL]; simp)
      exact ⟨fun h => by simp at h, fun h => absurd (h.2 x hx.1) hx.2⟩
    · have hx := (mem_frees (A := A) (c := c) (x := x)).1 (by rw [hL]; simp)
      exact ⟨fun h => by simp at h, fun h => absurd (h.2 x hx.1) hx.2⟩
theorem look_unit {A c : List Int} {x : Int} : lookP A c = (3, x) ↔ (∀ y ∈ c, y ∉ A) ∧ x ∈ c ∧ -x ∉ A ∧ ∀ y ∈ c, y = x ∨ -y ∈ A := by
  unfold lookP
  split
  · rename_i h
    obtain ⟨z, hz, hA⟩ := List.any_eq_true.1 h
    simp only [List.contains_iff_mem] at hA
    exact ⟨fun h => by simp at h, fun h => absurd hA (h.1 z hz)⟩
  · rename_i h
    have h' : ∀ x ∈ c, x ∉ A := fun x hx hA => h (List.any_eq_true.2 ⟨x, hx, by simpa using hA⟩)
    have key : frees A c = [x] ↔ (∀ y ∈ c, y ∉ A) ∧ x ∈ c ∧ -x ∉ A ∧ ∀ y ∈ c, y = x ∨ -y ∈ A := by
      constructor
      · intro e
        have hx := (mem_frees (A := A) (c := c) (x := x)).1 (by rw [e]; simp)
        refine ⟨h', hx.1, hx.2, fun y hy => ?_⟩
        by_cases hn : -y ∈ A
        · exact .inr hn
        · have := mem_frees.2 ⟨hy, hn⟩
          rw [e] at this; simp at this; exact .inl this
      · rintro ⟨_, h1, h2, h3⟩
        have nd := nodup_frees (A := A) (c := c)
        have m := (mem_frees (A := A) (c := c) (x := x)).2 ⟨h1, h2⟩
        have all : ∀ y ∈ frees A c, y = x := fun y hy => by
          obtain ⟨a, b⟩ := mem_frees.1 hy
          exact (h3 y a).resolve_right b
        match hL : frees A c with
        | [] => rw [hL] at m; cases m
        | [y] => rw [hL] at all; rw [all y (by simp)]
        | y :: z :: r =>
          rw [hL] at all nd
          have := all y (by simp); have := all z (by simp)
          subst_vars
          simp at nd
    rw [← key]
    rcases kindOf_cases (frees A c) with ⟨e, hL⟩ | ⟨z, e, hL⟩ | ⟨e, z, y, r, hL⟩ <;> rw [e, hL] <;> simp
theorem look_holds {A c : List Int} : (lookP A c).1 = 1 ↔ ∃ x ∈ c, x ∈ A := by
  unfold lookP
  split
  · rename_i h
    obtain ⟨z, hz, hA⟩ := List.any_eq_true.1 h
    exact ⟨fun _ => ⟨z, hz, by simpa using hA⟩, fun _ => rfl⟩
  · rename_i h
    have h' : ¬ ∃ x ∈ c, x ∈ A := fun ⟨x, hx, hA⟩ => h (List.any_eq_true.2 ⟨x, hx, by simpa using hA⟩)
    rcases kindOf_cases (frees A c) with ⟨e, hL⟩ | ⟨z, e, hL⟩ | ⟨e, z, y, r, hL⟩ <;> rw [e] <;> simp [h'] <;> exact fun x hx hA => h' ⟨x, hx, hA⟩
theorem look_kind (A c : List Int) : (lookP A c).1 = 1 ∨ (lookP A c).1 = 2 ∨ (lookP A c).1 = 3 ∨ (lookP A c).1 = 4 := by
  unfold lookP
  split
  · exact .inl rfl
  · rcases kindOf_cases (frees A c) with ⟨e, hL⟩ | ⟨z, e, hL⟩ | ⟨e, z, y, r, hL⟩ <;> rw [e] <;> simp
theorem look_snd {A c : List Int} (h : (lookP A c).1 ≠ 3) : (lookP A c).2 = 0 := by
  unfold lookP at h ⊢
  split
  · rfl
  · rename_i hh
    rw [if_neg hh] at h
    rcases kindOf_cases (frees A c) with ⟨e, hL⟩ | ⟨z, e, hL⟩ | ⟨e, z, y, r, hL⟩ <;> rw [e] at h ⊢
    exact absurd rfl h
theorem look_unit' {A c : List Int} (h : (lookP A c).1 = 3) : (∀ y ∈ c, y ∉ A) ∧ (lookP A c).2 ∈ c ∧ -(lookP A c).2 ∉ A ∧ ∀ y ∈ c, y = (lookP A c).2 ∨ -y ∈ A :=
  look_unit.1 (Prod.ext h rfl)

theorem okA_snoc {A : List Int} {x : Int} (h : okA A = true) (hx : rt x = true) (h1 : -x ∉ A) : okA (A ++ [x]) = true := by
  obtain ⟨a, b⟩ := okA_iff.1 h
  have x0 := rt_iff.1 hx
  refine okA_iff.2 ⟨fun y hy => ?_, fun y hy hn => ?_⟩
  · rcases List.mem_append.1 hy with hy | hy
    · exact a y hy
    · simp at hy; subst hy; exact hx
  · rcases List.mem_append.1 hy with hy | hy
    · rcases List.mem_append.1 hn with hn | hn
      · exact b y hy hn
      · simp at hn; exact h1 (by rw [← hn, Int.neg_neg]; exact hy)
    · simp at hy; subst hy
      rcases List.mem_append.1 hn with hn | hn
      · exact h1 hn
      · simp at hn; omega
theorem okA_prefix {A B : List Int} (h : okA (A ++ B) = true) : okA A = true := by
  obtain ⟨a, b⟩ := okA_iff.1 h
  exact okA_iff.2 ⟨fun y hy => a y (List.mem_append_left _ hy), fun y hy hn => b y (List.mem_append_left _ hy) (List.mem_append_left _ hn)⟩

end Go.Rp

/-
  The order of clauses; made clauses and models: the plain laws.
-/
set_option linter.unusedVariables false
namespace Go.Cl
open Go.Sx

theorem cmpI_vals (a b : Int) : cmpI a b = -1 ∨ cmpI a b = 0 ∨ cmpI a b = 1 := by unfold cmpI; split <;> (try split) <;> simp
theorem cmpI_anti (a b : Int) : cmpI a b = -cmpI b a := by unfold cmpI; split <;> (try split) <;> (try split) <;> omega
theorem cmpI_trans {a b c : Int} (h : cmpI a b ≤ 0) (k : cmpI b c ≤ 0) : cmpI a c ≤ 0 := by unfold cmpI at *; repeat' split at h <;> repeat' split at k <;> (try split) <;> (try split) <;> omega
theorem cmpLit_vals (a b : Int) : cmpLit a b = -1 ∨ cmpLit a b = 0 ∨ cmpLit a b = 1 := by
  unfold cmpLit; split <;> split <;> first | exact cmpI_vals _ _ | simp
theorem cmpLit_anti (a b : Int) : cmpLit a b = -cmpLit b a := by
  unfold cmpLit
  cases rt a <;> cases rt b <;> simp only [if_true, if_false, Bool.false_eq_true] <;> first | exact cmpI_anti _ _ | rfl

theorem cmpL_vals : ∀ xs ys : List Int, cmpL cmpLit xs ys = -1 ∨ cmpL cmpLit xs ys = 0 ∨ cmpL cmpLit xs ys = 1
  | [], [] => by simp [cmpL]
  | [], y :: ys => by simp [cmpL]
  | x :: xs, [] => by simp [cmpL]
  | x :: xs, y :: ys => by
    simp only [cmpL]
    split
    · exact cmpLit_vals x y
    · exact cmpL_vals xs ys
theorem cmpL_anti : ∀ xs ys : List Int, cmpL cmpLit xs ys = -cmpL cmpLit ys xs
  | [], [] => by simp [cmpL]
  | [], y :: ys => by simp [cmpL]
  | x :: xs, [] => by simp [cmpL]
  | x :: xs, y :: ys => by
    have e := cmpLit_anti x y
    simp only [cmpL]
    by_cases h : cmpLit x y = 0
    · have h2 : cmpLit y x = 0 := by omega
      rw [if_neg (by simp [h]), if_neg (by simp [h2])]; exact cmpL_anti xs ys
    · have h2 : ¬ cmpLit y x = 0 := by omega
      rw [if_pos h, if_pos h2]; exact e
theorem cmpL_trans : ∀ {xs ys zs : List Int}, cmpL cmpLit xs ys ≤ 0 → cmpL cmpLit ys zs ≤ 0 → cmpL cmpLit xs zs ≤ 0
  | [], _, [], _, _ => by simp [cmpL]
  | [], _, z :: zs, _, _ => by simp [cmpL]
  | x :: xs, [], _, h, _ => by simp [cmpL] at h
  | x :: xs, y :: ys, [], _, k => by simp [cmpL] at k
  | x :: xs, y :: ys, z :: zs, h, k => by
    simp only [cmpL] at h k ⊢
    by_cases h1 : cmpLit x y = 0
    · rw [if_neg (by simp [h1])] at h
      have exy := cmpLit_zero.1 h1
      subst exy
      by_cases h2 : cmpLit x z = 0
      · rw [if_neg (by simp [h2])] at k ⊢; exact cmpL_trans h k
      · rw [if_pos h2] at k ⊢; exact k
    · rw [if_pos h1] at h
      have hxy : ltL x y = true := by simp only [ltL, decide_eq_true_eq]; omega
      have hxz : ltL x z = true := by
        by_cases h2 : cmpLit y z = 0
        · rw [← cmpLit_zero.1 h2]; exact hxy
        · rw [if_pos h2] at k
          exact ltL_trans hxy (by simp only [ltL, decide_eq_true_eq]; omega)
      simp only [ltL, decide_eq_true_eq] at hxz
      rw [if_pos (by omega)]; omega

section
variable {a b c : List Int}

theorem compare_eq (ha : rightC a = true) (hb : rightC b = true) : compareP a b = if cmpI (nrm a).length (nrm b).length ≠ 0 then cmpI (nrm a).length (nrm b).length else cmpL cmpLit (nrm a) (nrm b) := by
  unfold compareP; rw [ha, hb]; rfl
theorem compare_vals (ha : rightC a = true) (hb : rightC b = true) : compareP a b = -1 ∨ compareP a b = 0 ∨ compareP a b = 1 := by
  rw [compare_eq ha hb]; split
  · exact cmpI_vals _ _
  · exact cmpL_vals _ _
theorem compare_anti (ha : rightC a = true) (hb : rightC b = true) : compareP a b = -compareP b a := by
  rw [compare_eq ha hb, compare_eq hb ha]
  have e := cmpI_anti (nrm a).length (nrm b).length
  by_cases h : cmpI (nrm a).length (nrm b).length = 0
  · rw [if_neg (by simp [h]), if_neg (by simp; omega)]; exact cmpL_anti _ _
  · rw [if_pos h, if_pos (by omega)]; exact e
theorem compare_trans (ha : rightC a = true) (hb : rightC b = true) (hc : rightC c = true) (h : compareP a b ≤ 0) (k : compareP b c ≤ 0) : compareP a c ≤ 0 := by
  rw [compare_eq ha hb] at h
  rw [compare_eq hb hc] at k
  rw [compare_eq ha hc]
  have z1 := @cmpI_zero (nrm a).length (nrm b).length
  have z2 := @cmpI_zero (nrm b).length (nrm c).length
  have z3 := @cmpI_zero (nrm a).length (nrm c).length
  have n1 := @cmpI_neg (nrm a).length (nrm b).length
  have n2 := @cmpI_neg (nrm b).length (nrm c).length
  have n3 := @cmpI_neg (nrm a).length (nrm c).length
  by_cases h1 : cmpI (nrm a).length (nrm b).length = 0
  · rw [if_neg (by simp [h1])] at h
    by_cases h2 : cmpI (nrm b).length (nrm c).length = 0
    · rw [if_neg (by simp [h2])] at k
      rw [if_neg (by simp; omega)]; exact cmpL_trans h k
    · rw [if_pos h2] at k
      rw [if_pos (by omega)]; omega
  · rw [if_pos h1] at h
    by_cases h2 : cmpI (nrm b).length (nrm c).length = 0
    · rw [if_pos (by omega)]; omega
    · rw [if_pos h2] at k
      rw [if_pos (by omega)]; omega
theorem compare_len (ha : rightC a = true) (hb : rightC b = true) (h : (nrm a).length < (nrm b).length) : compareP a b = -1 := by
  rw [compare_eq ha hb]
  have : cmpI (nrm a).length (nrm b).length = -1 := by unfold cmpI; rw [if_pos (by omega)]
  rw [this, if_pos (by decide)]
theorem nrm_nrm (ha : rightC a = true) : nrm (nrm a) = nrm a :=
  (nrm_eq (rightC_rt (right_nrm ha)) (strict_nrm ha) fun x => Iff.rfl).symm
theorem compare_nrm (ha : rightC a = true) (hb : rightC b = true) : compareP (nrm a) (nrm b) = compareP a b := by
  rw [compare_eq ha hb, compare_eq (right_nrm ha) (right_nrm hb), nrm_nrm ha, nrm_nrm hb]

/-- The same literals, the same normal form. -/
theorem nrm_congr (ha : ∀ x ∈ a, rt x = true) (hb : ∀ x ∈ b, rt x = true) (hm : ∀ x, x ∈ a ↔ x ∈ b) : nrm a = nrm b :=
  nrm_eq hb (nrm_spec ha).1 fun x => ((nrm_spec ha).2 x).trans (hm x)
theorem nrm_inj (ha : ∀ x ∈ a, rt x = true) (hb : ∀ x ∈ b, rt x = true) (e : nrm a = nrm b) (x : Int) : x ∈ a ↔ x ∈ b := by
  rw [← (nrm_spec ha).2 x, e, (nrm_spec hb).2 x]

theorem has_iff (ha : rightC a = true) {x : Int} : hasC a x = true ↔ x ∈ a := by unfold hasC; rw [ha]; simp
theorem has_eq (ha : rightC a = true) (x : Int) : hasC a x = a.contains x := by unfold hasC; rw [ha]; rfl
theorem within_iff (ha : rightC a = true) (hb : rightC b = true) : withinP a b = true ↔ ∀ x ∈ a, x ∈ b := by unfold withinP; rw [ha, hb]; simp
theorem same_iff (ha : rightC a = true) (hb : rightC b = true) : sameP a b = true ↔ ∀ x, x ∈ a ↔ x ∈ b := by
  unfold sameP; rw [ha, hb]
  simp only [Bool.and_self, Bool.true_and, decide_eq_true_eq]
  exact ⟨nrm_inj (rightC_rt ha) (rightC_rt hb), nrm_congr (rightC_rt ha) (rightC_rt hb)⟩
theorem holds_iff (ha : rightC a = true) : holdsP a b = true ↔ ∃ x ∈ a, x ∈ b := by unfold holdsP; rw [ha]; simp
theorem always_iff : alwaysC a = true ↔ ∃ x ∈ a, -x ∈ a := by unfold alwaysC; simp

/-- Two clauses whose literals together are not too many. -/
theorem union_eq (ha : rightC a = true) (hb : rightC b = true) (hl : a.length + b.length ≤ 4096) : unionP a b = (nrm (a ++ b), 0) := by
  have := nrm_length (a ++ b)
  rw [List.length_append] at this
  unfold unionP; rw [ha, hb]; simp only [Bool.and_self, if_true]; rw [if_neg (by omega)]
theorem right_app (ha : rightC a = true) (hb : rightC b = true) (hl : a.length + b.length ≤ 4096) : rightC (a ++ b) = true := by
  simp only [rightC, Bool.and_eq_true, List.all_eq_true, decide_eq_true_eq]
  exact ⟨by simpa using hl, fun x hx => (List.mem_append.1 hx).elim (rightC_rt ha x) (rightC_rt hb x)⟩
theorem without_eq (ha : rightC a = true) {l : Int} (hl : rt l = true) : withoutP a l = ((nrm a).filter (fun x => !(x == l)), 0) := by
  unfold withoutP; rw [ha, hl]; rfl
theorem mem_without (ha : rightC a = true) {l x : Int} (hl : rt l = true) : x ∈ (withoutP a l).1 ↔ x ∈ a ∧ x ≠ l := by
  rw [without_eq ha hl]
  simp only [List.mem_filter, Bool.not_eq_true', beq_eq_false_iff_ne, ne_eq, mem_nrm ha]
end

end Go.Cl
