/-
  Assigned literals, unit propagation along hints, as functions of lists. No program here.
-/
import Derived.Test.YtjkgncibelojnaaGreatClA
import Derived.Test.YtjkgncibelojnaaGreatSxW3
set_option linter.unusedVariables false
set_option linter.unusedSimpArgs false
namespace Go.Rp
open Go Go.Cl
def valA (A : List Int) (l : Int) : Int := if l ∈ A then 1 else if -l ∈ A then -1 else 0
def okA (A : List Int) : Bool := A.all rt && A.all fun x => !A.contains (-x)
theorem okA_iff {A : List Int} : okA A = true ↔ (∀ x ∈ A, rt x = true) ∧ ∀ x ∈ A, -x ∉ A := by
  simp [okA]
def freeGo (A : List Int) (acc : List Int) : List Int → List Int
  | [] => acc
  | l :: r => if A.contains (-l) || acc.contains l then freeGo A acc r else freeGo A (acc ++ [l]) r
def frees (A c : List Int) : List Int := freeGo A [] c
def kindOf : List Int → Int × Int
  | [] => (2, 0)
  | [x] => (3, x)
  | _ => (4, 0)
def lookP (A c : List Int) : Int × Int := if c.any A.contains then (1, 0) else kindOf (frees A c)
def lookGo (A : List Int) : List Int → Int → Int → Int × Int
  | [], k, u => if k ≠ 3 then (k, 0) else (k, u)
  | l :: r, k, u => if valA A l > 0 then (1, 0) else if valA A l < 0 ∨ l = u then lookGo A r k u else if u = 0 then lookGo A r 3 l else lookGo A r 4 u
theorem lookGo_eq {A : List Int} : ∀ {c acc : List Int} {k u : Int}, (∀ x ∈ c, x ≠ 0) → (∀ x ∈ acc, x ≠ 0) →
    ((acc = [] ∧ k = 2 ∧ u = 0) ∨ (acc = [u] ∧ k = 3) ∨ (∃ y r, acc = u :: y :: r ∧ k = 4)) →
    lookGo A c k u = if c.any A.contains then (1, 0) else kindOf (freeGo A acc c)
  | [], acc, k, u, _, _, h => by
    simp only [lookGo, List.any_nil, freeGo, Bool.false_eq_true, if_false]
    rcases h with ⟨rfl, rfl, rfl⟩ | ⟨rfl, rfl⟩ | ⟨y, r, rfl, rfl⟩ <;> rfl
  | l :: c, acc, k, u, hc, ha, h => by
    have hl : l ≠ 0 := hc l (by simp)
    have hc' : ∀ x ∈ c, x ≠ 0 := fun x hx => hc x (by simp [hx])
    simp only [lookGo, freeGo]
    by_cases h1 : l ∈ A
    · have : valA A l = 1 := by simp [valA, h1]
      rw [this]; simp [h1]
    · have hcon : A.contains l = false := by simpa using h1
      have hany : (l :: c).any A.contains = c.any A.contains := by rw [List.any_cons, hcon, Bool.false_or]
      rw [hany]
      by_cases h2 : -l ∈ A
      · have : valA A l = -1 := by simp [valA, h1, h2]
        rw [this]
        have hc2 : A.contains (-l) = true := by simpa using h2
        rw [hc2]
        simp only [Bool.true_or, if_true]
        rw [if_neg (by decide), if_pos (by simp)]
        exact lookGo_eq hc' ha h
      · have : valA A l = 0 := by simp [valA, h1, h2]
        rw [this]
        have hc2 : A.contains (-l) = false := by simpa using h2
        rw [hc2, Bool.false_or, if_neg (by decide)]
        by_cases h3 : l ∈ acc
        · have hc3 : acc.contains l = true := by simpa using h3
          rw [hc3]
          simp only [if_true]
          rcases h with ⟨rfl, rfl, rfl⟩ | ⟨rfl, rfl⟩ | ⟨y, r, rfl, rfl⟩
          · simp at h3
          · simp at h3
            rw [if_pos (.inr h3)]
            exact lookGo_eq hc' ha (.inr (.inl ⟨rfl, rfl⟩))
          · have hu : u ≠ 0 := ha u (by simp)
            by_cases h4 : l = u
            · rw [if_pos (.inr h4)]
              exact lookGo_eq hc' ha (.inr (.inr ⟨y, r, rfl, rfl⟩))
            · rw [if_neg (by simp [h4]), if_neg hu]
              exact lookGo_eq hc' ha (.inr (.inr ⟨y, r, rfl, rfl⟩))
        · have hc3 : acc.contains l = false := by simpa using h3
          rw [hc3]
          simp only [Bool.false_eq_true, if_false]
          have ha' : ∀ x ∈ acc ++ [l], x ≠ 0 := fun x hx => by
            simp only [List.mem_append, List.mem_singleton] at hx
            rcases hx with hx | rfl
            · exact ha x hx
            · exact hl
          rcases h with ⟨rfl, rfl, rfl⟩ | ⟨rfl, rfl⟩ | ⟨y, r, rfl, rfl⟩
          · rw [if_neg (by simp [hl]), if_pos rfl]
            exact lookGo_eq hc' ha' (.inr (.inl ⟨rfl, rfl⟩))
          · have hu : u ≠ 0 := ha u (by simp)
            simp at h3
            rw [if_neg (by simp [h3]), if_neg hu]
            exact lookGo_eq hc' ha' (.inr (.inr ⟨l, [], rfl, rfl⟩))
          · have hu : u ≠ 0 := ha u (by simp)
            simp at h3
            rw [if_neg (by simp [h3.1]), if_neg hu]
            exact lookGo_eq hc' ha' (.inr (.inr ⟨y, r ++ [l], by simp, rfl⟩))
theorem lookGo_look {A c : List Int} (hc : ∀ x ∈ c, x ≠ 0) : lookGo A c 2 0 = lookP A c := lookGo_eq hc (by simp) (.inl ⟨rfl, rfl, rfl⟩)
def followGo (A : List Int) : List (List Int) → List Int → Nat → List Int × Nat × Bool × Int
  | [], more, i => (more, i, false, 0)
  | c :: cs, more, i =>
    if (lookP A c).1 = 2 then (more, i + 1, true, 0)
    else if (lookP A c).1 = 3 then followGo (A ++ [(lookP A c).2]) cs (more ++ [(lookP A c).2]) (i + 1)
    else ([], i, false, 81)
def followP (A : List Int) (hints : List (List Int)) : List Int × Nat × Bool × Int := followGo A hints [] 0
def wrongP (l : List (List Int)) : Bool := !l.all rightC
def negs (c : List Int) : List Int := (nrm c).map fun x => -x
def assumeP (c : List Int) : List Int × Bool × Int := if rightC c then (if alwaysC c then ([], true, 0) else (negs c, false, 0)) else ([], false, 20)
def checkP (c : List Int) (hints : List (List Int)) : List Int × Nat × Int :=
  if wrongP hints || !rightC c then ([], 0, 20) else if hints.length > 65536 then ([], 0, 5) else if alwaysC c then ([], 0, 0)
  else ((followP (negs c) hints).1, (followP (negs c) hints).2.1, if (followP (negs c) hints).2.2.2 = 0 ∧ (followP (negs c) hints).2.2.1 = false then 82 else (followP (negs c) hints).2.2.2)
def needGo (hints : List (List Int)) (units : List Int) : Nat → List Int → List Nat
  | 0, _ => []
  | i + 1, N => if i < units.length ∧ units.getD i 0 ∉ N then needGo hints units i N else needGo hints units i (N ++ (hints.getD i []).map fun x => -x) ++ [i]
def neededP (hints : List (List Int)) (units : List Int) : List Nat := needGo hints units hints.length []
def trimP (c : List Int) (hints : List (List Int)) : List Nat × Int :=
  if (checkP c hints).2.2 ≠ 0 ∨ (checkP c hints).2.1 = 0 then ([], (checkP c hints).2.2) else (neededP (hints.take (checkP c hints).2.1) (checkP c hints).1, 0)
def nextP (A : List Int) (l : List (List Int)) : Option (Nat × Int) :=
  match l.findIdx? (fun c => (lookP A c).1 == 2) with
  | some i => some (i, 0)
  | none => (l.findIdx? (fun c => (lookP A c).1 == 3)).map fun i => (i, (lookP A (l.getD i [])).2)
def findGo (l : List (List Int)) : Nat → List Int → List Nat → List Int → Option (List Nat × List Int)
  | 0, _, _, _ => none
  | n + 1, A, taken, units =>
    match nextP A l with
    | none => none
    | some (i, x) => if x = 0 then some (taken ++ [i], units) else findGo l n (A ++ [x]) (taken ++ [i]) (units ++ [x])
def fuelP (l : List (List Int)) : Nat := l.flatten.length + 1
def findP (c : List Int) (l : List (List Int)) : List Nat × Bool × Int :=
  if wrongP l || !rightC c then ([], false, 20) else if l.length > 65536 then ([], false, 5) else if alwaysC c then ([], true, 0)
  else match findGo l (fuelP l) (negs c) [] [] with
    | none => ([], false, 0)
    | some (taken, units) => ((neededP (taken.map fun i => l.getD i []) units).map fun k => taken.getD k 0, true, 0)
theorem mem_freeGo {A : List Int} {x : Int} : ∀ {c acc : List Int}, x ∈ freeGo A acc c ↔ x ∈ acc ∨ (x ∈ c ∧ -x ∉ A)
  | [], acc => by simp [freeGo]
  | l :: c, acc => by
    simp only [freeGo]
    split
    · rename_i h
      rw [mem_freeGo]
      simp only [Bool.or_eq_true, List.contains_iff_mem] at h
      constructor
      · rintro (h1 | ⟨h1, h2⟩)
        · exact .inl h1
        · exact .inr ⟨by simp [h1], h2⟩
      · rintro (h1 | ⟨h1, h2⟩)
        · exact .inl h1
        · rcases List.mem_cons.1 h1 with rfl | h1
          · exact .inl (h.resolve_left h2)
          · exact .inr ⟨h1, h2⟩
    · rename_i h
      rw [mem_freeGo]
      simp only [Bool.or_eq_true, List.contains_iff_mem, not_or] at h
      simp only [List.mem_append, List.mem_cons, List.not_mem_nil, or_false]
      constructor
      · rintro ((h1 | rfl) | ⟨h1, h2⟩)
        · exact .inl h1
        · exact .inr ⟨.inl rfl, h.1⟩
        · exact .inr ⟨.inr h1, h2⟩
      · rintro (h1 | ⟨rfl | h1, h2⟩)
        · exact .inl (.inl h1)
        · exact .inl (.inr rfl)
        · exact .inr ⟨h1, h2⟩
theorem nodup_freeGo {A : List Int} : ∀ {c acc : List Int}, acc.Nodup → (freeGo A acc c).Nodup
  | [], acc, h => h
  | l :: c, acc, h => by
    simp only [freeGo]
    split
    · exact nodup_freeGo h
    · rename_i hh
      simp only [Bool.or_eq_true, List.contains_iff_mem, not_or] at hh
      exact nodup_freeGo (List.nodup_append.2 ⟨h, by simp, fun a ha b hb => by simp at hb; subst hb; rintro rfl; exact hh.2 ha⟩)
theorem mem_frees {A c : List Int} {x : Int} : x ∈ frees A c ↔ x ∈ c ∧ -x ∉ A := by simp [frees, mem_freeGo]
theorem nodup_frees {A c : List Int} : (frees A c).Nodup := nodup_freeGo (by simp)
theorem kindOf_cases (L : List Int) : (kindOf L = (2, 0) ∧ L = []) ∨ (∃ x, kindOf L = (3, x) ∧ L = [x]) ∨ (kindOf L = (4, 0) ∧ ∃ x y r, L = x :: y :: r) := by
  match L with
  | [] => exact .inl ⟨rfl, rfl⟩
  | [x] => exact .inr (.inl ⟨x, rfl, rfl⟩)
  | x :: y :: r => exact .inr (.inr ⟨rfl, x, y, r, rfl⟩)
theorem look_fails {A c : List Int} : (lookP A c).1 = 2 ↔ (∀ x ∈ c, x ∉ A) ∧ ∀ x ∈ c, -x ∈ A := by
  unfold lookP
  split
  · rename_i h
    obtain ⟨x, hx, hA⟩ := List.any_eq_true.1 h
    simp only [List.contains_iff_mem] at hA
    exact ⟨fun h => by simp at h, fun h => absurd hA (h.1 x hx)⟩
  · rename_i h
    have h' : ∀ x ∈ c, x ∉ A := fun x hx hA => h (List.any_eq_true.2 ⟨x, hx, by simpa using hA⟩)
    rcases kindOf_cases (frees A c) with ⟨e, hL⟩ | ⟨x, e, hL⟩ | ⟨e, x, y, r, hL⟩ <;> rw [e]
    · refine ⟨fun _ => ⟨h', fun x hx => ?_⟩, fun _ => rfl⟩
      by_cases hn : -x ∈ A
      · exact hn
      · have := mem_frees.2 ⟨hx, hn⟩
        rw [hL] at this; cases this
    · have hx := (mem_frees (A := A) (c := c) (x := x)).1 (by rw [hL]; simp)
      exact ⟨fun h => by simp at h, fun h => absurd (h.2 x hx.1) hx.2⟩
    · have hx := (mem_frees (A := A) (c := c) (x := x)).1 (by rw [hL]; simp)
      exact ⟨fun h => by simp at h, fun h => absurd (h.2 x hx.1) hx.2⟩
theorem look_unit {A c : List Int} {x : Int} : lookP A c = (3, x) ↔ (∀ y ∈ c, y ∉ A) ∧ x ∈ c ∧ -x ∉ A ∧ ∀ y ∈ c, y = x ∨ -y ∈ A := by
  unfold lookP
  split
  · rename_i h
    obtain ⟨z, hz, hA⟩ := List.any_eq_true.1 h
    simp only [List.contains_iff_mem] at hA
    exact ⟨fun h => by simp at h, fun h => absurd hA (h.1 z hz)⟩
  · rename_i h
    have h' : ∀ x ∈ c, x ∉ A := fun x hx hA => h (List.any_eq_true.2 ⟨x, hx, by simpa using hA⟩)
    have key : frees A c = [x] ↔ (∀ y ∈ c, y ∉ A) ∧ x ∈ c ∧ -x ∉ A ∧ ∀ y ∈ c, y = x ∨ -y ∈ A := by
      constructor
      · intro e
        have hx := (mem_frees (A := A) (c := c) (x := x)).1 (by rw [e]; simp)
        refine ⟨h', hx.1, hx.2, fun y hy => ?_⟩
        by_cases hn : -y ∈ A
        · exact .inr hn
        · have := mem_frees.2 ⟨hy, hn⟩
          rw [e] at this; simp at this; exact .inl this
      · rintro ⟨_, h1, h2, h3⟩
        have nd := nodup_frees (A := A) (c := c)
        have m := (mem_frees (A := A) (c := c) (x := x)).2 ⟨h1, h2⟩
        have all : ∀ y ∈ frees A c, y = x := fun y hy => by
          obtain ⟨a, b⟩ := mem_frees.1 hy
          exact (h3 y a).resolve_right b
        match hL : frees A c with
        | [] => rw [hL] at m; cases m
        | [y] => rw [hL] at all; rw [all y (by simp)]
        | y :: z :: r =>
          rw [hL] at all nd
          have := all y (by simp); have := all z (by simp)
          subst_vars
          simp at nd
    rw [← key]
    rcases kindOf_cases (frees A c) with ⟨e, hL⟩ | ⟨z, e, hL⟩ | ⟨e, z, y, r, hL⟩ <;> rw [e, hL] <;> simp
theorem look_snd {A c : List Int} (h : (lookP A c).1 ≠ 3) : (lookP A c).2 = 0 := by
  unfold lookP at h ⊢
  split
  · rfl
  · rename_i hh
    rw [if_neg hh] at h
    rcases kindOf_cases (frees A c) with ⟨e, hL⟩ | ⟨z, e, hL⟩ | ⟨e, z, y, r, hL⟩ <;> rw [e] at h ⊢
    exact absurd rfl h
theorem look_unit' {A c : List Int} (h : (lookP A c).1 = 3) : (∀ y ∈ c, y ∉ A) ∧ (lookP A c).2 ∈ c ∧ -(lookP A c).2 ∉ A ∧ ∀ y ∈ c, y = (lookP A c).2 ∨ -y ∈ A :=
  look_unit.1 (Prod.ext h rfl)
theorem okA_snoc {A : List Int} {x : Int} (h : okA A = true) (hx : rt x = true) (h1 : -x ∉ A) : okA (A ++ [x]) = true := by
  obtain ⟨a, b⟩ := okA_iff.1 h
  have x0 := rt_iff.1 hx
  refine okA_iff.2 ⟨fun y hy => ?_, fun y hy hn => ?_⟩
  · rcases List.mem_append.1 hy with hy | hy
    · exact a y hy
    · simp at hy; subst hy; exact hx
  · rcases List.mem_append.1 hy with hy | hy
    · rcases List.mem_append.1 hn with hn | hn
      · exact b y hy hn
      · simp at hn; exact h1 (by rw [← hn, Int.neg_neg]; exact hy)
    · simp at hy; subst hy
      rcases List.mem_append.1 hn with hn | hn
      · exact h1 hn
      · simp at hn; omega
theorem okA_prefix {A B : List Int} (h : okA (A ++ B) = true) : okA A = true := by
  obtain ⟨a, b⟩ := okA_iff.1 h
  exact okA_iff.2 ⟨fun y hy => a y (List.mem_append_left _ hy), fun y hy hn => b y (List.mem_append_left _ hy) (List.mem_append_left _ hn)⟩
end Go.Rp
namespace Go.Cl
open Go.Sx
section
variable {a b c : List Int}
theorem always_iff : alwaysC a = true ↔ ∃ x ∈ a, -x ∈ a := by unfold alwaysC; simp
end
end Go.Cl
