/-
  FormulaParts in plain form: half of the models of what a literal leaves have this literal. No program here.
-/
import Derived.Test.YtfadkgkkbbcekaaClF
import Derived.Test.YtfadkgkkbbcekaaClT
import Derived.Test.YtfadkgkkbbcekaaCrP
set_option linter.unusedVariables false
set_option linter.unusedSimpArgs false
namespace Go.Fo
open Go

end Go.Fo

set_option linter.unusedVariables false
set_option linter.unusedSimpArgs false
namespace Go.Fo
open Go Go.Cl

variable {m : List Bool} {x l : Int} {cs : List (List Int)} {c : List Int} {v : Nat}

def tru (m : List Bool) (x : Int) : Bool := (m[(varL x - 1).toNat]?.getD false) != decide (x < 0)
def hold (cs : List (List Int)) (m : List Bool) : Bool := cs.all fun c => c.any (tru m)
def asg (l : Int) (cs : List (List Int)) : List (List Int) := (cs.filter fun c => !c.contains l).map fun c => c.filter fun x => !(x == -l)
def InV (v : Nat) (cs : List (List Int)) : Prop := ∀ c ∈ cs, ∀ x ∈ c, rt x = true ∧ varL x ≤ v

theorem varL_pos (h : rt x = true) : 1 ≤ varL x := by
  have := rt_iff.1 h
  unfold varL; rw [if_pos h]; split <;> omega
theorem varL_neg (h : rt x = true) : varL (-x) = varL x := by
  have h0 := rt_iff.1 h
  have h1 : rt (-x) = true := rt_iff.2 (by omega)
  unfold varL; rw [if_pos h, if_pos h1]
  split <;> split <;> omega
theorem tru_neg (h : rt x = true) : tru m (-x) = !tru m x := by
  have h0 := rt_iff.1 h
  unfold tru
  rw [varL_neg h]
  have e : decide (-x < 0) = !decide (x < 0) := by
    by_cases hx : x < 0
    · rw [decide_eq_true hx, decide_eq_false (by omega)]; rfl
    · rw [decide_eq_false hx, decide_eq_true (by omega)]; rfl
  rw [e]
  cases m[(varL x - 1).toNat]?.getD false <;> cases decide (x < 0) <;> rfl

abbrev mods (v : Nat) (cs : List (List Int)) : List (List Bool) := (Cr.allB v).filter (hold cs)
end Go.Fo

set_option linter.unusedVariables false
set_option linter.unusedSimpArgs false
namespace Go.Dp
open Go Go.Cl Go.Fo

variable {v : Nat} {L L' o c : List Int} {cs : List (List Int)} {x y : Int}

def tv (L : List Int) (x : Int) : Int := if x ∈ L then 1 else if -x ∈ L then -1 else 0
structure Asg (v : Nat) (L : List Int) : Prop where
  inV : ∀ x ∈ L, rt x = true ∧ varL x ≤ v
  cons : ∀ x ∈ L, -x ∉ L
def row (v : Nat) (L : List Int) : List Int := (List.range (v + 1)).map fun (k : Nat) => tv L (k : Int)

theorem row_len : (row v L).length = v + 1 := by simp [row]
theorem tv_zero : tv L x = 0 ↔ x ∉ L ∧ -x ∉ L := by unfold tv; split <;> rename_i h1 <;> (try split) <;> simp_all
theorem tv_pos : tv L x > 0 ↔ x ∈ L := by unfold tv; split <;> rename_i h1 <;> (try split) <;> simp_all
theorem tv_neg_lt (hA : Asg v L) : tv L x < 0 ↔ -x ∈ L := by
  unfold tv
  split <;> rename_i h1
  · simp [hA.cons x h1]
  · split <;> simp_all
theorem tv_cases : tv L x = 1 ∨ tv L x = 0 ∨ tv L x = -1 := by unfold tv; split <;> (try split) <;> simp
theorem row_at {k : Nat} (hk : k ≤ v) : (row v L)[k]? = some (tv L (k : Int)) := by
  unfold row
  rw [List.getElem?_map, List.getElem?_range (by omega)]; rfl
theorem tv_negv (hA : Asg v L) (h0 : x ≠ 0) : tv L (-x) = -tv L x := by
  unfold tv
  rw [Int.neg_neg]
  by_cases h1 : x ∈ L
  · have := hA.cons x h1
    simp [h1, this]
  · by_cases h2 : -x ∈ L <;> simp [h1, h2]
theorem varL_abs (h : rt x = true) : varL x = if x < 0 then -x else x := by unfold varL; rw [if_pos h]
theorem value_tv (hA : Asg v L) (h : rt x = true) : (if x < 0 then -tv L (varL x) else tv L (varL x)) = tv L x := by
  have h0 := rt_iff.1 h
  rw [varL_abs h]
  by_cases hx : x < 0
  · rw [if_pos hx, if_pos hx, tv_negv hA h0.1, Int.neg_neg]
  · rw [if_neg hx, if_neg hx]

theorem Asg.left (hA : Asg v (L ++ o)) : Asg v L := ⟨fun x hx => hA.inV x (by simp [hx]), fun x hx h2 => hA.cons x (by simp [hx]) (by simp [h2])⟩
theorem Asg.congr (hA : Asg v L) (h : ∀ y, y ∈ L ↔ y ∈ L') : Asg v L' := ⟨fun x hx => hA.inV x ((h x).2 hx), fun x hx h2 => hA.cons x ((h x).2 hx) ((h _).2 h2)⟩
theorem Asg.nil : Asg v [] := ⟨by simp, by simp⟩
theorem Asg.snoc (hA : Asg v L) (hx : rt x = true) (hv : varL x ≤ v) (h0 : tv L x = 0) : Asg v (L ++ [x]) := by
  have h0 := tv_zero.1 h0
  have hr := rt_iff.1 hx
  refine ⟨fun y hy => ?_, fun y hy h2 => ?_⟩
  · simp at hy
    rcases hy with hy | rfl
    · exact hA.inV y hy
    · exact ⟨hx, hv⟩
  · simp at hy h2
    rcases hy with hy | rfl
    · rcases h2 with h2 | h2
      · exact hA.cons y hy h2
      · exact h0.2 (by rw [← h2, Int.neg_neg]; exact hy)
    · rcases h2 with h2 | h2
      · exact h0.2 h2
      · omega

theorem row_set (hA : Asg v (L ++ [x])) : (row v L).set (varL x).toNat (if x < 0 then -1 else 1) = row v (L ++ [x]) := by
  obtain ⟨hr, hv⟩ := hA.inV x (by simp)
  have h0 := rt_iff.1 hr
  have hp := varL_pos hr
  refine List.ext_getElem? fun k => ?_
  rw [List.getElem?_set]
  by_cases hk : k ≤ v
  · rw [row_at hk, row_at hk]
    by_cases he : (varL x).toNat = k
    · subst he
      rw [if_pos rfl, if_pos (by rw [row_len]; omega)]
      congr 1
      have e1 : (((varL x).toNat : Nat) : Int) = varL x := by omega
      rw [e1]
      have hn : -x ∉ L ++ [x] := hA.cons x (by simp)
      rw [varL_abs hr]
      unfold tv
      by_cases hx : x < 0
      · rw [if_pos hx, if_pos hx, if_neg hn, Int.neg_neg, if_pos (by simp)]
      · rw [if_neg hx, if_neg hx, if_pos (by simp)]
    · rw [if_neg he]
      congr 1
      have ne1 : (k : Int) ≠ x := fun e => he (by rw [varL_abs hr]; split <;> omega)
      have ne2 : -(k : Int) ≠ x := fun e => he (by rw [varL_abs hr]; split <;> omega)
      unfold tv
      simp [ne1, ne2]
  · have e1 : (row v L)[k]? = none := by rw [List.getElem?_eq_none]; rw [row_len]; omega
    have e2 : (row v (L ++ [x]))[k]? = none := by rw [List.getElem?_eq_none]; rw [row_len]; omega
    rw [e1, e2, if_neg (by omega)]

theorem row_clear {L1 L2 : List Int} (hr : rt x = true) (hv : varL x ≤ v) (h1 : tv (L1 ++ L2) x = 0) : (row v (L1 ++ x :: L2)).set (varL x).toNat 0 = row v (L1 ++ L2) := by
  have h0 := rt_iff.1 hr
  have hp := varL_pos hr
  refine List.ext_getElem? fun k => ?_
  rw [List.getElem?_set]
  by_cases hk : k ≤ v
  · rw [row_at hk, row_at hk]
    by_cases he : (varL x).toNat = k
    · subst he
      rw [if_pos rfl, if_pos (by rw [row_len]; omega)]
      congr 1
      have e1 : (((varL x).toNat : Nat) : Int) = varL x := by omega
      rw [e1, varL_abs hr]
      have h1 := tv_zero.1 h1
      by_cases hx : x < 0
      · rw [if_pos hx]; exact (tv_zero.2 ⟨h1.2, by rw [Int.neg_neg]; exact h1.1⟩).symm
      · rw [if_neg hx]; exact (tv_zero.2 h1).symm
    · rw [if_neg he]
      congr 1
      have ne1 : (k : Int) ≠ x := fun e => he (by rw [varL_abs hr]; split <;> omega)
      have ne2 : -(k : Int) ≠ x := fun e => he (by rw [varL_abs hr]; split <;> omega)
      unfold tv
      simp [ne1, ne2]
  · have e1 : (row v (L1 ++ x :: L2))[k]? = none := by rw [List.getElem?_eq_none]; rw [row_len]; omega
    have e2 : (row v (L1 ++ L2))[k]? = none := by rw [List.getElem?_eq_none]; rw [row_len]; omega
    rw [e1, e2, if_neg (by omega)]

def lastGo (L : List Int) : Int → Nat → List Int → Int × Nat
  | one, n, [] => (one, n)
  | one, n, x :: c => if tv L x > 0 then (0, 2) else if tv L x = 0 ∧ x ≠ one then (if n + 1 = 2 then (0, 2) else lastGo L x (n + 1) c) else lastGo L one n c
def lastP (L c : List Int) : Int × Nat := lastGo L 0 0 c

theorem last1 (hx : tv L x = 0) : ∀ c, lastGo L x 1 c = if ∀ y ∈ c, y = x ∨ tv L y < 0 then (x, 1) else (0, 2)
  | [] => by simp [lastGo]
  | y :: c => by
    unfold lastGo
    by_cases hp : tv L y > 0
    · rw [if_pos hp, if_neg]
      intro h
      rcases h y (by simp) with e | e
      · subst e; omega
      · omega
    · rw [if_neg hp]
      by_cases h0 : tv L y = 0 ∧ y ≠ x
      · rw [if_pos h0, if_pos rfl, if_neg]
        intro h
        rcases h y (by simp) with e | e
        · exact h0.2 e
        · omega
      · rw [if_neg h0, last1 hx c]
        have hy : y = x ∨ tv L y < 0 := by
          by_cases e : y = x
          · exact .inl e
          · exact .inr (by
              have : tv L y ≠ 0 := fun e2 => h0 ⟨e2, e⟩
              omega)
        simp only [List.mem_cons, forall_eq_or_imp, hy, true_and]

theorem last0 : ∀ c, (∀ y ∈ c, y ≠ 0) → (lastP L c = (0, 0) ∧ ∀ y ∈ c, tv L y < 0) ∨ (∃ x ∈ c, tv L x = 0 ∧ (∀ y ∈ c, y = x ∨ tv L y < 0) ∧ lastP L c = (x, 1)) ∨
    (lastP L c = (0, 2) ∧ ((∃ x ∈ c, tv L x > 0) ∨ ∃ x ∈ c, ∃ y ∈ c, x ≠ y ∧ tv L x = 0 ∧ tv L y = 0))
  | [], _ => .inl ⟨rfl, by simp⟩
  | y :: c, h0 => by
    have hy := h0 y (by simp)
    unfold lastP lastGo
    by_cases hp : tv L y > 0
    · rw [if_pos hp]
      exact .inr (.inr ⟨rfl, .inl ⟨y, by simp, hp⟩⟩)
    · rw [if_neg hp]
      by_cases hz : tv L y = 0
      · rw [if_pos ⟨hz, hy⟩, if_neg (by decide), last1 hz]
        split
        · rename_i hall
          exact .inr (.inl ⟨y, by simp, hz, by simpa using hall, rfl⟩)
        · rename_i hall
          refine .inr (.inr ⟨rfl, ?_⟩)
          simp only [Classical.not_forall, not_or] at hall
          obtain ⟨z, hz2, hne, hlt⟩ := hall
          by_cases hzp : tv L z > 0
          · exact .inl ⟨z, by simp [hz2], hzp⟩
          · exact .inr ⟨y, by simp, z, by simp [hz2], fun e => hne e.symm, hz, by omega⟩
      · rw [if_neg (fun h => hz h.1)]
        have hlt : tv L y < 0 := by omega
        rcases last0 c (fun z hz => h0 z (by simp [hz])) with ⟨e, ha⟩ | ⟨x, hx, hx0, ha, e⟩ | ⟨e, ha⟩
        · exact .inl ⟨e, by simpa [hlt] using ha⟩
        · exact .inr (.inl ⟨x, by simp [hx], hx0, by simpa [hlt] using ha, e⟩)
        · refine .inr (.inr ⟨e, ha.imp (fun ⟨x, hx, h⟩ => ⟨x, by simp [hx], h⟩) fun ⟨x, hx, z, hz, h⟩ => ⟨x, by simp [hx], z, by simp [hz], h⟩⟩)

def lookGo (L : List Int) : Nat → Int → List (List Int) → Int × Int
  | _, next, [] => (-1, next)
  | i, next, c :: cs => if (lastP L c).2 = 0 then ((i : Int), next) else lookGo L (i + 1) (if (lastP L c).2 = 1 ∧ next = 0 then (lastP L c).1 else next) cs
def lookP (L : List Int) (cs : List (List Int)) : Int × Int := lookGo L 0 0 cs

def followGo (cs : List (List Int)) : Nat → List Int → List Int × Int
  | 0, L => ([], (lookP L cs).1)
  | k + 1, L => if (lookP L cs).1 ≥ 0 then ([], (lookP L cs).1) else if (lookP L cs).2 = 0 then ([], -1) else
    let r := followGo cs k (L ++ [(lookP L cs).2]); ((lookP L cs).2 :: r.1, r.2)
def followP (v : Nat) (cs : List (List Int)) (L : List Int) : List Int × Int := followGo cs (v + 1) L

inductive Ev where
  | guess
  | model (m : List Bool)

def freeGo (v : Nat) (L : List Int) : Nat → Nat → Nat
  | 0, k => k
  | n + 1, k => if k ≤ v ∧ tv L (k : Int) ≠ 0 then freeGo v L n (k + 1) else k
def freeV (v : Nat) (L : List Int) : Nat := freeGo v L (v + 1) 1
def modelOf (v : Nat) (L : List Int) : List Bool := (List.range v).map fun (i : Nat) => decide (tv L ((i : Int) + 1) > 0)

def trace (v : Nat) (cs : List (List Int)) : Nat → List Int → List Ev
  | 0, _ => []
  | k + 1, L =>
    let r := followP v cs L
    if r.2 ≥ 0 then [] else
      let f := freeV v (L ++ r.1)
      if f > v then [.model (modelOf v (L ++ r.1))] else
        .guess :: (trace v cs k (L ++ r.1 ++ [-(f : Int)]) ++ .guess :: trace v cs k (L ++ r.1 ++ [(f : Int)]))

def mods : List Ev → List (List Bool)
  | [] => []
  | .guess :: T => mods T
  | .model m :: T => m :: mods T
def ng : List Ev → Nat
  | [] => 0
  | .guess :: T => ng T + 1
  | .model _ :: T => ng T

def runT : Nat → List Ev → Option (List Bool) × Nat
  | _, [] => (none, 0)
  | _, .model m :: _ => (some m, 0)
  | 0, .guess :: _ => (none, 1)
  | f + 1, .guess :: T => ((runT f T).1, (runT f T).2 + 1)

theorem mods_append : ∀ (T U : List Ev), mods (T ++ U) = mods T ++ mods U
  | [], U => rfl
  | .guess :: T, U => mods_append T U
  | .model m :: T, U => congrArg (m :: ·) (mods_append T U)
theorem ng_append : ∀ (T U : List Ev), ng (T ++ U) = ng T + ng U
  | [], U => by simp [ng]
  | .guess :: T, U => by simp only [List.cons_append, ng]; rw [ng_append T U]; omega
  | .model m :: T, U => ng_append T U

theorem runT_append : ∀ (T : List Ev) (f : Nat) (U : List Ev), runT f (T ++ U) = if (runT f T).1.isSome ∨ (runT f T).2 > f then runT f T else ((runT (f - (runT f T).2) U).1, (runT f T).2 + (runT (f - (runT f T).2) U).2)
  | [], f, U => by simp [runT]
  | .model m :: T, f, U => by simp [runT]
  | .guess :: T, 0, U => by simp [runT]
  | .guess :: T, f + 1, U => by
    have ih := runT_append T f U
    rw [show runT (f + 1) (.guess :: T ++ U) = ((runT f (T ++ U)).1, (runT f (T ++ U)).2 + 1) from rfl, ih]
    by_cases h : (runT f T).1.isSome = true ∨ (runT f T).2 > f
    · rw [if_pos h, if_pos (show (runT (f + 1) (.guess :: T)).1.isSome = true ∨ (runT (f + 1) (.guess :: T)).2 > f + 1 from h.imp id fun q => Nat.succ_lt_succ q)]; rfl
    · rw [if_neg h, if_neg (show ¬ ((runT (f + 1) (.guess :: T)).1.isSome = true ∨ (runT (f + 1) (.guess :: T)).2 > f + 1) from fun q => h (q.imp id fun q => Nat.lt_of_succ_lt_succ q))]
      have e : f + 1 - ((runT f T).2 + 1) = f - (runT f T).2 := by omega
      show _ = ((runT (f + 1 - ((runT f T).2 + 1)) U).1, ((runT f T).2 + 1) + (runT (f + 1 - ((runT f T).2 + 1)) U).2)
      rw [e]
      simp only [Prod.mk.injEq, true_and]
      omega

end Go.Dp
