/-
  Comparisons, and lists that are sorted by them with nothing twice, in plain Lean.
-/
import Derived.Test.YtchedlkmgahicaaSxW
import Derived.Test.YtchedlkmgahicaaClP
import Derived.Test.YtchedlkmgahicaaCrQ
set_option linter.unusedVariables false
namespace Go.Sx
open Go.Cl

structure TotC {α : Type} (M : α → Prop) (c : α → α → Int) : Prop where
  zero : ∀ {a b}, M a → M b → (c a b = 0 ↔ a = b)
  anti : ∀ {a b}, M a → M b → (c a b < 0 ↔ c b a > 0)
  trans : ∀ {a b d}, M a → M b → M d → c a b ≤ 0 → c b d ≤ 0 → c a d ≤ 0

theorem totI : TotC (fun _ : Int => True) cmpI where
  zero := fun _ _ => cmpI_zero
  anti := fun {a b} _ _ => by unfold cmpI; split <;> (try split) <;> (try split) <;> omega
  trans := fun {a b d} _ _ _ h k => by unfold cmpI at *; repeat' split at h <;> repeat' split at k <;> (try split) <;> (try split) <;> omega

section
variable {α : Type} {M : α → Prop} {c : α → α → Int}

theorem TotC.self (T : TotC M c) {a : α} (h : M a) : c a a = 0 := (T.zero h h).2 rfl
theorem TotC.lt_trans (T : TotC M c) {a b d : α} (ha : M a) (hb : M b) (hd : M d) (h : c a b < 0) (k : c b d < 0) : c a d < 0 := by
  have h1 := T.trans ha hb hd (by omega) (by omega)
  rcases Int.lt_or_eq_of_le h1 with h2 | h2
  · exact h2
  · have e := (T.zero ha hd).1 h2
    subst e
    have := (T.anti hb ha).1 k; omega
theorem TotC.nlt (T : TotC M c) {a b : α} (ha : M a) (hb : M b) (h : ¬ c a b < 0) : c b a ≤ 0 := by
  have := T.anti hb ha
  rcases Int.lt_trichotomy (c b a) 0 with q | q | q
  · omega
  · omega
  · have := (T.anti ha hb).2 q; omega

theorem totL (T : TotC M c) : TotC (fun xs : List α => ∀ x ∈ xs, M x) (cmpL c) where
  zero := by
    intro xs
    induction xs with
    | nil => intro ys _ _; cases ys <;> simp [cmpL]
    | cons x xs ih =>
      intro ys hx hy
      cases ys with
      | nil => simp [cmpL]
      | cons y ys =>
        simp only [cmpL]
        have hM := T.zero (hx x (by simp)) (hy y (by simp))
        by_cases h : c x y = 0
        · rw [if_neg (by simp [h]), ih (fun z hz => hx z (by simp [hz])) (fun z hz => hy z (by simp [hz])), hM.1 h]; simp
        · rw [if_pos h]
          constructor
          · intro e; exact absurd e h
          · intro e; injection e with e1 e2; exact absurd (hM.2 e1) h
  anti := by
    intro xs
    induction xs with
    | nil => intro ys _ _; cases ys <;> simp [cmpL]
    | cons x xs ih =>
      intro ys hx hy
      cases ys with
      | nil => simp [cmpL]
      | cons y ys =>
        simp only [cmpL]
        have h1 := T.zero (hx x (by simp)) (hy y (by simp))
        have h2 := T.zero (hy y (by simp)) (hx x (by simp))
        by_cases h : c x y = 0
        · have e := h1.1 h
          have h' : c y x = 0 := h2.2 e.symm
          rw [if_neg (by simp [h]), if_neg (by simp [h'])]
          exact ih (fun z hz => hx z (by simp [hz])) (fun z hz => hy z (by simp [hz]))
        · have h' : ¬ c y x = 0 := fun e => h (h1.2 (h2.1 e).symm)
          rw [if_pos h, if_pos h']
          exact T.anti (hx x (by simp)) (hy y (by simp))
  trans := by
    intro xs
    induction xs with
    | nil => intro ys zs _ _ _ h k; cases zs <;> simp [cmpL]
    | cons x xs ih =>
      intro ys zs hx hy hz h k
      cases ys with
      | nil => simp [cmpL] at h
      | cons y ys =>
        cases zs with
        | nil => simp [cmpL] at k
        | cons z zs =>
          simp only [cmpL] at h k ⊢
          have mx := hx x (by simp); have my := hy y (by simp); have mz := hz z (by simp)
          by_cases h1 : c x y = 0
          · rw [if_neg (by simp [h1])] at h
            have e := (T.zero mx my).1 h1
            subst e
            by_cases h2 : c x z = 0
            · rw [if_neg (by simp [h2])] at k ⊢
              exact ih (fun w hw => hx w (by simp [hw])) (fun w hw => hy w (by simp [hw])) (fun w hw => hz w (by simp [hw])) h k
            · rw [if_pos h2] at k ⊢; exact k
          · rw [if_pos h1] at h
            have hxz : c x z < 0 := by
              by_cases h2 : c y z = 0
              · rw [← (T.zero my mz).1 h2]; omega
              · rw [if_pos h2] at k
                exact T.lt_trans mx my mz (by omega) (by omega)
            rw [if_pos (by omega)]; omega

def StrictC (c : α → α → Int) (L : List α) : Prop := L.Pairwise fun a b => c a b < 0

theorem StrictC.unique (T : TotC M c) : ∀ {L N : List α}, (∀ x ∈ L, M x) → (∀ x ∈ N, M x) → StrictC c L → StrictC c N → (∀ x, x ∈ L ↔ x ∈ N) → L = N
  | [], [], _, _, _, _, _ => rfl
  | [], y :: N, _, _, _, _, h => by have := (h y).2 (by simp); cases this
  | x :: L, [], _, _, _, _, h => by have := (h x).1 (by simp); cases this
  | x :: L, y :: N, hL, hN, s1, s2, h => by
    obtain ⟨a1, a2⟩ := List.pairwise_cons.1 s1
    obtain ⟨b1, b2⟩ := List.pairwise_cons.1 s2
    have mx := hL x (by simp); have my := hN y (by simp)
    have e : x = y := by
      rcases List.mem_cons.1 ((h x).1 (by simp)) with q | q
      · exact q
      · rcases List.mem_cons.1 ((h y).2 (by simp)) with q2 | q2
        · exact q2.symm
        · have h1 := b1 x q
          have h2 := a1 y q2
          have := (T.anti mx my).1 h2; omega
    subst e
    have hx : x ∉ L := fun q => by have := a1 x q; rw [T.self mx] at this; omega
    have hy : x ∉ N := fun q => by have := b1 x q; rw [T.self mx] at this; omega
    congr 1
    refine StrictC.unique T (fun z hz => hL z (by simp [hz])) (fun z hz => hN z (by simp [hz])) a2 b2 fun z => ?_
    have := h z
    simp only [List.mem_cons] at this
    constructor
    · intro q
      rcases this.1 (.inr q) with e | e
      · subst e; exact absurd q hx
      · exact e
    · intro q
      rcases this.2 (.inr q) with e | e
      · subst e; exact absurd q hy
      · exact e

def insC (c : α → α → Int) (x : α) : List α → List α
  | [] => [x]
  | y :: L => if c x y = 0 then y :: L else if c x y < 0 then x :: y :: L else y :: insC c x L
def sortC (c : α → α → Int) (L : List α) : List α := L.foldl (fun N x => insC c x N) []

theorem mem_insC (T : TotC M c) {x z : α} (hx : M x) : ∀ {L : List α}, (∀ y ∈ L, M y) → (z ∈ insC c x L ↔ z = x ∨ z ∈ L)
  | [], _ => by simp [insC]
  | y :: L, h => by
    unfold insC
    split
    · rename_i e
      have := (T.zero hx (h y (by simp))).1 e
      subst this; simp
    · split
      · simp
      · simp only [List.mem_cons, mem_insC T hx (L := L) fun w hw => h w (by simp [hw])]
        constructor
        · rintro (a | a | a)
          · exact .inr (.inl a)
          · exact .inl a
          · exact .inr (.inr a)
        · rintro (a | a | a)
          · exact .inr (.inl a)
          · exact .inl a
          · exact .inr (.inr a)
theorem insC_strict (T : TotC M c) {x : α} (hx : M x) : ∀ {L : List α}, (∀ y ∈ L, M y) → StrictC c L → StrictC c (insC c x L)
  | [], _, _ => List.pairwise_singleton _ _
  | y :: L, h, s => by
    obtain ⟨a1, a2⟩ := List.pairwise_cons.1 s
    have my := h y (by simp)
    unfold insC
    split
    · exact s
    · rename_i h0
      split
      · rename_i h1
        refine List.pairwise_cons.2 ⟨fun z hz => ?_, s⟩
        rcases List.mem_cons.1 hz with rfl | hz
        · exact h1
        · exact T.lt_trans hx my (h z (by simp [hz])) h1 (a1 z hz)
      · rename_i h1
        refine List.pairwise_cons.2 ⟨fun z hz => ?_, insC_strict T hx (fun w hw => h w (by simp [hw])) a2⟩
        rcases (mem_insC T hx fun w hw => h w (by simp [hw])).1 hz with rfl | hz
        · have := T.nlt hx my h1
          have h2 := T.zero hx my
          rcases Int.lt_or_eq_of_le this with q | q
          · exact q
          · exact absurd (h2.2 ((T.zero my hx).1 q).symm) h0
        · exact a1 z hz
theorem sortC_spec (T : TotC M c) {L : List α} (h : ∀ x ∈ L, M x) : StrictC c (sortC c L) ∧ ∀ x, x ∈ sortC c L ↔ x ∈ L := by
  have key : ∀ (L N : List α), (∀ x ∈ L, M x) → (∀ x ∈ N, M x) → StrictC c N → StrictC c (L.foldl (fun N x => insC c x N) N) ∧ ∀ x, x ∈ L.foldl (fun N x => insC c x N) N ↔ x ∈ L ∨ x ∈ N := by
    intro L
    induction L with
    | nil => intro N _ _ s; exact ⟨s, fun x => by simp⟩
    | cons y L ih =>
      intro N hL hN s
      have my := hL y (by simp)
      have hI : ∀ x ∈ insC c y N, M x := fun x hx => by
        rcases (mem_insC T my hN).1 hx with rfl | hx
        · exact my
        · exact hN x hx
      obtain ⟨p, q⟩ := ih (insC c y N) (fun x hx => hL x (by simp [hx])) hI (insC_strict T my hN s)
      refine ⟨p, fun x => ?_⟩
      rw [List.foldl_cons, q, mem_insC T my hN, List.mem_cons]
      constructor
      · rintro (a | a | a)
        · exact .inl (.inr a)
        · exact .inl (.inl a)
        · exact .inr a
      · rintro ((a | a) | a)
        · exact .inr (.inl a)
        · exact .inl a
        · exact .inr (.inr a)
  obtain ⟨p, q⟩ := key L [] h (by simp) .nil
  exact ⟨p, fun x => by rw [sortC, q]; simp⟩
theorem sortC_eq (T : TotC M c) {L N : List α} (h : ∀ x ∈ L, M x) (s : StrictC c N) (hm : ∀ x, x ∈ N ↔ x ∈ L) : N = sortC c L :=
  StrictC.unique T (fun x hx => h x ((hm x).1 hx)) (fun x hx => h x (((sortC_spec T h).2 x).1 hx)) s (sortC_spec T h).1 fun x => by rw [hm, (sortC_spec T h).2]

def cptGo [DecidableEq α] (a : α) : List α → List α
  | [] => []
  | x :: L => if x = a then cptGo a L else x :: cptGo x L
def cpt [DecidableEq α] : List α → List α
  | [] => []
  | x :: L => x :: cptGo x L

theorem cptGo_spec [DecidableEq α] (T : TotC M c) : ∀ {L : List α} {a : α}, (∀ x ∈ L, M x) → M a → (∀ x ∈ L, ¬ c x a < 0) → L.Pairwise (fun x y => ¬ c y x < 0) →
    StrictC c (cptGo a L) ∧ (∀ x ∈ cptGo a L, c a x < 0) ∧ ∀ x, (x = a ∨ x ∈ cptGo a L) ↔ (x = a ∨ x ∈ L)
  | [], a, _, _, _, _ => ⟨.nil, (by simp [cptGo]), fun x => by simp [cptGo]⟩
  | y :: L, a, hL, ha, hge, hs => by
    obtain ⟨s1, s2⟩ := List.pairwise_cons.1 hs
    have my := hL y (by simp)
    unfold cptGo
    by_cases e : y = a
    · subst e
      rw [if_pos rfl]
      obtain ⟨p, q, r⟩ := cptGo_spec T (L := L) (a := y) (fun x hx => hL x (by simp [hx])) ha (fun x hx => hge x (by simp [hx])) s2
      exact ⟨p, q, fun x => by rw [r, List.mem_cons]; constructor <;> (intro h; rcases h with h | h <;> simp_all)⟩
    · rw [if_neg e]
      obtain ⟨p, q, r⟩ := cptGo_spec T (L := L) (a := y) (fun x hx => hL x (by simp [hx])) my (fun x hx => s1 x hx) s2
      have hay : c a y < 0 := by
        have h1 := T.nlt my ha (hge y (by simp))
        rcases Int.lt_or_eq_of_le h1 with h2 | h2
        · exact h2
        · exact absurd ((T.zero ha my).1 h2).symm e
      have hmem : ∀ x ∈ cptGo y L, M x := fun x hx => by
        rcases (r x).1 (.inr hx) with rfl | h
        · exact my
        · exact hL x (by simp [h])
      refine ⟨List.pairwise_cons.2 ⟨q, p⟩, fun x hx => ?_, fun x => ?_⟩
      · rcases List.mem_cons.1 hx with rfl | hx
        · exact hay
        · exact T.lt_trans ha my (hmem x hx) hay (q x hx)
      · rw [List.mem_cons, List.mem_cons, r]
theorem cpt_sort [DecidableEq α] (T : TotC M c) {L ys : List α} (h : ∀ x ∈ L, M x) (hp : ys.Perm L) (hs : ys.Pairwise (fun x y => ¬ c y x < 0)) : cpt ys = sortC c L := by
  cases ys with
  | nil => rw [← hp.nil_eq]; rfl
  | cons a ys =>
    obtain ⟨s1, s2⟩ := List.pairwise_cons.1 hs
    have hM : ∀ x ∈ a :: ys, M x := fun x hx => h x (hp.mem_iff.1 hx)
    obtain ⟨p, q, r⟩ := cptGo_spec T (L := ys) (a := a) (fun x hx => hM x (by simp [hx])) (hM a (by simp)) s1 s2
    refine sortC_eq T h (List.pairwise_cons.2 ⟨q, p⟩) fun x => ?_
    rw [← hp.mem_iff]
    show x ∈ a :: cptGo a ys ↔ x ∈ a :: ys
    simp only [List.mem_cons]
    exact r x

end
end Go.Sx

set_option linter.unusedVariables false
namespace Go.Cr
open Go.Sx Go.Cl

def applyP : List Int → List Ent → List Bool → List Int
  | m, x :: l, b :: k => applyP (if b then m.set x.1.toNat x.2.1 else m) l k
  | m, _, _ => m
theorem applyP_len : ∀ (l : List Ent) (m : List Int) (k : List Bool), (applyP m l k).length = m.length
  | [], m, k => by simp [applyP]
  | x :: l, m, [] => by simp [applyP]
  | x :: l, m, b :: k => by
    unfold applyP
    rw [applyP_len l]
    split <;> simp
theorem applyP_app : ∀ (l l2 : List Ent) (m : List Int) (k k2 : List Bool), l.length = k.length → applyP m (l ++ l2) (k ++ k2) = applyP (applyP m l k) l2 k2
  | [], l2, m, k, k2, h => by
    have : k = [] := by cases k with | nil => rfl | cons => simp at h
    subst this; simp [applyP]
  | x :: l, l2, m, [], k2, h => by simp at h
  | x :: l, l2, m, b :: k, k2, h => by
    exact applyP_app l l2 (if b then m.set x.1.toNat x.2.1 else m) k k2 (by simpa using h)
theorem applyP_step {l : List Ent} {k : List Bool} {m : List Int} {i : Nat} (hi : i < l.length) (hk : k.length = l.length) :
    applyP m (l.take (i + 1)) (k.take (i + 1)) = if K k i then (applyP m (l.take i) (k.take i)).set l[i].1.toNat l[i].2.1 else applyP m (l.take i) (k.take i) := by
  rw [List.take_succ_eq_append_getElem hi, List.take_succ_eq_append_getElem (show i < k.length by omega), applyP_app _ _ _ _ _ (by simp; omega), K_get (by omega)]
  cases k[i] <;> simp [applyP]

def checkC (l : List Ent) (k : List Bool) : Int := if rightL l then (if k.length = l.length then 0 else 351) else 350
def fitsP (n : Nat) (l : List Ent) : Bool := !l.any fun x => decide (x.1 ≥ (n : Int))
def validP (l : List Ent) (k : List Bool) : Bool × Int := if checkC l k = 0 then (vld l k, 0) else (false, checkC l k)
def applyC (m : List Int) (l : List Ent) (k : List Bool) : List Int × Int := if checkC l k = 0 then (if fitsP m.length l then (applyP m l k, 0) else ([], 2)) else ([], checkC l k)
def dropL (l : List Ent) (k : List Bool) : List (List Bool) := (List.range l.length).filterMap fun i => if K k i && vld l (k.set i false) then some (k.set i false) else none
def dropP (l : List Ent) (k : List Bool) : List (List Bool) × Int := if checkC l k = 0 then (if vld l k then (dropL l k, 0) else ([], 2)) else ([], checkC l k)
def countP (l : List Ent) : Int × Int := if rightL l then (cntP l, 0) else (0, 350)

abbrev cmpW : List Int → List Int → Int := cmpL cmpI
theorem totW : TotC (fun xs : List Int => ∀ x ∈ xs, True) cmpW := totL totI
def resL (m : List Int) (l : List Ent) : List (List Int) := sortC cmpW ((valids l).map (applyP m l))
def resP (m : List Int) (l : List Ent) : List (List Int) × Int := if rightL l then (if fitsP m.length l then (if cntP l > 4096 then ([], 5) else (resL m l, 0)) else ([], 2)) else ([], 350)

theorem cnt_step {x : Ent} {r : List Ent} (hm : Mono (x :: r)) (n : Nat) (hn : 1 ≤ n) :
    (2 ^ grp (x :: r) > 2 ^ 30 → min (n + (valids (x :: r)).length - 1) (2 ^ 30) = 2 ^ 30) ∧
    min (min (n + 2 ^ grp (x :: r) - 1) (2 ^ 30) + (valids ((x :: r).drop (grp (x :: r)))).length - 1) (2 ^ 30) = min (n + (valids (x :: r)).length - 1) (2 ^ 30) := by
  have h := count_grp hm
  have h1 := valids_pos ((x :: r).drop (grp (x :: r)))
  have h2 := valids_pos (x :: r)
  have h3 := Nat.two_pow_pos (grp (x :: r))
  constructor
  · intro hg; omega
  · omega

end Go.Cr
