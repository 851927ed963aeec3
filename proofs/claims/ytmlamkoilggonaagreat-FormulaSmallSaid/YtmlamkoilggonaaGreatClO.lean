/-
  The order of clauses; made clauses and models: the plain laws.
-/
import Derived.Test.YtmlamkoilggonaaGreatClR
import Derived.Test.YtmlamkoilggonaaGreatSxT
set_option linter.unusedVariables false
namespace Go.Cl
open Go.Sx

theorem cmpI_vals (a b : Int) : cmpI a b = -1 ∨ cmpI a b = 0 ∨ cmpI a b = 1 := by unfold cmpI; split <;> (try split) <;> simp
theorem cmpI_anti (a b : Int) : cmpI a b = -cmpI b a := by unfold cmpI; split <;> (try split) <;> (try split) <;> omega
theorem cmpI_trans {a b c : Int} (h : cmpI a b ≤ 0) (k : cmpI b c ≤ 0) : cmpI a c ≤ 0 := by unfold cmpI at *; repeat' split at h <;> repeat' split at k <;> (try split) <;> (try split) <;> omega
theorem cmpLit_vals (a b : Int) : cmpLit a b = -1 ∨ cmpLit a b = 0 ∨ cmpLit a b = 1 := by
  unfold cmpLit; split <;> split <;> first | exact cmpI_vals _ _ | simp
theorem cmpLit_anti (a b : Int) : cmpLit a b = -cmpLit b a := by
  unfold cmpLit
  cases rt a <;> cases rt b <;> simp only [if_true, if_false, Bool.false_eq_true] <;> first | exact cmpI_anti _ _ | rfl

theorem cmpL_vals : ∀ xs ys : List Int, cmpL cmpLit xs ys = -1 ∨ cmpL cmpLit xs ys = 0 ∨ cmpL cmpLit xs ys = 1
  | [], [] => by simp [cmpL]
  | [], y :: ys => by simp [cmpL]
  | x :: xs, [] => by simp [cmpL]
  | x :: xs, y :: ys => by
    simp only [cmpL]
    split
    · exact cmpLit_vals x y
    · exact cmpL_vals xs ys
theorem cmpL_anti : ∀ xs ys : List Int, cmpL cmpLit xs ys = -cmpL cmpLit ys xs
  | [], [] => by simp [cmpL]
  | [], y :: ys => by simp [cmpL]
  | x :: xs, [] => by simp [cmpL]
  | x :: xs, y :: ys => by
    have e := cmpLit_anti x y
    simp only [cmpL]
    by_cases h : cmpLit x y = 0
    · have h2 : cmpLit y x = 0 := by omega
      rw [if_neg (by simp [h]), if_neg (by simp [h2])]; exact cmpL_anti xs ys
    · have h2 : ¬ cmpLit y x = 0 := by omega
      rw [if_pos h, if_pos h2]; exact e
theorem cmpL_trans : ∀ {xs ys zs : List Int}, cmpL cmpLit xs ys ≤ 0 → cmpL cmpLit ys zs ≤ 0 → cmpL cmpLit xs zs ≤ 0
  | [], _, [], _, _ => by simp [cmpL]
  | [], _, z :: zs, _, _ => by simp [cmpL]
  | x :: xs, [], _, h, _ => by simp [cmpL] at h
  | x :: xs, y :: ys, [], _, k => by simp [cmpL] at k
  | x :: xs, y :: ys, z :: zs, h, k => by
    simp only [cmpL] at h k ⊢
    by_cases h1 : cmpLit x y = 0
    · rw [if_neg (by simp [h1])] at h
      have exy := cmpLit_zero.1 h1
      subst exy
      by_cases h2 : cmpLit x z = 0
      · rw [if_neg (by simp [h2])] at k ⊢; exact cmpL_trans h k
      · rw [if_pos h2] at k ⊢; exact k
    · rw [if_pos h1] at h
      have hxy : ltL x y = true := by simp only [ltL, decide_eq_true_eq]; omega
      have hxz : ltL x z = true := by
        by_cases h2 : cmpLit y z = 0
        · rw [← cmpLit_zero.1 h2]; exact hxy
        · rw [if_pos h2] at k
          exact ltL_trans hxy (by simp only [ltL, decide_eq_true_eq]; omega)
      simp only [ltL, decide_eq_true_eq] at hxz
      rw [if_pos (by omega)]; omega

section
variable {a b c : List Int}

theorem compare_eq (ha : rightC a = true) (hb : rightC b = true) : compareP a b = if cmpI (nrm a).length (nrm b).length ≠ 0 then cmpI (nrm a).length (nrm b).length else cmpL cmpLit (nrm a) (nrm b) := by
  unfold compareP; rw [ha, hb]; rfl
theorem compare_vals (ha : rightC a = true) (hb : rightC b = true) : compareP a b = -1 ∨ compareP a b = 0 ∨ compareP a b = 1 := by
  rw [compare_eq ha hb]; split
  · exact cmpI_vals _ _
  · exact cmpL_vals _ _
theorem compare_anti (ha : rightC a = true) (hb : rightC b = true) : compareP a b = -compareP b a := by
  rw [compare_eq ha hb, compare_eq hb ha]
  have e := cmpI_anti (nrm a).length (nrm b).length
  by_cases h : cmpI (nrm a).length (nrm b).length = 0
  · rw [if_neg (by simp [h]), if_neg (by simp; omega)]; exact cmpL_anti _ _
  · rw [if_pos h, if_pos (by omega)]; exact e
theorem compare_trans (ha : rightC a = true) (hb : rightC b = true) (hc : rightC c = true) (h : compareP a b ≤ 0) (k : compareP b c ≤ 0) : compareP a c ≤ 0 := by
  rw [compare_eq ha hb] at h
  rw [compare_eq hb hc] at k
  rw [compare_eq ha hc]
  have z1 := @cmpI_zero (nrm a).length (nrm b).length
  have z2 := @cmpI_zero (nrm b).length (nrm c).length
  have z3 := @cmpI_zero (nrm a).length (nrm c).length
  have n1 := @cmpI_neg (nrm a).length (nrm b).length
  have n2 := @cmpI_neg (nrm b).length (nrm c).length
  have n3 := @cmpI_neg (nrm a).length (nrm c).length
  by_cases h1 : cmpI (nrm a).length (nrm b).length = 0
  · rw [if_neg (by simp [h1])] at h
    by_cases h2 : cmpI (nrm b).length (nrm c).length = 0
    · rw [if_neg (by simp [h2])] at k
      rw [if_neg (by simp; omega)]; exact cmpL_trans h k
    · rw [if_pos h2] at k
      rw [if_pos (by omega)]; omega
  · rw [if_pos h1] at h
    by_cases h2 : cmpI (nrm b).length (nrm c).length = 0
    · rw [if_pos (by omega)]; omega
    · rw [if_pos h2] at k
      rw [if_pos (by omega)]; omega
theorem compare_len (ha : rightC a = true) (hb : rightC b = true) (h : (nrm a).length < (nrm b).length) : compareP a b = -1 := by
  rw [compare_eq ha hb]
  have : cmpI (nrm a).length (nrm b).length = -1 := by unfold cmpI; rw [if_pos (by omega)]
  rw [this, if_pos (by decide)]
theorem nrm_nrm (ha : rightC a = true) : nrm (nrm a) = nrm a :=
  (nrm_eq (rightC_rt (right_nrm ha)) (strict_nrm ha) fun x => Iff.rfl).symm
theorem compare_nrm (ha : rightC a = true) (hb : rightC b = true) : compareP (nrm a) (nrm b) = compareP a b := by
  rw [compare_eq ha hb, compare_eq (right_nrm ha) (right_nrm hb), nrm_nrm ha, nrm_nrm hb]

theorem nrm_congr (ha : ∀ x ∈ a, rt x = true) (hb : ∀ x ∈ b, rt x = true) (hm : ∀ x, x ∈ a ↔ x ∈ b) : nrm a = nrm b :=
  nrm_eq hb (nrm_spec ha).1 fun x => ((nrm_spec ha).2 x).trans (hm x)
theorem nrm_inj (ha : ∀ x ∈ a, rt x = true) (hb : ∀ x ∈ b, rt x = true) (e : nrm a = nrm b) (x : Int) : x ∈ a ↔ x ∈ b := by
  rw [← (nrm_spec ha).2 x, e, (nrm_spec hb).2 x]

theorem has_iff (ha : rightC a = true) {x : Int} : hasC a x = true ↔ x ∈ a := by unfold hasC; rw [ha]; simp
theorem has_eq (ha : rightC a = true) (x : Int) : hasC a x = a.contains x := by unfold hasC; rw [ha]; rfl
theorem within_iff (ha : rightC a = true) (hb : rightC b = true) : withinP a b = true ↔ ∀ x ∈ a, x ∈ b := by unfold withinP; rw [ha, hb]; simp
theorem same_iff (ha : rightC a = true) (hb : rightC b = true) : sameP a b = true ↔ ∀ x, x ∈ a ↔ x ∈ b := by
  unfold sameP; rw [ha, hb]
  simp only [Bool.and_self, Bool.true_and, decide_eq_true_eq]
  exact ⟨nrm_inj (rightC_rt ha) (rightC_rt hb), nrm_congr (rightC_rt ha) (rightC_rt hb)⟩
theorem holds_iff (ha : rightC a = true) : holdsP a b = true ↔ ∃ x ∈ a, x ∈ b := by unfold holdsP; rw [ha]; simp
theorem always_iff : alwaysC a = true ↔ ∃ x ∈ a, -x ∈ a := by unfold alwaysC; simp

theorem union_eq (ha : rightC a = true) (hb : rightC b = true) (hl : a.length + b.length ≤ 4096) : unionP a b = (nrm (a ++ b), 0) := by
  have := nrm_length (a ++ b)
  rw [List.length_append] at this
  unfold unionP; rw [ha, hb]; simp only [Bool.and_self, if_true]; rw [if_neg (by omega)]
theorem right_app (ha : rightC a = true) (hb : rightC b = true) (hl : a.length + b.length ≤ 4096) : rightC (a ++ b) = true := by
  simp only [rightC, Bool.and_eq_true, List.all_eq_true, decide_eq_true_eq]
  exact ⟨by simpa using hl, fun x hx => (List.mem_append.1 hx).elim (rightC_rt ha x) (rightC_rt hb x)⟩
theorem without_eq (ha : rightC a = true) {l : Int} (hl : rt l = true) : withoutP a l = ((nrm a).filter (fun x => !(x == l)), 0) := by
  unfold withoutP; rw [ha, hl]; rfl
theorem mem_without (ha : rightC a = true) {l x : Int} (hl : rt l = true) : x ∈ (withoutP a l).1 ↔ x ∈ a ∧ x ≠ l := by
  rw [without_eq ha hl]
  simp only [List.mem_filter, Bool.not_eq_true', beq_eq_false_iff_ne, ne_eq, mem_nrm ha]
end

end Go.Cl

set_option linter.unusedVariables false
namespace Go.Cl
open Go.Sx

def varsP (n : Int) : Bool := decide (n ≥ 0) && decide (n ≤ 1048576)
def varL (x : Int) : Int := if rt x then (if x < 0 then -x else x) else 0
def beyP (n x : Int) : Bool := !rt x || decide (varL x > n)
def checkGo (n : Int) : Nat → List (List Int) → Int × Int
  | _, [] => (-1, 0)
  | i, c :: cs => if rightC c then (if c.any (beyP n) then ((i : Int), 51) else checkGo n (i + 1) cs) else ((i : Int), 20)
def checkP (n : Int) (cs : List (List Int)) : Int × Int := if varsP n then (if cs.length > 262144 then (-1, 5) else checkGo n 0 cs) else (-1, 50)

def GoodF (n : Int) (cs : List (List Int)) : Prop := varsP n = true ∧ cs.length ≤ 262144 ∧ ∀ c ∈ cs, rightC c = true ∧ ∀ x ∈ c, beyP n x = false

theorem checkGo_good {n : Int} : ∀ {cs : List (List Int)} {i : Nat}, (checkGo n i cs).2 = 0 ↔ ∀ c ∈ cs, rightC c = true ∧ ∀ x ∈ c, beyP n x = false
  | [], i => by simp [checkGo]
  | c :: cs, i => by
    unfold checkGo
    by_cases hr : rightC c = true
    · rw [if_pos hr]
      by_cases hb : c.any (beyP n) = true
      · rw [if_pos hb]
        constructor
        · intro h; simp at h
        · intro h
          obtain ⟨x, hx, hxb⟩ := List.any_eq_true.1 hb
          have := (h c (by simp)).2 x hx
          rw [this] at hxb; cases hxb
      · rw [if_neg hb, checkGo_good]
        have hb' : ∀ x ∈ c, beyP n x = false := by
          intro x hx
          cases h : beyP n x with
          | false => rfl
          | true => exact absurd (List.any_eq_true.2 ⟨x, hx, h⟩) hb
        constructor
        · intro h d hd
          rcases List.mem_cons.1 hd with rfl | hd
          · exact ⟨hr, hb'⟩
          · exact h d hd
        · intro h d hd; exact h d (by simp [hd])
    · rw [if_neg hr]
      constructor
      · intro h; simp at h
      · intro h; exact absurd (h c (by simp)).1 hr
theorem check_good {n : Int} {cs : List (List Int)} : (checkP n cs).2 = 0 ↔ GoodF n cs := by
  unfold checkP GoodF
  by_cases hv : varsP n = true
  · rw [if_pos hv]
    by_cases hl : cs.length > 262144
    · rw [if_pos hl]
      constructor
      · intro h; simp at h
      · intro h; omega
    · rw [if_neg hl, checkGo_good]
      exact ⟨fun h => ⟨hv, by omega, h⟩, fun h => h.2.2⟩
  · rw [if_neg hv]
    constructor
    · intro h; simp at h
    · intro h; exact absurd h.1 hv
theorem checkGo_ok {n : Int} : ∀ {cs : List (List Int)} {i : Nat}, (checkGo n i cs).2 = 0 → (checkGo n i cs).1 = -1
  | [], i, _ => rfl
  | c :: cs, i, h => by
    unfold checkGo at h ⊢
    split at h
    · split at h
      · simp at h
      · rw [if_pos (by assumption), if_neg (by assumption)]; exact checkGo_ok h
    · simp at h

end Go.Cl

set_option linter.unusedVariables false
namespace Go.Sx
open Go

def Inner {β : Type} (I : β → Sl → Asn) : List β → List Sl → List Nat → Heap → Prop
  | [], [], S, _ => S = []
  | x :: xs, p :: ps, S, h => ∃ S1 S2, S = S1 ++ S2 ∧ (I x p).P S1 h ∧ Inner I xs ps S2 h
  | _, _, _, _ => False

section
variable {β : Type} {I : β → Sl → Asn}

theorem Inner.loc : ∀ {xs : List β} {ps : List Sl} {S : List Nat} {h h' : Heap}, Inner I xs ps S h → h.size ≤ h'.size → (∀ b ∈ S, h'[b]? = h[b]?) → Inner I xs ps S h'
  | [], [], _, _, _, e, _, _ => e
  | x :: xs, p :: ps, S, h, h', ⟨S1, S2, e, hp, hi⟩, hz, hk => by
    subst e
    exact ⟨S1, S2, rfl, (I x p).loc hp hz fun b hb => hk b (List.mem_append_left _ hb), Inner.loc hi hz fun b hb => hk b (List.mem_append_right _ hb)⟩
  | [], _ :: _, _, _, _, e, _, _ => e.elim
  | _ :: _, [], _, _, _, e, _, _ => e.elim
theorem Inner.cel : ∀ {xs : List β} {ps : List Sl} {S : List Nat} {h : Heap}, Inner I xs ps S h → ∀ b ∈ S, isCells h b
  | [], [], _, _, e, b, hb => by cases e; cases hb
  | x :: xs, p :: ps, S, h, ⟨S1, S2, e, hp, hi⟩, b, hb => by
    subst e
    rcases List.mem_append.1 hb with hb | hb
    · exact (I x p).cel hp b hb
    · exact Inner.cel hi b hb
  | [], _ :: _, _, _, e, _, _ => e.elim
  | _ :: _, [], _, _, e, _, _ => e.elim

def rsg (I : β → Sl → Asn) (xs : List β) (s : Sl) : Asn where
  P := fun S h => ∃ ps S1 S2, S = S1 ++ S2 ∧ (rsl Ty.sl.enc ps s).P S1 h ∧ Inner I xs ps S2 h
  loc := fun {S h h'} ⟨ps, S1, S2, e, hp, hi⟩ hz hk => by
    subst e
    exact ⟨ps, S1, S2, rfl, (rsl Ty.sl.enc ps s).loc hp hz fun b hb => hk b (List.mem_append_left _ hb), hi.loc hz fun b hb => hk b (List.mem_append_right _ hb)⟩
  cel := fun {S h} ⟨ps, S1, S2, e, hp, hi⟩ b hb => by
    subst e
    rcases List.mem_append.1 hb with hb | hb
    · exact (rsl Ty.sl.enc ps s).cel hp b hb
    · exact hi.cel b hb

theorem Inner.len : ∀ {xs : List β} {ps : List Sl} {S : List Nat} {h : Heap}, Inner I xs ps S h → ps.length = xs.length
  | [], [], _, _, _ => rfl
  | x :: xs, p :: ps, S, h, ⟨S1, S2, e, hp, hi⟩ => by simp [Inner.len hi]
  | [], _ :: _, _, _, e => e.elim
  | _ :: _, [], _, _, e => e.elim
theorem Inner.get : ∀ {xs : List β} {ps : List Sl} {S : List Nat} {h : Heap}, Inner I xs ps S h → ∀ i (h1 : i < xs.length) (h2 : i < ps.length), At h (I xs[i] ps[i])
  | x :: xs, p :: ps, S, h, ⟨S1, S2, e, hp, hi⟩, 0, _, _ => ⟨S1, hp⟩
  | x :: xs, p :: ps, S, h, ⟨S1, S2, e, hp, hi⟩, i + 1, h1, h2 => Inner.get hi i (Nat.lt_of_succ_lt_succ h1) (Nat.lt_of_succ_lt_succ h2)
  | [], _, _, _, _, i, h1, _ => by simp at h1
  | _, [], _, _, _, i, _, h2 => by simp at h2

theorem rsg_open {xs : List β} {s : Sl} {h : Heap} (hA : At h (rsg I xs s)) : ∃ ps, ps.length = xs.length ∧ At h (rsl Ty.sl.enc ps s) ∧ ∀ i (h1 : i < xs.length) (h2 : i < ps.length), At h (I xs[i] ps[i]) := by
  obtain ⟨S, ps, S1, S2, e, hp, hi⟩ := hA
  exact ⟨ps, hi.len, ⟨S1, hp⟩, fun i h1 h2 => hi.get i h1 h2⟩

theorem Inner.make {n : Nat} : ∀ {xs : List β} {ps : List Sl} {h : Heap}, ps.length = xs.length → (∀ i (h1 : i < xs.length) (h2 : i < ps.length), New n h (I xs[i] ps[i])) → ∃ S, Inner I xs ps S h ∧ ∀ b ∈ S, n ≤ b
  | [], [], _, _, _ => ⟨[], rfl, by simp⟩
  | x :: xs, p :: ps, h, hl, hi => by
    obtain ⟨S1, hp, g1⟩ := hi 0 (by simp) (by simp)
    obtain ⟨S2, hs, g2⟩ := Inner.make (n := n) (xs := xs) (ps := ps) (h := h) (by simpa using hl) fun i h1 h2 => hi (i + 1) (Nat.succ_lt_succ h1) (Nat.succ_lt_succ h2)
    exact ⟨S1 ++ S2, ⟨S1, S2, rfl, hp, hs⟩, fun b hb => (List.mem_append.1 hb).elim (g1 b) (g2 b)⟩
  | [], _ :: _, _, hl, _ => by simp at hl
  | _ :: _, [], _, hl, _ => by simp at hl

theorem rsg_new {n : Nat} {xs : List β} {ps : List Sl} {s : Sl} {h : Heap} (hl : ps.length = xs.length) (ho : New n h (rsl Ty.sl.enc ps s)) (hi : ∀ i (h1 : i < xs.length) (h2 : i < ps.length), New n h (I xs[i] ps[i])) : New n h (rsg I xs s) := by
  obtain ⟨S1, hp, g1⟩ := ho
  obtain ⟨S2, hs, g2⟩ := Inner.make hl hi
  exact ⟨S1 ++ S2, ⟨ps, S1, S2, rfl, hp, hs⟩, fun b hb => (List.mem_append.1 hb).elim (g1 b) (g2 b)⟩
theorem At.new0 {h : Heap} {A : Asn} (hA : At h A) : New 0 h A := let ⟨S, p⟩ := hA; ⟨S, p, fun _ _ => Nat.zero_le _⟩
theorem rsg_at {xs : List β} {ps : List Sl} {s : Sl} {h : Heap} (hl : ps.length = xs.length) (ho : At h (rsl Ty.sl.enc ps s)) (hi : ∀ i (h1 : i < xs.length) (h2 : i < ps.length), At h (I xs[i] ps[i])) : At h (rsg I xs s) :=
  (rsg_new hl ho.new0 fun i h1 h2 => (hi i h1 h2).new0).at
theorem rsg_len {xs : List β} {s : Sl} {h : Heap} (hA : At h (rsg I xs s)) : s.len = xs.length := by
  obtain ⟨ps, hl, ho, _⟩ := rsg_open hA
  rw [rsl_len ho, hl]
theorem rdG {xs : List β} {s : Sl} {h : Heap} (hA : At h (rsg I xs s)) {i : Nat} (hi : i < xs.length) {K : Sl → HP} (hK : ∀ p, At h (I xs[i] p) → K p h) : sx s.a s.len (i : Int) 1 (fun p => ldT .sl p K) h := by
  obtain ⟨ps, hl, ho, hx⟩ := rsg_open hA
  exact rd_ok (τ := .sl) ho (List.getElem?_eq_getElem (show i < ps.length by omega)) (hK _ (hx i hi (by omega)))

end
end Go.Sx

set_option linter.unusedVariables false
set_option linter.unusedSimpArgs false
namespace Go.Proofs.S
open Go Go.Sx Go.Proofs Go.Cl

variable {h : Heap} {c d : List Int} {s s2 : Sl} {fr : Fr} {G As : List Asn}
abbrev lli (cs : List (List Int)) (s : Sl) : Asn := rsg (fun c p => li c p) cs s

theorem containsFunc_c {fv : Value} {p : Int → Bool} (hA : At h (li c s)) (hl : c.length ≤ 1099511627776) (hp : PredOk Tryz.prog i64 fv p c h) :
    callT Tryz.prog fn_slices_ContainsFunc_clauses_Clause_lits_Lit #[.slice s.a s.len s.cap, fv] .bool (fun r h' => r = c.any p ∧ Ext [] h h') h := by
  refine callT_gen fun K hK => S_slices_ContainsFunc_clauses_Clause_lits_Lit (a0 := s) (a1 := fv) K ?_
  unfold F_slices_ContainsFunc_clauses_Clause_lits_Lit
  refine call_of (R := fun r h' => r = fidx p c ∧ Ext [] h h') ?_ ?_
  · exact callT_gen fun K hK => S_slices_IndexFunc_clauses_Clause_lits_Lit (a0 := s) (a1 := fv) K (w_indexFunc (P := Tryz.prog) (τ := i64) hA hl hp fun h' x => hK _ _ ⟨rfl, x⟩)
  · rintro r h' ⟨rfl, x⟩
    exact hK _ _ ⟨fidx_ge _ _, x⟩

theorem vars_c (n : Int) : callT Tryz.prog fn_formula_vars #[.int .i64 n] .bool (fun r h' => r = varsP n ∧ h' = h) h := by
  refine callT_gen fun K hK => S_formula_vars (a0 := n) K ?_
  unfold F_formula_vars
  by_cases h1 : n ≥ 0
  · rw [decide_eq_true h1, brB_true]; exact hK _ _ ⟨by simp [varsP, h1], rfl⟩
  · rw [decide_eq_false h1, brB_false]; exact hK _ _ ⟨by simp [varsP, h1], rfl⟩

abbrev beyondV (b : Nat) : Value := .func (.func fn_formula_beyond_1) #[] #[.pointer (some ⟨b, 0, none⟩)]
theorem beyond_c (n : Int) {K : Value → HP} (hK : ∀ b h', Ext [] h h' → Blk h' b ty_int [.int .i64 n] → K (beyondV b) h') : callT Tryz.prog fn_formula_beyond #[.int .i64 n] .val K h := by
  refine S_formula_beyond (a0 := n) K ?_
  unfold F_formula_beyond
  rw [nw_eq]
  exact hK _ _ ((Ext.refl' [] h).push _) (Blk.new h _ #[.int .i64 n])
theorem beyond1_c {b : Nat} {n : Int} (kb : Blk h b ty_int [.int .i64 n]) (x : Int) : callT Tryz.prog fn_formula_beyond_1 #[.int .i64 x, .pointer (some ⟨b, 0, none⟩)] .bool (fun r h' => r = beyP n x ∧ h' = h) h := by
  refine callT_gen fun K hK => S_formula_beyond_1 (a0 := x) (c0 := ⟨b, 0, none⟩) K ?_
  unfold F_formula_beyond_1
  refine call_of (lits_Right_c x) ?_
  rintro r h' ⟨rfl, rfl⟩
  cases hx : rt x with
  | false => simp only [Bool.not_false, brB_true]; exact hK _ _ ⟨by simp [beyP, hx], rfl⟩
  | true =>
    simp only [Bool.not_true, brB_false]
    rw [ld_int (i := 0) kb rfl]
    refine call_of (lits_Var_c x) ?_
    rintro r h2 ⟨rfl, rfl⟩
    rw [ck_ok (i := 0) kb rfl]
    exact hK _ _ ⟨by simp [beyP, varL, hx], rfl⟩
theorem beyondF {b : Nat} {n : Int} (kb : Blk h b ty_int [.int .i64 n]) (x : Int) : callF Tryz.prog (beyondV b) #[.int .i64 x] .bool (fun r h' => r = beyP n x ∧ h' = h) h := callF_func (beyond1_c kb x)
theorem predBeyond {b : Nat} {n : Int} (kb : Blk h b ty_int [.int .i64 n]) (c : List Int) : PredOk Tryz.prog i64 (beyondV b) (beyP n) c h :=
  fun x _ h' x' => callF_of (beyondF (kb.ext x' (by simp)) x) fun r h2 ⟨e, e2⟩ => ⟨e, by rw [e2]; exact Ext.refl' _ _⟩

theorem check_c {n : Int} {cs : List (List Int)} (hA : At h (lli cs s)) : callT Tryz.prog fn_formula_Check #[.agg #[.int .i64 n, .slice s.a s.len s.cap]] (.tup (.cons (.int .i64) (.cons (.int .i64) .nil)))
    (fun r h' => r = ((checkP n cs).1, (checkP n cs).2, ()) ∧ Ext [] h h') h := by
  refine callT_gen fun K hK => S_formula_Check (a0 := (n, s, ())) K ?_
  unfold F_formula_Check
  have st := Hs.start h [lli cs s] (by simp [hA])
  have l1 := rsg_len hA
  refine st.nw fun b0 h1 st => ?_
  simp only [addr_add, Nat.zero_add]
  rw [st.ldi 0 0 rfl rfl]
  refine call_of (vars_c n) ?_
  rintro _ hq ⟨rfl, rfl⟩
  cases hv : varsP n with
  | false => simp only [Bool.not_false, brB_true]; exact hK _ _ ⟨by simp [checkP, hv], st.frame (by simp)⟩
  | true =>
    simp only [Bool.not_true, brB_false]
    rw [st.lds 0 1 rfl rfl]
    by_cases hl : cs.length > 262144
    · rw [decide_eq_true (show (s.len : Int) > 262144 by omega), brB_true]
      exact hK _ _ ⟨by simp [checkP, hv, hl], st.frame (by simp)⟩
    · rw [decide_eq_false (show ¬ (s.len : Int) > 262144 by omega), brB_false, st.lds 0 1 rfl rfl]
      have e : checkP n cs = checkGo n 0 cs := by simp [checkP, hv, hl]
      refine lfp_invh (I := fun m σ h' => ∃ i : Nat, σ = ((i : Int), 0, 0, ()) ∧ i ≤ cs.length ∧ checkGo n i (cs.drop i) = checkP n cs ∧ Hs [([], h)] [lli cs s] [cl b0 ty_formula_Formula [.int .i64 n, .slice s.a s.len s.cap]] h' ∧ m = cs.length - i)
        ⟨_, 0, rfl, by omega, e.symm, st, rfl⟩ ?_
      clear st
      rintro m σ h2 X ⟨i, rfl, hi, hc, st, em⟩ hX
      simp only
      by_cases hlt : i < cs.length
      · rw [show decide ((i : Int) < (s.len : Int)) = true by rw [l1]; exact dlt_t hlt, brB_true, inc_i (show i < 4611686018427387904 by omega)]
        rw [List.drop_eq_getElem_cons hlt, checkGo] at hc
        refine rdG (st.fz 0 rfl) hlt fun p hp => ?_
        refine call_of (right_c hp) ?_
        rintro _ h3 ⟨rfl, x3⟩
        have st := st.ext x3
        by_cases hr : rightC cs[i] = true
        · rw [if_pos hr] at hc
          rw [hr]; simp only [Bool.not_true, brB_false]
          rw [st.ldi 0 0 rfl rfl]
          refine beyond_c n fun b h4 x4 kb => ?_
          have st := st.ext x4
          refine call_of (containsFunc_c ((hp.ext x3).ext x4) (by have := rightC_len hr; omega) (predBeyond kb _)) ?_
          rintro _ h5 ⟨rfl, x5⟩
          have st := st.ext x5
          by_cases hb : cs[i].any (beyP n) = true
          · rw [if_pos hb] at hc
            rw [hb, brB_true]
            exact hK _ _ ⟨by rw [← hc], st.frame (by simp)⟩
          · rw [if_neg hb] at hc
            rw [show cs[i].any (beyP n) = false by simpa using hb, brB_false]
            exact hX _ _ _ ⟨i + 1, rfl, by omega, hc, st, rfl⟩ (by omega)
        · rw [if_neg hr] at hc
          rw [show rightC cs[i] = false by simpa using hr]; simp only [Bool.not_false, brB_true]
          exact hK _ _ ⟨by rw [← hc], st.frame (by simp)⟩
      · rw [show decide ((i : Int) < (s.len : Int)) = false by rw [l1]; exact dlt_f hlt, brB_false]
        rw [List.drop_eq_nil_of_le (by omega), checkGo] at hc
        exact hK _ _ ⟨by rw [← hc], st.frame (by simp)⟩

end Go.Proofs.S

set_option linter.unusedVariables false
set_option linter.unusedSimpArgs false
namespace Go.Proofs.S
open Go Go.Sx Go.Proofs Go.Cl

variable {h : Heap} {c d : List Int} {s s2 : Sl} {fr : Fr} {G As : List Asn} {m : List Bool} {sm : Sl}
abbrev lb (m : List Bool) (s : Sl) : Asn := rsl Ty.bool.enc m s

theorem neg_c (x : Int) : callT Tryz.prog fn_lits_Negated #[.int .i64 x] .bool (fun r h' => r = (rt x && decide (x < 0)) ∧ h' = h) h := by
  refine callT_gen fun K hK => S_lits_Negated (a0 := x) K ?_
  unfold F_lits_Negated
  refine call_of (lits_Right_c x) ?_
  rintro _ hq ⟨rfl, rfl⟩
  cases hx : rt x with
  | true => rw [brB_true]; exact hK _ _ ⟨by simp [hx], rfl⟩
  | false => rw [brB_false]; exact hK _ _ ⟨by simp [hx], rfl⟩

def trueIn (m : List Bool) (x : Int) : Bool := (m[(varL x - 1).toNat]?.getD false) != decide (x < 0)

abbrev inV (b : Nat) : Value := .func (.func fn_formula_in_1) #[] #[.pointer (some ⟨b, 0, none⟩)]
theorem in_c {K : Value → HP} (hK : ∀ b h', Ext [] h h' → Blk h' b ty_sl_bool [.slice sm.a sm.len sm.cap] → K (inV b) h') : callT Tryz.prog fn_formula_in #[.slice sm.a sm.len sm.cap] .val K h := by
  refine S_formula_in (a0 := sm) K ?_
  unfold F_formula_in
  rw [nw_eq]
  exact hK _ _ ((Ext.refl' [] h).push _) (Blk.new h _ #[.slice sm.a sm.len sm.cap])

theorem in1_c {b : Nat} (kb : Blk h b ty_sl_bool [.slice sm.a sm.len sm.cap]) (hm : At h (lb m sm)) {x : Int} (hx : beyP m.length x = false) :
    callT Tryz.prog fn_formula_in_1 #[.int .i64 x, .pointer (some ⟨b, 0, none⟩)] .bool (fun r h' => r = trueIn m x ∧ h' = h) h := by
  refine callT_gen fun K hK => S_formula_in_1 (a0 := x) (c0 := ⟨b, 0, none⟩) K ?_
  unfold F_formula_in_1
  have hr : rt x = true := by
    cases h : rt x with
    | true => rfl
    | false => simp [beyP, h] at hx
  have hv : varL x ≤ m.length := by simpa [beyP, hr] using hx
  have hv1 : 1 ≤ varL x := by have := rt_iff.1 hr; unfold varL; rw [if_pos hr]; split <;> omega
  have hi : (varL x - 1).toNat < m.length := by omega
  rw [ld_sl (i := 0) kb rfl]
  refine call_of (lits_Var_c x) ?_
  rintro r h2 ⟨er, rfl⟩
  have er : r = varL x := er
  subst er
  rw [ck_ok (i := 0) kb rfl]
  have hvb : varL x ≤ 1048576 := by have := rt_iff.1 hr; unfold varL; rw [if_pos hr]; split <;> omega
  have e1 : IntKind.wrap .i64 (varL x - 1) = (((varL x - 1).toNat : Nat) : Int) := by rw [wrap_i64 (by omega) (by omega)]; omega
  rw [e1]
  obtain ⟨a, ea, hc⟩ := rsl_cells hm (List.getElem?_eq_getElem hi)
  refine ⟨a, ea, by omega, by rw [rsl_len hm]; omega, m[(varL x - 1).toNat], by simpa using hc, ?_⟩
  refine call_of (neg_c x) ?_
  rintro _ hq ⟨rfl, rfl⟩
  refine ⟨by rw [Int.toNat_natCast, Nat.mul_one]; exact hc, ?_⟩
  rw [ck_ok (i := 0) kb rfl]
  refine hK _ _ ⟨?_, rfl⟩
  unfold trueIn
  rw [List.getElem?_eq_getElem hi, hr]
  rfl

theorem predIn {b : Nat} (kb : Blk h b ty_sl_bool [.slice sm.a sm.len sm.cap]) (hm : At h (lb m sm)) {c : List Int} (hc : ∀ x ∈ c, beyP m.length x = false) : PredOk Tryz.prog i64 (inV b) (trueIn m) c h :=
  fun x hx h' x' => callF_func (call_of (in1_c (kb.ext x' (by simp)) (hm.ext x') (hc x hx)) fun r h2 ⟨e, e2⟩ => ⟨e, by rw [e2]; exact Ext.refl' _ _⟩)

def holdsF (c : List Int) (m : List Bool) : Bool := rightC c && (!(c.any (beyP m.length)) && c.any (trueIn m))

theorem fholds_c (hA : At h (li c s)) (hm : At h (lb m sm)) : callT Tryz.prog fn_formula_Holds #[.slice s.a s.len s.cap, .slice sm.a sm.len sm.cap] .bool (fun r h' => r = holdsF c m ∧ Ext [] h h') h := by
  refine callT_gen fun K hK => S_formula_Holds (a0 := s) (a1 := sm) K ?_
  unfold F_formula_Holds
  refine call_of (right_c hA) ?_
  rintro _ h1 ⟨rfl, x1⟩
  cases hr : rightC c with
  | false => rw [brB_false]; exact hK _ _ ⟨by simp [holdsF, hr], x1⟩
  | true =>
    rw [brB_true]
    have hl := rightC_len hr
    refine beyond_c (sm.len : Int) fun b h2 x2 kb => ?_
    rw [rsl_len hm] at kb
    have x2 := x1.nil_trans x2
    refine call_of (containsFunc_c (hA.ext x2) (by omega) (predBeyond kb c)) ?_
    rintro _ h3 ⟨rfl, x3⟩
    have x3 := x2.nil_trans x3
    cases hb : c.any (beyP m.length) with
    | true => simp only [Bool.not_true, brB_false]; exact hK _ _ ⟨by simp [holdsF, hb], x3⟩
    | false =>
      simp only [Bool.not_false, brB_true]
      refine in_c fun b h4 x4 kb => ?_
      have x4 := x3.nil_trans x4
      have hall : ∀ x ∈ c, beyP m.length x = false := fun x hx => by
        cases h : beyP m.length x with
        | false => rfl
        | true => rw [List.any_eq_true.2 ⟨x, hx, h⟩] at hb; cases hb
      refine call_of (containsFunc_c (hA.ext x4) (by omega) (predIn kb (hm.ext x4) hall)) ?_
      rintro _ h5 ⟨rfl, x5⟩
      exact hK _ _ ⟨by unfold holdsF; rw [hr, hb]; rfl, x4.nil_trans x5⟩

def failsGo (m : List Bool) : Nat → List (List Int) → Int
  | _, [] => -1
  | i, c :: cs => if c.any (trueIn m) then failsGo m (i + 1) cs else i

theorem fails_c {cs : List (List Int)} (hA : At h (lli cs s)) (hm : At h (lb m sm)) (hg : GoodF m.length cs) :
    callT Tryz.prog fn_formula_fails #[.agg #[.int .i64 m.length, .slice s.a s.len s.cap], .slice sm.a sm.len sm.cap] (.int .i64) (fun r h' => r = failsGo m 0 cs ∧ Ext [] h h') h := by
  refine callT_gen fun K hK => S_formula_fails (a0 := ((m.length : Int), s, ())) (a1 := sm) K ?_
  unfold F_formula_fails
  have st := Hs.start h [lli cs s, lb m sm] (by simp [hA, hm])
  have l1 := rsg_len hA
  have hcl := hg.2.1
  refine st.nw fun b0 h1 st => ?_
  simp only [addr_add, Nat.zero_add]
  refine in_c fun b h2 x2 kb => ?_
  have st := st.ext x2
  rw [st.lds 0 1 rfl rfl]
  refine jn_in fun J hJ => ?_
  refine lfp_invh (I := fun m1 σ h' => ∃ i : Nat, σ = ((i : Int), -1, ()) ∧ i ≤ cs.length ∧ failsGo m i (cs.drop i) = failsGo m 0 cs ∧ Ext [] h2 h' ∧ m1 = cs.length - i)
    ⟨_, 0, rfl, by omega, rfl, Ext.refl' _ _, rfl⟩ ?_
  rintro m1 σ h3 X ⟨i, rfl, hi, hc, x3, em⟩ hX
  have st := st.ext x3
  simp only
  by_cases hlt : i < cs.length
  · rw [show decide ((i : Int) < (s.len : Int)) = true by rw [l1]; exact dlt_t hlt, brB_true, inc_i (show i < 4611686018427387904 by omega)]
    rw [List.drop_eq_getElem_cons hlt, failsGo] at hc
    obtain ⟨hr, hb⟩ := hg.2.2 _ (List.getElem_mem hlt)
    refine rdG (st.fz 0 rfl) hlt fun p hp => ?_
    refine call_of (containsFunc_c hp (by have := rightC_len hr; omega) (predIn (kb.ext x3 (by simp)) (st.fz 1 rfl) hb)) ?_
    rintro _ h4 ⟨rfl, x4⟩
    have st := st.ext x4
    cases ht : cs[i].any (trueIn m) with
    | true =>
      rw [if_pos ht] at hc
      simp only [Bool.not_true, brB_false]
      exact hX _ _ _ ⟨i + 1, rfl, by omega, hc, x3.nil_trans x4, rfl⟩ (by omega)
    | false =>
      rw [if_neg (by simp [ht])] at hc
      simp only [Bool.not_false, brB_true]
      exact hJ _ _ (hK _ _ ⟨hc, st.frame (by simp)⟩)
  · rw [show decide ((i : Int) < (s.len : Int)) = false by rw [l1]; exact dlt_f hlt, brB_false]
    rw [List.drop_eq_nil_of_le (by omega), failsGo] at hc
    exact hJ _ _ (hK _ _ ⟨hc, st.frame (by simp)⟩)

end Go.Proofs.S
