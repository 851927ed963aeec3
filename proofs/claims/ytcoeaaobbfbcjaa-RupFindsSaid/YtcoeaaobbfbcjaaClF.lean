/- The functions of the seat, each as a predicate over its values, printed by a program of ours, and that each is its text's. -/
import Derived.Test.YtcoeaaobbfbcjaaSx10
import Derived.KernelRfl
import Derived.Test.YtcoeaaobbfbcjaaProg
import Derived.Test.YtcoeaaobbfbcjaaClF0
import Derived.Test.YtcoeaaobbfbcjaaClF1
import Derived.Test.YtcoeaaobbfbcjaaClF2
import Derived.Test.YtcoeaaobbfbcjaaClF3
set_option linter.unusedVariables false
namespace Go.Proofs.S
open Go Go.Sx Go.Proofs

end Go.Proofs.S

/-
  Literals and clauses, in plain Lean: no program in sight.
-/
set_option linter.unusedVariables false
namespace Go.Cl

def rt (x : Int) : Bool := decide (x ≠ 0) && (decide (x ≥ -1048576) && decide (x ≤ 1048576))
theorem rt_iff {x : Int} : rt x = true ↔ x ≠ 0 ∧ -1048576 ≤ x ∧ x ≤ 1048576 := by simp [rt]
/-- The number of a literal. -/
def ix (x : Int) : Int := if x < 0 then 2 * (-x - 1) + 1 else 2 * (x - 1)
def negL (x : Int) : Int := if rt x then -x else 0
def cmpI (a b : Int) : Int := if a < b then -1 else if a > b then 1 else 0
def cmpLit (a b : Int) : Int := if rt a then (if rt b then cmpI (ix a) (ix b) else 1) else (if rt b then -1 else cmpI a b)
def ltL (a b : Int) : Bool := decide (cmpLit a b < 0)
def rightC (c : List Int) : Bool := decide (c.length ≤ 4096) && c.all rt

theorem cmpI_neg {a b : Int} : cmpI a b < 0 ↔ a < b := by unfold cmpI; split <;> (try split) <;> omega
theorem cmpI_zero {a b : Int} : cmpI a b = 0 ↔ a = b := by unfold cmpI; split <;> (try split) <;> omega
theorem ix_inj {a b : Int} (h : ix a = ix b) : a = b := by unfold ix at h; split at h <;> split at h <;> omega
theorem cmpLit_rt {a b : Int} (ha : rt a = true) (hb : rt b = true) : cmpLit a b = cmpI (ix a) (ix b) := by simp [cmpLit, ha, hb]
theorem ltL_rt {a b : Int} (ha : rt a = true) (hb : rt b = true) : ltL a b = true ↔ ix a < ix b := by simp [ltL, cmpLit_rt ha hb, cmpI_neg]
theorem cmpLit_zero {a b : Int} : cmpLit a b = 0 ↔ a = b := by
  unfold cmpLit
  by_cases ha : rt a = true <;> by_cases hb : rt b = true <;> simp only [ha, hb, if_true, if_false, Bool.false_eq_true]
  · rw [cmpI_zero]; exact ⟨ix_inj, fun e => by rw [e]⟩
  · constructor
    · intro h; omega
    · intro e; subst e; exact absurd ha hb
  · constructor
    · intro h; omega
    · intro e; subst e; exact absurd hb ha
  · exact cmpI_zero

theorem ltL_iff {a b : Int} : ltL a b = true ↔ (rt a = true ∧ rt b = true ∧ ix a < ix b) ∨ (rt a = false ∧ rt b = true) ∨ (rt a = false ∧ rt b = false ∧ a < b) := by
  unfold ltL cmpLit
  cases ha : rt a <;> cases hb : rt b <;> simp [cmpI_neg]

theorem ltL_irrefl (a : Int) : ltL a a = false := by
  cases h : ltL a a with
  | false => rfl
  | true => rw [ltL_iff] at h; rcases h with ⟨_, _, h⟩ | ⟨h1, h2⟩ | ⟨_, _, h⟩ <;> first | omega | (rw [h1] at h2; cases h2)
theorem ltL_trans {a b c : Int} (h : ltL a b = true) (k : ltL b c = true) : ltL a c = true := by
  rw [ltL_iff] at *
  rcases h with ⟨h1, h2, h3⟩ | ⟨h1, h2⟩ | ⟨h1, h2, h3⟩ <;> rcases k with ⟨k1, k2, k3⟩ | ⟨k1, k2⟩ | ⟨k1, k2, k3⟩ <;> simp_all <;> omega
theorem ltL_total {a b : Int} (h : ltL a b = false) (k : ltL b a = false) : a = b := by
  have h1 : ¬ ltL a b = true := by simp [h]
  have k1 : ¬ ltL b a = true := by simp [k]
  rw [ltL_iff] at h1 k1
  cases ha : rt a <;> cases hb : rt b <;> simp [ha, hb] at h1 k1
  · omega
  · exact ix_inj (by omega)
theorem ltL_asymm {a b : Int} (h : ltL a b = true) : ltL b a = false := by
  cases k : ltL b a with
  | false => rfl
  | true => have := ltL_trans h k; rw [ltL_irrefl] at this; cases this
theorem ltL_ntrans {a b c : Int} (h : ltL a b = false) (k : ltL b c = false) : ltL a c = false := by
  cases hac : ltL a c with
  | false => rfl
  | true =>
    cases hba : ltL b a with
    | true => rw [ltL_trans hba hac] at k; cases k
    | false => have e := ltL_total h hba; subst e; rw [hac] at k; cases k

/-- In order, each once. -/
abbrev Strict (L : List Int) : Prop := L.Pairwise (fun a b => ltL a b = true)

theorem Strict.nodup {L : List Int} (s : Strict L) : L.Nodup := s.imp fun {a b} h e => by subst e; rw [ltL_irrefl] at h; cases h

theorem Strict.unique {L M : List Int} (s : Strict L) (s' : Strict M) (hm : ∀ x, x ∈ L ↔ x ∈ M) : L = M := by
  have hp : L.Perm M := (List.perm_ext_iff_of_nodup s.nodup s'.nodup).2 hm
  exact hp.eq_of_pairwise (le := fun a b => ltL a b = true) (fun a b _ _ h k => by rw [ltL_asymm h] at k; cases k) s s'

/-- Each once: what is equal to the one before is left out. -/
def dd (last : Int) : List Int → List Int
  | [] => []
  | x :: xs => if x = last then dd last xs else x :: dd x xs

theorem mem_dd : ∀ {xs : List Int} {last x : Int}, x ∈ dd last xs → x ∈ xs
  | [], _, _, h => h
  | y :: ys, last, x, h => by
    unfold dd at h
    split at h
    · exact List.mem_cons_of_mem _ (mem_dd h)
    · rcases List.mem_cons.1 h with h | h
      · subst h; simp
      · exact List.mem_cons_of_mem _ (mem_dd h)

theorem dd_mem : ∀ {xs : List Int} {last x : Int}, x ∈ xs → x ≠ last → x ∈ dd last xs
  | y :: ys, last, x, h, hne => by
    unfold dd
    split
    · rename_i e
      rcases List.mem_cons.1 h with h | h
      · exact absurd (h.trans e) hne
      · exact dd_mem h hne
    · rcases List.mem_cons.1 h with h | h
      · subst h; simp
      · by_cases hy : x = y
        · subst hy; simp
        · exact List.mem_cons_of_mem _ (dd_mem h hy)

theorem dd_strict : ∀ {xs : List Int} {last : Int}, xs.Pairwise (fun a b => ltL b a = false) → (∀ x ∈ xs, ltL x last = false) → Strict (dd last xs) ∧ ∀ x ∈ dd last xs, x ≠ last → ltL last x = true
  | [], last, _, _ => ⟨List.Pairwise.nil, fun x h => by cases h⟩
  | y :: ys, last, hp, hl => by
    rw [List.pairwise_cons] at hp
    unfold dd
    split
    · rename_i e; exact dd_strict hp.2 (fun x hx => hl x (by simp [hx]))
    · rename_i e
      obtain ⟨h1, h2⟩ := dd_strict (last := y) hp.2 (fun x hx => hp.1 x hx)
      have hne : ∀ x ∈ dd y ys, x ≠ y := by
        -- what is equal to y was left out, for the rest is in order
        intro x hx e
        subst e
        have key : ∀ (zs : List Int), zs.Pairwise (fun a b => ltL b a = false) → (∀ z ∈ zs, ltL z x = false) → x ∉ dd x zs := by
          intro zs
          induction zs with
          | nil => intro _ _ h; cases h
          | cons z zs ih =>
            intro hpz hlz hin
            rw [List.pairwise_cons] at hpz
            unfold dd at hin
            split at hin
            · exact ih hpz.2 (fun w hw => hlz w (by simp [hw])) hin
            · rename_i hzx
              rcases List.mem_cons.1 hin with hin | hin
              · exact hzx hin.symm
              · have hxz := mem_dd hin
                have a1 := hpz.1 x hxz
                have a2 := hlz z (by simp)
                exact hzx (ltL_total a2 a1)
        exact key ys hp.2 (fun z hz => hp.1 z hz) hx
      refine ⟨List.pairwise_cons.2 ⟨fun x hx => h2 x hx (hne x hx), h1⟩, fun x hx hxl => ?_⟩
      have hy : ltL last y = true := by
        cases hh : ltL last y with
        | true => rfl
        | false => exact absurd (ltL_total (hl y (by simp)) hh) e
      rcases List.mem_cons.1 hx with hx | hx
      · subst hx; exact hy
      · exact ltL_trans hy (h2 x hx (hne x hx))

/-- The normal form. -/
def nrm (c : List Int) : List Int := dd 0 (c.mergeSort (fun a b => !ltL b a))

theorem dd_sorted {ys c : List Int} (hp : ys.Perm c) (hs : ys.Pairwise (fun a b => ltL b a = false)) (h0 : ∀ x ∈ c, rt x = true) : Strict (dd 0 ys) ∧ ∀ x, x ∈ dd 0 ys ↔ x ∈ c := by
  have hr : ∀ x ∈ ys, rt x = true := fun x hx => h0 x (hp.mem_iff.1 hx)
  have h00 : rt 0 = false := rfl
  refine ⟨(dd_strict hs fun x hx => ?_).1, fun x => ⟨fun h => hp.mem_iff.1 (mem_dd h), fun h => dd_mem (hp.mem_iff.2 h) fun e => ?_⟩⟩
  · cases h : ltL x 0 with
    | false => rfl
    | true => rw [ltL_iff, hr x hx, h00] at h; simp at h
  · subst e; have := h0 0 h; rw [h00] at this; cases this

theorem nrm_spec {c : List Int} (h0 : ∀ x ∈ c, rt x = true) : Strict (nrm c) ∧ ∀ x, x ∈ nrm c ↔ x ∈ c := by
  refine dd_sorted (List.mergeSort_perm _ _) ?_ h0
  have := List.pairwise_mergeSort (le := fun a b => !ltL b a) (fun a b c h k => by
    simp only [Bool.not_eq_true'] at *; exact ltL_ntrans k h) (fun a b => by
    cases h : ltL b a with
    | false => simp
    | true => simp [ltL_asymm h]) c
  exact this.imp fun {a b} h => by simpa using h

theorem nrm_eq {c L : List Int} (h0 : ∀ x ∈ c, rt x = true) (s : Strict L) (hm : ∀ x, x ∈ L ↔ x ∈ c) : L = nrm c :=
  s.unique (nrm_spec h0).1 fun x => (hm x).trans ((nrm_spec h0).2 x).symm

theorem nrm_of_sorted {ys c : List Int} (hp : ys.Perm c) (hs : ys.Pairwise (fun a b => ltL b a = false)) (h0 : ∀ x ∈ c, rt x = true) : dd 0 ys = nrm c :=
  nrm_eq h0 (dd_sorted hp hs h0).1 (dd_sorted hp hs h0).2

theorem rightC_rt {c : List Int} (h : rightC c = true) : ∀ x ∈ c, rt x = true := by
  simp only [rightC, Bool.and_eq_true, List.all_eq_true] at h; exact h.2
theorem rightC_len {c : List Int} (h : rightC c = true) : c.length ≤ 4096 := by simp [rightC] at h; exact h.1

theorem dd_length : ∀ (xs : List Int) (last : Int), (dd last xs).length ≤ xs.length
  | [], _ => Nat.le_refl _
  | x :: xs, last => by
    unfold dd
    have h1 := dd_length xs last
    have h2 := dd_length xs x
    split <;> simp only [List.length_cons] <;> omega
theorem nrm_length (c : List Int) : (nrm c).length ≤ c.length := by
  have := dd_length (c.mergeSort (fun a b => !ltL b a)) 0
  rw [List.length_mergeSort] at this; exact this

end Go.Cl
