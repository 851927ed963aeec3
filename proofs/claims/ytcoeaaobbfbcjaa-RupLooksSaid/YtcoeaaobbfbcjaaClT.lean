/-
  The reference over clauses: Without, Clashes, Union, Resolve, Compare; lists of numbers as clauses and back.
-/
import Derived.Test.YtcoeaaobbfbcjaaClG
import Derived.Test.YtcoeaaobbfbcjaaClC
set_option linter.unusedVariables false
namespace Go.Proofs.S
open Go Go.Sx Go.Proofs Go.Cl

variable {h : Heap} {c d : List Int} {s s2 : Sl} {fr : Fr} {G As : List Asn}

/-! ### lists of numbers, clauses -/

end Go.Proofs.S

/-
  Normal forms that can be worked out; what the laws over pairs ask, in plain Lean.
-/
set_option linter.unusedVariables false
namespace Go.Cl
open Go.Sx

def insL (x : Int) : List Int → List Int
  | [] => [x]
  | y :: ys => if x = y then y :: ys else if ltL x y then x :: y :: ys else y :: insL x ys
def nrmF (c : List Int) : List Int := c.foldr insL []

theorem mem_insL {x z : Int} : ∀ {ys : List Int}, z ∈ insL x ys ↔ z = x ∨ z ∈ ys
  | [] => by simp [insL]
  | y :: ys => by
    unfold insL
    split
    · rename_i e; subst e; simp
    · split
      · simp
      · rw [List.mem_cons, mem_insL, List.mem_cons]
        constructor
        · rintro (h | h | h)
          · exact .inr (.inl h)
          · exact .inl h
          · exact .inr (.inr h)
        · rintro (h | h | h)
          · exact .inr (.inl h)
          · exact .inl h
          · exact .inr (.inr h)

theorem insL_strict {x : Int} : ∀ {ys : List Int}, Strict ys → Strict (insL x ys)
  | [], _ => by simp [insL]
  | y :: ys, h => by
    have h' := List.pairwise_cons.1 h
    unfold insL
    split
    · exact h
    · split
      · rename_i hlt
        exact List.pairwise_cons.2 ⟨fun z hz => by
          rcases List.mem_cons.1 hz with rfl | hz
          · exact hlt
          · exact ltL_trans hlt (h'.1 z hz), h⟩
      · rename_i hne hlt
        have hyx : ltL y x = true := by
          cases hh : ltL y x with
          | true => rfl
          | false => exact absurd (ltL_total (by simpa using hlt) hh) hne
        refine List.pairwise_cons.2 ⟨fun z hz => ?_, insL_strict h'.2⟩
        rcases mem_insL.1 hz with rfl | hz
        · exact hyx
        · exact h'.1 z hz

theorem nrmF_spec : ∀ (c : List Int), Strict (nrmF c) ∧ ∀ x, x ∈ nrmF c ↔ x ∈ c
  | [] => ⟨List.Pairwise.nil, fun x => Iff.rfl⟩
  | y :: ys => by
    obtain ⟨h1, h2⟩ := nrmF_spec ys
    exact ⟨insL_strict h1, fun x => by rw [show nrmF (y :: ys) = insL y (nrmF ys) from rfl, mem_insL, h2, List.mem_cons]⟩

/-- The same, but it can be worked out. -/
def nrmT (c : List Int) : List Int := if c.all rt then nrmF c else nrm c
theorem nrm_T : nrm = nrmT := by
  funext c
  unfold nrmT
  split
  · rename_i h
    rw [List.all_eq_true] at h
    exact (nrm_eq h (nrmF_spec c).1 (nrmF_spec c).2).symm
  · rfl

theorem cmpL_zero : ∀ {xs ys : List Int}, cmpL cmpLit xs ys = 0 ↔ xs = ys
  | [], [] => by simp [cmpL]
  | [], y :: ys => by simp [cmpL]
  | x :: xs, [] => by simp [cmpL]
  | x :: xs, y :: ys => by
    simp only [cmpL]
    by_cases h : cmpLit x y = 0
    · rw [if_neg (by simp [h]), cmpL_zero, cmpLit_zero.1 h]; simp
    · rw [if_pos h]
      constructor
      · intro e; exact absurd e h
      · intro e; injection e with e1 e2; exact absurd (cmpLit_zero.2 e1) h

theorem same_compare {c d : List Int} (hr : rightC c = true) (hr2 : rightC d = true) : sameP c d = (compareP c d == 0) := by
  unfold sameP compareP
  rw [hr, hr2]
  simp only [Bool.and_self, Bool.true_and, if_true]
  by_cases hl : (nrm c).length = (nrm d).length
  · rw [hl, if_neg (by simp [cmpI_zero]), Bool.eq_iff_iff]
    simp [cmpL_zero]
  · have h0 : cmpI (nrm c).length (nrm d).length ≠ 0 := by rw [ne_eq, cmpI_zero]; omega
    rw [if_pos h0]
    have h1 : ¬ nrm c = nrm d := fun e => hl (by rw [e])
    rw [decide_eq_false h1]
    symm; simpa using h0

end Go.Cl

/-
  The laws' helpers: awake, Made, Model, one, pair.
-/
set_option linter.unusedVariables false
set_option linter.unusedSimpArgs false
namespace Go.Proofs.S
open Go Go.Sx Go.Proofs Go.Cl

variable {h : Heap} {c d : List Int} {s s2 : Sl} {fr : Fr} {G As : List Asn}


theorem u8_of {l : List Int} (hw : ∀ z ∈ l, 0 ≤ z ∧ z < 256) : ∀ n ∈ l, 0 ≤ n ∧ n ≤ 255 := fun n hn => by have := hw n hn; omega

/-! ### Made, Model -/

def litOf (n : Int) : Int := if n % 2 = 1 then -(1 + n / 2 % 8) else 1 + n / 2 % 8
def madeP (l : List Int) : List Int := (l.take 20).map litOf
def U8 (l : List Int) : Prop := ∀ n ∈ l, 0 ≤ n ∧ n ≤ 255
abbrev lu (l : List Int) (s : Sl) : Asn := rsl (Ty.int .u8).enc l s

theorem wrap_u8 {x : Int} (h0 : 0 ≤ x) (h1 : x ≤ 255) : IntKind.wrap .u8 x = x := by
  have e : IntKind.wrap .u8 x = x % 256 := by simp [IntKind.wrap, IntKind.bits, IntKind.signed]
  rw [e]; omega

theorem made_step {x : Int} (h0 : 0 ≤ x) (h1 : x ≤ 255) : IntKind.wrap .i64 (IntKind.wrap .u8 ((1 : Int) + (Int.tmod (IntKind.wrap .u8 (Int.tdiv x (2 : Int))) (8 : Int)))) = 1 + x / 2 % 8 := by
  rw [Int.tdiv_eq_ediv_of_nonneg h0, wrap_u8 (x := x / 2) (by omega) (by omega), Int.tmod_eq_emod_of_nonneg (by omega), wrap_u8 (x := 1 + x / 2 % 8) (by omega) (by omega), wrap_i64 (by omega) (by omega)]

def mlit (b v : Nat) : Int := if b / 2 ^ v % 2 = 1 then -((v : Int) + 1) else (v : Int) + 1
def modelP (b : Nat) : List Int := (List.range 8).map (mlit b)

theorem band_bit (b v : Nat) (hb : b < 256) (hv : v < 8) : (bAnd .u8 (Int.fdiv (b : Int) (2 ^ (min (v : Int).toNat 8))) 1 == 1) = decide (b / 2 ^ v % 2 = 1) := by
  have e1 : Int.fdiv (b : Int) (2 ^ (min (v : Int).toNat 8)) = ((b / 2 ^ v : Nat) : Int) := by
    rw [Int.toNat_natCast, Nat.min_eq_left (by omega), Int.fdiv_eq_ediv_of_nonneg _ (by exact Int.le_of_lt (Int.pow_pos (by decide)))]
    simp
  have hlt : b / 2 ^ v < 256 := Nat.lt_of_le_of_lt (Nat.div_le_self _ _) hb
  rw [e1]
  generalize b / 2 ^ v = x at hlt
  have e2 : bAnd .u8 (x : Int) 1 = ((x % 2 : Nat) : Int) := by
    unfold bAnd
    have e3 : (BitVec.ofInt 8 (x : Int) &&& BitVec.ofInt 8 1).toNat = x % 2 := by
      rw [BitVec.toNat_and]
      have e4 : (BitVec.ofInt 8 (x : Int)).toNat = x := by simp [BitVec.toNat_ofInt]; omega
      rw [e4, show (BitVec.ofInt 8 1).toNat = 1 from rfl, Nat.and_one_is_mod]
    show IntKind.wrap .u8 (((BitVec.ofInt 8 (x : Int) &&& BitVec.ofInt 8 1).toNat : Nat) : Int) = _
    rw [e3, wrap_u8 (by omega) (by omega)]
  rw [e2]
  rcases Nat.mod_two_eq_zero_or_one x with k | k <;> rw [k] <;> rfl

end Go.Proofs.S
