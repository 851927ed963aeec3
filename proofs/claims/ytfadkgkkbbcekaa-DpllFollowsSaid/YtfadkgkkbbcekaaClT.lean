/-
  The reference over clauses: Without, Clashes, Union, Resolve, Compare; lists of numbers as clauses and back.
-/
import Derived.Test.YtfadkgkkbbcekaaSxW3
import Derived.Test.YtfadkgkkbbcekaaClA
import Derived.Test.YtfadkgkkbbcekaaSxT
set_option linter.unusedVariables false
namespace Go.Proofs.S
open Go Go.Sx Go.Proofs Go.Cl

variable {h : Heap} {c d : List Int} {s s2 : Sl} {fr : Fr} {G As : List Asn}

theorem clause_c (hA : At h (li c s)) (hl : c.length ≤ 1048576) : callT Try.prog fn_salvorlaw02_Clause #[.slice s.a s.len s.cap] .sl (fun s' h' => New h.size h' (lo c s') ∧ Ext [] h h') h := by
  refine callT_gen fun K hK => S_salvorlaw02_Clause (a0 := s) K ?_
  unfold F_salvorlaw02_Clause
  have l1 := rsl_len hA
  have st := (Hs.start h [] (by simp)).nil ty_lits_Lit i64.enc none
  refine lfp_invh (I := fun m σ h' => ∃ (i : Nat) (s' : Sl), σ = ((i : Int), s', ()) ∧ i ≤ c.length ∧ Hs [([], h)] [] [lo (c.take i) s'] h' ∧ m = c.length - i) ⟨_, 0, ⟨none, 0, 0⟩, rfl, by omega, st, rfl⟩ ?_
  clear st
  rintro m σ h2 X ⟨i, s', rfl, hi, st, em⟩ hX
  have hA1 := hA.ext (st.frame (by simp))
  simp only
  by_cases hlt : i < c.length
  · rw [show decide ((i : Int) < (s.len : Int)) = true by rw [l1]; exact dlt_t hlt, brB_true, inc_i (show i < 4611686018427387904 by omega)]
    refine rdE (τ := i64) hA1 hlt ?_
    refine st.nw fun b9 h3 st => ?_
    refine st.apd (enc := i64.enc) (v := c[i]) 0 1 rfl rfl (by decide) rfl (by simp; omega) (by decide) rfl fun s7 h4 st => ?_
    refine hX _ _ _ ⟨i + 1, s7, rfl, by omega, ?_, rfl⟩ (by omega)
    have st := st.drop 1 rfl
    rw [take_succ_getE hlt]; exact st
  · rw [show decide ((i : Int) < (s.len : Int)) = false by rw [l1]; exact dlt_f hlt, brB_false]
    rw [List.take_of_length_le (by omega)] at st
    exact hK _ _ ⟨st.res (by simp) 0 rfl, st.frame (by simp)⟩

theorem ints_c (hA : At h (li c s)) (hl : c.length ≤ 1048576) : callT Try.prog fn_salvorlaw02_Ints #[.slice s.a s.len s.cap] .sl (fun s' h' => New h.size h' (io c s') ∧ Ext [] h h') h := by
  refine callT_gen fun K hK => S_salvorlaw02_Ints (a0 := s) K ?_
  unfold F_salvorlaw02_Ints
  have l1 := rsl_len hA
  have st := (Hs.start h [] (by simp)).nil ty_int i64.enc none
  refine lfp_invh (I := fun m σ h' => ∃ (i : Nat) (s' : Sl), σ = ((i : Int), s', ()) ∧ i ≤ c.length ∧ Hs [([], h)] [] [io (c.take i) s'] h' ∧ m = c.length - i) ⟨_, 0, ⟨none, 0, 0⟩, rfl, by omega, st, rfl⟩ ?_
  clear st
  rintro m σ h2 X ⟨i, s', rfl, hi, st, em⟩ hX
  have hA1 := hA.ext (st.frame (by simp))
  simp only
  by_cases hlt : i < c.length
  · rw [show decide ((i : Int) < (s.len : Int)) = true by rw [l1]; exact dlt_t hlt, brB_true, inc_i (show i < 4611686018427387904 by omega)]
    refine rdE (τ := i64) hA1 hlt ?_
    refine st.nw fun b9 h3 st => ?_
    refine st.apd (enc := i64.enc) (v := c[i]) 0 1 rfl rfl (by decide) rfl (by simp; omega) (by decide) rfl fun s7 h4 st => ?_
    refine hX _ _ _ ⟨i + 1, s7, rfl, by omega, ?_, rfl⟩ (by omega)
    have st := st.drop 1 rfl
    rw [take_succ_getE hlt]; exact st
  · rw [show decide ((i : Int) < (s.len : Int)) = false by rw [l1]; exact dlt_f hlt, brB_false]
    rw [List.take_of_length_le (by omega)] at st
    exact hK _ _ ⟨st.res (by simp) 0 rfl, st.frame (by simp)⟩

end Go.Proofs.S

set_option linter.unusedVariables false
namespace Go.Cl
open Go.Sx

def insL (x : Int) : List Int → List Int
  | [] => [x]
  | y :: ys => if x = y then y :: ys else if ltL x y then x :: y :: ys else y :: insL x ys
def nrmF (c : List Int) : List Int := c.foldr insL []

theorem mem_insL {x z : Int} : ∀ {ys : List Int}, z ∈ insL x ys ↔ z = x ∨ z ∈ ys
  | [] => by simp [insL]
  | y :: ys => by
    unfold insL
    split
    · rename_i e; subst e; simp
    · split
      · simp
      · rw [List.mem_cons, mem_insL, List.mem_cons]
        constructor
        · rintro (h | h | h)
          · exact .inr (.inl h)
          · exact .inl h
          · exact .inr (.inr h)
        · rintro (h | h | h)
          · exact .inr (.inl h)
          · exact .inl h
          · exact .inr (.inr h)

theorem insL_strict {x : Int} : ∀ {ys : List Int}, Strict ys → Strict (insL x ys)
  | [], _ => by simp [insL]
  | y :: ys, h => by
    have h' := List.pairwise_cons.1 h
    unfold insL
    split
    · exact h
    · split
      · rename_i hlt
        exact List.pairwise_cons.2 ⟨fun z hz => by
          rcases List.mem_cons.1 hz with rfl | hz
          · exact hlt
          · exact ltL_trans hlt (h'.1 z hz), h⟩
      · rename_i hne hlt
        have hyx : ltL y x = true := by
          cases hh : ltL y x with
          | true => rfl
          | false => exact absurd (ltL_total (by simpa using hlt) hh) hne
        refine List.pairwise_cons.2 ⟨fun z hz => ?_, insL_strict h'.2⟩
        rcases mem_insL.1 hz with rfl | hz
        · exact hyx
        · exact h'.1 z hz

theorem nrmF_spec : ∀ (c : List Int), Strict (nrmF c) ∧ ∀ x, x ∈ nrmF c ↔ x ∈ c
  | [] => ⟨List.Pairwise.nil, fun x => Iff.rfl⟩
  | y :: ys => by
    obtain ⟨h1, h2⟩ := nrmF_spec ys
    exact ⟨insL_strict h1, fun x => by rw [show nrmF (y :: ys) = insL y (nrmF ys) from rfl, mem_insL, h2, List.mem_cons]⟩

def nrmT (c : List Int) : List Int := if c.all rt then nrmF c else nrm c
theorem nrm_T : nrm = nrmT := by
  funext c
  unfold nrmT
  split
  · rename_i h
    rw [List.all_eq_true] at h
    exact (nrm_eq h (nrmF_spec c).1 (nrmF_spec c).2).symm
  · rfl

theorem cmpL_zero : ∀ {xs ys : List Int}, cmpL cmpLit xs ys = 0 ↔ xs = ys
  | [], [] => by simp [cmpL]
  | [], y :: ys => by simp [cmpL]
  | x :: xs, [] => by simp [cmpL]
  | x :: xs, y :: ys => by
    simp only [cmpL]
    by_cases h : cmpLit x y = 0
    · rw [if_neg (by simp [h]), cmpL_zero, cmpLit_zero.1 h]; simp
    · rw [if_pos h]
      constructor
      · intro e; exact absurd e h
      · intro e; injection e with e1 e2; exact absurd (cmpLit_zero.2 e1) h

theorem same_compare {c d : List Int} (hr : rightC c = true) (hr2 : rightC d = true) : sameP c d = (compareP c d == 0) := by
  unfold sameP compareP
  rw [hr, hr2]
  simp only [Bool.and_self, Bool.true_and, if_true]
  by_cases hl : (nrm c).length = (nrm d).length
  · rw [hl, if_neg (by simp [cmpI_zero]), Bool.eq_iff_iff]
    simp [cmpL_zero]
  · have h0 : cmpI (nrm c).length (nrm d).length ≠ 0 := by rw [ne_eq, cmpI_zero]; omega
    rw [if_pos h0]
    have h1 : ¬ nrm c = nrm d := fun e => hl (by rw [e])
    rw [decide_eq_false h1]
    symm; simpa using h0

end Go.Cl

set_option linter.unusedVariables false
set_option linter.unusedSimpArgs false
namespace Go.Proofs.S
open Go Go.Sx Go.Proofs Go.Cl

variable {h : Heap} {c d : List Int} {s s2 : Sl} {fr : Fr} {G As : List Asn}

theorem u8_of {l : List Int} (hw : ∀ z ∈ l, 0 ≤ z ∧ z < 256) : ∀ n ∈ l, 0 ≤ n ∧ n ≤ 255 := fun n hn => by have := hw n hn; omega

def litOf (n : Int) : Int := if n % 2 = 1 then -(1 + n / 2 % 8) else 1 + n / 2 % 8
def madeP (l : List Int) : List Int := (l.take 20).map litOf
def U8 (l : List Int) : Prop := ∀ n ∈ l, 0 ≤ n ∧ n ≤ 255
abbrev lu (l : List Int) (s : Sl) : Asn := rsl (Ty.int .u8).enc l s

theorem wrap_u8 {x : Int} (h0 : 0 ≤ x) (h1 : x ≤ 255) : IntKind.wrap .u8 x = x := by
  have e : IntKind.wrap .u8 x = x % 256 := by simp [IntKind.wrap, IntKind.bits, IntKind.signed]
  rw [e]; omega

theorem made_step {x : Int} (h0 : 0 ≤ x) (h1 : x ≤ 255) : IntKind.wrap .i64 (IntKind.wrap .u8 ((1 : Int) + (Int.tmod (IntKind.wrap .u8 (Int.tdiv x (2 : Int))) (8 : Int)))) = 1 + x / 2 % 8 := by
  rw [Int.tdiv_eq_ediv_of_nonneg h0, wrap_u8 (x := x / 2) (by omega) (by omega), Int.tmod_eq_emod_of_nonneg (by omega), wrap_u8 (x := 1 + x / 2 % 8) (by omega) (by omega), wrap_i64 (by omega) (by omega)]

theorem made_c (hA : At h (lu c s)) (hu : U8 c) : callT Try.prog fn_salvorlaw02_Made #[.slice s.a s.len s.cap] .sl (fun s' h' => New h.size h' (lo (madeP c) s') ∧ Ext [] h h') h := by
  refine callT_gen fun K hK => S_salvorlaw02_Made (a0 := s) K ?_
  unfold F_salvorlaw02_Made
  have l1 := rsl_len hA
  have l2 := rsl_cap hA
  have em : (if (20 : Int) < (s.len : Int) then (20 : Int) else (s.len : Int)) = ((min c.length 20 : Nat) : Int) := by split <;> omega
  rw [em]
  refine ⟨Int.natCast_nonneg _, Int.ofNat_le.2 (show min c.length 20 ≤ s.cap by omega), ?_⟩
  rw [Int.toNat_natCast]
  have hS : At h (lu (c.take 20) (slR ⟨s.a, s.len, s.cap⟩ 0 (min c.length 20) 1)) := by
    have := rsl_sub hA (l := 0) (m := min c.length 20) (by omega) (by omega)
    have e : List.take (min c.length 20) c = c.take 20 := by
      rcases Nat.le_total c.length 20 with k | k
      · rw [Nat.min_eq_left k, List.take_length, List.take_of_length_le k]
      · rw [Nat.min_eq_right k]
    rw [e] at this; exact this
  generalize slR ⟨s.a, s.len, s.cap⟩ 0 (min c.length 20) 1 = s0 at hS
  have l3 := rsl_len hS
  unfold madeP at hK
  have hu2 : U8 (c.take 20) := fun n hn => hu n (List.mem_of_mem_take hn)
  have hl2 : (c.take 20).length ≤ 20 := by simp; omega
  generalize c.take 20 = d at *
  have st := (Hs.start h [] (by simp)).nil ty_lits_Lit i64.enc none
  refine lfp_invh (I := fun m σ h' => ∃ (i : Nat) (s' : Sl), σ = ((i : Int), s', ()) ∧ i ≤ d.length ∧ Hs [([], h)] [] [lo ((d.take i).map litOf) s'] h' ∧ m = d.length - i) ⟨_, 0, ⟨none, 0, 0⟩, rfl, by omega, st, rfl⟩ ?_
  clear st
  rintro m σ h2 X ⟨i, s', rfl, hi, st, em⟩ hX
  have hA1 := hS.ext (st.frame (by simp))
  simp only
  by_cases hlt : i < d.length
  · rw [show decide ((i : Int) < (s0.len : Int)) = true by rw [l3]; exact dlt_t hlt, brB_true, inc_i (show i < 4611686018427387904 by omega)]
    refine rdE (τ := .int .u8) hA1 hlt ?_
    obtain ⟨hx0, hx1⟩ := hu2 _ (List.getElem_mem hlt)
    refine ⟨by decide, by decide, by decide, jn_in fun J hJ => ?_⟩
    rw [made_step hx0 hx1, Int.tmod_eq_emod_of_nonneg hx0, wrap_i64 (x := 0 - (1 + d[i] / 2 % 8)) (by omega) (by omega)]
    have fin : J (litOf d[i], ()) h2 := by
      refine hJ _ _ ?_
      refine st.nw fun b9 h3 st => ?_
      refine st.apd (enc := i64.enc) (v := litOf d[i]) 0 1 rfl rfl (by decide) rfl (by simp; omega) (by decide) rfl fun s7 h4 st => ?_
      refine hX _ _ _ ⟨i + 1, s7, rfl, by omega, ?_, rfl⟩ (by omega)
      have st := st.drop 1 rfl
      rw [take_succ_getE hlt, List.map_append]; exact st
    unfold litOf at fin
    by_cases h2 : d[i] % 2 = 1
    · rw [show (d[i] % 2 == 1) = true by simp [h2], brB_true]
      rw [if_pos h2, ← Int.zero_sub] at fin; exact fin
    · rw [show (d[i] % 2 == 1) = false by simp [h2], brB_false]
      rw [if_neg h2] at fin; exact fin
  · rw [show decide ((i : Int) < (s0.len : Int)) = false by rw [l3]; exact dlt_f hlt, brB_false]
    rw [List.take_of_length_le (by omega)] at st
    exact hK _ _ ⟨st.res (by simp) 0 rfl, st.frame (by simp)⟩

def mlit (b v : Nat) : Int := if b / 2 ^ v % 2 = 1 then -((v : Int) + 1) else (v : Int) + 1
def modelP (b : Nat) : List Int := (List.range 8).map (mlit b)

theorem band_bit (b v : Nat) (hb : b < 256) (hv : v < 8) : (bAnd .u8 (Int.fdiv (b : Int) (2 ^ (min (v : Int).toNat 8))) 1 == 1) = decide (b / 2 ^ v % 2 = 1) := by
  have e1 : Int.fdiv (b : Int) (2 ^ (min (v : Int).toNat 8)) = ((b / 2 ^ v : Nat) : Int) := by
    rw [Int.toNat_natCast, Nat.min_eq_left (by omega), Int.fdiv_eq_ediv_of_nonneg _ (by exact Int.le_of_lt (Int.pow_pos (by decide)))]
    simp
  have hlt : b / 2 ^ v < 256 := Nat.lt_of_le_of_lt (Nat.div_le_self _ _) hb
  rw [e1]
  generalize b / 2 ^ v = x at hlt
  have e2 : bAnd .u8 (x : Int) 1 = ((x % 2 : Nat) : Int) := by
    unfold bAnd
    have e3 : (BitVec.ofInt 8 (x : Int) &&& BitVec.ofInt 8 1).toNat = x % 2 := by
      rw [BitVec.toNat_and]
      have e4 : (BitVec.ofInt 8 (x : Int)).toNat = x := by simp [BitVec.toNat_ofInt]; omega
      rw [e4, show (BitVec.ofInt 8 1).toNat = 1 from rfl, Nat.and_one_is_mod]
    show IntKind.wrap .u8 (((BitVec.ofInt 8 (x : Int) &&& BitVec.ofInt 8 1).toNat : Nat) : Int) = _
    rw [e3, wrap_u8 (by omega) (by omega)]
  rw [e2]
  rcases Nat.mod_two_eq_zero_or_one x with k | k <;> rw [k] <;> rfl

end Go.Proofs.S

set_option linter.unusedVariables false
namespace Go.Cl
open Go.Sx

theorem cmpI_vals (a b : Int) : cmpI a b = -1 ∨ cmpI a b = 0 ∨ cmpI a b = 1 := by unfold cmpI; split <;> (try split) <;> simp
theorem cmpI_anti (a b : Int) : cmpI a b = -cmpI b a := by unfold cmpI; split <;> (try split) <;> (try split) <;> omega
theorem cmpI_trans {a b c : Int} (h : cmpI a b ≤ 0) (k : cmpI b c ≤ 0) : cmpI a c ≤ 0 := by unfold cmpI at *; repeat' split at h <;> repeat' split at k <;> (try split) <;> (try split) <;> omega
theorem cmpLit_vals (a b : Int) : cmpLit a b = -1 ∨ cmpLit a b = 0 ∨ cmpLit a b = 1 := by
  unfold cmpLit; split <;> split <;> first | exact cmpI_vals _ _ | simp
theorem cmpLit_anti (a b : Int) : cmpLit a b = -cmpLit b a := by
  unfold cmpLit
  cases rt a <;> cases rt b <;> simp only [if_true, if_false, Bool.false_eq_true] <;> first | exact cmpI_anti _ _ | rfl

theorem cmpL_vals : ∀ xs ys : List Int, cmpL cmpLit xs ys = -1 ∨ cmpL cmpLit xs ys = 0 ∨ cmpL cmpLit xs ys = 1
  | [], [] => by simp [cmpL]
  | [], y :: ys => by simp [cmpL]
  | x :: xs, [] => by simp [cmpL]
  | x :: xs, y :: ys => by
    simp only [cmpL]
    split
    · exact cmpLit_vals x y
    · exact cmpL_vals xs ys
theorem cmpL_anti : ∀ xs ys : List Int, cmpL cmpLit xs ys = -cmpL cmpLit ys xs
  | [], [] => by simp [cmpL]
  | [], y :: ys => by simp [cmpL]
  | x :: xs, [] => by simp [cmpL]
  | x :: xs, y :: ys => by
    have e := cmpLit_anti x y
    simp only [cmpL]
    by_cases h : cmpLit x y = 0
    · have h2 : cmpLit y x = 0 := by omega
      rw [if_neg (by simp [h]), if_neg (by simp [h2])]; exact cmpL_anti xs ys
    · have h2 : ¬ cmpLit y x = 0 := by omega
      rw [if_pos h, if_pos h2]; exact e
theorem cmpL_trans : ∀ {xs ys zs : List Int}, cmpL cmpLit xs ys ≤ 0 → cmpL cmpLit ys zs ≤ 0 → cmpL cmpLit xs zs ≤ 0
  | [], _, [], _, _ => by simp [cmpL]
  | [], _, z :: zs, _, _ => by simp [cmpL]
  | x :: xs, [], _, h, _ => by simp [cmpL] at h
  | x :: xs, y :: ys, [], _, k => by simp [cmpL] at k
  | x :: xs, y :: ys, z :: zs, h, k => by
    simp only [cmpL] at h k ⊢
    by_cases h1 : cmpLit x y = 0
    · rw [if_neg (by simp [h1])] at h
      have exy := cmpLit_zero.1 h1
      subst exy
      by_cases h2 : cmpLit x z = 0
      · rw [if_neg (by simp [h2])] at k ⊢; exact cmpL_trans h k
      · rw [if_pos h2] at k ⊢; exact k
    · rw [if_pos h1] at h
      have hxy : ltL x y = true := by simp only [ltL, decide_eq_true_eq]; omega
      have hxz : ltL x z = true := by
        by_cases h2 : cmpLit y z = 0
        · rw [← cmpLit_zero.1 h2]; exact hxy
        · rw [if_pos h2] at k
          exact ltL_trans hxy (by simp only [ltL, decide_eq_true_eq]; omega)
      simp only [ltL, decide_eq_true_eq] at hxz
      rw [if_pos (by omega)]; omega

section
variable {a b c : List Int}

theorem compare_eq (ha : rightC a = true) (hb : rightC b = true) : compareP a b = if cmpI (nrm a).length (nrm b).length ≠ 0 then cmpI (nrm a).length (nrm b).length else cmpL cmpLit (nrm a) (nrm b) := by
  unfold compareP; rw [ha, hb]; rfl
theorem compare_vals (ha : rightC a = true) (hb : rightC b = true) : compareP a b = -1 ∨ compareP a b = 0 ∨ compareP a b = 1 := by
  rw [compare_eq ha hb]; split
  · exact cmpI_vals _ _
  · exact cmpL_vals _ _
theorem compare_anti (ha : rightC a = true) (hb : rightC b = true) : compareP a b = -compareP b a := by
  rw [compare_eq ha hb, compare_eq hb ha]
  have e := cmpI_anti (nrm a).length (nrm b).length
  by_cases h : cmpI (nrm a).length (nrm b).length = 0
  · rw [if_neg (by simp [h]), if_neg (by simp; omega)]; exact cmpL_anti _ _
  · rw [if_pos h, if_pos (by omega)]; exact e
theorem compare_trans (ha : rightC a = true) (hb : rightC b = true) (hc : rightC c = true) (h : compareP a b ≤ 0) (k : compareP b c ≤ 0) : compareP a c ≤ 0 := by
  rw [compare_eq ha hb] at h
  rw [compare_eq hb hc] at k
  rw [compare_eq ha hc]
  have z1 := @cmpI_zero (nrm a).length (nrm b).length
  have z2 := @cmpI_zero (nrm b).length (nrm c).length
  have z3 := @cmpI_zero (nrm a).length (nrm c).length
  have n1 := @cmpI_neg (nrm a).length (nrm b).length
  have n2 := @cmpI_neg (nrm b).length (nrm c).length
  have n3 := @cmpI_neg (nrm a).length (nrm c).length
  by_cases h1 : cmpI (nrm a).length (nrm b).length = 0
  · rw [if_neg (by simp [h1])] at h
    by_cases h2 : cmpI (nrm b).length (nrm c).length = 0
    · rw [if_neg (by simp [h2])] at k
      rw [if_neg (by simp; omega)]; exact cmpL_trans h k
    · rw [if_pos h2] at k
      rw [if_pos (by omega)]; omega
  · rw [if_pos h1] at h
    by_cases h2 : cmpI (nrm b).length (nrm c).length = 0
    · rw [if_pos (by omega)]; omega
    · rw [if_pos h2] at k
      rw [if_pos (by omega)]; omega
theorem compare_len (ha : rightC a = true) (hb : rightC b = true) (h : (nrm a).length < (nrm b).length) : compareP a b = -1 := by
  rw [compare_eq ha hb]
  have : cmpI (nrm a).length (nrm b).length = -1 := by unfold cmpI; rw [if_pos (by omega)]
  rw [this, if_pos (by decide)]
theorem nrm_nrm (ha : rightC a = true) : nrm (nrm a) = nrm a :=
  (nrm_eq (rightC_rt (right_nrm ha)) (strict_nrm ha) fun x => Iff.rfl).symm
theorem compare_nrm (ha : rightC a = true) (hb : rightC b = true) : compareP (nrm a) (nrm b) = compareP a b := by
  rw [compare_eq ha hb, compare_eq (right_nrm ha) (right_nrm hb), nrm_nrm ha, nrm_nrm hb]

theorem nrm_congr (ha : ∀ x ∈ a, rt x = true) (hb : ∀ x ∈ b, rt x = true) (hm : ∀ x, x ∈ a ↔ x ∈ b) : nrm a = nrm b :=
  nrm_eq hb (nrm_spec ha).1 fun x => ((nrm_spec ha).2 x).trans (hm x)
theorem nrm_inj (ha : ∀ x ∈ a, rt x = true) (hb : ∀ x ∈ b, rt x = true) (e : nrm a = nrm b) (x : Int) : x ∈ a ↔ x ∈ b := by
  rw [← (nrm_spec ha).2 x, e, (nrm_spec hb).2 x]

theorem has_iff (ha : rightC a = true) {x : Int} : hasC a x = true ↔ x ∈ a := by unfold hasC; rw [ha]; simp
theorem has_eq (ha : rightC a = true) (x : Int) : hasC a x = a.contains x := by unfold hasC; rw [ha]; rfl
theorem within_iff (ha : rightC a = true) (hb : rightC b = true) : withinP a b = true ↔ ∀ x ∈ a, x ∈ b := by unfold withinP; rw [ha, hb]; simp
theorem same_iff (ha : rightC a = true) (hb : rightC b = true) : sameP a b = true ↔ ∀ x, x ∈ a ↔ x ∈ b := by
  unfold sameP; rw [ha, hb]
  simp only [Bool.and_self, Bool.true_and, decide_eq_true_eq]
  exact ⟨nrm_inj (rightC_rt ha) (rightC_rt hb), nrm_congr (rightC_rt ha) (rightC_rt hb)⟩
theorem holds_iff (ha : rightC a = true) : holdsP a b = true ↔ ∃ x ∈ a, x ∈ b := by unfold holdsP; rw [ha]; simp
theorem always_iff : alwaysC a = true ↔ ∃ x ∈ a, -x ∈ a := by unfold alwaysC; simp

theorem union_eq (ha : rightC a = true) (hb : rightC b = true) (hl : a.length + b.length ≤ 4096) : unionP a b = (nrm (a ++ b), 0) := by
  have := nrm_length (a ++ b)
  rw [List.length_append] at this
  unfold unionP; rw [ha, hb]; simp only [Bool.and_self, if_true]; rw [if_neg (by omega)]
theorem right_app (ha : rightC a = true) (hb : rightC b = true) (hl : a.length + b.length ≤ 4096) : rightC (a ++ b) = true := by
  simp only [rightC, Bool.and_eq_true, List.all_eq_true, decide_eq_true_eq]
  exact ⟨by simpa using hl, fun x hx => (List.mem_append.1 hx).elim (rightC_rt ha x) (rightC_rt hb x)⟩
theorem without_eq (ha : rightC a = true) {l : Int} (hl : rt l = true) : withoutP a l = ((nrm a).filter (fun x => !(x == l)), 0) := by
  unfold withoutP; rw [ha, hl]; rfl
theorem mem_without (ha : rightC a = true) {l x : Int} (hl : rt l = true) : x ∈ (withoutP a l).1 ↔ x ∈ a ∧ x ≠ l := by
  rw [without_eq ha hl]
  simp only [List.mem_filter, Bool.not_eq_true', beq_eq_false_iff_ne, ne_eq, mem_nrm ha]
end

end Go.Cl

set_option linter.unusedVariables false
namespace Go.Cl
open Go.Sx

def varsP (n : Int) : Bool := decide (n ≥ 0) && decide (n ≤ 1048576)
def varL (x : Int) : Int := if rt x then (if x < 0 then -x else x) else 0
def beyP (n x : Int) : Bool := !rt x || decide (varL x > n)
def checkGo (n : Int) : Nat → List (List Int) → Int × Int
  | _, [] => (-1, 0)
  | i, c :: cs => if rightC c then (if c.any (beyP n) then ((i : Int), 51) else checkGo n (i + 1) cs) else ((i : Int), 20)
def checkP (n : Int) (cs : List (List Int)) : Int × Int := if varsP n then (if cs.length > 262144 then (-1, 5) else checkGo n 0 cs) else (-1, 50)

def GoodF (n : Int) (cs : List (List Int)) : Prop := varsP n = true ∧ cs.length ≤ 262144 ∧ ∀ c ∈ cs, rightC c = true ∧ ∀ x ∈ c, beyP n x = false

theorem checkGo_good {n : Int} : ∀ {cs : List (List Int)} {i : Nat}, (checkGo n i cs).2 = 0 ↔ ∀ c ∈ cs, rightC c = true ∧ ∀ x ∈ c, beyP n x = false
  | [], i => by simp [checkGo]
  | c :: cs, i => by
    unfold checkGo
    by_cases hr : rightC c = true
    · rw [if_pos hr]
      by_cases hb : c.any (beyP n) = true
      · rw [if_pos hb]
        constructor
        · intro h; simp at h
        · intro h
          obtain ⟨x, hx, hxb⟩ := List.any_eq_true.1 hb
          have := (h c (by simp)).2 x hx
          rw [this] at hxb; cases hxb
      · rw [if_neg hb, checkGo_good]
        have hb' : ∀ x ∈ c, beyP n x = false := by
          intro x hx
          cases h : beyP n x with
          | false => rfl
          | true => exact absurd (List.any_eq_true.2 ⟨x, hx, h⟩) hb
        constructor
        · intro h d hd
          rcases List.mem_cons.1 hd with rfl | hd
          · exact ⟨hr, hb'⟩
          · exact h d hd
        · intro h d hd; exact h d (by simp [hd])
    · rw [if_neg hr]
      constructor
      · intro h; simp at h
      · intro h; exact absurd (h c (by simp)).1 hr
theorem check_good {n : Int} {cs : List (List Int)} : (checkP n cs).2 = 0 ↔ GoodF n cs := by
  unfold checkP GoodF
  by_cases hv : varsP n = true
  · rw [if_pos hv]
    by_cases hl : cs.length > 262144
    · rw [if_pos hl]
      constructor
      · intro h; simp at h
      · intro h; omega
    · rw [if_neg hl, checkGo_good]
      exact ⟨fun h => ⟨hv, by omega, h⟩, fun h => h.2.2⟩
  · rw [if_neg hv]
    constructor
    · intro h; simp at h
    · intro h; exact absurd h.1 hv
theorem checkGo_ok {n : Int} : ∀ {cs : List (List Int)} {i : Nat}, (checkGo n i cs).2 = 0 → (checkGo n i cs).1 = -1
  | [], i, _ => rfl
  | c :: cs, i, h => by
    unfold checkGo at h ⊢
    split at h
    · split at h
      · simp at h
      · rw [if_pos (by assumption), if_neg (by assumption)]; exact checkGo_ok h
    · simp at h

end Go.Cl

set_option linter.unusedVariables false
namespace Go.Sx
open Go

def Inner {β : Type} (I : β → Sl → Asn) : List β → List Sl → List Nat → Heap → Prop
  | [], [], S, _ => S = []
  | x :: xs, p :: ps, S, h => ∃ S1 S2, S = S1 ++ S2 ∧ (I x p).P S1 h ∧ Inner I xs ps S2 h
  | _, _, _, _ => False

section
variable {β : Type} {I : β → Sl → Asn}

theorem Inner.loc : ∀ {xs : List β} {ps : List Sl} {S : List Nat} {h h' : Heap}, Inner I xs ps S h → h.size ≤ h'.size → (∀ b ∈ S, h'[b]? = h[b]?) → Inner I xs ps S h'
  | [], [], _, _, _, e, _, _ => e
  | x :: xs, p :: ps, S, h, h', ⟨S1, S2, e, hp, hi⟩, hz, hk => by
    subst e
    exact ⟨S1, S2, rfl, (I x p).loc hp hz fun b hb => hk b (List.mem_append_left _ hb), Inner.loc hi hz fun b hb => hk b (List.mem_append_right _ hb)⟩
  | [], _ :: _, _, _, _, e, _, _ => e.elim
  | _ :: _, [], _, _, _, e, _, _ => e.elim
theorem Inner.cel : ∀ {xs : List β} {ps : List Sl} {S : List Nat} {h : Heap}, Inner I xs ps S h → ∀ b ∈ S, isCells h b
  | [], [], _, _, e, b, hb => by cases e; cases hb
  | x :: xs, p :: ps, S, h, ⟨S1, S2, e, hp, hi⟩, b, hb => by
    subst e
    rcases List.mem_append.1 hb with hb | hb
    · exact (I x p).cel hp b hb
    · exact Inner.cel hi b hb
  | [], _ :: _, _, _, e, _, _ => e.elim
  | _ :: _, [], _, _, e, _, _ => e.elim

def rsg (I : β → Sl → Asn) (xs : List β) (s : Sl) : Asn where
  P := fun S h => ∃ ps S1 S2, S = S1 ++ S2 ∧ (rsl Ty.sl.enc ps s).P S1 h ∧ Inner I xs ps S2 h
  loc := fun {S h h'} ⟨ps, S1, S2, e, hp, hi⟩ hz hk => by
    subst e
    exact ⟨ps, S1, S2, rfl, (rsl Ty.sl.enc ps s).loc hp hz fun b hb => hk b (List.mem_append_left _ hb), hi.loc hz fun b hb => hk b (List.mem_append_right _ hb)⟩
  cel := fun {S h} ⟨ps, S1, S2, e, hp, hi⟩ b hb => by
    subst e
    rcases List.mem_append.1 hb with hb | hb
    · exact (rsl Ty.sl.enc ps s).cel hp b hb
    · exact hi.cel b hb

theorem Inner.len : ∀ {xs : List β} {ps : List Sl} {S : List Nat} {h : Heap}, Inner I xs ps S h → ps.length = xs.length
  | [], [], _, _, _ => rfl
  | x :: xs, p :: ps, S, h, ⟨S1, S2, e, hp, hi⟩ => by simp [Inner.len hi]
  | [], _ :: _, _, _, e => e.elim
  | _ :: _, [], _, _, e => e.elim
theorem Inner.get : ∀ {xs : List β} {ps : List Sl} {S : List Nat} {h : Heap}, Inner I xs ps S h → ∀ i (h1 : i < xs.length) (h2 : i < ps.length), At h (I xs[i] ps[i])
  | x :: xs, p :: ps, S, h, ⟨S1, S2, e, hp, hi⟩, 0, _, _ => ⟨S1, hp⟩
  | x :: xs, p :: ps, S, h, ⟨S1, S2, e, hp, hi⟩, i + 1, h1, h2 => Inner.get hi i (Nat.lt_of_succ_lt_succ h1) (Nat.lt_of_succ_lt_succ h2)
  | [], _, _, _, _, i, h1, _ => by simp at h1
  | _, [], _, _, _, i, _, h2 => by simp at h2

theorem rsg_open {xs : List β} {s : Sl} {h : Heap} (hA : At h (rsg I xs s)) : ∃ ps, ps.length = xs.length ∧ At h (rsl Ty.sl.enc ps s) ∧ ∀ i (h1 : i < xs.length) (h2 : i < ps.length), At h (I xs[i] ps[i]) := by
  obtain ⟨S, ps, S1, S2, e, hp, hi⟩ := hA
  exact ⟨ps, hi.len, ⟨S1, hp⟩, fun i h1 h2 => hi.get i h1 h2⟩

theorem Inner.make {n : Nat} : ∀ {xs : List β} {ps : List Sl} {h : Heap}, ps.length = xs.length → (∀ i (h1 : i < xs.length) (h2 : i < ps.length), New n h (I xs[i] ps[i])) → ∃ S, Inner I xs ps S h ∧ ∀ b ∈ S, n ≤ b
  | [], [], _, _, _ => ⟨[], rfl, by simp⟩
  | x :: xs, p :: ps, h, hl, hi => by
    obtain ⟨S1, hp, g1⟩ := hi 0 (by simp) (by simp)
    obtain ⟨S2, hs, g2⟩ := Inner.make (n := n) (xs := xs) (ps := ps) (h := h) (by simpa using hl) fun i h1 h2 => hi (i + 1) (Nat.succ_lt_succ h1) (Nat.succ_lt_succ h2)
    exact ⟨S1 ++ S2, ⟨S1, S2, rfl, hp, hs⟩, fun b hb => (List.mem_append.1 hb).elim (g1 b) (g2 b)⟩
  | [], _ :: _, _, hl, _ => by simp at hl
  | _ :: _, [], _, hl, _ => by simp at hl

theorem rsg_new {n : Nat} {xs : List β} {ps : List Sl} {s : Sl} {h : Heap} (hl : ps.length = xs.length) (ho : New n h (rsl Ty.sl.enc ps s)) (hi : ∀ i (h1 : i < xs.length) (h2 : i < ps.length), New n h (I xs[i] ps[i])) : New n h (rsg I xs s) := by
  obtain ⟨S1, hp, g1⟩ := ho
  obtain ⟨S2, hs, g2⟩ := Inner.make hl hi
  exact ⟨S1 ++ S2, ⟨ps, S1, S2, rfl, hp, hs⟩, fun b hb => (List.mem_append.1 hb).elim (g1 b) (g2 b)⟩
theorem At.new0 {h : Heap} {A : Asn} (hA : At h A) : New 0 h A := let ⟨S, p⟩ := hA; ⟨S, p, fun _ _ => Nat.zero_le _⟩
theorem rsg_at {xs : List β} {ps : List Sl} {s : Sl} {h : Heap} (hl : ps.length = xs.length) (ho : At h (rsl Ty.sl.enc ps s)) (hi : ∀ i (h1 : i < xs.length) (h2 : i < ps.length), At h (I xs[i] ps[i])) : At h (rsg I xs s) :=
  (rsg_new hl ho.new0 fun i h1 h2 => (hi i h1 h2).new0).at
theorem rsg_len {xs : List β} {s : Sl} {h : Heap} (hA : At h (rsg I xs s)) : s.len = xs.length := by
  obtain ⟨ps, hl, ho, _⟩ := rsg_open hA
  rw [rsl_len ho, hl]
theorem rdG {xs : List β} {s : Sl} {h : Heap} (hA : At h (rsg I xs s)) {i : Nat} (hi : i < xs.length) {K : Sl → HP} (hK : ∀ p, At h (I xs[i] p) → K p h) : sx s.a s.len (i : Int) 1 (fun p => ldT .sl p K) h := by
  obtain ⟨ps, hl, ho, hx⟩ := rsg_open hA
  exact rd_ok (τ := .sl) ho (List.getElem?_eq_getElem (show i < ps.length by omega)) (hK _ (hx i hi (by omega)))

end
end Go.Sx
