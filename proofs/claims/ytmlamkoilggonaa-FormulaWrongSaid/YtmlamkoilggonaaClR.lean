/-
  The reference over clauses: contracts.
-/
import Derived.Test.YtmlamkoilggonaaClD
import Derived.Test.YtmlamkoilggonaaClQ
set_option linter.unusedVariables false
namespace Go.Proofs.S
open Go Go.Sx Go.Proofs Go.Cl

variable {h : Heap} {c d : List Int} {s s2 : Sl} {fr : Fr} {G As : List Asn}
/-- A list of numbers of one's own. -/
abbrev io (c : List Int) (s : Sl) : Asn := osl ty_int i64.enc c s

/-! ### plain -/

theorem nrm_filter (hr : rightC c = true) (p : Int → Bool) : nrm (c.filter p) = (nrm c).filter p := by
  refine (nrm_eq (fun x hx => rightC_rt hr x (List.mem_filter.1 hx).1) ((strict_nrm hr).filter _) fun x => ?_).symm
  rw [List.mem_filter, List.mem_filter, mem_nrm hr]

theorem sel {N : List Int} (hs : Strict N) (hrt : ∀ x ∈ N, rt x = true) (hm : ∀ x, x ∈ N ↔ x ∈ c) {k : Nat} (hk : k ≤ N.length) {last b : Int} (hl : ∀ j (hj : j < N.length), ix N[j] > last ↔ k ≤ j)
    (hb : (b = -1 ∧ ∀ x ∈ c, ¬ ix x > last) ∨ (∃ x ∈ c, ix x = b ∧ ix x > last ∧ ∀ y ∈ c, ix y > last → b ≤ ix y)) : (k = N.length ∧ b = -1) ∨ (∃ hk : k < N.length, b = ix N[k]) := by
  rcases hb with ⟨rfl, hn⟩ | ⟨x, hx, e, hgt, hmin⟩
  · refine .inl ⟨?_, rfl⟩
    rcases Nat.lt_or_eq_of_le hk with h | h
    · exact absurd ((hl k h).2 (Nat.le_refl _)) (hn _ ((hm _).1 (List.getElem_mem h)))
    · exact h
  · obtain ⟨j, hj, rfl⟩ := List.mem_iff_getElem.1 ((hm x).2 hx)
    have hkj := (hl j hj).1 hgt
    have hkl : k < N.length := by omega
    refine .inr ⟨hkl, ?_⟩
    have h1 := hmin _ ((hm _).1 (List.getElem_mem hkl)) ((hl k hkl).2 (Nat.le_refl _))
    rcases Nat.lt_or_eq_of_le hkj with h | h
    · have := List.pairwise_iff_getElem.1 hs k j hkl hj h
      rw [ltL_rt (hrt _ (List.getElem_mem _)) (hrt _ (List.getElem_mem _))] at this
      omega
    · subst h; exact e.symm

theorem mem_take_succ {d : List Int} {i : Nat} (hi : i < d.length) {y : Int} : y ∈ d.take (i + 1) ↔ y ∈ d.take i ∨ y = d[i] := by rw [take_succ_getE hi, List.mem_append, List.mem_singleton]
theorem ix_nonneg {x : Int} (h : rt x = true) : 0 ≤ ix x := by have := rt_iff.1 h; unfold ix; split <;> omega

/-! ### salvorref01 -/

/-! ### salvorref02 -/

end Go.Proofs.S

/-
  The reference over clauses: Without, Clashes, Union, Resolve, Compare; lists of numbers as clauses and back.
-/
set_option linter.unusedVariables false
namespace Go.Proofs.S
open Go Go.Sx Go.Proofs Go.Cl

variable {h : Heap} {c d : List Int} {s s2 : Sl} {fr : Fr} {G As : List Asn}

/-! ### lists of numbers, clauses -/

theorem clause_c (hA : At h (li c s)) (hl : c.length ≤ 1048576) : callT Try.prog fn_salvorlaw02_Clause #[.slice s.a s.len s.cap] .sl (fun s' h' => New h.size h' (lo c s') ∧ Ext [] h h') h := by
  refine callT_gen fun K hK => S_salvorlaw02_Clause (a0 := s) K ?_
  unfold F_salvorlaw02_Clause
  have l1 := rsl_len hA
  have st := (Hs.start h [] (by simp)).nil ty_lits_Lit i64.enc none
  refine lfp_invh (I := fun m σ h' => ∃ (i : Nat) (s' : Sl), σ = ((i : Int), s', ()) ∧ i ≤ c.length ∧ Hs [([], h)] [] [lo (c.take i) s'] h' ∧ m = c.length - i) ⟨_, 0, ⟨none, 0, 0⟩, rfl, by omega, st, rfl⟩ ?_
  clear st
  rintro m σ h2 X ⟨i, s', rfl, hi, st, em⟩ hX
  have hA1 := hA.ext (st.frame (by simp))
  simp only
  by_cases hlt : i < c.length
  · rw [show decide ((i : Int) < (s.len : Int)) = true by rw [l1]; exact dlt_t hlt, brB_true, inc_i (show i < 4611686018427387904 by omega)]
    refine rdE (τ := i64) hA1 hlt ?_
    refine st.nw fun b9 h3 st => ?_
    refine st.apd (enc := i64.enc) (v := c[i]) 0 1 rfl rfl (by decide) rfl (by simp; omega) (by decide) rfl fun s7 h4 st => ?_
    refine hX _ _ _ ⟨i + 1, s7, rfl, by omega, ?_, rfl⟩ (by omega)
    have st := st.drop 1 rfl
    rw [take_succ_getE hlt]; exact st
  · rw [show decide ((i : Int) < (s.len : Int)) = false by rw [l1]; exact dlt_f hlt, brB_false]
    rw [List.take_of_length_le (by omega)] at st
    exact hK _ _ ⟨st.res (by simp) 0 rfl, st.frame (by simp)⟩

end Go.Proofs.S

/-
  The laws' helpers: awake, Made, Model, one, pair.
-/
set_option linter.unusedVariables false
set_option linter.unusedSimpArgs false
namespace Go.Proofs.S
open Go Go.Sx Go.Proofs Go.Cl

variable {h : Heap} {c d : List Int} {s s2 : Sl} {fr : Fr} {G As : List Asn}


theorem u8_of {l : List Int} (hw : ∀ z ∈ l, 0 ≤ z ∧ z < 256) : ∀ n ∈ l, 0 ≤ n ∧ n ≤ 255 := fun n hn => by have := hw n hn; omega

/-! ### Made, Model -/

def litOf (n : Int) : Int := if n % 2 = 1 then -(1 + n / 2 % 8) else 1 + n / 2 % 8
def madeP (l : List Int) : List Int := (l.take 20).map litOf
def U8 (l : List Int) : Prop := ∀ n ∈ l, 0 ≤ n ∧ n ≤ 255
abbrev lu (l : List Int) (s : Sl) : Asn := rsl (Ty.int .u8).enc l s

theorem wrap_u8 {x : Int} (h0 : 0 ≤ x) (h1 : x ≤ 255) : IntKind.wrap .u8 x = x := by
  have e : IntKind.wrap .u8 x = x % 256 := by simp [IntKind.wrap, IntKind.bits, IntKind.signed]
  rw [e]; omega

theorem made_step {x : Int} (h0 : 0 ≤ x) (h1 : x ≤ 255) : IntKind.wrap .i64 (IntKind.wrap .u8 ((1 : Int) + (Int.tmod (IntKind.wrap .u8 (Int.tdiv x (2 : Int))) (8 : Int)))) = 1 + x / 2 % 8 := by
  rw [Int.tdiv_eq_ediv_of_nonneg h0, wrap_u8 (x := x / 2) (by omega) (by omega), Int.tmod_eq_emod_of_nonneg (by omega), wrap_u8 (x := 1 + x / 2 % 8) (by omega) (by omega), wrap_i64 (by omega) (by omega)]

theorem made_c (hA : At h (lu c s)) (hu : U8 c) : callT Try.prog fn_salvorlaw02_Made #[.slice s.a s.len s.cap] .sl (fun s' h' => New h.size h' (lo (madeP c) s') ∧ Ext [] h h') h := by
  refine callT_gen fun K hK => S_salvorlaw02_Made (a0 := s) K ?_
  unfold F_salvorlaw02_Made
  have l1 := rsl_len hA
  have l2 := rsl_cap hA
  have em : (if (20 : Int) < (s.len : Int) then (20 : Int) else (s.len : Int)) = ((min c.length 20 : Nat) : Int) := by split <;> omega
  rw [em]
  refine ⟨Int.natCast_nonneg _, Int.ofNat_le.2 (show min c.length 20 ≤ s.cap by omega), ?_⟩
  rw [Int.toNat_natCast]
  have hS : At h (lu (c.take 20) (slR ⟨s.a, s.len, s.cap⟩ 0 (min c.length 20) 1)) := by
    have := rsl_sub hA (l := 0) (m := min c.length 20) (by omega) (by omega)
    have e : List.take (min c.length 20) c = c.take 20 := by
      rcases Nat.le_total c.length 20 with k | k
      · rw [Nat.min_eq_left k, List.take_length, List.take_of_length_le k]
      · rw [Nat.min_eq_right k]
    rw [e] at this; exact this
  generalize slR ⟨s.a, s.len, s.cap⟩ 0 (min c.length 20) 1 = s0 at hS
  have l3 := rsl_len hS
  unfold madeP at hK
  have hu2 : U8 (c.take 20) := fun n hn => hu n (List.mem_of_mem_take hn)
  have hl2 : (c.take 20).length ≤ 20 := by simp; omega
  generalize c.take 20 = d at *
  have st := (Hs.start h [] (by simp)).nil ty_lits_Lit i64.enc none
  refine lfp_invh (I := fun m σ h' => ∃ (i : Nat) (s' : Sl), σ = ((i : Int), s', ()) ∧ i ≤ d.length ∧ Hs [([], h)] [] [lo ((d.take i).map litOf) s'] h' ∧ m = d.length - i) ⟨_, 0, ⟨none, 0, 0⟩, rfl, by omega, st, rfl⟩ ?_
  clear st
  rintro m σ h2 X ⟨i, s', rfl, hi, st, em⟩ hX
  have hA1 := hS.ext (st.frame (by simp))
  simp only
  by_cases hlt : i < d.length
  · rw [show decide ((i : Int) < (s0.len : Int)) = true by rw [l3]; exact dlt_t hlt, brB_true, inc_i (show i < 4611686018427387904 by omega)]
    refine rdE (τ := .int .u8) hA1 hlt ?_
    obtain ⟨hx0, hx1⟩ := hu2 _ (List.getElem_mem hlt)
    refine ⟨by decide, by decide, by decide, jn_in fun J hJ => ?_⟩
    rw [made_step hx0 hx1, Int.tmod_eq_emod_of_nonneg hx0, wrap_i64 (x := 0 - (1 + d[i] / 2 % 8)) (by omega) (by omega)]
    have fin : J (litOf d[i], ()) h2 := by
      refine hJ _ _ ?_
      refine st.nw fun b9 h3 st => ?_
      refine st.apd (enc := i64.enc) (v := litOf d[i]) 0 1 rfl rfl (by decide) rfl (by simp; omega) (by decide) rfl fun s7 h4 st => ?_
      refine hX _ _ _ ⟨i + 1, s7, rfl, by omega, ?_, rfl⟩ (by omega)
      have st := st.drop 1 rfl
      rw [take_succ_getE hlt, List.map_append]; exact st
    unfold litOf at fin
    by_cases h2 : d[i] % 2 = 1
    · rw [show (d[i] % 2 == 1) = true by simp [h2], brB_true]
      rw [if_pos h2, ← Int.zero_sub] at fin; exact fin
    · rw [show (d[i] % 2 == 1) = false by simp [h2], brB_false]
      rw [if_neg h2] at fin; exact fin
  · rw [show decide ((i : Int) < (s0.len : Int)) = false by rw [l3]; exact dlt_f hlt, brB_false]
    rw [List.take_of_length_le (by omega)] at st
    exact hK _ _ ⟨st.res (by simp) 0 rfl, st.frame (by simp)⟩

def mlit (b v : Nat) : Int := if b / 2 ^ v % 2 = 1 then -((v : Int) + 1) else (v : Int) + 1
def modelP (b : Nat) : List Int := (List.range 8).map (mlit b)

theorem band_bit (b v : Nat) (hb : b < 256) (hv : v < 8) : (bAnd .u8 (Int.fdiv (b : Int) (2 ^ (min (v : Int).toNat 8))) 1 == 1) = decide (b / 2 ^ v % 2 = 1) := by
  have e1 : Int.fdiv (b : Int) (2 ^ (min (v : Int).toNat 8)) = ((b / 2 ^ v : Nat) : Int) := by
    rw [Int.toNat_natCast, Nat.min_eq_left (by omega), Int.fdiv_eq_ediv_of_nonneg _ (by exact Int.le_of_lt (Int.pow_pos (by decide)))]
    simp
  have hlt : b / 2 ^ v < 256 := Nat.lt_of_le_of_lt (Nat.div_le_self _ _) hb
  rw [e1]
  generalize b / 2 ^ v = x at hlt
  have e2 : bAnd .u8 (x : Int) 1 = ((x % 2 : Nat) : Int) := by
    unfold bAnd
    have e3 : (BitVec.ofInt 8 (x : Int) &&& BitVec.ofInt 8 1).toNat = x % 2 := by
      rw [BitVec.toNat_and]
      have e4 : (BitVec.ofInt 8 (x : Int)).toNat = x := by simp [BitVec.toNat_ofInt]; omega
      rw [e4, show (BitVec.ofInt 8 1).toNat = 1 from rfl, Nat.and_one_is_mod]
    show IntKind.wrap .u8 (((BitVec.ofInt 8 (x : Int) &&& BitVec.ofInt 8 1).toNat : Nat) : Int) = _
    rw [e3, wrap_u8 (by omega) (by omega)]
  rw [e2]
  rcases Nat.mod_two_eq_zero_or_one x with k | k <;> rw [k] <;> rfl

end Go.Proofs.S
