/-
  The laws' helpers of rup: Made, All, True, AllTrue.
-/
import Derived.Test.YtjkgncibelojnaaGreatRuE
set_option linter.unusedVariables false
set_option linter.unusedSimpArgs false
namespace Go.Proofs.S
open Go Go.Sx Go.Proofs Go.Cl Go.Rp

variable {h : Heap} {c d A us : List Int} {cs ds hs : List (List Int)} {s s2 : Sl} {fr : Fr} {G As : List Asn} {b n : Nat} {t : TypeId}

def litR (n : Int) : Int := if n % 2 = 1 then -(1 + n % 256 / 2 % 6) else 1 + n % 256 / 2 % 6
def madeR (l : List Int) : List Int := (l.take 6).map litR
def allR (l : List (List Int)) (most : Nat) : List (List Int) := (l.take most).map madeR
abbrev l8 (l : List Int) (s : Sl) : Asn := rsl (Ty.int .i8).enc l s
abbrev ll8 (l : List (List Int)) (s : Sl) : Asn := rsg (fun c p => l8 c p) l s
abbrev llo (l : List (List Int)) (s : Sl) : Asn := osg (fun c p => lo c p) ty_clauses_Clause l s

theorem litR_range (n : Int) : litR n ≠ 0 ∧ -6 ≤ litR n ∧ litR n ≤ 6 := by unfold litR; split <;> omega
theorem madeR_range {l : List Int} {x : Int} (hx : x ∈ madeR l) : x ≠ 0 ∧ -6 ≤ x ∧ x ≤ 6 := by
  unfold madeR at hx
  rw [List.mem_map] at hx
  obtain ⟨n, _, rfl⟩ := hx
  exact litR_range n
theorem madeR_len (l : List Int) : (madeR l).length ≤ 6 := by unfold madeR; simp; omega
theorem madeR_right (l : List Int) : rightC (madeR l) = true := by
  have := madeR_len l
  simp only [rightC, Bool.and_eq_true, decide_eq_true_eq, List.all_eq_true]
  exact ⟨by omega, fun x hx => rt_iff.2 (by have := madeR_range hx; omega)⟩
theorem allR_mem {l : List (List Int)} {m : Nat} {c : List Int} (h : c ∈ allR l m) : ∃ d, c = madeR d := by
  unfold allR at h
  rw [List.mem_map] at h
  obtain ⟨d, _, e⟩ := h
  exact ⟨d, e.symm⟩
theorem allR_len (l : List (List Int)) (m : Nat) : (allR l m).length ≤ m := by unfold allR; simp; omega
theorem allR_right (l : List (List Int)) (m : Nat) : ∀ c ∈ allR l m, rightC c = true := fun c hc => by obtain ⟨d, rfl⟩ := allR_mem hc; exact madeR_right d
theorem flat_le {m k : Nat} : ∀ {l : List (List Int)}, l.length ≤ m → (∀ c ∈ l, c.length ≤ k) → l.flatten.length ≤ l.length * k
  | [], _, _ => by simp
  | c :: l, hl, hc => by
    have := flat_le (m := m) (k := k) (l := l) (by simp at hl; omega) fun d hd => hc d (by simp [hd])
    have := hc c (by simp)
    simp only [List.flatten_cons, List.length_append, List.length_cons, Nat.succ_mul]; omega

theorem band1 {k : IntKind} {x : Int} (hk : k = .i8 ∨ k = .i64) : bAnd k x 1 = x % 2 := by
  have key : ∀ w : Nat, 1 < w → ((BitVec.ofInt w x &&& BitVec.ofInt w 1).toNat : Int) = x % 2 := by
    intro w hw
    rw [BitVec.toNat_and]
    have e1 : (BitVec.ofInt w 1).toNat = 1 := by
      rw [BitVec.toNat_ofInt]
      have : (1 : Int) % ((2 ^ w : Nat) : Int) = 1 := Int.emod_eq_of_lt (by decide) (by
        have : 1 < 2 ^ w := Nat.one_lt_two_pow (by omega)
        exact_mod_cast this)
      rw [this]; rfl
    rw [e1, Nat.and_one_is_mod, BitVec.toNat_ofInt]
    have hp : (0 : Int) < ((2 ^ w : Nat) : Int) := by exact_mod_cast Nat.two_pow_pos w
    have h0 := Int.emod_nonneg x (Int.ne_of_gt hp)
    rw [Int.natCast_emod, Int.toNat_of_nonneg h0]
    have : ((2 : Nat) : Int) ∣ ((2 ^ w : Nat) : Int) := Int.natCast_dvd_natCast.2 (by have := Nat.pow_dvd_pow 2 (show 1 ≤ w by omega); simpa using this)
    exact Int.emod_emod_of_dvd x this
  have hr : 0 ≤ x % 2 ∧ x % 2 < 2 := ⟨Int.emod_nonneg _ (by decide), Int.emod_lt_of_pos _ (by decide)⟩
  rcases hk with rfl | rfl
  · unfold bAnd
    show IntKind.wrap .i8 (((BitVec.ofInt 8 x &&& BitVec.ofInt 8 1).toNat : Nat) : Int) = _
    rw [key 8 (by decide)]
    have : ∀ y : Int, 0 ≤ y → y < 2 → IntKind.wrap .i8 y = y := by
      intro y h0 h1
      have : y = 0 ∨ y = 1 := by omega
      rcases this with rfl | rfl <;> rfl
    exact this _ hr.1 hr.2
  · unfold bAnd
    show IntKind.wrap .i64 (((BitVec.ofInt 64 x &&& BitVec.ofInt 64 1).toNat : Nat) : Int) = _
    rw [key 64 (by decide), wrap_i64 (by omega) (by omega)]

theorem madeR_step {x : Int} : IntKind.wrap .i64 ((1 : Int) + (Int.tmod (IntKind.wrap .i64 (IntKind.wrap .u8 (Int.tdiv (IntKind.wrap .u8 x) (2 : Int)))) (6 : Int))) = 1 + x % 256 / 2 % 6 := by
  have e : IntKind.wrap .u8 x = x % 256 := by simp [IntKind.wrap, IntKind.bits, IntKind.signed]
  rw [e, Int.tdiv_eq_ediv_of_nonneg (by omega), wrap_u8 (by omega) (by omega), wrap_i64 (x := x % 256 / 2) (by omega) (by omega), Int.tmod_eq_emod_of_nonneg (by omega), wrap_i64 (by omega) (by omega)]

theorem takeS {α : Type} {c : List α} {m : Nat} : c.take (min c.length m) = c.take m := by
  rcases Nat.le_total c.length m with k | k
  · rw [Nat.min_eq_left k, List.take_length, List.take_of_length_le k]
  · rw [Nat.min_eq_right k]

theorem Made_c (hA : At h (l8 c s)) : callT Tryz.prog fn_salvorlaw08_Made #[.slice s.a s.len s.cap] .sl (fun s' h' => New h.size h' (lo (madeR c) s') ∧ Ext [] h h') h := by
  refine callT_gen fun K hK => S_salvorlaw08_Made (a0 := s) K ?_
  unfold F_salvorlaw08_Made
  have l1 := rsl_len hA
  have l2 := rsl_cap hA
  have em : (if (6 : Int) < (s.len : Int) then (6 : Int) else (s.len : Int)) = ((min c.length 6 : Nat) : Int) := by split <;> omega
  rw [em]
  refine ⟨Int.natCast_nonneg _, Int.ofNat_le.2 (show min c.length 6 ≤ s.cap by omega), ?_⟩
  rw [Int.toNat_natCast]
  have hS : At h (l8 (c.take 6) (slR ⟨s.a, s.len, s.cap⟩ 0 (min c.length 6) 1)) := by
    have := rsl_sub hA (l := 0) (m := min c.length 6) (by omega) (by omega)
    rw [takeS] at this; exact this
  generalize slR ⟨s.a, s.len, s.cap⟩ 0 (min c.length 6) 1 = s0 at hS
  have l3 := rsl_len hS
  unfold madeR at hK
  have hl2 : (c.take 6).length ≤ 6 := by simp; omega
  generalize c.take 6 = d at *
  have st := (Hs.start h [l8 d s0] (by simp [hS])).nil ty_lits_Lit i64.enc none
  refine lfp_invh (I := fun m σ h' => ∃ (i : Nat) (s' : Sl), σ = ((i : Int), s', ()) ∧ i ≤ d.length ∧ Hs [([], h)] [l8 d s0] [lo ((d.take i).map litR) s'] h' ∧ m = d.length - i) ⟨_, 0, ⟨none, 0, 0⟩, rfl, by omega, st, rfl⟩ ?_
  clear st
  rintro m σ h2 X ⟨i, s', rfl, hi, st, em⟩ hX
  simp only
  by_cases hlt : i < d.length
  · refine brT (by rw [l3]; exact dlt_t hlt) ?_
    refine rdE (τ := .int .i8) (st.fz 0 rfl) hlt ?_
    refine ⟨by decide, by decide, jn_in fun J hJ => ?_⟩
    rw [madeR_step, band1 (.inl rfl), wrap_i64 (x := 0 - (1 + d[i] % 256 / 2 % 6)) (by omega) (by omega), inc_i (by omega)] at *
    have fin : J (litR d[i], ()) h2 := by
      refine hJ _ _ ?_
      refine st.nw fun b9 h3 st => ?_
      refine st.apd (enc := i64.enc) (v := litR d[i]) 0 1 rfl rfl (by decide) rfl (by simp; omega) (by decide) rfl fun s7 h4 st => ?_
      refine hX _ _ _ ⟨i + 1, s7, rfl, by omega, ?_, rfl⟩ (by omega)
      have st := st.drop 1 rfl
      rw [take_lt hlt, List.map_append]; exact st
    unfold litR at fin
    by_cases h2 : d[i] % 2 = 1
    · rw [if_pos h2] at fin
      refine brT (by simp [h2]) ?_
      rw [show (0 : Int) - (1 + d[i] % 256 / 2 % 6) = -(1 + d[i] % 256 / 2 % 6) by omega]; exact fin
    · rw [if_neg h2] at fin
      exact brF (by simpa using h2) fin
  · refine brF (by rw [l3]; exact dlt_f hlt) ?_
    rw [List.take_of_length_le (by omega)] at st
    exact hK _ _ ⟨st.res (by simp) 0 rfl, st.frame (by simp)⟩

theorem All_c {m : Nat} (hA : At h (ll8 cs s)) (hm : m ≤ 1000) : callT Tryz.prog fn_salvorlaw08_All #[.slice s.a s.len s.cap, .int .i64 m] .sl (fun s' h' => New h.size h' (llo (allR cs m) s') ∧ Ext [] h h') h := by
  refine callT_gen fun K hK => S_salvorlaw08_All (a0 := s) (a1 := (m : Int)) K ?_
  unfold F_salvorlaw08_All
  obtain ⟨ps, lp, ho, hrow⟩ := rsg_open hA
  have l1 := rsl_len ho
  have l2 := rsl_cap ho
  have em : (if (m : Int) < (s.len : Int) then (m : Int) else (s.len : Int)) = ((min ps.length m : Nat) : Int) := by split <;> omega
  rw [em]
  refine ⟨Int.natCast_nonneg _, Int.ofNat_le.2 (show min ps.length m ≤ s.cap by omega), ?_⟩
  rw [Int.toNat_natCast]
  have hS : At h (ll8 (cs.take m) (slR ⟨s.a, s.len, s.cap⟩ 0 (min ps.length m) 1)) := by
    have := rsl_sub ho (l := 0) (m := min ps.length m) (by omega) (by omega)
    rw [List.drop_zero, takeS] at this
    refine rsg_at (ps := ps.take m) (by simp; omega) this fun i h1 h2 => ?_
    simp only [List.getElem_take]
    exact hrow i _ _
  generalize slR ⟨s.a, s.len, s.cap⟩ 0 (min ps.length m) 1 = s0 at hS
  have l3 := rsg_len hS
  unfold allR at hK
  have hl2 : (cs.take m).length ≤ m := by simp; omega
  clear ho hrow lp l1 l2 em
  generalize cs.take m = d at *
  have st := (Hs.start h [ll8 d s0] (by simp [hS])).nilg (fun c p => lo c p) ty_clauses_Clause none
  refine lfp_invh (I := fun m σ h' => ∃ (i : Nat) (s' : Sl), σ = ((i : Int), s', ()) ∧ i ≤ d.length ∧ Hs [([], h)] [ll8 d s0] [llo ((d.take i).map madeR) s'] h' ∧ m = d.length - i) ⟨_, 0, ⟨none, 0, 0⟩, rfl, by omega, st, rfl⟩ ?_
  clear st
  rintro m' σ h2 X ⟨i, s', rfl, hi, st, em⟩ hX
  simp only
  by_cases hlt : i < d.length
  · refine brT (by rw [l3]; exact dlt_t hlt) ?_
    refine rdG (st.fz 0 rfl) hlt fun p hp => ?_
    refine call_of (Made_c hp) ?_
    rintro s5 h3 ⟨n5, x5⟩
    have st := st.new x5 n5
    refine st.nw fun b6 h4 st => ?_
    refine Hs.apdG (I := fun c p => lo c p) (x := madeR d[i]) (p := s5) st 0 2 1 rfl rfl rfl (by decide) (by decide) (by simp; omega) (by decide) rfl fun s7 h5 st => ?_
    have st := (st.drop 2 rfl).drop 1 rfl
    rw [inc_i (by omega)]
    refine hX _ _ _ ⟨i + 1, s7, rfl, by omega, ?_, rfl⟩ (by omega)
    rw [take_lt hlt, List.map_append]; exact st
  · refine brF (by rw [l3]; exact dlt_f hlt) ?_
    rw [List.take_of_length_le (by omega)] at st
    exact hK _ _ ⟨st.res (by simp) 0 rfl, st.frame (by simp)⟩

end Go.Proofs.S
