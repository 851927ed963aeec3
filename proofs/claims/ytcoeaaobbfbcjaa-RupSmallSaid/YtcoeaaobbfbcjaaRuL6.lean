/-
  RupSteps.
-/
import Derived.Test.YtcoeaaobbfbcjaaRuY
import Derived.Test.YtcoeaaobbfbcjaaSxCp
import Derived.Test.YtcoeaaobbfbcjaaSxOv
set_option linter.unusedVariables false
set_option linter.unusedSimpArgs false
namespace Go.Proofs.S
open Go Go.Sx Go.Proofs Go.Cl Go.Rp

variable {h : Heap} {c d A us o e : List Int} {cs ds hs l : List (List Int)} {s s2 s3 s4 : Sl} {fr : Fr} {G As : List Asn} {b n : Nat} {t : TypeId}

theorem rsg_drop (hA : At h (lli cs s)) {n : Nat} (hn : n ≤ cs.length) : At h (lli (cs.drop n) (slR s n s.len 1)) := by
  obtain ⟨ps, lp, ho, hrow⟩ := lli_open hA
  have ls := rsl_len ho
  have h1 := rsl_sub ho (l := n) (m := ps.length) (by omega) (Nat.le_refl _)
  rw [List.take_length] at h1
  rw [ls]
  refine rsg_at (ps := ps.drop n) (by simp; omega) h1 fun i h1 h2 => ?_
  simp only [List.getElem_drop]
  exact hrow _ _ _

set_option maxRecDepth 4000 in
theorem rupSteps_F {cut : Int} (hA : At h (l8 c s)) (hB : At h (ll8 cs s2)) (hw : 0 ≤ cut ∧ cut < 256) (K : Bool → HP) (hK : ∀ x h', (x = true ∧ Ext [] h h') → K x h') : F_salvorlaw08_RupSteps s s2 cut K h := by
  unfold F_salvorlaw08_RupSteps
  have st := Hs.start h [l8 c s, ll8 cs s2] (by simp [hA, hB])
  refine call_of (awake_c h) ?_
  rintro _ h1 ⟨rfl, x1⟩
  refine brF rfl ?_
  have st := st.ext x1
  refine call_of (Made_c (st.fz 0 rfl)) ?_
  rintro r1 h2 ⟨n2, x2⟩
  have st := (st.new x2 n2).froz 0 rfl
  have hcl := madeR_len c
  generalize madeR c = mc at *
  have lr1 : r1.len = mc.length := rsl_len (st.fz 2 rfl)
  refine call_of (Right_c (st.fz 2 rfl) (by omega)) ?_
  rintro _ h3 ⟨rfl, x3⟩
  have st := st.ext x3
  cases ho : okA mc
  · refine brT rfl ?_
    refine call_of (Follow_c (cs := []) (st.fz 2 rfl) (lli_nil _) (by omega) (by decide)) ?_
    rintro _ h4 ⟨s4, rfl, n4, x4⟩
    have st := st.ext x4
    have e1 : followF mc [] = ([], 0, false, 80) := by unfold followF; rw [ho]; rfl
    rw [e1]
    exact hK _ _ ⟨rfl, st.frame (by simp)⟩
  refine brF rfl ?_
  refine call_of (All_c (m := 10) (st.fz 1 rfl) (by decide)) ?_
  rintro r4 h4 ⟨n4, x4⟩
  have hr := allR_right cs 10
  have hl := allR_len cs 10
  have st := (st.new x4 n4).freeze 0 rfl
  simp only [List.cons_append, List.nil_append, List.eraseIdx_cons_zero] at st
  generalize allR cs 10 = l at *
  have hl' : l.length ≤ 65536 := by omega
  have gl := fun {h' : Heap} {X As : List Asn} (st : Hs [([], h)] ([l8 c s, ll8 cs s2, rsl i64.enc mc r1, llo l r4] ++ X) As h') => llo_lli (st.fz 3 rfl)
  have lr4 : r4.len = l.length := rsg_len (gl (X := []) st)
  have hcap : r4.len ≤ r4.cap := by
    obtain ⟨ps, _, k, _⟩ := lli_open (gl (X := []) st)
    exact rsl_cap k
  refine call_of (Follow_c (st.fz 2 rfl) (gl (X := []) st) (by omega) (by omega)) ?_
  rintro _ h5 ⟨s5, rfl, n5, x5⟩
  have st := (st.new x5 n5).froz 0 rfl
  simp only [List.cons_append, List.nil_append, List.eraseIdx_cons_zero] at st
  have e1 : IntKind.wrap .i64 ((r4.len : Int) + 1) = ((l.length + 1 : Nat) : Int) := by rw [lr4, inc_i (by omega)]
  rw [e1]
  refine ⟨by omega, ?_⟩
  obtain ⟨k, hk, hkl⟩ : ∃ k : Nat, Int.tmod (IntKind.wrap .i64 cut) ((l.length + 1 : Nat) : Int) = k ∧ k ≤ l.length := by
    rw [wrap_i64 (by omega) (by omega), Int.tmod_eq_emod_of_nonneg (by omega)]
    have h1 := Int.emod_nonneg cut (show ((l.length + 1 : Nat) : Int) ≠ 0 by omega)
    have h2 := Int.emod_lt_of_pos cut (show (0 : Int) < ((l.length + 1 : Nat) : Int) by omega)
    exact ⟨(cut % ((l.length + 1 : Nat) : Int)).toNat, by omega, by omega⟩
  rw [hk]
  refine ⟨by omega, by show (k : Int) ≤ (r4.cap : Int); omega, ?_⟩
  rw [Int.toNat_natCast]
  refine call_of (Follow_c (st.fz 2 rfl) (rsg_take (gl (X := [_]) st) hkl) (by omega) (by simp; omega)) ?_
  rintro _ h6 ⟨s7, rfl, n6, x6⟩
  have st := (st.new x6 n6).froz 0 rfl
  simp only [List.cons_append, List.nil_append, List.eraseIdx_cons_zero] at st
  have eF := followF_eq ho hr hl'
  have eF1 := followF_eq (hs := l.take k) ho (fun d hd => hr d (List.mem_of_mem_take hd)) (by simp; omega)
  have hap := steps_app (A := mc) hkl
  have hmore1 := follow_more_le mc (l.take k)
  have lt := List.length_take_le k l
  have hmore := follow_more_le mc l
  have hun := follow_units (cs := l) (A := mc)
  have hok1 := follow_ok (cs := l.take k) ho fun d hd => rightC_rt (hr d (List.mem_of_mem_take hd))
  have hok := follow_ok (cs := l) ho fun d hd => rightC_rt (hr d hd)
  have herr := follow_err mc l
  have l5 := rsl_len (st.fz 4 rfl)
  have l7 := rsl_len (st.fz 5 rfl)
  have c5 := rsl_cap (st.fz 4 rfl)
  have fin : ∀ {As h'}, Hs [([], h)] [l8 c s, ll8 cs s2, rsl i64.enc mc r1, llo l r4, rsl i64.enc (followF mc l).1 s5, rsl i64.enc (followF mc (l.take k)).1 s7] As h' → K true h' := fun st => hK _ _ ⟨rfl, st.frame (by simp)⟩
  by_cases he1 : (followP mc (l.take k)).2.2.2 = 0
  rotate_left
  · rw [if_pos (.inl he1)] at hap
    rw [if_pos he1] at eF1
    rw [hap, if_pos he1] at eF
    rw [eF1] at l7
    refine brT (by rw [eF1]; simpa using he1) ?_
    rw [eF, eF1]
    refine jn_in fun J hJ => brT (by simp) (hJ _ _ ?_)
    refine jn_in fun J hJ => brT (by simp) (hJ _ _ ?_)
    have : s7.len = 0 := l7
    rw [show ((s7.len : Int) == 0) = true by simp [this]]
    exact fin st
  rw [if_neg (by simpa using he1)] at eF1
  have E1 : followF mc (l.take k) = (mc ++ (followP mc (l.take k)).1, (followP mc (l.take k)).2.1, (followP mc (l.take k)).2.2.1, 0) := eF1
  refine brF (by rw [E1]; rfl) ?_
  by_cases hf1 : (followP mc (l.take k)).2.2.1 = true
  · rw [if_pos (.inr hf1)] at hap
    rw [hap, if_neg (by simpa using he1)] at eF
    refine brT (by rw [E1]; exact hf1) ?_
    rw [eF, E1]
    refine jn_in fun J hJ => brT rfl (hJ _ _ ?_)
    refine jn_in fun J hJ => brT hf1 (hJ _ _ ?_)
    refine jn_in fun J hJ => brT (by simp) ?_
    refine call_of (equal_lit (st.fz 4 rfl) (st.fz 5 rfl) (by rw [eF]; simp; omega)) ?_
    rintro _ h7 ⟨rfl, e'⟩; subst e'
    refine hJ _ _ ?_
    rw [show decide ((followF mc l).1 = (followF mc (l.take k)).1) = true from decide_eq_true (by rw [eF, E1])]
    exact fin st
  refine brF (by rw [E1]; simpa using hf1) ?_
  rw [if_neg (by simp [he1, hf1])] at hap
  refine ⟨by omega, by show (k : Int) ≤ (r4.len : Int); omega, ?_⟩
  rw [Int.toNat_natCast]
  have eM : (followF mc (l.take k)).1 = mc ++ (followP mc (l.take k)).1 := by rw [E1]
  have ha7 : At h6 (li (mc ++ (followP mc (l.take k)).1) s7) := by rw [← eM]; exact st.fz 5 rfl
  refine call_of (Follow_c ha7 (rsg_drop (gl (X := [_, _]) st) hkl) (by simp; omega) (by simp; omega)) ?_
  rintro _ h7 ⟨s20, rfl, n7, x7⟩
  have st := st.new x7 n7
  have eF2 := followF_eq (hs := l.drop k) hok1 (fun d hd => hr d (List.mem_of_mem_drop hd)) (by simp; omega)
  have hmore2 := follow_more_le (mc ++ (followP mc (l.take k)).1) (l.drop k)
  have n2le := follow_le (mc ++ (followP mc (l.take k)).1) (l.drop k)
  generalize hP2 : followP (mc ++ (followP mc (l.take k)).1) (l.drop k) = P2 at *
  generalize hF2 : followF (mc ++ (followP mc (l.take k)).1) (l.drop k) = F2 at *
  simp only [List.length_drop] at n2le hmore2
  -- what both come to
  have same : (followF mc l).2.2.2 = F2.2.2.2 ∧ ((followF mc l).2.1 : Int) = (k : Int) + F2.2.1 ∧ (followF mc l).2.2.1 = F2.2.2.1 ∧ (followF mc l).1 = F2.1 ∧ F2.2.1 ≤ l.length := by
    rw [eF, eF2, hap]
    by_cases h0 : P2.2.2.2 = 0
    · simp [h0, List.append_assoc]; omega
    · simp [h0]; omega
  obtain ⟨q1, q2, q3, q4, q5⟩ := same
  refine jn_in fun J hJ => brF (by simp [q1]) (hJ _ _ ?_)
  have w1 : IntKind.wrap .i64 ((k : Int) + ((F2.2.1 : Nat) : Int)) = ((followF mc l).2.1 : Int) := by rw [wrap_i64 (by omega) (by omega)]; exact q2.symm
  simp only
  rw [w1]
  refine jn_in fun J hJ => brF (by simp) (hJ _ _ ?_)
  refine jn_in fun J hJ => brF (by simp [q3]) ?_
  have lF : (followF mc l).1.length ≤ 16 := by rw [eF]; split <;> simp <;> omega
  refine call_of (equal_lit (st.fz 4 rfl) (st.own 0 rfl).rsl (by omega)) ?_
  rintro _ h8 ⟨rfl, e'⟩; subst e'
  refine hJ _ _ (brF (by rw [decide_eq_true q4]; rfl) ?_)
  have st := st.drop 0 rfl
  by_cases h0 : (followP mc l).2.2.2 = 0
  rotate_left
  · rw [if_pos h0] at eF
    rw [eF]
    refine brT (by simpa using h0) ?_
    rw [show ((followP mc l).2.2.2 == 81) = true by simpa using herr.resolve_left h0]
    exact fin st
  rw [if_neg (by simpa using h0)] at eF
  have eA : (followF mc l).1 = mc ++ (followP mc l).1 := by rw [eF]
  have g4 : ∀ {h' : Heap} {As : List Asn}, Hs [([], h)] [l8 c s, ll8 cs s2, rsl i64.enc mc r1, llo l r4, rsl i64.enc (followF mc l).1 s5, rsl i64.enc (followF mc (l.take k)).1 s7] As h' → At h' (li (mc ++ (followP mc l).1) s5) := fun st => by
    rw [← eA]; exact st.fz 4 rfl
  rw [eA] at l5 lF
  simp only [List.length_append] at l5 lF
  refine brF (by rw [eF]; rfl) ?_
  refine jn_in fun J hJ => brF (decide_eq_false (by rw [lr1]; show ¬ ((s5.len : Int) < _); omega)) ?_
  refine ⟨by omega, by show (r1.len : Int) ≤ (s5.cap : Int); omega, ?_⟩
  rw [Int.toNat_natCast]
  have hpre : At h8 (li mc (slR s5 0 r1.len 1)) := by
    have := rsl_sub (g4 st) (l := 0) (m := mc.length) (by omega) (by simp)
    rw [List.drop_zero, List.take_left] at this
    rw [lr1]; exact this
  refine call_of (equal_lit hpre (st.fz 2 rfl) (by omega)) ?_
  rintro _ h9 ⟨rfl, e'⟩; subst e'
  refine hJ _ _ ?_
  refine jn_in fun J hJ => brF (by simp) ?_
  refine call_of (Right_c (g4 st) (by simp; omega)) ?_
  rintro _ h10 ⟨rfl, x10⟩
  have st := st.ext x10
  refine hJ _ _ (brF (by rw [hok]; rfl) ?_)
  refine ⟨by omega, by show (r1.len : Int) ≤ (s5.len : Int); omega, ?_⟩
  rw [Int.toNat_natCast]
  have hsuf : ∀ {h' : Heap} {As : List Asn}, Hs [([], h)] [l8 c s, ll8 cs s2, rsl i64.enc mc r1, llo l r4, rsl i64.enc (followF mc l).1 s5, rsl i64.enc (followF mc (l.take k)).1 s7] As h' → At h' (li (followP mc l).1 (slR s5 r1.len s5.len 1)) := fun st => by
    have := rsl_sub (g4 st) (l := mc.length) (m := (mc ++ (followP mc l).1).length) (by simp) (Nat.le_refl _)
    rw [List.take_length, List.drop_left] at this
    rw [l5, lr1]; simpa using this
  have lsuf := rsl_len (hsuf st)
  have hsl : (slR (⟨s5.a, s5.len, s5.cap⟩ : Sl) r1.len s5.len 1) = slR s5 r1.len s5.len 1 := rfl
  refine lfp_invh (I := fun m σ h' => ∃ (i : Nat) (x : Bool), σ = ((i : Int), x, ()) ∧ i ≤ (followP mc l).1.length ∧ m = (followP mc l).1.length - i ∧ Hs [([], h)] [l8 c s, ll8 cs s2, rsl i64.enc mc r1, llo l r4, rsl i64.enc (followF mc l).1 s5, rsl i64.enc (followF mc (l.take k)).1 s7] [] h')
    ⟨_, 0, false, rfl, by omega, rfl, st⟩ ?_
  clear st
  rintro m σ h11 X ⟨i, x, rfl, hi, rfl, st⟩ hX
  simp only
  by_cases hlt : i < (followP mc l).1.length
  · refine brT (by rw [hsl, lsuf]; exact dlt_t hlt) ?_
    rw [hsl]
    refine rdE (τ := i64) (hsuf st) hlt ?_
    obtain ⟨hi2, hin, hnin⟩ := hun i hlt
    refine jn_in fun J hJ => brF (decide_eq_false (by rw [lr4]; omega)) ?_
    refine rdG (gl (X := [_, _]) st) hi2 fun p hp => ?_
    refine call_of (has_c hp _) ?_
    rintro _ h12 ⟨rfl, x12⟩
    have st := st.ext x12
    have hri := hr _ (List.getElem_mem hi2)
    refine hJ _ _ ?_
    refine jn_in fun J2 hJ2 => brF (by unfold hasC; rw [hri]; simpa using hin) ?_
    rw [show IntKind.wrap .i64 ((r1.len : Int) + (i : Int)) = ((mc.length + i : Nat) : Int) by rw [lr1, wrap_i64 (by omega) (by omega)]; omega]
    refine ⟨by omega, by show ((mc.length + i : Nat) : Int) ≤ (s5.cap : Int); omega, ?_⟩
    rw [Int.toNat_natCast]
    have hpre2 := rsl_sub (g4 st) (l := 0) (m := mc.length + i) (by omega) (by simp; omega)
    rw [List.drop_zero, List.take_length_add_append] at hpre2
    refine call_of (contains_lit hpre2 (by simp; omega) _) ?_
    rintro _ h13 ⟨rfl, e'⟩; subst e'
    refine hJ2 _ _ (brF (by simpa using hnin) ?_)
    rw [inc_i (by omega)]
    exact hX _ _ _ ⟨i + 1, x, rfl, by omega, rfl, st⟩ (by omega)
  · refine brF (by rw [hsl, lsuf]; exact dlt_f hlt) ?_
    exact fin st

end Go.Proofs.S

/-
  slices.Repeat: math/bits.Mul64 of small numbers, copies within one row. Nothing here names a program.
-/
set_option linter.unusedVariables false
namespace Go.Sx
open Go

theorem fdiv32 {x : Nat} (h : x < 4294967296) : Int.fdiv (x : Int) (2 ^ (min ((32 : Int)).toNat 64)) = 0 := by
  have e : (2 : Int) ^ (min ((32 : Int)).toNat 64) = 4294967296 := by decide
  rw [e, Int.fdiv_eq_ediv_of_nonneg _ (by decide)]
  omega
theorem band32 {x : Nat} (h : x < 4294967296) : bAnd .u64 (x : Int) (4294967295 : Int) = (x : Int) := by
  unfold bAnd
  have e3 : (BitVec.ofInt 64 (x : Int) &&& BitVec.ofInt 64 4294967295).toNat = x := by
    rw [BitVec.toNat_and]
    have e4 : (BitVec.ofInt 64 (x : Int)).toNat = x := by simp; omega
    have e5 : (BitVec.ofInt 64 4294967295).toNat = 2 ^ 32 - 1 := by decide
    rw [e4, e5, Nat.and_two_pow_sub_one_eq_mod]
    exact Nat.mod_eq_of_lt h
  show IntKind.wrap .u64 (((BitVec.ofInt 64 (x : Int) &&& BitVec.ofInt 64 4294967295).toNat : Nat) : Int) = _
  rw [e3, wrapu (by omega) (by omega)]

/-- The upper half of a small product. -/
theorem mul64_hi {a b : Nat} (ha : a < 4294967296) (hb : b < 4294967296) (hab : a * b < 4294967296) :
    (IntKind.wrap .u64 ((IntKind.wrap .u64 ((IntKind.wrap .u64 ((Int.fdiv (a : Int) (2 ^ (min ((32 : Int)).toNat 64))) * (Int.fdiv (b : Int) (2 ^ (min ((32 : Int)).toNat 64))))) + (Int.fdiv (IntKind.wrap .u64 ((IntKind.wrap .u64 ((Int.fdiv (a : Int) (2 ^ (min ((32 : Int)).toNat 64))) * (bAnd .u64 (b : Int) (4294967295 : Int)))) + (Int.fdiv (IntKind.wrap .u64 ((bAnd .u64 (a : Int) (4294967295 : Int)) * (bAnd .u64 (b : Int) (4294967295 : Int)))) (2 ^ (min ((32 : Int)).toNat 64))))) (2 ^ (min ((32 : Int)).toNat 64))))) + (Int.fdiv (IntKind.wrap .u64 ((bAnd .u64 (IntKind.wrap .u64 ((IntKind.wrap .u64 ((Int.fdiv (a : Int) (2 ^ (min ((32 : Int)).toNat 64))) * (bAnd .u64 (b : Int) (4294967295 : Int)))) + (Int.fdiv (IntKind.wrap .u64 ((bAnd .u64 (a : Int) (4294967295 : Int)) * (bAnd .u64 (b : Int) (4294967295 : Int)))) (2 ^ (min ((32 : Int)).toNat 64))))) (4294967295 : Int)) + (IntKind.wrap .u64 ((bAnd .u64 (a : Int) (4294967295 : Int)) * (Int.fdiv (b : Int) (2 ^ (min ((32 : Int)).toNat 64))))))) (2 ^ (min ((32 : Int)).toNat 64))))) = 0 := by
  have hp : (a : Int) * (b : Int) = ((a * b : Nat) : Int) := (Int.natCast_mul _ _).symm
  rw [fdiv32 ha, fdiv32 hb, band32 ha, band32 hb, hp, wrapu (x := ((a * b : Nat) : Int)) (by omega) (by omega), fdiv32 hab]
  simp only [Int.zero_mul, Int.mul_zero]
  decide

section
variable {τ : Ty} {t : TypeId} {h h' : Heap} {fr : Fr} {G As : List Asn} {s s2 : Sl} {xs ys : List τ.T}

/-- copy(s[i:], s[:i]) -/
theorem Hs.cpyIn (st : Hs fr G As h) (k : Nat) (hk : As[k]? = some (osl t τ.enc xs s)) {i : Nat} (hi : i < xs.length) (hleaf : Leaf τ) {K : Int → HP}
    (hK : ∀ h', Hs fr G (As.set k (osl t τ.enc (xs.take i ++ xs.take (min i (xs.length - i)) ++ xs.drop (i + min i (xs.length - i))) s)) h' → K ((min i (xs.length - i) : Nat) : Int) h') :
    cpy 1 (slR s i xs.length 1) (slR s 0 i 1) K h := by
  obtain ⟨S1, p, hw⟩ := st.focus k hk
  rcases p with ⟨b, rest, eS, es, hb⟩ | ⟨_, ex, _⟩
  · subst es
    have e1 : slR ⟨some ⟨b, 0, none⟩, xs.length, xs.length + rest.length⟩ i xs.length 1 = ⟨some ⟨b, 0 + i, none⟩, xs.length - i, xs.length + rest.length - i⟩ := slR_at (by omega)
    have e2 : slR ⟨some ⟨b, 0, none⟩, xs.length, xs.length + rest.length⟩ 0 i 1 = ⟨some ⟨b, 0 + 0, none⟩, i - 0, xs.length + rest.length - 0⟩ := slR_at (by omega)
    rw [e1, e2]
    have em : Nat.min (i - 0) (xs.length - i) = min i (xs.length - i) := rfl
    refine cpy_ok (vs := (xs.take (min i (xs.length - i))).map τ.enc) hb hb (by rw [em]; simp <;> omega) (fun j hj => ?_) (by simp; omega) (fun v hv => ?_) fun h' hb' x => ?_
    · have hj' : j < min i (xs.length - i) := by simp at hj; omega
      rw [Nat.zero_add, List.getElem?_append_left (by simp; omega), List.getElem?_map, List.getElem?_map, List.getElem?_take_of_lt hj']
    · obtain ⟨y, _, rfl⟩ := List.mem_map.1 hv
      exact hleaf y
    · rw [em]
      refine hK _ (hw (osl t τ.enc (xs.take i ++ xs.take (min i (xs.length - i)) ++ xs.drop (i + min i (xs.length - i))) ⟨some ⟨b, 0, none⟩, xs.length, xs.length + rest.length⟩) [b] _ (by rw [eS]; exact x) (.inl ⟨b, rest, rfl, ?_, ?_⟩) (by simp [eS]))
      · have el : (xs.take i ++ xs.take (min i (xs.length - i)) ++ xs.drop (i + min i (xs.length - i))).length = xs.length := by simp; omega
        rw [el]
      · have e3 : List.take (0 + i) (List.map τ.enc xs ++ rest) ++ List.map τ.enc (xs.take (min i (xs.length - i))) ++ List.drop (0 + i + (List.map τ.enc (xs.take (min i (xs.length - i)))).length) (List.map τ.enc xs ++ rest) = List.map τ.enc (xs.take i ++ xs.take (min i (xs.length - i)) ++ xs.drop (i + min i (xs.length - i))) ++ rest := by
          have el : (List.map τ.enc (xs.take (min i (xs.length - i)))).length = min i (xs.length - i) := by rw [List.length_map, List.length_take]; omega
          rw [el, Nat.zero_add, List.take_append_of_le_length (by simp; omega), List.drop_append_of_le_length (by simp; omega)]
          simp
        rw [e3] at hb'; exact hb'
  · subst ex; simp at hi

/-- copy(d, s), of what is no longer. -/
theorem Hs.cpyP (st : Hs fr G As h) (k : Nat) (hk : As[k]? = some (osl t τ.enc xs s)) (hy : At h (rsl τ.enc ys s2)) (hlen : ys.length ≤ xs.length) (hleaf : Leaf τ) {K : Int → HP}
    (hK : ∀ h', Hs fr G (As.set k (osl t τ.enc (ys ++ xs.drop ys.length) s)) h' → K (ys.length : Int) h') : cpy 1 s s2 K h := by
  have hl := osl_len (st.own k hk)
  have hl2 := rsl_len hy
  have hf := rsl_first hy
  have em : Nat.min s2.len s.len = s2.len := Nat.min_eq_left (by omega)
  obtain ⟨S1, p, hw⟩ := st.focus k hk
  refine ⟨ys.map τ.enc, by rw [em]; exact hf, ?_⟩
  rw [em, hl2]
  rcases p with ⟨b', rest, eS, es, hb⟩ | ⟨eS, ex, e1, e2⟩
  · subst es
    simp only
    refine stA_ok _ 0 hb (by simp; omega) (by intro v hv; obtain ⟨x, _, rfl⟩ := List.mem_map.1 hv; exact hleaf x) fun h' hb' x => ?_
    refine hK _ (hw (osl t τ.enc (ys ++ xs.drop ys.length) ⟨some ⟨b', 0, none⟩, xs.length, xs.length + rest.length⟩) [b'] _ (by rw [eS]; exact x) (.inl ⟨b', rest, rfl, ?_, ?_⟩) (by simp [eS]))
    · have el : (ys ++ xs.drop ys.length).length = xs.length := by simp; omega
      rw [el]
    · have e : List.take (0 + 0) (List.map τ.enc xs ++ rest) ++ List.map τ.enc ys ++ List.drop (0 + 0 + (List.map τ.enc ys).length) (List.map τ.enc xs ++ rest) = List.map τ.enc (ys ++ xs.drop ys.length) ++ rest := by
        have el : 0 + 0 + (List.map τ.enc ys).length = ys.length := by simp
        rw [el, List.drop_append_of_le_length (by simpa using hlen)]; simp
      rw [e] at hb'; exact hb'
  · subst ex
    have hy0 : ys = [] := List.eq_nil_of_length_eq_zero (by simpa using hlen)
    subst hy0
    have key : K ((([] : List τ.T).length : Nat) : Int) h := hK _ (hw (osl t τ.enc ([] ++ List.drop 0 []) s) [] h (Ext.refl' _ _) (.inr ⟨rfl, rfl, e1, e2⟩) (by simp))
    cases s.a with
    | none => exact key
    | some a => exact key
/-- copy into nothing. -/
theorem cpy_nil {K : Int → HP} (hs : s.len = 0) (hy : At h (rsl τ.enc ys s2)) (hK : K 0 h) : cpy 1 s s2 K h := by
  have em : Nat.min s2.len s.len = 0 := by rw [hs]; exact Nat.min_zero _
  refine ⟨[], ?_, ?_⟩
  · rw [em]
    unfold FirstCells
    cases s2.a with
    | none => rfl
    | some a => exact ⟨rfl, trivial⟩
  · rw [em]
    cases s.a with
    | none => exact hK
    | some a => exact hK

/-- Repeat of one element: the copies that double what there is. -/
def W_repLoop (s5 : Sl) (K : Sl → HP) : Int → HP := fun n6 =>
  lfp (σ := (Int × Unit)) (fun X7 s8 => brB (decide (s8.1 < (s5.len : Int)))
    (slL ⟨s5.a, s5.len, s5.cap⟩ s8.1 1 fun s9 => slH ⟨s5.a, s5.len, s5.cap⟩ s8.1 1 fun s10 => cpy 1 ⟨s9.a, s9.len, s9.cap⟩ ⟨s10.a, s10.len, s10.cap⟩ fun n11 => X7 ((IntKind.wrap .i64 (s8.1 + n11)), ()))
    (K ⟨s5.a, s5.len, s5.cap⟩)) (n6, ())
theorem Hs.repLoop (st : Hs fr G As h) (k : Nat) {n : Nat} {v z : τ.T} (h0 : 0 < n) (hn : n ≤ 1099511627776) (hk : As[k]? = some (osl t τ.enc (v :: List.replicate (n - 1) z) s)) (hleaf : Leaf τ) {K : Sl → HP}
    (hK : ∀ h', Hs fr G (As.set k (osl t τ.enc (List.replicate n v) s)) h' → K s h') : W_repLoop s K 1 h := by
  unfold W_repLoop
  have l1 := osl_len (st.own k hk)
  have c1 := rsl_cap (st.own k hk).rsl
  have hkl := (List.getElem?_eq_some_iff.1 hk).1
  have l2 : s.len = n := by rw [l1]; simp; omega
  have e0 : As.set k (osl t τ.enc (List.replicate 1 v ++ List.replicate (n - 1) z) s) = As := by
    apply List.ext_getElem?
    intro j
    rw [List.getElem?_set]
    by_cases q : k = j
    · subst q; rw [if_pos rfl, if_pos hkl, hk]; rfl
    · rw [if_neg q]
  refine lfp_invh (I := fun μ σ h' => ∃ i : Nat, σ = ((i : Int), ()) ∧ 1 ≤ i ∧ i ≤ n ∧ Hs fr G (As.set k (osl t τ.enc (List.replicate i v ++ List.replicate (n - i) z) s)) h' ∧ μ = n - i) ⟨_, 1, rfl, by omega, by omega, by rw [e0]; exact st, rfl⟩ ?_
  clear st
  rintro μ σ h2 X ⟨i, rfl, hi1, hi, st, em⟩ hX
  simp only
  by_cases hlt : i < n
  · rw [decide_eq_true (show (i : Int) < (s.len : Int) by omega), brB_true]
    refine ⟨by omega, by simp only; omega, ?_⟩
    refine ⟨by omega, by simp only; omega, ?_⟩
    rw [Int.toNat_natCast]
    have hk2 : (As.set k (osl t τ.enc (List.replicate i v ++ List.replicate (n - i) z) s))[k]? = some (osl t τ.enc (List.replicate i v ++ List.replicate (n - i) z) s) := by rw [List.getElem?_set, if_pos rfl, if_pos hkl]
    have el : (List.replicate i v ++ List.replicate (n - i) z).length = n := by simp; omega
    have := st.cpyIn (K := fun n11 => X (IntKind.wrap .i64 ((i : Int) + n11), ())) k hk2 (i := i) (by rw [el]; exact hlt) hleaf fun h3 st => ?_
    · rw [el] at this
      rw [l2]; exact this
    · rw [el, List.set_set] at st
      rw [el]
      have ew : IntKind.wrap .i64 ((i : Int) + ((min i (n - i) : Nat) : Int)) = ((i + min i (n - i) : Nat) : Int) := by rw [wrap_i64 (by omega) (by omega)]; omega
      rw [ew]
      refine hX _ _ _ ⟨i + min i (n - i), rfl, by omega, by omega, ?_, rfl⟩ (by omega)
      have e1 : (List.replicate i v ++ List.replicate (n - i) z).take i = List.replicate i v := by rw [List.take_append_of_le_length (by simp)]; simp
      have e2 : (List.replicate i v ++ List.replicate (n - i) z).take (min i (n - i)) = List.replicate (min i (n - i)) v := by
        rw [List.take_append_of_le_length (by simp; omega), List.take_replicate]; congr 1; omega
      have e3 : (List.replicate i v ++ List.replicate (n - i) z).drop (i + min i (n - i)) = List.replicate (n - (i + min i (n - i))) z := by
        rw [← List.drop_drop, List.drop_append_of_le_length (by simp)]
        simp; omega
      rw [e1, e2, e3, List.replicate_append_replicate] at st
      exact st
  · rw [decide_eq_false (show ¬ (i : Int) < (s.len : Int) by omega), brB_false]
    have e : i = n := by omega
    subst e
    rw [Nat.sub_self, List.replicate_zero, List.append_nil] at st
    exact hK _ st

end
end Go.Sx
