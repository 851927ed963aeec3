/-
  The laws' helpers of rat: lists, bits, keeps.
-/
import Derived.Test.YtjkgncibelojnaaGreatRaL
import Derived.Test.YtjkgncibelojnaaGreatSxN
set_option linter.unusedVariables false
set_option linter.unusedSimpArgs false
namespace Go.Proofs.S
open Go Go.Sx Go.Proofs Go.Cl Go.Rp Go.Rt

variable {h : Heap} {c d A f ids : List Int} {l : List Ent} {cs : List (List Int)} {gs us vs : List Grp} {s s2 sc : Sl} {fr : Fr} {G As : List Asn} {id p : Int} {i : Nat} {b m : Nat}

theorem lists_c (hA : At h (ent l s)) (hl : l.length ≤ 1048576) : callT Tryz.prog fn_salvorlaw09_lists #[.slice s.a s.len s.cap] .sl (fun s' h' => At h' (lli (clsE l) s') ∧ Ext [] h h') h := by
  refine callT_gen fun K hK => S_salvorlaw09_lists (a0 := s) K ?_
  unfold F_salvorlaw09_lists
  have ll := rsp_len hA
  obtain ⟨ps, lp, hps, hx⟩ := rsp_open hA
  have st := Hs.start h [rsn 2 tPr.vals ps s] (by simp [hps])
  have st := st.nil ty_clauses_Clause Ty.sl.enc none
  refine lfp_invh (I := fun m σ h' => ∃ (i : Nat) (so : Sl), σ = ((i : Int), so, ()) ∧ i ≤ ps.length ∧ Hs [([], h)] [rsn 2 tPr.vals ps s] [osl ty_clauses_Clause Ty.sl.enc ((ps.take i).map (·.2.1)) so] h' ∧ m = ps.length - i)
    ⟨_, 0, _, rfl, by omega, st, rfl⟩ ?_
  clear st
  rintro m' σ h2 X ⟨i, so, rfl, hii, st, rfl⟩ hX
  simp only
  by_cases hlt : i < ps.length
  · refine brT (by rw [ll, ← lp]; exact dlt_t hlt) ?_
    refine rdN (τ := tPr) (st.fz 0 rfl) hlt ?_
    refine st.pr fun b4 h4 x4 st => ?_
    simp only [List.cons_append, List.nil_append] at st
    rw [addr_add, st.lds 1 1 rfl rfl]
    refine st.nw fun b6 h5 st => ?_
    simp only [List.cons_append, List.nil_append] at st
    refine st.apd (v := ps[i].2.1) 0 2 rfl rfl (by decide) rfl (by simp; omega) (by decide) rfl fun s7 h6 st => ?_
    simp only [List.set_cons_zero, List.set_cons_succ] at st
    rw [inc_i (by omega)]
    refine hX _ _ _ ⟨i + 1, s7, rfl, by omega, ?_, rfl⟩ (by omega)
    rw [List.take_succ_eq_append_getElem hlt, List.map_append]
    exact (st.drop 2 rfl).drop 1 rfl
  · refine brF (by rw [ll, ← lp]; exact dlt_f hlt) ?_
    rw [List.take_of_length_le (by omega)] at st
    refine hK _ _ ⟨?_, st.frame (by simp)⟩
    refine rsg_at (ps := ps.map (·.2.1)) (by simp [clsE, lp]) (st.own 0 rfl).rsl fun i h1 h2 => ?_
    have h1' : i < l.length := by simpa [clsE] using h1
    have := (hx i h1' (by omega)).2.ext (st.frame (h0 := h) (by simp))
    simpa [clsE] using this

theorem bOr_nat {a b : Nat} (ha : a < 2 ^ 63) (hb : b < 2 ^ 63) : bOr .i64 (a : Int) (b : Int) = ((a ||| b : Nat) : Int) := by
  unfold bOr
  show IntKind.wrap .i64 (((BitVec.ofInt 64 (a : Int) ||| BitVec.ofInt 64 (b : Int)).toNat : Nat) : Int) = _
  rw [BitVec.ofInt_natCast, BitVec.ofInt_natCast, BitVec.toNat_or, BitVec.toNat_ofNat, BitVec.toNat_ofNat, Nat.mod_eq_of_lt (by omega), Nat.mod_eq_of_lt (by omega)]
  have := Nat.or_lt_two_pow ha hb
  exact wrap_i64 (by omega) (by omega)

def bitStep (b : Nat) (x : Int) : Nat := if 0 < x ∧ x < 40 then b ||| 2 ^ x.toNat else b
theorem bitsP_eq : bitsP f = f.foldl bitStep 0 := rfl
theorem bitStep_lt {x : Int} (hb : b < 2 ^ 40) : bitStep b x < 2 ^ 40 := by
  unfold bitStep
  split
  · exact Nat.or_lt_two_pow hb (Nat.pow_lt_pow_right (by decide) (by omega))
  · exact hb
theorem bits_lt : ∀ {f : List Int} {b : Nat}, b < 2 ^ 40 → f.foldl bitStep b < 2 ^ 40
  | [], _, h => h
  | x :: f, b, h => by rw [List.foldl_cons]; exact bits_lt (bitStep_lt h)

theorem bits_c (hA : At h (li f s)) (hl : f.length ≤ 1048576) : callT Tryz.prog fn_salvorlaw09_bits #[.slice s.a s.len s.cap] (.int .i64) (fun r h' => r = (bitsP f : Int) ∧ h' = h) h := by
  refine callT_gen fun K hK => S_salvorlaw09_bits (a0 := s) K ?_
  unfold F_salvorlaw09_bits
  have l3 := rsl_len hA
  rw [bitsP_eq] at hK
  refine lfp_invh (I := fun k σ h' => ∃ (i : Nat), σ = ((i : Int), (((f.take i).foldl bitStep 0 : Nat) : Int), ()) ∧ i ≤ f.length ∧ h' = h ∧ k = f.length - i) ⟨_, 0, rfl, by omega, rfl, rfl⟩ ?_
  rintro k σ h' X ⟨i, rfl, hi, e, ek⟩ hX
  subst e
  simp only
  have hb : (f.take i).foldl bitStep 0 < 2 ^ 40 := bits_lt (by decide)
  by_cases hlt : i < f.length
  · refine brT (by rw [l3]; exact dlt_t hlt) ?_
    refine rdE (τ := i64) hA hlt ?_
    have fin : X (IntKind.wrap .i64 ((i : Int) + 1), ((bitStep ((f.take i).foldl bitStep 0) f[i] : Nat) : Int), ()) h' := by
      rw [inc_i (by omega)]
      refine hX _ _ _ ⟨i + 1, ?_, by omega, rfl, rfl⟩ (by omega)
      rw [List.take_succ_eq_append_getElem hlt, List.foldl_append]; rfl
    generalize f[i] = x at fin ⊢
    generalize (f.take i).foldl bitStep 0 = b at fin hb ⊢
    unfold bitStep at fin
    refine jn_mid (M := fun t h'' => t = decide (0 < x ∧ x < 40) ∧ h'' = h') ?_ ?_
    rotate_left
    · intro J hJ
      by_cases h0 : x > 0
      · refine brT (decide_eq_true h0) (hJ _ _ ⟨?_, rfl⟩)
        rw [Bool.eq_iff_iff]; simp; omega
      · refine brF (decide_eq_false h0) (hJ _ _ ⟨?_, rfl⟩)
        rw [decide_eq_false (by omega)]
    rintro _ h2 ⟨rfl, e⟩; subst e
    refine jn_in fun J hJ => ?_
    by_cases hx : 0 < x ∧ x < 40
    · refine brT (decide_eq_true hx) ?_
      obtain ⟨v, rfl⟩ : ∃ v : Nat, x = v := ⟨x.toNat, by omega⟩
      rw [wrapu (by omega) (by omega), ge0_ok (by omega)]
      refine hJ _ _ ?_
      rw [if_pos hx] at fin
      have hp : 2 ^ v < 2 ^ 40 := Nat.pow_lt_pow_right (by decide) (by omega)
      have e1 : IntKind.wrap .i64 ((1 : Int) * 2 ^ (min ((v : Nat) : Int).toNat 64)) = ((2 ^ v : Nat) : Int) := by
        rw [Int.toNat_natCast, Nat.min_eq_left (by omega), Int.one_mul, show (2 : Int) ^ v = ((2 ^ v : Nat) : Int) by simp]
        clear fin
        generalize 2 ^ v = z at hp ⊢
        exact wrap_i64 (by omega) (by omega)
      rw [e1, bOr_nat (by omega) (by omega)]
      rw [Int.toNat_natCast] at fin
      exact fin
    · rw [if_neg hx] at fin
      exact brF (decide_eq_false hx) (hJ _ _ fin)
  · refine brF (by rw [l3]; exact dlt_f hlt) (hK _ _ ⟨?_, rfl⟩)
    rw [List.take_of_length_le (by omega)]

theorem holds_all {n : Nat} : (clsE l).all (trueP n) = true ↔ HoldsE (fun x => bitV n x = true) l := by
  unfold HoldsE clsE
  rw [List.all_eq_true]
  constructor
  · intro h x hx
    obtain ⟨y, hy, hb⟩ := trueP_iff.1 (h _ (List.mem_map.2 ⟨x, hx, rfl⟩))
    exact ⟨y, hy, hb⟩
  · intro h c hc
    obtain ⟨x, hx, rfl⟩ := List.mem_map.1 hc
    obtain ⟨y, hy, hb⟩ := h x hx
    exact trueP_iff.2 ⟨y, hy, hb⟩
theorem six_len (n : Nat) : (sixP n).length = 6 := by simp [sixP]
theorem six_take {n : Nat} (hi : i < 6) : (sixP n).take (i + 1) = (sixP n).take i ++ [if n / 2 ^ (i + 1) % 2 = 0 then -((i : Int) + 1) else (i : Int) + 1] := by
  rw [List.take_succ_eq_append_getElem (by rw [six_len]; exact hi)]
  congr 2
  simp [sixP]

set_option maxRecDepth 20000 in
set_option maxHeartbeats 1000000 in
theorem keeps_c {stp : Stp} {k : Int} (hA : At h (ent l s)) (hB : At h (li stp.lits s2)) (hs : Small l) (hl : l.length ≤ 1048576) (hll : ∀ x ∈ l, x.2.length ≤ 1048576) (hc : ∀ y ∈ stp.lits, y ≠ 0 ∧ -6 ≤ y ∧ y ≤ 6) (hcl : stp.lits.length ≤ 1048576)
    (hck : checkS l stp = (k, 0, 0)) (hk : k = 1 ∨ k = 2) : callT Tryz.prog fn_salvorlaw09_keeps #[.slice s.a s.len s.cap, .slice s2.a s2.len s2.cap, .int .u8 k] .bool (fun r h' => r = true ∧ Ext [] h h') h := by
  refine callT_gen fun K hK => S_salvorlaw09_keeps (a0 := s) (a1 := s2) (a2 := k) K ?_
  unfold F_salvorlaw09_keeps
  have st := Hs.start h [ent l s, li stp.lits s2] (by simp [hA, hB])
  have hsm : ∀ c ∈ clsE l, (∀ x ∈ c, -40 ≤ x ∧ x ≤ 40) ∧ c.length ≤ 1048576 := fun c hc => by
    obtain ⟨x, hx, rfl⟩ := List.mem_map.1 hc
    exact ⟨fun y hy => by have := hs x hx y hy; omega, hll x hx⟩
  have hcl2 : (clsE l).length ≤ 1048576 := by simpa [clsE] using hl
  refine lfp_invh (I := fun m σ h' => ∃ (j : Nat) (bb : Bool), σ = (((2 * j : Nat) : Int), bb, ()) ∧ j ≤ 64 ∧ Hs [([], h)] [ent l s, li stp.lits s2] [] h' ∧ m = 64 - j)
    ⟨_, 0, _, rfl, by omega, st, rfl⟩ ?_
  clear st
  rintro m σ h1 X ⟨j, bb, rfl, hj, st, rfl⟩ hX
  simp only
  by_cases hlt : j < 64
  rotate_left
  · exact brF (decide_eq_false (by omega)) (hK _ _ ⟨rfl, st.frame (by simp)⟩)
  refine brT (decide_eq_true (by omega)) ?_
  obtain ⟨n, hn⟩ : ∃ n, n = 2 * j := ⟨_, rfl⟩
  rw [← hn]
  refine jn_in fun J hJ => ?_
  have next : ∀ h', Hs [([], h)] [ent l s, li stp.lits s2] [] h' → J (bb, ()) h' := fun h' st => by
    refine hJ _ _ ?_
    rw [show IntKind.wrap .i64 ((n : Int) + 2) = ((2 * (j + 1) : Nat) : Int) by rw [wrap_i64 (by omega) (by omega)]; omega]
    exact hX _ _ _ ⟨j + 1, bb, rfl, by omega, st, rfl⟩ (by omega)
  refine call_of (lists_c (st.fz 0 rfl) hl) ?_
  rintro s4 h2 ⟨a4, x4⟩
  have st := st.ext x4
  refine call_of (AllTrue_c a4 hsm hcl2) ?_
  rintro _ h3 ⟨rfl, x3⟩
  have st := st.ext x3
  refine jn_in fun L hL => ?_
  cases ha : (clsE l).all (trueP n) with
  | false => exact brT rfl (hL _ _ (brT rfl (next _ st)))
  | true =>
  refine brF rfl ?_
  refine call_of (True_c (st.fz 1 rfl) (fun x hx => by have := hc x hx; omega) hcl) ?_
  rintro _ h4 ⟨rfl, e⟩; subst e
  cases ht : trueP n stp.lits with
  | true => exact hL _ _ (brT rfl (next _ st))
  | false =>
  refine hL _ _ (brF rfl ?_)
  clear hL L
  obtain ⟨rfl, p, r, hlits, hrep, hl6, hok, htr, hho⟩ := keeps_law hck hk hs hc n (holds_all.1 ha) (fun hx => by
    obtain ⟨x, hx, hb⟩ := hx
    rw [trueP_iff.2 ⟨x, hx, hb⟩] at ht; cases ht)
  refine brF rfl ?_
  have st := st.nil ty_lits_Lit i64.enc none
  refine lfp_invh (I := fun m σ h' => ∃ (i : Nat) (so : Sl), σ = ((i : Int) + 1, so, ()) ∧ i ≤ 6 ∧ Hs [([], h)] [ent l s, li stp.lits s2] [lo ((sixP n).take i) so] h' ∧ m = 6 - i)
    ⟨_, 0, _, rfl, by omega, st, rfl⟩ ?_
  clear st
  rintro m σ h5 Y ⟨i, so, rfl, hi, st, rfl⟩ hY
  simp only
  by_cases hi6 : i < 6
  · refine brT (decide_eq_true (by omega)) ?_
    rw [show (i : Int) + 1 = ((i + 1 : Nat) : Int) by omega, wrapu (by omega) (by omega), ge0_ok (by omega), shr_bit n (i + 1) (by omega)]
    refine jn_in fun L hL => ?_
    have st9 : ∀ x : Int, x = (if n / 2 ^ (i + 1) % 2 = 0 then -((i : Int) + 1) else (i : Int) + 1) → L (x, ()) h5 := fun x hx => by
      refine hL _ _ ?_
      simp only
      refine st.nw fun b6 h6 st => ?_
      simp only [List.cons_append, List.nil_append] at st
      refine st.apd (v := x) 0 1 rfl rfl (by decide) rfl (by rw [List.length_take, six_len]; omega) (by decide) rfl fun s7 h7 st => ?_
      simp only [List.set_cons_zero, List.set_cons_succ] at st
      rw [inc_i (by omega)]
      refine hY _ _ _ ⟨i + 1, s7, rfl, by omega, ?_, rfl⟩ (by omega)
      rw [six_take hi6, ← hx]
      exact st.drop 1 rfl
    have hz := Nat.mod_lt (n / 2 ^ (i + 1)) (show 2 > 0 by decide)
    generalize n / 2 ^ (i + 1) % 2 = z at *
    by_cases hz0 : z = 0
    · refine brT (by simp [hz0]) (st9 _ ?_)
      rw [if_pos hz0, wrap_i64 (by omega) (by omega)]; omega
    · refine brF (by simp; omega) (st9 _ ?_)
      rw [if_neg hz0]; rfl
  refine brF (decide_eq_false (by omega)) ?_
  rw [List.take_of_length_le (by rw [six_len]; omega)] at st
  clear hY
  refine call_of (Repair_c (st.fz 1 rfl) (st.own 0 rfl).rsl (by omega) (by rw [six_len]; omega)) ?_
  rintro _ h6 ⟨s8, rfl, n8, x8⟩
  have st := st.new x8 n8
  rw [hrep] at st ⊢
  simp only [List.cons_append, List.nil_append] at st ⊢
  generalize fixP p (sixP n) = F at *
  have l8 : s8.len = F.length := osl_len (st.own 1 rfl)
  refine jn_in fun L hL => brF rfl ?_
  rw [l8, hl6]
  refine hL _ _ ?_
  clear hL L
  refine jn_in fun L hL => brF rfl ?_
  refine call_of (Right_c (st.own 1 rfl).rsl (by omega)) ?_
  rintro _ h7 ⟨rfl, x7⟩
  have st := st.ext x7
  rw [hok]
  refine hL _ _ ?_
  clear hL L
  refine jn_in fun L hL => brF rfl ?_
  refine call_of (bits_c (st.own 1 rfl).rsl (by omega)) ?_
  rintro _ h9 ⟨rfl, e⟩; subst e
  refine call_of (True_c (st.fz 1 rfl) (fun x hx => by have := hc x hx; omega) hcl) ?_
  rintro _ h10 ⟨rfl, e⟩; subst e
  rw [trueP_iff.2 htr]
  refine hL _ _ ?_
  clear hL L
  refine jn_in fun L hL => brF rfl ?_
  refine call_of (lists_c (st.fz 0 rfl) hl) ?_
  rintro s11 h11 ⟨a11, x11⟩
  have st := st.ext x11
  refine call_of (bits_c (st.own 1 rfl).rsl (by omega)) ?_
  rintro _ h12 ⟨rfl, e⟩; subst e
  refine call_of (AllTrue_c a11 hsm hcl2) ?_
  rintro _ h13 ⟨rfl, x13⟩
  have st := st.ext x13
  rw [holds_all.2 hho]
  exact hL _ _ (brF rfl (next _ ((st.drop 1 rfl).drop 0 rfl)))

end Go.Proofs.S

set_option linter.unusedVariables false
set_option linter.unusedSimpArgs false
namespace Go.Sx
open Go
variable {α β : Type} {h : Heap} {enc : α → Value} {xs : List α} {s : Sl}
theorem Inner.map {I J : β → Sl → Asn} (hf : ∀ x p S h, (I x p).P S h → (J x p).P S h) : ∀ {xs : List β} {ps : List Sl} {S : List Nat}, Inner I xs ps S h → Inner J xs ps S h
  | [], [], _, e => e
  | x :: xs, p :: ps, S, ⟨S1, S2, e, hp, hi⟩ => ⟨S1, S2, e, hf _ _ _ _ hp, hi.map hf⟩
  | [], _ :: _, _, e => e.elim
  | _ :: _, [], _, e => e.elim
theorem slH_min (hA : At h (rsl enc xs s)) (m : Nat) {K : Sl → HP} (hK : ∀ s0, (∀ h', At h' (rsl enc xs s) → At h' (rsl enc (xs.take m) s0)) → K s0 h) :
    slH ⟨s.a, s.len, s.cap⟩ (if (m : Int) < (s.len : Int) then (m : Int) else (s.len : Int)) 1 K h := by
  have l1 := rsl_len hA
  have l2 := rsl_cap hA
  have em : (if (m : Int) < (s.len : Int) then (m : Int) else (s.len : Int)) = ((min xs.length m : Nat) : Int) := by split <;> omega
  rw [em]
  refine ⟨Int.natCast_nonneg _, Int.ofNat_le.2 (show min xs.length m ≤ s.cap by omega), ?_⟩
  rw [Int.toNat_natCast]
  refine hK _ fun h' hA' => ?_
  have := rsl_sub hA' (l := 0) (m := min xs.length m) (by omega) (by omega)
  have e : xs.take (min xs.length m) = xs.take m := by
    rcases Nat.le_total xs.length m with k | k
    · rw [Nat.min_eq_left k, List.take_length, List.take_of_length_le k]
    · rw [Nat.min_eq_right k]
  rw [List.drop_zero, e] at this; exact this
end Go.Sx
namespace Go.Proofs.S
open Go Go.Sx Go.Proofs Go.Cl Go.Rp

variable {h : Heap} {c d A us : List Int} {cs ds hs l : List (List Int)} {s s2 s3 : Sl} {fr : Fr} {G As : List Asn} {b n : Nat} {t : TypeId}

end Go.Proofs.S

set_option linter.unusedVariables false
set_option linter.unusedSimpArgs false
namespace Go.Proofs.S
open Go Go.Sx Go.Proofs Go.Cl Go.Rp Go.Rt

variable {h : Heap} {c d A f ids : List Int} {l : List Ent} {cs : List (List Int)} {gs us vs : List Grp} {s s2 s3 s4 sc : Sl} {fr : Fr} {G As : List Asn} {id p : Int} {i : Nat} {b m : Nat}

theorem checkS_zero {stp : Stp} {a b e : Int} (h : checkS l stp = (a, b, e)) : (e ≠ 0 → a = 0) ∧ (e = 0 → b = 0 ∧ (a = 1 ∨ a = 2)) := by
  unfold checkS at h
  split at h
  · cases h; simp
  split at h
  · cases h; simp
  split at h
  · cases h; simp
  split at h
  · rename_i q
    obtain ⟨rfl, rfl, rfl⟩ : 0 = a ∧ _ = b ∧ _ = e := by simpa using h
    exact ⟨fun _ => rfl, fun k => absurd k q⟩
  split at h
  · cases h; simp
  split at h
  · cases h; simp
  split at h
  · rename_i q
    obtain ⟨rfl, rfl, rfl⟩ : 0 = a ∧ _ = b ∧ _ = e := by simpa using h
    exact ⟨fun _ => rfl, fun k => absurd k q⟩
  split at h
  · rename_i q
    obtain ⟨rfl, rfl, rfl⟩ : 0 = a ∧ _ = b ∧ _ = e := by simpa using h
    exact ⟨fun _ => rfl, fun k => absurd k q⟩
  cases h; simp

theorem named_len {at_ : List Nat} : (named l at_).length = at_.length := by simp [named]
theorem groupsGo_each : ∀ {xs : List Ent} {gs : List Grp}, groupsGo l p A xs = some gs → ∀ g ∈ gs, ∃ x, oneG l p A x = some g
  | [], gs, h, g, hg => by
    simp only [groupsGo, Option.some.injEq] at h
    subst h; simp at hg
  | x :: xs, gs, h, g, hg => by
    rw [groupsGo_cons] at h
    cases h1 : oneG l p A x with
    | none => rw [h1] at h; cases h
    | some g1 =>
      rw [h1] at h
      cases h2 : groupsGo l p A xs with
      | none => rw [h2] at h; cases h
      | some gs2 =>
        rw [h2] at h
        simp only [Option.bind_some, Option.map_some, Option.some.injEq] at h
        subst h
        rcases List.mem_cons.1 hg with rfl | hg
        · exact ⟨x, h1⟩
        · exact groupsGo_each h2 g hg
theorem search_lens (hE : rightE l = true) (hl : l.length ≤ 65536) (hf : fuelE l ≤ 500000) : (searchP l c).1.hints.length ≤ 500000 ∧ (searchP l c).1.groups.length ≤ 500000 ∧ ∀ g ∈ (searchP l c).1.groups, g.2.length ≤ 500000 := by
  by_cases h20 : (findP c (clsE l)).2.2 = 20
  · rw [search20 hE h20]; simp
  by_cases hff : (findP c (clsE l)).2.1 = true
  · rw [searchF hE h20 hff]
    have := (find_good hE hl hff).2
    simp only [named_len]
    exact ⟨by omega, by simp, by simp⟩
  cases c with
  | nil => rw [searchN hE h20 hff (.inl rfl)]; simp
  | cons p r =>
    by_cases h0 : (findP (p :: r) (clsE l)).2.2 = 0
    · obtain ⟨q1, q2⟩ := searchG hE h20 hff h0
      cases hg : groupsGo l p (propGo l (fuelE l) (negs (p :: r)) []).1 (l.filter (isCand p)) with
      | none => rw [q1 hg]; simp
      | some gs =>
        rw [q2 gs hg]
        have h1 := (propGo_len (l := l) (fuelE l) (negs (p :: r)) []).2
        simp only [List.length_nil] at h1
        have h2 := groupsGo_len hg
        have h3 : (l.filter (isCand p)).length ≤ l.length := List.length_filter_le _ _
        refine ⟨by simp only; omega, by simp only; omega, fun g hgm => ?_⟩
        obtain ⟨x, hx⟩ := groupsGo_each hg g hgm
        unfold oneG at hx
        split at hx
        · obtain rfl := Option.some.inj hx; simp
        · split at hx
          · cases hx
          · rename_i q
            obtain rfl := Option.some.inj hx
            have q : (findP (failsP p (propGo l (fuelE l) (negs (p :: r)) []).1 x.2) (clsE l)).2.1 = true := by
              exact Bool.of_not_eq_false fun k => q (.inr k)
            have := (find_good hE hl q).2
            simp only [named_len]; omega
    · rw [searchN hE h20 hff (.inr h0)]; simp
theorem search_err (hE : rightE l = true) (hl : l.length ≤ 65536) (hc : rightC c = true) : (searchP l c).2.2.2 = 0 := by
  have h20 : ¬ (findP c (clsE l)).2.2 = 20 := by
    have hr := cls_right hE
    rw [find_eq hc hr (by simpa [clsE] using hl)]
    split
    · simp
    · split <;> simp
  by_cases hff : (findP c (clsE l)).2.1 = true
  · rw [searchF hE h20 hff]
  cases c with
  | nil => rw [searchN hE h20 hff (.inl rfl)]
  | cons p r =>
    by_cases h0 : (findP (p :: r) (clsE l)).2.2 = 0
    · obtain ⟨q1, q2⟩ := searchG hE h20 hff h0
      cases hg : groupsGo l p (propGo l (fuelE l) (negs (p :: r)) []).1 (l.filter (isCand p)) with
      | none => rw [q1 hg]
      | some gs => rw [q2 gs hg]
    · rw [searchN hE h20 hff (.inr h0)]

end Go.Proofs.S
