/-
  What a formula that is made is.
-/
import Derived.Test.YtfadkgkkbbcekaaFoL
set_option linter.unusedVariables false
set_option linter.unusedSimpArgs false
namespace Go.Proofs.S
open Go Go.Sx Go.Proofs Go.Cl

variable {h : Heap} {c d : List Int} {s s2 : Sl} {fr : Fr} {G As : List Asn} {m : List Bool} {sm : Sl} {k k2 : List Bool}

theorem failsGo_neg : ∀ {cs : List (List Int)} {i : Nat}, failsGo m i cs < 0 ↔ ∀ c ∈ cs, c.any (trueIn m) = true
  | [], i => by simp [failsGo]
  | c :: cs, i => by
    unfold failsGo
    by_cases hc : c.any (trueIn m) = true
    · rw [if_pos hc, failsGo_neg]
      constructor
      · intro q d hd
        rcases List.mem_cons.1 hd with rfl | hd
        · exact hc
        · exact q d hd
      · exact fun q d hd => q d (List.mem_cons_of_mem _ hd)
    · rw [if_neg hc]
      constructor
      · intro q; omega
      · intro q; exact absurd (q c (by simp)) hc
theorem varL_neg {x : Int} (h : rt x = true) : varL (-x) = varL x := by
  have h0 := rt_iff.1 h
  unfold varL
  rw [if_pos h, if_pos (rt_neg h)]
  split <;> split <;> omega
end Go.Proofs.S

set_option linter.unusedVariables false
set_option linter.unusedSimpArgs false
namespace Go.Proofs.S
open Go Go.Sx Go.Proofs Go.Cl

variable {h : Heap} {c d : List Int} {s s2 : Sl} {fr : Fr} {G As : List Asn} {m : List Bool} {sm : Sl} {k k2 : List Bool}

end Go.Proofs.S

set_option linter.unusedVariables false
set_option linter.unusedSimpArgs false
namespace Go.Proofs.S
open Go Go.Sx Go.Proofs Go.Cl

variable {h : Heap} {c d : List Int} {s s2 : Sl} {fr : Fr} {G As : List Asn} {m : List Bool} {sm : Sl} {k k2 : List Bool}

end Go.Proofs.S

set_option linter.unusedVariables false
set_option linter.unusedSimpArgs false
namespace Go.Proofs.S
open Go Go.Sx Go.Proofs Go.Cl

variable {h : Heap} {c d : List Int} {s s2 : Sl} {fr : Fr} {G As : List Asn} {m : List Bool} {sm : Sl} {k k2 : List Bool}

def bitI (b : Bool) : Int := if b then 1 else 0
abbrev bitsL (m : List Bool) : List Int := m.map bitI

theorem bits_c (hA : At h (lb m s)) (hl : m.length ≤ 1048576) : callT Try.prog fn_salvorlaw05_Bits #[.slice s.a s.len s.cap] .sl (fun s' h' => New h.size h' (io (bitsL m) s') ∧ Ext [] h h') h := by
  refine callT_gen fun K hK => S_salvorlaw05_Bits (a0 := s) K ?_
  unfold F_salvorlaw05_Bits
  have l1 := rsl_len hA
  have st := (Hs.start h [lb m s] (by simp [hA])).nil ty_int i64.enc none
  refine lfp_invh (I := fun μ σ h' => ∃ (i : Nat) (s' : Sl), σ = ((i : Int), s', ()) ∧ i ≤ m.length ∧ Hs [([], h)] [lb m s] [io (bitsL (m.take i)) s'] h' ∧ μ = m.length - i) ⟨_, 0, ⟨none, 0, 0⟩, rfl, by omega, st, rfl⟩ ?_
  clear st
  rintro μ σ h2 X ⟨i, s', rfl, hi, st, em⟩ hX
  simp only
  by_cases hlt : i < m.length
  · rw [show decide ((i : Int) < (s.len : Int)) = true by rw [l1]; exact dlt_t hlt, brB_true, inc_i (show i < 4611686018427387904 by omega)]
    refine rdE (τ := .bool) (st.fz 0 rfl) hlt ?_
    refine jn_mid (fun σ h' => σ = (bitI m[i], ()) ∧ h' = h2) ?_ ?_
    · rintro σ h3 ⟨rfl, rfl⟩
      refine st.nw fun b4 h4 st => ?_
      simp only [List.cons_append, List.nil_append] at st
      refine Hs.apd (enc := i64.enc) (v := bitI m[i]) st 0 1 rfl rfl (by decide) rfl (by simp; omega) (by decide) rfl fun s5 h5 st => ?_
      refine hX _ _ _ ⟨i + 1, s5, rfl, by omega, ?_, rfl⟩ (by omega)
      have e : bitsL (m.take (i + 1)) = bitsL (m.take i) ++ [bitI m[i]] := by show List.map bitI _ = _; rw [take_succ_getE hlt, List.map_append]; rfl
      rw [e]
      exact st.drop 1 rfl
    · intro J hJ
      cases hb : m[i] with
      | true => rw [brB_true]; exact hJ _ _ ⟨by rw [hb]; rfl, rfl⟩
      | false => rw [brB_false]; exact hJ _ _ ⟨by rw [hb]; rfl, rfl⟩
  · rw [show decide ((i : Int) < (s.len : Int)) = false by rw [l1]; exact dlt_f hlt, brB_false]
    rw [List.take_of_length_le (by omega)] at st
    exact hK _ _ ⟨st.res (by simp) 0 rfl, st.frame (by simp)⟩

theorem rvar_c (x : Int) : callT Try.prog fn_salvorref01_Var #[.int .i64 x] (.int .i64) (fun r h' => r = varL x ∧ h' = h) h := by
  refine callT_gen fun K hK => S_salvorref01_Var (a0 := x) K ?_
  unfold F_salvorref01_Var
  refine call_of (r1_right_c x) ?_
  rintro _ hq ⟨rfl, rfl⟩
  unfold varL at hK
  cases hr : rt x with
  | false => rw [hr] at hK; rw [Bool.not_false, brB_true]; exact hK _ _ ⟨rfl, rfl⟩
  | true =>
    rw [hr, if_pos rfl] at hK
    rw [Bool.not_true, brB_false]
    by_cases q : x < 0
    · rw [if_pos q] at hK
      rw [decide_eq_true q, brB_true, wneg hr]; exact hK _ _ ⟨rfl, rfl⟩
    · rw [if_neg q] at hK
      rw [decide_eq_false q, brB_false]; exact hK _ _ ⟨rfl, rfl⟩

theorem varsP_nat' {n : Nat} (hn : n ≤ 1048576) : varsP n = true := by
  unfold varsP
  rw [decide_eq_true (by omega), decide_eq_true (by omega)]; rfl
theorem bey_iff {n x : Int} : beyP n x = true ↔ varL x < 1 ∨ varL x > n := by
  unfold beyP
  cases hr : rt x with
  | false => simp [varL, hr]
  | true =>
    have := varL_pos hr
    simp only [Bool.not_true, Bool.false_or, decide_eq_true_eq]
    omega

theorem rmodel_c {n : Int} (hA : At h (li c s)) (hl : c.length ≤ 1048576) :
    callT Try.prog fn_salvorref05_Model #[.int .i64 n, .slice s.a s.len s.cap] (.tup (.cons .sl (.cons (.int .i64) .nil)))
      (fun r h' => ∃ s', r = (s', (modelF n c).2, ()) ∧ New h.size h' (io (bitsL (modelF n c).1) s') ∧ Ext [] h h') h := by
  refine callT_gen fun K hK => S_salvorref05_Model (a0 := n) (a1 := s) K ?_
  unfold F_salvorref05_Model
  have l1 := rsl_len hA
  have c1 := rsl_cap hA
  unfold modelF at hK
  by_cases h0 : n < 0
  · have hv : varsP n = false := by unfold varsP; rw [decide_eq_false (by omega)]; rfl
    rw [hv] at hK
    rw [decide_eq_true h0, brB_true]
    exact hK _ _ ⟨⟨none, 0, 0⟩, rfl, osl_nil _ _, Ext.refl' _ _⟩
  rw [decide_eq_false h0, brB_false]
  by_cases h1 : n > 1048576
  · have hv : varsP n = false := by unfold varsP; rw [decide_eq_false (show ¬ n ≤ 1048576 by omega), Bool.and_false]
    rw [hv] at hK
    rw [decide_eq_true h1, brB_true]
    exact hK _ _ ⟨⟨none, 0, 0⟩, rfl, osl_nil _ _, Ext.refl' _ _⟩
  rw [decide_eq_false h1, brB_false]
  obtain ⟨n, rfl⟩ := Int.eq_ofNat_of_zero_le (show 0 ≤ n by omega)
  rw [varsP_nat' (show n ≤ 1048576 by omega), if_pos rfl, Int.toNat_natCast] at hK
  have st := Hs.start h [li c s] (by simp [hA])
  refine Hs.mks1 (n := n) (τ := i64) (z := (0 : Int)) st (by omega) (by decide) fun s0 h2 st => ?_
  simp only [List.nil_append] at st
  have eb : List.replicate n (0 : Int) = bitsL (List.replicate n false) := by simp [bitsL, bitI]
  rw [eb] at st
  refine lfp_invh (I := fun μ σ h' => ∃ (i : Nat) (out set : List Bool), σ = ((i : Int), 0, ⟨none, 0, 0⟩, ()) ∧ i ≤ c.length ∧ out.length = n ∧ set.length = n ∧
      (∀ v, v < n → (set.getD v false = true ↔ ((v : Int) + 1 ∈ c.take i ∨ -((v : Int) + 1) ∈ c.take i)) ∧ (out.getD v false = true ↔ (v : Int) + 1 ∈ c.take i) ∧ ¬ ((v : Int) + 1 ∈ c.take i ∧ -((v : Int) + 1) ∈ c.take i)) ∧
      modelGo n out set (c.drop i) = modelGo n (List.replicate n false) (List.replicate n false) c ∧ Hs [([], h)] [li c s] [io (bitsL out) s0] h' ∧ μ = c.length - i)
    ⟨_, 0, List.replicate n false, List.replicate n false, rfl, by omega, by simp, by simp, fun v hv => by simp [List.getD_eq_getElem?_getD, List.getElem?_replicate, hv], rfl, st, rfl⟩ ?_
  clear st
  rintro μ σ h3 X ⟨i, out, set, rfl, hi, ho, hs, hinv, hm, st, em⟩ hX
  simp only
  have l0 := osl_len (st.own 0 rfl)
  rw [List.length_map] at l0
  by_cases hlt : i < c.length
  · rw [show decide ((i : Int) < (s.len : Int)) = true by rw [l1]; exact dlt_t hlt, brB_true, inc_i (show i < 4611686018427387904 by omega)]
    rw [List.drop_eq_getElem_cons hlt, modelGo_cons] at hm
    refine rdE (τ := i64) (st.fz 0 rfl) hlt ?_
    refine call_of (rvar_c c[i]) ?_
    rintro r hq2 ⟨er, rfl⟩
    have er : r = varL c[i] := er
    subst er
    by_cases q1 : varL c[i] < 1
    · rw [if_pos (bey_iff.2 (.inl q1))] at hm
      rw [decide_eq_true q1, brB_true]
      rw [← hm] at hK
      exact hK _ _ ⟨⟨none, 0, 0⟩, rfl, osl_nil _ _, st.frame (by simp)⟩
    rw [decide_eq_false q1, brB_false]
    by_cases q2 : varL c[i] > (n : Int)
    · rw [if_pos (bey_iff.2 (.inr q2))] at hm
      rw [decide_eq_true q2, brB_true]
      rw [← hm] at hK
      exact hK _ _ ⟨⟨none, 0, 0⟩, rfl, osl_nil _ _, st.frame (by simp)⟩
    rw [decide_eq_false q2, brB_false]
    have hbf : beyP n c[i] = false := by
      cases hb : beyP n c[i] with
      | false => rfl
      | true => rcases bey_iff.1 hb with q | q <;> omega
    rw [if_neg (by rw [hbf]; decide)] at hm
    have hrt := (bey_rt hbf).1
    have h0' := rt_iff.1 hrt
    have hvx : c[i] = varL c[i] ∨ c[i] = -varL c[i] := by unfold varL; rw [if_pos hrt]; split <;> omega
    have hc0 : c[i] ≠ 0 := by omega
    have hv : (varL c[i] - 1).toNat < n := by omega
    have hve : (((varL c[i] - 1).toNat : Nat) : Int) + 1 = varL c[i] := by omega
    have e1 : IntKind.wrap .i64 (varL c[i] - 1) = (((varL c[i] - 1).toNat : Nat) : Int) := by
      have := varL_pos hrt
      rw [wrap_i64 (by omega) (by omega)]; omega
    obtain ⟨i1, i2, i3⟩ := hinv _ hv
    rw [hve] at i1 i2 i3
    refine ⟨Int.natCast_nonneg _, Int.ofNat_le.2 (show i ≤ s.cap by omega), ?_⟩
    rw [Int.toNat_natCast]
    have hS := rsl_sub (st.fz 0 rfl) (l := 0) (m := i) (by omega) (by omega)
    rw [List.drop_zero] at hS
    refine rdE (τ := i64) (st.fz 0 rfl) hlt ?_
    rw [wneg hrt]
    refine call_of (r2_has_c hS (by simp; omega) (-c[i])) ?_
    rintro r hq2 ⟨er, rfl⟩
    have er : r = (c.take i).contains (-c[i]) := er
    subst er
    have hclash : (set.getD (varL c[i] - 1).toNat false && (out.getD (varL c[i] - 1).toNat false == decide (c[i] < 0))) = (c.take i).contains (-c[i]) := by
      rw [Bool.eq_iff_iff, Bool.and_eq_true, i1, beq_iff_eq]
      have hin : (c.take i).contains (-c[i]) = true ↔ -c[i] ∈ c.take i := by simp
      rw [hin]
      by_cases hneg : c[i] < 0
      · have e : c[i] = -varL c[i] := by rcases hvx with q | q <;> omega
        have e' : -c[i] = varL c[i] := by omega
        rw [decide_eq_true hneg, i2, e']
        exact ⟨fun q => q.2, fun q => ⟨.inl q, q⟩⟩
      · have e : c[i] = varL c[i] := by rcases hvx with q | q <;> omega
        have e' : -c[i] = -varL c[i] := by omega
        rw [decide_eq_false hneg, e']
        constructor
        · rintro ⟨q | q, r⟩
          · rw [i2.2 q] at r; cases r
          · exact q
        · intro q
          refine ⟨.inr q, ?_⟩
          cases hb : out.getD (varL c[i] - 1).toNat false with
          | false => rfl
          | true => exact absurd ⟨i2.1 hb, q⟩ i3
    rw [hclash] at hm
    cases hcl : (c.take i).contains (-c[i]) with
    | true =>
      rw [hcl, if_pos rfl] at hm
      rw [brB_true]
      rw [← hm] at hK
      exact hK _ _ ⟨⟨none, 0, 0⟩, rfl, osl_nil _ _, st.frame (by simp)⟩
    | false =>
      rw [hcl, if_neg (by decide)] at hm
      rw [brB_false]
      have hnin : -c[i] ∉ c.take i := fun q => by
        have : (c.take i).contains (-c[i]) = true := by simpa using q
        rw [hcl] at this; cases this
      refine rdE (τ := i64) (st.fz 0 rfl) hlt ?_
      refine jn_in fun J hJ => ?_
      have hlen : (varL c[i] - 1).toNat < out.length := by omega
      have fin : ∀ h', Hs [([], h)] [li c s] [io (bitsL (out.set (varL c[i] - 1).toNat (!decide (c[i] < 0)))) s0] h' → J () h' := by
        intro h' st
        refine hJ _ _ (hX _ _ _ ⟨i + 1, _, _, rfl, by omega, by simpa using ho, by simpa using hs, fun v hv' => ?_, hm, st, rfl⟩ (by omega))
        obtain ⟨j1, j2, j3⟩ := hinv v hv'
        rw [take_succ_getE hlt]
        simp only [List.mem_append, List.mem_singleton]
        by_cases hvv : v = (varL c[i] - 1).toNat
        · subst hvv
          rw [hve]
          rw [List.getD_eq_getElem?_getD, List.getElem?_set_self (by omega), List.getD_eq_getElem?_getD, List.getElem?_set_self (by omega)]
          rw [Option.getD_some, Option.getD_some]
          by_cases hneg : c[i] < 0
          · have e : c[i] = -varL c[i] := by rcases hvx with q | q <;> omega
            have hni : varL c[i] ∉ c.take i := fun q => hnin (by rw [show -c[i] = varL c[i] by omega]; exact q)
            refine ⟨⟨fun _ => .inr (.inr e.symm), fun _ => rfl⟩, ?_, ?_⟩
            · rw [decide_eq_true hneg]
              exact ⟨fun q => (by cases q), fun q => q.elim (fun q => absurd q hni) fun q => (by omega)⟩
            · rintro ⟨q | q, _⟩
              · exact hni q
              · omega
          · have e : c[i] = varL c[i] := by rcases hvx with q | q <;> omega
            have hni : -varL c[i] ∉ c.take i := fun q => hnin (by rw [show -c[i] = -varL c[i] by omega]; exact q)
            refine ⟨⟨fun _ => .inl (.inr e.symm), fun _ => rfl⟩, ?_, ?_⟩
            · rw [decide_eq_false hneg]
              exact ⟨fun _ => .inr e.symm, fun _ => rfl⟩
            · rintro ⟨_, q | q⟩
              · exact hni q
              · omega
        · rw [List.getD_eq_getElem?_getD, List.getElem?_set_ne (fun e => hvv e.symm), List.getD_eq_getElem?_getD, List.getElem?_set_ne (fun e => hvv e.symm), ← List.getD_eq_getElem?_getD, ← List.getD_eq_getElem?_getD]
          have ne1 : ¬ (v : Int) + 1 = c[i] := by rcases hvx with q | q <;> omega
          have ne2 : ¬ -((v : Int) + 1) = c[i] := by rcases hvx with q | q <;> omega
          refine ⟨?_, ?_, ?_⟩
          · rw [j1]; simp [ne1, ne2]
          · rw [j2]; simp [ne1]
          · simpa [ne1, ne2] using j3
      have emap : ∀ b, bitsL (out.set (varL c[i] - 1).toNat b) = (bitsL out).set (varL c[i] - 1).toNat (bitI b) := fun b => by simp [bitsL, List.map_set]
      by_cases hpos : c[i] > 0
      · rw [decide_eq_true hpos, brB_true, e1]
        refine st.wrE (τ := i64) 0 rfl (show (varL c[i] - 1).toNat < (bitsL out).length by rw [List.length_map]; omega) 1 fun h4 st => ?_
        simp only [List.set_cons_zero] at st
        refine fin _ ?_
        rw [decide_eq_false (show ¬ c[i] < 0 by omega), emap]; exact st
      · rw [decide_eq_false hpos, brB_false]
        refine fin _ ?_
        have hneg : c[i] < 0 := by omega
        have hout : out.getD (varL c[i] - 1).toNat false = false := by
          cases hb : out.getD (varL c[i] - 1).toNat false with
          | false => rfl
          | true => exact absurd (i2.1 hb) fun q => hnin (by rw [show -c[i] = varL c[i] by rcases hvx with q | q <;> omega]; exact q)
        rw [decide_eq_true hneg]
        have : out.set (varL c[i] - 1).toNat (!true) = out := by
          rw [List.getD_eq_getElem?_getD, List.getElem?_eq_getElem hlen, Option.getD_some] at hout
          rw [Bool.not_true, ← hout, List.set_getElem_self]
        rw [this]; exact st
  · rw [show decide ((i : Int) < (s.len : Int)) = false by rw [l1]; exact dlt_f hlt, brB_false]
    rw [List.drop_eq_nil_of_le (by omega), modelGo_nil] at hm
    rw [← hm] at hK
    exact hK _ _ ⟨s0, rfl, st.res (by simp) 0 rfl, st.frame (by simp)⟩

end Go.Proofs.S
