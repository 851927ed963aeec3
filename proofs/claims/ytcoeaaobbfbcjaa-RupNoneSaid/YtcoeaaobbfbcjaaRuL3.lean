/-
  RupNone.
-/
import Derived.Test.YtcoeaaobbfbcjaaRuL1
set_option linter.unusedVariables false
set_option linter.unusedSimpArgs false
namespace Go.Proofs.S
open Go Go.Sx Go.Proofs Go.Cl Go.Rp

variable {h : Heap} {c d A us o : List Int} {cs ds hs l : List (List Int)} {s s2 s3 : Sl} {fr : Fr} {G As : List Asn} {b n : Nat} {t : TypeId}

set_option maxRecDepth 4000 in
theorem rupNone_F (hA : At h (l8 c s)) (hB : At h (ll8 cs s2)) (hC : At h (lu o s3)) (uo : U8 o) (K : Bool → HP) (hK : ∀ x h', (x = true ∧ Ext [] h h') → K x h') : F_salvorlaw08_RupNone s s2 s3 K h := by
  unfold F_salvorlaw08_RupNone
  have st := Hs.start h [l8 c s, ll8 cs s2, lu o s3] (by simp [hA, hB, hC])
  refine call_of (awake_c h) ?_
  rintro _ h1 ⟨rfl, x1⟩
  refine brF rfl ?_
  have st := st.ext x1
  refine call_of (Made_c (st.fz 0 rfl)) ?_
  rintro r1 h2 ⟨n2, x2⟩
  have st := (st.new x2 n2).froz 0 rfl
  refine call_of (All_c (m := 14) (st.fz 1 rfl) (by decide)) ?_
  rintro r2 h3 ⟨n3, x3⟩
  obtain ⟨ps, lp, st⟩ := Hs.rowsF (st.new x3 n3) 0 rfl
  have hc := madeR_right c
  have hr := allR_right cs 14
  have hl := allR_len cs 14
  have hcl := madeR_len c
  have hfu := allR_fuel cs 14 (by decide)
  generalize madeR c = mc at *
  generalize allR cs 14 = l at *
  have hl' : l.length ≤ 65536 := by omega
  simp only [List.cons_append, List.nil_append, List.eraseIdx_cons_zero] at st
  generalize hGG : (l8 c s :: ll8 cs s2 :: lu o s3 :: rsl i64.enc mc r1 :: rsl Ty.sl.enc ps r2 :: lli l r2 :: rows l ps) = GG at st
  have g2 : GG[2]? = some (lu o s3) := by rw [← hGG]; rfl
  have g3 : GG[3]? = some (li mc r1) := by rw [← hGG]; rfl
  have g4 : GG[4]? = some (rsl Ty.sl.enc ps r2) := by rw [← hGG]; rfl
  have g5 : GG[5]? = some (lli l r2) := by rw [← hGG]; rfl
  have gr : ∀ i (h1 : i < l.length) (h2 : i < ps.length), li l[i] ps[i] ∈ GG := fun i h1 h2 => by
    rw [← hGG]
    have := rows_mem h1 h2
    simp [this]
  refine call_of (Find_c (st.fz 3 g3) (st.fz 5 g5) (by omega) (by omega) hfu) ?_
  rintro _ h5 ⟨s5, rfl, n5, x5⟩
  have st := st.ext x5
  have fe := find_err hc hr hl'
  have lr2 : r2.len = l.length := rsg_len (st.fz 5 g5)
  simp only
  rw [fe]
  refine jn_mid (M := fun t h' => t = (findP mc l).2.1 ∧ h' = h5) ?_ ?_
  rotate_left
  · exact fun J hJ => brF rfl (hJ _ _ ⟨rfl, rfl⟩)
  rintro _ h6 ⟨rfl, e⟩; subst e
  cases hf : (findP mc l).2.1
  rotate_left
  · exact brT rfl (hK _ _ ⟨rfl, st.frame (by simp)⟩)
  refine brF rfl ?_
  obtain ⟨ha, B, hBo, hBs, hcl2⟩ := find_no hc hr hl' hf
  refine slH_min (st.fz 2 g2) 20 fun s6 hs6 => ?_
  have hol : (o.take 20).length ≤ 20 := by simp; omega
  have ls6 := rsl_len (hs6 _ (st.fz 2 g2))
  have uo2 : U8 (o.take 20) := fun n hn => uo n (List.mem_of_mem_take hn)
  generalize o.take 20 = o2 at *
  have st := st.nil ty_clauses_Clause Ty.sl.enc none
  refine lfp_invh (I := fun m σ h' => ∃ (i : Nat) (idx : List Nat) (hh : Sl), σ = ((i : Int), hh, ()) ∧ i ≤ o2.length ∧ m = o2.length - i ∧ (∀ k ∈ idx, k < l.length) ∧ idx.length ≤ i ∧ Hs [([], h)] GG [hio ps idx hh] h')
    ⟨_, 0, [], ⟨none, 0, 0⟩, rfl, by omega, rfl, by simp, by simp, st⟩ ?_
  clear st
  rintro m σ h7 X ⟨i, idx, hh, rfl, hi, rfl, hidx, hil, st⟩ hX
  simp only
  by_cases hlt : i < o2.length
  · refine brT (by rw [ls6]; exact dlt_t hlt) ?_
    refine rdE (τ := .int .u8) (hs6 _ (st.fz 2 g2)) hlt ?_
    have hx := uo2 _ (List.getElem_mem hlt)
    refine jn_in fun J hJ => ?_
    by_cases hp : 0 < l.length
    · refine brT (decide_eq_true (by rw [lr2]; omega)) ?_
      refine ⟨by rw [lr2]; omega, ?_⟩
      obtain ⟨q, hq, hql⟩ : ∃ q : Nat, Int.tmod (IntKind.wrap .i64 o2[i]) (r2.len : Int) = q ∧ q < l.length := by
        rw [wrap_i64 (by omega) (by omega), Int.tmod_eq_emod_of_nonneg (by omega), lr2]
        have h1 := Int.emod_nonneg o2[i] (show (l.length : Int) ≠ 0 by omega)
        have h2 := Int.emod_lt_of_pos o2[i] (show (0 : Int) < l.length by omega)
        exact ⟨(o2[i] % (l.length : Int)).toNat, by omega, by omega⟩
      rw [hq]
      have hqp : q < ps.length := by omega
      refine rdE (τ := .sl) (st.fz 4 g4) hqp ?_
      refine st.nw fun b15 h8 st => ?_
      have lh : (hdrs ps idx).length = idx.length := by simp [hdrs]
      refine st.apd 0 1 rfl rfl (by decide) rfl (by omega) (by decide) rfl fun s16 h9 st => ?_
      have st := st.drop 1 rfl
      refine hJ _ _ ?_
      rw [inc_i (by omega)]
      refine hX _ _ _ ⟨i + 1, idx ++ [q], s16, rfl, by omega, rfl, fun k hk => ?_, by simp; omega, ?_⟩ (by omega)
      · rcases List.mem_append.1 hk with hk | hk
        · exact hidx k hk
        · simp at hk; omega
      · have eH : hdrs ps idx ++ [ps[q]] = hdrs ps (idx ++ [q]) := by simp only [hdrs, List.map_append, List.map_cons, List.map_nil]; rw [getD_lt hqp]
        rw [eH] at st
        exact st
    · refine brF (decide_eq_false (by rw [lr2]; omega)) (hJ _ _ ?_)
      rw [inc_i (by omega)]
      exact hX _ _ _ ⟨i + 1, idx, hh, rfl, by omega, rfl, hidx, by omega, st⟩ (by omega)
  · refine brF (by rw [ls6]; exact dlt_f hlt) ?_
    have hrow : ∀ i (h1 : i < l.length) (h2 : i < ps.length), At h7 (li l[i] ps[i]) := fun i h1 h2 => st.fzm (gr i h1 h2)
    have hds : ∀ d ∈ idx.map (fun i => l.getD i []), d ∈ l := fun d hd => by
      rw [List.mem_map] at hd
      obtain ⟨k, hk, rfl⟩ := hd
      rw [getD_lt (hidx k hk)]; exact List.getElem_mem _
    refine call_of (Check_c (st.fz 3 g3) (hdrs_lli lp hidx (st.own 0 rfl).rsl hrow) (by omega) (by simp; omega)) ?_
    rintro _ h8 ⟨rfl, x8⟩
    have st := (st.ext x8).drop 0 rfl
    have hne := none_check hc hr hl' (ds := idx.map fun i => l.getD i []) (by simp; omega) hds hf
    refine brF (by simpa using hne) ?_
    refine call_of (Assume_c (st.fz 3 g3) (by omega)) ?_
    rintro _ h9 ⟨s9, rfl, n9, x9⟩
    have st := st.new x9 n9
    have eS : assumeP mc = (negs mc, false, 0) := by unfold assumeP; rw [hc, ha]; rfl
    rw [eS] at st ⊢
    refine jn_in fun J hJ => brF rfl (hJ _ _ (brF rfl ?_))
    have hnl : (negs mc).length ≤ 6 := by unfold negs; rw [List.length_map]; have := nrm_length mc; omega
    have hno := okA_negs hc ha
    refine lfp_invh (I := fun m σ h' => ∃ (i : Nat) (x : Bool) (A : List Int) (a : Sl), σ = ((i : Int), a, x, ()) ∧ i ≤ 8 ∧ m = 8 - i ∧ okA A = true ∧ (∀ y ∈ A, y ∈ B) ∧ A.length ≤ 6 + 14 * i ∧ Hs [([], h)] GG [lo A a] h')
      ⟨_, 0, false, negs mc, s9, rfl, by omega, rfl, hno, hBs, by omega, st⟩ ?_
    clear st
    rintro m σ h10 X2 ⟨i8, x, A, a, rfl, hi8, rfl, hok, hAB, hAl, st⟩ hX2
    simp only
    by_cases hlt8 : i8 < 8
    · refine brT (decide_eq_true (by omega)) ?_
      refine lfp_invh (I := fun m σ h' => ∃ (j : Nat) (x : Bool) (A : List Int) (a : Sl), σ = ((j : Int), a, x, ()) ∧ j ≤ l.length ∧ m = l.length - j ∧ okA A = true ∧ (∀ y ∈ A, y ∈ B) ∧ A.length ≤ 6 + 14 * i8 + j ∧ Hs [([], h)] GG [lo A a] h')
        ⟨_, 0, x, A, a, rfl, by omega, rfl, hok, hAB, by omega, st⟩ ?_
      clear st
      rintro m σ h11 X3 ⟨j, x, A, a, rfl, hj, rfl, hok, hAB, hAl, st⟩ hX3
      simp only
      by_cases hjl : j < l.length
      · refine brT (by rw [lr2]; exact dlt_t hjl) ?_
        refine rdG (st.fz 5 g5) hjl fun p hp => ?_
        have hrj := hr _ (List.getElem_mem hjl)
        refine call_of (Look_c hp (st.own 0 rfl).rsl (by have := rightC_len hrj; omega) (by omega)) ?_
        rintro _ h12 ⟨rfl, x12⟩
        have st := st.ext x12
        have eL : lookF A l[j] = ((lookP A l[j]).1, (lookP A l[j]).2, 0) := by unfold lookF; rw [hrj, hok]; rfl
        rw [eL]
        have hst := closed_step hBo hAB (hcl2 _ (List.getElem_mem hjl)).1 (hcl2 _ (List.getElem_mem hjl)).2
        refine jn_in fun J4 hJ4 => brF rfl (hJ4 _ _ (brF (by simpa using hst.1) ?_))
        refine jn_in fun J5 hJ5 => ?_
        by_cases h3 : (lookP A l[j]).1 = 3
        · refine brT (by simpa using h3) ?_
          have hu := look_unit' h3
          refine st.nw fun b32 h13 st => ?_
          refine st.apd 0 1 rfl rfl (by decide) rfl (by omega) (by decide) rfl fun s33 h14 st => ?_
          have st := st.drop 1 rfl
          refine hJ5 _ _ ?_
          rw [inc_i (by omega)]
          refine hX3 _ _ _ ⟨j + 1, x, A ++ [(lookP A l[j]).2], s33, rfl, by omega, rfl, okA_snoc hok (rightC_rt hrj _ hu.2.1) hu.2.2.1, fun y hy => ?_, by simp; omega, st⟩ (by omega)
          rcases List.mem_append.1 hy with hy | hy
          · exact hAB y hy
          · simp at hy; subst hy; exact hst.2 _ (Prod.ext h3 rfl)
        · refine brF (by simpa using h3) (hJ5 _ _ ?_)
          rw [inc_i (by omega)]
          exact hX3 _ _ _ ⟨j + 1, x, A, a, rfl, by omega, rfl, hok, hAB, by omega, st⟩ (by omega)
      · refine brF (by rw [lr2]; exact dlt_f hjl) ?_
        rw [inc_i (by omega)]
        exact hX2 _ _ _ ⟨i8 + 1, x, A, a, rfl, by omega, rfl, hok, hAB, by omega, st⟩ (by omega)
    · refine brF (decide_eq_false (by omega)) ?_
      refine call_of (Right_c (st.own 0 rfl).rsl (by omega)) ?_
      rintro _ h11 ⟨rfl, x11⟩
      have st := st.ext x11
      exact hK _ _ ⟨hok, st.frame (by simp)⟩

end Go.Proofs.S
