/-
  OrderDivides: the walk.
-/
import Derived.Test.YtkfdfbgceockpaaOrdL3
set_option linter.unusedVariables false
namespace Go.Proofs.Ord
open Go Go.Sx Go.Proofs

theorem listed {act L : List Int} (s : Sorted act L) {i : Nat} (h0 : 0 < i) (hi : i < L.length) :
    g act (g L i).toNat < g act (g L (i - 1)).toNat ∨ (g act (g L (i - 1)).toNat = g act (g L i).toNat ∧ g L (i - 1) < g L i) := by
  have := bef_iff.1 (s.g (show i - 1 < i by omega) hi)
  omega

theorem getE_g {xs : List Int} {i : Nat} (h : i < xs.length) : xs[i]? = some (g xs i) := by
  simp [g, List.getD_eq_getElem?_getD, List.getElem?_eq_getElem h]

theorem ints_get {xs : List Int} {i : Nat} (h : i < xs.length) : (ints xs)[i]? = some (.int .i64 (g xs i)) := by
  rw [List.getElem?_map, getE_g h]; rfl

theorem orderDivides_F {h : Heap} {a : Sl} {n b : Int} (hb : Byts h a.a a.len) (hc : a.len ≤ a.cap) (hn0 : 0 ≤ n) (hn1 : n < 65536) (hb0 : 0 ≤ b) (hb1 : b < 256) :
    ∀ K : Bool → HP, (∀ x h', (x = true ∧ Ext [] h h') → K x h') → F_salvorlaw11_OrderDivides a n b K h := by
  intro K hK
  unfold F_salvorlaw11_OrderDivides
  have st := Hs.start h [] (by simp)
  refine put_Hs st hb hc fun o act step L h3 st hstep hact => ?_
  simp only [Bool.not_true, brB_false, nz_ok (show (901 : Int) ≠ 0 by decide)]
  obtain ⟨N, hN⟩ : ∃ N : Nat, IntKind.wrap .i64 (Int.tmod n 901) = N := ⟨(n % 901).toNat, by
    rw [Int.tmod_eq_emod_of_nonneg hn0, wrap_i64 (by omega) (by omega)]; omega⟩
  have hN1 : N ≤ 900 := by
    rw [Int.tmod_eq_emod_of_nonneg hn0, wrap_i64 (by omega) (by omega)] at hN; omega
  rw [hN]
  have i0 : ∀ v : Nat, 1 ≤ v → v ≤ 12 → ∀ act : List Int, (if 1 ≤ (v : Int) ∧ (v : Int) ≤ (12 : Nat) then ((g act (v : Int).toNat, 0, ()) : Int × Int × Unit) else (0, 110, ())) = (g act v, 0, ()) := fun v h1 h2 act => by
    rw [if_pos ⟨by omega, by omega⟩, Int.toNat_natCast]
  have wb : IntKind.wrap .i64 b = b := wrap_i64 (by omega) (by omega)
  refine lfp_invh (I := fun m σ h' => ∃ (i : Nat) (act : List Int) (step : Int) (L : List Int), σ = ((i : Int), false, ()) ∧ i ≤ N ∧ Hs [([], h)] [] [repA o 12 act step L] h' ∧ Rnd b i act step ∧ m = N - i)
    ⟨_, 0, act, step, L, rfl, by omega, st, ⟨by simp only [maxA]; omega, fun _ => by simp; omega, fun j h1 h2 => by omega⟩, rfl⟩ ?_
  clear st hact hstep act step L
  rintro m σ h' X ⟨i, act, step, L, rfl, hi, st, rnd, rfl⟩ hX
  obtain ⟨S, rep, lim⟩ := Hs.rep st 0 rfl
  have hlen := rep.len
  have hl13 : act.length = 13 := hlen.1
  by_cases hlt : i < N
  · simp only [dec_lt_t hlt, brB_true]
    refine call_of (stepR_c rep) ?_
    rintro sv _ ⟨esv, rfl⟩
    rw [esv]
    refine st.nw fun b4 h4 st => ?_
    have e4 : [repA o 12 act step L] ++ [cl b4 28 #[Value.int .i64 0, .int .i64 0, .int .i64 0, .int .i64 0, .int .i64 0, .int .i64 0, .int .i64 0, .int .i64 0, .int .i64 0, .int .i64 0, .int .i64 0, .int .i64 0, .int .i64 0].toList] = [repA o 12 act step L, cl b4 28 (ints (zeros 13))] := rfl
    rw [e4] at st
    have hs1 := lim.s1
    have ok := rnd.ok
    refine lfp_invh (I := fun m σ h' => ∃ (j : Nat) (ws : List Int), σ = ((j : Int), ()) ∧ 1 ≤ j ∧ j ≤ 13 ∧ ws.length = 13 ∧ (∀ k, 1 ≤ k → k < j → g ws k = g act k) ∧ Hs [([], h)] [] [repA o 12 act step L, cl b4 28 (ints ws)] h' ∧ m = 13 - j)
      ⟨_, 1, zeros 13, rfl, by omega, by omega, by simp, fun j h1 h2 => by omega, st, rfl⟩ ?_
    clear st
    rintro m σ h5 Y ⟨j, ws, rfl, hj1, hj, hwl, hws, st, rfl⟩ hY
    by_cases hjl : j < 13
    · have e3 : decide ((j : Int) ≤ 12) = true := by simp; omega
      simp only [e3, brB_true, inc64 (show j < 100000000 by omega)]
      obtain ⟨S, rep, lim⟩ := Hs.rep st 0 rfl
      refine call_of (activityR_c rep _) ?_
      rintro _ _ ⟨rfl, rfl⟩
      rw [i0 j hj1 (by omega), ax_ok (by omega) (by omega)]
      simp only [Int.toNat_natCast, Nat.mul_one, addr_add, Nat.zero_add]
      refine st.st1 1 j rfl (by simp; omega) fun h6 st => ?_
      refine hY _ _ _ ⟨j + 1, ws.set j (g act j), rfl, by omega, by omega, by simpa using hwl, fun k h1 h2 => ?_, ?_, rfl⟩ (by omega)
      · rw [g_set]
        split
        · rename_i hh; rw [hh.1]
        · exact hws k h1 (by rename_i hh; omega)
      · have e : (ints ws).set j (.int .i64 (g act j)) = ints (ws.set j (g act j)) := (List.map_set ..).symm
        rw [e] at st; exact st
    have e3 : decide ((j : Int) ≤ 12) = false := by simp; omega
    have ej : j = 13 := by omega
    subst ej
    simp only [e3, brB_false]
    clear hY Y
    refine Hs.decay st 0 rfl fun h6 st => ?_
    have ed : (if step + step / 16 + 1 ≤ maxA then step + step / 16 + 1 else step) = step + step / 16 + 1 := if_pos ok
    rw [ed] at st
    rw [if_pos ok]
    simp only [bne_self_eq_false, brB_false]
    obtain ⟨S, rep, lim2⟩ := Hs.rep st 0 rfl
    have hs2 := lim2.s1
    have hs3 := lim2.s2
    have hm : maxA = 1125899906842624 := rfl
    refine call_of (stepR_c rep) ?_
    rintro sv1 _ ⟨esv1, rfl⟩
    rw [esv1]
    have et : IntKind.wrap .i64 (IntKind.wrap .i64 (step + IntKind.wrap .i64 (Int.tdiv step 16)) + 1) = step + step / 16 + 1 := by
      rw [Int.tdiv_eq_ediv_of_nonneg (by omega), wrap_i64 (x := step / 16) (by omega) (by omega), wrap_i64 (x := step + step / 16) (by omega) (by omega), wrap_i64 (by omega) (by omega)]
    simp only [nz_ok (show (16 : Int) ≠ 0 by decide), et, bne_self_eq_false, brB_false]
    refine call_of (stepR_c rep) ?_
    rintro sv2 _ ⟨esv2, rfl⟩
    rw [esv2]
    have hu := uv_lt (i := i) hb0
    have ev : IntKind.wrap .i64 (1 + Int.tmod (IntKind.wrap .i64 (IntKind.wrap .i64 b + (i : Int))) 12) = (uv b i : Nat) := by
      rw [wb, wrap_i64 (x := b + i) (by omega) (by omega), Int.tmod_eq_emod_of_nonneg (by omega), wrap_i64 (by omega) (by omega)]
      unfold uv; omega
    simp only [nz_ok (show (12 : Int) ≠ 0 by decide), ev]
    refine Hs.bump st 0 rfl _ (by omega) fun h7 st => ?_
    have hcond : (1 : Int) ≤ (uv b i : Int) ∧ (uv b i : Int) ≤ (12 : Nat) := by omega
    rw [if_pos hcond]
    simp only [bne_self_eq_false, brB_false]
    have rnd' := rnd.step hb0 lim hl13
    obtain ⟨S, rep', lim3⟩ := Hs.rep st 0 rfl
    have hs4 := lim3.s1
    have hs5 := lim3.s2
    refine call_of (stepR_c rep') ?_
    rintro sv3 _ ⟨esv3, rfl⟩
    rw [esv3]
    have e5 : decide (bumpS act 12 (uv b i) (step + step / 16 + 1) < 1) = false := by simp; omega
    rw [e5, brB_false]
    refine call_of (stepR_c rep') ?_
    rintro sv4 _ ⟨esv4, rfl⟩
    rw [esv4]
    have e6 : decide (bumpS act 12 (uv b i) (step + step / 16 + 1) > 1125899906842624) = false := by simp; omega
    rw [e6, brB_false, ax_ok (by omega) (by omega)]
    simp only [Int.toNat_natCast, Nat.mul_one, addr_add, Nat.zero_add]
    rw [st.ldi 1 (uv b i) rfl (ints_get (by omega)), ax_ok (by omega) (by omega)]
    simp only [Int.toNat_natCast, Nat.mul_one, addr_add, Nat.zero_add]
    have alo := lim.lo (uv b i)
    have ahi := lim.hi (uv b i)
    have ew : IntKind.wrap .i64 (g ws (uv b i) + (step + step / 16 + 1)) = g act (uv b i) + (step + step / 16 + 1) := by
      rw [hws _ hu.1 (by omega), wrap_i64 (by omega) (by omega)]
    rw [ew]
    refine st.st1 1 (uv b i) rfl (by simp; omega) fun h8 st => ?_
    rw [ax_ok (by omega) (by omega)]
    simp only [Int.toNat_natCast, Nat.mul_one, addr_add, Nat.zero_add]
    rw [st.ldi 1 (uv b i) (n := g act (uv b i) + (step + step / 16 + 1)) rfl (by rw [List.getElem?_set_self (by simp; omega)])]
    refine call_of (stepR_c (Hs.rep st 0 rfl).choose_spec.1) ?_
    rintro sv5 h8 ⟨esv5, rfl⟩
    rw [esv5]
    -- divided, or not
    obtain ⟨D, hD⟩ : ∃ D : Bool, D = decide (g act (uv b i) + (step + step / 16 + 1) > maxA) := ⟨_, rfl⟩
    have eD : decide (bumpS act 12 (uv b i) (step + step / 16 + 1) < step + step / 16 + 1) = D := by
      rw [hD]
      unfold bumpS
      simp only [if_pos hcond, Int.toNat_natCast]
      by_cases hg : g act (uv b i) + (step + step / 16 + 1) > maxA
      · simp only [if_pos hg, decide_eq_true hg, decide_eq_true_eq]
        split <;> omega
      · simp only [if_neg hg, decide_eq_false hg, decide_eq_false_iff_not]; omega
    have eD2 : decide (g act (uv b i) + (step + step / 16 + 1) > 1125899906842624) = D := hD.symm
    rw [eD, eD2]
    simp only [beq_self_eq_true, Bool.not_true, brB_false]
    have eact : ∀ x : Nat, 1 ≤ x → x ≤ 12 → g (bumpA act 12 (uv b i) (step + step / 16 + 1)) x = (if D then (g (ws.set (uv b i) (g act (uv b i) + (step + step / 16 + 1))) x) / 1073741824 else g (ws.set (uv b i) (g act (uv b i) + (step + step / 16 + 1))) x) := by
      intro x h1 h2
      have e0 : g (ws.set (uv b i) (g act (uv b i) + (step + step / 16 + 1))) x = g (act.set (uv b i) (g act (uv b i) + (step + step / 16 + 1))) x := by
        rw [g_set, g_set, hl13, hwl, hws x h1 (by omega)]
      rw [e0]
      unfold bumpA
      rw [if_pos hcond]
      simp only [Int.toNat_natCast]
      by_cases hg : g act (uv b i) + (step + step / 16 + 1) > maxA
      · rw [if_pos hg, hD, decide_eq_true hg, if_pos rfl, g_map (by simp; omega)]
      · rw [if_neg hg, hD, decide_eq_false hg]; rfl
    refine lfp_invh (I := fun m σ h' => ∃ (x : Nat), σ = ((x : Int), false, ()) ∧ 1 ≤ x ∧ x ≤ 13 ∧ h' = h8 ∧ m = 13 - x) ⟨_, 1, rfl, by omega, by omega, rfl, rfl⟩ ?_
    rintro m σ h9 Y ⟨x, rfl, hx1, hx, rfl, rfl⟩ hY
    by_cases hxl : x < 13
    · have e3 : decide ((x : Int) ≤ 12) = true := by simp; omega
      simp only [e3, brB_true, inc64 (show x < 100000000 by omega)]
      refine call_of (activityR_c (Hs.rep st 0 rfl).choose_spec.1 _) ?_
      rintro _ h9 ⟨rfl, rfl⟩
      rw [i0 x hx1 (by omega), ax_ok (by omega) (by omega)]
      simp only [Int.toNat_natCast, Nat.mul_one, addr_add, Nat.zero_add]
      rw [st.ldi 1 x (n := g (ws.set (uv b i) (g act (uv b i) + (step + step / 16 + 1))) x) rfl (by
        have : (ints ws).set (uv b i) (Value.int .i64 (g act (uv b i) + (step + step / 16 + 1))) = ints (ws.set (uv b i) (g act (uv b i) + (step + step / 16 + 1))) := (List.map_set ..).symm
        rw [this]; exact ints_get (by simp; omega))]
      have ex := eact x hx1 (by omega)
      have hi12 := lim3.hi x
      refine jn_mid (M := fun s h2 => s.1 = g (bumpA act 12 (uv b i) (step + step / 16 + 1)) x ∧ h2 = h9) ?_ ?_
      · rintro ⟨s, ⟨⟩⟩ h2 ⟨e, rfl⟩
        simp only at e
        subst e
        have e7 : decide (g (bumpA act 12 (uv b i) (step + step / 16 + 1)) x > 1125899906842624) = false := by simp; omega
        simp only [bne_self_eq_false, brB_false, e7]
        exact hY _ _ _ ⟨x + 1, rfl, by omega, by omega, rfl, rfl⟩ (by omega)
      · intro J hJ
        cases D with
        | true =>
          simp only [brB_true, ge0_ok (show (0 : Int) ≤ 30 by decide)]
          refine hJ _ _ ⟨?_, rfl⟩
          rw [ex]
          show Int.fdiv _ _ = _
          rw [fdiv30]; rfl
        | false =>
          simp only [brB_false]
          refine hJ _ _ ⟨?_, rfl⟩
          rw [ex]; rfl
    have e3 : decide ((x : Int) ≤ 12) = false := by simp; omega
    simp only [e3, brB_false, inc64 (show i < 100000000 by omega)]
    exact hX _ _ _ ⟨i + 1, _, _, _, rfl, by omega, st.drop 1 rfl, rnd', rfl⟩ (by omega)
  simp only [dec_lt_f hlt, brB_false]
  refine Hs.list st 0 rfl (by omega) fun s h4 st => ?_
  obtain ⟨sa, sl, sc⟩ := s
  have l1 : sl = L.length := osl_len (st.own 1 rfl)
  subst l1
  obtain ⟨S, rep, lim⟩ := Hs.rep st 0 rfl
  have srtd := rep.sorted
  have hmem := rep.mem
  have i1 : ∀ v : Int, v ∈ L → (if 1 ≤ v ∧ v ≤ (12 : Nat) then ((g act v.toNat, 0, ()) : Int × Int × Unit) else (0, 110, ())) = (g act v.toNat, 0, ()) := fun v hv => if_pos (hmem v hv)
  clear hX
  refine lfp_invh (I := fun m σ h' => ∃ (i : Nat), σ = ((i : Int), false, ()) ∧ i ≤ L.length ∧ h' = h4 ∧ m = L.length - i) ⟨_, 0, rfl, by omega, rfl, rfl⟩ ?_
  rintro m σ h5 X ⟨i, rfl, hi, rfl, rfl⟩ hX
  by_cases hlt : i < L.length
  · simp only [dec_lt_t hlt, brB_true, inc64 (show i < 100000000 by omega)]
    refine jn_in fun J hJ => ?_
    have next : ∀ h2, h2 = h5 → J (false, ()) h2 := fun h2 e => hJ _ _ (hX _ _ _ ⟨i + 1, rfl, by omega, e, rfl⟩ (by omega))
    by_cases h0 : 0 < i
    · have e3 : decide ((i : Int) > 0) = true := by simp; omega
      have hl' : i - 1 < L.length := by omega
      simp only [e3, brB_true, dec64 (show i < 100000000 by omega) h0]
      have rs := (st.own 1 rfl).rsl
      refine rd_ok (τ := .int .i64) rs (getE_g hl') ?_
      refine call_of (activityR_c rep _) ?_
      rintro _ _ ⟨rfl, rfl⟩
      refine rd_ok (τ := .int .i64) rs (getE_g hlt) ?_
      refine call_of (activityR_c rep _) ?_
      rintro _ _ ⟨rfl, rfl⟩
      rw [i1 _ (g_mem hl'), i1 _ (g_mem hlt)]
      simp only
      have hs := listed srtd h0 hlt
      have e4 : decide (g act (g L (i - 1)).toNat < g act (g L i).toNat) = false := by simp; omega
      simp only [e4, brB_false]
      by_cases he : g act (g L (i - 1)).toNat = g act (g L i).toNat
      · have e5 : (g act (g L (i - 1)).toNat == g act (g L i).toNat) = true := by simp [he]
        have e6 : decide (g L (i - 1) > g L i) = false := by simp; omega
        rw [e5, brB_true]
        refine rd_ok (τ := .int .i64) rs (getE_g hl') ?_
        refine rd_ok (τ := .int .i64) rs (getE_g hlt) ?_
        rw [e6, brB_false]
        exact next _ rfl
      · have e5 : (g act (g L (i - 1)).toNat == g act (g L i).toNat) = false := by simp [he]
        rw [e5, brB_false]
        exact next _ rfl
    · have e3 : decide ((i : Int) > 0) = false := by simp; omega
      simp only [e3, brB_false]
      exact next _ rfl
  · simp only [dec_lt_f hlt, brB_false, brB_true]
    refine call_of (lenR_c rep) ?_
    rintro _ _ ⟨rfl, rfl⟩
    simp only [beq_self_eq_true, brB_true]
    refine call_of (awake_c _) ?_
    rintro _ h8 ⟨rfl, x8⟩
    exact hK _ _ ⟨rfl, (st.frame (by simp)).nil_trans x8⟩

end Go.Proofs.Ord
