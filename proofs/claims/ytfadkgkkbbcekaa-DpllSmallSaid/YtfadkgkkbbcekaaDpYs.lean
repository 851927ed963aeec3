/-
  The reference of dpll: Search, Wrong, Greatest, Implied: contracts.
-/
import Derived.Test.YtfadkgkkbbcekaaDpWT
import Derived.Test.YtfadkgkkbbcekaaCrQ
import Derived.Test.YtfadkgkkbbcekaaFoT
set_option linter.unusedVariables false
set_option linter.unusedSimpArgs false
namespace Go.Proofs.S
open Go Go.Sx Go.Proofs Go.Cl Go.Dp

variable {h : Heap} {l cs : List (List Int)} {s s2 sl sm r : Sl} {c d L L1 : List Int} {m : List Bool} {b v : Nat} {G : List Asn}

abbrev tSr : Ty := .tup (.cons .sl (.cons .bool (.cons (.int .i64) .nil)))

theorem SrTl_c {n : Int} {f fu : Nat} {u w : Option (List Bool) × Nat} {b0 : Nat} {s5 sr : Sl} {h0 h : Heap} {K : (Sl × (Bool × (Int × Unit))) → HP} (i0 i1 i2 : Nat)
    (st : Hs [([], h0)] G [io (bitsL (u.1.getD [])) sr] h) (g0 : G[i0]? = some (lli cs s)) (g1 : G[i1]? = some (cl b0 ty_salvorref05_Formula [.int .i64 n, .slice s.a s.len s.cap])) (g2 : G[i2]? = some (io L1 s5)) (hL1 : L1.length ≤ 1048576)
    (hu : u.2 ≤ fu) (hfu : fu ≤ 16777216) (hw : w.2 ≤ 16777217)
    (hrec : ∀ (sq : Sl) (h' : Heap), At h' (lli cs s) → At h' (li (L1 ++ [(f : Int)]) sq) → u.2 + 2 ≤ fu → callT Try.prog fn_salvorref19_Search #[.agg #[.int .i64 n, .slice s.a s.len s.cap], .slice sq.a sq.len sq.cap, .int .i64 ((fu - u.2 - 2 : Nat) : Int)] tSr
      (fun r h2 => ∃ s', r = (s', w.1.isSome, (w.2 : Int), ()) ∧ New h'.size h2 (io (bitsL (w.1.getD [])) s') ∧ Ext [] h' h2) h')
    (hK : ∀ (s' : Sl) (o : Option (List Bool)) (g : Nat) h', (o, g) = (if u.1.isSome ∨ u.2 + 1 > fu then (u.1, u.2 + 1) else if u.2 + 2 > fu then (none, u.2 + 2) else (w.1, u.2 + 2 + w.2)) → New h0.size h' (io (bitsL (o.getD [])) s') → Ext [] h0 h' → K (s', o.isSome, (g : Int), ()) h') :
    SrTl b0 s5 (f : Int) (fu : Int) (sr, u.1.isSome, (u.2 : Int), ()) K h := by
  unfold SrTl
  have e1 : IntKind.wrap .i64 ((u.2 : Int) + 1) = ((u.2 + 1 : Nat) : Int) := by rw [wrap_i64 (by omega) (by omega)]; omega
  have e2 : IntKind.wrap .i64 ((u.2 : Int) + 2) = ((u.2 + 2 : Nat) : Int) := by rw [wrap_i64 (by omega) (by omega)]; omega
  have one : ∀ (ht : u.1.isSome ∨ u.2 + 1 > fu), K (⟨sr.a, sr.len, sr.cap⟩, u.1.isSome, ((u.2 + 1 : Nat) : Int), ()) h := fun ht =>
    hK sr u.1 (u.2 + 1) h (by rw [if_pos ht]) (st.res (by simp) 0 rfl) (st.frame (by simp))
  simp only [e1, e2]
  refine jn_in fun J hJ => ?_
  by_cases h1 : u.1.isSome = true
  · exact brT h1 (hJ _ _ (brT rfl (one (.inl h1))))
  refine brF (by simpa using h1) (hJ _ _ ?_)
  clear J hJ
  by_cases h2 : u.2 + 1 > fu
  · exact brT (decide_eq_true (by omega)) (one (.inr h2))
  refine brF (decide_eq_false (by omega)) ?_
  have hn : ¬ (u.1.isSome = true ∨ u.2 + 1 > fu) := fun q => q.elim h1 h2
  rw [if_neg hn] at hK
  by_cases h3 : u.2 + 2 > fu
  · rw [if_pos h3] at hK
    exact brT (decide_eq_true (by omega)) (hK ⟨none, 0, 0⟩ none (u.2 + 2) h rfl (osl_nil _ _) (st.frame (by simp)))
  rw [if_neg h3] at hK
  refine brF (decide_eq_false (by omega)) ?_
  refine ldF (st.fblk i1 g1) ?_
  have e3 : IntKind.wrap .i64 ((IntKind.wrap .i64 ((fu : Int) - (u.2 : Int))) - 2) = ((fu - u.2 - 2 : Nat) : Int) := by
    rw [wrap_i64 (x := (fu : Int) - (u.2 : Int)) (by omega) (by omega), wrap_i64 (by omega) (by omega)]; omega
  have fin : ∀ (sq : Sl) (h' : Heap) (As : List Asn) (k : Nat), Hs [([], h0)] G As h' → As[k]? = some (io (L1 ++ [(f : Int)]) sq) →
      callT Try.prog fn_salvorref19_Search #[.agg #[.int .i64 n, .slice s.a s.len s.cap], .slice sq.a sq.len sq.cap, .int .i64 (IntKind.wrap .i64 ((IntKind.wrap .i64 ((fu : Int) - (u.2 : Int))) - 2))] tSr
        (fun r => K (⟨r.1.a, r.1.len, r.1.cap⟩, r.2.1, (IntKind.wrap .i64 (((u.2 + 2 : Nat) : Int) + r.2.2.1)), ())) h' := by
    intro sq h' As k st hk
    rw [e3]
    refine call_of (hrec sq h' (st.fz i0 g0) (st.own k hk).rsl (by omega)) ?_
    rintro _ h2 ⟨s', rfl, n2, x2⟩
    have st := st.new x2 n2
    have e4 : IntKind.wrap .i64 (((u.2 + 2 : Nat) : Int) + (w.2 : Int)) = ((u.2 + 2 + w.2 : Nat) : Int) := by rw [wrap_i64 (by omega) (by omega)]; omega
    simp only [e4]
    exact hK s' w.1 _ h2 rfl (st.res (by simp) As.length (lastA _ _)) (st.frame (by simp))
  refine ⟨?_, ?_⟩
  · refine st.nw fun b30 h4 st => ?_
    simp only [List.cons_append, List.nil_append] at st
    refine ⟨?_, ?_⟩
    · have st := st.asSl 1 i64.enc [] rfl rfl
      refine st.apdS (τ := i64) 1 rfl (st.fz i2 g2).rsl leaf_int (by simp; omega) (by decide) fun s31 h5 st => ?_
      refine ckF (st.fblk i1 g1) ?_
      simp only [List.nil_append, List.set_cons_zero, List.set_cons_succ] at st
      refine st.nw fun b32 h6 st => ?_
      simp only [List.cons_append, List.nil_append] at st
      refine st.apd (v := (f : Int)) 1 2 rfl rfl (by decide) rfl (by omega) (by decide) rfl fun s33 h7 st => ?_
      refine ckF (st.fblk i1 g1) ?_
      exact fin s33 h7 _ 1 st rfl
    · refine st.nw fun b35 h5 st => ?_
      simp only [List.cons_append, List.nil_append] at st
      have st := st.asSl 1 i64.enc [] rfl rfl
      refine st.apdS (τ := i64) 1 rfl (st.fz i2 g2).rsl leaf_int (by simp; omega) (by decide) fun s31 h6 st => ?_
      refine ckF (st.fblk i1 g1) ?_
      simp only [List.nil_append, List.set_cons_zero, List.set_cons_succ] at st
      refine st.apd (v := (f : Int)) 1 2 rfl rfl (by decide) rfl (by omega) (by decide) rfl fun s33 h7 st => ?_
      refine ckF (st.fblk i1 g1) ?_
      exact fin s33 h7 _ 1 st rfl
  · refine st.nw fun b39 h4 st => ?_
    refine st.nw fun b40 h5 st => ?_
    simp only [List.cons_append, List.nil_append] at st
    have st := st.asSl 2 i64.enc [] rfl rfl
    refine st.apdS (τ := i64) 2 rfl (st.fz i2 g2).rsl leaf_int (by simp; omega) (by decide) fun s31 h6 st => ?_
    refine ckF (st.fblk i1 g1) ?_
    simp only [List.nil_append, List.set_cons_zero, List.set_cons_succ] at st
    refine st.apd (v := (f : Int)) 2 1 rfl rfl (by decide) rfl (by omega) (by decide) rfl fun s33 h7 st => ?_
    refine ckF (st.fblk i1 g1) ?_
    exact fin s33 h7 _ 2 st rfl

def rowM (v : Nat) (L : List Int) (n : Nat) : List Int := (List.range v).map fun i => if i + 1 < n ∧ ((i : Int) + 1) ∈ L then 1 else 0
theorem rowM_len {n : Nat} : (rowM v L n).length = v := by simp [rowM]
theorem rowM_one : rowM v L 1 = List.replicate v 0 := by
  refine List.ext_getElem (by simp [rowM]) fun i h1 h2 => ?_
  simp [rowM]
theorem rowM_step {n : Nat} (h1 : 1 ≤ n) (h2 : n ≤ v) : rowM v L (n + 1) = if (n : Int) ∈ L then (rowM v L n).set (n - 1) 1 else rowM v L n := by
  refine List.ext_getElem (by split <;> simp [rowM]) fun i h3 h4 => ?_
  have hi : i < v := by simpa [rowM] using h3
  by_cases hm : (n : Int) ∈ L
  · simp only [if_pos hm, List.getElem_set]
    by_cases e : n - 1 = i
    · rw [if_pos e]
      have e2 : ((i : Int) + 1) = (n : Int) := by omega
      simp only [rowM, List.getElem_map, List.getElem_range]
      rw [e2, if_pos ⟨by omega, hm⟩]
    · rw [if_neg e]
      simp only [rowM, List.getElem_map, List.getElem_range]
      by_cases e3 : i + 1 < n
      · simp [e3, show i + 1 < n + 1 by omega]
      · simp [e3, show ¬ i + 1 < n + 1 by omega]
  · simp only [if_neg hm]
    simp only [rowM, List.getElem_map, List.getElem_range]
    by_cases e3 : i + 1 < n
    · simp [e3, show i + 1 < n + 1 by omega]
    · by_cases e : i + 1 = n
      · have e2 : ((i : Int) + 1) = (n : Int) := by omega
        rw [e2, if_neg (fun q => hm q.2), if_neg (fun q => hm q.2)]
      · simp [e3, show ¬ i + 1 < n + 1 by omega]
theorem rowM_all : rowM v L (v + 1) = bitsL (modelOf v L) := by
  refine List.ext_getElem (by simp [rowM, modelOf]) fun i h1 h2 => ?_
  have hi : i < v := by simpa [rowM] using h1
  simp only [rowM, modelOf, List.getElem_map, List.getElem_range, bitI]
  by_cases hm : ((i : Int) + 1) ∈ L
  · rw [if_pos ⟨by omega, hm⟩, decide_eq_true (tv_pos.2 hm)]; rfl
  · rw [if_neg (fun q => hm q.2), decide_eq_false (fun q => hm (tv_pos.1 q))]; rfl

theorem free_uniq {n : Nat} (h1 : 1 ≤ n) (h2 : n ≤ v + 1) (h3 : ∀ j, 1 ≤ j → j < n → tv L (j : Int) ≠ 0) (h4 : n ≤ v → tv L (n : Int) = 0) : n = freeV v L := by
  obtain ⟨a, b, c, d⟩ := freeV_spec (v := v) (L := L)
  rcases Nat.lt_trichotomy n (freeV v L) with q | q | q
  · exact absurd (h4 (by omega)) (c n h1 q)
  · exact q
  · exact absurd (d (by omega)) (h3 _ a q)

set_option maxHeartbeats 1000000 in
theorem r19_search_c (hi : Fo.InV v cs) (hl : cs.length ≤ 1048576) (hc : ∀ c ∈ cs, c.length ≤ 1048576) (hv : v ≤ 1048576) : ∀ (k : Nat) (L : List Int) (sl : Sl) (fu : Nat) (h : Heap), Asg v L → L.length + freeN v L ≤ 1048576 → freeN v L < k → fu ≤ 16777216 → At h (lli cs s) → At h (li L sl) →
    callT Try.prog fn_salvorref19_Search #[.agg #[.int .i64 (v : Int), .slice s.a s.len s.cap], .slice sl.a sl.len sl.cap, .int .i64 (fu : Int)] tSr
      (fun r h' => ∃ s', r = (s', (Dp.runT fu (trace v cs k L)).1.isSome, ((Dp.runT fu (trace v cs k L)).2 : Int), ()) ∧ New h.size h' (io (bitsL ((Dp.runT fu (trace v cs k L)).1.getD [])) s') ∧ Ext [] h h') h
  | 0, L, sl, fu, h, _, _, hk, _, _, _ => by omega
  | k + 1, L, sl, fu, h, hAs, hb, hk, hfu, hA, hB => by
    refine callT_gen fun K hK => S_salvorref19_Search (a0 := ((v : Int), s, ())) (a1 := sl) (a2 := (fu : Int)) K ?_
    unfold F_salvorref19_Search
    have hK : ∀ (s' : Sl) (o : Option (List Bool)) (g : Nat) h', (o, g) = Dp.runT fu (trace v cs (k + 1) L) → New h.size h' (io (bitsL (o.getD [])) s') → Ext [] h h' → K (s', o.isSome, (g : Int), ()) h' := by
      intro s' o g h' e hn x
      refine hK _ _ ⟨s', ?_, ?_, x⟩
      · rw [← e]
      · rw [← e]; exact hn
    rw [run_step] at hK
    have st := Hs.start h [lli cs s, li L sl] (by simp [hA, hB])
    refine st.nw fun b0 h1 st => ?_
    have st := Hs.fzl (As := []) st
    simp only [List.cons_append, List.nil_append] at st
    refine ldF (st.fblk 2 rfl) ?_
    refine call_of (r19_follows_c (n := (v : Int)) (st.fz 0 rfl) (st.fz 1 rfl) hAs hi hl hc hv (by omega)) ?_
    rintro _ h2 ⟨so, rfl, n2, x2⟩
    have st := Hs.fzl (st.new x2 n2)
    have hfa := freeN_app (follow_new hi L)
    have hAs1 := follow_asg hi hAs
    simp only
    by_cases hP : (followP v cs L).2 ≥ 0
    · rw [if_pos hP] at hK
      exact brT (decide_eq_true hP) (hK ⟨none, 0, 0⟩ none 0 _ rfl (osl_nil _ _) (st.frame (by simp)))
    rw [if_neg hP] at hK
    refine brF (decide_eq_false hP) ?_
    generalize (followP v cs L).1 = o at *
    refine st.nw fun b3 h3 st => ?_
    simp only [List.cons_append, List.nil_append] at st
    have st := st.asSl 0 i64.enc [] rfl rfl
    refine st.apdS (τ := i64) 0 rfl (st.fz 1 rfl) leaf_int (by simp; omega) (by decide) fun s4 h4 st => ?_
    refine st.apdS (τ := i64) 0 rfl (st.fz 3 rfl).rsl leaf_int (by simp; omega) (by decide) fun s5 h5 st => ?_
    have st := Hs.fzl (As := []) st
    simp only [List.cons_append, List.nil_append] at st
    have hL1 : (L ++ o).length + freeN v (L ++ o) ≤ 1048576 := by simp; omega
    generalize L ++ o = L1 at *
    refine lfp_invh (I := fun m σ h' => ∃ n : Nat, σ = ((n : Int), ()) ∧ 1 ≤ n ∧ n ≤ v + 1 ∧ (∀ j, 1 ≤ j → j < n → tv L1 (j : Int) ≠ 0) ∧ h' = h5 ∧ m = v + 1 - n)
      ⟨_, 1, rfl, by omega, by omega, fun j h1 h2 => by omega, rfl, rfl⟩ ?_
    rintro m σ h6 X ⟨n, rfl, hn1, hn2, hnz, rfl, rfl⟩ hX
    simp only
    rw [ld_int (i := 0) (st.fblk 2 rfl) rfl]
    refine jn_in fun J hJ => ?_
    have more : n ≤ v → tv L1 (n : Int) ≠ 0 → J true h6 := fun hnv ht => hJ _ _ (brT rfl (by
      rw [inc_i (show n < 4611686018427387904 by omega)]
      refine hX _ _ _ ⟨n + 1, rfl, by omega, by omega, fun j h1 h2 => ?_, rfl, rfl⟩ (by omega)
      rcases Nat.lt_succ_iff_lt_or_eq.1 h2 with q | rfl
      · exact hnz j h1 q
      · exact ht))
    have stop : (n ≤ v → tv L1 (n : Int) = 0) → J false h6 := by
      intro hz
      have hf := free_uniq hn1 hn2 hnz hz
      refine hJ _ _ (brF rfl ?_)
      rw [← hf] at hK
      clear hX hJ more
      clear J
      rw [ld_int (i := 0) (st.fblk 2 rfl) rfl]
      by_cases hnv : n > v
      · rw [if_pos hnv] at hK
        refine brT (decide_eq_true (by omega)) ?_
        rw [ld_int (i := 0) (st.fblk 2 rfl) rfl]
        refine Hs.mks1 (n := v) (τ := i64) (z := (0 : Int)) st (by omega) (by decide) fun s13 h7 st => ?_
        simp only [List.nil_append] at st
        rw [← rowM_one (L := L1)] at st
        refine lfp_invh (I := fun m σ h' => ∃ q : Nat, σ = ((q : Int), ()) ∧ 1 ≤ q ∧ q ≤ v + 1 ∧ Hs [([], h)] [lli cs s, li L sl, cl b0 ty_salvorref05_Formula [.int .i64 v, .slice s.a s.len s.cap], io o so, io L1 s5] [io (rowM v L1 q) s13] h' ∧ m = v + 1 - q)
          ⟨_, 1, rfl, by omega, by omega, st, rfl⟩ ?_
        clear st
        rintro m σ h8 X ⟨q, rfl, hq1, hq2, st, rfl⟩ hX
        simp only
        rw [ld_int (i := 0) (st.fblk 2 rfl) rfl]
        by_cases hqv : q ≤ v
        · refine brT (decide_eq_true (by omega)) ?_
          refine call_of (r2_has_c (st.fz 4 rfl).rsl (by omega) _) ?_
          rintro _ h9 ⟨rfl, e⟩; subst e
          have es := rowM_step (L := L1) hq1 hqv
          refine jn_in fun J hJ => ?_
          by_cases hm : (q : Int) ∈ L1
          · rw [if_pos hm] at es
            refine brT (by simpa using hm) ?_
            have e1 : IntKind.wrap .i64 ((q : Int) - 1) = ((q - 1 : Nat) : Int) := by rw [wrap_i64 (by omega) (by omega)]; omega
            rw [e1]
            refine st.wrE (τ := i64) 0 rfl (i := q - 1) (by rw [rowM_len]; omega) (1 : Int) fun h10 st => ?_
            refine hJ _ _ ?_
            rw [inc_i (show q < 4611686018427387904 by omega)]
            refine hX _ _ _ ⟨q + 1, rfl, by omega, by omega, ?_, rfl⟩ (by omega)
            rw [es]; exact st
          · rw [if_neg hm] at es
            refine brF (by simpa using hm) (hJ _ _ ?_)
            rw [inc_i (show q < 4611686018427387904 by omega)]
            refine hX _ _ _ ⟨q + 1, rfl, by omega, by omega, ?_, rfl⟩ (by omega)
            rw [es]; exact st
        · refine brF (decide_eq_false (by omega)) ?_
          have : q = v + 1 := by omega
          subst this
          rw [rowM_all] at st
          exact hK s13 (some (modelOf v L1)) 0 _ rfl (st.res (by simp) 0 rfl) (st.frame (by simp))
      · rw [if_neg hnv] at hK
        refine brF (decide_eq_false (by omega)) ?_
        by_cases hf1 : fu < 1
        · rw [if_pos hf1] at hK
          exact brT (decide_eq_true (by omega)) (hK ⟨none, 0, 0⟩ none 1 _ rfl (osl_nil _ _) (st.frame (by simp)))
        rw [if_neg hf1] at hK
        refine brF (decide_eq_false (by omega)) ?_
        have hz0 := hz (by omega)
        obtain ⟨r1, v1, r2, v2⟩ := lit_pos hn1 (by omega) hv
        have aP := hAs1.snoc r1 v1 hz0
        have aN := hAs1.snoc r2 v2 (tv_neg0 hz0)
        have fP := freeN_snoc r1 v1 hz0
        have fN := freeN_snoc r2 v2 (tv_neg0 hz0)
        refine ldF (st.fblk 2 rfl) ?_
        have e0 : IntKind.wrap .i64 (0 - (n : Int)) = -(n : Int) := by rw [wrap_i64 (by omega) (by omega)]; omega
        have e1 : IntKind.wrap .i64 ((fu : Int) - 1) = ((fu - 1 : Nat) : Int) := by rw [wrap_i64 (by omega) (by omega)]; omega
        have recN := fun (sq : Sl) (h' : Heap) a b => r19_search_c hi hl hc hv k (L1 ++ [-(n : Int)]) sq (fu - 1) h' aN (by simp; omega) (by omega) (by omega) a b
        have recP := fun (f2 : Nat) (hf2 : f2 ≤ 16777216) (sq : Sl) (h' : Heap) a b => r19_search_c hi hl hc hv k (L1 ++ [(n : Int)]) sq f2 h' aP (by simp; omega) (by omega) hf2 a b
        have u1 := (run_le (trace v cs k (L1 ++ [-(n : Int)])) (fu - 1)).1
        have w1 := fun f2 => (run_le (trace v cs k (L1 ++ [(n : Int)])) f2).1
        generalize Dp.runT (fu - 1) (trace v cs k (L1 ++ [-(n : Int)])) = u at *
        have fin : ∀ (sq : Sl) (h' : Heap), Hs [([], h)] [lli cs s, li L sl, cl b0 ty_salvorref05_Formula [.int .i64 v, .slice s.a s.len s.cap], io o so, io L1 s5] [io (L1 ++ [-(n : Int)]) sq] h' →
            callT Try.prog fn_salvorref19_Search #[.agg #[.int .i64 v, .slice s.a s.len s.cap], .slice sq.a sq.len sq.cap, .int .i64 (IntKind.wrap .i64 ((fu : Int) - 1))] tSr (fun r => SrTl b0 s5 (n : Int) (fu : Int) r K) h' := by
          intro sq h' st
          rw [e1]
          refine call_of (recN sq h' (st.fz 0 rfl) (st.own 0 rfl).rsl) ?_
          rintro _ h2 ⟨s', rfl, n2, x2⟩
          have st := (st.drop 0 rfl).new x2 n2
          exact SrTl_c (n := (v : Int)) (w := Dp.runT (fu - u.2 - 2) (trace v cs k (L1 ++ [(n : Int)]))) 0 2 4 st rfl rfl rfl (by omega) (by omega) hfu (by have := w1 (fu - u.2 - 2); omega)
            (fun sq h' a b _ => recP (fu - u.2 - 2) (by omega) sq h' a b) (fun s' o g h' e hn x => hK s' o g h' (by rw [e]) hn x)
        refine ⟨?_, ?_⟩
        · refine st.nw fun b22 h7 st => ?_
          simp only [List.nil_append] at st
          refine ⟨?_, ?_⟩
          · have st := st.asSl 0 i64.enc [] rfl rfl
            refine st.apdS (τ := i64) 0 rfl (st.fz 4 rfl).rsl leaf_int (by simp; omega) (by decide) fun s31 h5 st => ?_
            refine ckF (st.fblk 2 rfl) ?_
            simp only [List.nil_append, List.set_cons_zero, List.set_cons_succ] at st
            rw [e0]
            refine st.nw fun b32 h6 st => ?_
            simp only [List.cons_append, List.nil_append] at st
            refine st.apd (v := -(n : Int)) 0 1 rfl rfl (by decide) rfl (by omega) (by decide) rfl fun s33 h7 st => ?_
            refine ckF (st.fblk 2 rfl) ?_
            exact fin s33 h7 (st.drop 1 rfl)
          · rw [e0]
            refine st.nw fun b35 h5 st => ?_
            simp only [List.cons_append, List.nil_append] at st
            have st := st.asSl 0 i64.enc [] rfl rfl
            refine st.apdS (τ := i64) 0 rfl (st.fz 4 rfl).rsl leaf_int (by simp; omega) (by decide) fun s31 h6 st => ?_
            refine ckF (st.fblk 2 rfl) ?_
            simp only [List.nil_append, List.set_cons_zero, List.set_cons_succ] at st
            refine st.apd (v := -(n : Int)) 0 1 rfl rfl (by decide) rfl (by omega) (by decide) rfl fun s33 h7 st => ?_
            refine ckF (st.fblk 2 rfl) ?_
            exact fin s33 h7 (st.drop 1 rfl)
        · rw [e0]
          refine st.nw fun b39 h4 st => ?_
          refine st.nw fun b40 h5 st => ?_
          simp only [List.cons_append, List.nil_append] at st
          have st := st.asSl 1 i64.enc [] rfl rfl
          refine st.apdS (τ := i64) 1 rfl (st.fz 4 rfl).rsl leaf_int (by simp; omega) (by decide) fun s31 h6 st => ?_
          refine ckF (st.fblk 2 rfl) ?_
          simp only [List.nil_append, List.set_cons_zero, List.set_cons_succ] at st
          refine st.apd (v := -(n : Int)) 1 0 rfl rfl (by decide) rfl (by omega) (by decide) rfl fun s33 h7 st => ?_
          refine ckF (st.fblk 2 rfl) ?_
          exact fin s33 h7 (st.drop 0 rfl)
    by_cases hnv : n ≤ v
    · refine brT (decide_eq_true (by omega)) ?_
      refine call_of (r2_has_c (st.fz 4 rfl).rsl (by omega) _) ?_
      rintro _ h9 ⟨rfl, e⟩; have e' := e.symm; subst e'
      refine jn_in fun J2 hJ2 => ?_
      by_cases hm : (n : Int) ∈ L1
      · exact brT (by simpa using hm) (hJ2 _ _ (more hnv (fun q => (tv_zero.1 q).1 hm)))
      · refine brF (by simpa using hm) ?_
        have e0 : IntKind.wrap .i64 (0 - (n : Int)) = -(n : Int) := by rw [wrap_i64 (by omega) (by omega)]; omega
        rw [e0]
        refine call_of (r2_has_c (st.fz 4 rfl).rsl (by omega) _) ?_
        rintro _ h9 ⟨rfl, e⟩; have e' := e.symm; subst e'
        refine hJ2 _ _ ?_
        cases hm2 : L1.contains (-(n : Int)) with
        | true => exact more hnv (fun q => (tv_zero.1 q).2 (by simpa using hm2))
        | false => exact stop fun _ => tv_zero.2 ⟨hm, by simpa using hm2⟩
    · exact brF (decide_eq_false (by omega)) (stop fun q => absurd q hnv)

end Go.Proofs.S

set_option linter.unusedVariables false
set_option linter.unusedSimpArgs false
namespace Go.Proofs.S
open Go Go.Sx Go.Proofs Go.Cl Go.Dp

variable {h : Heap} {cs : List (List Int)} {s s2 sl sm r sO sR rS : Sl} {l c d L L1 : List Int} {m : List Bool} {b v bO bR : Nat} {G : List Asn} {n fu : Int}

theorem runT_mem : ∀ (T : List Ev) (f : Nat) (m : List Bool), (Dp.runT f T).1 = some m → m ∈ mods T
  | [], f, m, h => by simp [Dp.runT] at h
  | .model k :: T, f, m, h => by
    simp only [Dp.runT, Option.some.injEq] at h
    subst h; simp [mods]
  | .guess :: T, 0, m, h => by simp [Dp.runT] at h
  | .guess :: T, f + 1, m, h => by
    simp only [Dp.runT] at h
    simp only [mods]
    exact runT_mem T f m h

theorem r19_wrong_c (hA : At h (li c s)) (hl : c.length ≤ 1048576) : callT Try.prog fn_salvorref19_Wrong #[.int .i64 n, .slice s.a s.len s.cap] (.int .i64) (fun r h' => r = (modelF n c).2 ∧ Ext [] h h') h := by
  refine callT_gen fun K hK => S_salvorref19_Wrong (a0 := n) (a1 := s) K ?_
  unfold F_salvorref19_Wrong
  refine call_of (rmodel_c hA hl) ?_
  rintro _ h2 ⟨s', rfl, _, x⟩
  exact hK _ _ ⟨rfl, x⟩

set_option maxHeartbeats 2000000 in
theorem UnTl_c {K : Bool → HP} (kO : Blk h bO ty_formula_Formula [.int .i64 n, .slice sO.a sO.len sO.cap]) (kR : Blk h bR ty_salvorref05_Formula [.int .i64 n, .slice sR.a sR.len sR.cap])
    (hO : At h (lli cs sO)) (hR : At h (lli cs sR)) (hS : At h (li l rS)) (hL : At h (li l sl)) (hl : cs.length ≤ 1048576) (hc : ∀ c ∈ cs, c.length ≤ 1048576) (hll : l.length ≤ 1000000) (hn : (checkP n cs).2 = 0 → n ≤ 60)
    (hK : ∀ h', Ext [] h h' → K true h') : UnTl bO bR rS sl fu K h := by
  unfold UnTl
  have st := Hs.start h [cl bO ty_formula_Formula [.int .i64 n, .slice sO.a sO.len sO.cap], lli cs sO, cl bR ty_salvorref05_Formula [.int .i64 n, .slice sR.a sR.len sR.cap], lli cs sR, li l rS, li l sl] (by
    intro A hA
    simp only [List.mem_cons, List.not_mem_nil, or_false] at hA
    rcases hA with rfl | rfl | rfl | rfl | rfl | rfl
    · exact ⟨[bO], rfl, kO⟩
    · exact hO
    · exact ⟨[bR], rfl, kR⟩
    · exact hR
    · exact hS
    · exact hL)
  have lsl := rsl_len hL
  refine ldF (st.fblk 0 rfl) ?_
  refine call_of (under_c (fu := fu) (st.fz 1 rfl) (st.fz 4 rfl) hl hc (by omega) hn) ?_
  rintro _ h1 ⟨s9, rfl, n9, x9⟩
  have st := Hs.fzl (st.new x9 n9)
  refine Hs.ans st fun b10 h2 st => ?_
  simp only [List.cons_append, List.nil_append, addr_add, Nat.zero_add] at st ⊢
  refine ldF (st.fblk 0 rfl) ?_
  refine call_of (follows_c (st.fz 1 rfl) (st.fz 4 rfl) hl hc (by omega)) ?_
  rintro _ h3 ⟨s12, rfl, n12, x12⟩
  have st := Hs.fzl (st.new x12 n12)
  simp only [List.cons_append, List.nil_append] at st
  have lso := osl_len (st.fz 8 rfl)
  -- the answers by name
  obtain ⟨sat, mo, g, e, hU⟩ : ∃ sat mo g e, underP n cs l fu = ((sat, mo, g), e) := ⟨_, _, _, _, rfl⟩
  obtain ⟨out, at_, ge, hF⟩ : ∃ out at_ ge, followsP n cs l = (out, at_, ge) := ⟨_, _, _, rfl⟩
  rw [hU] at st
  rw [hF] at st lso
  simp only [hU, hF] at st lso ⊢
  have hmo : mo.length ≤ 1048576 := by
    unfold underP at hU
    split at hU
    · simp only [Prod.mk.injEq] at hU; rw [← hU.1.2.1]; simp
    · split at hU
      · simp only [Prod.mk.injEq] at hU; rw [← hU.1.2.1]; simp
      · rename_i hw hm
        dsimp only at hU
        split at hU
        · simp only [Prod.mk.injEq] at hU; rw [← hU.1.2.1]; simp
        · simp only [Prod.mk.injEq] at hU
          rw [← hU.1.2.1]
          cases e1 : (Dp.runT fu.toNat (trace n.toNat cs (n.toNat + 1) l)).1 with
          | none => simp
          | some m =>
            have hm0 : (modelF n l).2 = 0 := by simpa using hm
            obtain ⟨hv0, hv1, hA⟩ := modelF_asg.1 hm0
            have hck : (checkP n cs).2 = 0 := by
              have hw0 : wrongP n cs fu = 0 := by simpa using hw
              unfold wrongP at hw0
              by_cases q : (checkP n cs).2 = 0
              · exact q
              · rw [if_pos q] at hw0; exact hw0
            have hg := check_good.1 hck
            have hi : Fo.InV n.toNat cs := inv_good (n := n.toNat) (by rw [Int.toNat_of_nonneg hv0]; exact hg)
            have := runT_mem _ _ _ e1
            rw [trace_mods hi (by omega) _ _ hA (Nat.lt_succ_of_le freeN_le)] at this
            have := (mem_under.1 this).1
            simp only [Option.getD_some]
            omega
  refine jn_mid (M := fun t h' => t = (false, ()) ∧ Hs [([], h)] [cl bO ty_formula_Formula [.int .i64 n, .slice sO.a sO.len sO.cap], lli cs sO, cl bR ty_salvorref05_Formula [.int .i64 n, .slice sR.a sR.len sR.cap], lli cs sR, li l rS, li l sl, ob mo s9, cl b10 ty_dpll_Answer [.bool sat, .slice s9.a s9.len s9.cap, .int .i64 g], lo out s12] [] h') ?_ ?_
  rotate_left
  · intro J hJ
    by_cases h0 : l = []
    · refine brT (by rw [lsl, h0]; rfl) ?_
      refine ldF (st.fblk 0 rfl) ?_
      have hs := solve_c (n := n) (fu := fu) (st.fz 1 rfl) hl hc hn
      rw [← h0, hU] at hs
      refine call_of hs ?_
      rintro _ h4 ⟨s77, rfl, n77, x77⟩
      have st77 := Hs.fzl (st.new x77 n77)
      have st := st.ext x77
      refine Hs.ans st77 fun b78 h5 st2 => ?_
      simp only [List.cons_append, List.nil_append, addr_add, Nat.zero_add] at st2 ⊢
      rw [ld_bool (i := 0) (st2.fblk 10 rfl) rfl, ld_bool (i := 0) (st2.fblk 7 rfl) rfl]
      have st3 : Hs [([], h)] [cl bO ty_formula_Formula [.int .i64 n, .slice sO.a sO.len sO.cap], lli cs sO, cl bR ty_salvorref05_Formula [.int .i64 n, .slice sR.a sR.len sR.cap], lli cs sR, li l rS, li l sl, ob mo s9, cl b10 ty_dpll_Answer [.bool sat, .slice s9.a s9.len s9.cap, .int .i64 g], lo out s12] [] h5 := st2.less fun A hA => by
        simp only [List.mem_cons, List.not_mem_nil, or_false] at hA ⊢
        rcases hA with rfl | rfl | rfl | rfl | rfl | rfl | rfl | rfl | rfl <;> simp
      refine jn_in fun J2 hJ2 => brF (by simp) ?_
      rw [ld_int (i := 2) (st2.fblk 10 rfl) rfl, ld_int (i := 2) (st2.fblk 7 rfl) rfl]
      refine hJ2 _ _ ?_
      clear J2 hJ2
      refine jn_in fun J2 hJ2 => brF (by simp) ?_
      rw [ld_sl (i := 1) (st2.fblk 10 rfl) rfl, ld_sl (i := 1) (st2.fblk 7 rfl) rfl]
      refine call_of (equal_bools (st2.fz 9 rfl).rsl (st2.fz 6 rfl).rsl (by omega)) ?_
      rintro _ h6 ⟨rfl, eh⟩; have eh' := eh.symm; subst eh'
      refine hJ2 _ _ ?_
      clear J2 hJ2
      refine jn_in fun J2 hJ2 => brF (by simp) (hJ2 _ _ (brF (by simp) (hJ _ _ ⟨rfl, st3⟩)))
    · refine brF ?_ (hJ _ _ ⟨rfl, st⟩)
      rw [lsl, beq_eq_false_iff_ne]
      have : l.length ≠ 0 := fun q => h0 (List.length_eq_zero_iff.1 q)
      omega
  clear st
  rintro _ h4 ⟨rfl, st⟩
  refine ldF (st.fblk 0 rfl) ?_
  refine ldF (st.fblk 2 rfl) ?_
  refine call_of (lawEqual_c (st.fz 1 rfl) (st.fz 3 rfl) hl hc) ?_
  rintro _ h5 ⟨rfl, x5⟩
  have st := st.ext x5
  refine jn_in fun J hJ => brF (by simp) ?_
  refine call_of (ints_c (st.fz 4 rfl) (by omega)) ?_
  rintro r74 h6 ⟨n6, x6⟩
  have st := st.ext x6
  refine call_of (equal_int n6.at.rsl (st.fz 5 rfl) (by omega)) ?_
  rintro _ h7 ⟨rfl, eh⟩; subst eh
  refine hJ _ _ (brF (by simp) ?_)
  clear J hJ
  rw [ld_bool (i := 0) (st.fblk 7 rfl) rfl]
  have l9 := osl_len (st.fz 6 rfl)
  -- nothing was found
  obtain ⟨x, hx⟩ : ∃ x, x = h7 := ⟨_, rfl⟩
  refine jn_mid (M := fun t h' => t = (!sat && ((mo.length : Int) == 0)) ∧ h' = h7) ?_ ?_
  rotate_left
  · intro J hJ
    cases hs : sat with
    | true => exact brF rfl (hJ _ _ ⟨by rw [hs]; rfl, rfl⟩)
    | false =>
      refine brT rfl ?_
      rw [hs] at st
      rw [ld_sl (i := 1) (st.fblk 7 rfl) rfl]
      exact hJ _ _ ⟨by rw [hs, l9]; rfl, rfl⟩
  rintro _ h8 ⟨rfl, eh⟩; have eh' := eh.symm; subst eh'
  refine jn_mid (M := fun t h' => t = (!sat && ((mo.length : Int) == 0) && (g == 0)) ∧ h' = h7) ?_ ?_
  rotate_left
  · intro J hJ
    cases hs : (!sat && ((mo.length : Int) == 0)) with
    | false => exact brF rfl (hJ _ _ ⟨by rw [hs]; rfl, rfl⟩)
    | true =>
      refine brT rfl ?_
      rw [ld_int (i := 2) (st.fblk 7 rfl) rfl]
      exact hJ _ _ ⟨by rw [hs]; rfl, rfl⟩
  rintro _ h8 ⟨rfl, eh⟩; have eh' := eh.symm; subst eh'
  generalize hno : (!sat && ((mo.length : Int) == 0) && (g == 0)) = no
  refine ldF (st.fblk 2 rfl) ?_
  refine call_of (rcheck_c (st.fz 3 rfl) (fun c hc' => by have := hc c hc'; omega)) ?_
  rintro _ h9 ⟨rfl, x9⟩
  have st := st.ext x9
  have hK : ∀ h', Hs [([], h)] [cl bO ty_formula_Formula [.int .i64 n, .slice sO.a sO.len sO.cap], lli cs sO, cl bR ty_salvorref05_Formula [.int .i64 n, .slice sR.a sR.len sR.cap], lli cs sR, li l rS, li l sl, ob mo s9, cl b10 ty_dpll_Answer [.bool sat, .slice s9.a s9.len s9.cap, .int .i64 g], lo out s12] [] h' → K true h' := fun h' st => hK h' (st.frame (by simp))
  by_cases hck : (checkP n cs).2 = 0
  rotate_left
  · refine brT (bne_iff_ne.2 hck) ?_
    have eU : underP n cs l fu = ((false, [], 0), (checkP n cs).2) := by
      have hw : wrongP n cs fu = (checkP n cs).2 := by unfold wrongP; rw [if_pos hck]
      unfold underP; rw [if_pos (by rw [hw]; exact hck), hw]
    have eF : followsP n cs l = ([], -1, (checkP n cs).2) := by unfold followsP; rw [if_pos hck]
    rw [eU] at hU; rw [eF] at hF
    simp only [Prod.mk.injEq] at hU hF
    obtain ⟨⟨rfl, rfl, rfl⟩, rfl⟩ := hU
    obtain ⟨rfl, rfl, rfl⟩ := hF
    have hno : no = true := hno.symm
    subst hno
    refine jn_in fun J hJ => brT rfl (hJ _ _ ?_)
    clear J hJ
    refine jn_in fun J hJ => brT (by simp) (hJ _ _ ?_)
    clear J hJ
    refine jn_in fun J hJ => brT (by rw [lso]; rfl) (hJ _ _ ?_)
    clear J hJ
    refine jn_in fun J hJ => brT rfl (hJ _ _ ?_)
    rw [beq_self_eq_true]
    exact hK _ st
  refine brF (by rw [hck]; rfl) ?_
  rw [ld_int (i := 0) (st.fblk 2 rfl) rfl]
  refine call_of (r19_wrong_c (st.fz 5 rfl) (by omega)) ?_
  rintro _ h10 ⟨rfl, x10⟩
  have st := st.ext x10
  have hg := check_good.1 hck
  obtain ⟨hn0, hn1⟩ := good_vars hg
  obtain ⟨v, rfl⟩ := Int.eq_ofNat_of_zero_le hn0
  have hv60 := hn hck
  have hi : Fo.InV v cs := inv_good hg
  -- what follows is compared; then the rest
  refine jn_mid (M := fun t h' => t = (false, ()) ∧ Hs [([], h)] [cl bO ty_formula_Formula [.int .i64 v, .slice sO.a sO.len sO.cap], lli cs sO, cl bR ty_salvorref05_Formula [.int .i64 v, .slice sR.a sR.len sR.cap], lli cs sR, li l rS, li l sl, ob mo s9, cl b10 ty_dpll_Answer [.bool sat, .slice s9.a s9.len s9.cap, .int .i64 g], lo out s12] [] h') ?_ ?_
  rotate_left
  · intro J hJ
    by_cases hm : (modelF v l).2 = 0
    · refine brF (by rw [hm]; rfl) ?_
      obtain ⟨_, _, hAs⟩ := modelF_asg.1 hm
      rw [Int.toNat_natCast] at hAs
      have eF : followsP v cs l = ((followP v cs l).1, (followP v cs l).2, 0) := by unfold followsP; rw [if_neg (by simp [hck]), if_neg (by simp [hm])]; simp only [Int.toNat_natCast]
      rw [eF] at hF
      simp only [Prod.mk.injEq] at hF
      obtain ⟨rfl, rfl, rfl⟩ := hF
      have hol := (follow_new hi l).len
      refine ldF (st.fblk 2 rfl) ?_
      refine call_of (r19_follows_c (n := (v : Int)) (st.fz 3 rfl) (st.fz 5 rfl) hAs hi hl hc (by omega) (by omega)) ?_
      rintro _ h11 ⟨s65, rfl, n65, x65⟩
      have st0 := st
      have st := st.new x65 n65
      refine jn_in fun J2 hJ2 => brF rfl (hJ2 _ _ ?_)
      clear J2 hJ2
      refine jn_in fun J2 hJ2 => brF (by simp) ?_
      refine call_of (ints_c (st.fz 8 rfl).rsl (by omega)) ?_
      rintro r70 h12 ⟨n70, x70⟩
      have st := st.ext x70
      refine call_of (equal_int n70.at.rsl (st.own 0 rfl).rsl (by omega)) ?_
      rintro _ h13 ⟨rfl, eh⟩; subst eh
      exact hJ2 _ _ (brF (by simp) (hJ _ _ ⟨rfl, st.drop 0 rfl⟩))
    · refine brT (bne_iff_ne.2 hm) ?_
      have eF : followsP v cs l = ([], -1, (modelF v l).2) := by unfold followsP; rw [if_neg (by simp [hck]), if_pos hm]
      rw [eF] at hF
      simp only [Prod.mk.injEq] at hF
      obtain ⟨rfl, rfl, rfl⟩ := hF
      refine jn_in fun J2 hJ2 => brF (by rw [lso]; rfl) (hJ2 _ _ ?_)
      clear J2 hJ2
      refine jn_in fun J2 hJ2 => brF rfl (hJ2 _ _ (brF (by simp) ?_))
      exact hJ _ _ ⟨rfl, st⟩
  clear st
  rintro _ h11 ⟨rfl, st⟩
  have hw : wrongP v cs fu = if fu < 0 ∨ fu > 16777216 then 2 else 0 := by unfold wrongP; rw [if_neg (by simp [hck])]
  by_cases hfu : fu < 0 ∨ fu > 16777216
  · rw [if_pos hfu] at hw
    have eU : underP v cs l fu = ((false, [], 0), 2) := by unfold underP; rw [if_pos (by rw [hw]; decide), hw]
    rw [eU] at hU
    simp only [Prod.mk.injEq] at hU
    obtain ⟨⟨rfl, rfl, rfl⟩, rfl⟩ := hU
    have hno : no = true := hno.symm
    subst hno
    refine jn_in fun J hJ => ?_
    have fin : J true h11 := hJ _ _ (brT rfl (jn_in fun J hJ => brT rfl (hJ _ _ (hK _ st))))
    by_cases h0 : fu < 0
    · exact brT (decide_eq_true h0) fin
    · refine brF (decide_eq_false h0) ?_
      rw [decide_eq_true (by omega)]; exact fin
  rw [if_neg hfu] at hw
  refine jn_in fun J hJ => brF (decide_eq_false (by omega)) ?_
  rw [decide_eq_false (show ¬ fu > 16777216 by omega)]
  refine hJ _ _ (brF rfl ?_)
  clear J hJ
  by_cases hm : (modelF v l).2 = 0
  rotate_left
  · refine brT (bne_iff_ne.2 hm) ?_
    have eU : underP v cs l fu = ((false, [], 0), (modelF v l).2) := by unfold underP; rw [if_neg (by simp [hw]), if_pos hm]
    rw [eU] at hU
    simp only [Prod.mk.injEq] at hU
    obtain ⟨⟨rfl, rfl, rfl⟩, rfl⟩ := hU
    have hno : no = true := hno.symm
    subst hno
    refine jn_in fun J hJ => brT rfl (hJ _ _ ?_)
    rw [beq_self_eq_true]
    exact hK _ st
  refine brF (by rw [hm]; rfl) ?_
  obtain ⟨_, _, hAs⟩ := modelF_asg.1 hm
  rw [Int.toNat_natCast] at hAs
  have stF := st
  obtain ⟨f, rfl⟩ := Int.eq_ofNat_of_zero_le (show 0 ≤ fu by omega)
  have st := stF
  have hfl := freeN_le (v := v) (L := l)
  refine ldF (st.fblk 2 rfl) ?_
  refine call_of (r19_search_c hi hl hc (by omega) (v + 1) l _ f _ hAs (by omega) (by omega) (by omega) (st.fz 3 rfl) (st.fz 5 rfl)) ?_
  rintro _ h12 ⟨s46, rfl, n46, x46⟩
  have st := st.new x46 n46
  have eU : underP v cs l f = (if ((Dp.runT f (trace v cs (v + 1) l)).2 : Int) > f then ((false, [], 0), 190) else (((Dp.runT f (trace v cs (v + 1) l)).1.isSome, (Dp.runT f (trace v cs (v + 1) l)).1.getD [], (((Dp.runT f (trace v cs (v + 1) l)).2 : Nat) : Int)), 0)) := by
    unfold underP; rw [if_neg (by simp [hw]), if_neg (by simp [hm])]; simp only [Int.toNat_natCast]
  rw [eU] at hU
  generalize Dp.runT f (trace v cs (v + 1) l) = R at *
  by_cases hgt : (R.2 : Int) > f
  · rw [if_pos hgt] at hU
    simp only [Prod.mk.injEq] at hU
    obtain ⟨⟨rfl, rfl, rfl⟩, rfl⟩ := hU
    have hno : no = true := hno.symm
    subst hno
    refine brT (decide_eq_true hgt) ?_
    exact jn_in fun J hJ => brT rfl (hJ _ _ (hK _ (st.drop 0 rfl)))
  · rw [if_neg hgt] at hU
    simp only [Prod.mk.injEq] at hU
    obtain ⟨⟨rfl, rfl, rfl⟩, rfl⟩ := hU
    refine brF (decide_eq_false hgt) ?_
    refine jn_in fun J hJ => brT rfl ?_
    rw [ld_bool (i := 0) (st.fblk 7 rfl) rfl, beq_self_eq_true]
    refine hJ _ _ ?_
    clear J hJ
    refine jn_in fun J hJ => brT rfl ?_
    rw [ld_int (i := 2) (st.fblk 7 rfl) rfl, beq_self_eq_true]
    refine hJ _ _ ?_
    clear J hJ
    refine jn_in fun J hJ => brT rfl ?_
    rw [ld_sl (i := 1) (st.fblk 7 rfl) rfl]
    refine call_of (bits_c (st.fz 6 rfl).rsl hmo) ?_
    rintro r56 h13 ⟨n56, x56⟩
    have st := st.ext x56
    refine call_of (equal_int n56.at.rsl (st.own 0 rfl).rsl (by simp; omega)) ?_
    rintro _ h14 ⟨er, eh⟩; subst eh
    have er : _ = true := er.trans (by simp)
    subst er
    exact hJ _ _ (hK _ (st.drop 0 rfl))

end Go.Proofs.S
