/-
  The reference of dpll: Search, Wrong, Greatest, Implied: contracts.
-/
import Derived.Test.YtfadkgkkbbcekaaDpYT
import Derived.Test.YtfadkgkkbbcekaaCrQ
import Derived.Test.YtfadkgkkbbcekaaFoT
set_option linter.unusedVariables false
set_option linter.unusedSimpArgs false
namespace Go.Proofs.S
open Go Go.Sx Go.Proofs Go.Cl Go.Dp

variable {h : Heap} {l cs : List (List Int)} {s s2 sl sm r : Sl} {c d L L1 : List Int} {m : List Bool} {b v : Nat} {G : List Asn}

abbrev tSr : Ty := .tup (.cons .sl (.cons .bool (.cons (.int .i64) .nil)))

theorem SrTl_c {n : Int} {f fu : Nat} {u w : Option (List Bool) × Nat} {b0 : Nat} {s5 sr : Sl} {h0 h : Heap} {K : (Sl × (Bool × (Int × Unit))) → HP} (i0 i1 i2 : Nat)
    (st : Hs [([], h0)] G [io (bitsL (u.1.getD [])) sr] h) (g0 : G[i0]? = some (lli cs s)) (g1 : G[i1]? = some (cl b0 ty_salvorref05_Formula [.int .i64 n, .slice s.a s.len s.cap])) (g2 : G[i2]? = some (io L1 s5)) (hL1 : L1.length ≤ 1048576)
    (hu : u.2 ≤ fu) (hfu : fu ≤ 16777216) (hw : w.2 ≤ 16777217)
    (hrec : ∀ (sq : Sl) (h' : Heap), At h' (lli cs s) → At h' (li (L1 ++ [(f : Int)]) sq) → u.2 + 2 ≤ fu → callT Try.prog fn_salvorref19_Search #[.agg #[.int .i64 n, .slice s.a s.len s.cap], .slice sq.a sq.len sq.cap, .int .i64 ((fu - u.2 - 2 : Nat) : Int)] tSr
      (fun r h2 => ∃ s', r = (s', w.1.isSome, (w.2 : Int), ()) ∧ New h'.size h2 (io (bitsL (w.1.getD [])) s') ∧ Ext [] h' h2) h')
    (hK : ∀ (s' : Sl) (o : Option (List Bool)) (g : Nat) h', (o, g) = (if u.1.isSome ∨ u.2 + 1 > fu then (u.1, u.2 + 1) else if u.2 + 2 > fu then (none, u.2 + 2) else (w.1, u.2 + 2 + w.2)) → New h0.size h' (io (bitsL (o.getD [])) s') → Ext [] h0 h' → K (s', o.isSome, (g : Int), ()) h') :
    SrTl b0 s5 (f : Int) (fu : Int) (sr, u.1.isSome, (u.2 : Int), ()) K h := by
  unfold SrTl
  have e1 : IntKind.wrap .i64 ((u.2 : Int) + 1) = ((u.2 + 1 : Nat) : Int) := by rw [wrap_i64 (by omega) (by omega)]; omega
  have e2 : IntKind.wrap .i64 ((u.2 : Int) + 2) = ((u.2 + 2 : Nat) : Int) := by rw [wrap_i64 (by omega) (by omega)]; omega
  have one : ∀ (ht : u.1.isSome ∨ u.2 + 1 > fu), K (⟨sr.a, sr.len, sr.cap⟩, u.1.isSome, ((u.2 + 1 : Nat) : Int), ()) h := fun ht =>
    hK sr u.1 (u.2 + 1) h (by rw [if_pos ht]) (st.res (by simp) 0 rfl) (st.frame (by simp))
  simp only [e1, e2]
  refine jn_in fun J hJ => ?_
  by_cases h1 : u.1.isSome = true
  · exact brT h1 (hJ _ _ (brT rfl (one (.inl h1))))
  refine brF (by simpa using h1) (hJ _ _ ?_)
  clear J hJ
  by_cases h2 : u.2 + 1 > fu
  · exact brT (decide_eq_true (by omega)) (one (.inr h2))
  refine brF (decide_eq_false (by omega)) ?_
  have hn : ¬ (u.1.isSome = true ∨ u.2 + 1 > fu) := fun q => q.elim h1 h2
  rw [if_neg hn] at hK
  by_cases h3 : u.2 + 2 > fu
  · rw [if_pos h3] at hK
    exact brT (decide_eq_true (by omega)) (hK ⟨none, 0, 0⟩ none (u.2 + 2) h rfl (osl_nil _ _) (st.frame (by simp)))
  rw [if_neg h3] at hK
  refine brF (decide_eq_false (by omega)) ?_
  refine ldF (st.fblk i1 g1) ?_
  have e3 : IntKind.wrap .i64 ((IntKind.wrap .i64 ((fu : Int) - (u.2 : Int))) - 2) = ((fu - u.2 - 2 : Nat) : Int) := by
    rw [wrap_i64 (x := (fu : Int) - (u.2 : Int)) (by omega) (by omega), wrap_i64 (by omega) (by omega)]; omega
  have fin : ∀ (sq : Sl) (h' : Heap) (As : List Asn) (k : Nat), Hs [([], h0)] G As h' → As[k]? = some (io (L1 ++ [(f : Int)]) sq) →
      callT Try.prog fn_salvorref19_Search #[.agg #[.int .i64 n, .slice s.a s.len s.cap], .slice sq.a sq.len sq.cap, .int .i64 (IntKind.wrap .i64 ((IntKind.wrap .i64 ((fu : Int) - (u.2 : Int))) - 2))] tSr
        (fun r => K (⟨r.1.a, r.1.len, r.1.cap⟩, r.2.1, (IntKind.wrap .i64 (((u.2 + 2 : Nat) : Int) + r.2.2.1)), ())) h' := by
    intro sq h' As k st hk
    rw [e3]
    refine call_of (hrec sq h' (st.fz i0 g0) (st.own k hk).rsl (by omega)) ?_
    rintro _ h2 ⟨s', rfl, n2, x2⟩
    have st := st.new x2 n2
    have e4 : IntKind.wrap .i64 (((u.2 + 2 : Nat) : Int) + (w.2 : Int)) = ((u.2 + 2 + w.2 : Nat) : Int) := by rw [wrap_i64 (by omega) (by omega)]; omega
    simp only [e4]
    exact hK s' w.1 _ h2 rfl (st.res (by simp) As.length (lastA _ _)) (st.frame (by simp))
  refine ⟨?_, ?_⟩
  · refine st.nw fun b30 h4 st => ?_
    simp only [List.cons_append, List.nil_append] at st
    refine ⟨?_, ?_⟩
    · have st := st.asSl 1 i64.enc [] rfl rfl
      refine st.apdS (τ := i64) 1 rfl (st.fz i2 g2).rsl leaf_int (by simp; omega) (by decide) fun s31 h5 st => ?_
      refine ckF (st.fblk i1 g1) ?_
      simp only [List.nil_append, List.set_cons_zero, List.set_cons_succ] at st
      refine st.nw fun b32 h6 st => ?_
      simp only [List.cons_append, List.nil_append] at st
      refine st.apd (v := (f : Int)) 1 2 rfl rfl (by decide) rfl (by omega) (by decide) rfl fun s33 h7 st => ?_
      refine ckF (st.fblk i1 g1) ?_
      exact fin s33 h7 _ 1 st rfl
    · refine st.nw fun b35 h5 st => ?_
      simp only [List.cons_append, List.nil_append] at st
      have st := st.asSl 1 i64.enc [] rfl rfl
      refine st.apdS (τ := i64) 1 rfl (st.fz i2 g2).rsl leaf_int (by simp; omega) (by decide) fun s31 h6 st => ?_
      refine ckF (st.fblk i1 g1) ?_
      simp only [List.nil_append, List.set_cons_zero, List.set_cons_succ] at st
      refine st.apd (v := (f : Int)) 1 2 rfl rfl (by decide) rfl (by omega) (by decide) rfl fun s33 h7 st => ?_
      refine ckF (st.fblk i1 g1) ?_
      exact fin s33 h7 _ 1 st rfl
  · refine st.nw fun b39 h4 st => ?_
    refine st.nw fun b40 h5 st => ?_
    simp only [List.cons_append, List.nil_append] at st
    have st := st.asSl 2 i64.enc [] rfl rfl
    refine st.apdS (τ := i64) 2 rfl (st.fz i2 g2).rsl leaf_int (by simp; omega) (by decide) fun s31 h6 st => ?_
    refine ckF (st.fblk i1 g1) ?_
    simp only [List.nil_append, List.set_cons_zero, List.set_cons_succ] at st
    refine st.apd (v := (f : Int)) 2 1 rfl rfl (by decide) rfl (by omega) (by decide) rfl fun s33 h7 st => ?_
    refine ckF (st.fblk i1 g1) ?_
    exact fin s33 h7 _ 2 st rfl

def rowM (v : Nat) (L : List Int) (n : Nat) : List Int := (List.range v).map fun i => if i + 1 < n ∧ ((i : Int) + 1) ∈ L then 1 else 0
theorem rowM_len {n : Nat} : (rowM v L n).length = v := by simp [rowM]
theorem rowM_one : rowM v L 1 = List.replicate v 0 := by
  refine List.ext_getElem (by simp [rowM]) fun i h1 h2 => ?_
  simp [rowM]
theorem rowM_step {n : Nat} (h1 : 1 ≤ n) (h2 : n ≤ v) : rowM v L (n + 1) = if (n : Int) ∈ L then (rowM v L n).set (n - 1) 1 else rowM v L n := by
  refine List.ext_getElem (by split <;> simp [rowM]) fun i h3 h4 => ?_
  have hi : i < v := by simpa [rowM] using h3
  by_cases hm : (n : Int) ∈ L
  · simp only [if_pos hm, List.getElem_set]
    by_cases e : n - 1 = i
    · rw [if_pos e]
      have e2 : ((i : Int) + 1) = (n : Int) := by omega
      simp only [rowM, List.getElem_map, List.getElem_range]
      rw [e2, if_pos ⟨by omega, hm⟩]
    · rw [if_neg e]
      simp only [rowM, List.getElem_map, List.getElem_range]
      by_cases e3 : i + 1 < n
      · simp [e3, show i + 1 < n + 1 by omega]
      · simp [e3, show ¬ i + 1 < n + 1 by omega]
  · simp only [if_neg hm]
    simp only [rowM, List.getElem_map, List.getElem_range]
    by_cases e3 : i + 1 < n
    · simp [e3, show i + 1 < n + 1 by omega]
    · by_cases e : i + 1 = n
      · have e2 : ((i : Int) + 1) = (n : Int) := by omega
        rw [e2, if_neg (fun q => hm q.2), if_neg (fun q => hm q.2)]
      · simp [e3, show ¬ i + 1 < n + 1 by omega]
theorem rowM_all : rowM v L (v + 1) = bitsL (modelOf v L) := by
  refine List.ext_getElem (by simp [rowM, modelOf]) fun i h1 h2 => ?_
  have hi : i < v := by simpa [rowM] using h1
  simp only [rowM, modelOf, List.getElem_map, List.getElem_range, bitI]
  by_cases hm : ((i : Int) + 1) ∈ L
  · rw [if_pos ⟨by omega, hm⟩, decide_eq_true (tv_pos.2 hm)]; rfl
  · rw [if_neg (fun q => hm q.2), decide_eq_false (fun q => hm (tv_pos.1 q))]; rfl

theorem free_uniq {n : Nat} (h1 : 1 ≤ n) (h2 : n ≤ v + 1) (h3 : ∀ j, 1 ≤ j → j < n → tv L (j : Int) ≠ 0) (h4 : n ≤ v → tv L (n : Int) = 0) : n = freeV v L := by
  obtain ⟨a, b, c, d⟩ := freeV_spec (v := v) (L := L)
  rcases Nat.lt_trichotomy n (freeV v L) with q | q | q
  · exact absurd (h4 (by omega)) (c n h1 q)
  · exact q
  · exact absurd (d (by omega)) (h3 _ a q)

set_option maxHeartbeats 1000000 in
theorem r19_search_c (hi : Fo.InV v cs) (hl : cs.length ≤ 1048576) (hc : ∀ c ∈ cs, c.length ≤ 1048576) (hv : v ≤ 1048576) : ∀ (k : Nat) (L : List Int) (sl : Sl) (fu : Nat) (h : Heap), Asg v L → L.length + freeN v L ≤ 1048576 → freeN v L < k → fu ≤ 16777216 → At h (lli cs s) → At h (li L sl) →
    callT Try.prog fn_salvorref19_Search #[.agg #[.int .i64 (v : Int), .slice s.a s.len s.cap], .slice sl.a sl.len sl.cap, .int .i64 (fu : Int)] tSr
      (fun r h' => ∃ s', r = (s', (Dp.runT fu (trace v cs k L)).1.isSome, ((Dp.runT fu (trace v cs k L)).2 : Int), ()) ∧ New h.size h' (io (bitsL ((Dp.runT fu (trace v cs k L)).1.getD [])) s') ∧ Ext [] h h') h
  | 0, L, sl, fu, h, _, _, hk, _, _, _ => by omega
  | k + 1, L, sl, fu, h, hAs, hb, hk, hfu, hA, hB => by
    refine callT_gen fun K hK => S_salvorref19_Search (a0 := ((v : Int), s, ())) (a1 := sl) (a2 := (fu : Int)) K ?_
    unfold F_salvorref19_Search
    have hK : ∀ (s' : Sl) (o : Option (List Bool)) (g : Nat) h', (o, g) = Dp.runT fu (trace v cs (k + 1) L) → New h.size h' (io (bitsL (o.getD [])) s') → Ext [] h h' → K (s', o.isSome, (g : Int), ()) h' := by
      intro s' o g h' e hn x
      refine hK _ _ ⟨s', ?_, ?_, x⟩
      · rw [← e]
      · rw [← e]; exact hn
    rw [run_step] at hK
    have st := Hs.start h [lli cs s, li L sl] (by simp [hA, hB])
    refine st.nw fun b0 h1 st => ?_
    have st := Hs.fzl (As := []) st
    simp only [List.cons_append, List.nil_append] at st
    refine ldF (st.fblk 2 rfl) ?_
    refine call_of (r19_follows_c (n := (v : Int)) (st.fz 0 rfl) (st.fz 1 rfl) hAs hi hl hc hv (by omega)) ?_
    rintro _ h2 ⟨so, rfl, n2, x2⟩
    have st := Hs.fzl (st.new x2 n2)
    have hfa := freeN_app (follow_new hi L)
    have hAs1 := follow_asg hi hAs
    simp only
    by_cases hP : (followP v cs L).2 ≥ 0
    · rw [if_pos hP] at hK
      exact brT (decide_eq_true hP) (hK ⟨none, 0, 0⟩ none 0 _ rfl (osl_nil _ _) (st.frame (by simp)))
    rw [if_neg hP] at hK
    refine brF (decide_eq_false hP) ?_
    generalize (followP v cs L).1 = o at *
    refine st.nw fun b3 h3 st => ?_
    simp only [List.cons_append, List.nil_append] at st
    have st := st.asSl 0 i64.enc [] rfl rfl
    refine st.apdS (τ := i64) 0 rfl (st.fz 1 rfl) leaf_int (by simp; omega) (by decide) fun s4 h4 st => ?_
    refine st.apdS (τ := i64) 0 rfl (st.fz 3 rfl).rsl leaf_int (by simp; omega) (by decide) fun s5 h5 st => ?_
    have st := Hs.fzl (As := []) st
    simp only [List.cons_append, List.nil_append] at st
    have hL1 : (L ++ o).length + freeN v (L ++ o) ≤ 1048576 := by simp; omega
    generalize L ++ o = L1 at *
    refine lfp_invh (I := fun m σ h' => ∃ n : Nat, σ = ((n : Int), ()) ∧ 1 ≤ n ∧ n ≤ v + 1 ∧ (∀ j, 1 ≤ j → j < n → tv L1 (j : Int) ≠ 0) ∧ h' = h5 ∧ m = v + 1 - n)
      ⟨_, 1, rfl, by omega, by omega, fun j h1 h2 => by omega, rfl, rfl⟩ ?_
    rintro m σ h6 X ⟨n, rfl, hn1, hn2, hnz, rfl, rfl⟩ hX
    simp only
    rw [ld_int (i := 0) (st.fblk 2 rfl) rfl]
    refine jn_in fun J hJ => ?_
    have more : n ≤ v → tv L1 (n : Int) ≠ 0 → J true h6 := fun hnv ht => hJ _ _ (brT rfl (by
      rw [inc_i (show n < 4611686018427387904 by omega)]
      refine hX _ _ _ ⟨n + 1, rfl, by omega, by omega, fun j h1 h2 => ?_, rfl, rfl⟩ (by omega)
      rcases Nat.lt_succ_iff_lt_or_eq.1 h2 with q | rfl
      · exact hnz j h1 q
      · exact ht))
    have stop : (n ≤ v → tv L1 (n : Int) = 0) → J false h6 := by
      intro hz
      have hf := free_uniq hn1 hn2 hnz hz
      refine hJ _ _ (brF rfl ?_)
      rw [← hf] at hK
      clear hX hJ more
      clear J
      rw [ld_int (i := 0) (st.fblk 2 rfl) rfl]
      by_cases hnv : n > v
      · rw [if_pos hnv] at hK
        refine brT (decide_eq_true (by omega)) ?_
        rw [ld_int (i := 0) (st.fblk 2 rfl) rfl]
        refine Hs.mks1 (n := v) (τ := i64) (z := (0 : Int)) st (by omega) (by decide) fun s13 h7 st => ?_
        simp only [List.nil_append] at st
        rw [← rowM_one (L := L1)] at st
        refine lfp_invh (I := fun m σ h' => ∃ q : Nat, σ = ((q : Int), ()) ∧ 1 ≤ q ∧ q ≤ v + 1 ∧ Hs [([], h)] [lli cs s, li L sl, cl b0 ty_salvorref05_Formula [.int .i64 v, .slice s.a s.len s.cap], io o so, io L1 s5] [io (rowM v L1 q) s13] h' ∧ m = v + 1 - q)
          ⟨_, 1, rfl, by omega, by omega, st, rfl⟩ ?_
        clear st
        rintro m σ h8 X ⟨q, rfl, hq1, hq2, st, rfl⟩ hX
        simp only
        rw [ld_int (i := 0) (st.fblk 2 rfl) rfl]
        by_cases hqv : q ≤ v
        · refine brT (decide_eq_true (by omega)) ?_
          refine call_of (r2_has_c (st.fz 4 rfl).rsl (by omega) _) ?_
          rintro _ h9 ⟨rfl, e⟩; subst e
          have es := rowM_step (L := L1) hq1 hqv
          refine jn_in fun J hJ => ?_
          by_cases hm : (q : Int) ∈ L1
          · rw [if_pos hm] at es
            refine brT (by simpa using hm) ?_
            have e1 : IntKind.wrap .i64 ((q : Int) - 1) = ((q - 1 : Nat) : Int) := by rw [wrap_i64 (by omega) (by omega)]; omega
            rw [e1]
            refine st.wrE (τ := i64) 0 rfl (i := q - 1) (by rw [rowM_len]; omega) (1 : Int) fun h10 st => ?_
            refine hJ _ _ ?_
            rw [inc_i (show q < 4611686018427387904 by omega)]
            refine hX _ _ _ ⟨q + 1, rfl, by omega, by omega, ?_, rfl⟩ (by omega)
            rw [es]; exact st
          · rw [if_neg hm] at es
            refine brF (by simpa using hm) (hJ _ _ ?_)
            rw [inc_i (show q < 4611686018427387904 by omega)]
            refine hX _ _ _ ⟨q + 1, rfl, by omega, by omega, ?_, rfl⟩ (by omega)
            rw [es]; exact st
        · refine brF (decide_eq_false (by omega)) ?_
          have : q = v + 1 := by omega
          subst this
          rw [rowM_all] at st
          exact hK s13 (some (modelOf v L1)) 0 _ rfl (st.res (by simp) 0 rfl) (st.frame (by simp))
      · rw [if_neg hnv] at hK
        refine brF (decide_eq_false (by omega)) ?_
        by_cases hf1 : fu < 1
        · rw [if_pos hf1] at hK
          exact brT (decide_eq_true (by omega)) (hK ⟨none, 0, 0⟩ none 1 _ rfl (osl_nil _ _) (st.frame (by simp)))
        rw [if_neg hf1] at hK
        refine brF (decide_eq_false (by omega)) ?_
        have hz0 := hz (by omega)
        obtain ⟨r1, v1, r2, v2⟩ := lit_pos hn1 (by omega) hv
        have aP := hAs1.snoc r1 v1 hz0
        have aN := hAs1.snoc r2 v2 (tv_neg0 hz0)
        have fP := freeN_snoc r1 v1 hz0
        have fN := freeN_snoc r2 v2 (tv_neg0 hz0)
        refine ldF (st.fblk 2 rfl) ?_
        have e0 : IntKind.wrap .i64 (0 - (n : Int)) = -(n : Int) := by rw [wrap_i64 (by omega) (by omega)]; omega
        have e1 : IntKind.wrap .i64 ((fu : Int) - 1) = ((fu - 1 : Nat) : Int) := by rw [wrap_i64 (by omega) (by omega)]; omega
        have recN := fun (sq : Sl) (h' : Heap) a b => r19_search_c hi hl hc hv k (L1 ++ [-(n : Int)]) sq (fu - 1) h' aN (by simp; omega) (by omega) (by omega) a b
        have recP := fun (f2 : Nat) (hf2 : f2 ≤ 16777216) (sq : Sl) (h' : Heap) a b => r19_search_c hi hl hc hv k (L1 ++ [(n : Int)]) sq f2 h' aP (by simp; omega) (by omega) hf2 a b
        have u1 := (run_le (trace v cs k (L1 ++ [-(n : Int)])) (fu - 1)).1
        have w1 := fun f2 => (run_le (trace v cs k (L1 ++ [(n : Int)])) f2).1
        generalize Dp.runT (fu - 1) (trace v cs k (L1 ++ [-(n : Int)])) = u at *
        have fin : ∀ (sq : Sl) (h' : Heap), Hs [([], h)] [lli cs s, li L sl, cl b0 ty_salvorref05_Formula [.int .i64 v, .slice s.a s.len s.cap], io o so, io L1 s5] [io (L1 ++ [-(n : Int)]) sq] h' →
            callT Try.prog fn_salvorref19_Search #[.agg #[.int .i64 v, .slice s.a s.len s.cap], .slice sq.a sq.len sq.cap, .int .i64 (IntKind.wrap .i64 ((fu : Int) - 1))] tSr (fun r => SrTl b0 s5 (n : Int) (fu : Int) r K) h' := by
          intro sq h' st
          rw [e1]
          refine call_of (recN sq h' (st.fz 0 rfl) (st.own 0 rfl).rsl) ?_
          rintro _ h2 ⟨s', rfl, n2, x2⟩
          have st := (st.drop 0 rfl).new x2 n2
          exact SrTl_c (n := (v : Int)) (w := Dp.runT (fu - u.2 - 2) (trace v cs k (L1 ++ [(n : Int)]))) 0 2 4 st rfl rfl rfl (by omega) (by omega) hfu (by have := w1 (fu - u.2 - 2); omega)
            (fun sq h' a b _ => recP (fu - u.2 - 2) (by omega) sq h' a b) (fun s' o g h' e hn x => hK s' o g h' (by rw [e]) hn x)
        refine ⟨?_, ?_⟩
        · refine st.nw fun b22 h7 st => ?_
          simp only [List.nil_append] at st
          refine ⟨?_, ?_⟩
          · have st := st.asSl 0 i64.enc [] rfl rfl
            refine st.apdS (τ := i64) 0 rfl (st.fz 4 rfl).rsl leaf_int (by simp; omega) (by decide) fun s31 h5 st => ?_
            refine ckF (st.fblk 2 rfl) ?_
            simp only [List.nil_append, List.set_cons_zero, List.set_cons_succ] at st
            rw [e0]
            refine st.nw fun b32 h6 st => ?_
            simp only [List.cons_append, List.nil_append] at st
            refine st.apd (v := -(n : Int)) 0 1 rfl rfl (by decide) rfl (by omega) (by decide) rfl fun s33 h7 st => ?_
            refine ckF (st.fblk 2 rfl) ?_
            exact fin s33 h7 (st.drop 1 rfl)
          · rw [e0]
            refine st.nw fun b35 h5 st => ?_
            simp only [List.cons_append, List.nil_append] at st
            have st := st.asSl 0 i64.enc [] rfl rfl
            refine st.apdS (τ := i64) 0 rfl (st.fz 4 rfl).rsl leaf_int (by simp; omega) (by decide) fun s31 h6 st => ?_
            refine ckF (st.fblk 2 rfl) ?_
            simp only [List.nil_append, List.set_cons_zero, List.set_cons_succ] at st
            refine st.apd (v := -(n : Int)) 0 1 rfl rfl (by decide) rfl (by omega) (by decide) rfl fun s33 h7 st => ?_
            refine ckF (st.fblk 2 rfl) ?_
            exact fin s33 h7 (st.drop 1 rfl)
        · rw [e0]
          refine st.nw fun b39 h4 st => ?_
          refine st.nw fun b40 h5 st => ?_
          simp only [List.cons_append, List.nil_append] at st
          have st := st.asSl 1 i64.enc [] rfl rfl
          refine st.apdS (τ := i64) 1 rfl (st.fz 4 rfl).rsl leaf_int (by simp; omega) (by decide) fun s31 h6 st => ?_
          refine ckF (st.fblk 2 rfl) ?_
          simp only [List.nil_append, List.set_cons_zero, List.set_cons_succ] at st
          refine st.apd (v := -(n : Int)) 1 0 rfl rfl (by decide) rfl (by omega) (by decide) rfl fun s33 h7 st => ?_
          refine ckF (st.fblk 2 rfl) ?_
          exact fin s33 h7 (st.drop 0 rfl)
    by_cases hnv : n ≤ v
    · refine brT (decide_eq_true (by omega)) ?_
      refine call_of (r2_has_c (st.fz 4 rfl).rsl (by omega) _) ?_
      rintro _ h9 ⟨rfl, e⟩; have e' := e.symm; subst e'
      refine jn_in fun J2 hJ2 => ?_
      by_cases hm : (n : Int) ∈ L1
      · exact brT (by simpa using hm) (hJ2 _ _ (more hnv (fun q => (tv_zero.1 q).1 hm)))
      · refine brF (by simpa using hm) ?_
        have e0 : IntKind.wrap .i64 (0 - (n : Int)) = -(n : Int) := by rw [wrap_i64 (by omega) (by omega)]; omega
        rw [e0]
        refine call_of (r2_has_c (st.fz 4 rfl).rsl (by omega) _) ?_
        rintro _ h9 ⟨rfl, e⟩; have e' := e.symm; subst e'
        refine hJ2 _ _ ?_
        cases hm2 : L1.contains (-(n : Int)) with
        | true => exact more hnv (fun q => (tv_zero.1 q).2 (by simpa using hm2))
        | false => exact stop fun _ => tv_zero.2 ⟨hm, by simpa using hm2⟩
    · exact brF (decide_eq_false (by omega)) (stop fun q => absurd q hnv)

end Go.Proofs.S

set_option linter.unusedVariables false
set_option linter.unusedSimpArgs false
namespace Go.Proofs.S
open Go Go.Sx Go.Proofs Go.Cl Go.Dp

variable {h : Heap} {cs : List (List Int)} {s s2 sl sm r sO sR rS : Sl} {l c d L L1 : List Int} {m : List Bool} {b v bO bR : Nat} {G : List Asn} {n fu : Int}

end Go.Proofs.S
