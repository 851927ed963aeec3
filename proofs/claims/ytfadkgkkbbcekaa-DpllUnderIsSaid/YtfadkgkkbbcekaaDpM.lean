/-
  The laws' helpers of dpll: awake.
-/
import Derived.Test.YtfadkgkkbbcekaaFoVr
set_option linter.unusedVariables false
set_option linter.unusedSimpArgs false
namespace Go.Proofs.S
open Go Go.Sx Go.Proofs Go.Cl Go.Dp

variable {h : Heap}

abbrev cs3 : List (List Int) := [[1, 2], [-1, 3]]
abbrev cs1 : List (List Int) := [[1], [-1]]

variable {s sl : Sl}
theorem l3 : ∀ c ∈ cs3, c.length ≤ 1048576 := by decide
theorem l1 : ∀ c ∈ cs1, c.length ≤ 1048576 := by decide

theorem aw1 (hA : At h (lli cs3 s)) (hl : At h (li [-2] sl)) : callT Try.prog fn_dpll_Follows #[.agg #[.int .i64 3, .slice s.a s.len s.cap], .slice sl.a sl.len sl.cap] (.tup (.cons .sl (.cons (.int .i64) (.cons (.int .i64) .nil)))) (fun r h' => ∃ s', r = (s', -1, 0, ()) ∧ New h.size h' (lo [1, 3] s') ∧ Ext [] h h') h := by
  have := follows_c (n := 3) hA hl (by decide) l3 (by decide)
  rw [(by decide +kernel : followsP 3 cs3 [-2] = ([1, 3], -1, 0))] at this
  exact this
theorem aw4 (hA : At h (lli cs3 s)) (hl : At h (li [-2, -3] sl)) : callT Try.prog fn_dpll_Follows #[.agg #[.int .i64 3, .slice s.a s.len s.cap], .slice sl.a sl.len sl.cap] (.tup (.cons .sl (.cons (.int .i64) (.cons (.int .i64) .nil)))) (fun r h' => ∃ s', r = (s', 1, 0, ()) ∧ New h.size h' (lo [1] s') ∧ Ext [] h h') h := by
  have := follows_c (n := 3) hA hl (by decide) l3 (by decide)
  rw [(by decide +kernel : followsP 3 cs3 [-2, -3] = ([1], 1, 0))] at this
  exact this
theorem aw2 (hA : At h (lli cs3 s)) : callT Try.prog fn_dpll_Solve #[.agg #[.int .i64 3, .slice s.a s.len s.cap], .int .i64 2] (.tup (.cons tAn (.cons (.int .i64) .nil))) (fun r h' => ∃ s', r = ((true, s', 2, ()), 0, ()) ∧ New h.size h' (ob [false, true, false] s') ∧ Ext [] h h') h := by
  have := solve_c (n := 3) (fu := 2) hA (by decide) l3 (fun _ => by decide)
  rw [(by decide +kernel : underP 3 cs3 [] 2 = ((true, [false, true, false], 2), 0))] at this
  exact this
theorem aw3 (hA : At h (lli cs3 s)) : callT Try.prog fn_dpll_Solve #[.agg #[.int .i64 3, .slice s.a s.len s.cap], .int .i64 1] (.tup (.cons tAn (.cons (.int .i64) .nil))) (fun r h' => ∃ s', r = ((false, s', 0, ()), 190, ()) ∧ New h.size h' (ob [] s') ∧ Ext [] h h') h := by
  have := solve_c (n := 3) (fu := 1) hA (by decide) l3 (fun _ => by decide)
  rw [(by decide +kernel : underP 3 cs3 [] 1 = ((false, [], 0), 190))] at this
  exact this
theorem aw5 (hA : At h (lli cs1 s)) : callT Try.prog fn_dpll_Solve #[.agg #[.int .i64 1, .slice s.a s.len s.cap], .int .i64 0] (.tup (.cons tAn (.cons (.int .i64) .nil))) (fun r h' => ∃ s', r = ((false, s', 0, ()), 0, ()) ∧ New h.size h' (ob [] s') ∧ Ext [] h h') h := by
  have := solve_c (n := 1) (fu := 0) hA (by decide) l1 (fun _ => by decide)
  rw [(by decide +kernel : underP 1 cs1 [] 0 = ((false, [], 0), 0))] at this
  exact this
theorem aw6 (hA : At h (lli cs3 s)) (hl : At h (li [2, 3] sl)) : callT Try.prog fn_dpll_Implied #[.agg #[.int .i64 3, .slice s.a s.len s.cap], .slice sl.a sl.len sl.cap, .int .i64 9] (.tup (.cons .bool (.cons (.int .i64) .nil))) (fun r h' => r = (true, 0, ()) ∧ Ext [] h h') h := by
  have := implied_c (n := 3) (fu := 9) hA hl (by decide) l3 (by decide) (fun _ => by decide)
  rw [(by decide +kernel : impliedP 3 cs3 [2, 3] 9 = (true, 0))] at this
  exact this
theorem aw7 (hA : At h (lli cs3 s)) (hl : At h (li [2] sl)) : callT Try.prog fn_dpll_Implied #[.agg #[.int .i64 3, .slice s.a s.len s.cap], .slice sl.a sl.len sl.cap, .int .i64 9] (.tup (.cons .bool (.cons (.int .i64) .nil))) (fun r h' => r = (false, 0, ()) ∧ Ext [] h h') h := by
  have := implied_c (n := 3) (fu := 9) hA hl (by decide) l3 (by decide) (fun _ => by decide)
  rw [(by decide +kernel : impliedP 3 cs3 [2] 9 = (false, 0))] at this
  exact this

set_option maxRecDepth 100000 in
set_option maxHeartbeats 2000000 in
theorem dawake_c (h : Heap) : callT Try.prog fn_salvorlaw19_awake #[] .bool (fun r h' => r = true ∧ Ext [] h h') h := by
  refine callT_gen fun K hK => S_salvorlaw19_awake K ?_
  unfold F_salvorlaw19_awake
  have st := Hs.start h [] (by simp)
  refine Hs.lit st [1, 2] 2 rfl rfl fun b0 h1 st => ?_
  refine Hs.lit st [-1, 3] 2 rfl rfl fun b1 h1 st => ?_
  refine st.nw fun b2 h1 st => ?_
  have st := Hs.fzl st
  simp only [List.cons_append, List.nil_append] at st
  have a3 : At h1 (lli cs3 ⟨some ⟨b2, 0, none⟩, 2, 2⟩) := lli_mk (ps := [⟨some ⟨b0, 0, none⟩, 2, 2⟩, ⟨some ⟨b1, 0, none⟩, 2, 2⟩]) (st.fblk 2 rfl) rfl rfl ⟨st.fz 0 rfl, st.fz 1 rfl, trivial⟩
  refine call_of (lawOf_c a3 (by decide) l3) ?_
  rintro _ h2 ⟨s3, rfl, n3, x3⟩
  have st := Hs.fzl (st.new x3 n3)
  refine Hs.frml st fun b4 h3 st => ?_
  simp only [List.cons_append, List.nil_append] at st
  refine ldF (st.fblk 4 rfl) ?_
  refine Hs.lit st [-2] 1 rfl rfl fun b6 h4 st => ?_
  refine call_of (aw1 (llo_at (st.fz 3 rfl)) (st.fz 5 rfl)) ?_
  rintro _ h5 ⟨s7, rfl, n7, x7⟩
  have st := Hs.fzl (st.new x7 n7)
  refine ldF (st.fblk 4 rfl) ?_
  refine call_of (aw2 (llo_at (st.fz 3 rfl))) ?_
  rintro _ h6 ⟨s9, rfl, n9, x9⟩
  have st := Hs.fzl (st.new x9 n9)
  refine Hs.ans st fun b10 h7 st => ?_
  refine ldF (st.fblk 4 rfl) ?_
  refine call_of (aw3 (llo_at (st.fz 3 rfl))) ?_
  rintro _ h8 ⟨s12, rfl, n12, x12⟩
  have st := Hs.fzl (st.new x12 n12)
  refine Hs.ans st fun b13 h9 st => ?_
  refine ldF (st.fblk 4 rfl) ?_
  refine Hs.lit st [-2, -3] 2 rfl rfl fun b15 h10 st => ?_
  simp only [List.cons_append, List.nil_append] at st
  refine call_of (aw4 (llo_at (st.fz 3 rfl)) (st.fz 11 rfl)) ?_
  rintro _ h11 ⟨s16, rfl, n16, x16⟩
  have st := Hs.fzl (st.new x16 n16)
  refine Hs.lit st [1] 1 rfl rfl fun b17 h12 st => ?_
  refine Hs.lit st [-1] 1 rfl rfl fun b18 h12 st => ?_
  refine st.nw fun b19 h13 st => ?_
  have st := Hs.fzl st
  simp only [List.cons_append, List.nil_append] at st
  have a1 : At h13 (lli cs1 ⟨some ⟨b19, 0, none⟩, 2, 2⟩) := lli_mk (ps := [⟨some ⟨b17, 0, none⟩, 1, 1⟩, ⟨some ⟨b18, 0, none⟩, 1, 1⟩]) (st.fblk 15 rfl) rfl rfl ⟨st.fz 13 rfl, st.fz 14 rfl, trivial⟩
  refine call_of (lawOf_c a1 (by decide) l1) ?_
  rintro _ h14 ⟨s20, rfl, n20, x20⟩
  have st := Hs.fzl (st.new x20 n20)
  simp only [List.cons_append, List.nil_append] at st
  refine call_of (aw5 (llo_at (st.fz 16 rfl))) ?_
  rintro _ h15 ⟨s21, rfl, n21, x21⟩
  have st := Hs.fzl (st.new x21 n21)
  refine Hs.ans st fun b22 h16 st => ?_
  refine ldF (st.fblk 4 rfl) ?_
  refine Hs.lit st [2, 3] 2 rfl rfl fun b24 h17 st => ?_
  simp only [List.cons_append, List.nil_append] at st
  refine call_of (aw6 (llo_at (st.fz 3 rfl)) (st.fz 19 rfl)) ?_
  rintro _ h18 ⟨rfl, x25⟩
  have st := st.ext x25
  refine ldF (st.fblk 4 rfl) ?_
  refine Hs.lit st [2] 1 rfl rfl fun b27 h19 st => ?_
  simp only [List.cons_append, List.nil_append] at st
  refine call_of (aw7 (llo_at (st.fz 3 rfl)) (st.fz 20 rfl)) ?_
  rintro _ h20 ⟨rfl, x28⟩
  have st := st.ext x28
  simp only [addr_add, Nat.zero_add]
  refine jn_in fun J hJ => brT (by decide) (hJ _ _ ?_)
  clear J hJ
  refine jn_in fun J hJ => brT (by decide) ?_
  refine Hs.lit st [1, 3] 2 rfl rfl fun b62 h21 st => ?_
  simp only [List.cons_append, List.nil_append] at st
  refine call_of (equal_lit (st.fz 6 rfl).rsl (st.fz 21 rfl) (by decide)) ?_
  rintro _ h22 ⟨rfl, rfl⟩
  refine hJ _ _ ?_
  clear J hJ
  refine jn_in fun J hJ => brT (by decide) (hJ _ _ ?_)
  clear J hJ
  refine jn_in fun J hJ => brT (by decide) ?_
  rw [ld_bool (i := 0) (st.fblk 8 rfl) rfl]
  refine hJ _ _ ?_
  clear J hJ
  refine jn_in fun J hJ => brT rfl ?_
  rw [ld_sl (i := 1) (st.fblk 8 rfl) rfl]
  refine st.nw fun b59 h23 st => ?_
  have st := st.asSl 0 Ty.bool.enc [false, true, false] rfl rfl
  have st := Hs.fzl (As := []) st
  simp only [List.cons_append, List.nil_append] at st
  refine call_of (equal_bools (st.fz 7 rfl).rsl (st.fz 22 rfl).rsl (by decide)) ?_
  rintro _ h24 ⟨rfl, rfl⟩
  refine hJ _ _ ?_
  clear J hJ
  refine jn_in fun J hJ => brT rfl ?_
  rw [ld_int (i := 2) (st.fblk 8 rfl) rfl]
  refine hJ _ _ ?_
  clear J hJ
  refine jn_in fun J hJ => brT rfl ?_
  refine Hs.lit st [1] 1 rfl rfl fun b55 h25 st => ?_
  simp only [List.cons_append, List.nil_append] at st
  refine call_of (equal_lit (st.fz 12 rfl).rsl (st.fz 23 rfl) (by decide)) ?_
  rintro _ h26 ⟨rfl, rfl⟩
  refine hJ _ _ ?_
  clear J hJ
  refine jn_in fun J hJ => brT rfl (hJ _ _ ?_)
  clear J hJ
  refine jn_in fun J hJ => brT rfl ?_
  rw [ld_bool (i := 0) (st.fblk 18 rfl) rfl]
  refine hJ _ _ ?_
  clear J hJ
  refine jn_in fun J hJ => brT rfl ?_
  rw [ld_int (i := 2) (st.fblk 18 rfl) rfl]
  refine hJ _ _ ?_
  clear J hJ
  refine jn_in fun J hJ => brT rfl (hJ _ _ ?_)
  clear J hJ
  refine jn_in fun J hJ => brT rfl (hJ _ _ ?_)
  exact hK _ _ ⟨rfl, st.frame (by simp)⟩

end Go.Proofs.S

/-
  DpllFuel, walked.
-/
set_option linter.unusedVariables false
set_option linter.unusedSimpArgs false
namespace Go.Proofs.S
open Go Go.Sx Go.Proofs Go.Cl Go.Dp

variable {h : Heap} {l cs : List (List Int)} {s : Sl} {c : List Int}

/-- The run of a formula that Made makes. -/
abbrev T8 (l : List (List Int)) (c : List Int) : List Ev := trace 8 (madeF l) 9 c
theorem wrong8 {n : Int} (h0 : 0 ≤ n) (h1 : n ≤ 16777216) : wrongP 8 (madeF l) n = 0 := by
  unfold wrongP
  have : (checkP 8 (madeF l)).2 = 0 := check_good.2 (good8 l)
  rw [if_neg (by simp [this]), if_neg (by omega)]
theorem under8 {n : Nat} (hn : n ≤ 16777216) (hA : Asg 8 c) : underP 8 (madeF l) c n = if (Dp.runT n (T8 l c)).2 > n then ((false, [], 0), 190) else (((Dp.runT n (T8 l c)).1.isSome, (Dp.runT n (T8 l c)).1.getD [], ((Dp.runT n (T8 l c)).2 : Int)), 0) := by
  unfold underP
  rw [if_neg (by simp [wrong8 (l := l) (n := (n : Int)) (by omega) (by omega)]), if_neg (by simp [(modelF_asg (n := 8) (c := c)).2 ⟨by decide, by decide, hA⟩])]
  simp only [Int.toNat_natCast, show Int.toNat 8 = 8 from rfl]
  by_cases hg : (Dp.runT n (T8 l c)).2 > n
  · rw [if_pos hg, if_pos (show (((Dp.runT n (T8 l c)).2 : Nat) : Int) > n by omega)]
  · rw [if_neg hg, if_neg (show ¬ (((Dp.runT n (T8 l c)).2 : Nat) : Int) > n by omega)]
theorem ng8 : ng (T8 l c) ≤ 510 := by
  have h1 := trace_guesses (v := 8) (inv_good (good8 l)) (by decide) 9 c
  have h2 := freeN_le (v := 8) (L := c)
  have h3 : 2 ^ (freeN 8 c + 1) ≤ 2 ^ 9 := Nat.pow_le_pow_right (by decide) (by omega)
  have e : (2 : Nat) ^ 9 = 512 := by decide
  show ng (trace 8 (madeF l) 9 c) ≤ 510
  omega
theorem mods8 (hA : Asg 8 c) : mods (T8 l c) = under 8 (madeF l) c := trace_mods (inv_good (good8 l)) (by decide) 9 c hA (Nat.lt_succ_of_le freeN_le)
theorem run8_len (hA : Asg 8 c) {n : Nat} (h : ng (T8 l c) ≤ n) : ((Dp.runT n (T8 l c)).1.getD []).length ≤ 8 := by
  rw [run_enough _ _ h, mods8 hA]
  cases e : (under 8 (madeF l) c).head? with
  | none => simp
  | some m =>
    have hm : m ∈ under 8 (madeF l) c := List.mem_of_mem_head? e
    have := Cr.mem_allB.1 (List.mem_filter.1 hm).1
    simp [this]
theorem solve8_le {n : Nat} (h : ng (T8 l c) ≤ n) : (Dp.runT n (T8 l c)).2 ≤ n := Nat.le_trans (run_le _ _).2 h

set_option maxHeartbeats 1000000 in
theorem dpllFuel_F {a1 : Int} (hA : At h (llu l s)) (hu : ∀ c ∈ l, U8 c) (h0 : 0 ≤ a1) (h1 : a1 ≤ 65535) (K : Bool → HP) (hK : ∀ x h', (x = true ∧ Ext [] h h') → K x h') : F_salvorlaw19_DpllFuel s a1 K h := by
  unfold F_salvorlaw19_DpllFuel
  have st := Hs.start h [llu l s] (by simp [hA])
  have hng := ng8 (l := l) (c := [])
  have hlen := (good_len (good8 l)).1
  have hlens := (good_len (good8 l)).2
  have hA0 : Asg 8 [] := Asg.nil
  refine call_of (lawMade_c (st.fz 0 rfl) hu) ?_
  rintro _ h2 ⟨s', rfl, hn2, x2⟩
  have st := Hs.fzl (st.new x2 hn2)
  refine Hs.frml st fun b1 h3 st => ?_
  simp only [List.cons_append, List.nil_append] at st
  refine ldF (st.fblk 2 rfl) ?_
  obtain ⟨k, o, hr⟩ : ∃ k o, Dp.runT 1000 (T8 l []) = (o, k) := ⟨_, _, rfl⟩
  have hk1 : k ≤ ng (T8 l []) := by have := (run_le (T8 l []) 1000).2; rw [hr] at this; exact this
  have hk : k ≤ 1000 := by omega
  have u1 : underP 8 (madeF l) [] 1000 = ((o.isSome, o.getD [], (k : Int)), 0) := by
    have := under8 (l := l) (c := []) (n := 1000) (by decide) hA0
    rw [hr, if_neg (by omega)] at this; exact this
  have u2 : underP 8 (madeF l) [] k = ((o.isSome, o.getD [], (k : Int)), 0) := by
    have := under8 (l := l) (c := []) (n := k) (by omega) hA0
    rw [run_more (T8 l []) 1000 k (by rw [hr]; exact hk) (by rw [hr]; exact Nat.le_refl _), hr, if_neg (by omega)] at this; exact this
  have c1 := fun {h : Heap} (q : At h (lli (madeF l) s')) (n : Int) => solve_c (n := 8) (fu := n) q hlen hlens (fun _ => by decide)
  refine call_of (c1 (llo_at (st.fz 1 rfl)) 1000) ?_
  rw [u1]
  rintro _ h4 ⟨s3, rfl, n3, x3⟩
  have st := Hs.fzl (st.new x3 n3)
  refine Hs.ans st fun b4 h5 st => ?_
  simp only [List.cons_append, List.nil_append, addr_add, Nat.zero_add] at st ⊢
  refine ldF (st.fblk 2 rfl) ?_
  rw [ld_int (i := 2) (st.fblk 4 rfl) rfl]
  refine call_of (c1 (llo_at (st.fz 1 rfl)) k) ?_
  rw [u2]
  rintro _ h6 ⟨s7, rfl, n7, x7⟩
  have st := Hs.fzl (st.new x7 n7)
  refine Hs.ans st fun b8 h7 st => ?_
  simp only [List.cons_append, List.nil_append, addr_add, Nat.zero_add] at st ⊢
  rw [nz_ok (by decide)]
  refine ldF (st.fblk 2 rfl) ?_
  obtain ⟨a, rfl⟩ := Int.eq_ofNat_of_zero_le h0
  have em : IntKind.wrap .i64 (Int.tmod (a : Int) 601) = ((a % 601 : Nat) : Int) := by
    have : Int.tmod (a : Int) 601 = ((a % 601 : Nat) : Int) := rfl
    rw [this, wrap_i64 (by omega) (by omega)]
  simp only [em]
  have hlt6 : a % 601 < 601 := Nat.mod_lt _ (by decide)
  generalize a % 601 = n at *
  refine call_of (c1 (llo_at (st.fz 1 rfl)) n) ?_
  rintro _ h8 ⟨s10, rfl, n10, x10⟩
  have st := Hs.fzl (st.new x10 n10)
  refine Hs.ans st fun b11 h9 st => ?_
  simp only [List.cons_append, List.nil_append, addr_add, Nat.zero_add] at st ⊢
  have hlo : (o.getD []).length ≤ 1099511627776 := by
    have := run8_len (l := l) hA0 (n := 1000) (by omega)
    rw [hr] at this; simp only at this; omega
  refine jn_in fun J hJ => brF (by decide) ?_
  rw [ld_bool (i := 0) (st.fblk 4 rfl) rfl, ld_bool (i := 0) (st.fblk 6 rfl) rfl]
  refine hJ _ _ ?_
  clear J hJ
  refine jn_in fun J hJ => brF (by simp) ?_
  rw [ld_int (i := 2) (st.fblk 4 rfl) rfl, ld_int (i := 2) (st.fblk 6 rfl) rfl]
  refine hJ _ _ ?_
  clear J hJ
  refine jn_in fun J hJ => brF (by simp) ?_
  rw [ld_sl (i := 1) (st.fblk 4 rfl) rfl, ld_sl (i := 1) (st.fblk 6 rfl) rfl]
  refine call_of (equal_bools (st.fz 3 rfl).rsl (st.fz 5 rfl).rsl hlo) ?_
  rintro _ h10 ⟨rfl, e⟩; subst e
  refine hJ _ _ (brF (by simp) ?_)
  clear J hJ
  rw [ld_int (i := 2) (st.fblk 4 rfl) rfl]
  have hu8 := under8 (l := l) (c := []) (n := n) (by omega) hA0
  by_cases hnk : n < k
  · rw [run_less (T8 l []) 1000 n (by rw [hr]; exact hk) (by rw [hr]; exact hnk), if_pos (by simp)] at hu8
    rw [hu8] at st ⊢
    refine brT (decide_eq_true (show (n : Int) < (k : Int) by omega)) ?_
    refine jn_in fun J hJ => brT rfl ?_
    rw [ld_bool (i := 0) (st.fblk 8 rfl) rfl]
    refine hJ _ _ ?_
    clear J hJ
    refine jn_in fun J hJ => brT rfl ?_
    rw [ld_sl (i := 1) (st.fblk 8 rfl) rfl]
    have l10 := osl_len (st.fz 7 rfl)
    refine hJ _ _ ?_
    clear J hJ
    refine jn_in fun J hJ => brT (by rw [l10]; rfl) ?_
    rw [ld_int (i := 2) (st.fblk 8 rfl) rfl]
    refine hJ _ _ ?_
    clear J hJ
    refine jn_in fun J hJ => brT rfl ?_
    refine call_of (dawake_c _) ?_
    rintro _ h11 ⟨rfl, x11⟩
    have st := st.ext x11
    exact hJ _ _ (hK _ _ ⟨rfl, st.frame (by simp)⟩)
  · have hu8 : underP 8 (madeF l) [] n = ((o.isSome, o.getD [], (k : Int)), 0) := by
      rw [run_more (T8 l []) 1000 n (by rw [hr]; exact hk) (by rw [hr]; exact Nat.le_of_not_lt hnk), hr, if_neg (by omega)] at hu8; exact hu8
    rw [hu8] at st ⊢
    refine brF (decide_eq_false (show ¬ (n : Int) < (k : Int) by omega)) ?_
    refine jn_in fun J hJ => brT rfl ?_
    rw [ld_bool (i := 0) (st.fblk 8 rfl) rfl, ld_bool (i := 0) (st.fblk 4 rfl) rfl]
    refine hJ _ _ ?_
    clear J hJ
    refine jn_in fun J hJ => brT (by simp) ?_
    rw [ld_int (i := 2) (st.fblk 8 rfl) rfl, ld_int (i := 2) (st.fblk 4 rfl) rfl]
    refine hJ _ _ ?_
    clear J hJ
    refine jn_in fun J hJ => brT (by simp) ?_
    rw [ld_sl (i := 1) (st.fblk 8 rfl) rfl, ld_sl (i := 1) (st.fblk 4 rfl) rfl]
    refine call_of (equal_bools (st.fz 7 rfl).rsl (st.fz 3 rfl).rsl hlo) ?_
    rintro _ h12 ⟨rfl, e⟩; subst e
    refine hJ _ _ ?_
    clear J hJ
    refine jn_in fun J hJ => brT (by simp) ?_
    refine call_of (dawake_c _) ?_
    rintro _ h11 ⟨rfl, x11⟩
    have st := st.ext x11
    exact hJ _ _ (hK _ _ ⟨rfl, st.frame (by simp)⟩)

end Go.Proofs.S

/-
  DpllUnderIs: what it needs of literals that clash.
-/
set_option linter.unusedVariables false
set_option linter.unusedSimpArgs false
namespace Go.Proofs.S
open Go Go.Sx Go.Proofs Go.Cl Go.Dp

variable {h : Heap} {l cs : List (List Int)} {s : Sl} {c : List Int}

theorem modelGo_err {n : Int} : ∀ (l : List Int) (out set : List Bool), (∀ x ∈ l, beyP n x = false) → (modelGo n out set l).2 = 0 ∨ (modelGo n out set l).2 = 52
  | [], out, set, _ => .inl rfl
  | x :: l, out, set, h => by
    rw [modelGo_cons, if_neg (by simp [h x (by simp)])]
    split
    · exact .inr rfl
    · exact modelGo_err l _ _ fun y hy => h y (by simp [hy])
theorem asg_made (h : alwaysC (madeP c) = false) : Asg 8 (madeP c) := by
  have hg := madeP_good c
  refine ⟨fun x hx => bey_iffL.1 (hg.2 x hx), fun x hx h2 => ?_⟩
  unfold alwaysC at h
  rw [List.any_eq_false] at h
  exact h x hx (by simpa using h2)
theorem clash_made (h : alwaysC (madeP c) = true) : (modelF 8 (madeP c)).2 = 52 := by
  have hg := madeP_good c
  have hne : (modelF 8 (madeP c)).2 ≠ 0 := fun q => by
    obtain ⟨_, _, hA⟩ := modelF_asg.1 q
    unfold alwaysC at h
    obtain ⟨x, hx, h2⟩ := List.any_eq_true.1 h
    exact hA.cons x hx (by simpa using h2)
  have := modelGo_err (n := 8) (madeP c) (List.replicate 8 false) (List.replicate 8 false) hg.2
  have e : modelF 8 (madeP c) = modelGo 8 (List.replicate 8 false) (List.replicate 8 false) (madeP c) := rfl
  rw [← e] at this
  exact this.resolve_left hne
/-- A clause of each literal more. -/
abbrev unitsF (l : List (List Int)) (c : List Int) : List (List Int) := madeF l ++ (madeP c).map fun x => [x]
theorem good_units (l : List (List Int)) (c : List Int) : GoodF 8 (unitsF l c) := by
  have h1 := good8 l
  have h2 := madeF_len l
  have hg := madeP_good c
  have hl : (madeP c).length ≤ 20 := by unfold madeP; simp; omega
  refine ⟨by rfl, by simp; omega, fun d hd => ?_⟩
  rcases List.mem_append.1 hd with q | q
  · exact h1.2.2 d q
  · obtain ⟨x, hx, rfl⟩ := List.mem_map.1 q
    have hb := hg.2 x hx
    refine ⟨?_, fun y hy => by simp at hy; subst hy; exact hb⟩
    unfold rightC
    simp [(bey_iffL.1 hb).1]
/-- With literals that clash there is no model. -/
theorem units_none (h : alwaysC (madeP c) = true) : under 8 (unitsF l c) [] = [] := by
  unfold alwaysC at h
  obtain ⟨x, hx, h2⟩ := List.any_eq_true.1 h
  have h2 : -x ∈ madeP c := by simpa using h2
  have hr := (bey_iffL.1 ((madeP_good c).2 x hx)).1
  refine List.filter_eq_nil_iff.2 fun m _ => ?_
  rw [List.all_nil, Bool.true_and, Bool.not_eq_true, Bool.eq_false_iff]
  intro hh
  have k := fun y (hy : y ∈ madeP c) => List.all_eq_true.1 hh [y] (List.mem_append.2 (.inr (List.mem_map.2 ⟨y, hy, rfl⟩)))
  have k1 := k x hx
  have k2 := k (-x) h2
  simp only [List.any_cons, List.any_nil, Bool.or_false] at k1 k2
  rw [Fo.tru_neg hr, k1] at k2
  cases k2

end Go.Proofs.S

/-
  DpllUnderIs, walked.
-/
set_option linter.unusedVariables false
set_option linter.unusedSimpArgs false
namespace Go.Proofs.S
open Go Go.Sx Go.Proofs Go.Cl Go.Dp

variable {h : Heap} {l cs : List (List Int)} {s s2 : Sl} {c : List Int}

/-- The answer to a right formula of 8 variables. -/
theorem underG {cs : List (List Int)} {n : Nat} (hg : GoodF 8 cs) (hn : n ≤ 16777216) (hA : Asg 8 c) (hle : (Dp.runT n (trace 8 cs 9 c)).2 ≤ n) : underP 8 cs c n = (((Dp.runT n (trace 8 cs 9 c)).1.isSome, (Dp.runT n (trace 8 cs 9 c)).1.getD [], ((Dp.runT n (trace 8 cs 9 c)).2 : Int)), 0) := by
  unfold underP
  have hw : wrongP 8 cs n = 0 := by
    unfold wrongP
    rw [if_neg (by simp [check_good.2 hg]), if_neg (by omega)]
  rw [if_neg (by simp [hw]), if_neg (by simp [(modelF_asg (n := 8) (c := c)).2 ⟨by decide, by decide, hA⟩])]
  simp only [Int.toNat_natCast, show Int.toNat 8 = 8 from rfl]
  rw [if_neg (show ¬ (((Dp.runT n (trace 8 cs 9 c)).2 : Nat) : Int) > n by omega)]

set_option maxHeartbeats 1000000 in
theorem dpllUnderIs_F (hA : At h (llu l s)) (hu : ∀ c ∈ l, U8 c) (hB : At h (lu c s2)) (hc : U8 c) (K : Bool → HP) (hK : ∀ x h', (x = true ∧ Ext [] h h') → K x h') : F_salvorlaw19_DpllUnderIs s s2 K h := by
  unfold F_salvorlaw19_DpllUnderIs
  have st := Hs.start h [llu l s, lu c s2] (by simp [hA, hB])
  have hlen := good_len (good8 l)
  have hlen2 := good_len (good_units l c)
  have hmp : (madeP c).length ≤ 20 := by unfold madeP; simp; omega
  have hml := madeF_len l
  refine call_of (lawMade_c (st.fz 0 rfl) hu) ?_
  rintro _ h2 ⟨s', rfl, hn2, x2⟩
  have st := Hs.fzl (st.new x2 hn2)
  refine call_of (made_c (st.fz 1 rfl) hc) ?_
  rintro sm h3 ⟨hn3, x3⟩
  have st := Hs.fzl (st.new x3 hn3)
  refine Hs.frml st fun b2 h4 st => ?_
  simp only [List.cons_append, List.nil_append] at st
  refine ldF (st.fblk 4 rfl) ?_
  refine call_of (copy_c (llo_at (st.fz 2 rfl)) hlen.1 hlen.2) ?_
  rintro _ h5 ⟨s4, rfl, hn5, x5⟩
  have st := st.new x5 hn5
  refine st.nw fun b5 h6 st => ?_
  simp only [List.cons_append, List.nil_append, addr_add, Nat.zero_add] at st ⊢
  refine st.st1 1 0 rfl (by simp) fun h7 st => ?_
  refine st.st1 1 1 rfl (by simp) fun h8 st => ?_
  simp only [List.set_cons_zero, List.set_cons_succ] at st
  have lsm := osl_len (st.fz 3 rfl)
  refine lfp_invh (I := fun m σ h' => ∃ (i : Nat) (sg : Sl), σ = ((i : Int), ()) ∧ i ≤ (madeP c).length ∧ Hs [([], h)] [llu l s, lu c s2, llo (madeF l) s', lo (madeP c) sm, cl b2 ty_formula_Formula [.int .i64 8, .slice s'.a s'.len s'.cap]]
      [llo (madeF l ++ ((madeP c).take i).map fun x => [x]) sg, cl b5 ty_formula_Formula [.int .i64 8, .slice sg.a sg.len sg.cap]] h' ∧ m = (madeP c).length - i)
    ⟨_, 0, s4, rfl, by omega, by rw [List.take_zero, List.map_nil, List.append_nil]; exact st, rfl⟩ ?_
  clear st
  rintro m σ h9 X ⟨i, sg, rfl, hi, st, rfl⟩ hX
  simp only
  by_cases hlt : i < (madeP c).length
  · rw [decide_eq_true (show (i : Int) < (sm.len : Int) by omega), brB_true, inc_i (show i < 4611686018427387904 by omega)]
    refine rd_ok (τ := i64) (st.fz 3 rfl).rsl (List.getElem?_eq_getElem hlt) ?_
    rw [st.lds 1 1 rfl rfl]
    refine st.nw fun b11 h10 st => ?_
    have st := st.asSl 2 i64.enc [(madeP c)[i]] rfl rfl
    refine st.nw fun b12 h11 st => ?_
    simp only [List.cons_append, List.nil_append, List.set_cons_zero, List.set_cons_succ] at st
    refine Hs.apdG (I := fun c p => lo c p) (x := [(madeP c)[i]]) (p := ⟨some ⟨b11, 0, none⟩, 1, 1⟩) st 0 3 2 rfl rfl rfl (by decide) (by decide) (by simp; omega) (by decide) rfl fun s12 h12 st => ?_
    refine st.st1 1 1 rfl (by simp) fun h13 st => ?_
    have st := (st.drop 3 rfl).drop 2 rfl
    refine hX _ _ _ ⟨i + 1, s12, rfl, by omega, ?_, rfl⟩ (by omega)
    rw [take_succ_getE hlt, List.map_append, ← List.append_assoc]
    exact st
  rw [decide_eq_false (show ¬ (i : Int) < (sm.len : Int) by omega), brB_false]
  rw [List.take_of_length_le (by omega)] at st
  clear hX
  have gu := good_units l c
  have hA0 : Asg 8 [] := Asg.nil
  have hng : ∀ {cs : List (List Int)} {d : List Int}, GoodF 8 cs → ng (trace 8 cs 9 d) ≤ 1000 := fun {cs d} hg => by
    have h1 := trace_guesses (v := 8) (inv_good hg) (by decide) 9 d
    have h2 := freeN_le (v := 8) (L := d)
    have h3 : 2 ^ (freeN 8 d + 1) ≤ 2 ^ 9 := Nat.pow_le_pow_right (by decide) (by omega)
    have e : (2 : Nat) ^ 9 = 512 := by decide
    omega
  have u2 := underG (c := []) (n := 1000) gu (by decide) hA0 (Nat.le_trans (run_le _ _).2 (hng gu))
  refine ldF (st.fblk 4 rfl) ?_
  refine call_of (under_c (n := 8) (fu := 1000) (llo_at (st.fz 2 rfl)) (st.fz 3 rfl).rsl hlen.1 hlen.2 (by omega) (fun _ => by decide)) ?_
  rintro _ h10 ⟨s15, rfl, n15, x15⟩
  have st := Hs.fzl (st.new x15 n15)
  refine Hs.ans st fun b16 h11 st => ?_
  simp only [List.cons_append, List.nil_append, addr_add, Nat.zero_add] at st ⊢
  refine ldF (st.blk 1 rfl) ?_
  refine call_of (solve_c (n := 8) (fu := ((1000 : Nat) : Int)) (llo_at (st.own 0 rfl)) hlen2.1 hlen2.2 (fun _ => by decide)) ?_
  rw [u2]
  rintro _ h12 ⟨s18, rfl, n18, x18⟩
  have st := Hs.fzl (st.new x18 n18)
  refine Hs.ans st fun b19 h13 st => ?_
  simp only [List.cons_append, List.nil_append, addr_add, Nat.zero_add] at st ⊢
  refine brF rfl ?_
  refine call_of (always_c (st.fz 3 rfl).rsl) ?_
  rintro _ h14 ⟨rfl, x14⟩
  have st := st.ext x14
  rw [(madeP_good c).1, Bool.true_and]
  cases ha : alwaysC (madeP c) with
  | true =>
    refine brT rfl ?_
    have u1 : underP 8 (madeF l) (madeP c) 1000 = ((false, [], 0), 52) := by
      unfold underP
      rw [if_neg (by simp [wrong8 (l := l) (n := 1000) (by decide) (by decide)]), clash_made ha, if_pos (by decide)]
    rw [u1] at st ⊢
    have e0 : (Dp.runT 1000 (trace 8 (unitsF l c) 9 [])).1 = none := by
      rw [run_enough _ _ (hng gu), trace_mods (inv_good gu) (by decide) 9 [] hA0 (Nat.lt_succ_of_le freeN_le), units_none ha]; rfl
    refine jn_in fun J hJ => brT rfl ?_
    rw [ld_bool (i := 0) (st.fblk 8 rfl) rfl]
    refine hJ _ _ ?_
    clear J hJ
    refine jn_in fun J hJ => brT (by rw [e0]; rfl) ?_
    refine call_of (dawake_c _) ?_
    rintro _ h15 ⟨rfl, x15⟩
    have st := st.ext x15
    exact hJ _ _ (hK _ _ ⟨rfl, st.frame (by simp)⟩)
  | false =>
    refine brF rfl ?_
    have hAs := asg_made ha
    have u1 := underG (c := madeP c) (n := 1000) (good8 l) (by decide) hAs (Nat.le_trans (run_le _ _).2 (hng (good8 l)))
    have et : trace 8 (unitsF l c) 9 [] = trace 8 (madeF l) 9 (madeP c) := trace_under (inv_good (good8 l)) (by decide) hAs
    have hlo := run8_len (l := l) (c := madeP c) hAs (n := 1000) (hng (good8 l))
    have u1 : underP 8 (madeF l) (madeP c) 1000 = _ := u1
    rw [u1] at st ⊢
    rw [et] at st
    refine jn_in fun J hJ => brT rfl ?_
    rw [ld_bool (i := 0) (st.fblk 6 rfl) rfl, ld_bool (i := 0) (st.fblk 8 rfl) rfl]
    refine hJ _ _ ?_
    clear J hJ
    refine jn_in fun J hJ => brT (by simp) ?_
    rw [ld_sl (i := 1) (st.fblk 6 rfl) rfl, ld_sl (i := 1) (st.fblk 8 rfl) rfl]
    refine call_of (equal_bools (st.fz 5 rfl).rsl (st.fz 7 rfl).rsl (Nat.le_trans hlo (by decide))) ?_
    rintro _ h16 ⟨rfl, e⟩; subst e
    refine hJ _ _ ?_
    clear J hJ
    refine jn_in fun J hJ => brT (by simp) ?_
    rw [ld_int (i := 2) (st.fblk 6 rfl) rfl, ld_int (i := 2) (st.fblk 8 rfl) rfl]
    refine hJ _ _ ?_
    clear J hJ
    refine jn_in fun J hJ => brT (by simp) ?_
    refine call_of (dawake_c _) ?_
    rintro _ h15 ⟨rfl, x15⟩
    have st := st.ext x15
    exact hJ _ _ (hK _ _ ⟨rfl, st.frame (by simp)⟩)

end Go.Proofs.S
