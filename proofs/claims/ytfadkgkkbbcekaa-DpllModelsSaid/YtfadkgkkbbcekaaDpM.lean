/-
  The laws' helpers of dpll: awake.
-/
import Derived.Test.YtfadkgkkbbcekaaFoVr
set_option linter.unusedVariables false
set_option linter.unusedSimpArgs false
namespace Go.Proofs.S
open Go Go.Sx Go.Proofs Go.Cl Go.Dp

variable {h : Heap}

abbrev cs3 : List (List Int) := [[1, 2], [-1, 3]]
abbrev cs1 : List (List Int) := [[1], [-1]]

variable {s sl : Sl}
theorem l3 : ∀ c ∈ cs3, c.length ≤ 1048576 := by decide
theorem l1 : ∀ c ∈ cs1, c.length ≤ 1048576 := by decide

theorem aw1 (hA : At h (lli cs3 s)) (hl : At h (li [-2] sl)) : callT Try.prog fn_dpll_Follows #[.agg #[.int .i64 3, .slice s.a s.len s.cap], .slice sl.a sl.len sl.cap] (.tup (.cons .sl (.cons (.int .i64) (.cons (.int .i64) .nil)))) (fun r h' => ∃ s', r = (s', -1, 0, ()) ∧ New h.size h' (lo [1, 3] s') ∧ Ext [] h h') h := by
  have := follows_c (n := 3) hA hl (by decide) l3 (by decide)
  rw [(by decide +kernel : followsP 3 cs3 [-2] = ([1, 3], -1, 0))] at this
  exact this
theorem aw4 (hA : At h (lli cs3 s)) (hl : At h (li [-2, -3] sl)) : callT Try.prog fn_dpll_Follows #[.agg #[.int .i64 3, .slice s.a s.len s.cap], .slice sl.a sl.len sl.cap] (.tup (.cons .sl (.cons (.int .i64) (.cons (.int .i64) .nil)))) (fun r h' => ∃ s', r = (s', 1, 0, ()) ∧ New h.size h' (lo [1] s') ∧ Ext [] h h') h := by
  have := follows_c (n := 3) hA hl (by decide) l3 (by decide)
  rw [(by decide +kernel : followsP 3 cs3 [-2, -3] = ([1], 1, 0))] at this
  exact this
theorem aw2 (hA : At h (lli cs3 s)) : callT Try.prog fn_dpll_Solve #[.agg #[.int .i64 3, .slice s.a s.len s.cap], .int .i64 2] (.tup (.cons tAn (.cons (.int .i64) .nil))) (fun r h' => ∃ s', r = ((true, s', 2, ()), 0, ()) ∧ New h.size h' (ob [false, true, false] s') ∧ Ext [] h h') h := by
  have := solve_c (n := 3) (fu := 2) hA (by decide) l3 (fun _ => by decide)
  rw [(by decide +kernel : underP 3 cs3 [] 2 = ((true, [false, true, false], 2), 0))] at this
  exact this
theorem aw3 (hA : At h (lli cs3 s)) : callT Try.prog fn_dpll_Solve #[.agg #[.int .i64 3, .slice s.a s.len s.cap], .int .i64 1] (.tup (.cons tAn (.cons (.int .i64) .nil))) (fun r h' => ∃ s', r = ((false, s', 0, ()), 190, ()) ∧ New h.size h' (ob [] s') ∧ Ext [] h h') h := by
  have := solve_c (n := 3) (fu := 1) hA (by decide) l3 (fun _ => by decide)
  rw [(by decide +kernel : underP 3 cs3 [] 1 = ((false, [], 0), 190))] at this
  exact this
theorem aw5 (hA : At h (lli cs1 s)) : callT Try.prog fn_dpll_Solve #[.agg #[.int .i64 1, .slice s.a s.len s.cap], .int .i64 0] (.tup (.cons tAn (.cons (.int .i64) .nil))) (fun r h' => ∃ s', r = ((false, s', 0, ()), 0, ()) ∧ New h.size h' (ob [] s') ∧ Ext [] h h') h := by
  have := solve_c (n := 1) (fu := 0) hA (by decide) l1 (fun _ => by decide)
  rw [(by decide +kernel : underP 1 cs1 [] 0 = ((false, [], 0), 0))] at this
  exact this
theorem aw6 (hA : At h (lli cs3 s)) (hl : At h (li [2, 3] sl)) : callT Try.prog fn_dpll_Implied #[.agg #[.int .i64 3, .slice s.a s.len s.cap], .slice sl.a sl.len sl.cap, .int .i64 9] (.tup (.cons .bool (.cons (.int .i64) .nil))) (fun r h' => r = (true, 0, ()) ∧ Ext [] h h') h := by
  have := implied_c (n := 3) (fu := 9) hA hl (by decide) l3 (by decide) (fun _ => by decide)
  rw [(by decide +kernel : impliedP 3 cs3 [2, 3] 9 = (true, 0))] at this
  exact this
theorem aw7 (hA : At h (lli cs3 s)) (hl : At h (li [2] sl)) : callT Try.prog fn_dpll_Implied #[.agg #[.int .i64 3, .slice s.a s.len s.cap], .slice sl.a sl.len sl.cap, .int .i64 9] (.tup (.cons .bool (.cons (.int .i64) .nil))) (fun r h' => r = (false, 0, ()) ∧ Ext [] h h') h := by
  have := implied_c (n := 3) (fu := 9) hA hl (by decide) l3 (by decide) (fun _ => by decide)
  rw [(by decide +kernel : impliedP 3 cs3 [2] 9 = (false, 0))] at this
  exact this

set_option maxRecDepth 100000 in
set_option maxHeartbeats 2000000 in
theorem dawake_c (h : Heap) : callT Try.prog fn_salvorlaw19_awake #[] .bool (fun r h' => r = true ∧ Ext [] h h') h := by
  refine callT_gen fun K hK => S_salvorlaw19_awake K ?_
  unfold F_salvorlaw19_awake
  have st := Hs.start h [] (by simp)
  refine Hs.lit st [1, 2] 2 rfl rfl fun b0 h1 st => ?_
  refine Hs.lit st [-1, 3] 2 rfl rfl fun b1 h1 st => ?_
  refine st.nw fun b2 h1 st => ?_
  have st := Hs.fzl st
  simp only [List.cons_append, List.nil_append] at st
  have a3 : At h1 (lli cs3 ⟨some ⟨b2, 0, none⟩, 2, 2⟩) := lli_mk (ps := [⟨some ⟨b0, 0, none⟩, 2, 2⟩, ⟨some ⟨b1, 0, none⟩, 2, 2⟩]) (st.fblk 2 rfl) rfl rfl ⟨st.fz 0 rfl, st.fz 1 rfl, trivial⟩
  refine call_of (lawOf_c a3 (by decide) l3) ?_
  rintro _ h2 ⟨s3, rfl, n3, x3⟩
  have st := Hs.fzl (st.new x3 n3)
  refine Hs.frml st fun b4 h3 st => ?_
  simp only [List.cons_append, List.nil_append] at st
  refine ldF (st.fblk 4 rfl) ?_
  refine Hs.lit st [-2] 1 rfl rfl fun b6 h4 st => ?_
  refine call_of (aw1 (llo_at (st.fz 3 rfl)) (st.fz 5 rfl)) ?_
  rintro _ h5 ⟨s7, rfl, n7, x7⟩
  have st := Hs.fzl (st.new x7 n7)
  refine ldF (st.fblk 4 rfl) ?_
  refine call_of (aw2 (llo_at (st.fz 3 rfl))) ?_
  rintro _ h6 ⟨s9, rfl, n9, x9⟩
  have st := Hs.fzl (st.new x9 n9)
  refine Hs.ans st fun b10 h7 st => ?_
  refine ldF (st.fblk 4 rfl) ?_
  refine call_of (aw3 (llo_at (st.fz 3 rfl))) ?_
  rintro _ h8 ⟨s12, rfl, n12, x12⟩
  have st := Hs.fzl (st.new x12 n12)
  refine Hs.ans st fun b13 h9 st => ?_
  refine ldF (st.fblk 4 rfl) ?_
  refine Hs.lit st [-2, -3] 2 rfl rfl fun b15 h10 st => ?_
  simp only [List.cons_append, List.nil_append] at st
  refine call_of (aw4 (llo_at (st.fz 3 rfl)) (st.fz 11 rfl)) ?_
  rintro _ h11 ⟨s16, rfl, n16, x16⟩
  have st := Hs.fzl (st.new x16 n16)
  refine Hs.lit st [1] 1 rfl rfl fun b17 h12 st => ?_
  refine Hs.lit st [-1] 1 rfl rfl fun b18 h12 st => ?_
  refine st.nw fun b19 h13 st => ?_
  have st := Hs.fzl st
  simp only [List.cons_append, List.nil_append] at st
  have a1 : At h13 (lli cs1 ⟨some ⟨b19, 0, none⟩, 2, 2⟩) := lli_mk (ps := [⟨some ⟨b17, 0, none⟩, 1, 1⟩, ⟨some ⟨b18, 0, none⟩, 1, 1⟩]) (st.fblk 15 rfl) rfl rfl ⟨st.fz 13 rfl, st.fz 14 rfl, trivial⟩
  refine call_of (lawOf_c a1 (by decide) l1) ?_
  rintro _ h14 ⟨s20, rfl, n20, x20⟩
  have st := Hs.fzl (st.new x20 n20)
  simp only [List.cons_append, List.nil_append] at st
  refine call_of (aw5 (llo_at (st.fz 16 rfl))) ?_
  rintro _ h15 ⟨s21, rfl, n21, x21⟩
  have st := Hs.fzl (st.new x21 n21)
  refine Hs.ans st fun b22 h16 st => ?_
  refine ldF (st.fblk 4 rfl) ?_
  refine Hs.lit st [2, 3] 2 rfl rfl fun b24 h17 st => ?_
  simp only [List.cons_append, List.nil_append] at st
  refine call_of (aw6 (llo_at (st.fz 3 rfl)) (st.fz 19 rfl)) ?_
  rintro _ h18 ⟨rfl, x25⟩
  have st := st.ext x25
  refine ldF (st.fblk 4 rfl) ?_
  refine Hs.lit st [2] 1 rfl rfl fun b27 h19 st => ?_
  simp only [List.cons_append, List.nil_append] at st
  refine call_of (aw7 (llo_at (st.fz 3 rfl)) (st.fz 20 rfl)) ?_
  rintro _ h20 ⟨rfl, x28⟩
  have st := st.ext x28
  simp only [addr_add, Nat.zero_add]
  refine jn_in fun J hJ => brT (by decide) (hJ _ _ ?_)
  clear J hJ
  refine jn_in fun J hJ => brT (by decide) ?_
  refine Hs.lit st [1, 3] 2 rfl rfl fun b62 h21 st => ?_
  simp only [List.cons_append, List.nil_append] at st
  refine call_of (equal_lit (st.fz 6 rfl).rsl (st.fz 21 rfl) (by decide)) ?_
  rintro _ h22 ⟨rfl, rfl⟩
  refine hJ _ _ ?_
  clear J hJ
  refine jn_in fun J hJ => brT (by decide) (hJ _ _ ?_)
  clear J hJ
  refine jn_in fun J hJ => brT (by decide) ?_
  rw [ld_bool (i := 0) (st.fblk 8 rfl) rfl]
  refine hJ _ _ ?_
  clear J hJ
  refine jn_in fun J hJ => brT rfl ?_
  rw [ld_sl (i := 1) (st.fblk 8 rfl) rfl]
  refine st.nw fun b59 h23 st => ?_
  have st := st.asSl 0 Ty.bool.enc [false, true, false] rfl rfl
  have st := Hs.fzl (As := []) st
  simp only [List.cons_append, List.nil_append] at st
  refine call_of (equal_bools (st.fz 7 rfl).rsl (st.fz 22 rfl).rsl (by decide)) ?_
  rintro _ h24 ⟨rfl, rfl⟩
  refine hJ _ _ ?_
  clear J hJ
  refine jn_in fun J hJ => brT rfl ?_
  rw [ld_int (i := 2) (st.fblk 8 rfl) rfl]
  refine hJ _ _ ?_
  clear J hJ
  refine jn_in fun J hJ => brT rfl ?_
  refine Hs.lit st [1] 1 rfl rfl fun b55 h25 st => ?_
  simp only [List.cons_append, List.nil_append] at st
  refine call_of (equal_lit (st.fz 12 rfl).rsl (st.fz 23 rfl) (by decide)) ?_
  rintro _ h26 ⟨rfl, rfl⟩
  refine hJ _ _ ?_
  clear J hJ
  refine jn_in fun J hJ => brT rfl (hJ _ _ ?_)
  clear J hJ
  refine jn_in fun J hJ => brT rfl ?_
  rw [ld_bool (i := 0) (st.fblk 18 rfl) rfl]
  refine hJ _ _ ?_
  clear J hJ
  refine jn_in fun J hJ => brT rfl ?_
  rw [ld_int (i := 2) (st.fblk 18 rfl) rfl]
  refine hJ _ _ ?_
  clear J hJ
  refine jn_in fun J hJ => brT rfl (hJ _ _ ?_)
  clear J hJ
  refine jn_in fun J hJ => brT rfl (hJ _ _ ?_)
  exact hK _ _ ⟨rfl, st.frame (by simp)⟩

end Go.Proofs.S

set_option linter.unusedVariables false
set_option linter.unusedSimpArgs false
namespace Go.Proofs.S
open Go Go.Sx Go.Proofs Go.Cl Go.Dp

variable {h : Heap} {l cs : List (List Int)} {s : Sl} {c : List Int}

abbrev T8 (l : List (List Int)) (c : List Int) : List Ev := trace 8 (madeF l) 9 c
theorem wrong8 {n : Int} (h0 : 0 ≤ n) (h1 : n ≤ 16777216) : wrongP 8 (madeF l) n = 0 := by
  unfold wrongP
  have : (checkP 8 (madeF l)).2 = 0 := check_good.2 (good8 l)
  rw [if_neg (by simp [this]), if_neg (by omega)]
theorem under8 {n : Nat} (hn : n ≤ 16777216) (hA : Asg 8 c) : underP 8 (madeF l) c n = if (Dp.runT n (T8 l c)).2 > n then ((false, [], 0), 190) else (((Dp.runT n (T8 l c)).1.isSome, (Dp.runT n (T8 l c)).1.getD [], ((Dp.runT n (T8 l c)).2 : Int)), 0) := by
  unfold underP
  rw [if_neg (by simp [wrong8 (l := l) (n := (n : Int)) (by omega) (by omega)]), if_neg (by simp [(modelF_asg (n := 8) (c := c)).2 ⟨by decide, by decide, hA⟩])]
  simp only [Int.toNat_natCast, show Int.toNat 8 = 8 from rfl]
  by_cases hg : (Dp.runT n (T8 l c)).2 > n
  · rw [if_pos hg, if_pos (show (((Dp.runT n (T8 l c)).2 : Nat) : Int) > n by omega)]
  · rw [if_neg hg, if_neg (show ¬ (((Dp.runT n (T8 l c)).2 : Nat) : Int) > n by omega)]
theorem ng8 : ng (T8 l c) ≤ 510 := by
  have h1 := trace_guesses (v := 8) (inv_good (good8 l)) (by decide) 9 c
  have h2 := freeN_le (v := 8) (L := c)
  have h3 : 2 ^ (freeN 8 c + 1) ≤ 2 ^ 9 := Nat.pow_le_pow_right (by decide) (by omega)
  have e : (2 : Nat) ^ 9 = 512 := by decide
  show ng (trace 8 (madeF l) 9 c) ≤ 510
  omega
theorem mods8 (hA : Asg 8 c) : mods (T8 l c) = under 8 (madeF l) c := trace_mods (inv_good (good8 l)) (by decide) 9 c hA (Nat.lt_succ_of_le freeN_le)
theorem run8_len (hA : Asg 8 c) {n : Nat} (h : ng (T8 l c) ≤ n) : ((Dp.runT n (T8 l c)).1.getD []).length ≤ 8 := by
  rw [run_enough _ _ h, mods8 hA]
  cases e : (under 8 (madeF l) c).head? with
  | none => simp
  | some m =>
    have hm : m ∈ under 8 (madeF l) c := List.mem_of_mem_head? e
    have := Cr.mem_allB.1 (List.mem_filter.1 hm).1
    simp [this]
theorem solve8_le {n : Nat} (h : ng (T8 l c) ≤ n) : (Dp.runT n (T8 l c)).2 ≤ n := Nat.le_trans (run_le _ _).2 h

set_option maxHeartbeats 1000000 in
theorem dpllFuel_F {a1 : Int} (hA : At h (llu l s)) (hu : ∀ c ∈ l, U8 c) (h0 : 0 ≤ a1) (h1 : a1 ≤ 65535) (K : Bool → HP) (hK : ∀ x h', (x = true ∧ Ext [] h h') → K x h') : F_salvorlaw19_DpllFuel s a1 K h := by
  unfold F_salvorlaw19_DpllFuel
  have st := Hs.start h [llu l s] (by simp [hA])
  have hng := ng8 (l := l) (c := [])
  have hlen := (good_len (good8 l)).1
  have hlens := (good_len (good8 l)).2
  have hA0 : Asg 8 [] := Asg.nil
  refine call_of (lawMade_c (st.fz 0 rfl) hu) ?_
  rintro _ h2 ⟨s', rfl, hn2, x2⟩
  have st := Hs.fzl (st.new x2 hn2)
  refine Hs.frml st fun b1 h3 st => ?_
  simp only [List.cons_append, List.nil_append] at st
  refine ldF (st.fblk 2 rfl) ?_
  obtain ⟨k, o, hr⟩ : ∃ k o, Dp.runT 1000 (T8 l []) = (o, k) := ⟨_, _, rfl⟩
  have hk1 : k ≤ ng (T8 l []) := by have := (run_le (T8 l []) 1000).2; rw [hr] at this; exact this
  have hk : k ≤ 1000 := by omega
  have u1 : underP 8 (madeF l) [] 1000 = ((o.isSome, o.getD [], (k : Int)), 0) := by
    have := under8 (l := l) (c := []) (n := 1000) (by decide) hA0
    rw [hr, if_neg (by omega)] at this; exact this
  have u2 : underP 8 (madeF l) [] k = ((o.isSome, o.getD [], (k : Int)), 0) := by
    have := under8 (l := l) (c := []) (n := k) (by omega) hA0
    rw [run_more (T8 l []) 1000 k (by rw [hr]; exact hk) (by rw [hr]; exact Nat.le_refl _), hr, if_neg (by omega)] at this; exact this
  have c1 := fun {h : Heap} (q : At h (lli (madeF l) s')) (n : Int) => solve_c (n := 8) (fu := n) q hlen hlens (fun _ => by decide)
  refine call_of (c1 (llo_at (st.fz 1 rfl)) 1000) ?_
  rw [u1]
  rintro _ h4 ⟨s3, rfl, n3, x3⟩
  have st := Hs.fzl (st.new x3 n3)
  refine Hs.ans st fun b4 h5 st => ?_
  simp only [List.cons_append, List.nil_append, addr_add, Nat.zero_add] at st ⊢
  refine ldF (st.fblk 2 rfl) ?_
  rw [ld_int (i := 2) (st.fblk 4 rfl) rfl]
  refine call_of (c1 (llo_at (st.fz 1 rfl)) k) ?_
  rw [u2]
  rintro _ h6 ⟨s7, rfl, n7, x7⟩
  have st := Hs.fzl (st.new x7 n7)
  refine Hs.ans st fun b8 h7 st => ?_
  simp only [List.cons_append, List.nil_append, addr_add, Nat.zero_add] at st ⊢
  rw [nz_ok (by decide)]
  refine ldF (st.fblk 2 rfl) ?_
  obtain ⟨a, rfl⟩ := Int.eq_ofNat_of_zero_le h0
  have em : IntKind.wrap .i64 (Int.tmod (a : Int) 601) = ((a % 601 : Nat) : Int) := by
    have : Int.tmod (a : Int) 601 = ((a % 601 : Nat) : Int) := rfl
    rw [this, wrap_i64 (by omega) (by omega)]
  simp only [em]
  have hlt6 : a % 601 < 601 := Nat.mod_lt _ (by decide)
  generalize a % 601 = n at *
  refine call_of (c1 (llo_at (st.fz 1 rfl)) n) ?_
  rintro _ h8 ⟨s10, rfl, n10, x10⟩
  have st := Hs.fzl (st.new x10 n10)
  refine Hs.ans st fun b11 h9 st => ?_
  simp only [List.cons_append, List.nil_append, addr_add, Nat.zero_add] at st ⊢
  have hlo : (o.getD []).length ≤ 1099511627776 := by
    have := run8_len (l := l) hA0 (n := 1000) (by omega)
    rw [hr] at this; simp only at this; omega
  refine jn_in fun J hJ => brF (by decide) ?_
  rw [ld_bool (i := 0) (st.fblk 4 rfl) rfl, ld_bool (i := 0) (st.fblk 6 rfl) rfl]
  refine hJ _ _ ?_
  clear J hJ
  refine jn_in fun J hJ => brF (by simp) ?_
  rw [ld_int (i := 2) (st.fblk 4 rfl) rfl, ld_int (i := 2) (st.fblk 6 rfl) rfl]
  refine hJ _ _ ?_
  clear J hJ
  refine jn_in fun J hJ => brF (by simp) ?_
  rw [ld_sl (i := 1) (st.fblk 4 rfl) rfl, ld_sl (i := 1) (st.fblk 6 rfl) rfl]
  refine call_of (equal_bools (st.fz 3 rfl).rsl (st.fz 5 rfl).rsl hlo) ?_
  rintro _ h10 ⟨rfl, e⟩; subst e
  refine hJ _ _ (brF (by simp) ?_)
  clear J hJ
  rw [ld_int (i := 2) (st.fblk 4 rfl) rfl]
  have hu8 := under8 (l := l) (c := []) (n := n) (by omega) hA0
  by_cases hnk : n < k
  · rw [run_less (T8 l []) 1000 n (by rw [hr]; exact hk) (by rw [hr]; exact hnk), if_pos (by simp)] at hu8
    rw [hu8] at st ⊢
    refine brT (decide_eq_true (show (n : Int) < (k : Int) by omega)) ?_
    refine jn_in fun J hJ => brT rfl ?_
    rw [ld_bool (i := 0) (st.fblk 8 rfl) rfl]
    refine hJ _ _ ?_
    clear J hJ
    refine jn_in fun J hJ => brT rfl ?_
    rw [ld_sl (i := 1) (st.fblk 8 rfl) rfl]
    have l10 := osl_len (st.fz 7 rfl)
    refine hJ _ _ ?_
    clear J hJ
    refine jn_in fun J hJ => brT (by rw [l10]; rfl) ?_
    rw [ld_int (i := 2) (st.fblk 8 rfl) rfl]
    refine hJ _ _ ?_
    clear J hJ
    refine jn_in fun J hJ => brT rfl ?_
    refine call_of (dawake_c _) ?_
    rintro _ h11 ⟨rfl, x11⟩
    have st := st.ext x11
    exact hJ _ _ (hK _ _ ⟨rfl, st.frame (by simp)⟩)
  · have hu8 : underP 8 (madeF l) [] n = ((o.isSome, o.getD [], (k : Int)), 0) := by
      rw [run_more (T8 l []) 1000 n (by rw [hr]; exact hk) (by rw [hr]; exact Nat.le_of_not_lt hnk), hr, if_neg (by omega)] at hu8; exact hu8
    rw [hu8] at st ⊢
    refine brF (decide_eq_false (show ¬ (n : Int) < (k : Int) by omega)) ?_
    refine jn_in fun J hJ => brT rfl ?_
    rw [ld_bool (i := 0) (st.fblk 8 rfl) rfl, ld_bool (i := 0) (st.fblk 4 rfl) rfl]
    refine hJ _ _ ?_
    clear J hJ
    refine jn_in fun J hJ => brT (by simp) ?_
    rw [ld_int (i := 2) (st.fblk 8 rfl) rfl, ld_int (i := 2) (st.fblk 4 rfl) rfl]
    refine hJ _ _ ?_
    clear J hJ
    refine jn_in fun J hJ => brT (by simp) ?_
    rw [ld_sl (i := 1) (st.fblk 8 rfl) rfl, ld_sl (i := 1) (st.fblk 4 rfl) rfl]
    refine call_of (equal_bools (st.fz 7 rfl).rsl (st.fz 3 rfl).rsl hlo) ?_
    rintro _ h12 ⟨rfl, e⟩; subst e
    refine hJ _ _ ?_
    clear J hJ
    refine jn_in fun J hJ => brT (by simp) ?_
    refine call_of (dawake_c _) ?_
    rintro _ h11 ⟨rfl, x11⟩
    have st := st.ext x11
    exact hJ _ _ (hK _ _ ⟨rfl, st.frame (by simp)⟩)

end Go.Proofs.S
