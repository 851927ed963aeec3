/-
  The laws' helpers of dpll: awake.
-/
import Derived.Test.YtfadkgkkbbcekaaFoVr
set_option linter.unusedVariables false
set_option linter.unusedSimpArgs false
namespace Go.Proofs.S
open Go Go.Sx Go.Proofs Go.Cl Go.Dp

variable {h : Heap}

abbrev cs3 : List (List Int) := [[1, 2], [-1, 3]]
abbrev cs1 : List (List Int) := [[1], [-1]]

variable {s sl : Sl}
theorem l3 : ∀ c ∈ cs3, c.length ≤ 1048576 := by decide
theorem l1 : ∀ c ∈ cs1, c.length ≤ 1048576 := by decide

theorem aw1 (hA : At h (lli cs3 s)) (hl : At h (li [-2] sl)) : callT Try.prog fn_dpll_Follows #[.agg #[.int .i64 3, .slice s.a s.len s.cap], .slice sl.a sl.len sl.cap] (.tup (.cons .sl (.cons (.int .i64) (.cons (.int .i64) .nil)))) (fun r h' => ∃ s', r = (s', -1, 0, ()) ∧ New h.size h' (lo [1, 3] s') ∧ Ext [] h h') h := by
  have := follows_c (n := 3) hA hl (by decide) l3 (by decide)
  rw [(by decide +kernel : followsP 3 cs3 [-2] = ([1, 3], -1, 0))] at this
  exact this
theorem aw4 (hA : At h (lli cs3 s)) (hl : At h (li [-2, -3] sl)) : callT Try.prog fn_dpll_Follows #[.agg #[.int .i64 3, .slice s.a s.len s.cap], .slice sl.a sl.len sl.cap] (.tup (.cons .sl (.cons (.int .i64) (.cons (.int .i64) .nil)))) (fun r h' => ∃ s', r = (s', 1, 0, ()) ∧ New h.size h' (lo [1] s') ∧ Ext [] h h') h := by
  have := follows_c (n := 3) hA hl (by decide) l3 (by decide)
  rw [(by decide +kernel : followsP 3 cs3 [-2, -3] = ([1], 1, 0))] at this
  exact this
theorem aw2 (hA : At h (lli cs3 s)) : callT Try.prog fn_dpll_Solve #[.agg #[.int .i64 3, .slice s.a s.len s.cap], .int .i64 2] (.tup (.cons tAn (.cons (.int .i64) .nil))) (fun r h' => ∃ s', r = ((true, s', 2, ()), 0, ()) ∧ New h.size h' (ob [false, true, false] s') ∧ Ext [] h h') h := by
  have := solve_c (n := 3) (fu := 2) hA (by decide) l3 (fun _ => by decide)
  rw [(by decide +kernel : underP 3 cs3 [] 2 = ((true, [false, true, false], 2), 0))] at this
  exact this
theorem aw3 (hA : At h (lli cs3 s)) : callT Try.prog fn_dpll_Solve #[.agg #[.int .i64 3, .slice s.a s.len s.cap], .int .i64 1] (.tup (.cons tAn (.cons (.int .i64) .nil))) (fun r h' => ∃ s', r = ((false, s', 0, ()), 190, ()) ∧ New h.size h' (ob [] s') ∧ Ext [] h h') h := by
  have := solve_c (n := 3) (fu := 1) hA (by decide) l3 (fun _ => by decide)
  rw [(by decide +kernel : underP 3 cs3 [] 1 = ((false, [], 0), 190))] at this
  exact this
theorem aw5 (hA : At h (lli cs1 s)) : callT Try.prog fn_dpll_Solve #[.agg #[.int .i64 1, .slice s.a s.len s.cap], .int .i64 0] (.tup (.cons tAn (.cons (.int .i64) .nil))) (fun r h' => ∃ s', r = ((false, s', 0, ()), 0, ()) ∧ New h.size h' (ob [] s') ∧ Ext [] h h') h := by
  have := solve_c (n := 1) (fu := 0) hA (by decide) l1 (fun _ => by decide)
  rw [(by decide +kernel : underP 1 cs1 [] 0 = ((false, [], 0), 0))] at this
  exact this
theorem aw6 (hA : At h (lli cs3 s)) (hl : At h (li [2, 3] sl)) : callT Try.prog fn_dpll_Implied #[.agg #[.int .i64 3, .slice s.a s.len s.cap], .slice sl.a sl.len sl.cap, .int .i64 9] (.tup (.cons .bool (.cons (.int .i64) .nil))) (fun r h' => r = (true, 0, ()) ∧ Ext [] h h') h := by
  have := implied_c (n := 3) (fu := 9) hA hl (by decide) l3 (by decide) (fun _ => by decide)
  rw [(by decide +kernel : impliedP 3 cs3 [2, 3] 9 = (true, 0))] at this
  exact this
theorem aw7 (hA : At h (lli cs3 s)) (hl : At h (li [2] sl)) : callT Try.prog fn_dpll_Implied #[.agg #[.int .i64 3, .slice s.a s.len s.cap], .slice sl.a sl.len sl.cap, .int .i64 9] (.tup (.cons .bool (.cons (.int .i64) .nil))) (fun r h' => r = (false, 0, ()) ∧ Ext [] h h') h := by
  have := implied_c (n := 3) (fu := 9) hA hl (by decide) l3 (by decide) (fun _ => by decide)
  rw [(by decide +kernel : impliedP 3 cs3 [2] 9 = (false, 0))] at this
  exact this

set_option maxRecDepth 100000 in
set_option maxHeartbeats 2000000 in
theorem dawake_c (h : Heap) : callT Try.prog fn_salvorlaw19_awake #[] .bool (fun r h' => r = true ∧ Ext [] h h') h := by
  refine callT_gen fun K hK => S_salvorlaw19_awake K ?_
  unfold F_salvorlaw19_awake
  have st := Hs.start h [] (by simp)
  refine Hs.lit st [1, 2] 2 rfl rfl fun b0 h1 st => ?_
  refine Hs.lit st [-1, 3] 2 rfl rfl fun b1 h1 st => ?_
  refine st.nw fun b2 h1 st => ?_
  have st := Hs.fzl st
  simp only [List.cons_append, List.nil_append] at st
  have a3 : At h1 (lli cs3 ⟨some ⟨b2, 0, none⟩, 2, 2⟩) := lli_mk (ps := [⟨some ⟨b0, 0, none⟩, 2, 2⟩, ⟨some ⟨b1, 0, none⟩, 2, 2⟩]) (st.fblk 2 rfl) rfl rfl ⟨st.fz 0 rfl, st.fz 1 rfl, trivial⟩
  refine call_of (lawOf_c a3 (by decide) l3) ?_
  rintro _ h2 ⟨s3, rfl, n3, x3⟩
  have st := Hs.fzl (st.new x3 n3)
  refine Hs.frml st fun b4 h3 st => ?_
  simp only [List.cons_append, List.nil_append] at st
  refine ldF (st.fblk 4 rfl) ?_
  refine Hs.lit st [-2] 1 rfl rfl fun b6 h4 st => ?_
  refine call_of (aw1 (llo_at (st.fz 3 rfl)) (st.fz 5 rfl)) ?_
  rintro _ h5 ⟨s7, rfl, n7, x7⟩
  have st := Hs.fzl (st.new x7 n7)
  refine ldF (st.fblk 4 rfl) ?_
  refine call_of (aw2 (llo_at (st.fz 3 rfl))) ?_
  rintro _ h6 ⟨s9, rfl, n9, x9⟩
  have st := Hs.fzl (st.new x9 n9)
  refine Hs.ans st fun b10 h7 st => ?_
  refine ldF (st.fblk 4 rfl) ?_
  refine call_of (aw3 (llo_at (st.fz 3 rfl))) ?_
  rintro _ h8 ⟨s12, rfl, n12, x12⟩
  have st := Hs.fzl (st.new x12 n12)
  refine Hs.ans st fun b13 h9 st => ?_
  refine ldF (st.fblk 4 rfl) ?_
  refine Hs.lit st [-2, -3] 2 rfl rfl fun b15 h10 st => ?_
  simp only [List.cons_append, List.nil_append] at st
  refine call_of (aw4 (llo_at (st.fz 3 rfl)) (st.fz 11 rfl)) ?_
  rintro _ h11 ⟨s16, rfl, n16, x16⟩
  have st := Hs.fzl (st.new x16 n16)
  refine Hs.lit st [1] 1 rfl rfl fun b17 h12 st => ?_
  refine Hs.lit st [-1] 1 rfl rfl fun b18 h12 st => ?_
  refine st.nw fun b19 h13 st => ?_
  have st := Hs.fzl st
  simp only [List.cons_append, List.nil_append] at st
  have a1 : At h13 (lli cs1 ⟨some ⟨b19, 0, none⟩, 2, 2⟩) := lli_mk (ps := [⟨some ⟨b17, 0, none⟩, 1, 1⟩, ⟨some ⟨b18, 0, none⟩, 1, 1⟩]) (st.fblk 15 rfl) rfl rfl ⟨st.fz 13 rfl, st.fz 14 rfl, trivial⟩
  refine call_of (lawOf_c a1 (by decide) l1) ?_
  rintro _ h14 ⟨s20, rfl, n20, x20⟩
  have st := Hs.fzl (st.new x20 n20)
  simp only [List.cons_append, List.nil_append] at st
  refine call_of (aw5 (llo_at (st.fz 16 rfl))) ?_
  rintro _ h15 ⟨s21, rfl, n21, x21⟩
  have st := Hs.fzl (st.new x21 n21)
  refine Hs.ans st fun b22 h16 st => ?_
  refine ldF (st.fblk 4 rfl) ?_
  refine Hs.lit st [2, 3] 2 rfl rfl fun b24 h17 st => ?_
  simp only [List.cons_append, List.nil_append] at st
  refine call_of (aw6 (llo_at (st.fz 3 rfl)) (st.fz 19 rfl)) ?_
  rintro _ h18 ⟨rfl, x25⟩
  have st := st.ext x25
  refine ldF (st.fblk 4 rfl) ?_
  refine Hs.lit st [2] 1 rfl rfl fun b27 h19 st => ?_
  simp only [List.cons_append, List.nil_append] at st
  refine call_of (aw7 (llo_at (st.fz 3 rfl)) (st.fz 20 rfl)) ?_
  rintro _ h20 ⟨rfl, x28⟩
  have st := st.ext x28
  simp only [addr_add, Nat.zero_add]
  refine jn_in fun J hJ => brT (by decide) (hJ _ _ ?_)
  clear J hJ
  refine jn_in fun J hJ => brT (by decide) ?_
  refine Hs.lit st [1, 3] 2 rfl rfl fun b62 h21 st => ?_
  simp only [List.cons_append, List.nil_append] at st
  refine call_of (equal_lit (st.fz 6 rfl).rsl (st.fz 21 rfl) (by decide)) ?_
  rintro _ h22 ⟨rfl, rfl⟩
  refine hJ _ _ ?_
  clear J hJ
  refine jn_in fun J hJ => brT (by decide) (hJ _ _ ?_)
  clear J hJ
  refine jn_in fun J hJ => brT (by decide) ?_
  rw [ld_bool (i := 0) (st.fblk 8 rfl) rfl]
  refine hJ _ _ ?_
  clear J hJ
  refine jn_in fun J hJ => brT rfl ?_
  rw [ld_sl (i := 1) (st.fblk 8 rfl) rfl]
  refine st.nw fun b59 h23 st => ?_
  have st := st.asSl 0 Ty.bool.enc [false, true, false] rfl rfl
  have st := Hs.fzl (As := []) st
  simp only [List.cons_append, List.nil_append] at st
  refine call_of (equal_bools (st.fz 7 rfl).rsl (st.fz 22 rfl).rsl (by decide)) ?_
  rintro _ h24 ⟨rfl, rfl⟩
  refine hJ _ _ ?_
  clear J hJ
  refine jn_in fun J hJ => brT rfl ?_
  rw [ld_int (i := 2) (st.fblk 8 rfl) rfl]
  refine hJ _ _ ?_
  clear J hJ
  refine jn_in fun J hJ => brT rfl ?_
  refine Hs.lit st [1] 1 rfl rfl fun b55 h25 st => ?_
  simp only [List.cons_append, List.nil_append] at st
  refine call_of (equal_lit (st.fz 12 rfl).rsl (st.fz 23 rfl) (by decide)) ?_
  rintro _ h26 ⟨rfl, rfl⟩
  refine hJ _ _ ?_
  clear J hJ
  refine jn_in fun J hJ => brT rfl (hJ _ _ ?_)
  clear J hJ
  refine jn_in fun J hJ => brT rfl ?_
  rw [ld_bool (i := 0) (st.fblk 18 rfl) rfl]
  refine hJ _ _ ?_
  clear J hJ
  refine jn_in fun J hJ => brT rfl ?_
  rw [ld_int (i := 2) (st.fblk 18 rfl) rfl]
  refine hJ _ _ ?_
  clear J hJ
  refine jn_in fun J hJ => brT rfl (hJ _ _ ?_)
  clear J hJ
  refine jn_in fun J hJ => brT rfl (hJ _ _ ?_)
  exact hK _ _ ⟨rfl, st.frame (by simp)⟩

end Go.Proofs.S

set_option linter.unusedVariables false
set_option linter.unusedSimpArgs false
namespace Go.Proofs.S
open Go Go.Sx Go.Proofs Go.Cl Go.Dp

variable {h : Heap} {l cs : List (List Int)} {s : Sl} {c : List Int}

end Go.Proofs.S
