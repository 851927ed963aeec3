/-
  RupSmall.
-/
import Derived.Test.YtcoeaaobbfbcjaaRuY
import Derived.Test.YtcoeaaobbfbcjaaRuL7
import Derived.Test.YtcoeaaobbfbcjaaRuL6
set_option linter.unusedVariables false
set_option linter.unusedSimpArgs false
namespace Go.Proofs.S
open Go Go.Sx Go.Proofs Go.Cl Go.Rp

variable {h : Heap} {c d A us : List Int} {cs ds hs l : List (List Int)} {s s2 s3 : Sl} {fr : Fr} {G As : List Asn} {b n : Nat} {t : TypeId}

theorem mul_c {a b : Nat} (ha : a < 4294967296) (hb : b < 4294967296) (hab : a * b < 4294967296) :
    callT Try.prog fn_math_bits_Mul #[.int .u64 (a : Int), .int .u64 (b : Int)] (.tup (.cons (.int .u64) (.cons (.int .u64) .nil))) (fun r h' => r = (0, ((a * b : Nat) : Int), ()) ∧ h' = h) h := by
  refine callT_gen fun K hK => S_math_bits_Mul (a0 := (a : Int)) (a1 := (b : Int)) K ?_
  unfold F_math_bits_Mul
  refine call_of (R := fun r h' => r = (0, ((a * b : Nat) : Int), ()) ∧ h' = h) ?_ ?_
  · refine callT_gen fun K hK => S_math_bits_Mul64 (a0 := (a : Int)) (a1 := (b : Int)) K ?_
    unfold F_math_bits_Mul64
    refine ⟨by decide, by decide, by decide, by decide, by decide, ?_⟩
    rw [mul64_hi ha hb hab, ← Int.natCast_mul, wrapu (x := ((a * b : Nat) : Int)) (by omega) (by omega)]
    exact hK _ _ ⟨rfl, rfl⟩
  · rintro r h' ⟨rfl, rfl⟩
    exact hK _ _ ⟨rfl, rfl⟩

theorem setL' {A B : Asn} : (As ++ [A]).set As.length B = As ++ [B] := by
  rw [List.set_append_right _ _ (Nat.le_refl _), Nat.sub_self, List.set_cons_zero]

theorem Hs.repeatG {K : Sl → HP} {p : Sl} (st : Hs fr G As h) {n : Nat} (h0 : 0 < n) (hn : n ≤ 1000000) (hy : rsl Ty.sl.enc [p] s ∈ G) (hK : ∀ s' h', Hs fr G (As ++ [osl ty_clauses_Clause Ty.sl.enc (List.replicate n p) s']) h' → K s' h') :
    callT Try.prog fn_slices_Repeat_clauses_Clause_clauses_Clause #[.slice s.a s.len s.cap, .int .i64 (n : Int)] .sl K h := by
  refine S_slices_Repeat_clauses_Clause_clauses_Clause (a0 := s) (a1 := (n : Int)) K ?_
  unfold F_slices_Repeat_clauses_Clause_clauses_Clause
  have l1 : s.len = 1 := rsl_len (st.fzm hy)
  refine jn_in fun J hJ => ?_
  rw [decide_eq_false (show ¬ (n : Int) < 0 by omega), brB_false]
  refine hJ _ _ ?_
  have e1 : IntKind.wrap .u64 (s.len : Int) = ((1 : Nat) : Int) := by rw [l1]; decide
  have e2 : IntKind.wrap .u64 (n : Int) = (n : Int) := wrapu (by omega) (by omega)
  rw [e1, e2]
  refine call_of (mul_c (a := 1) (b := n) (by decide) (by omega) (by omega)) ?_
  rintro _ hq ⟨rfl, rfl⟩
  simp only [Nat.one_mul]
  rw [show decide ((0 : Int) > 0) = false from rfl, brB_false]
  refine jn_in fun J2 hJ2 => ?_
  rw [decide_eq_false (show ¬ (n : Int) > 9223372036854775807 by omega), brB_false]
  refine hJ2 _ _ ?_
  rw [wrap_i64 (x := (n : Int)) (by omega) (by omega)]
  refine Hs.mks1 (τ := .sl) (t := ty_clauses_Clause) (z := (⟨none, 0, 0⟩ : Sl)) st (by omega) (by decide) fun s5 h2 st => ?_
  refine Hs.cpyP (τ := .sl) (ys := [p]) (s2 := s) st As.length (lastA _ _) (st.fzm hy) (by simp; omega) leaf_sl fun h3 st => ?_
  rw [setL'] at st
  have e3 : [p] ++ (List.replicate n (⟨none, 0, 0⟩ : Sl)).drop [p].length = p :: List.replicate (n - 1) ⟨none, 0, 0⟩ := by simp
  rw [e3] at st
  have := Hs.repLoop (τ := .sl) (t := ty_clauses_Clause) (K := K) (n := n) (v := p) (z := (⟨none, 0, 0⟩ : Sl)) st As.length h0 (by omega) (lastA _ _) leaf_sl fun h4 st => ?_
  · exact this
  · rw [setL'] at st
    exact hK _ _ st

/-- A written row of slices, that is read from then on. -/
theorem Hs.litS (st : Hs fr G As h) (ps : List Sl) {vs : Array Value} (n : Nat) (hn : n = ps.length) (hvs : vs.toList = ps.map Ty.sl.enc) {K : Nat → HP}
    (hK : ∀ b h', Hs fr (G ++ [rsl Ty.sl.enc ps ⟨some ⟨b, 0, none⟩, n, n⟩]) As h' → K b h') : Sx.nw vs t K h := by
  subst hn
  refine st.nw fun b h1 st => ?_
  rw [hvs] at st
  have st := st.asSl As.length Ty.sl.enc ps (lastA _ _) rfl
  have st := st.froz As.length (by rw [List.getElem?_set_self (by simp)])
  rw [setL', List.eraseIdx_append_of_length_le (Nat.le_refl _), Nat.sub_self, List.eraseIdx_cons_zero, List.append_nil] at st
  exact hK b h1 st

abbrev S12 : List (List Int) := [[], [1], [-1], [2], [-2], [1, 2], [1, -2], [-1, 2], [-2, -1], [1, 1], [1, -1], [2, 1, 2]]
abbrev D10 : List (List Int) := [[], [1], [-1], [1, 2], [-2, 1], [-1, -2], [1, -1], [0], [2, 2], [1048577]]
theorem small_len {l : List (List Int)} (h : ∀ q ∈ l, q.length ≤ 3) {i : Nat} (hi : i < l.length) : l[i].length ≤ 3 := h _ (List.getElem_mem hi)


/-- The end of the law. -/
def SmEnd (K : Bool → HP) : HP :=
 nw #[(.int .i64 (1 : Int)), (.int .i64 (2 : Int))] ty_lits_Lit fun b75 =>
 nw #[(.slice (some (⟨b75, 0, none⟩ : Addr)) 2 2)] ty_clauses_Clause fun b76 =>
 callT Try.prog fn_slices_Repeat_clauses_Clause_clauses_Clause #[(.slice (some (⟨b76, 0, none⟩ : Addr)) 1 1), (.int .i64 (65537 : Int))] .sl fun r77 =>
 nw #[(.int .i64 (3 : Int))] ty_lits_Lit fun b78 =>
 sx r77.a r77.len (0 : Int) 1 fun p79 =>
 st1 p79 (.slice (some (⟨b78, 0, none⟩ : Addr)) 1 1) <|
 callT Try.prog fn_rup_Follow #[(.slice none 0 0), (.slice r77.a r77.len r77.cap)] (.tup (.cons .sl (.cons (.int .i64) (.cons .bool (.cons (.int .i64) .nil))))) fun r80 =>
 nw #[(.int .i64 (4 : Int))] ty_lits_Lit fun b81 =>
 callT Try.prog fn_rup_Check #[(.slice (some (⟨b81, 0, none⟩ : Addr)) 1 1), (.slice r77.a r77.len r77.cap)] (.tup (.cons (.int .i64) (.cons (.int .i64) .nil))) fun r82 =>
 nw #[(.int .i64 (4 : Int))] ty_lits_Lit fun b83 =>
 callT Try.prog fn_rup_Find #[(.slice (some (⟨b83, 0, none⟩ : Addr)) 1 1), (.slice r77.a r77.len r77.cap)] (.tup (.cons .sl (.cons .bool (.cons (.int .i64) .nil)))) fun r84 =>
 nw #[(.int .i64 (1 : Int)), (.int .i64 (-1 : Int))] ty_lits_Lit fun b85 =>
 callT Try.prog fn_rup_Trim #[(.slice (some (⟨b85, 0, none⟩ : Addr)) 2 2), (.slice r77.a r77.len r77.cap)] (.tup (.cons .sl (.cons (.int .i64) .nil))) fun r86 =>
 nw #[(.int .i64 (4 : Int))] ty_lits_Lit fun b87 =>
 slL ⟨r77.a, r77.len, r77.cap⟩ (1 : Int) 1 fun s88 =>
 callT Try.prog fn_rup_Check #[(.slice (some (⟨b87, 0, none⟩ : Addr)) 1 1), (.slice s88.a s88.len s88.cap)] (.tup (.cons (.int .i64) (.cons (.int .i64) .nil))) fun r89 =>
 nw #[(.int .i64 (4 : Int))] ty_lits_Lit fun b90 =>
 slL ⟨r77.a, r77.len, r77.cap⟩ (1 : Int) 1 fun s91 =>
 callT Try.prog fn_rup_Find #[(.slice (some (⟨b90, 0, none⟩ : Addr)) 1 1), (.slice s91.a s91.len s91.cap)] (.tup (.cons .sl (.cons .bool (.cons (.int .i64) .nil)))) fun r92 =>
 jn (σ := Bool) (fun t94 =>
 jn (σ := Bool) (fun t96 =>
 jn (σ := Bool) (fun t98 =>
 jn (σ := Bool) (fun t100 =>
 jn (σ := Bool) (fun t102 =>
 jn (σ := Bool) (fun t104 =>
 jn (σ := Bool) (fun t106 =>
 jn (σ := Bool) (fun t108 =>
 jn (σ := Bool) (fun t110 =>
 K t110)
 (fun J109 =>
 brB t108
 (callT Try.prog fn_salvorlaw08_awake #[] .bool fun r111 =>
 J109 (r111))
 (J109 false)))
 (fun J107 =>
 brB t106
 (J107 ((r92.2.2.1 == (0 : Int))))
 (J107 false)))
 (fun J105 =>
 brB t104
 (J105 ((!r92.2.1)))
 (J105 false)))
 (fun J103 =>
 brB t102
 (J103 ((r89.2.1 == (81 : Int))))
 (J103 false)))
 (fun J101 =>
 brB t100
 (J101 ((r89.1 == (0 : Int))))
 (J101 false)))
 (fun J99 =>
 brB t98
 (J99 ((r86.2.1 == (5 : Int))))
 (J99 false)))
 (fun J97 =>
 brB t96
 (J97 ((r84.2.2.1 == (5 : Int))))
 (J97 false)))
 (fun J95 =>
 brB t94
 (J95 ((r82.2.1 == (5 : Int))))
 (J95 false)))
 (fun J93 =>
 brB (r80.2.1 == (0 : Int))
 (J93 ((r80.2.2.2.1 == (5 : Int))))
 (J93 false))
/-- The numbers. -/
def SmNum (x : Bool) (K : Bool → HP) : HP :=
 nw #[(.int .i64 (-9223372036854775808 : Int)), (.int .i64 (0 : Int)), (.int .i64 (1048576 : Int)), (.int .i64 (1048577 : Int)), (.int .i64 (-1048577 : Int)), (.int .i64 (9223372036854775807 : Int))] ty_lits_Lit fun b49 =>
 lfp (σ := (Int × (Bool × Unit))) (fun X50 s51 => /-   -/
 brB (decide (s51.1 < (6 : Int)))
 (sx (some (⟨b49, 0, none⟩ : Addr)) 6 s51.1 1 fun p52 =>
 ldT (.int .i64) p52 fun x53 =>
 nw #[(.int .i64 (1 : Int)), (.int .i64 x53)] ty_lits_Lit fun b54 =>
 callT Try.prog fn_salvorlaw08_looks #[(.slice (some (⟨b54, 0, none⟩ : Addr)) 2 2), (.slice none 0 0)] .bool fun r55 =>
 jn (σ := Bool) (fun t57 =>
 jn (σ := Bool) (fun t59 =>
 jn (σ := Bool) (fun t61 =>
 brB t61
 (K false)
 (X50 ((IntKind.wrap .i64 (s51.1 + (1 : Int))), s51.2.1, ())))
 (fun J60 =>
 brB t59
 (J60 true)
 (nw #[(.int .i64 (2 : Int))] ty_lits_Lit fun b62 =>
 nw #[(.int .i64 x53), (.int .i64 (2 : Int))] ty_lits_Lit fun b63 =>
 nw #[(.slice (some (⟨b63, 0, none⟩ : Addr)) 2 2)] ty_clauses_Clause fun b64 =>
 callT Try.prog fn_salvorlaw08_finds #[(.slice (some (⟨b62, 0, none⟩ : Addr)) 1 1), (.slice (some (⟨b64, 0, none⟩ : Addr)) 1 1)] .bool fun r65 =>
 J60 ((!r65)))))
 (fun J58 =>
 brB t57
 (J58 true)
 (nw #[(.int .i64 x53)] ty_lits_Lit fun b66 =>
 nw #[(.int .i64 x53)] ty_lits_Lit fun b67 =>
 nw #[(.int .i64 x53)] ty_lits_Lit fun b68 =>
 nw #[(.int .i64 (2 : Int))] ty_lits_Lit fun b69 =>
 nw #[(.slice (some (⟨b68, 0, none⟩ : Addr)) 1 1), (.slice (some (⟨b69, 0, none⟩ : Addr)) 1 1)] ty_clauses_Clause fun b70 =>
 callT Try.prog fn_salvorlaw08_follows #[(.slice (some (⟨b66, 0, none⟩ : Addr)) 1 1), (.slice (some (⟨b67, 0, none⟩ : Addr)) 1 1), (.slice (some (⟨b70, 0, none⟩ : Addr)) 2 2)] .bool fun r71 =>
 J58 ((!r71)))))
 (fun J56 =>
 brB (!r55)
 (J56 true)
 (nw #[(.int .i64 (1 : Int))] ty_lits_Lit fun b72 =>
 nw #[(.int .i64 x53)] ty_lits_Lit fun b73 =>
 callT Try.prog fn_salvorlaw08_looks #[(.slice (some (⟨b72, 0, none⟩ : Addr)) 1 1), (.slice (some (⟨b73, 0, none⟩ : Addr)) 1 1)] .bool fun r74 =>
 J56 ((!r74)))))
 (nw #[(.int .i64 (1 : Int)), (.int .i64 (2 : Int))] ty_lits_Lit fun b75 =>
 nw #[(.slice (some (⟨b75, 0, none⟩ : Addr)) 2 2)] ty_clauses_Clause fun b76 =>
 callT Try.prog fn_slices_Repeat_clauses_Clause_clauses_Clause #[(.slice (some (⟨b76, 0, none⟩ : Addr)) 1 1), (.int .i64 (65537 : Int))] .sl fun r77 =>
 nw #[(.int .i64 (3 : Int))] ty_lits_Lit fun b78 =>
 sx r77.a r77.len (0 : Int) 1 fun p79 =>
 st1 p79 (.slice (some (⟨b78, 0, none⟩ : Addr)) 1 1) <|
 callT Try.prog fn_rup_Follow #[(.slice none 0 0), (.slice r77.a r77.len r77.cap)] (.tup (.cons .sl (.cons (.int .i64) (.cons .bool (.cons (.int .i64) .nil))))) fun r80 =>
 nw #[(.int .i64 (4 : Int))] ty_lits_Lit fun b81 =>
 callT Try.prog fn_rup_Check #[(.slice (some (⟨b81, 0, none⟩ : Addr)) 1 1), (.slice r77.a r77.len r77.cap)] (.tup (.cons (.int .i64) (.cons (.int .i64) .nil))) fun r82 =>
 nw #[(.int .i64 (4 : Int))] ty_lits_Lit fun b83 =>
 callT Try.prog fn_rup_Find #[(.slice (some (⟨b83, 0, none⟩ : Addr)) 1 1), (.slice r77.a r77.len r77.cap)] (.tup (.cons .sl (.cons .bool (.cons (.int .i64) .nil)))) fun r84 =>
 nw #[(.int .i64 (1 : Int)), (.int .i64 (-1 : Int))] ty_lits_Lit fun b85 =>
 callT Try.prog fn_rup_Trim #[(.slice (some (⟨b85, 0, none⟩ : Addr)) 2 2), (.slice r77.a r77.len r77.cap)] (.tup (.cons .sl (.cons (.int .i64) .nil))) fun r86 =>
 nw #[(.int .i64 (4 : Int))] ty_lits_Lit fun b87 =>
 slL ⟨r77.a, r77.len, r77.cap⟩ (1 : Int) 1 fun s88 =>
 callT Try.prog fn_rup_Check #[(.slice (some (⟨b87, 0, none⟩ : Addr)) 1 1), (.slice s88.a s88.len s88.cap)] (.tup (.cons (.int .i64) (.cons (.int .i64) .nil))) fun r89 =>
 nw #[(.int .i64 (4 : Int))] ty_lits_Lit fun b90 =>
 slL ⟨r77.a, r77.len, r77.cap⟩ (1 : Int) 1 fun s91 =>
 callT Try.prog fn_rup_Find #[(.slice (some (⟨b90, 0, none⟩ : Addr)) 1 1), (.slice s91.a s91.len s91.cap)] (.tup (.cons .sl (.cons .bool (.cons (.int .i64) .nil)))) fun r92 =>
 jn (σ := Bool) (fun t94 =>
 jn (σ := Bool) (fun t96 =>
 jn (σ := Bool) (fun t98 =>
 jn (σ := Bool) (fun t100 =>
 jn (σ := Bool) (fun t102 =>
 jn (σ := Bool) (fun t104 =>
 jn (σ := Bool) (fun t106 =>
 jn (σ := Bool) (fun t108 =>
 jn (σ := Bool) (fun t110 =>
 K t110)
 (fun J109 =>
 brB t108
 (callT Try.prog fn_salvorlaw08_awake #[] .bool fun r111 =>
 J109 (r111))
 (J109 false)))
 (fun J107 =>
 brB t106
 (J107 ((r92.2.2.1 == (0 : Int))))
 (J107 false)))
 (fun J105 =>
 brB t104
 (J105 ((!r92.2.1)))
 (J105 false)))
 (fun J103 =>
 brB t102
 (J103 ((r89.2.1 == (81 : Int))))
 (J103 false)))
 (fun J101 =>
 brB t100
 (J101 ((r89.1 == (0 : Int))))
 (J101 false)))
 (fun J99 =>
 brB t98
 (J99 ((r86.2.1 == (5 : Int))))
 (J99 false)))
 (fun J97 =>
 brB t96
 (J97 ((r84.2.2.1 == (5 : Int))))
 (J97 false)))
 (fun J95 =>
 brB t94
 (J95 ((r82.2.1 == (5 : Int))))
 (J95 false)))
 (fun J93 =>
 brB (r80.2.1 == (0 : Int))
 (J93 ((r80.2.2.2.1 == (5 : Int))))
 (J93 false))))
 ((0 : Int), x, ())
/-- The loops. -/
def SmLoop (b11 b21 : Nat) (K : Bool → HP) : HP :=
 lfp (σ := (Int × (Bool × Unit))) (fun X22 s23 => /-   -/
 brB (decide (s23.1 < (12 : Int)))
 (sx (some (⟨b11, 0, none⟩ : Addr)) 12 s23.1 1 fun p24 =>
 ldT .sl p24 fun x25 =>
 lfp (σ := (Int × (Bool × Unit))) (fun X26 s27 => /-   -/
 brB (decide (s27.1 < (10 : Int)))
 (sx (some (⟨b21, 0, none⟩ : Addr)) 10 s27.1 1 fun p28 =>
 ldT .sl p28 fun x29 =>
 callT Try.prog fn_salvorlaw08_looks #[(.slice x25.a x25.len x25.cap), (.slice x29.a x29.len x29.cap)] .bool fun r30 =>
 brB (!r30)
 (K false)
 (X26 ((IntKind.wrap .i64 (s27.1 + (1 : Int))), s27.2.1, ())))
 (lfp (σ := (Int × (Bool × Unit))) (fun X31 s32 => /-   -/
 brB (decide (s32.1 < (12 : Int)))
 (sx (some (⟨b11, 0, none⟩ : Addr)) 12 s32.1 1 fun p33 =>
 ldT .sl p33 fun x34 =>
 lfp (σ := (Int × (Bool × Unit))) (fun X35 s36 => /-   -/
 brB (decide (s36.1 < (12 : Int)))
 (sx (some (⟨b11, 0, none⟩ : Addr)) 12 s36.1 1 fun p37 =>
 ldT .sl p37 fun x38 =>
 nz (12 : Int) <|
 sx (some (⟨b11, 0, none⟩ : Addr)) 12 (Int.tmod (IntKind.wrap .i64 (s32.1 + (IntKind.wrap .i64 ((2 : Int) * s36.1)))) (12 : Int)) 1 fun p39 =>
 ldT .sl p39 fun x40 =>
 nw #[(.int .i64 (3 : Int)), (.int .i64 (1 : Int))] ty_lits_Lit fun b41 =>
 nw #[(.slice x34.a x34.len x34.cap), (.slice x38.a x38.len x38.cap), (.slice x40.a x40.len x40.cap), (.slice (some (⟨b41, 0, none⟩ : Addr)) 2 2)] ty_clauses_Clause fun b42 =>
 nz (10 : Int) <|
 sx (some (⟨b21, 0, none⟩ : Addr)) 10 (Int.tmod (IntKind.wrap .i64 (s32.1 + s36.1)) (10 : Int)) 1 fun p43 =>
 ldT .sl p43 fun x44 =>
 callT Try.prog fn_salvorlaw08_follows #[(.slice x44.a x44.len x44.cap), (.slice x25.a x25.len x25.cap), (.slice (some (⟨b42, 0, none⟩ : Addr)) 4 4)] .bool fun r45 =>
 jn (σ := Bool) (fun t47 =>
 brB t47
 (K false)
 (X35 ((IntKind.wrap .i64 (s36.1 + (1 : Int))), s36.2.1, ())))
 (fun J46 =>
 brB (!r45)
 (J46 true)
 (callT Try.prog fn_salvorlaw08_finds #[(.slice x25.a x25.len x25.cap), (.slice (some (⟨b42, 0, none⟩ : Addr)) 4 4)] .bool fun r48 =>
 J46 ((!r48)))))
 (X31 ((IntKind.wrap .i64 (s32.1 + (1 : Int))), s36.2.1, ())))
 ((0 : Int), s32.2.1, ()))
 (X22 ((IntKind.wrap .i64 (s23.1 + (1 : Int))), s32.2.1, ())))
 ((0 : Int), s27.2.1, ())))
 ((0 : Int), s23.2.1, ()))
 (nw #[(.int .i64 (-9223372036854775808 : Int)), (.int .i64 (0 : Int)), (.int .i64 (1048576 : Int)), (.int .i64 (1048577 : Int)), (.int .i64 (-1048577 : Int)), (.int .i64 (9223372036854775807 : Int))] ty_lits_Lit fun b49 =>
 lfp (σ := (Int × (Bool × Unit))) (fun X50 s51 => /-   -/
 brB (decide (s51.1 < (6 : Int)))
 (sx (some (⟨b49, 0, none⟩ : Addr)) 6 s51.1 1 fun p52 =>
 ldT (.int .i64) p52 fun x53 =>
 nw #[(.int .i64 (1 : Int)), (.int .i64 x53)] ty_lits_Lit fun b54 =>
 callT Try.prog fn_salvorlaw08_looks #[(.slice (some (⟨b54, 0, none⟩ : Addr)) 2 2), (.slice none 0 0)] .bool fun r55 =>
 jn (σ := Bool) (fun t57 =>
 jn (σ := Bool) (fun t59 =>
 jn (σ := Bool) (fun t61 =>
 brB t61
 (K false)
 (X50 ((IntKind.wrap .i64 (s51.1 + (1 : Int))), s51.2.1, ())))
 (fun J60 =>
 brB t59
 (J60 true)
 (nw #[(.int .i64 (2 : Int))] ty_lits_Lit fun b62 =>
 nw #[(.int .i64 x53), (.int .i64 (2 : Int))] ty_lits_Lit fun b63 =>
 nw #[(.slice (some (⟨b63, 0, none⟩ : Addr)) 2 2)] ty_clauses_Clause fun b64 =>
 callT Try.prog fn_salvorlaw08_finds #[(.slice (some (⟨b62, 0, none⟩ : Addr)) 1 1), (.slice (some (⟨b64, 0, none⟩ : Addr)) 1 1)] .bool fun r65 =>
 J60 ((!r65)))))
 (fun J58 =>
 brB t57
 (J58 true)
 (nw #[(.int .i64 x53)] ty_lits_Lit fun b66 =>
 nw #[(.int .i64 x53)] ty_lits_Lit fun b67 =>
 nw #[(.int .i64 x53)] ty_lits_Lit fun b68 =>
 nw #[(.int .i64 (2 : Int))] ty_lits_Lit fun b69 =>
 nw #[(.slice (some (⟨b68, 0, none⟩ : Addr)) 1 1), (.slice (some (⟨b69, 0, none⟩ : Addr)) 1 1)] ty_clauses_Clause fun b70 =>
 callT Try.prog fn_salvorlaw08_follows #[(.slice (some (⟨b66, 0, none⟩ : Addr)) 1 1), (.slice (some (⟨b67, 0, none⟩ : Addr)) 1 1), (.slice (some (⟨b70, 0, none⟩ : Addr)) 2 2)] .bool fun r71 =>
 J58 ((!r71)))))
 (fun J56 =>
 brB (!r55)
 (J56 true)
 (nw #[(.int .i64 (1 : Int))] ty_lits_Lit fun b72 =>
 nw #[(.int .i64 x53)] ty_lits_Lit fun b73 =>
 callT Try.prog fn_salvorlaw08_looks #[(.slice (some (⟨b72, 0, none⟩ : Addr)) 1 1), (.slice (some (⟨b73, 0, none⟩ : Addr)) 1 1)] .bool fun r74 =>
 J56 ((!r74)))))
 (nw #[(.int .i64 (1 : Int)), (.int .i64 (2 : Int))] ty_lits_Lit fun b75 =>
 nw #[(.slice (some (⟨b75, 0, none⟩ : Addr)) 2 2)] ty_clauses_Clause fun b76 =>
 callT Try.prog fn_slices_Repeat_clauses_Clause_clauses_Clause #[(.slice (some (⟨b76, 0, none⟩ : Addr)) 1 1), (.int .i64 (65537 : Int))] .sl fun r77 =>
 nw #[(.int .i64 (3 : Int))] ty_lits_Lit fun b78 =>
 sx r77.a r77.len (0 : Int) 1 fun p79 =>
 st1 p79 (.slice (some (⟨b78, 0, none⟩ : Addr)) 1 1) <|
 callT Try.prog fn_rup_Follow #[(.slice none 0 0), (.slice r77.a r77.len r77.cap)] (.tup (.cons .sl (.cons (.int .i64) (.cons .bool (.cons (.int .i64) .nil))))) fun r80 =>
 nw #[(.int .i64 (4 : Int))] ty_lits_Lit fun b81 =>
 callT Try.prog fn_rup_Check #[(.slice (some (⟨b81, 0, none⟩ : Addr)) 1 1), (.slice r77.a r77.len r77.cap)] (.tup (.cons (.int .i64) (.cons (.int .i64) .nil))) fun r82 =>
 nw #[(.int .i64 (4 : Int))] ty_lits_Lit fun b83 =>
 callT Try.prog fn_rup_Find #[(.slice (some (⟨b83, 0, none⟩ : Addr)) 1 1), (.slice r77.a r77.len r77.cap)] (.tup (.cons .sl (.cons .bool (.cons (.int .i64) .nil)))) fun r84 =>
 nw #[(.int .i64 (1 : Int)), (.int .i64 (-1 : Int))] ty_lits_Lit fun b85 =>
 callT Try.prog fn_rup_Trim #[(.slice (some (⟨b85, 0, none⟩ : Addr)) 2 2), (.slice r77.a r77.len r77.cap)] (.tup (.cons .sl (.cons (.int .i64) .nil))) fun r86 =>
 nw #[(.int .i64 (4 : Int))] ty_lits_Lit fun b87 =>
 slL ⟨r77.a, r77.len, r77.cap⟩ (1 : Int) 1 fun s88 =>
 callT Try.prog fn_rup_Check #[(.slice (some (⟨b87, 0, none⟩ : Addr)) 1 1), (.slice s88.a s88.len s88.cap)] (.tup (.cons (.int .i64) (.cons (.int .i64) .nil))) fun r89 =>
 nw #[(.int .i64 (4 : Int))] ty_lits_Lit fun b90 =>
 slL ⟨r77.a, r77.len, r77.cap⟩ (1 : Int) 1 fun s91 =>
 callT Try.prog fn_rup_Find #[(.slice (some (⟨b90, 0, none⟩ : Addr)) 1 1), (.slice s91.a s91.len s91.cap)] (.tup (.cons .sl (.cons .bool (.cons (.int .i64) .nil)))) fun r92 =>
 jn (σ := Bool) (fun t94 =>
 jn (σ := Bool) (fun t96 =>
 jn (σ := Bool) (fun t98 =>
 jn (σ := Bool) (fun t100 =>
 jn (σ := Bool) (fun t102 =>
 jn (σ := Bool) (fun t104 =>
 jn (σ := Bool) (fun t106 =>
 jn (σ := Bool) (fun t108 =>
 jn (σ := Bool) (fun t110 =>
 K t110)
 (fun J109 =>
 brB t108
 (callT Try.prog fn_salvorlaw08_awake #[] .bool fun r111 =>
 J109 (r111))
 (J109 false)))
 (fun J107 =>
 brB t106
 (J107 ((r92.2.2.1 == (0 : Int))))
 (J107 false)))
 (fun J105 =>
 brB t104
 (J105 ((!r92.2.1)))
 (J105 false)))
 (fun J103 =>
 brB t102
 (J103 ((r89.2.1 == (81 : Int))))
 (J103 false)))
 (fun J101 =>
 brB t100
 (J101 ((r89.1 == (0 : Int))))
 (J101 false)))
 (fun J99 =>
 brB t98
 (J99 ((r86.2.1 == (5 : Int))))
 (J99 false)))
 (fun J97 =>
 brB t96
 (J97 ((r84.2.2.1 == (5 : Int))))
 (J97 false)))
 (fun J95 =>
 brB t94
 (J95 ((r82.2.1 == (5 : Int))))
 (J95 false)))
 (fun J93 =>
 brB (r80.2.1 == (0 : Int))
 (J93 ((r80.2.2.2.1 == (5 : Int))))
 (J93 false))))
 ((0 : Int), s23.2.1, ())))
 ((0 : Int), false, ())
/-- The lists. -/
def SmSetup (K : Bool → HP) : HP :=
 nw #[(.int .i64 (1 : Int))] ty_lits_Lit fun b0 =>
 nw #[(.int .i64 (-1 : Int))] ty_lits_Lit fun b1 =>
 nw #[(.int .i64 (2 : Int))] ty_lits_Lit fun b2 =>
 nw #[(.int .i64 (-2 : Int))] ty_lits_Lit fun b3 =>
 nw #[(.int .i64 (1 : Int)), (.int .i64 (2 : Int))] ty_lits_Lit fun b4 =>
 nw #[(.int .i64 (1 : Int)), (.int .i64 (-2 : Int))] ty_lits_Lit fun b5 =>
 nw #[(.int .i64 (-1 : Int)), (.int .i64 (2 : Int))] ty_lits_Lit fun b6 =>
 nw #[(.int .i64 (-2 : Int)), (.int .i64 (-1 : Int))] ty_lits_Lit fun b7 =>
 nw #[(.int .i64 (1 : Int)), (.int .i64 (1 : Int))] ty_lits_Lit fun b8 =>
 nw #[(.int .i64 (1 : Int)), (.int .i64 (-1 : Int))] ty_lits_Lit fun b9 =>
 nw #[(.int .i64 (2 : Int)), (.int .i64 (1 : Int)), (.int .i64 (2 : Int))] ty_lits_Lit fun b10 =>
 nw #[(.slice none 0 0), (.slice (some (⟨b0, 0, none⟩ : Addr)) 1 1), (.slice (some (⟨b1, 0, none⟩ : Addr)) 1 1), (.slice (some (⟨b2, 0, none⟩ : Addr)) 1 1), (.slice (some (⟨b3, 0, none⟩ : Addr)) 1 1), (.slice (some (⟨b4, 0, none⟩ : Addr)) 2 2), (.slice (some (⟨b5, 0, none⟩ : Addr)) 2 2), (.slice (some (⟨b6, 0, none⟩ : Addr)) 2 2), (.slice (some (⟨b7, 0, none⟩ : Addr)) 2 2), (.slice (some (⟨b8, 0, none⟩ : Addr)) 2 2), (.slice (some (⟨b9, 0, none⟩ : Addr)) 2 2), (.slice (some (⟨b10, 0, none⟩ : Addr)) 3 3)] ty_clauses_Clause fun b11 =>
 nw #[(.int .i64 (1 : Int))] ty_lits_Lit fun b12 =>
 nw #[(.int .i64 (-1 : Int))] ty_lits_Lit fun b13 =>
 nw #[(.int .i64 (1 : Int)), (.int .i64 (2 : Int))] ty_lits_Lit fun b14 =>
 nw #[(.int .i64 (-2 : Int)), (.int .i64 (1 : Int))] ty_lits_Lit fun b15 =>
 nw #[(.int .i64 (-1 : Int)), (.int .i64 (-2 : Int))] ty_lits_Lit fun b16 =>
 nw #[(.int .i64 (1 : Int)), (.int .i64 (-1 : Int))] ty_lits_Lit fun b17 =>
 nw #[(.int .i64 (0 : Int))] ty_lits_Lit fun b18 =>
 nw #[(.int .i64 (2 : Int)), (.int .i64 (2 : Int))] ty_lits_Lit fun b19 =>
 nw #[(.int .i64 (1048577 : Int))] ty_lits_Lit fun b20 =>
 nw #[(.slice none 0 0), (.slice (some (⟨b12, 0, none⟩ : Addr)) 1 1), (.slice (some (⟨b13, 0, none⟩ : Addr)) 1 1), (.slice (some (⟨b14, 0, none⟩ : Addr)) 2 2), (.slice (some (⟨b15, 0, none⟩ : Addr)) 2 2), (.slice (some (⟨b16, 0, none⟩ : Addr)) 2 2), (.slice (some (⟨b17, 0, none⟩ : Addr)) 2 2), (.slice (some (⟨b18, 0, none⟩ : Addr)) 1 1), (.slice (some (⟨b19, 0, none⟩ : Addr)) 2 2), (.slice (some (⟨b20, 0, none⟩ : Addr)) 1 1)] ty_sl_lits_Lit fun b21 =>
 SmLoop b11 b21 K
theorem smSetup_eq (K : Bool → HP) : F_salvorlaw08_RupSmall K = SmSetup K := rfl

set_option maxRecDepth 8000 in
theorem smEnd_c {h2 : Heap} (st : Hs [([], h)] G [] h2) (gN0 : li [] ⟨none, 0, 0⟩ ∈ G) (K : Bool → HP) (hK : ∀ x h', (x = true ∧ Ext [] h h') → K x h') : SmEnd K h2 := by
  unfold SmEnd
  obtain ⟨M, hM⟩ : ∃ M : Nat, M = 65536 := ⟨_, rfl⟩
  rw [show (65537 : Int) = ((M + 1 : Nat) : Int) by omega]
  refine Hs.lit st [1, 2] 2 rfl rfl fun b75 h3 st => ?_
  refine Hs.litS st [⟨some ⟨b75, 0, none⟩, 2, 2⟩] 1 rfl rfl fun b76 h3 st => ?_
  refine Hs.repeatG (n := M + 1) (p := ⟨some ⟨b75, 0, none⟩, 2, 2⟩) (s := ⟨some ⟨b76, 0, none⟩, 1, 1⟩) st (by omega) (by omega) (by simp) fun r77 h4 st => ?_
  refine Hs.lit st [3] 1 rfl rfl fun b78 h5 st => ?_
  refine st.wrE (τ := .sl) 0 rfl (i := 0) (by simp) (⟨some ⟨b78, 0, none⟩, 1, 1⟩ : Sl) fun h6 st => ?_
  simp only [List.replicate_succ, List.set_cons_zero, List.nil_append] at st
  have st := st.froz 0 rfl
  simp only [List.eraseIdx_cons_zero] at st
  have st := Hs.gainRows (l := [3] :: List.replicate M [1, 2]) st (by simp : rsl Ty.sl.enc ((⟨some ⟨b78, 0, none⟩, 1, 1⟩ : Sl) :: List.replicate M ⟨some ⟨b75, 0, none⟩, 2, 2⟩) r77 ∈ _) (by simp) (fun q hq => by
    rw [List.zip_cons_cons] at hq
    rcases List.mem_cons.1 hq with rfl | hq
    · simp
    · obtain ⟨q1, q2⟩ := q
      have := List.of_mem_zip hq
      rw [List.eq_of_mem_replicate this.1, List.eq_of_mem_replicate this.2]
      simp)
  have gN : li [] ⟨none, 0, 0⟩ ∈ G ++ [li [1, 2] ⟨some ⟨b75, 0, none⟩, 2, 2⟩] ++ [rsl Ty.sl.enc [(⟨some ⟨b75, 0, none⟩, 2, 2⟩ : Sl)] ⟨some ⟨b76, 0, none⟩, 1, 1⟩] ++ [li [3] ⟨some ⟨b78, 0, none⟩, 1, 1⟩] ++ [rsl Ty.sl.enc ((⟨some ⟨b78, 0, none⟩, 1, 1⟩ : Sl) :: List.replicate M ⟨some ⟨b75, 0, none⟩, 2, 2⟩) r77] ++ [lli ([3] :: List.replicate M [1, 2]) r77] := by simp [gN0]
  have gL : lli ([3] :: List.replicate M [1, 2]) r77 ∈ G ++ [li [1, 2] ⟨some ⟨b75, 0, none⟩, 2, 2⟩] ++ [rsl Ty.sl.enc [(⟨some ⟨b75, 0, none⟩, 2, 2⟩ : Sl)] ⟨some ⟨b76, 0, none⟩, 1, 1⟩] ++ [li [3] ⟨some ⟨b78, 0, none⟩, 1, 1⟩] ++ [rsl Ty.sl.enc ((⟨some ⟨b78, 0, none⟩, 1, 1⟩ : Sl) :: List.replicate M ⟨some ⟨b75, 0, none⟩, 2, 2⟩) r77] ++ [lli ([3] :: List.replicate M [1, 2]) r77] := by simp
  generalize G ++ [li [1, 2] ⟨some ⟨b75, 0, none⟩, 2, 2⟩] ++ [rsl Ty.sl.enc [(⟨some ⟨b75, 0, none⟩, 2, 2⟩ : Sl)] ⟨some ⟨b76, 0, none⟩, 1, 1⟩] ++ [li [3] ⟨some ⟨b78, 0, none⟩, 1, 1⟩] ++ [rsl Ty.sl.enc ((⟨some ⟨b78, 0, none⟩, 1, 1⟩ : Sl) :: List.replicate M ⟨some ⟨b75, 0, none⟩, 2, 2⟩) r77] ++ [lli ([3] :: List.replicate M [1, 2]) r77] = G2 at st gN gL
  -- what comes of them
  have hrL : ∀ d ∈ [3] :: List.replicate M [1, 2], rightC d = true := fun d hd => by
    rcases List.mem_cons.1 hd with rfl | hd
    · decide
    · rw [List.eq_of_mem_replicate hd]; decide
  have hrR : ∀ d ∈ List.replicate M ([1, 2] : List Int), rightC d = true := fun d hd => by rw [List.eq_of_mem_replicate hd]; decide
  have hlL : ([3] :: List.replicate M ([1, 2] : List Int)).length = M + 1 := by simp
  have hlR : (List.replicate M ([1, 2] : List Int)).length = M := by simp
  have c4 : rightC [4] = true := by decide
  have c1 : rightC [1, -1] = true := by decide
  have a4 : alwaysC [4] = false := by decide
  have e1 : followF [] ([3] :: List.replicate M [1, 2]) = ([], 0, false, 5) := by unfold followF; rw [wrong_f hrL, if_neg (by simp), if_neg (by decide), if_pos (by rw [hlL]; omega)]
  have e2 : checkP [4] ([3] :: List.replicate M [1, 2]) = ([], 0, 5) := by unfold checkP; rw [wrong_f hrL, c4, if_neg (by simp), if_pos (by rw [hlL]; omega)]
  have e3 : findP [4] ([3] :: List.replicate M [1, 2]) = ([], false, 5) := by unfold findP; rw [wrong_f hrL, c4, if_neg (by simp), if_pos (by rw [hlL]; omega)]
  have e4 : trimP [1, -1] ([3] :: List.replicate M [1, 2]) = ([], 5) := by
    have : checkP [1, -1] ([3] :: List.replicate M [1, 2]) = ([], 0, 5) := by unfold checkP; rw [wrong_f hrL, c1, if_neg (by simp), if_pos (by rw [hlL]; omega)]
    unfold trimP; rw [this]; rfl
  have lk : lookP [-4] [1, 2] = (4, 0) := by decide
  have n4 : negs [4] = [-4] := by decide +kernel
  have e5 : checkP [4] (List.replicate M [1, 2]) = ([], 0, 81) := by
    have hf : followP [-4] (List.replicate M [1, 2]) = ([], 0, false, 81) := by
      obtain ⟨M', rfl⟩ : ∃ M', M = M' + 1 := ⟨M - 1, by omega⟩
      rw [List.replicate_succ]
      exact followP_bad (by rw [lk]; decide) (by rw [lk]; decide)
    rw [check_eq c4 hrR (by rw [hlR]; omega), a4, if_neg (by simp), n4, hf]; rfl
  have hfu : ∀ {l : List (List Int)}, l.length ≤ 65537 → (∀ d ∈ l, d.length ≤ 2) → fuelP l ≤ 1000000 := fun {l} h1 h2 => by
    have := flat_le h1 h2
    unfold fuelP; omega
  have e6 : (findP [4] (List.replicate M [1, 2])).2.2 = 0 := find_err c4 hrR (by rw [hlR]; omega)
  have e7 : (findP [4] (List.replicate M [1, 2])).2.1 = false := by
    cases hf : (findP [4] (List.replicate M [1, 2])).2.1
    · rfl
    · rcases find_ok c4 hrR (by rw [hlR]; omega) hf with h | ⟨ds, hd, hc⟩
      · rw [a4] at h; cases h
      · rw [n4, closed_follow (B := [-4]) (by decide) (fun x hx => hx) fun d k => by rw [List.eq_of_mem_replicate (hd d k), lk]; decide] at hc
        cases hc
  have hB : ∀ {G' : List Asn} {h' : Heap} {As : List Asn}, Hs [([], h)] (G2 ++ G') As h' → At h' (lli ([3] :: List.replicate M [1, 2]) r77) := fun st => st.fzm (List.mem_append_left _ gL)
  have hB2 : ∀ {G' : List Asn} {h' : Heap} {As : List Asn}, Hs [([], h)] (G2 ++ G') As h' → At h' (lli (List.replicate M [1, 2]) (slR r77 1 r77.len 1)) := fun st => by
    have := rsg_drop (hB st) (n := 1) (by rw [hlL]; omega)
    simpa using this
  have l77 : r77.len = M + 1 := by have := rsg_len (st.fzm gL); rw [this, hlL]
  refine call_of (Follow_c (A := []) (s := ⟨none, 0, 0⟩) (st.fzm gN) (st.fzm gL) (by simp) (by rw [hlL]; omega)) ?_
  rintro _ h7 ⟨s7, rfl, n7, x7⟩
  have st := st.ext x7
  rw [e1]
  refine Hs.lit st [4] 1 rfl rfl fun b81 h8 st => ?_
  refine call_of (Check_c st.fzL (hB st) (by simp) (by rw [hlL]; omega)) ?_
  rintro _ h9 ⟨rfl, x9⟩
  have st := st.ext x9
  rw [e2]
  refine Hs.lit st [4] 1 rfl rfl fun b83 h10 st => ?_
  have a83 := st.fzL
  simp only [List.append_assoc] at st
  refine call_of (Find_c a83 (hB st) (by simp) (by rw [hlL]; omega) (hfu (by rw [hlL]; omega) fun d hd => by
    rcases List.mem_cons.1 hd with rfl | hd
    · decide
    · rw [List.eq_of_mem_replicate hd]; decide)) ?_
  rintro _ h11 ⟨s11, rfl, n11, x11⟩
  have st := st.ext x11
  rw [e3]
  refine Hs.lit st [1, -1] 2 rfl rfl fun b85 h12 st => ?_
  have a85 := st.fzL
  simp only [List.append_assoc] at st
  refine call_of (Trim_c a85 (hB st) (by simp) (by rw [hlL]; omega)) ?_
  rintro _ h13 ⟨s13, rfl, n13, x13⟩
  have st := st.ext x13
  rw [e4]
  refine Hs.lit st [4] 1 rfl rfl fun b87 h14 st => ?_
  have a87 := st.fzL
  simp only [List.append_assoc] at st
  refine ⟨by decide, by show (1 : Int) ≤ (r77.len : Int); omega, ?_⟩
  refine call_of (Check_c a87 (hB2 st) (by simp) (by rw [hlR]; omega)) ?_
  rintro _ h15 ⟨rfl, x15⟩
  have st := st.ext x15
  rw [e5]
  refine Hs.lit st [4] 1 rfl rfl fun b90 h16 st => ?_
  have a90 := st.fzL
  simp only [List.append_assoc] at st
  refine ⟨by decide, by show (1 : Int) ≤ (r77.len : Int); omega, ?_⟩
  refine call_of (Find_c a90 (hB2 st) (by simp) (by rw [hlR]; omega) (hfu (by rw [hlR]; omega) fun d hd => by rw [List.eq_of_mem_replicate hd]; decide)) ?_
  rintro _ h17 ⟨s17, rfl, n17, x17⟩
  have st := st.ext x17
  rw [e6, e7]
  refine jn_in fun J hJ => brT rfl (hJ _ _ ?_)
  refine jn_in fun J hJ => brT rfl (hJ _ _ ?_)
  refine jn_in fun J hJ => brT rfl (hJ _ _ ?_)
  refine jn_in fun J hJ => brT rfl (hJ _ _ ?_)
  refine jn_in fun J hJ => brT rfl (hJ _ _ ?_)
  refine jn_in fun J hJ => brT rfl (hJ _ _ ?_)
  refine jn_in fun J hJ => brT rfl (hJ _ _ ?_)
  refine jn_in fun J hJ => brT rfl (hJ _ _ ?_)
  refine jn_in fun J hJ => brT rfl ?_
  refine call_of (awake_c h17) ?_
  rintro _ h18 ⟨rfl, x18⟩
  have st := st.ext x18
  exact hJ _ _ (hK _ _ ⟨rfl, st.frame (by simp)⟩)


set_option maxRecDepth 8000 in
theorem smNum_c {h2 : Heap} {x : Bool} {GG G' : List Asn} (st : Hs [([], h)] (GG ++ G') [] h2) (gN0 : li [] ⟨none, 0, 0⟩ ∈ GG) (K : Bool → HP) (hK : ∀ x h', (x = true ∧ Ext [] h h') → K x h') : SmNum x K h2 := by
  unfold SmNum
  refine Hs.lit st [-9223372036854775808, 0, 1048576, 1048577, -1048577, 9223372036854775807] 6 rfl rfl fun b49 h3 st => ?_
  generalize hN : ([-9223372036854775808, 0, 1048576, 1048577, -1048577, 9223372036854775807] : List Int) = N at st
  have lN : N.length = 6 := by rw [← hN]; rfl
  have mN : li N ⟨some ⟨b49, 0, none⟩, 6, 6⟩ ∈ GG ++ G' ++ [li N ⟨some ⟨b49, 0, none⟩, 6, 6⟩] := by simp
  have gN1 : li [] ⟨none, 0, 0⟩ ∈ GG ++ G' ++ [li N ⟨some ⟨b49, 0, none⟩, 6, 6⟩] := by simp [gN0]
  generalize GG ++ G' ++ [li N ⟨some ⟨b49, 0, none⟩, 6, 6⟩] = G1 at st mN gN1
  have inQ : ∀ {G' : List Asn} {A : Asn}, A ∈ G1 → A ∈ G1 ++ G' := fun h => List.mem_append_left _ h
  refine lfp_invh (I := fun m σ h' => ∃ (i : Nat) (x : Bool) (G' : List Asn), σ = ((i : Int), x, ()) ∧ i ≤ 6 ∧ m = 6 - i ∧ Hs [([], h)] (G1 ++ G') [] h')
    ⟨_, 0, x, [], rfl, by omega, rfl, by rw [List.append_nil]; exact st⟩ ?_
  clear st
  rintro m σ h4 X ⟨i, x, G2, rfl, hi6, rfl, st⟩ hX
  simp only
  by_cases hl6 : i < 6
  · refine brT (decide_eq_true (by omega)) ?_
    refine rdE (τ := i64) (xs := N) (s := ⟨some ⟨b49, 0, none⟩, 6, 6⟩) (st.fzm (inQ mN)) (i := i) (by omega) ?_
    generalize N[i]'(by omega) = z
    refine Hs.lit st [1, z] 2 rfl rfl fun b54 h5 st => ?_
    rw [List.append_assoc] at st
    refine call_of (looks_c (c := [1, z]) (A := []) (s2 := ⟨none, 0, 0⟩) (st.fzm (by simp : li [1, z] ⟨some ⟨b54, 0, none⟩, 2, 2⟩ ∈ _)) (st.fzm (inQ gN1)) (by simp) (by simp)) ?_
    rintro _ h6 ⟨rfl, x6⟩
    have st := st.ext x6
    refine jn_in fun J hJ => brF rfl ?_
    refine Hs.lit st [1] 1 rfl rfl fun b72 h7 st => ?_
    have a72 := st.fzL
    refine Hs.lit st [z] 1 rfl rfl fun b73 h8 st => ?_
    refine call_of (looks_c (c := [1]) (A := [z]) (s := ⟨some ⟨b72, 0, none⟩, 1, 1⟩) (st.fzm (by simp)) st.fzL (by simp) (by simp)) ?_
    rintro _ h9 ⟨rfl, x9⟩
    have st := st.ext x9
    refine hJ _ _ (jn_in fun J hJ => brF rfl ?_)
    refine Hs.lit st [z] 1 rfl rfl fun b66 h10 st => ?_
    refine Hs.lit st [z] 1 rfl rfl fun b67 h10 st => ?_
    refine Hs.lit st [z] 1 rfl rfl fun b68 h10 st => ?_
    refine Hs.lit st [2] 1 rfl rfl fun b69 h10 st => ?_
    refine st.nw fun b70 h11 st => ?_
    refine call_of (follows_c (A := [z]) (c := [z]) (s := ⟨some ⟨b66, 0, none⟩, 1, 1⟩) (s2 := ⟨some ⟨b67, 0, none⟩, 1, 1⟩) (st.fzm (by simp)) (st.fzm (by simp)) (lli_mk (st.blk 0 rfl) (ps := [⟨some ⟨b68, 0, none⟩, 1, 1⟩, ⟨some ⟨b69, 0, none⟩, 1, 1⟩]) rfl rfl (cs := [[z], [2]]) ⟨st.fzm (by simp), st.fzm (by simp), trivial⟩) (by simp) (by simp) (by simp) (by simp)) ?_
    rintro _ h12 ⟨rfl, x12⟩
    have st := (st.ext x12).drop 0 rfl
    refine hJ _ _ (jn_in fun J hJ => brF rfl ?_)
    refine Hs.lit st [2] 1 rfl rfl fun b62 h13 st => ?_
    refine Hs.lit st [z, 2] 2 rfl rfl fun b63 h13 st => ?_
    refine st.nw fun b64 h14 st => ?_
    refine call_of (finds_c (c := [2]) (s := ⟨some ⟨b62, 0, none⟩, 1, 1⟩) (st.fzm (by simp)) (lli_mk (st.blk 0 rfl) (ps := [⟨some ⟨b63, 0, none⟩, 2, 2⟩]) rfl rfl (cs := [[z, 2]]) ⟨st.fzm (by simp), trivial⟩) (by simp) (by simp) (by simp) (by simp [fuelP])) ?_
    rintro _ h15 ⟨rfl, x15⟩
    have st := (st.ext x15).drop 0 rfl
    refine hJ _ _ (brF rfl ?_)
    rw [inc_i (by omega)]
    simp only [List.append_assoc] at st
    exact hX _ _ _ ⟨i + 1, x, _, rfl, by omega, rfl, st⟩ (by omega)
  refine brF (decide_eq_false (by omega)) ?_
  clear hX
  exact smEnd_c st (inQ gN1) K hK

set_option maxRecDepth 8000 in
theorem smLoop_c {h1 : Heap} {P Q : List Sl} {S D : List (List Int)} {b11 b21 : Nat} {GG : List Asn} (st : Hs [([], h)] GG [] h1) (lP : P.length = 12) (lQ : Q.length = 10) (lS : S.length = 12) (lD : D.length = 10) (s3 : ∀ q ∈ S, q.length ≤ 3) (d3 : ∀ q ∈ D, q.length ≤ 3)
    (mP0 : ∀ i (h1 : i < S.length) (h2 : i < P.length), li S[i] P[i] ∈ GG) (mQ0 : ∀ i (h1 : i < D.length) (h2 : i < Q.length), li D[i] Q[i] ∈ GG)
    (gP0 : rsl Ty.sl.enc P ⟨some ⟨b11, 0, none⟩, 12, 12⟩ ∈ GG) (gQ0 : rsl Ty.sl.enc Q ⟨some ⟨b21, 0, none⟩, 10, 10⟩ ∈ GG) (gN0 : li [] ⟨none, 0, 0⟩ ∈ GG) (K : Bool → HP) (hK : ∀ x h', (x = true ∧ Ext [] h h') → K x h') : SmLoop b11 b21 K h1 := by
  unfold SmLoop
  have inP : ∀ {G' : List Asn} {A : Asn}, A ∈ GG → A ∈ GG ++ G' := fun h => List.mem_append_left _ h
  have mP : ∀ {G' : List Asn} i (h1 : i < S.length) (h2 : i < P.length), li S[i] P[i] ∈ GG ++ G' := fun i h1 h2 => inP (mP0 i h1 h2)
  have mQ : ∀ {G' : List Asn} i (h1 : i < D.length) (h2 : i < Q.length), li D[i] Q[i] ∈ GG ++ G' := fun i h1 h2 => inP (mQ0 i h1 h2)
  refine lfp_invh (I := fun m σ h' => ∃ (i : Nat) (x : Bool) (G' : List Asn), σ = ((i : Int), x, ()) ∧ i ≤ 12 ∧ m = 12 - i ∧ Hs [([], h)] (GG ++ G') [] h')
    ⟨_, 0, false, [], rfl, by omega, rfl, by rw [List.append_nil]; exact st⟩ ?_
  clear st
  rintro m σ h2 X ⟨i, x, G', rfl, hi, rfl, st⟩ hX
  simp only
  by_cases hlt : i < 12
  · refine brT (decide_eq_true (by omega)) ?_
    refine rdE (τ := .sl) (xs := P) (s := ⟨some ⟨b11, 0, none⟩, 12, 12⟩) (st.fzm (inP gP0)) (i := i) (by omega) ?_
    have hcc := small_len s3 (i := i) (by omega)
    have hci : ∀ {G' : List Asn}, li (S[i]'(by omega)) (P[i]'(by omega)) ∈ GG ++ G' := mP i (by omega) (by omega)
    generalize S[i]'(by omega) = cc at hcc hci
    generalize P[i]'(by omega) = x25 at hci
    refine lfp_invh (I := fun m σ h' => ∃ (k : Nat) (x : Bool) (G' : List Asn), σ = ((k : Int), x, ()) ∧ k ≤ 10 ∧ m = 10 - k ∧ Hs [([], h)] (GG ++ G') [] h')
      ⟨_, 0, x, G', rfl, by omega, rfl, st⟩ ?_
    clear st
    rintro m σ h3 Y ⟨k, x, G', rfl, hk, rfl, st⟩ hY
    simp only
    by_cases hkl : k < 10
    · refine brT (decide_eq_true (by omega)) ?_
      refine rdE (τ := .sl) (xs := Q) (s := ⟨some ⟨b21, 0, none⟩, 10, 10⟩) (st.fzm (inP gQ0)) (i := k) (by omega) ?_
      have hdd := small_len d3 (i := k) (by omega)
      refine call_of (looks_c (st.fzm hci) (st.fzm (mQ k (by omega) (by omega))) (by omega) (by omega)) ?_
      rintro _ h4 ⟨rfl, x4⟩
      refine brF rfl ?_
      rw [inc_i (by omega)]
      exact hY _ _ _ ⟨k + 1, x, G', rfl, by omega, rfl, st.ext x4⟩ (by omega)
    refine brF (decide_eq_false (by omega)) ?_
    clear hY
    refine lfp_invh (I := fun m σ h' => ∃ (k : Nat) (x : Bool) (G' : List Asn), σ = ((k : Int), x, ()) ∧ k ≤ 12 ∧ m = 12 - k ∧ Hs [([], h)] (GG ++ G') [] h')
      ⟨_, 0, x, G', rfl, by omega, rfl, st⟩ ?_
    clear st hkl hk
    rintro m σ h3 Y ⟨i2, x, G', rfl, hi2, rfl, st⟩ hY
    simp only
    by_cases hil : i2 < 12
    · refine brT (decide_eq_true (by omega)) ?_
      refine rdE (τ := .sl) (xs := P) (s := ⟨some ⟨b11, 0, none⟩, 12, 12⟩) (st.fzm (inP gP0)) (i := i2) (by omega) ?_
      refine lfp_invh (I := fun m σ h' => ∃ (k : Nat) (x : Bool) (G' : List Asn), σ = ((k : Int), x, ()) ∧ k ≤ 12 ∧ m = 12 - k ∧ Hs [([], h)] (GG ++ G') [] h')
        ⟨_, 0, x, G', rfl, by omega, rfl, st⟩ ?_
      clear st
      rintro m σ h4 Z ⟨k2, x, G', rfl, hk2, rfl, st⟩ hZ
      simp only
      by_cases hkl : k2 < 12
      · refine brT (decide_eq_true (by omega)) ?_
        refine rdE (τ := .sl) (xs := P) (s := ⟨some ⟨b11, 0, none⟩, 12, 12⟩) (st.fzm (inP gP0)) (i := k2) (by omega) ?_
        refine ⟨by decide, ?_⟩
        obtain ⟨q, hq, hql⟩ : ∃ q : Nat, Int.tmod (IntKind.wrap .i64 ((i2 : Int) + (IntKind.wrap .i64 ((2 : Int) * (k2 : Int))))) (12 : Int) = q ∧ q < 12 := by
          rw [wrap_i64 (x := 2 * (k2 : Int)) (by omega) (by omega), wrap_i64 (by omega) (by omega), Int.tmod_eq_emod_of_nonneg (by omega)]
          exact ⟨(i2 + 2 * k2) % 12, by omega, by omega⟩
        rw [hq]
        refine rdE (τ := .sl) (xs := P) (s := ⟨some ⟨b11, 0, none⟩, 12, 12⟩) (st.fzm (inP gP0)) (i := q) (by omega) ?_
        refine Hs.lit st [3, 1] 2 rfl rfl fun b41 h5 st => ?_
        refine st.nw fun b42 h6 st => ?_
        refine ⟨by decide, ?_⟩
        obtain ⟨w, hw, hwl⟩ : ∃ w : Nat, Int.tmod (IntKind.wrap .i64 ((i2 : Int) + (k2 : Int))) (10 : Int) = w ∧ w < 10 := by
          rw [wrap_i64 (by omega) (by omega), Int.tmod_eq_emod_of_nonneg (by omega)]
          exact ⟨(i2 + k2) % 10, by omega, by omega⟩
        rw [hw]
        rw [List.append_assoc] at st
        refine rdE (τ := .sl) (xs := Q) (s := ⟨some ⟨b21, 0, none⟩, 10, 10⟩) (st.fzm (inP gQ0)) (i := w) (by omega) ?_
        have m41 : li [3, 1] ⟨some ⟨b41, 0, none⟩, 2, 2⟩ ∈ GG ++ (G' ++ [li [3, 1] ⟨some ⟨b41, 0, none⟩, 2, 2⟩]) := by simp
        have hh : ∀ {h' : Heap}, Hs [([], h)] (GG ++ (G' ++ [li [3, 1] ⟨some ⟨b41, 0, none⟩, 2, 2⟩])) [cl b42 ty_clauses_Clause [.slice (P[i2]'(by omega)).a (P[i2]'(by omega)).len (P[i2]'(by omega)).cap, .slice (P[k2]'(by omega)).a (P[k2]'(by omega)).len (P[k2]'(by omega)).cap, .slice (P[q]'(by omega)).a (P[q]'(by omega)).len (P[q]'(by omega)).cap, .slice (some ⟨b41, 0, none⟩) 2 2]] h' →
            At h' (lli [S[i2]'(by omega), S[k2]'(by omega), S[q]'(by omega), [3, 1]] ⟨some ⟨b42, 0, none⟩, 4, 4⟩) := fun st =>
          lli_mk (st.blk 0 rfl) (ps := [P[i2]'(by omega), P[k2]'(by omega), P[q]'(by omega), ⟨some ⟨b41, 0, none⟩, 2, 2⟩]) rfl rfl ⟨st.fzm (mP i2 (by omega) (by omega)), st.fzm (mP k2 (by omega) (by omega)), st.fzm (mP q (by omega) (by omega)), st.fzm m41, trivial⟩
        have hll : ∀ d ∈ [S[i2]'(by omega), S[k2]'(by omega), S[q]'(by omega), [3, 1]], d.length ≤ 3 := by
          intro d hd
          simp only [List.mem_cons, List.not_mem_nil, or_false] at hd
          rcases hd with rfl | rfl | rfl | rfl
          · exact small_len s3 _
          · exact small_len s3 _
          · exact small_len s3 _
          · decide
        have hff : fuelP [S[i2]'(by omega), S[k2]'(by omega), S[q]'(by omega), [3, 1]] ≤ 500000 := by
          have := flat_le (m := 4) (k := 3) (by simp) hll
          unfold fuelP; simp only [List.length_cons, List.length_nil] at this ⊢; omega
        have hdd := small_len d3 (i := w) (by omega)
        refine call_of (follows_c (st.fzm (mQ w (by omega) (by omega))) (st.fzm hci) (hh st) (by omega) (by omega) (by simp) (fun c hc => by have := hll c hc; omega)) ?_
        rintro _ h7 ⟨rfl, x7⟩
        have st := st.ext x7
        refine jn_in fun J hJ => brF rfl ?_
        refine call_of (finds_c (st.fzm hci) (hh st) (by omega) (by simp) (fun c hc => by have := hll c hc; omega) hff) ?_
        rintro _ h8 ⟨rfl, x8⟩
        have st := (st.ext x8).drop 0 rfl
        refine hJ _ _ (brF rfl ?_)
        rw [inc_i (by omega)]
        exact hZ _ _ _ ⟨k2 + 1, x, _, rfl, by omega, rfl, st⟩ (by omega)
      · refine brF (decide_eq_false (by omega)) ?_
        rw [inc_i (by omega)]
        exact hY _ _ _ ⟨i2 + 1, x, G', rfl, by omega, rfl, st⟩ (by omega)
    · refine brF (decide_eq_false (by omega)) ?_
      rw [inc_i (by omega)]
      exact hX _ _ _ ⟨i + 1, x, G', rfl, by omega, rfl, st⟩ (by omega)
  refine brF (decide_eq_false (by omega)) ?_
  clear hX
  exact smNum_c st gN0 K hK

set_option maxRecDepth 8000 in
theorem rupSmall_F (h : Heap) (K : Bool → HP) (hK : ∀ x h', (x = true ∧ Ext [] h h') → K x h') : F_salvorlaw08_RupSmall K h := by
  rw [smSetup_eq]
  unfold SmSetup
  have st := Hs.start h [li [] ⟨none, 0, 0⟩] (by simp; exact ⟨[], rfl, by simp, .inl ⟨rfl, rfl⟩⟩)
  refine Hs.lit st [1] 1 rfl rfl fun b0 h1 st => ?_
  refine Hs.lit st [-1] 1 rfl rfl fun b1 h1 st => ?_
  refine Hs.lit st [2] 1 rfl rfl fun b2 h1 st => ?_
  refine Hs.lit st [-2] 1 rfl rfl fun b3 h1 st => ?_
  refine Hs.lit st [1, 2] 2 rfl rfl fun b4 h1 st => ?_
  refine Hs.lit st [1, -2] 2 rfl rfl fun b5 h1 st => ?_
  refine Hs.lit st [-1, 2] 2 rfl rfl fun b6 h1 st => ?_
  refine Hs.lit st [-2, -1] 2 rfl rfl fun b7 h1 st => ?_
  refine Hs.lit st [1, 1] 2 rfl rfl fun b8 h1 st => ?_
  refine Hs.lit st [1, -1] 2 rfl rfl fun b9 h1 st => ?_
  refine Hs.lit st [2, 1, 2] 3 rfl rfl fun b10 h1 st => ?_
  refine Hs.litS st [⟨none, 0, 0⟩, ⟨some ⟨b0, 0, none⟩, 1, 1⟩, ⟨some ⟨b1, 0, none⟩, 1, 1⟩, ⟨some ⟨b2, 0, none⟩, 1, 1⟩, ⟨some ⟨b3, 0, none⟩, 1, 1⟩, ⟨some ⟨b4, 0, none⟩, 2, 2⟩, ⟨some ⟨b5, 0, none⟩, 2, 2⟩, ⟨some ⟨b6, 0, none⟩, 2, 2⟩, ⟨some ⟨b7, 0, none⟩, 2, 2⟩, ⟨some ⟨b8, 0, none⟩, 2, 2⟩, ⟨some ⟨b9, 0, none⟩, 2, 2⟩, ⟨some ⟨b10, 0, none⟩, 3, 3⟩] 12 rfl rfl fun b11 h1 st => ?_
  refine Hs.lit st [1] 1 rfl rfl fun b12 h1 st => ?_
  refine Hs.lit st [-1] 1 rfl rfl fun b13 h1 st => ?_
  refine Hs.lit st [1, 2] 2 rfl rfl fun b14 h1 st => ?_
  refine Hs.lit st [-2, 1] 2 rfl rfl fun b15 h1 st => ?_
  refine Hs.lit st [-1, -2] 2 rfl rfl fun b16 h1 st => ?_
  refine Hs.lit st [1, -1] 2 rfl rfl fun b17 h1 st => ?_
  refine Hs.lit st [0] 1 rfl rfl fun b18 h1 st => ?_
  refine Hs.lit st [2, 2] 2 rfl rfl fun b19 h1 st => ?_
  refine Hs.lit st [1048577] 1 rfl rfl fun b20 h1 st => ?_
  refine Hs.litS st [⟨none, 0, 0⟩, ⟨some ⟨b12, 0, none⟩, 1, 1⟩, ⟨some ⟨b13, 0, none⟩, 1, 1⟩, ⟨some ⟨b14, 0, none⟩, 2, 2⟩, ⟨some ⟨b15, 0, none⟩, 2, 2⟩, ⟨some ⟨b16, 0, none⟩, 2, 2⟩, ⟨some ⟨b17, 0, none⟩, 2, 2⟩, ⟨some ⟨b18, 0, none⟩, 1, 1⟩, ⟨some ⟨b19, 0, none⟩, 2, 2⟩, ⟨some ⟨b20, 0, none⟩, 1, 1⟩] 10 rfl rfl fun b21 h1 st => ?_
  let P : List Sl := [⟨none, 0, 0⟩, ⟨some ⟨b0, 0, none⟩, 1, 1⟩, ⟨some ⟨b1, 0, none⟩, 1, 1⟩, ⟨some ⟨b2, 0, none⟩, 1, 1⟩, ⟨some ⟨b3, 0, none⟩, 1, 1⟩, ⟨some ⟨b4, 0, none⟩, 2, 2⟩, ⟨some ⟨b5, 0, none⟩, 2, 2⟩, ⟨some ⟨b6, 0, none⟩, 2, 2⟩, ⟨some ⟨b7, 0, none⟩, 2, 2⟩, ⟨some ⟨b8, 0, none⟩, 2, 2⟩, ⟨some ⟨b9, 0, none⟩, 2, 2⟩, ⟨some ⟨b10, 0, none⟩, 3, 3⟩]
  let Q : List Sl := [⟨none, 0, 0⟩, ⟨some ⟨b12, 0, none⟩, 1, 1⟩, ⟨some ⟨b13, 0, none⟩, 1, 1⟩, ⟨some ⟨b14, 0, none⟩, 2, 2⟩, ⟨some ⟨b15, 0, none⟩, 2, 2⟩, ⟨some ⟨b16, 0, none⟩, 2, 2⟩, ⟨some ⟨b17, 0, none⟩, 2, 2⟩, ⟨some ⟨b18, 0, none⟩, 1, 1⟩, ⟨some ⟨b19, 0, none⟩, 2, 2⟩, ⟨some ⟨b20, 0, none⟩, 1, 1⟩]
  let G0 : List Asn := [li [] ⟨none, 0, 0⟩, li [1] ⟨some ⟨b0, 0, none⟩, 1, 1⟩, li [-1] ⟨some ⟨b1, 0, none⟩, 1, 1⟩, li [2] ⟨some ⟨b2, 0, none⟩, 1, 1⟩, li [-2] ⟨some ⟨b3, 0, none⟩, 1, 1⟩, li [1, 2] ⟨some ⟨b4, 0, none⟩, 2, 2⟩, li [1, -2] ⟨some ⟨b5, 0, none⟩, 2, 2⟩, li [-1, 2] ⟨some ⟨b6, 0, none⟩, 2, 2⟩, li [-2, -1] ⟨some ⟨b7, 0, none⟩, 2, 2⟩, li [1, 1] ⟨some ⟨b8, 0, none⟩, 2, 2⟩, li [1, -1] ⟨some ⟨b9, 0, none⟩, 2, 2⟩, li [2, 1, 2] ⟨some ⟨b10, 0, none⟩, 3, 3⟩, rsl Ty.sl.enc P ⟨some ⟨b11, 0, none⟩, 12, 12⟩, li [1] ⟨some ⟨b12, 0, none⟩, 1, 1⟩, li [-1] ⟨some ⟨b13, 0, none⟩, 1, 1⟩, li [1, 2] ⟨some ⟨b14, 0, none⟩, 2, 2⟩, li [-2, 1] ⟨some ⟨b15, 0, none⟩, 2, 2⟩, li [-1, -2] ⟨some ⟨b16, 0, none⟩, 2, 2⟩, li [1, -1] ⟨some ⟨b17, 0, none⟩, 2, 2⟩, li [0] ⟨some ⟨b18, 0, none⟩, 1, 1⟩, li [2, 2] ⟨some ⟨b19, 0, none⟩, 2, 2⟩, li [1048577] ⟨some ⟨b20, 0, none⟩, 1, 1⟩, rsl Ty.sl.enc Q ⟨some ⟨b21, 0, none⟩, 10, 10⟩]
  simp only [List.cons_append, List.nil_append] at st
  have st : Hs [([], h)] G0 [] h1 := st
  have mP0 : ∀ i (h1 : i < S12.length) (h2 : i < P.length), li S12[i] P[i] ∈ G0 := by
    intro i h1 h2
    match i, h1, h2 with
    | 0, _, _ => exact List.mem_of_getElem? (i := 0) rfl
    | 1, _, _ => exact List.mem_of_getElem? (i := 1) rfl
    | 2, _, _ => exact List.mem_of_getElem? (i := 2) rfl
    | 3, _, _ => exact List.mem_of_getElem? (i := 3) rfl
    | 4, _, _ => exact List.mem_of_getElem? (i := 4) rfl
    | 5, _, _ => exact List.mem_of_getElem? (i := 5) rfl
    | 6, _, _ => exact List.mem_of_getElem? (i := 6) rfl
    | 7, _, _ => exact List.mem_of_getElem? (i := 7) rfl
    | 8, _, _ => exact List.mem_of_getElem? (i := 8) rfl
    | 9, _, _ => exact List.mem_of_getElem? (i := 9) rfl
    | 10, _, _ => exact List.mem_of_getElem? (i := 10) rfl
    | 11, _, _ => exact List.mem_of_getElem? (i := 11) rfl
  have mQ0 : ∀ i (h1 : i < D10.length) (h2 : i < Q.length), li D10[i] Q[i] ∈ G0 := by
    intro i h1 h2
    match i, h1, h2 with
    | 0, _, _ => exact List.mem_of_getElem? (i := 0) rfl
    | 1, _, _ => exact List.mem_of_getElem? (i := 13) rfl
    | 2, _, _ => exact List.mem_of_getElem? (i := 14) rfl
    | 3, _, _ => exact List.mem_of_getElem? (i := 15) rfl
    | 4, _, _ => exact List.mem_of_getElem? (i := 16) rfl
    | 5, _, _ => exact List.mem_of_getElem? (i := 17) rfl
    | 6, _, _ => exact List.mem_of_getElem? (i := 18) rfl
    | 7, _, _ => exact List.mem_of_getElem? (i := 19) rfl
    | 8, _, _ => exact List.mem_of_getElem? (i := 20) rfl
    | 9, _, _ => exact List.mem_of_getElem? (i := 21) rfl
  have gP0 : rsl Ty.sl.enc P ⟨some ⟨b11, 0, none⟩, 12, 12⟩ ∈ G0 := List.mem_of_getElem? (i := 12) rfl
  have gQ0 : rsl Ty.sl.enc Q ⟨some ⟨b21, 0, none⟩, 10, 10⟩ ∈ G0 := List.mem_of_getElem? (i := 22) rfl
  have gN0 : li [] ⟨none, 0, 0⟩ ∈ G0 := List.mem_of_getElem? (i := 0) rfl
  have lP : P.length = 12 := rfl
  have lQ : Q.length = 10 := rfl
  have lS : S12.length = 12 := rfl
  have lD : D10.length = 10 := rfl
  have s3 : ∀ q ∈ S12, q.length ≤ 3 := by decide
  have d3 : ∀ q ∈ D10, q.length ≤ 3 := by decide
  exact smLoop_c (S := S12) (D := D10) st lP lQ lS lD s3 d3 mP0 mQ0 gP0 gQ0 gN0 K hK

end Go.Proofs.S
