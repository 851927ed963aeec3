/-
  ClausesWrong: the walk.
-/
import Derived.Test.YtogghgcgehhcaaaClW5
import Derived.Test.YtogghgcgehhcaaaSxOv
import Derived.ChangeKeysEq
set_option linter.unusedVariables false
set_option linter.unusedSimpArgs false
namespace Go.Proofs.S
open Go Go.Sx Go.Proofs Go.Cl

variable {h : Heap} {c d e : List Int} {s s2 s3 : Sl} {fr : Fr} {G As : List Asn}

theorem info23 : (Try.prog.info? 23).isSome = true := by kernel_rfl
theorem cells23 : Try.prog.cellsOf 23 = 1 := by kernel_rfl
theorem size23 (w : World) : (Go.sizeOf 23).run Try.prog w = .ok 1 w := by
  obtain ⟨i, hi⟩ := Option.isSome_iff_exists.1 info23
  rw [run_sizeOf w hi, cells23]

theorem over_c {bv b2 j lb cb : Nat} {t1 t2 : TypeId} {c1 c2 : List Value} (k1 : Blk h bv t1 c1) (k2 : Blk h b2 t2 c2) (hne : bv ≠ b2) (hc : c2 ≠ []) :
    callT Try.prog fn_slices_overlaps_lits_Lit #[.slice (some ⟨bv, 0, none⟩) 1 1, .slice (some ⟨b2, j, none⟩) lb cb] .bool (fun r h' => r = false ∧ h' = h) h :=
  overlaps_c (P := Try.prog) (fn := Try.f71) (tS := 24) (tR := 4) (e := 23) Try.func71 (by kernel_rfl) (by kernel_rfl) (by kernel_rfl) (by kernel_rfl) Try.underlying24 size23 k1 k2 hne hc

theorem Hs.insert_c {bv : Nat} {x : Int} {K : Sl → HP} (st : Hs fr G As h) (k kx : Nat) (hk : As[k]? = some (lo c s)) (hkx : As[kx]? = some (cl bv ty_lits_Lit [.int .i64 x])) (hne : k ≠ kx)
    {i : Nat} {ii : Int} (hii : ii = i) (hi : i ≤ c.length) (hlen : c.length ≤ 1048576) (hK : ∀ s' h', Hs fr G (As.set k (lo (c.take i ++ x :: c.drop i) s')) h' → K s' h') :
    callT Try.prog fn_slices_Insert_clauses_Clause_lits_Lit #[.slice s.a s.len s.cap, .int .i64 ii, .slice (some ⟨bv, 0, none⟩) 1 1] .sl K h := by
  subst hii
  refine S_slices_Insert_clauses_Clause_lits_Lit (a0 := s) (a1 := (i : Int)) (a2 := ⟨some ⟨bv, 0, none⟩, 1, 1⟩) K ?_
  exact Hs.insert (P := Try.prog) (τ := i64) (t := ty_lits_Lit) (by_ := 8) (z := .int .i64 0) (fov := fn_slices_overlaps_lits_Lit) (frr := fn_slices_rotateRight_lits_Lit) (x := x) st k kx hk hkx hne leaf_int hi (by omega) (by decide) over_c hK

theorem Hs.clone_c {K : Sl → HP} (st : Hs fr G As h) (hy : At h (li c s)) (hlen : c.length ≤ 1048576) (hK : ∀ s' h', Hs fr G (As ++ [lo c s']) h' → K s' h') :
    callT Try.prog fn_slices_Clone_clauses_Clause_lits_Lit #[.slice s.a s.len s.cap] .sl K h :=
  S_slices_Clone_clauses_Clause_lits_Lit (a0 := s) K (Hs.clone (τ := i64) (t := ty_lits_Lit) (by_ := 8) (z := .int .i64 0) st hy leaf_int (by omega) (by decide) hK)

/-- The wrong clause, made in either order. -/
theorem wrong_pre {T : Sl → HP} {A0 : Asn} {x ii : Int} {i : Nat} (st : Hs fr G [lo c s, A0] h) (hl : c.length ≤ 1048576) (hii : ii = i) (hi : i ≤ c.length)
    (tail : ∀ r8 h', Hs fr G [lo c s, A0, lo (c.take i ++ x :: c.drop i) r8] h' → T r8 h') :
    cj (callT Try.prog fn_slices_Clone_clauses_Clause_lits_Lit #[(.slice s.a s.len s.cap)] .sl fun r6 => Sx.nw #[(.int .i64 x)] ty_lits_Lit fun b7 =>
        callT Try.prog fn_slices_Insert_clauses_Clause_lits_Lit #[(.slice r6.a r6.len r6.cap), (.int .i64 ii), (.slice (some (⟨b7, 0, none⟩ : Addr)) 1 1)] .sl fun r8 => T r8)
      (Sx.nw #[(.int .i64 x)] ty_lits_Lit fun b22 => callT Try.prog fn_slices_Clone_clauses_Clause_lits_Lit #[(.slice s.a s.len s.cap)] .sl fun r23 =>
        callT Try.prog fn_slices_Insert_clauses_Clause_lits_Lit #[(.slice r23.a r23.len r23.cap), (.int .i64 ii), (.slice (some (⟨b22, 0, none⟩ : Addr)) 1 1)] .sl fun r24 => T r24) h := by
  constructor
  · refine Hs.clone_c st (st.own 0 rfl).rsl hl fun r6 h1 st => ?_
    refine st.nw fun b7 h2 st => ?_
    refine Hs.insert_c st 2 3 rfl rfl (by decide) hii hi hl fun r8 h3 st => ?_
    exact tail r8 h3 (st.drop 3 rfl)
  · refine st.nw fun b7 h2 st => ?_
    refine Hs.clone_c st (st.own 0 rfl).rsl hl fun r6 h1 st => ?_
    refine Hs.insert_c st 3 2 rfl rfl (by decide) hii hi hl fun r8 h3 st => ?_
    exact tail r8 h3 (st.drop 2 rfl)

set_option maxRecDepth 20000 in
theorem clausesWrong_F {k n : Int} (hA : At h (lu c s)) (uc : U8 c) (k0 : 0 ≤ k) (k1 : k ≤ 255)
    (K : Bool → HP) (hK : ∀ x h', (x = true ∧ Ext [] h h') → K x h') : F_salvorlaw02_ClausesWrong s k n K h := by
  unfold F_salvorlaw02_ClausesWrong
  have ra := made_right uc
  have la := made_len c
  have h8 : Eight (madeP c) := made_range uc
  have st := Hs.start h [lu c s] (by simp [hA])
  refine call_of (made_c (st.fz 0 rfl) uc) ?_
  rintro r0 h1 ⟨n1, x1⟩
  have st := st.new x1 n1
  generalize madeP c = a at *
  have m1 : (if (-1048577 : Int) < n then (-1048577 : Int) else n) ≤ -1048577 := by split <;> omega
  have m2 : (1048577 : Int) ≤ (if (1048577 : Int) > n then (1048577 : Int) else n) := by split <;> omega
  generalize (if (-1048577 : Int) < n then (-1048577 : Int) else n) = p1 at m1
  generalize (if (1048577 : Int) > n then (1048577 : Int) else n) = p2 at m2
  refine st.nw fun b1 h2 st => ?_
  try simp only [List.nil_append, List.cons_append, List.set_cons_zero, List.set_cons_succ, List.eraseIdx_cons_zero, List.eraseIdx_cons_succ, List.length_cons, List.length_nil, Nat.zero_add, Nat.reduceAdd] at st
  have hbad : ∀ x ∈ [0, p1, p2], rt x = false := by
    intro x hx
    cases hr : rt x with
    | false => rfl
    | true =>
      have := rt_iff.1 hr
      simp at hx; omega
  have lr : r0.len = a.length := osl_len (st.own 0 rfl)
  refine lfp_invh (I := fun m σ h2 => ∃ i : Nat, σ = ((i : Int), false, ()) ∧ i ≤ 3 ∧ Hs [([], h)] [lu c s] [lo a r0, cl b1 ty_int [.int .i64 0, .int .i64 p1, .int .i64 p2]] h2 ∧ m = 3 - i) ⟨_, 0, rfl, by omega, st, rfl⟩ ?_
  clear st
  rintro m σ h3 X ⟨i, rfl, hi, st, em⟩ hX
  simp only
  by_cases hlt : i < 3
  · rw [show decide ((i : Int) < 3) = true from decide_eq_true (by omega), brB_true, inc_i (show i < 4611686018427387904 by omega)]
    have hrow : At h3 (rsl i64.enc [0, p1, p2] ⟨some ⟨b1, 0, none⟩, 3, 3⟩) := ⟨[b1], osl_rsl (t := ty_int) (.inl ⟨b1, [], rfl, rfl, st.blk 1 rfl⟩)⟩
    refine rdE (τ := i64) (xs := [0, p1, p2]) (s := ⟨some ⟨b1, 0, none⟩, 3, 3⟩) hrow (show i < [0, p1, p2].length from hlt) ?_
    have hx := hbad _ (List.getElem_mem (show i < [0, p1, p2].length from hlt))
    generalize [0, p1, p2][i]'hlt = x at hx
    have ew : IntKind.wrap .i64 ((r0.len : Int) + 1) = ((a.length + 1 : Nat) : Int) := by rw [lr, wrap_i64 (by omega) (by omega)]; omega
    rw [ew]
    refine ⟨by omega, ?_⟩
    have ek : Int.tmod (IntKind.wrap .i64 k) ((a.length + 1 : Nat) : Int) = ((k.toNat % (a.length + 1) : Nat) : Int) := by
      rw [wrap_i64 (x := k) (by omega) (by omega), Int.tmod_eq_emod_of_nonneg k0, Int.natCast_emod, Int.toNat_of_nonneg k0]
    rw [ek]
    have hk' : k.toNat % (a.length + 1) ≤ a.length := by have := Nat.mod_lt k.toNat (show 0 < a.length + 1 by omega); omega
    refine wrong_pre st (by omega) rfl hk' fun r8 h4 st => ?_
    have hxw : x ∈ a.take (k.toNat % (a.length + 1)) ++ x :: a.drop (k.toNat % (a.length + 1)) := by simp
    generalize a.take (k.toNat % (a.length + 1)) ++ x :: a.drop (k.toNat % (a.length + 1)) = w at hxw st
    have rw' : rightC w = false := by
      cases hr : rightC w with
      | false => rfl
      | true => rw [rightC_rt hr x hxw] at hx; cases hx
    have e1 : normP w = ([], false, 20) := by unfold normP; rw [rw']; rfl
    have e2 : (unionP a w).2 = 20 := by unfold unionP; rw [rw', Bool.and_false]; rfl
    have e3 : (withoutP w 0).2 = 20 := by unfold withoutP; rw [rw']; rfl
    have e4 : (clashesP w a).2 = 20 := by unfold clashesP; rw [rw']; rfl
    have e5 : (resolveP w a 0).2 = 20 := by unfold resolveP; rw [rw']; rfl
    have e6 : (withoutP a x).2 = 10 := by unfold withoutP; rw [ra, hx]; rfl
    have e7 : (resolveP a a x).2 = 10 := by unfold resolveP; rw [ra, hx]; rfl
    have e8 : hasC w x = false := by unfold hasC; rw [rw']; rfl
    have e9 : withinP w w = false := by unfold withinP; rw [rw']; rfl
    have e10 : sameP w w = false := by unfold sameP; rw [rw']; rfl
    have done := st.drop 2 rfl
    try simp only [List.nil_append, List.cons_append, List.set_cons_zero, List.set_cons_succ, List.eraseIdx_cons_zero, List.eraseIdx_cons_succ, List.length_cons, List.length_nil, Nat.zero_add, Nat.reduceAdd] at st
    have ha : At h4 (li a r0) := (st.own 0 rfl).rsl
    have hw : At h4 (li w r8) := (st.own 2 rfl).rsl
    refine call_of (norm_c hw) ?_
    rintro _ h9 ⟨s9, rfl, _, y1⟩
    refine call_of (union_c (ha.ext y1) (hw.ext y1)) ?_
    rintro _ h10 ⟨s10, rfl, _, y2⟩
    have y2 := y1.nil_trans y2
    refine call_of (without_c (hw.ext y2) 0) ?_
    rintro _ h11 ⟨s11, rfl, _, y3⟩
    have y3 := y2.nil_trans y3
    refine call_of (clashes_c (hw.ext y3) (ha.ext y3)) ?_
    rintro _ h12 ⟨s12, rfl, _, y4⟩
    have y4 := y3.nil_trans y4
    refine call_of (resolve_c (hw.ext y4) (ha.ext y4) 0) ?_
    rintro _ h13 ⟨s13, rfl, _, y5⟩
    have y5 := y4.nil_trans y5
    refine call_of (without_c (ha.ext y5) x) ?_
    rintro _ h14 ⟨s14, rfl, _, y6⟩
    have y6 := y5.nil_trans y6
    refine call_of (resolve_c (ha.ext y6) (ha.ext y6) x) ?_
    rintro _ h15 ⟨s15, rfl, _, y7⟩
    have y7 := y6.nil_trans y7
    refine call_of (right_c (hw.ext y7)) ?_
    rintro _ h16 ⟨rfl, y8⟩
    have y8 := y7.nil_trans y8
    rw [rw', brB_false]
    refine call_of (normal_is_c (hw.ext y8)) ?_
    rintro _ h17 ⟨rfl, y9⟩
    have y9 := y8.nil_trans y9
    rw [rw', Bool.false_and, brB_false]
    refine call_of (has_c (hw.ext y9) x) ?_
    rintro _ h18 ⟨rfl, y10⟩
    have y10 := y9.nil_trans y10
    rw [e8, brB_false]
    refine call_of (within_c (hw.ext y10) (hw.ext y10)) ?_
    rintro _ h19 ⟨rfl, y11⟩
    have y11 := y10.nil_trans y11
    rw [e9, brB_false]
    refine call_of (same_c (hw.ext y11) (hw.ext y11)) ?_
    rintro _ h20 ⟨rfl, y12⟩
    have y12 := y11.nil_trans y12
    rw [e10, brB_false]
    refine call_of (always_c (hw.ext y12)) ?_
    rintro _ h21 ⟨rfl, y13⟩
    have y13 := y12.nil_trans y13
    rw [rw', Bool.false_and, brB_false]
    simp only [e1, e2, e3, e4, e5, e6, e7, bne_self_eq_false, brB_false]
    exact hX _ _ _ ⟨i + 1, rfl, by omega, done.ext y13, rfl⟩ (by omega)
  · rw [show decide ((i : Int) < 3) = false from decide_eq_false (by omega), brB_false]
    have n9 : a.contains 9 = false := by
      cases hc : a.contains 9 with
      | false => rfl
      | true => rw [List.contains_iff_mem] at hc; have := h8 9 hc; omega
    have n9' : a.contains (-9) = false := by
      cases hc : a.contains (-9) with
      | false => rfl
      | true => rw [List.contains_iff_mem] at hc; have := h8 (-9) hc; omega
    have ra9 := right_app ra (right_one (l := 9) rfl) (by simp; omega)
    have e1 : (resolveP a [-9] 9).2 = 21 := by unfold resolveP; rw [ra, n9]; rfl
    have e2 : (resolveP (a ++ [9]) a 9).2 = 21 := by unfold resolveP; rw [ra, ra9, n9', Bool.and_false]; rfl
    refine st.nw fun b38 h4 st => ?_
    have st := st.asSl 2 i64.enc [-9] rfl rfl
    try simp only [List.nil_append, List.cons_append, List.set_cons_zero, List.set_cons_succ, List.eraseIdx_cons_zero, List.eraseIdx_cons_succ, List.length_cons, List.length_nil, Nat.zero_add, Nat.reduceAdd] at st
    refine call_of (resolve_c (st.own 0 rfl).rsl (st.own 2 rfl).rsl 9) ?_
    rintro _ h5 ⟨s5, rfl, _, y5⟩
    have st := st.ext y5
    refine st.nw fun b40 h6 st => ?_
    try simp only [List.nil_append, List.cons_append, List.set_cons_zero, List.set_cons_succ, List.eraseIdx_cons_zero, List.eraseIdx_cons_succ, List.length_cons, List.length_nil, Nat.zero_add, Nat.reduceAdd] at st
    refine Hs.apdK (τ := i64) (v := 9) st 0 3 rfl rfl (by decide) rfl (by omega) (by decide) fun s7 h7 st ha => ?_
    try simp only [List.nil_append, List.cons_append, List.set_cons_zero, List.set_cons_succ, List.eraseIdx_cons_zero, List.eraseIdx_cons_succ, List.length_cons, List.length_nil, Nat.zero_add, Nat.reduceAdd] at st
    refine call_of (resolve_c (st.own 0 rfl).rsl ha 9) ?_
    rintro _ h8' ⟨s8, rfl, _, y8⟩
    have st := st.ext y8
    rw [e1, e2]
    (change brB true _ _ _; rw [brB_true]); (change brB true _ _ _; rw [brB_true])
    exact call_of awake_c fun r h' e => hK r h' ⟨e.1, (st.frame (by simp)).nil_trans e.2⟩

end Go.Proofs.S
