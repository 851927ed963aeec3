/-
  FormulaWrong, walked.
-/
import Derived.Test.YtmlamkoilggonaaFoBk
import Derived.Test.YtmlamkoilggonaaSxRw
import Derived.Test.YtmlamkoilggonaaSxOv
import Derived.ChangeKeysEq
set_option linter.unusedVariables false
set_option linter.unusedSimpArgs false
namespace Go.Proofs.S
open Go Go.Sx Go.Proofs Go.Cl

variable {h : Heap} {c d : List Int} {s s2 : Sl} {fr : Fr} {G As : List Asn} {m : List Bool} {sm : Sl} {k k2 : List Bool}

theorem infoC : (Try.prog.info? 35).isSome = true := by kernel_rfl
theorem cellsC : Try.prog.cellsOf 35 = 1 := by kernel_rfl
theorem sizeC (w : World) : (Go.sizeOf 35).run Try.prog w = .ok 1 w := by
  obtain ⟨i, hi⟩ := Option.isSome_iff_exists.1 infoC
  rw [run_sizeOf w hi, cellsC]
theorem overC {bv b2 j lb cb : Nat} {t1 t2 : TypeId} {c1 c2 : List Value} (k1 : Blk h bv t1 c1) (k2 : Blk h b2 t2 c2) (hne : bv ≠ b2) (hc : c2 ≠ []) :
    callT Try.prog fn_slices_overlaps_clauses_Clause #[.slice (some ⟨bv, 0, none⟩) 1 1, .slice (some ⟨b2, j, none⟩) lb cb] .bool (fun r h' => r = false ∧ h' = h) h :=
  overlaps_c (P := Try.prog) (fn := Try.f35) (tS := 38) (tR := 4) (e := 35) Try.func35 (by kernel_rfl) (by kernel_rfl) (by kernel_rfl) (by kernel_rfl) Try.underlying38 sizeC k1 k2 hne hc

/-- A clause is put in. -/
theorem Hs.insertClause {bv : Nat} {x : List Int} {p : Sl} {cs : List (List Int)} {K : Sl → HP} (st : Hs fr G As h) (k kx : Nat) (hk : As[k]? = some (llo cs s)) (hkx : As[kx]? = some (cl bv ty_clauses_Clause [.slice p.a p.len p.cap])) (hne : k ≠ kx)
    {i : Nat} {ii : Int} (hii : ii = i) (hi : i ≤ cs.length) (hlen : cs.length ≤ 1048576)
    (hK : ∀ ps s' h', Hs fr G (As.set k (osl ty_clauses_Clause Ty.sl.enc (ps.take i ++ p :: ps.drop i) s') ++ [inn (fun c p => lo c p) cs ps]) h' → K s' h') :
    callT Try.prog fn_slices_Insert_clauses_Clause_clauses_Clause #[.slice s.a s.len s.cap, .int .i64 ii, .slice (some ⟨bv, 0, none⟩) 1 1] .sl K h := by
  subst hii
  refine S_slices_Insert_clauses_Clause_clauses_Clause (a0 := s) (a1 := (i : Int)) (a2 := ⟨some ⟨bv, 0, none⟩, 1, 1⟩) K ?_
  have hkl := (List.getElem?_eq_some_iff.1 hk).1
  have hkxl := (List.getElem?_eq_some_iff.1 hkx).1
  obtain ⟨ps, hps, st⟩ := st.openG k hk
  refine Hs.insert (P := Try.prog) (τ := .sl) (t := ty_clauses_Clause) (by_ := 24) (z := .slice none 0 0) (fov := fn_slices_overlaps_clauses_Clause) (frr := fn_slices_rotateRight_clauses_Clause) (xs := ps) (x := p) st k kx
    (by rw [List.getElem?_append_left (by simpa using hkl), List.getElem?_set, if_pos rfl, if_pos hkl]) (by rw [List.getElem?_append_left (by simpa using hkxl), List.getElem?_set, if_neg hne]; exact hkx) hne leaf_sl (by omega) (by omega) (by decide) overC fun s' h' st => ?_
  rw [List.set_append_left _ _ (by simpa using hkl), List.set_set] at st
  exact hK ps s' h' st
theorem ins_at {x : List Int} {p : Sl} {ps : List Sl} {cs : List (List Int)} {i : Nat} (h1 : At h (osl ty_clauses_Clause Ty.sl.enc (ps.take i ++ p :: ps.drop i) s)) (h2 : At h (inn (fun c p => lo c p) cs ps)) (h3 : At h (lo x p)) : At h (lli (cs.take i ++ x :: cs.drop i) s) := by
  obtain ⟨S1, p1⟩ := h1
  obtain ⟨S2, p2⟩ := h2
  obtain ⟨S3, p3⟩ := h3
  obtain ⟨S4, p4, _⟩ := Inner.insert_in p3 (n := i) p2
  exact ⟨S1 ++ S4, ps.take i ++ p :: ps.drop i, S1, S4, rfl, osl_rsl p1, finner_mono (fun c p S h q => osl_rsl q) p4⟩

/-! ### plain -/

theorem checkGo_app {n : Int} (rest : List (List Int)) : ∀ {cs : List (List Int)} {i : Nat}, (∀ c ∈ cs, rightC c = true ∧ ∀ x ∈ c, beyP n x = false) → checkGo n i (cs ++ rest) = checkGo n (i + cs.length) rest
  | [], i, hg => rfl
  | c :: cs, i, hg => by
    obtain ⟨h1, h2⟩ := hg c (by simp)
    have h3 : c.any (beyP n) = false := by rw [List.any_eq_false]; intro x hx; rw [h2 x hx]; decide
    rw [List.cons_append]
    show (if rightC c then (if c.any (beyP n) then ((i : Int), 51) else checkGo n (i + 1) (cs ++ rest)) else ((i : Int), 20)) = _
    rw [if_pos h1, if_neg (by rw [h3]; decide), checkGo_app rest fun d hd => hg d (by simp [hd])]
    rw [List.length_cons, show i + 1 + cs.length = i + (cs.length + 1) by omega]
theorem check_bad {cs : List (List Int)} {bad : List Int} {i : Nat} (hg : ∀ c ∈ cs, rightC c = true ∧ ∀ x ∈ c, beyP 8 x = false) (hl : cs.length ≤ 1000) (hi : i ≤ cs.length) (hb : rightC bad = true → bad.any (beyP 8) = true) :
    checkP 8 (cs.take i ++ bad :: cs.drop i) = ((i : Int), if rightC bad then 51 else 20) := by
  unfold checkP
  rw [if_pos (by rfl), if_neg (by simp; omega), checkGo_app _ (fun c hc => hg c (List.mem_of_mem_take hc)), List.length_take, Nat.min_eq_left hi, Nat.zero_add]
  show (if rightC bad then (if bad.any (beyP 8) then ((i : Int), 51) else checkGo 8 (i + 1) (cs.drop i)) else ((i : Int), 20)) = _
  by_cases hr : rightC bad = true
  · rw [if_pos hr, if_pos hr, if_pos (hb hr)]
  · rw [if_neg hr, if_neg hr]

theorem litOf_rt (n : Int) : rt (litOf n) = true ∧ varL (litOf n) ≤ 8 := by
  have h1 : rt (litOf n) = true := by rw [rt_iff]; unfold litOf; split <;> omega
  refine ⟨h1, ?_⟩
  unfold varL
  rw [if_pos h1]
  unfold litOf
  split <;> split <;> omega
theorem madeP_good (l : List Int) : rightC (madeP l) = true ∧ ∀ x ∈ madeP l, beyP 8 x = false := by
  have hx : ∀ x ∈ madeP l, rt x = true ∧ varL x ≤ 8 := fun x hx => by
    obtain ⟨n, _, rfl⟩ := List.mem_map.1 hx
    exact litOf_rt n
  constructor
  · unfold rightC
    rw [decide_eq_true (show (madeP l).length ≤ 4096 by unfold madeP; simp; omega), Bool.true_and, List.all_eq_true]
    exact fun x q => (hx x q).1
  · intro x q
    obtain ⟨a, b⟩ := hx x q
    unfold beyP
    rw [a, decide_eq_false (by omega)]; rfl
theorem madeF_good (cs : List (List Int)) : ∀ c ∈ madeF cs, rightC c = true ∧ ∀ x ∈ c, beyP 8 x = false := fun c hc => by
  obtain ⟨l, _, rfl⟩ := List.mem_map.1 hc
  exact madeP_good l
theorem good8 (cs : List (List Int)) : GoodF 8 (madeF cs) := ⟨by rfl, by have := madeF_len cs; omega, madeF_good cs⟩
theorem bey_big {x : Int} (h : 9 ≤ x ∨ x ≤ -9) : beyP 8 x = true := by
  unfold beyP varL
  cases hr : rt x with
  | false => rfl
  | true =>
    rw [if_pos rfl, Bool.not_true, Bool.false_or]
    refine decide_eq_true ?_
    split <;> omega

theorem wrong_tail {M : List (List Int)} {e : Int} (he : e ≠ 0) {L : List (List Int)} {i : Nat} (hc : checkP 8 L = ((i : Int), e)) : (valueP 8 L []).2 = e ∧ (normF 8 L).2 = e ∧ (∀ l, (assignF 8 L l).2 = e) ∧ (countF 8 L).2 = e := by
  have h2 : (checkP 8 L).2 = e := by rw [hc]
  refine ⟨?_, ?_, fun l => ?_, ?_⟩
  · have : failsP 8 L [] = (0, false, (checkP 8 L).2) := by unfold failsP; rw [if_pos (by rw [h2]; exact he)]
    unfold valueP; rw [this]; exact h2
  · unfold normF; rw [if_pos (by rw [h2]; exact he)]; exact h2
  · unfold assignF; rw [if_pos (by rw [h2]; exact he)]; exact h2
  · unfold countF; rw [if_pos (by rw [h2]; exact he)]; exact h2

theorem formulaWrong_F {cs : List (List Int)} {a n : Int} (hA : At h (llu cs s)) (hu : ∀ c ∈ cs, U8 c) (ha : 0 ≤ a ∧ a ≤ 255) (K : Bool → HP) (hK : ∀ x h', (x = true ∧ Ext [] h h') → K x h') : F_salvorlaw05_FormulaWrong s a n K h := by
  unfold F_salvorlaw05_FormulaWrong
  refine call_of (lawMade_c hA hu) ?_
  rintro _ h1 ⟨r0, rfl, n1, x1⟩
  have hgood := madeF_good cs
  have hml := madeF_len cs
  have hG8 := good8 cs
  generalize madeF cs = M at *
  have st := ((Hs.start h [] (by simp)).new x1 n1).freeze 0 rfl
  simp only [List.nil_append, List.eraseIdx_cons_zero] at st
  have lM := rsg_len (llo_at (st.fz 0 rfl))
  refine st.nw fun b1 h2 st => ?_
  simp only [addr_add, Nat.zero_add, List.nil_append]
  refine st.st1 0 0 rfl (by simp) fun h3 st => ?_
  refine st.st1 0 1 rfl (by simp) fun h4 st => ?_
  simp only [List.nil_append, List.set_cons_zero, List.set_cons_succ] at st
  rw [st.lds 0 1 rfl rfl]
  have e31 : IntKind.wrap .i64 ((r0.len : Int) + (1 : Int)) = ((M.length + 1 : Nat) : Int) := by rw [wrap_i64 (by omega) (by omega)]; omega
  simp only
  rw [e31]
  refine ⟨by omega, ?_⟩
  have hN1 : 9 ≤ (if (9 : Int) > n then (9 : Int) else n) := by split <;> omega
  have hN2 : (if (-9 : Int) < n then (-9 : Int) else n) ≤ -9 := by split <;> omega
  have hN3 : (if (-1 : Int) < n then (-1 : Int) else n) ≤ -1 := by split <;> omega
  generalize (if (9 : Int) > n then (9 : Int) else n) = N1 at *
  generalize (if (-9 : Int) < n then (-9 : Int) else n) = N2 at *
  generalize (if (-1 : Int) < n then (-1 : Int) else n) = N3 at *
  obtain ⟨a, rfl⟩ := Int.eq_ofNat_of_zero_le ha.1
  have ei : Int.tmod (IntKind.wrap .i64 (a : Int)) ((M.length + 1 : Nat) : Int) = ((a % (M.length + 1) : Nat) : Int) := by
    rw [wrap_i64 (by omega) (by omega), Int.tmod_eq_emod_of_nonneg (by omega)]; exact (Int.natCast_emod _ _).symm
  rw [ei]
  have hi : a % (M.length + 1) ≤ M.length := by have := Nat.mod_lt a (show M.length + 1 > 0 by omega); omega
  generalize a % (M.length + 1) = i at *
  refine st.nw fun b3 h5 st => ?_
  have st := (st.asSl 1 i64.enc [1, 0] rfl rfl).freeze 1 rfl
  simp only [List.nil_append, List.cons_append, List.set_cons_zero, List.set_cons_succ, List.eraseIdx_cons_zero, List.eraseIdx_cons_succ] at st
  refine st.nw fun b4 h6 st => ?_
  have st := (st.asSl 1 i64.enc [-2, N1] rfl rfl).freeze 1 rfl
  simp only [List.nil_append, List.cons_append, List.set_cons_zero, List.set_cons_succ, List.eraseIdx_cons_zero, List.eraseIdx_cons_succ] at st
  refine st.nw fun b5 h7 st => ?_
  have st := (st.asSl 1 i64.enc [N2] rfl rfl).freeze 1 rfl
  simp only [List.nil_append, List.cons_append, List.set_cons_zero, List.set_cons_succ, List.eraseIdx_cons_zero, List.eraseIdx_cons_succ] at st
  refine st.nw fun b6 h8 st => ?_
  have st := (st.asSl 1 Ty.sl.enc [(⟨some ⟨b3, 0, none⟩, 2, 2⟩ : Sl), ⟨some ⟨b4, 0, none⟩, 2, 2⟩, ⟨some ⟨b5, 0, none⟩, 1, 1⟩] rfl rfl).freeze 1 rfl
  simp only [List.nil_append, List.cons_append, List.set_cons_zero, List.set_cons_succ, List.eraseIdx_cons_zero, List.eraseIdx_cons_succ] at st
  obtain ⟨G, hG⟩ : ∃ G : List Asn, G = [llo M r0, lo [1, 0] ⟨some ⟨b3, 0, none⟩, 2, 2⟩, lo [-2, N1] ⟨some ⟨b4, 0, none⟩, 2, 2⟩, lo [N2] ⟨some ⟨b5, 0, none⟩, 1, 1⟩, osl ty_clauses_Clause Ty.sl.enc [(⟨some ⟨b3, 0, none⟩, 2, 2⟩ : Sl), ⟨some ⟨b4, 0, none⟩, 2, 2⟩, ⟨some ⟨b5, 0, none⟩, 1, 1⟩] ⟨some ⟨b6, 0, none⟩, 3, 3⟩] := ⟨_, rfl⟩
  have st : Hs [([], h)] G [cF b1 8 r0] h8 := by rw [hG]; exact st
  have g0 : G[0]? = some (llo M r0) := by rw [hG]; rfl
  have g4 : G[4]? = some (osl ty_clauses_Clause Ty.sl.enc [(⟨some ⟨b3, 0, none⟩, 2, 2⟩ : Sl), ⟨some ⟨b4, 0, none⟩, 2, 2⟩, ⟨some ⟨b5, 0, none⟩, 1, 1⟩] ⟨some ⟨b6, 0, none⟩, 3, 3⟩) := by rw [hG]; rfl
  have hbad : ∀ (k : Nat) (hk : k < 3), ∃ (bad : List Int) (g : Nat), G[g]? = some (lo bad ([(⟨some ⟨b3, 0, none⟩, 2, 2⟩ : Sl), ⟨some ⟨b4, 0, none⟩, 2, 2⟩, ⟨some ⟨b5, 0, none⟩, 1, 1⟩][k]'(by simpa using hk))) ∧ (rightC bad = true → bad.any (beyP 8) = true) ∧ (k = 0 → rightC bad = false) := by
    intro k hk
    match k, hk with
    | 0, _ => exact ⟨[1, 0], 1, by rw [hG]; rfl, fun q => absurd q (by decide), fun _ => by decide⟩
    | 1, _ => exact ⟨[-2, N1], 2, by rw [hG]; rfl, fun _ => by simp [bey_big (x := N1) (.inl hN1)], fun q => by omega⟩
    | 2, _ => exact ⟨[N2], 3, by rw [hG]; rfl, fun _ => by simp [bey_big (x := N2) (.inr hN2)], fun q => by omega⟩
  clear hG
  refine lfp_invh (I := fun μ σ h' => ∃ k : Nat, σ = ((k : Int), false, ()) ∧ k ≤ 3 ∧ Hs [([], h)] G [cF b1 8 r0] h' ∧ μ = 3 - k) ⟨_, 0, rfl, by omega, st, rfl⟩ ?_
  clear st
  rintro μ σ h9 X ⟨k, rfl, hk, st, em⟩ hX
  simp only
  by_cases hlt : k < 3
  · rw [decide_eq_true (show (k : Int) < 3 by omega), brB_true, inc_i (show k < 4611686018427387904 by omega)]
    refine rdE (τ := .sl) (s := ⟨some ⟨b6, 0, none⟩, 3, 3⟩) (st.fz 4 g4).rsl (show k < 3 from hlt) ?_
    obtain ⟨bad, g, hg, hb1, hb2⟩ := hbad k hlt
    generalize ([(⟨some ⟨b3, 0, none⟩, 2, 2⟩ : Sl), ⟨some ⟨b4, 0, none⟩, 2, 2⟩, ⟨some ⟨b5, 0, none⟩, 1, 1⟩][k]'(by simpa using hlt)) = p at *
    refine ldF (s := r0) (st.blk 0 rfl) ?_
    refine call_of (copy_c (n := 8) (llo_at (st.fz 0 g0)) (by omega) fun c hc => by have := rightC_len (hgood c hc).1; omega) ?_
    rintro _ h10 ⟨r12, rfl, n10, x10⟩
    have st := st.new x10 n10
    refine st.nw fun b13 h11 st => ?_
    simp only [addr_add, Nat.zero_add, List.nil_append, List.cons_append] at st ⊢
    refine st.st1 2 0 rfl (by simp) fun h12 st => ?_
    refine st.st1 2 1 rfl (by simp) fun h13 st => ?_
    simp only [List.set_cons_zero, List.set_cons_succ] at st
    rw [st.lds 2 1 rfl rfl]
    refine st.nw fun b15 h14 st => ?_
    simp only [List.nil_append, List.cons_append] at st
    refine Hs.insertClause (p := p) (x := bad) st 1 3 rfl rfl (by decide) rfl hi (by omega) fun ps r16 h15 st => ?_
    simp only [List.set_cons_zero, List.set_cons_succ, List.nil_append, List.cons_append] at st
    refine st.st1 2 1 rfl (by simp) fun h16 st => ?_
    simp only [List.set_cons_zero, List.set_cons_succ] at st
    have hL : ∀ {h' : Heap} {X : Asn} {Bs : List Asn}, Hs [([], h)] G (X :: osl ty_clauses_Clause Ty.sl.enc (ps.take i ++ p :: ps.drop i) r16 :: cl b13 ty_formula_Formula [.int .i64 8, .slice r16.a r16.len r16.cap] :: cl b15 ty_clauses_Clause [.slice p.a p.len p.cap] :: inn (fun c p => lo c p) M ps :: Bs) h' → At h' (lli (M.take i ++ bad :: M.drop i) r16) := fun st => ins_at (st.own 1 rfl) (st.own 4 rfl) (st.fz g hg)
    have hchk := check_bad hgood (by omega) hi hb1
    have tail : ∀ (want : Int) (h' : Heap), want = (if rightC bad then 51 else 20) → Hs [([], h)] G [cF b1 8 r0, osl ty_clauses_Clause Ty.sl.enc (ps.take i ++ p :: ps.drop i) r16, cl b13 ty_formula_Formula [.int .i64 8, .slice r16.a r16.len r16.cap], cl b15 ty_clauses_Clause [.slice p.a p.len p.cap], inn (fun c p => lo c p) M ps] h' →
       (ldA (.cons (.int .i64) (.cons .sl .nil)) (⟨b13, 0, none⟩ : Addr) fun x19 =>
        callT Try.prog fn_formula_Check #[(.agg #[(.int .i64 x19.1), (.slice x19.2.1.a x19.2.1.len x19.2.1.cap)])] (.tup (.cons (.int .i64) (.cons (.int .i64) .nil))) fun r20 =>
        ldA (.cons (.int .i64) (.cons .sl .nil)) (⟨b13, 0, none⟩ : Addr) fun x21 =>
        callT Try.prog fn_formula_Value #[(.agg #[(.int .i64 x21.1), (.slice x21.2.1.a x21.2.1.len x21.2.1.cap)]), (.slice none 0 0)] (.tup (.cons .bool (.cons (.int .i64) .nil))) fun r22 =>
        ldA (.cons (.int .i64) (.cons .sl .nil)) (⟨b13, 0, none⟩ : Addr) fun x23 =>
        callT Try.prog fn_formula_Norm #[(.agg #[(.int .i64 x23.1), (.slice x23.2.1.a x23.2.1.len x23.2.1.cap)])] (.tup (.cons (.agg (.cons (.int .i64) (.cons .sl .nil))) (.cons (.int .i64) .nil))) fun r24 =>
        nw #[(.int .i64 (0 : Int)), (.slice none 0 0)] ty_formula_Formula fun b25 =>
        st1 (⟨b25, 0, none⟩ : Addr) (.int .i64 r24.1.1) <|
        st1 (⟨b25, 1, none⟩ : Addr) (.slice r24.1.2.1.a r24.1.2.1.len r24.1.2.1.cap) <|
        ldA (.cons (.int .i64) (.cons .sl .nil)) (⟨b13, 0, none⟩ : Addr) fun x26 =>
        callT Try.prog fn_formula_Assign #[(.agg #[(.int .i64 x26.1), (.slice x26.2.1.a x26.2.1.len x26.2.1.cap)]), (.int .i64 (0 : Int))] (.tup (.cons (.agg (.cons (.int .i64) (.cons .sl .nil))) (.cons (.int .i64) .nil))) fun r27 =>
        nw #[(.int .i64 (0 : Int)), (.slice none 0 0)] ty_formula_Formula fun b28 =>
        st1 (⟨b28, 0, none⟩ : Addr) (.int .i64 r27.1.1) <|
        st1 (⟨b28, 1, none⟩ : Addr) (.slice r27.1.2.1.a r27.1.2.1.len r27.1.2.1.cap) <|
        ldA (.cons (.int .i64) (.cons .sl .nil)) (⟨b13, 0, none⟩ : Addr) fun x29 =>
        callT Try.prog fn_formula_Count #[(.agg #[(.int .i64 x29.1), (.slice x29.2.1.a x29.2.1.len x29.2.1.cap)])] (.tup (.cons (.int .i64) (.cons (.int .i64) .nil))) fun r30 =>
        brB (r20.1 != (i : Int)) (K false)
        (brB (r20.2.1 != want) (K false)
        (brB (r22.2.1 != r20.2.1) (K false)
        (brB (r24.2.1 != r20.2.1) (K false)
        (brB (r27.2.1 != r20.2.1) (K false)
        (brB (r30.2.1 != r20.2.1) (K false)
        (X (((k + 1 : Nat) : Int), false, ())))))))) h' := by
      intro want h' hw st
      have hwne : want ≠ 0 := by rw [hw]; split <;> decide
      rw [← hw] at hchk
      obtain ⟨t1, t2, t3, t4⟩ := wrong_tail (M := M) hwne hchk
      refine ldF (s := r16) (st.blk 2 rfl) ?_
      refine call_of (check_c (n := 8) (hL st)) ?_
      rintro _ h17 ⟨rfl, x17⟩
      have st := st.ext x17
      refine ldF (s := r16) (st.blk 2 rfl) ?_
      refine call_of (Value_c (n := 8) (sm := ⟨none, 0, 0⟩) (m := []) (hL st) ((osl_nil (t := 0) (enc := Ty.bool.enc) (a := none) 0 _).at.rsl)) ?_
      rintro _ h18 ⟨rfl, x18⟩
      have st := st.ext x18
      refine ldF (s := r16) (st.blk 2 rfl) ?_
      refine call_of (fnorm_c (n := 8) (hL st)) ?_
      rintro _ h19 ⟨r24, rfl, n19, x19⟩
      have st := st.ext x19
      refine st.nw fun b25 h20 st => ?_
      simp only [List.nil_append, List.cons_append] at st
      refine st.st1 5 0 rfl (by simp) fun h21 st => ?_
      refine st.st1 5 1 rfl (by simp) fun h22 st => ?_
      simp only [List.set_cons_zero, List.set_cons_succ] at st
      refine ldF (s := r16) (st.blk 2 rfl) ?_
      refine call_of (assign_c (n := 8) (hL st) 0) ?_
      rintro _ h23 ⟨r27, rfl, n23, x23⟩
      have st := st.ext x23
      refine st.nw fun b28 h24 st => ?_
      simp only [List.nil_append, List.cons_append] at st
      refine st.st1 6 0 rfl (by simp) fun h25 st => ?_
      refine st.st1 6 1 rfl (by simp) fun h26 st => ?_
      simp only [List.set_cons_zero, List.set_cons_succ] at st
      refine ldF (s := r16) (st.blk 2 rfl) ?_
      refine call_of (count_c (n := 8) (hL st)) ?_
      rintro _ h27 ⟨rfl, x27⟩
      have st := st.ext x27
      simp only [hchk, t1, t2, t3, t4]
      rw [show ((i : Int) != (i : Int)) = false by simp, brB_false, show (want != want) = false by simp, brB_false, brB_false, brB_false, brB_false, brB_false]
      refine hX _ _ _ ⟨k + 1, rfl, by omega, ?_, rfl⟩ (by omega)
      have st := (((((st.drop 6 rfl).drop 5 rfl).drop 4 rfl).drop 3 rfl).drop 2 rfl).drop 1 rfl
      exact st
    by_cases hk0 : k = 0
    · rw [show ((k : Int) == 0) = true by rw [hk0]; rfl, brB_true]
      refine jn_in fun J hJ => hJ _ _ (tail 20 _ (by rw [hb2 hk0]; rfl) st)
    · rw [show ((k : Int) == 0) = false by rw [beq_eq_false_iff_ne]; omega, brB_false]
      refine call_of (right_c (st.fz g hg).rsl) ?_
      rintro _ h17 ⟨rfl, x17⟩
      have st := st.ext x17
      refine jn_in fun J hJ => ?_
      cases hr : rightC bad with
      | false =>
        rw [Bool.not_false, brB_true]
        exact hJ _ _ (tail 20 _ (by rw [hr]; rfl) st)
      | true =>
        rw [Bool.not_true, brB_false]
        exact hJ _ _ (tail 51 _ (by rw [hr]; rfl) st)
  rw [decide_eq_false (show ¬ (k : Int) < 3 by omega), brB_false]
  clear hX X em hlt hk hbad
  have hchk0 : (checkP 8 M).2 = 0 := check_good.2 hG8
  refine ldF (s := r0) (st.blk 0 rfl) ?_
  refine Hs.mks1 (n := 7) (τ := .bool) (z := false) st (by decide) (by decide) fun s47 h10 st => ?_
  simp only [List.nil_append, List.cons_append] at st
  refine call_of (Value_c (n := 8) (llo_at (st.fz 0 g0)) (st.own 1 rfl).rsl) ?_
  rintro _ h11 ⟨rfl, x11⟩
  have st := (st.ext x11).drop 1 rfl
  simp only [List.eraseIdx_cons_zero, List.eraseIdx_cons_succ] at st
  refine ldF (s := r0) (st.blk 0 rfl) ?_
  refine Hs.mks1 (n := 9) (τ := .bool) (z := false) st (by decide) (by decide) fun s50 h12 st => ?_
  simp only [List.nil_append, List.cons_append] at st
  refine call_of (Fails_c (n := 8) (llo_at (st.fz 0 g0)) (st.own 1 rfl).rsl) ?_
  rintro _ h13 ⟨rfl, x13⟩
  have st := (st.ext x13).drop 1 rfl
  simp only [List.eraseIdx_cons_zero, List.eraseIdx_cons_succ] at st
  refine ldF (s := r0) (st.blk 0 rfl) ?_
  refine call_of (assign_c (n := 8) (llo_at (st.fz 0 g0)) N1) ?_
  rintro _ h14 ⟨r53, rfl, n14, x14⟩
  have st := st.ext x14
  refine st.nw fun b54 h15 st => ?_
  simp only [addr_add, Nat.zero_add, List.nil_append, List.cons_append] at st ⊢
  refine st.st1 1 0 rfl (by simp) fun h16 st => ?_
  refine st.st1 1 1 rfl (by simp) fun h17 st => ?_
  have st := st.drop 1 rfl
  simp only [List.set_cons_zero, List.set_cons_succ, List.eraseIdx_cons_zero, List.eraseIdx_cons_succ] at st
  refine ldF (s := r0) (st.blk 0 rfl) ?_
  refine call_of (assign_c (n := 8) (llo_at (st.fz 0 g0)) 0) ?_
  rintro _ h18 ⟨r56, rfl, n18, x18⟩
  have st := st.ext x18
  refine st.nw fun b57 h19 st => ?_
  simp only [addr_add, Nat.zero_add, List.nil_append, List.cons_append] at st ⊢
  refine st.st1 1 0 rfl (by simp) fun h20 st => ?_
  refine st.st1 1 1 rfl (by simp) fun h21 st => ?_
  have st := st.drop 1 rfl
  simp only [List.set_cons_zero, List.set_cons_succ, List.eraseIdx_cons_zero, List.eraseIdx_cons_succ] at st
  refine st.nw fun b58 h22 st => ?_
  have st := st.asSl 1 i64.enc [1, N2] rfl rfl
  simp only [List.nil_append, List.cons_append, List.set_cons_zero, List.set_cons_succ] at st
  refine call_of (fmodel_c (n := 8) (c := [1, N2]) (s := ⟨some ⟨b58, 0, none⟩, 2, 2⟩) (st.own 1 rfl).rsl (by simp)) ?_
  rintro _ h23 ⟨r59, rfl, n23, x23⟩
  have st := (st.ext x23).drop 1 rfl
  simp only [List.eraseIdx_cons_zero, List.eraseIdx_cons_succ] at st
  refine call_of (fmodel_c (n := N3) (c := []) (s := ⟨none, 0, 0⟩) nil_li (by decide)) ?_
  rintro _ h24 ⟨r60, rfl, n24, x24⟩
  have st := st.ext x24
  refine st.st1 0 0 rfl (by simp) fun h25 st => ?_
  simp only [List.set_cons_zero] at st
  refine ldF (s := r0) (st.blk 0 rfl) ?_
  refine call_of (check_c (n := N3) (llo_at (st.fz 0 g0))) ?_
  rintro _ h26 ⟨rfl, x26⟩
  have st := st.ext x26
  have f1 : failsP 8 M (List.replicate 7 false) = (0, false, 52) := by unfold failsP; rw [if_neg (by simp [hchk0]), if_pos (by decide)]
  have v1 : (valueP 8 M (List.replicate 7 false)).2 = 52 := by unfold valueP; rw [f1]
  have v2 : (failsP 8 M (List.replicate 9 false)).2.2 = 52 := by unfold failsP; rw [if_neg (by simp [hchk0]), if_pos (by decide)]
  have v3 : (assignF 8 M N1).2 = 51 := by unfold assignF; rw [if_neg (by simp [hchk0]), if_pos (bey_big (.inl hN1))]
  have v4 : (assignF 8 M 0).2 = 51 := by unfold assignF; rw [if_neg (by simp [hchk0]), if_pos (by rfl)]
  have v5 : (modelF 8 [1, N2]).2 = 51 := by
    unfold modelF
    rw [if_pos (by rfl), modelGo_cons, if_neg (by decide), if_neg (by decide), modelGo_cons, if_pos (bey_big (.inr hN2))]
  have hv : varsP N3 = false := by unfold varsP; rw [decide_eq_false (show ¬ N3 ≥ 0 by omega)]; rfl
  have v6 : (modelF N3 []).2 = 50 := by unfold modelF; rw [if_neg (by rw [hv]; decide)]
  have v7 : checkP N3 M = (-1, 50) := by unfold checkP; rw [if_neg (by rw [hv]; decide)]
  simp only [v1, v2, v3, v4, v5, v6, v7]
  show (brB true (brB true (brB true (brB true (brB true (brB true (brB true (brB true _ _) _) _) _) _) _) _) _) h26
  rw [brB_true, brB_true, brB_true, brB_true, brB_true, brB_true, brB_true, brB_true]
  refine call_of fawake_c ?_
  rintro _ h27 ⟨rfl, x27⟩
  exact hK _ _ ⟨rfl, (st.ext x27).frame (by simp)⟩

end Go.Proofs.S
