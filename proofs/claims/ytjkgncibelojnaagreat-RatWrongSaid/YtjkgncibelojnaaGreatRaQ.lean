/-
  RatWrong.
-/
import Derived.Test.YtjkgncibelojnaaGreatRaP
set_option linter.unusedVariables false
set_option linter.unusedSimpArgs false
namespace Go.Proofs.S
open Go Go.Sx Go.Proofs Go.Cl Go.Rp Go.Rt

variable {h : Heap} {c d A f ids : List Int} {l bad : List Ent} {cs : List (List Int)} {gs us vs : List Grp} {s s2 s3 s4 sc sa sb : Sl} {fr : Fr} {G As : List Asn} {id p n a2 : Int} {i k : Nat} {b m : Nat}

set_option maxRecDepth 100000 in
def TwTl (sa : Sl) (n a2 : Int) (sb : Sl) (K : Bool → HP) : HP :=
 nw #[(.int .i64 n)] ty_lits_Lit fun b12 =>
 callT Tryz.prog fn_rat_Find #[(.slice sb.a sb.len sb.cap), (.int .i64 a2)] (.tup (.cons (.int .i64) (.cons .bool (.cons (.int .i64) .nil)))) fun r13 =>
 callT Tryz.prog fn_rat_Candidates #[(.slice sb.a sb.len sb.cap), (.int .i64 n)] (.tup (.cons .sl (.cons (.int .i64) .nil))) fun r14 =>
 callT Tryz.prog fn_rat_Check #[(.slice sb.a sb.len sb.cap), (.agg #[(.slice (some (⟨b12, 0, none⟩ : Addr)) 1 1), (.slice none 0 0), (.slice none 0 0)])] (.tup (.cons (.int .u8) (.cons (.int .i64) (.cons (.int .i64) .nil)))) fun r15 =>
 callT Tryz.prog fn_rat_Search #[(.slice sb.a sb.len sb.cap), (.slice (some (⟨b12, 0, none⟩ : Addr)) 1 1)] (.tup (.cons (.agg (.cons .sl (.cons .sl (.cons .sl .nil)))) (.cons (.int .u8) (.cons .bool (.cons (.int .i64) .nil))))) fun r16 =>
 nw #[(.slice none 0 0), (.slice none 0 0), (.slice none 0 0)] ty_rat_Step fun b17 =>
 st1 (⟨b17, 0, none⟩ : Addr) (.slice r16.1.1.a r16.1.1.len r16.1.1.cap) <|
 st1 ((⟨b17, 0, none⟩ : Addr).add 1) (.slice r16.1.2.1.a r16.1.2.1.len r16.1.2.1.cap) <|
 st1 ((⟨b17, 0, none⟩ : Addr).add 2) (.slice r16.1.2.2.1.a r16.1.2.2.1.len r16.1.2.2.1.cap) <|
 nw #[(.int .i64 r13.2.2.1), (.int .i64 r14.2.1), (.int .i64 r15.2.2.1), (.int .i64 r16.2.2.2.1)] ty_api_Errno fun b18 =>
 lfp (σ := (Int × (Bool × Unit))) (fun X19 s20 => 
 brB (decide (s20.1 < (4 : Int)))
 (sx (some (⟨b18, 0, none⟩ : Addr)) 4 s20.1 1 fun p21 =>
 ldT (.int .i64) p21 fun x22 =>
 brB (x22 != (90 : Int))
 (K false)
 (X19 ((IntKind.wrap .i64 (s20.1 + (1 : Int))), s20.2.1, ())))
 (callT Tryz.prog fn_rat_Right #[(.slice sb.a sb.len sb.cap)] .bool fun r23 =>
 jn (σ := Bool) (fun t25 =>
 jn (σ := Bool) (fun t27 =>
 jn (σ := Bool) (fun t29 =>
 jn (σ := Bool) (fun t31 =>
 jn (σ := Bool) (fun t33 =>
 jn (σ := Bool) (fun t35 =>
 brB t35
 (K false)
 (callT Tryz.prog fn_rat_Candidates #[(.slice sa.a sa.len sa.cap), (.int .i64 n)] (.tup (.cons .sl (.cons (.int .i64) .nil))) fun r36 =>
 callT Tryz.prog fn_rat_Check #[(.slice sa.a sa.len sa.cap), (.agg #[(.slice (some (⟨b12, 0, none⟩ : Addr)) 1 1), (.slice none 0 0), (.slice none 0 0)])] (.tup (.cons (.int .u8) (.cons (.int .i64) (.cons (.int .i64) .nil)))) fun r37 =>
 callT Tryz.prog fn_rat_Search #[(.slice sa.a sa.len sa.cap), (.slice (some (⟨b12, 0, none⟩ : Addr)) 1 1)] (.tup (.cons (.agg (.cons .sl (.cons .sl (.cons .sl .nil)))) (.cons (.int .u8) (.cons .bool (.cons (.int .i64) .nil))))) fun r38 =>
 jn (σ := Bool) (fun t40 =>
 jn (σ := Bool) (fun t42 =>
 brB t42
 (K false)
 (nw #[(.int .i64 (9 : Int)), (.int .i64 (10 : Int))] ty_lits_Lit fun b43 =>
 nw #[(.int .i64 (if (IntKind.wrap .i64 ((sa.len : Int) + (1 : Int))) > a2 then (IntKind.wrap .i64 ((sa.len : Int) + (1 : Int))) else a2))] ty_int fun b44 =>
 callT Tryz.prog fn_rat_Check #[(.slice sa.a sa.len sa.cap), (.agg #[(.slice (some (⟨b43, 0, none⟩ : Addr)) 2 2), (.slice (some (⟨b44, 0, none⟩ : Addr)) 1 1), (.slice none 0 0)])] (.tup (.cons (.int .u8) (.cons (.int .i64) (.cons (.int .i64) .nil)))) fun r45 =>
 callT Tryz.prog fn_rat_Check #[(.slice sa.a sa.len sa.cap), (.agg #[(.slice none 0 0), (.slice none 0 0), (.slice none 0 0)])] (.tup (.cons (.int .u8) (.cons (.int .i64) (.cons (.int .i64) .nil)))) fun r46 =>
 jn (σ := Bool) (fun t48 =>
 jn (σ := Bool) (fun t50 =>
 jn (σ := Bool) (fun t52 =>
 jn (σ := Bool) (fun t54 =>
 jn (σ := Bool) (fun t56 =>
 K t56)
 (fun J55 =>
 brB t54
 (J55 ((r46.2.2.1 == (82 : Int))))
 (J55 false)))
 (fun J53 =>
 brB t52
 (J53 ((r46.2.1 == (0 : Int))))
 (J53 false)))
 (fun J51 =>
 brB t50
 (J51 ((r46.1 == (0 : Int))))
 (J51 false)))
 (fun J49 =>
 brB t48
 (J49 ((r45.2.2.1 == (91 : Int))))
 (J49 false)))
 (fun J47 =>
 brB (r45.1 == (0 : Int))
 (J47 ((r45.2.1 == (if (IntKind.wrap .i64 ((sa.len : Int) + (1 : Int))) > a2 then (IntKind.wrap .i64 ((sa.len : Int) + (1 : Int))) else a2))))
 (J47 false))))
 (fun J41 =>
 brB t40
 (J41 true)
 (J41 ((r38.2.2.2.1 != (20 : Int))))))
 (fun J39 =>
 brB (r36.2.1 != (10 : Int))
 (J39 true)
 (J39 ((r37.2.2.1 != (20 : Int)))))))
 (fun J34 =>
 brB t33
 (J34 true)
 (callT Tryz.prog fn_rat_Right #[(.slice sa.a sa.len sa.cap)] .bool fun r57 =>
 J34 ((!r57)))))
 (fun J32 =>
 brB t31
 (J32 true)
 (J32 ((r15.2.1 != (0 : Int))))))
 (fun J30 =>
 brB t29
 (J30 true)
 (J30 ((r15.1 != (0 : Int))))))
 (fun J28 =>
 brB t27
 (J28 true)
 (J28 (((r14.1.len : Int) != (0 : Int))))))
 (fun J26 =>
 brB t25
 (J26 true)
 (J26 (r16.2.2.1))))
 (fun J24 =>
 brB r23
 (J24 true)
 (J24 (r13.2.1)))))
 ((0 : Int), false, ())

theorem wrong_all {far : Int} (hE : rightE l = true) (hn : rt n = false) (hf : ∀ x ∈ l, x.1 ≠ far) :
    candsA l n = ([], 10) ∧ checkS l ⟨[n], [], []⟩ = (0, 0, 20) ∧ (searchP l [n]).2.2.2 = 20 ∧ checkS l ⟨[9, 10], [far], []⟩ = (0, far, 91) ∧ checkS l ⟨[], [], []⟩ = (0, 0, 82) := by
  have hr : rightC [n] = false := by unfold rightC; simp [hn]
  refine ⟨by unfold candsA; rw [hE, hn]; rfl, by unfold checkS; rw [hE]; simp only; rw [hr]; rfl, ?_, ?_, ?_⟩
  · have : (findP [n] (clsE l)).2.2 = 20 := by unfold findP; rw [hr]; simp
    rw [search20 hE this]
  · unfold checkS
    have e : followR l (negs [9, 10]) [far] = ([], false, far, 91) := by
      rw [followR, lookE_no hf]
    simp only [hE, e]
    rfl
  · unfold checkS
    simp only [hE]
    rfl
theorem bad_all (hE : rightE l = false) (id : Int) (c : List Int) (st : Stp) : findA l id = (0, false, 90) ∧ candsA l id = ([], 90) ∧ checkS l st = (0, 0, 90) ∧ searchP l c = (⟨[], [], []⟩, 0, false, 90) := by
  refine ⟨by unfold findA; rw [hE]; rfl, by unfold candsA; rw [hE]; rfl, by unfold checkS; rw [hE]; rfl, by unfold searchP; rw [hE]; rfl⟩

set_option maxRecDepth 20000 in
set_option maxHeartbeats 2000000 in
theorem twTl_c {K : Bool → HP} (hA : At h (ent l sa)) (hB : At h (ent bad sb)) (hE : rightE l = true) (hb : rightE bad = false) (hll : l.length ≤ 100) (hbl : bad.length ≤ 100) (hfu : fuelE l ≤ 500000) (hfb : fuelE bad ≤ 500000) (hn : rt n = false)
    (hid : ∀ x ∈ l, x.1 ≤ l.length) (hK : ∀ h', Ext [] h h' → K true h') : TwTl sa n a2 sb K h := by
  unfold TwTl
  obtain ⟨far, hfar⟩ : ∃ far : Int, far = if ((l.length : Int) + 1) > a2 then (l.length : Int) + 1 else a2 := ⟨_, rfl⟩
  have hff : ∀ x ∈ l, x.1 ≠ far := fun x hx => by have := hid x hx; rw [hfar]; split <;> omega
  obtain ⟨q1, q2, q3, q4, q5⟩ := wrong_all (far := far) hE hn hff
  obtain ⟨b1, b2, b3, b4⟩ := bad_all hb a2 [n] ⟨[n], [], []⟩
  obtain ⟨_, b5, _, _⟩ := bad_all hb n [n] ⟨[n], [], []⟩
  have la := rsp_len hA
  have st := Hs.start h [ent l sa, ent bad sb] (by simp [hA, hB])
  refine Hs.lit st [n] 1 rfl rfl fun b12 h1 st => ?_
  simp only [List.nil_append, List.cons_append] at st
  refine call_of (ratFind_c (st.fz 1 rfl) (by omega) a2) ?_
  rintro _ h2 ⟨rfl, x2⟩
  have st := st.ext x2
  refine call_of (Candidates_c (st.fz 1 rfl) (by omega) n) ?_
  rintro _ h3 ⟨s14, rfl, n14, x3⟩
  have st := st.ext x3
  rw [b5] at n14 ⊢
  have l14 : s14.len = 0 := rsl_len n14.at.rsl
  refine call_of (RatCheck_c (st.fz 1 rfl) (st.fz 2 rfl) nil_li (nil_ent _) (by omega) (by simp) (by decide) (by decide) (by simp)) ?_
  rintro _ h4 ⟨rfl, x4⟩
  have st := st.ext x4
  refine call_of (Search_c (st.fz 1 rfl) (st.fz 2 rfl) (by omega) (by simp) hfb) ?_
  rintro _ h5 ⟨sL, sH, sG, rfl, nL, nH, nG, x5⟩
  have st := st.ext x5
  rw [b1, b3, b4]
  simp only
  refine st.nw fun b17 h6 st => ?_
  simp only [List.nil_append, List.cons_append, addr_add, Nat.zero_add] at st ⊢
  refine st.st1 0 0 rfl (by simp) fun h6 st => ?_
  refine st.st1 0 1 rfl (by simp) fun h6 st => ?_
  refine st.st1 0 2 rfl (by simp) fun h6 st => ?_
  have st := st.drop 0 rfl
  simp only [List.set_cons_zero, List.set_cons_succ, List.eraseIdx_cons_zero] at st
  refine Hs.lit st [90, 90, 90, 90] 4 rfl rfl fun b18 h7 st => ?_
  simp only [List.nil_append, List.cons_append] at st
  refine lfp_invh (I := fun m σ h' => ∃ (i : Nat) (x : Bool), σ = ((i : Int), x, ()) ∧ i ≤ 4 ∧ Hs [([], h)] [ent l sa, ent bad sb, li [n] ⟨some ⟨b12, 0, none⟩, 1, 1⟩, li [90, 90, 90, 90] ⟨some ⟨b18, 0, none⟩, 4, 4⟩] [] h' ∧ m = 4 - i) ⟨_, 0, false, rfl, by omega, st, rfl⟩ ?_
  clear st
  rintro m σ h8 X ⟨i, x, rfl, hi, st, rfl⟩ hX
  simp only
  by_cases hlt : i < 4
  · refine brT (decide_eq_true (by omega)) ?_
    refine rdE (τ := i64) (s := ⟨some ⟨b18, 0, none⟩, 4, 4⟩) (i := i) (st.fz 3 rfl) hlt ?_
    have e : ([90, 90, 90, 90] : List Int)[i] = 90 := by
      match i, hlt with
      | 0, _ => rfl
      | 1, _ => rfl
      | 2, _ => rfl
      | 3, _ => rfl
    rw [e, inc_i (by omega)]
    exact brF rfl (hX _ _ _ ⟨i + 1, x, rfl, by omega, st, rfl⟩ (by omega))
  refine brF (decide_eq_false (by omega)) ?_
  clear hX
  refine call_of (ratRight_c (st.fz 1 rfl) (by omega)) ?_
  rintro _ h9 ⟨rfl, x9⟩
  have st := st.ext x9
  rw [hb, l14]
  refine jn_in fun J hJ => brF rfl (hJ _ _ ?_)
  clear J hJ
  refine jn_in fun J hJ => brF rfl (hJ _ _ ?_)
  clear J hJ
  refine jn_in fun J hJ => brF rfl (hJ _ _ ?_)
  clear J hJ
  refine jn_in fun J hJ => brF rfl (hJ _ _ ?_)
  clear J hJ
  refine jn_in fun J hJ => brF rfl (hJ _ _ ?_)
  clear J hJ
  refine jn_in fun J hJ => brF rfl ?_
  refine call_of (ratRight_c (st.fz 0 rfl) (by omega)) ?_
  rintro _ h10 ⟨rfl, x10⟩
  have st := st.ext x10
  rw [hE]
  refine hJ _ _ (brF rfl ?_)
  clear J hJ
  refine call_of (Candidates_c (st.fz 0 rfl) (by omega) n) ?_
  rintro _ h11 ⟨s36, rfl, n36, x11⟩
  have st := st.ext x11
  rw [q1]
  refine call_of (RatCheck_c (st.fz 0 rfl) (st.fz 2 rfl) nil_li (nil_ent _) (by omega) (by simp) (by decide) (by decide) (by simp)) ?_
  rintro _ h12 ⟨rfl, x12⟩
  have st := st.ext x12
  refine call_of (Search_c (st.fz 0 rfl) (st.fz 2 rfl) (by omega) (by simp) hfu) ?_
  rintro _ h13 ⟨sL2, sH2, sG2, rfl, _, _, _, x13⟩
  have st := st.ext x13
  rw [q2, q3]
  refine jn_in fun J hJ => brF rfl (hJ _ _ ?_)
  clear J hJ
  refine jn_in fun J hJ => brF rfl (hJ _ _ (brF rfl ?_))
  clear J hJ
  have efar : (if (IntKind.wrap .i64 ((sa.len : Int) + (1 : Int))) > a2 then (IntKind.wrap .i64 ((sa.len : Int) + (1 : Int))) else a2) = far := by
    rw [la, wrap_i64 (by omega) (by omega), hfar]
  rw [efar]
  refine Hs.lit st [9, 10] 2 rfl rfl fun b43 h14 st => ?_
  refine Hs.lit st [far] 1 rfl rfl fun b44 h15 st => ?_
  simp only [List.nil_append, List.cons_append] at st
  refine call_of (RatCheck_c (st.fz 0 rfl) (st.fz 4 rfl) (st.fz 5 rfl) (nil_ent _) (by omega) (by decide) (by simp) (by decide) (by simp)) ?_
  rintro _ h16 ⟨rfl, x16⟩
  have st := st.ext x16
  refine call_of (RatCheck_c (st.fz 0 rfl) nil_li nil_li (nil_ent _) (by omega) (by decide) (by decide) (by decide) (by simp)) ?_
  rintro _ h17 ⟨rfl, x17⟩
  have st := st.ext x17
  rw [q4, q5]
  simp only
  refine jn_in fun J hJ => brT rfl (hJ _ _ ?_)
  clear J hJ
  refine jn_in fun J hJ => brT (by simp) (hJ _ _ ?_)
  clear J hJ
  refine jn_in fun J hJ => brT rfl (hJ _ _ ?_)
  clear J hJ
  refine jn_in fun J hJ => brT rfl (hJ _ _ ?_)
  clear J hJ
  exact jn_in fun J hJ => brT rfl (hJ _ _ (hK _ (st.frame (by simp))))

def badE (k : Nat) (len n a2 : Int) : Ent :=
  (if k = 0 then len else if k = 1 then (if 0 < a2 then 0 else a2) else if k = 2 then (if 1073741825 > a2 then 1073741825 else a2) else len + 1, if k = 3 then [1, n] else [])
def badR (k : Nat) (len n a2 : Int) (q : Sl) : tPr.T := ((badE k len n a2).1, if k = 3 then q else ⟨none, 0, 0⟩, ())
theorem rightE_pos (hE : rightE l = true) : ∀ x ∈ l, 0 < x.1 := (rightE_sorted hE).2
theorem rightE_max : rightE l = true → ∀ x ∈ l, x.1 ≤ maxID := fun h => by
  unfold rightE at h
  rw [Bool.and_eq_true] at h
  have key : ∀ {l : List Ent} {last : Int}, rightGo last l = true → ∀ x ∈ l, x.1 ≤ maxID := by
    intro l
    induction l with
    | nil => intro last h x hx; simp at hx
    | cons y l ih =>
      intro last h x hx
      simp only [rightGo, Bool.and_eq_true, decide_eq_true_eq] at h
      rcases List.mem_cons.1 hx with rfl | hx
      · exact h.1.1.2
      · exact ih h.2 x hx
  exact key h.1
set_option maxRecDepth 20000 in
theorem bad_wrong (hk : k < 4) (hn : rt n = false) : rightE (numE cs ++ [badE k (cs.length : Int) n a2]) = false := by
  cases hb : rightE (numE cs ++ [badE k (cs.length : Int) n a2]) with
  | false => rfl
  | true =>
    exfalso
    have h1 := rightE_pos hb (badE k cs.length n a2) (by simp)
    have h2 := rightE_max hb (badE k cs.length n a2) (by simp)
    have h3 := rightE_lits hb (badE k cs.length n a2) (by simp)
    unfold maxID at h2
    have hk4 : k = 0 ∨ k = 1 ∨ k = 2 ∨ k = 3 := by omega
    rcases hk4 with rfl | rfl | rfl | rfl
    · by_cases h0 : cs.length = 0
      · simp [badE, h0] at h1
      · have := rightE_mono hb (cs.length - 1) cs.length (by simp [numE_len]) (by omega)
        have ll := numE_len (cs := cs)
        rw [List.getElem_append_left (by omega), numE_at (by omega), List.getElem_append_right (by omega)] at this
        simp only [ll, Nat.sub_self, List.getElem_cons_zero] at this
        simp [badE] at this
        omega
    · simp only [badE] at h1
      rw [if_neg (by decide), if_pos trivial] at h1
      split at h1 <;> omega
    · simp only [badE] at h2
      rw [if_neg (by decide), if_neg (by decide), if_pos trivial] at h2
      split at h2 <;> omega
    · simp only [badE] at h3
      rw [if_pos trivial] at h3
      unfold rightC at h3
      simp [hn] at h3

theorem rowAt {t : TypeId} {xs : List tPr.T} {K : Addr → tPr.T → HP} (hb : Blk h b t (xs.map tPr.vals).flatten) {m : Nat} (hm : m = xs.length) (hi : i < xs.length)
    (hK : (∀ h' X, Blk h' b t (xs.map tPr.vals).flatten → X h' → ckA ⟨b, i * 2, none⟩ (tPr.vals xs[i]) X h') → K ⟨b, i * 2, none⟩ xs[i] h) : sx (some ⟨b, 0, none⟩) m (i : Int) 2 (fun p => ldA tPr p fun x => K p x) h := by
  subst hm
  have hfl := flat_len widePr xs
  have cellsOk : ∀ h', Blk h' b t (xs.map tPr.vals).flatten → CellsAt h' ⟨b, i * 2, none⟩ 0 (tPr.vals xs[i]) := fun h' hb' => by
    refine CellsAt_blk' _ hb' 0 fun j hj => ?_
    rw [Nat.add_zero, List.getElem?_eq_getElem hj]
    have := flat_get widePr (List.getElem?_eq_getElem hi) [] (List.getElem?_eq_getElem hj)
    rw [List.append_nil] at this; exact this
  refine ⟨_, rfl, Int.natCast_nonneg _, Int.ofNat_lt.2 hi, ?_⟩
  rw [Int.toNat_natCast, addr_add, Nat.zero_add]
  exact ⟨xs[i], cellsOk h hb, hK fun h' X hb' hX => ⟨cellsOk h' hb', hX⟩⟩

theorem cloneE_rat {K : Sl → HP} {ps : List tPr.T} (st : Hs fr G As h) (hy : At h (rsn 2 tPr.vals ps s)) (hlen : ps.length ≤ 1048576) (hK : ∀ s' h', Hs fr G (As ++ [osn ty_rat_Entry 2 tPr.vals ps s']) h' → K s' h') :
    callT Tryz.prog fn_slices_Clone_rat_Entry_rat_Entry #[.slice s.a s.len s.cap] .sl K h :=
  S_slices_Clone_rat_Entry_rat_Entry (a0 := s) K (Hs.cloneN (t := ty_rat_Entry) (by_ := 32) (z := #[.int .i64 0, .slice none 0 0]) st widePr (by decide) hy (fun x u hu => by
    have hu : u ∈ [Value.int .i64 x.1, .slice x.2.1.a x.2.1.len x.2.1.cap] := hu
    simp only [List.mem_cons, List.not_mem_nil, or_false] at hu
    rcases hu with rfl | rfl <;> rfl) (by omega) (by decide) rfl hK)
theorem leafPr (x : tPr.T) : ∀ u ∈ tPr.vals x, leafB u = true := fun u hu => by
  have hu : u ∈ [Value.int .i64 x.1, .slice x.2.1.a x.2.1.len x.2.1.cap] := hu
  simp only [List.mem_cons, List.not_mem_nil, or_false] at hu
  rcases hu with rfl | rfl <;> rfl

set_option maxRecDepth 20000 in
set_option maxHeartbeats 1000000 in
theorem ratWrong_F {a1 : Int} (hA : At h (ll8 cs s)) (k0 : 0 ≤ a1) (k1 : a1 ≤ 255) (K : Bool → HP) (hK : ∀ x h', (x = true ∧ Ext [] h h') → K x h') : F_salvorlaw09_RatWrong s a1 a2 K h := by
  unfold F_salvorlaw09_RatWrong
  refine call_of (awake9_c h) ?_
  rintro _ h0 ⟨rfl, x0⟩
  refine brF rfl ?_
  refine call_of (Made9_c (m := 8) (hA.ext x0) (by decide)) ?_
  rintro sa h1 ⟨_, _, _, nE, x1⟩
  have hE := made_right cs 8 (by decide)
  have hfu := made_fuel cs 8 (by decide)
  have hml := allR_len cs 8
  have hmm : ∀ c ∈ allR cs 8, c.length ≤ 6 := fun c hc => by
    obtain ⟨d, rfl⟩ := allR_mem hc
    exact madeR_len d
  generalize allR cs 8 = ds at *
  have x01 := x0.nil_trans x1
  have hE1 := nE.at
  have lE := rsp_len hE1
  rw [numE_len] at lE
  obtain ⟨ps, lps, hps, hrow⟩ := rsp_open hE1
  rw [numE_len] at lps
  have st := Hs.start h1 [ent (numE ds) sa, rsn 2 tPr.vals ps sa] (by simp [hE1, hps])
  refine call_of (lits_Right_c a2) ?_
  rintro _ h2 ⟨rfl, e⟩; subst e
  refine jn_mid (M := fun m h' => h' = h2 ∧ rt m.1 = false) ?_ ?_
  rotate_left
  · intro J hJ
    cases hr : rt a2 with
    | true => exact brT rfl (hJ _ _ ⟨rfl, rfl⟩)
    | false => exact brF rfl (hJ _ _ ⟨rfl, hr⟩)
  rintro ⟨n, ⟨⟩⟩ h3 ⟨e, hn⟩
  subst e
  simp only at hn ⊢
  refine ⟨by decide, ?_⟩
  obtain ⟨k, hk⟩ : ∃ k : Nat, k = a1.toNat % 4 := ⟨_, rfl⟩
  have hk4 : k < 4 := by omega
  have ei : Int.tmod a1 4 = (k : Int) := by rw [Int.tmod_eq_emod_of_nonneg k0]; omega
  rw [ei]
  have hbad := bad_wrong (cs := ds) (a2 := a2) hk4 hn
  have elen : IntKind.wrap .i64 ((sa.len : Int) + 1) = (ds.length : Int) + 1 := by rw [lE, wrap_i64 (by omega) (by omega)]
  have elen0 : (sa.len : Int) = (ds.length : Int) := by rw [lE]
  -- the rows, by the place of the last one's literals
  obtain ⟨rows, hrows⟩ : ∃ rows : Sl → List tPr.T, rows = fun q => [((sa.len : Int), ⟨none, 0, 0⟩, ()), ((if 0 < a2 then 0 else a2), ⟨none, 0, 0⟩, ()), ((if 1073741825 > a2 then 1073741825 else a2), ⟨none, 0, 0⟩, ()), (IntKind.wrap .i64 ((sa.len : Int) + 1), q, ())] := ⟨_, rfl⟩
  have rl : ∀ q, (rows q).length = 4 := fun q => by rw [hrows]; rfl
  have rat : ∀ q (hi : k < (rows q).length), (rows q)[k] = badR k (ds.length : Int) n a2 q := fun q hi => by
    subst hrows
    unfold badR badE
    have : k = 0 ∨ k = 1 ∨ k = 2 ∨ k = 3 := by omega
    rcases this with rfl | rfl | rfl | rfl
    · show ((sa.len : Int), _, ()) = _
      rw [elen0]; rfl
    · rfl
    · rfl
    · show (IntKind.wrap .i64 ((sa.len : Int) + 1), _, ()) = _
      rw [elen]; rfl
  have tail : ∀ (q sb : Sl) h' G' As', Hs [([], h3)] G' As' h' → li [1, n] q ∈ G' → At h' (rsn 2 tPr.vals (ps ++ [badR k (ds.length : Int) n a2 q]) sb) → TwTl sa n a2 sb K h' := by
    intro q sb h' G' As' st' hq hsb
    have xx := st'.frame (h0 := h3) (by simp)
    refine twTl_c (l := numE ds) (bad := numE ds ++ [badE k (ds.length : Int) n a2]) (hE1.ext xx) ?_ hE hbad (by rw [numE_len]; omega) (by simp [numE_len]; omega) hfu ?_ hn (fun x hx => by rw [numE_len]; exact (numE_mem hx).2.2) fun h4 x4 => hK _ _ ⟨rfl, x01.nil_trans (xx.nil_trans x4)⟩
    · refine rsp_at (ps := ps ++ [badR k (ds.length : Int) n a2 q]) (by simp [lps, numE_len]) hsb fun i a b => ?_
      by_cases hi : i < (numE ds).length
      · rw [List.getElem_append_left hi, List.getElem_append_left (by rw [lps]; rwa [numE_len] at hi)]
        obtain ⟨e1, e2⟩ := hrow i hi (by rw [lps]; rwa [numE_len] at hi)
        exact ⟨e1, e2.ext xx⟩
      · have e : i = (numE ds).length := by simp at a; omega
        subst e
        rw [List.getElem_append_right (by rw [numE_len]; omega), List.getElem_append_right (by omega)]
        simp only [lps, numE_len, Nat.sub_self, List.getElem_cons_zero]
        refine ⟨rfl, ?_⟩
        unfold badR badE
        simp only
        by_cases e3 : k = 3
        · rw [if_pos e3, if_pos e3]; exact st'.fzm hq
        · rw [if_neg e3, if_neg e3]; exact nil_li
    · have hs6 : ∀ x ∈ numE ds ++ [badE k (ds.length : Int) n a2], x.2.length ≤ 6 := fun x hx => by
        rcases List.mem_append.1 hx with hx | hx
        · exact hmm _ (numE_mem hx).1
        · simp only [List.mem_singleton] at hx
          subst hx
          unfold badE
          simp only
          split <;> simp
      have h1 : (clsE (numE ds ++ [badE k (ds.length : Int) n a2])).length ≤ 1000 := by simp [clsE, numE_len]; omega
      have := flat_le (m := 1000) (k := 6) h1 fun c hc => by
        obtain ⟨x, hx, rfl⟩ := List.mem_map.1 hc
        exact hs6 x hx
      unfold fuelE fuelP; omega
  clear hrow hmm
  constructor
  · refine cloneE_rat st (st.fz 1 rfl) (by omega) fun r5 h4 st => ?_
    refine Hs.lit st [1, n] 2 rfl rfl fun b6 h5 st => ?_
    refine st.nw fun b7 h6 st => ?_
    simp only [List.nil_append, List.cons_append] at st
    refine rowAt (xs := rows ⟨some ⟨b6, 0, none⟩, 2, 2⟩) (i := k) (by rw [hrows]; exact st.blk 1 rfl) (rl _).symm (by rw [rl]; exact hk4) fun _ => ?_
    rw [rat _ (by rw [rl]; exact hk4)]
    refine st.nw fun b10 h7 st => ?_
    simp only [List.nil_append, List.cons_append] at st
    refine Hs.apdN (v := badR k (ds.length : Int) n a2 ⟨some ⟨b6, 0, none⟩, 2, 2⟩) st widePr (by decide) 0 2 rfl rfl (by decide) (leafPr _) (by omega) (by decide) rfl fun s11 h8 st => ?_
    exact tail ⟨some ⟨b6, 0, none⟩, 2, 2⟩ s11 h8 _ _ st (by simp) ((st.own 0 rfl).rsn widePr)
  refine Hs.lit st [1, n] 2 rfl rfl fun b6 h5 st => ?_
  constructor
  · refine cloneE_rat st (st.fz 1 rfl) (by omega) fun r5 h4 st => ?_
    refine st.nw fun b7 h6 st => ?_
    simp only [List.nil_append, List.cons_append] at st
    refine rowAt (xs := rows ⟨some ⟨b6, 0, none⟩, 2, 2⟩) (i := k) (by rw [hrows]; exact st.blk 1 rfl) (rl _).symm (by rw [rl]; exact hk4) fun _ => ?_
    rw [rat _ (by rw [rl]; exact hk4)]
    refine st.nw fun b10 h7 st => ?_
    simp only [List.nil_append, List.cons_append] at st
    refine Hs.apdN (v := badR k (ds.length : Int) n a2 ⟨some ⟨b6, 0, none⟩, 2, 2⟩) st widePr (by decide) 0 2 rfl rfl (by decide) (leafPr _) (by omega) (by decide) rfl fun s11 h8 st => ?_
    exact tail ⟨some ⟨b6, 0, none⟩, 2, 2⟩ s11 h8 _ _ st (by simp) ((st.own 0 rfl).rsn widePr)
  refine st.nw fun b7 h6 st => ?_
  simp only [List.nil_append, List.cons_append] at st
  refine rowAt (xs := rows ⟨some ⟨b6, 0, none⟩, 2, 2⟩) (i := k) (by rw [hrows]; exact st.blk 0 rfl) (rl _).symm (by rw [rl]; exact hk4) fun hck => ?_
  rw [rat _ (by rw [rl]; exact hk4)] at hck ⊢
  constructor
  · refine cloneE_rat st (st.fz 1 rfl) (by omega) fun r5 h4 st => ?_
    simp only [List.nil_append, List.cons_append] at st
    refine hck _ _ (by rw [hrows]; exact st.blk 0 rfl) ?_
    refine st.nw fun b10 h7 st => ?_
    simp only [List.nil_append, List.cons_append] at st
    refine Hs.apdN (v := badR k (ds.length : Int) n a2 ⟨some ⟨b6, 0, none⟩, 2, 2⟩) st widePr (by decide) 1 2 rfl rfl (by decide) (leafPr _) (by omega) (by decide) rfl fun s11 h8 st => ?_
    exact tail ⟨some ⟨b6, 0, none⟩, 2, 2⟩ s11 h8 _ _ st (by simp) ((st.own 1 rfl).rsn widePr)
  · refine st.nw fun b10 h7 st => ?_
    refine cloneE_rat st (st.fz 1 rfl) (by omega) fun r5 h4 st => ?_
    simp only [List.nil_append, List.cons_append] at st
    refine hck _ _ (by rw [hrows]; exact st.blk 0 rfl) ?_
    refine Hs.apdN (v := badR k (ds.length : Int) n a2 ⟨some ⟨b6, 0, none⟩, 2, 2⟩) st widePr (by decide) 2 1 rfl rfl (by decide) (leafPr _) (by omega) (by decide) rfl fun s11 h8 st => ?_
    exact tail ⟨some ⟨b6, 0, none⟩, 2, 2⟩ s11 h8 _ _ st (by simp) ((st.own 2 rfl).rsn widePr)

end Go.Proofs.S
