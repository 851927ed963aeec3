/-
  The reference of rat: Search, whole.
-/
import Derived.Test.YtjkgncibelojnaaGreatRcI
import Derived.Test.YtjkgncibelojnaaGreatRaW
set_option linter.unusedVariables false
set_option linter.unusedSimpArgs false
namespace Go.Proofs.S
open Go Go.Sx Go.Proofs Go.Cl Go.Rp Go.Rt

variable {h h0 : Heap} {c d A ids : List Int} {l : List Ent} {gs : List Grp} {s s2 s3 s4 s5 sc : Sl} {fr : Fr} {G As : List Asn} {id p : Int} {i b0 b12 : Nat} {x y z : Sl} {v1 v2 v3 : Value}

theorem fuelE_le {m : Nat} : ∀ {l : List Ent}, (∀ x ∈ l, x.2.length ≤ m) → fuelE l ≤ l.length * m + 1
  | [], _ => by simp [fuelE, fuelP, clsE]
  | y :: l, h => by
    have ih := fuelE_le (l := l) fun x hx => h x (by simp [hx])
    have h1 := h y (by simp)
    simp only [fuelE, fuelP, clsE, List.map_cons, List.flatten_cons, List.length_append, List.length_cons] at ih ⊢
    rw [Nat.succ_mul]; omega

set_option maxRecDepth 100000 in
set_option maxHeartbeats 2000000 in
theorem r9_Search_c (hA : At h (ent l s)) (hB : At h (li c sc)) (hE : rightE l = true) (hc : rightC c = true) (hll : l.length ≤ 1000) (hlx : ∀ x ∈ l, x.2.length ≤ 1000) (hcl : c.length ≤ 1000) (hf : fuelE l ≤ 1000) :
    callT Tryz.prog fn_salvorref09_Search #[.slice s.a s.len s.cap, .slice sc.a sc.len sc.cap] (.tup (.cons (.agg (.cons .sl (.cons .sl (.cons .sl .nil)))) (.cons (.int .i64) (.cons .bool .nil))))
      (fun r h' => SrOk l c h.size sc r h' ∧ Ext [] h h') h := by
  refine callT_gen fun K hK => S_salvorref09_Search (a0 := s) (a1 := sc) K ?_
  unfold F_salvorref09_Search
  obtain ⟨ps, lp, hps, hx⟩ := rsp_open hA
  obtain ⟨hd, hhd⟩ : ∃ hd : List Sl, hd = ps.map (fun q => q.2.1) := ⟨_, rfl⟩
  have lhd : hd.length = l.length := by rw [hhd]; simpa using lp
  have hcls : (clsE l).length = l.length := by simp [clsE]
  have hrow : ∀ i (h1 : i < (clsE l).length) (h2 : i < hd.length), At h (li (clsE l)[i] hd[i]) := fun i h1 h2 => by
    subst hhd
    simp only [clsE, List.getElem_map]
    exact (hx i (by omega) (by omega)).2
  have st : Hs [([], h)] (ent l s :: li c sc :: rsn 2 tPr.vals ps s :: rows (clsE l) hd) [] h := Hs.start h _ (by
    intro A hA'
    simp only [List.mem_cons] at hA'
    rcases hA' with rfl | rfl | rfl | hA'
    · exact hA
    · exact hB
    · exact hps
    · exact rows_at (by omega) hrow _ hA')
  have ls := rsp_len hA
  refine st.nw fun b0 h1 st => ?_
  have st := st.nil ty_sl_int Ty.sl.enc none
  simp only [List.cons_append, List.nil_append] at st
  obtain ⟨G1, eG1⟩ : ∃ G1, G1 = ent l s :: li c sc :: rsn 2 tPr.vals ps s :: rows (clsE l) hd := ⟨_, rfl⟩
  rw [← eG1] at st
  have gE : G1[0]? = some (ent l s) := by rw [eG1]; rfl
  have gC : G1[1]? = some (li c sc) := by rw [eG1]; rfl
  have gR : G1[2]? = some (rsn 2 tPr.vals ps s) := by rw [eG1]; rfl
  refine lfp_invh (I := fun m σ h' => ∃ (i : Nat) (sx : Sl), σ = ((i : Int), sx, ()) ∧ i ≤ l.length ∧
      Hs [([], h)] G1 [cl b0 ty_salvorref09_Step [.slice none 0 0, .slice none 0 0, .slice none 0 0], osl ty_sl_int Ty.sl.enc (hd.take i) sx] h' ∧ m = l.length - i)
    ⟨_, 0, ⟨none, 0, 0⟩, rfl, by omega, st, rfl⟩ ?_
  clear st
  rintro m σ h4 X ⟨i, al, rfl, hi, st, rfl⟩ hX
  simp only
  by_cases hlt : i < l.length
  · refine brT (by rw [ls]; exact dlt_t hlt) ?_
    refine rdNf (σ := .sl) (st.fz 2 gR) (show i < ps.length by omega) 1 (v := ps[i].2.1) rfl ?_
    have eh : ps[i].2.1 = hd[i]'(by omega) := by subst hhd; simp
    refine st.nw fun b21 h6 st => ?_
    simp only [List.cons_append, List.nil_append] at st
    refine st.apd (v := ps[i].2.1) 1 2 rfl rfl (by decide) rfl (by simp; omega) (by decide) rfl fun s22 h7 st => ?_
    simp only [List.set_cons_zero, List.set_cons_succ] at st
    have st := st.drop 2 rfl
    rw [inc_i (by omega)]
    refine hX _ _ _ ⟨i + 1, s22, rfl, by omega, ?_, rfl⟩ (by omega)
    have et : hd.take (i + 1) = hd.take i ++ [hd[i]'(by omega)] := by simp
    rw [et, ← eh]; exact st
  refine brF (by rw [ls]; exact dlt_f hlt) ?_
  clear hX
  rw [List.take_of_length_le (by omega)] at st
  have st := st.froz 1 rfl
  simp only [List.eraseIdx_cons_succ, List.eraseIdx_cons_zero] at st
  obtain ⟨G2, eG2⟩ : ∃ G2, G2 = G1 ++ [rsl Ty.sl.enc hd al] := ⟨_, rfl⟩
  have lG : 3 ≤ G1.length := by rw [eG1]; simp
  have hE2 : G2[0]? = some (ent l s) := by rw [eG2, List.getElem?_append_left (by omega)]; exact gE
  have hC2 : G2[1]? = some (li c sc) := by rw [eG2, List.getElem?_append_left (by omega)]; exact gC
  have st : Hs [([], h)] G2 [cl b0 ty_salvorref09_Step [.slice none 0 0, .slice none 0 0, .slice none 0 0]] h4 := by rw [eG2]; exact st
  have hG2h : rsl Ty.sl.enc hd al ∈ G2 := by rw [eG2]; simp
  have hG2r : ∀ i (h1 : i < (clsE l).length) (h2 : i < hd.length), li (clsE l)[i] hd[i] ∈ G2 := fun i h1 h2 => by
    rw [eG2, eG1]
    exact List.mem_append_left _ (List.mem_cons_of_mem _ (List.mem_cons_of_mem _ (List.mem_cons_of_mem _ (rows_mem h1 h2))))
  have all : ∀ {fr : Fr} {As : List Asn} {G' : List Asn} {h' : Heap}, (∀ A ∈ G2, A ∈ G') → Hs fr G' As h' → At h' (lli (clsE l) al) := fun hsub st => rsg_at (ps := hd) (by omega) (st.fzm (hsub _ hG2h)) fun i h1 h2 => st.fzm (hsub _ (hG2r i h1 h2))
  have hfl : fuelP (clsE l) ≤ 500000 := by have : fuelP (clsE l) = fuelE l := rfl; omega
  refine call_of (r8_Find_c (st.fz 1 hC2) (all (fun _ h => h) st) hc (cls_right hE) (by omega) hfl) ?_
  rintro _ h5 ⟨s25, rfl, n25, x25⟩
  have st := st.new x25 n25
  simp only [List.cons_append, List.nil_append] at st
  have h0 := find_e0 hc hE (by omega)
  have h20 : ¬ (findP c (clsE l)).2.2 = 20 := by rw [h0]; decide
  by_cases hfo : (findP c (clsE l)).2.1 = true
  · have hS := searchF hE h20 hfo
    obtain ⟨g1, g2⟩ := find_good hE (by omega) hfo
    refine brT hfo ?_
    refine call_of (r9_named_c (st.fz 0 hE2) (st.own 1 rfl) g1 (by omega)) ?_
    rintro s33 h7 ⟨n33, x33⟩
    have st := st.new x33 n33
    simp only [List.cons_append, List.nil_append] at st
    refine outS sc s33 ⟨none, 0, 0⟩ 0 st rfl fun h8 st => hK _ _ ⟨⟨sc, s33, ⟨none, 0, 0⟩, by rw [hS], .inl ⟨by rw [hS], rfl⟩, ?_, ?_⟩, st.frame (by simp)⟩
    · rw [hS]; exact st.res (by simp) 2 rfl
    · rw [hS]; exact rsp_nil _ _ _
  refine brF (by simpa using hfo) ?_
  have st := st.drop 1 rfl
  simp only [List.eraseIdx_cons_succ, List.eraseIdx_cons_zero] at st
  have lc := rsl_len (st.fz 1 hC2)
  have stF := st
  cases c with
  | nil =>
    refine brT (by rw [lc]; rfl) ?_
    exact outS ⟨none, 0, 0⟩ ⟨none, 0, 0⟩ ⟨none, 0, 0⟩ 0 stF rfl fun h8 st => hK _ _ ⟨SrOk.nil0 (searchN hE h20 hfo (.inl rfl)), st.frame (by simp)⟩
  | cons p r =>
  refine brF (by rw [lc, List.length_cons, beq_eq_false_iff_ne]; omega) ?_
  obtain ⟨sN, sS⟩ := searchG hE h20 hfo h0
  have ha : alwaysC (p :: r) = false := by
    cases ha : alwaysC (p :: r) with
    | false => rfl
    | true => exact absurd (show (findP (p :: r) (clsE l)).2.1 = true by rw [find_eq hc (cls_right hE) (by omega), ha]; rfl) hfo
  have eS : assumeP (p :: r) = (negs (p :: r), false, 0) := by unfold assumeP; rw [hc, ha]; rfl
  have hno := okA_negs hc ha
  have hnl : (negs (p :: r)).length ≤ 1000 := by
    unfold negs; rw [List.length_map]; have := nrm_length (p :: r); omega
  have st := stF
  refine call_of (r8_assume_c (st.fz 1 hC2) hc) ?_
  rw [eS]
  rintro _ h6 ⟨s46, rfl, n46, x46⟩
  have st := st.new x46 n46
  refine st.nw fun b12 h7 st => ?_
  simp only [List.cons_append, List.nil_append, addr_add, Nat.zero_add] at st ⊢
  refine st.st1 2 0 rfl (by simp) fun h8 st => ?_
  refine st.st1 2 1 rfl (by simp) fun h8 st => ?_
  refine st.st1 2 2 rfl (by simp) fun h8 st => ?_
  simp only [List.set_cons_zero, List.set_cons_succ] at st
  have st := (((st.nil ty_int i64.enc none).hd 3 rfl).hd 2 rfl).hd 3 rfl
  simp only [List.cons_append, List.nil_append, List.eraseIdx_cons_succ, List.eraseIdx_cons_zero] at st
  have hAl := (propGo_len (l := l) (fuelE l) (negs (p :: r)) []).1
  obtain ⟨hoA, _⟩ := propGo_ok (l := l) (fun x hx => rightC_rt (rightE_lits hE x hx)) (fuelE l) (ids := []) hno
  show PrW s b12 (SrTl s sc b0 b12 al K) s46 _
  refine prW_c (l := l) (c := negs (p :: r)) hE hE2 hno (by omega) (by omega) st fun sA sI h9 st => ?_
  exact srTl_c (hd := hd) (v1 := _) (s11 := s46) (v0 := .slice none 0 0) hE hc hll hlx (by omega) hoA (by omega) hE2 hC2 all sN sS st hK

end Go.Proofs.S

set_option linter.unusedVariables false
set_option linter.unusedSimpArgs false
namespace Go.Proofs.S
open Go Go.Sx Go.Proofs Go.Cl Go.Rp Go.Rt

variable {h h0 : Heap} {c d A ids : List Int} {l : List Ent} {gs : List Grp} {s s2 s3 s4 s5 sc : Sl} {fr : Fr} {G As : List Asn} {id p : Int} {i b0 b12 : Nat} {x y z : Sl} {v1 v2 v3 : Value}

theorem search_form : (searchP l c).1.groups.length ≤ l.length ∧ ((searchP l c).1.lits = c ∨ (searchP l c).1.lits = []) ∧ 0 ≤ (searchP l c).2.1 ∧ (searchP l c).2.1 ≤ 2 := by
  have bad : ∀ e, let R : Stp × Int × Bool × Int := (⟨[], [], []⟩, 0, false, e); R.1.groups.length ≤ l.length ∧ (R.1.lits = c ∨ R.1.lits = []) ∧ 0 ≤ R.2.1 ∧ R.2.1 ≤ 2 := fun e => ⟨by simp, .inr rfl, (show (0 : Int) ≤ 0 by decide), (show (0 : Int) ≤ 2 by decide)⟩
  unfold searchP
  split
  · exact bad _
  split
  · exact bad _
  split
  · exact ⟨by simp, .inl rfl, (show (0 : Int) ≤ 1 by decide), (show (1 : Int) ≤ 2 by decide)⟩
  cases c with
  | nil => exact bad _
  | cons p r =>
    simp only
    split
    · exact bad _
    cases hg : groupsGo l p (propGo l (fuelE l) (negs (p :: r)) []).1 (l.filter (isCand p)) with
    | none => exact bad _
    | some gs =>
      have h2 := groupsGo_len hg
      have h3 : (l.filter (isCand p)).length ≤ l.length := List.length_filter_le _ _
      exact ⟨by simp only; omega, .inl rfl, (show (0 : Int) ≤ 2 by decide), (show (2 : Int) ≤ 2 by decide)⟩

set_option maxRecDepth 20000 in
set_option maxHeartbeats 2000000 in
theorem searches_c (hA : At h (ent l s)) (hB : At h (li c sc)) (hll : l.length ≤ 1000) (hlx : ∀ x ∈ l, x.2.length ≤ 1000) (hcl : c.length ≤ 1000) (hf : fuelE l ≤ 1000) :
    callT Tryz.prog fn_salvorlaw09_searches #[.slice s.a s.len s.cap, .slice sc.a sc.len sc.cap] .bool (fun r h' => r = true ∧ Ext [] h h') h := by
  refine callT_gen fun K hK => S_salvorlaw09_searches (a0 := s) (a1 := sc) K ?_
  unfold F_salvorlaw09_searches
  have hll6 : ∀ x ∈ l, x.2.length ≤ 1048576 := fun x hx => by have := hlx x hx; omega
  have hll9 : ∀ x ∈ l, x.2.length ≤ 1099511627776 := fun x hx => by have := hlx x hx; omega
  have st := Hs.start h [ent l s, li c sc] (by simp [hA, hB])
  refine call_of (Theirs_c (st.fz 0 rfl) (by omega) hll6) ?_
  rintro r0 h1 ⟨n1, x1⟩
  have st := Hs.fzNew (Bs := [ent l r0]) st x1 (by intro B hB; simp only [List.mem_singleton] at hB; subst hB; exact n1)
  refine call_of (Ints_c (st.fz 1 rfl) (by omega)) ?_
  rintro r1 h2 ⟨n2, x2⟩
  have st := Hs.fzNew (Bs := [li c r1]) st x2 (by intro B hB; simp only [List.mem_singleton] at hB; subst hB; exact New.rsl n2)
  simp only [List.cons_append, List.nil_append] at st
  refine call_of (Search_c (st.fz 0 rfl) (st.fz 1 rfl) (by omega) (by omega) (by omega)) ?_
  rintro _ h3 ⟨sL, sH, sG, rfl, nL, nH, nG, x3⟩
  have stO := (st.new x3 nL).beside
  obtain ⟨sf1, sf2, sf3, sf4⟩ := search_form (l := l) (c := c)
  have lens := fun hE => search_lens (l := l) (c := c) hE (by omega) (by omega)
  have serr := fun hE => search_err (l := l) (c := c) hE (by omega)
  have so : ∀ sL' h', SrOk l c h.size sc sL' h' → SrOk l c h.size sc sL' h' := fun _ _ q => q
  have hbad : ∀ r, rightE l = false → searchP l c = r → r = (⟨[], [], []⟩, 0, false, 90) := fun r hE e => by rw [← e]; unfold searchP; rw [hE]; rfl
  have hbad2 : ∀ r, rightE l = true → rightC c = false → searchP l c = r → r = (⟨[], [], []⟩, 0, false, 20) := fun r hE hc e => by
    rw [← e]; exact search20 hE (by unfold findP; rw [hc]; simp)
  have ok2 := fun (r : TSr) (h' : Heap) (n : Nat) (q : SrOk l c n r1 r h') => q
  unfold SrOk at ok2
  have hR := r9_Search_c (l := l) (c := c) (s := r0) (sc := r1) (h := h3)
  have hSrc : ∀ {h' : Heap}, At h' (ent l r0) → At h' (li c r1) → rightE l = true → rightC c = true → callT Tryz.prog fn_salvorref09_Search #[.slice r0.a r0.len r0.cap, .slice r1.a r1.len r1.cap] (.tup (.cons (.agg (.cons .sl (.cons .sl (.cons .sl .nil)))) (.cons (.int .i64) (.cons .bool .nil))))
      (fun r h'' => (∃ tL tH tG, r = ((tL, tH, tG, ()), (searchP l c).2.1, (searchP l c).2.2.1, ()) ∧ (((searchP l c).1.lits = c ∧ tL = r1) ∨ New h'.size h'' (li (searchP l c).1.lits tL)) ∧ New h'.size h'' (nio' (searchP l c).1.hints tH) ∧ New h'.size h'' (ent (searchP l c).1.groups tG)) ∧ Ext [] h' h'') h' := fun a b e1 e2 => r9_Search_c a b e1 e2 hll hlx hcl hf
  clear hR ok2 so
  generalize hSP : searchP l c = R at *
  obtain ⟨⟨L, H, Gs⟩, kd, ok, er⟩ := R
  simp only at nL nH nG stO sf1 sf2 sf3 sf4 lens serr hSrc ⊢
  have hLl : L.length ≤ 1000 := by rcases sf2 with e | e <;> (rw [e]; first | exact hcl | decide)
  have st := Hs.start h3 [ent l s, li c sc, ent l r0, li c r1, li L sL, nio' H sH, ent Gs sG] (by
    intro B hB
    have q0 := (st.ext x3).fz 0 rfl
    have q1 := (st.ext x3).fz 1 rfl
    have q2 := (st.ext x3).fz 2 rfl
    have q3 := (st.ext x3).fz 3 rfl
    simp only [List.mem_cons, List.not_mem_nil, or_false] at hB
    rcases hB with rfl | rfl | rfl | rfl | rfl | rfl | rfl
    · exact q0
    · exact q1
    · exact q2
    · exact q3
    · exact nL.at.rsl
    · exact nH.at
    · exact nG.at)
  refine st.nw fun b3 h4 st => ?_
  simp only [List.nil_append, addr_add, Nat.zero_add] at st ⊢
  refine st.st1 0 0 rfl (by simp) fun h5 st => ?_
  refine st.st1 0 1 rfl (by simp) fun h5 st => ?_
  refine st.st1 0 2 rfl (by simp) fun h5 st => ?_
  simp only [List.set_cons_zero, List.set_cons_succ] at st
  have xh : Ext [] h h3 := (stO.2 [] h3 stO.1).frame (by simp)
  -- no step
  have cmp : ∀ {J : Bool → HP} {h'}, L = [] → H = [] → Gs = [] → Hs [([], h3)] [ent l s, li c sc, ent l r0, li c r1, li L sL, nio' H sH, ent Gs sG] [stpC b3 sL sH sG] h' → (∀ h'', Ext [] h3 h'' → J true h'') →
      (ldA (.cons .sl (.cons .sl (.cons .sl .nil))) (⟨b3, 0, none⟩ : Addr) fun x11 =>
       callT Tryz.prog fn_salvorlaw09_step #[(.agg #[(.slice x11.1.a x11.1.len x11.1.cap), (.slice x11.2.1.a x11.2.1.len x11.2.1.cap), (.slice x11.2.2.1.a x11.2.2.1.len x11.2.2.1.cap)])] (.agg (.cons .sl (.cons .sl (.cons .sl .nil)))) fun r12 =>
       callT Tryz.prog fn_salvorlaw09_sameStep #[(.agg #[(.slice r12.1.a r12.1.len r12.1.cap), (.slice r12.2.1.a r12.2.1.len r12.2.1.cap), (.slice r12.2.2.1.a r12.2.2.1.len r12.2.2.1.cap)]), (.agg #[(.slice none 0 0), (.slice none 0 0), (.slice none 0 0)])] .bool fun r13 =>
       J (r13)) h' := by
    intro J h' e1 e2 e3 st hJ
    subst e1; subst e2; subst e3
    refine ldRow (τ := .cons .sl (.cons .sl (.cons .sl .nil))) (x := (sL, sH, sG, ())) (st.blk 0 rfl) ?_
    refine call_of (step_c (st.fz 4 rfl) (st.fz 5 rfl).rsl (st.fz 6 rfl) (by decide) (by decide) (by decide) (by simp)) ?_
    rintro _ h6 ⟨u1, u2, u3, rfl, y1, y2, y3, x6⟩
    have st := st.ext x6
    refine call_of (sameStep_c (c2 := []) (ids2 := []) (gs2 := []) (sl2 := ⟨none, 0, 0⟩) (sh2 := ⟨none, 0, 0⟩) (sg2 := ⟨none, 0, 0⟩) y1.at.rsl y2.at.rsl y3.at nil_li nil_li (rsp_nil (I := fun c p => li c p) 0 none _).at (by decide) (by decide) (by decide) (by simp)) ?_
    rintro _ h7 ⟨rfl, x7⟩
    exact hJ _ ((st.ext x7).frame (by simp))
  refine call_of (r9_Right_c (st.fz 2 rfl) (by omega) hll9) ?_
  rintro _ h6 ⟨rfl, e⟩; subst e
  cases hE : rightE l with
  | false =>
    have := hbad _ hE rfl
    simp only [Prod.mk.injEq, Stp.mk.injEq] at this
    obtain ⟨⟨e1, e2, e3⟩, rfl, rfl, rfl⟩ := this
    refine brT rfl ?_
    refine jn_in fun J hJ => brT rfl (hJ _ _ ?_)
    refine jn_in fun J hJ => brT rfl (hJ _ _ ?_)
    refine jn_in fun J hJ => brT rfl ?_
    exact cmp e1 e2 e3 st fun h7 x7 => hJ _ _ (hK _ _ ⟨rfl, xh.nil_trans x7⟩)
  | true =>
  refine brF rfl ?_
  refine call_of (r2_right_c (st.fz 3 rfl) (by omega)) ?_
  rintro _ h7 ⟨rfl, e⟩; subst e
  cases hc : rightC c with
  | false =>
    have := hbad2 _ hE hc rfl
    simp only [Prod.mk.injEq, Stp.mk.injEq] at this
    obtain ⟨⟨e1, e2, e3⟩, rfl, rfl, rfl⟩ := this
    refine brT rfl ?_
    refine jn_in fun J hJ => brT rfl (hJ _ _ ?_)
    refine jn_in fun J hJ => brT rfl (hJ _ _ ?_)
    refine jn_in fun J hJ => brT rfl ?_
    exact cmp e1 e2 e3 st fun h7 x7 => hJ _ _ (hK _ _ ⟨rfl, xh.nil_trans x7⟩)
  | true =>
  refine brF rfl ?_
  clear cmp
  have e0 := serr hE hc
  subst e0
  obtain ⟨l1, l2, l3⟩ := lens hE
  have l36 : ∀ g ∈ Gs, g.2.length ≤ 1000000 := fun g hg => by have := l3 g hg; omega
  have l39 : ∀ g ∈ Gs, g.2.length ≤ 1099511627776 := fun g hg => by have := l3 g hg; omega
  refine call_of (hSrc (st.fz 2 rfl) (st.fz 3 rfl) hE hc) ?_
  rintro _ h8 ⟨⟨tL, tH, tG, rfl, mL, mH, mG⟩, x8⟩
  have st : Hs [([], h3)] ([ent l s, li c sc, ent l r0, li c r1, li L sL, nio' H sH, ent Gs sG] ++ [nio' H tH, ent Gs tG] ++ [li L tL]) [stpC b3 sL sH sG] h8 := by
    rcases mL with ⟨e1, e2⟩ | mL
    · have st := st.fzNew (Bs := [nio' H tH, ent Gs tG]) x8 (by
        intro B hB
        simp only [List.mem_cons, List.not_mem_nil, or_false] at hB
        rcases hB with rfl | rfl
        · exact mH
        · exact mG)
      subst e2
      have := st.gainM (A := li c tL) (List.mem_append_left _ (by simp))
      rw [e1]; rw [e1] at this; exact this
    · have st := st.fzNew (Bs := [nio' H tH, ent Gs tG, li L tL]) x8 (by
        intro B hB
        simp only [List.mem_cons, List.not_mem_nil, or_false] at hB
        rcases hB with rfl | rfl | rfl
        · exact mH
        · exact mG
        · exact mL)
      exact st
  simp only [List.cons_append, List.nil_append] at st
  refine st.nw fun b25 h9 st => ?_
  simp only [List.cons_append, List.nil_append, addr_add, Nat.zero_add] at st ⊢
  refine st.st1 1 0 rfl (by simp) fun h10 st => ?_
  refine st.st1 1 1 rfl (by simp) fun h10 st => ?_
  refine st.st1 1 2 rfl (by simp) fun h10 st => ?_
  simp only [List.set_cons_zero, List.set_cons_succ] at st
  refine ldRow (τ := .cons .sl (.cons .sl (.cons .sl .nil))) (x := (sL, sH, sG, ())) (st.blk 0 rfl) ?_
  refine ldRow (τ := .cons .sl (.cons .sl (.cons .sl .nil))) (x := (tL, tH, tG, ())) (st.blk 1 rfl) ?_
  refine call_of (step_c (st.fz 4 rfl) (st.fz 5 rfl).rsl (st.fz 6 rfl) (by omega) (by omega) (by omega) l36) ?_
  rintro _ h11 ⟨u1, u2, u3, rfl, y1, y2, y3, x11⟩
  have st := st.ext x11
  refine ckRow (st.blk 1 rfl) ?_
  refine call_of (sameStep_c y1.at.rsl y2.at.rsl y3.at (st.fz 9 rfl) (st.fz 7 rfl).rsl (st.fz 8 rfl) (by omega) (by omega) (by omega) l39) ?_
  rintro _ h12 ⟨rfl, x12⟩
  have st := st.ext x12
  refine brF (by simp) ?_
  have ekd : IntKind.wrap .i64 kd = kd := wrap_i64 (by omega) (by omega)
  refine brF (by rw [ekd]; simp) ?_
  refine brF (by simp) ?_
  refine brF (by simp) ?_
  -- what is handed over is written into
  have st := stO.2 _ _ (((st.drop 1 rfl).less (G' := [ent l s, li c sc, ent l r0, li c r1]) (by
    intro B hB
    simp only [List.mem_cons, List.not_mem_nil, or_false] at hB ⊢
    rcases hB with rfl | rfl | rfl | rfl
    · exact .inl rfl
    · exact .inr (.inl rfl)
    · exact .inr (.inr (.inl rfl))
    · exact .inr (.inr (.inr (.inl rfl))))))
  simp only [List.cons_append, List.nil_append, List.eraseIdx_cons_succ, List.eraseIdx_cons_zero] at st
  rw [st.lds 1 0 rfl rfl]
  have lL : sL.len = L.length := osl_len (st.own 0 rfl)
  refine lfp_invh (I := fun m σ h' => ∃ (i : Nat) (L2 : List Int), σ = ((i : Int), ()) ∧ i ≤ L.length ∧ L2.length = L.length ∧ Hs [([], h)] [ent l s, li c sc, ent l r0, li c r1] [lo L2 sL, stpC b3 sL sH sG] h' ∧ m = L.length - i)
    ⟨_, 0, L, rfl, by omega, rfl, st, rfl⟩ ?_
  clear st
  rintro m σ h14 Y ⟨i, L2, rfl, hi, hL2, st, rfl⟩ hY
  simp only
  by_cases hlt : i < L.length
  · refine brT (by rw [lL]; exact dlt_t hlt) ?_
    rw [st.lds 1 0 rfl rfl]
    refine st.wrE (τ := i64) 0 rfl (i := i) (by omega) 99 fun h15 st => ?_
    rw [inc_i (by omega)]
    exact hY _ _ _ ⟨i + 1, L2.set i 99, rfl, by omega, by simpa using hL2, st, rfl⟩ (by omega)
  refine brF (by rw [lL]; exact dlt_f hlt) ?_
  refine call_of (Ints_c (st.fz 1 rfl) (by omega)) ?_
  rintro r35 h15 ⟨n35, x15⟩
  have st := st.ext x15
  refine call_of (equal_int n35.at.rsl (st.fz 3 rfl) (by omega)) ?_
  rintro _ h16 ⟨rfl, e⟩; subst e
  refine jn_in fun J hJ => brT (by simp) ?_
  refine call_of (Theirs_c (st.fz 0 rfl) (by omega) hll6) ?_
  rintro r39 h17 ⟨n39, x17⟩
  have st := st.ext x17
  refine call_of (sameEntries_c n39.at (st.fz 2 rfl) (by omega) hll9) ?_
  rintro _ h18 ⟨rfl, x18⟩
  have st := st.ext x18
  exact hJ _ _ (hK _ _ ⟨by simp, st.frame (by simp)⟩)

end Go.Proofs.S

set_option linter.unusedVariables false
set_option linter.unusedSimpArgs false
namespace Go.Proofs.S
open Go Go.Sx Go.Proofs Go.Cl Go.Rp Go.Rt

variable {h : Heap} {c d A ids : List Int} {l : List Ent} {gs : List Grp} {s s2 s3 s4 s5 sc : Sl} {fr : Fr} {G As : List Asn} {id p : Int} {i : Nat}

set_option maxRecDepth 20000 in
theorem ratSearches_F (hA : At h (ent l s)) (hB : At h (li c sc)) (K : Bool → HP) (hK : ∀ x h', (x = true ∧ Ext [] h h') → K x h') : F_salvorlaw09_RatSearches s sc K h := by
  unfold F_salvorlaw09_RatSearches
  have lC := rsl_len hB
  have st := Hs.start h [ent l s, li c sc] (by simp [hA, hB])
  refine call_of (few_c (st.fz 0 rfl)) ?_
  rintro _ h2 ⟨rfl, x2⟩
  have st := st.ext x2
  have fin : ∀ {h'}, Hs [([], h)] [ent l s, li c sc] [] h' → callT Tryz.prog fn_salvorlaw09_awake #[] .bool (fun r7 => K r7) h' := fun {h'} st => by
    refine call_of (awake9_c h') ?_
    rintro _ h3 ⟨rfl, x3⟩
    exact hK _ _ ⟨rfl, (st.ext x3).frame (by simp)⟩
  refine jn_mid (M := fun t h' => t = (!fewP l || decide (c.length > 12)) ∧ h' = h2) ?_ ?_
  rotate_left
  · intro J hJ
    cases hf : fewP l with
    | false => exact brT rfl (hJ _ _ ⟨by rw [hf]; rfl, rfl⟩)
    | true =>
      refine brF rfl (hJ _ _ ⟨?_, rfl⟩)
      rw [lC, hf, Bool.not_true, Bool.false_or]
      rw [Bool.eq_iff_iff]; simp only [decide_eq_true_eq]
      show ((c.length : Int) > 12) ↔ _
      omega
  rintro _ h3 ⟨rfl, e⟩
  subst e
  refine jn_mid (M := fun t h' => t = true ∧ Hs [([], h)] [ent l s, li c sc] [] h') ?_ ?_
  rotate_left
  · intro J hJ
    cases hf : (!fewP l || decide (c.length > 12)) with
    | true => exact brT rfl (hJ _ _ ⟨rfl, st⟩)
    | false =>
      simp only [Bool.or_eq_false_iff, Bool.not_eq_false', decide_eq_false_iff_not] at hf
      obtain ⟨f1, f3⟩ := hf
      obtain ⟨f1, f2⟩ := fewP_iff.1 f1
      refine brF rfl ?_
      have hfu := fuelE_le (l := l) (m := 12) f2
      have : l.length * 12 ≤ 30 * 12 := Nat.mul_le_mul_right _ f1
      refine call_of (searches_c (st.fz 0 rfl) (st.fz 1 rfl) (by omega) (fun x hx => by have := f2 x hx; omega) (by omega) (by omega)) ?_
      rintro _ h6 ⟨rfl, x6⟩
      exact hJ _ _ ⟨rfl, st.ext x6⟩
  clear st
  rintro _ h4 ⟨rfl, st⟩
  refine jn_in fun J hJ => brT rfl ?_
  refine call_of (awake9_c _) ?_
  rintro _ h3 ⟨rfl, x3⟩
  exact hJ _ _ (hK _ _ ⟨rfl, (st.ext x3).frame (by simp)⟩)

end Go.Proofs.S
