/-
  The reference of rat: Check.
-/
import Derived.Test.YtjkgncibelojnaaGreatRaT
import Derived.Test.YtjkgncibelojnaaGreatSxW3
import Derived.Test.YtjkgncibelojnaaGreatRuE
import Derived.Test.YtjkgncibelojnaaGreatRaN
import Derived.Test.YtjkgncibelojnaaGreatClA
import Derived.Test.YtjkgncibelojnaaGreatSxN
set_option linter.unusedVariables false
set_option linter.unusedSimpArgs false
namespace Go.Proofs.S
open Go Go.Sx Go.Proofs Go.Cl Go.Rp Go.Rt
variable {h : Heap} {c d A f ids hs W : List Int} {l : List Ent} {cs : List (List Int)} {gs us vs : List Grp} {s s2 s3 s4 sc sl sh sg : Sl} {fr : Fr} {G As : List Asn} {id p n : Int} {i k : Nat} {b m : Nat}
theorem groupsP_miss (hi : i < (candIDs l p).length) (hn : (gs.map (·.1)).contains (candIDs l p)[i] = false) (hp : ∀ x ∈ (candIDs l p).take i, (gs.map (·.1)).contains x = true) : groupsP l p gs = ((candIDs l p)[i], 92) := by
  unfold groupsP
  have : (candIDs l p).find? (fun id => !(gs.map (·.1)).contains id) = some (candIDs l p)[i] := by
    rw [List.find?_eq_some_iff_getElem]
    refine ⟨by rw [hn]; rfl, i, hi, rfl, fun j hj => ?_⟩
    have := hp (candIDs l p)[j] (List.mem_take_iff_getElem.2 ⟨j, by omega, rfl⟩)
    rw [this]; rfl
  rw [this]
theorem groupsP_all (hp : ∀ x ∈ candIDs l p, (gs.map (·.1)).contains x = true) : groupsP l p gs = scanG (candIDs l p) 0 gs := by
  unfold groupsP
  have : (candIDs l p).find? (fun id => !(gs.map (·.1)).contains id) = none := by
    rw [List.find?_eq_none]
    intro x hx
    rw [hp x hx]; simp
  rw [this]
abbrev tCr : Ty := .tup (.cons (.int .i64) (.cons (.int .i64) (.cons (.int .i64) .nil)))
set_option maxRecDepth 100000 in
set_option maxHeartbeats 2000000 in
theorem r9_Check_c (hA : At h (ent l s)) (hE : rightE l = true) (hL : At h (li c sl)) (hr : rightC c = true) (hH : At h (li ids sh)) (hG : At h (ent gs sg)) (hil : ids.length ≤ 500000) (hgl : gs.length ≤ 1099511627776) (hgh : ∀ g ∈ gs, g.2.length ≤ 500000) :
    callT Tryz.prog fn_salvorref09_Check #[.slice s.a s.len s.cap, .agg #[.slice sl.a sl.len sl.cap, .slice sh.a sh.len sh.cap, .slice sg.a sg.len sg.cap]] tCr
      (fun r h' => r = ((checkS l ⟨c, ids, gs⟩).1, (checkS l ⟨c, ids, gs⟩).2.1, (checkS l ⟨c, ids, gs⟩).2.2, ()) ∧ Ext [] h h') h := by
  refine callT_gen fun K hK => S_salvorref09_Check (a0 := s) (a1 := (sl, sh, sg, ())) K ?_
  unfold F_salvorref09_Check
  have hK : ∀ (a b e : Int) h', checkS l ⟨c, ids, gs⟩ = (a, b, e) → Ext [] h h' → K (a, b, e, ()) h' := fun a b e h' he x => hK _ _ ⟨by rw [he], x⟩
  have st := Hs.start h [ent l s, li c sl, li ids sh, ent gs sg] (by simp [hA, hL, hH, hG])
  have lc := rsl_len hL
  have lg := rsp_len hG
  have hll := rightE_len hE
  refine st.nw fun b0 h1 st => ?_
  have st := st.freeze 0 rfl
  simp only [List.nil_append, List.cons_append, List.eraseIdx_cons_zero, addr_add, Nat.zero_add] at st ⊢
  unfold checkS at hK
  rw [hE, if_neg (by simp)] at hK
  simp only [hr] at hK
  rw [if_neg (by simp)] at hK
  rw [ld_sl (i := 0) (st.fblk 4 rfl) rfl]
  refine call_of (r8_assume_c (st.fz 1 rfl) hr) ?_
  rintro _ h3 ⟨s3, rfl, n3, x3⟩
  have st := st.new x3 n3
  simp only [List.nil_append] at st
  cases ha : alwaysC c with
  | true =>
    have eS : assumeP c = ([], true, 0) := by unfold assumeP; rw [hr, ha]; rfl
    rw [eS]
    simp only [ha] at hK
    rw [if_pos trivial] at hK
    exact brT rfl (hK _ _ _ _ rfl (st.frame (by simp)))
  | false =>
  simp only [ha] at hK
  rw [if_neg (by simp)] at hK
  have eS : assumeP c = (negs c, false, 0) := by unfold assumeP; rw [hr, ha]; rfl
  rw [eS] at st ⊢
  refine brF rfl ?_
  have hnl : (negs c).length ≤ 4096 := by
    unfold negs; rw [List.length_map]; have := nrm_length c; have := rightC_len hr; omega
  have hrl := fun x (hx : x ∈ l) => rightC_rt (rightE_lits hE x hx)
  have hRl := followR_len (l := l) (ids := ids) (A := negs c)
  rw [ld_sl (i := 1) (st.fblk 4 rfl) rfl]
  refine call_of (r9_follow_c (st.fz 0 rfl) hE (st.own 0 rfl).rsl (st.fz 2 rfl) (show (negs c).length + ids.length ≤ 10000000 by omega)) ?_
  rintro _ h4 ⟨s5, rfl, n5, x5⟩
  have st := (st.new x5 n5).drop 0 rfl
  simp only [List.eraseIdx_cons_zero, List.cons_append, List.nil_append] at st
  generalize hR : followR l (negs c) ids = R at *
  obtain ⟨A, cf, bid, e⟩ := R
  simp only at hK hRl st ⊢
  by_cases he : e = 0
  rotate_left
  · rw [if_pos he] at hK
    exact brT (by simpa using he) (hK _ _ _ _ rfl (st.frame (by simp)))
  rw [if_neg (by simp [he])] at hK
  refine brF (by simp [he]) ?_
  cases cf with
  | true =>
    rw [if_pos rfl] at hK
    exact brT rfl (hK _ _ _ _ rfl (st.frame (by simp)))
  | false =>
  rw [if_neg (by simp)] at hK
  refine brF rfl ?_
  rw [ld_sl (i := 0) (st.fblk 4 rfl) rfl]
  cases c with
  | nil => exact brT (by rw [lc]; rfl) (hK _ _ _ _ rfl (st.frame (by simp)))
  | cons p r =>
  simp only at hK
  refine brF (by rw [lc, List.length_cons, beq_eq_false_iff_ne]; omega) ?_
  rw [ld_sl (i := 0) (st.fblk 4 rfl) rfl]
  refine rdE (τ := i64) (i := 0) (st.fz 1 rfl) (by simp) ?_
  simp only [List.getElem_cons_zero]
  have hp : rt p = true := rightC_rt hr p (by simp)
  have st := st.froz 0 rfl
  simp only [List.eraseIdx_cons_zero, List.cons_append, List.nil_append] at st
  refine call_of (r9_Candidates_c (st.fz 0 rfl) hE hp) ?_
  rintro s9 h6 ⟨n9, x9⟩
  have st := (st.new x9 n9).froz 0 rfl
  simp only [List.eraseIdx_cons_zero, List.cons_append, List.nil_append] at st
  have lW := rsl_len (st.fz 6 rfl)
  have hWl : (candIDs l p).length ≤ l.length := by unfold candIDs; rw [List.length_map]; exact List.length_filter_le _ _
  obtain ⟨GG, hGG⟩ : ∃ GG : List Asn, GG = [ent l s, li (p :: r) sl, li ids sh, ent gs sg, cl b0 ty_salvorref09_Step [.slice sl.a sl.len sl.cap, .slice sh.a sh.len sh.cap, .slice sg.a sg.len sg.cap], li A s5, li (candIDs l p) s9] := ⟨_, rfl⟩
  have st : Hs [([], h)] GG [] h6 := by rw [hGG]; exact st
  have g0 : GG[0]? = some (ent l s) := by rw [hGG]; rfl
  have g3 : GG[3]? = some (ent gs sg) := by rw [hGG]; rfl
  have g4 : GG[4]? = some (cl b0 ty_salvorref09_Step [.slice sl.a sl.len sl.cap, .slice sh.a sh.len sh.cap, .slice sg.a sg.len sg.cap]) := by rw [hGG]; rfl
  have g5 : GG[5]? = some (li A s5) := by rw [hGG]; rfl
  have g6 : GG[6]? = some (li (candIDs l p) s9) := by rw [hGG]; rfl
  clear hGG
  refine lfp_invh (I := fun m σ h' => ∃ (i : Nat) (u1 u2 u3 : Int), σ = ((i : Int), u1, u2, u3, ()) ∧ i ≤ (candIDs l p).length ∧ (∀ x ∈ (candIDs l p).take i, (gs.map (·.1)).contains x = true) ∧ Hs [([], h)] GG [] h' ∧ m = (candIDs l p).length - i)
    ⟨_, 0, _, _, _, rfl, by omega, by simp, st, rfl⟩ ?_
  clear st
  rintro m σ h7 X ⟨i, u1, u2, u3, rfl, hi, hall, st, rfl⟩ hX
  simp only
  by_cases hlt : i < (candIDs l p).length
  · refine brT (by rw [lW]; exact dlt_t hlt) ?_
    -- is there a group of it?
    refine lfp_invh (I := fun m σ h' => ∃ (k : Nat), σ = ((k : Int), ((gs.take k).map (·.1)).contains (candIDs l p)[i], ()) ∧ k ≤ gs.length ∧ Hs [([], h)] GG [] h' ∧ m = gs.length - k)
      ⟨_, 0, by simp, by omega, st, rfl⟩ ?_
    clear st
    rintro m σ h8 Y ⟨k, rfl, hk, st, rfl⟩ hY
    simp only
    rw [ld_sl (i := 2) (st.fblk 4 g4) rfl]
    by_cases hkl : k < gs.length
    · refine brT (by rw [lg]; exact dlt_t hkl) ?_
      have ct : ((gs.take (k + 1)).map (·.1)).contains (candIDs l p)[i] = (((gs.take k).map (·.1)).contains (candIDs l p)[i] || gs[k].1 == (candIDs l p)[i]) := by
        rw [take_lt hkl, List.map_append, Bool.eq_iff_iff]
        simp only [List.contains_iff_mem, List.mem_append, Bool.or_eq_true, beq_iff_eq, List.map_cons, List.map_nil, List.mem_singleton]
        exact ⟨fun q => q.imp id Eq.symm, fun q => q.imp id Eq.symm⟩
      cases hc : ((gs.take k).map (·.1)).contains (candIDs l p)[i] with
      | true =>
        rw [hc] at ct
        refine brT rfl ?_
        rw [inc_i (by omega)]
        exact hY _ _ _ ⟨k + 1, by rw [ct]; rfl, by omega, st, rfl⟩ (by omega)
      | false =>
        rw [hc] at ct
        refine brF rfl ?_
        rw [ld_sl (i := 2) (st.fblk 4 g4) rfl]
        refine rdPri (st.fz 3 g3) hkl ?_
        refine rdE (τ := i64) (st.fz 6 g6) hlt ?_
        rw [inc_i (by omega)]
        exact hY _ _ _ ⟨k + 1, by rw [ct]; rfl, by omega, st, rfl⟩ (by omega)
    · refine brF (by rw [lg]; exact dlt_f hkl) ?_
      rw [List.take_of_length_le (by omega)]
      cases hc : (gs.map (·.1)).contains (candIDs l p)[i] with
      | false =>
        refine brT rfl ?_
        refine rdE (τ := i64) (st.fz 6 g6) hlt ?_
        have eg := groupsP_miss hlt hc hall
        refine hK _ _ _ _ ?_ (st.frame (by simp))
        rw [eg, if_pos (show (92 : Int) ≠ 0 by decide)]
      | true =>
        refine brF rfl ?_
        rw [inc_i (by omega)]
        exact hX _ _ _ ⟨i + 1, _, _, _, rfl, by omega, fun x hx => by
          rw [take_lt hlt] at hx
          rcases List.mem_append.1 hx with hx | hx
          · exact hall x hx
          · simp only [List.mem_singleton] at hx; subst hx; exact hc, st, rfl⟩ (by omega)
  refine brF (by rw [lW]; exact dlt_f hlt) ?_
  clear hX
  rw [List.take_of_length_le (by omega)] at hall
  have egp := groupsP_all hall
  -- the groups' order
  refine lfp_invh (I := fun m σ h' => ∃ (i : Nat) (last u1 u2 u3 : Int), σ = ((i : Int), u1, u2, u3, ()) ∧ i ≤ gs.length ∧ (∀ (h0 : 0 < i) (h1 : i - 1 < gs.length), gs[i - 1].1 = last) ∧ (i = 0 → last = 0) ∧ scanG (candIDs l p) last (gs.drop i) = scanG (candIDs l p) 0 gs ∧ Hs [([], h)] GG [] h' ∧ m = gs.length - i)
    ⟨_, 0, 0, _, _, _, rfl, by omega, fun h0 => by omega, fun _ => rfl, rfl, st, rfl⟩ ?_
  clear st
  rintro m σ h8 X ⟨i, last, v1, v2, v3, rfl, hi, hla, hla0, hsc, st, rfl⟩ hX
  simp only
  rw [ld_sl (i := 2) (st.fblk 4 g4) rfl]
  by_cases hlt : i < gs.length
  · refine brT (by rw [lg]; exact dlt_t hlt) ?_
    rw [ld_sl (i := 2) (st.fblk 4 g4) rfl]
    rw [List.drop_eq_getElem_cons hlt, scanG] at hsc
    refine rdPri (st.fz 3 g3) hlt ?_
    refine call_of (r9_has_c (st.fz 6 g6) (by omega) _) ?_
    rintro _ h9 ⟨rfl, e⟩; subst e
    have bad : (gs[i].1 ∉ candIDs l p ∨ gs[i].1 ≤ last) → K (0, gs[i].1, 92, ()) h9 := fun q => by
      rw [if_pos q] at hsc
      refine hK _ _ _ _ ?_ (st.frame (by simp))
      rw [egp, ← hsc, if_pos (show (92 : Int) ≠ 0 by decide)]
    cases hm : (candIDs l p).contains gs[i].1 with
    | false =>
      refine brT rfl ?_
      rw [ld_sl (i := 2) (st.fblk 4 g4) rfl]
      refine rdPri (st.fz 3 g3) hlt ?_
      exact bad (.inl (by simpa using hm))
    | true =>
      have hm : gs[i].1 ∈ candIDs l p := by simpa using hm
      refine brF rfl ?_
      have pos : 0 < gs[i].1 := by
        obtain ⟨j, hj, e, _⟩ := cand_at hm
        rw [← e]; exact (rightE_sorted hE).2 _ (List.getElem_mem hj)
      have cont : last < gs[i].1 → X (IntKind.wrap .i64 ((i : Int) + 1), v1, v2, v3, ()) h9 := fun q => by
        rw [if_neg (by rintro (k | k); exact k hm; omega)] at hsc
        rw [inc_i (by omega)]
        exact hX _ _ _ ⟨i + 1, gs[i].1, _, _, _, rfl, by omega, fun _ _ => rfl, fun h => by omega, hsc, st, rfl⟩ (by omega)
      by_cases c3 : 0 < i
      · refine brT (decide_eq_true (by omega)) ?_
        rw [ld_sl (i := 2) (st.fblk 4 g4) rfl]
        refine rdPri (st.fz 3 g3) hlt ?_
        rw [ld_sl (i := 2) (st.fblk 4 g4) rfl]
        rw [show IntKind.wrap .i64 ((i : Int) - 1) = ((i - 1 : Nat) : Int) by rw [wrap_i64 (by omega) (by omega)]; omega]
        refine rdPri (st.fz 3 g3) (show i - 1 < gs.length by omega) ?_
        rw [hla c3 (by omega)]
        by_cases c4 : gs[i].1 ≤ last
        · refine brT (decide_eq_true c4) ?_
          rw [ld_sl (i := 2) (st.fblk 4 g4) rfl]
          refine rdPri (st.fz 3 g3) hlt ?_
          exact bad (.inr c4)
        · exact brF (decide_eq_false c4) (cont (by omega))
      · exact brF (decide_eq_false (by omega)) (cont (by rw [hla0 (by omega)]; exact pos))
  refine brF (by rw [lg]; exact dlt_f hlt) ?_
  clear hX
  rw [List.drop_eq_nil_of_le (by omega), scanG] at hsc
  rw [← hsc] at egp
  have hgm := groups_mem (l := l) (p := p) (gs := gs) (by rw [egp])
  rw [egp, if_neg (by simp)] at hK
  -- the groups' hints
  refine lfp_invh (I := fun m σ h' => ∃ (i : Nat) (u1 u2 u3 : Int), σ = ((i : Int), u1, u2, u3, ()) ∧ i ≤ gs.length ∧ checkG l p A (gs.drop i) = checkG l p A gs ∧ Hs [([], h)] GG [] h' ∧ m = gs.length - i)
    ⟨_, 0, _, _, _, rfl, by omega, rfl, st, rfl⟩ ?_
  clear st
  rintro m σ h9 X ⟨i, w1, w2, w3, rfl, hi, hcg, st, rfl⟩ hX
  simp only
  rw [ld_sl (i := 2) (st.fblk 4 g4) rfl]
  by_cases hlt : i < gs.length
  rotate_left
  · refine brF (by rw [lg]; exact dlt_f hlt) ?_
    rw [List.drop_eq_nil_of_le (by omega), checkG] at hcg
    rw [← hcg] at hK
    exact hK _ _ _ _ rfl (st.frame (by simp))
  refine brT (by rw [lg]; exact dlt_t hlt) ?_
  refine jn_in fun J hJ => ?_
  rw [ld_sl (i := 2) (st.fblk 4 g4) rfl]
  refine rdPr (st.fz 3 g3) hlt fun q hrow => ?_
  refine st.pr fun b49 h10 x10 st => ?_
  simp only [List.nil_append] at st
  have hrow := hrow.ext x10
  rw [st.ldi 0 0 rfl rfl]
  obtain ⟨j, hj, ej, hcj⟩ := cand_at (hgm _ (List.getElem_mem hlt))
  have hlk : lookE l gs[i].1 = some l[j].2 := by rw [← ej]; exact lookE_at hE hj
  rw [List.drop_eq_getElem_cons hlt, checkG, hlk] at hcg
  simp only at hcg
  refine call_of (r9_find_c (st.fz 0 g0) (by omega) _) ?_
  rintro _ h11 ⟨rfl, e⟩; subst e
  have efi : findI l gs[i].1 = (j : Int) := by unfold findI; rw [← ej, findE_at hE hj]
  rw [efi]
  refine rdPrs (st.fz 0 g0) hj fun q2 hq2 => ?_
  have hrj := hrl _ (List.getElem_mem hj)
  have hlj := rightC_len (rightE_lits hE _ (List.getElem_mem hj))
  refine call_of (r9_open_c hq2 (st.fz 5 g5) hrj hp (by omega)) ?_
  rintro _ h12 ⟨s54, rfl, n54, x54⟩
  have hrow := hrow.ext x54
  have st := st.new x54 n54
  simp only [List.nil_append, List.cons_append] at st
  have cont : ∀ h' As, Hs [([], h)] GG As h' → checkG l p A (gs.drop (i + 1)) = checkG l p A gs → J (w1, w2, w3, ()) h' := fun h' As st hc => by
    refine hJ _ _ ?_
    simp only
    rw [inc_i (by omega)]
    exact hX _ _ _ ⟨i + 1, _, _, _, rfl, by omega, hc, Hs.dropR (As := []) st, rfl⟩ (by omega)
  have hro : (restP p A l[j].2).1.length ≤ l[j].2.length := by
    unfold restP
    split
    · simp
    · simp only [List.length_map]; exact List.length_filter_le _ _
  cases ho : (restP p A l[j].2).2 with
  | false =>
    rw [if_pos ho] at hcg
    exact brT rfl (cont _ _ st hcg)
  | true =>
  rw [if_neg (by simp [ho])] at hcg
  rw [ho, if_pos rfl] at st
  refine brF rfl ?_
  rw [st.lds 0 1 rfl rfl]
  refine call_of (r9_follow_c (st.fz 0 g0) hE (st.own 1 rfl).rsl hrow (by have := hgh _ (List.getElem_mem hlt); simp; omega)) ?_
  rintro _ h13 ⟨s56, rfl, _, x56⟩
  have st := st.ext x56
  generalize followR l (A ++ (restP p A l[j].2).1) gs[i].2 = R2 at *
  obtain ⟨A2, cf2, id2, e2⟩ := R2
  simp only at hcg ⊢
  by_cases he2 : e2 = 0
  · rw [if_neg (by simp [he2])] at hcg
    refine brF (by simp [he2]) ?_
    cases cf2 with
    | true =>
      rw [if_neg (by simp)] at hcg
      exact brF rfl (cont _ _ st hcg)
    | false =>
      rw [if_pos rfl] at hcg
      refine brT rfl ?_
      rw [st.ldi 0 0 rfl rfl]
      refine hK _ _ _ _ ?_ (st.frame (by simp))
      rw [← hcg, if_pos (show (93 : Int) ≠ 0 by decide)]
  · rw [if_pos he2] at hcg
    refine brT (by simpa using he2) ?_
    refine hK _ _ _ _ ?_ (st.frame (by simp))
    rw [← hcg]
    simp only
    rw [if_pos he2]
end Go.Proofs.S
namespace Go.Proofs.S
open Go Go.Sx Go.Proofs Go.Cl
variable {h : Heap} {c d : List Int} {s s2 : Sl} {fr : Fr} {G As : List Asn}
end Go.Proofs.S
namespace Go.Proofs.S
open Go Go.Sx Go.Proofs Go.Cl Go.Rp
variable {h : Heap} {c d A us : List Int} {cs ds hs : List (List Int)} {s s2 : Sl} {fr : Fr} {G As : List Asn} {b : Nat}
theorem Ints_c (hA : At h (li c s)) (hl : c.length ≤ 1048576) : callT Tryz.prog fn_salvorlaw08_Ints #[.slice s.a s.len s.cap] .sl (fun s' h' => New h.size h' (iox c s') ∧ Ext [] h h') h := by
  refine callT_gen fun K hK => S_salvorlaw08_Ints (a0 := s) K ?_
  unfold F_salvorlaw08_Ints
  have l1 := rsl_len hA
  have st := (Hs.start h [li c s] (by simp [hA])).nil ty_int i64.enc none
  refine lfp_invh (I := fun m σ h' => ∃ (i : Nat) (o : Sl), σ = ((i : Int), o, ()) ∧ i ≤ c.length ∧ m = c.length - i ∧ Hs [([], h)] [li c s] [iox (c.take i) o] h') ⟨_, 0, ⟨none, 0, 0⟩, rfl, by omega, rfl, st⟩ ?_
  clear st
  rintro m σ h' X ⟨i, o, rfl, hi, rfl, st⟩ hX
  simp only
  by_cases hlt : i < c.length
  · refine brT (by rw [l1]; exact dlt_t hlt) ?_
    rw [inc_i (by omega)]
    refine rdE (τ := i64) (st.fz 0 rfl) hlt ?_
    refine st.nw fun b4 h2 st => ?_
    refine st.apd (enc := i64.enc) (v := c[i]) 0 1 rfl rfl (by decide) rfl (by simp; omega) (by decide) rfl fun s5 h3 st => ?_
    have st := st.drop 1 rfl
    refine hX _ _ _ ⟨i + 1, s5, rfl, by omega, rfl, ?_⟩ (by omega)
    rw [take_lt hlt]; exact st
  · refine brF (by rw [l1]; exact dlt_f hlt) ?_
    rw [List.take_of_length_le (by omega)] at st
    exact hK _ _ ⟨st.res (by simp) 0 rfl, st.frame (by simp)⟩
end Go.Proofs.S
namespace Go.Proofs.S
open Go Go.Sx Go.Proofs Go.Cl Go.Rp Go.Rt
variable {h h0 : Heap} {c d A f ids hs W : List Int} {l : List Ent} {cs : List (List Int)} {gs us vs : List Grp} {s s2 s3 s4 sc sl sh sg sx1 sx2 : Sl} {fr : Fr} {G As : List Asn} {id p n : Int} {i k : Nat} {b m b0 b1 bs : Nat}
theorem Theirs_c (hA : At h (ent l s)) (hl : l.length ≤ 100000) (hll : ∀ x ∈ l, x.2.length ≤ 1048576) : callT Tryz.prog fn_salvorlaw09_Theirs #[.slice s.a s.len s.cap] .sl (fun s' h' => New h.size h' (ent l s') ∧ Ext [] h h') h := by
  refine callT_gen fun K hK => S_salvorlaw09_Theirs (a0 := s) K ?_
  unfold F_salvorlaw09_Theirs
  have l1 := rsp_len hA
  have st := Hs.start h [ent l s] (by simp [hA])
  have st := st.new (A := osn ty_salvorref09_Entry 2 tPr.vals [] ⟨none, 0, 0⟩) (Ext.refl' [] _) ⟨[], .inr ⟨rfl, rfl, rfl, rfl⟩, by simp⟩
  have st := st.new (A := inn (fun c p => nio' c p) [] []) (Ext.refl' [] _) ⟨[], rfl, by simp⟩
  simp only [List.nil_append, List.cons_append] at st
  refine lfp_invh (I := fun m σ h' => ∃ (i : Nat) (ps : List tPr.T) (so : Sl), σ = ((i : Int), so, ()) ∧ i ≤ l.length ∧ ps.map (·.1) = (l.take i).map (·.1) ∧ Hs [([], h)] [ent l s] [osn ty_salvorref09_Entry 2 tPr.vals ps so, inn (fun c p => nio' c p) ((l.take i).map (·.2)) (ps.map (·.2.1))] h' ∧ m = l.length - i)
    ⟨_, 0, [], ⟨none, 0, 0⟩, rfl, by omega, rfl, st, rfl⟩ ?_
  clear st
  rintro m σ h1 X ⟨i, ps, so, rfl, hi, hids, st, rfl⟩ hX
  simp only
  have hpl : ps.length = (l.take i).length := by simpa using congrArg List.length hids
  rw [List.length_take, Nat.min_eq_left hi] at hpl
  by_cases hlt : i < l.length
  · refine brT (by rw [l1]; exact dlt_t hlt) ?_
    refine rdPr (st.fz 0 rfl) hlt fun q hq => ?_
    refine st.pr fun b4 h4 x4 st => ?_
    have hq := hq.ext x4
    simp only [List.nil_append, List.cons_append] at st
    rw [st.ldi 2 0 rfl rfl, addr_add, st.lds 2 1 rfl rfl]
    refine call_of (Ints_c hq (hll _ (List.getElem_mem hlt))) ?_
    rintro s7 h5 ⟨n7, x7⟩
    have st := st.new x7 n7
    simp only [List.nil_append, List.cons_append] at st
    rw [st.ck 2 0 rfl rfl]
    refine st.nw fun b8 h6 st => ?_
    simp only [List.nil_append, List.cons_append] at st
    refine Hs.apdN (v := ((l[i].1, s7, ()) : tPr.T)) st widePr (by decide) 0 4 rfl rfl (by decide) (fun u hu => by
      have hu : u ∈ [Value.int .i64 l[i].1, .slice s7.a s7.len s7.cap] := hu
      simp only [List.mem_cons, List.not_mem_nil, or_false] at hu
      rcases hu with rfl | rfl <;> rfl) (by omega) (by decide) rfl fun s9 h7 st => ?_
    simp only [List.set_cons_zero, List.set_cons_succ] at st
    have st := (st.drop 4 rfl).drop 2 rfl
    simp only [List.eraseIdx_cons_succ, List.eraseIdx_cons_zero] at st
    have st := st.move (A' := inn (fun c p => nio' c p) ((l.take i).map (·.2) ++ [l[i].2]) (ps.map (·.2.1) ++ [s7])) 1 2 rfl rfl (by decide) fun S1 S2 h1 h2 hd => Inner.snoc h1 h2
    simp only [List.set_cons_zero, List.set_cons_succ] at st
    have st := st.drop 2 rfl
    simp only [List.eraseIdx_cons_succ, List.eraseIdx_cons_zero] at st
    rw [inc_i (by omega)]
    refine hX _ _ _ ⟨i + 1, ps ++ [(l[i].1, s7, ())], s9, rfl, by omega, ?_, ?_, rfl⟩ (by omega)
    · rw [take_lt hlt, List.map_append, List.map_append, hids]; rfl
    · rw [take_lt hlt, List.map_append, List.map_append]; exact st
  · refine brF (by rw [l1]; exact dlt_f hlt) ?_
    rw [List.take_of_length_le (by omega)] at st hids
    exact hK _ _ ⟨ent_new (st.res (by simp) 0 rfl) (st.res (by simp) 1 rfl) hids, st.frame (by simp)⟩
set_option maxRecDepth 100000 in
def StTl (b0 b1 bs : Nat) (sx1 sx2 : Sl) (K : (Sl × (Sl × (Sl × Unit))) → HP) : HP :=
 st1 (⟨bs, 0, none⟩ : Addr) (.slice sx1.a sx1.len sx1.cap) <|
 st1 ((⟨bs, 0, none⟩ : Addr).add 1) (.slice sx2.a sx2.len sx2.cap) <|
 st1 ((⟨bs, 0, none⟩ : Addr).add 2) (.slice none 0 0) <|
 ldT .sl ((⟨b0, 0, none⟩ : Addr).add 2) fun x7 =>
 lfp (σ := (Int × Unit)) (fun X8 s9 =>
 brB (decide (s9.1 < (x7.len : Int)))
 (sx x7.a x7.len s9.1 2 fun p10 =>
 ldA (.cons (.int .i64) (.cons .sl .nil)) p10 fun x11 =>
 nw #[(.int .i64 (0 : Int)), (.slice none 0 0)] ty_rat_Group fun b12 =>
 st1 (⟨b12, 0, none⟩ : Addr) (.int .i64 x11.1) <|
 st1 ((⟨b12, 0, none⟩ : Addr).add 1) (.slice x11.2.1.a x11.2.1.len x11.2.1.cap) <|
 ldT .sl ((⟨bs, 0, none⟩ : Addr).add 2) fun x13 =>
 ldT (.int .i64) (⟨b12, 0, none⟩ : Addr) fun x14 =>
 ldT .sl ((⟨b12, 0, none⟩ : Addr).add 1) fun x15 =>
 callT Tryz.prog fn_slices_Clone_int_int #[(.slice x15.a x15.len x15.cap)] .sl fun r16 =>
 ck (⟨b12, 0, none⟩ : Addr) (.int .i64 x14) <|
 ck ((⟨bs, 0, none⟩ : Addr).add 2) (.slice x13.a x13.len x13.cap) <|
 nw #[(.int .i64 x14), (.slice r16.a r16.len r16.cap)] ty_salvorref09_Group fun b17 =>
 apd ty_salvorref09_Group 2 32 #[(.int .i64 (0 : Int)), (.slice none 0 0)] ⟨x13.a, x13.len, x13.cap⟩ ⟨(some (⟨b17, 0, none⟩ : Addr)), 1, 1⟩ fun s18 =>
 st1 ((⟨bs, 0, none⟩ : Addr).add 2) (.slice s18.a s18.len s18.cap) <|
 X8 ((IntKind.wrap .i64 (s9.1 + (1 : Int))), ()))
 (ldA (.cons .sl (.cons .sl (.cons .sl .nil))) (⟨bs, 0, none⟩ : Addr) fun x19 =>
 st1 (⟨b1, 0, none⟩ : Addr) (.slice x19.1.a x19.1.len x19.1.cap) <|
 st1 ((⟨b1, 0, none⟩ : Addr).add 1) (.slice x19.2.1.a x19.2.1.len x19.2.1.cap) <|
 st1 ((⟨b1, 0, none⟩ : Addr).add 2) (.slice x19.2.2.1.a x19.2.2.1.len x19.2.2.1.cap) <|
 ldA (.cons .sl (.cons .sl (.cons .sl .nil))) (⟨b1, 0, none⟩ : Addr) fun x20 =>
 K (⟨x20.1.a, x20.1.len, x20.1.cap⟩, ⟨x20.2.1.a, x20.2.1.len, x20.2.1.cap⟩, ⟨x20.2.2.1.a, x20.2.2.1.len, x20.2.2.1.cap⟩, ())))
 ((0 : Int), ())
set_option maxRecDepth 20000 in
set_option maxHeartbeats 1000000 in
theorem stTl_c {v1 v2 v3 v4 v5 v6 w1 w2 : Value} {K : (Sl × (Sl × (Sl × Unit))) → HP} (st : Hs [([], h0)] G [cl b1 ty_salvorref09_Step [v1, v2, v3], cl bs ty_salvorref09_Step [v4, v5, v6]] h)
    (m0 : cl b0 ty_rat_Step [w1, w2, .slice sg.a sg.len sg.cap] ∈ G) (mG : ent gs sg ∈ G) (m1 : newA h0.size (nio' c sx1) ∈ G) (m2 : newA h0.size (nio' ids sx2) ∈ G) (hgl : gs.length ≤ 100000) (hgh : ∀ g ∈ gs, g.2.length ≤ 1000000)
    (hK : ∀ s' h', New h0.size h' (nio' c sx1) → New h0.size h' (nio' ids sx2) → New h0.size h' (ent gs s') → Ext [] h0 h' → K (sx1, sx2, s', ()) h') : StTl b0 b1 bs sx1 sx2 K h := by
  unfold StTl
  obtain ⟨j0, g0⟩ := List.getElem?_of_mem m0
  obtain ⟨jG, gG⟩ := List.getElem?_of_mem mG
  have lg := rsp_len (st.fz jG gG)
  simp only [addr_add, Nat.zero_add]
  refine st.st1 1 0 rfl (by simp) fun h1 st => ?_
  refine st.st1 1 1 rfl (by simp) fun h2 st => ?_
  refine st.st1 1 2 rfl (by simp) fun h3 st => ?_
  simp only [List.set_cons_zero, List.set_cons_succ] at st
  rw [ld_sl (i := 2) (st.fblk j0 g0) rfl]
  have st := st.new (A := osn ty_salvorref09_Group 2 tPr.vals [] ⟨none, 0, 0⟩) (Ext.refl' [] _) ⟨[], .inr ⟨rfl, rfl, rfl, rfl⟩, by simp⟩
  have st := st.new (A := inn (fun c p => nio' c p) [] []) (Ext.refl' [] _) ⟨[], rfl, by simp⟩
  simp only [List.nil_append, List.cons_append] at st
  refine lfp_invh (I := fun m σ h' => ∃ (i : Nat) (ps : List tPr.T) (so : Sl), σ = ((i : Int), ()) ∧ i ≤ gs.length ∧ ps.map (·.1) = (gs.take i).map (·.1) ∧ Hs [([], h0)] G [cl b1 ty_salvorref09_Step [v1, v2, v3], cl bs ty_salvorref09_Step [.slice sx1.a sx1.len sx1.cap, .slice sx2.a sx2.len sx2.cap, .slice so.a so.len so.cap], osn ty_salvorref09_Group 2 tPr.vals ps so, inn (fun c p => nio' c p) ((gs.take i).map (·.2)) (ps.map (·.2.1))] h' ∧ m = gs.length - i)
    ⟨_, 0, [], ⟨none, 0, 0⟩, rfl, by omega, rfl, st, rfl⟩ ?_
  clear st
  rintro m σ h4 X ⟨i, ps, so, rfl, hi, hids, st, rfl⟩ hX
  simp only
  have hpl : ps.length = (gs.take i).length := by simpa using congrArg List.length hids
  rw [List.length_take, Nat.min_eq_left hi] at hpl
  by_cases hlt : i < gs.length
  · refine brT (by rw [lg]; exact dlt_t hlt) ?_
    refine rdPr (st.fz jG gG) hlt fun q hq => ?_
    refine st.pr fun b12 h5 x5 st => ?_
    have hq := hq.ext x5
    simp only [List.nil_append, List.cons_append] at st
    rw [st.lds 1 2 rfl rfl, st.ldi 4 0 rfl rfl, st.lds 4 1 rfl rfl]
    refine cloneI_c st hq (by have := hgh _ (List.getElem_mem hlt); omega) fun s16 h6 st => ?_
    simp only [List.nil_append, List.cons_append] at st
    rw [st.ck 4 0 rfl rfl, st.ck 1 2 rfl rfl]
    refine st.nw fun b17 h7 st => ?_
    simp only [List.nil_append, List.cons_append] at st
    refine Hs.apdN (v := ((gs[i].1, s16, ()) : tPr.T)) st widePr (by decide) 2 6 rfl rfl (by decide) (fun u hu => by
      have hu : u ∈ [Value.int .i64 gs[i].1, .slice s16.a s16.len s16.cap] := hu
      simp only [List.mem_cons, List.not_mem_nil, or_false] at hu
      rcases hu with rfl | rfl <;> rfl) (by omega) (by decide) rfl fun s18 h8 st => ?_
    refine st.st1 1 2 rfl (by simp) fun h9 st => ?_
    simp only [List.set_cons_zero, List.set_cons_succ] at st
    have st := (st.drop 6 rfl).drop 4 rfl
    simp only [List.eraseIdx_cons_succ, List.eraseIdx_cons_zero] at st
    have st := st.move (A' := inn (fun c p => nio' c p) ((gs.take i).map (·.2) ++ [gs[i].2]) (ps.map (·.2.1) ++ [s16])) 3 4 rfl rfl (by decide) fun S1 S2 h1 h2 hd => Inner.snoc h1 h2
    simp only [List.set_cons_zero, List.set_cons_succ] at st
    have st := st.drop 4 rfl
    simp only [List.eraseIdx_cons_succ, List.eraseIdx_cons_zero] at st
    rw [inc_i (by omega)]
    refine hX _ _ _ ⟨i + 1, ps ++ [(gs[i].1, s16, ())], s18, rfl, by omega, ?_, ?_, rfl⟩ (by omega)
    · rw [take_lt hlt, List.map_append, List.map_append, hids]; rfl
    · rw [take_lt hlt, List.map_append, List.map_append]; exact st
  · refine brF (by rw [lg]; exact dlt_f hlt) ?_
    rw [List.take_of_length_le (by omega)] at st hids
    refine ldRow (τ := .cons .sl (.cons .sl (.cons .sl .nil))) (x := (sx1, sx2, so, ())) (st.blk 1 rfl) ?_
    refine st.st1 0 0 rfl (by simp) fun h5 st => ?_
    refine st.st1 0 1 rfl (by simp) fun h5 st => ?_
    refine st.st1 0 2 rfl (by simp) fun h5 st => ?_
    simp only [List.set_cons_zero, List.set_cons_succ] at st
    refine ldRow (τ := .cons .sl (.cons .sl (.cons .sl .nil))) (x := (sx1, sx2, so, ())) (st.blk 0 rfl) ?_
    exact hK so _ (newA_new (st.fzm m1)) (newA_new (st.fzm m2)) (ent_new (st.res (by simp) 2 rfl) (st.res (by simp) 3 rfl) hids) (st.frame (by simp))
abbrev tSt : Ty := .agg (.cons .sl (.cons .sl (.cons .sl .nil)))
set_option maxRecDepth 20000 in
set_option maxHeartbeats 1000000 in
theorem step_c (hL : At h (li c sl)) (hH : At h (li ids sh)) (hG : At h (ent gs sg)) (hcl : c.length ≤ 1048576) (hil : ids.length ≤ 1000000) (hgl : gs.length ≤ 100000) (hgh : ∀ g ∈ gs, g.2.length ≤ 1000000) :
    callT Tryz.prog fn_salvorlaw09_step #[.agg #[.slice sl.a sl.len sl.cap, .slice sh.a sh.len sh.cap, .slice sg.a sg.len sg.cap]] tSt
      (fun r h' => ∃ s1 s2 s3, r = (s1, s2, s3, ()) ∧ New h.size h' (nio' c s1) ∧ New h.size h' (nio' ids s2) ∧ New h.size h' (ent gs s3) ∧ Ext [] h h') h := by
  refine callT_gen fun K hK => S_salvorlaw09_step (a0 := (sl, sh, sg, ())) K ?_
  unfold F_salvorlaw09_step
  have st := Hs.start h [li c sl, li ids sh, ent gs sg] (by simp [hL, hH, hG])
  refine st.nw fun b0 h1 st => ?_
  have st := st.freeze 0 rfl
  simp only [List.nil_append, List.cons_append, List.eraseIdx_cons_zero] at st
  refine st.nw fun b1 h2 st => ?_
  simp only [List.nil_append, List.cons_append] at st
  rw [ld_sl (i := 0) (st.fblk 3 rfl) rfl, addr_add, Nat.zero_add, ld_sl (i := 1) (st.fblk 3 rfl) rfl]
  have fin : ∀ bs r4 r5 h' , Hs [([], h)] [li c sl, li ids sh, ent gs sg, cl b0 ty_rat_Step [.slice sl.a sl.len sl.cap, .slice sh.a sh.len sh.cap, .slice sg.a sg.len sg.cap], newA h.size (nio' c r4), newA h.size (nio' ids r5)] [cl b1 ty_salvorref09_Step [.slice none 0 0, .slice none 0 0, .slice none 0 0], cl bs ty_salvorref09_Step [.slice none 0 0, .slice none 0 0, .slice none 0 0]] h' → StTl b0 b1 bs r4 r5 K h' := fun bs r4 r5 h' st =>
    stTl_c (c := c) (ids := ids) (gs := gs) (sg := sg) (w1 := .slice sl.a sl.len sl.cap) (w2 := .slice sh.a sh.len sh.cap) st (by simp) (by simp) (by simp) (by simp) hgl hgh fun s' h' n1 n2 n3 x => hK _ _ ⟨_, _, _, rfl, n1, n2, n3, x⟩
  constructor
  · refine call_of (Ints_c (st.fz 0 rfl) hcl) ?_
    rintro r4 h3 ⟨n4, x4⟩
    have st := ((st.new x4 n4).fresh (h0 := h) (by simp) 1 rfl).freeze 1 rfl
    simp only [List.nil_append, List.cons_append, List.set_cons_succ, List.set_cons_zero, List.eraseIdx_cons_succ, List.eraseIdx_cons_zero] at st
    rw [ck_ok (st.fblk 3 rfl) rfl]
    constructor
    · refine cloneI_c st (st.fz 1 rfl) (by omega) fun r5 h4 st => ?_
      have st := (st.fresh (h0 := h) (by simp) 1 rfl).freeze 1 rfl
      simp only [List.nil_append, List.cons_append, List.set_cons_succ, List.set_cons_zero, List.eraseIdx_cons_succ, List.eraseIdx_cons_zero] at st
      refine st.nw fun b6 h5 st => ?_
      simp only [List.nil_append, List.cons_append] at st
      exact fin b6 r4 r5 _ st
    · refine st.nw fun b6 h5 st => ?_
      refine cloneI_c st (st.fz 1 rfl) (by omega) fun r5 h4 st => ?_
      simp only [List.nil_append, List.cons_append] at st
      have st := (st.fresh (h0 := h) (by simp) 2 rfl).freeze 2 rfl
      simp only [List.nil_append, List.cons_append, List.set_cons_succ, List.set_cons_zero, List.eraseIdx_cons_succ, List.eraseIdx_cons_zero] at st
      exact fin b6 r4 r5 _ st
  · refine st.nw fun b6 h5 st => ?_
    simp only [List.nil_append, List.cons_append] at st
    refine call_of (Ints_c (st.fz 0 rfl) hcl) ?_
    rintro r4 h3 ⟨n4, x4⟩
    have st := ((st.new x4 n4).fresh (h0 := h) (by simp) 2 rfl).freeze 2 rfl
    simp only [List.nil_append, List.cons_append, List.set_cons_succ, List.set_cons_zero, List.eraseIdx_cons_succ, List.eraseIdx_cons_zero] at st
    rw [ck_ok (st.fblk 3 rfl) rfl]
    refine cloneI_c st (st.fz 1 rfl) (by omega) fun r5 h4 st => ?_
    simp only [List.nil_append, List.cons_append] at st
    have st := (st.fresh (h0 := h) (by simp) 2 rfl).freeze 2 rfl
    simp only [List.nil_append, List.cons_append, List.set_cons_succ, List.set_cons_zero, List.eraseIdx_cons_succ, List.eraseIdx_cons_zero] at st
    exact fin b6 r4 r5 _ st
end Go.Proofs.S
