/-
  The package rat: Check: contract.
-/
import Derived.Test.YtjkgncibelojnaaGreatRaC
import Derived.Test.YtjkgncibelojnaaGreatSxW3
set_option linter.unusedVariables false
set_option linter.unusedSimpArgs false
namespace Go.Proofs.S
open Go Go.Sx Go.Proofs Go.Cl Go.Rp Go.Rt
variable {h : Heap} {c d A ids : List Int} {l : List Ent} {gs : List Grp} {s s2 s3 sl sh sg : Sl} {fr : Fr} {G As : List Asn} {b : Nat} {id p : Int}
theorem growL_c {n : Int} {K : Sl → HP} (hW : W_grow ty_lits_Lit 8 (.int .i64 0) ⟨none, 0, 0⟩ n K h) : callT Tryz.prog fn_slices_Grow_lits_Lit_lits_Lit #[.slice none 0 0, .int .i64 n] .sl K h :=
  S_slices_Grow_lits_Lit_lits_Lit (a0 := ⟨none, 0, 0⟩) (a1 := n) K hW
theorem concatL_c {t0 : TypeId} (kb : Blk h b t0 [.slice s.a s.len s.cap, .slice s2.a s2.len s2.cap]) (hA : At h (li c s)) (hB : At h (li d s2)) (hl : c.length + d.length ≤ 1048576) :
    callT Tryz.prog fn_slices_Concat_lits_Lit_lits_Lit #[.slice (some ⟨b, 0, none⟩) 2 2] .sl (fun s' h' => New h.size h' (lo (c ++ d) s') ∧ Ext [] h h') h := by
  refine callT_gen fun K hK => S_slices_Concat_lits_Lit_lits_Lit (a0 := ⟨some ⟨b, 0, none⟩, 2, 2⟩) K ?_
  have hp : At h (rsl Ty.sl.enc [s, s2] ⟨some ⟨b, 0, none⟩, 2, 2⟩) := ⟨[b], osl_rsl (t := t0) (.inl ⟨b, [], rfl, rfl, kb⟩)⟩
  refine w_concat (P := Tryz.prog) (τ := i64) (t := ty_lits_Lit) (by_ := 8) (z := .int .i64 0) (fg := fn_slices_Grow_lits_Lit_lits_Lit) (xss := [c, d]) hp rfl ?_ (by simp) (by simp; omega) (by decide) leaf_int (fun n K h hW => growL_c hW) (fun s' h' a b => hK _ _ ⟨by simpa using a, b⟩)
  intro i hi
  match i, hi with
  | 0, _ => exact hA
  | 1, _ => exact hB
theorem followR_len : ∀ {ids A : List Int}, (followR l A ids).1.length ≤ A.length + ids.length
  | [], A => by simp [followR]
  | id :: ids, A => by
    rw [followR]
    split
    · simp
    · rename_i d hd
      split
      · simp
      · split
        · have := followR_len (ids := ids) (A := A ++ [(lookP A d).2])
          rw [List.length_append, List.length_singleton] at this
          rw [List.length_cons]
          refine Nat.le_trans this (by omega)
        · simp
theorem scanG_mem {W : List Int} : ∀ {gs : List Grp} {last : Int}, (scanG W last gs).2 = 0 → ∀ g ∈ gs, g.1 ∈ W
  | [], _, _, g, hg => by simp at hg
  | x :: gs, last, h, g, hg => by
    rw [scanG] at h
    by_cases hb : x.1 ∉ W ∨ x.1 ≤ last
    · rw [if_pos hb] at h; cases h
    · rw [if_neg hb] at h
      rcases List.mem_cons.1 hg with rfl | hg
      · exact Classical.not_not.1 fun q => hb (.inl q)
      · exact scanG_mem h g hg
theorem groups_mem (h : (groupsP l p gs).2 = 0) : ∀ g ∈ gs, g.1 ∈ candIDs l p := by
  unfold groupsP at h
  split at h
  · cases h
  · exact scanG_mem h
theorem cand_at (h : id ∈ candIDs l p) : ∃ j : Nat, ∃ hj : j < l.length, l[j].1 = id ∧ isCand p l[j] = true := by
  unfold candIDs at h
  obtain ⟨x, hx, rfl⟩ := List.mem_map.1 h
  obtain ⟨hx, hc⟩ := List.mem_filter.1 hx
  obtain ⟨j, hj, rfl⟩ := List.mem_iff_getElem.1 hx
  exact ⟨j, hj, rfl, hc⟩
theorem rest_ok (ho : okA A = true) (hr : ∀ x ∈ d, rt x = true) : (restP p A d).1.length ≤ d.length := by
  unfold restP
  split
  · simp
  · simp only [List.length_map]; exact List.length_filter_le _ _
theorem rest_okA (hA : okA A = true) (hd : ∀ x ∈ d, rt x = true) (hal : alwaysC d = false) (ho : (restP p A d).2 = true) : okA (A ++ (restP p A d).1) = true := by
  obtain ⟨hr, hc⟩ := okA_iff.1 hA
  unfold restP at ho ⊢
  by_cases ha : d.any (fun x => decide (x ≠ -p) && A.contains x) = true
  · rw [if_pos ha] at ho; cases ho
  rw [if_neg ha]
  have ha2 : ∀ x ∈ d, x ≠ -p → x ∉ A := fun x hx hne hin => by
    rw [Bool.not_eq_true, List.any_eq_false] at ha
    have := ha x hx
    simp [hne, hin] at this
  unfold alwaysC at hal
  rw [List.any_eq_false] at hal
  rw [okA_iff]
  simp only [List.mem_append, List.mem_map, List.mem_filter, decide_eq_true_eq]
  refine ⟨?_, ?_⟩
  · rintro x (k | ⟨y, ⟨hy, _⟩, rfl⟩)
    · exact hr x k
    · exact rt_neg (hd y hy)
  · rintro x (k | ⟨y, ⟨hy, hne⟩, rfl⟩) (k2 | ⟨z, ⟨hz, hne2⟩, e⟩)
    · exact hc x k k2
    · have : z = x := by omega
      subst this
      exact ha2 z hz hne2 k
    · rw [Int.neg_neg] at k2
      exact ha2 y hy hne k2
    · have : z = -y := by omega
      subst this
      exact hal y hy (by simpa using hz)
abbrev tCk : Ty := .tup (.cons (.int .u8) (.cons (.int .i64) (.cons (.int .i64) .nil)))
set_option maxRecDepth 100000 in
set_option maxHeartbeats 1000000 in
theorem RatCheck_c {c ids : List Int} {gs : List Grp} (hA : At h (ent l s)) (hL : At h (li c sl)) (hH : At h (li ids sh)) (hG : At h (ent gs sg)) (hll : l.length ≤ 1099511627776) (hcl : c.length ≤ 1099511627776) (hil : ids.length ≤ 500000) (hgl : gs.length ≤ 1099511627776) (hgh : ∀ g ∈ gs, g.2.length ≤ 500000) :
    callT Tryz.prog fn_rat_Check #[.slice s.a s.len s.cap, .agg #[.slice sl.a sl.len sl.cap, .slice sh.a sh.len sh.cap, .slice sg.a sg.len sg.cap]] tCk
      (fun r h' => r = ((checkS l ⟨c, ids, gs⟩).1, (checkS l ⟨c, ids, gs⟩).2.1, (checkS l ⟨c, ids, gs⟩).2.2, ()) ∧ Ext [] h h') h := by
  refine callT_gen fun K hK => S_rat_Check (a0 := s) (a1 := (sl, sh, sg, ())) K ?_
  unfold F_rat_Check
  have hK : ∀ (a b e : Int) h', checkS l ⟨c, ids, gs⟩ = (a, b, e) → Ext [] h h' → K (a, b, e, ()) h' := fun a b e h' he x => hK _ _ ⟨by rw [he], x⟩
  have st := Hs.start h [ent l s, li c sl, li ids sh, ent gs sg] (by simp [hA, hL, hH, hG])
  have lc := rsl_len hL
  have lg := rsp_len hG
  refine st.nw fun b0 h1 st => ?_
  have st := st.freeze 0 rfl
  simp only [List.nil_append, List.cons_append, List.eraseIdx_cons_zero] at st
  refine call_of (ratRight_c (st.fz 0 rfl) hll) ?_
  rintro _ h2 ⟨rfl, x2⟩
  have st := st.ext x2
  unfold checkS at hK
  cases hE : rightE l with
  | false =>
    rw [hE, if_pos (by rfl)] at hK
    exact brT rfl (hK _ _ _ _ rfl (st.frame (by simp)))
  | true =>
  rw [hE, if_neg (by simp)] at hK
  refine brF rfl ?_
  rw [ld_sl (i := 0) (st.fblk 4 rfl) rfl]
  refine call_of (Assume_c (st.fz 1 rfl) hcl) ?_
  rintro _ h3 ⟨s3, rfl, n3, x3⟩
  have st := st.new x3 n3
  simp only [List.nil_append] at st
  cases hr : rightC c with
  | false =>
    have eS : assumeP c = ([], false, 20) := by unfold assumeP; rw [hr]; rfl
    rw [eS]
    simp only [hr] at hK
    rw [if_pos (by rfl)] at hK
    exact brT rfl (hK _ _ _ _ rfl (st.frame (by simp)))
  | true =>
  simp only [hr] at hK
  rw [if_neg (by simp)] at hK
  cases ha : alwaysC c with
  | true =>
    have eS : assumeP c = ([], true, 0) := by unfold assumeP; rw [hr, ha]; rfl
    rw [eS]
    simp only [ha] at hK
    rw [if_pos trivial] at hK
    exact brF rfl (brT rfl (hK _ _ _ _ rfl (st.frame (by simp))))
  | false =>
  simp only [ha] at hK
  rw [if_neg (by simp)] at hK
  have eS : assumeP c = (negs c, false, 0) := by unfold assumeP; rw [hr, ha]; rfl
  rw [eS] at st ⊢
  refine brF rfl (brF rfl ?_)
  have hno := okA_negs hr ha
  have hnl : (negs c).length ≤ 4096 := by
    unfold negs; rw [List.length_map]; have := nrm_length c; have := rightC_len hr; omega
  have hrl := fun x (hx : x ∈ l) => rightC_rt (rightE_lits hE x hx)
  have hRo := followR_ok (ids := ids) hno hrl
  have hRl := followR_len (l := l) (ids := ids) (A := negs c)
  rw [addr_add, Nat.zero_add, ld_sl (i := 1) (st.fblk 4 rfl) rfl]
  refine call_of (ratFollow_c (st.fz 0 rfl) hE (st.own 0 rfl).rsl (st.fz 2 rfl) hno (show (negs c).length + ids.length ≤ 1048576 by omega)) ?_
  rintro _ h4 ⟨s5, rfl, hA5, x5⟩
  have st := (st.ext x5).drop 0 rfl
  simp only [List.eraseIdx_cons_zero] at st
  simp only [List.nil_append]
  generalize hR : followR l (negs c) ids = R at *
  obtain ⟨A, cf, bid, e⟩ := R
  simp only at hK hRo hRl hA5 ⊢
  by_cases he : e = 0
  rotate_left
  · rw [if_pos he] at hK
    exact brT (by simpa using he) (hK _ _ _ _ rfl (st.frame (by simp)))
  rw [if_neg (by simp [he])] at hK
  refine brF (by simp [he]) ?_
  cases cf with
  | true =>
    rw [if_pos rfl] at hK
    exact brT rfl (hK _ _ _ _ rfl (st.frame (by simp)))
  | false =>
  rw [if_neg (by simp)] at hK
  refine brF rfl ?_
  rw [ld_sl (i := 0) (st.fblk 4 rfl) rfl]
  cases c with
  | nil => exact brT (by rw [lc]; rfl) (hK _ _ _ _ rfl (st.frame (by simp)))
  | cons p r =>
  simp only at hK
  refine brF (by rw [lc, List.length_cons, beq_eq_false_iff_ne]; omega) ?_
  rw [ld_sl (i := 0) (st.fblk 4 rfl) rfl]
  refine rdE (τ := i64) (i := 0) (st.fz 1 rfl) (by simp) ?_
  simp only [List.getElem_cons_zero]
  have hp : rt p = true := rightC_rt hr p (by simp)
  rw [addr_add, Nat.zero_add, ld_sl (i := 2) (st.fblk 4 rfl) rfl]
  refine call_of (groups_c (st.fz 0 rfl) (st.fz 3 rfl) hE hp hgl) ?_
  rintro _ h5 ⟨rfl, x6⟩
  have st := st.ext x6
  have hA5 := hA5.ext x6
  rw [ld_sl (i := 2) (st.fblk 4 rfl) rfl]
  -- what the loop leaves
  refine jn_in fun J hJ => ?_
  have bad : ∀ (i e id : Int) (cf : Bool) h', e ≠ 0 → ((groupsP l p gs).2 ≠ 0 ∧ (groupsP l p gs).1 = id ∧ (groupsP l p gs).2 = e ∨ (groupsP l p gs).2 = 0 ∧ checkG l p A gs = (id, e)) → Ext [] h h' → J (i, e, id, cf, ()) h' := by
    intro i e id cf h' he hor x
    refine hJ _ _ (brT (by simpa using he) (hK _ _ _ _ ?_ x))
    rcases hor with ⟨h1, h2, h3⟩ | ⟨h1, h2⟩
    · rw [if_pos h1, h2, h3]
    · rw [if_neg (by simp [h1]), h2]
      simp only
      rw [if_pos he]
  have good : ∀ (i id : Int) (cf : Bool) h', (groupsP l p gs).2 = 0 → checkG l p A gs = (0, 0) → Ext [] h h' → J (i, 0, id, cf, ()) h' := by
    intro i id cf h' h1 h2 x
    refine hJ _ _ (brF rfl (hK _ _ _ _ ?_ x))
    rw [if_neg (by simp [h1]), h2]
    rfl
  clear hJ
  refine lfp_invh (I := fun m σ h' => ∃ (i : Nat) (e id : Int) (cf : Bool), σ = ((i : Int), e, id, cf, ()) ∧ i ≤ gs.length ∧
      (e ≠ 0 → ((groupsP l p gs).2 ≠ 0 ∧ (groupsP l p gs).1 = id ∧ (groupsP l p gs).2 = e ∨ (groupsP l p gs).2 = 0 ∧ checkG l p A gs = (id, e))) ∧
      (e = 0 → (groupsP l p gs).2 = 0 ∧ checkG l p A (gs.drop i) = checkG l p A gs) ∧ At h' (li A s5) ∧
      Hs [([], h)] [ent l s, li (p :: r) sl, li ids sh, ent gs sg, cl b0 ty_rat_Step [.slice sl.a sl.len sl.cap, .slice sh.a sh.len sh.cap, .slice sg.a sg.len sg.cap]] [] h' ∧ m = gs.length - i)
    ⟨_, 0, _, _, _, rfl, by omega, fun q => .inl ⟨q, rfl, rfl⟩, fun q => ⟨q, rfl⟩, hA5, st, rfl⟩ ?_
  clear st hA5
  rintro m σ h6 X ⟨i, e, id, cf, rfl, hi, hbad, hgood, hA5, st, rfl⟩ hX
  simp only
  have xf := st.frame (h0 := h) (by simp)
  by_cases hlt : i < gs.length
  rotate_left
  · refine brF (by rw [lg]; exact dlt_f hlt) ?_
    by_cases he : e = 0
    · subst he
      obtain ⟨h1, h2⟩ := hgood rfl
      rw [List.drop_eq_nil_of_le (by omega)] at h2
      exact good _ _ _ _ h1 h2.symm xf
    · exact bad _ _ _ _ _ he (hbad he) xf
  refine brT (by rw [lg]; exact dlt_t hlt) ?_
  refine jn_in fun J2 hJ2 => ?_
  refine rdPr (st.fz 3 rfl) hlt fun q hrow => ?_
  refine st.pr fun b21 h7 x7 st => ?_
  simp only [List.nil_append] at st
  have hrow := hrow.ext x7
  have hA5 := hA5.ext x7
  have xf := st.frame (h0 := h) (by simp)
  by_cases he : e = 0
  rotate_left
  · exact brT (by simpa using he) (bad _ _ _ _ _ he (hbad he) xf)
  subst he
  obtain ⟨h1, h2⟩ := hgood rfl
  refine brF rfl ?_
  rw [st.ldi 0 0 rfl rfl]
  have hgm := groups_mem h1 _ (List.getElem_mem hlt)
  obtain ⟨j, hj, ej, hcj⟩ := cand_at hgm
  have hlk : lookE l gs[i].1 = some l[j].2 := by rw [← ej]; exact lookE_at hE hj
  rw [List.drop_eq_getElem_cons hlt] at h2
  rw [checkG, hlk] at h2
  simp only at h2
  refine call_of (find0_c (st.fz 0 rfl) hE gs[i].1) ?_
  rintro _ h8 ⟨⟨k, hk, rfl, ek⟩ | ⟨k, rfl, hno⟩, x8⟩
  rotate_left
  · exact absurd ej (hno _ (List.getElem_mem hj))
  have ekj : l[k].2 = l[j].2 := by
    have := lookE_at hE hk
    rw [ek, hlk] at this
    exact (Option.some.inj this).symm
  have st := st.ext x8
  have hrow := hrow.ext x8
  have hA5 := hA5.ext x8
  refine rdPrs (st.fz 0 rfl) hk fun q2 hq2 => ?_
  rw [ekj] at hq2
  have hrj := hrl _ (List.getElem_mem hj)
  have hlj := rightC_len (rightE_lits hE _ (List.getElem_mem hj))
  have hal : alwaysC l[j].2 = false := by
    unfold isCand at hcj
    simp only [Bool.and_eq_true, Bool.not_eq_true'] at hcj
    exact hcj.2
  refine call_of (rest_c hq2 hA5 hrj hp (by omega) (by omega)) ?_
  rintro _ h9 ⟨s26, rfl, n26, x9⟩
  have st := st.new x9 n26
  have hrow := hrow.ext x9
  have hA5 := hA5.ext x9
  simp only [List.cons_append, List.nil_append] at st
  have next : ∀ (id : Int) (cf : Bool) h' As, Hs [([], h)] [ent l s, li (p :: r) sl, li ids sh, ent gs sg, cl b0 ty_rat_Step [.slice sl.a sl.len sl.cap, .slice sh.a sh.len sh.cap, .slice sg.a sg.len sg.cap]] As h' → Ext [] h9 h' →
      checkG l p A (gs.drop (i + 1)) = checkG l p A gs → J2 (0, id, cf, ()) h' := by
    intro id cf h' As st x hc
    refine hJ2 _ _ ?_
    simp only
    rw [inc_i (by omega)]
    exact hX _ _ _ ⟨i + 1, 0, id, cf, rfl, by omega, fun q => absurd rfl q, fun _ => ⟨h1, hc⟩, hA5.ext x, Hs.dropR (As := []) st, rfl⟩ (by omega)
  have hro := rest_ok (p := p) hRo hrj
  cases ho : (restP p A l[j].2).2 with
  | false =>
    rw [if_pos ho] at h2
    exact brT rfl (next _ _ _ _ st (Ext.refl' _ _) h2)
  | true =>
  rw [if_neg (by simp [ho])] at h2
  have hok := rest_okA hRo hrj hal ho
  refine brF rfl ?_
  rw [addr_add, Nat.zero_add, st.lds 0 1 rfl rfl]
  refine st.nwX fun b28 h10 x10 st => ?_
  simp only [List.cons_append, List.nil_append] at st
  refine call_of (concatL_c (st.blk 2 rfl) (hA5.ext x10) (st.own 1 rfl).rsl (by omega)) ?_
  rintro s29 h11 ⟨n29, x11⟩
  have st := st.new x11 n29
  simp only [List.cons_append, List.nil_append] at st
  rw [st.ck 0 1 rfl rfl]
  refine call_of (ratFollow_c (st.fz 0 rfl) hE (st.own 3 rfl).rsl ((hrow.ext x10).ext x11) hok (by have := hgh _ (List.getElem_mem hlt); simp; omega)) ?_
  rintro _ h12 ⟨s30, rfl, _, x12⟩
  have st := st.ext x12
  have xx := (x10.nil_trans x11).nil_trans x12
  generalize followR l (A ++ (restP p A l[j].2).1) gs[i].2 = R2 at *
  obtain ⟨A2, cf2, id2, e2⟩ := R2
  simp only at h2 ⊢
  have nextE : ∀ (e id : Int) (cf : Bool) h' As, Hs [([], h)] [ent l s, li (p :: r) sl, li ids sh, ent gs sg, cl b0 ty_rat_Step [.slice sl.a sl.len sl.cap, .slice sh.a sh.len sh.cap, .slice sg.a sg.len sg.cap]] As h' → Ext [] h9 h' →
      e ≠ 0 → checkG l p A gs = (id, e) → J2 (e, id, cf, ()) h' := by
    intro e id cf h' As st x he hc
    refine hJ2 _ _ ?_
    simp only
    rw [inc_i (by omega)]
    exact hX _ _ _ ⟨i + 1, e, id, cf, rfl, by omega, fun _ => .inr ⟨h1, hc⟩, fun q => absurd q he, hA5.ext x, Hs.dropR (As := []) st, rfl⟩ (by omega)
  refine jn_in fun J3 hJ3 => ?_
  by_cases he2 : e2 = 0
  · rw [if_neg (by simp [he2])] at h2
    refine brT (by simpa using he2) ?_
    cases cf2 with
    | true =>
      rw [if_neg (by simp)] at h2
      refine hJ3 _ _ (jn_in fun J4 hJ4 => brF rfl (hJ4 _ _ ?_))
      rw [he2]
      exact next _ _ _ _ st xx h2
    | false =>
      rw [if_pos rfl] at h2
      refine hJ3 _ _ (jn_in fun J4 hJ4 => brT rfl ?_)
      rw [st.ldi 0 0 rfl rfl]
      exact hJ4 _ _ (nextE _ _ _ _ _ st xx (show (93 : Int) ≠ 0 by decide) h2.symm)
  · rw [if_pos he2] at h2
    exact brF (by simpa using he2) (hJ3 _ _ (jn_in fun J4 hJ4 => brF rfl (hJ4 _ _ (nextE _ _ _ _ _ st xx he2 h2.symm))))
end Go.Proofs.S
namespace Go.Sx
open Go
theorem Hs.only {fr : Fr} {G As : List Asn} {h : Heap} {A : Asn} (st : Hs fr G As h) (k : Nat) (hk : As[k]? = some A) : Hs fr G [A] h := by
  obtain ⟨S, hs, hz, hf⟩ := st
  obtain ⟨S1, S2, hm, hd, hA, hr, _⟩ := hs.focus k hk
  have hS : ∀ b ∈ S1 ++ [], b ∈ S ∨ h.size ≤ b := fun b hb => .inl ((hm b).2 (.inl (by simpa using hb)))
  exact ⟨S1 ++ [], ⟨S1, [], rfl, by simp, hA, rfl⟩, hz.mono hS, hf.mono hS⟩
end Go.Sx
namespace Go.Proofs.S
open Go Go.Sx Go.Proofs Go.Cl Go.Rp Go.Rt
variable {h : Heap} {c d A ids : List Int} {l : List Ent} {s s2 : Sl} {fr : Fr} {G As : List Asn} {id p : Int}
abbrev nio' (c : List Int) (s : Sl) : Asn := osl ty_int i64.enc c s
theorem propGo_len : ∀ (n : Nat) (A ids : List Int), (propGo l n A ids).1.length ≤ A.length + n ∧ (propGo l n A ids).2.length ≤ ids.length + n
  | 0, A, ids => by simp [propGo]
  | n + 1, A, ids => by
    rw [propGo]
    split
    · constructor <;> simp only <;> omega
    · rename_i x hx
      have := propGo_len n (A ++ [(lookP A x.2).2]) (ids ++ [x.1])
      simp only [List.length_append, List.length_singleton] at this
      omega
theorem newOr {P : Prop} {n : Nat} {h h' : Heap} {C : Asn} (hN : P ∨ New n h C) (x : Ext [] h h') : P ∨ New n h' C := hN.imp id fun ⟨S, p, q⟩ => ⟨S, Asn.ext p x (by simp), q⟩
set_option maxHeartbeats 1000000 in
theorem propagate_c (hA : At h (ent l s)) (hE : rightE l = true) (hB : At h (li c s2)) (ho : okA c = true) (hcl : c.length ≤ 4096) (hf : fuelE l ≤ 1000000) :
    callT Tryz.prog fn_rat_propagate #[.slice s.a s.len s.cap, .slice s2.a s2.len s2.cap] (.tup (.cons .sl (.cons .sl .nil)))
      (fun r h' => ∃ s' t', r = (s', t', ()) ∧ (((propGo l (fuelE l) c []).1 = c ∧ s' = s2) ∨ New h.size h' (lo (propGo l (fuelE l) c []).1 s')) ∧ New h.size h' (nio' (propGo l (fuelE l) c []).2 t') ∧ Ext [] h h') h := by
  refine callT_gen fun K hK => S_rat_propagate (a0 := s) (a1 := s2) K ?_
  unfold F_rat_propagate
  have st := Hs.start h [ent l s] (by simp [hA])
  have ls := rsp_len hA
  have hll := rightE_len hE
  have st := st.nil ty_int i64.enc none
  simp only [List.nil_append] at st
  refine lfp_invh (I := fun m σ h' => ∃ (n : Nat) (more : Bool) (A ids : List Int) (sA sI : Sl), σ = (more, sI, sA, ()) ∧ okA A = true ∧ (if more then propGo l n A ids else (A, ids)) = propGo l (fuelE l) c [] ∧ meas A (clsE l) < n ∧ A.length + n ≤ 4096 + fuelE l ∧ ids.length + n ≤ fuelE l ∧
      At h' (li A sA) ∧ ((A = c ∧ sA = s2) ∨ New h.size h' (lo A sA)) ∧ Hs [([], h)] [ent l s] [nio' ids sI] h' ∧ m = if more then n + 1 else 0)
    ⟨_, fuelE l, true, c, [], s2, _, rfl, ho, rfl, meas_le _ _, by omega, by simp, hB, .inl ⟨rfl, rfl⟩, st, rfl⟩ ?_
  clear st hB
  rintro m σ h1 X ⟨n, more, A, ids, sA, sI, rfl, hoA, hg, hme, hAl, hil, hB, hN, st, rfl⟩ hX
  simp only
  cases more with
  | false =>
    have hg : (A, ids) = propGo l (fuelE l) c [] := hg
    rw [← hg] at hK
    exact brF rfl (hK _ _ ⟨sA, sI, rfl, hN, st.res (by simp) 0 rfl, st.frame (by simp)⟩)
  | true =>
  refine brT rfl ?_
  have hg : propGo l n A ids = propGo l (fuelE l) c [] := hg
  obtain ⟨n, rfl⟩ : ∃ n', n = n' + 1 := ⟨n - 1, by omega⟩
  rw [propGo] at hg
  refine jn_in fun J hJ => ?_
  refine lfp_invh (I := fun m σ h' => ∃ i : Nat, σ = ((i : Int), false, sI, sA, ()) ∧ i ≤ l.length ∧ (∀ j (hj : j < l.length), j < i → (lookP A l[j].2).1 ≠ 3) ∧ At h' (li A sA) ∧ ((A = c ∧ sA = s2) ∨ New h.size h' (lo A sA)) ∧ Hs [([], h)] [ent l s] [nio' ids sI] h' ∧ m = l.length - i)
    ⟨_, 0, rfl, by omega, fun j _ hj => by omega, hB, hN, st, rfl⟩ ?_
  clear st hB hN
  rintro m σ h2 X4 ⟨i, rfl, hi, hno, hB, hN, st, rfl⟩ hX4
  simp only
  by_cases hlt : i < l.length
  rotate_left
  · refine brF (by rw [ls]; exact dlt_f hlt) (hJ _ _ ?_)
    have hnone : l.find? (fun x => (lookP A x.2).1 == 3) = none := by
      rw [List.find?_eq_none]
      intro x hx
      obtain ⟨j, hj, rfl⟩ := List.mem_iff_getElem.1 hx
      simpa using hno j hj (by omega)
    rw [hnone] at hg
    exact hX _ _ _ ⟨n + 1, false, A, ids, sA, sI, rfl, hoA, hg, hme, hAl, hil, hB, hN, st, rfl⟩ (by simp)
  refine brT (by rw [ls]; exact dlt_t hlt) ?_
  have hrc := rightE_lits hE _ (List.getElem_mem hlt)
  refine rdPr (st.fz 0 rfl) hlt fun q hrow => ?_
  refine st.pr fun b8 h3 x3 st => ?_
  simp only [List.cons_append, List.nil_append, addr_add, Nat.zero_add] at st ⊢
  have hrow := hrow.ext x3
  have hB := hB.ext x3
  have hN := newOr hN x3
  rw [st.lds 1 1 rfl rfl]
  refine call_of (Look_c hrow hB (by have := rightC_len hrc; omega) (by omega)) ?_
  rw [lookF_ok hoA hrc]
  rintro _ h4 ⟨rfl, x4⟩
  have st := st.ext x4
  have hB := hB.ext x4
  have hN := newOr hN x4
  by_cases h3 : (lookP A l[i].2).1 = 3
  rotate_left
  · refine brF (by simpa using h3) ?_
    rw [inc_i (by omega)]
    refine hX4 _ _ _ ⟨i + 1, rfl, by omega, fun j hj hji => ?_, hB, hN, st.drop 1 rfl, rfl⟩ (by omega)
    rcases Nat.lt_succ_iff_lt_or_eq.1 hji with q | rfl
    · exact hno j hj q
    · exact h3
  refine brT (by simpa using h3) ?_
  rw [st.ldi 1 0 rfl rfl]
  have hfind : l.find? (fun x => (lookP A x.2).1 == 3) = some l[i] := by
    rw [List.find?_eq_some_iff_getElem]
    exact ⟨by simpa using h3, i, hlt, rfl, fun j hj => by simpa using hno j (by omega) hj⟩
  rw [hfind] at hg
  simp only at hg
  have hu := look_unit' h3
  have hux := rightC_rt hrc _ hu.2.1
  have hoA2 := okA_snoc hoA hux hu.2.2.1
  have hml := meas_lt (A := A) (l := clsE l) (x := (lookP A l[i].2).2) (List.mem_flatten.2 ⟨l[i].2, List.mem_map.2 ⟨l[i], List.getElem_mem hlt, rfl⟩, hu.2.1⟩) (hu.1 _ hu.2.1) hu.2.2.1
  have fin : ∀ (s14 s16 : Sl) h', New h.size h' (lo (A ++ [(lookP A l[i].2).2]) s14) → Hs [([], h)] [ent l s] [nio' (ids ++ [l[i].1]) s16] h' → J ((i : Int), true, ⟨s16.a, s16.len, s16.cap⟩, ⟨s14.a, s14.len, s14.cap⟩, ()) h' := fun s14 s16 h' hA' st' =>
    hJ _ _ (hX _ _ _ ⟨n, true, _, _, s14, s16, rfl, hoA2, hg, by omega, by simp; omega, by simp; omega, hA'.at.rsl, .inr hA', st', rfl⟩ (by simp))
  refine ⟨?_, ?_⟩
  · refine call_of (clip_c hB) ?_
    rintro r12 _ ⟨hc, hfull, rfl⟩
    rw [st.ck 1 0 rfl rfl]
    refine ⟨?_, ?_⟩
    · refine st.nwX fun b13 h21 x22 st => ?_
      simp only [List.cons_append, List.nil_append] at st
      have hB := hB.ext x22
      have hc := hc.ext x22
      refine ⟨?_, ?_⟩
      · refine Hs.apdF (τ := i64) (xs := A) (v := (lookP A l[i].2).2) st 2 hc hfull rfl (by omega) (by decide) rfl fun s14 h23 st => ?_
        simp only [List.cons_append, List.nil_append] at st
        rw [st.ck 1 0 rfl rfl]
        refine st.nwX fun b15 h24 x25 st => ?_
        simp only [List.cons_append, List.nil_append] at st
        refine st.apd (v := l[i].1) 0 4 rfl rfl (by decide) rfl (by omega) (by decide) rfl fun s16 h26 st => ?_
        simp only [List.set_cons_zero, List.set_cons_succ] at st
        exact fin _ _ _ (st.res (by simp) 3 rfl) (st.only 0 rfl)
      · refine st.nwX fun b17 h27 x28 st => ?_
        simp only [List.cons_append, List.nil_append] at st
        have hB := hB.ext x28
        have hc := hc.ext x28
        refine Hs.apdF (τ := i64) (xs := A) (v := (lookP A l[i].2).2) st 2 hc hfull rfl (by omega) (by decide) rfl fun s18 h29 st => ?_
        simp only [List.cons_append, List.nil_append] at st
        rw [st.ck 1 0 rfl rfl]
        refine st.apd (v := l[i].1) 0 3 rfl rfl (by decide) rfl (by omega) (by decide) rfl fun s19 h30 st => ?_
        simp only [List.set_cons_zero, List.set_cons_succ] at st
        exact fin _ _ _ (st.res (by simp) 4 rfl) (st.only 0 rfl)
    · refine st.nwX fun b20 h31 x32 st => ?_
      simp only [List.cons_append, List.nil_append] at st
      have hB := hB.ext x32
      have hc := hc.ext x32
      refine st.nwX fun b21 h33 x34 st => ?_
      simp only [List.cons_append, List.nil_append] at st
      have hB := hB.ext x34
      have hc := hc.ext x34
      refine Hs.apdF (τ := i64) (xs := A) (v := (lookP A l[i].2).2) st 3 hc hfull rfl (by omega) (by decide) rfl fun s22 h35 st => ?_
      simp only [List.cons_append, List.nil_append] at st
      rw [st.ck 1 0 rfl rfl]
      refine st.apd (v := l[i].1) 0 2 rfl rfl (by decide) rfl (by omega) (by decide) rfl fun s23 h36 st => ?_
      simp only [List.set_cons_zero, List.set_cons_succ] at st
      exact fin _ _ _ (st.res (by simp) 4 rfl) (st.only 0 rfl)
  · refine ⟨?_, ?_⟩
    · refine st.nwX fun b24 h37 x38 st => ?_
      simp only [List.cons_append, List.nil_append] at st
      have hB := hB.ext x38
      refine ⟨?_, ?_⟩
      · refine call_of (clip_c hB) ?_
        rintro r25 _ ⟨hc, hfull, rfl⟩
        rw [st.ck 1 0 rfl rfl]
        refine ⟨?_, ?_⟩
        · refine Hs.apdF (τ := i64) (xs := A) (v := (lookP A l[i].2).2) st 2 hc hfull rfl (by omega) (by decide) rfl fun s26 h39 st => ?_
          simp only [List.cons_append, List.nil_append] at st
          rw [st.ck 1 0 rfl rfl]
          refine st.nwX fun b27 h40 x41 st => ?_
          simp only [List.cons_append, List.nil_append] at st
          refine st.apd (v := l[i].1) 0 4 rfl rfl (by decide) rfl (by omega) (by decide) rfl fun s28 h42 st => ?_
          simp only [List.set_cons_zero, List.set_cons_succ] at st
          exact fin _ _ _ (st.res (by simp) 3 rfl) (st.only 0 rfl)
        · refine st.nwX fun b29 h43 x44 st => ?_
          simp only [List.cons_append, List.nil_append] at st
          have hB := hB.ext x44
          have hc := hc.ext x44
          refine Hs.apdF (τ := i64) (xs := A) (v := (lookP A l[i].2).2) st 2 hc hfull rfl (by omega) (by decide) rfl fun s30 h45 st => ?_
          simp only [List.cons_append, List.nil_append] at st
          rw [st.ck 1 0 rfl rfl]
          refine st.apd (v := l[i].1) 0 3 rfl rfl (by decide) rfl (by omega) (by decide) rfl fun s31 h46 st => ?_
          simp only [List.set_cons_zero, List.set_cons_succ] at st
          exact fin _ _ _ (st.res (by simp) 4 rfl) (st.only 0 rfl)
      · refine st.nwX fun b32 h47 x48 st => ?_
        simp only [List.cons_append, List.nil_append] at st
        have hB := hB.ext x48
        refine call_of (clip_c hB) ?_
        rintro r33 _ ⟨hc, hfull, rfl⟩
        rw [st.ck 1 0 rfl rfl]
        refine Hs.apdF (τ := i64) (xs := A) (v := (lookP A l[i].2).2) st 2 hc hfull rfl (by omega) (by decide) rfl fun s34 h49 st => ?_
        simp only [List.cons_append, List.nil_append] at st
        rw [st.ck 1 0 rfl rfl]
        refine st.apd (v := l[i].1) 0 3 rfl rfl (by decide) rfl (by omega) (by decide) rfl fun s35 h50 st => ?_
        simp only [List.set_cons_zero, List.set_cons_succ] at st
        exact fin _ _ _ (st.res (by simp) 4 rfl) (st.only 0 rfl)
    · refine st.nwX fun b36 h51 x52 st => ?_
      simp only [List.cons_append, List.nil_append] at st
      have hB := hB.ext x52
      refine ⟨?_, ?_⟩
      · refine call_of (clip_c hB) ?_
        rintro r37 _ ⟨hc, hfull, rfl⟩
        rw [st.ck 1 0 rfl rfl]
        refine st.nwX fun b38 h53 x54 st => ?_
        simp only [List.cons_append, List.nil_append] at st
        have hB := hB.ext x54
        have hc := hc.ext x54
        refine Hs.apdF (τ := i64) (xs := A) (v := (lookP A l[i].2).2) st 3 hc hfull rfl (by omega) (by decide) rfl fun s39 h55 st => ?_
        simp only [List.cons_append, List.nil_append] at st
        rw [st.ck 1 0 rfl rfl]
        refine st.apd (v := l[i].1) 0 2 rfl rfl (by decide) rfl (by omega) (by decide) rfl fun s40 h56 st => ?_
        simp only [List.set_cons_zero, List.set_cons_succ] at st
        exact fin _ _ _ (st.res (by simp) 4 rfl) (st.only 0 rfl)
      · refine st.nwX fun b41 h57 x58 st => ?_
        simp only [List.cons_append, List.nil_append] at st
        have hB := hB.ext x58
        refine call_of (clip_c hB) ?_
        rintro r42 _ ⟨hc, hfull, rfl⟩
        rw [st.ck 1 0 rfl rfl]
        refine Hs.apdF (τ := i64) (xs := A) (v := (lookP A l[i].2).2) st 3 hc hfull rfl (by omega) (by decide) rfl fun s43 h59 st => ?_
        simp only [List.cons_append, List.nil_append] at st
        rw [st.ck 1 0 rfl rfl]
        refine st.apd (v := l[i].1) 0 2 rfl rfl (by decide) rfl (by omega) (by decide) rfl fun s44 h60 st => ?_
        simp only [List.set_cons_zero, List.set_cons_succ] at st
        exact fin _ _ _ (st.res (by simp) 4 rfl) (st.only 0 rfl)
theorem named_c {at_ : List Nat} (hA : At h (ent l s)) (hB : At h (nio at_ s2)) (hin : ∀ i ∈ at_, i < l.length) (hl : at_.length ≤ 1099511627776) :
    callT Tryz.prog fn_rat_named #[.slice s.a s.len s.cap, .slice s2.a s2.len s2.cap] .sl (fun s' h' => New h.size h' (nio' (named l at_) s') ∧ Ext [] h h') h := by
  refine callT_gen fun K hK => S_rat_named (a0 := s) (a1 := s2) K ?_
  unfold F_rat_named
  have hB : At h (li (nats at_) s2) := hB.rsl
  have st := Hs.start h [ent l s, li (nats at_) s2] (by simp [hA, hB])
  have l2 := rsl_len hB
  simp only [nats, List.length_map] at l2
  have st := st.nil ty_int i64.enc none
  simp only [List.nil_append] at st
  refine lfp_invh (I := fun m σ h' => ∃ (i : Nat) (so : Sl), σ = ((i : Int), so, ()) ∧ i ≤ at_.length ∧ Hs [([], h)] [ent l s, li (nats at_) s2] [nio' (named l (at_.take i)) so] h' ∧ m = at_.length - i)
    ⟨_, 0, _, rfl, by omega, st, rfl⟩ ?_
  clear st
  rintro m σ h1 X ⟨i, so, rfl, hi, st, rfl⟩ hX
  simp only
  by_cases hlt : i < at_.length
  · refine brT (by rw [l2]; exact dlt_t hlt) ?_
    refine rdE (τ := i64) (i := i) (st.fz 1 rfl) (by simpa [nats] using hlt) ?_
    have e : (nats at_)[i]'(by simpa [nats] using hlt) = ((at_[i] : Nat) : Int) := by simp [nats]
    rw [e]
    have hk := hin _ (List.getElem_mem hlt)
    refine rdPri (st.fz 0 rfl) hk ?_
    refine st.nw fun b6 h2 st => ?_
    simp only [List.cons_append, List.nil_append] at st
    refine st.apd (v := l[at_[i]].1) 0 1 rfl rfl (by decide) rfl (by simp [named]; omega) (by decide) rfl fun s7 h3 st => ?_
    simp only [List.set_cons_zero, List.set_cons_succ] at st
    rw [inc_i (by omega)]
    refine hX _ _ _ ⟨i + 1, s7, rfl, by omega, ?_, rfl⟩ (by omega)
    have et : at_.take (i + 1) = at_.take i ++ [at_[i]] := by simp
    have en : named l (at_.take (i + 1)) = named l (at_.take i) ++ [l[at_[i]].1] := by
      rw [et]
      unfold named
      rw [List.map_append, List.map_singleton, List.getD_eq_getElem?_getD, List.getElem?_eq_getElem hk]; rfl
    rw [en]
    exact st.drop 1 rfl
  · refine brF (by rw [l2]; exact dlt_f hlt) ?_
    rw [List.take_of_length_le (by omega)] at st
    exact hK _ _ ⟨st.res (by simp) 0 rfl, st.frame (by simp)⟩
end Go.Proofs.S
namespace Go.Proofs.S
open Go Go.Sx Go.Proofs Go.Cl Go.Rp Go.Rt
variable {h : Heap} {c d A ids : List Int} {l : List Ent} {gs : List Grp} {s s2 sc : Sl} {fr : Fr} {G As : List Asn} {id p : Int} {i : Nat}
def fixS (p : Int) (A : List Int) (i : Nat) : List Int := (A.take i).map (fun x => if x = -p then p else x) ++ A.drop i
theorem fixS_len : (fixS p A i).length = A.length := by unfold fixS; simp; omega
theorem fixS_at (hi : i < A.length) : (fixS p A i)[i]'(by rw [fixS_len]; exact hi) = A[i] := by
  unfold fixS
  rw [List.getElem_append_right (by simp; omega)]
  simp [Nat.min_eq_left (Nat.le_of_lt hi)]
theorem fixS_set (hi : i < A.length) (e : A[i] = -p) : (fixS p A i).set i p = fixS p A (i + 1) := by
  unfold fixS
  have hl : ((A.take i).map (fun x => if x = -p then p else x)).length = i := by simp; omega
  rw [List.set_append_right _ _ (by omega), hl, Nat.sub_self, List.drop_eq_getElem_cons hi, List.set_cons_zero, List.take_succ_eq_append_getElem hi, List.map_append, List.map_singleton, if_pos e, List.append_assoc]
  rfl
theorem fixS_skip (hi : i < A.length) (e : A[i] ≠ -p) : fixS p A i = fixS p A (i + 1) := by
  unfold fixS
  rw [List.drop_eq_getElem_cons hi, List.take_succ_eq_append_getElem hi, List.map_append, List.map_singleton, if_neg e, List.append_assoc]
  rfl
theorem mem_take1 {x : Int} (hi : i < A.length) : x ∈ A.take (i + 1) ↔ x ∈ A.take i ∨ A[i] = x := by
  rw [List.take_succ_eq_append_getElem hi, List.mem_append, List.mem_singleton]
  exact ⟨fun k => k.imp id Eq.symm, fun k => k.imp id Eq.symm⟩
set_option maxHeartbeats 1000000 in
theorem Repair_c (hA : At h (li c s)) (hB : At h (li A s2)) (hl : c.length ≤ 1099511627776) (hl2 : A.length ≤ 1099511627776) :
    callT Tryz.prog fn_rat_Repair #[.slice s.a s.len s.cap, .slice s2.a s2.len s2.cap] (.tup (.cons .sl (.cons (.int .i64) .nil)))
      (fun r h' => ∃ s', r = (s', (repairP c A).2, ()) ∧ New h.size h' (lo (repairP c A).1 s') ∧ Ext [] h h') h := by
  refine callT_gen fun K hK => S_rat_Repair (a0 := s) (a1 := s2) K ?_
  unfold F_rat_Repair
  have hK : ∀ s' (o : List Int) (e : Int) h', repairP c A = (o, e) → New h.size h' (lo o s') → Ext [] h h' → K (s', e, ()) h' := fun s' o e h' he n x => hK _ _ ⟨s', by rw [he], by rw [he]; exact n, x⟩
  have st := Hs.start h [li c s, li A s2] (by simp [hA, hB])
  have lc := rsl_len hA
  have no : ∀ e h', repairP c A = ([], e) → Ext [] h h' → K (⟨none, 0, 0⟩, e, ()) h' := fun e h' he x => hK _ _ _ _ he (osl_nil h.size h') x
  refine call_of (Look_c (st.fz 0 rfl) (st.fz 1 rfl) hl hl2) ?_
  rintro _ h1 ⟨rfl, x1⟩
  have st := st.ext x1
  unfold repairP at hK no
  unfold lookF
  cases hr : rightC c with
  | false => rw [hr] at no; exact brT rfl (no _ _ rfl (st.frame (by simp)))
  | true =>
  cases ho : okA A with
  | false => rw [hr, ho] at no; exact brT rfl (no _ _ rfl (st.frame (by simp)))
  | true =>
  rw [hr, ho] at hK no
  refine brF rfl ?_
  simp only [Bool.not_true, Bool.false_eq_true, if_false] at hK no ⊢
  cases c with
  | nil => exact brT (by rw [lc]; rfl) (no _ _ rfl (st.frame (by simp)))
  | cons p r =>
  refine brF (by rw [lc]; simp; omega) ?_
  have hp : rt p = true := rightC_rt hr p (by simp)
  simp only at hK no
  by_cases h1 : (lookP A (p :: r)).1 = 1
  · refine brT (by rw [h1]; rfl) ?_
    rw [if_pos h1] at hK
    refine cloneL_c st (st.fz 1 rfl) hl2 fun s' h2 st => ?_
    exact hK _ _ _ _ rfl (st.res (by simp) 0 rfl) (st.frame (by simp))
  refine brF (by simpa using h1) ?_
  rw [if_neg h1] at hK
  refine cloneL_c st (st.fz 1 rfl) hl2 fun s3 h2 st => ?_
  simp only [List.nil_append] at st
  refine lfp_invh (I := fun m σ h' => ∃ (i : Nat), σ = ((i : Int), decide (-p ∈ A.take i), ()) ∧ i ≤ A.length ∧ Hs [([], h)] [li (p :: r) s, li A s2] [lo (fixS p A i) s3] h' ∧ m = A.length - i)
    ⟨_, 0, by simp, by omega, by simpa [fixS] using st, rfl⟩ ?_
  have l3 : s3.len = A.length := osl_len (st.own 0 rfl)
  clear st
  rintro m σ h1 X ⟨i, rfl, hi, st, rfl⟩ hX
  simp only
  by_cases hlt : i < A.length
  · refine brT (by rw [l3]; exact dlt_t hlt) ?_
    refine rdE (τ := i64) (st.own 0 rfl).rsl (i := i) (by rw [fixS_len]; exact hlt) ?_
    rw [fixS_at hlt]
    refine rdE (τ := i64) (i := 0) (st.fz 0 rfl) (by simp) ?_
    refine call_of (lits_Neg_c _) ?_
    rintro _ h2 ⟨rfl, e⟩; subst e
    rw [show negL (p :: r)[0] = -p from negL_rt hp]
    refine jn_in fun J hJ => ?_
    by_cases he : A[i] = -p
    · refine brT (by simpa using he) ?_
      refine rdE (τ := i64) (i := 0) (st.fz 0 rfl) (by simp) ?_
      refine st.wrE (τ := i64) 0 rfl (i := i) (by rw [fixS_len]; exact hlt) _ fun h3 st => hJ _ _ ?_
      rw [inc_i (by omega)]
      have st := st
      refine hX _ _ _ ⟨i + 1, ?_, by omega, ?_, rfl⟩ (by omega)
      · rw [show decide (-p ∈ A.take (i + 1)) = true from decide_eq_true ((mem_take1 hlt).2 (.inr he))]
      · rw [← fixS_set hlt he]; exact st
    · refine brF (by simpa using he) (hJ _ _ ?_)
      rw [inc_i (by omega)]
      refine hX _ _ _ ⟨i + 1, ?_, by omega, ?_, rfl⟩ (by omega)
      · rw [show decide (-p ∈ A.take (i + 1)) = decide (-p ∈ A.take i) from decide_eq_decide.2 ((mem_take1 hlt).trans ⟨fun k => k.resolve_right he, .inl⟩)]
      · rw [← fixS_skip hlt he]; exact st
  · refine brF (by rw [l3]; exact dlt_f hlt) ?_
    have ei : i = A.length := by omega
    subst ei
    rw [List.take_length]
    refine jn_in fun J hJ => ?_
    by_cases hm : -p ∈ A
    · refine brF (by rw [decide_eq_true hm]; rfl) (hJ _ _ ?_)
      refine hK _ _ _ _ rfl ?_ (st.frame (by simp))
      have : fixP p A = fixS p A A.length := by unfold fixP fixS; rw [if_pos hm]; simp
      rw [this]
      exact st.res (by simp) 0 rfl
    · refine brT (by rw [decide_eq_false hm]; rfl) ?_
      refine rdE (τ := i64) (i := 0) (st.fz 0 rfl) (by simp) ?_
      refine st.nw fun b4 h3 st => ?_
      simp only [List.cons_append, List.nil_append] at st
      refine st.apd (v := p) 0 1 rfl rfl (by decide) rfl (by rw [fixS_len]; omega) (by decide) rfl fun s7 h4 st => hJ _ _ ?_
      refine hK _ _ _ _ rfl ?_ (st.frame (by simp))
      have : fixP p A = fixS p A A.length ++ [p] := by
        unfold fixP fixS; rw [if_neg hm, List.take_length, List.drop_length, List.append_nil]
        congr 1
        refine ((List.map_congr_left fun x hx => ?_).trans (List.map_id A)).symm
        rw [if_neg (show ¬ x = -p from fun e => hm (e ▸ hx))]; rfl
      rw [this]
      exact st.res (by simp) 0 rfl
end Go.Proofs.S
