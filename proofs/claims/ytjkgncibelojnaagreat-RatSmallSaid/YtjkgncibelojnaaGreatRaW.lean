/-
  The laws' helpers of rat: sameEntries, sameStep, few.
-/
import Derived.Test.YtjkgncibelojnaaGreatRaU
import Derived.Test.YtjkgncibelojnaaGreatRaN
import Derived.Test.YtjkgncibelojnaaGreatRpS
import Derived.Test.YtjkgncibelojnaaGreatSxN
set_option linter.unusedVariables false
set_option linter.unusedSimpArgs false
namespace Go.Proofs.S
open Go Go.Sx Go.Proofs Go.Cl Go.Rp Go.Rt
variable {h h0 : Heap} {c d A f ids hs W : List Int} {l : List Ent} {cs : List (List Int)} {gs us vs : List Grp} {s s2 s3 s4 sc sl sh sg sx1 sx2 sl2 sh2 sg2 : Sl} {fr : Fr} {G As : List Asn} {id p n : Int} {i k : Nat} {b m b0 b1 bs : Nat}
theorem sameEntries1_c {x y : Grp} {p q : Sl} (hA : At h (li x.2 p)) (hB : At h (li y.2 q)) (hl : x.2.length ≤ 1099511627776) :
    callT Tryz.prog fn_salvorlaw09_sameEntries_1 #[(.agg #[(.int .i64 x.1), (.slice p.a p.len p.cap)]), (.agg #[(.int .i64 y.1), (.slice q.a q.len q.cap)])] .bool (fun r h' => r = decide (x = y) ∧ Ext [] h h') h := by
  refine callT_gen fun K hK => S_salvorlaw09_sameEntries_1 (a0 := (x.1, p, ())) (a1 := (y.1, q, ())) K ?_
  unfold F_salvorlaw09_sameEntries_1
  have st := Hs.start h [li x.2 p, li y.2 q] (by simp [hA, hB])
  refine st.nw fun b0 h1 st => ?_
  refine st.nw fun b1 h2 st => ?_
  simp only [List.cons_append, List.nil_append] at st
  rw [st.ldi 0 0 rfl rfl, st.ldi 1 0 rfl rfl]
  obtain ⟨x1, x2⟩ := x
  obtain ⟨y1, y2⟩ := y
  refine jn_in fun J hJ => ?_
  by_cases e : x1 = y1
  · refine brT (by simpa using e) ?_
    rw [addr_add, addr_add, st.lds 0 1 rfl rfl, st.lds 1 1 rfl rfl]
    refine call_of (equal_int (st.fz 0 rfl) (st.fz 1 rfl) hl) ?_
    rintro _ h3 ⟨rfl, e3⟩; subst e3
    refine hJ _ _ (hK _ _ ⟨?_, st.frame (by simp)⟩)
    simp [e]
  · refine brF (by simpa using e) (hJ _ _ (hK _ _ ⟨?_, st.frame (by simp)⟩))
    simp [e]
theorem sameStep1_c {x y : Grp} {p q : Sl} (hA : At h (li x.2 p)) (hB : At h (li y.2 q)) (hl : x.2.length ≤ 1099511627776) :
    callT Tryz.prog fn_salvorlaw09_sameStep_1 #[(.agg #[(.int .i64 x.1), (.slice p.a p.len p.cap)]), (.agg #[(.int .i64 y.1), (.slice q.a q.len q.cap)])] .bool (fun r h' => r = decide (x = y) ∧ Ext [] h h') h := by
  refine callT_gen fun K hK => S_salvorlaw09_sameStep_1 (a0 := (x.1, p, ())) (a1 := (y.1, q, ())) K ?_
  unfold F_salvorlaw09_sameStep_1
  have st := Hs.start h [li x.2 p, li y.2 q] (by simp [hA, hB])
  refine st.nw fun b0 h1 st => ?_
  refine st.nw fun b1 h2 st => ?_
  simp only [List.cons_append, List.nil_append] at st
  rw [st.ldi 0 0 rfl rfl, st.ldi 1 0 rfl rfl]
  obtain ⟨x1, x2⟩ := x
  obtain ⟨y1, y2⟩ := y
  refine jn_in fun J hJ => ?_
  by_cases e : x1 = y1
  · refine brT (by simpa using e) ?_
    rw [addr_add, addr_add, st.lds 0 1 rfl rfl, st.lds 1 1 rfl rfl]
    refine call_of (equal_int (st.fz 0 rfl) (st.fz 1 rfl) hl) ?_
    rintro _ h3 ⟨rfl, e3⟩; subst e3
    refine hJ _ _ (hK _ _ ⟨?_, st.frame (by simp)⟩)
    simp [e]
  · refine brF (by simpa using e) (hJ _ _ (hK _ _ ⟨?_, st.frame (by simp)⟩))
    simp [e]
theorem equalFunc_refE {fv : Value} {K : Bool → HP} (hW : W_equalFuncP Tryz.prog ty_salvorref09_Entry s s2 fv K h) : callT Tryz.prog fn_slices_EqualFunc_salvorref09_Entry_salvorref09_Entry_salvorref09_Entry_salvorref09_Entry #[.slice s.a s.len s.cap, .slice s2.a s2.len s2.cap, fv] .bool K h :=
  S_slices_EqualFunc_salvorref09_Entry_salvorref09_Entry_salvorref09_Entry_salvorref09_Entry (a0 := s) (a1 := s2) (a2 := fv) K hW
theorem equalFunc_refG {fv : Value} {K : Bool → HP} (hW : W_equalFuncP Tryz.prog ty_salvorref09_Group s s2 fv K h) : callT Tryz.prog fn_slices_EqualFunc_salvorref09_Group_salvorref09_Group_salvorref09_Group_salvorref09_Group #[.slice s.a s.len s.cap, .slice s2.a s2.len s2.cap, fv] .bool K h :=
  S_slices_EqualFunc_salvorref09_Group_salvorref09_Group_salvorref09_Group_salvorref09_Group (a0 := s) (a1 := s2) (a2 := fv) K hW
theorem eqP_iff {us vs : List Grp} {b : Bool} (hb : b = true ↔ us.length = vs.length ∧ ∀ i (h1 : i < us.length) (h2 : i < vs.length), decide (us[i] = vs[i]) = true) : b = decide (us = vs) := by
  rw [Bool.eq_iff_iff, hb, decide_eq_true_eq]
  refine ⟨fun ⟨hlen, hall⟩ => List.ext_getElem hlen fun i h1 h2 => by simpa using hall i h1 h2, fun e => ?_⟩
  subst e
  exact ⟨rfl, fun i h1 h2 => by simp⟩
theorem sameEntries_c (hA : At h (ent us s)) (hB : At h (ent vs s2)) (hl : us.length ≤ 1099511627776) (hh : ∀ g ∈ us, g.2.length ≤ 1099511627776) :
    callT Tryz.prog fn_salvorlaw09_sameEntries #[.slice s.a s.len s.cap, .slice s2.a s2.len s2.cap] .bool (fun r h' => r = decide (us = vs) ∧ Ext [] h h') h := by
  refine callT_gen fun K hK => S_salvorlaw09_sameEntries (a0 := s) (a1 := s2) K ?_
  unfold F_salvorlaw09_sameEntries
  refine equalFunc_refE ?_
  refine w_equalFuncP (P := Tryz.prog) (t := ty_salvorref09_Entry) (r := fun x y => decide (x = y)) hA hB hl (fun x hx y hy p q h' x' hp hq => ?_) fun b h' hb x => hK _ _ ⟨eqP_iff hb, x⟩
  exact callF_func (sameEntries1_c hp hq (hh x hx))
theorem sameGroupsR_c {K : Bool → HP} (hA : At h (ent us s)) (hB : At h (ent vs s2)) (hl : us.length ≤ 1099511627776) (hh : ∀ g ∈ us, g.2.length ≤ 1099511627776) (hK : ∀ h', Ext [] h h' → K (decide (us = vs)) h') :
    callT Tryz.prog fn_slices_EqualFunc_salvorref09_Group_salvorref09_Group_salvorref09_Group_salvorref09_Group #[.slice s.a s.len s.cap, .slice s2.a s2.len s2.cap, (.func (.func fn_salvorlaw09_sameStep_1) #[] #[])] .bool K h := by
  refine equalFunc_refG ?_
  refine w_equalFuncP (P := Tryz.prog) (t := ty_salvorref09_Group) (r := fun x y => decide (x = y)) hA hB hl (fun x hx y hy p q h' x' hp hq => ?_) fun b h' hb x => by rw [eqP_iff hb]; exact hK _ x
  exact callF_func (sameStep1_c hp hq (hh x hx))
set_option maxHeartbeats 1000000 in
theorem sameStep_c {c2 ids2 : List Int} {gs2 : List Grp} (hL : At h (li c sl)) (hH : At h (li ids sh)) (hG : At h (ent gs sg)) (hL2 : At h (li c2 sl2)) (hH2 : At h (li ids2 sh2)) (hG2 : At h (ent gs2 sg2))
    (hcl : c.length ≤ 1099511627776) (hil : ids.length ≤ 1099511627776) (hgl : gs.length ≤ 1099511627776) (hgh : ∀ g ∈ gs, g.2.length ≤ 1099511627776) :
    callT Tryz.prog fn_salvorlaw09_sameStep #[.agg #[.slice sl.a sl.len sl.cap, .slice sh.a sh.len sh.cap, .slice sg.a sg.len sg.cap], .agg #[.slice sl2.a sl2.len sl2.cap, .slice sh2.a sh2.len sh2.cap, .slice sg2.a sg2.len sg2.cap]] .bool
      (fun r h' => r = (decide (c = c2) && decide (ids = ids2) && decide (gs = gs2)) ∧ Ext [] h h') h := by
  refine callT_gen fun K hK => S_salvorlaw09_sameStep (a0 := (sl, sh, sg, ())) (a1 := (sl2, sh2, sg2, ())) K ?_
  unfold F_salvorlaw09_sameStep
  have st := Hs.start h [li c sl, li ids sh, ent gs sg, li c2 sl2, li ids2 sh2, ent gs2 sg2] (by simp [hL, hH, hG, hL2, hH2, hG2])
  refine st.nw fun b0 h1 st => ?_
  refine st.nw fun b1 h2 st => ?_
  simp only [List.cons_append, List.nil_append] at st
  rw [st.lds 0 0 rfl rfl, st.lds 1 0 rfl rfl]
  refine call_of (equal_int (st.fz 0 rfl) (st.fz 3 rfl) hcl) ?_
  rintro _ h3 ⟨rfl, e⟩; subst e
  refine jn_mid (M := fun t h' => t = (decide (c = c2) && decide (ids = ids2)) ∧ h' = h3) ?_ ?_
  rotate_left
  · intro J hJ
    cases hc : decide (c = c2) with
    | false => exact brF rfl (hJ _ _ ⟨by rw [hc]; rfl, rfl⟩)
    | true =>
      refine brT rfl ?_
      rw [addr_add, addr_add, st.lds 0 1 rfl rfl, st.lds 1 1 rfl rfl]
      refine call_of (equal_int (st.fz 1 rfl) (st.fz 4 rfl) hil) ?_
      rintro _ h4 ⟨rfl, e⟩; subst e
      exact hJ _ _ ⟨by rw [hc, Bool.true_and], rfl⟩
  rintro _ h4 ⟨rfl, e⟩
  subst e
  refine jn_in fun J hJ => ?_
  cases hc : (decide (c = c2) && decide (ids = ids2)) with
  | false => exact brF rfl (hJ _ _ (hK _ _ ⟨by rw [hc]; rfl, st.frame (by simp)⟩))
  | true =>
    refine brT rfl ?_
    rw [addr_add, addr_add, st.lds 0 2 rfl rfl, st.lds 1 2 rfl rfl]
    refine sameGroupsR_c (st.fz 2 rfl) (st.fz 5 rfl) hgl hgh fun h5 x5 => ?_
    exact hJ _ _ (hK _ _ ⟨by rw [hc]; rfl, (st.ext x5).frame (by simp)⟩)
end Go.Proofs.S
namespace Go.Proofs.S
open Go Go.Sx Go.Proofs Go.Cl Go.Rp Go.Rt
variable {h h0 : Heap} {c d A f ids hs W : List Int} {l : List Ent} {cs : List (List Int)} {gs us vs : List Grp} {s s2 s3 s4 sc sl sh sg sx1 sx2 sl2 sh2 sg2 sa sr : Sl} {fr : Fr} {G As : List Asn} {id p n : Int} {i k : Nat} {b m b0 b1 bs : Nat}
theorem ckRow {t : TypeId} {vs : List Value} {X : HP} (hb : Blk h b t vs) (hX : X h) : ckA ⟨b, 0, none⟩ vs X h := ⟨CellsAt_blk' _ hb 0 fun j hj => by rw [Nat.zero_add], hX⟩
abbrev st3 (b : Nat) (t : TypeId) (x y z : Sl) : Asn := cl b t [.slice x.a x.len x.cap, .slice y.a y.len y.cap, .slice z.a z.len z.cap]
set_option maxRecDepth 100000 in
def ChTl (a0 : Sl) (b0 bs : Nat) (sr : Sl) (K : Bool → HP) : HP :=
 ldA (.cons .sl (.cons .sl (.cons .sl .nil))) (⟨b0, 0, none⟩ : Addr) fun x5 =>
 callT Tryz.prog fn_rat_Check #[(.slice a0.a a0.len a0.cap), (.agg #[(.slice x5.1.a x5.1.len x5.1.cap), (.slice x5.2.1.a x5.2.1.len x5.2.1.cap), (.slice x5.2.2.1.a x5.2.2.1.len x5.2.2.1.cap)])] (.tup (.cons (.int .u8) (.cons (.int .i64) (.cons (.int .i64) .nil)))) fun r6 =>
 callT Tryz.prog fn_salvorref09_Right #[(.slice sr.a sr.len sr.cap)] .bool fun r7 =>
 brB (!r7)
 (jn (σ := Bool) (fun t9 =>
 jn (σ := Bool) (fun t11 =>
 K t11)
 (fun J10 =>
 brB t9
 (J10 ((r6.2.2.1 == (90 : Int))))
 (J10 false)))
 (fun J8 =>
 brB (r6.1 == (0 : Int))
 (J8 ((r6.2.1 == (0 : Int))))
 (J8 false)))
 (ldT .sl (⟨bs, 0, none⟩ : Addr) fun x12 =>
 callT Tryz.prog fn_salvorref02_Right #[(.slice x12.a x12.len x12.cap)] .bool fun r13 =>
 brB (!r13)
 (jn (σ := Bool) (fun t15 =>
 jn (σ := Bool) (fun t17 =>
 K t17)
 (fun J16 =>
 brB t15
 (J16 ((r6.2.2.1 == (20 : Int))))
 (J16 false)))
 (fun J14 =>
 brB (r6.1 == (0 : Int))
 (J14 ((r6.2.1 == (0 : Int))))
 (J14 false)))
 (ldA (.cons .sl (.cons .sl (.cons .sl .nil))) (⟨bs, 0, none⟩ : Addr) fun x18 =>
 callT Tryz.prog fn_salvorref09_Check #[(.slice sr.a sr.len sr.cap), (.agg #[(.slice x18.1.a x18.1.len x18.1.cap), (.slice x18.2.1.a x18.2.1.len x18.2.1.cap), (.slice x18.2.2.1.a x18.2.2.1.len x18.2.2.1.cap)])] (.tup (.cons (.int .i64) (.cons (.int .i64) (.cons (.int .i64) .nil)))) fun r19 =>
 brB ((IntKind.wrap .i64 r6.1) == r19.1)
 (brB (r6.2.1 == r19.2.1)
 (brB (r6.2.2.1 == r19.2.2.1)
 (callT Tryz.prog fn_salvorlaw09_Theirs #[(.slice a0.a a0.len a0.cap)] .sl fun r20 =>
 callT Tryz.prog fn_salvorlaw09_sameEntries #[(.slice r20.a r20.len r20.cap), (.slice sr.a sr.len sr.cap)] .bool fun r21 =>
 brB r21
 (ldA (.cons .sl (.cons .sl (.cons .sl .nil))) (⟨b0, 0, none⟩ : Addr) fun x22 =>
 ldA (.cons .sl (.cons .sl (.cons .sl .nil))) (⟨bs, 0, none⟩ : Addr) fun x23 =>
 callT Tryz.prog fn_salvorlaw09_step #[(.agg #[(.slice x22.1.a x22.1.len x22.1.cap), (.slice x22.2.1.a x22.2.1.len x22.2.1.cap), (.slice x22.2.2.1.a x22.2.2.1.len x22.2.2.1.cap)])] (.agg (.cons .sl (.cons .sl (.cons .sl .nil)))) fun r24 =>
 ckA (⟨bs, 0, none⟩ : Addr) [(.slice x23.1.a x23.1.len x23.1.cap), (.slice x23.2.1.a x23.2.1.len x23.2.1.cap), (.slice x23.2.2.1.a x23.2.2.1.len x23.2.2.1.cap)] <|
 callT Tryz.prog fn_salvorlaw09_sameStep #[(.agg #[(.slice r24.1.a r24.1.len r24.1.cap), (.slice r24.2.1.a r24.2.1.len r24.2.1.cap), (.slice r24.2.2.1.a r24.2.2.1.len r24.2.2.1.cap)]), (.agg #[(.slice x23.1.a x23.1.len x23.1.cap), (.slice x23.2.1.a x23.2.1.len x23.2.1.cap), (.slice x23.2.2.1.a x23.2.2.1.len x23.2.2.1.cap)])] .bool fun r25 =>
 K r25)
 (K false))
 (K false))
 (K false))
 (K false)))
theorem checkS_90 {st : Stp} (hE : rightE l = false) : checkS l st = (0, 0, 90) := by unfold checkS; rw [hE]; rfl
theorem checkS_20 {st : Stp} (hE : rightE l = true) (hc : rightC st.lits = false) : checkS l st = (0, 0, 20) := by unfold checkS; rw [hE, hc]; rfl
set_option maxRecDepth 20000 in
set_option maxHeartbeats 1000000 in
theorem chTl_c {K : Bool → HP} (hb0 : At h (st3 b0 ty_rat_Step sl sh sg)) (hbs : At h (st3 bs ty_salvorref09_Step sl2 sh2 sg2)) (hA : At h (ent l sa)) (hA2 : At h (ent l sr)) (hL : At h (li c sl)) (hH : At h (li ids sh)) (hG : At h (ent gs sg)) (hL2 : At h (li c sl2)) (hH2 : At h (li ids sh2)) (hG2 : At h (ent gs sg2))
    (hl : l.length ≤ 1000) (hll : ∀ x ∈ l, x.2.length ≤ 1000) (hcl : c.length ≤ 1000) (hil : ids.length ≤ 1000) (hgl : gs.length ≤ 1000) (hgh : ∀ g ∈ gs, g.2.length ≤ 1000) (hK : ∀ h', Ext [] h h' → K true h') : ChTl sa b0 bs sr K h := by
  unfold ChTl
  have st := Hs.start h [st3 b0 ty_rat_Step sl sh sg, st3 bs ty_salvorref09_Step sl2 sh2 sg2, ent l sa, ent l sr, li c sl, li ids sh, ent gs sg, li c sl2, li ids sh2, ent gs sg2] (by simp [hb0, hbs, hA, hA2, hL, hH, hG, hL2, hH2, hG2])
  have hll' : ∀ x ∈ l, x.2.length ≤ 1099511627776 := fun x hx => by have := hll x hx; omega
  have hgh' : ∀ x ∈ gs, x.2.length ≤ 1099511627776 := fun x hx => by have := hgh x hx; omega
  refine ldRow (τ := .cons .sl (.cons .sl (.cons .sl .nil))) (x := (sl, sh, sg, ())) (st.fblk 0 rfl) ?_
  refine call_of (RatCheck_c (st.fz 2 rfl) (st.fz 4 rfl) (st.fz 5 rfl) (st.fz 6 rfl) (by omega) (by omega) (by omega) (by omega) (fun g hg => by have := hgh g hg; omega)) ?_
  rintro _ h1 ⟨rfl, x1⟩
  have st := st.ext x1
  refine call_of (r9_Right_c (st.fz 3 rfl) (by omega) hll') ?_
  rintro _ h2 ⟨rfl, e⟩; subst e
  cases hE : rightE l with
  | false =>
    rw [checkS_90 hE]
    refine brT rfl ?_
    refine jn_in fun J hJ => brT rfl (hJ _ _ ?_)
    clear J hJ
    exact jn_in fun J hJ => brT rfl (hJ _ _ (hK _ (st.frame (by simp))))
  | true =>
  refine brF rfl ?_
  rw [ld_sl (i := 0) (st.fblk 1 rfl) rfl]
  refine call_of (r2_right_c (st.fz 7 rfl) (by omega)) ?_
  rintro _ h3 ⟨rfl, e⟩; subst e
  cases hC : rightC c with
  | false =>
    rw [checkS_20 hE (st := ⟨c, ids, gs⟩) hC]
    refine brT rfl ?_
    refine jn_in fun J hJ => brT rfl (hJ _ _ ?_)
    clear J hJ
    exact jn_in fun J hJ => brT rfl (hJ _ _ (hK _ (st.frame (by simp))))
  | true =>
  refine brF rfl ?_
  refine ldRow (τ := .cons .sl (.cons .sl (.cons .sl .nil))) (x := (sl2, sh2, sg2, ())) (st.fblk 1 rfl) ?_
  refine call_of (r9_Check_c (st.fz 3 rfl) hE (st.fz 7 rfl) hC (st.fz 8 rfl) (st.fz 9 rfl) (by omega) (by omega) (fun g hg => by have := hgh g hg; omega)) ?_
  rintro _ h4 ⟨rfl, x4⟩
  have st := st.ext x4
  generalize hR : checkS l ⟨c, ids, gs⟩ = R
  obtain ⟨k, j, e⟩ := R
  have hz := checkS_zero hR
  have hkw : IntKind.wrap .i64 k = k := by
    by_cases q : e = 0
    · rcases (hz.2 q).2 with rfl | rfl <;> rfl
    · rw [hz.1 q]; rfl
  simp only
  refine brT (by rw [hkw]; simp) ?_
  refine brT (by simp) (brT (by simp) ?_)
  refine call_of (Theirs_c (st.fz 2 rfl) (by omega) (fun x hx => by have := hll x hx; omega)) ?_
  rintro s20 h5 ⟨n20, x5⟩
  have st := st.ext x5
  refine call_of (sameEntries_c n20.at (st.fz 3 rfl) (by omega) hll') ?_
  rintro _ h6 ⟨rfl, x6⟩
  have st := st.ext x6
  refine brT (by simp) ?_
  refine ldRow (τ := .cons .sl (.cons .sl (.cons .sl .nil))) (x := (sl, sh, sg, ())) (st.fblk 0 rfl) ?_
  refine ldRow (τ := .cons .sl (.cons .sl (.cons .sl .nil))) (x := (sl2, sh2, sg2, ())) (st.fblk 1 rfl) ?_
  refine call_of (step_c (st.fz 4 rfl) (st.fz 5 rfl) (st.fz 6 rfl) (by omega) (by omega) (by omega) (fun g hg => by have := hgh g hg; omega)) ?_
  rintro _ h7 ⟨t1, t2, t3, rfl, n1, n2, n3, x7⟩
  have st := st.ext x7
  refine ckRow (st.fblk 1 rfl) ?_
  refine call_of (sameStep_c n1.at.rsl n2.at.rsl n3.at (st.fz 7 rfl) (st.fz 8 rfl) (st.fz 9 rfl) (by omega) (by omega) (by omega) hgh') ?_
  rintro _ h8 ⟨rfl, x8⟩
  have st := st.ext x8
  simp only [decide_true, Bool.and_self]
  exact hK _ (st.frame (by simp))
set_option maxRecDepth 20000 in
set_option maxHeartbeats 1000000 in
theorem checks_c (hA : At h (ent l sa)) (hL : At h (li c sl)) (hH : At h (li ids sh)) (hG : At h (ent gs sg))
    (hl : l.length ≤ 1000) (hll : ∀ x ∈ l, x.2.length ≤ 1000) (hcl : c.length ≤ 1000) (hil : ids.length ≤ 1000) (hgl : gs.length ≤ 1000) (hgh : ∀ g ∈ gs, g.2.length ≤ 1000) :
    callT Tryz.prog fn_salvorlaw09_checks #[.slice sa.a sa.len sa.cap, .agg #[.slice sl.a sl.len sl.cap, .slice sh.a sh.len sh.cap, .slice sg.a sg.len sg.cap]] .bool (fun r h' => r = true ∧ Ext [] h h') h := by
  refine callT_gen fun K hK => S_salvorlaw09_checks (a0 := sa) (a1 := (sl, sh, sg, ())) K ?_
  unfold F_salvorlaw09_checks
  have st := Hs.start h [ent l sa, li c sl, li ids sh, ent gs sg] (by simp [hA, hL, hH, hG])
  refine st.nw fun b0 h1 st => ?_
  have st := st.freeze 0 rfl
  simp only [List.nil_append, List.cons_append, List.eraseIdx_cons_zero] at st
  refine ldRow (τ := .cons .sl (.cons .sl (.cons .sl .nil))) (x := (sl, sh, sg, ())) (st.fblk 4 rfl) ?_
  have hll6 : ∀ x ∈ l, x.2.length ≤ 1048576 := fun x hx => by have := hll x hx; omega
  have hgh6 : ∀ x ∈ gs, x.2.length ≤ 1000000 := fun x hx => by have := hgh x hx; omega
  have fin : ∀ bs s2 t1 t2 t3 h', Hs [([], h)] [ent l sa, li c sl, li ids sh, ent gs sg, st3 b0 ty_rat_Step sl sh sg, ent l s2, nio' c t1, nio' ids t2, ent gs t3] [cl bs ty_salvorref09_Step [.slice none 0 0, .slice none 0 0, .slice none 0 0]] h' →
      (st1 (⟨bs, 0, none⟩ : Addr) (.slice t1.a t1.len t1.cap) <| st1 ((⟨bs, 0, none⟩ : Addr).add 1) (.slice t2.a t2.len t2.cap) <| st1 ((⟨bs, 0, none⟩ : Addr).add 2) (.slice t3.a t3.len t3.cap) <| ChTl sa b0 bs s2 K) h' := by
    intro bs s2 t1 t2 t3 h' st
    simp only [addr_add, Nat.zero_add]
    refine st.st1 0 0 rfl (by simp) fun h2 st => ?_
    refine st.st1 0 1 rfl (by simp) fun h2 st => ?_
    refine st.st1 0 2 rfl (by simp) fun h2 st => ?_
    simp only [List.set_cons_zero, List.set_cons_succ] at st
    exact chTl_c (st.fz 4 rfl) (st.own 0 rfl) (st.fz 0 rfl) (st.fz 5 rfl) (st.fz 1 rfl) (st.fz 2 rfl) (st.fz 3 rfl) (st.fz 6 rfl).rsl (st.fz 7 rfl).rsl (st.fz 8 rfl) hl hll hcl hil hgl hgh fun h3 x3 => hK _ _ ⟨rfl, (st.frame (h0 := h) (by simp)).nil_trans x3⟩
  constructor
  · refine call_of (Theirs_c (st.fz 0 rfl) (by omega) hll6) ?_
    rintro s2 h2 ⟨n2, x2⟩
    have st := Hs.fzNew (Bs := [ent l s2]) st x2 (by intro B hB; simp only [List.mem_singleton] at hB; subst hB; exact n2)
    simp only [List.nil_append, List.cons_append] at st
    refine ckRow (st.fblk 4 rfl) ?_
    constructor
    · refine call_of (step_c (st.fz 1 rfl) (st.fz 2 rfl) (st.fz 3 rfl) (by omega) (by omega) (by omega) hgh6) ?_
      rintro _ h3 ⟨t1, t2, t3, rfl, m1, m2, m3, x3⟩
      have st := Hs.fzNew (Bs := [nio' c t1, nio' ids t2, ent gs t3]) st x3 (by
        intro B hB
        simp only [List.mem_cons, List.not_mem_nil, or_false] at hB
        rcases hB with rfl | rfl | rfl
        · exact m1
        · exact m2
        · exact m3)
      simp only [List.nil_append, List.cons_append] at st
      refine st.nw fun b4 h4 st => ?_
      simp only [List.nil_append] at st
      exact fin b4 s2 t1 t2 t3 _ st
    · refine st.nw fun b4 h4 st => ?_
      simp only [List.nil_append] at st
      refine call_of (step_c (st.fz 1 rfl) (st.fz 2 rfl) (st.fz 3 rfl) (by omega) (by omega) (by omega) hgh6) ?_
      rintro _ h3 ⟨t1, t2, t3, rfl, m1, m2, m3, x3⟩
      have st := Hs.fzNew (Bs := [nio' c t1, nio' ids t2, ent gs t3]) st x3 (by
        intro B hB
        simp only [List.mem_cons, List.not_mem_nil, or_false] at hB
        rcases hB with rfl | rfl | rfl
        · exact m1
        · exact m2
        · exact m3)
      simp only [List.nil_append, List.cons_append] at st
      exact fin b4 s2 t1 t2 t3 _ st
  · refine st.nw fun b4 h4 st => ?_
    simp only [List.nil_append] at st
    refine call_of (Theirs_c (st.fz 0 rfl) (by omega) hll6) ?_
    rintro s2 h2 ⟨n2, x2⟩
    have st := Hs.fzNew (Bs := [ent l s2]) st x2 (by intro B hB; simp only [List.mem_singleton] at hB; subst hB; exact n2)
    simp only [List.nil_append, List.cons_append] at st
    refine ckRow (st.fblk 4 rfl) ?_
    refine call_of (step_c (st.fz 1 rfl) (st.fz 2 rfl) (st.fz 3 rfl) (by omega) (by omega) (by omega) hgh6) ?_
    rintro _ h3 ⟨t1, t2, t3, rfl, m1, m2, m3, x3⟩
    have st := Hs.fzNew (Bs := [nio' c t1, nio' ids t2, ent gs t3]) st x3 (by
      intro B hB
      simp only [List.mem_cons, List.not_mem_nil, or_false] at hB
      rcases hB with rfl | rfl | rfl
      · exact m1
      · exact m2
      · exact m3)
    simp only [List.nil_append, List.cons_append] at st
    exact fin b4 s2 t1 t2 t3 _ st
end Go.Proofs.S
namespace Go.Proofs.S
open Go Go.Sx Go.Proofs Go.Cl Go.Rp Go.Rt
variable {h h0 : Heap} {c d A f ids hs W : List Int} {l : List Ent} {cs : List (List Int)} {gs us vs : List Grp} {s s2 s3 s4 sc sl sh sg sx1 sx2 sl2 sh2 sg2 sa sr : Sl} {fr : Fr} {G As : List Asn} {id p n : Int} {i k : Nat} {b m b0 b1 bs : Nat}
end Go.Proofs.S
namespace Go.Proofs.S
open Go Go.Sx Go.Proofs Go.Cl Go.Rp
variable {h : Heap} {c d A us : List Int} {cs ds hs : List (List Int)} {s s2 : Sl} {fr : Fr} {G As : List Asn} {b : Nat}
end Go.Proofs.S
