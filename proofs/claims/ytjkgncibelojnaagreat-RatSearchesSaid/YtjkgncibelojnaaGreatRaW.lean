/-
  The laws' helpers of rat: sameEntries, sameStep, few.
-/
import Derived.Test.YtjkgncibelojnaaGreatRaU
import Derived.Test.YtjkgncibelojnaaGreatRaN
import Derived.Test.YtjkgncibelojnaaGreatRpS
import Derived.Test.YtjkgncibelojnaaGreatSxN
set_option linter.unusedVariables false
set_option linter.unusedSimpArgs false
namespace Go.Proofs.S
open Go Go.Sx Go.Proofs Go.Cl Go.Rp Go.Rt

variable {h h0 : Heap} {c d A f ids hs W : List Int} {l : List Ent} {cs : List (List Int)} {gs us vs : List Grp} {s s2 s3 s4 sc sl sh sg sx1 sx2 sl2 sh2 sg2 : Sl} {fr : Fr} {G As : List Asn} {id p n : Int} {i k : Nat} {b m b0 b1 bs : Nat}

theorem sameEntries1_c {x y : Grp} {p q : Sl} (hA : At h (li x.2 p)) (hB : At h (li y.2 q)) (hl : x.2.length ≤ 1099511627776) :
    callT Tryz.prog fn_salvorlaw09_sameEntries_1 #[(.agg #[(.int .i64 x.1), (.slice p.a p.len p.cap)]), (.agg #[(.int .i64 y.1), (.slice q.a q.len q.cap)])] .bool (fun r h' => r = decide (x = y) ∧ Ext [] h h') h := by
  refine callT_gen fun K hK => S_salvorlaw09_sameEntries_1 (a0 := (x.1, p, ())) (a1 := (y.1, q, ())) K ?_
  unfold F_salvorlaw09_sameEntries_1
  have st := Hs.start h [li x.2 p, li y.2 q] (by simp [hA, hB])
  refine st.nw fun b0 h1 st => ?_
  refine st.nw fun b1 h2 st => ?_
  simp only [List.cons_append, List.nil_append] at st
  rw [st.ldi 0 0 rfl rfl, st.ldi 1 0 rfl rfl]
  obtain ⟨x1, x2⟩ := x
  obtain ⟨y1, y2⟩ := y
  refine jn_in fun J hJ => ?_
  by_cases e : x1 = y1
  · refine brT (by simpa using e) ?_
    rw [addr_add, addr_add, st.lds 0 1 rfl rfl, st.lds 1 1 rfl rfl]
    refine call_of (equal_int (st.fz 0 rfl) (st.fz 1 rfl) hl) ?_
    rintro _ h3 ⟨rfl, e3⟩; subst e3
    refine hJ _ _ (hK _ _ ⟨?_, st.frame (by simp)⟩)
    simp [e]
  · refine brF (by simpa using e) (hJ _ _ (hK _ _ ⟨?_, st.frame (by simp)⟩))
    simp [e]
theorem sameStep1_c {x y : Grp} {p q : Sl} (hA : At h (li x.2 p)) (hB : At h (li y.2 q)) (hl : x.2.length ≤ 1099511627776) :
    callT Tryz.prog fn_salvorlaw09_sameStep_1 #[(.agg #[(.int .i64 x.1), (.slice p.a p.len p.cap)]), (.agg #[(.int .i64 y.1), (.slice q.a q.len q.cap)])] .bool (fun r h' => r = decide (x = y) ∧ Ext [] h h') h := by
  refine callT_gen fun K hK => S_salvorlaw09_sameStep_1 (a0 := (x.1, p, ())) (a1 := (y.1, q, ())) K ?_
  unfold F_salvorlaw09_sameStep_1
  have st := Hs.start h [li x.2 p, li y.2 q] (by simp [hA, hB])
  refine st.nw fun b0 h1 st => ?_
  refine st.nw fun b1 h2 st => ?_
  simp only [List.cons_append, List.nil_append] at st
  rw [st.ldi 0 0 rfl rfl, st.ldi 1 0 rfl rfl]
  obtain ⟨x1, x2⟩ := x
  obtain ⟨y1, y2⟩ := y
  refine jn_in fun J hJ => ?_
  by_cases e : x1 = y1
  · refine brT (by simpa using e) ?_
    rw [addr_add, addr_add, st.lds 0 1 rfl rfl, st.lds 1 1 rfl rfl]
    refine call_of (equal_int (st.fz 0 rfl) (st.fz 1 rfl) hl) ?_
    rintro _ h3 ⟨rfl, e3⟩; subst e3
    refine hJ _ _ (hK _ _ ⟨?_, st.frame (by simp)⟩)
    simp [e]
  · refine brF (by simpa using e) (hJ _ _ (hK _ _ ⟨?_, st.frame (by simp)⟩))
    simp [e]
theorem equalFunc_refE {fv : Value} {K : Bool → HP} (hW : W_equalFuncP Tryz.prog ty_salvorref09_Entry s s2 fv K h) : callT Tryz.prog fn_slices_EqualFunc_salvorref09_Entry_salvorref09_Entry_salvorref09_Entry_salvorref09_Entry #[.slice s.a s.len s.cap, .slice s2.a s2.len s2.cap, fv] .bool K h :=
  S_slices_EqualFunc_salvorref09_Entry_salvorref09_Entry_salvorref09_Entry_salvorref09_Entry (a0 := s) (a1 := s2) (a2 := fv) K hW
theorem equalFunc_refG {fv : Value} {K : Bool → HP} (hW : W_equalFuncP Tryz.prog ty_salvorref09_Group s s2 fv K h) : callT Tryz.prog fn_slices_EqualFunc_salvorref09_Group_salvorref09_Group_salvorref09_Group_salvorref09_Group #[.slice s.a s.len s.cap, .slice s2.a s2.len s2.cap, fv] .bool K h :=
  S_slices_EqualFunc_salvorref09_Group_salvorref09_Group_salvorref09_Group_salvorref09_Group (a0 := s) (a1 := s2) (a2 := fv) K hW
theorem eqP_iff {us vs : List Grp} {b : Bool} (hb : b = true ↔ us.length = vs.length ∧ ∀ i (h1 : i < us.length) (h2 : i < vs.length), decide (us[i] = vs[i]) = true) : b = decide (us = vs) := by
  rw [Bool.eq_iff_iff, hb, decide_eq_true_eq]
  refine ⟨fun ⟨hlen, hall⟩ => List.ext_getElem hlen fun i h1 h2 => by simpa using hall i h1 h2, fun e => ?_⟩
  subst e
  exact ⟨rfl, fun i h1 h2 => by simp⟩
theorem sameEntries_c (hA : At h (ent us s)) (hB : At h (ent vs s2)) (hl : us.length ≤ 1099511627776) (hh : ∀ g ∈ us, g.2.length ≤ 1099511627776) :
    callT Tryz.prog fn_salvorlaw09_sameEntries #[.slice s.a s.len s.cap, .slice s2.a s2.len s2.cap] .bool (fun r h' => r = decide (us = vs) ∧ Ext [] h h') h := by
  refine callT_gen fun K hK => S_salvorlaw09_sameEntries (a0 := s) (a1 := s2) K ?_
  unfold F_salvorlaw09_sameEntries
  refine equalFunc_refE ?_
  refine w_equalFuncP (P := Tryz.prog) (t := ty_salvorref09_Entry) (r := fun x y => decide (x = y)) hA hB hl (fun x hx y hy p q h' x' hp hq => ?_) fun b h' hb x => hK _ _ ⟨eqP_iff hb, x⟩
  exact callF_func (sameEntries1_c hp hq (hh x hx))
theorem sameGroupsR_c {K : Bool → HP} (hA : At h (ent us s)) (hB : At h (ent vs s2)) (hl : us.length ≤ 1099511627776) (hh : ∀ g ∈ us, g.2.length ≤ 1099511627776) (hK : ∀ h', Ext [] h h' → K (decide (us = vs)) h') :
    callT Tryz.prog fn_slices_EqualFunc_salvorref09_Group_salvorref09_Group_salvorref09_Group_salvorref09_Group #[.slice s.a s.len s.cap, .slice s2.a s2.len s2.cap, (.func (.func fn_salvorlaw09_sameStep_1) #[] #[])] .bool K h := by
  refine equalFunc_refG ?_
  refine w_equalFuncP (P := Tryz.prog) (t := ty_salvorref09_Group) (r := fun x y => decide (x = y)) hA hB hl (fun x hx y hy p q h' x' hp hq => ?_) fun b h' hb x => by rw [eqP_iff hb]; exact hK _ x
  exact callF_func (sameStep1_c hp hq (hh x hx))
set_option maxHeartbeats 1000000 in
theorem sameStep_c {c2 ids2 : List Int} {gs2 : List Grp} (hL : At h (li c sl)) (hH : At h (li ids sh)) (hG : At h (ent gs sg)) (hL2 : At h (li c2 sl2)) (hH2 : At h (li ids2 sh2)) (hG2 : At h (ent gs2 sg2))
    (hcl : c.length ≤ 1099511627776) (hil : ids.length ≤ 1099511627776) (hgl : gs.length ≤ 1099511627776) (hgh : ∀ g ∈ gs, g.2.length ≤ 1099511627776) :
    callT Tryz.prog fn_salvorlaw09_sameStep #[.agg #[.slice sl.a sl.len sl.cap, .slice sh.a sh.len sh.cap, .slice sg.a sg.len sg.cap], .agg #[.slice sl2.a sl2.len sl2.cap, .slice sh2.a sh2.len sh2.cap, .slice sg2.a sg2.len sg2.cap]] .bool
      (fun r h' => r = (decide (c = c2) && decide (ids = ids2) && decide (gs = gs2)) ∧ Ext [] h h') h := by
  refine callT_gen fun K hK => S_salvorlaw09_sameStep (a0 := (sl, sh, sg, ())) (a1 := (sl2, sh2, sg2, ())) K ?_
  unfold F_salvorlaw09_sameStep
  have st := Hs.start h [li c sl, li ids sh, ent gs sg, li c2 sl2, li ids2 sh2, ent gs2 sg2] (by simp [hL, hH, hG, hL2, hH2, hG2])
  refine st.nw fun b0 h1 st => ?_
  refine st.nw fun b1 h2 st => ?_
  simp only [List.cons_append, List.nil_append] at st
  rw [st.lds 0 0 rfl rfl, st.lds 1 0 rfl rfl]
  refine call_of (equal_int (st.fz 0 rfl) (st.fz 3 rfl) hcl) ?_
  rintro _ h3 ⟨rfl, e⟩; subst e
  refine jn_mid (M := fun t h' => t = (decide (c = c2) && decide (ids = ids2)) ∧ h' = h3) ?_ ?_
  rotate_left
  · intro J hJ
    cases hc : decide (c = c2) with
    | false => exact brF rfl (hJ _ _ ⟨by rw [hc]; rfl, rfl⟩)
    | true =>
      refine brT rfl ?_
      rw [addr_add, addr_add, st.lds 0 1 rfl rfl, st.lds 1 1 rfl rfl]
      refine call_of (equal_int (st.fz 1 rfl) (st.fz 4 rfl) hil) ?_
      rintro _ h4 ⟨rfl, e⟩; subst e
      exact hJ _ _ ⟨by rw [hc, Bool.true_and], rfl⟩
  rintro _ h4 ⟨rfl, e⟩
  subst e
  refine jn_in fun J hJ => ?_
  cases hc : (decide (c = c2) && decide (ids = ids2)) with
  | false => exact brF rfl (hJ _ _ (hK _ _ ⟨by rw [hc]; rfl, st.frame (by simp)⟩))
  | true =>
    refine brT rfl ?_
    rw [addr_add, addr_add, st.lds 0 2 rfl rfl, st.lds 1 2 rfl rfl]
    refine sameGroupsR_c (st.fz 2 rfl) (st.fz 5 rfl) hgl hgh fun h5 x5 => ?_
    exact hJ _ _ (hK _ _ ⟨by rw [hc]; rfl, (st.ext x5).frame (by simp)⟩)

theorem any_len {m : Nat} {ps : List tPr.T} (hl : ps.length = l.length) (hx : ∀ i (h1 : i < l.length) (h2 : i < ps.length), ps[i].1 = l[i].1 ∧ At h (li l[i].2 ps[i].2.1)) : (ps.any fun x => decide ((x.2.1.len : Int) > (m : Int))) = l.any fun x => decide (x.2.length > m) := by
  rw [Bool.eq_iff_iff, List.any_eq_true, List.any_eq_true]
  constructor
  · rintro ⟨x, hx', he⟩
    obtain ⟨i, hi, rfl⟩ := List.mem_iff_getElem.1 hx'
    refine ⟨l[i]'(by omega), List.getElem_mem _, ?_⟩
    have := rsl_len (hx i (by omega) hi).2
    simp only [decide_eq_true_eq] at he ⊢
    omega
  · rintro ⟨x, hx', he⟩
    obtain ⟨i, hi, rfl⟩ := List.mem_iff_getElem.1 hx'
    refine ⟨ps[i]'(by omega), List.getElem_mem _, ?_⟩
    have := rsl_len (hx i hi (by omega)).2
    simp only [decide_eq_true_eq] at he ⊢
    omega
def fewP (l : List Ent) : Bool := decide (l.length ≤ 30) && !(l.any fun x => decide (x.2.length > 12))
theorem indexFuncE {fv : Value} {p : tPr.T → Bool} {ps : List tPr.T} (hA : At h (rsn 2 tPr.vals ps s)) (hl : ps.length ≤ 1099511627776) (hp : PredOkN Tryz.prog tPr fv p ps h) :
    callT Tryz.prog fn_slices_ContainsFunc_rat_Entry_rat_Entry #[.slice s.a s.len s.cap, fv] .bool (fun r h' => r = ps.any p ∧ Ext [] h h') h := by
  refine callT_gen fun K hK => S_slices_ContainsFunc_rat_Entry_rat_Entry (a0 := s) (a1 := fv) K ?_
  unfold F_slices_ContainsFunc_rat_Entry_rat_Entry
  refine call_of (R := fun r h' => r = fidx p ps ∧ Ext [] h h') (callT_gen fun K hK => S_slices_IndexFunc_rat_Entry_rat_Entry (a0 := s) (a1 := fv) K (w_indexFuncN (P := Tryz.prog) (τ := tPr) hA hl hp fun h' x => hK _ _ ⟨rfl, x⟩)) ?_
  rintro r h2 ⟨er, x⟩
  have er : r = fidx p ps := er
  subst er
  exact hK _ _ ⟨fidx_ge _ _, x⟩
theorem few1_c (x : tPr.T) (h : Heap) : callT Tryz.prog fn_salvorlaw09_few_1 #[.agg #[.int .i64 x.1, .slice x.2.1.a x.2.1.len x.2.1.cap]] .bool (fun r h' => r = decide ((x.2.1.len : Int) > 12) ∧ Ext [] h h') h := by
  refine callT_gen fun K hK => S_salvorlaw09_few_1 (a0 := x) K ?_
  unfold F_salvorlaw09_few_1
  have st := Hs.start h [] (by simp)
  refine st.nw fun b0 h1 st => ?_
  simp only [List.nil_append] at st
  rw [addr_add, st.lds 0 1 rfl rfl]
  exact hK _ _ ⟨rfl, st.frame (by simp)⟩
theorem few_c (hA : At h (ent l s)) : callT Tryz.prog fn_salvorlaw09_few #[.slice s.a s.len s.cap] .bool (fun r h' => r = fewP l ∧ Ext [] h h') h := by
  refine callT_gen fun K hK => S_salvorlaw09_few (a0 := s) K ?_
  unfold F_salvorlaw09_few
  have l1 := rsp_len hA
  obtain ⟨ps, lp, hps, hx⟩ := rsp_open hA
  refine jn_in fun J hJ => ?_
  by_cases h30 : l.length ≤ 30
  · refine brT (decide_eq_true (by omega)) ?_
    refine call_of (indexFuncE (p := fun x => decide ((x.2.1.len : Int) > (12 : Nat))) hps (by omega) fun x _ h' x' => ?_) ?_
    · exact callF_func (few1_c x h')
    rintro _ h2 ⟨rfl, x2⟩
    refine hJ _ _ (hK _ _ ⟨?_, x2⟩)
    unfold fewP
    rw [any_len lp hx, decide_eq_true h30]; rfl
  · refine brF (decide_eq_false (by omega)) (hJ _ _ (hK _ _ ⟨?_, Ext.refl' _ _⟩))
    unfold fewP; rw [decide_eq_false h30]; rfl

end Go.Proofs.S

set_option linter.unusedVariables false
set_option linter.unusedSimpArgs false
namespace Go.Proofs.S
open Go Go.Sx Go.Proofs Go.Cl Go.Rp Go.Rt

variable {h h0 : Heap} {c d A f ids hs W : List Int} {l : List Ent} {cs : List (List Int)} {gs us vs : List Grp} {s s2 s3 s4 sc sl sh sg sx1 sx2 sl2 sh2 sg2 sa sr : Sl} {fr : Fr} {G As : List Asn} {id p n : Int} {i k : Nat} {b m b0 b1 bs : Nat}

theorem ckRow {t : TypeId} {vs : List Value} {X : HP} (hb : Blk h b t vs) (hX : X h) : ckA ⟨b, 0, none⟩ vs X h := ⟨CellsAt_blk' _ hb 0 fun j hj => by rw [Nat.zero_add], hX⟩
abbrev st3 (b : Nat) (t : TypeId) (x y z : Sl) : Asn := cl b t [.slice x.a x.len x.cap, .slice y.a y.len y.cap, .slice z.a z.len z.cap]

end Go.Proofs.S

set_option linter.unusedVariables false
set_option linter.unusedSimpArgs false
namespace Go.Proofs.S
open Go Go.Sx Go.Proofs Go.Cl Go.Rp Go.Rt

variable {h h0 : Heap} {c d A f ids hs W : List Int} {l : List Ent} {cs : List (List Int)} {gs us vs : List Grp} {s s2 s3 s4 sc sl sh sg sx1 sx2 sl2 sh2 sg2 sa sr : Sl} {fr : Fr} {G As : List Asn} {id p n : Int} {i k : Nat} {b m b0 b1 bs : Nat}

theorem fewP_iff : fewP l = true ↔ l.length ≤ 30 ∧ ∀ x ∈ l, x.2.length ≤ 12 := by
  unfold fewP
  rw [Bool.and_eq_true, decide_eq_true_eq, Bool.not_eq_true', List.any_eq_false]
  constructor
  · rintro ⟨a, b⟩
    exact ⟨a, fun x hx => by have := b x hx; simp at this; omega⟩
  · rintro ⟨a, b⟩
    exact ⟨a, fun x hx => by have := b x hx; simp; omega⟩
end Go.Proofs.S

set_option linter.unusedVariables false
set_option linter.unusedSimpArgs false
namespace Go.Proofs.S
open Go Go.Sx Go.Proofs Go.Cl Go.Rp

variable {h : Heap} {c d A us : List Int} {cs ds hs : List (List Int)} {s s2 : Sl} {fr : Fr} {G As : List Asn} {b : Nat}

end Go.Proofs.S
