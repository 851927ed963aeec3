/-
  The range of salvorlaw05.models, cut out of its text (printed by gen/mkfml.py).
-/
import Derived.Test.YtmlamkoilggonaaGreatFoRg
set_option linter.unusedVariables false
namespace Go.Proofs.S
open Go Go.Sx Go.Proofs Go.Cl

def MlTl (b1 b4 n0 : Nat) (a4 : Value) (K : Bool → HP) : HP := fun h => (
 nw #[(.int .i64 (0 : Int))] ty_int fun b16 =>
 st1 (⟨b16, 0, none⟩ : Addr) (.int .i64 (0 : Int)) <|
 RangeVC Tryz.prog (.cons .sl .nil) a4 (fun x17 wrap18 next19 jump20 =>
 wrap18 <|
 ldT (.int .i64) (⟨b16, 0, none⟩ : Addr) fun x21 =>
 ldT .sl (⟨b4, 0, none⟩ : Addr) fun x22 =>
 brB (decide (x21 ≥ (x22.len : Int)))
 (st1 (⟨b1, 0, none⟩ : Addr) (.bool false) <|
 jump20 .ret)
 (ldT .sl (⟨b4, 0, none⟩ : Addr) fun x23 =>
 ldT (.int .i64) (⟨b16, 0, none⟩ : Addr) fun x24 =>
 sx x23.a x23.len x24 1 fun p25 =>
 ldT .sl p25 fun x26 =>
 callT Tryz.prog fn_salvorlaw05_Bits #[(.slice x17.1.a x17.1.len x17.1.cap)] .sl fun r27 =>
 ck p25 (.slice x26.a x26.len x26.cap) <|
 ck (⟨b16, 0, none⟩ : Addr) (.int .i64 x24) <|
 ck (⟨b4, 0, none⟩ : Addr) (.slice x23.a x23.len x23.cap) <|
 callT Tryz.prog fn_slices_Equal_int_int #[(.slice r27.a r27.len r27.cap), (.slice x26.a x26.len x26.cap)] .bool fun r28 =>
 brB (!r28)
 (st1 (⟨b1, 0, none⟩ : Addr) (.bool false) <|
 jump20 .ret)
 (lfp (σ := (Int × Unit)) (fun X29 s30 => 
 brB (decide (s30.1 < (x17.1.len : Int)))
 (sx x17.1.a x17.1.len s30.1 1 fun p31 =>
 ldT .bool p31 fun x32 =>
 sx x17.1.a x17.1.len s30.1 1 fun p33 =>
 st1 p33 (.bool (!x32)) <|
 X29 ((IntKind.wrap .i64 (s30.1 + (1 : Int))), ()))
 (ldT (.int .i64) (⟨b16, 0, none⟩ : Addr) fun x34 =>
 st1 (⟨b16, 0, none⟩ : Addr) (.int .i64 (IntKind.wrap .i64 (x34 + (1 : Int)))) <|
 next19))
 ((0 : Int), ()))))
 (ldT (.int .i64) (⟨b16, 0, none⟩ : Addr) fun x35 =>
 ldT .sl (⟨b4, 0, none⟩ : Addr) fun x36 =>
 st1 (⟨b1, 0, none⟩ : Addr) (.bool (x35 == (x36.len : Int))) <|
 mkd n0 <|
 ldT .bool (⟨b1, 0, none⟩ : Addr) fun x37 =>
 K x37)
 (mkd n0 <|
 ldT .bool (⟨b1, 0, none⟩ : Addr) fun x38 =>
 K x38)
 []
 []) h

end Go.Proofs.S

set_option linter.unusedVariables false
set_option linter.unusedSimpArgs false
namespace Go.Proofs.S
open Go Go.Sx Go.Proofs Go.Cl

variable {h : Heap} {c d : List Int} {s s2 : Sl} {fr : Fr} {G As : List Asn} {m k : List Bool} {sm sr sc : Sl} {cs ds : List (List Int)} {n n2 : Int}

theorem headD_get : ∀ {l : List (List Bool)} (h : 0 < l.length), l.headD [] = l[0]
  | [], h => by simp at h
  | a :: l, _ => rfl

theorem MlTl_c {v b1 b4 bm : Nat} {r3 : Sl} {h0 : Heap} {K : Bool → HP} (st : Hs [([], h0)] G [cl b1 ty_bool [.bool false]] h) (g0 : G[0]? = some (cF bm v sc)) (g1 : G[1]? = some (lli cs sc)) (g2 : G[2]? = some (lli ((modelsF v cs).map bitsL) r3)) (g3 : G[3]? = some (cl b4 ty_sl_sl_int [.slice r3.a r3.len r3.cap]))
    (hg : GoodF v cs) (hv : v ≤ 8) (hK : ∀ h', Ext [] h0 h' → K true h') : MlTl b1 b4 h0.size (modV bm) K h := by
  unfold MlTl
  have l3 := rsg_len (st.fz 2 g2)
  have lM := modelsF_le v cs (by omega)
  simp only [List.length_map] at l3
  refine st.nw fun b16 h1 st => ?_
  refine st.st1 1 0 rfl (by simp) fun h2 st => ?_
  simp only [List.nil_append, List.cons_append, List.set_cons_zero, List.set_cons_succ] at st
  refine st.rangeG (modNx v cs) (modGf v cs) (modFin v cs) (models_hit 0 1 g0 g1 hg (by omega)) (fun _ _ _ _ => rfl)
    (fun pre Bs => pre.length ≤ (modelsF v cs).length ∧ Bs = [cl b1 ty_bool [.bool false], cl b16 ty_int [.int .i64 (pre.length : Int)]])
    (fun j Bs => False) ⟨Nat.zero_le _, rfl⟩ ?_ ?_ (fun _ _ hf => hf.elim) ?_
  · rintro pre ⟨x, ⟨⟩⟩ Bs B hb hnx ⟨hps, rfl⟩ st next jump hnext hjump
    have hlt : pre.length < (modelsF v cs).length := hnx
    have eg : modGf v cs pre (x, ()) = ob (modelsF v cs)[pre.length] x := by
      show ob ((modelsF v cs).getD pre.length []) x = _
      rw [List.getD_eq_getElem?_getD, List.getElem?_eq_getElem hlt]; rfl
    rw [eg] at st
    simp only [List.nil_append, List.cons_append] at st
    simp only
    have hml := (modelsF_row (List.getElem_mem hlt)).1
    rw [st.ldi 1 0 rfl rfl, ld_sl (i := 0) (st.fblk 3 g3) rfl]
    refine brF (show decide ((pre.length : Int) ≥ (r3.len : Int)) = false from decide_eq_false (by omega)) ?_
    rw [ld_sl (i := 0) (st.fblk 3 g3) rfl, st.ldi 1 0 rfl rfl]
    -- the row
    obtain ⟨ps, pl, pA, pI⟩ := rsg_open (st.fz 2 g2)
    have hpj : pre.length < ps.length := by rw [pl]; simpa using hlt
    have hrow := pI pre.length (by simpa using hlt) hpj
    rw [List.getElem_map] at hrow
    obtain ⟨ar, ea, hcell⟩ := rsl_cells pA (List.getElem?_eq_getElem hpj)
    refine ⟨ar, ea, by omega, by show (pre.length : Int) < (r3.len : Int); omega, ps[pre.length], by simpa using hcell, ?_⟩
    refine call_of (bits_c (st.own 2 rfl).rsl (by omega)) ?_
    rintro r27 h4 ⟨n4, x4⟩
    have st := st.ext x4
    have hcell4 : cell h4 (ar.add pre.length) = some (Ty.sl.enc ps[pre.length]) := by
      obtain ⟨a2, ea2, hc2⟩ := rsl_cells (pA.ext x4) (List.getElem?_eq_getElem hpj)
      rw [ea] at ea2
      have := Option.some.inj ea2
      subst this; exact hc2
    refine ⟨by simp only [Int.toNat_natCast, Nat.mul_one]; exact hcell4, ?_⟩
    rw [st.ck 1 0 rfl rfl, ck_ok (i := 0) (st.fblk 3 g3) rfl]
    refine call_of (equal_int n4.at.rsl (hrow.ext x4) (by simp; omega)) ?_
    rintro _ h5 ⟨er, e⟩; subst e
    have er : _ = true := er.trans (by simp)
    subst er
    refine brF rfl ?_
    have lx := osl_len (st.own 2 rfl)
    refine lfp_invh (I := fun μ σ h' => ∃ (i : Nat) (ys : List Bool), σ = ((i : Int), ()) ∧ i ≤ v ∧ ys.length = v ∧ Hs ((B, hb) :: [([], h0)]) G [cl b1 ty_bool [.bool false], cl b16 ty_int [.int .i64 (pre.length : Int)], ob ys x] h' ∧ μ = v - i)
      ⟨_, 0, _, rfl, by omega, hml, st, rfl⟩ ?_
    clear st
    rintro μ σ h6 X ⟨i, ys, rfl, hi, hys, st, em⟩ hX
    simp only
    by_cases hlt2 : i < v
    · refine brT (show decide ((i : Int) < (x.len : Int)) = true from decide_eq_true (by omega)) ?_
      refine rdE (τ := .bool) (st.own 2 rfl).rsl (show i < ys.length by omega) ?_
      refine st.wrE (τ := .bool) 2 rfl (show i < ys.length by omega) (!ys[i]) fun h7 st => ?_
      simp only [List.set_cons_zero, List.set_cons_succ] at st
      rw [inc_i (by omega)]
      exact hX _ _ _ ⟨i + 1, _, rfl, by omega, by simpa using hys, st, rfl⟩ (by omega)
    · refine brF (show decide ((i : Int) < (x.len : Int)) = false from decide_eq_false (by omega)) ?_
      rw [st.ldi 1 0 rfl rfl, inc_i (by omega)]
      refine st.st1 1 0 rfl (by simp) fun h7 st => ?_
      simp only [List.set_cons_zero, List.set_cons_succ] at st
      refine hnext _ _ ⟨by simp; omega, ?_⟩ (st.drop 2 rfl)
      rw [List.length_append, List.length_singleton]; rfl
  · rintro pre Bs h3 hfin ⟨hps, rfl⟩ st
    have hfin : pre.length = (modelsF v cs).length := hfin
    rw [st.ldi 1 0 rfl rfl, ld_sl (i := 0) (st.fblk 3 g3) rfl]
    refine st.st1 0 0 rfl (by simp) fun h4 st => ?_
    simp only [List.set_cons_zero] at st
    refine fun h5 hM => ?_
    have st := st.marked hM
    rw [st.ldb 0 0 rfl rfl]
    have : (((pre.length : Nat) : Int) == (r3.len : Int)) = true := by simp; omega
    rw [this]
    exact hK _ (st.frame (by simp))
  · rintro i id K' hi; simp at hi

theorem lawModels_c {v bm : Nat} (hB : At h (cF bm v sc)) (hC : At h (lli cs sc)) (hR : At h (lli cs sr)) (hF : At h (lb k s2)) (hg : GoodF v cs) (hv : v ≤ 8) (hk : k = (modelsF v cs).headD []) :
    callT Tryz.prog fn_salvorlaw05_models #[.agg #[.int .i64 v, .slice sr.a sr.len sr.cap], .int .i64 (modelsF v cs).length, .slice s2.a s2.len s2.cap, .bool (decide (0 < (modelsF v cs).length)), modV bm] .bool (fun r h' => r = true ∧ Ext [] h h') h := by
  refine callT_gen fun K hK => S_salvorlaw05_models (a0 := ((v : Int), sr, ())) (a1 := ((modelsF v cs).length : Int)) (a2 := s2) (a3 := decide (0 < (modelsF v cs).length)) (a4 := modV bm) K ?_
  unfold F_salvorlaw05_models
  show (nw _ _ _) h
  have hK' : ∀ h', Ext [] h h' → K true h' := fun h' x => hK true h' ⟨rfl, x⟩
  have st := Hs.start h [cF bm v sc, lli cs sc, lli cs sr, lb k s2] (by simp [hB, hC, hR, hF])
  refine st.nw fun b0 h1 st => ?_
  refine st.nw fun b1 h2 st => ?_
  simp only [List.nil_append, List.cons_append] at st
  refine ldF (s := sr) (st.blk 0 rfl) ?_
  refine call_of (rmodels_c (v := v) (st.fz 2 rfl) hg hv) ?_
  rintro r3 h3 ⟨n3, x3⟩
  have st := (st.new x3 n3).freeze 2 rfl
  simp only [List.nil_append, List.cons_append, List.eraseIdx_cons_zero, List.eraseIdx_cons_succ] at st
  refine st.nw fun b4 h4 st => ?_
  simp only [List.nil_append, List.cons_append] at st
  refine st.st1 2 0 rfl (by simp) fun h5 st => ?_
  simp only [List.set_cons_zero, List.set_cons_succ] at st
  have st := (st.freeze 2 rfl).drop 0 rfl
  simp only [List.nil_append, List.cons_append, List.eraseIdx_cons_zero, List.eraseIdx_cons_succ] at st
  have l3 := rsg_len (st.fz 4 rfl)
  simp only [List.length_map] at l3
  have lM := modelsF_le v cs (by omega)
  rw [ld_sl (i := 0) (st.fblk 5 rfl) rfl]
  refine brF (show (((modelsF v cs).length : Int) != (r3.len : Int)) = false by simp; omega) ?_
  rw [ld_sl (i := 0) (st.fblk 5 rfl) rfl]
  have e1 : decide ((r3.len : Int) > 0) = decide (0 < (modelsF v cs).length) := by rw [l3]; simp
  refine brF (show (!(decide (0 < (modelsF v cs).length) == decide ((r3.len : Int) > 0))) = false by rw [e1]; simp) ?_
  have st2 : Hs [([], h)] [cF bm v sc, lli cs sc, lli ((modelsF v cs).map bitsL) r3, cl b4 ty_sl_sl_int [.slice r3.a r3.len r3.cap]] [cl b1 ty_bool [.bool false]] h5 := st.less fun A hA => by
    simp only [List.mem_cons, List.not_mem_nil, or_false] at hA ⊢
    rcases hA with rfl | rfl | rfl | rfl <;> simp
  by_cases h0 : 0 < (modelsF v cs).length
  · refine brT (decide_eq_true h0) ?_
    rw [ld_sl (i := 0) (st.fblk 5 rfl) rfl]
    obtain ⟨ps, pl, pA, pI⟩ := rsg_open (st.fz 4 rfl)
    have hpj : 0 < ps.length := by rw [pl]; simpa using h0
    have hrow := pI 0 (by simpa using h0) hpj
    rw [List.getElem_map] at hrow
    obtain ⟨ar, ea, hcell⟩ := rsl_cells pA (List.getElem?_eq_getElem hpj)
    refine ⟨ar, ea, by omega, by show (0 : Int) < (r3.len : Int); omega, ps[0], by simpa using hcell, ?_⟩
    have hkl : k.length ≤ 1048576 := by
      rw [hk, headD_get h0, (modelsF_row (List.getElem_mem h0)).1]; omega
    refine call_of (bits_c (st.fz 3 rfl) hkl) ?_
    rintro r12 h6 ⟨n6, x6⟩
    have st := st.ext x6
    have st2 := st2.ext x6
    have hcell6 : cell h6 (ar.add 0) = some (Ty.sl.enc ps[0]) := by
      obtain ⟨a2, ea2, hc2⟩ := rsl_cells (pA.ext x6) (List.getElem?_eq_getElem hpj)
      rw [ea] at ea2
      have := Option.some.inj ea2
      subst this; exact hc2
    refine ⟨hcell6, ?_⟩
    rw [ck_ok (i := 0) (st.fblk 5 rfl) rfl]
    refine call_of (equal_int n6.at.rsl (hrow.ext x6) (by simp; omega)) ?_
    rintro _ h7 ⟨er, e⟩; subst e
    have er : _ = true := er.trans (by
      rw [decide_eq_true_iff, hk, headD_get h0])
    subst er
    refine brF rfl (brF (by rw [decide_eq_true h0]; rfl) ?_)
    exact MlTl_c st2 rfl rfl rfl rfl hg hv hK'
  · refine brF (decide_eq_false h0) (brT (by rw [decide_eq_false h0]; rfl) ?_)
    have e0 : modelsF v cs = [] := List.length_eq_zero_iff.1 (by omega)
    have ek : k = [] := by rw [hk, e0]; rfl
    have l2 := rsl_len (st.fz 3 rfl)
    rw [ek] at l2
    refine brF (show ((s2.len : Int) != 0) = false by rw [l2]; rfl) ?_
    exact MlTl_c st2 rfl rfl rfl rfl hg hv hK'

end Go.Proofs.S

