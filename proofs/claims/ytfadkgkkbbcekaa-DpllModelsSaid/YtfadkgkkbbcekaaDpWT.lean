/-
  The tail of DpllModels, cut out of its text (printed by gen/mkdmd.py).
-/
import Derived.Test.YtfadkgkkbbcekaaDpV
set_option linter.unusedVariables false
namespace Go.Proofs.S
open Go Go.Sx Go.Proofs Go.Cl

def MdTl (b0 b1 b17 n : Nat) (v : Value) (K : Bool → HP) : HP := fun h => (
 nw #[(.int .i64 (0 : Int))] ty_int fun b41 =>
 st1 (⟨b41, 0, none⟩ : Addr) (.int .i64 (0 : Int)) <|
 jn (σ := Unit) (fun s43 => 
 ldT (.int .i64) (⟨b41, 0, none⟩ : Addr) fun x44 =>
 ldT (.int .u8) (⟨b0, 0, none⟩ : Addr) fun x45 =>
 ldT .sl (⟨b17, 0, none⟩ : Addr) fun x46 =>
 jn (σ := Bool) (fun t48 =>
 st1 (⟨b1, 0, none⟩ : Addr) (.bool t48) <|
 mkd n <|
 ldT .bool (⟨b1, 0, none⟩ : Addr) fun x49 =>
 K x49)
 (fun J47 =>
 brB (x44 == (if (x46.len : Int) < (IntKind.wrap .i64 x45) then (x46.len : Int) else (IntKind.wrap .i64 x45)))
 (callT Try.prog fn_salvorlaw19_awake #[] .bool fun r50 =>
 J47 (r50))
 (J47 false)))
 (fun J42 =>
 RangeVC Try.prog (.cons .sl .nil) v (fun x51 wrap52 next53 jump54 =>
 wrap52 <|
 ldT (.int .i64) (⟨b41, 0, none⟩ : Addr) fun x55 =>
 ldT (.int .u8) (⟨b0, 0, none⟩ : Addr) fun x56 =>
 brB (x55 == (IntKind.wrap .i64 x56))
 (jump54 (.exit 0))
 (ldT (.int .i64) (⟨b41, 0, none⟩ : Addr) fun x57 =>
 ldT .sl (⟨b17, 0, none⟩ : Addr) fun x58 =>
 jn (σ := Bool) (fun t60 =>
 brB t60
 (st1 (⟨b1, 0, none⟩ : Addr) (.bool false) <|
 jump54 .ret)
 (lfp (σ := (Int × Unit)) (fun X61 s62 => 
 brB (decide (s62.1 < (x51.1.len : Int)))
 (sx x51.1.a x51.1.len s62.1 1 fun p63 =>
 ldT .bool p63 fun x64 =>
 sx x51.1.a x51.1.len s62.1 1 fun p65 =>
 st1 p65 (.bool (!x64)) <|
 X61 ((IntKind.wrap .i64 (s62.1 + (1 : Int))), ()))
 (ldT (.int .i64) (⟨b41, 0, none⟩ : Addr) fun x66 =>
 st1 (⟨b41, 0, none⟩ : Addr) (.int .i64 (IntKind.wrap .i64 (x66 + (1 : Int)))) <|
 next53))
 ((0 : Int), ())))
 (fun J59 =>
 brB (decide (x57 ≥ (x58.len : Int)))
 (J59 true)
 (ldT .sl (⟨b17, 0, none⟩ : Addr) fun x67 =>
 ldT (.int .i64) (⟨b41, 0, none⟩ : Addr) fun x68 =>
 sx x67.a x67.len x68 1 fun p69 =>
 ldT .sl p69 fun x70 =>
 callT Try.prog fn_slices_Equal_bool_bool #[(.slice x51.1.a x51.1.len x51.1.cap), (.slice x70.a x70.len x70.cap)] .bool fun r71 =>
 J59 ((!r71))))))
 (J42 (()))
 (mkd n <|
 ldT .bool (⟨b1, 0, none⟩ : Addr) fun x72 =>
 K x72)
 [0]
 [(J42 (()))])) h

end Go.Proofs.S

set_option linter.unusedVariables false
set_option linter.unusedSimpArgs false
namespace Go.Proofs.S
open Go Go.Sx Go.Proofs Go.Cl Go.Dp

variable {h : Heap} {l cs : List (List Int)} {s s2 sm r : Sl} {c d : List Int} {m : List Bool} {b : Nat} {MS : List (List Bool)} {G : List Asn} {v : Nat}

theorem collected19_c {fv : Value} (GG : List Asn) (hG : ∀ C ∈ GG, At h C) (hle : MS.length ≤ 256)
    (hit : ∀ {h1 : Heap} {F : List Nat}, (∀ C ∈ GG, ∃ SC, C.P SC h1 ∧ ∀ b ∈ SC, b ∈ F) → (∀ b ∈ F, b < h1.size) → IterG Try.prog (.cons .sl .nil) fv h1 (fun pre x h2 N => allNx MS pre x ∧ (allGf MS pre x).P N h2) (allFin MS) F []) :
    callT Try.prog fn_salvorlaw19_collected #[fv] (.tup (.cons .sl (.cons .bool .nil))) (fun r h' => ∃ s', r = (s', true, ()) ∧ New h.size h' (osg (fun c p => ob c p) ty_sl_bool MS s') ∧ Ext [] h h') h := by
  refine callT_gen fun K hK => S_salvorlaw19_collected (a0 := fv) K ?_
  unfold F_salvorlaw19_collected
  show (nw _ _ _) h
  have st := Hs.start h GG hG
  refine st.nw fun b0 h1 st => ?_
  refine st.nw fun b1 h2 st => ?_
  refine st.nw fun b2 h3 st => ?_
  have st := st.nilg (fun c p => ob c p) ty_sl_bool none
  simp only [List.nil_append, List.cons_append] at st
  refine st.rangeG (allNx MS) (allGf MS) (allFin MS) (fun S hz _ => by
      obtain ⟨F, hF, hall⟩ := hitG GG (fun C hC => hC) hz
      exact ⟨F, hF, fun h1 hn => hit (hall h1 hn.1) (fun b hb => Nat.lt_of_lt_of_le (hF b hb).1 hn.1.1)⟩) (fun _ _ _ _ => rfl)
    (fun pre Bs => ∃ s' : Sl, Bs = [cl b0 ty_sl_sl_bool [.slice none 0 0], cl b1 ty_bool [.bool false], cl b2 ty_sl_sl_bool [.slice s'.a s'.len s'.cap], osg (fun c p => ob c p) ty_sl_bool (MS.take pre.length) s'])
    (fun _ _ => False) ⟨⟨none, 0, 0⟩, rfl⟩ ?_ ?_ (fun _ _ hf => hf.elim) (fun i id K hi => by simp at hi)
  · rintro pre ⟨x, ⟨⟩⟩ Bs B hb hnx ⟨s15, rfl⟩ st next jump hnext hjump
    have hlt : pre.length < MS.length := hnx
    have eg : allGf MS pre (x, ()) = ob MS[pre.length] x := by
      show ob (MS.getD pre.length []) x = _
      rw [List.getD_eq_getElem?_getD, List.getElem?_eq_getElem hlt]; rfl
    rw [eg] at st
    simp only [List.nil_append, List.cons_append] at st
    simp only
    rw [st.lds 2 0 rfl rfl]
    refine st.nw fun b17 h10 st => ?_
    simp only [List.nil_append, List.cons_append] at st
    refine Hs.apdG (I := fun c p => ob c p) (x := MS[pre.length]) (p := x) st 3 5 4 rfl rfl rfl (by decide) (by decide) (by simp; omega) (by decide) rfl fun s24 h11 st => ?_
    refine st.st1 2 0 rfl (by simp) fun h12 st => ?_
    simp only [List.set_cons_zero, List.set_cons_succ] at st
    have st := (st.drop 5 rfl).drop 4 rfl
    simp only [List.eraseIdx_cons_zero, List.eraseIdx_cons_succ] at st
    rw [st.lds 2 0 rfl rfl]
    have l24 := rsg_len (st.own 3 rfl).rsg
    rw [List.length_append, List.length_take, List.length_singleton] at l24
    refine brF (decide_eq_false (show ¬ (s24.len : Int) > 256 by omega)) ?_
    refine hnext _ _ ⟨s24, ?_⟩ st
    rw [List.length_append, List.length_singleton, take_succ_getE hlt]
  · rintro pre Bs h5 hfin ⟨s15, rfl⟩ st
    have hfin : pre.length = MS.length := hfin
    rw [hfin, List.take_length] at st
    rw [st.lds 2 0 rfl rfl]
    refine st.st1 0 0 rfl (by simp) fun h7 st => ?_
    refine st.st1 1 0 rfl (by simp) fun h8 st => ?_
    intro h9 hM
    have st := st.marked hM
    simp only [List.set_cons_zero, List.set_cons_succ] at st
    rw [st.lds 0 0 rfl rfl, st.ldb 1 0 rfl rfl]
    exact hK _ _ ⟨s15, rfl, st.res (by simp) 3 rfl, st.frame (by simp)⟩

theorem equal1M_c {k k2 : List Bool} (hA : At h (lb k s)) (hB : At h (lb k2 s2)) (hl : k.length ≤ 1099511627776) :
    callT Try.prog fn_salvorlaw19_equal_1 #[.slice s.a s.len s.cap, .slice s2.a s2.len s2.cap] .bool (fun r h' => r = decide (k = k2) ∧ Ext [] h h') h := by
  refine callT_gen fun K hK => S_salvorlaw19_equal_1 (a0 := s) (a1 := s2) K ?_
  unfold F_salvorlaw19_equal_1
  refine call_of (equal_bools hA hB hl) ?_
  rintro r h2 ⟨e, rfl⟩
  exact hK _ _ ⟨e, Ext.refl' _ _⟩
set_option maxRecDepth 100000 in
theorem equalFuncB_c {fv : Value} {K : Bool → HP} (hW : F_slices_EqualFunc_bool_bool_bool_bool s s2 fv K h) : callT Try.prog fn_slices_EqualFunc_bool_bool_bool_bool #[.slice s.a s.len s.cap, .slice s2.a s2.len s2.cap, fv] .bool K h :=
  S_slices_EqualFunc_bool_bool_bool_bool (a0 := s) (a1 := s2) (a2 := fv) K hW
set_option maxRecDepth 100000 in
theorem equalM_c {A B : List (List Bool)} (hA : At h (llb A s)) (hB : At h (llb B s2)) (hl : A.length ≤ 1048576) (hr : ∀ m ∈ A, m.length ≤ 1048576) :
    callT Try.prog fn_salvorlaw19_equal #[.slice s.a s.len s.cap, .slice s2.a s2.len s2.cap] .bool (fun r h' => r = decide (A = B) ∧ Ext [] h h') h := by
  refine callT_gen fun K hK => S_salvorlaw19_equal (a0 := s) (a1 := s2) K ?_
  unfold F_salvorlaw19_equal
  refine equalFuncB_c (fv := .func (.func fn_salvorlaw19_equal_1) #[] #[]) ?_
  refine w_equalFuncG (P := Try.prog) (I := fun c p => lb c p) (J := fun c p => lb c p) (r := fun c d => decide (c = d)) hA hB (by omega) (fun x hx y hy p q h' xx hp hq => callF_func (equal1M_c hp hq (by have := hr x hx; omega))) fun b h' hb xx => hK _ _ ⟨?_, xx⟩
  rw [Bool.eq_iff_iff, hb, decide_eq_true_iff]
  constructor
  · rintro ⟨h1, h2⟩
    exact List.ext_getElem h1 fun i h3 h4 => by simpa using h2 i h3 h4
  · rintro rfl
    exact ⟨rfl, fun i h1 h2 => by simp⟩

theorem MdTl_c {b0 b1 b17 stop : Nat} {h0 : Heap} {K : Bool → HP} (st : Hs [([], h0)] G [cl b1 ty_bool [.bool false]] h) (g0 : G[4]? = some (cF b v s)) (g1 : G[5]? = some (lli cs s)) (g2 : G[1]? = some (cl b0 ty_uint8 [.int .u8 (stop : Int)]))
    (g3 : G[10]? = some (osg (fun c p => ob c p) ty_sl_bool (allL v cs) r)) (g4 : G[11]? = some (cl b17 ty_sl_sl_bool [.slice r.a r.len r.cap])) (hg : GoodF v cs) (hv : v ≤ 8) (hs : stop ≤ 255) (hK : ∀ h', Ext [] h0 h' → K true h') : MdTl b0 b1 b17 h0.size (dAllV b) K h := by
  unfold MdTl
  have l3 := rsg_len (lob_llb (st.fz 10 g3))
  have hrow : ∀ m ∈ allL v cs, m.length = v := fun m hm => by rw [allL_eq hg] at hm; exact (modelsF_row hm).1
  have lM : (allL v cs).length ≤ 65536 := by rw [allL_eq hg]; exact modelsF_le v cs (by omega)
  have hit := fun {fr As} {h' : Heap} {st : Hs fr G As h'} => all_hit (fr := fr) (h := h') 4 5 g0 g1 hg (show v ≤ 60 by omega)
  generalize eMS : allL v cs = MS at *
  refine st.nw fun b41 h1 st => ?_
  refine st.st1 1 0 rfl (by simp) fun h2 st => ?_
  simp only [List.nil_append, List.cons_append, List.set_cons_zero, List.set_cons_succ] at st
  refine jn_in fun J hJ => ?_
  have done : ∀ (n : Nat) (h' : Heap), n = min MS.length stop → Hs [([], h0)] G [cl b1 ty_bool [.bool false], cl b41 ty_int [.int .i64 (n : Int)]] h' → J () h' := by
    intro n h' hn st
    refine hJ _ _ ?_
    rw [st.ldi 1 0 rfl rfl, ld_int (i := 0) (st.fblk 1 g2) rfl, ld_sl (i := 0) (st.fblk 11 g4) rfl, wrap_i64 (by omega) (by omega)]
    have e : ((n : Int) == (if (r.len : Int) < (stop : Int) then (r.len : Int) else (stop : Int))) = true := by
      rw [beq_iff_eq]; split <;> omega
    refine jn_in fun J2 hJ2 => brT e ?_
    refine call_of (dawake_c _) ?_
    rintro _ h20 ⟨rfl, x20⟩
    refine hJ2 _ _ ?_
    refine (st.ext x20).st1 0 0 rfl (by simp) fun h21 st => ?_
    intro h22 hM
    have st := st.marked hM
    simp only [List.set_cons_zero] at st
    rw [st.ldb 0 0 rfl rfl]
    exact hK _ (st.frame (by simp))
  refine st.rangeG (allNx MS) (allGf MS) (allFin MS) (hit (st := st)) (fun _ _ _ _ => rfl)
    (fun pre Bs => pre.length ≤ MS.length ∧ pre.length ≤ stop ∧ Bs = [cl b1 ty_bool [.bool false], cl b41 ty_int [.int .i64 (pre.length : Int)]])
    (fun j Bs => j = .exit 0 ∧ stop ≤ MS.length ∧ Bs = [cl b1 ty_bool [.bool false], cl b41 ty_int [.int .i64 (stop : Int)]]) ⟨Nat.zero_le _, Nat.zero_le _, rfl⟩ ?_ ?_ ?_ ?_
  · rintro pre ⟨x, ⟨⟩⟩ Bs B hb hnx ⟨hps, hpt, rfl⟩ st next jump hnext hjump
    have hlt : pre.length < MS.length := hnx
    have eg : allGf MS pre (x, ()) = ob MS[pre.length] x := by
      show ob (MS.getD pre.length []) x = _
      rw [List.getD_eq_getElem?_getD, List.getElem?_eq_getElem hlt]; rfl
    rw [eg] at st
    simp only [List.nil_append, List.cons_append] at st
    simp only
    have hml := hrow _ (List.getElem_mem hlt)
    rw [st.ldi 1 0 rfl rfl, ld_int (i := 0) (st.fblk 1 g2) rfl, wrap_i64 (show -9223372036854775808 ≤ (stop : Int) by omega) (by omega)]
    by_cases hst : pre.length = stop
    · refine brT (by simp [hst]) (hjump _ _ _ ⟨rfl, by omega, ?_⟩ (st.drop 2 rfl))
      rw [← hst]; rfl
    refine brF (beq_eq_false_iff_ne.2 fun e => hst (Int.ofNat.inj e)) ?_
    rw [st.ldi 1 0 rfl rfl, ld_sl (i := 0) (st.fblk 11 g4) rfl]
    refine jn_in fun J2 hJ2 => brF (show decide ((pre.length : Int) ≥ (r.len : Int)) = false from decide_eq_false (by omega)) ?_
    rw [ld_sl (i := 0) (st.fblk 11 g4) rfl, st.ldi 1 0 rfl rfl]
    refine rdG (lob_llb (st.fz 10 g3)) hlt fun p hp => ?_
    refine call_of (equal_bools (st.own 2 rfl).rsl hp (by omega)) ?_
    rintro _ h5 ⟨er, e⟩; have e' := e.symm; subst e'
    have er : _ = true := er.trans (by simp)
    subst er
    refine hJ2 _ _ (brF rfl ?_)
    have lx := osl_len (st.own 2 rfl)
    refine lfp_invh (I := fun μ σ h' => ∃ (i : Nat) (ys : List Bool), σ = ((i : Int), ()) ∧ i ≤ v ∧ ys.length = v ∧ Hs ((B, hb) :: [([], h0)]) G [cl b1 ty_bool [.bool false], cl b41 ty_int [.int .i64 (pre.length : Int)], ob ys x] h' ∧ μ = v - i)
      ⟨_, 0, _, rfl, by omega, hml, st, rfl⟩ ?_
    clear st
    rintro μ σ h6 X ⟨i, ys, rfl, hi, hys, st, em⟩ hX
    simp only
    by_cases hlt2 : i < v
    · refine brT (show decide ((i : Int) < (x.len : Int)) = true from decide_eq_true (by omega)) ?_
      refine rdE (τ := .bool) (st.own 2 rfl).rsl (show i < ys.length by omega) ?_
      refine st.wrE (τ := .bool) 2 rfl (show i < ys.length by omega) (!ys[i]) fun h7 st => ?_
      simp only [List.set_cons_zero, List.set_cons_succ] at st
      rw [inc_i (by omega)]
      exact hX _ _ _ ⟨i + 1, _, rfl, by omega, by simpa using hys, st, rfl⟩ (by omega)
    · refine brF (show decide ((i : Int) < (x.len : Int)) = false from decide_eq_false (by omega)) ?_
      rw [st.ldi 1 0 rfl rfl, inc_i (by omega)]
      refine st.st1 1 0 rfl (by simp) fun h7 st => ?_
      simp only [List.set_cons_zero, List.set_cons_succ] at st
      refine hnext _ _ ⟨by simp; omega, by simp; omega, ?_⟩ (st.drop 2 rfl)
      rw [List.length_append, List.length_singleton]; rfl
  · rintro pre Bs h3 hfin ⟨hps, hpt, rfl⟩ st
    have hfin : pre.length = MS.length := hfin
    exact done _ _ (by omega) st
  · rintro Bs h3 ⟨hj, _⟩; cases hj
  · rintro i id K' hi hk Bs h' ⟨hj, hle, rfl⟩ st
    match i, hi, hk with
    | 0, hi, hk =>
      simp at hi hk; subst hk
      exact done _ _ (by omega) st
    | i + 1, hi, _ => simp at hi

set_option maxRecDepth 100000 in
set_option maxHeartbeats 1000000 in
theorem dpllModels_F {a1 : Int} (hA : At h (llu l s)) (hu : ∀ c ∈ l, U8 c) (h0 : 0 ≤ a1) (h1 : a1 ≤ 255) (K : Bool → HP) (hK : ∀ x h', (x = true ∧ Ext [] h h') → K x h') : F_salvorlaw19_DpllModels s a1 K h := by
  unfold F_salvorlaw19_DpllModels
  show (nw _ _ _) h
  have st := Hs.start h [llu l s] (by simp [hA])
  have hg := good8 l
  have hlen := good_len hg
  obtain ⟨stop, rfl⟩ := Int.eq_ofNat_of_zero_le h0
  refine st.nw fun b0 h2 st => ?_
  refine st.nw fun b1 h3 st => ?_
  have st := st.freeze 0 rfl
  simp only [List.cons_append, List.nil_append, List.eraseIdx_cons_zero] at st
  refine call_of (lawMade_c (st.fz 0 rfl) hu) ?_
  rintro _ h4 ⟨s', rfl, hn2, x2⟩
  have st := Hs.fzl (st.new x2 hn2)
  refine Hs.frml st fun b3 h5 st => ?_
  simp only [List.cons_append, List.nil_append] at st
  generalize madeF l = M at *
  refine ldF (st.fblk 3 rfl) ?_
  refine Hs.All (n := 8) (cs := M) st (llo_at (st.fz 2 rfl)) hlen.1 hlen.2 (fun hc => absurd (check_good.2 hg) hc) fun hc b s5 h6 st => ?_
  simp only [List.cons_append, List.nil_append] at st
  have st := st.imp 2 (A' := lli M s5) rfl fun S h p => rsg_imp (fun c p S h q => osl_rsl q) (osg_rsg p)
  have st := (st.freeze 1 rfl).freeze 1 rfl
  simp only [List.cons_append, List.nil_append, List.set_cons_zero, List.set_cons_succ, List.eraseIdx_cons_succ, List.eraseIdx_cons_zero] at st
  refine ldF (st.fblk 3 rfl) ?_
  refine Hs.Models (n := 8) (cs := M) st (llo_at (st.fz 2 rfl)) (fun hc' => absurd (check_good.2 hg) hc') (fun _ hn => absurd hn (by decide)) (fun v hv hc0 hv16 bm sq h7 st => ?_)
  have ev : v = 8 := by omega
  subst ev
  simp only [List.cons_append, List.nil_append] at st
  refine ldF (st.fblk 3 rfl) ?_
  have hA0 : Asg 8 [] := Asg.nil
  have hng := ng_good (d := []) hg
  have u2 := underG (c := []) (n := 1000) hg (by decide) hA0 (Nat.le_trans (run_le _ _).2 (by omega))
  have u3 := (run_le (trace 8 M 9 []) 1000).2
  have eA : allL 8 M = modelsF 8 M := allL_eq (v := 8) hg
  rw [run_enough _ _ (by omega), show mods (trace 8 M 9 []) = modelsF 8 M from eA] at u2
  refine call_of (solve_c (n := 8) (fu := ((1000 : Nat) : Int)) (llo_at (st.fz 2 rfl)) hlen.1 hlen.2 (fun _ => by decide)) ?_
  rw [u2]
  clear u2
  generalize (Dp.runT 1000 (trace 8 M 9 [])).2 = gg at *
  rintro _ h8 ⟨s9, rfl, n9, x9⟩
  have st := Hs.fzl (st.new x9 n9)
  refine Hs.ans st fun b10 h9 st => ?_
  simp only [List.cons_append, List.nil_append, addr_add, Nat.zero_add] at st ⊢
  refine jn_in fun J hJ => brF rfl ⟨.inr ⟨_, _, _, rfl⟩, hJ _ _ ?_⟩
  clear J hJ
  refine jn_in fun J hJ => brF rfl ⟨.inr ⟨_, _, _, rfl⟩, hJ _ _ (brF rfl ?_)⟩
  clear J hJ
  have hMl : (modelsF 8 M).length ≤ 256 := by
    have h1 : (modelsF 8 M).length ≤ (Cr.allB 8).length := List.length_filter_le _ _
    rw [Cr.allB_len] at h1
    have e8 : (2 : Nat) ^ 8 = 256 := by decide
    omega
  have hMr : ∀ m ∈ modelsF 8 M, m.length = 8 := fun m hm => (modelsF_row hm).1
  have c1 := collected19_c (h := h9) (MS := modelsF 8 M) (fv := dAllV b) [cF b 8 s5, lli M s5] (by
    intro C hC
    simp only [List.mem_cons, List.not_mem_nil, or_false] at hC
    rcases hC with rfl | rfl
    · exact st.fz 4 rfl
    · exact st.fz 5 rfl) hMl (by
    intro h1 F hG hF
    have := all_iter (v := 8) (cs := M) (s := s5) (b := b) hG hF hg (by decide)
    rw [eA] at this
    exact this)
  refine call_of c1 ?_
  rintro _ h10 ⟨r16, rfl, n10, x10⟩
  have st := Hs.fzl (st.new x10 n10)
  refine st.nw fun b17 h11 st => ?_
  simp only [List.cons_append, List.nil_append] at st
  refine st.st1 1 0 rfl (by simp) fun h12 st => ?_
  simp only [List.set_cons_zero, List.set_cons_succ] at st
  have st := st.freeze 1 rfl
  simp only [List.cons_append, List.nil_append, List.eraseIdx_cons_succ, List.eraseIdx_cons_zero] at st
  have c2 := collected19_c (h := h12) (MS := modelsF 8 M) (fv := modV bm) [cF bm 8 sq, lli M sq] (by
    intro C hC
    simp only [List.mem_cons, List.not_mem_nil, or_false] at hC
    rcases hC with rfl | rfl
    · exact st.fz 6 rfl
    · exact st.fz 7 rfl) hMl (by
    intro h1 F hG hF
    exact models_iter (v := 8) (cs := M) (s := sq) hG hF hg (by decide))
  refine call_of c2 ?_
  rintro _ h13 ⟨r18, rfl, n13, x13⟩
  have st := Hs.fzl (st.new x13 n13)
  simp only [List.cons_append, List.nil_append] at st
  refine brF rfl (brF rfl ?_)
  rw [ld_sl (i := 0) (st.fblk 11 rfl) rfl]
  refine call_of (equalM_c (lob_llb (st.fz 10 rfl)) (lob_llb (st.fz 12 rfl)) (by omega) (fun m hm => by rw [hMr m hm]; decide)) ?_
  rintro _ h14 ⟨rfl, x14⟩
  have st := st.ext x14
  refine brF (by simp) ?_
  have lr := rsg_len (lob_llb (st.fz 10 rfl))
  have l9 := osl_len (st.fz 8 rfl)
  rw [ld_bool (i := 0) (st.fblk 9 rfl) rfl, ld_sl (i := 0) (st.fblk 11 rfl) rfl]
  have tl : MdTl b0 b1 b17 h.size (dAllV b) K h14 := by
    refine MdTl_c (v := 8) (cs := M) (r := r16) (s := s5) st rfl rfl rfl ?_ rfl hg (by decide) (by omega) fun h' x => hK _ _ ⟨rfl, x⟩
    rw [eA]; rfl
  cases eMS : modelsF 8 M with
  | nil =>
    rw [eMS] at st lr l9
    have lr : r16.len = 0 := lr
    have l9 : s9.len = 0 := l9
    refine brF (by rw [lr]; rfl) ?_
    rw [ld_bool (i := 0) (st.fblk 9 rfl) rfl]
    refine brF rfl ?_
    rw [ld_bool (i := 0) (st.fblk 9 rfl) rfl]
    refine brT rfl ?_
    rw [ld_sl (i := 1) (st.fblk 9 rfl) rfl]
    refine brF (by rw [l9]; rfl) ?_
    rw [ld_int (i := 2) (st.fblk 9 rfl) rfl]
    refine brF (decide_eq_false (show ¬ (gg : Int) < 0 by omega)) ?_
    rw [ld_int (i := 2) (st.fblk 9 rfl) rfl]
    refine brF (decide_eq_false (show ¬ (gg : Int) > 510 by omega)) ?_
    exact tl
  | cons m0 rest =>
    rw [eMS] at st lr l9
    refine brF (by rw [lr]; simp) ?_
    rw [ld_bool (i := 0) (st.fblk 9 rfl) rfl]
    refine brT rfl ?_
    rw [ld_sl (i := 1) (st.fblk 9 rfl) rfl, ld_sl (i := 0) (st.fblk 11 rfl) rfl]
    refine rdG (i := 0) (lob_llb (st.fz 10 rfl)) (by simp) fun p hp => ?_
    have hm8 := hMr m0 (by rw [eMS]; simp)
    refine call_of (equal_bools (st.fz 8 rfl).rsl hp (by show m0.length ≤ _; omega)) ?_
    rintro _ h15 ⟨er, e⟩; subst e
    have er : _ = true := er.trans (by simp)
    subst er
    refine brF rfl ?_
    rw [ld_bool (i := 0) (st.fblk 9 rfl) rfl]
    refine brF rfl ?_
    rw [ld_int (i := 2) (st.fblk 9 rfl) rfl]
    refine brF (decide_eq_false (show ¬ (gg : Int) < 0 by omega)) ?_
    rw [ld_int (i := 2) (st.fblk 9 rfl) rfl]
    refine brF (decide_eq_false (show ¬ (gg : Int) > 510 by omega)) ?_
    exact tl

end Go.Proofs.S
