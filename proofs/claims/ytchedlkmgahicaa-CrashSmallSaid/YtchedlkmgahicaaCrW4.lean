/-
  CrashWrites, walked.
-/
import Derived.Test.YtchedlkmgahicaaCrW3
import Derived.Test.YtchedlkmgahicaaCrP
import Derived.Test.YtchedlkmgahicaaSxWn
set_option linter.unusedVariables false
set_option linter.unusedSimpArgs false
namespace Go.Proofs.S
open Go Go.Sx Go.Proofs Go.Cr Go.Cl

variable {h : Heap} {l a b : List Ent} {k k2 : List Bool} {m m2 : List Int} {s s2 s3 : Sl} {fr : Fr} {G As : List Asn}

theorem insC_le {α : Type} (c : α → α → Int) (x : α) : ∀ L : List α, (insC c x L).length ≤ L.length + 1
  | [] => by simp [insC]
  | y :: L => by
    have := insC_le c x L
    unfold insC
    split
    · simp
    · split
      · simp
      · simp only [List.length_cons]; omega
theorem sortC_le {α : Type} (c : α → α → Int) (L : List α) : (sortC c L).length ≤ L.length := by
  have key : ∀ (L N : List α), (L.foldl (fun N x => insC c x N) N).length ≤ N.length + L.length := by
    intro L
    induction L with
    | nil => intro N; simp
    | cons x L ih =>
      intro N
      have h1 := ih (insC c x N)
      have h2 := insC_le c x N
      simp only [List.foldl_cons, List.length_cons]; omega
  have := key L []
  simpa [sortC] using this
theorem resL_le (m : List Int) (l : List Ent) : (Cr.resL m l).length ≤ (valids l).length := by
  have := sortC_le cmpW ((valids l).map (applyP m l))
  rw [List.length_map] at this; exact this

theorem callF_eq {P : Program} {g : FuncId} {args : Array Value} {τ : Ty} {K : τ.T → HP} : callF P (.func (.func g) #[] #[]) args τ K = callT P g args τ K := by
  funext h
  have : applyV (.func (.func g) #[] #[]) args = callFunc g args := by
    simp [applyV, Deferred.ofValue, invoke, bind, Sem.bind, pure]
  unfold callF callT CallV CallsH
  rw [this]
theorem compare_word (hA : At h (lw m s)) (hB : At h (lw m2 s2)) (hl : m.length ≤ 1099511627776) :
    callT Try.prog fn_slices_Compare_bitword_Word_bitword_Word #[.slice s.a s.len s.cap, .slice s2.a s2.len s2.cap] (.int .i64) (fun r h' => r = cmpW m m2 ∧ Ext [] h h') h := by
  refine callT_gen fun K hK => S_slices_Compare_bitword_Word_bitword_Word (a0 := s) (a1 := s2) K ?_
  have := w_compareFunc (P := Try.prog) (τ := u32) (c := cmpI) (fv := .func (.func fn_cmp_Compare_bitword_Word) #[] #[]) hA hB hl (fun x _ y _ h' _ => callF_of (cmpF_word x y) fun r h2 ⟨e, e2⟩ => ⟨e, by rw [e2]; exact Ext.refl' _ _⟩) (K := K) fun h' x => hK _ _ ⟨rfl, x⟩
  simp only [W_compareFunc, callF_eq] at this
  exact this

abbrev cW (b : Nat) (s : Sl) : Asn := cl b ty_sl_sl_bitword_Word [.slice s.a s.len s.cap]
theorem has11_c {b0 : Nat} (kb : Blk h b0 ty_sl_bitword_Word [.slice s.a s.len s.cap]) (hA : At h (lw m s)) (hB : At h (lw m2 s2)) (hl : m.length ≤ 1099511627776) :
    callT Try.prog fn_salvorlaw35_CrashWrites_1i1 #[.slice s2.a s2.len s2.cap, .pointer (some ⟨b0, 0, none⟩)] .bool (fun r h' => r = decide (m = m2) ∧ h' = h) h := by
  refine callT_gen fun K hK => S_salvorlaw35_CrashWrites_1i1 (a0 := s2) (c0 := ⟨b0, 0, none⟩) K ?_
  unfold F_salvorlaw35_CrashWrites_1i1
  rw [ld_sl (i := 0) kb rfl]
  refine call_of (equal_word hA hB hl) ?_
  rintro _ hq ⟨rfl, rfl⟩
  exact hK _ _ ⟨rfl, rfl⟩
theorem has_c {b12 : Nat} {R : List (List Int)} {sr : Sl} (st : Hs fr G As h) (gb gr : Nat) (hgb : G[gb]? = some (cW b12 sr)) (hgr : G[gr]? = some (lg R sr)) (hR : R.length ≤ 1099511627776) (hA : At h (lw m s)) (hl : m.length ≤ 1099511627776) :
    callF Try.prog (.func (.func fn_salvorlaw35_CrashWrites_1) #[] #[.pointer (some ⟨b12, 0, none⟩)]) #[.slice s.a s.len s.cap] .bool (fun r h' => r = R.any (fun y => decide (m = y)) ∧ Ext [] h h') h := by
  refine callF_func (callT_gen fun K hK => S_salvorlaw35_CrashWrites_1 (a0 := s) (c0 := ⟨b12, 0, none⟩) K ?_)
  unfold F_salvorlaw35_CrashWrites_1
  refine st.nwX fun b0 h1 x1 st => ?_
  have hA := hA.ext x1
  rw [ld_sl (i := 0) (st.fblk gb hgb) rfl]
  refine call_of (R := fun r h' => r = R.any (fun y => decide (m = y)) ∧ Ext [] h1 h') ?_ fun r h2 ⟨e, x2⟩ => hK _ _ ⟨e, x1.nil_trans x2⟩
  have kb : Blk h1 b0 ty_sl_bitword_Word [.slice s.a s.len s.cap] := st.blk As.length (lastA _ _)
  refine callT_gen fun K hK => S_slices_ContainsFunc_bitword_Word_bitword_Word (a0 := sr) (a1 := .func (.func fn_salvorlaw35_CrashWrites_1i1) #[] #[.pointer (some ⟨b0, 0, none⟩)]) K ?_
  unfold F_slices_ContainsFunc_bitword_Word_bitword_Word
  refine call_of (R := fun r h' => r = fidx (fun y => decide (m = y)) R ∧ Ext [] h1 h') ?_ fun r h2 ⟨e, x2⟩ => hK _ _ ⟨?_, x2⟩
  · refine callT_gen fun K hK => S_slices_IndexFunc_bitword_Word_bitword_Word (a0 := sr) (a1 := .func (.func fn_salvorlaw35_CrashWrites_1i1) #[] #[.pointer (some ⟨b0, 0, none⟩)]) K ?_
    refine w_indexFuncG (p := fun y => decide (m = y)) (st.fz gr hgr) hR (fun x _ q h' x' hq => ?_) fun h' x' => hK _ _ ⟨rfl, x'⟩
    exact callF_func (call_of (has11_c (kb.ext x' (by simp)) (hA.ext x') hq.rsl hl) fun r h2 ⟨e, e2⟩ => ⟨e, by rw [e2]; exact Ext.refl' _ _⟩)
  · have e : r = fidx (fun y => decide (m = y)) R := e
    rw [e]; exact fidx_ge _ _

theorem wrote_c {b1 b2 : Nat} {i w : Int} (k1 : Blk h b1 ty_int [.int .i64 i]) (k2 : Blk h b2 ty_bitword_Word [.int .u32 w]) (x : Ent) :
    callT Try.prog fn_salvorlaw35_CrashWrites_2 #[.agg #[.int .i64 x.1, .int .u32 x.2.1, .int .i64 x.2.2.1], .pointer (some ⟨b1, 0, none⟩), .pointer (some ⟨b2, 0, none⟩)] .bool (fun r h' => r = (x.1 == i && x.2.1 == w) ∧ Ext [] h h') h := by
  refine callT_gen fun K hK => S_salvorlaw35_CrashWrites_2 (a0 := x) (c0 := ⟨b1, 0, none⟩) (c1 := ⟨b2, 0, none⟩) K ?_
  unfold F_salvorlaw35_CrashWrites_2
  have st := Hs.start h [] (by simp)
  refine st.nwX fun b0 h1 x1 st => ?_
  simp only [addr_add, Nat.zero_add]
  rw [st.ldi 0 0 rfl rfl, ld_int (i := 0) (k1.ext x1 (by simp)) rfl]
  cases he : x.1 == i with
  | true =>
    rw [brB_true, st.ldi 0 1 rfl rfl, ld_int (i := 0) (k2.ext x1 (by simp)) rfl]
    exact hK _ _ ⟨by simp [he], x1⟩
  | false => rw [brB_false]; exact hK _ _ ⟨by simp [he], x1⟩

theorem crashWrites_F {f0 f1 f2 : Int} {c c3 c4 : List Int} {u : Nat} {s1 s3 s4 : Sl} (hA : At h (lu c s1)) (hA3 : At h (lu c3 s3)) (hA4 : At h (lu c4 s4)) (hu : U8 c) (hu3 : U8 c3) (hu4 : U8 c4) (huu : u ≤ 255)
    (K : Bool → HP) (hK : ∀ x h', (x = true ∧ Ext [] h h') → K x h') : F_salvorlaw35_CrashWrites (f0, f1, f2, ()) s1 u s3 s4 K h := by
  unfold F_salvorlaw35_CrashWrites
  have st := Hs.start h [lu c s1, lu c3 s3, lu c4 s4] (by simp [hA, hA3, hA4])
  refine st.nw fun b0 h1 st => ?_
  refine call_of awake_c ?_
  rintro _ h2 ⟨rfl, x2⟩
  have st := st.ext x2
  simp only [Bool.not_true, brB_false]
  refine call_of (made_c (most := 9) (st.fz 0 rfl) hu (by decide)) ?_
  rintro r2 h3 ⟨n3, x3⟩
  have st := st.new x3 n3
  simp only [List.nil_append, List.cons_append] at st
  have st := (st.imp 1 rfl (A' := le (madeL c 9) r2) fun S h q => osn_rsn wideE q).freeze 1 rfl
  simp only [List.nil_append, List.cons_append, List.set_cons_zero, List.set_cons_succ, List.eraseIdx_cons_zero, List.eraseIdx_cons_succ] at st
  have hr := madeL_right hu (most := 9) (by decide)
  have hlen : (madeL c 9).length ≤ 9 := by rw [madeL_len]; omega
  have hme := madeL_mem (most := 9) hu
  clear n3
  generalize madeL c 9 = l at *
  have hm := right_mono hr
  have hvl := Nat.le_trans (valids_le l) (Nat.pow_le_pow_right (by decide) hlen)
  have e9 : (2 : Nat) ^ 9 = 512 := by decide
  rw [e9] at hvl
  refine ⟨by decide, by decide, ?_⟩
  simp only [addr_add, Int.toNat_zero, Nat.zero_mul, Nat.add_zero, Nat.zero_add]
  rw [st.ldi 0 0 rfl rfl]
  refine ⟨by decide, by decide, ?_⟩
  show (ldT (.int .u8) ((⟨b0, 0, none⟩ : Addr).add (1 * 1)) _) h3
  rw [addr_add, st.ldi 0 1 rfl rfl]
  refine ⟨by decide, by decide, ?_⟩
  show (ldT (.int .u8) ((⟨b0, 0, none⟩ : Addr).add (2 * 1)) _) h3
  rw [addr_add, st.ldi 0 2 rfl rfl]
  have st := st.drop 0 rfl
  simp only [List.eraseIdx_cons_zero] at st
  generalize hv0 : IntKind.wrap .u32 (bAnd .u8 f0 (15 : Int)) = v0
  generalize hv1 : IntKind.wrap .u32 (bAnd .u8 f1 (15 : Int)) = v1
  generalize hv2 : IntKind.wrap .u32 (bAnd .u8 f2 (15 : Int)) = v2
  refine st.nw fun b9 h4 st => ?_
  obtain ⟨kept, hkept⟩ : ∃ kept : List Int, kept = [v0, v1, v2] := ⟨_, rfl⟩
  have hkl : kept.length = 3 := by rw [hkept]; rfl
  have st := (st.asSl 0 u32.enc kept rfl (by rw [hkept]; rfl)).freeze 0 rfl
  simp only [List.nil_append, List.cons_append, List.set_cons_zero, List.eraseIdx_cons_zero] at st
  rw [hkl] at st
  clear hkept hv0 hv1 hv2
  refine call_of (mades_c (st.fz 3 rfl) (st.fz 1 rfl) hu3 huu (by omega)) ?_
  rintro r10 h5 ⟨n5, x5⟩
  have st := (st.new x5 n5).freeze 0 rfl
  simp only [List.nil_append, List.cons_append, List.eraseIdx_cons_zero] at st
  have hk := madeS_len l u c3
  have hv := madeS_valid hm u c3
  clear n5
  generalize madeS l u c3 = k at *
  have hfit : fitsP 3 l = true := by
    unfold fitsP
    simp only [Bool.not_eq_true', List.any_eq_false, decide_eq_true_eq]
    intro x hx
    have := hme x hx
    show ¬ x.1 ≥ ((3 : Nat) : Int)
    omega
  have hcnt : ¬ cntP l > 4096 := by unfold cntP; omega
  refine call_of (results_c (m := kept) (st.fz 3 rfl) (st.fz 4 rfl).rsl (by omega) (by omega)) ?_
  rintro r h6 ⟨r11, er, n6, x6⟩
  have e6 : resP kept l = (Cr.resL kept l, 0) := by
    unfold resP
    rw [if_pos hr, hkl, if_pos hfit, if_neg hcnt]
  rw [e6] at er n6
  subst er
  obtain ⟨hR1, hR2⟩ := resL_spec kept l
  have hRl : (Cr.resL kept l).length ≤ 1048576 := by
    have := resL_le kept l
    omega
  have st := (st.new x6 n6).freeze 0 rfl
  simp only [List.nil_append, List.cons_append, List.eraseIdx_cons_zero] at st
  refine st.nw fun b12 h7 st => ?_
  simp only [List.nil_append, List.cons_append] at st
  refine st.st1 0 0 rfl (by simp) fun h8 st => ?_
  have st := st.freeze 0 rfl
  simp only [List.nil_append, List.cons_append, List.set_cons_zero, List.eraseIdx_cons_zero] at st
  refine call_of (Apply_c (m := kept) (k := k) (st.fz 3 rfl) (st.fz 5 rfl).rsl (st.fz 4 rfl).rsl (by omega) (by omega)) ?_
  rintro r h9 ⟨r13, er, n9, x9⟩
  have e9b : applyC kept l k = (applyP kept l k, 0) := by
    unfold applyC
    have : checkC l k = 0 := by simp [checkC, hr, hk]
    rw [if_pos this, hkl, if_pos hfit]
  rw [e9b] at er n9
  subst er
  have st := (st.new x9 n9).freeze 0 rfl
  simp only [List.nil_append, List.cons_append, List.eraseIdx_cons_zero] at st
  change brB false _ _ _
  rw [brB_false]
  have l13 : r13.len = 3 := by rw [osl_len (st.fz 8 rfl), applyP_len]; exact hkl
  rw [show ((r13.len : Int) != 3) = false by rw [l13]; rfl, brB_false]
  have l2 := rsn_len (st.fz 3 rfl)
  have l10 := osl_len (st.fz 5 rfl)
  have hpair : l.Pairwise (fun x y => x.2.2.1 ≤ y.2.2.1) := by
    simp only [rightL, Bool.and_eq_true] at hr; exact rightGo_pair hr.1
  -- the last epoch
  refine lfp_invh (I := fun μ σ h' => ∃ i : Nat, σ = ((i : Int), topGo (-1) (l.take i) (k.take i), ()) ∧ i ≤ l.length ∧ Hs [([], h)] [lu c s1, lu c3 s3, lu c4 s4, le l r2, ow kept ⟨some ⟨b9, 0, none⟩, 3, 3⟩, ob k r10, lg (Cr.resL kept l) r11, cW b12 r11, ow (applyP kept l k) r13] [] h' ∧ μ = l.length - i)
    ⟨_, 0, rfl, by omega, st, rfl⟩ ?_
  clear st
  rintro μ σ h10 X ⟨i, rfl, hi, st, em⟩ hX
  simp only
  by_cases hlt : i < l.length
  · rw [decide_eq_true (show (i : Int) < (r2.len : Int) by omega), brB_true, inc_i (show i < 4611686018427387904 by omega)]
    refine Hs.rdEnt st (st.fz 3 rfl) hlt fun b18 h11 st => ?_
    try simp only [addr_add, Nat.zero_add]
    refine rdE (τ := .bool) (st.fz 5 rfl).rsl (show i < k.length by omega) ?_
    rw [← K_get (show i < k.length by omega)]
    refine jn_in fun J hJ => ?_
    have fin : ∀ v, v = topGo (-1) (l.take (i + 1)) (k.take (i + 1)) → J (v, ()) h11 := by
      rintro v rfl
      exact hJ _ _ (hX _ _ _ ⟨i + 1, rfl, by omega, st.drop 0 rfl, rfl⟩ (by omega))
    rw [top_step hlt hk] at fin
    cases hki : Cr.K k i with
    | true =>
      rw [brB_true, st.ldi 0 2 rfl rfl]
      exact fin _ (by rw [if_pos hki])
    | false =>
      rw [brB_false]
      exact fin _ (by rw [if_neg (by simp [hki])])
  rw [decide_eq_false (show ¬ (i : Int) < (r2.len : Int) by omega), brB_false]
  rw [List.take_of_length_le (show l.length ≤ i by omega), List.take_of_length_le (show k.length ≤ i by omega)]
  clear hX hlt hi em X
  obtain ⟨T, hT⟩ : ∃ T, T = topGo (-1) l k := ⟨_, rfl⟩
  rw [← hT]
  -- those of it, and the others
  have hsl : ∀ i, (sel (l.take i) (k.take i)).length ≤ i := by
    have key : ∀ (l : List Ent) (k : List Bool), (sel l k).length ≤ l.length := by
      intro l
      induction l with
      | nil => intro k; simp [sel]
      | cons x l ih =>
        intro k
        cases k with
        | nil => simp [sel]
        | cons b k =>
          have := ih k
          cases b with
          | true => show (x :: sel l k).length ≤ _; simp only [List.length_cons]; omega
          | false => show (sel l k).length ≤ _; simp only [List.length_cons]; omega
    intro i
    have := key (l.take i) (k.take i)
    rw [List.length_take] at this; omega
  have st := ((st.niln ty_disk_Entry 3 tE.vals none).niln ty_disk_Entry 3 tE.vals none)
  refine lfp_invh (I := fun μ σ h' => ∃ (i : Nat) (sL sS : Sl), σ = ((i : Int), sL, sS, ()) ∧ i ≤ l.length ∧ Hs [([], h)] [lu c s1, lu c3 s3, lu c4 s4, le l r2, ow kept ⟨some ⟨b9, 0, none⟩, 3, 3⟩, ob k r10, lg (Cr.resL kept l) r11, cW b12 r11, ow (applyP kept l k) r13]
      [oe ((sel (l.take i) (k.take i)).filter fun x => decide (x.2.2.1 < T)) sS, oe ((sel (l.take i) (k.take i)).filter fun x => !decide (x.2.2.1 < T)) sL] h' ∧ μ = l.length - i)
    ⟨_, 0, ⟨none, 0, 0⟩, ⟨none, 0, 0⟩, rfl, by omega, st, rfl⟩ ?_
  clear st
  rintro μ σ h11 X ⟨i, sL, sS, rfl, hi, st, em⟩ hX
  simp only
  have ll1 := Nat.le_trans (List.length_filter_le (fun x : Ent => decide (x.2.2.1 < T)) (sel (l.take i) (k.take i))) (hsl i)
  have ll2 := Nat.le_trans (List.length_filter_le (fun x : Ent => !decide (x.2.2.1 < T)) (sel (l.take i) (k.take i))) (hsl i)
  by_cases hlt : i < l.length
  · rw [decide_eq_true (show (i : Int) < (r2.len : Int) by omega), brB_true, inc_i (show i < 4611686018427387904 by omega)]
    refine Hs.rdEnt st (st.fz 3 rfl) hlt fun b28 h12 st => ?_
    simp only [addr_add, Nat.zero_add, List.nil_append, List.cons_append] at st ⊢
    have rdk : ∀ {h' : Heap} {As : List Asn} {K1 : Bool → HP}, Hs [([], h)] [lu c s1, lu c3 s3, lu c4 s4, le l r2, ow kept ⟨some ⟨b9, 0, none⟩, 3, 3⟩, ob k r10, lg (Cr.resL kept l) r11, cW b12 r11, ow (applyP kept l k) r13] As h' → K1 (Cr.K k i) h' → sx r10.a r10.len (i : Int) 1 (fun p => ldT .bool p K1) h' := fun st hk2 =>
      rdE (τ := .bool) (st.fz 5 rfl).rsl (show i < k.length by omega) (by rw [← K_get (show i < k.length by omega)]; exact hk2)
    have fin : ∀ (sL sS : Sl) (h' : Heap), Hs [([], h)] [lu c s1, lu c3 s3, lu c4 s4, le l r2, ow kept ⟨some ⟨b9, 0, none⟩, 3, 3⟩, ob k r10, lg (Cr.resL kept l) r11, cW b12 r11, ow (applyP kept l k) r13]
        [oe ((sel (l.take (i + 1)) (k.take (i + 1))).filter fun x => decide (x.2.2.1 < T)) sS, oe ((sel (l.take (i + 1)) (k.take (i + 1))).filter fun x => !decide (x.2.2.1 < T)) sL] h' → X (((i + 1 : Nat) : Int), sL, sS, ()) h' := fun sL sS h' st =>
      hX _ _ _ ⟨i + 1, sL, sS, rfl, by omega, st, rfl⟩ (by omega)
    rw [sel_step hlt hk, List.filter_append, List.filter_append] at fin
    refine rdk st ?_
    cases hki : Cr.K k i with
    | true =>
      rw [if_pos hki] at fin
      rw [brB_true, st.ldi 2 2 rfl rfl]
      refine jn_in fun J hJ => ?_
      by_cases hT2 : l[i].2.2.1 < T
      · rw [decide_eq_true hT2, brB_true]
        rw [show [l[i]].filter (fun x : Ent => decide (x.2.2.1 < T)) = [l[i]] by simp [hT2], show [l[i]].filter (fun x : Ent => !decide (x.2.2.1 < T)) = [] by simp [hT2], List.append_nil] at fin
        refine ldRow (τ := tE) (x := l[i]) (st.blk 2 rfl) ?_
        refine st.nw fun b35 h13 st => ?_
        simp only [List.nil_append, List.cons_append] at st
        refine Hs.apdN (v := l[i]) st wideE (by decide) 0 3 rfl rfl (by decide) (leafE _) (by omega) (by decide) rfl fun s36 h14 st => ?_
        exact hJ _ _ (fin _ _ _ ((st.drop 3 rfl).drop 2 rfl))
      · rw [decide_eq_false hT2, brB_false]
        rw [show [l[i]].filter (fun x : Ent => decide (x.2.2.1 < T)) = [] by simp [hT2], show [l[i]].filter (fun x : Ent => !decide (x.2.2.1 < T)) = [l[i]] by simp [hT2], List.append_nil] at fin
        refine rdk st ?_
        refine jn_in fun J2 hJ2 => ?_
        rw [hki, brB_true]
        refine ldRow (τ := tE) (x := l[i]) (st.blk 2 rfl) ?_
        refine st.nw fun b42 h13 st => ?_
        simp only [List.nil_append, List.cons_append] at st
        refine Hs.apdN (v := l[i]) st wideE (by decide) 1 3 rfl rfl (by decide) (leafE _) (by omega) (by decide) rfl fun s43 h14 st => ?_
        exact hJ2 _ _ (hJ _ _ (fin _ _ _ ((st.drop 3 rfl).drop 2 rfl)))
    | false =>
      rw [if_neg (by simp [hki]), List.filter_nil, List.filter_nil, List.append_nil, List.append_nil] at fin
      rw [brB_false]
      refine jn_in fun J hJ => ?_
      refine rdk st ?_
      refine jn_in fun J2 hJ2 => ?_
      rw [hki, brB_false]
      exact hJ2 _ _ (hJ _ _ (fin _ _ _ (st.drop 2 rfl)))
  rw [decide_eq_false (show ¬ (i : Int) < (r2.len : Int) by omega), brB_false]
  rw [List.take_of_length_le (show l.length ≤ i by omega), List.take_of_length_le (show k.length ≤ i by omega)] at st ll1 ll2
  clear hX hlt em X
  have hperm := fun (L : List Ent) => perm_result hr hk hv (fun x hx => (hme x hx).2.2.2.2.1) kept (k := k) (L := L)
  rw [← hT] at hperm
  have hbs : ∀ x ∈ sel l k, 0 ≤ x.1 ∧ x.1 < 3 := by
    have key : ∀ (l : List Ent) (k : List Bool) (x : Ent), x ∈ sel l k → x ∈ l := by
      intro l
      induction l with
      | nil => intro k x h; simp [sel] at h
      | cons y l ih =>
        intro k x h
        cases k with
        | nil => simp [sel] at h
        | cons b k =>
          cases b with
          | true =>
            rcases List.mem_cons.1 (show x ∈ y :: sel l k from h) with rfl | h
            · simp
            · exact List.mem_cons_of_mem _ (ih k x h)
          | false => exact List.mem_cons_of_mem _ (ih k x h)
    intro x hx
    have := hme x (key l k x hx)
    exact ⟨this.1, this.2.1⟩
  have hb1 : ∀ x ∈ (sel l k).filter (fun x => decide (x.2.2.1 < T)), 0 ≤ x.1 ∧ x.1 < 3 := fun x hx => hbs x (List.mem_filter.1 hx).1
  have hb2 : ∀ x ∈ (sel l k).filter (fun x => !decide (x.2.2.1 < T)), 0 ≤ x.1 ∧ x.1 < 3 := fun x hx => hbs x (List.mem_filter.1 hx).1
  generalize hso : (sel l k).filter (fun x => decide (x.2.2.1 < T)) = so at *
  generalize hla : (sel l k).filter (fun x => !decide (x.2.2.1 < T)) = la at *
  clear hso hla hbs
  -- another order
  refine lfp_invh (I := fun μ σ h' => ∃ (j : Nat) (L : List Ent), σ = ((j : Int), ()) ∧ j ≤ la.length ∧ L.Perm la ∧ Hs [([], h)] [lu c s1, lu c3 s3, lu c4 s4, le l r2, ow kept ⟨some ⟨b9, 0, none⟩, 3, 3⟩, ob k r10, lg (Cr.resL kept l) r11, cW b12 r11, ow (applyP kept l k) r13] [oe so sS, oe L sL] h' ∧ μ = la.length - j)
    ⟨_, 0, la, rfl, by omega, List.Perm.refl _, st, rfl⟩ ?_
  clear st
  rintro μ σ h12 X ⟨j, L, rfl, hj, hp, st, em⟩ hX
  have lL := osn_len (st.own 1 rfl)
  have lp := hp.length_eq
  simp only
  by_cases hlt : j < la.length
  · rw [decide_eq_true (show (j : Int) < (sL.len : Int) by omega), brB_true, inc_i (show j < 4611686018427387904 by omega)]
    refine jn_in fun J hJ => ?_
    have fin : ∀ (L' : List Ent) (h' : Heap), L'.Perm la → Hs [([], h)] [lu c s1, lu c3 s3, lu c4 s4, le l r2, ow kept ⟨some ⟨b9, 0, none⟩, 3, 3⟩, ob k r10, lg (Cr.resL kept l) r11, cW b12 r11, ow (applyP kept l k) r13] [oe so sS, oe L' sL] h' → J () h' := fun L' h' hp' st =>
      hJ _ _ (hX _ _ _ ⟨j + 1, L', rfl, by omega, hp', st, rfl⟩ (by omega))
    have l4 := rsl_len (st.fz 2 rfl)
    by_cases hjo : j < c4.length
    · rw [decide_eq_true (show (j : Int) < (s4.len : Int) by omega), brB_true]
      refine rdE (τ := .int .u8) (st.fz 2 rfl) hjo ?_
      obtain ⟨g0, g1⟩ := hu4 _ (List.getElem_mem hjo)
      obtain ⟨n, hn⟩ := Int.eq_ofNat_of_zero_le g0
      refine ⟨by omega, ?_⟩
      have e : Int.tmod (IntKind.wrap .i64 c4[j]) (sL.len : Int) = ((n % la.length : Nat) : Int) := by
        rw [hn, wrap_i64 (by omega) (by omega), Int.tmod_eq_emod_of_nonneg (by omega), lL, lp]; exact (Int.natCast_emod _ _).symm
      rw [e]
      have hq : n % la.length < L.length := by rw [lp]; exact Nat.mod_lt _ (by omega)
      have hjL : j < L.length := by omega
      refine rdN (τ := tE) ((st.own 1 rfl).rsn wideE) hq ?_
      refine rdN (τ := tE) ((st.own 1 rfl).rsn wideE) hjL ?_
      refine st.wr3 wideE 1 rfl hjL L[n % la.length] rfl fun h13 st => ?_
      simp only [List.set_cons_zero, List.set_cons_succ] at st
      refine st.wr3 wideE 1 rfl (show n % la.length < (L.set j L[n % la.length]).length by simpa using hq) L[j] rfl fun h14 st => ?_
      simp only [List.set_cons_zero, List.set_cons_succ] at st
      exact fin _ _ ((perm_swap hjL hq).trans hp) st
    · rw [decide_eq_false (show ¬ (j : Int) < (s4.len : Int) by omega), brB_false]
      exact fin L _ hp st
  rw [decide_eq_false (show ¬ (j : Int) < (sL.len : Int) by omega), brB_false]
  clear hX hlt em X hj
  refine Hs.clone_word (s := ⟨some ⟨b9, 0, none⟩, 3, 3⟩) st (st.fz 4 rfl).rsl (by omega) fun r65 h13 st => ?_
  simp only [List.nil_append, List.cons_append] at st
  refine Hs.apdNS (xs := so) (ys := L) (s2 := sL) st wideE (by decide) 0 rfl ((st.own 1 rfl).rsn wideE) leafE (by omega) (by decide) rfl fun s66 h14 st => ?_
  simp only [List.set_cons_zero] at st
  have hbL : ∀ x ∈ so ++ L, 0 ≤ x.1 ∧ x.1 < 3 := fun x hx => (List.mem_append.1 hx).elim (hb1 x) fun hx => hb2 x (hp.mem_iff.1 hx)
  have lsl : (so ++ L).length ≤ 100 := by rw [List.length_append]; omega
  have l66 := osn_len (st.own 0 rfl)
  obtain ⟨kq, hkq1, hkq2⟩ := hperm L hp
  generalize so ++ L = W at *
  refine lfp_invh (I := fun μ σ h' => ∃ j : Nat, σ = ((j : Int), ()) ∧ j ≤ W.length ∧ Hs [([], h)] [lu c s1, lu c3 s3, lu c4 s4, le l r2, ow kept ⟨some ⟨b9, 0, none⟩, 3, 3⟩, ob k r10, lg (Cr.resL kept l) r11, cW b12 r11, ow (applyP kept l k) r13] [oe W s66, oe L sL, ow (writes kept (W.take j)) r65] h' ∧ μ = W.length - j)
    ⟨_, 0, rfl, by omega, st, rfl⟩ ?_
  clear st
  rintro μ σ h15 X ⟨j, rfl, hj, st, em⟩ hX
  simp only
  by_cases hlt : j < W.length
  · rw [decide_eq_true (show (j : Int) < (s66.len : Int) by omega), brB_true, inc_i (show j < 4611686018427387904 by omega)]
    refine Hs.rdEnt st ((st.own 0 rfl).rsn wideE) hlt fun b71 h16 st => ?_
    simp only [addr_add, Nat.zero_add, List.nil_append, List.cons_append] at st ⊢
    rw [st.ldi 3 0 rfl rfl, st.ldi 3 1 rfl rfl]
    have hb := hbL _ (List.getElem_mem hlt)
    have e : W[j].1 = ((W[j].1.toNat : Nat) : Int) := by omega
    rw [e]
    refine st.wrE (τ := u32) 2 rfl (show W[j].1.toNat < (writes kept (W.take j)).length by rw [writes_len]; omega) _ fun h17 st => ?_
    refine hX _ _ _ ⟨j + 1, rfl, by omega, ?_, rfl⟩ (by omega)
    have st := st.drop 3 rfl
    rw [take_succ_getE hlt, writes_snoc]; exact st
  rw [decide_eq_false (show ¬ (j : Int) < (s66.len : Int) by omega), brB_false]
  rw [List.take_of_length_le (show W.length ≤ j by omega)] at st
  clear hX hlt em X hj
  have st := (((st.drop 1 rfl).drop 0 rfl).freeze 0 rfl)
  simp only [List.nil_append, List.cons_append, List.eraseIdx_cons_zero, List.eraseIdx_cons_succ] at st
  have anyt : ∀ x : List Int, x ∈ Cr.resL kept l → (Cr.resL kept l).any (fun y => decide (x = y)) = true := fun x hx => List.any_eq_true.2 ⟨x, hx, by simp⟩
  have hRl2 : (Cr.resL kept l).length ≤ 1099511627776 := by omega
  have hap : (applyP kept l k).length ≤ 1099511627776 := by rw [applyP_len]; omega
  have hwl : (writes kept W).length ≤ 1099511627776 := by rw [writes_len]; omega
  refine callF_of (has_c st 7 6 rfl rfl hRl2 (st.fz 8 rfl).rsl hap) ?_
  rintro r h16 ⟨er, x16⟩
  have er : r = true := er.trans (anyt _ ((hR2 _).2 ⟨k, mem_valids.2 ⟨hk, vld_iff.2 hv⟩, rfl⟩))
  subst er
  have st := st.ext x16
  simp only [Bool.not_true, brB_false]
  refine callF_of (has_c st 7 6 rfl rfl hRl2 (st.fz 9 rfl).rsl hwl) ?_
  rintro r h17 ⟨er, x17⟩
  have er : r = true := er.trans (anyt _ ((hR2 _).2 ⟨kq, hkq1, hkq2⟩))
  subst er
  have st := st.ext x17
  simp only [Bool.not_true, brB_false]
  refine callF_of (has_c (s := ⟨some ⟨b9, 0, none⟩, 3, 3⟩) st 7 6 rfl rfl hRl2 (st.fz 4 rfl).rsl (by omega)) ?_
  rintro r h18 ⟨er, x18⟩
  have hnone : applyP kept l (List.replicate l.length false) = kept := by
    have : ∀ (l : List Ent) (m : List Int), applyP m l (List.replicate l.length false) = m := by
      intro l
      induction l with
      | nil => intro m; rfl
      | cons x l ih => intro m; exact ih m
    exact this l kept
  have er : r = true := er.trans (anyt _ ((hR2 _).2 ⟨_, mem_valids.2 ⟨by simp, vld_iff.2 (none_valid l)⟩, hnone⟩))
  subst er
  have st := st.ext x18
  simp only [Bool.not_true, brB_false]
  rw [ld_sl (i := 0) (st.fblk 7 rfl) rfl]
  have lR := rsg_len (st.fz 6 rfl)
  -- each of the results
  refine lfp_invh (I := fun μ σ h' => ∃ i : Nat, σ = ((i : Int), false, ()) ∧ i ≤ (Cr.resL kept l).length ∧ Hs [([], h)] [lu c s1, lu c3 s3, lu c4 s4, le l r2, ow kept ⟨some ⟨b9, 0, none⟩, 3, 3⟩, ob k r10, lg (Cr.resL kept l) r11, cW b12 r11, ow (applyP kept l k) r13, ow (writes kept W) r65] [] h' ∧ μ = (Cr.resL kept l).length - i)
    ⟨_, 0, rfl, by omega, st, rfl⟩ ?_
  clear st
  rintro μ σ h19 X ⟨i, rfl, hi, st, em⟩ hX
  simp only
  by_cases hlt : i < (Cr.resL kept l).length
  · rw [decide_eq_true (show (i : Int) < (r11.len : Int) by omega), brB_true, inc_i (show i < 4611686018427387904 by omega)]
    refine rdG (st.fz 6 rfl) hlt fun p82 hp82 => ?_
    obtain ⟨kx, hkx1, hkx2⟩ := (hR2 _).1 (List.getElem_mem hlt)
    have lx : (Cr.resL kept l)[i].length = 3 := by rw [← hkx2, applyP_len]; exact hkl
    have l82 := osl_len hp82
    rw [show ((p82.len : Int) != 3) = false by rw [l82, lx]; rfl, brB_false]
    -- the words of it
    have tail : ∀ h', Ext [] h19 h' → lfp (σ := (Int × (Bool × Unit))) (fun X87 s88 =>
        brB (decide (s88.1 < (p82.len : Int)))
        (sx p82.a p82.len s88.1 1 fun p89 => ldT (.int .u32) p89 fun x90 => nw #[(.int .i64 (0 : Int))] ty_int fun b91 => nw #[(.int .u32 (0 : Int))] ty_bitword_Word fun b92 =>
          st1 (⟨b91, 0, none⟩ : Addr) (.int .i64 s88.1) <| st1 (⟨b92, 0, none⟩ : Addr) (.int .u32 x90) <| ldT (.int .u32) (⟨b92, 0, none⟩ : Addr) fun x93 => ldT (.int .i64) (⟨b91, 0, none⟩ : Addr) fun x94 =>
          sx (some (⟨b9, 0, none⟩ : Addr)) 3 x94 1 fun p95 => ldT (.int .u32) p95 fun x96 => brB (x93 != x96)
            (callT Try.prog fn_slices_ContainsFunc_disk_Entry_disk_Entry #[(.slice r2.a r2.len r2.cap), (.func (.func fn_salvorlaw35_CrashWrites_2) #[] #[(.pointer (some (⟨b91, 0, none⟩ : Addr))), (.pointer (some (⟨b92, 0, none⟩ : Addr)))])] .bool fun r97 => brB (!r97) (K false) (X87 ((IntKind.wrap .i64 (s88.1 + (1 : Int))), s88.2.1, ())))
            (X87 ((IntKind.wrap .i64 (s88.1 + (1 : Int))), s88.2.1, ())))
        (X ((((i + 1 : Nat) : Int)), s88.2.1, ()))) ((0 : Int), false, ()) h' := by
      intro h' x'
      have s0 := Hs.start h' [le l r2, ow kept ⟨some ⟨b9, 0, none⟩, 3, 3⟩, ow (Cr.resL kept l)[i] p82] (by
        intro A hA
        simp only [List.mem_cons, List.not_mem_nil, or_false] at hA
        rcases hA with rfl | rfl | rfl
        · exact (st.fz 3 rfl).ext x'
        · exact (st.fz 4 rfl).ext x'
        · exact hp82.ext x')
      refine lfp_invh (I := fun μ σ h'' => ∃ b : Nat, σ = ((b : Int), false, ()) ∧ b ≤ 3 ∧ Hs [([], h')] [le l r2, ow kept ⟨some ⟨b9, 0, none⟩, 3, 3⟩, ow (Cr.resL kept l)[i] p82] [] h'' ∧ μ = 3 - b) ⟨_, 0, rfl, by omega, s0, rfl⟩ ?_
      clear s0
      rintro μ2 σ h20 X2 ⟨b, rfl, hb, s0, em2⟩ hX2
      simp only
      by_cases hlt2 : b < 3
      · rw [decide_eq_true (show (b : Int) < (p82.len : Int) by omega), brB_true, inc_i (show b < 4611686018427387904 by omega)]
        refine rdE (τ := u32) (s0.fz 2 rfl).rsl (show b < (Cr.resL kept l)[i].length by omega) ?_
        obtain ⟨w, hw1, hw2⟩ := apply_word (l := l) (k := kx) (m := kept) (b := b) (by omega) (fun x hx => (hme x hx).1)
        have ew : (Cr.resL kept l)[i][b]'(by omega) = w := by
          have : (Cr.resL kept l)[i][b]? = some w := by rw [← hkx2]; exact hw1
          rw [List.getElem?_eq_getElem (by omega)] at this
          exact Option.some.inj this
        rw [ew]
        refine s0.nw fun b91 h21 s0 => ?_
        refine s0.nw fun b92 h22 s0 => ?_
        simp only [List.nil_append, List.cons_append] at s0
        refine s0.st1 0 0 rfl (by simp) fun h23 s0 => ?_
        simp only [List.set_cons_zero, List.set_cons_succ] at s0
        refine s0.st1 1 0 rfl (by simp) fun h24 s0 => ?_
        simp only [List.set_cons_zero, List.set_cons_succ] at s0
        rw [s0.ldi 1 0 rfl rfl, s0.ldi 0 0 rfl rfl]
        have fin : X2 (((b + 1 : Nat) : Int), false, ()) h24 := hX2 _ _ _ ⟨b + 1, rfl, by omega, (s0.drop 1 rfl).drop 0 rfl, rfl⟩ (by omega)
        refine rdE (s := ⟨some ⟨b9, 0, none⟩, 3, 3⟩) (τ := u32) (s0.fz 1 rfl).rsl (show b < kept.length by omega) ?_
        rcases hw2 with hw2 | ⟨x, hx, e1, e2⟩
        · rw [← hw2, show (w != w) = false by simp, brB_false]
          exact fin
        by_cases hwk : w = kept[b]
        · rw [show (w != kept[b]) = false by simp [hwk], brB_false]
          exact fin
        rw [show (w != kept[b]) = true by simp [hwk], brB_true]
        refine call_of (containsFunc_ent (p := fun x => x.1 == (b : Int) && x.2.1 == w) (s0.fz 0 rfl) (by omega) fun x _ h' x' => ?_) ?_
        · exact callF_func (wrote_c ((s0.blk 0 rfl).ext x' (by simp)) ((s0.blk 1 rfl).ext x' (by simp)) x)
        rintro r h25 ⟨er, x25⟩
        have er : r = true := er.trans (List.any_eq_true.2 ⟨x, hx, by simp [e1, e2]⟩)
        subst er
        rw [Bool.not_true, brB_false]
        exact hX2 _ _ _ ⟨b + 1, rfl, by omega, ((s0.ext x25).drop 1 rfl).drop 0 rfl, rfl⟩ (by omega)
      · rw [decide_eq_false (show ¬ (b : Int) < (p82.len : Int) by omega), brB_false]
        exact hX _ _ _ ⟨i + 1, rfl, by omega, st.ext (x'.nil_trans (s0.frame (by simp))), rfl⟩ (by omega)
    by_cases h0 : i = 0
    · rw [decide_eq_false (show ¬ (i : Int) > 0 by omega), brB_false]
      exact tail h19 (Ext.refl' _ _)
    · rw [decide_eq_true (show (i : Int) > 0 by omega), brB_true, ld_sl (i := 0) (st.fblk 7 rfl) rfl, dec_i (show i < 4611686018427387904 by omega) (by omega)]
      refine rdG (st.fz 6 rfl) (show i - 1 < (Cr.resL kept l).length by omega) fun p84 hp84 => ?_
      obtain ⟨ky, hky1, hky2⟩ := (hR2 _).1 (List.getElem_mem (show i - 1 < (Cr.resL kept l).length by omega))
      refine call_of (compare_word hp84.rsl hp82.rsl (by rw [← hky2, applyP_len]; omega)) ?_
      rintro r h20 ⟨er, x20⟩
      have er : r = cmpW ((Cr.resL kept l)[i - 1]'(by omega)) (Cr.resL kept l)[i] := er
      have hlt3 : cmpW ((Cr.resL kept l)[i - 1]'(by omega)) (Cr.resL kept l)[i] < 0 := List.pairwise_iff_getElem.1 hR1 (i - 1) i (by omega) hlt (by omega)
      rw [decide_eq_false (show ¬ r ≥ 0 from by rw [er]; exact Int.not_le.2 hlt3), brB_false]
      exact tail h20 x20
  · rw [decide_eq_false (show ¬ (i : Int) < (r11.len : Int) by omega), brB_false]
    exact hK _ _ ⟨rfl, st.frame (by simp)⟩

theorem crashWrites_I {f : Int × Int × Int × Unit} {c c3 c4 : List Int} {u : Int} {s1 s3 s4 : Sl} (hA : At h (lu c s1)) (hA3 : At h (lu c3 s3)) (hA4 : At h (lu c4 s4)) (hu : U8 c) (hu3 : U8 c3) (hu4 : U8 c4) (huu : 0 ≤ u ∧ u ≤ 255)
    (K : Bool → HP) (hK : ∀ x h', (x = true ∧ Ext [] h h') → K x h') : F_salvorlaw35_CrashWrites f s1 u s3 s4 K h := by
  obtain ⟨u, rfl⟩ := Int.eq_ofNat_of_zero_le huu.1
  obtain ⟨f0, f1, f2, ⟨⟩⟩ := f
  exact crashWrites_F hA hA3 hA4 hu hu3 hu4 (by omega) K hK

end Go.Proofs.S
