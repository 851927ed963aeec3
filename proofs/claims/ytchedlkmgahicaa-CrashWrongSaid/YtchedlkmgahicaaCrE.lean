/-
  The package crash: Results, Drop: contracts; comparisons of words, of truths.
-/
import Derived.Test.YtchedlkmgahicaaCrD
set_option linter.unusedVariables false
set_option linter.unusedSimpArgs false
namespace Go.Proofs.S
open Go Go.Sx Go.Proofs Go.Cr Go.Cl

variable {h : Heap} {l : List Ent} {k k2 : List Bool} {m m2 : List Int} {s s2 s3 : Sl} {fr : Fr} {G As : List Asn}

abbrev sf_words : SF := ⟨fn_slices_pdqsortCmpFunc_bitword_Word, fn_slices_insertionSortCmpFunc_bitword_Word, fn_slices_heapSortCmpFunc_bitword_Word, fn_slices_siftDownCmpFunc_bitword_Word, fn_slices_breakPatternsCmpFunc_bitword_Word, fn_slices_choosePivotCmpFunc_bitword_Word, fn_slices_reverseRangeCmpFunc_bitword_Word, fn_slices_partialInsertionSortCmpFunc_bitword_Word, fn_slices_partitionEqualCmpFunc_bitword_Word, fn_slices_partitionCmpFunc_bitword_Word, fn_slices_medianCmpFunc_bitword_Word, fn_slices_medianAdjacentCmpFunc_bitword_Word, fn_slices_order2CmpFunc_bitword_Word, fn_slices_nextPowerOfTwo, fn_slices_xorshift_Next, fn_math_bits_Len, fn_math_bits_Len64, ty_slices_xorshift, ty_int⟩

theorem sorts_words : Sorts Try.prog .sl sf_words where
  pdq := fun K hF => S_slices_pdqsortCmpFunc_bitword_Word K hF
  ins := fun K hF => S_slices_insertionSortCmpFunc_bitword_Word K hF
  heap := fun K hF => S_slices_heapSortCmpFunc_bitword_Word K hF
  sift := fun K hF => S_slices_siftDownCmpFunc_bitword_Word K hF
  brk := fun K hF => S_slices_breakPatternsCmpFunc_bitword_Word K hF
  piv := fun K hF => S_slices_choosePivotCmpFunc_bitword_Word K hF
  rev := fun K hF => S_slices_reverseRangeCmpFunc_bitword_Word K hF
  pins := fun K hF => S_slices_partialInsertionSortCmpFunc_bitword_Word K hF
  peq := fun K hF => S_slices_partitionEqualCmpFunc_bitword_Word K hF
  part := fun K hF => S_slices_partitionCmpFunc_bitword_Word K hF
  med := fun K hF => S_slices_medianCmpFunc_bitword_Word K hF
  meda := fun K hF => S_slices_medianAdjacentCmpFunc_bitword_Word K hF
  ord2 := fun K hF => S_slices_order2CmpFunc_bitword_Word K hF
  npow := fun K hF => S_slices_nextPowerOfTwo K hF
  xsh := fun K hF => S_slices_xorshift_Next K hF
  len := fun K hF => S_math_bits_Len K hF
  len64 := fun K hF => S_math_bits_Len64 K hF

theorem isNaN_word (a : Int) : callT Try.prog fn_cmp_isNaN_bitword_Word #[.int .u32 a] .bool (fun r h' => r = false ∧ h' = h) h := by
  refine callT_gen fun K hK => S_cmp_isNaN_bitword_Word (a0 := a) K ?_
  unfold F_cmp_isNaN_bitword_Word
  rw [show (a != a) = false by simp]
  exact hK _ _ ⟨rfl, rfl⟩
theorem cmp_word (a b : Int) : callT Try.prog fn_cmp_Compare_bitword_Word #[.int .u32 a, .int .u32 b] (.int .i64) (fun r h' => r = cmpI a b ∧ h' = h) h := by
  refine callT_gen fun K hK => S_cmp_Compare_bitword_Word (a0 := a) (a1 := b) K ?_
  unfold F_cmp_Compare_bitword_Word
  refine call_of (isNaN_word a) ?_
  rintro _ hq ⟨rfl, rfl⟩
  refine call_of (isNaN_word b) ?_
  rintro _ hq ⟨rfl, rfl⟩
  rw [brB_false, brB_false]
  by_cases h1 : a < b
  · rw [decide_eq_true h1, brB_true]; exact hK _ _ ⟨by simp [cmpI, h1], rfl⟩
  · rw [decide_eq_false h1, brB_false]
    by_cases h2 : a > b
    · rw [decide_eq_true h2, brB_true]; exact hK _ _ ⟨by simp [cmpI, h1, h2], rfl⟩
    · rw [decide_eq_false h2, brB_false]; exact hK _ _ ⟨by simp [cmpI, h1, h2], rfl⟩
theorem cmpF_word (a b : Int) : callF Try.prog (.func (.func fn_cmp_Compare_bitword_Word) #[] #[]) #[.int .u32 a, .int .u32 b] (.int .i64) (fun r h' => r = cmpI a b ∧ h' = h) h := callF_func (cmp_word a b)
theorem compareFunc_word (hA : At h (lw m s)) (hB : At h (lw m2 s2)) (hl : m.length ≤ 1099511627776) :
    callT Try.prog fn_slices_CompareFunc_bitword_Word_bitword_Word_bitword_Word_bitword_Word #[.slice s.a s.len s.cap, .slice s2.a s2.len s2.cap, .func (.func fn_cmp_Compare_bitword_Word) #[] #[]] (.int .i64) (fun r h' => r = cmpW m m2 ∧ Ext [] h h') h :=
  callT_gen fun K hK => S_slices_CompareFunc_bitword_Word_bitword_Word_bitword_Word_bitword_Word (a0 := s) (a1 := s2) (a2 := .func (.func fn_cmp_Compare_bitword_Word) #[] #[]) K
    (w_compareFunc (τ := u32) (c := cmpI) hA hB hl (fun x _ y _ h' _ => callF_of (cmpF_word x y) fun r h2 ⟨e, e2⟩ => ⟨e, by rw [e2]; exact Ext.refl' _ _⟩) fun h' x => hK _ _ ⟨rfl, x⟩)
theorem results1_c (hA : At h (lw m s)) (hB : At h (lw m2 s2)) (hl : m.length ≤ 1099511627776) :
    callT Try.prog fn_crash_Results_1 #[.slice s.a s.len s.cap, .slice s2.a s2.len s2.cap] (.int .i64) (fun r h' => r = cmpW m m2 ∧ Ext [] h h') h := by
  refine callT_gen fun K hK => S_crash_Results_1 (a0 := s) (a1 := s2) K ?_
  unfold F_crash_Results_1
  refine call_of (compareFunc_word hA hB hl) ?_
  rintro r h1 ⟨e, x⟩
  exact hK _ _ ⟨e, x⟩

theorem eq_of_iff {b : Bool} {p : Prop} [Decidable p] (h : b = true ↔ p) : b = decide p := by
  cases b with
  | true => exact (decide_eq_true (h.1 rfl)).symm
  | false => exact (decide_eq_false fun hp => by cases h.2 hp).symm
theorem bne_iffI (x y : Int) : (x != y) = true ↔ x ≠ y := by simp
theorem bne_iffB (x y : Bool) : (!(x == y)) = true ↔ x ≠ y := by cases x <;> cases y <;> simp
theorem equal_word (hA : At h (lw m s)) (hB : At h (lw m2 s2)) (hl : m.length ≤ 1099511627776) : callT Try.prog fn_slices_Equal_bitword_Word_bitword_Word #[.slice s.a s.len s.cap, .slice s2.a s2.len s2.cap] .bool (fun r h' => r = decide (m = m2) ∧ h' = h) h :=
  callT_gen fun K hK => S_slices_Equal_bitword_Word_bitword_Word (a0 := s) (a1 := s2) K (w_equal (τ := u32) bne_iffI hA hB hl fun b hb => hK _ _ ⟨eq_of_iff hb, rfl⟩)
theorem equal_bool (hA : At h (lb k s)) (hB : At h (lb k2 s2)) (hl : k.length ≤ 1099511627776) : callT Try.prog fn_slices_Equal_bool_bool #[.slice s.a s.len s.cap, .slice s2.a s2.len s2.cap] .bool (fun r h' => r = decide (k = k2) ∧ h' = h) h :=
  callT_gen fun K hK => S_slices_Equal_bool_bool (a0 := s) (a1 := s2) K (w_equal (τ := .bool) bne_iffB hA hB hl fun b hb => hK _ _ ⟨eq_of_iff hb, rfl⟩)

theorem encI {κ : IntKind} (x y : Int) (h : (Ty.int κ).enc x = (Ty.int κ).enc y) : x = y := by
  have h : Value.int κ x = .int κ y := h
  injection h
theorem compact_words {fv : Value} {K : Sl → HP} (hW : W_compact Try.prog .sl (.slice none 0 0) s fv K h) : callT Try.prog fn_slices_CompactFunc_bitword_Word_bitword_Word #[.slice s.a s.len s.cap, fv] .sl K h :=
  S_slices_CompactFunc_bitword_Word_bitword_Word (a0 := s) (a1 := fv) K hW

theorem min_le_valids (h : cntP l ≤ 4096) : (valids l).length ≤ 4096 := by unfold cntP at h; omega

theorem results_c (hA : At h (le l s)) (hW : At h (lw m s3)) (hl : l.length ≤ 1099511627776) (hm : m.length ≤ 1099511627776) :
    callT Try.prog fn_crash_Results #[.slice s3.a s3.len s3.cap, .slice s.a s.len s.cap] (.tup (.cons .sl (.cons (.int .i64) .nil)))
      (fun r h' => ∃ s', r = (s', (resP m l).2, ()) ∧ New h.size h' (rsg (fun c p => ow c p) (resP m l).1 s') ∧ Ext [] h h') h := by
  refine callT_gen fun K hK => S_crash_Results (a0 := s3) (a1 := s) K ?_
  unfold F_crash_Results
  have st := Hs.start h [lw m s3, le l s] (by simp [hA, hW])
  refine st.nw fun b0 h1 st => ?_
  refine st.nw fun b1 h2 st => ?_
  simp only [List.nil_append, List.cons_append] at st
  rw [st.lds 1 0 rfl rfl]
  refine call_of (count_c (st.fz 1 rfl) hl) ?_
  rintro r h3 ⟨er, x3⟩
  subst er
  have st := st.ext x3
  unfold resP at hK
  have nil1 : ∀ (e : Int) h' h'', Hs [([], h)] [lw m s3, le l s] [cl b0 ty_sl_bitword_Word [.slice s3.a s3.len s3.cap], cl b1 ty_sl_disk_Entry [.slice s.a s.len s.cap]] h' → Marked h.size h' h'' →
      (∃ s', ((⟨none, 0, 0⟩, e, ()) : Sl × Int × Unit) = (s', e, ()) ∧ New h.size h'' (rsg (fun c p => ow c p) [] s') ∧ Ext [] h h'') := fun e h' h'' st hM =>
    ⟨⟨none, 0, 0⟩, rfl, New.rsg (I := fun c p => ow c p) (t := 0) (osg_nil _ _), (st.marked hM).frame (by simp)⟩
  cases hr : rightL l with
  | false =>
    rw [if_neg (by simp [hr])] at hK
    simp only [countP, hr, Bool.false_eq_true, if_false]
    exact fun h'' hM => hK _ _ (nil1 350 _ _ st hM)
  | true =>
    rw [if_pos hr] at hK
    simp only [countP, hr, if_true]
    rw [show ((0 : Int) != 0) = false from rfl, brB_false]
    rw [st.lds 0 0 rfl rfl, st.lds 1 0 rfl rfl]
    refine call_of (fits_c (st.fz 1 rfl) (st.fz 0 rfl) hl) ?_
    rintro _ h4 ⟨rfl, x4⟩
    have st := st.ext x4
    cases hf : fitsP m.length l with
    | false =>
      rw [if_neg (by simp [hf])] at hK
      simp only [Bool.not_false, brB_true]
      exact fun h'' hM => hK _ _ (nil1 2 _ _ st hM)
    | true =>
      rw [if_pos hf] at hK
      simp only [Bool.not_true, brB_false]
      by_cases hc : cntP l > 4096
      · rw [if_pos hc] at hK
        rw [decide_eq_true hc, brB_true]
        exact fun h'' hM => hK _ _ (nil1 5 _ _ st hM)
      · rw [if_neg hc] at hK
        rw [decide_eq_false hc, brB_false]
        have hvl := min_le_valids (l := l) (by omega)
        have eL : allL l = valids l := by simp [allL, hr]
        refine st.nw fun b7 h5 st => ?_
        simp only [List.nil_append, List.cons_append] at st
        rw [st.lds 1 0 rfl rfl]
        refine Hs.All st fun bA h6 st => ?_
        have st := st.nilg (fun c p => ow c p) ty_sl_bitword_Word none
        simp only [List.nil_append, List.cons_append] at st
        refine st.rangeG (allNx l) (allGf l) (allFin l) (all_hit 2 1 rfl rfl hl) (fun _ _ _ _ => rfl)
          (fun pre Bs => ∃ s' : Sl, Bs = [cl b0 ty_sl_bitword_Word [.slice s3.a s3.len s3.cap], cl b1 ty_sl_disk_Entry [.slice s.a s.len s.cap], cl b7 ty_sl_sl_bitword_Word [.slice s'.a s'.len s'.cap], osg (fun c p => ow c p) ty_sl_bitword_Word (((valids l).take pre.length).map (applyP m l)) s'])
          (fun _ _ => False) ⟨⟨none, 0, 0⟩, rfl⟩ ?_ ?_ (fun _ _ hf => hf.elim) (fun i id K hi => by simp at hi)
        · rintro pre ⟨x, ⟨⟩⟩ Bs B hb hnx ⟨s', rfl⟩ st next jump hnext hjump
          have hlt : pre.length < (valids l).length := by rw [← eL]; exact hnx
          have eg : allGf l pre (x, ()) = ob (valids l)[pre.length] x := by
            show ob ((allL l).getD pre.length []) x = _
            rw [eL, List.getD_eq_getElem?_getD, List.getElem?_eq_getElem hlt]; rfl
          rw [eg] at st
          obtain ⟨hkl, _⟩ := mem_valids.1 (List.getElem_mem hlt)
          simp only [List.nil_append, List.cons_append] at st
          simp only
          rw [st.lds 2 0 rfl rfl, st.lds 0 0 rfl rfl, st.lds 1 0 rfl rfl]
          refine call_of (apply_c (st.fz 1 rfl) (st.own 4 rfl).rsl (st.fz 0 rfl) hl hm hkl hr hf) ?_
          rintro r17 h7 ⟨n7, x7⟩
          have st := st.new x7 n7
          simp only [List.nil_append, List.cons_append] at st
          rw [st.ck 2 0 rfl rfl]
          refine st.nw fun b18 h8 st => ?_
          simp only [List.nil_append, List.cons_append] at st
          refine Hs.apdG (I := fun c p => ow c p) (x := applyP m l (valids l)[pre.length]) (p := r17) st 3 6 5 rfl rfl rfl (by decide) (by decide) (by simp; omega) (by decide) rfl fun s19 h9 st => ?_
          refine st.st1 2 0 rfl (by simp) fun h10 st => ?_
          have st := ((st.drop 6 rfl).drop 5 rfl).drop 4 rfl
          refine hnext _ _ ⟨s19, ?_⟩ st
          rw [List.length_append, List.length_singleton, take_succ_getE hlt, List.map_append]; rfl
        · rintro pre Bs h7 hfin ⟨s', rfl⟩ st
          have hfin : pre.length = (valids l).length := by rw [← eL]; exact hfin
          rw [hfin, List.take_length] at st
          rw [st.lds 2 0 rfl rfl]
          refine S_slices_SortFunc_bitword_Word_bitword_Word (a0 := s') (a1 := .func (.func fn_crash_Results_1) #[] #[]) _ ?_
          unfold F_slices_SortFunc_bitword_Word_bitword_Word
          have hin : ∀ x ∈ (valids l).map (applyP m l), x.length ≤ 1099511627776 := fun x hx => by
            obtain ⟨k, _, rfl⟩ := List.mem_map.1 hx
            rw [applyP_len]; exact hm
          refine Hs.sortG sorts_words totW [] (by simp) (det_osl encI) st 3 rfl (by simp) (by simp; omega) (fun x y p q h' hx hy hp hq _ => ?_) fun ps ys val h8 sg st => ?_
          · refine callF_func (call_of (results1_c hp.rsl hq.rsl (hin x hx)) fun r h2 ⟨e, e2⟩ => ⟨?_, e2⟩)
            have e : r = cmpW x y := e
            rw [e]
          · simp only [List.set_cons_zero, List.set_cons_succ, List.nil_append, List.cons_append] at st
            show ldT .sl _ _ _
            rw [st.lds 2 0 rfl rfl]
            refine compact_words (s := s') ?_
            refine Hs.compactG totW sg st 3 4 rfl rfl (by decide) (by simp; omega) (fun x y p q h' hx hy hp hq _ => ?_) fun s'' h9 st => ?_
            · exact callF_func (call_of (equal_word hp.rsl hq.rsl (hin x hx)) fun r h2 ⟨e, e2⟩ => ⟨e, by rw [e2]; exact Ext.refl' _ _⟩)
            · intro h'' hM
              have st := st.marked hM
              exact hK _ _ ⟨s'', rfl, st.res (by simp) 3 rfl, st.frame (by simp)⟩

theorem dropL_step {k : List Bool} {i : Nat} : (List.range (i + 1)).filterMap (fun i => if Cr.K k i && vld l (k.set i false) then some (k.set i false) else none) =
    (List.range i).filterMap (fun i => if Cr.K k i && vld l (k.set i false) then some (k.set i false) else none) ++ (if Cr.K k i && vld l (k.set i false) then [k.set i false] else []) := by
  rw [List.range_succ, List.filterMap_append]
  congr 1
  by_cases h : (Cr.K k i && vld l (k.set i false)) = true
  · simp only [List.filterMap_cons, List.filterMap_nil, if_pos h]
  · simp only [List.filterMap_cons, List.filterMap_nil, if_neg h]

theorem filterMap_range_le {α : Type} (f : Nat → Option α) (i : Nat) : ((List.range i).filterMap f).length ≤ i := by
  have := List.length_filterMap_le f (List.range i)
  simpa using this

theorem drop_c (hA : At h (le l s)) (hB : At h (lb k s2)) (hl : l.length ≤ 1099511627776) :
    callT Try.prog fn_crash_Drop #[.slice s.a s.len s.cap, .slice s2.a s2.len s2.cap] (.tup (.cons .sl (.cons (.int .i64) .nil)))
      (fun r h' => ∃ s', r = (s', (dropP l k).2, ()) ∧ New h.size h' (osg (fun c p => ob c p) ty_sl_bool (dropP l k).1 s') ∧ Ext [] h h') h := by
  refine callT_gen fun K hK => S_crash_Drop (a0 := s) (a1 := s2) K ?_
  unfold F_crash_Drop
  have l2 := rsl_len hB
  refine call_of (Valid_c hA hB hl) ?_
  rintro r h1 ⟨er, x1⟩
  subst er
  unfold dropP at hK
  unfold validP
  by_cases h0 : checkC l k = 0
  · rw [if_pos h0] at hK
    obtain ⟨hr, hk⟩ := check_right h0
    have hm := right_mono hr
    have hl4 := right_len hr
    simp only [if_pos h0]
    rw [show ((0 : Int) != 0) = false from rfl, brB_false]
    cases hv : vld l k with
    | false =>
      simp only [Bool.not_false, brB_true]
      rw [if_neg (by simp [hv])] at hK
      exact hK _ _ ⟨⟨none, 0, 0⟩, rfl, osg_nil _ _, x1⟩
    | true =>
      simp only [Bool.not_true, brB_false]
      rw [if_pos hv] at hK
      have st := ((Hs.start h [le l s, lb k s2] (by simp [hA, hB])).ext x1).nilg (fun c p => ob c p) ty_sl_bool none
      refine lfp_invh (I := fun μ σ h' => ∃ (i : Nat) (s' : Sl), σ = ((i : Int), s', ()) ∧ i ≤ k.length ∧ Hs [([], h)] [le l s, lb k s2] [osg (fun c p => ob c p) ty_sl_bool ((List.range i).filterMap (fun i => if Cr.K k i && vld l (k.set i false) then some (k.set i false) else none)) s'] h' ∧ μ = k.length - i)
        ⟨_, 0, ⟨none, 0, 0⟩, rfl, by omega, st, rfl⟩ ?_
      clear st
      rintro μ σ h2 X ⟨i, s', rfl, hi, st, em⟩ hX
      simp only
      by_cases hlt : i < k.length
      · rw [show decide ((i : Int) < (s2.len : Int)) = true by rw [l2]; exact dlt_t hlt, brB_true, inc_i (show i < 4611686018427387904 by omega)]
        refine Hs.clone_bool st (st.fz 1 rfl) (by omega) fun r3 h3 st => ?_
        refine st.wrE (τ := .bool) 1 rfl hlt false fun h4 st => ?_
        refine rdE (τ := .bool) (st.fz 1 rfl) hlt ?_
        rw [← K_get hlt]
        have fin : ∀ s' h', Hs [([], h)] [le l s, lb k s2] [osg (fun c p => ob c p) ty_sl_bool ((List.range (i + 1)).filterMap (fun i => if Cr.K k i && vld l (k.set i false) then some (k.set i false) else none)) s'] h' → X (((i + 1 : Nat) : Int), s', ()) h' :=
          fun s' h' st => hX _ _ _ ⟨i + 1, s', rfl, by omega, st, rfl⟩ (by omega)
        rw [dropL_step] at fin
        cases hki : Cr.K k i with
        | false =>
          rw [brB_false]
          refine jn_in fun J hJ => hJ _ _ (fin s' _ ?_)
          have st := st.drop 1 rfl
          simpa [hki] using st
        | true =>
          rw [brB_true]
          refine call_of (valid_c (st.fz 0 rfl) (st.own 1 rfl).rsl hl (by simpa using hk) hm) ?_
          rintro _ h5 ⟨rfl, x5⟩
          have st := st.ext x5
          refine jn_in fun J hJ => ?_
          cases hvl : vld l (k.set i false) with
          | false =>
            rw [brB_false]
            refine hJ _ _ (fin s' _ ?_)
            have st := st.drop 1 rfl
            simpa [hki, hvl] using st
          | true =>
            rw [brB_true]
            refine st.nw fun b10 h6 st => ?_
            have hfl := filterMap_range_le (fun i => if Cr.K k i && vld l (k.set i false) then some (k.set i false) else none) i
            refine Hs.apdG (I := fun c p => ob c p) (x := k.set i false) (p := r3) st 0 2 1 rfl rfl rfl (by decide) (by decide) (by omega) (by decide) rfl fun s11 h7 st => ?_
            refine hJ _ _ (fin s11 _ ?_)
            have st := (st.drop 2 rfl).drop 1 rfl
            rw [if_pos (by simp [hki, hvl])]
            exact st
      · rw [show decide ((i : Int) < (s2.len : Int)) = false by rw [l2]; exact dlt_f hlt, brB_false]
        refine hK _ _ ⟨s', rfl, ?_, st.frame (by simp)⟩
        have e : i = l.length := by omega
        subst e
        exact st.res (by simp) 0 rfl
  · rw [if_neg h0] at hK
    simp only [if_neg h0]
    rw [show (checkC l k != 0) = true by simp [h0], brB_true]
    exact hK _ _ ⟨⟨none, 0, 0⟩, rfl, osg_nil _ _, x1⟩

end Go.Proofs.S
