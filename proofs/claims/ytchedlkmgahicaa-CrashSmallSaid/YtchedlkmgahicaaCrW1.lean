/-
  CrashAll, walked.
-/
import Derived.Test.YtchedlkmgahicaaCrG
set_option linter.unusedVariables false
set_option linter.unusedSimpArgs false
namespace Go.Proofs.S
open Go Go.Sx Go.Proofs Go.Cr Go.Cl

variable {h : Heap} {l : List Ent} {k k2 : List Bool} {m m2 : List Int} {s s2 s3 : Sl} {fr : Fr} {G As : List Asn}

theorem number_c (hA : At h (lb k s)) (hl : k.length ≤ 60) : callT Try.prog fn_salvorlaw35_CrashAll_1 #[.slice s.a s.len s.cap] (.int .i64) (fun r h' => r = (numB k : Int) ∧ h' = h) h := by
  refine callT_gen fun K hK => S_salvorlaw35_CrashAll_1 (a0 := s) K ?_
  unfold F_salvorlaw35_CrashAll_1
  have l1 := rsl_len hA
  refine lfp_invh (I := fun μ σ h' => ∃ i : Nat, σ = ((i : Int), (numB (k.take i) : Int), ()) ∧ i ≤ k.length ∧ h' = h ∧ μ = k.length - i) ⟨_, 0, rfl, by omega, rfl, rfl⟩ ?_
  rintro μ σ h2 X ⟨i, rfl, hi, rfl, em⟩ hX
  simp only
  by_cases hlt : i < k.length
  · rw [decide_eq_true (show (i : Int) < (s.len : Int) by omega), brB_true, inc_i (show i < 4611686018427387904 by omega)]
    refine rdE (τ := .bool) hA hlt ?_
    have hb := numB_lt (k.take i)
    have hp : 2 ^ (k.take i).length ≤ 2 ^ 60 := Nat.pow_le_pow_right (by decide) (by simp; omega)
    have e60 : (2 : Nat) ^ 60 = 1152921504606846976 := by decide
    have fin : ∀ v : Int, v = (numB (k.take (i + 1)) : Int) → X (((i + 1 : Nat) : Int), v, ()) h2 := by
      rintro v rfl
      exact hX _ _ _ ⟨i + 1, rfl, by omega, rfl, rfl⟩ (by omega)
    have es := numB_snoc (k.take i) k[i]
    rw [← take_succ_getE hlt] at es
    refine jn_in fun J hJ => ?_
    cases hki : k[i] with
    | true =>
      rw [brB_true]
      refine hJ _ _ (fin _ ?_)
      rw [hki] at es
      rw [es, wrap_i64 (x := (numB (k.take i) : Int) * 2) (by omega) (by omega), wrap_i64 (by omega) (by omega)]
      simp; omega
    | false =>
      rw [brB_false]
      refine hJ _ _ (fin _ ?_)
      rw [hki] at es
      rw [es, wrap_i64 (x := (numB (k.take i) : Int) * 2) (by omega) (by omega)]
      simp; omega
  · rw [decide_eq_false (show ¬ (i : Int) < (s.len : Int) by omega), brB_false]
    rw [List.take_of_length_le (by omega)]
    exact hK _ _ ⟨rfl, rfl⟩

/-- The numbers of the valid sets. -/
theorem valids_num {l : List Ent} {i j : Nat} (hij : i < j) (hj : j < (valids l).length) : numB (valids l)[i] < numB (valids l)[j] := by
  have hs := List.pairwise_iff_getElem.1 (valids_sorted l) i j (by omega) hj hij
  have h1 := (mem_valids.1 (List.getElem_mem (show i < (valids l).length by omega))).1
  have h2 := (mem_valids.1 (List.getElem_mem hj)).1
  exact (ltB_num (by rw [h1, h2])).1 hs
theorem valids_first {l : List Ent} (h0 : 0 < (valids l).length) : numB (valids l)[0] = 0 := by
  have := valids_head l
  rw [List.head?_eq_getElem?, List.getElem?_eq_getElem h0] at this
  rw [Option.some.inj this, numB_false]
theorem valids_last {l : List Ent} {n : Nat} (hn : n + 1 = (valids l).length) : numB ((valids l)[n]'(by omega)) + 1 = 2 ^ l.length := by
  have hin : List.replicate l.length true ∈ valids l := mem_valids.2 ⟨by simp, vld_iff.2 (all_valid l)⟩
  obtain ⟨i, hi, e⟩ := List.mem_iff_getElem.1 hin
  have h1 := numB_true l.length
  have h2 := numB_lt ((valids l)[n]'(by omega))
  rw [(mem_valids.1 (List.getElem_mem (show n < (valids l).length by omega))).1] at h2
  rcases Nat.lt_or_ge i n with q | q
  · have := valids_num q (show n < (valids l).length by omega)
    rw [e] at this; omega
  · have : i = n := by omega
    subst this
    rw [e]; exact h1

/-- A set of one's own is made empty. -/
theorem Hs.zero {K : HP} (st : Hs fr G As h) (kt : Nat) (hkt : As[kt]? = some (ob k s)) (hl : k.length ≤ 1099511627776) (hK : ∀ k' h', k'.length = k.length → Hs fr G (As.set kt (ob k' s)) h' → K h') :
    lfp (σ := (Int × Unit)) (fun X s26 => brB (decide (s26.1 < (s.len : Int))) (sx s.a s.len s26.1 1 fun p27 => st1 p27 (.bool false) <| X ((IntKind.wrap .i64 (s26.1 + (1 : Int))), ())) K) ((0 : Int), ()) h := by
  have l1 := osl_len (st.own kt hkt)
  have hktl := (List.getElem?_eq_some_iff.1 hkt).1
  refine lfp_invh (I := fun μ σ h' => ∃ (i : Nat) (k' : List Bool), σ = ((i : Int), ()) ∧ i ≤ k.length ∧ k'.length = k.length ∧ Hs fr G (As.set kt (ob k' s)) h' ∧ μ = k.length - i) ⟨_, 0, k, rfl, by omega, rfl, ?_, rfl⟩ ?_
  · have e : As.set kt (ob k s) = As := by
      apply List.ext_getElem?
      intro j
      rw [List.getElem?_set]
      by_cases q : kt = j
      · subst q; rw [if_pos rfl, if_pos hktl, hkt]
      · rw [if_neg q]
    rw [e]; exact st
  · rintro μ σ h2 X ⟨i, k', rfl, hi, hk', st, em⟩ hX
    simp only
    by_cases hlt : i < k.length
    · rw [decide_eq_true (show (i : Int) < (s.len : Int) by omega), brB_true, inc_i (show i < 4611686018427387904 by omega)]
      refine st.wrE (τ := .bool) kt (by rw [List.getElem?_set, if_pos rfl, if_pos hktl]) (show i < k'.length by omega) false fun h3 st => ?_
      rw [List.set_set] at st
      exact hX _ _ _ ⟨i + 1, k'.set i false, rfl, by omega, by simpa using hk', st, rfl⟩ (by omega)
    · rw [decide_eq_false (show ¬ (i : Int) < (s.len : Int) by omega), brB_false]
      exact hK k' h2 hk' st

theorem crashAll_F {c : List Int} (hA : At h (lu c s)) (hu : U8 c) (K : Bool → HP) (hK : ∀ x h', (x = true ∧ Ext [] h h') → K x h') : F_salvorlaw35_CrashAll s K h := by
  unfold F_salvorlaw35_CrashAll
  have st := Hs.start h [lu c s] (by simp [hA])
  refine st.nw fun b0 h1 st => ?_
  refine call_of awake_c ?_
  rintro _ h2 ⟨rfl, x2⟩
  have st := st.ext x2
  simp only [Bool.not_true, brB_false]
  refine call_of (made_c (most := 9) (st.fz 0 rfl) hu (by decide)) ?_
  rintro r3 h3 ⟨n3, x3⟩
  have st := st.new x3 n3
  simp only [List.nil_append, List.cons_append] at st
  have st := (st.imp 1 rfl (A' := le (madeL c 9) r3) fun S h q => osn_rsn wideE q).freeze 1 rfl
  simp only [List.nil_append, List.cons_append, List.set_cons_zero, List.set_cons_succ, List.eraseIdx_cons_zero, List.eraseIdx_cons_succ] at st
  have hr := madeL_right hu (most := 9) (by decide)
  have hlen : (madeL c 9).length ≤ 9 := by rw [madeL_len]; omega
  generalize madeL c 9 = l at *
  have hm := right_mono hr
  have hvl := Nat.le_trans (valids_le l) (Nat.pow_le_pow_right (by decide) hlen)
  have e9 : (2 : Nat) ^ 9 = 512 := by decide
  rw [e9] at hvl
  have eL : allL l = valids l := by simp [allL, hr]
  refine st.nw fun b4 h4 st => ?_
  simp only [List.nil_append, List.cons_append] at st
  refine st.st1 1 0 rfl (by simp) fun h5 st => ?_
  simp only [List.set_cons_zero, List.set_cons_succ] at st
  rw [st.lds 1 0 rfl rfl]
  refine call_of (count_c (st.fz 1 rfl) (by omega)) ?_
  rintro r h6 ⟨er, x6⟩
  have er : r = (((valids l).length : Int), 0, ()) := by
    rw [er]; simp only [countP, hr, if_true]
    unfold cntP
    rw [Nat.min_eq_left (by omega)]
  subst er
  have st := st.ext x6
  rw [show ((0 : Int) != 0) = false from rfl, brB_false]
  refine st.nw fun b8 h7 st => ?_
  simp only [List.nil_append, List.cons_append] at st
  refine st.st1 2 0 rfl (by simp) fun h8 st => ?_
  refine st.nw fun b9 h9 st => ?_
  refine st.nw fun b10 h10 st => ?_
  simp only [List.nil_append, List.cons_append, List.set_cons_zero, List.set_cons_succ] at st
  refine st.st1 3 0 rfl (by simp) fun h11 st => ?_
  refine st.st1 4 0 rfl (by simp) fun h12 st => ?_
  simp only [List.set_cons_zero, List.set_cons_succ] at st
  rw [st.lds 1 0 rfl rfl]
  refine Hs.All st fun bA h13 st => ?_
  simp only [List.nil_append, List.cons_append] at st
  refine st.rangeG (allNx l) (allGf l) (allFin l) (all_hit 2 1 rfl rfl (by omega)) (fun _ _ _ _ => rfl)
    (fun pre Bs => ∃ last : Int, Bs = [cl b0 ty_bool [.bool false], cl b4 ty_sl_disk_Entry [.slice r3.a r3.len r3.cap], cl b8 ty_func_sl_bool_int [.func (.func fn_salvorlaw35_CrashAll_1) #[] #[]], cl b9 ty_int [.int .i64 last], cl b10 ty_int [.int .i64 (pre.length : Int)]] ∧
      (pre.length = 0 → last = -1) ∧ ∀ n (hn : n < (valids l).length), pre.length = n + 1 → last = (numB (valids l)[n] : Int))
    (fun _ _ => False) ⟨-1, rfl, fun _ => rfl, fun n hn h => by simp at h⟩ ?_ ?_ (fun _ _ hf => hf.elim) (fun i id K hi => by simp at hi)
  · rintro pre ⟨x, ⟨⟩⟩ Bs B hb hnx ⟨last, rfl, hl0, hl1⟩ st next jump hnext hjump
    have hlt : pre.length < (valids l).length := by rw [← eL]; exact hnx
    have eg : allGf l pre (x, ()) = ob (valids l)[pre.length] x := by
      show ob ((allL l).getD pre.length []) x = _
      rw [eL, List.getD_eq_getElem?_getD, List.getElem?_eq_getElem hlt]; rfl
    rw [eg] at st
    obtain ⟨hkl, hkv⟩ := mem_valids.1 (List.getElem_mem hlt)
    simp only [List.nil_append, List.cons_append] at st
    simp only
    rw [st.lds 1 0 rfl rfl]
    refine call_of (Valid_c (st.fz 1 rfl) (st.own 5 rfl).rsl (by omega)) ?_
    rintro r h14 ⟨er, x14⟩
    have er : r = (true, 0, ()) := by
      rw [er]
      have : checkC l (valids l)[pre.length] = 0 := by simp [checkC, hr, hkl]
      simp [validP, this, hkv]
    subst er
    have st := st.ext x14
    rw [st.ldv 2 0 rfl rfl]
    refine callF_func (call_of (number_c (st.own 5 rfl).rsl (by omega)) ?_)
    rintro _ hq ⟨rfl, rfl⟩
    rw [show ((0 : Int) != 0) = false from rfl, brB_false]
    simp only [Bool.not_true, brB_false]
    rw [st.lds 1 0 rfl rfl]
    have lx := osl_len (st.own 5 rfl)
    have lr := rsn_len (st.fz 1 rfl)
    rw [show ((x.len : Int) != (r3.len : Int)) = false by simp; omega, brB_false]
    rw [st.ldi 3 0 rfl rfl]
    have hgt : ¬ ((numB (valids l)[pre.length] : Int) ≤ last) := by
      rcases Nat.eq_zero_or_pos pre.length with q | q
      · rw [hl0 q]; omega
      · have := hl1 (pre.length - 1) (by omega) (by omega)
        rw [this]
        have := valids_num (l := l) (i := pre.length - 1) (j := pre.length) (by omega) hlt
        omega
    rw [decide_eq_false hgt, brB_false, st.ldi 4 0 rfl rfl]
    -- what is done behind the test
    have tail : ∀ {K1 : HP}, (∀ h', Hs ((B, hb) :: [([], h)]) [lu c s, le l r3, cA bA { a := r3.a, len := r3.len, cap := r3.cap }] [cl b0 ty_bool [.bool false], cl b4 ty_sl_disk_Entry [.slice r3.a r3.len r3.cap], cl b8 ty_func_sl_bool_int [.func (.func fn_salvorlaw35_CrashAll_1) #[] #[]], cl b9 ty_int [.int .i64 (numB (valids l)[pre.length] : Int)], cl b10 ty_int [.int .i64 ((pre.length + 1 : Nat) : Int)], ob (valids l)[pre.length] x] h' → K1 h') →
        (st1 (⟨b9, 0, none⟩ : Addr) (.int .i64 (numB (valids l)[pre.length] : Int)) <| ldT (.int .i64) (⟨b10, 0, none⟩ : Addr) fun x24 => st1 (⟨b10, 0, none⟩ : Addr) (.int .i64 (IntKind.wrap .i64 (x24 + (1 : Int)))) K1) hq := by
      intro K1 hK1
      refine st.st1 3 0 rfl (by simp) fun h15 st => ?_
      simp only [List.set_cons_zero, List.set_cons_succ] at st
      rw [st.ldi 4 0 rfl rfl, inc_i (show pre.length < 4611686018427387904 by omega)]
      refine st.st1 4 0 rfl (by simp) fun h16 st => ?_
      simp only [List.set_cons_zero, List.set_cons_succ] at st
      exact hK1 _ st
    have tail2 : ∀ h', Hs ((B, hb) :: [([], h)]) [lu c s, le l r3, cA bA { a := r3.a, len := r3.len, cap := r3.cap }] [cl b0 ty_bool [.bool false], cl b4 ty_sl_disk_Entry [.slice r3.a r3.len r3.cap], cl b8 ty_func_sl_bool_int [.func (.func fn_salvorlaw35_CrashAll_1) #[] #[]], cl b9 ty_int [.int .i64 (numB (valids l)[pre.length] : Int)], cl b10 ty_int [.int .i64 ((pre.length + 1 : Nat) : Int)], ob (valids l)[pre.length] x] h' →
        lfp (σ := (Int × Unit)) (fun X s26 => brB (decide (s26.1 < (x.len : Int))) (sx x.a x.len s26.1 1 fun p27 => st1 p27 (.bool false) <| X ((IntKind.wrap .i64 (s26.1 + (1 : Int))), ())) next) ((0 : Int), ()) h' := by
      intro h' st
      refine Hs.zero st 5 rfl (by omega) fun k' h17 hk' st => ?_
      have st := st.drop 5 rfl
      refine hnext _ _ ⟨(numB (valids l)[pre.length] : Int), ?_, (fun h => by simp at h), fun n hn h => ?_⟩ st
      · simp only [List.length_append, List.length_singleton]; rfl
      · have e : n = pre.length := by simp at h; omega
        subst e; rfl
    by_cases hz : pre.length = 0
    · rw [show ((pre.length : Int) == 0) = true by simp [hz], brB_true]
      have e0 : numB (valids l)[pre.length] = 0 := by
        have := valids_first (l := l) (by omega)
        simp only [hz]; exact this
      rw [show ((numB (valids l)[pre.length] : Int) != 0) = false by simp [e0], brB_false]
      exact tail fun h' st => tail2 h' st
    · rw [show ((pre.length : Int) == 0) = false by rw [beq_eq_false_iff_ne]; omega, brB_false]
      exact tail fun h' st => tail2 h' st
  · rintro pre Bs h14 hfin ⟨last, rfl, hl0, hl1⟩ st
    have hfin : pre.length = (valids l).length := by rw [← eL]; exact hfin
    rw [st.ldi 4 0 rfl rfl]
    simp only
    rw [show ((pre.length : Int) == ((valids l).length : Int)) = true by simp [hfin], brB_true, st.ldi 3 0 rfl rfl, st.lds 1 0 rfl rfl]
    have lr := rsn_len (st.fz 1 rfl)
    have hpos := valids_pos l
    obtain ⟨n, hn⟩ : ∃ n, n + 1 = (valids l).length := ⟨(valids l).length - 1, by omega⟩
    have hlast := hl1 n (by omega) (by omega)
    have hln := valids_last hn
    refine ⟨by simp only; omega, ?_⟩
    have hp1 := Nat.two_pow_pos l.length
    have hp2 : 2 ^ l.length ≤ 2 ^ 9 := Nat.pow_le_pow_right (by decide) hlen
    have ep : (1 : Int) * 2 ^ (min ((r3.len : Int)).toNat 64) = ((2 ^ l.length : Nat) : Int) := by
      rw [Int.toNat_natCast, lr, Nat.min_eq_left (by omega), Int.one_mul]; simp
    rw [ep, e9] at *
    have ev : (last == IntKind.wrap .i64 (IntKind.wrap .i64 ((2 ^ l.length : Nat) : Int) - 1)) = true := by
      generalize 2 ^ l.length = p at *
      rw [wrap_i64 (x := (p : Int)) (by omega) (by omega), wrap_i64 (by omega) (by omega), hlast]
      simp; omega
    rw [ev]
    refine st.st1 0 0 rfl (by simp) fun h15 st => ?_
    intro h16 hM
    have st := st.marked hM
    rw [st.ldb 0 0 rfl rfl]
    exact hK _ _ ⟨rfl, st.frame (by simp)⟩

end Go.Proofs.S
