/-
  CrashSets, walked.
-/
import Derived.Test.YtchedlkmgahicaaCrW5
set_option linter.unusedVariables false
set_option linter.unusedSimpArgs false
namespace Go.Proofs.S
open Go Go.Sx Go.Proofs Go.Cr Go.Cl

variable {h : Heap} {l a b : List Ent} {k k2 : List Bool} {m m2 : List Int} {s s2 s3 : Sl} {fr : Fr} {G As : List Asn}

theorem rsg_take {β : Type} {I : β → Sl → Asn} {xs : List β} {s : Sl} (hA : At h (rsg I xs s)) {n : Nat} (hn : n ≤ xs.length) : At h (rsg I (xs.take n) (slR s 0 n 1)) := by
  obtain ⟨ps, hl, ho, hx⟩ := rsg_open hA
  have h1 := rsl_sub ho (l := 0) (m := n) (by omega) (by omega)
  rw [List.drop_zero] at h1
  refine rsg_at (ps := ps.take n) (by simp; omega) h1 fun i h1 h2 => ?_
  rw [List.getElem_take, List.getElem_take]
  exact hx i _ _
theorem rsg_cap {β : Type} {I : β → Sl → Asn} {xs : List β} {s : Sl} (hA : At h (rsg I xs s)) : s.len ≤ s.cap := by
  obtain ⟨ps, _, ho, _⟩ := rsg_open hA
  exact rsl_cap ho

/-- An entry of theirs is read into a variable. -/
abbrev cRE (b : Nat) (x : Ent) : Asn := cl b ty_salvorref35_Entry [.int .i64 x.1, .int .i64 x.2.1, .int .i64 x.2.2.1]
theorem Hs.rdREnt (st : Hs fr G As h) (hA : At h (lr l s)) {i : Nat} (hi : i < l.length) {K : Nat → HP} (hK : ∀ b h', Hs fr G (As ++ [cRE b l[i]]) h' → K b h') :
    sx s.a s.len (i : Int) 3 (fun p => ldA tR p fun x => nw #[(.int .i64 (0 : Int)), (.int .i64 (0 : Int)), (.int .i64 (0 : Int))] ty_salvorref35_Entry fun b =>
      st1 (⟨b, 0, none⟩ : Addr) (.int .i64 x.1) <| st1 ((⟨b, 0, none⟩ : Addr).add 1) (.int .i64 x.2.1) <| st1 ((⟨b, 0, none⟩ : Addr).add 2) (.int .i64 x.2.2.1) <| K b) h := by
  refine rdN (τ := tR) hA hi ?_
  refine st.nw fun b h1 st => ?_
  simp only [addr_add, Nat.zero_add]
  have e : ∀ c, (As ++ [c])[As.length]? = some c := fun c => by simp
  have e2 : ∀ c d, (As ++ [c]).set As.length d = As ++ [d] := fun c d => by rw [List.set_append_right _ _ (Nat.le_refl _), Nat.sub_self]; rfl
  refine st.st1 As.length 0 (e _) (by simp) fun h2 st => ?_
  rw [e2] at st
  refine st.st1 As.length 1 (e _) (by simp) fun h3 st => ?_
  rw [e2] at st
  refine st.st1 As.length 2 (e _) (by simp) fun h4 st => ?_
  rw [e2] at st
  exact hK b h4 st

theorem sets_c {c : List Int} {s0 s1 : Sl} {u : Nat} (hA0 : At h (lw c s0)) (hw0 : W32 c) (hA1 : At h (le l s1)) (hw1 : WE l) (hu : u < 4611686018427387904) :
    callT Try.prog fn_salvorlaw35_sets #[.slice s0.a s0.len s0.cap, .slice s1.a s1.len s1.cap, .int .i64 (u : Int)] .bool (fun r h' => r = true ∧ Ext [] h h') h := by
  refine callT_gen fun K hK => S_salvorlaw35_sets (a0 := s0) (a1 := s1) (a2 := (u : Int)) K ?_
  unfold F_salvorlaw35_sets
  show (nw _ _ _) h
  have l0 := rsl_len hA0
  have l1 := rsn_len hA1
  have st := Hs.start h [lw c s0, le l s1] (by simp [hA0, hA1])
  refine st.nw fun b0 h1 st => ?_
  refine st.nw fun b1 h2 st => ?_
  have st := st.freeze 0 rfl
  simp only [List.nil_append, List.cons_append, List.eraseIdx_cons_zero] at st
  have done : ∀ {v w : Bool} {G As : List Asn} {h' : Heap}, v = true → Hs [([], h)] G (cl b1 ty_bool [.bool w] :: As) h' → (st1 (⟨b1, 0, none⟩ : Addr) (.bool v) <| mkd h.size <| ldT .bool (⟨b1, 0, none⟩ : Addr) fun x => K x) h' := by
    rintro v w G As h' rfl st
    refine st.st1 0 0 rfl (by simp) fun h15 st => ?_
    intro h16 hM
    have st := st.marked hM
    simp only [List.set_cons_zero] at st
    rw [st.ldb 0 0 rfl rfl]
    exact hK _ _ ⟨rfl, st.frame (by simp)⟩
  by_cases q1 : (s1.len : Int) > 10
  · rw [decide_eq_true q1, brB_true]; exact done rfl st
  rw [decide_eq_false q1, brB_false]
  by_cases q2 : (s0.len : Int) > 20
  · rw [decide_eq_true q2, brB_true]; exact done rfl st
  rw [decide_eq_false q2, brB_false]
  have hl : l.length ≤ 1099511627776 := by omega
  have hcl : c.length ≤ 1099511627776 := by omega
  have st := st.nil ty_bitword_Word u32.enc none
  simp only [List.nil_append, List.cons_append] at st
  refine lfp_invh (I := fun μ σ h' => ∃ (i : Nat) (s' : Sl), σ = ((i : Int), s', ()) ∧ i ≤ c.length ∧ Hs [([], h)] [lw c s0, le l s1, cl b0 ty_int [.int .i64 (u : Int)]] [cl b1 ty_bool [.bool false], ow (c.take i) s'] h' ∧ μ = c.length - i) ⟨_, 0, ⟨none, 0, 0⟩, rfl, by omega, st, rfl⟩ ?_
  clear st
  rintro μ σ h2 X ⟨i, sF, rfl, hi, st, em⟩ hX
  simp only
  by_cases hlt : i < c.length
  · rw [decide_eq_true (show (i : Int) < (s0.len : Int) by omega), brB_true, inc_i (show i < 4611686018427387904 by omega)]
    refine rdE (τ := u32) (st.fz 0 rfl) hlt ?_
    refine st.nw fun b4 h4 st => ?_
    simp only [List.cons_append, List.nil_append] at st
    refine Hs.apd (enc := u32.enc) (v := c[i]) st 1 2 rfl rfl (by decide) rfl (by simp; omega) (by decide) rfl fun s5 h5 st => ?_
    refine hX _ _ _ ⟨i + 1, s5, rfl, by omega, ?_, rfl⟩ (by omega)
    rw [take_succ_getE hlt]
    exact st.drop 2 rfl
  rw [decide_eq_false (show ¬ (i : Int) < (s0.len : Int) by omega), brB_false]
  rw [List.take_of_length_le (by omega)] at st
  clear hX X em hi hlt
  have st := st.freeze 1 rfl
  simp only [List.nil_append, List.cons_append, List.eraseIdx_cons_zero, List.eraseIdx_cons_succ] at st
  refine call_of (theirs_c (st.fz 1 rfl) hl hw1) ?_
  rintro r10 h4 ⟨n4, x4⟩
  have st := (st.new x4 n4).freeze 1 rfl
  simp only [List.nil_append, List.cons_append, List.eraseIdx_cons_zero, List.eraseIdx_cons_succ] at st
  refine st.nw fun b11 h5 st => ?_
  simp only [List.nil_append, List.cons_append] at st
  refine call_of (rRight_c ((st.fz 4 rfl).rsn wideR) hl) ?_
  rintro _ hq ⟨rfl, rfl⟩
  have hR10 : (allL l).length ≤ 1024 := by
    unfold allL
    split
    · have := valids_le l
      have h2 : 2 ^ l.length ≤ 2 ^ 10 := Nat.pow_le_pow_right (by decide) (by omega)
      have e10 : (2 : Nat) ^ 10 = 1024 := by decide
      omega
    · simp
  have hRrow : ∀ x ∈ allL l, x.length ≤ 1099511627776 := by
    unfold allL
    intro x hx
    split at hx
    · rw [(mem_valids.1 hx).1]; exact hl
    · cases hx
  refine jn_mid (fun σ h' => ∃ sR : Sl, Hs [([], h)] [lw c s0, le l s1, cl b0 ty_int [.int .i64 (u : Int)], ow c sF, orr l r10] [cl b1 ty_bool [.bool false], cl b11 ty_sl_sl_bool [.slice sR.a sR.len sR.cap], osg (fun c p => ob c p) ty_sl_bool (allL l) sR] h') ?_ ?_
  rotate_left
  · intro J13 hJ
    cases hr : rightL l with
    | false =>
      rw [brB_false]
      have e : allL l = [] := by simp [allL, hr]
      rw [e] at hJ
      exact hJ _ _ ⟨⟨none, 0, 0⟩, st.nilg (fun c p => ob c p) ty_sl_bool none⟩
    | true =>
      rw [brB_true]
      have e : allL l = valids l := by simp [allL, hr]
      rw [e] at hJ
      refine call_of (rAll_c ((st.fz 4 rfl).rsn wideR) (by omega) (right_mono hr)) ?_
      rintro r79 h6 ⟨n6, x6⟩
      have st := st.new x6 n6
      simp only [List.nil_append, List.cons_append] at st
      refine st.st1 1 0 rfl (by simp) fun h7 st => ?_
      simp only [List.set_cons_zero, List.set_cons_succ] at st
      exact hJ _ _ ⟨r79, st⟩
  clear st
  rintro σ h6 ⟨sR, st⟩
  have st := (st.freeze 1 rfl).freeze 1 rfl
  simp only [List.nil_append, List.cons_append, List.eraseIdx_cons_zero, List.eraseIdx_cons_succ] at st
  have lR := rsg_len (st.fz 6 rfl).rsg
  refine st.nw fun b15 h7 st => ?_
  refine st.nw fun b16 h8 st => ?_
  have st := (st.nilg (fun c p => ob c p) ty_sl_bool none).nilg (fun c p => ob c p) ty_sl_bool none
  simp only [List.nil_append, List.cons_append] at st
  refine Hs.All st fun bA h9 st => ?_
  simp only [List.nil_append, List.cons_append] at st
  -- all that are handed over
  refine st.rangeG (allNx l) (allGf l) (allFin l) (all_hit 7 1 rfl rfl hl) (fun _ _ _ _ => rfl)
    (fun pre Bs => ∃ s15 : Sl, Bs = [cl b1 ty_bool [.bool false], cl b15 ty_sl_sl_bool [.slice s15.a s15.len s15.cap], cl b16 ty_sl_sl_bool [.slice none 0 0], osg (fun c p => ob c p) ty_sl_bool ((allL l).take pre.length) s15, osg (fun c p => ob c p) ty_sl_bool [] ⟨none, 0, 0⟩])
    (fun _ _ => False) ⟨⟨none, 0, 0⟩, rfl⟩ ?_ ?_ (fun _ _ hf => hf.elim) (fun i id K hi => by simp at hi)
  · rintro pre ⟨x, ⟨⟩⟩ Bs B hb hnx ⟨s15, rfl⟩ st next jump hnext hjump
    have hlt : pre.length < (allL l).length := hnx
    have eg : allGf l pre (x, ()) = ob (allL l)[pre.length] x := by
      show ob ((allL l).getD pre.length []) x = _
      rw [List.getD_eq_getElem?_getD, List.getElem?_eq_getElem hlt]; rfl
    rw [eg] at st
    simp only [List.nil_append, List.cons_append] at st
    simp only
    rw [st.lds 1 0 rfl rfl]
    refine st.nw fun b23 h10 st => ?_
    simp only [List.nil_append, List.cons_append] at st
    refine Hs.apdG (I := fun c p => ob c p) (x := (allL l)[pre.length]) (p := x) st 3 6 5 rfl rfl rfl (by decide) (by decide) (by simp; omega) (by decide) rfl fun s24 h11 st => ?_
    simp only [List.set_cons_zero, List.set_cons_succ] at st
    have st := (st.drop 6 rfl).drop 5 rfl
    simp only [List.eraseIdx_cons_zero, List.eraseIdx_cons_succ] at st
    refine st.st1 1 0 rfl (by simp) fun h12 st => ?_
    simp only [List.set_cons_zero, List.set_cons_succ] at st
    rw [st.lds 1 0 rfl rfl, ld_sl (i := 0) (st.fblk 5 rfl) rfl]
    have l24 := rsg_len (st.own 3 rfl).rsg
    rw [List.length_append, List.length_take, List.length_singleton] at l24
    simp only
    rw [decide_eq_false (show ¬ (s24.len : Int) > (sR.len : Int) by omega), brB_false]
    refine hnext _ _ ⟨s24, ?_⟩ st
    rw [List.length_append, List.length_singleton, take_succ_getE hlt]
  rintro pre Bs h10 hfin ⟨s15, rfl⟩ st
  have hfin : pre.length = (allL l).length := hfin
  rw [hfin, List.take_length] at st

  refine Hs.All st fun bB h11 st => ?_
  simp only [List.nil_append, List.cons_append] at st
  -- and as far as a number
  refine jn_mid (fun σ h' => ∃ s16 : Sl, Hs [([], h)] [lw c s0, le l s1, cl b0 ty_int [.int .i64 (u : Int)], ow c sF, orr l r10, cl b11 ty_sl_sl_bool [.slice sR.a sR.len sR.cap], osg (fun c p => ob c p) ty_sl_bool (allL l) sR, cA bA s1, cA bB s1] [cl b1 ty_bool [.bool false], cl b15 ty_sl_sl_bool [.slice s15.a s15.len s15.cap], cl b16 ty_sl_sl_bool [.slice s16.a s16.len s16.cap], osg (fun c p => ob c p) ty_sl_bool (allL l) s15, osg (fun c p => ob c p) ty_sl_bool ((allL l).take (min u (allL l).length)) s16] h') ?_ ?_
  rotate_left
  · intro J28 hJ
    refine st.rangeG (allNx l) (allGf l) (allFin l) (all_hit 8 1 rfl rfl hl) (fun _ _ _ _ => rfl)
      (fun pre Bs => pre.length ≤ u ∧ ∃ s16 : Sl, Bs = [cl b1 ty_bool [.bool false], cl b15 ty_sl_sl_bool [.slice s15.a s15.len s15.cap], cl b16 ty_sl_sl_bool [.slice s16.a s16.len s16.cap], osg (fun c p => ob c p) ty_sl_bool (allL l) s15, osg (fun c p => ob c p) ty_sl_bool ((allL l).take pre.length) s16])
      (fun j Bs => j = .exit 4 ∧ ∃ s16 : Sl, Bs = [cl b1 ty_bool [.bool false], cl b15 ty_sl_sl_bool [.slice s15.a s15.len s15.cap], cl b16 ty_sl_sl_bool [.slice s16.a s16.len s16.cap], osg (fun c p => ob c p) ty_sl_bool (allL l) s15, osg (fun c p => ob c p) ty_sl_bool ((allL l).take (min u (allL l).length)) s16]) ⟨Nat.zero_le _, ⟨none, 0, 0⟩, rfl⟩ ?_ ?_ (fun _ _ hf => by cases hf.1) ?_
    · rintro pre ⟨x, ⟨⟩⟩ Bs B hb hnx ⟨hpu, s16, rfl⟩ st next jump hnext hjump
      have hlt : pre.length < (allL l).length := hnx
      have eg : allGf l pre (x, ()) = ob (allL l)[pre.length] x := by
        show ob ((allL l).getD pre.length []) x = _
        rw [List.getD_eq_getElem?_getD, List.getElem?_eq_getElem hlt]; rfl
      rw [eg] at st
      simp only [List.nil_append, List.cons_append] at st
      simp only
      have l16 := rsg_len (st.own 4 rfl).rsg
      rw [List.length_take] at l16
      rw [st.lds 2 0 rfl rfl, ld_int (i := 0) (st.fblk 2 rfl) rfl]
      simp only
      by_cases q : pre.length = u
      · rw [show ((s16.len : Int) == (u : Int)) = true by rw [beq_iff_eq]; omega, brB_true]
        refine hjump _ _ _ ⟨rfl, s16, ?_⟩ (st.drop 5 rfl)
        rw [show min u (allL l).length = pre.length by omega]; rfl
      · rw [show ((s16.len : Int) == (u : Int)) = false by rw [beq_eq_false_iff_ne]; omega, brB_false]
        rw [st.lds 2 0 rfl rfl, ld_sl (i := 0) (st.fblk 5 rfl) rfl]
        simp only
        rw [show ((s16.len : Int) == (sR.len : Int)) = false by rw [beq_eq_false_iff_ne]; omega, brB_false]
        rw [st.lds 2 0 rfl rfl]
        refine st.nw fun b75 h12 st => ?_
        simp only [List.nil_append, List.cons_append] at st
        refine Hs.apdG (I := fun c p => ob c p) (x := (allL l)[pre.length]) (p := x) st 4 6 5 rfl rfl rfl (by decide) (by decide) (by simp; omega) (by decide) rfl fun s76 h13 st => ?_
        simp only [List.set_cons_zero, List.set_cons_succ] at st
        have st := (st.drop 6 rfl).drop 5 rfl
        simp only [List.eraseIdx_cons_zero, List.eraseIdx_cons_succ] at st
        refine st.st1 2 0 rfl (by simp) fun h14 st => ?_
        simp only [List.set_cons_zero, List.set_cons_succ] at st
        refine hnext _ _ ⟨by simp; omega, s76, ?_⟩ st
        rw [List.length_append, List.length_singleton, take_succ_getE hlt]
    · rintro pre Bs h12 hfin ⟨hpu, s16, rfl⟩ st
      have hfin : pre.length = (allL l).length := hfin
      refine hJ _ _ ⟨s16, ?_⟩
      rw [show min u (allL l).length = pre.length by omega]; exact st
    · rintro i id K' hi hk Bs h12 ⟨e, s16, rfl⟩ st
      cases e
      have : i = 0 := by
        rcases i with _ | i
        · rfl
        · simp at hi
      subst this
      simp only [List.getElem?_cons_zero, Option.some.injEq] at hk
      subst hk
      exact hJ _ _ ⟨s16, st⟩
  clear st
  rintro σ h12 ⟨s16, st⟩
  try simp only
  refine call_of (count_c (st.fz 1 rfl) hl) ?_
  rintro _ h13 ⟨rfl, x13⟩
  have st := st.ext x13
  refine call_of (results_c (m := c) (st.fz 1 rfl) (st.fz 3 rfl).rsl hl hcl) ?_
  rintro _ h14 ⟨r31, rfl, n14, x14⟩
  have st := st.new x14 n14
  simp only [List.nil_append, List.cons_append] at st
  rw [st.lds 1 0 rfl rfl, ld_sl (i := 0) (st.fblk 5 rfl) rfl]
  refine call_of (lists_c (us := allL l) (vs := allL l) (s := s15) (s2 := sR) (rsgA_mono (fun _ _ _ _ q => osl_rsl q) (st.own 3 rfl).rsg) (rsgA_mono (fun _ _ _ _ q => osl_rsl q) (st.fz 6 rfl).rsg) (by omega) hRrow) ?_
  rintro r h15 ⟨er, x15⟩
  have er : r = true := er.trans (by simp)
  subst er
  have st := st.ext x15
  rw [Bool.not_true, brB_false]
  rw [st.lds 2 0 rfl rfl, ld_sl (i := 0) (st.fblk 5 rfl) rfl, ld_int (i := 0) (st.fblk 2 rfl) rfl, ld_sl (i := 0) (st.fblk 5 rfl) rfl]
  have cR := rsg_cap (st.fz 6 rfl).rsg
  have em : (if (sR.len : Int) < (u : Int) then (sR.len : Int) else (u : Int)) = ((min u (allL l).length : Nat) : Int) := by split <;> omega
  try simp only
  rw [em]
  refine ⟨Int.natCast_nonneg _, Int.ofNat_le.2 (show min u (allL l).length ≤ sR.cap by omega), ?_⟩
  rw [Int.toNat_natCast]
  have hS := rsg_take (rsgA_mono (J := fun c p => lb c p) (fun _ _ _ _ q => osl_rsl q) (st.fz 6 rfl).rsg) (n := min u (allL l).length) (by omega)
  refine call_of (lists_c (us := (allL l).take (min u (allL l).length)) (vs := (allL l).take (min u (allL l).length)) (s := s16) (rsgA_mono (fun _ _ _ _ q => osl_rsl q) (st.own 4 rfl).rsg) hS (by simp; omega) fun x hx => hRrow x (List.mem_of_mem_take hx)) ?_
  rintro r h16 ⟨er, x16⟩
  have er : r = true := er.trans (by simp)
  subst er
  have st := st.ext x16
  rw [Bool.not_true, brB_false]
  have l31 := rsg_len (st.own 5 rfl)
  unfold countP at *
  unfold resP at *
  cases hr : rightL l with
  | false =>
    simp only [hr, Bool.false_eq_true, if_false] at st l31 ⊢
    rw [Bool.not_false, brB_true, show ((0 : Int) == 0) = true from rfl, brB_true, show ((350 : Int) == 350) = true from rfl, brB_true, show ((r31.len : Int) == 0) = true by rw [l31]; rfl, brB_true]
    exact done (by rfl) st
  | true =>
    simp only [hr, if_true] at st l31 ⊢
    rw [Bool.not_true, brB_false]
    have eL : allL l = valids l := by simp [allL, hr]
    have hcnt : cntP l = ((allL l).length : Int) := by
      unfold cntP
      rw [eL] at hR10 ⊢
      rw [Nat.min_eq_left (by omega)]
    have l10 := osn_len (st.fz 4 rfl)
    refine lfp_invh (I := fun μ σ h' => ∃ i : Nat, σ = ((i : Int), ()) ∧ i ≤ l.length ∧ (∀ j (hj : j < l.length), j < i → l[j].1 < c.length) ∧ Hs [([], h)] [lw c s0, le l s1, cl b0 ty_int [.int .i64 (u : Int)], ow c sF, orr l r10, cl b11 ty_sl_sl_bool [.slice sR.a sR.len sR.cap], osg (fun c p => ob c p) ty_sl_bool (allL l) sR, cA bA s1, cA bB s1]
        [cl b1 ty_bool [.bool false], cl b15 ty_sl_sl_bool [.slice s15.a s15.len s15.cap], cl b16 ty_sl_sl_bool [.slice s16.a s16.len s16.cap], osg (fun c p => ob c p) ty_sl_bool (allL l) s15, osg (fun c p => ob c p) ty_sl_bool ((allL l).take (min u (allL l).length)) s16, rsg (fun c p => ow c p) (if fitsP c.length l = true then (if cntP l > 4096 then (([] : List (List Int)), (5 : Int)) else (Cr.resL c l, 0)) else ([], 2)).1 r31] h' ∧ μ = l.length - i)
      ⟨_, 0, rfl, by omega, fun _ _ q => by omega, st, rfl⟩ ?_
    clear st
    rintro μ σ h17 X ⟨i, rfl, hi, hfit, st, em⟩ hX
    simp only
    by_cases hlt : i < l.length
    · rw [decide_eq_true (show (i : Int) < (r10.len : Int) by omega), brB_true, inc_i (show i < 4611686018427387904 by omega)]
      refine Hs.rdREnt st ((st.fz 4 rfl).rsn wideR) hlt fun b51 h18 st => ?_
      simp only [List.nil_append, List.cons_append] at st
      rw [st.ldi 6 0 rfl rfl]
      by_cases hge : l[i].1 ≥ c.length
      · rw [decide_eq_true (show l[i].1 ≥ (s0.len : Int) by omega), brB_true]
        have hf : fitsP c.length l = false := by
          unfold fitsP
          simp only [Bool.not_eq_false', List.any_eq_true, decide_eq_true_eq]
          exact ⟨l[i], List.getElem_mem hlt, hge⟩
        simp only [hf, Bool.false_eq_true, if_false] at st l31 ⊢
        rw [ld_sl (i := 0) (st.fblk 5 rfl) rfl]
        simp only
        rw [show (cntP l == (sR.len : Int)) = true by rw [hcnt, beq_iff_eq]; omega, brB_true, show ((0 : Int) == 0) = true from rfl, brB_true, show ((r31.len : Int) == 0) = true by rw [l31]; rfl, brB_true]
        exact done (by rfl) st
      · rw [decide_eq_false (show ¬ l[i].1 ≥ (s0.len : Int) by omega), brB_false]
        refine hX _ _ _ ⟨i + 1, rfl, by omega, fun j hj q => ?_, st.drop 6 rfl, rfl⟩ (by omega)
        rcases Nat.lt_or_ge j i with q2 | q2
        · exact hfit j hj q2
        · have : j = i := by omega
          subst this; omega
    rw [decide_eq_false (show ¬ (i : Int) < (r10.len : Int) by omega), brB_false]
    have hf : fitsP c.length l = true := by
      unfold fitsP
      simp only [Bool.not_eq_true', List.any_eq_false, decide_eq_true_eq]
      intro x hx
      obtain ⟨j, hj, e⟩ := List.mem_iff_getElem.1 hx
      have := hfit j hj (by omega)
      rw [← e]; omega
    have h4096 : ¬ cntP l > 4096 := by rw [hcnt]; omega
    simp only [hf, if_true, if_neg h4096] at st l31 ⊢
    rw [ld_sl (i := 0) (st.fblk 5 rfl) rfl]
    simp only
    rw [show (cntP l == (sR.len : Int)) = true by rw [hcnt, beq_iff_eq]; omega, brB_true, show ((0 : Int) == 0) = true from rfl, brB_true, brB_true]
    refine call_of (nums_c (st.fz 3 rfl).rsl hcl hw0) ?_
    rintro r59 h19 ⟨n19, x19⟩
    have st := st.new x19 n19
    simp only [List.nil_append, List.cons_append] at st
    refine call_of (rResults_c (m := c) ((st.fz 4 rfl).rsn wideR) (st.own 6 rfl).rsl (by omega) hcl hr hf) ?_
    rintro r60 h20 ⟨n20, x20⟩
    have st := st.new x20 n20
    simp only [List.nil_append, List.cons_append] at st
    have hrl : (Cr.resL c l).length ≤ 1099511627776 := by
      have := resL_le c l
      rw [eL] at hR10; omega
    have hrow : ∀ x ∈ Cr.resL c l, W32 x ∧ x.length ≤ 1099511627776 := fun x hx => by
      obtain ⟨k, _, e⟩ := ((resL_spec c l).2 x).1 hx
      rw [← e]
      exact ⟨applyP_W32 hw0 hw1, by rw [applyP_len]; exact hcl⟩
    refine equalFunc_word ?_
    refine w_equalFuncG (r := fun x y => decide (x = y)) (st.own 5 rfl) (st.own 7 rfl).rsg hrl (fun x hx y hy p q h' x' hp hq => ?_) fun b h' hb x' => ?_
    · exact callF_func (call_of (words_c hp.rsl hq.rsl (hrow x hx).2 (hrow x hx).1) fun r h2 ⟨e, e2⟩ => ⟨e, e2⟩)
    · exact done (hb.2 (list_eq_iff.2 rfl)) (st.ext x')

theorem crashSets_F {c : List Int} {s0 s1 : Sl} {u : Int} (hA0 : At h (lw c s0)) (hw0 : W32 c) (hA1 : At h (le l s1)) (hw1 : WE l) (hu : 0 ≤ u ∧ u ≤ 255)
    (K : Bool → HP) (hK : ∀ x h', (x = true ∧ Ext [] h h') → K x h') : F_salvorlaw35_CrashSets s0 s1 u K h := by
  unfold F_salvorlaw35_CrashSets
  obtain ⟨u, rfl⟩ := Int.eq_ofNat_of_zero_le hu.1
  rw [wrap_i64 (by omega) (by omega)]
  refine call_of (sets_c hA0 hw0 hA1 hw1 (by omega)) ?_
  rintro _ h1 ⟨rfl, x1⟩
  rw [brB_true]
  refine call_of awake_c ?_
  rintro _ h2 ⟨rfl, x2⟩
  exact hK _ _ ⟨rfl, x1.nil_trans x2⟩

end Go.Proofs.S
