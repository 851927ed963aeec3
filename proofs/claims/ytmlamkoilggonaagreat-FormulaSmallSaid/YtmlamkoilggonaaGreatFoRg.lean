/-
  The reference of formulas: Assign, Norm: contracts.
-/
import Derived.Test.YtmlamkoilggonaaGreatSxNa
import Derived.Test.YtmlamkoilggonaaGreatFoNo
set_option linter.unusedVariables false
set_option linter.unusedSimpArgs false
namespace Go.Proofs.S
open Go Go.Sx Go.Proofs Go.Cl

variable {h : Heap} {c d : List Int} {s s2 : Sl} {fr : Fr} {G As : List Asn} {m k : List Bool} {sm : Sl} {cs ds : List (List Int)} {n n2 : Int}

theorem filter_take_get {p : Int → Bool} {l : List Int} {i : Nat} (hi : i < l.length) : (l.take (i + 1)).filter p = (l.take i).filter p ++ (if p l[i] then [l[i]] else []) := by
  rw [take_succ_getE hi, List.filter_append]
  congr 1
  simp only [List.filter_cons, List.filter_nil]

theorem rassign_c (hA : At h (lli cs s)) {l : Int} (hl : rt l = true) (hcl : cs.length ≤ 1048576) (hc : ∀ c ∈ cs, c.length ≤ 1048576) :
    callT Tryz.prog fn_salvorref05_Assign #[.agg #[.int .i64 n, .slice s.a s.len s.cap], .int .i64 l] (.agg (.cons (.int .i64) (.cons .sl .nil)))
      (fun r h' => ∃ s', r = (n, s', ()) ∧ New h.size h' (oii (assignL l cs) s') ∧ Ext [] h h') h := by
  refine callT_gen fun K hK => S_salvorref05_Assign (a0 := (n, s, ())) (a1 := l) K ?_
  unfold F_salvorref05_Assign
  have st := Hs.start h [lli cs s] (by simp [hA])
  have l1 := rsg_len hA
  have h0 := rt_iff.1 hl
  have wn : IntKind.wrap .i64 (0 - l) = -l := by rw [wrap_i64 (by omega) (by omega)]; omega
  refine st.nw fun b0 h1 st => ?_
  refine st.nw fun b1 h2 st => ?_
  simp only [List.nil_append, List.cons_append] at st
  rw [st.ldi 0 0 rfl rfl]
  refine st.nw fun b3 h3 st => ?_
  simp only [addr_add, Nat.zero_add, List.nil_append, List.cons_append] at st ⊢
  refine st.st1 2 0 rfl (by simp) fun h4 st => ?_
  refine st.st1 2 1 rfl (by simp) fun h5 st => ?_
  simp only [List.set_cons_zero, List.set_cons_succ] at st
  have st := st.nilg (fun c p => io c p) ty_sl_int none
  simp only [List.nil_append, List.cons_append] at st
  refine lfp_invh (I := fun m σ h' => ∃ (i : Nat) (s' : Sl), σ = ((i : Int), ()) ∧ i ≤ cs.length ∧
      Hs [([], h)] [lli cs s] [cl b0 ty_salvorref05_Formula [.int .i64 n, .slice s.a s.len s.cap], cl b1 ty_salvorref05_Formula [.int .i64 0, .slice none 0 0], cl b3 ty_salvorref05_Formula [.int .i64 n, .slice s'.a s'.len s'.cap], oii (assignL l (cs.take i)) s'] h' ∧ m = cs.length - i)
    ⟨_, 0, ⟨none, 0, 0⟩, rfl, by omega, st, rfl⟩ ?_
  clear st
  rintro m1 σ h6 X ⟨i, s', rfl, hi, st, em⟩ hX
  simp only
  rw [st.lds 0 1 rfl rfl]
  by_cases hlt : i < cs.length
  · refine brT (by rw [l1]; exact decide_eq_true (by omega)) ?_
    have hstep := assignL_step l hlt
    have hci := hc _ (List.getElem_mem hlt)
    refine jn_in fun J hJ => ?_
    have go : ∀ s2 h7, Hs [([], h)] [lli cs s] [cl b0 ty_salvorref05_Formula [.int .i64 n, .slice s.a s.len s.cap], cl b1 ty_salvorref05_Formula [.int .i64 0, .slice none 0 0], cl b3 ty_salvorref05_Formula [.int .i64 n, .slice s2.a s2.len s2.cap], oii (assignL l (cs.take (i + 1))) s2] h7 → J () h7 :=
      fun s2 h7 st => hJ _ _ (by rw [inc_i (by omega)]; exact hX _ _ _ ⟨i + 1, s2, rfl, by omega, st, rfl⟩ (by omega))
    rw [st.lds 0 1 rfl rfl]
    refine rdG (st.fz 0 rfl) hlt fun p hp => ?_
    refine call_of (r2_has_c hp (by omega) l) ?_
    rintro _ h7 ⟨rfl, e⟩; subst e
    cases hh : cs[i].contains l
    · rw [hh] at hstep
      simp only [Bool.false_eq_true, if_false] at hstep
      refine brF rfl ?_
      have st := st.nil ty_int i64.enc none
      simp only [List.nil_append, List.cons_append] at st
      let q : Int → Bool := fun x => !(x == -l)
      refine lfp_invh (I := fun m σ h' => ∃ (k : Nat) (sc : Sl), σ = ((k : Int), sc, ()) ∧ k ≤ cs[i].length ∧
          Hs [([], h)] [lli cs s] [cl b0 ty_salvorref05_Formula [.int .i64 n, .slice s.a s.len s.cap], cl b1 ty_salvorref05_Formula [.int .i64 0, .slice none 0 0], cl b3 ty_salvorref05_Formula [.int .i64 n, .slice s'.a s'.len s'.cap], oii (assignL l (cs.take i)) s', io ((cs[i].take k).filter q) sc] h' ∧ m = cs[i].length - k)
        ⟨_, 0, ⟨none, 0, 0⟩, rfl, by omega, st, rfl⟩ ?_
      clear st
      rintro m2 σ h8 X2 ⟨k, sc, rfl, hk, st, em2⟩ hX2
      simp only
      rw [st.lds 0 1 rfl rfl]
      refine rdG (st.fz 0 rfl) hlt fun p hp => ?_
      have lp := rsl_len hp
      by_cases hlt2 : k < cs[i].length
      · refine brT (by rw [lp]; exact decide_eq_true (by omega)) ?_
        rw [st.lds 0 1 rfl rfl]
        refine rdG (st.fz 0 rfl) hlt fun p hp => ?_
        refine rdE (τ := i64) hp hlt2 ?_
        have hft := filter_take_get (p := q) hlt2
        rw [wn]
        refine jn_in fun J2 hJ2 => ?_
        by_cases hne : cs[i][k] = -l
        · refine brF (by simpa using hne) (hJ2 _ _ ?_)
          rw [inc_i (by omega)]
          rw [show q cs[i][k] = false by simp [q, hne]] at hft
          simp only [Bool.false_eq_true, if_false, List.append_nil] at hft
          refine hX2 _ _ _ ⟨k + 1, sc, rfl, by omega, by rw [hft]; exact st, rfl⟩ (by omega)
        · refine brT (by simpa using hne) ?_
          rw [st.lds 0 1 rfl rfl]
          refine rdG (st.fz 0 rfl) hlt fun p hp => ?_
          refine rdE (τ := i64) hp hlt2 ?_
          refine st.nw fun b30 h9 st => ?_
          simp only [List.nil_append, List.cons_append] at st
          have hfl : ((cs[i].take k).filter q).length ≤ 1048576 := by
            refine Nat.le_trans (List.length_filter_le _ _) ?_
            rw [List.length_take]; omega
          refine Hs.apd (enc := i64.enc) (v := cs[i][k]) st 4 5 rfl rfl (by decide) rfl (by omega) (by decide) rfl fun s31 h10 st => hJ2 _ _ ?_
          simp only [List.set_cons_zero, List.set_cons_succ] at st
          rw [inc_i (by omega)]
          rw [show q cs[i][k] = true by simp [q, hne], if_pos rfl] at hft
          refine hX2 _ _ _ ⟨k + 1, s31, rfl, by omega, by rw [hft]; exact st.drop 5 rfl, rfl⟩ (by omega)
      · refine brF (by rw [lp]; exact decide_eq_false (by omega)) ?_
        rw [show cs[i].take k = cs[i] from List.take_of_length_le (by omega)] at st
        rw [st.lds 2 1 rfl rfl]
        refine st.nw fun b33 h9 st => ?_
        simp only [List.nil_append, List.cons_append] at st
        have hal := assignL_len l (cs.take i)
        rw [List.length_take] at hal
        refine Hs.apdG (I := fun c p => io c p) (x := cs[i].filter q) (p := sc) st 3 5 4 rfl rfl rfl (by decide) (by decide) (by omega) (by decide) rfl fun s34 h10 st => ?_
        simp only [List.set_cons_zero, List.set_cons_succ] at st
        refine st.st1 2 1 rfl (by simp) fun h11 st => ?_
        simp only [List.set_cons_zero, List.set_cons_succ] at st
        refine go s34 _ ?_
        rw [hstep]
        exact (st.drop 5 rfl).drop 4 rfl
    · rw [hh, if_pos rfl, List.append_nil] at hstep
      refine brT rfl (go s' _ ?_)
      rw [hstep]; exact st
  · refine brF (by rw [l1]; exact decide_eq_false (by omega)) ?_
    rw [List.take_of_length_le (by omega)] at st
    refine ldF (s := s') (st.blk 2 rfl) ?_
    refine st.st1 1 0 rfl (by simp) fun h7 st => ?_
    refine st.st1 1 1 rfl (by simp) fun h8 st => ?_
    refine ldF (s := s') (st.blk 1 rfl) ?_
    exact hK _ _ ⟨s', rfl, st.res (by simp) 3 rfl, st.frame (by simp)⟩

def cand (M : List (List Int)) (j : Nat) (d : List Int) : Prop := alwaysC d = false ∧ ∀ y, ((normL M).take j).getLast? = some y → 0 < compareP d y
theorem cand_iff {M : List (List Int)} (hM : ∀ c ∈ M, rightC c = true) {j t : Nat} (hj : j ≤ (normL M).length) (ht : t < (normL M).length) {d : List Int} (hd : d ∈ M) (ha : alwaysC d = false) (hn : nrm d = (normL M)[t]) : cand M j d ↔ j ≤ t := by
  obtain ⟨s1, s2, s3⟩ := normL_spec hM
  have hsr : ∀ i (hi : i < (normL M).length), rightC (normL M)[i] = true ∧ nrm (normL M)[i] = (normL M)[i] := fun i hi => s3 _ (List.getElem_mem hi)
  unfold cand
  constructor
  · rintro ⟨_, h⟩
    rcases Nat.lt_or_ge t j with q | q
    · exfalso
      have hl : ((normL M).take j).getLast? = some ((normL M)[j - 1]'(by omega)) := by
        rw [List.getLast?_eq_getElem?, List.length_take, Nat.min_eq_left hj, List.getElem?_take_of_lt (by omega), List.getElem?_eq_getElem (by omega)]
      have h1 := h _ hl
      have hr1 := hsr (j - 1) (by omega)
      rw [← compare_nrm (hM d hd) hr1.1, hn, hr1.2] at h1
      rcases Nat.lt_or_ge t (j - 1) with q2 | q2
      · have := List.pairwise_iff_getElem.1 s1 t (j - 1) ht (by omega) q2
        omega
      · have : t = j - 1 := by omega
        subst this
        rw [(totC.zero (hsr _ ht) (hsr _ ht)).2 rfl] at h1; omega
    · exact q
  · intro q
    refine ⟨ha, fun y hy => ?_⟩
    rw [List.getLast?_eq_getElem?, List.length_take, Nat.min_eq_left hj] at hy
    rcases Nat.eq_zero_or_pos j with e | e
    · subst e; simp at hy
    · rw [List.getElem?_take_of_lt (by omega), List.getElem?_eq_getElem (by omega)] at hy
      have hy := Option.some.inj hy
      subst hy
      have hr1 := hsr (j - 1) (by omega)
      rw [← compare_nrm (hM d hd) hr1.1, hn, hr1.2]
      exact (totC.anti (hsr _ (by omega)) (hsr _ ht)).1 (List.pairwise_iff_getElem.1 s1 (j - 1) t (by omega) ht (by omega))
theorem norm_next {M : List (List Int)} (hM : ∀ c ∈ M, rightC c = true) {j : Nat} (hj : j ≤ (normL M).length) {b : List Int} (hb : b ∈ M) (hc : cand M j b) (hmin : ∀ d ∈ M, cand M j d → ¬ compareP d b < 0) : ∃ hlt : j < (normL M).length, nrm b = (normL M)[j] := by
  obtain ⟨s1, s2, s3⟩ := normL_spec hM
  have hnb : nrm b ∈ normL M := (s2 _).2 ⟨b, hb, hc.1, rfl⟩
  obtain ⟨t, ht, et⟩ := List.mem_iff_getElem.1 hnb
  have hjt := (cand_iff hM hj ht hb hc.1 et.symm).1 hc
  refine ⟨by omega, ?_⟩
  rcases Nat.lt_or_ge j t with q | q
  · exfalso
    have hjl : j < (normL M).length := by omega
    obtain ⟨d, hd, ha, hn⟩ := (s2 _).1 (List.getElem_mem hjl)
    have hcd := (cand_iff hM hj hjl hd ha hn).2 (Nat.le_refl _)
    refine hmin d hd hcd ?_
    rw [← compare_nrm (hM d hd) (hM b hb), hn, ← et]
    exact List.pairwise_iff_getElem.1 s1 j t hjl ht q
  · have : t = j := by omega
    subst this; exact et.symm
theorem norm_end {M : List (List Int)} (hM : ∀ c ∈ M, rightC c = true) {j : Nat} (hj : j ≤ (normL M).length) (hno : ∀ d ∈ M, ¬ cand M j d) : j = (normL M).length := by
  obtain ⟨s1, s2, s3⟩ := normL_spec hM
  rcases Nat.lt_or_ge j (normL M).length with q | q
  · obtain ⟨d, hd, ha, hn⟩ := (s2 _).1 (List.getElem_mem q)
    exact absurd ((cand_iff hM hj q hd ha hn).2 (Nat.le_refl _)) (hno d hd)
  · omega
theorem less_trans {a b d : List Int} (ha : rightC a = true) (hb : rightC b = true) (hd : rightC d = true) (h1 : compareP b d < 0) (h2 : ¬ compareP a d < 0) : ¬ compareP a b < 0 := fun q => by
  have h3 := compare_trans ha hb hd (by omega) (by omega)
  have h4 : compareP a d = 0 := by omega
  have h5 := compare_anti ha hd
  have h6 := compare_trans hd ha hb (by omega) (by omega)
  have h7 := compare_anti hb hd
  omega

theorem normL_le {M : List (List Int)} (hM : ∀ c ∈ M, rightC c = true) : (normL M).length ≤ M.length := by
  obtain ⟨s1, s2, s3⟩ := normL_spec hM
  have nd : (normL M).Nodup := s1.imp_of_mem fun {a b} ha hb q e => by
    subst e
    rw [totC.self (s3 _ ha)] at q; omega
  have := Go.Fo.nodup_le nd (B := M.map nrm) fun x hx => by
    obtain ⟨d, hd, _, e⟩ := (s2 x).1 hx
    exact List.mem_map.2 ⟨d, hd, e⟩
  simpa using this
theorem rnorm_c (hA : At h (lli cs s)) (hM : ∀ c ∈ cs, rightC c = true) (hcl : cs.length ≤ 1048576) :
    callT Tryz.prog fn_salvorref05_Norm #[.agg #[.int .i64 n, .slice s.a s.len s.cap]] (.agg (.cons (.int .i64) (.cons .sl .nil)))
      (fun r h' => ∃ s', r = (n, s', ()) ∧ New h.size h' (oii (normL cs) s') ∧ Ext [] h h') h := by
  refine callT_gen fun K hK => S_salvorref05_Norm (a0 := (n, s, ())) K ?_
  unfold F_salvorref05_Norm
  obtain ⟨s1, s2, s3⟩ := normL_spec hM
  have hNl : (normL cs).length ≤ cs.length := by
    have nd : (normL cs).Nodup := s1.imp_of_mem fun {a b} ha hb q e => by
      subst e
      rw [totC.self (s3 _ ha)] at q; omega
    have := Go.Fo.nodup_le nd (B := cs.map nrm) fun x hx => by
      obtain ⟨d, hd, _, e⟩ := (s2 x).1 hx
      exact List.mem_map.2 ⟨d, hd, e⟩
    simpa using this
  have st := Hs.start h [lli cs s] (by simp [hA])
  have l1 := rsg_len hA
  refine st.nw fun b0 h1 st => ?_
  refine st.nw fun b1 h2 st => ?_
  simp only [List.nil_append, List.cons_append] at st
  rw [st.ldi 0 0 rfl rfl]
  refine st.nw fun b3 h3 st => ?_
  simp only [addr_add, Nat.zero_add, List.nil_append, List.cons_append] at st ⊢
  refine st.st1 2 0 rfl (by simp) fun h4 st => ?_
  refine st.st1 2 1 rfl (by simp) fun h5 st => ?_
  simp only [List.set_cons_zero, List.set_cons_succ] at st
  have st := st.nilg (fun c p => io c p) ty_sl_int none
  simp only [List.nil_append, List.cons_append] at st
  refine lfp_invh (I := fun m σ h' => ∃ (j : Nat) (s' : Sl), j ≤ (normL cs).length ∧
      Hs [([], h)] [lli cs s] [cl b0 ty_salvorref05_Formula [.int .i64 n, .slice s.a s.len s.cap], cl b1 ty_salvorref05_Formula [.int .i64 0, .slice none 0 0], cl b3 ty_salvorref05_Formula [.int .i64 n, .slice s'.a s'.len s'.cap], oii ((normL cs).take j) s'] h' ∧ m = (normL cs).length - j)
    ⟨_, 0, ⟨none, 0, 0⟩, by omega, st, rfl⟩ ?_
  clear st
  rintro m1 σ h6 X ⟨j, s', hj, st, em⟩ hX
  have l3 := rsg_len (oii_at (st.own 3 rfl))
  rw [List.length_take, Nat.min_eq_left hj] at l3
  refine lfp_invh (I := fun m σ h' => ∃ (i : Nat) (b : Int), σ = ((i : Int), b, ()) ∧ i ≤ cs.length ∧ Hs [([], h)] [lli cs s] [cl b0 ty_salvorref05_Formula [.int .i64 n, .slice s.a s.len s.cap], cl b1 ty_salvorref05_Formula [.int .i64 0, .slice none 0 0], cl b3 ty_salvorref05_Formula [.int .i64 n, .slice s'.a s'.len s'.cap], oii ((normL cs).take j) s'] h' ∧
      ((b = -1 ∧ ∀ t (ht : t < cs.length), t < i → ¬ cand cs j cs[t]) ∨ ∃ bi : Nat, b = (bi : Int) ∧ ∃ hb : bi < cs.length, cand cs j cs[bi] ∧ ∀ t (ht : t < cs.length), t < i → cand cs j cs[t] → ¬ compareP cs[t] cs[bi] < 0) ∧ m = cs.length - i)
    ⟨_, 0, -1, rfl, by omega, st, .inl ⟨rfl, fun t _ ht => by omega⟩, rfl⟩ ?_
  clear st
  rintro m2 σ h7 X2 ⟨i, b, rfl, hi, st, hbest, em2⟩ hX2
  simp only
  rw [st.lds 0 1 rfl rfl]
  by_cases hlt : i < cs.length
  · refine brT (by rw [l1]; exact decide_eq_true (by omega)) ?_
    have hri := hM _ (List.getElem_mem hlt)
    refine jn_in fun J9 hJ9 => ?_
    have go : ∀ (b' : Int) h8, Hs [([], h)] [lli cs s] [cl b0 ty_salvorref05_Formula [.int .i64 n, .slice s.a s.len s.cap], cl b1 ty_salvorref05_Formula [.int .i64 0, .slice none 0 0], cl b3 ty_salvorref05_Formula [.int .i64 n, .slice s'.a s'.len s'.cap], oii ((normL cs).take j) s'] h8 →
        ((b' = -1 ∧ ∀ t (ht : t < cs.length), t < i + 1 → ¬ cand cs j cs[t]) ∨ ∃ bi : Nat, b' = (bi : Int) ∧ ∃ hb : bi < cs.length, cand cs j cs[bi] ∧ ∀ t (ht : t < cs.length), t < i + 1 → cand cs j cs[t] → ¬ compareP cs[t] cs[bi] < 0) → J9 (b', ()) h8 :=
      fun b' h8 st hb' => hJ9 _ _ (by
        simp only
        rw [inc_i (by omega)]
        exact hX2 _ _ _ ⟨i + 1, b', rfl, by omega, st, hb', rfl⟩ (by omega))
    rw [st.lds 0 1 rfl rfl]
    refine rdG (st.fz 0 rfl) hlt fun p hp => ?_
    refine call_of (r2_always_c hp hri) ?_
    rintro _ h8 ⟨rfl, e⟩; subst e
    -- skipped or not
    refine jn_mid (M := fun (t : Bool) h' => (t = true ↔ ¬ cand cs j cs[i]) ∧ At h' (li cs[i] p) ∧ Hs [([], h)] [lli cs s] [cl b0 ty_salvorref05_Formula [.int .i64 n, .slice s.a s.len s.cap], cl b1 ty_salvorref05_Formula [.int .i64 0, .slice none 0 0], cl b3 ty_salvorref05_Formula [.int .i64 n, .slice s'.a s'.len s'.cap], oii ((normL cs).take j) s'] h') ?_ ?_
    rotate_left
    · intro J15 hJ15
      cases ha : alwaysC cs[i]
      · refine brF rfl ?_
        rw [st.lds 2 1 rfl rfl]
        refine jn_in fun J26 hJ26 => ?_
        by_cases hj0 : 0 < j
        · refine brT (show decide ((s'.len : Int) > 0) = true from decide_eq_true (by omega)) ?_
          rw [st.lds 2 1 rfl rfl, st.lds 2 1 rfl rfl, l3, wrap_i64 (by omega) (by omega), show ((j : Int) - 1) = ((j - 1 : Nat) : Int) by omega, ← l3]
          have hjl : j - 1 < ((normL cs).take j).length := by rw [List.length_take]; omega
          refine rdG (oii_at (st.own 3 rfl)) (by rw [l3]; exact hjl) fun q hq => ?_
          have hgl : ((normL cs).take j).getLast? = some (((normL cs).take j)[j - 1]) := by
            rw [List.getLast?_eq_getElem?, List.length_take, Nat.min_eq_left hj, List.getElem?_eq_getElem hjl]
          have hyr : rightC ((normL cs).take j)[j - 1] = true := (s3 _ (List.mem_of_mem_take (List.getElem_mem hjl))).1
          simp only [l3] at hq
          refine call_of (r2_compare_c hp hq hri hyr) ?_
          rintro _ h9 ⟨rfl, x9⟩
          refine hJ26 _ _ (hJ15 _ _ ⟨?_, hp.ext x9, st.ext x9⟩)
          rw [decide_eq_true_iff]
          unfold cand
          constructor
          · intro q hc
            have h1 : (0 : Int) < compareP cs[i] ((normL cs).take j)[j - 1] := hc.2 _ hgl
            have q : compareP cs[i] ((normL cs).take j)[j - 1] ≤ 0 := q
            omega
          · intro q
            rcases Int.lt_or_le 0 (compareP cs[i] ((normL cs).take j)[j - 1]) with q2 | q2
            · exact absurd ⟨ha, fun y hy => by rw [hgl] at hy; have := Option.some.inj hy; subst this; exact q2⟩ q
            · exact q2
        · have e0 : j = 0 := by omega
          subst e0
          refine brF (show decide ((s'.len : Int) > 0) = false from decide_eq_false (by omega)) (hJ26 _ _ (hJ15 _ _ ⟨?_, hp, st⟩))
          refine ⟨fun e => (by cases e), fun q => absurd ⟨ha, fun y hy => by simp at hy⟩ q⟩
      · refine brT rfl (hJ15 _ _ ⟨⟨fun _ hc => (by rw [hc.1] at ha; cases ha), fun _ => rfl⟩, hp, st⟩)
    · rintro t16 h9 ⟨ht16, hp, st⟩
      have hsplit : ∀ {P : Nat → Prop}, (∀ t, t < cs.length → t < i → P t) → P i → ∀ t, t < cs.length → t < i + 1 → P t := fun {P} h1 h2 t ht hti => by
        rcases Nat.lt_succ_iff_lt_or_eq.1 hti with q | rfl
        · exact h1 t ht q
        · exact h2
      cases t16 with
      | true =>
        have hnc := ht16.1 rfl
        refine brT rfl (go b h9 st ?_)
        rcases hbest with ⟨e, h⟩ | ⟨bi, e, hb, hc, h⟩
        · refine .inl ⟨e, fun t ht hti => ?_⟩
          rcases Nat.lt_succ_iff_lt_or_eq.1 hti with q | rfl
          · exact h t ht q
          · exact hnc
        · refine .inr ⟨bi, e, hb, hc, fun t ht hti => ?_⟩
          rcases Nat.lt_succ_iff_lt_or_eq.1 hti with q | rfl
          · exact h t ht q
          · exact fun q => absurd q hnc
      | false =>
        have hnc : cand cs j cs[i] := Classical.byContradiction fun q => by have := ht16.2 q; cases this
        refine brF rfl ?_
        refine jn_in fun J17 hJ17 => ?_
        have newB : ∀ h10, Hs [([], h)] [lli cs s] [cl b0 ty_salvorref05_Formula [.int .i64 n, .slice s.a s.len s.cap], cl b1 ty_salvorref05_Formula [.int .i64 0, .slice none 0 0], cl b3 ty_salvorref05_Formula [.int .i64 n, .slice s'.a s'.len s'.cap], oii ((normL cs).take j) s'] h10 →
            (∀ t (ht : t < cs.length), t < i → cand cs j cs[t] → ¬ compareP cs[t] cs[i] < 0) → J17 true h10 := fun h10 st hm => by
          refine hJ17 _ _ (jn_in fun J19 hJ19 => brT rfl (hJ19 _ _ (go _ h10 st (.inr ⟨i, rfl, hlt, hnc, fun t ht hti => ?_⟩))))
          rcases Nat.lt_succ_iff_lt_or_eq.1 hti with q | rfl
          · exact hm t ht q
          · intro _ q
            have := compare_anti hri hri
            omega
        by_cases hb0 : b < 0
        · refine brT (decide_eq_true hb0) (newB _ st ?_)
          rcases hbest with ⟨e, h⟩ | ⟨bi, e, hb, hc, h⟩
          · exact fun t ht hti hct => absurd hct (h t ht hti)
          · omega
        · refine brF (decide_eq_false hb0) ?_
          rcases hbest with ⟨e, h⟩ | ⟨bi, e, hb, hc, hm⟩
          · omega
          subst e
          rw [st.lds 0 1 rfl rfl]
          refine rdG (st.fz 0 rfl) hb fun q hq => ?_
          have hrb := hM _ (List.getElem_mem hb)
          refine call_of (r2_compare_c hp hq hri hrb) ?_
          rintro _ h10 ⟨rfl, x10⟩
          have st := st.ext x10
          by_cases hl : compareP cs[i] cs[bi] < 0
          · rw [decide_eq_true hl]
            refine newB _ st fun t ht hti hct => ?_
            exact less_trans (hM _ (List.getElem_mem ht)) hri hrb hl (hm t ht hti hct)
          · rw [decide_eq_false hl]
            refine hJ17 _ _ (jn_in fun J19 hJ19 => brF rfl (hJ19 _ _ (go _ _ st (.inr ⟨bi, rfl, hb, hc, fun t ht hti => ?_⟩))))
            rcases Nat.lt_succ_iff_lt_or_eq.1 hti with q | rfl
            · exact hm t ht q
            · exact fun _ => hl
  · refine brF (by rw [l1]; exact decide_eq_false (by omega)) ?_
    rcases hbest with ⟨e, hno⟩ | ⟨bi, e, hb, hc, hm⟩
    · subst e
      refine brT (decide_eq_true (by omega)) ?_
      have ej := norm_end hM hj fun d hd => by
        obtain ⟨t, ht, rfl⟩ := List.mem_iff_getElem.1 hd
        exact hno t ht (by omega)
      rw [List.take_of_length_le (by omega)] at st
      refine ldF (s := s') (st.blk 2 rfl) ?_
      refine st.st1 1 0 rfl (by simp) fun h8 st => ?_
      refine st.st1 1 1 rfl (by simp) fun h9 st => ?_
      refine ldF (s := s') (st.blk 1 rfl) ?_
      exact hK _ _ ⟨s', rfl, st.res (by simp) 3 rfl, st.frame (by simp)⟩
    · subst e
      refine brF (decide_eq_false (by omega)) ?_
      have hrb := hM _ (List.getElem_mem hb)
      obtain ⟨hjl, en⟩ := norm_next hM hj (List.getElem_mem hb) hc fun d hd hcd => by
        obtain ⟨t, ht, rfl⟩ := List.mem_iff_getElem.1 hd
        exact hm t ht (by omega) hcd
      rw [st.lds 2 1 rfl rfl, st.lds 0 1 rfl rfl]
      refine rdG (st.fz 0 rfl) hb fun q hq => ?_
      refine call_of (r2_norm_c hq (by have := rightC_len hrb; omega) (rightC_rt hrb)) ?_
      rintro r39 h8 ⟨n8, x8⟩
      rw [en] at n8
      have st := st.new x8 n8
      simp only [List.nil_append, List.cons_append] at st
      rw [st.ck 2 1 rfl rfl]
      refine st.nw fun b40 h9 st => ?_
      simp only [List.nil_append, List.cons_append] at st
      refine Hs.apdG (I := fun c p => io c p) (x := (normL cs)[j]) (p := r39) st 3 5 4 rfl rfl rfl (by decide) (by decide) (by rw [List.length_take]; omega) (by decide) rfl fun s41 h10 st => ?_
      simp only [List.set_cons_zero, List.set_cons_succ] at st
      refine st.st1 2 1 rfl (by simp) fun h11 st => ?_
      simp only [List.set_cons_zero, List.set_cons_succ] at st
      refine hX _ _ _ ⟨j + 1, s41, by omega, ?_, rfl⟩ (by omega)
      rw [take_succ_getE hjl]
      exact (st.drop 5 rfl).drop 4 rfl

end Go.Proofs.S
