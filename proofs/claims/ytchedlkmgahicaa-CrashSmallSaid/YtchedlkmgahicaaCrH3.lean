/-
  The reference of the crash seat: before, Results.
-/
import Derived.Test.YtchedlkmgahicaaCrH2
import Derived.Test.YtchedlkmgahicaaCrW4
set_option linter.unusedVariables false
set_option linter.unusedSimpArgs false
namespace Go.Sx
open Go

theorem insC_at {α : Type} {c : α → α → Int} {x : α} : ∀ {xs : List α} {n : Nat}, n ≤ xs.length → (∀ j (hj : j < xs.length), j < n → 0 < c x xs[j]) → (∀ hn : n < xs.length, c x xs[n] ≤ 0) →
    insC c x xs = if h : n < xs.length then (if c x xs[n] = 0 then xs else xs.take n ++ x :: xs.drop n) else xs.take n ++ x :: xs.drop n
  | [], n, hn, h1, h2 => by
    have : n = 0 := by simpa using hn
    subst this; rfl
  | y :: xs, 0, hn, h1, h2 => by
    rw [dif_pos (by simp)]
    have := h2 (by simp)
    simp only [List.getElem_cons_zero] at this ⊢
    unfold insC
    by_cases e : c x y = 0
    · rw [if_pos e, if_pos e]
    · rw [if_neg e, if_neg e, if_pos (by omega)]; rfl
  | y :: xs, n + 1, hn, h1, h2 => by
    have h0 := h1 0 (by simp) (by omega)
    simp only [List.getElem_cons_zero] at h0
    have ih := insC_at (c := c) (x := x) (xs := xs) (n := n) (by simpa using hn) (fun j hj q => by have := h1 (j + 1) (by simp; omega) (by omega); simpa using this) (fun q => by have := h2 (by simp; omega); simpa using this)
    unfold insC
    rw [if_neg (by omega), if_neg (by omega), ih]
    by_cases q : n < xs.length
    · rw [dif_pos q, dif_pos (show n + 1 < (y :: xs).length by simp; omega)]
      simp only [List.getElem_cons_succ]
      by_cases e : c x xs[n] = 0
      · rw [if_pos e, if_pos e]
      · rw [if_neg e, if_neg e]; rfl
    · rw [dif_neg q, dif_neg (show ¬ n + 1 < (y :: xs).length by simp; omega)]; rfl

theorem shift_set {α : Type} {ps : List α} {k : Nat} (hk : 0 < k) (hk2 : k ≤ ps.length) (z : α) : (ps.take k ++ z :: ps.drop k).set k (ps[k - 1]'(by omega)) = ps.take (k - 1) ++ (ps[k - 1]'(by omega)) :: ps.drop (k - 1) := by
  obtain ⟨k, rfl⟩ : ∃ j, k = j + 1 := ⟨k - 1, by omega⟩
  have hlt : k < ps.length := by omega
  rw [List.set_append_right _ _ (by simp; omega)]
  have e : k + 1 - (ps.take (k + 1)).length = 0 := by simp; omega
  simp only [e, List.set_cons_zero, Nat.add_sub_cancel]
  rw [List.take_succ_eq_append_getElem hlt, List.append_assoc, List.drop_eq_getElem_cons hlt]; rfl
theorem put_set {α : Type} {ps : List α} {k : Nat} (hk2 : k ≤ ps.length) (z p : α) : (ps.take k ++ z :: ps.drop k).set k p = ps.take k ++ p :: ps.drop k := by
  rw [List.set_append_right _ _ (by simp; omega)]
  have e : k - (ps.take k).length = 0 := by simp; omega
  simp only [e, List.set_cons_zero]
theorem mid_get {α : Type} {ps : List α} {k j : Nat} (hj : j < k) (hk2 : k ≤ ps.length) (z : α) : (ps.take k ++ z :: ps.drop k)[j]? = ps[j]? := by
  rw [List.getElem?_append_left (by simp; omega), List.getElem?_take_of_lt hj]
theorem Inner.insert {β : Type} {I : β → Sl → Asn} {h : Heap} {x : β} {p : Sl} {S2 : List Nat} (hp : (I x p).P S2 h) : ∀ {n : Nat} {xs : List β} {ps : List Sl} {S : List Nat}, Inner I xs ps S h → ∃ S', Inner I (xs.take n ++ x :: xs.drop n) (ps.take n ++ p :: ps.drop n) S' h ∧ ∀ b ∈ S', b ∈ S ∨ b ∈ S2
  | 0, xs, ps, S, hi => ⟨S2 ++ S, ⟨S2, S, rfl, hp, hi⟩, fun b hb => (List.mem_append.1 hb).symm⟩
  | n + 1, [], [], S, hi => ⟨S2 ++ S, ⟨S2, S, rfl, hp, hi⟩, fun b hb => (List.mem_append.1 hb).symm⟩
  | n + 1, y :: xs, q :: ps, S, ⟨T1, T2, e, hq, hi⟩ => by
    obtain ⟨S', a, b⟩ := Inner.insert hp (n := n) hi
    refine ⟨T1 ++ S', ⟨T1, S', rfl, hq, a⟩, fun c hc => ?_⟩
    subst e
    rcases List.mem_append.1 hc with hc | hc
    · exact .inl (List.mem_append_left _ hc)
    · exact (b c hc).imp (List.mem_append_right _) id
  | n + 1, [], _ :: _, S, e => e.elim
  | n + 1, _ :: _, [], S, e => e.elim

end Go.Sx
namespace Go.Proofs.S
open Go Go.Sx Go.Proofs Go.Cr

variable {h : Heap} {l a b : List Ent} {k k2 : List Bool} {m m2 : List Int} {s s2 s3 : Sl} {fr : Fr} {G As : List Asn}

theorem rBefore_c (hA : At h (li m s)) (hB : At h (li m2 s2)) (hl : m.length ≤ 1099511627776) (he : m2.length = m.length) :
    callT Try.prog fn_salvorref35_before #[.slice s.a s.len s.cap, .slice s2.a s2.len s2.cap] .bool (fun r h' => r = decide (cmpW m m2 < 0) ∧ h' = h) h := by
  refine callT_gen fun K hK => S_salvorref35_before (a0 := s) (a1 := s2) K ?_
  unfold F_salvorref35_before
  have l1 := rsl_len hA
  refine lfp_invh (I := fun μ σ h' => ∃ i : Nat, σ = ((i : Int), false, ()) ∧ i ≤ m.length ∧ cmpW (m.drop i) (m2.drop i) = cmpW m m2 ∧ h' = h ∧ μ = m.length - i) ⟨_, 0, rfl, by omega, rfl, rfl, rfl⟩ ?_
  rintro μ σ h' X ⟨i, rfl, hi, hc, rfl, em⟩ hX
  simp only
  by_cases hlt : i < m.length
  · rw [show decide ((i : Int) < (s.len : Int)) = true by rw [l1]; exact dlt_t hlt, brB_true, inc_i (show i < 4611686018427387904 by omega)]
    refine rdE (τ := i64) hA hlt ?_
    refine rdE (τ := i64) hB (show i < m2.length by omega) ?_
    rw [List.drop_eq_getElem_cons hlt, List.drop_eq_getElem_cons (show i < m2.length by omega)] at hc
    unfold cmpW at hc
    simp only [cmpL] at hc
    by_cases hz : m[i] = m2[i]'(by omega)
    · rw [show (m[i] != m2[i]'(by omega)) = false by simp [hz], brB_false]
      rw [if_neg (by simp [Cl.cmpI_zero.2 hz])] at hc
      exact hX _ _ _ ⟨i + 1, rfl, by omega, hc, rfl, rfl⟩ (by omega)
    · rw [show (m[i] != m2[i]'(by omega)) = true by simp [hz], brB_true]
      rw [if_pos (fun q => hz (Cl.cmpI_zero.1 q))] at hc
      refine rdE (τ := i64) hA hlt ?_
      refine rdE (τ := i64) hB (show i < m2.length by omega) ?_
      refine hK _ _ ⟨?_, rfl⟩
      unfold cmpW
      rw [← hc]
      have : Cl.cmpI m[i] (m2[i]'(by omega)) < 0 ↔ m[i] < m2[i]'(by omega) := by
        unfold Cl.cmpI
        split
        · omega
        · split <;> omega
      by_cases q : m[i] < m2[i]'(by omega)
      · rw [decide_eq_true q, decide_eq_true (this.2 q)]
      · rw [decide_eq_false q, decide_eq_false fun z => q (this.1 z)]
  · rw [show decide ((i : Int) < (s.len : Int)) = false by rw [l1]; exact dlt_f hlt, brB_false]
    rw [List.drop_eq_nil_of_le (by omega), List.drop_eq_nil_of_le (by omega)] at hc
    refine hK _ _ ⟨?_, rfl⟩
    rw [← hc]; rfl

theorem foldl_ins_len {α : Type} (c : α → α → Int) : ∀ L : List α, (L.foldl (fun N x => insC c x N) []).length ≤ L.length := sortC_le c
theorem mem_insC' {α : Type} {c : α → α → Int} {x z : α} : ∀ {L : List α}, z ∈ insC c x L → z = x ∨ z ∈ L
  | [], h => by simpa [insC] using h
  | y :: L, h => by
    unfold insC at h
    split at h
    · exact .inr h
    · split at h
      · exact List.mem_cons.1 h
      · rcases List.mem_cons.1 h with rfl | h
        · exact .inr (by simp)
        · exact (mem_insC' h).imp id (List.mem_cons_of_mem _)

theorem rResults_c (hA : At h (lr l s)) (hW : At h (li m s3)) (hl : l.length ≤ 20) (hm : m.length ≤ 1099511627776) (hr : rightL l = true) (hf : fitsP m.length l = true) :
    callT Try.prog fn_salvorref35_Results #[.slice s3.a s3.len s3.cap, .slice s.a s.len s.cap] .sl (fun s' h' => New h.size h' (osg (fun c p => oi c p) ty_sl_int (resL m l) s') ∧ Ext [] h h') h := by
  refine callT_gen fun K hK => S_salvorref35_Results (a0 := s3) (a1 := s) K ?_
  unfold F_salvorref35_Results
  have hmo := right_mono hr
  refine call_of (rAll_c hA hl hmo) ?_
  rintro r0 h1 ⟨n1, x1⟩
  have hvl : (valids l).length ≤ 1048576 := by
    have := valids_le l
    have h2 : 2 ^ l.length ≤ 2 ^ 20 := Nat.pow_le_pow_right (by decide) hl
    have e20 : (2 : Nat) ^ 20 = 1048576 := by decide
    omega
  have hmem : ∀ k ∈ valids l, k.length = l.length := fun k hk => (mem_valids.1 hk).1
  have hres : resL m l = ((valids l).map (applyP m l)).foldl (fun N x => insC cmpW x N) [] := rfl
  rw [hres] at hK
  generalize valids l = V at *
  have st := (((Hs.start h [li m s3, lr l s] (by simp [hA, hW])).new x1 n1).imp 0 rfl (A' := rsg (fun c p => ob c p) V r0) fun S h q => osg_rsg q).freeze 0 rfl
  simp only [List.nil_append, List.cons_append, List.eraseIdx_cons_zero, List.set_cons_zero] at st
  have lV := rsg_len (st.fz 2 rfl)
  have st := st.nil ty_sl_int Ty.sl.enc none
  have st := st.new (Ext.refl' _ _) (A := inn (fun c p => oi c p) ([] : List (List Int)) []) ⟨[], rfl, by simp⟩
  simp only [List.nil_append, List.cons_append] at st
  refine lfp_invh (I := fun μ σ h' => ∃ (i : Nat) (xs : List (List Int)) (ps : List Sl) (s' : Sl), σ = ((i : Int), s', ()) ∧ i ≤ V.length ∧ xs = ((V.take i).map (applyP m l)).foldl (fun N x => insC cmpW x N) [] ∧ (∀ y ∈ xs, y.length = m.length) ∧ ps.length = xs.length ∧
    Hs [([], h)] [li m s3, lr l s, rsg (fun c p => ob c p) V r0] [osl ty_sl_int Ty.sl.enc ps s', inn (fun c p => oi c p) xs ps] h' ∧ μ = V.length - i)
    ⟨_, 0, [], [], ⟨none, 0, 0⟩, rfl, by omega, rfl, by simp, rfl, st, rfl⟩ ?_
  clear st
  rintro μ σ h2 X ⟨i, xs, ps, s', rfl, hi, hxs, hxl, hps, st, em⟩ hX
  simp only
  have lxs : xs.length ≤ i := by
    have := foldl_ins_len cmpW ((V.take i).map (applyP m l))
    rw [← hxs] at this
    simp at this; omega
  by_cases hlt : i < V.length
  · rw [decide_eq_true (show (i : Int) < (r0.len : Int) by omega), brB_true, inc_i (show i < 4611686018427387904 by omega)]
    refine jn_in fun J3 hJ3 => ?_
    refine rdG (st.fz 2 rfl) hlt fun p6 hp6 => ?_
    refine call_of (rApply_c (m := m) (k := V[i]) (st.fz 1 rfl) hp6.rsl (st.fz 0 rfl) (by omega) hm) ?_
    rintro r7 h3 ⟨p7, er, n7, x7⟩
    have hki := hmem _ (List.getElem_mem hlt)
    have e9b : applyC m l V[i] = (applyP m l V[i], 0) := by
      unfold applyC
      have : checkC l V[i] = 0 := by simp [checkC, hr, hki]
      rw [if_pos this, if_pos hf]
    rw [e9b] at er n7
    subst er
    have st := st.new x7 n7
    simp only [List.nil_append, List.cons_append] at st
    have hx : (applyP m l V[i]).length = m.length := applyP_len _ _ _
    have hxs2 : ((V.take (i + 1)).map (applyP m l)).foldl (fun N x => insC cmpW x N) [] = insC cmpW (applyP m l V[i]) xs := by
      rw [take_succ_getE hlt, List.map_append, List.foldl_append, ← hxs]; rfl
    generalize applyP m l V[i] = x at *
    have fin : ∀ (ps' : List Sl) (s' : Sl) (h' : Heap), ps'.length = (insC cmpW x xs).length → Hs [([], h)] [li m s3, lr l s, rsg (fun c p => ob c p) V r0] [osl ty_sl_int Ty.sl.enc ps' s', inn (fun c p => oi c p) (insC cmpW x xs) ps'] h' → J3 (s', ()) h' := by
      intro ps' s' h' hl' st
      refine hJ3 _ _ (hX _ _ _ ⟨i + 1, _, ps', s', rfl, by omega, hxs2.symm, fun y hy => ?_, hl', st, rfl⟩ (by omega))
      rcases mem_insC' hy with rfl | hy
      · exact hx
      · exact hxl y hy
    have ls := osl_len (st.own 0 rfl)
    -- put in
    have ins : ∀ (n : Nat) (h' : Heap), n ≤ xs.length → insC cmpW x xs = xs.take n ++ x :: xs.drop n →
        Hs [([], h)] [li m s3, lr l s, rsg (fun c p => ob c p) V r0] [osl ty_sl_int Ty.sl.enc ps s', inn (fun c p => oi c p) xs ps, oi x p7] h' →
        (nw #[(.slice none 0 0)] ty_sl_int fun b13 =>
          Sx.apd ty_sl_int 1 24 #[(.slice none 0 0)] ⟨s'.a, s'.len, s'.cap⟩ ⟨(some (⟨b13, 0, none⟩ : Addr)), 1, 1⟩ fun s14 =>
          lfp (σ := (Int × Unit)) (fun X15 s16 =>
            brB (decide (s16.1 > (n : Int)))
            (sx s14.a s14.len (IntKind.wrap .i64 (s16.1 - (1 : Int))) 1 fun p17 => ldT .sl p17 fun x18 => sx s14.a s14.len s16.1 1 fun p19 => Sx.st1 p19 (.slice x18.a x18.len x18.cap) <| X15 ((IntKind.wrap .i64 (s16.1 - (1 : Int))), ()))
            (sx s14.a s14.len (n : Int) 1 fun p20 => Sx.st1 p20 (.slice p7.a p7.len p7.cap) <| J3 (⟨s14.a, s14.len, s14.cap⟩, ())))
            ((IntKind.wrap .i64 ((s14.len : Int) - (1 : Int))), ())) h' := by
      intro n h' hn hins st
      refine st.nw fun b13 h4 st => ?_
      simp only [List.nil_append, List.cons_append] at st
      refine Hs.apd (enc := Ty.sl.enc) (v := (⟨none, 0, 0⟩ : Sl)) st 0 3 rfl rfl (by decide) rfl (by omega) (by decide) rfl fun s14 h5 st => ?_
      simp only [List.set_cons_zero] at st
      have st := st.drop 3 rfl
      simp only [List.eraseIdx_cons_succ, List.eraseIdx_cons_zero] at st
      have l14 := osl_len (st.own 0 rfl)
      rw [List.length_append, List.length_singleton] at l14
      have e1 : IntKind.wrap .i64 ((s14.len : Int) - (1 : Int)) = (ps.length : Int) := by rw [wrap_i64 (by omega) (by omega)]; omega
      rw [e1]
      refine lfp_invh (I := fun μ σ h' => ∃ (q : Nat) (z : Sl), σ = ((q : Int), ()) ∧ n ≤ q ∧ q ≤ ps.length ∧ Hs [([], h)] [li m s3, lr l s, rsg (fun c p => ob c p) V r0] [osl ty_sl_int Ty.sl.enc (ps.take q ++ z :: ps.drop q) s14, inn (fun c p => oi c p) xs ps, oi x p7] h' ∧ μ = q)
        ⟨_, ps.length, ⟨none, 0, 0⟩, rfl, by omega, by omega, by rw [List.take_length, List.drop_length]; exact st, rfl⟩ ?_
      clear st
      rintro μ2 σ h6 X2 ⟨q, z, rfl, hq, hq2, st, em2⟩ hX2
      simp only
      by_cases hgt : q > n
      · rw [decide_eq_true (show (q : Int) > (n : Int) by omega), brB_true, dec_i (show q < 4611686018427387904 by omega) (by omega)]
        refine rd_ok (τ := .sl) (st.own 0 rfl).rsl (x := ps[q - 1]'(by omega)) (by rw [mid_get (by omega) hq2, List.getElem?_eq_getElem (show q - 1 < ps.length by omega)]) ?_
        refine st.wrE (τ := .sl) 0 rfl (show q < _ by simp; omega) (ps[q - 1]'(by omega)) fun h7 st => ?_
        simp only [List.set_cons_zero] at st
        rw [shift_set (by omega) hq2] at st
        exact hX2 _ _ _ ⟨q - 1, _, rfl, by omega, by omega, st, rfl⟩ (by omega)
      · rw [decide_eq_false (show ¬ (q : Int) > (n : Int) by omega), brB_false]
        have e : q = n := by omega
        subst e
        refine st.wrE (τ := .sl) 0 rfl (show q < _ by simp; omega) p7 fun h7 st => ?_
        simp only [List.set_cons_zero] at st
        rw [put_set hq2] at st
        have st := (st.moveS (A' := inn (fun c p => oi c p) (xs.take q ++ x :: xs.drop q) (ps.take q ++ p7 :: ps.drop q)) 1 2 rfl rfl (by decide) fun S1 S2 p1 p2 _ => Inner.insert p2 p1).drop 2 rfl
        simp only [List.set_cons_zero, List.set_cons_succ, List.eraseIdx_cons_succ, List.eraseIdx_cons_zero] at st
        rw [← hins] at st
        refine fin _ _ _ ?_ st
        rw [hins]; simp; omega
    clear hX hJ3
    refine jn_mid (fun σ h' => ∃ n : Nat, σ = ((n : Int), ()) ∧ n ≤ xs.length ∧ (∀ j (hj : j < xs.length), j < n → 0 < cmpW x xs[j]) ∧ (∀ hn : n < xs.length, cmpW x xs[n] ≤ 0) ∧
      Hs [([], h)] [li m s3, lr l s, rsg (fun c p => ob c p) V r0] [osl ty_sl_int Ty.sl.enc ps s', inn (fun c p => oi c p) xs ps, oi x p7] h') ?_ ?_
    · rintro σ h4 ⟨n, rfl, hn, hlo, hhi, st⟩
      simp only
      have hins := insC_at hn hlo hhi
      by_cases hn2 : n < xs.length
      · rw [dif_pos hn2] at hins
        rw [decide_eq_true (show (n : Int) < (s'.len : Int) by omega), brB_true]
        refine rdE (τ := .sl) (st.own 0 rfl).rsl (show n < ps.length by omega) ?_
        have hrow := (Inner.at (st.own 1 rfl)).2 n hn2 (by omega)
        have hrl := hxl _ (List.getElem_mem hn2)
        refine call_of (rBefore_c (st.own 2 rfl).rsl hrow.rsl (by omega) (by omega)) ?_
        rintro r h5 ⟨er, rfl⟩
        have er : r = decide (cmpW x xs[n] < 0) := er
        subst er
        have h2 := hhi hn2
        by_cases q : cmpW x xs[n] = 0
        · rw [if_pos q] at hins
          rw [decide_eq_false (show ¬ cmpW x xs[n] < 0 by omega), Bool.not_false, brB_true]
          rw [hins] at fin
          exact fin ps s' _ hps (st.drop 2 rfl)
        · rw [if_neg q] at hins
          rw [decide_eq_true (show cmpW x xs[n] < 0 by omega), Bool.not_true, brB_false]
          exact ins n _ hn hins st
      · rw [dif_neg hn2] at hins
        rw [decide_eq_false (show ¬ (n : Int) < (s'.len : Int) by omega), brB_false]
        exact ins n _ hn hins st
    · intro J8 hJ8
      refine lfp_invh (I := fun μ σ h' => ∃ n : Nat, σ = ((n : Int), ()) ∧ n ≤ xs.length ∧ (∀ j (hj : j < xs.length), j < n → 0 < cmpW x xs[j]) ∧
        Hs [([], h)] [li m s3, lr l s, rsg (fun c p => ob c p) V r0] [osl ty_sl_int Ty.sl.enc ps s', inn (fun c p => oi c p) xs ps, oi x p7] h' ∧ μ = xs.length - n) ⟨_, 0, rfl, by omega, fun _ _ q => by omega, st, rfl⟩ ?_
      clear st
      rintro μ2 σ h4 X2 ⟨n, rfl, hn, hlo, st, em2⟩ hX2
      simp only
      by_cases hn2 : n < xs.length
      · rw [decide_eq_true (show (n : Int) < (s'.len : Int) by omega), brB_true, inc_i (show n < 4611686018427387904 by omega)]
        refine rdE (τ := .sl) (st.own 0 rfl).rsl (show n < ps.length by omega) ?_
        have hrow := (Inner.at (st.own 1 rfl)).2 n hn2 (by omega)
        have hrl := hxl _ (List.getElem_mem hn2)
        refine call_of (rBefore_c hrow.rsl (st.own 2 rfl).rsl (by omega) (by omega)) ?_
        rintro r h5 ⟨er, rfl⟩
        have er : r = decide (cmpW xs[n] x < 0) := er
        subst er
        have anti := totW.anti (a := xs[n]) (b := x) (fun _ _ => trivial) (fun _ _ => trivial)
        by_cases q : cmpW xs[n] x < 0
        · rw [decide_eq_true q, brB_true]
          refine hX2 _ _ _ ⟨n + 1, rfl, by omega, fun j hj q2 => ?_, st, rfl⟩ (by omega)
          rcases Nat.lt_or_ge j n with q3 | q3
          · exact hlo j hj q3
          · have : j = n := by omega
            subst this; exact anti.1 q
        · rw [decide_eq_false q, brB_false]
          refine hJ8 _ _ ⟨n, rfl, hn, hlo, fun _ => ?_, st⟩
          exact Int.not_lt.1 fun z => q (anti.2 z)
      · rw [decide_eq_false (show ¬ (n : Int) < (s'.len : Int) by omega), brB_false]
        exact hJ8 _ _ ⟨n, rfl, hn, hlo, fun q => absurd q hn2, st⟩
  · rw [decide_eq_false (show ¬ (i : Int) < (r0.len : Int) by omega), brB_false]
    rw [List.take_of_length_le (by omega)] at hxs
    rw [← hxs] at hK
    have st2 := (st.move (A' := osg (fun c p => oi c p) ty_sl_int xs s') 0 1 rfl rfl (by decide) fun S1 S2 p1 p2 hd => ⟨ps, S1, S2, rfl, hd, by rw [List.append_nil]; exact p1, p2⟩).drop 1 rfl
    exact hK _ _ ⟨st2.res (by simp) 0 rfl, st2.frame (by simp)⟩

end Go.Proofs.S
