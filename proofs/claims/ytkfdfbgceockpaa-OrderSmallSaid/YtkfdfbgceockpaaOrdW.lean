/-
  Bump: its contract.
-/
import Derived.Test.YtkfdfbgceockpaaSxSort
set_option linter.unusedVariables false
set_option linter.unusedSimpArgs false
set_option linter.unusedSectionVars false
namespace Go.Proofs.Ord
open Go Go.Sx Go.Proofs

theorem fdiv30 (x : Int) : Int.fdiv x (2 ^ (min ((30 : Int)).toNat 64)) = x / 1073741824 := by
  rw [show (2 : Int) ^ (min ((30 : Int)).toNat 64) = 1073741824 from rfl, Int.fdiv_eq_ediv_of_nonneg _ (by decide)]

theorem g_map {f : Int → Int} {xs : List Int} {i : Nat} (hi : i < xs.length) : g (xs.map f) i = f (g xs i) := by
  simp [g, List.getD_eq_getElem?_getD, hi]

/-- All activities are divided. -/
theorem divides {h0 h : Heap} {o ab hb pb n b0 : Nat} {Pl A H : List Int} {stp : Int} {K : HP} (hl : A.length = n + 1) (hn : n ≤ 1048576) (k0 : Blk h b0 24 [.pointer (pt o)])
    (hb0 : b0 ≠ ab) (r : Raw h o ab hb pb A H Pl stp) (x : Ext [o, ab, hb, pb] h0 h)
    (hK : ∀ h', Raw h' o ab hb pb (A.map (· / 1073741824)) H Pl stp → Blk h' b0 24 [.pointer (pt o)] → Ext [o, ab, hb, pb] h0 h' → K h') :
    lfp (σ := (Int × Unit)) (fun X36 s37 =>
     brB (decide (s37.1 < (A.length : Int)))
     (ldT .ptr (⟨b0, 0, none⟩ : Addr) fun x38 =>
     nn x38 fun p39 =>
     ldT .sl p39 fun x40 =>
     sx x40.a x40.len s37.1 1 fun p41 =>
     ldT (.int .i64) p41 fun x42 =>
     ge0 (30 : Int) <|
     sx x40.a x40.len s37.1 1 fun p43 =>
     st1 p43 (.int .i64 (Int.fdiv x42 (2 ^ (min ((30 : Int)).toNat 64)))) <|
     X36 ((IntKind.wrap .i64 (s37.1 + (1 : Int))), ()))
     K)
     ((0 : Int), ()) h := by
  refine lfp_invh (I := fun m s h' => ∃ (i : Nat) (A2 : List Int), s = ((i : Int), ()) ∧ i ≤ A.length ∧ Raw h' o ab hb pb A2 H Pl stp ∧ A2.length = n + 1 ∧ (∀ j, g A2 j = if j < i then g A j / 1073741824 else g A j) ∧
      Blk h' b0 24 [.pointer (pt o)] ∧ Ext [o, ab, hb, pb] h0 h' ∧ m = A.length - i)
    ⟨_, 0, A, rfl, by omega, r, hl, fun j => by rw [if_neg (by omega)], k0, x, rfl⟩ ?_
  rintro m s h' X ⟨i, A2, rfl, hi, r, hl2, hg, k0, x, rfl⟩ hX
  by_cases hlt : i < A.length
  · have e : decide ((i : Int) < (A.length : Int)) = true := by simp; omega
    obtain ⟨ha, ch, ra, rp, rc⟩ := r.common
    have ei : IntKind.wrap .i64 ((i : Int) + 1) = (i + 1 : Nat) := by rw [wrap_i64 (by omega) (by omega)]; omega
    simp only [e, brB_true, ld_ptr (i := 0) k0 rfl, nn_some, rc.l0, rdn rc.A (k := i) (show i < A2.length by omega), ge0_ok (show (0 : Int) ≤ 30 by decide), wrn rc.A (k := i) (show i < A2.length by omega), ei, fdiv30]
    refine hX _ _ _ ⟨i + 1, A2.set i (g A2 i / 1073741824), rfl, by omega, r.setAct _ (by omega), by simp [hl2], ?_, k0.set_ne _ hb0, x.set _ _ (by simp), rfl⟩ (by omega)
    intro j
    rw [g_set, hg, hg]
    by_cases e1 : i = j
    · subst e1; rw [if_pos ⟨rfl, by omega⟩, if_neg (by omega), if_pos (by omega)]
    · rw [if_neg (by omega)]
      by_cases e2 : j < i
      · rw [if_pos e2, if_pos (by omega)]
      · rw [if_neg e2, if_neg (by omega)]
  · have e : decide ((i : Int) < (A.length : Int)) = false := by simp; omega
    simp only [e, brB_false]
    have : A2 = A.map (· / 1073741824) := ext_g (by simp [hl, hl2]) fun j hj => by
      rw [hg, if_pos (by omega), g_map (by omega)]
    exact hK _ (this ▸ r) k0 x

theorem upto_heaped {act ys : List Int} (u : Upto (bef act) ys ys.length) : Heaped act ys := fun j j0 j1 => u (par j) j (by have := par_def j; omega) j1

theorem bump_c {h : Heap} {S : List Nat} {o n : Nat} {act : List Int} {step : Int} {L : List Int} (r : Rep h S o n act step L) (lim : Lim act step) (v : Int)
    (hs : 1 ≤ v → v ≤ n → g act v.toNat + step > maxA → SortsTo n) :
    callT Try.prog fn_order_Order_Bump #[.pointer (pt o), .int .i64 v] (.int .i64)
      (fun x h' => x = (if 1 ≤ v ∧ v ≤ n then 0 else 110) ∧ Keeps h S o n (bumpA act n v step) (bumpS act n v step) (srt (bumpA act n v step) L) h') h := by
  have rep := r
  obtain ⟨ab, hb, pb, H, Pl, rfl, r, c, hp, hl, hn, rfl, hbl⟩ := r
  refine callT_gen fun K hK => ?_
  apply S_order_Order_Bump
  unfold F_order_Order_Bump
  simp only [nw_eq]
  obtain ⟨ha, ch, ra, rp, rc⟩ := r.common
  have olt := rc.O.lt
  have alt := rc.A.lt
  have plt := rc.P.lt
  have x1 : Ext [o, ab, hb, pb] h (h.push (.cells #[.pointer (pt o)] 24)) := (Ext.refl _ h).push _
  have xn : Ext [] h (h.push (.cells #[.pointer (pt o)] 24)) := (Ext.refl _ h).push _
  have k0 := Blk.new h 24 #[.pointer (pt o)]
  have r1 := r.ext xn (by simp)
  have rc1 := rc.ext xn (by simp) (by simp) (by simp)
  have rep1 := rep.ext xn (by simp)
  generalize h.push (.cells #[.pointer (pt o)] 24) = h1 at *
  simp only [ld_ptr (i := 0) k0 rfl]
  refine call_of (wrong_c rc1 v) ?_
  rintro w h' ⟨rfl, rfl⟩
  by_cases hv : 1 ≤ v ∧ v ≤ n
  · have e : (if 1 ≤ v ∧ v < (act.length : Int) then (0 : Int) else 110) = 0 := if_pos (by omega)
    have e1 : ((0 : Int) != 0) = false := rfl
    obtain ⟨k, rfl⟩ : ∃ k : Nat, v = k := ⟨v.toNat, by omega⟩
    have l1 := lim.lo k
    have l2 := lim.hi k
    have l3 := lim.s1
    have l4 := lim.s2
    have ew : IntKind.wrap .i64 (g act k + step) = g act k + step := wrap_i64 (by simp only [maxA] at *; omega) (by simp only [maxA] at *; omega)
    simp only [e, e1, brB_false, ld_ptr (i := 0) k0 rfl, nn_some, addr_add, rc1.l0, rc1.l3, rdn rc1.A (k := k) (show k < act.length by omega), ew, wrn rc1.A (k := k) (show k < act.length by omega)]
    have r2 := r1.setAct (i := k) (g act k + step) (by omega)
    have rc2 := rc1.setAct (i := k) (g act k + step) (by omega)
    have x2 := x1.set ⟨ab, k, none⟩ (.int .i64 (g act k + step)) (by simp)
    have k0 := k0.set_ne (a := ⟨ab, k, none⟩) (.int .i64 (g act k + step)) (by simp; omega)
    generalize setC h' ⟨ab, k, none⟩ (.int .i64 (g act k + step)) = h2 at *
    have ek : g (act.set k (g act k + step)) k = g act k + step := by rw [g_set, if_pos ⟨rfl, by omega⟩]
    have la : (act.set k (g act k + step)).length = act.length := by simp
    simp only [ld_ptr (i := 0) k0 rfl, nn_some, rc2.l0]
    rw [rdn rc2.A (k := k) (by omega), ek]
    have en : ((k : Int)).toNat = k := by simp
    have fin : ∀ h', Keeps h [o, ab, hb, pb] o n (bumpA act n k step) (bumpS act n k step) (srt (bumpA act n k step) H) h' → K 0 h' := by
      intro h' t
      refine hK _ _ ⟨(if_pos hv).symm, ?_⟩
      rwa [← srt_congr (c.nodup) (srt_perm act H).symm]
    refine jn_mid (M := fun _ h' => Done h o ab hb pb n k Pl (bumpA act n k step) H (bumpS act n k step) h.size h') ?_ ?_
    · rintro _ h3 d
      exact bump_end c hn hbl (by omega) (by omega) d fin
    intro J hJ
    by_cases hg : g act k + step > maxA
    · have e : decide (g act k + step > 1125899906842624) = true := by simpa using hg
      have eA : bumpA act n k step = (act.set k (g act k + step)).map (· / 1073741824) := by unfold bumpA; rw [if_pos hv, en, if_pos hg]
      have eS : bumpS act n k step = (if 1 > step / 1073741824 then 1 else step / 1073741824) := by unfold bumpS; rw [if_pos hv, en, if_pos hg]
      simp only [e, brB_true, ld_ptr (i := 0) k0 rfl, nn_some, rc2.l0]
      refine divides (h0 := h) (by omega) hn k0 (by omega) r2 x2 ?_
      intro h3 r3 k0 x3
      rw [← eA] at r3
      obtain ⟨ha3, ch3, ra3, rp3, rc3⟩ := r3.common
      simp only [ld_ptr (i := 0) k0 rfl, nn_some, addr_add, rc3.l3, ge0_ok (show (0 : Int) ≤ 30 by decide), fdiv30]
      rw [← eS, Nat.zero_add, st_ok rc3.O (by simp)]
      have r4 := r3.setStep (bumpS act n k step)
      have x4 := x3.set ⟨o, 3, none⟩ (.int .i64 (bumpS act n k step)) (by simp)
      have k0 := k0.set_ne (a := ⟨o, 3, none⟩) (.int .i64 (bumpS act n k step)) (by simp; omega)
      generalize setC h3 ⟨o, 3, none⟩ (.int .i64 (bumpS act n k step)) = h4 at *
      have lA : (bumpA act n k step).length = n + 1 := by rw [eA]; simp [hl]
      have hlen := c.length_le
      have dn : ∀ h5 ys P5, Raw h5 o ab hb pb (bumpA act n k step) ys P5 (bumpS act n k step) → Cons ys P5 n → Same Pl P5 → Heaped (bumpA act n k step) ys → Blk h5 h.size 24 [.pointer (pt o)] → Ext [o, ab, hb, pb] h h5 →
          Done h o ab hb pb n k Pl (bumpA act n k step) H (bumpS act n k step) h.size h5 := fun h5 ys P5 r5 c5 s5 hp5 k5 x5 =>
        ⟨ys, P5, r5, c5, s5, lA, k5, x5, fun _ => hp5, fun i hi _ => ⟨(hp5.hole i hi).1, (hp5.hole i hi).2.2⟩⟩
      rcases r4 with ⟨ra4, rh4, rp4, r4⟩ | ⟨eH, ra4, rp4, ha4, r4⟩
      · simp only [ld_ptr (i := 0) k0 rfl, nn_some, addr_add, r4.toRawC.l1]
        refine call_of (hs hv.1 hv.2 (by rw [en]; exact hg) h4 hb H rh4 (bef (bumpA act n k step)) (.func (.func 36) #[] #[.pointer (pt h.size)]) (weakBef _) r4.Hh hlen ?_) ?_
        · intro h5 a b x5 ha hb
          have m1 := c.mem.1 ha
          have m2 := c.mem.1 hb
          exact bump1_c (r4.toRawC.ext x5 (by simp; exact r4.oh) (by simp; exact r4.ah) (by simp; exact r4.ph)) (k0.ext x5 (by simp; omega)) (by omega) (by omega)
        rintro _ h5 ⟨ys, hpy, hu, hb5, x5⟩
        have rc5 := r4.toRawC.ext x5 (by simp; exact r4.oh) (by simp; exact r4.ah) (by simp; exact r4.ph)
        have k0 := k0.ext x5 (by simp; omega)
        have r5 : RawH h5 o ab hb pb (bumpA act n k step) ys Pl (bumpS act n k step) ra4 rh4 rp4 := by
          refine ⟨?_, hb5, r4.oh, r4.ah, r4.ph⟩
          rw [hpy.length_eq]; exact rc5
        simp only [ld_ptr (i := 0) k0 rfl, nn_some, addr_add, r5.toRawC.l1]
        refine places (h0 := h) (H0 := H) (ha := pt hb) (ch := 0) c hpy hn k0 (by omega) (.inl ⟨_, _, _, r5⟩) (x4.trans x5 (by intro b hb; simp at hb ⊢; omega)) (fun _ => rfl) ?_
        intro h6 P6 r6 c6 s6 k6 x6
        exact hJ _ _ (dn h6 ys P6 r6 c6 s6 (upto_heaped hu) k6 x6)
      · subst eH
        simp only [ld_ptr (i := 0) k0 rfl, nn_some, addr_add, r4.l1]
        refine call_of sort_nil ?_
        rintro _ h5 rfl
        simp only [ld_ptr (i := 0) k0 rfl, nn_some, addr_add, r4.l1]
        refine places (h0 := h) (H0 := []) (ys := []) (ha := ha4) (ch := 0) c (List.Perm.refl _) hn k0 (by omega) (.inr ⟨rfl, _, _, _, r4⟩) x4 (fun h => absurd rfl h) ?_
        intro h6 P6 r6 c6 s6 k6 x6
        exact hJ _ _ (dn h6 [] P6 r6 c6 s6 (fun j j0 j1 => by simp at j1) k6 x6)
    · have e : decide (g act k + step > 1125899906842624) = false := by simpa using hg
      have eA : bumpA act n k step = act.set k (g act k + step) := by unfold bumpA; rw [if_pos hv, en, if_neg hg]
      have eS : bumpS act n k step = step := by unfold bumpS; rw [if_pos hv, en, if_neg hg]
      simp only [e, brB_false]
      refine hJ _ _ ?_
      rw [eA, eS]
      obtain ⟨f1, f2⟩ := hp.forward c hl (v := k) (d := step) (by omega) (by omega) (by omega)
      exact ⟨H, Pl, r2, c, Same.refl _, by omega, k0, x2, f1, f2⟩
  · have e : (if 1 ≤ v ∧ v < (act.length : Int) then (0 : Int) else 110) = 110 := if_neg (by omega)
    have e1 : ((110 : Int) != 0) = true := rfl
    have eA : bumpA act n v step = act := by unfold bumpA; rw [if_neg hv]
    have eS : bumpS act n v step = step := by unfold bumpS; rw [if_neg hv]
    simp only [e, e1, brB_true]
    refine hK _ _ ⟨(if_neg hv).symm, ?_⟩
    rw [eA, eS, ← (srt_sorted c.nodup).eq_srt (List.Perm.refl _)]
    exact ⟨rep1, x1⟩

end Go.Proofs.Ord
