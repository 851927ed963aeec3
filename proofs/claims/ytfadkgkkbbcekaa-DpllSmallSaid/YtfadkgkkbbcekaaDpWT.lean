/-
  The tail of DpllModels, cut out of its text (printed by gen/mkdmd.py).
-/
import Derived.Test.YtfadkgkkbbcekaaDpV
set_option linter.unusedVariables false
namespace Go.Proofs.S
open Go Go.Sx Go.Proofs Go.Cl

end Go.Proofs.S

set_option linter.unusedVariables false
set_option linter.unusedSimpArgs false
namespace Go.Proofs.S
open Go Go.Sx Go.Proofs Go.Cl Go.Dp

variable {h : Heap} {l cs : List (List Int)} {s s2 sm r : Sl} {c d : List Int} {m : List Bool} {b : Nat} {MS : List (List Bool)} {G : List Asn} {v : Nat}

end Go.Proofs.S

set_option linter.unusedVariables false
namespace Go.Proofs.S
open Go Go.Sx Go.Proofs Go.Cl

def SrTl (b0 : Nat) (s5 : Sl) (fr a2 : Int) (r26 : Sl × Bool × Int × Unit) (K : (Sl × (Bool × (Int × Unit))) → HP) : HP := fun h => (
 jn (σ := Bool) (fun t28 =>
 brB t28
 (K (⟨r26.1.a, r26.1.len, r26.1.cap⟩, r26.2.1, (IntKind.wrap .i64 (r26.2.2.1 + (1 : Int))), ()))
 (brB (decide ((IntKind.wrap .i64 (r26.2.2.1 + (2 : Int))) > a2))
 (K (⟨none, 0, 0⟩, false, (IntKind.wrap .i64 (r26.2.2.1 + (2 : Int))), ()))
 (ldA (.cons (.int .i64) (.cons .sl .nil)) (⟨b0, 0, none⟩ : Addr) fun x29 =>
 cj
 (nw #[] ty_int fun b30 =>
 cj
 (apd ty_int 1 8 #[(.int .i64 (0 : Int))] ⟨(some (⟨b30, 0, none⟩ : Addr)), 0, 0⟩ ⟨s5.a, s5.len, s5.cap⟩ fun s31 =>
 ckA (⟨b0, 0, none⟩ : Addr) [(.int .i64 x29.1), (.slice x29.2.1.a x29.2.1.len x29.2.1.cap)] <|
 nw #[(.int .i64 fr)] ty_int fun b32 =>
 apd ty_int 1 8 #[(.int .i64 (0 : Int))] ⟨s31.a, s31.len, s31.cap⟩ ⟨(some (⟨b32, 0, none⟩ : Addr)), 1, 1⟩ fun s33 =>
 ckA (⟨b0, 0, none⟩ : Addr) [(.int .i64 x29.1), (.slice x29.2.1.a x29.2.1.len x29.2.1.cap)] <|
 callT Try.prog fn_salvorref19_Search #[(.agg #[(.int .i64 x29.1), (.slice x29.2.1.a x29.2.1.len x29.2.1.cap)]), (.slice s33.a s33.len s33.cap), (.int .i64 (IntKind.wrap .i64 ((IntKind.wrap .i64 (a2 - r26.2.2.1)) - (2 : Int))))] (.tup (.cons .sl (.cons .bool (.cons (.int .i64) .nil)))) fun r34 =>
 K (⟨r34.1.a, r34.1.len, r34.1.cap⟩, r34.2.1, (IntKind.wrap .i64 ((IntKind.wrap .i64 (r26.2.2.1 + (2 : Int))) + r34.2.2.1)), ()))
 (nw #[(.int .i64 fr)] ty_int fun b35 =>
 apd ty_int 1 8 #[(.int .i64 (0 : Int))] ⟨(some (⟨b30, 0, none⟩ : Addr)), 0, 0⟩ ⟨s5.a, s5.len, s5.cap⟩ fun s36 =>
 ckA (⟨b0, 0, none⟩ : Addr) [(.int .i64 x29.1), (.slice x29.2.1.a x29.2.1.len x29.2.1.cap)] <|
 apd ty_int 1 8 #[(.int .i64 (0 : Int))] ⟨s36.a, s36.len, s36.cap⟩ ⟨(some (⟨b35, 0, none⟩ : Addr)), 1, 1⟩ fun s37 =>
 ckA (⟨b0, 0, none⟩ : Addr) [(.int .i64 x29.1), (.slice x29.2.1.a x29.2.1.len x29.2.1.cap)] <|
 callT Try.prog fn_salvorref19_Search #[(.agg #[(.int .i64 x29.1), (.slice x29.2.1.a x29.2.1.len x29.2.1.cap)]), (.slice s37.a s37.len s37.cap), (.int .i64 (IntKind.wrap .i64 ((IntKind.wrap .i64 (a2 - r26.2.2.1)) - (2 : Int))))] (.tup (.cons .sl (.cons .bool (.cons (.int .i64) .nil)))) fun r38 =>
 K (⟨r38.1.a, r38.1.len, r38.1.cap⟩, r38.2.1, (IntKind.wrap .i64 ((IntKind.wrap .i64 (r26.2.2.1 + (2 : Int))) + r38.2.2.1)), ())))
 (nw #[(.int .i64 fr)] ty_int fun b39 =>
 nw #[] ty_int fun b40 =>
 apd ty_int 1 8 #[(.int .i64 (0 : Int))] ⟨(some (⟨b40, 0, none⟩ : Addr)), 0, 0⟩ ⟨s5.a, s5.len, s5.cap⟩ fun s41 =>
 ckA (⟨b0, 0, none⟩ : Addr) [(.int .i64 x29.1), (.slice x29.2.1.a x29.2.1.len x29.2.1.cap)] <|
 apd ty_int 1 8 #[(.int .i64 (0 : Int))] ⟨s41.a, s41.len, s41.cap⟩ ⟨(some (⟨b39, 0, none⟩ : Addr)), 1, 1⟩ fun s42 =>
 ckA (⟨b0, 0, none⟩ : Addr) [(.int .i64 x29.1), (.slice x29.2.1.a x29.2.1.len x29.2.1.cap)] <|
 callT Try.prog fn_salvorref19_Search #[(.agg #[(.int .i64 x29.1), (.slice x29.2.1.a x29.2.1.len x29.2.1.cap)]), (.slice s42.a s42.len s42.cap), (.int .i64 (IntKind.wrap .i64 ((IntKind.wrap .i64 (a2 - r26.2.2.1)) - (2 : Int))))] (.tup (.cons .sl (.cons .bool (.cons (.int .i64) .nil)))) fun r43 =>
 K (⟨r43.1.a, r43.1.len, r43.1.cap⟩, r43.2.1, (IntKind.wrap .i64 ((IntKind.wrap .i64 (r26.2.2.1 + (2 : Int))) + r43.2.2.1)), ())))))
 (fun J27 =>
 brB r26.2.1
 (J27 true)
 (J27 ((decide ((IntKind.wrap .i64 (r26.2.2.1 + (1 : Int))) > a2)))))) h

end Go.Proofs.S

set_option linter.unusedVariables false
set_option linter.unusedSimpArgs false
namespace Go.Proofs.S
open Go Go.Sx Go.Proofs Go.Cl Go.Dp

variable {h : Heap} {l cs : List (List Int)} {s s2 sl sm r : Sl} {c d L : List Int} {m : List Bool} {b v : Nat} {G : List Asn}

theorem r19_open_c (hA : At h (li c s)) (hB : At h (li L s2)) (hl : c.length ≤ 1048576) (hl2 : L.length ≤ 1099511627776) (hr : ∀ x ∈ c, rt x = true) :
    callT Try.prog fn_salvorref19_open #[.slice s.a s.len s.cap, .slice s2.a s2.len s2.cap] (.tup (.cons .sl (.cons .bool .nil)))
      (fun r h' => ∃ s', r = (s', (openP L c).2, ()) ∧ New h.size h' (io (openP L c).1 s') ∧ Ext [] h h') h := by
  refine callT_gen fun K hK => S_salvorref19_open (a0 := s) (a1 := s2) K ?_
  unfold F_salvorref19_open
  have st := Hs.start h [li c s, li L s2] (by simp [hA, hB])
  have lc := rsl_len hA
  have st := st.nil ty_int i64.enc none
  simp only [List.nil_append] at st
  refine lfp_invh (I := fun m σ h' => ∃ (i : Nat) (out : List Int) (so zs : Sl) (zb : Bool), σ = ((i : Int), so, zb, zs, ()) ∧ i ≤ c.length ∧ out.length ≤ i ∧ openGo L out (c.drop i) = openGo L [] c ∧ Hs [([], h)] [li c s, li L s2] [io out so] h' ∧ m = c.length - i)
    ⟨_, 0, [], _, _, _, rfl, by omega, by simp, rfl, st, rfl⟩ ?_
  clear st
  rintro m σ h1 X ⟨i, out, so, zs, zb, rfl, hi, hol, hg, st, rfl⟩ hX
  simp only
  by_cases hlt : i < c.length
  · refine brT (by rw [lc]; exact dlt_t hlt) ?_
    rw [List.drop_eq_getElem_cons hlt] at hg
    have hg : (if c[i] ∈ L then (([] : List Int), true) else openGo L (if -c[i] ∉ L ∧ c[i] ∉ out then out ++ [c[i]] else out) (c.drop (i + 1))) = openGo L [] c := hg
    have hri := hr _ (List.getElem_mem hlt)
    refine rdE (τ := i64) (st.fz 0 rfl) hlt ?_
    refine call_of (r2_has_c (st.fz 1 rfl) hl2 _) ?_
    rintro _ h2 ⟨rfl, e⟩; subst e
    by_cases h1 : c[i] ∈ L
    · rw [if_pos h1] at hg
      refine brT (by simpa using h1) (hK _ _ ⟨⟨none, 0, 0⟩, ?_, ?_, st.frame (by simp)⟩)
      · unfold openP; rw [← hg]
      · unfold openP; rw [← hg]; exact osl_nil _ _
    rw [if_neg h1] at hg
    refine brF (by simpa using h1) ?_
    refine rdE (τ := i64) (st.fz 0 rfl) hlt ?_
    rw [neg_wrap hri]
    refine call_of (r2_has_c (st.fz 1 rfl) hl2 _) ?_
    rintro _ h3 ⟨rfl, e⟩; subst e
    have fin : ∀ t : Bool, t = decide (-c[i] ∉ L ∧ c[i] ∉ out) → (jn (σ := (Sl × Unit)) (fun s11 => X ((IntKind.wrap .i64 ((i : Int) + (1 : Int))), ⟨s11.1.a, s11.1.len, s11.1.cap⟩, zb, ⟨zs.a, zs.len, zs.cap⟩, ()))
        (fun J10 => brB t (sx s.a s.len (i : Int) 1 fun p12 => ldT (.int .i64) p12 fun x13 => nw #[(.int .i64 x13)] ty_int fun b14 =>
          apd ty_int 1 8 #[(.int .i64 (0 : Int))] ⟨so.a, so.len, so.cap⟩ ⟨(some (⟨b14, 0, none⟩ : Addr)), 1, 1⟩ fun s15 => J10 (⟨s15.a, s15.len, s15.cap⟩, ())) (J10 (⟨so.a, so.len, so.cap⟩, ())))) h3 := by
      rintro t rfl
      refine jn_in fun J hJ => ?_
      by_cases h2 : -c[i] ∉ L ∧ c[i] ∉ out
      · rw [if_pos h2] at hg
        refine brT (decide_eq_true h2) ?_
        refine rdE (τ := i64) (st.fz 0 rfl) hlt ?_
        refine st.nw fun b14 h4 st => ?_
        simp only [List.cons_append, List.nil_append] at st
        refine st.apd (v := c[i]) 0 1 rfl rfl (by decide) rfl (by omega) (by decide) rfl fun s15 h5 st => ?_
        simp only [List.set_cons_zero, List.set_cons_succ] at st
        have st := st.drop 1 rfl
        refine hJ _ _ ?_
        simp only
        rw [inc_i (by omega)]
        exact hX _ _ _ ⟨i + 1, _, s15, zs, zb, rfl, by omega, by simp; omega, hg, st, rfl⟩ (by omega)
      · rw [if_neg h2] at hg
        refine brF (decide_eq_false h2) (hJ _ _ ?_)
        simp only
        rw [inc_i (by omega)]
        exact hX _ _ _ ⟨i + 1, _, so, zs, zb, rfl, by omega, by omega, hg, st, rfl⟩ (by omega)
    refine jn_in fun J hJ => ?_
    by_cases h2 : -c[i] ∈ L
    · exact brF (by simpa using h2) (hJ _ _ (fin _ (by simp [h2])))
    · refine brT (by simpa using h2) ?_
      refine rdE (τ := i64) (st.fz 0 rfl) hlt ?_
      refine call_of (r2_has_c (st.own 0 rfl).rsl (by omega) _) ?_
      rintro _ h4 ⟨rfl, e⟩; subst e
      exact hJ _ _ (fin _ (by simp [h2]))
  · refine brF (by rw [lc]; exact dlt_f hlt) ?_
    rw [List.drop_eq_nil_of_le (by omega)] at hg
    have hg : (out, false) = openGo L [] c := hg
    refine hK _ _ ⟨so, ?_, ?_, st.frame (by simp)⟩
    · unfold openP; rw [← hg]
    · unfold openP; rw [← hg]; exact st.res (by simp) 0 rfl

theorem r19_follows_c {n : Int} (hA : At h (lli cs s)) (hB : At h (li L sl)) (hAs : Asg v L) (hi : Fo.InV v cs) (hl : cs.length ≤ 1048576) (hc : ∀ c ∈ cs, c.length ≤ 1048576) (hv : v ≤ 1048576) (hLl : L.length ≤ 1048576) :
    callT Try.prog fn_salvorref19_Follows #[.agg #[.int .i64 n, .slice s.a s.len s.cap], .slice sl.a sl.len sl.cap] (.tup (.cons .sl (.cons (.int .i64) .nil)))
      (fun r h' => ∃ s', r = (s', (followP v cs L).2, ()) ∧ New h.size h' (io (followP v cs L).1 s') ∧ Ext [] h h') h := by
  refine callT_gen fun K hK => S_salvorref19_Follows (a0 := (n, s, ())) (a1 := sl) K ?_
  unfold F_salvorref19_Follows
  have st := Hs.start h [lli cs s, li L sl] (by simp [hA, hB])
  have ls := rsg_len hA
  refine st.nw fun b0 h1 st => ?_
  have st := Hs.fzl (As := []) st
  refine st.nw fun b1 h2 st => ?_
  simp only [List.cons_append, List.nil_append] at st
  have st := st.asSl 0 i64.enc [] rfl rfl
  refine st.apdS (τ := i64) 0 rfl (st.fz 1 rfl) leaf_int (by simp; omega) (by decide) fun s2 h3 st => ?_
  have st := st.nil ty_int i64.enc none
  simp only [List.nil_append, List.cons_append, List.set_cons_zero] at st
  refine lfp_invh (I := fun m σ h' => ∃ (out : List Int) (sL so z2 : Sl) (z1 : Int), σ = (sL, so, z1, z2, ()) ∧ Nw v L out ∧ Hs [([], h)] [lli cs s, li L sl, cl b0 ty_salvorref05_Formula [.int .i64 n, .slice s.a s.len s.cap]] [io (L ++ out) sL, io out so] h' ∧
      followP v cs L = (out ++ (followGo cs m (L ++ out)).1, (followGo cs m (L ++ out)).2) ∧ freeN v (L ++ out) < m)
    ⟨v + 1, [], _, _, _, _, rfl, trivial, by rw [List.append_nil]; exact st, by rw [List.append_nil, List.nil_append]; rfl, by have := freeN_le (v := v) (L := L ++ []); omega⟩ ?_
  clear st
  rintro m σ h4 X ⟨out, sL, so, z2, z1, rfl, hn, st, hf, hm⟩ hX
  simp only
  have hA1 := hn.asg hAs
  have hol := freeN_app hn
  have hfl := freeN_le (v := v) (L := L)
  simp only [addr_add, Nat.zero_add]
  obtain ⟨n1, rfl⟩ : ∃ n, m = n + 1 := ⟨m - 1, by omega⟩
  unfold followGo at hf
  refine lfp_invh (I := fun m σ h' => ∃ (i : Nat) (next z1 : Int) (z2 : Sl), σ = ((i : Int), next, z1, z2, ()) ∧ i ≤ cs.length ∧ Hs [([], h)] [lli cs s, li L sl, cl b0 ty_salvorref05_Formula [.int .i64 n, .slice s.a s.len s.cap]] [io (L ++ out) sL, io out so] h' ∧ lookGo (L ++ out) i next (cs.drop i) = lookP (L ++ out) cs ∧ m = cs.length - i)
    ⟨_, 0, 0, _, _, rfl, by omega, st, by rw [List.drop_zero]; rfl, rfl⟩ ?_
  clear st
  rintro m2 σ h5 X2 ⟨i, next, w1, w2, rfl, hi2, st, hg, rfl⟩ hX2
  simp only
  rw [ld_sl (i := 1) (st.fblk 2 rfl) rfl]
  by_cases hlt : i < cs.length
  · refine brT (by rw [ls]; exact dlt_t hlt) ?_
    rw [List.drop_eq_getElem_cons hlt] at hg
    unfold lookGo at hg
    have hcl2 := hc cs[i] (List.getElem_mem hlt)
    have hiv := hi cs[i] (List.getElem_mem hlt)
    have h0c : ∀ y ∈ cs[i], y ≠ 0 := fun y hy => (rt_iff.1 (hiv y hy).1).1
    rw [last_open _ h0c] at hg
    rw [ld_sl (i := 1) (st.fblk 2 rfl) rfl]
    refine rdG (st.fz 0 rfl) hlt fun p hp => ?_
    refine call_of (r19_open_c hp (st.own 0 rfl).rsl hcl2 (by simp; omega) (fun x hx => (hiv x hx).1)) ?_
    rintro _ h6 ⟨s11, rfl, n11, x11⟩
    have st := st.new x11 n11
    simp only [List.cons_append, List.nil_append] at st
    have l11 := osl_len (st.own 2 rfl)
    generalize openP (L ++ out) cs[i] = R at *
    obtain ⟨os, is⟩ := R
    simp only at l11 st hg ⊢
    -- on to the next clause
    have on : ∀ (nx : Int), lookGo (L ++ out) (i + 1) nx (cs.drop (i + 1)) = lookP (L ++ out) cs → X2 ((IntKind.wrap .i64 ((i : Int) + (1 : Int))), nx, w1, ⟨w2.a, w2.len, w2.cap⟩, ()) h6 := by
      intro nx hnx
      rw [inc_i (by omega)]
      exact hX2 _ _ _ ⟨i + 1, nx, w1, w2, rfl, by omega, st.drop 2 rfl, hnx, rfl⟩ (by omega)
    cases is with
    | true =>
      have hg : lookGo (L ++ out) (i + 1) next (cs.drop (i + 1)) = lookP (L ++ out) cs := by simpa [lastOf] using hg
      refine jn_in fun J hJ => brF rfl (hJ _ _ (brF rfl ?_))
      clear J hJ
      refine jn_in fun J hJ => brF rfl (hJ _ _ ?_)
      clear J hJ
      refine jn_in fun J hJ => brF rfl (hJ _ _ ?_)
      clear J hJ
      exact jn_in fun J hJ => brF rfl (hJ _ _ (on _ hg))
    | false =>
      match os, l11, st, hg, on with
      | [], l11, st, hg, _ =>
        have hg : ((i : Int), next) = lookP (L ++ out) cs := by simpa [lastOf] using hg
        rw [← hg, if_pos (show ((i : Int), next).1 ≥ 0 from Int.natCast_nonneg i)] at hf
        simp only [List.append_nil] at hf
        refine jn_in fun J hJ => brT rfl (hJ _ _ (brT (by rw [l11]; rfl) ?_))
        refine hK _ _ ⟨so, ?_, ?_, st.frame (by simp)⟩
        · rw [hf]
        · rw [hf]; exact st.res (by simp) 1 rfl
      | [x], l11, st, hg, on =>
        have hg : lookGo (L ++ out) (i + 1) (if next = 0 then x else next) (cs.drop (i + 1)) = lookP (L ++ out) cs := by simpa [lastOf] using hg
        refine jn_in fun J hJ => brT rfl (hJ _ _ (brF (by rw [l11]; rfl) ?_))
        clear J hJ
        refine jn_in fun J hJ => brT rfl (hJ _ _ ?_)
        clear J hJ
        refine jn_in fun J hJ => brT (by rw [l11]; rfl) (hJ _ _ ?_)
        clear J hJ
        refine jn_in fun J hJ => ?_
        by_cases hz : next = 0
        · rw [if_pos hz] at hg
          refine brT (by simpa using hz) ?_
          refine rdE (τ := i64) (i := 0) (st.own 2 rfl).rsl (by simp) ?_
          exact hJ _ _ (on _ hg)
        · rw [if_neg hz] at hg
          exact brF (by simpa using hz) (hJ _ _ (on _ hg))
      | x :: y :: os, l11, st, hg, on =>
        have hg : lookGo (L ++ out) (i + 1) next (cs.drop (i + 1)) = lookP (L ++ out) cs := by simpa [lastOf] using hg
        have l11 : s11.len = os.length + 1 + 1 := l11
        refine jn_in fun J hJ => brT rfl (hJ _ _ (brF (by rw [l11, beq_eq_false_iff_ne]; omega) ?_))
        clear J hJ
        refine jn_in fun J hJ => brT rfl (hJ _ _ ?_)
        clear J hJ
        refine jn_in fun J hJ => brF (by rw [l11, beq_eq_false_iff_ne]; omega) (hJ _ _ ?_)
        clear J hJ
        exact jn_in fun J hJ => brF rfl (hJ _ _ (on _ hg))
  · refine brF (by rw [ls]; exact dlt_f hlt) ?_
    have hd : cs.drop i = [] := List.drop_eq_nil_of_le (by omega)
    rw [hd] at hg
    unfold lookGo at hg
    rw [← hg] at hf
    rw [if_neg (show ¬ ((-1 : Int), next).1 ≥ 0 by simp)] at hf
    by_cases h0 : next = 0
    · rw [if_pos h0] at hf
      simp only [List.append_nil] at hf
      refine brT (beq_iff_eq.2 h0) ?_
      refine hK _ _ ⟨so, ?_, ?_, st.frame (by simp)⟩
      · rw [hf]
      · rw [hf]; exact st.res (by simp) 1 rfl
    · rw [if_neg h0] at hf
      refine brF (beq_eq_false_iff_ne.2 h0) ?_
      have hx : (tv (L ++ out) next = 0 ∧ rt next = true ∧ varL next ≤ v) := by
        have := (follow_spec hi 1 (L ++ out)).1
        unfold followGo at this
        rw [← hg, if_neg (show ¬ ((-1 : Int), next).1 ≥ 0 by simp), if_neg (show ¬ ((-1 : Int), next).2 = 0 from h0)] at this
        exact this.1
      refine st.nw fun b22 h6 st => ?_
      simp only [List.cons_append, List.nil_append] at st
      refine st.apd (v := next) 0 2 rfl rfl (by decide) rfl (by simp; omega) (by decide) rfl fun s23 h7 st => ?_
      simp only [List.set_cons_succ, List.set_cons_zero] at st
      have st := st.drop 2 rfl
      simp only [List.eraseIdx_cons_succ, List.eraseIdx_cons_zero] at st
      refine st.nw fun b24 h8 st => ?_
      simp only [List.cons_append, List.nil_append] at st
      refine st.apd (v := next) 1 2 rfl rfl (by decide) rfl (by omega) (by decide) rfl fun s25 h9 st => ?_
      simp only [List.set_cons_succ, List.set_cons_zero] at st
      have st := st.drop 2 rfl
      simp only [List.eraseIdx_cons_succ, List.eraseIdx_cons_zero] at st
      have hfs := freeN_snoc hx.2.1 hx.2.2 hx.1
      refine hX n1 _ _ ⟨out ++ [next], s23, s25, w2, w1, rfl, ?_, ?_, ?_, ?_⟩ (by omega)
      · have : ∀ (o M : List Int), Nw v M o → (tv (M ++ o) next = 0 ∧ rt next = true ∧ varL next ≤ v) → Nw v M (o ++ [next]) := fun o => by
          induction o with
          | nil => intro M _ q; exact ⟨by simpa using q, trivial⟩
          | cons y o ih => intro M hm q; exact ⟨hm.1, ih _ hm.2 (by simpa using q)⟩
        exact this _ _ hn hx
      · rw [← List.append_assoc]; exact st
      · rw [← List.append_assoc, hf]
        simp
      · rw [← List.append_assoc]; omega

end Go.Proofs.S
