/-
  tells.
-/
import Derived.Test.YtjkgncibelojnaaGreatRcA
import Derived.Test.YtjkgncibelojnaaGreatRtT
import Derived.Test.YtjkgncibelojnaaGreatRcI
import Derived.Test.YtjkgncibelojnaaGreatRuE
set_option linter.unusedVariables false
set_option linter.unusedSimpArgs false
namespace Go.Proofs.S
open Go Go.Sx Go.Proofs Go.Cl Go.Rp Go.Rt
variable {h : Heap} {c d A ids : List Int} {l : List Ent} {gs : List Grp} {s s2 sc : Sl} {fr : Fr} {G As : List Asn} {id p : Int} {i : Nat}
theorem findA_I (hE : rightE l = true) (id : Int) : (findI l id < 0 ∧ findA l id = (0, false, 0)) ∨ ∃ j : Nat, findI l id = (j : Int) ∧ findA l id = ((j : Int), true, 0) := by
  unfold findI findA
  rw [if_pos hE]
  cases findE l id with
  | none => left; exact ⟨by decide, rfl⟩
  | some j => right; exact ⟨j, rfl, rfl⟩
set_option maxRecDepth 20000 in
set_option maxHeartbeats 1000000 in
theorem tells_c (hA : At h (ent l s)) (hl : l.length ≤ 1000) (hll : ∀ x ∈ l, x.2.length ≤ 1000) (id : Int) :
    callT Tryz.prog fn_salvorlaw09_tells #[.slice s.a s.len s.cap, .int .i64 id] .bool (fun r h' => r = true ∧ Ext [] h h') h := by
  refine callT_gen fun K hK => S_salvorlaw09_tells (a0 := s) (a1 := id) K ?_
  unfold F_salvorlaw09_tells
  have hll6 : ∀ x ∈ l, x.2.length ≤ 1048576 := fun x hx => by have := hll x hx; omega
  have hll' : ∀ x ∈ l, x.2.length ≤ 1099511627776 := fun x hx => by have := hll x hx; omega
  have st := Hs.start h [ent l s] (by simp [hA])
  refine call_of (Theirs_c (st.fz 0 rfl) (by omega) hll6) ?_
  rintro r0 h1 ⟨n0, x1⟩
  have st := Hs.fzNew (Bs := [ent l r0]) st x1 (by intro B hB; simp only [List.mem_singleton] at hB; subst hB; exact n0)
  simp only [List.nil_append, List.cons_append] at st
  refine call_of (r9_Right_c (st.fz 1 rfl) (by omega) hll') ?_
  rintro _ h2 ⟨rfl, e⟩; subst e
  refine call_of (ratFind_c (st.fz 0 rfl) (by omega) id) ?_
  rintro _ h3 ⟨rfl, x3⟩
  have st := st.ext x3
  refine call_of (Candidates_c (st.fz 0 rfl) (by omega) id) ?_
  rintro _ h4 ⟨s3, rfl, n4, x4⟩
  have st := st.new x4 n4
  simp only [List.nil_append] at st
  refine call_of (ratRight_c (st.fz 0 rfl) (by omega)) ?_
  rintro _ h5 ⟨rfl, x5⟩
  have st := st.ext x5
  have l3 := osl_len (st.own 0 rfl)
  refine brF (by simp) ?_
  cases hE : rightE l with
  | false =>
    have e1 : findA l id = (0, false, 90) := by unfold findA; rw [hE]; rfl
    have e2 : candsA l id = ([], 90) := by unfold candsA; rw [hE]; rfl
    rw [e2] at l3 ⊢
    rw [e1, l3]
    refine brT rfl ?_
    refine jn_in fun J hJ => brT rfl (hJ _ _ ?_)
    clear J hJ
    refine jn_in fun J hJ => brT rfl (hJ _ _ ?_)
    clear J hJ
    refine jn_in fun J hJ => brT rfl (hJ _ _ ?_)
    clear J hJ
    exact jn_in fun J hJ => brT rfl (hJ _ _ (hK _ _ ⟨rfl, st.frame (by simp)⟩))
  | true =>
  refine brF rfl ?_
  refine call_of (r9_Find_c (st.fz 1 rfl) (by omega) id) ?_
  rintro _ h6 ⟨rfl, e⟩; subst e
  -- what is found
  have e1 : (findA l id).2.1 = decide (findI l id ≥ 0) ∧ (findA l id).1 = (if (0 : Int) > findI l id then (0 : Int) else findI l id) ∧ (findA l id).2.2 = 0 := by
    rcases findA_I hE id with ⟨a, b⟩ | ⟨j, a, b⟩
    · rw [b]; refine ⟨?_, ?_, rfl⟩
      · rw [decide_eq_false (by omega)]
      · rw [if_pos (by omega)]
    · rw [b, a]; refine ⟨?_, ?_, rfl⟩
      · rw [decide_eq_true (by omega)]
      · rw [if_neg (by omega)]
  obtain ⟨e1, e2, e3⟩ := e1
  refine jn_in fun J hJ => brF ?_ (hJ _ _ ?_)
  · rw [e1]; simp
  clear J hJ
  refine jn_in fun J hJ => brF ?_ (hJ _ _ ?_)
  · rw [e2]; simp
  clear J hJ
  refine jn_in fun J hJ => brF (by rw [e3]; rfl) ?_
  refine call_of (r9_Literal_c id _) ?_
  rintro _ h7 ⟨rfl, e⟩; subst e
  cases hr : rt id with
  | false =>
    have ec : candsA l id = ([], 10) := by unfold candsA; rw [hE, hr]; rfl
    rw [ec] at l3 ⊢
    refine hJ _ _ (brF rfl ?_)
    clear J hJ
    refine jn_in fun J hJ => brT (by rw [ec]; rfl) ?_
    rw [l3]
    refine hJ _ _ ?_
    clear J hJ
    exact jn_in fun L hL => brT rfl (hL _ _ (hK _ _ ⟨rfl, st.frame (by simp)⟩))
  | true =>
    have ec : candsA l id = (candIDs l id, 0) := by unfold candsA; rw [hE, hr]; rfl
    rw [ec] at l3 st ⊢
    refine hJ _ _ (brF rfl ?_)
    clear J hJ
    refine jn_in fun J hJ => brF (by rw [ec]; rfl) (hJ _ _ ?_)
    clear J hJ
    have hcl : (candIDs l id).length ≤ l.length := by unfold candIDs; rw [List.length_map]; exact List.length_filter_le _ _
    refine jn_in fun L hL => brF rfl ?_
    refine jn_in fun M hM => brT (by rw [ec]; rfl) ?_
    refine call_of (r9_Candidates_c (st.fz 1 rfl) hE hr) ?_
    rintro r30 h8 ⟨n8, x8⟩
    have st := st.ext x8
    refine call_of (equal_int (st.own 0 rfl).rsl n8.at.rsl (show (candIDs l id).length ≤ 1099511627776 by omega)) ?_
    rintro _ h9 ⟨rfl, e⟩; subst e
    refine hM _ _ ?_
    clear M hM
    refine jn_in fun M hM => brT (by simp) ?_
    refine call_of (Theirs_c (st.fz 0 rfl) (by omega) hll6) ?_
    rintro r28 h10 ⟨n10, x10⟩
    have st := st.ext x10
    refine call_of (sameEntries_c n10.at (st.fz 1 rfl) (by omega) hll') ?_
    rintro _ h11 ⟨rfl, x11⟩
    have st := st.ext x11
    exact hM _ _ (hL _ _ (hK _ _ ⟨by simp, st.frame (by simp)⟩))
end Go.Proofs.S
namespace Go.Sx
open Go
theorem Hs.resAll {fr : Fr} {G As : List Asn} {h h0 : Heap} (st : Hs fr G As h) (hm : ([], h0) ∈ fr) : New h0.size h (starA As) := by
  obtain ⟨S, hs, hz, hf⟩ := st
  refine ⟨S, hs, fun b hb => ?_⟩
  rcases (hf _ hm).2 b hb with k | k
  · cases k
  · exact k
end Go.Sx
namespace Go.Proofs.S
open Go Go.Sx Go.Proofs Go.Cl Go.Rp Go.Rt
variable {h : Heap} {c d A ids : List Int} {l : List Ent} {gs : List Grp} {s s2 sc : Sl} {fr : Fr} {G As : List Asn} {id p : Int} {i : Nat}
theorem text_lensG : ∀ (gs : List Grp) (out : List Int), out.length ≤ (textOf out gs).length ∧ gs.length ≤ (textOf out gs).length ∧ ∀ g ∈ gs, g.2.length ≤ (textOf out gs).length
  | [], out => by simp [textOf]
  | g :: gs, out => by
    obtain ⟨h1, h2, h3⟩ := text_lensG gs out
    have e : (textOf out (g :: gs)).length = (textOf out gs).length + (g.2.length + 1) := by simp [textOf]; omega
    rw [e]
    refine ⟨by omega, by simp; omega, fun x hx => ?_⟩
    rcases List.mem_cons.1 hx with rfl | hx
    · omega
    · have := h3 x hx; omega
theorem split_nil (n : Nat) (h : Heap) : New n h (starA [osn ty_rat_Group 2 tPr.vals [] ⟨none, 0, 0⟩, inn (fun c p => nio' c p) [] [], nio' [] ⟨none, 0, 0⟩]) :=
  ⟨[], ⟨[], [], rfl, by simp, .inr ⟨rfl, rfl, rfl, rfl⟩, [], [], rfl, by simp, rfl, [], [], rfl, by simp, .inr ⟨rfl, rfl, rfl, rfl⟩, rfl⟩, by simp⟩
set_option maxRecDepth 10000 in
set_option maxHeartbeats 2000000 in
theorem SplitO_c {xs : List Int} (hA : At h (li xs s)) (hl : xs.length ≤ 1099511627776) :
    callT Tryz.prog fn_rat_Split #[.slice s.a s.len s.cap] (.tup (.cons .sl (.cons .sl (.cons (.int .i64) .nil))))
      (fun r h' => ∃ s1 s2 ps, r = (s1, s2, (Rt.splitP xs).2.2, ()) ∧ ps.map (·.1) = (Rt.splitP xs).2.1.map (·.1) ∧ New h.size h' (starA [osn ty_rat_Group 2 tPr.vals ps s2, inn (fun c p => nio' c p) ((Rt.splitP xs).2.1.map (·.2)) (ps.map (·.2.1)), nio' (Rt.splitP xs).1 s1]) ∧ Ext [] h h') h := by
  refine callT_gen fun K hK => S_rat_Split (a0 := s) K ?_
  unfold F_rat_Split
  have st := Hs.start h [li xs s] (by simp [hA])
  have ls := rsl_len hA
  refine lfp_invh (I := fun m σ h' => ∃ (i : Nat) (out lst : List Int) (gs ini : List Grp) (gps ips : List tPr.T) (sO sL sG : Sl) (v : Int) (u1 u2 : Sl), σ = ((i : Int), sG, sO, v, u1, u2, ()) ∧ i ≤ xs.length ∧
      splitGo (xs.drop i) out gs = splitGo xs [] [] ∧ out.length ≤ i ∧ gs.length ≤ i ∧ lst.length ≤ i ∧ ips.map (·.1) = ini.map (·.1) ∧
      ((gs = [] ∧ gps = [] ∧ ini = [] ∧ ips = [] ∧ lst = [] ∧ sL = ⟨none, 0, 0⟩) ∨ ∃ id, gs = ini ++ [(id, lst)] ∧ gps = ips ++ [(id, sL, ())]) ∧
      Hs [([], h)] [li xs s] [osn ty_rat_Group 2 tPr.vals gps sG, inn (fun c p => nio' c p) (ini.map (·.2)) (ips.map (·.2.1)), nio' lst sL, nio' out sO] h' ∧ m = xs.length - i)
    ⟨_, 0, [], [], [], [], [], [], ⟨none, 0, 0⟩, ⟨none, 0, 0⟩, ⟨none, 0, 0⟩, 0, ⟨none, 0, 0⟩, ⟨none, 0, 0⟩, rfl, by omega, rfl, by simp, by simp, by simp, rfl, .inl ⟨rfl, rfl, rfl, rfl, rfl, rfl⟩, ?_, rfl⟩ ?_
  · have st := st.new (A := osn ty_rat_Group 2 tPr.vals [] ⟨none, 0, 0⟩) (Ext.refl' [] h) ⟨[], .inr ⟨rfl, rfl, rfl, rfl⟩, by simp⟩
    have st := st.new (A := inn (fun c p => nio' c p) [] []) (Ext.refl' [] h) ⟨[], rfl, by simp⟩
    exact (st.nil ty_int i64.enc none).nil ty_int i64.enc none
  clear st
  rintro m σ h1 X ⟨i, out, lst, gs, ini, gps, ips, sO, sL, sG, v, u1, u2, rfl, hi, hg, hlo, hlg, hll, hids, hc, st, rfl⟩ hX
  simp only
  have hlen : ips.length = ini.length := by simpa using congrArg List.length hids
  have lgp : gps.length = gs.length := by
    rcases hc with ⟨rfl, rfl, _⟩ | ⟨id, rfl, rfl⟩
    · rfl
    · simp [hlen]
  have lG : sG.len = gps.length := osn_len (st.own 0 rfl)
  by_cases hlt : i < xs.length
  · refine brT (by rw [ls]; exact dlt_t hlt) ?_
    refine rdE (τ := i64) (i := i) (st.fz 0 rfl) hlt ?_
    rw [List.drop_eq_getElem_cons hlt] at hg
    generalize hn : xs[i] = n at *
    have bad : (n = 0 ∨ n > maxID ∨ n < -maxID) → ∀ h', Ext [] h h' → K (⟨none, 0, 0⟩, ⟨none, 0, 0⟩, 91, ()) h' := fun q h' x => by
      rw [splitGo_bad n q] at hg
      have e : Rt.splitP xs = ([], [], 91) := by unfold Rt.splitP; rw [← hg]
      exact hK _ _ ⟨_, _, [], by rw [e], by rw [e]; rfl, by rw [e]; exact split_nil _ _, x⟩
    refine jn_in fun J hJ => ?_
    by_cases h0 : n = 0
    · refine brT (by simpa using h0) (hJ _ _ ?_)
      clear J hJ
      exact jn_in fun J hJ => brT rfl (hJ _ _ (brT rfl (bad (.inl h0) _ (st.frame (by simp)))))
    refine brF (by simpa using h0) ?_
    by_cases h2 : n > 1073741824
    · rw [decide_eq_true h2]
      refine hJ _ _ ?_
      clear J hJ
      exact jn_in fun J hJ => brT rfl (hJ _ _ (brT rfl (bad (.inr (.inl h2)) _ (st.frame (by simp)))))
    rw [decide_eq_false h2]
    refine hJ _ _ ?_
    clear J hJ
    refine jn_in fun J hJ => brF rfl ?_
    by_cases h3 : n < -1073741824
    · rw [decide_eq_true h3]
      exact hJ _ _ (brT rfl (bad (.inr (.inr h3)) _ (st.frame (by simp))))
    rw [decide_eq_false h3]
    refine hJ _ _ (brF rfl ?_)
    clear J hJ bad
    have hgd : ¬ (n = 0 ∨ n > maxID ∨ n < -maxID) := by unfold maxID; rintro (q | q | q) <;> omega
    refine jn_in fun J hJ => ?_
    by_cases hneg : n < 0
    · refine brT (decide_eq_true hneg) ?_
      rw [show IntKind.wrap .i64 (0 - n) = -n by rw [wrap_i64 (by omega) (by omega)]; omega]
      refine st.nw fun b4 h4 st => ?_
      simp only [List.cons_append, List.nil_append] at st
      refine Hs.apdN (v := ((-n, ⟨none, 0, 0⟩, ()) : tPr.T)) st widePr (by decide) 0 4 rfl rfl (by decide) (fun u hu => by
        have hu : u ∈ [Value.int .i64 (-n), .slice none 0 0] := hu
        simp only [List.mem_cons, List.not_mem_nil, or_false] at hu
        rcases hu with rfl | rfl <;> rfl) (by omega) (by decide) rfl fun s79 h5 st => hJ _ _ ?_
      simp only [List.set_cons_zero, List.set_cons_succ] at st
      have st := st.drop 4 rfl
      simp only [List.eraseIdx_cons_succ, List.eraseIdx_cons_zero] at st
      rw [inc_i (by omega)]
      rw [splitGo_neg hgd hneg] at hg
      rcases hc with ⟨rfl, rfl, rfl, rfl, rfl, rfl⟩ | ⟨id, rfl, rfl⟩
      · exact hX _ _ _ ⟨i + 1, out, [], [(-n, [])], [], [(-n, ⟨none, 0, 0⟩, ())], [], _, ⟨none, 0, 0⟩, _, _, _, _, rfl, by omega, hg, by omega, by simp, by simp, rfl, .inr ⟨-n, rfl, rfl⟩, st, rfl⟩ (by omega)
      · have st := st.move (A' := inn (fun c p => nio' c p) (ini.map (·.2) ++ [lst]) (ips.map (·.2.1) ++ [sL])) 1 2 rfl rfl (by decide) fun S1 S2 h1 h2 hd => Inner.snoc h1 h2
        simp only [List.set_cons_zero, List.set_cons_succ] at st
        have st := st.imp (A' := nio' [] ⟨none, 0, 0⟩) 2 rfl fun S h e => .inr ⟨e, rfl, rfl, rfl⟩
        simp only [List.set_cons_zero, List.set_cons_succ] at st
        refine hX _ _ _ ⟨i + 1, out, [], ini ++ [(id, lst)] ++ [(-n, [])], ini ++ [(id, lst)], ips ++ [(id, sL, ())] ++ [(-n, ⟨none, 0, 0⟩, ())], ips ++ [(id, sL, ())], _, ⟨none, 0, 0⟩, _, _, _, _, rfl, by omega, hg, by omega, by simp at hlg ⊢; omega, by simp, by simp [hids], .inr ⟨-n, rfl, rfl⟩, ?_, rfl⟩ (by omega)
        simp only [List.map_append, List.map_cons, List.map_nil]
        exact st
    · refine brF (decide_eq_false hneg) ?_
      rw [splitGo_pos hgd hneg] at hg
      refine jn_in fun L hL => ?_
      rcases hc with ⟨rfl, rfl, rfl, rfl, rfl, rfl⟩ | ⟨id, rfl, rfl⟩
      · refine brF (by rw [lG]; rfl) ?_
        refine st.nw fun b4 h4 st => ?_
        simp only [List.cons_append, List.nil_append] at st
        refine st.apd (v := n) 3 4 rfl rfl (by decide) rfl (by omega) (by decide) rfl fun s7 h5 st => hL _ _ (hJ _ _ ?_)
        simp only [List.set_cons_zero, List.set_cons_succ] at st
        have st := st.drop 4 rfl
        rw [inc_i (by omega)]
        exact hX _ _ _ ⟨i + 1, out ++ [n], [], [], [], [], [], _, ⟨none, 0, 0⟩, _, _, _, _, rfl, by omega, hg, by simp; omega, by simp, by simp, rfl, .inl ⟨rfl, rfl, rfl, rfl, rfl, rfl⟩, st, rfl⟩ (by omega)
      · refine brT (by rw [lG]; simp) ?_
        have lg2 : ips.length + 1 ≤ i := by simp at hlg lgp; omega
        rw [show IntKind.wrap .i64 ((sG.len : Int) - 1) = ((ips.length : Nat) : Int) by rw [lG, List.length_append, List.length_singleton, wrap_i64 (by omega) (by omega)]; omega]
        refine Hs.prF st 0 rfl (i := ips.length) (by simp) fun b hb => ?_
        simp only [List.getElem_append_right (Nat.le_refl _), Nat.sub_self, List.getElem_cons_zero]
        refine st.nw fun b4 h4 st => ?_
        simp only [List.cons_append, List.nil_append] at st
        refine st.apd (v := n) 2 4 rfl rfl (by decide) rfl (by omega) (by decide) rfl fun s7 h5 st => ?_
        simp only [List.set_cons_zero, List.set_cons_succ] at st
        refine Hs.prW st 0 rfl (i := ips.length) (by simp) hb s7 fun h6 st => hL _ _ (hJ _ _ ?_)
        simp only [List.set_cons_zero, List.set_cons_succ] at st
        have st := st.drop 4 rfl
        simp only [List.eraseIdx_cons_succ, List.eraseIdx_cons_zero] at st
        rw [inc_i (by omega)]
        have hput : putHint out (ini ++ [(id, lst)]) n = (out, ini ++ [(id, lst ++ [n])]) := by unfold putHint; simp
        rw [hput] at hg
        refine hX _ _ _ ⟨i + 1, out, lst ++ [n], ini ++ [(id, lst ++ [n])], ini, ips ++ [(id, s7, ())], ips, _, s7, _, _, _, _, rfl, by omega, hg, by omega, by simp at hlg ⊢; omega, by simp; omega, hids, .inr ⟨id, rfl, rfl⟩, ?_, rfl⟩ (by omega)
        have e2 : (ips ++ [(id, sL, ())]).set ips.length (((ips ++ [(id, sL, ())] : List tPr.T)[ips.length]'(by simp)).1, s7, ()) = (ips ++ [(id, s7, ())] : List tPr.T) := by
          rw [List.set_append_right _ _ (Nat.le_refl _), Nat.sub_self]
          simp
        rw [e2] at st
        exact st
  · refine brF (by rw [ls]; exact dlt_f hlt) ?_
    rw [List.drop_eq_nil_of_le (by omega)] at hg
    have hg : some (out, gs) = splitGo xs [] [] := hg
    have e : Rt.splitP xs = (out, gs, 0) := by unfold Rt.splitP; rw [← hg]
    rcases hc with ⟨rfl, rfl, rfl, rfl, rfl, rfl⟩ | ⟨id, rfl, rfl⟩
    · refine hK _ _ ⟨sO, sG, [], by rw [e], by rw [e]; rfl, ?_, st.frame (by simp)⟩
      rw [e]
      have st := st.drop 2 rfl
      exact st.resAll (by simp)
    · have st := st.move (A' := inn (fun c p => nio' c p) (ini.map (·.2) ++ [lst]) (ips.map (·.2.1) ++ [sL])) 1 2 rfl rfl (by decide) fun S1 S2 h1 h2 hd => Inner.snoc h1 h2
      simp only [List.set_cons_zero, List.set_cons_succ] at st
      have st := st.drop 2 rfl
      simp only [List.eraseIdx_cons_succ, List.eraseIdx_cons_zero] at st
      refine hK _ _ ⟨sO, sG, ips ++ [(id, sL, ())], by rw [e], by rw [e]; simp [hids], ?_, st.frame (by simp)⟩
      rw [e]
      simp only [List.map_append, List.map_cons, List.map_nil]
      exact st.resAll (by simp)
theorem split_lens {xs : List Int} (hl : xs.length ≤ 1000) : (Rt.splitP xs).1.length ≤ 1000 ∧ (Rt.splitP xs).2.1.length ≤ 1000 ∧ ∀ g ∈ (Rt.splitP xs).2.1, g.2.length ≤ 1000 := by
  unfold Rt.splitP
  cases hs : splitGo xs [] [] with
  | none => simp
  | some R =>
    obtain ⟨a, b⟩ := R
    obtain ⟨h1, _⟩ := split_text hs (by rfl)
    have h2 : textOf a b = xs := by rw [h1]; simp [textOf]
    obtain ⟨t1, t2, t3⟩ := text_lensG b a
    rw [h2] at t1 t2 t3
    simp only
    exact ⟨by omega, by omega, fun g hg => by have := t3 g hg; omega⟩
end Go.Proofs.S
namespace Go.Proofs.S
open Go Go.Sx Go.Proofs Go.Cl Go.Rp Go.Rt
variable {h : Heap} {c d A ids : List Int} {l : List Ent} {gs : List Grp} {s s2 sc : Sl} {fr : Fr} {G As : List Asn} {id p : Int} {i : Nat}
theorem inn_ln {xs : List (List Int)} {ps : List Sl} (S : List Nat) (h : Heap) (p : (inn (fun c p => nio' c p) xs ps).P S h) : (inn (lnA ty_int i64) (xs.map List.length) ps).P S h := inner_ln (t := ty_int) (τ := i64) (xs := xs) p
set_option maxRecDepth 20000 in
set_option maxHeartbeats 2000000 in
theorem texts_c (hA : At h (li ids s)) (hG : At h (ent gs s2)) (hl : ids.length ≤ 1000) (hgl : gs.length ≤ 1000) (hgh : ∀ g ∈ gs, g.2.length ≤ 1000) :
    callT Tryz.prog fn_salvorlaw09_texts #[.slice s.a s.len s.cap, .slice s2.a s2.len s2.cap] .bool (fun r h' => r = true ∧ Ext [] h h') h := by
  refine callT_gen fun K hK => S_salvorlaw09_texts (a0 := s) (a1 := s2) K ?_
  unfold F_salvorlaw09_texts
  have hgh' : ∀ x ∈ gs, x.2.length ≤ 1099511627776 := fun x hx => by have := hgh x hx; omega
  have hgh6 : ∀ x ∈ gs, x.2.length ≤ 1000000 := fun x hx => by have := hgh x hx; omega
  have st := Hs.start h [li ids s, ent gs s2] (by simp [hA, hG])
  refine cloneI_c st (st.fz 0 rfl) (by omega) fun r0 h1 st => ?_
  simp only [List.nil_append] at st
  have st := st.froz 0 rfl
  simp only [List.nil_append, List.cons_append, List.eraseIdx_cons_zero] at st
  refine call_of (SplitO_c (st.fz 2 rfl) (by omega)) ?_
  rintro _ h2 ⟨s1, sg, ps, rfl, hids, n2, x2⟩
  have st := st.new x2 n2
  refine call_of (r9_Split_c (st.fz 0 rfl) (by omega)) ?_
  rintro _ h3 ⟨t1, t2, rfl, m1, m2, x3⟩
  have st := Hs.fzNew (Bs := [nio' (Rt.splitP ids).1 t1, ent (Rt.splitP ids).2.1 t2]) st x3 (by
    intro B hB
    simp only [List.mem_cons, List.not_mem_nil, or_false] at hB
    rcases hB with rfl | rfl
    · exact m1
    · exact m2)
  obtain ⟨q1, q2, q3⟩ := split_lens hl
  generalize Rt.splitP ids = R at *
  obtain ⟨out, g1, er⟩ := R
  simp only at hids st q1 q2 q3 ⊢
  have q3' : ∀ x ∈ g1, x.2.length ≤ 1099511627776 := fun x hx => by have := q3 x hx; omega
  have q36 : ∀ x ∈ g1, x.2.length ≤ 1000000 := fun x hx => by have := q3 x hx; omega
  have lps : ps.length = g1.length := by simpa using congrArg List.length hids
  have st := st.conv (SepTo.unpack [] _ [])
  simp only [List.nil_append, List.cons_append, List.append_nil] at st
  refine call_of (equal_int (st.own 2 rfl).rsl (st.fz 3 rfl).rsl (by omega)) ?_
  rintro _ h4 ⟨rfl, e⟩; subst e
  refine jn_in fun J hJ => brF (by simp) ?_
  have aE : At h4 (ent g1 sg) := (ent_new (n := 0) (gps := ps) (st.own 0 rfl).new0 (st.own 1 rfl).new0 hids).at
  refine call_of (step_c nil_li nil_li aE (by decide) (by decide) (by omega) q36) ?_
  rintro _ h5 ⟨u1, u2, u3, rfl, y1, y2, y3, x5⟩
  have st := st.ext x5
  refine call_of (sameStep_c (c2 := []) (ids2 := []) (sl2 := ⟨none, 0, 0⟩) (sh2 := ⟨none, 0, 0⟩) y1.at.rsl y2.at.rsl y3.at nil_li nil_li (st.fz 4 rfl) (by decide) (by decide) (by omega) q3') ?_
  rintro _ h6 ⟨rfl, x6⟩
  have st := st.ext x6
  refine hJ _ _ ?_
  clear J hJ
  refine jn_in fun J hJ => brF (by simp) ?_
  refine hJ _ _ (brF (by simp) ?_)
  clear J hJ
  have st := st.imp 1 rfl inn_ln
  simp only [List.set_cons_zero, List.set_cons_succ] at st
  have lsg : sg.len = ps.length := osn_len (st.own 0 rfl)
  refine lfp_invh (I := fun m σ h' => ∃ (i : Nat), σ = ((i : Int), ()) ∧ i ≤ ps.length ∧ Hs [([], h)] [li ids s, ent gs s2, li ids r0, nio' out t1, ent g1 t2] [osn ty_rat_Group 2 tPr.vals ps sg, inn (lnA ty_int i64) ((g1.map (·.2)).map List.length) (ps.map (·.2.1)), nio' out s1] h' ∧ m = ps.length - i)
    ⟨_, 0, rfl, by omega, st, rfl⟩ ?_
  clear st
  rintro m σ h7 X ⟨i, rfl, hi, st, rfl⟩ hX
  simp only
  by_cases hlt : i < ps.length
  · refine brT (by rw [lsg]; exact dlt_t hlt) ?_
    refine rdN (τ := tPr) ((st.own 0 rfl).rsn widePr) hlt ?_
    refine st.pr fun b12 h8 x8 st => ?_
    simp only [List.nil_append, List.cons_append, addr_add, Nat.zero_add] at st ⊢
    rw [st.lds 3 1 rfl rfl]
    have hil : i < ((g1.map (·.2)).map List.length).length := by simp; omega
    have hip : i < (ps.map (·.2.1)).length := by simpa using hlt
    have lenI : ps[i].2.1.len = ((g1.map (·.2)).map List.length)[i] := by
      obtain ⟨S, p⟩ := st.own 1 rfl
      obtain ⟨S', ⟨xs, e, q⟩, _⟩ := Inner.getS p i hil hip
      have := osl_len ⟨S', q⟩
      simp only [List.getElem_map] at this e ⊢
      rw [this, e]
    refine lfp_invh (I := fun m σ h' => ∃ (j : Nat), σ = ((j : Int), ()) ∧ j ≤ ps[i].2.1.len ∧ Hs [([], h)] [li ids s, ent gs s2, li ids r0, nio' out t1, ent g1 t2] [osn ty_rat_Group 2 tPr.vals ps sg, inn (lnA ty_int i64) ((g1.map (·.2)).map List.length) (ps.map (·.2.1)), nio' out s1, prC b12 ty_rat_Group ps[i].1 ps[i].2.1] h' ∧ m = ps[i].2.1.len - j)
      ⟨_, 0, rfl, by omega, st, rfl⟩ ?_
    clear st
    rintro m σ h9 Y ⟨j, rfl, hj, st, rfl⟩ hY
    simp only
    have big : ps[i].2.1.len ≤ 1000 := by
      rw [lenI]
      simp only [List.getElem_map]
      exact q3 _ (List.getElem_mem _)
    by_cases hjl : j < ps[i].2.1.len
    · refine brT (dlt_t hjl) ?_
      rw [st.lds 3 1 rfl rfl]
      have := Hs.wrLn (τ := i64) (K := Y (IntKind.wrap .i64 ((j : Int) + 1), ())) st 1 rfl hil hip (j := j) (by omega) (-9) fun h10 st => by
        rw [inc_i (by omega)]
        exact hY _ _ _ ⟨j + 1, rfl, by omega, st, rfl⟩ (by omega)
      simp only [List.getElem_map] at this
      exact this
    · refine brF (dlt_f hjl) ?_
      rw [inc_i (by omega)]
      exact hX _ _ _ ⟨i + 1, rfl, by omega, st.drop 3 rfl, rfl⟩ (by omega)
  refine brF (by rw [lsg]; exact dlt_f hlt) ?_
  clear hX
  have st := ((st.drop 2 rfl).drop 1 rfl).drop 0 rfl
  simp only [List.eraseIdx_cons_succ, List.eraseIdx_cons_zero] at st
  refine call_of (step_c nil_li nil_li (st.fz 1 rfl) (by decide) (by decide) (by omega) hgh6) ?_
  rintro _ h8 ⟨w1, w2, w3, rfl, z1, z2, z3, x8⟩
  have st := Hs.fzNew (Bs := [nio' [] w1, nio' [] w2, ent gs w3]) st x8 (by
    intro B hB
    simp only [List.mem_cons, List.not_mem_nil, or_false] at hB
    rcases hB with rfl | rfl | rfl
    · exact z1
    · exact z2
    · exact z3)
  simp only [List.nil_append, List.cons_append] at st
  refine st.nw fun b19 h9 st => ?_
  simp only [List.nil_append, addr_add, Nat.zero_add] at st ⊢
  refine st.st1 0 0 rfl (by simp) fun h10 st => ?_
  refine st.st1 0 1 rfl (by simp) fun h10 st => ?_
  refine st.st1 0 2 rfl (by simp) fun h10 st => ?_
  simp only [List.set_cons_zero, List.set_cons_succ] at st
  have hg10 : ∀ g ∈ gs, g.2.length ≤ 100000 := fun x hx => by have := hgh x hx; omega
  refine call_of (Join_c (st.fz 2 rfl) (st.fz 1 rfl) (by omega) (by omega) hg10) ?_
  rintro _ h11 ⟨s20, rfl, n20, x11⟩
  have st := st.new x11 n20
  simp only [List.nil_append, List.cons_append] at st
  rw [st.lds 0 2 rfl rfl]
  refine call_of (r9_Join_c (st.fz 0 rfl) (st.fz 7 rfl) (by omega) (by omega) hg10) ?_
  rintro _ h12 ⟨s22, rfl, n22, x12⟩
  have st := st.new x12 n22
  simp only [List.nil_append, List.cons_append] at st
  have jl : (joinP ids gs).1.length ≤ 1000 + 1000 * 100001 := by
    unfold joinP
    split
    · rename_i hok
      rw [← joinT_ok hok, joinT_len]
      have := joinN_len (ids := ids) (gs := gs) hg10
      have := Nat.mul_le_mul_right 100001 hgl
      omega
    · simp
  generalize joinP ids gs = R at *
  obtain ⟨jt, je⟩ := R
  simp only at st jl ⊢
  refine call_of (equal_int (st.own 1 rfl).rsl (st.own 2 rfl).rsl (by omega)) ?_
  rintro _ h13 ⟨rfl, e⟩; subst e
  refine jn_in fun J hJ => brF (by simp) (hJ _ _ (brF (by simp) ?_))
  clear J hJ
  have st := st.drop 2 rfl
  simp only [List.eraseIdx_cons_succ, List.eraseIdx_cons_zero] at st
  have l20 : s20.len = jt.length := osl_len (st.own 1 rfl)
  refine lfp_invh (I := fun m σ h' => ∃ (i : Nat) (g2 : List Int), σ = ((i : Int), ()) ∧ i ≤ jt.length ∧ g2.length = jt.length ∧ Hs [([], h)] [li ids s, ent gs s2, li ids r0, nio' out t1, ent g1 t2, nio' [] w1, nio' [] w2, ent gs w3] [cl b19 ty_salvorref09_Step [.slice w1.a w1.len w1.cap, .slice w2.a w2.len w2.cap, .slice w3.a w3.len w3.cap], nio' g2 s20] h' ∧ m = jt.length - i)
    ⟨_, 0, jt, rfl, by omega, rfl, st, rfl⟩ ?_
  clear st
  rintro m σ h14 Y ⟨i, g2, rfl, hi, hg2, st, rfl⟩ hY
  simp only
  by_cases hlt : i < jt.length
  · refine brT (by rw [l20]; exact dlt_t hlt) ?_
    refine st.wrE (τ := i64) 1 rfl (i := i) (by omega) (-9) fun h15 st => ?_
    rw [inc_i (by omega)]
    exact hY _ _ _ ⟨i + 1, g2.set i (-9), rfl, by omega, by simpa using hg2, st, rfl⟩ (by omega)
  refine brF (by rw [l20]; exact dlt_f hlt) ?_
  refine call_of (equal_int (st.fz 2 rfl) (st.fz 0 rfl) (by omega)) ?_
  rintro _ h15 ⟨rfl, e⟩; subst e
  refine brT (by simp) ?_
  refine ldRow (τ := .cons .sl (.cons .sl (.cons .sl .nil))) (x := (w1, w2, w3, ())) (st.blk 0 rfl) ?_
  refine call_of (step_c nil_li nil_li (st.fz 1 rfl) (by decide) (by decide) (by omega) hgh6) ?_
  rintro _ h16 ⟨v1, v2, v3, rfl, y1, y2, y3, x16⟩
  have st := st.ext x16
  refine ckRow (st.blk 0 rfl) ?_
  refine call_of (sameStep_c y1.at.rsl y2.at.rsl y3.at (st.fz 5 rfl).rsl (st.fz 6 rfl).rsl (st.fz 7 rfl) (by decide) (by decide) (by omega) hgh') ?_
  rintro _ h17 ⟨rfl, x17⟩
  have st := st.ext x17
  exact hK _ _ ⟨by simp, st.frame (by simp)⟩
end Go.Proofs.S
namespace Go.Proofs.S
open Go Go.Sx Go.Proofs Go.Cl Go.Rp Go.Rt
variable {h : Heap} {c d A ids : List Int} {l : List Ent} {gs : List Grp} {s s2 s3 s4 s5 sc : Sl} {fr : Fr} {G G' As : List Asn} {id p : Int} {i : Nat} {t tl : TypeId} {L : List (List Int)}
theorem Inner.mkR {Q : Nat → Prop} : ∀ {xs : List (List Int)} {ps : List Sl}, ps.length = xs.length → (∀ i (h1 : i < xs.length) (h2 : i < ps.length), ∃ S, (li xs[i] ps[i]).P S h ∧ ∀ b ∈ S, Q b) → ∃ S, Inner (fun c p => li c p) xs ps S h ∧ ∀ b ∈ S, Q b
  | [], [], _, _ => ⟨[], rfl, by simp⟩
  | x :: xs, p :: ps, hl, hq => by
    obtain ⟨S1, p1, q1⟩ := hq 0 (by simp) (by simp)
    obtain ⟨S2, p2, q2⟩ := Inner.mkR (xs := xs) (ps := ps) (by simpa using hl) fun i h1 h2 => by
      have := hq (i + 1) (by simpa using h1) (by simpa using h2)
      simpa using this
    exact ⟨S1 ++ S2, ⟨S1, S2, rfl, p1, p2⟩, fun b hb => (List.mem_append.1 hb).elim (q1 b) (q2 b)⟩
  | [], _ :: _, hl, _ => by simp at hl
  | _ :: _, [], hl, _ => by simp at hl
theorem Hs.gain0 {B : Asn} (st : Hs fr G As h) (hB : B.P [] h) : Hs fr (G ++ [B]) As h := by
  obtain ⟨S, hs, hz, hf⟩ := st
  refine ⟨S, hs, fun C hC => ?_, hf⟩
  rcases List.mem_append.1 hC with hC | hC
  · exact hz C hC
  · simp at hC; subst hC
    exact ⟨[], hB, by simp⟩
theorem nil_liP (h : Heap) : (li [] ⟨none, 0, 0⟩).P [] h := ⟨rfl, Nat.le_refl _, .inl ⟨rfl, rfl⟩⟩
theorem nil_entP (h : Heap) : (ent [] ⟨none, 0, 0⟩).P [] h := ⟨[], [], [], rfl, ⟨rfl, Nat.le_refl _, .inl ⟨rfl, rfl⟩⟩, rfl, rfl⟩
theorem Hs.gainE {ps : List tPr.T} (st : Hs fr G As h) (hh : osn t 2 tPr.vals ps s ∈ G) (hm : ps.map (·.1) = l.map (·.1)) (hr : ∀ i (h1 : i < l.length) (h2 : i < ps.length), li l[i].2 ps[i].2.1 ∈ G) : Hs fr (G ++ [ent l s]) As h := by
  have hl : ps.length = l.length := by simpa using congrArg List.length hm
  obtain ⟨S, hs, hz, hf⟩ := st
  refine ⟨S, hs, fun A hA => ?_, hf⟩
  rcases List.mem_append.1 hA with hA | hA
  · exact hz A hA
  · simp at hA; subst hA
    obtain ⟨S1, p1, d1⟩ := hz _ hh
    obtain ⟨S2, p2, d2⟩ := Inner.mkR (h := h) (Q := fun b => b ∉ S) (xs := l.map (·.2)) (ps := ps.map (·.2.1)) (by simpa using hl) fun i h1 h2 => by
      simp only [List.getElem_map]
      exact hz _ (hr i (by simpa using h1) (by simpa using h2))
    exact ⟨S1 ++ S2, ⟨ps, S1, S2, rfl, osn_rsn widePr p1, hm, p2⟩, fun b hb => (List.mem_append.1 hb).elim (d1 b) (d2 b)⟩
theorem Hs.litN (st : Hs fr G As h) (ps : List tPr.T) {vs : Array Value} (n : Nat) (hn : n = ps.length) (hvs : vs.toList = (ps.map tPr.vals).flatten) {K : Nat → HP}
    (hK : ∀ b h', Hs fr (G ++ [osn t 2 tPr.vals ps ⟨some ⟨b, 0, none⟩, n, n⟩]) As h' → K b h') : Sx.nw vs t K h := by
  subst hn
  refine st.nw fun b h1 st => ?_
  have st := st.asSn As.length 2 tPr.vals ps (lastA _ _) hvs
  rw [List.set_append_right _ _ (Nat.le_refl _), Nat.sub_self, List.set_cons_zero] at st
  have st := st.freeze As.length (lastA _ _)
  rw [List.eraseIdx_append_of_length_le (Nat.le_refl _), Nat.sub_self, List.eraseIdx_cons_zero, List.append_nil] at st
  exact hK b h1 st
theorem Hs.litE (st : Hs fr G As h) (l : List Ent) (ps : List tPr.T) {vs : Array Value} (n : Nat) (hn : n = ps.length) (hvs : vs.toList = (ps.map tPr.vals).flatten) (hm : ps.map (·.1) = l.map (·.1))
    (hr : ∀ i (h1 : i < l.length) (h2 : i < ps.length), li l[i].2 ps[i].2.1 ∈ G) {K : Nat → HP}
    (hK : ∀ b h', Hs fr (G ++ [ent l ⟨some ⟨b, 0, none⟩, n, n⟩]) As h' → K b h') : Sx.nw vs t K h := by
  refine Hs.litN st ps n hn hvs fun b h1 st => ?_
  have st := Hs.gainE (l := l) (ps := ps) (t := t) (s := ⟨some ⟨b, 0, none⟩, n, n⟩) st (List.mem_append_right _ (List.mem_singleton.2 rfl)) hm fun i h1 h2 => List.mem_append_left _ (hr i h1 h2)
  exact hK b h1 (st.less fun A hA => by
    rcases List.mem_append.1 hA with k | k
    · exact List.mem_append_left _ (List.mem_append_left _ k)
    · exact List.mem_append_right _ k)
theorem Hs.litR (st : Hs fr G As h) (ps : List Sl) {vs : Array Value} (n : Nat) (hn : n = ps.length) (hvs : vs.toList = ps.map Ty.sl.enc) {K : Nat → HP}
    (hK : ∀ b h', Hs fr (G ++ [rsl Ty.sl.enc ps ⟨some ⟨b, 0, none⟩, n, n⟩]) As h' → K b h') : Sx.nw vs t K h := by
  subst hn
  refine st.nw fun b h1 st => ?_
  rw [hvs] at st
  have st := st.asSl As.length Ty.sl.enc ps (lastA _ _) rfl
  rw [List.set_append_right _ _ (Nat.le_refl _), Nat.sub_self, List.set_cons_zero] at st
  have st := st.froz As.length (lastA _ _)
  rw [List.eraseIdx_append_of_length_le (Nat.le_refl _), Nat.sub_self, List.eraseIdx_cons_zero, List.append_nil] at st
  exact hK b h1 st
def Lits (G : List Asn) (L : List (List Int)) (s : Sl) : Prop := ∃ ps : List Sl, ps.length = L.length ∧ rsl Ty.sl.enc ps s ∈ G ∧ ∀ i (h1 : i < L.length) (h2 : i < ps.length), li L[i] ps[i] ∈ G
theorem Lits.mono (k : Lits G L s) (hG : ∀ A ∈ G, A ∈ G') : Lits G' L s := let ⟨ps, a, b, c⟩ := k; ⟨ps, a, hG _ b, fun i h1 h2 => hG _ (c i h1 h2)⟩
theorem Lits.rd (k : Lits G L s) (st : Hs fr G As h) {i : Nat} (hi : i < L.length) {K : Sl → HP} (hK : ∀ q, li L[i] q ∈ G → K q h) : sx s.a s.len (i : Int) 1 (fun p => ldT .sl p K) h := by
  obtain ⟨ps, a, b, c⟩ := k
  exact rdE (τ := .sl) (st.fzm b) (by omega : i < ps.length) (hK _ (c i hi (by omega)))
def Ents (G : List Asn) (L : List (List Ent)) (s : Sl) : Prop := ∃ ps : List Sl, ps.length = L.length ∧ rsl Ty.sl.enc ps s ∈ G ∧ ∀ i (h1 : i < L.length) (h2 : i < ps.length), ent L[i] ps[i] ∈ G
theorem Ents.mono {L : List (List Ent)} (k : Ents G L s) (hG : ∀ A ∈ G, A ∈ G') : Ents G' L s := let ⟨ps, a, b, c⟩ := k; ⟨ps, a, hG _ b, fun i h1 h2 => hG _ (c i h1 h2)⟩
theorem Ents.rd {L : List (List Ent)} (k : Ents G L s) (st : Hs fr G As h) {i : Nat} (hi : i < L.length) {K : Sl → HP} (hK : ∀ q, ent L[i] q ∈ G → K q h) : sx s.a s.len (i : Int) 1 (fun p => ldT .sl p K) h := by
  obtain ⟨ps, a, b, c⟩ := k
  exact rdE (τ := .sl) (st.fzm b) (by omega : i < ps.length) (hK _ (c i hi (by omega)))
def litsW (t : TypeId) : List (List Int) → (List Sl → HP) → HP
  | [], K => K []
  | [] :: r, K => litsW t r fun ps => K (⟨none, 0, 0⟩ :: ps)
  | (x :: c) :: r, K => nw ((x :: c).map (Value.int .i64)).toArray t fun b => litsW t r fun ps => K (⟨some ⟨b, 0, none⟩, (x :: c).length, (x :: c).length⟩ :: ps)
theorem litsW_c : ∀ (L : List (List Int)) {G : List Asn} {h : Heap} {K : List Sl → HP}, Hs fr G As h →
    (∀ ps G' h', (∀ A ∈ G, A ∈ G') → ps.length = L.length → (∀ i (h1 : i < L.length) (h2 : i < ps.length), li L[i] ps[i] ∈ G') → Hs fr G' As h' → K ps h') → litsW t L K h
  | [], G, h, K, st, hK => hK [] G h (fun _ h => h) rfl (fun i h1 _ => by simp at h1) st
  | [] :: r, G, h, K, st, hK => by
    refine litsW_c r (Hs.gain0 st (nil_liP h)) fun ps G' h' hG hl hm st => hK _ G' h' (fun A hA => hG _ (List.mem_append_left _ hA)) (by simp [hl]) (fun i h1 h2 => ?_) st
    cases i with
    | zero => exact hG _ (List.mem_append_right _ (by simp))
    | succ i => simpa using hm i (by simpa using h1) (by simpa using h2)
  | (x :: c) :: r, G, h, K, st, hK => by
    refine Hs.lit st (x :: c) (x :: c).length rfl rfl fun b h1 st => ?_
    refine litsW_c r st fun ps G' h' hG hl hm st => hK _ G' h' (fun A hA => hG _ (List.mem_append_left _ hA)) (by simp [hl]) (fun i h1 h2 => ?_) st
    cases i with
    | zero => exact hG _ (List.mem_append_right _ (by simp))
    | succ i => simpa using hm i (by simpa using h1) (by simpa using h2)
def entRow : List Ent → List Sl → List tPr.T
  | x :: l, q :: qs => (x.1, q, ()) :: entRow l qs
  | _, _ => []
theorem entRow_len : ∀ {l : List Ent} {qs : List Sl}, qs.length = l.length → (entRow l qs).length = l.length ∧ (entRow l qs).map (·.1) = l.map (·.1) ∧ (entRow l qs).map (·.2.1) = qs
  | [], [], _ => ⟨rfl, rfl, rfl⟩
  | x :: l, q :: qs, h => by
    obtain ⟨a, b, c⟩ := entRow_len (l := l) (qs := qs) (by simpa using h)
    exact ⟨by simp [entRow, a], by simp [entRow, b], by simp [entRow, c]⟩
  | [], _ :: _, h => by simp at h
  | _ :: _, [], h => by simp at h
def entsW (tl t : TypeId) : List (List Ent) → (List Sl → HP) → HP
  | [], K => K []
  | [] :: r, K => entsW tl t r fun ps => K (⟨none, 0, 0⟩ :: ps)
  | (x :: l) :: r, K => litsW tl ((x :: l).map (·.2)) fun qs => nw ((entRow (x :: l) qs).map tPr.vals).flatten.toArray t fun b => entsW tl t r fun ps => K (⟨some ⟨b, 0, none⟩, (x :: l).length, (x :: l).length⟩ :: ps)
theorem entsW_c : ∀ (L : List (List Ent)) {G : List Asn} {h : Heap} {K : List Sl → HP}, Hs fr G As h →
    (∀ ps G' h', (∀ A ∈ G, A ∈ G') → ps.length = L.length → (∀ i (h1 : i < L.length) (h2 : i < ps.length), ent L[i] ps[i] ∈ G') → Hs fr G' As h' → K ps h') → entsW tl t L K h
  | [], G, h, K, st, hK => hK [] G h (fun _ h => h) rfl (fun i h1 _ => by simp at h1) st
  | [] :: r, G, h, K, st, hK => by
    refine entsW_c r (Hs.gain0 st (nil_entP h)) fun ps G' h' hG hl hm st => hK _ G' h' (fun A hA => hG _ (List.mem_append_left _ hA)) (by simp [hl]) (fun i h1 h2 => ?_) st
    cases i with
    | zero => exact hG _ (List.mem_append_right _ (by simp))
    | succ i => simpa using hm i (by simpa using h1) (by simpa using h2)
  | (x :: l) :: r, G, h, K, st, hK => by
    refine litsW_c _ st fun qs G1 h1 hG1 hl1 hm1 st => ?_
    obtain ⟨e1, e2, e3⟩ := entRow_len (l := x :: l) (qs := qs) (by simpa using hl1)
    refine Hs.litE st (x :: l) (entRow (x :: l) qs) (x :: l).length e1.symm rfl e2 (fun i h1 h2 => ?_) fun b h2 st => ?_
    · have h3 : i < qs.length := by rw [hl1, List.length_map]; exact h1
      have := hm1 i (by rw [List.length_map]; exact h1) h3
      have e4 : (entRow (x :: l) qs)[i].2.1 = qs[i] := by
        have := congrArg (fun k => k[i]?) e3
        simpa [h2, h3] using this
      rw [List.getElem_map] at this
      rw [e4]; exact this
    refine entsW_c r st fun ps G' h' hG hl hm st => hK _ G' h' (fun A hA => hG _ (List.mem_append_left _ (hG1 _ hA))) (by simp [hl]) (fun i h1 h2 => ?_) st
    cases i with
    | zero => exact hG _ (List.mem_append_right _ (by simp))
    | succ i => simpa using hm i (by simpa using h1) (by simpa using h2)
end Go.Proofs.S
