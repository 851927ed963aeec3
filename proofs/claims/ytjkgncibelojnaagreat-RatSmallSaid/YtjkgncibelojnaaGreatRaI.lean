/-
  The package rat: Split: contract.
-/
import Derived.Test.YtjkgncibelojnaaGreatRaE
import Derived.Test.YtjkgncibelojnaaGreatRaG
import Derived.Test.YtjkgncibelojnaaGreatSxW2
import Derived.Test.YtjkgncibelojnaaGreatSxG
set_option linter.unusedVariables false
set_option linter.unusedSimpArgs false
namespace Go.Sx
open Go
section
variable {xs : List tPr.T} {s p : Sl} {fr : Fr} {G As : List Asn} {h : Heap} {t : TypeId} {b : Nat}
theorem flat_pr : ∀ {xs : List tPr.T} {i : Nat} (hi : i < xs.length), ((xs.set i (xs[i].1, p, ())).map tPr.vals).flatten = ((xs.map tPr.vals).flatten).set (i * 2 + 1) (.slice p.a p.len p.cap)
  | y :: ys, 0, _ => rfl
  | y :: ys, i + 1, hi => by
    have := flat_pr (xs := ys) (i := i) (by simpa using hi)
    simp only [List.set_cons_succ, List.map_cons, List.flatten_cons, List.getElem_cons_succ]
    rw [this]
    show _ = ([_, _] ++ _).set _ _
    rw [show (i + 1) * 2 + 1 = (i * 2 + 1) + 1 + 1 by omega]
    rfl
theorem flat_pr_at : ∀ {xs : List tPr.T} {i : Nat} (hi : i < xs.length), (xs.map tPr.vals).flatten[i * 2 + 1]? = some (.slice xs[i].2.1.a xs[i].2.1.len xs[i].2.1.cap)
  | y :: ys, 0, _ => rfl
  | y :: ys, i + 1, hi => by
    have := flat_pr_at (xs := ys) (i := i) (by simpa using hi)
    simp only [List.map_cons, List.flatten_cons, List.getElem_cons_succ]
    show ([_, _] ++ _)[_]? = _
    rw [show (i + 1) * 2 + 1 = (i * 2 + 1) + 1 + 1 by omega]
    exact this
theorem Hs.prF {K : Addr → Sl → HP} (st : Hs fr G As h) (k : Nat) (hk : As[k]? = some (osn t 2 tPr.vals xs s)) {i : Nat} (hi : i < xs.length)
    (hK : ∀ b, s.a = some ⟨b, 0, none⟩ → K ⟨b, i * 2, none⟩ xs[i].2.1 h) : sx s.a s.len (i : Int) 2 (fun p => ldT .sl (p.add 1) (K p)) h := by
  obtain ⟨S1, p, hwr⟩ := st.focus k hk
  rcases p with ⟨b, rest, cap, eS, es, hr, hb⟩ | ⟨_, ex, _⟩
  · subst es
    refine ⟨_, rfl, Int.natCast_nonneg _, Int.ofNat_lt.2 hi, ?_⟩
    rw [Int.toNat_natCast]
    simp only [addr_add, Nat.zero_add]
    have hfl := flat_len widePr xs
    rw [ld_sl hb (a := xs[i].2.1.a) (l := xs[i].2.1.len) (cp := xs[i].2.1.cap) (by rw [List.getElem?_append_left (by rw [hfl]; omega)]; exact flat_pr_at hi)]
    exact hK b rfl
  · subst ex; simp at hi
theorem Hs.prW {K : HP} (st : Hs fr G As h) (k : Nat) (hk : As[k]? = some (osn t 2 tPr.vals xs s)) {i : Nat} (hi : i < xs.length) (hb : s.a = some ⟨b, 0, none⟩) (q : Sl)
    (hK : ∀ h', Hs fr G (As.set k (osn t 2 tPr.vals (xs.set i (xs[i].1, q, ())) s)) h' → K h') : Sx.st1 ((⟨b, i * 2, none⟩ : Addr).add 1) (.slice q.a q.len q.cap) K h := by
  obtain ⟨S1, p, hwr⟩ := st.focus k hk
  rcases p with ⟨b', rest, cap, eS, es, hr, hbk⟩ | ⟨_, ex, _⟩
  · subst es
    obtain rfl : b' = b := by simpa using hb
    have hfl := flat_len widePr xs
    simp only [addr_add]
    rw [st_ok hbk (by simp [hfl]; omega)]
    have hb1 := hbk.set (i * 2 + 1) (.slice q.a q.len q.cap)
    refine hK _ (hwr (osn t 2 tPr.vals (xs.set i (xs[i].1, q, ())) ⟨some ⟨b', 0, none⟩, xs.length, xs.length + cap⟩) [b'] _ ((Ext.refl' S1 h).set _ _ (by simp [eS])) (.inl ⟨b', rest, cap, rfl, by simp, hr, ?_⟩) (by simp [eS]))
    rw [flat_pr hi, ← List.set_append_left _ _ (by rw [hfl]; omega)]
    exact hb1
  · subst ex; simp at hi
end
end Go.Sx
namespace Go.Proofs.S
open Go Go.Sx Go.Proofs Go.Cl Go.Rp Go.Rt
variable {h : Heap} {c d A ids : List Int} {l : List Ent} {gs : List Grp} {s s2 sc : Sl} {fr : Fr} {G As : List Asn} {id p : Int} {i : Nat}
theorem splitGo_bad (n : Int) (h : n = 0 ∨ n > maxID ∨ n < -maxID) : splitGo (n :: c) d gs = none := by rw [splitGo, if_pos h]
theorem splitGo_neg {n : Int} (h : ¬ (n = 0 ∨ n > maxID ∨ n < -maxID)) (hn : n < 0) : splitGo (n :: c) d gs = splitGo c d (gs ++ [(-n, [])]) := by rw [splitGo, if_neg h, if_pos hn]
theorem splitGo_pos {n : Int} (h : ¬ (n = 0 ∨ n > maxID ∨ n < -maxID)) (hn : ¬ n < 0) : splitGo (n :: c) d gs = splitGo c (putHint d gs n).1 (putHint d gs n).2 := by rw [splitGo, if_neg h, if_neg hn]
set_option maxRecDepth 10000 in
set_option maxHeartbeats 2000000 in
theorem Split_c {xs : List Int} (hA : At h (li xs s)) (hl : xs.length ≤ 1099511627776) :
    callT Tryz.prog fn_rat_Split #[.slice s.a s.len s.cap] (.tup (.cons .sl (.cons .sl (.cons (.int .i64) .nil))))
      (fun r h' => ∃ s1 s2, r = (s1, s2, (Rt.splitP xs).2.2, ()) ∧ New h.size h' (nio' (Rt.splitP xs).1 s1) ∧ New h.size h' (ent (Rt.splitP xs).2.1 s2) ∧ Ext [] h h') h := by
  refine callT_gen fun K hK => S_rat_Split (a0 := s) K ?_
  unfold F_rat_Split
  have st := Hs.start h [li xs s] (by simp [hA])
  have ls := rsl_len hA
  refine lfp_invh (I := fun m σ h' => ∃ (i : Nat) (out lst : List Int) (gs ini : List Grp) (gps ips : List tPr.T) (sO sL sG : Sl) (v : Int) (u1 u2 : Sl), σ = ((i : Int), sG, sO, v, u1, u2, ()) ∧ i ≤ xs.length ∧
      splitGo (xs.drop i) out gs = splitGo xs [] [] ∧ out.length ≤ i ∧ gs.length ≤ i ∧ lst.length ≤ i ∧ ips.map (·.1) = ini.map (·.1) ∧
      ((gs = [] ∧ gps = [] ∧ ini = [] ∧ ips = [] ∧ lst = [] ∧ sL = ⟨none, 0, 0⟩) ∨ ∃ id, gs = ini ++ [(id, lst)] ∧ gps = ips ++ [(id, sL, ())]) ∧
      Hs [([], h)] [li xs s] [osn ty_rat_Group 2 tPr.vals gps sG, inn (fun c p => nio' c p) (ini.map (·.2)) (ips.map (·.2.1)), nio' lst sL, nio' out sO] h' ∧ m = xs.length - i)
    ⟨_, 0, [], [], [], [], [], [], ⟨none, 0, 0⟩, ⟨none, 0, 0⟩, ⟨none, 0, 0⟩, 0, ⟨none, 0, 0⟩, ⟨none, 0, 0⟩, rfl, by omega, rfl, by simp, by simp, by simp, rfl, .inl ⟨rfl, rfl, rfl, rfl, rfl, rfl⟩, ?_, rfl⟩ ?_
  · have st := st.new (A := osn ty_rat_Group 2 tPr.vals [] ⟨none, 0, 0⟩) (Ext.refl' [] h) ⟨[], .inr ⟨rfl, rfl, rfl, rfl⟩, by simp⟩
    have st := st.new (A := inn (fun c p => nio' c p) [] []) (Ext.refl' [] h) ⟨[], rfl, by simp⟩
    exact (st.nil ty_int i64.enc none).nil ty_int i64.enc none
  clear st
  rintro m σ h1 X ⟨i, out, lst, gs, ini, gps, ips, sO, sL, sG, v, u1, u2, rfl, hi, hg, hlo, hlg, hll, hids, hc, st, rfl⟩ hX
  simp only
  have hlen : ips.length = ini.length := by simpa using congrArg List.length hids
  have lgp : gps.length = gs.length := by
    rcases hc with ⟨rfl, rfl, _⟩ | ⟨id, rfl, rfl⟩
    · rfl
    · simp [hlen]
  have lG : sG.len = gps.length := osn_len (st.own 0 rfl)
  by_cases hlt : i < xs.length
  · refine brT (by rw [ls]; exact dlt_t hlt) ?_
    refine rdE (τ := i64) (i := i) (st.fz 0 rfl) hlt ?_
    rw [List.drop_eq_getElem_cons hlt] at hg
    generalize hn : xs[i] = n at *
    have bad : (n = 0 ∨ n > maxID ∨ n < -maxID) → ∀ h', Ext [] h h' → K (⟨none, 0, 0⟩, ⟨none, 0, 0⟩, 91, ()) h' := fun q h' x => by
      rw [splitGo_bad n q] at hg
      have e : Rt.splitP xs = ([], [], 91) := by unfold Rt.splitP; rw [← hg]
      exact hK _ _ ⟨_, _, by rw [e], by rw [e]; exact osl_nil h.size h', by rw [e]; exact rsp_nil _ _ _, x⟩
    refine jn_in fun J hJ => ?_
    by_cases h0 : n = 0
    · refine brT (by simpa using h0) (hJ _ _ ?_)
      clear J hJ
      exact jn_in fun J hJ => brT rfl (hJ _ _ (brT rfl (bad (.inl h0) _ (st.frame (by simp)))))
    refine brF (by simpa using h0) ?_
    by_cases h2 : n > 1073741824
    · rw [decide_eq_true h2]
      refine hJ _ _ ?_
      clear J hJ
      exact jn_in fun J hJ => brT rfl (hJ _ _ (brT rfl (bad (.inr (.inl h2)) _ (st.frame (by simp)))))
    rw [decide_eq_false h2]
    refine hJ _ _ ?_
    clear J hJ
    refine jn_in fun J hJ => brF rfl ?_
    by_cases h3 : n < -1073741824
    · rw [decide_eq_true h3]
      exact hJ _ _ (brT rfl (bad (.inr (.inr h3)) _ (st.frame (by simp))))
    rw [decide_eq_false h3]
    refine hJ _ _ (brF rfl ?_)
    clear J hJ bad
    have hgd : ¬ (n = 0 ∨ n > maxID ∨ n < -maxID) := by unfold maxID; rintro (q | q | q) <;> omega
    refine jn_in fun J hJ => ?_
    by_cases hneg : n < 0
    · refine brT (decide_eq_true hneg) ?_
      rw [show IntKind.wrap .i64 (0 - n) = -n by rw [wrap_i64 (by omega) (by omega)]; omega]
      refine st.nw fun b4 h4 st => ?_
      simp only [List.cons_append, List.nil_append] at st
      refine Hs.apdN (v := ((-n, ⟨none, 0, 0⟩, ()) : tPr.T)) st widePr (by decide) 0 4 rfl rfl (by decide) (fun u hu => by
        have hu : u ∈ [Value.int .i64 (-n), .slice none 0 0] := hu
        simp only [List.mem_cons, List.not_mem_nil, or_false] at hu
        rcases hu with rfl | rfl <;> rfl) (by omega) (by decide) rfl fun s79 h5 st => hJ _ _ ?_
      simp only [List.set_cons_zero, List.set_cons_succ] at st
      have st := st.drop 4 rfl
      simp only [List.eraseIdx_cons_succ, List.eraseIdx_cons_zero] at st
      rw [inc_i (by omega)]
      rw [splitGo_neg hgd hneg] at hg
      rcases hc with ⟨rfl, rfl, rfl, rfl, rfl, rfl⟩ | ⟨id, rfl, rfl⟩
      · exact hX _ _ _ ⟨i + 1, out, [], [(-n, [])], [], [(-n, ⟨none, 0, 0⟩, ())], [], _, ⟨none, 0, 0⟩, _, _, _, _, rfl, by omega, hg, by omega, by simp, by simp, rfl, .inr ⟨-n, rfl, rfl⟩, st, rfl⟩ (by omega)
      · have st := st.move (A' := inn (fun c p => nio' c p) (ini.map (·.2) ++ [lst]) (ips.map (·.2.1) ++ [sL])) 1 2 rfl rfl (by decide) fun S1 S2 h1 h2 hd => Inner.snoc h1 h2
        simp only [List.set_cons_zero, List.set_cons_succ] at st
        have st := st.imp (A' := nio' [] ⟨none, 0, 0⟩) 2 rfl fun S h e => .inr ⟨e, rfl, rfl, rfl⟩
        simp only [List.set_cons_zero, List.set_cons_succ] at st
        refine hX _ _ _ ⟨i + 1, out, [], ini ++ [(id, lst)] ++ [(-n, [])], ini ++ [(id, lst)], ips ++ [(id, sL, ())] ++ [(-n, ⟨none, 0, 0⟩, ())], ips ++ [(id, sL, ())], _, ⟨none, 0, 0⟩, _, _, _, _, rfl, by omega, hg, by omega, by simp at hlg ⊢; omega, by simp, by simp [hids], .inr ⟨-n, rfl, rfl⟩, ?_, rfl⟩ (by omega)
        simp only [List.map_append, List.map_cons, List.map_nil]
        exact st
    · refine brF (decide_eq_false hneg) ?_
      rw [splitGo_pos hgd hneg] at hg
      refine jn_in fun L hL => ?_
      rcases hc with ⟨rfl, rfl, rfl, rfl, rfl, rfl⟩ | ⟨id, rfl, rfl⟩
      · refine brF (by rw [lG]; rfl) ?_
        refine st.nw fun b4 h4 st => ?_
        simp only [List.cons_append, List.nil_append] at st
        refine st.apd (v := n) 3 4 rfl rfl (by decide) rfl (by omega) (by decide) rfl fun s7 h5 st => hL _ _ (hJ _ _ ?_)
        simp only [List.set_cons_zero, List.set_cons_succ] at st
        have st := st.drop 4 rfl
        rw [inc_i (by omega)]
        exact hX _ _ _ ⟨i + 1, out ++ [n], [], [], [], [], [], _, ⟨none, 0, 0⟩, _, _, _, _, rfl, by omega, hg, by simp; omega, by simp, by simp, rfl, .inl ⟨rfl, rfl, rfl, rfl, rfl, rfl⟩, st, rfl⟩ (by omega)
      · refine brT (by rw [lG]; simp) ?_
        have lg2 : ips.length + 1 ≤ i := by simp at hlg lgp; omega
        rw [show IntKind.wrap .i64 ((sG.len : Int) - 1) = ((ips.length : Nat) : Int) by rw [lG, List.length_append, List.length_singleton, wrap_i64 (by omega) (by omega)]; omega]
        refine Hs.prF st 0 rfl (i := ips.length) (by simp) fun b hb => ?_
        simp only [List.getElem_append_right (Nat.le_refl _), Nat.sub_self, List.getElem_cons_zero]
        refine st.nw fun b4 h4 st => ?_
        simp only [List.cons_append, List.nil_append] at st
        refine st.apd (v := n) 2 4 rfl rfl (by decide) rfl (by omega) (by decide) rfl fun s7 h5 st => ?_
        simp only [List.set_cons_zero, List.set_cons_succ] at st
        refine Hs.prW st 0 rfl (i := ips.length) (by simp) hb s7 fun h6 st => hL _ _ (hJ _ _ ?_)
        simp only [List.set_cons_zero, List.set_cons_succ] at st
        have st := st.drop 4 rfl
        simp only [List.eraseIdx_cons_succ, List.eraseIdx_cons_zero] at st
        rw [inc_i (by omega)]
        have hput : putHint out (ini ++ [(id, lst)]) n = (out, ini ++ [(id, lst ++ [n])]) := by unfold putHint; simp
        rw [hput] at hg
        refine hX _ _ _ ⟨i + 1, out, lst ++ [n], ini ++ [(id, lst ++ [n])], ini, ips ++ [(id, s7, ())], ips, _, s7, _, _, _, _, rfl, by omega, hg, by omega, by simp at hlg ⊢; omega, by simp; omega, hids, .inr ⟨id, rfl, rfl⟩, ?_, rfl⟩ (by omega)
        have e2 : (ips ++ [(id, sL, ())]).set ips.length (((ips ++ [(id, sL, ())] : List tPr.T)[ips.length]'(by simp)).1, s7, ()) = (ips ++ [(id, s7, ())] : List tPr.T) := by
          rw [List.set_append_right _ _ (Nat.le_refl _), Nat.sub_self]
          simp
        rw [e2] at st
        exact st
  · refine brF (by rw [ls]; exact dlt_f hlt) ?_
    rw [List.drop_eq_nil_of_le (by omega)] at hg
    have hg : some (out, gs) = splitGo xs [] [] := hg
    have e : Rt.splitP xs = (out, gs, 0) := by unfold Rt.splitP; rw [← hg]
    refine hK _ _ ⟨_, _, by rw [e], by rw [e]; exact st.res (by simp) 3 rfl, ?_, st.frame (by simp)⟩
    rw [e]
    rcases hc with ⟨rfl, rfl, rfl, rfl, rfl, rfl⟩ | ⟨id, rfl, rfl⟩
    · exact ent_new (gps := []) (st.res (by simp) 0 rfl) ⟨[], rfl, by simp⟩ rfl
    · have st := st.move (A' := inn (fun c p => nio' c p) (ini.map (·.2) ++ [lst]) (ips.map (·.2.1) ++ [sL])) 1 2 rfl rfl (by decide) fun S1 S2 h1 h2 hd => Inner.snoc h1 h2
      simp only [List.set_cons_zero, List.set_cons_succ] at st
      refine ent_new (gps := ips ++ [(id, sL, ())]) (st.res (by simp) 0 rfl) ?_ (by simp [hids])
      simp only [List.map_append, List.map_cons, List.map_nil]
      exact st.res (by simp) 1 rfl
end Go.Proofs.S
namespace Go.Proofs.S
open Go Go.Sx Go.Proofs Go.Cl Go.Rp Go.Rt
variable {h : Heap} {c d A ids : List Int} {l : List Ent} {gs : List Grp} {s s2 sc : Sl} {fr : Fr} {G As : List Asn} {id p : Int} {i : Nat}
theorem cloneI_c {K : Sl → HP} (st : Hs fr G As h) (hy : At h (li c s)) (hlen : c.length ≤ 1099511627776) (hK : ∀ s' h', Hs fr G (As ++ [nio' c s']) h' → K s' h') :
    callT Tryz.prog fn_slices_Clone_int_int #[.slice s.a s.len s.cap] .sl K h :=
  S_slices_Clone_int_int (a0 := s) K (Hs.clone (τ := i64) (t := ty_int) (by_ := 8) (z := .int .i64 0) st hy leaf_int (by omega) (by decide) hK)
def badID (x : Int) : Bool := decide (x < 1) || decide (x > 1073741824)
theorem badID_not (x : Int) : badID x = !goodID x := by
  unfold badID goodID maxID
  by_cases h1 : x < 1 <;> by_cases h2 : x > 1073741824 <;> simp [h1, h2] <;> omega
theorem join1_c (x : Int) (h : Heap) : callT Tryz.prog fn_rat_Join_1 #[.int .i64 x] .bool (fun r h' => r = badID x ∧ Ext [] h h') h := by
  refine callT_gen fun K hK => S_rat_Join_1 (a0 := x) K ?_
  unfold F_rat_Join_1
  refine jn_in fun J hJ => ?_
  unfold badID at hK
  by_cases h1 : x < 1
  · rw [decide_eq_true h1, brB_true]; exact hJ _ _ (hK _ _ ⟨by rw [decide_eq_true h1]; rfl, Ext.refl' _ _⟩)
  · rw [decide_eq_false h1, brB_false]; exact hJ _ _ (hK _ _ ⟨by rw [decide_eq_false h1]; rfl, Ext.refl' _ _⟩)
theorem containsFunc_ints {fv : Value} {p : Int → Bool} (hA : At h (li c s)) (hl : c.length ≤ 1099511627776) (hp : PredOk Tryz.prog i64 fv p c h) :
    callT Tryz.prog fn_slices_ContainsFunc_int_int #[.slice s.a s.len s.cap, fv] .bool (fun r h' => r = c.any p ∧ Ext [] h h') h := by
  refine callT_gen fun K hK => S_slices_ContainsFunc_int_int (a0 := s) (a1 := fv) K ?_
  unfold F_slices_ContainsFunc_int_int
  refine call_of (R := fun r h' => r = fidx p c ∧ Ext [] h h') (callT_gen fun K hK => S_slices_IndexFunc_int_int (a0 := s) (a1 := fv) K (w_indexFunc (P := Tryz.prog) (τ := i64) hA hl hp fun h' x => hK _ _ ⟨rfl, x⟩)) ?_
  rintro r h2 ⟨er, x⟩
  have er : r = fidx p c := er
  subst er
  exact hK _ _ ⟨fidx_ge _ _, x⟩
def joinT (ids : List Int) (gs : List Grp) : List Int := ids ++ gs.flatMap fun g => IntKind.wrap .i64 (0 - g.1) :: g.2
def joinN (ids : List Int) (gs : List Grp) : List Int := ids ++ gs.flatMap fun g => g.1 :: g.2
theorem joinT_snoc (g : Grp) : joinT ids (gs ++ [g]) = joinT ids gs ++ [IntKind.wrap .i64 (0 - g.1)] ++ g.2 := by simp [joinT]
theorem joinN_snoc (g : Grp) : joinN ids (gs ++ [g]) = joinN ids gs ++ [g.1] ++ g.2 := by simp [joinN]
theorem joinN_len (hh : ∀ g ∈ gs, g.2.length ≤ 100000) : (joinN ids gs).length ≤ ids.length + gs.length * 100001 := by
  induction gs with
  | nil => simp [joinN]
  | cons g gs ih =>
    have := ih (fun x hx => hh x (List.mem_cons_of_mem _ hx))
    have hg := hh g (by simp)
    simp only [joinN, List.length_append, List.flatMap_cons, List.length_cons] at this ⊢
    omega
theorem joinT_len : (joinT ids gs).length = (joinN ids gs).length := by
  induction gs with
  | nil => rfl
  | cons g gs ih =>
    simp only [joinN, joinT, List.length_append, List.flatMap_cons, List.length_cons] at ih ⊢
    omega
theorem joinN_any : (joinN ids gs).any badID = !joinOk ids gs := by
  have e : badID = fun x => !goodID x := funext badID_not
  rw [e]
  unfold joinN joinOk
  simp only [List.any_append, List.all_eq_not_any_not, Bool.not_and, Bool.not_not, List.any_flatMap, List.any_cons, Bool.not_or]
theorem joinT_ok (h : joinOk ids gs = true) : joinT ids gs = textOf ids gs := by
  unfold joinT textOf
  congr 1
  unfold joinOk at h
  have hg : ∀ g ∈ gs, goodID g.1 = true := fun g hg => by
    have := List.all_eq_true.1 (Bool.and_eq_true_iff.1 h).2 g hg
    exact (Bool.and_eq_true_iff.1 this).1
  clear h
  induction gs with
  | nil => rfl
  | cons g gs ih =>
    have h1 := goodID_iff.1 (hg g (by simp))
    unfold maxID at h1
    simp only [List.flatMap_cons]
    rw [ih fun x hx => hg x (List.mem_cons_of_mem _ hx), wrap_i64 (by omega) (by omega), show (0 : Int) - g.1 = -g.1 by omega]
set_option maxRecDepth 10000 in
set_option maxHeartbeats 1000000 in
theorem Join_c (hA : At h (li ids s)) (hG : At h (ent gs s2)) (hl : ids.length ≤ 100000) (hgl : gs.length ≤ 100000) (hh : ∀ g ∈ gs, g.2.length ≤ 100000) :
    callT Tryz.prog fn_rat_Join #[.slice s.a s.len s.cap, .slice s2.a s2.len s2.cap] (.tup (.cons .sl (.cons (.int .i64) .nil)))
      (fun r h' => ∃ s', r = (s', (joinP ids gs).2, ()) ∧ New h.size h' (nio' (joinP ids gs).1 s') ∧ Ext [] h h') h := by
  refine callT_gen fun K hK => S_rat_Join (a0 := s) (a1 := s2) K ?_
  unfold F_rat_Join
  have lg := rsp_len hG
  obtain ⟨ps, lp, hps, hx⟩ := rsp_open hG
  have st := Hs.start h [li ids s, rsn 2 tPr.vals ps s2] (by simp [hA, hps])
  refine cloneI_c st (st.fz 0 rfl) (by omega) fun s0 h1 st => ?_
  refine cloneI_c st (st.fz 0 rfl) (by omega) fun s1 h2 st => ?_
  simp only [List.cons_append, List.nil_append] at st
  refine lfp_invh (I := fun m σ h' => ∃ (i : Nat) (sA sO : Sl), σ = ((i : Int), sA, sO, ()) ∧ i ≤ gs.length ∧ Hs [([], h)] [li ids s, rsn 2 tPr.vals ps s2] [nio' (joinT ids (gs.take i)) sO, nio' (joinN ids (gs.take i)) sA] h' ∧ m = gs.length - i)
    ⟨_, 0, s1, s0, rfl, by omega, by simpa [joinT, joinN] using st, rfl⟩ ?_
  clear st
  rintro m σ h3 X ⟨i, sA, sO, rfl, hi, st, rfl⟩ hX
  simp only
  have ln : (joinN ids (gs.take i)).length ≤ 100000 + 100000 * 100001 := by
    have := joinN_len (ids := ids) (gs := gs.take i) fun g hg => hh g (List.mem_of_mem_take hg)
    have h4 : (gs.take i).length ≤ 100000 := by rw [List.length_take]; omega
    have h5 := Nat.mul_le_mul_right 100001 h4
    omega
  have lt := joinT_len (ids := ids) (gs := gs.take i)
  by_cases hlt : i < gs.length
  · refine brT (by rw [lg]; exact dlt_t hlt) ?_
    have hgi := hh _ (List.getElem_mem hlt)
    obtain ⟨e, hp⟩ := hx i hlt (by omega)
    refine rdN (τ := tPr) (st.fz 1 rfl) (i := i) (by omega) ?_
    obtain ⟨q, hq⟩ : ∃ q : Sl, q = (ps[i]'(by omega)).2.1 := ⟨_, rfl⟩
    rw [show ps[i]'(by omega) = (gs[i].1, q, ()) by rw [← e, hq]]
    rw [← hq] at hp
    refine st.pr fun b4 h4 x4 st => ?_
    simp only [List.cons_append, List.nil_append] at st
    rw [st.ldi 2 0 rfl rfl, addr_add, st.lds 2 1 rfl rfl]
    refine st.nw fun b9 h5 st => ?_
    simp only [List.cons_append, List.nil_append] at st
    refine st.apd (v := IntKind.wrap .i64 (0 - gs[i].1)) 0 3 rfl rfl (by decide) rfl (by omega) (by decide) rfl fun s10 h6 st => ?_
    simp only [List.set_cons_zero, List.set_cons_succ] at st
    rw [st.ck 2 1 rfl rfl]
    refine Hs.apdS (τ := i64) st 0 rfl (hp.ext (st.frame (by simp))) leaf_int (by simp; omega) (by decide) fun s11 h7 st => ?_
    simp only [List.set_cons_zero, List.set_cons_succ] at st
    rw [st.ldi 2 0 rfl rfl, st.lds 2 1 rfl rfl]
    refine st.nw fun b14 h8 st => ?_
    simp only [List.cons_append, List.nil_append] at st
    refine st.apd (v := gs[i].1) 1 4 rfl rfl (by decide) rfl (by omega) (by decide) rfl fun s15 h9 st => ?_
    simp only [List.set_cons_zero, List.set_cons_succ] at st
    rw [st.ck 2 1 rfl rfl]
    refine Hs.apdS (τ := i64) st 1 rfl (hp.ext (st.frame (by simp))) leaf_int (by simp; omega) (by decide) fun s16 h10 st => ?_
    simp only [List.set_cons_zero, List.set_cons_succ] at st
    rw [inc_i (by omega)]
    refine hX _ _ _ ⟨i + 1, s16, s11, rfl, by omega, ?_, rfl⟩ (by omega)
    rw [List.take_succ_eq_append_getElem hlt, joinT_snoc, joinN_snoc]
    exact (((st.drop 4 rfl).drop 3 rfl).drop 2 rfl)
  · refine brF (by rw [lg]; exact dlt_f hlt) ?_
    rw [List.take_of_length_le (by omega)] at st ln lt
    refine call_of (containsFunc_ints (p := badID) (st.own 1 rfl).rsl (by omega) (fun x _ h' x' => callF_func (join1_c x h'))) ?_
    rintro _ h4 ⟨rfl, x4⟩
    have st := st.ext x4
    rw [joinN_any]
    unfold joinP at hK
    cases hok : joinOk ids gs with
    | false =>
      refine brT rfl (hK _ _ ⟨_, by rw [hok]; rfl, ?_, st.frame (by simp)⟩)
      rw [hok]; exact osl_nil h.size _
    | true =>
      refine brF rfl (hK _ _ ⟨_, by rw [hok]; rfl, ?_, st.frame (by simp)⟩)
      rw [hok, if_pos rfl, ← joinT_ok hok]
      exact st.res (by simp) 0 rfl
end Go.Proofs.S
namespace Go.Sx
open Go
section
variable {P : Program} {h h' : Heap} {s s2 : Sl} {t : TypeId} {b : Nat}
theorem ldPre {τ : Ty} {x : τ.T} {c rest : List Value} {K : τ.T → HP} (hb : Blk h b t c) (hc : c = τ.vals x ++ rest) (hK : K x h) : ldA τ ⟨b, 0, none⟩ K h :=
  ⟨x, CellsAt_blk' _ hb 0 (fun j hj => by subst hc; rw [Nat.zero_add, List.getElem?_append_left hj]), hK⟩
def W_equalFuncP (P : Program) (t : TypeId) (a0 a1 : Sl) (a2 : Value) (K : Bool → HP) : HP :=
 brB ((a0.len : Int) != (a1.len : Int))
 (K false)
 (lfp (σ := (Int × (Bool × Unit))) (fun X0 s1 =>
 brB (decide (s1.1 < (a0.len : Int)))
 (sx a0.a a0.len s1.1 2 fun p2 =>
 ldA (.cons (.int .i64) (.cons .sl .nil)) p2 fun x3 =>
 nw #[(.int .i64 (0 : Int)), (.slice none 0 0)] t fun b4 =>
 st1 (⟨b4, 0, none⟩ : Addr) (.int .i64 x3.1) <|
 st1 ((⟨b4, 0, none⟩ : Addr).add 1) (.slice x3.2.1.a x3.2.1.len x3.2.1.cap) <|
 sx a1.a a1.len s1.1 2 fun p5 =>
 ldA (.cons (.int .i64) (.cons .sl .nil)) p5 fun x6 =>
 nw #[(.int .i64 (0 : Int)), (.slice none 0 0)] t fun b7 =>
 st1 (⟨b7, 0, none⟩ : Addr) (.int .i64 x6.1) <|
 st1 ((⟨b7, 0, none⟩ : Addr).add 1) (.slice x6.2.1.a x6.2.1.len x6.2.1.cap) <|
 ldA (.cons (.int .i64) (.cons .sl .nil)) (⟨b4, 0, none⟩ : Addr) fun x8 =>
 ldA (.cons (.int .i64) (.cons .sl .nil)) (⟨b7, 0, none⟩ : Addr) fun x9 =>
 callF P a2 #[(.agg #[(.int .i64 x8.1), (.slice x8.2.1.a x8.2.1.len x8.2.1.cap)]), (.agg #[(.int .i64 x9.1), (.slice x9.2.1.a x9.2.1.len x9.2.1.cap)])] .bool fun r10 =>
 brB (!r10)
 (K false)
 (X0 ((IntKind.wrap .i64 (s1.1 + (1 : Int))), s1.2.1, ())))
 (K true))
 ((0 : Int), false, ()))
theorem w_equalFuncP {I J : List Int → Sl → Asn} {fv : Value} {r : Int × List Int → Int × List Int → Bool} {us vs : List (Int × List Int)} (hA : At h (rsp I us s)) (hB : At h (rsp J vs s2)) (hl : us.length ≤ 1099511627776)
    (hc : ∀ x ∈ us, ∀ y ∈ vs, ∀ p q h', Ext [] h h' → At h' (I x.2 p) → At h' (J y.2 q) →
      callF P fv #[(.agg #[(.int .i64 x.1), (.slice p.a p.len p.cap)]), (.agg #[(.int .i64 y.1), (.slice q.a q.len q.cap)])] .bool (fun b h2 => b = r x y ∧ Ext [] h' h2) h') {K : Bool → HP}
    (hK : ∀ (b : Bool) h', (b = true ↔ us.length = vs.length ∧ ∀ i (h1 : i < us.length) (h2 : i < vs.length), r us[i] vs[i] = true) → Ext [] h h' → K b h') : W_equalFuncP P t s s2 fv K h := by
  unfold W_equalFuncP
  have l1 := rsp_len hA
  have l2 := rsp_len hB
  by_cases hlen : us.length = vs.length
  · rw [show ((s.len : Int) != (s2.len : Int)) = false by rw [l1, l2, hlen]; simp, brB_false]
    refine lfp_invh (I := fun m σ h' => ∃ i : Nat, σ = ((i : Int), false, ()) ∧ i ≤ us.length ∧ (∀ j (h1 : j < us.length) (h2 : j < vs.length), j < i → r us[j] vs[j] = true) ∧ Ext [] h h' ∧ m = us.length - i) ⟨_, 0, rfl, by omega, fun j _ _ h => by omega, Ext.refl' _ _, rfl⟩ ?_
    rintro m σ h' X ⟨i, rfl, hi, hall, x, em⟩ hX
    simp only
    by_cases hlt : i < us.length
    · rw [show decide ((i : Int) < (s.len : Int)) = true by rw [l1]; exact dlt_t hlt, brB_true, inc_i (show i < 4611686018427387904 by omega)]
      have hlt2 : i < vs.length := by omega
      refine rdPr (hA.ext x) hlt fun p hp => ?_
      have st := Hs.start h' [rsp J vs s2] (by simp; exact hB.ext x)
      refine st.pr fun b4 h4 x4 st => ?_
      refine rdPr (st.fz 0 rfl) hlt2 fun q hq => ?_
      refine st.pr fun b7 h7 x7 st => ?_
      simp only [List.cons_append, List.nil_append] at st
      refine ldRow (τ := tPr) (x := (us[i].1, p, ())) (st.blk 0 rfl) ?_
      refine ldRow (τ := tPr) (x := (vs[i].1, q, ())) (st.blk 1 rfl) ?_
      have xx := x.nil_trans (x4.nil_trans x7)
      refine callF_of (hc _ (List.getElem_mem hlt) _ (List.getElem_mem hlt2) p q h7 xx (hp.ext (x4.nil_trans x7)) (hq.ext x7)) ?_
      rintro b h2 ⟨eb, x2⟩
      have eb : b = r us[i] vs[i] := eb
      subst eb
      have x2' := xx.nil_trans x2
      cases hr : r us[i] vs[i] with
      | false =>
        simp only [Bool.not_false, brB_true]
        refine hK _ _ ⟨fun h => (by cases h), fun h => ?_⟩ x2'
        have := h.2 i hlt (by omega)
        rw [hr] at this; cases this
      | true =>
        simp only [Bool.not_true, brB_false]
        refine hX _ _ _ ⟨i + 1, rfl, by omega, fun j h1 h2 hj => ?_, x2', rfl⟩ (by omega)
        rcases Nat.lt_or_ge j i with k | k
        · exact hall j h1 h2 k
        · have : j = i := by omega
          subst this; exact hr
    · rw [show decide ((i : Int) < (s.len : Int)) = false by rw [l1]; exact dlt_f hlt, brB_false]
      exact hK _ _ ⟨fun _ => ⟨hlen, fun j h1 h2 => hall j h1 h2 (by omega)⟩, fun _ => rfl⟩ x
  · rw [show ((s.len : Int) != (s2.len : Int)) = true by rw [l1, l2]; simp; omega, brB_true]
    exact hK _ _ ⟨fun h => (by cases h), fun h => absurd h.1 hlen⟩ (Ext.refl' _ _)
def AllP (h : Heap) : List (Int × List Int) → List tPr.T → Prop
  | [], [] => True
  | x :: xs, p :: ps => (p.1 = x.1 ∧ At h (rsl (Ty.int .i64).enc x.2 p.2.1)) ∧ AllP h xs ps
  | _, _ => False
theorem AllP.len : ∀ {cs : List (Int × List Int)} {ps : List tPr.T}, AllP h cs ps → ps.length = cs.length
  | [], [], _ => rfl
  | c :: cs, p :: ps, ⟨_, k⟩ => by simp [AllP.len k]
  | [], _ :: _, k => k.elim
  | _ :: _, [], k => k.elim
theorem AllP.get : ∀ {cs : List (Int × List Int)} {ps : List tPr.T}, AllP h cs ps → ∀ i (h1 : i < cs.length) (h2 : i < ps.length), ps[i].1 = cs[i].1 ∧ At h (rsl (Ty.int .i64).enc cs[i].2 ps[i].2.1)
  | c :: cs, p :: ps, ⟨k, _⟩, 0, _, _ => k
  | c :: cs, p :: ps, ⟨_, k⟩, i + 1, h1, h2 => AllP.get k i (Nat.lt_of_succ_lt_succ h1) (Nat.lt_of_succ_lt_succ h2)
  | [], _, _, i, h1, _ => by simp at h1
  | _ :: _, [], k, _, _, _ => k.elim
theorem rsp_mk {ps : List tPr.T} {cs : List (Int × List Int)} {n : Nat} {vs : List Value} (hb : Blk h b t vs) (hvs : vs = (ps.map tPr.vals).flatten) (hn : n = ps.length) (ha : AllP h cs ps) : At h (rsp (fun c p => rsl (Ty.int .i64).enc c p) cs ⟨some ⟨b, 0, none⟩, n, n⟩) := by
  subst hvs hn
  exact rsp_at ha.len ⟨[b], osn_rsn widePr (t := t) (.inl ⟨b, [], 0, rfl, rfl, by simp, by simpa using hb⟩)⟩ ha.get
end
end Go.Sx
namespace Go.Proofs.S
open Go Go.Sx Go.Proofs Go.Cl Go.Rp Go.Rt
variable {h : Heap} {c d A ids : List Int} {l : List Ent} {gs us vs : List Grp} {s s2 sc : Sl} {fr : Fr} {G As : List Asn} {id p : Int} {i : Nat}
theorem sameGroups1_c {x y : Grp} {p q : Sl} (hA : At h (li x.2 p)) (hB : At h (li y.2 q)) (hl : x.2.length ≤ 1099511627776) :
    callT Tryz.prog fn_salvorlaw09_sameGroups_1 #[(.agg #[(.int .i64 x.1), (.slice p.a p.len p.cap)]), (.agg #[(.int .i64 y.1), (.slice q.a q.len q.cap)])] .bool (fun r h' => r = decide (x = y) ∧ Ext [] h h') h := by
  refine callT_gen fun K hK => S_salvorlaw09_sameGroups_1 (a0 := (x.1, p, ())) (a1 := (y.1, q, ())) K ?_
  unfold F_salvorlaw09_sameGroups_1
  have st := Hs.start h [li x.2 p, li y.2 q] (by simp [hA, hB])
  refine st.nw fun b0 h1 st => ?_
  refine st.nw fun b1 h2 st => ?_
  simp only [List.cons_append, List.nil_append] at st
  rw [st.ldi 0 0 rfl rfl, st.ldi 1 0 rfl rfl]
  obtain ⟨x1, x2⟩ := x
  obtain ⟨y1, y2⟩ := y
  refine jn_in fun J hJ => ?_
  by_cases e : x1 = y1
  · refine brT (by simpa using e) ?_
    rw [addr_add, addr_add, st.lds 0 1 rfl rfl, st.lds 1 1 rfl rfl]
    refine call_of (equal_int (st.fz 0 rfl) (st.fz 1 rfl) hl) ?_
    rintro _ h3 ⟨rfl, e3⟩; subst e3
    refine hJ _ _ (hK _ _ ⟨?_, st.frame (by simp)⟩)
    simp [e]
  · refine brF (by simpa using e) (hJ _ _ (hK _ _ ⟨?_, st.frame (by simp)⟩))
    simp [e]
theorem equalFunc_groups {fv : Value} {K : Bool → HP} (hW : W_equalFuncP Tryz.prog ty_rat_Group s s2 fv K h) : callT Tryz.prog fn_slices_EqualFunc_rat_Group_rat_Group_rat_Group_rat_Group #[.slice s.a s.len s.cap, .slice s2.a s2.len s2.cap, fv] .bool K h :=
  S_slices_EqualFunc_rat_Group_rat_Group_rat_Group_rat_Group (a0 := s) (a1 := s2) (a2 := fv) K hW
theorem sameGroups_c (hA : At h (ent us s)) (hB : At h (ent vs s2)) (hl : us.length ≤ 1099511627776) (hh : ∀ g ∈ us, g.2.length ≤ 1099511627776) :
    callT Tryz.prog fn_salvorlaw09_sameGroups #[.slice s.a s.len s.cap, .slice s2.a s2.len s2.cap] .bool (fun r h' => r = decide (us = vs) ∧ Ext [] h h') h := by
  refine callT_gen fun K hK => S_salvorlaw09_sameGroups (a0 := s) (a1 := s2) K ?_
  unfold F_salvorlaw09_sameGroups
  refine equalFunc_groups ?_
  refine w_equalFuncP (P := Tryz.prog) (t := ty_rat_Group) (r := fun x y => decide (x = y)) hA hB hl (fun x hx y hy p q h' x' hp hq => ?_) fun b h' hb x => hK _ _ ⟨?_, x⟩
  · exact callF_func (sameGroups1_c hp hq (hh x hx))
  rw [Bool.eq_iff_iff, hb, decide_eq_true_eq]
  refine ⟨fun ⟨hlen, hall⟩ => List.ext_getElem hlen fun i h1 h2 => by simpa using hall i h1 h2, fun e => ?_⟩
  subst e
  exact ⟨rfl, fun i h1 h2 => by simp⟩
def thr : List Ent := [(1, [1, 2]), (2, [-1, 3]), (3, [-2, -3])]
theorem three_c (h : Heap) : callT Tryz.prog fn_salvorlaw09_three #[] .sl (fun s' h' => New h.size h' (ent thr s') ∧ Ext [] h h') h := by
  refine callT_gen fun K hK => S_salvorlaw09_three K ?_
  unfold F_salvorlaw09_three
  have st := Hs.start h [] (by simp)
  refine st.nw fun b0 h1 st => ?_
  have st := st.asSl 0 i64.enc [1, 2] rfl rfl
  refine st.nw fun b1 h1 st => ?_
  have st := st.asSl 1 i64.enc [-1, 3] rfl rfl
  refine st.nw fun b2 h1 st => ?_
  have st := st.asSl 2 i64.enc [-2, -3] rfl rfl
  refine st.nw fun b3 h1 st => ?_
  let rows : List tPr.T := [(1, ⟨some ⟨b0, 0, none⟩, 2, 2⟩, ()), (2, ⟨some ⟨b1, 0, none⟩, 2, 2⟩, ()), (3, ⟨some ⟨b2, 0, none⟩, 2, 2⟩, ())]
  have st := st.asSn 3 2 tPr.vals rows rfl rfl
  refine hK _ _ ⟨?_, st.frame (by simp)⟩
  have ho := st.res (h0 := h) (by simp) 3 rfl
  have hr : New h.size h1 (rsn 2 tPr.vals rows ⟨some ⟨b3, 0, none⟩, 3, 3⟩) := let ⟨S, p, q⟩ := ho; ⟨S, osn_rsn widePr p, q⟩
  refine rsp_new (ps := rows) rfl hr fun i h1 h2 => ?_
  match i, h1, h2 with
  | 0, _, _ => exact ⟨rfl, (st.res (h0 := h) (by simp) 0 rfl).rsl⟩
  | 1, _, _ => exact ⟨rfl, (st.res (h0 := h) (by simp) 1 rfl).rsl⟩
  | 2, _, _ => exact ⟨rfl, (st.res (h0 := h) (by simp) 2 rfl).rsl⟩
end Go.Proofs.S
