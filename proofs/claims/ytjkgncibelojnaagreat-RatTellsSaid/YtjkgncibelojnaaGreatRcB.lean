/-
  The reference of rat: Split, Join.
-/
import Derived.Test.YtjkgncibelojnaaGreatRaX
import Derived.Test.YtjkgncibelojnaaGreatRtT
set_option linter.unusedVariables false
set_option linter.unusedSimpArgs false
namespace Go.Proofs.S
open Go Go.Sx Go.Proofs Go.Cl Go.Rp Go.Rt

variable {h : Heap} {c d A ids : List Int} {l : List Ent} {gs : List Grp} {s s2 sc : Sl} {fr : Fr} {G As : List Asn} {id p : Int} {i : Nat}

set_option maxRecDepth 10000 in
set_option maxHeartbeats 2000000 in
theorem r9_Split_c {xs : List Int} (hA : At h (li xs s)) (hl : xs.length ≤ 1099511627776) :
    callT Tryz.prog fn_salvorref09_Split #[.slice s.a s.len s.cap] (.tup (.cons .sl (.cons .sl (.cons (.int .i64) .nil))))
      (fun r h' => ∃ s1 s2, r = (s1, s2, (Rt.splitP xs).2.2, ()) ∧ New h.size h' (nio' (Rt.splitP xs).1 s1) ∧ New h.size h' (ent (Rt.splitP xs).2.1 s2) ∧ Ext [] h h') h := by
  refine callT_gen fun K hK => S_salvorref09_Split (a0 := s) K ?_
  unfold F_salvorref09_Split
  have st := Hs.start h [li xs s] (by simp [hA])
  have ls := rsl_len hA
  refine lfp_invh (I := fun m σ h' => ∃ (i : Nat) (out lst : List Int) (gs ini : List Grp) (gps ips : List tPr.T) (sO sL sG : Sl) (v : Int) (u1 u2 : Sl), σ = ((i : Int), sG, sO, v, u1, u2, ()) ∧ i ≤ xs.length ∧
      splitGo (xs.drop i) out gs = splitGo xs [] [] ∧ out.length ≤ i ∧ gs.length ≤ i ∧ lst.length ≤ i ∧ ips.map (·.1) = ini.map (·.1) ∧
      ((gs = [] ∧ gps = [] ∧ ini = [] ∧ ips = [] ∧ lst = [] ∧ sL = ⟨none, 0, 0⟩) ∨ ∃ id, gs = ini ++ [(id, lst)] ∧ gps = ips ++ [(id, sL, ())]) ∧
      Hs [([], h)] [li xs s] [osn ty_salvorref09_Group 2 tPr.vals gps sG, inn (fun c p => nio' c p) (ini.map (·.2)) (ips.map (·.2.1)), nio' lst sL, nio' out sO] h' ∧ m = xs.length - i)
    ⟨_, 0, [], [], [], [], [], [], ⟨none, 0, 0⟩, ⟨none, 0, 0⟩, ⟨none, 0, 0⟩, 0, ⟨none, 0, 0⟩, ⟨none, 0, 0⟩, rfl, by omega, rfl, by simp, by simp, by simp, rfl, .inl ⟨rfl, rfl, rfl, rfl, rfl, rfl⟩, ?_, rfl⟩ ?_
  · have st := st.new (A := osn ty_salvorref09_Group 2 tPr.vals [] ⟨none, 0, 0⟩) (Ext.refl' [] h) ⟨[], .inr ⟨rfl, rfl, rfl, rfl⟩, by simp⟩
    have st := st.new (A := inn (fun c p => nio' c p) [] []) (Ext.refl' [] h) ⟨[], rfl, by simp⟩
    exact (st.nil ty_int i64.enc none).nil ty_int i64.enc none
  clear st
  rintro m σ h1 X ⟨i, out, lst, gs, ini, gps, ips, sO, sL, sG, v, u1, u2, rfl, hi, hg, hlo, hlg, hll, hids, hc, st, rfl⟩ hX
  simp only
  have hlen : ips.length = ini.length := by simpa using congrArg List.length hids
  have lgp : gps.length = gs.length := by
    rcases hc with ⟨rfl, rfl, _⟩ | ⟨id, rfl, rfl⟩
    · rfl
    · simp [hlen]
  have lG : sG.len = gps.length := osn_len (st.own 0 rfl)
  by_cases hlt : i < xs.length
  · refine brT (by rw [ls]; exact dlt_t hlt) ?_
    refine rdE (τ := i64) (i := i) (st.fz 0 rfl) hlt ?_
    rw [List.drop_eq_getElem_cons hlt] at hg
    generalize hn : xs[i] = n at *
    have bad : (n = 0 ∨ n > maxID ∨ n < -maxID) → ∀ h', Ext [] h h' → K (⟨none, 0, 0⟩, ⟨none, 0, 0⟩, 91, ()) h' := fun q h' x => by
      rw [splitGo_bad n q] at hg
      have e : Rt.splitP xs = ([], [], 91) := by unfold Rt.splitP; rw [← hg]
      exact hK _ _ ⟨_, _, by rw [e], by rw [e]; exact osl_nil h.size h', by rw [e]; exact rsp_nil _ _ _, x⟩
    refine jn_in fun J hJ => ?_
    by_cases h0 : n = 0
    · refine brT (by simpa using h0) (hJ _ _ ?_)
      clear J hJ
      exact jn_in fun J hJ => brT rfl (hJ _ _ (brT rfl (bad (.inl h0) _ (st.frame (by simp)))))
    refine brF (by simpa using h0) ?_
    by_cases h2 : n > 1073741824
    · rw [decide_eq_true h2]
      refine hJ _ _ ?_
      clear J hJ
      exact jn_in fun J hJ => brT rfl (hJ _ _ (brT rfl (bad (.inr (.inl h2)) _ (st.frame (by simp)))))
    rw [decide_eq_false h2]
    refine hJ _ _ ?_
    clear J hJ
    refine jn_in fun J hJ => brF rfl ?_
    by_cases h3 : n < -1073741824
    · rw [decide_eq_true h3]
      exact hJ _ _ (brT rfl (bad (.inr (.inr h3)) _ (st.frame (by simp))))
    rw [decide_eq_false h3]
    refine hJ _ _ (brF rfl ?_)
    clear J hJ bad
    have hgd : ¬ (n = 0 ∨ n > maxID ∨ n < -maxID) := by unfold maxID; rintro (q | q | q) <;> omega
    refine jn_in fun J hJ => ?_
    by_cases hneg : n < 0
    · refine brT (decide_eq_true hneg) ?_
      rw [show IntKind.wrap .i64 (0 - n) = -n by rw [wrap_i64 (by omega) (by omega)]; omega]
      refine st.nw fun b4 h4 st => ?_
      simp only [List.cons_append, List.nil_append] at st
      refine Hs.apdN (v := ((-n, ⟨none, 0, 0⟩, ()) : tPr.T)) st widePr (by decide) 0 4 rfl rfl (by decide) (fun u hu => by
        have hu : u ∈ [Value.int .i64 (-n), .slice none 0 0] := hu
        simp only [List.mem_cons, List.not_mem_nil, or_false] at hu
        rcases hu with rfl | rfl <;> rfl) (by omega) (by decide) rfl fun s79 h5 st => hJ _ _ ?_
      simp only [List.set_cons_zero, List.set_cons_succ] at st
      have st := st.drop 4 rfl
      simp only [List.eraseIdx_cons_succ, List.eraseIdx_cons_zero] at st
      rw [inc_i (by omega)]
      rw [splitGo_neg hgd hneg] at hg
      rcases hc with ⟨rfl, rfl, rfl, rfl, rfl, rfl⟩ | ⟨id, rfl, rfl⟩
      · exact hX _ _ _ ⟨i + 1, out, [], [(-n, [])], [], [(-n, ⟨none, 0, 0⟩, ())], [], _, ⟨none, 0, 0⟩, _, _, _, _, rfl, by omega, hg, by omega, by simp, by simp, rfl, .inr ⟨-n, rfl, rfl⟩, st, rfl⟩ (by omega)
      · have st := st.move (A' := inn (fun c p => nio' c p) (ini.map (·.2) ++ [lst]) (ips.map (·.2.1) ++ [sL])) 1 2 rfl rfl (by decide) fun S1 S2 h1 h2 hd => Inner.snoc h1 h2
        simp only [List.set_cons_zero, List.set_cons_succ] at st
        have st := st.imp (A' := nio' [] ⟨none, 0, 0⟩) 2 rfl fun S h e => .inr ⟨e, rfl, rfl, rfl⟩
        simp only [List.set_cons_zero, List.set_cons_succ] at st
        refine hX _ _ _ ⟨i + 1, out, [], ini ++ [(id, lst)] ++ [(-n, [])], ini ++ [(id, lst)], ips ++ [(id, sL, ())] ++ [(-n, ⟨none, 0, 0⟩, ())], ips ++ [(id, sL, ())], _, ⟨none, 0, 0⟩, _, _, _, _, rfl, by omega, hg, by omega, by simp at hlg ⊢; omega, by simp, by simp [hids], .inr ⟨-n, rfl, rfl⟩, ?_, rfl⟩ (by omega)
        simp only [List.map_append, List.map_cons, List.map_nil]
        exact st
    · refine brF (decide_eq_false hneg) ?_
      rw [splitGo_pos hgd hneg] at hg
      refine jn_in fun L hL => ?_
      rcases hc with ⟨rfl, rfl, rfl, rfl, rfl, rfl⟩ | ⟨id, rfl, rfl⟩
      · refine brT (by rw [lG]; rfl) ?_
        refine st.nw fun b4 h4 st => ?_
        simp only [List.cons_append, List.nil_append] at st
        refine st.apd (v := n) 3 4 rfl rfl (by decide) rfl (by omega) (by decide) rfl fun s7 h5 st => hL _ _ (hJ _ _ ?_)
        simp only [List.set_cons_zero, List.set_cons_succ] at st
        have st := st.drop 4 rfl
        rw [inc_i (by omega)]
        exact hX _ _ _ ⟨i + 1, out ++ [n], [], [], [], [], [], _, ⟨none, 0, 0⟩, _, _, _, _, rfl, by omega, hg, by simp; omega, by simp, by simp, rfl, .inl ⟨rfl, rfl, rfl, rfl, rfl, rfl⟩, st, rfl⟩ (by omega)
      · have lg2 : ips.length + 1 ≤ i := by simp at hlg lgp; omega
        have ew : IntKind.wrap .i64 ((sG.len : Int) - 1) = ((ips.length : Nat) : Int) := by rw [lG, List.length_append, List.length_singleton, wrap_i64 (by omega) (by omega)]; omega
        rw [ew]
        refine brF (decide_eq_false (show ¬ (((ips.length : Nat) : Int) < 0) by omega)) ?_
        refine st.nw fun b3 h4 st => ?_
        simp only [List.cons_append, List.nil_append] at st
        have st := st.asSl 4 i64.enc [] rfl rfl
        simp only [List.set_cons_zero, List.set_cons_succ] at st
        refine Hs.prF st 0 rfl (i := ips.length) (by simp) fun b hb => ?_
        simp only [List.getElem_append_right (Nat.le_refl _), Nat.sub_self, List.getElem_cons_zero]
        refine Hs.apdS (τ := i64) st 4 rfl (st.own 2 rfl).rsl leaf_int (by simp; omega) (by decide) fun s19 h5 st => ?_
        simp only [List.set_cons_zero, List.set_cons_succ, List.nil_append] at st
        refine st.nw fun b4 h6 st => ?_
        simp only [List.cons_append, List.nil_append] at st
        refine st.apd (v := n) 4 5 rfl rfl (by decide) rfl (by omega) (by decide) rfl fun s7 h7 st => ?_
        simp only [List.set_cons_zero, List.set_cons_succ] at st
        refine Hs.prA st 0 rfl (i := ips.length) (by simp) fun b' hb' => ?_
        refine Hs.prW st 0 rfl (i := ips.length) (by simp) hb' s7 fun h8 st => hL _ _ (hJ _ _ ?_)
        simp only [List.set_cons_zero, List.set_cons_succ] at st
        have st := st.drop 5 rfl
        simp only [List.eraseIdx_cons_succ, List.eraseIdx_cons_zero] at st
        have st := st.moveS (A' := nio' (lst ++ [n]) s7) 2 4 rfl rfl (by decide) fun S1 S2 p1 p2 hd => ⟨S2, p2, fun b hb => .inr hb⟩
        simp only [List.set_cons_zero, List.set_cons_succ] at st
        have st := st.drop 4 rfl
        simp only [List.eraseIdx_cons_succ, List.eraseIdx_cons_zero] at st
        rw [inc_i (by omega)]
        have hput : putHint out (ini ++ [(id, lst)]) n = (out, ini ++ [(id, lst ++ [n])]) := by unfold putHint; simp
        rw [hput] at hg
        refine hX _ _ _ ⟨i + 1, out, lst ++ [n], ini ++ [(id, lst ++ [n])], ini, ips ++ [(id, s7, ())], ips, _, s7, _, _, _, _, rfl, by omega, hg, by omega, by simp at hlg ⊢; omega, by simp; omega, hids, .inr ⟨id, rfl, rfl⟩, ?_, rfl⟩ (by omega)
        have e2 : (ips ++ [(id, sL, ())]).set ips.length (((ips ++ [(id, sL, ())] : List tPr.T)[ips.length]'(by simp)).1, s7, ()) = (ips ++ [(id, s7, ())] : List tPr.T) := by
          rw [List.set_append_right _ _ (Nat.le_refl _), Nat.sub_self]
          simp
        rw [e2] at st
        exact st
  · refine brF (by rw [ls]; exact dlt_f hlt) ?_
    rw [List.drop_eq_nil_of_le (by omega)] at hg
    have hg : some (out, gs) = splitGo xs [] [] := hg
    have e : Rt.splitP xs = (out, gs, 0) := by unfold Rt.splitP; rw [← hg]
    refine hK _ _ ⟨_, _, by rw [e], by rw [e]; exact st.res (by simp) 3 rfl, ?_, st.frame (by simp)⟩
    rw [e]
    rcases hc with ⟨rfl, rfl, rfl, rfl, rfl, rfl⟩ | ⟨id, rfl, rfl⟩
    · exact ent_new (gps := []) (st.res (by simp) 0 rfl) ⟨[], rfl, by simp⟩ rfl
    · have st := st.move (A' := inn (fun c p => nio' c p) (ini.map (·.2) ++ [lst]) (ips.map (·.2.1) ++ [sL])) 1 2 rfl rfl (by decide) fun S1 S2 h1 h2 hd => Inner.snoc h1 h2
      simp only [List.set_cons_zero, List.set_cons_succ] at st
      refine ent_new (gps := ips ++ [(id, sL, ())]) (st.res (by simp) 0 rfl) ?_ (by simp [hids])
      simp only [List.map_append, List.map_cons, List.map_nil]
      exact st.res (by simp) 1 rfl

theorem bad_hint {x : Int} (hx : x ∈ ids) (hb : goodID x = false) : joinP ids gs = ([], 91) := join_bad (by
  unfold joinOk
  rw [Bool.and_eq_false_iff]; left
  rw [List.all_eq_false]; exact ⟨x, hx, by rw [hb]; simp⟩)
theorem bad_id {g : Grp} (hg : g ∈ gs) (hb : goodID g.1 = false) : joinP ids gs = ([], 91) := join_bad (by
  unfold joinOk
  rw [Bool.and_eq_false_iff]; right
  rw [List.all_eq_false]; exact ⟨g, hg, by rw [hb]; simp⟩)
theorem bad_sub {g : Grp} {x : Int} (hg : g ∈ gs) (hx : x ∈ g.2) (hb : goodID x = false) : joinP ids gs = ([], 91) := join_bad (by
  unfold joinOk
  rw [Bool.and_eq_false_iff]; right
  rw [List.all_eq_false]; exact ⟨g, hg, by
    have : g.2.all goodID = false := by rw [List.all_eq_false]; exact ⟨x, hx, by rw [hb]; simp⟩
    rw [this]; simp⟩)
theorem good_jn {x : Int} {A : Bool → HP} (Y : (Bool → HP) → HP) (h1 : x < 1 → A true h) (h2 : ¬ x < 1 → ∀ J : Bool → HP, (J (decide (x > 1073741824)) h → Y J h)) (hA : A (!goodID x) h) :
    jn (σ := Bool) (fun t => A t) (fun J => brB (decide (x < 1)) (J true) (Y J)) h := by
  refine jn_in fun J hJ => ?_
  rw [← badID_not] at hA
  unfold badID at hA
  by_cases q : x < 1
  · exact brT (decide_eq_true q) (hJ _ _ (h1 q))
  · refine brF (decide_eq_false q) (h2 q J (hJ _ _ ?_))
    rw [decide_eq_false q, Bool.false_or] at hA
    exact hA

theorem textOf_snoc (g : Grp) : textOf ids (gs ++ [g]) = textOf ids gs ++ [-g.1] ++ g.2 := by simp [textOf]

set_option maxRecDepth 10000 in
set_option maxHeartbeats 1000000 in
theorem r9_Join_c (hA : At h (li ids s)) (hG : At h (ent gs s2)) (hl : ids.length ≤ 100000) (hgl : gs.length ≤ 100000) (hh : ∀ g ∈ gs, g.2.length ≤ 100000) :
    callT Tryz.prog fn_salvorref09_Join #[.slice s.a s.len s.cap, .slice s2.a s2.len s2.cap] (.tup (.cons .sl (.cons (.int .i64) .nil)))
      (fun r h' => ∃ s', r = (s', (joinP ids gs).2, ()) ∧ New h.size h' (nio' (joinP ids gs).1 s') ∧ Ext [] h h') h := by
  refine callT_gen fun K hK => S_salvorref09_Join (a0 := s) (a1 := s2) K ?_
  unfold F_salvorref09_Join
  have hK : ∀ s' (o : List Int) (e : Int) h', joinP ids gs = (o, e) → New h.size h' (nio' o s') → Ext [] h h' → K (s', e, ()) h' := fun s' o e h' he n x => hK _ _ ⟨s', by rw [he], by rw [he]; exact n, x⟩
  have bad : ∀ h', joinP ids gs = ([], 91) → Ext [] h h' → K (⟨none, 0, 0⟩, 91, ()) h' := fun h' he x => hK _ _ _ _ he (osl_nil h.size h') x
  have ls := rsl_len hA
  have lg := rsp_len hG
  have st := (Hs.start h [li ids s, ent gs s2] (by simp [hA, hG])).nil ty_int i64.enc none
  simp only [List.nil_append] at st
  refine lfp_invh (I := fun m σ h' => ∃ (i : Nat) (so : Sl) (u1 : Int) (u2 : Sl), σ = ((i : Int), so, u1, u2, ()) ∧ i ≤ ids.length ∧ (∀ x ∈ ids.take i, goodID x = true) ∧ Hs [([], h)] [li ids s, ent gs s2] [nio' (ids.take i) so] h' ∧ m = ids.length - i)
    ⟨_, 0, ⟨none, 0, 0⟩, _, _, rfl, by omega, by simp, st, rfl⟩ ?_
  clear st
  rintro m σ h1 X ⟨i, so, u1, u2, rfl, hi, hgood, st, rfl⟩ hX
  simp only
  by_cases hlt : i < ids.length
  · refine brT (by rw [ls]; exact dlt_t hlt) ?_
    refine rdE (τ := i64) (st.fz 0 rfl) hlt ?_
    refine good_jn _ (fun q => ?_) (fun q J hJ => rdE (τ := i64) (st.fz 0 rfl) hlt hJ) ?_
    · exact brT rfl (bad _ (bad_hint (List.getElem_mem hlt) (by rw [← Bool.not_eq_true', ← badID_not]; unfold badID; simp [q])) (st.frame (by simp)))
    · cases hg : goodID ids[i] with
      | false => exact brT rfl (bad _ (bad_hint (List.getElem_mem hlt) hg) (st.frame (by simp)))
      | true =>
        refine brF rfl ?_
        refine rdE (τ := i64) (st.fz 0 rfl) hlt ?_
        refine st.nw fun b6 h6 st => ?_
        simp only [List.cons_append, List.nil_append] at st
        refine st.apd (v := ids[i]) 0 1 rfl rfl (by decide) rfl (by rw [List.length_take]; omega) (by decide) rfl fun s7 h7 st => ?_
        simp only [List.set_cons_zero, List.set_cons_succ] at st
        rw [inc_i (by omega)]
        refine hX _ _ _ ⟨i + 1, s7, _, _, rfl, by omega, fun x hx => ?_, ?_, rfl⟩ (by omega)
        · rw [take_lt hlt] at hx
          rcases List.mem_append.1 hx with hx | hx
          · exact hgood x hx
          · simp only [List.mem_singleton] at hx; subst hx; exact hg
        · rw [take_lt hlt]; exact st.drop 1 rfl
  refine brF (by rw [ls]; exact dlt_f hlt) ?_
  clear hX
  rw [List.take_of_length_le (by omega)] at st hgood
  have tl : ∀ k, k ≤ gs.length → (textOf ids (gs.take k)).length ≤ 100000 + 100000 * 100001 := fun k hk => by
    have h1 := joinN_len (ids := ids) (gs := gs.take k) fun g hg => hh g (List.mem_of_mem_take hg)
    have h4 : (gs.take k).length ≤ 100000 := by rw [List.length_take]; omega
    have h5 := Nat.mul_le_mul_right 100001 h4
    have h6 : (textOf ids (gs.take k)).length = (joinN ids (gs.take k)).length := by
      unfold textOf joinN
      simp only [List.length_append]
      congr 1
      generalize gs.take k = us
      induction us with
      | nil => rfl
      | cons g us ih => simp only [List.flatMap_cons, List.length_append, List.length_cons, ih]
    omega
  refine lfp_invh (I := fun m σ h' => ∃ (i : Nat) (so : Sl) (u1 : Int) (u2 : Sl), σ = ((i : Int), so, u1, u2, ()) ∧ i ≤ gs.length ∧ (∀ g ∈ gs.take i, goodID g.1 = true ∧ ∀ x ∈ g.2, goodID x = true) ∧ Hs [([], h)] [li ids s, ent gs s2] [nio' (textOf ids (gs.take i)) so] h' ∧ m = gs.length - i)
    ⟨_, 0, so, _, _, rfl, by omega, by simp, by simpa [textOf] using st, rfl⟩ ?_
  clear st
  rintro m σ h2 X ⟨i, so, v1, v2, rfl, hi, hgg, st, rfl⟩ hX
  simp only
  have tli := tl i hi
  by_cases hlt : i < gs.length
  rotate_left
  · refine brF (by rw [lg]; exact dlt_f hlt) ?_
    rw [List.take_of_length_le (by omega)] at st hgg
    refine hK _ _ _ _ ?_ (st.res (by simp) 0 rfl) (st.frame (by simp))
    unfold joinP
    rw [if_pos]
    unfold joinOk
    rw [Bool.and_eq_true, List.all_eq_true, List.all_eq_true]
    exact ⟨hgood, fun g hg => by rw [Bool.and_eq_true, List.all_eq_true]; exact hgg g hg⟩
  refine brT (by rw [lg]; exact dlt_t hlt) ?_
  refine rdPri (st.fz 1 rfl) hlt ?_
  refine good_jn _ (fun q => ?_) (fun q J hJ => rdPri (st.fz 1 rfl) hlt hJ) ?_
  · exact brT rfl (bad _ (bad_id (List.getElem_mem hlt) (by rw [← Bool.not_eq_true', ← badID_not]; unfold badID; simp [q])) (st.frame (by simp)))
  cases hg : goodID gs[i].1 with
  | false => exact brT rfl (bad _ (bad_id (List.getElem_mem hlt) hg) (st.frame (by simp)))
  | true =>
  refine brF rfl ?_
  refine rdPri (st.fz 1 rfl) hlt ?_
  have hgi := goodID_iff.1 hg
  unfold maxID at hgi
  rw [show IntKind.wrap .i64 (0 - gs[i].1) = -gs[i].1 by rw [wrap_i64 (by omega) (by omega)]; omega]
  refine st.nw fun b20 h3 st => ?_
  simp only [List.cons_append, List.nil_append] at st
  refine st.apd (v := -gs[i].1) 0 1 rfl rfl (by decide) rfl (by omega) (by decide) rfl fun s21 h4 st => ?_
  simp only [List.set_cons_zero, List.set_cons_succ] at st
  have st := st.drop 1 rfl
  simp only [List.eraseIdx_cons_succ, List.eraseIdx_cons_zero] at st
  have hgl2 := hh _ (List.getElem_mem hlt)
  refine lfp_invh (I := fun m σ h' => ∃ (k : Nat) (so : Sl) (u1 : Int) (u2 : Sl), σ = ((k : Int), so, u1, u2, ()) ∧ k ≤ gs[i].2.length ∧ (∀ x ∈ gs[i].2.take k, goodID x = true) ∧ Hs [([], h)] [li ids s, ent gs s2] [nio' (textOf ids (gs.take i) ++ [-gs[i].1] ++ gs[i].2.take k) so] h' ∧ m = gs[i].2.length - k)
    ⟨_, 0, s21, _, _, rfl, by omega, by simp, by simpa using st, rfl⟩ ?_
  clear st
  rintro m σ h5 Y ⟨k, so, w1, w2, rfl, hk, hgk, st, rfl⟩ hY
  simp only
  refine rdPrs (st.fz 1 rfl) hlt fun q hq => ?_
  have lq := rsl_len hq
  by_cases hkl : k < gs[i].2.length
  rotate_left
  · refine brF (by rw [lq]; exact dlt_f hkl) ?_
    rw [List.take_of_length_le (show gs[i].2.length ≤ k by omega)] at st hgk
    rw [inc_i (by omega)]
    refine hX _ _ _ ⟨i + 1, so, _, _, rfl, by omega, fun g hg' => ?_, ?_, rfl⟩ (by omega)
    · rw [take_lt hlt] at hg'
      rcases List.mem_append.1 hg' with hx | hx
      · exact hgg g hx
      · simp only [List.mem_singleton] at hx; subst hx; exact ⟨hg, hgk⟩
    · rw [take_lt hlt, textOf_snoc]; exact st
  refine brT (by rw [lq]; exact dlt_t hkl) ?_
  refine rdPrs (st.fz 1 rfl) hlt fun q2 hq2 => ?_
  refine rdE (τ := i64) hq2 hkl ?_
  refine good_jn _ (fun q => ?_) (fun q J hJ => rdPrs (st.fz 1 rfl) hlt fun q3 hq3 => rdE (τ := i64) hq3 hkl hJ) ?_
  · exact brT rfl (bad _ (bad_sub (List.getElem_mem hlt) (List.getElem_mem hkl) (by rw [← Bool.not_eq_true', ← badID_not]; unfold badID; simp [q])) (st.frame (by simp)))
  cases hgx : goodID gs[i].2[k] with
  | false => exact brT rfl (bad _ (bad_sub (List.getElem_mem hlt) (List.getElem_mem hkl) hgx) (st.frame (by simp)))
  | true =>
  refine brF rfl ?_
  refine rdPrs (st.fz 1 rfl) hlt fun q4 hq4 => ?_
  refine rdE (τ := i64) hq4 hkl ?_
  refine st.nw fun b36 h6 st => ?_
  simp only [List.cons_append, List.nil_append] at st
  refine st.apd (v := gs[i].2[k]) 0 1 rfl rfl (by decide) rfl (by simp only [List.length_append, List.length_singleton, List.length_take]; omega) (by decide) rfl fun s37 h7 st => ?_
  simp only [List.set_cons_zero, List.set_cons_succ] at st
  rw [inc_i (by omega)]
  refine hY _ _ _ ⟨k + 1, s37, _, _, rfl, by omega, fun x hx => ?_, ?_, rfl⟩ (by omega)
  · rw [take_lt hkl] at hx
    rcases List.mem_append.1 hx with hx | hx
    · exact hgk x hx
    · simp only [List.mem_singleton] at hx; subst hx; exact hgx
  · rw [take_lt hkl, ← List.append_assoc]; exact st.drop 1 rfl

end Go.Proofs.S

set_option linter.unusedVariables false
set_option linter.unusedSimpArgs false
namespace Go.Proofs.S
open Go Go.Sx Go.Proofs Go.Cl Go.Rp Go.Rt

variable {h : Heap} {c d A ids : List Int} {l : List Ent} {gs : List Grp} {s s2 sc : Sl} {fr : Fr} {G As : List Asn} {id p : Int} {i : Nat}

theorem findA_I (hE : rightE l = true) (id : Int) : (findI l id < 0 ∧ findA l id = (0, false, 0)) ∨ ∃ j : Nat, findI l id = (j : Int) ∧ findA l id = ((j : Int), true, 0) := by
  unfold findI findA
  rw [if_pos hE]
  cases findE l id with
  | none => left; exact ⟨by decide, rfl⟩
  | some j => right; exact ⟨j, rfl, rfl⟩

set_option maxRecDepth 20000 in
set_option maxHeartbeats 1000000 in
theorem tells_c (hA : At h (ent l s)) (hl : l.length ≤ 1000) (hll : ∀ x ∈ l, x.2.length ≤ 1000) (id : Int) :
    callT Tryz.prog fn_salvorlaw09_tells #[.slice s.a s.len s.cap, .int .i64 id] .bool (fun r h' => r = true ∧ Ext [] h h') h := by
  refine callT_gen fun K hK => S_salvorlaw09_tells (a0 := s) (a1 := id) K ?_
  unfold F_salvorlaw09_tells
  have hll6 : ∀ x ∈ l, x.2.length ≤ 1048576 := fun x hx => by have := hll x hx; omega
  have hll' : ∀ x ∈ l, x.2.length ≤ 1099511627776 := fun x hx => by have := hll x hx; omega
  have st := Hs.start h [ent l s] (by simp [hA])
  refine call_of (Theirs_c (st.fz 0 rfl) (by omega) hll6) ?_
  rintro r0 h1 ⟨n0, x1⟩
  have st := Hs.fzNew (Bs := [ent l r0]) st x1 (by intro B hB; simp only [List.mem_singleton] at hB; subst hB; exact n0)
  simp only [List.nil_append, List.cons_append] at st
  refine call_of (r9_Right_c (st.fz 1 rfl) (by omega) hll') ?_
  rintro _ h2 ⟨rfl, e⟩; subst e
  refine call_of (ratFind_c (st.fz 0 rfl) (by omega) id) ?_
  rintro _ h3 ⟨rfl, x3⟩
  have st := st.ext x3
  refine call_of (Candidates_c (st.fz 0 rfl) (by omega) id) ?_
  rintro _ h4 ⟨s3, rfl, n4, x4⟩
  have st := st.new x4 n4
  simp only [List.nil_append] at st
  refine call_of (ratRight_c (st.fz 0 rfl) (by omega)) ?_
  rintro _ h5 ⟨rfl, x5⟩
  have st := st.ext x5
  have l3 := osl_len (st.own 0 rfl)
  refine brF (by simp) ?_
  cases hE : rightE l with
  | false =>
    have e1 : findA l id = (0, false, 90) := by unfold findA; rw [hE]; rfl
    have e2 : candsA l id = ([], 90) := by unfold candsA; rw [hE]; rfl
    rw [e2] at l3 ⊢
    rw [e1, l3]
    refine brT rfl ?_
    refine jn_in fun J hJ => brT rfl (hJ _ _ ?_)
    clear J hJ
    refine jn_in fun J hJ => brT rfl (hJ _ _ ?_)
    clear J hJ
    refine jn_in fun J hJ => brT rfl (hJ _ _ ?_)
    clear J hJ
    exact jn_in fun J hJ => brT rfl (hJ _ _ (hK _ _ ⟨rfl, st.frame (by simp)⟩))
  | true =>
  refine brF rfl ?_
  refine call_of (r9_Find_c (st.fz 1 rfl) (by omega) id) ?_
  rintro _ h6 ⟨rfl, e⟩; subst e
  -- what is found
  have e1 : (findA l id).2.1 = decide (findI l id ≥ 0) ∧ (findA l id).1 = (if (0 : Int) > findI l id then (0 : Int) else findI l id) ∧ (findA l id).2.2 = 0 := by
    rcases findA_I hE id with ⟨a, b⟩ | ⟨j, a, b⟩
    · rw [b]; refine ⟨?_, ?_, rfl⟩
      · rw [decide_eq_false (by omega)]
      · rw [if_pos (by omega)]
    · rw [b, a]; refine ⟨?_, ?_, rfl⟩
      · rw [decide_eq_true (by omega)]
      · rw [if_neg (by omega)]
  obtain ⟨e1, e2, e3⟩ := e1
  refine jn_in fun J hJ => brF ?_ (hJ _ _ ?_)
  · rw [e1]; simp
  clear J hJ
  refine jn_in fun J hJ => brF ?_ (hJ _ _ ?_)
  · rw [e2]; simp
  clear J hJ
  refine jn_in fun J hJ => brF (by rw [e3]; rfl) ?_
  refine call_of (r9_Literal_c id _) ?_
  rintro _ h7 ⟨rfl, e⟩; subst e
  cases hr : rt id with
  | false =>
    have ec : candsA l id = ([], 10) := by unfold candsA; rw [hE, hr]; rfl
    rw [ec] at l3 ⊢
    refine hJ _ _ (brF rfl ?_)
    clear J hJ
    refine jn_in fun J hJ => brT (by rw [ec]; rfl) ?_
    rw [l3]
    refine hJ _ _ ?_
    clear J hJ
    exact jn_in fun L hL => brT rfl (hL _ _ (hK _ _ ⟨rfl, st.frame (by simp)⟩))
  | true =>
    have ec : candsA l id = (candIDs l id, 0) := by unfold candsA; rw [hE, hr]; rfl
    rw [ec] at l3 st ⊢
    refine hJ _ _ (brF rfl ?_)
    clear J hJ
    refine jn_in fun J hJ => brF (by rw [ec]; rfl) (hJ _ _ ?_)
    clear J hJ
    have hcl : (candIDs l id).length ≤ l.length := by unfold candIDs; rw [List.length_map]; exact List.length_filter_le _ _
    refine jn_in fun L hL => brF rfl ?_
    refine jn_in fun M hM => brT (by rw [ec]; rfl) ?_
    refine call_of (r9_Candidates_c (st.fz 1 rfl) hE hr) ?_
    rintro r30 h8 ⟨n8, x8⟩
    have st := st.ext x8
    refine call_of (equal_int (st.own 0 rfl).rsl n8.at.rsl (show (candIDs l id).length ≤ 1099511627776 by omega)) ?_
    rintro _ h9 ⟨rfl, e⟩; subst e
    refine hM _ _ ?_
    clear M hM
    refine jn_in fun M hM => brT (by simp) ?_
    refine call_of (Theirs_c (st.fz 0 rfl) (by omega) hll6) ?_
    rintro r28 h10 ⟨n10, x10⟩
    have st := st.ext x10
    refine call_of (sameEntries_c n10.at (st.fz 1 rfl) (by omega) hll') ?_
    rintro _ h11 ⟨rfl, x11⟩
    have st := st.ext x11
    exact hM _ _ (hL _ _ (hK _ _ ⟨by simp, st.frame (by simp)⟩))

end Go.Proofs.S

set_option linter.unusedVariables false
set_option linter.unusedSimpArgs false
namespace Go.Sx
open Go
theorem Hs.resAll {fr : Fr} {G As : List Asn} {h h0 : Heap} (st : Hs fr G As h) (hm : ([], h0) ∈ fr) : New h0.size h (starA As) := by
  obtain ⟨S, hs, hz, hf⟩ := st
  refine ⟨S, hs, fun b hb => ?_⟩
  rcases (hf _ hm).2 b hb with k | k
  · cases k
  · exact k
end Go.Sx
namespace Go.Proofs.S
open Go Go.Sx Go.Proofs Go.Cl Go.Rp Go.Rt

variable {h : Heap} {c d A ids : List Int} {l : List Ent} {gs : List Grp} {s s2 sc : Sl} {fr : Fr} {G As : List Asn} {id p : Int} {i : Nat}

theorem text_lensG : ∀ (gs : List Grp) (out : List Int), out.length ≤ (textOf out gs).length ∧ gs.length ≤ (textOf out gs).length ∧ ∀ g ∈ gs, g.2.length ≤ (textOf out gs).length
  | [], out => by simp [textOf]
  | g :: gs, out => by
    obtain ⟨h1, h2, h3⟩ := text_lensG gs out
    have e : (textOf out (g :: gs)).length = (textOf out gs).length + (g.2.length + 1) := by simp [textOf]; omega
    rw [e]
    refine ⟨by omega, by simp; omega, fun x hx => ?_⟩
    rcases List.mem_cons.1 hx with rfl | hx
    · omega
    · have := h3 x hx; omega
theorem split_nil (n : Nat) (h : Heap) : New n h (starA [osn ty_rat_Group 2 tPr.vals [] ⟨none, 0, 0⟩, inn (fun c p => nio' c p) [] [], nio' [] ⟨none, 0, 0⟩]) :=
  ⟨[], ⟨[], [], rfl, by simp, .inr ⟨rfl, rfl, rfl, rfl⟩, [], [], rfl, by simp, rfl, [], [], rfl, by simp, .inr ⟨rfl, rfl, rfl, rfl⟩, rfl⟩, by simp⟩

set_option maxRecDepth 10000 in
set_option maxHeartbeats 2000000 in
theorem SplitO_c {xs : List Int} (hA : At h (li xs s)) (hl : xs.length ≤ 1099511627776) :
    callT Tryz.prog fn_rat_Split #[.slice s.a s.len s.cap] (.tup (.cons .sl (.cons .sl (.cons (.int .i64) .nil))))
      (fun r h' => ∃ s1 s2 ps, r = (s1, s2, (Rt.splitP xs).2.2, ()) ∧ ps.map (·.1) = (Rt.splitP xs).2.1.map (·.1) ∧ New h.size h' (starA [osn ty_rat_Group 2 tPr.vals ps s2, inn (fun c p => nio' c p) ((Rt.splitP xs).2.1.map (·.2)) (ps.map (·.2.1)), nio' (Rt.splitP xs).1 s1]) ∧ Ext [] h h') h := by
  refine callT_gen fun K hK => S_rat_Split (a0 := s) K ?_
  unfold F_rat_Split
  have st := Hs.start h [li xs s] (by simp [hA])
  have ls := rsl_len hA
  refine lfp_invh (I := fun m σ h' => ∃ (i : Nat) (out lst : List Int) (gs ini : List Grp) (gps ips : List tPr.T) (sO sL sG : Sl) (v : Int) (u1 u2 : Sl), σ = ((i : Int), sG, sO, v, u1, u2, ()) ∧ i ≤ xs.length ∧
      splitGo (xs.drop i) out gs = splitGo xs [] [] ∧ out.length ≤ i ∧ gs.length ≤ i ∧ lst.length ≤ i ∧ ips.map (·.1) = ini.map (·.1) ∧
      ((gs = [] ∧ gps = [] ∧ ini = [] ∧ ips = [] ∧ lst = [] ∧ sL = ⟨none, 0, 0⟩) ∨ ∃ id, gs = ini ++ [(id, lst)] ∧ gps = ips ++ [(id, sL, ())]) ∧
      Hs [([], h)] [li xs s] [osn ty_rat_Group 2 tPr.vals gps sG, inn (fun c p => nio' c p) (ini.map (·.2)) (ips.map (·.2.1)), nio' lst sL, nio' out sO] h' ∧ m = xs.length - i)
    ⟨_, 0, [], [], [], [], [], [], ⟨none, 0, 0⟩, ⟨none, 0, 0⟩, ⟨none, 0, 0⟩, 0, ⟨none, 0, 0⟩, ⟨none, 0, 0⟩, rfl, by omega, rfl, by simp, by simp, by simp, rfl, .inl ⟨rfl, rfl, rfl, rfl, rfl, rfl⟩, ?_, rfl⟩ ?_
  · have st := st.new (A := osn ty_rat_Group 2 tPr.vals [] ⟨none, 0, 0⟩) (Ext.refl' [] h) ⟨[], .inr ⟨rfl, rfl, rfl, rfl⟩, by simp⟩
    have st := st.new (A := inn (fun c p => nio' c p) [] []) (Ext.refl' [] h) ⟨[], rfl, by simp⟩
    exact (st.nil ty_int i64.enc none).nil ty_int i64.enc none
  clear st
  rintro m σ h1 X ⟨i, out, lst, gs, ini, gps, ips, sO, sL, sG, v, u1, u2, rfl, hi, hg, hlo, hlg, hll, hids, hc, st, rfl⟩ hX
  simp only
  have hlen : ips.length = ini.length := by simpa using congrArg List.length hids
  have lgp : gps.length = gs.length := by
    rcases hc with ⟨rfl, rfl, _⟩ | ⟨id, rfl, rfl⟩
    · rfl
    · simp [hlen]
  have lG : sG.len = gps.length := osn_len (st.own 0 rfl)
  by_cases hlt : i < xs.length
  · refine brT (by rw [ls]; exact dlt_t hlt) ?_
    refine rdE (τ := i64) (i := i) (st.fz 0 rfl) hlt ?_
    rw [List.drop_eq_getElem_cons hlt] at hg
    generalize hn : xs[i] = n at *
    have bad : (n = 0 ∨ n > maxID ∨ n < -maxID) → ∀ h', Ext [] h h' → K (⟨none, 0, 0⟩, ⟨none, 0, 0⟩, 91, ()) h' := fun q h' x => by
      rw [splitGo_bad n q] at hg
      have e : Rt.splitP xs = ([], [], 91) := by unfold Rt.splitP; rw [← hg]
      exact hK _ _ ⟨_, _, [], by rw [e], by rw [e]; rfl, by rw [e]; exact split_nil _ _, x⟩
    refine jn_in fun J hJ => ?_
    by_cases h0 : n = 0
    · refine brT (by simpa using h0) (hJ _ _ ?_)
      clear J hJ
      exact jn_in fun J hJ => brT rfl (hJ _ _ (brT rfl (bad (.inl h0) _ (st.frame (by simp)))))
    refine brF (by simpa using h0) ?_
    by_cases h2 : n > 1073741824
    · rw [decide_eq_true h2]
      refine hJ _ _ ?_
      clear J hJ
      exact jn_in fun J hJ => brT rfl (hJ _ _ (brT rfl (bad (.inr (.inl h2)) _ (st.frame (by simp)))))
    rw [decide_eq_false h2]
    refine hJ _ _ ?_
    clear J hJ
    refine jn_in fun J hJ => brF rfl ?_
    by_cases h3 : n < -1073741824
    · rw [decide_eq_true h3]
      exact hJ _ _ (brT rfl (bad (.inr (.inr h3)) _ (st.frame (by simp))))
    rw [decide_eq_false h3]
    refine hJ _ _ (brF rfl ?_)
    clear J hJ bad
    have hgd : ¬ (n = 0 ∨ n > maxID ∨ n < -maxID) := by unfold maxID; rintro (q | q | q) <;> omega
    refine jn_in fun J hJ => ?_
    by_cases hneg : n < 0
    · refine brT (decide_eq_true hneg) ?_
      rw [show IntKind.wrap .i64 (0 - n) = -n by rw [wrap_i64 (by omega) (by omega)]; omega]
      refine st.nw fun b4 h4 st => ?_
      simp only [List.cons_append, List.nil_append] at st
      refine Hs.apdN (v := ((-n, ⟨none, 0, 0⟩, ()) : tPr.T)) st widePr (by decide) 0 4 rfl rfl (by decide) (fun u hu => by
        have hu : u ∈ [Value.int .i64 (-n), .slice none 0 0] := hu
        simp only [List.mem_cons, List.not_mem_nil, or_false] at hu
        rcases hu with rfl | rfl <;> rfl) (by omega) (by decide) rfl fun s79 h5 st => hJ _ _ ?_
      simp only [List.set_cons_zero, List.set_cons_succ] at st
      have st := st.drop 4 rfl
      simp only [List.eraseIdx_cons_succ, List.eraseIdx_cons_zero] at st
      rw [inc_i (by omega)]
      rw [splitGo_neg hgd hneg] at hg
      rcases hc with ⟨rfl, rfl, rfl, rfl, rfl, rfl⟩ | ⟨id, rfl, rfl⟩
      · exact hX _ _ _ ⟨i + 1, out, [], [(-n, [])], [], [(-n, ⟨none, 0, 0⟩, ())], [], _, ⟨none, 0, 0⟩, _, _, _, _, rfl, by omega, hg, by omega, by simp, by simp, rfl, .inr ⟨-n, rfl, rfl⟩, st, rfl⟩ (by omega)
      · have st := st.move (A' := inn (fun c p => nio' c p) (ini.map (·.2) ++ [lst]) (ips.map (·.2.1) ++ [sL])) 1 2 rfl rfl (by decide) fun S1 S2 h1 h2 hd => Inner.snoc h1 h2
        simp only [List.set_cons_zero, List.set_cons_succ] at st
        have st := st.imp (A' := nio' [] ⟨none, 0, 0⟩) 2 rfl fun S h e => .inr ⟨e, rfl, rfl, rfl⟩
        simp only [List.set_cons_zero, List.set_cons_succ] at st
        refine hX _ _ _ ⟨i + 1, out, [], ini ++ [(id, lst)] ++ [(-n, [])], ini ++ [(id, lst)], ips ++ [(id, sL, ())] ++ [(-n, ⟨none, 0, 0⟩, ())], ips ++ [(id, sL, ())], _, ⟨none, 0, 0⟩, _, _, _, _, rfl, by omega, hg, by omega, by simp at hlg ⊢; omega, by simp, by simp [hids], .inr ⟨-n, rfl, rfl⟩, ?_, rfl⟩ (by omega)
        simp only [List.map_append, List.map_cons, List.map_nil]
        exact st
    · refine brF (decide_eq_false hneg) ?_
      rw [splitGo_pos hgd hneg] at hg
      refine jn_in fun L hL => ?_
      rcases hc with ⟨rfl, rfl, rfl, rfl, rfl, rfl⟩ | ⟨id, rfl, rfl⟩
      · refine brF (by rw [lG]; rfl) ?_
        refine st.nw fun b4 h4 st => ?_
        simp only [List.cons_append, List.nil_append] at st
        refine st.apd (v := n) 3 4 rfl rfl (by decide) rfl (by omega) (by decide) rfl fun s7 h5 st => hL _ _ (hJ _ _ ?_)
        simp only [List.set_cons_zero, List.set_cons_succ] at st
        have st := st.drop 4 rfl
        rw [inc_i (by omega)]
        exact hX _ _ _ ⟨i + 1, out ++ [n], [], [], [], [], [], _, ⟨none, 0, 0⟩, _, _, _, _, rfl, by omega, hg, by simp; omega, by simp, by simp, rfl, .inl ⟨rfl, rfl, rfl, rfl, rfl, rfl⟩, st, rfl⟩ (by omega)
      · refine brT (by rw [lG]; simp) ?_
        have lg2 : ips.length + 1 ≤ i := by simp at hlg lgp; omega
        rw [show IntKind.wrap .i64 ((sG.len : Int) - 1) = ((ips.length : Nat) : Int) by rw [lG, List.length_append, List.length_singleton, wrap_i64 (by omega) (by omega)]; omega]
        refine Hs.prF st 0 rfl (i := ips.length) (by simp) fun b hb => ?_
        simp only [List.getElem_append_right (Nat.le_refl _), Nat.sub_self, List.getElem_cons_zero]
        refine st.nw fun b4 h4 st => ?_
        simp only [List.cons_append, List.nil_append] at st
        refine st.apd (v := n) 2 4 rfl rfl (by decide) rfl (by omega) (by decide) rfl fun s7 h5 st => ?_
        simp only [List.set_cons_zero, List.set_cons_succ] at st
        refine Hs.prW st 0 rfl (i := ips.length) (by simp) hb s7 fun h6 st => hL _ _ (hJ _ _ ?_)
        simp only [List.set_cons_zero, List.set_cons_succ] at st
        have st := st.drop 4 rfl
        simp only [List.eraseIdx_cons_succ, List.eraseIdx_cons_zero] at st
        rw [inc_i (by omega)]
        have hput : putHint out (ini ++ [(id, lst)]) n = (out, ini ++ [(id, lst ++ [n])]) := by unfold putHint; simp
        rw [hput] at hg
        refine hX _ _ _ ⟨i + 1, out, lst ++ [n], ini ++ [(id, lst ++ [n])], ini, ips ++ [(id, s7, ())], ips, _, s7, _, _, _, _, rfl, by omega, hg, by omega, by simp at hlg ⊢; omega, by simp; omega, hids, .inr ⟨id, rfl, rfl⟩, ?_, rfl⟩ (by omega)
        have e2 : (ips ++ [(id, sL, ())]).set ips.length (((ips ++ [(id, sL, ())] : List tPr.T)[ips.length]'(by simp)).1, s7, ()) = (ips ++ [(id, s7, ())] : List tPr.T) := by
          rw [List.set_append_right _ _ (Nat.le_refl _), Nat.sub_self]
          simp
        rw [e2] at st
        exact st
  · refine brF (by rw [ls]; exact dlt_f hlt) ?_
    rw [List.drop_eq_nil_of_le (by omega)] at hg
    have hg : some (out, gs) = splitGo xs [] [] := hg
    have e : Rt.splitP xs = (out, gs, 0) := by unfold Rt.splitP; rw [← hg]
    rcases hc with ⟨rfl, rfl, rfl, rfl, rfl, rfl⟩ | ⟨id, rfl, rfl⟩
    · refine hK _ _ ⟨sO, sG, [], by rw [e], by rw [e]; rfl, ?_, st.frame (by simp)⟩
      rw [e]
      have st := st.drop 2 rfl
      exact st.resAll (by simp)
    · have st := st.move (A' := inn (fun c p => nio' c p) (ini.map (·.2) ++ [lst]) (ips.map (·.2.1) ++ [sL])) 1 2 rfl rfl (by decide) fun S1 S2 h1 h2 hd => Inner.snoc h1 h2
      simp only [List.set_cons_zero, List.set_cons_succ] at st
      have st := st.drop 2 rfl
      simp only [List.eraseIdx_cons_succ, List.eraseIdx_cons_zero] at st
      refine hK _ _ ⟨sO, sG, ips ++ [(id, sL, ())], by rw [e], by rw [e]; simp [hids], ?_, st.frame (by simp)⟩
      rw [e]
      simp only [List.map_append, List.map_cons, List.map_nil]
      exact st.resAll (by simp)

theorem split_lens {xs : List Int} (hl : xs.length ≤ 1000) : (Rt.splitP xs).1.length ≤ 1000 ∧ (Rt.splitP xs).2.1.length ≤ 1000 ∧ ∀ g ∈ (Rt.splitP xs).2.1, g.2.length ≤ 1000 := by
  unfold Rt.splitP
  cases hs : splitGo xs [] [] with
  | none => simp
  | some R =>
    obtain ⟨a, b⟩ := R
    obtain ⟨h1, _⟩ := split_text hs (by rfl)
    have h2 : textOf a b = xs := by rw [h1]; simp [textOf]
    obtain ⟨t1, t2, t3⟩ := text_lensG b a
    rw [h2] at t1 t2 t3
    simp only
    exact ⟨by omega, by omega, fun g hg => by have := t3 g hg; omega⟩

end Go.Proofs.S
