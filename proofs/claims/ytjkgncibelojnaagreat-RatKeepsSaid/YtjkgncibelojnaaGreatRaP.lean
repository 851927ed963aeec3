/-
  RatKeeps.
-/
import Derived.Test.YtjkgncibelojnaaGreatRaN
set_option linter.unusedVariables false
set_option linter.unusedSimpArgs false
namespace Go.Proofs.S
open Go Go.Sx Go.Proofs Go.Cl Go.Rp Go.Rt

variable {h : Heap} {c d A f ids : List Int} {l : List Ent} {cs : List (List Int)} {gs us vs : List Grp} {s s2 s3 s4 sc : Sl} {fr : Fr} {G As : List Asn} {id p : Int} {i : Nat} {b m : Nat}

abbrev l8u (l : List Int) (s : Sl) : Asn := rsl (Ty.int .u8).enc l s
abbrev ll8u (l : List (List Int)) (s : Sl) : Asn := rsg (fun c p => l8u c p) l s

theorem made_small (cs : List (List Int)) (m : Nat) : Small (numE (allR cs m)) := fun x hx y hy => by
  obtain ⟨d, e⟩ := allR_mem (numE_mem hx).1
  rw [e] at hy
  exact madeR_range hy
theorem made_lens (cs : List (List Int)) (m : Nat) : ∀ x ∈ numE (allR cs m), x.2.length ≤ 1048576 := fun x hx => by
  obtain ⟨d, e⟩ := allR_mem (numE_mem hx).1
  rw [e]
  have := madeR_len d
  omega
theorem made_right (cs : List (List Int)) (m : Nat) (hm : m ≤ 1000) : rightE (numE (allR cs m)) = true := numE_right (by have := allR_len cs m; omega) (allR_right cs m)
theorem made_fuel (cs : List (List Int)) (m : Nat) (hm : m ≤ 1000) : fuelE (numE (allR cs m)) ≤ 500000 := by
  unfold fuelE
  rw [numE_cls]
  have h1 := allR_len cs m
  have := flat_le (m := m) (k := 6) h1 fun c hc => by obtain ⟨d, rfl⟩ := allR_mem hc; exact madeR_len d
  unfold fuelP; omega

set_option maxRecDepth 20000 in
set_option maxHeartbeats 4000000 in
theorem ratKeeps_F {xs hx : List Int} {gx : List (List Int)} (hA : At h (ll8 cs s)) (hB : At h (l8 xs s2)) (hH : At h (l8u hx s3)) (hG : At h (ll8u gx s4)) (K : Bool → HP) (hK : ∀ x h', (x = true ∧ Ext [] h h') → K x h') : F_salvorlaw09_RatKeeps s s2 s3 s4 K h := by
  unfold F_salvorlaw09_RatKeeps
  obtain ⟨ps, lps, hps, hrow⟩ := rsg_open hG
  have st := Hs.start h [ll8 cs s, l8 xs s2, l8u hx s3, rsl Ty.sl.enc ps s4] (by simp [hA, hB, hH, hps])
  refine call_of (awake9_c h) ?_
  rintro _ h1 ⟨rfl, x1⟩
  have st := st.ext x1
  refine brF rfl ?_
  refine call_of (Made9_c (m := 12) (st.fz 0 rfl) (by decide)) ?_
  rintro s5 h2 ⟨_, _, _, n2, x2⟩
  have st := (st.new x2 n2).freeze 0 rfl
  simp only [List.nil_append, List.eraseIdx_cons_zero, List.cons_append] at st
  refine call_of (Made_c (st.fz 1 rfl)) ?_
  rintro s6 h3 ⟨n3, x3⟩
  have st := (st.new x3 n3).froz 0 rfl
  simp only [List.nil_append, List.eraseIdx_cons_zero, List.cons_append] at st
  have hsm := made_small cs 12
  have hls := made_lens cs 12
  have hE := made_right cs 12 (by decide)
  have hfu := made_fuel cs 12 (by decide)
  have hll : (numE (allR cs 12)).length ≤ 12 := by rw [numE_len]; exact allR_len cs 12
  generalize numE (allR cs 12) = l at *
  have hrc := madeR_right xs
  have hcl := madeR_len xs
  have hcs : ∀ y ∈ madeR xs, y ≠ 0 ∧ -6 ≤ y ∧ y ≤ 6 := fun y hy => madeR_range hy
  generalize madeR xs = c at *
  refine call_of (Search_c (st.fz 4 rfl) (st.fz 5 rfl) (by omega) (by omega) hfu) ?_
  rintro _ h4 ⟨sL, sH, sG, rfl, nL, nH, nG, x4⟩
  have err := search_err hE (by omega) hrc
  have hlens := search_lens (c := c) hE (by omega) hfu
  have hsr := @search_right l c (by omega)
  generalize searchP l c = R at nL nH nG err hlens hsr ⊢
  obtain ⟨⟨fL, fH, fG⟩, fk, fok, fe⟩ := R
  simp only at nL nH nG err hlens hsr ⊢
  subst err
  have st := Hs.fzNew (Bs := [lo fL sL, nio' fH sH, ent fG sG]) st x4 (by
    intro B hB
    simp only [List.mem_cons, List.not_mem_nil, or_false] at hB
    rcases hB with rfl | rfl | rfl
    · exact nL
    · exact nH
    · exact nG)
  simp only [List.nil_append, List.cons_append] at st
  refine st.nw fun b4 h5 st => ?_
  simp only [List.nil_append, List.cons_append] at st
  simp only [addr_add, Nat.zero_add]
  refine st.st1 0 0 rfl (by simp) fun h6 st => ?_
  refine st.st1 0 1 rfl (by simp) fun h6 st => ?_
  refine st.st1 0 2 rfl (by simp) fun h6 st => ?_
  simp only [List.set_cons_zero, List.set_cons_succ] at st
  refine brF rfl ?_
  obtain ⟨GG, hGG⟩ : ∃ GG, GG = [ll8 cs s, l8 xs s2, l8u hx s3, rsl Ty.sl.enc ps s4, ent l s5, li c s6, lo fL sL, nio' fH sH, ent fG sG] := ⟨_, rfl⟩
  refine jn_mid (M := fun _ h' => Hs [([], h)] GG [] h') ?_ ?_
  rotate_left
  · intro J hJ
    cases fok with
    | false => exact brF rfl (hJ _ _ (by rw [hGG]; exact st.drop 0 rfl))
    | true =>
      refine brT rfl ?_
      obtain ⟨hck, hlits, _⟩ := hsr rfl
      have hlits : fL = c := hlits
      have hck : checkS l ⟨fL, fH, fG⟩ = (fk, 0, 0) := hck
      have hcz := checkS_zero hck
      refine ldRow (τ := .cons .sl (.cons .sl (.cons .sl .nil))) (x := (sL, sH, sG, ())) (st.blk 0 rfl) ?_
      refine call_of (RatCheck_c (st.fz 4 rfl) (st.fz 6 rfl).rsl (st.fz 7 rfl).rsl (st.fz 8 rfl) (by omega) (by rw [hlits]; omega) hlens.1 (by omega) hlens.2.2) ?_
      rintro _ h7 ⟨rfl, x7⟩
      have st := st.ext x7
      rw [hck]
      simp only
      refine jn_in fun L hL => brF rfl (hL _ _ ?_)
      clear hL L
      refine jn_in fun L hL => brF rfl (hL _ _ ?_)
      clear hL L
      refine jn_in fun L hL => brF (by simp) ?_
      rw [st.lds 0 0 rfl rfl]
      refine call_of (equal_clause (st.fz 6 rfl).rsl (st.fz 5 rfl) (by rw [hlits]; omega)) ?_
      rintro _ h8 ⟨rfl, e⟩; subst e
      rw [hlits]
      refine hL _ _ ?_
      clear hL L
      refine jn_in fun L hL => brF (by simp) ?_
      have hfL : At h8 (li (Stp.mk fL fH fG).lits s6) := by simp only [hlits]; exact st.fz 5 rfl
      refine call_of (keeps_c (stp := ⟨fL, fH, fG⟩) (st.fz 4 rfl) hfL hsm (by omega) hls (by simp only [hlits]; exact hcs) (by simp only [hlits]; omega) hck (hcz.2 rfl).2) ?_
      rintro _ h9 ⟨rfl, x9⟩
      have st := st.ext x9
      exact hL _ _ (brF rfl (hJ _ _ (by rw [hGG]; exact st.drop 0 rfl)))
  rintro _ h7 st
  subst hGG
  clear hsr hlens
  refine st.nw fun b7 h8 st => ?_
  simp only [List.nil_append, List.cons_append, addr_add, Nat.zero_add] at st ⊢
  refine st.st1 0 0 rfl (by simp) fun h9 st => ?_
  refine st.st1 0 1 rfl (by simp) fun h9 st => ?_
  refine st.st1 0 2 rfl (by simp) fun h9 st => ?_
  simp only [List.set_cons_zero, List.set_cons_succ] at st
  obtain ⟨GG, hGG⟩ : ∃ GG, GG = [ll8 cs s, l8 xs s2, l8u hx s3, rsl Ty.sl.enc ps s4, ent l s5, li c s6, lo fL sL, nio' fH sH, ent fG sG] := ⟨_, rfl⟩
  rw [← hGG] at st
  have g3 : GG[2]? = some (l8u hx s3) := by rw [hGG]; rfl
  have g4 : GG[3]? = some (rsl Ty.sl.enc ps s4) := by rw [hGG]; rfl
  have g5 : GG[4]? = some (ent l s5) := by rw [hGG]; rfl
  have g6 : GG[5]? = some (li c s6) := by rw [hGG]; rfl
  clear hGG
  refine slH_min (st.fz 2 g3) 8 fun s8 hs8 => ?_
  have st := st.nil ty_int i64.enc none
  simp only [List.nil_append, List.cons_append] at st
  have l8' := rsl_len (hs8 _ (st.fz 2 g3))
  have hlx : (hx.take 8).length ≤ 8 := by rw [List.length_take]; omega
  generalize hx.take 8 = hy at *
  refine lfp_invh (I := fun m σ h' => ∃ (i : Nat) (ids : List Int) (sI : Sl), σ = ((i : Int), ()) ∧ i ≤ hy.length ∧ ids.length ≤ i ∧ Hs [([], h)] GG [cl b7 ty_rat_Step [.slice s6.a s6.len s6.cap, .slice sI.a sI.len sI.cap, .slice none 0 0], nio' ids sI] h' ∧ m = hy.length - i)
    ⟨_, 0, [], ⟨none, 0, 0⟩, rfl, by omega, by simp, st, rfl⟩ ?_
  clear st
  rintro m σ h10 X ⟨i, ids, sI, rfl, hi, hid, st, rfl⟩ hX
  simp only
  by_cases hlt : i < hy.length
  · refine brT (by rw [l8']; exact dlt_t hlt) ?_
    refine rdE (τ := .int .u8) (hs8 _ (st.fz 2 g3)) hlt ?_
    rw [st.lds 0 1 rfl rfl]
    refine ⟨by decide, ?_⟩
    refine st.nw fun b14 h11 st => ?_
    simp only [List.nil_append, List.cons_append] at st
    generalize IntKind.wrap .i64 ((1 : Int) + (IntKind.wrap .i64 (Int.tmod hy[i] (12 : Int)))) = w at st ⊢
    refine st.apd (v := w) 1 2 rfl rfl (by decide) rfl (by omega) (by decide) rfl fun s15 h12 st => ?_
    simp only [List.set_cons_zero, List.set_cons_succ] at st
    refine st.st1 0 1 rfl (by simp) fun h13 st => ?_
    simp only [List.set_cons_zero, List.set_cons_succ] at st
    rw [inc_i (by omega)]
    exact hX _ _ _ ⟨i + 1, ids ++ [w], s15, rfl, by omega, by simp; omega, st.drop 2 rfl, rfl⟩ (by omega)
  refine brF (by rw [l8']; exact dlt_f hlt) ?_
  clear hX
  refine slH_min (st.fz 3 g4) 6 fun s16 hs16 => ?_
  have l16 := rsl_len (hs16 _ (st.fz 3 g4))
  have hqx : (ps.take 6).length ≤ 6 := by rw [List.length_take]; omega
  have hrow2 : ∀ i (hi : i < (ps.take 6).length), ∃ gxi, At h (l8u gxi (ps.take 6)[i]) := fun i hi => by
    have hi2 : i < ps.length := by rw [List.length_take] at hi; omega
    refine ⟨gx[i]'(by omega), ?_⟩
    rw [List.getElem_take]
    exact hrow i (by omega) hi2
  generalize ps.take 6 = qs at *
  have st := st.new (A := osn ty_rat_Group 2 tPr.vals [] ⟨none, 0, 0⟩) (Ext.refl' [] _) ⟨[], .inr ⟨rfl, rfl, rfl, rfl⟩, by simp⟩
  have st := st.new (A := inn (fun c p => nio' c p) [] []) (Ext.refl' [] _) ⟨[], rfl, by simp⟩
  simp only [List.nil_append, List.cons_append] at st
  refine lfp_invh (I := fun m σ h' => ∃ (i : Nat) (gs : List Grp) (gps : List tPr.T) (sG : Sl), σ = ((i : Int), ()) ∧ i ≤ qs.length ∧ gs.length ≤ i ∧ gps.map (·.1) = gs.map (·.1) ∧ (∀ g ∈ gs, g.2.length ≤ 6) ∧
      Hs [([], h)] GG [cl b7 ty_rat_Step [.slice s6.a s6.len s6.cap, .slice sI.a sI.len sI.cap, .slice sG.a sG.len sG.cap], nio' ids sI, osn ty_rat_Group 2 tPr.vals gps sG, inn (fun c p => nio' c p) (gs.map (·.2)) (gps.map (·.2.1))] h' ∧ m = qs.length - i)
    ⟨_, 0, [], [], ⟨none, 0, 0⟩, rfl, by omega, by simp, rfl, by simp, st, rfl⟩ ?_
  clear st
  rintro m σ h14 X ⟨i, gs, gps, sG, rfl, hi, hgl, hids, hgh, st, rfl⟩ hX
  simp only
  have hgpl : gps.length = gs.length := by simpa using congrArg List.length hids
  by_cases hlt : i < qs.length
  · refine brT (by rw [l16]; exact dlt_t hlt) ?_
    refine rdE (τ := .sl) (hs16 _ (st.fz 3 g4)) hlt ?_
    obtain ⟨gxi, hgx⟩ := hrow2 i hlt
    generalize qs[i] = q at hgx ⊢
    refine st.nw fun b21 h15 st => ?_
    simp only [List.nil_append, List.cons_append] at st
    refine st.st1 4 0 rfl (by simp) fun h16 st => ?_
    refine st.st1 4 1 rfl (by simp) fun h17 st => ?_
    simp only [List.set_cons_zero, List.set_cons_succ] at st
    refine slH_min (hgx.ext (st.frame (by simp))) 6 fun s22 hs22 => ?_
    have st := st.nil ty_int i64.enc none
    simp only [List.nil_append, List.cons_append] at st
    have l22 := rsl_len (hs22 _ (hgx.ext (st.frame (by simp))))
    have hyl : (gxi.take 6).length ≤ 6 := by rw [List.length_take]; omega
    generalize gxi.take 6 = gy at *
    refine lfp_invh (I := fun m σ h' => ∃ (j : Nat) (idv : Int) (hs : List Int) (sQ : Sl), σ = ((j : Int), ()) ∧ j ≤ gy.length ∧ hs.length ≤ j ∧
        Hs [([], h)] GG [cl b7 ty_rat_Step [.slice s6.a s6.len s6.cap, .slice sI.a sI.len sI.cap, .slice sG.a sG.len sG.cap], nio' ids sI, osn ty_rat_Group 2 tPr.vals gps sG, inn (fun c p => nio' c p) (gs.map (·.2)) (gps.map (·.2.1)), prC b21 ty_rat_Group idv sQ, nio' hs sQ] h' ∧ m = gy.length - j)
      ⟨_, 0, 0, [], ⟨none, 0, 0⟩, rfl, by omega, by simp, st, rfl⟩ ?_
    clear st
    rintro m σ h18 Y ⟨j, idv, hs, sQ, rfl, hj, hhl, st, rfl⟩ hY
    simp only
    by_cases hlt2 : j < gy.length
    · refine brT (by rw [l22]; exact dlt_t hlt2) ?_
      refine jn_in fun J hJ => ?_
      refine rdE (τ := .int .u8) (hs22 _ (hgx.ext (st.frame (by simp)))) hlt2 ?_
      generalize IntKind.wrap .i64 ((1 : Int) + (IntKind.wrap .i64 (Int.tmod gy[j] (12 : Int)))) = w
      have fin : ∀ idv hs sQ h', hs.length ≤ j + 1 → Hs [([], h)] GG [cl b7 ty_rat_Step [.slice s6.a s6.len s6.cap, .slice sI.a sI.len sI.cap, .slice sG.a sG.len sG.cap], nio' ids sI, osn ty_rat_Group 2 tPr.vals gps sG, inn (fun c p => nio' c p) (gs.map (·.2)) (gps.map (·.2.1)), prC b21 ty_rat_Group idv sQ, nio' hs sQ] h' → J () h' := fun idv hs sQ h' hl st => by
        refine hJ _ _ ?_
        rw [inc_i (by omega)]
        exact hY _ _ _ ⟨j + 1, idv, hs, sQ, rfl, by omega, hl, st, rfl⟩ (by omega)
      by_cases hj0 : j = 0
      · refine brT (by simp [hj0]) ⟨by decide, ?_⟩
        refine st.st1 4 0 rfl (by simp) fun h19 st => ?_
        simp only [List.set_cons_zero, List.set_cons_succ] at st
        exact fin w hs sQ _ (by omega) st
      · refine brF (by simp; omega) ?_
        rw [st.lds 4 1 rfl rfl]
        refine ⟨by decide, ?_⟩
        refine st.nw fun b30 h19 st => ?_
        simp only [List.nil_append, List.cons_append] at st
        refine st.apd (v := w) 5 6 rfl rfl (by decide) rfl (by omega) (by decide) rfl fun s31 h20 st => ?_
        simp only [List.set_cons_zero, List.set_cons_succ] at st
        refine st.st1 4 1 rfl (by simp) fun h21 st => ?_
        simp only [List.set_cons_zero, List.set_cons_succ] at st
        exact fin idv (hs ++ [w]) s31 _ (by simp; omega) (st.drop 6 rfl)
    · refine brF (by rw [l22]; exact dlt_f hlt2) ?_
      clear hY
      rw [st.lds 0 2 rfl rfl]
      refine ldRow (τ := tPr) (x := (idv, sQ, ())) (st.blk 4 rfl) ?_
      refine st.nw fun b34 h19 st => ?_
      simp only [List.nil_append, List.cons_append] at st
      refine Hs.apdN (v := ((idv, sQ, ()) : tPr.T)) st widePr (by decide) 2 6 rfl rfl (by decide) (fun u hu => by
        have hu : u ∈ [Value.int .i64 idv, .slice sQ.a sQ.len sQ.cap] := hu
        simp only [List.mem_cons, List.not_mem_nil, or_false] at hu
        rcases hu with rfl | rfl <;> rfl) (by omega) (by decide) rfl fun s35 h20 st => ?_
      refine st.st1 0 2 rfl (by simp) fun h21 st => ?_
      simp only [List.set_cons_zero, List.set_cons_succ] at st
      have st := (st.drop 6 rfl).drop 4 rfl
      simp only [List.eraseIdx_cons_succ, List.eraseIdx_cons_zero] at st
      have st := st.move (A' := inn (fun c p => nio' c p) (gs.map (·.2) ++ [hs]) (gps.map (·.2.1) ++ [sQ])) 3 4 rfl rfl (by decide) fun S1 S2 h1 h2 hd => Inner.snoc h1 h2
      simp only [List.set_cons_zero, List.set_cons_succ] at st
      have st := st.drop 4 rfl
      simp only [List.eraseIdx_cons_succ, List.eraseIdx_cons_zero] at st
      rw [inc_i (by omega)]
      refine hX _ _ _ ⟨i + 1, gs ++ [(idv, hs)], gps ++ [(idv, sQ, ())], s35, rfl, by omega, by simp; omega, by simp [hids], ?_, ?_, rfl⟩ (by omega)
      · intro g hg
        rcases List.mem_append.1 hg with hg | hg
        · exact hgh g hg
        · simp only [List.mem_singleton] at hg
          subst hg; simp only; omega
      · simp only [List.map_append, List.map_cons, List.map_nil]
        exact st
  · refine brF (by rw [l16]; exact dlt_f hlt) ?_
    clear hX
    refine ldRow (τ := .cons .sl (.cons .sl (.cons .sl .nil))) (x := (s6, sI, sG, ())) (st.blk 0 rfl) ?_
    have aG : At h14 (ent gs sG) := (ent_new (n := 0) (gps := gps) (st.own 2 rfl).new0 (st.own 3 rfl).new0 hids).at
    refine call_of (RatCheck_c (st.fz 4 g5) (st.fz 5 g6) (st.own 1 rfl).rsl aG (by omega) (by omega) (by omega) (by omega) (fun g hg => by have := hgh g hg; omega)) ?_
    rintro _ h15 ⟨rfl, x15⟩
    have st := st.ext x15
    generalize hcv : checkS l ⟨c, ids, gs⟩ = R
    obtain ⟨ck, ci, ce⟩ := R
    have hz := checkS_zero hcv
    simp only
    refine jn_in fun L hL => ?_
    by_cases he : ce = 0
    · subst he
      obtain ⟨rfl, hk⟩ := hz.2 rfl
      refine brF rfl (hL _ _ ?_)
      clear hL L
      refine jn_in fun L hL => brF rfl ?_
      refine jn_in fun M hM => brT rfl (hM _ _ ?_)
      refine jn_in fun N hN => brT rfl ?_
      refine call_of (keeps_c (stp := ⟨c, ids, gs⟩) (st.fz 4 g5) (st.fz 5 g6) hsm (by omega) hls hcs (by simp only; omega) hcv hk) ?_
      rintro _ h16 ⟨rfl, x16⟩
      have st := st.ext x16
      exact hN _ _ (hL _ _ (hK _ _ ⟨rfl, st.frame (by simp)⟩))
    · refine brT (by simpa using he) (hL _ _ ?_)
      clear hL L
      rw [hz.1 he]
      exact jn_in fun L hL => brT rfl (hL _ _ (hK _ _ ⟨rfl, st.frame (by simp)⟩))

end Go.Proofs.S
