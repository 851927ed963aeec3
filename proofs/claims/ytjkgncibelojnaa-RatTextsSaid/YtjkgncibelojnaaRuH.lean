/-
  What the laws of rup share: the hints, frozen with their headers; heads of slices.
-/
import Derived.Test.YtjkgncibelojnaaRaL
import Derived.Test.YtjkgncibelojnaaRtV
import Derived.Test.YtjkgncibelojnaaSxOv
import Derived.ChangeKeysEq
set_option linter.unusedVariables false
set_option linter.unusedSimpArgs false
namespace Go.Sx
open Go
variable {α β : Type} {h : Heap} {enc : α → Value} {xs : List α} {s : Sl}
theorem Inner.map {I J : β → Sl → Asn} (hf : ∀ x p S h, (I x p).P S h → (J x p).P S h) : ∀ {xs : List β} {ps : List Sl} {S : List Nat}, Inner I xs ps S h → Inner J xs ps S h
  | [], [], _, e => e
  | x :: xs, p :: ps, S, ⟨S1, S2, e, hp, hi⟩ => ⟨S1, S2, e, hf _ _ _ _ hp, hi.map hf⟩
  | [], _ :: _, _, e => e.elim
  | _ :: _, [], _, e => e.elim
theorem slH_min (hA : At h (rsl enc xs s)) (m : Nat) {K : Sl → HP} (hK : ∀ s0, (∀ h', At h' (rsl enc xs s) → At h' (rsl enc (xs.take m) s0)) → K s0 h) :
    slH ⟨s.a, s.len, s.cap⟩ (if (m : Int) < (s.len : Int) then (m : Int) else (s.len : Int)) 1 K h := by
  have l1 := rsl_len hA
  have l2 := rsl_cap hA
  have em : (if (m : Int) < (s.len : Int) then (m : Int) else (s.len : Int)) = ((min xs.length m : Nat) : Int) := by split <;> omega
  rw [em]
  refine ⟨Int.natCast_nonneg _, Int.ofNat_le.2 (show min xs.length m ≤ s.cap by omega), ?_⟩
  rw [Int.toNat_natCast]
  refine hK _ fun h' hA' => ?_
  have := rsl_sub hA' (l := 0) (m := min xs.length m) (by omega) (by omega)
  have e : xs.take (min xs.length m) = xs.take m := by
    rcases Nat.le_total xs.length m with k | k
    · rw [Nat.min_eq_left k, List.take_length, List.take_of_length_le k]
    · rw [Nat.min_eq_right k]
  rw [List.drop_zero, e] at this; exact this
end Go.Sx
namespace Go.Proofs.S
open Go Go.Sx Go.Proofs Go.Cl Go.Rp

variable {h : Heap} {c d A us : List Int} {cs ds hs l : List (List Int)} {s s2 s3 : Sl} {fr : Fr} {G As : List Asn} {b n : Nat} {t : TypeId}

end Go.Proofs.S

set_option linter.unusedVariables false
set_option linter.unusedSimpArgs false
namespace Go.Proofs.S
open Go Go.Sx Go.Proofs Go.Cl Go.Rp Go.Rt

variable {h : Heap} {c d A ids xs ys : List Int} {l : List Ent} {gs us vs : List Grp} {s s2 s3 sc : Sl} {fr : Fr} {G As : List Asn} {id p n : Int} {i : Nat} {b : Nat}

theorem info3 : (Try.prog.info? 3).isSome = true := by kernel_rfl
theorem cells3 : Try.prog.cellsOf 3 = 1 := by kernel_rfl
theorem size3 (w : World) : (Go.sizeOf 3).run Try.prog w = .ok 1 w := by
  obtain ⟨i, hi⟩ := Option.isSome_iff_exists.1 info3
  rw [run_sizeOf w hi, cells3]
theorem over_int {bv b2 j lb cb : Nat} {t1 t2 : TypeId} {c1 c2 : List Value} (k1 : Blk h bv t1 c1) (k2 : Blk h b2 t2 c2) (hne : bv ≠ b2) (hc : c2 ≠ []) :
    callT Try.prog fn_slices_overlaps_int #[.slice (some ⟨bv, 0, none⟩) 1 1, .slice (some ⟨b2, j, none⟩) lb cb] .bool (fun r h' => r = false ∧ h' = h) h :=
  overlaps_c (P := Try.prog) (fn := Try.f35) (tS := 37) (tR := 4) (e := 3) Try.func35 (by kernel_rfl) (by kernel_rfl) (by kernel_rfl) (by kernel_rfl) Try.underlying37 size3 k1 k2 hne hc
theorem Hs.insertI {bv : Nat} {x : Int} {K : Sl → HP} (st : Hs fr G As h) (k kx : Nat) (hk : As[k]? = some (nio' c s)) (hkx : As[kx]? = some (cl bv ty_int [.int .i64 x])) (hne : k ≠ kx)
    {i : Nat} {ii : Int} (hii : ii = i) (hi : i ≤ c.length) (hlen : c.length ≤ 1048576) (hK : ∀ s' h', Hs fr G (As.set k (nio' (c.take i ++ x :: c.drop i) s')) h' → K s' h') :
    callT Try.prog fn_slices_Insert_int_int #[.slice s.a s.len s.cap, .int .i64 ii, .slice (some ⟨bv, 0, none⟩) 1 1] .sl K h := by
  subst hii
  refine S_slices_Insert_int_int (a0 := s) (a1 := (i : Int)) (a2 := ⟨some ⟨bv, 0, none⟩, 1, 1⟩) K ?_
  exact Hs.insert (P := Try.prog) (τ := i64) (t := ty_int) (by_ := 8) (z := .int .i64 0) (fov := fn_slices_overlaps_int) (frr := fn_slices_rotateRight_int) (x := x) st k kx hk hkx hne leaf_int hi (by omega) (by decide) over_int hK
theorem cloneG_rat {K : Sl → HP} {ps : List tPr.T} (st : Hs fr G As h) (hy : At h (rsn 2 tPr.vals ps s)) (hlen : ps.length ≤ 1048576) (hK : ∀ s' h', Hs fr G (As ++ [osn ty_rat_Group 2 tPr.vals ps s']) h' → K s' h') :
    callT Try.prog fn_slices_Clone_rat_Group_rat_Group #[.slice s.a s.len s.cap] .sl K h :=
  S_slices_Clone_rat_Group_rat_Group (a0 := s) K (Hs.cloneN (t := ty_rat_Group) (by_ := 32) (z := #[.int .i64 0, .slice none 0 0]) st widePr (by decide) hy (fun x u hu => by
    have hu : u ∈ [Value.int .i64 x.1, .slice x.2.1.a x.2.1.len x.2.1.cap] := hu
    simp only [List.mem_cons, List.not_mem_nil, or_false] at hu
    rcases hu with rfl | rfl <;> rfl) (by omega) (by decide) rfl hK)

def TxTl (s10 s10g : Sl) (n : Int) (r25 : Sl) (K : Bool → HP) : HP :=
 callT Try.prog fn_rat_Split #[(.slice r25.a r25.len r25.cap)] (.tup (.cons .sl (.cons .sl (.cons (.int .i64) .nil)))) fun r26 =>
 callT Try.prog fn_slices_Clone_int_int #[(.slice s10.a s10.len s10.cap)] .sl fun r27 =>
 nw #[(.int .i64 n)] ty_int fun b28 =>
 apd ty_int 1 8 #[(.int .i64 (0 : Int))] ⟨r27.a, r27.len, r27.cap⟩ ⟨(some (⟨b28, 0, none⟩ : Addr)), 1, 1⟩ fun s29 =>
 callT Try.prog fn_rat_Join #[(.slice s29.a s29.len s29.cap), (.slice s10g.a s10g.len s10g.cap)] (.tup (.cons .sl (.cons (.int .i64) .nil))) fun r30 =>
 callT Try.prog fn_slices_Clone_rat_Group_rat_Group #[(.slice s10g.a s10g.len s10g.cap)] .sl fun r31 =>
 nw #[(.int .i64 n), (.slice none 0 0)] ty_rat_Group fun b32 =>
 apd ty_rat_Group 2 32 #[(.int .i64 (0 : Int)), (.slice none 0 0)] ⟨r31.a, r31.len, r31.cap⟩ ⟨(some (⟨b32, 0, none⟩ : Addr)), 1, 1⟩ fun s33 =>
 callT Try.prog fn_rat_Join #[(.slice s10.a s10.len s10.cap), (.slice s33.a s33.len s33.cap)] (.tup (.cons .sl (.cons (.int .i64) .nil))) fun r34 =>
 jn (σ := Bool) (fun t36 =>
 jn (σ := Bool) (fun t38 =>
 jn (σ := Bool) (fun t40 =>
 K t40)
 (fun J39 =>
 brB t38
 (J39 ((r34.2.1 == (91 : Int))))
 (J39 false)))
 (fun J37 =>
 brB t36
 (J37 ((r30.2.1 == (91 : Int))))
 (J37 false)))
 (fun J35 =>
 brB ((IntKind.wrap .i64 ((IntKind.wrap .i64 ((IntKind.wrap .i64 ((r26.1.len : Int) + (r26.2.1.len : Int))) + (r30.1.len : Int))) + (r34.1.len : Int))) == (0 : Int))
 (J35 ((r26.2.2.1 == (91 : Int))))
 (J35 false))

set_option maxRecDepth 20000 in
set_option maxHeartbeats 1000000 in
theorem txTl_c {s10 s10g r25 : Sl} {T out : List Int} {K : Bool → HP} (hT : At h (li (T.take i ++ n :: T.drop i) r25)) (hO : At h (li out s10)) (hG : At h (ent gs s10g)) (hn : n = 0 ∨ n > maxID ∨ n < -maxID) (hl : T.length ≤ 1000) (ho : out.length ≤ 1000) (hg : gs.length ≤ 1000) (hh : ∀ g ∈ gs, g.2.length ≤ 1000)
    (hK : ∀ h', Ext [] h h' → K true h') : TxTl s10 s10g n r25 K h := by
  unfold TxTl
  obtain ⟨ps, lp, hps, hx⟩ := rsp_open hG
  have st := Hs.start h [li (T.take i ++ n :: T.drop i) r25, li out s10, ent gs s10g, rsn 2 tPr.vals ps s10g] (by simp [hT, hO, hG, hps])
  refine call_of (Split_c (st.fz 0 rfl) (by simp; omega)) ?_
  rintro _ h1 ⟨s1, s2, rfl, n1, n2, x1⟩
  rw [texts_split hn i] at n1 n2 ⊢
  have l1 : s1.len = 0 := rsl_len n1.at.rsl
  have l2 : s2.len = 0 := rsp_len n2.at
  have st := st.ext x1
  refine cloneI_c st (st.fz 1 rfl) (by omega) fun s27 h2 st => ?_
  refine st.nw fun b28 h3 st => ?_
  simp only [List.nil_append, List.cons_append] at st
  refine st.apd (v := n) 0 1 rfl rfl (by decide) rfl (by omega) (by decide) rfl fun s29 h4 st => ?_
  simp only [List.set_cons_zero, List.set_cons_succ] at st
  obtain ⟨j1, j2⟩ := texts_join (out := out) (gs := gs) hn
  refine call_of (Join_c (st.own 0 rfl).rsl (st.fz 2 rfl) (by simp; omega) (by omega) (fun g hg => by have := hh g hg; omega)) ?_
  rintro _ h5 ⟨s30, rfl, n5, x5⟩
  rw [j1] at n5 ⊢
  have l30 : s30.len = 0 := rsl_len n5.at.rsl
  have st := st.ext x5
  refine cloneG_rat st (st.fz 3 rfl) (by omega) fun s31 h6 st => ?_
  refine st.nw fun b32 h7 st => ?_
  simp only [List.nil_append, List.cons_append] at st
  refine Hs.apdN (v := ((n, ⟨none, 0, 0⟩, ()) : tPr.T)) st widePr (by decide) 2 3 rfl rfl (by decide) (fun u hu => by
    have hu : u ∈ [Value.int .i64 n, .slice none 0 0] := hu
    simp only [List.mem_cons, List.not_mem_nil, or_false] at hu
    rcases hu with rfl | rfl <;> rfl) (by omega) (by decide) rfl fun s33 h8 st => ?_
  simp only [List.set_cons_zero, List.set_cons_succ] at st
  have hE : At h8 (ent (gs ++ [(n, [])]) s33) := by
    refine rsp_at (ps := ps ++ [(n, ⟨none, 0, 0⟩, ())]) (by simp [lp]) ((st.own 2 rfl).rsn widePr) fun i a b => ?_
    by_cases hi : i < gs.length
    · rw [List.getElem_append_left hi, List.getElem_append_left (by omega)]
      obtain ⟨e1, e2⟩ := hx i hi (by omega)
      exact ⟨e1, e2.ext (st.frame (by simp))⟩
    · have : i = gs.length := by simp at a; omega
      subst this
      rw [List.getElem_append_right (by omega), List.getElem_append_right (by omega)]
      simp only [lp, Nat.sub_self, List.getElem_cons_zero]
      exact ⟨trivial, nil_li⟩
  refine call_of (Join_c (st.fz 1 rfl) hE (by omega) (by simp; omega) (fun g hg => by
    rcases List.mem_append.1 hg with hg | hg
    · have := hh g hg; omega
    · simp only [List.mem_singleton] at hg; subst hg; simp)) ?_
  rintro _ h9 ⟨s34, rfl, n9, x9⟩
  rw [j2] at n9 ⊢
  have l34 : s34.len = 0 := rsl_len n9.at.rsl
  have st := st.ext x9
  simp only [l1, l2, l30, l34]
  refine jn_in fun J hJ => brT rfl (hJ _ _ ?_)
  clear J hJ
  refine jn_in fun J hJ => brT rfl (hJ _ _ ?_)
  clear J hJ
  exact jn_in fun J hJ => brT rfl (hJ _ _ (hK _ (st.frame (by simp))))

theorem text_lens : ∀ (gs : List Grp) (out : List Int), out.length ≤ (textOf out gs).length ∧ gs.length ≤ (textOf out gs).length ∧ ∀ g ∈ gs, g.2.length ≤ (textOf out gs).length
  | [], out => by simp [textOf]
  | g :: gs, out => by
    obtain ⟨h1, h2, h3⟩ := text_lens gs out
    have e : (textOf out (g :: gs)).length = (textOf out gs).length + (g.2.length + 1) := by simp [textOf]; omega
    rw [e]
    refine ⟨by omega, by simp; omega, fun x hx => ?_⟩
    rcases List.mem_cons.1 hx with rfl | hx
    · omega
    · have := h3 x hx; omega

set_option maxRecDepth 20000 in
set_option maxHeartbeats 2000000 in
theorem ratTexts_F {a1 a2 : Int} (hA : At h (l8 xs s)) (hI : I8 xs) (k0 : 0 ≤ a2) (k1 : a2 ≤ 255) (K : Bool → HP) (hK : ∀ x h', (x = true ∧ Ext [] h h') → K x h') : F_salvorlaw09_RatTexts s a1 a2 K h := by
  unfold F_salvorlaw09_RatTexts
  have st := Hs.start h [l8 xs s] (by simp [hA])
  refine call_of (awake9_c h) ?_
  rintro _ h1 ⟨rfl, x1⟩
  have st := st.ext x1
  refine brF rfl ?_
  refine slH_min (st.fz 0 rfl) 40 fun s1 hs1 => ?_
  have l1 := rsl_len (hs1 _ (st.fz 0 rfl))
  have hdl : (xs.take 40).length ≤ 40 := by rw [List.length_take]; omega
  have hdI : I8 (xs.take 40) := fun x hx => hI x (List.mem_of_mem_take hx)
  generalize xs.take 40 = d at *
  have st := st.nil ty_int i64.enc none
  simp only [List.nil_append] at st
  refine lfp_invh (I := fun m σ h' => ∃ (i : Nat) (so : Sl), σ = ((i : Int), so, ()) ∧ i ≤ d.length ∧ Hs [([], h)] [l8 xs s] [nio' ((d.take i).filter fun x => decide (x ≠ 0)) so] h' ∧ m = d.length - i)
    ⟨_, 0, _, rfl, by omega, st, rfl⟩ ?_
  clear st
  rintro m σ h2 X ⟨i, so, rfl, hi, st, rfl⟩ hX
  simp only
  by_cases hlt : i < d.length
  · refine brT (by rw [l1]; exact dlt_t hlt) ?_
    refine rdE (τ := .int .i8) (hs1 _ (st.fz 0 rfl)) hlt ?_
    have hx := hdI _ (List.getElem_mem hlt)
    have ef : (d.take (i + 1)).filter (fun x => decide (x ≠ 0)) = (d.take i).filter (fun x => decide (x ≠ 0)) ++ (if d[i] ≠ 0 then [d[i]] else []) := by
      rw [List.take_succ_eq_append_getElem hlt, List.filter_append]
      congr 1
      by_cases q : d[i] = 0 <;> simp [q]
    have lf : ((d.take i).filter (fun x => decide (x ≠ 0))).length ≤ i := Nat.le_trans (List.length_filter_le _ _) (by rw [List.length_take]; omega)
    refine jn_in fun J hJ => ?_
    by_cases q : d[i] = 0
    · refine brF (by simp [q]) (hJ _ _ ?_)
      rw [inc_i (by omega)]
      refine hX _ _ _ ⟨i + 1, so, rfl, by omega, ?_, rfl⟩ (by omega)
      rw [ef, if_neg (by simp [q]), List.append_nil]; exact st
    · refine brT (by simpa using q) ?_
      rw [wrap_i64 (by omega) (by omega)]
      refine st.nw fun b8 h3 st => ?_
      simp only [List.nil_append, List.cons_append] at st
      refine st.apd (v := d[i]) 0 1 rfl rfl (by decide) rfl (by omega) (by decide) rfl fun s9 h4 st => hJ _ _ ?_
      simp only [List.set_cons_zero, List.set_cons_succ] at st
      rw [inc_i (by omega)]
      refine hX _ _ _ ⟨i + 1, s9, rfl, by omega, ?_, rfl⟩ (by omega)
      rw [ef, if_pos (by simpa using q)]; exact st.drop 1 rfl
  refine brF (by rw [l1]; exact dlt_f hlt) ?_
  clear hX
  rw [List.take_of_length_le (by omega)] at st
  have hTl : (d.filter fun x => decide (x ≠ 0)).length ≤ 40 := Nat.le_trans (List.length_filter_le _ _) hdl
  have hTg : ∀ n ∈ d.filter (fun x => decide (x ≠ 0)), n ≠ 0 ∧ n ≤ maxID ∧ -maxID ≤ n := fun n hn => by
    obtain ⟨h1, h2⟩ := List.mem_filter.1 hn
    have := hdI n h1
    unfold maxID
    exact ⟨by simpa using h2, by omega, by omega⟩
  generalize d.filter (fun x => decide (x ≠ 0)) = T at *
  have st := st.froz 0 rfl
  simp only [List.eraseIdx_cons_zero, List.nil_append, List.cons_append] at st
  have lT := rsl_len (st.fz 1 rfl)
  obtain ⟨e0, ej⟩ := split_join hTg
  have eb := texts_back hTg
  refine call_of (Split_c (st.fz 1 rfl) (by omega)) ?_
  rintro _ h3 ⟨sO, sG, rfl, nO, nG, x3⟩
  have hlens : (Rt.splitP T).1.length ≤ 40 ∧ (Rt.splitP T).2.1.length ≤ 40 ∧ ∀ g ∈ (Rt.splitP T).2.1, g.2.length ≤ 40 := by
    have hj := ej
    unfold joinP at hj
    split at hj
    · have hj : textOf (Rt.splitP T).1 (Rt.splitP T).2.1 = T := by simpa using hj
      have := text_lens (Rt.splitP T).2.1 (Rt.splitP T).1
      rw [hj] at this
      exact ⟨by omega, by omega, fun g hg => by have := this.2.2 g hg; omega⟩
    · simp at hj
  have st := Hs.fzNew (Bs := [nio' (Rt.splitP T).1 sO, ent (Rt.splitP T).2.1 sG]) st x3 (by
    intro B hB
    simp only [List.mem_cons, List.not_mem_nil, or_false] at hB
    rcases hB with rfl | rfl
    · exact nO
    · exact nG)
  generalize hR : Rt.splitP T = R at *
  obtain ⟨out, gs, er⟩ := R
  simp only at e0 ej eb hlens st ⊢
  subst e0
  obtain ⟨hl1, hl2, hl3⟩ := hlens
  simp only [List.nil_append, List.cons_append] at st
  refine call_of (Join_c (st.fz 2 rfl).rsl (st.fz 3 rfl) (by omega) (by omega) (fun g hg => by have := hl3 g hg; omega)) ?_
  rintro _ h4 ⟨s11, rfl, n11, x11⟩
  rw [ej] at n11 eb ⊢
  simp only at n11 eb ⊢
  have st := (st.new x11 n11).froz 0 rfl
  simp only [List.eraseIdx_cons_zero, List.nil_append, List.cons_append] at st
  refine jn_in fun J hJ => brF rfl ?_
  refine call_of (equal_int (st.fz 4 rfl) (st.fz 1 rfl) (by omega)) ?_
  rintro _ h5 ⟨rfl, e⟩; subst e
  refine hJ _ _ (brF (by simp) ?_)
  clear J hJ
  refine call_of (Split_c (st.fz 4 rfl) (by omega)) ?_
  rintro _ h6 ⟨s14, s14g, rfl, n14, n14g, x14⟩
  rw [hR] at n14 n14g ⊢
  simp only at n14 n14g ⊢
  have st := Hs.fzNew (Bs := [nio' out s14, ent gs s14g]) st x14 (by
    intro B hB
    simp only [List.mem_cons, List.not_mem_nil, or_false] at hB
    rcases hB with rfl | rfl
    · exact n14
    · exact n14g)
  simp only [List.nil_append, List.cons_append] at st
  refine jn_in fun J hJ => brF rfl ?_
  refine call_of (equal_int (st.fz 5 rfl).rsl (st.fz 2 rfl).rsl (by omega)) ?_
  rintro _ h7 ⟨rfl, e⟩; subst e
  refine hJ _ _ ?_
  clear J hJ
  refine jn_in fun J hJ => brF (by simp) ?_
  refine call_of (sameGroups_c (st.fz 6 rfl) (st.fz 3 rfl) (by omega) (fun g hg => by have := hl3 g hg; omega)) ?_
  rintro _ h8 ⟨rfl, x8⟩
  have st := st.ext x8
  refine hJ _ _ (brF (by simp) ?_)
  clear J hJ
  refine jn_mid (M := fun m1 h' => Hs [([], h)] [l8 xs s, li T so, nio' out sO, ent gs sG, li T s11, nio' out s14, ent gs s14g] [] h' ∧ m1.1 = if a1 > 0 then (if (1073741825 : Int) > a1 then (1073741825 : Int) else a1) else a1) ?_ ?_
  rotate_left
  · intro J hJ
    by_cases q : a1 > 0
    · exact brT (decide_eq_true q) (hJ _ _ ⟨st, by rw [if_pos q]⟩)
    · exact brF (decide_eq_false q) (hJ _ _ ⟨st, by rw [if_neg q]⟩)
  clear st
  rintro ⟨m1, ⟨⟩⟩ h9 ⟨st, em1⟩
  simp only at em1 ⊢
  refine jn_mid (M := fun m2 h' => Hs [([], h)] [l8 xs s, li T so, nio' out sO, ent gs sG, li T s11, nio' out s14, ent gs s14g] [] h' ∧ (m2.1 = 0 ∨ m2.1 > maxID ∨ m2.1 < -maxID)) ?_ ?_
  rotate_left
  · intro J hJ
    unfold maxID at *
    by_cases q : m1 < 0
    · refine brT (decide_eq_true q) (hJ _ _ ⟨st, ?_⟩)
      simp only
      split <;> omega
    · refine brF (decide_eq_false q) (hJ _ _ ⟨st, ?_⟩)
      simp only
      rw [em1] at q ⊢
      split at q <;> rename_i q2
      · rw [if_pos q2]
        split <;> omega
      · rw [if_neg q2]; omega
  clear st
  rintro ⟨n, ⟨⟩⟩ h10 ⟨st, hn⟩
  simp only at hn ⊢
  rw [show IntKind.wrap .i64 ((so.len : Int) + 1) = (T.length : Int) + 1 by rw [lT, wrap_i64 (by omega) (by omega)], wrap_i64 (x := a2) (by omega) (by omega)]
  obtain ⟨k, hk⟩ : ∃ k : Nat, k = a2.toNat % (T.length + 1) := ⟨_, rfl⟩
  have hkl : k ≤ T.length := by rw [hk]; have := Nat.mod_lt a2.toNat (show 0 < T.length + 1 by omega); omega
  have ei : Int.tmod a2 ((T.length : Int) + 1) = (k : Int) := by
    rw [Int.tmod_eq_emod_of_nonneg k0, hk, Int.natCast_emod]
    rw [Int.toNat_of_nonneg k0]; rfl
  rw [ei]
  refine ⟨by omega, ?_⟩
  have fin : ∀ r25 h', Hs [([], h)] [l8 xs s, li T so, nio' out sO, ent gs sG, li T s11, nio' out s14, ent gs s14g] [nio' (T.take k ++ n :: T.drop k) r25] h' → TxTl sO sG n r25 K h' := fun r25 h' st =>
    txTl_c (st.own 0 rfl).rsl (st.fz 2 rfl).rsl (st.fz 3 rfl) hn (by omega) (by omega) (by omega) (fun g hg => by have := hl3 g hg; omega) fun h2 x2 => hK _ _ ⟨rfl, (st.frame (h0 := h) (by simp)).nil_trans x2⟩
  constructor
  · refine cloneI_c st (st.fz 1 rfl) (by omega) fun r6 h1 st => ?_
    refine st.nw fun b7 h2 st => ?_
    simp only [List.nil_append, List.cons_append] at st
    refine Hs.insertI st 0 1 rfl rfl (by decide) rfl hkl (by omega) fun r8 h3 st => ?_
    exact fin r8 h3 (st.drop 1 rfl)
  · refine st.nw fun b7 h2 st => ?_
    refine cloneI_c st (st.fz 1 rfl) (by omega) fun r6 h1 st => ?_
    simp only [List.nil_append, List.cons_append] at st
    refine Hs.insertI st 1 0 rfl rfl (by decide) rfl hkl (by omega) fun r8 h3 st => ?_
    exact fin r8 h3 (st.drop 0 rfl)

end Go.Proofs.S
