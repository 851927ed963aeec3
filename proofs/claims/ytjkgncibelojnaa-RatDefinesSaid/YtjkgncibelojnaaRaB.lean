/-
  The package rat: rest, follow: contracts.
-/
import Derived.Test.YtjkgncibelojnaaSxEw
set_option linter.unusedVariables false
set_option linter.unusedSimpArgs false
namespace Go.Proofs.S
open Go Go.Sx Go.Proofs Go.Cl Go.Rp Go.Rt

variable {h : Heap} {c d A ids : List Int} {l : List Ent} {s s2 s3 : Sl} {fr : Fr} {G As : List Asn} {b : Nat} {id p : Int}

theorem clip_c (hA : At h (li c s)) : callT Try.prog fn_slices_Clip_lits_Lit_lits_Lit #[.slice s.a s.len s.cap] .sl (fun s' h' => At h' (li c s') ∧ s'.cap = s'.len ∧ h' = h) h := by
  refine callT_gen fun K hK => S_slices_Clip_lits_Lit_lits_Lit (a0 := s) K ?_
  unfold F_slices_Clip_lits_Lit_lits_Lit
  have hcap := rsl_cap hA
  have hl := rsl_len hA
  refine ⟨by omega, by show (s.len : Int) ≤ (s.cap : Int); omega, by omega, by omega, by omega, by omega, hK _ _ ⟨?_, rfl, rfl⟩⟩
  obtain ⟨S, e, ec, k⟩ := hA
  refine ⟨S, by simpa using hl, Nat.le_refl _, ?_⟩
  rcases k with ⟨e1, e2⟩ | ⟨a, ea, k⟩
  · exact .inl ⟨e1, e2⟩
  · refine .inr ⟨a, ?_, k⟩
    simp only [Int.toNat_zero, Nat.zero_mul]
    split
    · exact ea
    · rw [ea, Option.map_some]; congr 1

abbrev negR (c : List Int) : List Int := c.map fun x => -x
theorem rest_c (hA : At h (li d s)) (hB : At h (li A s2)) (hr : ∀ x ∈ d, rt x = true) (hp : rt p = true) (hl : d.length ≤ 1099511627776) (hl2 : A.length ≤ 1099511627776) :
    callT Try.prog fn_rat_rest #[.slice s.a s.len s.cap, .int .i64 p, .slice s2.a s2.len s2.cap] (.tup (.cons .sl (.cons .bool .nil)))
      (fun r h' => ∃ s', r = (s', (restP p A d).2, ()) ∧ New h.size h' (lo (restP p A d).1 s') ∧ Ext [] h h') h := by
  refine callT_gen fun K hK => S_rat_rest (a0 := s) (a1 := p) (a2 := s2) K ?_
  unfold F_rat_rest
  have st := Hs.start h [li d s, li A s2] (by simp [hA, hB])
  have ld := rsl_len hA
  have st := st.nil ty_lits_Lit i64.enc none
  simp only [List.nil_append] at st
  refine lfp_invh (I := fun m σ h' => ∃ (i : Nat) (so zs : Sl) (zb : Bool), σ = ((i : Int), so, zb, zs, ()) ∧ i ≤ d.length ∧ (∀ x ∈ d.take i, x ≠ -p → A.contains x = false) ∧ Hs [([], h)] [li d s, li A s2] [lo (negR ((d.take i).filter fun x => decide (x ≠ -p))) so] h' ∧ m = d.length - i)
    ⟨_, 0, _, _, _, rfl, by omega, by simp, st, rfl⟩ ?_
  clear st
  rintro m σ h1 X ⟨i, so, zs, zb, rfl, hi, hno, st, rfl⟩ hX
  simp only
  by_cases hlt : i < d.length
  · refine brT (by rw [ld]; exact dlt_t hlt) ?_
    have hrx := hr _ (List.getElem_mem hlt)
    have et : d.take (i + 1) = d.take i ++ [d[i]] := by simp
    have hlf : ((d.take i).filter fun x => decide (x ≠ -p)).length ≤ i := by
      have := List.length_filter_le (fun x => decide (x ≠ -p)) (d.take i)
      rw [List.length_take] at this; omega
    refine jn_in fun J hJ => ?_
    refine rdE (τ := i64) (st.fz 0 rfl) hlt ?_
    refine call_of (lits_Neg_c p) ?_
    rintro _ h2 ⟨rfl, e⟩; subst e
    rw [negL_rt hp]
    by_cases hx : d[i] = -p
    · refine brT (by simpa using hx) (hJ _ _ ?_)
      simp only
      rw [inc_i (by omega)]
      refine hX _ _ _ ⟨i + 1, so, zs, zb, rfl, by omega, fun x hxm hne => ?_, ?_, rfl⟩ (by omega)
      · rw [et] at hxm
        rcases List.mem_append.1 hxm with k | k
        · exact hno x k hne
        · simp at k; exact absurd (k.trans hx) hne
      · rw [et, List.filter_append]
        have : ([d[i]].filter fun x => decide (x ≠ -p)) = [] := by simp [hx]
        rw [this, List.append_nil]; exact st
    · refine brF (by simpa using hx) ?_
      refine call_of (contains_lit (st.fz 1 rfl) hl2 _) ?_
      rintro _ h3 ⟨rfl, e⟩; subst e
      cases hc : A.contains d[i] with
      | true =>
        have e : restP p A d = ([], false) := by
          unfold restP
          rw [if_pos (List.any_eq_true.2 ⟨d[i], List.getElem_mem hlt, by rw [decide_eq_true hx, hc]; rfl⟩)]
        rw [e] at hK
        exact brT rfl (hK _ _ ⟨⟨none, 0, 0⟩, rfl, osl_nil _ _, st.frame (by simp)⟩)
      | false =>
        refine brF rfl ?_
        refine call_of (lits_Neg_c _) ?_
        rintro _ h4 ⟨rfl, e⟩; subst e
        rw [negL_rt hrx]
        refine st.nw fun b9 h5 st => ?_
        simp only [List.cons_append, List.nil_append] at st
        refine st.apd (v := -d[i]) 0 1 rfl rfl (by decide) rfl (by simp only [List.length_map]; omega) (by decide) rfl fun s10 h6 st => ?_
        simp only [List.set_cons_zero, List.set_cons_succ] at st
        have st := st.drop 1 rfl
        refine hJ _ _ ?_
        simp only
        rw [inc_i (by omega)]
        refine hX _ _ _ ⟨i + 1, s10, zs, zb, rfl, by omega, fun x hxm hne => ?_, ?_, rfl⟩ (by omega)
        · rw [et] at hxm
          rcases List.mem_append.1 hxm with k | k
          · exact hno x k hne
          · simp at k; rw [k]; exact hc
        · rw [et, List.filter_append]
          have : ([d[i]].filter fun x => decide (x ≠ -p)) = [d[i]] := by simp [hx]
          rw [this]; simp only [negR, List.map_append, List.map_cons, List.map_nil]; exact st
  · refine brF (by rw [ld]; exact dlt_f hlt) ?_
    rw [List.take_of_length_le (by omega)] at st hno
    have e : restP p A d = (negR (d.filter fun x => decide (x ≠ -p)), true) := by
      unfold restP
      rw [if_neg]
      rw [Bool.not_eq_true, List.any_eq_false]
      intro x hx q
      simp only [Bool.and_eq_true, decide_eq_true_eq] at q
      rw [hno x hx q.1] at q; cases q.2
    rw [e] at hK
    exact hK _ _ ⟨so, rfl, st.res (by simp) 0 rfl, st.frame (by simp)⟩

theorem lookF_ok (ho : okA A = true) (hr : rightC d = true) : Go.Proofs.S.lookF A d = ((lookP A d).1, (lookP A d).2, 0) := by unfold Go.Proofs.S.lookF; rw [hr, ho]; rfl
theorem rightE_lits (hE : rightE l = true) : ∀ x ∈ l, rightC x.2 = true := rightE_rt hE
theorem rightE_len (hE : rightE l = true) : l.length ≤ 1048576 := by
  unfold rightE at hE
  simp only [Bool.and_eq_true, decide_eq_true_eq] at hE
  exact hE.2

theorem ratFollow_c (hA : At h (ent l s)) (hE : rightE l = true) (hB : At h (li A s2)) (hC : At h (li ids s3)) (ho : okA A = true) (hAl : A.length + ids.length ≤ 1048576) :
    callT Try.prog fn_rat_follow #[.slice s.a s.len s.cap, .slice s2.a s2.len s2.cap, .slice s3.a s3.len s3.cap] (.tup (.cons .sl (.cons .bool (.cons (.int .i64) (.cons (.int .i64) .nil)))))
      (fun r h' => ∃ s', r = (s', (followR l A ids).2.1, (followR l A ids).2.2.1, (followR l A ids).2.2.2, ()) ∧ At h' (li (followR l A ids).1 s') ∧ Ext [] h h') h := by
  refine callT_gen fun K hK => S_rat_follow (a0 := s) (a1 := s2) (a2 := s3) K ?_
  unfold F_rat_follow
  have l3 := rsl_len hC
  have st := Hs.start h [ent l s, li ids s3] (by simp [hA, hC])
  refine lfp_invh (I := fun m σ h' => ∃ (i : Nat) (B : List Int) (sB z5 : Sl) (z2 z3 : Int) (z4 : Bool), σ = ((i : Int), z2, z3, z4, z5, sB, ()) ∧ i ≤ ids.length ∧ followR l B (ids.drop i) = followR l A ids ∧ okA B = true ∧ B.length ≤ A.length + i ∧ At h' (li B sB) ∧ Hs [([], h)] [ent l s, li ids s3] [] h' ∧ m = ids.length - i)
    ⟨_, 0, A, s2, _, _, _, _, rfl, by omega, rfl, ho, by omega, hB, st, rfl⟩ ?_
  clear st
  rintro m σ h1 X ⟨i, B, sB, z5, z2, z3, z4, rfl, hi, hf, hoB, hBl, hBA, st, rfl⟩ hX
  simp only
  by_cases hlt : i < ids.length
  · refine brT (by rw [l3]; exact dlt_t hlt) ?_
    rw [List.drop_eq_getElem_cons hlt] at hf
    rw [followR] at hf
    refine rdE (τ := i64) (st.fz 1 rfl) hlt ?_
    refine call_of (find0_c (st.fz 0 rfl) hE ids[i]) ?_
    rintro _ h2 ⟨⟨k, hk, rfl, e⟩ | ⟨k, rfl, hno⟩, x2⟩
    · rw [← e, lookE_at hE hk] at hf
      have st := st.ext x2
      have hBA := hBA.ext x2
      refine brF rfl ?_
      refine rdPrs (st.fz 0 rfl) hk fun q hq => ?_
      have hrc := rightE_lits hE _ (List.getElem_mem hk)
      refine call_of (Look_c hq hBA (by have := rightC_len hrc; omega) (by omega)) ?_
      rw [lookF_ok hoB hrc]
      rintro _ h3 ⟨rfl, x3⟩
      have st := st.ext x3
      have hBA := hBA.ext x3
      have xf := st.frame (h0 := h) (by simp)
      simp only at hf ⊢
      by_cases h2 : (lookP B l[k].2).1 = 2
      · rw [if_pos h2] at hf
        rw [← hf] at hK
        exact brT (by simpa using h2) (hK _ _ ⟨sB, rfl, hBA, xf⟩)
      rw [if_neg h2] at hf
      refine brF (by simpa using h2) ?_
      by_cases h3 : (lookP B l[k].2).1 = 3
      · rw [if_pos h3] at hf
        have hu := look_unit' h3
        refine brT (by simpa using h3) ?_
        refine call_of (clip_c hBA) ?_
        rintro s8 _ ⟨h8, hfull, rfl⟩
        refine st.nwX fun b9 h5 x5 st2 => ?_
        simp only [List.nil_append] at st2
        refine Hs.apdF (τ := i64) (xs := B) (v := (lookP B l[k].2).2) st2 0 (h8.ext x5) hfull rfl (by omega) (by decide) rfl fun s10 h6 st3 => ?_
        simp only [List.cons_append, List.nil_append] at st3
        rw [inc_i (by omega)]
        exact hX _ _ _ ⟨i + 1, B ++ [(lookP B l[k].2).2], s10, z5, z2, z3, z4, rfl, by omega, hf, okA_snoc hoB (rightC_rt hrc _ hu.2.1) hu.2.2.1, by simp; omega, (st3.own 1 rfl).rsl, (st3.drop 1 rfl).drop 0 rfl, rfl⟩ (by omega)
      · rw [if_neg h3] at hf
        rw [← hf, e] at hK
        exact brF (by simpa using h3) (hK _ _ ⟨⟨none, 0, 0⟩, rfl, nil_li, xf⟩)
    · rw [lookE_no hno] at hf
      rw [← hf] at hK
      exact brT rfl (hK _ _ ⟨⟨none, 0, 0⟩, rfl, nil_li, x2 |> (st.frame (h0 := h) (by simp)).nil_trans⟩)
  · refine brF (by rw [l3]; exact dlt_f hlt) ?_
    rw [List.drop_eq_nil_of_le (by omega)] at hf
    rw [followR] at hf
    rw [← hf] at hK
    exact hK _ _ ⟨sB, rfl, hBA, st.frame (by simp)⟩

end Go.Proofs.S

set_option linter.unusedVariables false
set_option linter.unusedSimpArgs false
namespace Go.Proofs.S
open Go Go.Sx Go.Proofs Go.Cl Go.Rp Go.Rt

variable {h : Heap} {c d A ids : List Int} {l : List Ent} {s s2 s3 : Sl} {fr : Fr} {G As : List Asn} {b : Nat} {id p : Int}

def cdGo (p : Int) : List Ent → Nat → List (Int × Unit)
  | [], _ => []
  | x :: l, i => if isCand p x then ((i : Int), ()) :: cdGo p l (i + 1) else cdGo p l (i + 1)
abbrev cdNx (L : List (Int × Unit)) (pre : List (Int × Unit)) (x : Int × Unit) : Prop := ∃ r, L = pre ++ x :: r
abbrev cdFin (L pre : List (Int × Unit)) : Prop := pre = L
abbrev cdV (b0 b1 : Nat) : Value := .func (.func fn_rat_candidates_1) #[] #[.pointer (some ⟨b0, 0, none⟩), .pointer (some ⟨b1, 0, none⟩)]
abbrev cdG (b0 b1 : Nat) (l : List Ent) (s : Sl) (p : Int) : List Asn := [cl b0 ty_sl_rat_Entry [.slice s.a s.len s.cap], cl b1 ty_lits_Lit [.int .i64 p], ent l s]

theorem cdGo_get : ∀ (l : List Ent) (i : Nat), ∀ y ∈ cdGo p l i, ∃ j : Nat, ∃ hj : j < l.length, y = (((i + j : Nat) : Int), ()) ∧ isCand p l[j] = true
  | [], i, y, h => by simp [cdGo] at h
  | x :: l, i, y, h => by
    unfold cdGo at h
    by_cases hc : isCand p x = true
    · rw [if_pos hc] at h
      rcases List.mem_cons.1 h with rfl | h
      · exact ⟨0, by simp, rfl, hc⟩
      · obtain ⟨j, hj, e, k⟩ := cdGo_get l (i + 1) y h
        exact ⟨j + 1, by simpa using hj, by rw [e]; congr 2; omega, by simpa using k⟩
    · rw [if_neg hc] at h
      obtain ⟨j, hj, e, k⟩ := cdGo_get l (i + 1) y h
      exact ⟨j + 1, by simpa using hj, by rw [e]; congr 2; omega, by simpa using k⟩
def cdEnt (l : List Ent) (y : Int × Unit) : Ent := l.getD y.1.toNat (0, [])
theorem cdGo_ents : ∀ (l0 l : List Ent), (cdGo p l l0.length).map (cdEnt (l0 ++ l)) = l.filter (isCand p)
  | l0, [] => rfl
  | l0, x :: l => by
    have ih := cdGo_ents (l0 ++ [x]) l
    rw [List.length_append, List.length_singleton, List.append_assoc, List.singleton_append] at ih
    unfold cdGo
    rw [List.filter_cons]
    by_cases hc : isCand p x = true
    · rw [if_pos hc, if_pos hc, List.map_cons, ih]
      congr 1
      unfold cdEnt
      simp
    · rw [if_neg hc, if_neg hc, ih]
theorem cd_ents : (cdGo p l 0).map (cdEnt l) = l.filter (isCand p) := cdGo_ents [] l

theorem cand_iter {b0 b1 : Nat} {F : List Nat} (hG : ∀ C ∈ cdG b0 b1 l s p, ∃ SC, C.P SC h ∧ ∀ b ∈ SC, b ∈ F) (hF : ∀ b ∈ F, b < h.size) (hE : rightE l = true) (hp : rt p = true) :
    IterSpec Try.prog (.cons i64 .nil) (cdV b0 b1) h (cdNx (cdGo p l 0)) (cdFin (cdGo p l 0)) F [] := by
  refine iter_of hG hF ?_
  intro At0 D B0 yl c it K hfin hD
  refine callF_func (S_rat_candidates_1 (a0 := yl) (c0 := ⟨b0, 0, none⟩) (c1 := ⟨b1, 0, none⟩) K ?_)
  unfold F_rat_candidates_1
  obtain ⟨S, st, close⟩ := it.open c
  rw [ld_sl (i := 0) (st.fblk 0 rfl) rfl]
  clear st close
  have hll := rightE_len hE
  refine lfp_invh (I := fun μ σ h' => ∃ (i : Nat) (pre : List (Int × Unit)) (B : List Nat), σ = ((i : Int), ()) ∧ i ≤ l.length ∧ pre ++ cdGo p (l.drop i) i = cdGo p l 0 ∧ It h F At0 (cdG b0 b1 l s p) [] pre B h' ∧ μ = l.length - i)
    ⟨_, 0, [], B0, rfl, by omega, by simp, it, rfl⟩ ?_
  rintro μ σ h' X ⟨i, pre, B, rfl, hi, hq, it, rfl⟩ hX
  simp only
  obtain ⟨S, st, close⟩ := it.open c
  have ls := rsp_len (st.fz 2 rfl)
  by_cases hlt : i < l.length
  · refine brT (by rw [ls]; exact decide_eq_true (by omega)) ?_
    rw [List.drop_eq_getElem_cons hlt] at hq
    simp only [cdGo] at hq
    have hrc := rightE_lits hE _ (List.getElem_mem hlt)
    refine rdPr (st.fz 2 rfl) hlt fun q hrow => ?_
    refine st.pr fun b5 h1 x1 st => ?_
    simp only [List.nil_append, addr_add, Nat.zero_add] at st ⊢
    have hrow := hrow.ext x1
    rw [st.lds 0 1 rfl rfl, ld_int (i := 0) (st.fblk 1 rfl) rfl]
    refine call_of (lits_Neg_c p) ?_
    rintro _ h2 ⟨rfl, e⟩; subst e
    rw [negL_rt hp, st.ck 0 1 rfl rfl]
    refine call_of (contains_clause hrow (by have := rightC_len hrc; omega) _) ?_
    rintro _ h3 ⟨rfl, e⟩; subst e
    have on : ∀ h4, Hs [(S, h')] (cdG b0 b1 l s p) [prC b5 ty_rat_Entry l[i].1 q] h4 → isCand p l[i] = false → X ((IntKind.wrap .i64 ((i : Int) + (1 : Int))), ()) h4 := by
      intro h4 st hn
      rw [hn, if_neg (by simp)] at hq
      rw [inc_i (by omega)]
      exact hX _ _ _ ⟨i + 1, pre, B, rfl, by omega, hq, close _ _ (st.drop 0 rfl), rfl⟩ (by omega)
    cases hc : l[i].2.contains (-p) with
    | false => exact brF rfl (on _ st (by unfold isCand; rw [hc]; rfl))
    | true =>
      refine brT rfl ?_
      rw [st.lds 0 1 rfl rfl]
      refine call_of (always_c hrow) ?_
      rintro _ h4 ⟨rfl, x4⟩
      have st := st.ext x4
      rw [hrc, Bool.true_and]
      cases ha : alwaysC l[i].2 with
      | true => exact brF rfl (on _ st (by unfold isCand; rw [ha]; simp))
      | false =>
        refine brT rfl ?_
        have hcd : isCand p l[i] = true := by unfold isCand; rw [hc, ha]; rfl
        rw [hcd, if_pos rfl] at hq
        have it := close _ _ (st.drop 0 rfl)
        refine It.yield (τ := .cons i64 .nil) c it (x := ((i : Int), ())) ⟨_, hq.symm⟩ (fun B' h3 it => ?_) (fun B' h3 hd => ?_)
        · refine brF rfl ?_
          rw [inc_i (by omega)]
          exact hX _ _ _ ⟨i + 1, _, B', rfl, by omega, by rw [List.append_assoc]; exact hq, it, rfl⟩ (by omega)
        · exact brT rfl (hD B' h3 hd)
  · refine brF (by rw [ls]; exact decide_eq_false (by omega)) ?_
    rw [List.drop_eq_nil_of_le (by omega)] at hq
    simp only [cdGo, List.append_nil] at hq
    exact hfin pre B h' hq it.1

theorem cand_hit (st : Hs fr G As h) {b0 b1 : Nat} (hm : ∀ C ∈ cdG b0 b1 l s p, C ∈ G) (hE : rightE l = true) (hp : rt p = true) :
    ∀ S, FzOk G S h → FrOk fr S h → ∃ F, (∀ b ∈ F, b < h.size ∧ b ∉ S) ∧ ∀ h1, NewL h h1 → IterSpec Try.prog (.cons i64 .nil) (cdV b0 b1) h1 (cdNx (cdGo p l 0)) (cdFin (cdGo p l 0)) F [] := by
  intro S hz _
  obtain ⟨F, hF, hall⟩ := hitG (cdG b0 b1 l s p) hm hz
  exact ⟨F, hF, fun h1 hn => cand_iter (hall h1 hn.1) (fun b hb => Nat.lt_of_lt_of_le (hF b hb).1 hn.1.1) hE hp⟩

def cdIDs (l : List Ent) (pre : List (Int × Unit)) : List Int := pre.map fun y => (cdEnt l y).1
theorem cdIDs_all : cdIDs l (cdGo p l 0) = candIDs l p := by
  unfold cdIDs candIDs
  rw [← cd_ents, List.map_map]; rfl
theorem cdIDs_len {pre r : List (Int × Unit)} (h : cdGo p l 0 = pre ++ r) : (cdIDs l pre).length ≤ l.length := by
  have h1 : (cdGo p l 0).length ≤ l.length := by
    have := congrArg List.length (cd_ents (p := p) (l := l))
    rw [List.length_map] at this
    rw [this]; exact List.length_filter_le _ _
  rw [h, List.length_append] at h1
  unfold cdIDs
  rw [List.length_map]; omega
theorem cd_at {pre r : List (Int × Unit)} {x : Int × Unit} (h : cdGo p l 0 = pre ++ x :: r) : ∃ j : Nat, ∃ hj : j < l.length, x = ((j : Int), ()) ∧ cdEnt l x = l[j] ∧ isCand p l[j] = true := by
  have hx : x ∈ cdGo p l 0 := by rw [h]; simp
  obtain ⟨j, hj, rfl, hc⟩ := cdGo_get l 0 x hx
  refine ⟨j, hj, by simp, ?_, hc⟩
  unfold cdEnt
  simp only [Nat.zero_add, Int.toNat_natCast]
  rw [List.getD_eq_getElem?_getD, List.getElem?_eq_getElem hj]; rfl

theorem candidates_c (st : Hs fr G As h) (hE : ent l s ∈ G) {K : Value → HP} (hK : ∀ b0 b1 h', Hs fr (G ++ [cl b0 ty_sl_rat_Entry [.slice s.a s.len s.cap], cl b1 ty_lits_Lit [.int .i64 p]]) As h' → K (cdV b0 b1) h') :
    callT Try.prog fn_rat_candidates #[.slice s.a s.len s.cap, .int .i64 p] .val K h := by
  refine S_rat_candidates (a0 := s) (a1 := p) K ?_
  unfold F_rat_candidates
  refine st.nw fun b0 h1 st => ?_
  refine st.nw fun b1 h2 st => ?_
  rw [List.append_assoc] at st
  exact hK b0 b1 h2 (Hs.freezeR st)

end Go.Proofs.S
