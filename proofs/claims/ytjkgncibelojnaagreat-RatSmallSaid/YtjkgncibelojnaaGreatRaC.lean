/-
  The package rat: the candidates, an iterator; Candidates: contracts.
-/
import Derived.Test.YtjkgncibelojnaaGreatRaA
set_option linter.unusedVariables false
set_option linter.unusedSimpArgs false
namespace Go.Proofs.S
open Go Go.Sx Go.Proofs Go.Cl Go.Rp Go.Rt
variable {h : Heap} {c d A ids : List Int} {l : List Ent} {s s2 s3 : Sl} {fr : Fr} {G As : List Asn} {b : Nat} {id p : Int}
def cdGo (p : Int) : List Ent → Nat → List (Int × Unit)
  | [], _ => []
  | x :: l, i => if isCand p x then ((i : Int), ()) :: cdGo p l (i + 1) else cdGo p l (i + 1)
abbrev cdNx (L : List (Int × Unit)) (pre : List (Int × Unit)) (x : Int × Unit) : Prop := ∃ r, L = pre ++ x :: r
abbrev cdFin (L pre : List (Int × Unit)) : Prop := pre = L
abbrev cdV (b0 b1 : Nat) : Value := .func (.func fn_rat_candidates_1) #[] #[.pointer (some ⟨b0, 0, none⟩), .pointer (some ⟨b1, 0, none⟩)]
abbrev cdG (b0 b1 : Nat) (l : List Ent) (s : Sl) (p : Int) : List Asn := [cl b0 ty_sl_rat_Entry [.slice s.a s.len s.cap], cl b1 ty_lits_Lit [.int .i64 p], ent l s]
theorem cdGo_get : ∀ (l : List Ent) (i : Nat), ∀ y ∈ cdGo p l i, ∃ j : Nat, ∃ hj : j < l.length, y = (((i + j : Nat) : Int), ()) ∧ isCand p l[j] = true
  | [], i, y, h => by simp [cdGo] at h
  | x :: l, i, y, h => by
    unfold cdGo at h
    by_cases hc : isCand p x = true
    · rw [if_pos hc] at h
      rcases List.mem_cons.1 h with rfl | h
      · exact ⟨0, by simp, rfl, hc⟩
      · obtain ⟨j, hj, e, k⟩ := cdGo_get l (i + 1) y h
        exact ⟨j + 1, by simpa using hj, by rw [e]; congr 2; omega, by simpa using k⟩
    · rw [if_neg hc] at h
      obtain ⟨j, hj, e, k⟩ := cdGo_get l (i + 1) y h
      exact ⟨j + 1, by simpa using hj, by rw [e]; congr 2; omega, by simpa using k⟩
def cdEnt (l : List Ent) (y : Int × Unit) : Ent := l.getD y.1.toNat (0, [])
theorem cdGo_ents : ∀ (l0 l : List Ent), (cdGo p l l0.length).map (cdEnt (l0 ++ l)) = l.filter (isCand p)
  | l0, [] => rfl
  | l0, x :: l => by
    have ih := cdGo_ents (l0 ++ [x]) l
    rw [List.length_append, List.length_singleton, List.append_assoc, List.singleton_append] at ih
    unfold cdGo
    rw [List.filter_cons]
    by_cases hc : isCand p x = true
    · rw [if_pos hc, if_pos hc, List.map_cons, ih]
      congr 1
      unfold cdEnt
      simp
    · rw [if_neg hc, if_neg hc, ih]
theorem cd_ents : (cdGo p l 0).map (cdEnt l) = l.filter (isCand p) := cdGo_ents [] l
theorem cand_iter {b0 b1 : Nat} {F : List Nat} (hG : ∀ C ∈ cdG b0 b1 l s p, ∃ SC, C.P SC h ∧ ∀ b ∈ SC, b ∈ F) (hF : ∀ b ∈ F, b < h.size) (hE : rightE l = true) (hp : rt p = true) :
    IterSpec Tryz.prog (.cons i64 .nil) (cdV b0 b1) h (cdNx (cdGo p l 0)) (cdFin (cdGo p l 0)) F [] := by
  refine iter_of hG hF ?_
  intro At0 D B0 yl c it K hfin hD
  refine callF_func (S_rat_candidates_1 (a0 := yl) (c0 := ⟨b0, 0, none⟩) (c1 := ⟨b1, 0, none⟩) K ?_)
  unfold F_rat_candidates_1
  obtain ⟨S, st, close⟩ := it.open c
  rw [ld_sl (i := 0) (st.fblk 0 rfl) rfl]
  clear st close
  have hll := rightE_len hE
  refine lfp_invh (I := fun μ σ h' => ∃ (i : Nat) (pre : List (Int × Unit)) (B : List Nat), σ = ((i : Int), ()) ∧ i ≤ l.length ∧ pre ++ cdGo p (l.drop i) i = cdGo p l 0 ∧ It h F At0 (cdG b0 b1 l s p) [] pre B h' ∧ μ = l.length - i)
    ⟨_, 0, [], B0, rfl, by omega, by simp, it, rfl⟩ ?_
  rintro μ σ h' X ⟨i, pre, B, rfl, hi, hq, it, rfl⟩ hX
  simp only
  obtain ⟨S, st, close⟩ := it.open c
  have ls := rsp_len (st.fz 2 rfl)
  by_cases hlt : i < l.length
  · refine brT (by rw [ls]; exact decide_eq_true (by omega)) ?_
    rw [List.drop_eq_getElem_cons hlt] at hq
    simp only [cdGo] at hq
    have hrc := rightE_lits hE _ (List.getElem_mem hlt)
    refine rdPr (st.fz 2 rfl) hlt fun q hrow => ?_
    refine st.pr fun b5 h1 x1 st => ?_
    simp only [List.nil_append, addr_add, Nat.zero_add] at st ⊢
    have hrow := hrow.ext x1
    rw [st.lds 0 1 rfl rfl, ld_int (i := 0) (st.fblk 1 rfl) rfl]
    refine call_of (lits_Neg_c p) ?_
    rintro _ h2 ⟨rfl, e⟩; subst e
    rw [negL_rt hp, st.ck 0 1 rfl rfl]
    refine call_of (contains_clause hrow (by have := rightC_len hrc; omega) _) ?_
    rintro _ h3 ⟨rfl, e⟩; subst e
    have on : ∀ h4, Hs [(S, h')] (cdG b0 b1 l s p) [prC b5 ty_rat_Entry l[i].1 q] h4 → isCand p l[i] = false → X ((IntKind.wrap .i64 ((i : Int) + (1 : Int))), ()) h4 := by
      intro h4 st hn
      rw [hn, if_neg (by simp)] at hq
      rw [inc_i (by omega)]
      exact hX _ _ _ ⟨i + 1, pre, B, rfl, by omega, hq, close _ _ (st.drop 0 rfl), rfl⟩ (by omega)
    cases hc : l[i].2.contains (-p) with
    | false => exact brF rfl (on _ st (by unfold isCand; rw [hc]; rfl))
    | true =>
      refine brT rfl ?_
      rw [st.lds 0 1 rfl rfl]
      refine call_of (always_c hrow) ?_
      rintro _ h4 ⟨rfl, x4⟩
      have st := st.ext x4
      rw [hrc, Bool.true_and]
      cases ha : alwaysC l[i].2 with
      | true => exact brF rfl (on _ st (by unfold isCand; rw [ha]; simp))
      | false =>
        refine brT rfl ?_
        have hcd : isCand p l[i] = true := by unfold isCand; rw [hc, ha]; rfl
        rw [hcd, if_pos rfl] at hq
        have it := close _ _ (st.drop 0 rfl)
        refine It.yield (τ := .cons i64 .nil) c it (x := ((i : Int), ())) ⟨_, hq.symm⟩ (fun B' h3 it => ?_) (fun B' h3 hd => ?_)
        · refine brF rfl ?_
          rw [inc_i (by omega)]
          exact hX _ _ _ ⟨i + 1, _, B', rfl, by omega, by rw [List.append_assoc]; exact hq, it, rfl⟩ (by omega)
        · exact brT rfl (hD B' h3 hd)
  · refine brF (by rw [ls]; exact decide_eq_false (by omega)) ?_
    rw [List.drop_eq_nil_of_le (by omega)] at hq
    simp only [cdGo, List.append_nil] at hq
    exact hfin pre B h' hq it.1
theorem cand_hit (st : Hs fr G As h) {b0 b1 : Nat} (hm : ∀ C ∈ cdG b0 b1 l s p, C ∈ G) (hE : rightE l = true) (hp : rt p = true) :
    ∀ S, FzOk G S h → FrOk fr S h → ∃ F, (∀ b ∈ F, b < h.size ∧ b ∉ S) ∧ ∀ h1, NewL h h1 → IterSpec Tryz.prog (.cons i64 .nil) (cdV b0 b1) h1 (cdNx (cdGo p l 0)) (cdFin (cdGo p l 0)) F [] := by
  intro S hz _
  obtain ⟨F, hF, hall⟩ := hitG (cdG b0 b1 l s p) hm hz
  exact ⟨F, hF, fun h1 hn => cand_iter (hall h1 hn.1) (fun b hb => Nat.lt_of_lt_of_le (hF b hb).1 hn.1.1) hE hp⟩
def cdIDs (l : List Ent) (pre : List (Int × Unit)) : List Int := pre.map fun y => (cdEnt l y).1
theorem cdIDs_all : cdIDs l (cdGo p l 0) = candIDs l p := by
  unfold cdIDs candIDs
  rw [← cd_ents, List.map_map]; rfl
theorem cdIDs_len {pre r : List (Int × Unit)} (h : cdGo p l 0 = pre ++ r) : (cdIDs l pre).length ≤ l.length := by
  have h1 : (cdGo p l 0).length ≤ l.length := by
    have := congrArg List.length (cd_ents (p := p) (l := l))
    rw [List.length_map] at this
    rw [this]; exact List.length_filter_le _ _
  rw [h, List.length_append] at h1
  unfold cdIDs
  rw [List.length_map]; omega
theorem cd_at {pre r : List (Int × Unit)} {x : Int × Unit} (h : cdGo p l 0 = pre ++ x :: r) : ∃ j : Nat, ∃ hj : j < l.length, x = ((j : Int), ()) ∧ cdEnt l x = l[j] ∧ isCand p l[j] = true := by
  have hx : x ∈ cdGo p l 0 := by rw [h]; simp
  obtain ⟨j, hj, rfl, hc⟩ := cdGo_get l 0 x hx
  refine ⟨j, hj, by simp, ?_, hc⟩
  unfold cdEnt
  simp only [Nat.zero_add, Int.toNat_natCast]
  rw [List.getD_eq_getElem?_getD, List.getElem?_eq_getElem hj]; rfl
theorem candidates_c (st : Hs fr G As h) (hE : ent l s ∈ G) {K : Value → HP} (hK : ∀ b0 b1 h', Hs fr (G ++ [cl b0 ty_sl_rat_Entry [.slice s.a s.len s.cap], cl b1 ty_lits_Lit [.int .i64 p]]) As h' → K (cdV b0 b1) h') :
    callT Tryz.prog fn_rat_candidates #[.slice s.a s.len s.cap, .int .i64 p] .val K h := by
  refine S_rat_candidates (a0 := s) (a1 := p) K ?_
  unfold F_rat_candidates
  refine st.nw fun b0 h1 st => ?_
  refine st.nw fun b1 h2 st => ?_
  rw [List.append_assoc] at st
  exact hK b0 b1 h2 (Hs.freezeR st)
def candsA (l : List Ent) (p : Int) : List Int × Int := if !rightE l then ([], 90) else if !rt p then ([], 10) else (candIDs l p, 0)
theorem Candidates_c (hA : At h (ent l s)) (hl : l.length ≤ 1099511627776) (p : Int) :
    callT Tryz.prog fn_rat_Candidates #[.slice s.a s.len s.cap, .int .i64 p] (.tup (.cons .sl (.cons (.int .i64) .nil)))
      (fun r h' => ∃ s', r = (s', (candsA l p).2, ()) ∧ New h.size h' (osl ty_int i64.enc (candsA l p).1 s') ∧ Ext [] h h') h := by
  refine callT_gen fun K hK => S_rat_Candidates (a0 := s) (a1 := p) K ?_
  unfold F_rat_Candidates
  show (nw _ _ _) h
  have st := Hs.start h [ent l s] (by simp [hA])
  unfold candsA at hK
  refine st.nw fun b0 h1 st => ?_
  have st := st.freeze 0 rfl
  simp only [List.nil_append, List.cons_append, List.eraseIdx_cons_zero] at st
  rw [ld_sl (i := 0) (st.fblk 1 rfl) rfl]
  refine call_of (ratRight_c (st.fz 0 rfl) hl) ?_
  rintro _ h2 ⟨rfl, x2⟩
  have st := st.ext x2
  cases hE : rightE l with
  | false =>
    rw [hE, if_pos (by rfl)] at hK
    exact brT rfl (fun h3 hM => hK _ _ ⟨⟨none, 0, 0⟩, rfl, osl_nil _ _, (st.marked hM).frame (by simp)⟩)
  | true =>
    rw [hE, if_neg (by simp)] at hK
    refine brF rfl ?_
    refine call_of (lits_Right_c p) ?_
    rintro _ h3 ⟨rfl, e⟩; subst e
    cases hp : rt p with
    | false =>
      rw [hp, if_pos (by rfl)] at hK
      exact brT rfl (fun h3 hM => hK _ _ ⟨⟨none, 0, 0⟩, rfl, osl_nil _ _, (st.marked hM).frame (by simp)⟩)
    | true =>
      rw [hp, if_neg (by simp)] at hK
      refine brF rfl ?_
      have hll := rightE_len hE
      refine st.nw fun b4 h4 st => ?_
      have st := st.nil ty_int i64.enc none
      simp only [List.nil_append, List.cons_append] at st
      rw [ld_sl (i := 0) (st.fblk 1 rfl) rfl]
      refine candidates_c (l := l) (s := s) st (by simp) fun c0 c1 h5 st => ?_
      simp only [List.cons_append, List.nil_append] at st
      refine Hs.range st (P := Tryz.prog) (τ := .cons i64 .nil) (cdNx (cdGo p l 0)) (cdFin (cdGo p l 0)) (cand_hit (s := s) st (by simp) hE hp) (fun _ _ _ _ => rfl)
        (fun pre Bs => ∃ so : Sl, Bs = [cl b4 ty_sl_int [.slice so.a so.len so.cap], osl ty_int i64.enc (cdIDs l pre) so]) (fun _ _ => False) ⟨⟨none, 0, 0⟩, rfl⟩ ?_ ?_ (fun _ _ hf => hf.elim) (fun i id K hi => by simp at hi)
      · rintro pre x Bs B hb ⟨r, hr⟩ ⟨so, rfl⟩ st next jump hnext hjump
        obtain ⟨j, hj, rfl, ej, _⟩ := cd_at hr
        have hlen := cdIDs_len hr
        have ex : cdIDs l (pre ++ [((j : Int), ())]) = cdIDs l pre ++ [l[j].1] := by unfold cdIDs; rw [List.map_append, List.map_singleton, ej]
        simp only
        rw [st.lds 0 0 rfl rfl, ld_sl (i := 0) (st.fblk 1 rfl) rfl]
        refine rdPri (st.fz 0 rfl) hj ?_
        refine st.nw fun b15 h6 st => ?_
        simp only [List.nil_append, List.cons_append] at st
        refine st.apd (v := l[j].1) 1 2 rfl rfl (by decide) rfl (by omega) (by decide) rfl fun s16 h7 st => ?_
        refine st.st1 0 0 rfl (by simp) fun h8 st => ?_
        simp only [List.set_cons_zero, List.set_cons_succ] at st
        refine hnext _ _ ⟨s16, ?_⟩ (st.drop 2 rfl)
        rw [ex]; rfl
      · rintro pre Bs h6 hfin ⟨so, rfl⟩ st
        have hfin : pre = cdGo p l 0 := hfin
        rw [hfin, cdIDs_all] at st
        rw [st.lds 0 0 rfl rfl]
        exact fun h7 hM => hK _ _ ⟨so, rfl, (st.marked hM).res (by simp) 1 rfl, (st.marked hM).frame (by simp)⟩
end Go.Proofs.S
namespace Go.Proofs.S
open Go Go.Sx Go.Proofs Go.Cl Go.Rp Go.Rt
variable {h : Heap} {c d A ids : List Int} {l : List Ent} {gs : List Grp} {s s2 s3 : Sl} {fr : Fr} {G As : List Asn} {b : Nat} {id p : Int}
theorem less_int (x y : Int) : callT Tryz.prog fn_cmp_Less_int #[.int .i64 x, .int .i64 y] .bool (fun r h' => r = decide (x < y) ∧ h' = h) h := by
  have nan : ∀ (x : Int) (h : Heap), callT Tryz.prog fn_cmp_isNaN_int #[.int .i64 x] .bool (fun r h' => r = false ∧ h' = h) h := fun x h => by
    refine S_cmp_isNaN_int (a0 := x) _ ?_
    unfold F_cmp_isNaN_int
    exact ⟨by simp, rfl⟩
  refine callT_gen fun K hK => S_cmp_Less_int (a0 := x) (a1 := y) K ?_
  unfold F_cmp_Less_int
  refine call_of (nan x h) ?_
  rintro _ h2 ⟨rfl, e⟩; subst e
  exact brF rfl (hK _ _ ⟨rfl, rfl⟩)
theorem bsearch_int {xs : List Int} (hA : At h (rsl i64.enc xs s)) (hl : xs.length ≤ 1099511627776) (v : Int) :
    callT Tryz.prog fn_slices_BinarySearch_int_int #[.slice s.a s.len s.cap, .int .i64 v] (.tup (.cons i64 (.cons .bool .nil)))
      (fun r h' => (∃ i : Nat, r.1 = (i : Int) ∧ i ≤ xs.length) ∧ (r.2.1 = true → v ∈ xs) ∧ (xs.Pairwise (· < ·) → (r.2.1 = true ↔ v ∈ xs)) ∧ h' = h) h := by
  refine callT_gen fun K hK => S_slices_BinarySearch_int_int (a0 := s) (a1 := v) K ?_
  unfold F_slices_BinarySearch_int_int
  have l1 := rsl_len hA
  rw [l1]
  refine lfp_invh (I := fun m σ h' => ∃ i j : Nat, σ = ((j : Int), (i : Int), ()) ∧ i ≤ j ∧ j ≤ xs.length ∧ (xs.Pairwise (· < ·) → (∀ k (hk : k < xs.length), k < i → xs[k] < v) ∧ ∀ k (hk : k < xs.length), j ≤ k → ¬ xs[k] < v) ∧ h' = h ∧ m = j - i)
    ⟨_, 0, xs.length, rfl, by omega, by omega, fun _ => ⟨fun k _ hk => by omega, fun k hk hk' => by omega⟩, rfl, rfl⟩ ?_
  rintro m σ h' X ⟨i, j, rfl, hij, hj, hs, rfl, em⟩ hX
  by_cases hlt : i < j
  · have hmid : (i + j) / 2 < xs.length := by omega
    simp only [dlt_t hlt, brB_true, ge0_ok (show (0 : Int) ≤ 1 by decide), mid_eq (show i ≤ 1099511627776 by omega) (show j ≤ 1099511627776 by omega), inc_i (show (i + j) / 2 < 4611686018427387904 by omega)]
    rw [← l1]
    refine rdE (τ := i64) hA hmid ?_
    refine call_of (less_int xs[(i + j) / 2] v) ?_
    rintro _ h2 ⟨rfl, e⟩; subst e
    refine jn_in fun J hJ => ?_
    by_cases hneg : xs[(i + j) / 2] < v
    · refine brT (decide_eq_true hneg) (hJ _ _ (hX _ _ _ ⟨(i + j) / 2 + 1, j, rfl, by omega, hj, fun hp => ⟨fun k hk hki => ?_, (hs hp).2⟩, rfl, rfl⟩ (by omega)))
      rcases Nat.lt_or_ge k ((i + j) / 2) with hk2 | hk2
      · exact Int.lt_trans (List.pairwise_iff_getElem.1 hp k _ hk hmid hk2) hneg
      · have : k = (i + j) / 2 := by omega
        subst this; exact hneg
    · refine brF (decide_eq_false hneg) (hJ _ _ (hX _ _ _ ⟨i, (i + j) / 2, rfl, by omega, by omega, fun hp => ⟨(hs hp).1, fun k hk hki hc' => ?_⟩, rfl, rfl⟩ (by omega)))
      rcases Nat.lt_or_ge ((i + j) / 2) k with hk2 | hk2
      · exact hneg (Int.lt_trans (List.pairwise_iff_getElem.1 hp _ k hmid hk hk2) hc')
      · have : k = (i + j) / 2 := by omega
        subst this; exact hneg hc'
  · have eij : i = j := by omega
    subst eij
    simp only [dlt_f hlt, brB_false]
    have no : xs.Pairwise (· < ·) → (∀ hi : i < xs.length, xs[i] ≠ v) → v ∉ xs := fun hp hne hm => by
      obtain ⟨k, hk, e⟩ := List.mem_iff_getElem.1 hm
      rcases Nat.lt_trichotomy k i with h1 | h1 | h1
      · have := (hs hp).1 k hk h1; omega
      · subst h1; exact hne hk e
      · have h2 := List.pairwise_iff_getElem.1 hp i k (by omega) hk h1
        have h3 := (hs hp).2 i (by omega) (Nat.le_refl _)
        omega
    by_cases hin : i < xs.length
    · simp only [dlt_t hin, brB_true]
      rw [← l1]
      refine rdE (τ := i64) hA hin ?_
      by_cases he : xs[i] = v
      · refine brT (by simpa using he) (hK _ _ ⟨⟨i, rfl, by omega⟩, fun _ => he ▸ List.getElem_mem hin, fun _ => ⟨fun _ => he ▸ List.getElem_mem hin, fun _ => rfl⟩, rfl⟩)
      · refine brF (by simpa using he) ?_
        refine rdE (τ := i64) hA hin ?_
        refine S_slices_isNaN_int (a0 := xs[i]) _ ?_
        unfold F_slices_isNaN_int
        refine brF (by simp) (hK _ _ ⟨⟨i, rfl, by omega⟩, fun e => (by cases e), fun hp => ⟨fun e => (by cases e), fun hm => absurd hm (no hp fun _ => he)⟩, rfl⟩)
    · simp only [dlt_f hin, brB_false]
      exact hK _ _ ⟨⟨i, rfl, hj⟩, fun e => (by cases e), fun hp => ⟨fun e => (by cases e), fun hm => absurd hm (no hp fun hi => absurd hi hin)⟩, rfl⟩
theorem groups1_c {x : tPr.T} {t : TypeId} (kb : Blk h b t [.int .i64 id]) : callT Tryz.prog fn_rat_groups_1 #[.agg (tPr.vals x).toArray, .pointer (some ⟨b, 0, none⟩)] .bool (fun r h' => r = ((show Int from x.1) == id) ∧ Ext [] h h') h := by
  refine callT_gen fun K hK => S_rat_groups_1 (a0 := x) (c0 := ⟨b, 0, none⟩) K ?_
  unfold F_rat_groups_1
  have st := Hs.start h [cl b t [.int .i64 id]] (by
    intro A hA
    simp only [List.mem_cons, List.not_mem_nil, or_false] at hA
    subst hA; exact ⟨[b], rfl, kb⟩)
  refine st.nw fun b0 h1 st => ?_
  simp only [List.nil_append] at st
  rw [st.ldi 0 0 rfl rfl, ld_int (i := 0) (st.fblk 0 rfl) rfl]
  exact hK _ _ ⟨rfl, st.frame (by simp)⟩
theorem containsG_c {fv : Value} {p : tPr.T → Bool} {xs : List tPr.T} (hA : At h (rsn 2 tPr.vals xs s)) (hl : xs.length ≤ 1099511627776) (hp : PredOkN Tryz.prog tPr fv p xs h) :
    callT Tryz.prog fn_slices_ContainsFunc_rat_Group_rat_Group #[.slice s.a s.len s.cap, fv] .bool (fun r h' => r = xs.any p ∧ Ext [] h h') h := by
  refine callT_gen fun K hK => S_slices_ContainsFunc_rat_Group_rat_Group (a0 := s) (a1 := fv) K ?_
  unfold F_slices_ContainsFunc_rat_Group_rat_Group
  refine call_of (R := fun r h' => r = fidx p xs ∧ Ext [] h h') (callT_gen fun K hK => S_slices_IndexFunc_rat_Group_rat_Group (a0 := s) (a1 := fv) K (w_indexFuncN (P := Tryz.prog) (τ := tPr) (n := 2) hA hl hp fun h' x => hK _ _ ⟨rfl, x⟩)) ?_
  rintro r h2 ⟨er, x⟩
  have er : r = fidx p xs := er
  subst er
  exact hK _ _ ⟨fidx_ge _ _, x⟩
theorem any_ids : ∀ {ps : List tPr.T} {gs : List Grp} (hl : ps.length = gs.length), (∀ i (h1 : i < gs.length) (h2 : i < ps.length), ps[i].1 = gs[i].1) → ps.any (fun x => (show Int from x.1) == id) = (gs.map (·.1)).contains id
  | [], [], _, _ => rfl
  | x :: ps, g :: gs, hl, h => by
    have h0 := h 0 (by simp) (by simp)
    simp only [List.getElem_cons_zero] at h0
    have ih := any_ids (ps := ps) (gs := gs) (by simpa using hl) fun i h1 h2 => h (i + 1) (Nat.succ_lt_succ h1) (Nat.succ_lt_succ h2)
    rw [List.any_cons, List.map_cons, List.contains_cons, ih, ← h0]
    congr 1
    rw [Bool.eq_iff_iff, beq_iff_eq, beq_iff_eq]
    exact ⟨fun e => e.symm, fun e => e.symm⟩
  | [], _ :: _, hl, _ => by simp at hl
  | _ :: _, [], hl, _ => by simp at hl
theorem cands_sorted (hE : rightE l = true) : (candIDs l p).Pairwise (· < ·) := by
  unfold candIDs
  exact List.pairwise_map.2 ((rightE_sorted hE).1.filter _)
theorem cands_len (hE : rightE l = true) : (candIDs l p).length ≤ l.length := by
  unfold candIDs
  rw [List.length_map]; exact List.length_filter_le _ _
set_option maxRecDepth 100000 in
theorem groups_c (hA : At h (ent l s)) (hB : At h (ent gs s2)) (hE : rightE l = true) (hp : rt p = true) (hg : gs.length ≤ 1099511627776) :
    callT Tryz.prog fn_rat_groups #[.slice s.a s.len s.cap, .int .i64 p, .slice s2.a s2.len s2.cap] (.tup (.cons (.int .i64) (.cons (.int .i64) .nil)))
      (fun r h' => r = ((groupsP l p gs).1, (groupsP l p gs).2, ()) ∧ Ext [] h h') h := by
  refine callT_gen fun K hK => S_rat_groups (a0 := s) (a1 := p) (a2 := s2) K ?_
  unfold F_rat_groups
  show (nw _ _ _) h
  have st := Hs.start h [ent l s, ent gs s2] (by simp [hA, hB])
  have hll := rightE_len hE
  have l2 := rsp_len hB
  refine st.nw fun b0 h1 st => ?_
  have st := st.freeze 0 rfl
  refine st.nw fun b1 h2 st => ?_
  have st := st.nil ty_int i64.enc none
  simp only [List.nil_append, List.cons_append, List.eraseIdx_cons_zero] at st
  rw [ld_sl (i := 0) (st.fblk 2 rfl) rfl]
  refine candidates_c (l := l) (s := s) st (by simp) fun c0 c1 h3 st => ?_
  simp only [List.cons_append, List.nil_append] at st
  refine Hs.range st (P := Tryz.prog) (τ := .cons i64 .nil) (cdNx (cdGo p l 0)) (cdFin (cdGo p l 0)) (cand_hit (s := s) st (by simp) hE hp) (fun _ _ _ _ => rfl)
    (fun pre Bs => ∃ so : Sl, Bs = [cl b1 ty_sl_int [.slice so.a so.len so.cap], osl ty_int i64.enc (cdIDs l pre) so]) (fun _ _ => False) ⟨⟨none, 0, 0⟩, rfl⟩ ?_ ?_ (fun _ _ hf => hf.elim) (fun i id K hi => by simp at hi)
  · rintro pre x Bs B hb ⟨r, hr⟩ ⟨so, rfl⟩ st next jump hnext hjump
    obtain ⟨j, hj, rfl, ej, _⟩ := cd_at hr
    have hlen := cdIDs_len hr
    have ex : cdIDs l (pre ++ [((j : Int), ())]) = cdIDs l pre ++ [l[j].1] := by unfold cdIDs; rw [List.map_append, List.map_singleton, ej]
    simp only
    rw [st.lds 0 0 rfl rfl, ld_sl (i := 0) (st.fblk 2 rfl) rfl]
    refine rdPri (st.fz 0 rfl) hj ?_
    refine st.nw fun b15 h6 st => ?_
    simp only [List.nil_append, List.cons_append] at st
    refine st.apd (v := l[j].1) 1 2 rfl rfl (by decide) rfl (by omega) (by decide) rfl fun s16 h7 st => ?_
    refine st.st1 0 0 rfl (by simp) fun h8 st => ?_
    simp only [List.set_cons_zero, List.set_cons_succ] at st
    refine hnext _ _ ⟨s16, ?_⟩ (st.drop 2 rfl)
    rw [ex]; rfl
  · rintro pre Bs h6 hfin ⟨so, rfl⟩ st
    have hfin : pre = cdGo p l 0 := hfin
    rw [hfin, cdIDs_all] at st
    have hW := cands_sorted (p := p) hE
    have hWl := cands_len (p := p) hE
    have g1 : ∀ id, (candIDs l p).find? (fun id => !(gs.map (·.1)).contains id) = some id → groupsP l p gs = (id, 92) := fun id e => by unfold groupsP; rw [e]
    have g2 : (candIDs l p).find? (fun id => !(gs.map (·.1)).contains id) = none → groupsP l p gs = scanG (candIDs l p) 0 gs := fun e => by unfold groupsP; rw [e]
    generalize groupsP l p gs = R at *
    generalize candIDs l p = W at *
    have st := (st.freeze 0 rfl).froz 0 rfl
    simp only [List.cons_append, List.nil_append, List.eraseIdx_cons_zero] at st
    rw [ld_sl (i := 0) (st.fblk 5 rfl) rfl]
    have lW := rsl_len (st.fz 6 rfl)
    have fin : ∀ {a e : Int} {h' : Heap} {As : List Asn}, Hs [([], h)] [ent l s, ent gs s2, cl b0 ty_sl_rat_Entry [.slice s.a s.len s.cap], cl c0 ty_sl_rat_Entry [.slice s.a s.len s.cap], cl c1 ty_lits_Lit [.int .i64 p], cl b1 ty_sl_int [.slice so.a so.len so.cap], li W so] As h' →
        R = (a, e) → (mkd h.size <| K (a, e, ())) h' := by
      intro a e h' As st he h7 hM
      exact hK _ _ ⟨by rw [he], (st.marked hM).frame (by simp)⟩
    refine lfp_invh (I := fun m σ h' => ∃ (i : Nat) (z1 z2 : Int), σ = ((i : Int), z1, z2, ()) ∧ i ≤ W.length ∧ (∀ j (hj : j < W.length), j < i → (gs.map (·.1)).contains W[j] = true) ∧
        Hs [([], h)] [ent l s, ent gs s2, cl b0 ty_sl_rat_Entry [.slice s.a s.len s.cap], cl c0 ty_sl_rat_Entry [.slice s.a s.len s.cap], cl c1 ty_lits_Lit [.int .i64 p], cl b1 ty_sl_int [.slice so.a so.len so.cap], li W so] [] h' ∧ m = W.length - i)
      ⟨_, 0, _, _, rfl, by omega, fun j _ hj => by omega, st, rfl⟩ ?_
    clear st
    rintro m σ h7 X ⟨i, z1, z2, rfl, hi, hin, st, rfl⟩ hX
    simp only
    by_cases hlt : i < W.length
    · refine brT (by rw [lW]; exact dlt_t hlt) ?_
      refine rdE (τ := i64) (st.fz 6 rfl) hlt ?_
      refine st.nw fun b19 h8 st => ?_
      refine st.st1 0 0 rfl (by simp) fun h9 st => ?_
      simp only [List.nil_append, List.set_cons_zero] at st
      obtain ⟨ps, lp, hps, hx⟩ := rsp_open (st.fz 1 rfl)
      refine call_of (containsG_c (p := fun x => (show Int from x.1) == W[i]) hps (by omega) fun x _ h' x' => callF_func (groups1_c ((st.blk 0 rfl).ext x' (by simp)))) ?_
      rintro _ h10 ⟨rfl, x10⟩
      have st := st.ext x10
      rw [any_ids lp fun i h1 h2 => (hx i h1 h2).1]
      cases hc : (gs.map (·.1)).contains W[i] with
      | false =>
        refine brT rfl ?_
        rw [st.ldi 0 0 rfl rfl]
        refine fin st (g1 _ ?_)
        have : W.find? (fun id => !(gs.map (·.1)).contains id) = some W[i] := by
          rw [List.find?_eq_some_iff_getElem]
          exact ⟨by rw [hc]; rfl, i, hlt, rfl, fun j hj => by rw [hin j (by omega) hj]; rfl⟩
        exact this
      | true =>
        refine brF rfl ?_
        rw [inc_i (by omega)]
        refine hX _ _ _ ⟨i + 1, z1, z2, rfl, by omega, fun j hj hji => ?_, st.drop 0 rfl, rfl⟩ (by omega)
        rcases Nat.lt_succ_iff_lt_or_eq.1 hji with q | rfl
        · exact hin j hj q
        · exact hc
    · refine brF (by rw [lW]; exact dlt_f hlt) ?_
      have hnone : W.find? (fun id => !(gs.map (·.1)).contains id) = none := by
        rw [List.find?_eq_none]
        intro x hx
        obtain ⟨j, hj, rfl⟩ := List.mem_iff_getElem.1 hx
        rw [hin j hj (by omega)]; simp
      have g2 := g2 hnone
      clear hX
      refine lfp_invh (I := fun m σ h' => ∃ (i : Nat) (last z1 z2 : Int), σ = ((i : Int), last, z1, z2, ()) ∧ i ≤ gs.length ∧ scanG W last (gs.drop i) = scanG W 0 gs ∧
          Hs [([], h)] [ent l s, ent gs s2, cl b0 ty_sl_rat_Entry [.slice s.a s.len s.cap], cl c0 ty_sl_rat_Entry [.slice s.a s.len s.cap], cl c1 ty_lits_Lit [.int .i64 p], cl b1 ty_sl_int [.slice so.a so.len so.cap], li W so] [] h' ∧ m = gs.length - i)
        ⟨_, 0, 0, _, _, rfl, by omega, rfl, st, rfl⟩ ?_
      clear st
      rintro m σ h8 X ⟨i, last, z1, z2, rfl, hi, hsc, st, rfl⟩ hX
      simp only
      by_cases hlt2 : i < gs.length
      · refine brT (by rw [l2]; exact dlt_t hlt2) ?_
        rw [List.drop_eq_getElem_cons hlt2] at hsc
        have hsc : (if gs[i].1 ∉ W ∨ gs[i].1 ≤ last then (gs[i].1, (92 : Int)) else scanG W gs[i].1 (gs.drop (i + 1))) = scanG W 0 gs := hsc
        refine rdPr (st.fz 1 rfl) hlt2 fun q hrow => ?_
        refine st.pr fun b26 h9 x9 st => ?_
        simp only [List.nil_append] at st
        rw [ld_sl (i := 0) (st.fblk 5 rfl) rfl, st.ldi 0 0 rfl rfl]
        refine call_of (bsearch_int (st.fz 6 rfl) (by omega) gs[i].1) ?_
        rintro ⟨r1, r2, ⟨⟩⟩ h10 ⟨_, _, hb, rfl⟩
        have hb := hb hW
        simp only at hb ⊢
        have bad : gs[i].1 ∉ W ∨ gs[i].1 ≤ last → (ldT (.int .i64) (⟨b26, 0, none⟩ : Addr) fun x32 => mkd h.size <| K (x32, (92 : Int), ())) h10 := by
          intro hbad
          rw [if_pos hbad] at hsc
          rw [st.ldi 0 0 rfl rfl]
          exact fin st (g2.trans hsc.symm)
        refine jn_in fun J hJ => ?_
        cases r2 with
        | false =>
          have : gs[i].1 ∉ W := fun q => by have := hb.2 q; cases this
          exact brT rfl (hJ _ _ (brT rfl (bad (.inl this))))
        | true =>
          refine brF rfl ?_
          rw [st.ldi 0 0 rfl rfl]
          refine hJ _ _ ?_
          by_cases hle : gs[i].1 ≤ last
          · exact brT (decide_eq_true hle) (bad (.inr hle))
          · refine brF (decide_eq_false hle) ?_
            rw [if_neg (fun q => q.elim (fun q => q (hb.1 rfl)) hle)] at hsc
            rw [st.ldi 0 0 rfl rfl, inc_i (by omega)]
            exact hX _ _ _ ⟨i + 1, _, z1, z2, rfl, by omega, hsc, st.drop 0 rfl, rfl⟩ (by omega)
      · refine brF (by rw [l2]; exact dlt_f hlt2) ?_
        rw [List.drop_eq_nil_of_le (by omega)] at hsc
        exact fin st (g2.trans hsc.symm)
end Go.Proofs.S
