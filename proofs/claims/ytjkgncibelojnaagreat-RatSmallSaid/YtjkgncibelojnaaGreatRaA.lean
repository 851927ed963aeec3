/-
  The package rat: Right, find, Find: contracts.
-/
import Derived.Test.YtjkgncibelojnaaGreatRuG
import Derived.Test.YtjkgncibelojnaaGreatRtQ
import Derived.Test.YtjkgncibelojnaaGreatRtS
set_option linter.unusedVariables false
set_option linter.unusedSimpArgs false
namespace Go.Proofs.S
open Go Go.Sx Go.Proofs Go.Cl Go.Rp Go.Rt
variable {h : Heap} {c d A : List Int} {l : List Ent} {s s2 : Sl} {fr : Fr} {G As : List Asn} {b : Nat} {id : Int}
abbrev ent (l : List (Int × List Int)) (s : Sl) : Asn := rsp (fun c p => li c p) l s
theorem nil_li : At h (li [] ⟨none, 0, 0⟩) := (osl_nil (t := 0) (enc := i64.enc) (a := none) 0 h).at.rsl
abbrev prC (b : Nat) (t : TypeId) (x : Int) (s : Sl) : Asn := cl b t [.int .i64 x, .slice s.a s.len s.cap]
theorem ratRight_c (hA : At h (ent l s)) (hl : l.length ≤ 1099511627776) : callT Tryz.prog fn_rat_Right #[.slice s.a s.len s.cap] .bool (fun r h' => r = rightE l ∧ Ext [] h h') h := by
  refine callT_gen fun K hK => S_rat_Right (a0 := s) K ?_
  unfold F_rat_Right
  have st := Hs.start h [ent l s] (by simp [hA])
  have ls := rsp_len hA
  refine lfp_invh (I := fun m σ h' => ∃ (i : Nat) (last : Int) (bb : Bool), σ = ((i : Int), last, bb, ()) ∧ i ≤ l.length ∧ rightGo last (l.drop i) = rightGo 0 l ∧ Hs [([], h)] [ent l s] [] h' ∧ m = l.length - i)
    ⟨_, 0, 0, _, rfl, by omega, rfl, st, rfl⟩ ?_
  clear st
  rintro m σ h1 X ⟨i, last, bb, rfl, hi, hg, st, rfl⟩ hX
  simp only
  by_cases hlt : i < l.length
  · refine brT (by rw [ls]; exact dlt_t hlt) ?_
    rw [List.drop_eq_getElem_cons hlt] at hg
    have hg : (decide (last < l[i].1) && decide (l[i].1 ≤ maxID) && rightC l[i].2 && rightGo l[i].1 (l.drop (i + 1))) = rightGo 0 l := hg
    refine rdPr (st.fz 0 rfl) hlt fun p hp => ?_
    refine st.pr fun b4 h2 x4 st => ?_
    simp only [List.nil_append] at st
    rw [st.ldi 0 0 rfl rfl]
    have no : (decide (last < l[i].1) && decide (l[i].1 ≤ maxID) && rightC l[i].2) = false → ∀ h', Ext [] h h' → K false h' := fun e h' x => hK _ _ ⟨by
      unfold rightE
      rw [← hg, e]; rfl, x⟩
    refine jn_in fun J hJ => ?_
    by_cases h0 : l[i].1 ≤ last
    · refine brT (decide_eq_true h0) (hJ _ _ ?_)
      clear J hJ
      exact jn_in fun J hJ => brT rfl (hJ _ _ (brT rfl (no (by rw [decide_eq_false (by omega)]; rfl) _ (st.frame (by simp)))))
    refine brF (decide_eq_false h0) ?_
    rw [st.ldi 0 0 rfl rfl]
    by_cases h3 : l[i].1 > 1073741824
    · rw [decide_eq_true h3]
      refine hJ _ _ ?_
      clear J hJ
      exact jn_in fun J hJ => brT rfl (hJ _ _ (brT rfl (no (by rw [show decide (l[i].1 ≤ maxID) = false from decide_eq_false (by unfold maxID; omega)]; simp) _ (st.frame (by simp)))))
    rw [decide_eq_false h3]
    refine hJ _ _ ?_
    clear J hJ
    refine jn_in fun J hJ => brF rfl ?_
    rw [addr_add, st.lds 0 1 rfl rfl]
    refine call_of (right_c (hp.ext x4)) ?_
    rintro _ h5 ⟨rfl, x5⟩
    have st := st.ext x5
    refine hJ _ _ ?_
    cases hr : rightC l[i].2 with
    | false => exact brT rfl (no (by rw [hr]; simp) _ (st.frame (by simp)))
    | true =>
      refine brF rfl ?_
      rw [st.ldi 0 0 rfl rfl, inc_i (by omega)]
      refine hX _ _ _ ⟨i + 1, _, bb, rfl, by omega, ?_, st.drop 0 rfl, rfl⟩ (by omega)
      rw [hr, decide_eq_true (show last < l[i].1 by omega), show decide (l[i].1 ≤ maxID) = true from decide_eq_true (by unfold maxID; omega)] at hg
      exact hg
  · refine brF (by rw [ls]; exact dlt_f hlt) ?_
    rw [List.drop_eq_nil_of_le (by omega)] at hg
    have hg : true = rightGo 0 l := hg
    refine hK _ _ ⟨?_, st.frame (by simp)⟩
    unfold rightE
    rw [← hg, Bool.true_and, ls]
    by_cases q : l.length ≤ 1048576
    · rw [decide_eq_true q, decide_eq_true (by omega)]
    · rw [decide_eq_false q, decide_eq_false (by omega)]
def cmpI (id y : Int) : Int := if y < id then -1 else if y > id then 1 else 0
theorem cmpI_neg {id y : Int} : cmpI id y < 0 ↔ y < id := by unfold cmpI; split <;> (try split) <;> omega
theorem cmpI_zero {id y : Int} : cmpI id y = 0 ↔ y = id := by unfold cmpI; split <;> (try split) <;> omega
def cmpID (id : Int) (x : tPr.T) : Int := cmpI id x.1
theorem find1_c {x : tPr.T} (h : Heap) : callT Tryz.prog fn_rat_find_1 #[.agg (tPr.vals x).toArray, .int .i64 id] (.int .i64) (fun r h' => r = cmpID id x ∧ Ext [] h h') h := by
  refine callT_gen fun K hK => S_rat_find_1 (a0 := x) (a1 := id) K ?_
  unfold F_rat_find_1
  have st := Hs.start h [] (by simp)
  refine st.nw fun b0 h1 st => ?_
  simp only [List.nil_append] at st
  rw [st.ldi 0 0 rfl rfl]
  have xf := st.frame (h0 := h) (by simp)
  by_cases h1 : x.1 < id
  · exact brT (decide_eq_true h1) (hK _ _ ⟨by unfold cmpID cmpI; rw [if_pos h1], xf⟩)
  refine brF (decide_eq_false h1) ?_
  rw [st.ldi 0 0 rfl rfl]
  by_cases h2 : x.1 > id
  · exact brT (decide_eq_true h2) (hK _ _ ⟨by unfold cmpID cmpI; rw [if_neg h1, if_pos h2], xf⟩)
  · exact brF (decide_eq_false h2) (hK _ _ ⟨by unfold cmpID cmpI; rw [if_neg h1, if_neg h2], xf⟩)
theorem rightE_mono (hE : rightE l = true) : ∀ i j (hj : j < l.length) (hij : i < j), (l[i]'(by omega)).1 < l[j].1 := fun i j hj hij =>
  List.pairwise_iff_getElem.1 (rightE_sorted hE).1 i j (by omega) hj hij
theorem bsEnt_c {fv : Value} {K : (Int × (Bool × Unit)) → HP} (hW : F_slices_BinarySearchFunc_rat_Entry_rat_Entry_int s id fv K h) : callT Tryz.prog fn_slices_BinarySearchFunc_rat_Entry_rat_Entry_int #[.slice s.a s.len s.cap, .int .i64 id, fv] (.tup (.cons (.int .i64) (.cons .bool .nil))) K h :=
  S_slices_BinarySearchFunc_rat_Entry_rat_Entry_int (a0 := s) (a1 := id) (a2 := fv) K hW
set_option maxRecDepth 100000 in
theorem find0_c (hA : At h (ent l s)) (hE : rightE l = true) (id : Int) : callT Tryz.prog fn_rat_find #[.slice s.a s.len s.cap, .int .i64 id] (.tup (.cons (.int .i64) (.cons .bool .nil)))
    (fun r h' => ((∃ i : Nat, ∃ hi : i < l.length, r = ((i : Int), true, ()) ∧ l[i].1 = id) ∨ (∃ i : Int, r = (i, false, ()) ∧ ∀ x ∈ l, x.1 ≠ id)) ∧ Ext [] h h') h := by
  refine callT_gen fun K hK => S_rat_find (a0 := s) (a1 := id) K ?_
  unfold F_rat_find
  obtain ⟨ps, lp, hp, hx⟩ := rsp_open hA
  have hll : l.length ≤ 1048576 := by
    unfold rightE at hE
    simp only [Bool.and_eq_true, decide_eq_true_eq] at hE
    exact hE.2
  have key : ∀ i (h1 : i < l.length) (h2 : i < ps.length), cmpID id ps[i] = cmpI id l[i].1 := fun i h1 h2 => by unfold cmpID; rw [(hx i h1 h2).1]
  refine call_of (R := fun r h' => ((∃ i : Nat, ∃ hi : i < l.length, r = ((i : Int), true, ()) ∧ l[i].1 = id) ∨ (∃ i : Int, r = (i, false, ()) ∧ ∀ x ∈ l, x.1 ≠ id)) ∧ Ext [] h h') ?_ ?_
  · refine callT_gen fun K hK => bsEnt_c ?_
    refine w_bsearchN (P := Tryz.prog) (τ := tPr) (σ2 := i64) (n := 2) (c := cmpID id) hp (by omega) (fun x _ h' _ => callF_func (find1_c h')) ?_ ?_
    · intro i j hj hij hc
      rw [key j (by omega) hj, cmpI_neg] at hc
      rw [key i (by omega) (by omega), cmpI_neg]
      have h1 := rightE_mono hE i j (by omega) hij
      omega
    · intro i bo h' x hi hlo hhi hb
      refine hK _ _ ⟨?_, x⟩
      cases bo with
      | true =>
        obtain ⟨h1, h2⟩ := hb.1 rfl
        rw [key i (by omega) h1, cmpI_zero] at h2
        exact .inl ⟨i, by omega, rfl, h2⟩
      | false =>
        refine .inr ⟨i, rfl, fun y hy e => ?_⟩
        obtain ⟨j, hj, rfl⟩ := List.mem_iff_getElem.1 hy
        rcases Nat.lt_trichotomy j i with q | q | q
        · have := hlo j (by omega) q
          rw [key j hj (by omega), cmpI_neg] at this
          omega
        · have := hb.2 ⟨by omega, by subst q; rw [key j hj (by omega), cmpI_zero]; exact e⟩
          cases this
        · have h1 := rightE_mono hE i j hj q
          have h2 := hhi i (by omega) (Nat.le_refl _)
          rw [key i (by omega) (by omega), cmpI_neg] at h2
          omega
  · rintro ⟨i, bo, ⟨⟩⟩ h2 hR
    exact hK _ _ hR
theorem lookE_at (hE : rightE l = true) {i : Nat} (hi : i < l.length) : lookE l l[i].1 = some l[i].2 := by
  have := uniq_of_right hE i hi
  rw [List.getD_eq_getElem?_getD, List.getElem?_eq_getElem hi] at this
  exact this
theorem lookE_no (h : ∀ x ∈ l, x.1 ≠ id) : lookE l id = none := by
  unfold lookE
  rw [Option.map_eq_none_iff, List.find?_eq_none]
  intro x hx
  simpa using h x hx
def findA (l : List Ent) (id : Int) : Int × Bool × Int := if rightE l then (match findE l id with | some i => ((i : Int), true, 0) | none => (0, false, 0)) else (0, false, 90)
theorem findE_at (hE : rightE l = true) {i : Nat} (hi : i < l.length) : findE l l[i].1 = some i := by
  unfold findE
  refine List.findIdx?_eq_some_iff_getElem.2 ⟨hi, by simp, fun j hj => ?_⟩
  have := rightE_mono hE j i hi hj
  have h2 : ¬ (l[j]'(by omega)).1 = l[i].1 := by omega
  simpa using h2
theorem findE_no (h : ∀ x ∈ l, x.1 ≠ id) : findE l id = none := by
  unfold findE
  rw [List.findIdx?_eq_none_iff]
  intro x hx
  simpa using h x hx
theorem ratFind_c (hA : At h (ent l s)) (hl : l.length ≤ 1099511627776) (id : Int) : callT Tryz.prog fn_rat_Find #[.slice s.a s.len s.cap, .int .i64 id] (.tup (.cons (.int .i64) (.cons .bool (.cons (.int .i64) .nil))))
    (fun r h' => r = ((findA l id).1, (findA l id).2.1, (findA l id).2.2, ()) ∧ Ext [] h h') h := by
  refine callT_gen fun K hK => S_rat_Find (a0 := s) (a1 := id) K ?_
  unfold F_rat_Find
  refine call_of (ratRight_c hA hl) ?_
  rintro _ h2 ⟨rfl, x2⟩
  unfold findA at hK
  cases hE : rightE l with
  | false =>
    rw [if_neg (by simp [hE])] at hK
    exact brT rfl (hK _ _ ⟨rfl, x2⟩)
  | true =>
    rw [if_pos hE] at hK
    refine brF rfl ?_
    refine call_of (find0_c (hA.ext x2) hE id) ?_
    rintro _ h3 ⟨⟨i, hi, rfl, rfl⟩ | ⟨i, rfl, hno⟩, x3⟩
    · rw [findE_at hE hi] at hK
      exact jn_in fun J hJ => brF rfl (hJ _ _ (hK _ _ ⟨rfl, x2.nil_trans x3⟩))
    · rw [findE_no hno] at hK
      exact jn_in fun J hJ => brT rfl (hJ _ _ (hK _ _ ⟨rfl, x2.nil_trans x3⟩))
end Go.Proofs.S
namespace Go.Proofs.S
open Go Go.Sx Go.Proofs Go.Cl Go.Rp Go.Rt
variable {h : Heap} {c d A ids : List Int} {l : List Ent} {s s2 s3 : Sl} {fr : Fr} {G As : List Asn} {b : Nat} {id p : Int}
theorem clip_c (hA : At h (li c s)) : callT Tryz.prog fn_slices_Clip_lits_Lit_lits_Lit #[.slice s.a s.len s.cap] .sl (fun s' h' => At h' (li c s') ∧ s'.cap = s'.len ∧ h' = h) h := by
  refine callT_gen fun K hK => S_slices_Clip_lits_Lit_lits_Lit (a0 := s) K ?_
  unfold F_slices_Clip_lits_Lit_lits_Lit
  have hcap := rsl_cap hA
  have hl := rsl_len hA
  refine ⟨by omega, by show (s.len : Int) ≤ (s.cap : Int); omega, by omega, by omega, by omega, by omega, hK _ _ ⟨?_, rfl, rfl⟩⟩
  obtain ⟨S, e, ec, k⟩ := hA
  refine ⟨S, by simpa using hl, Nat.le_refl _, ?_⟩
  rcases k with ⟨e1, e2⟩ | ⟨a, ea, k⟩
  · exact .inl ⟨e1, e2⟩
  · refine .inr ⟨a, ?_, k⟩
    simp only [Int.toNat_zero, Nat.zero_mul]
    split
    · exact ea
    · rw [ea, Option.map_some]; congr 1
abbrev negR (c : List Int) : List Int := c.map fun x => -x
theorem rest_c (hA : At h (li d s)) (hB : At h (li A s2)) (hr : ∀ x ∈ d, rt x = true) (hp : rt p = true) (hl : d.length ≤ 1099511627776) (hl2 : A.length ≤ 1099511627776) :
    callT Tryz.prog fn_rat_rest #[.slice s.a s.len s.cap, .int .i64 p, .slice s2.a s2.len s2.cap] (.tup (.cons .sl (.cons .bool .nil)))
      (fun r h' => ∃ s', r = (s', (restP p A d).2, ()) ∧ New h.size h' (lo (restP p A d).1 s') ∧ Ext [] h h') h := by
  refine callT_gen fun K hK => S_rat_rest (a0 := s) (a1 := p) (a2 := s2) K ?_
  unfold F_rat_rest
  have st := Hs.start h [li d s, li A s2] (by simp [hA, hB])
  have ld := rsl_len hA
  have st := st.nil ty_lits_Lit i64.enc none
  simp only [List.nil_append] at st
  refine lfp_invh (I := fun m σ h' => ∃ (i : Nat) (so zs : Sl) (zb : Bool), σ = ((i : Int), so, zb, zs, ()) ∧ i ≤ d.length ∧ (∀ x ∈ d.take i, x ≠ -p → A.contains x = false) ∧ Hs [([], h)] [li d s, li A s2] [lo (negR ((d.take i).filter fun x => decide (x ≠ -p))) so] h' ∧ m = d.length - i)
    ⟨_, 0, _, _, _, rfl, by omega, by simp, st, rfl⟩ ?_
  clear st
  rintro m σ h1 X ⟨i, so, zs, zb, rfl, hi, hno, st, rfl⟩ hX
  simp only
  by_cases hlt : i < d.length
  · refine brT (by rw [ld]; exact dlt_t hlt) ?_
    have hrx := hr _ (List.getElem_mem hlt)
    have et : d.take (i + 1) = d.take i ++ [d[i]] := by simp
    have hlf : ((d.take i).filter fun x => decide (x ≠ -p)).length ≤ i := by
      have := List.length_filter_le (fun x => decide (x ≠ -p)) (d.take i)
      rw [List.length_take] at this; omega
    refine jn_in fun J hJ => ?_
    refine rdE (τ := i64) (st.fz 0 rfl) hlt ?_
    refine call_of (lits_Neg_c p) ?_
    rintro _ h2 ⟨rfl, e⟩; subst e
    rw [negL_rt hp]
    by_cases hx : d[i] = -p
    · refine brT (by simpa using hx) (hJ _ _ ?_)
      simp only
      rw [inc_i (by omega)]
      refine hX _ _ _ ⟨i + 1, so, zs, zb, rfl, by omega, fun x hxm hne => ?_, ?_, rfl⟩ (by omega)
      · rw [et] at hxm
        rcases List.mem_append.1 hxm with k | k
        · exact hno x k hne
        · simp at k; exact absurd (k.trans hx) hne
      · rw [et, List.filter_append]
        have : ([d[i]].filter fun x => decide (x ≠ -p)) = [] := by simp [hx]
        rw [this, List.append_nil]; exact st
    · refine brF (by simpa using hx) ?_
      refine call_of (contains_lit (st.fz 1 rfl) hl2 _) ?_
      rintro _ h3 ⟨rfl, e⟩; subst e
      cases hc : A.contains d[i] with
      | true =>
        have e : restP p A d = ([], false) := by
          unfold restP
          rw [if_pos (List.any_eq_true.2 ⟨d[i], List.getElem_mem hlt, by rw [decide_eq_true hx, hc]; rfl⟩)]
        rw [e] at hK
        exact brT rfl (hK _ _ ⟨⟨none, 0, 0⟩, rfl, osl_nil _ _, st.frame (by simp)⟩)
      | false =>
        refine brF rfl ?_
        refine call_of (lits_Neg_c _) ?_
        rintro _ h4 ⟨rfl, e⟩; subst e
        rw [negL_rt hrx]
        refine st.nw fun b9 h5 st => ?_
        simp only [List.cons_append, List.nil_append] at st
        refine st.apd (v := -d[i]) 0 1 rfl rfl (by decide) rfl (by simp only [List.length_map]; omega) (by decide) rfl fun s10 h6 st => ?_
        simp only [List.set_cons_zero, List.set_cons_succ] at st
        have st := st.drop 1 rfl
        refine hJ _ _ ?_
        simp only
        rw [inc_i (by omega)]
        refine hX _ _ _ ⟨i + 1, s10, zs, zb, rfl, by omega, fun x hxm hne => ?_, ?_, rfl⟩ (by omega)
        · rw [et] at hxm
          rcases List.mem_append.1 hxm with k | k
          · exact hno x k hne
          · simp at k; rw [k]; exact hc
        · rw [et, List.filter_append]
          have : ([d[i]].filter fun x => decide (x ≠ -p)) = [d[i]] := by simp [hx]
          rw [this]; simp only [negR, List.map_append, List.map_cons, List.map_nil]; exact st
  · refine brF (by rw [ld]; exact dlt_f hlt) ?_
    rw [List.take_of_length_le (by omega)] at st hno
    have e : restP p A d = (negR (d.filter fun x => decide (x ≠ -p)), true) := by
      unfold restP
      rw [if_neg]
      rw [Bool.not_eq_true, List.any_eq_false]
      intro x hx q
      simp only [Bool.and_eq_true, decide_eq_true_eq] at q
      rw [hno x hx q.1] at q; cases q.2
    rw [e] at hK
    exact hK _ _ ⟨so, rfl, st.res (by simp) 0 rfl, st.frame (by simp)⟩
theorem lookF_ok (ho : okA A = true) (hr : rightC d = true) : Go.Proofs.S.lookF A d = ((lookP A d).1, (lookP A d).2, 0) := by unfold Go.Proofs.S.lookF; rw [hr, ho]; rfl
theorem rightE_lits (hE : rightE l = true) : ∀ x ∈ l, rightC x.2 = true := rightE_rt hE
theorem rightE_len (hE : rightE l = true) : l.length ≤ 1048576 := by
  unfold rightE at hE
  simp only [Bool.and_eq_true, decide_eq_true_eq] at hE
  exact hE.2
theorem ratFollow_c (hA : At h (ent l s)) (hE : rightE l = true) (hB : At h (li A s2)) (hC : At h (li ids s3)) (ho : okA A = true) (hAl : A.length + ids.length ≤ 1048576) :
    callT Tryz.prog fn_rat_follow #[.slice s.a s.len s.cap, .slice s2.a s2.len s2.cap, .slice s3.a s3.len s3.cap] (.tup (.cons .sl (.cons .bool (.cons (.int .i64) (.cons (.int .i64) .nil)))))
      (fun r h' => ∃ s', r = (s', (followR l A ids).2.1, (followR l A ids).2.2.1, (followR l A ids).2.2.2, ()) ∧ At h' (li (followR l A ids).1 s') ∧ Ext [] h h') h := by
  refine callT_gen fun K hK => S_rat_follow (a0 := s) (a1 := s2) (a2 := s3) K ?_
  unfold F_rat_follow
  have l3 := rsl_len hC
  have st := Hs.start h [ent l s, li ids s3] (by simp [hA, hC])
  refine lfp_invh (I := fun m σ h' => ∃ (i : Nat) (B : List Int) (sB z5 : Sl) (z2 z3 : Int) (z4 : Bool), σ = ((i : Int), z2, z3, z4, z5, sB, ()) ∧ i ≤ ids.length ∧ followR l B (ids.drop i) = followR l A ids ∧ okA B = true ∧ B.length ≤ A.length + i ∧ At h' (li B sB) ∧ Hs [([], h)] [ent l s, li ids s3] [] h' ∧ m = ids.length - i)
    ⟨_, 0, A, s2, _, _, _, _, rfl, by omega, rfl, ho, by omega, hB, st, rfl⟩ ?_
  clear st
  rintro m σ h1 X ⟨i, B, sB, z5, z2, z3, z4, rfl, hi, hf, hoB, hBl, hBA, st, rfl⟩ hX
  simp only
  by_cases hlt : i < ids.length
  · refine brT (by rw [l3]; exact dlt_t hlt) ?_
    rw [List.drop_eq_getElem_cons hlt] at hf
    rw [followR] at hf
    refine rdE (τ := i64) (st.fz 1 rfl) hlt ?_
    refine call_of (find0_c (st.fz 0 rfl) hE ids[i]) ?_
    rintro _ h2 ⟨⟨k, hk, rfl, e⟩ | ⟨k, rfl, hno⟩, x2⟩
    · rw [← e, lookE_at hE hk] at hf
      have st := st.ext x2
      have hBA := hBA.ext x2
      refine brF rfl ?_
      refine rdPrs (st.fz 0 rfl) hk fun q hq => ?_
      have hrc := rightE_lits hE _ (List.getElem_mem hk)
      refine call_of (Look_c hq hBA (by have := rightC_len hrc; omega) (by omega)) ?_
      rw [lookF_ok hoB hrc]
      rintro _ h3 ⟨rfl, x3⟩
      have st := st.ext x3
      have hBA := hBA.ext x3
      have xf := st.frame (h0 := h) (by simp)
      simp only at hf ⊢
      by_cases h2 : (lookP B l[k].2).1 = 2
      · rw [if_pos h2] at hf
        rw [← hf] at hK
        exact brT (by simpa using h2) (hK _ _ ⟨sB, rfl, hBA, xf⟩)
      rw [if_neg h2] at hf
      refine brF (by simpa using h2) ?_
      by_cases h3 : (lookP B l[k].2).1 = 3
      · rw [if_pos h3] at hf
        have hu := look_unit' h3
        refine brT (by simpa using h3) ?_
        refine call_of (clip_c hBA) ?_
        rintro s8 _ ⟨h8, hfull, rfl⟩
        refine st.nwX fun b9 h5 x5 st2 => ?_
        simp only [List.nil_append] at st2
        refine Hs.apdF (τ := i64) (xs := B) (v := (lookP B l[k].2).2) st2 0 (h8.ext x5) hfull rfl (by omega) (by decide) rfl fun s10 h6 st3 => ?_
        simp only [List.cons_append, List.nil_append] at st3
        rw [inc_i (by omega)]
        exact hX _ _ _ ⟨i + 1, B ++ [(lookP B l[k].2).2], s10, z5, z2, z3, z4, rfl, by omega, hf, okA_snoc hoB (rightC_rt hrc _ hu.2.1) hu.2.2.1, by simp; omega, (st3.own 1 rfl).rsl, (st3.drop 1 rfl).drop 0 rfl, rfl⟩ (by omega)
      · rw [if_neg h3] at hf
        rw [← hf, e] at hK
        exact brF (by simpa using h3) (hK _ _ ⟨⟨none, 0, 0⟩, rfl, nil_li, xf⟩)
    · rw [lookE_no hno] at hf
      rw [← hf] at hK
      exact brT rfl (hK _ _ ⟨⟨none, 0, 0⟩, rfl, nil_li, x2 |> (st.frame (h0 := h) (by simp)).nil_trans⟩)
  · refine brF (by rw [l3]; exact dlt_f hlt) ?_
    rw [List.drop_eq_nil_of_le (by omega)] at hf
    rw [followR] at hf
    rw [← hf] at hK
    exact hK _ _ ⟨sB, rfl, hBA, st.frame (by simp)⟩
end Go.Proofs.S
