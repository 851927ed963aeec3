/-
  ClausesFollow, ClausesWithin: the walks.
-/
import Derived.Test.YtogghgcgehhcaaaClW2
set_option linter.unusedVariables false
set_option linter.unusedSimpArgs false
namespace Go.Proofs.S
open Go Go.Sx Go.Proofs Go.Cl

variable {h : Heap} {c d e : List Int} {s s2 s3 : Sl} {fr : Fr} {G As : List Asn}

/-! ### two roads that meet -/

theorem br_sh {b : Bool} {A T : HP} (hA : b = true → (∀ h', Ext [] h h' → T h') → A h) (hT : ∀ h', Ext [] h h' → T h') : brB b A T h := by
  cases b with
  | false => rw [brB_false]; exact hT h (Ext.refl' _ _)
  | true => rw [brB_true]; exact hA rfl hT
/-- b && !f() -/
theorem br_opt {b : Bool} {P : Program} {f : FuncId} {args : Array Value} {F T : HP} (ht : b = true → callT P f args .bool (fun r h' => r = true ∧ Ext [] h h') h) (hT : ∀ h', Ext [] h h' → T h') :
    brB b (callT P f args .bool fun r => brB (!r) F T) T h :=
  br_sh (fun e tail => call_of (ht e) (by rintro _ h' ⟨rfl, x⟩; simp only [Bool.not_true, brB_false]; exact tail h' x)) hT
/-- v == (f() || g()) -/
theorem br_or {v r0 q0 : Bool} {P : Program} {f g : FuncId} {a1 a2 : Array Value} {F T : HP} (hf : callT P f a1 .bool (fun r h' => r = r0 ∧ Ext [] h h') h)
    (hg : ∀ h', Ext [] h h' → callT P g a2 .bool (fun r h2 => r = q0 ∧ Ext [] h' h2) h') (hv : v = (r0 || q0)) (hT : ∀ h', Ext [] h h' → T h') :
    callT P f a1 .bool (fun r => brB r (brB (!(v == true)) F T) (callT P g a2 .bool fun q => brB (!(v == q)) F T)) h := by
  refine call_of hf ?_
  rintro r h1 ⟨e1, x1⟩
  rw [e1]
  cases r0 with
  | true =>
    have e : v = true := by rw [hv]; rfl
    rw [e, brB_true]; simp only [beq_self_eq_true, Bool.not_true, brB_false]; exact hT _ x1
  | false =>
    rw [brB_false]
    refine call_of (hg h1 x1) ?_
    rintro r2 h2 ⟨e2, x2⟩
    rw [e2]
    have e : v = q0 := by rw [hv]; cases q0 <;> rfl
    rw [e]; simp only [beq_self_eq_true, Bool.not_true, brB_false]; exact hT _ (x1.nil_trans x2)
/-- (b && f()) == g() -/
theorem br_and {b r0 q0 : Bool} {P : Program} {f g : FuncId} {a1 a2 : Array Value} {F T : HP} (hf : callT P f a1 .bool (fun r h' => r = r0 ∧ Ext [] h h') h)
    (hg : ∀ h', Ext [] h h' → callT P g a2 .bool (fun r h2 => r = q0 ∧ Ext [] h' h2) h') (hv : (b && r0) = q0) (hT : ∀ h', Ext [] h h' → T h') :
    brB b (callT P f a1 .bool fun r => callT P g a2 .bool fun q => brB (!(r == q)) F T) (callT P g a2 .bool fun q => brB (!(false == q)) F T) h := by
  cases b with
  | true =>
    rw [brB_true]
    refine call_of hf ?_
    rintro r1 h1 ⟨e1, x1⟩
    refine call_of (hg h1 x1) ?_
    rintro r2 h2 ⟨e2, x2⟩
    rw [e1, e2]
    have e : r0 = q0 := by rw [← hv]; rfl
    rw [e]; simp only [beq_self_eq_true, Bool.not_true, brB_false]; exact hT _ (x1.nil_trans x2)
  | false =>
    rw [brB_false]
    refine call_of (hg h (Ext.refl' _ _)) ?_
    rintro r2 h2 ⟨e2, x2⟩
    rw [e2]
    have e : q0 = false := by rw [← hv]; rfl
    rw [e]; simp only [beq_self_eq_true, Bool.not_true, brB_false]; exact hT _ x2

/-! ### models -/

theorem mem_model {b : Nat} {x : Int} : x ∈ modelP b ↔ ∃ v, v < 8 ∧ mlit b v = x := by unfold modelP; simp
theorem model_len (b : Nat) : (modelP b).length = 8 := by unfold modelP; simp
theorem mlit_abs (b v : Nat) : mlit b v = (v : Int) + 1 ∨ mlit b v = -((v : Int) + 1) := by unfold mlit; split <;> simp
/-- A model has no literal with its negation. -/
theorem model_cons {b : Nat} {x : Int} (h1 : x ∈ modelP b) (h2 : -x ∈ modelP b) : False := by
  obtain ⟨v, _, rfl⟩ := mem_model.1 h1
  obtain ⟨w, _, e⟩ := mem_model.1 h2
  have a1 := mlit_abs b v
  have a2 := mlit_abs b w
  have : w = v := by omega
  subst this
  omega

/-! ### ClausesFollow -/

section follow
variable {a b : List Int} {x : Int}

theorem mem_resolve (ra : rightC a = true) (rb : rightC b = true) (rx : rt x = true) (hl : a.length + b.length ≤ 4096) (ha : x ∈ a) (hb : -x ∈ b) :
    resolveP a b x = (nrm ((withoutP a x).1 ++ (withoutP b (-x)).1), 0) ∧ rightC (nrm ((withoutP a x).1 ++ (withoutP b (-x)).1)) = true ∧
      ∀ y, y ∈ nrm ((withoutP a x).1 ++ (withoutP b (-x)).1) ↔ (y ∈ a ∧ y ≠ x) ∨ (y ∈ b ∧ y ≠ -x) := by
  have h1 := right_without ra x
  have h2 := right_without rb (-x)
  have l1 := withoutP_len a x
  have l2 := withoutP_len b (-x)
  have h3 := right_app h1 h2 (by omega)
  refine ⟨?_, right_nrm h3, fun y => ?_⟩
  · unfold resolveP
    rw [ra, rb, rx, show a.contains x = true by simpa using ha, show b.contains (-x) = true by simpa using hb]
    simp only [Bool.and_self, if_true]
    exact union_eq h1 h2 (by omega)
  · rw [mem_nrm h3, List.mem_append, mem_without ra rx, mem_without rb (rt_neg rx)]

set_option maxRecDepth 20000 in
theorem clausesFollow_F {k : Int} (hA : At h (lu c s)) (hB : At h (lu d s2)) (uc : U8 c) (ud : U8 d) (k0 : 0 ≤ k) (k1 : k ≤ 255)
    (K : Bool → HP) (hK : ∀ x h', (x = true ∧ Ext [] h h') → K x h') : F_salvorlaw02_ClausesFollow s s2 k K h := by
  unfold F_salvorlaw02_ClausesFollow
  have uk : U8 [k] := by intro n hn; simp at hn; subst hn; exact ⟨k0, k1⟩
  have rx : rt (litOf k) = true := rt_iff.2 (by have := litOf_range k0; omega)
  have st := Hs.start h [lu c s, lu d s2] (by simp [hA, hB])
  refine st.nw fun b1 h2 st => ?_
  have st := st.asSl 0 (Ty.int .u8).enc [k] rfl rfl
  try simp only [List.nil_append, List.cons_append, List.set_cons_zero, List.set_cons_succ, List.eraseIdx_cons_zero, List.eraseIdx_cons_succ, List.length_cons, List.length_nil, Nat.zero_add, Nat.reduceAdd] at st
  refine call_of (made_c (c := [k]) (st.own 0 rfl).rsl uk) ?_
  rintro r1 h3 ⟨n3, x3⟩
  have st := st.new x3 n3
  try simp only [List.nil_append, List.cons_append, List.set_cons_zero, List.set_cons_succ, List.eraseIdx_cons_zero, List.eraseIdx_cons_succ, List.length_cons, List.length_nil, Nat.zero_add, Nat.reduceAdd] at st
  rw [made_one] at st
  refine rdE (τ := i64) (i := 0) (xs := [litOf k]) (st.own 1 rfl).rsl (by simp) ?_
  simp only [List.getElem_cons_zero, wneg rx]
  refine call_of (made_c (st.fz 0 rfl) uc) ?_
  rintro r4 h4 ⟨n4, x4⟩
  have st := st.new x4 n4
  refine st.nw fun b5 h5 st => ?_
  try simp only [List.nil_append, List.cons_append, List.set_cons_zero, List.set_cons_succ, List.eraseIdx_cons_zero, List.eraseIdx_cons_succ, List.length_cons, List.length_nil, Nat.zero_add, Nat.reduceAdd] at st
  have ra0 := made_right uc
  have la0 := made_len c
  have rb0 := made_right ud
  have lb0 := made_len d
  refine st.apd (enc := i64.enc) (v := litOf k) 2 3 rfl rfl (by decide) rfl (by omega) (by decide) rfl fun s6 h6 st => ?_
  refine call_of (made_c (st.fz 1 rfl) ud) ?_
  rintro r7 h7 ⟨n7, x7⟩
  have st := st.new x7 n7
  refine st.nw fun b8 h8 st => ?_
  try simp only [List.nil_append, List.cons_append, List.set_cons_zero, List.set_cons_succ, List.eraseIdx_cons_zero, List.eraseIdx_cons_succ, List.length_cons, List.length_nil, Nat.zero_add, Nat.reduceAdd] at st
  refine st.apd (enc := i64.enc) (v := -litOf k) 4 5 rfl rfl (by decide) rfl (by omega) (by decide) rfl fun s9 h9 st => ?_
  try simp only [List.nil_append, List.cons_append, List.set_cons_zero, List.set_cons_succ, List.eraseIdx_cons_zero, List.eraseIdx_cons_succ, List.length_cons, List.length_nil, Nat.zero_add, Nat.reduceAdd] at st
  have r1x := right_one rx
  have r1n := right_one (rt_neg rx)
  have ra := right_app ra0 r1x (by simp; omega)
  have rb := right_app rb0 r1n (by simp; omega)
  have la : (madeP c ++ [litOf k]).length ≤ 21 := by simp; omega
  have lb : (madeP d ++ [-litOf k]).length ≤ 21 := by simp; omega
  have xa : litOf k ∈ madeP c ++ [litOf k] := by simp
  have xb : -litOf k ∈ madeP d ++ [-litOf k] := by simp
  generalize madeP c ++ [litOf k] = a at *
  generalize madeP d ++ [-litOf k] = b at *
  generalize litOf k = x at *
  obtain ⟨er, rr, mr⟩ := mem_resolve ra rb rx (by omega) xa xb
  have ec : clashesP a b = ((nrm a).filter (fun l => b.contains (-l)), 0) := by unfold clashesP; rw [ra, rb]; rfl
  have ep : (withoutP a x).2 = 0 := by rw [without_eq ra rx]
  have eq : (withoutP b (-x)).2 = 0 := by rw [without_eq rb (rt_neg rx)]
  have rp := right_without ra x
  have rq := right_without rb (-x)
  refine call_of (resolve_c (st.own 2 rfl).rsl (st.own 4 rfl).rsl x) ?_
  rintro _ h10 ⟨s10, rfl, n10, x10⟩
  have st := st.new x10 n10
  refine call_of (clashes_c (st.own 2 rfl).rsl (st.own 4 rfl).rsl) ?_
  rintro _ h11 ⟨s11, rfl, n11, x11⟩
  have st := st.new x11 n11
  try simp only [List.nil_append, List.cons_append, List.set_cons_zero, List.set_cons_succ, List.eraseIdx_cons_zero, List.eraseIdx_cons_succ, List.length_cons, List.length_nil, Nat.zero_add, Nat.reduceAdd] at st
  rw [er, ec] at st
  rw [er, ec]
  (change brB false _ _ _; rw [brB_false])
  have xC : x ∈ (nrm a).filter (fun l => b.contains (-l)) := List.mem_filter.2 ⟨(mem_nrm ra).2 xa, by simpa using xb⟩
  have lC : ((nrm a).filter (fun l => b.contains (-l))).length ≤ 21 := Nat.le_trans (List.length_filter_le _ _) (Nat.le_trans (nrm_length a) la)
  have q11 : s11.len = ((nrm a).filter (fun l => b.contains (-l))).length := osl_len (st.own 7 rfl)
  have hne := List.length_pos_of_mem xC
  rw [show ((s11.len : Int) == 0) = false by simp; omega, brB_false]
  refine call_of (contains_lit (c := (nrm a).filter (fun l => b.contains (-l))) (st.own 7 rfl).rsl (by omega) x) ?_
  rintro _ hq ⟨rfl, rfl⟩
  rw [show ((nrm a).filter (fun l => b.contains (-l))).contains x = true by rw [List.contains_iff_mem]; exact xC]
  simp only [Bool.not_true, brB_false]
  have hR : At hq (li (nrm ((withoutP a x).1 ++ (withoutP b (-x)).1)) s10) := (st.own 6 rfl).rsl
  have ha : At hq (li a s6) := (st.own 2 rfl).rsl
  have hb : At hq (li b s9) := (st.own 4 rfl).rsl
  have xx := st.frame (h0 := h) (by simp)
  clear st
  generalize nrm ((withoutP a x).1 ++ (withoutP b (-x)).1) = R at *
  refine call_of (has_c hR x) ?_
  rintro _ h12 ⟨rfl, x12⟩
  refine br_opt (fun e13 => call_of (has_c (hb.ext x12) x) (by
    rintro _ h13 ⟨rfl, x13⟩
    refine ⟨(has_iff rb).2 ?_, x13⟩
    rcases (mr x).1 ((has_iff rr).1 e13) with h | h
    · exact absurd rfl h.2
    · exact h.1)) fun h13 x13 => ?_
  have x13 := x12.nil_trans x13
  refine call_of (has_c (hR.ext x13) (-x)) ?_
  rintro _ h14 ⟨rfl, x14⟩
  have x14 := x13.nil_trans x14
  refine br_opt (fun e15 => call_of (has_c (ha.ext x14) (-x)) (by
    rintro _ h15 ⟨rfl, x15⟩
    refine ⟨(has_iff ra).2 ?_, x15⟩
    rcases (mr (-x)).1 ((has_iff rr).1 e15) with h | h
    · exact h.1
    · exact absurd rfl h.2)) fun h15 x15 => ?_
  have x15 := x14.nil_trans x15
  refine br_opt (fun e17 => call_of (always_c (hR.ext x15)) (by
    rintro _ h16 ⟨rfl, x16⟩
    refine ⟨?_, x16⟩
    rw [rr, Bool.true_and, always_iff]
    have hlt : 1 < ((nrm a).filter (fun l => b.contains (-l))).length := by
      have := of_decide_eq_true e17; omega
    have hnd : ((nrm a).filter (fun l => b.contains (-l))).Nodup := Strict.nodup ((strict_nrm ra).filter _)
    obtain ⟨z, hz, hzx⟩ : ∃ z ∈ (nrm a).filter (fun l => b.contains (-l)), z ≠ x := by
      refine Classical.byContradiction fun hn => ?_
      have hall : ∀ z ∈ (nrm a).filter (fun l => b.contains (-l)), z = x := fun z hz => Classical.byContradiction fun hh => hn ⟨z, hz, hh⟩
      generalize (nrm a).filter (fun l => b.contains (-l)) = L at hall hnd hlt
      match L, hall, hnd, hlt with
      | y :: z :: L, hall, hnd, _ =>
        have h1 := hall y (by simp)
        have h2 := hall z (by simp)
        rw [List.nodup_cons] at hnd
        exact hnd.1 (by rw [h1, h2]; simp)
    obtain ⟨hz1, hz2⟩ := List.mem_filter.1 hz
    exact ⟨z, (mr z).2 (.inl ⟨(mem_nrm ra).1 hz1, hzx⟩), (mr (-z)).2 (.inr ⟨by simpa using hz2, by omega⟩)⟩)) fun h16 x16 => ?_
  have x16 := x15.nil_trans x16
  refine call_of (without_c (ha.ext x16) x) ?_
  rintro _ h18 ⟨s18, rfl, n18, x18⟩
  have x18' := x16.nil_trans x18
  refine call_of (without_c (hb.ext x18') (-x)) ?_
  rintro _ h19 ⟨s19, rfl, n19, x19⟩
  have x19' := x18'.nil_trans x19
  rw [ep, eq]
  (change brB false _ _ _; rw [brB_false])
  have hR := hR.ext x19'
  have ha := ha.ext x19'
  have hb := hb.ext x19'
  have hp : At h19 (li (withoutP a x).1 s18) := (n18.at.ext x19).rsl
  have hq : At h19 (li (withoutP b (-x)).1 s19) := n19.at.rsl
  have xx := xx.nil_trans x19'
  have eR : ∀ m, holdsP R m = (holdsP (withoutP a x).1 m || holdsP (withoutP b (-x)).1 m) := fun m => by
    rw [Bool.eq_iff_iff, Bool.or_eq_true, holds_iff rr, holds_iff rp, holds_iff rq]
    constructor
    · rintro ⟨y, hy, hm⟩
      rcases (mr y).1 hy with h | h
      · exact .inl ⟨y, (mem_without ra rx).2 h, hm⟩
      · exact .inr ⟨y, (mem_without rb (rt_neg rx)).2 h, hm⟩
    · rintro (⟨y, hy, hm⟩ | ⟨y, hy, hm⟩)
      · exact ⟨y, (mr y).2 (.inl ((mem_without ra rx).1 hy)), hm⟩
      · exact ⟨y, (mr y).2 (.inr ((mem_without rb (rt_neg rx)).1 hy)), hm⟩
  refine lfp_invh (I := fun m σ h2 => ∃ i : Nat, σ = ((i : Int), false, ()) ∧ i ≤ 256 ∧ Ext [] h19 h2 ∧ m = 256 - i) ⟨_, 0, rfl, by omega, Ext.refl' _ _, rfl⟩ ?_
  rintro m σ h20 X ⟨i, rfl, hi, y0, em⟩ hX
  simp only
  by_cases hlt : i < 256
  · rw [show decide ((i : Int) < 256) = true from decide_eq_true (by omega), brB_true, inc_i (show i < 4611686018427387904 by omega), wrap_u8 (x := (i : Int)) (by omega) (by omega)]
    refine call_of (model_c hlt) ?_
    rintro s22 h22 ⟨n22, y1⟩
    have hm : At h22 (li (modelP i) s22) := n22.at.rsl
    have y1 := y0.nil_trans y1
    have lm := model_len i
    refine call_of (holds_c (hR.ext y1) hm (by omega)) ?_
    rintro _ h23 ⟨rfl, y2⟩
    have hm := hm.ext y2
    have y2 := y1.nil_trans y2
    refine call_of (holds_c (ha.ext y2) hm (by omega)) ?_
    rintro _ h24 ⟨rfl, y3⟩
    have hm := hm.ext y3
    have y3 := y2.nil_trans y3
    refine br_sh (fun e24 tail => call_of (holds_c (hb.ext y3) hm (by omega)) (by
      rintro _ h25 ⟨rfl, y4⟩
      refine br_sh (fun e25 tail2 => ?_) fun h26 y5 => tail h26 (y4.nil_trans y5)
      have : holdsP R (modelP i) = true := by
        obtain ⟨y, hy, hym⟩ := (holds_iff ra).1 e24
        obtain ⟨z, hz, hzm⟩ := (holds_iff rb).1 e25
        refine (holds_iff rr).2 ?_
        by_cases eyx : y = x
        · refine ⟨z, (mr z).2 (.inr ⟨hz, fun ez => ?_⟩), hzm⟩
          subst eyx; subst ez
          exact model_cons hym hzm
        · exact ⟨y, (mr y).2 (.inl ⟨hy, eyx⟩), hym⟩
      rw [show (!holdsP R (modelP i)) = false by rw [this]; rfl, brB_false]
      exact tail _ y4)) fun h26 y4 => ?_
    have hm := hm.ext y4
    have y4 := y3.nil_trans y4
    refine br_or (q0 := holdsP (withoutP b (-x)).1 (modelP i)) (holds_c (hp.ext y4) hm (by omega)) (fun h27 y5 => holds_c ((hq.ext y4).ext y5) (hm.ext y5) (by omega)) (eR _) fun h28 y6 => ?_
    exact hX _ _ _ ⟨i + 1, rfl, by omega, y4.nil_trans y6, rfl⟩ (by omega)
  · rw [show decide ((i : Int) < 256) = false from decide_eq_false (by omega), brB_false]
    exact call_of awake_c fun r h' e => hK r h' ⟨e.1, (xx.nil_trans y0).nil_trans e.2⟩

end follow
end Go.Proofs.S
