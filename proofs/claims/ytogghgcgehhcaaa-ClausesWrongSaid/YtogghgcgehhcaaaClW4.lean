/-
  ClausesWithin: the walk.
-/
import Derived.Test.YtogghgcgehhcaaaClW3
set_option linter.unusedVariables false
set_option linter.unusedSimpArgs false
namespace Go.Proofs.S
open Go Go.Sx Go.Proofs Go.Cl

variable {h : Heap} {c d e : List Int} {s s2 s3 : Sl}

theorem wt {P : Program} {f : FuncId} {args : Array Value} {r0 : Bool} (hc : callT P f args .bool (fun r h' => r = r0 ∧ Ext [] h h') h) (e : r0 = true) : callT P f args .bool (fun r h' => r = true ∧ Ext [] h h') h := by rw [e] at hc; exact hc

set_option maxRecDepth 20000 in
theorem clausesWithin_F (hA : At h (lu c s)) (hB : At h (lu d s2)) (hC : At h (lu e s3)) (uc : U8 c) (ud : U8 d) (ue : U8 e)
    (K : Bool → HP) (hK : ∀ x h', (x = true ∧ Ext [] h h') → K x h') : F_salvorlaw02_ClausesWithin s s2 s3 K h := by
  unfold F_salvorlaw02_ClausesWithin
  refine call_of (made_c hA uc) ?_
  rintro r0 h1 ⟨n1, x1⟩
  refine call_of (made_c (hB.ext x1) ud) ?_
  rintro r1 h2 ⟨n2, x2⟩
  have x2' := x1.nil_trans x2
  refine call_of (made_c (hC.ext x2') ue) ?_
  rintro r2 h3 ⟨n3, x3⟩
  have ra := made_right uc
  have la := made_len c
  have rb := made_right ud
  have lb := made_len d
  have rc := made_right ue
  have ha := (n1.at.rsl.ext x2).ext x3
  have hb := n2.at.rsl.ext x3
  have hc := n3.at.rsl
  have xx := x2'.nil_trans x3
  clear hA hB hC x1 x2 x3 n1 n2 n3 x2'
  generalize madeP c = a at *
  generalize madeP d = b at *
  generalize madeP e = g at *
  have eu := union_eq ra rb (by omega)
  have rab := right_app ra rb (by omega)
  have ru := right_nrm rab
  have mu : ∀ x, x ∈ nrm (a ++ b) ↔ x ∈ a ∨ x ∈ b := fun x => by rw [mem_nrm rab, List.mem_append]
  refine call_of (union_c ha hb) ?_
  rintro _ h4 ⟨s4, rfl, n4, x4⟩
  rw [eu] at n4
  rw [eu]
  have hu := n4.at.rsl
  have ha := ha.ext x4
  have hb := hb.ext x4
  have hc := hc.ext x4
  have xx := xx.nil_trans x4
  clear x4 n4 eu
  generalize nrm (a ++ b) = u at *
  have w1 := @Go.Cl.within_iff a b ra rb
  refine call_of (within_c ha hb) ?_
  rintro _ h5 ⟨rfl, x5⟩
  (change brB false _ _ _; rw [brB_false])
  refine call_of (wt (within_c (ha.ext x5) (ha.ext x5)) ((Go.Cl.within_iff ra ra).2 fun x hx => hx)) ?_
  rintro _ h6 ⟨rfl, x6⟩
  have x6 := x5.nil_trans x6
  (change brB false _ _ _; rw [brB_false])
  refine call_of (wt (within_c (ha.ext x6) (hu.ext x6)) ((Go.Cl.within_iff ra ru).2 fun x hx => (mu x).2 (.inl hx))) ?_
  rintro _ h7 ⟨rfl, x7⟩
  have x7 := x6.nil_trans x7
  (change brB false _ _ _; rw [brB_false])
  refine call_of (wt (within_c (hb.ext x7) (hu.ext x7)) ((Go.Cl.within_iff rb ru).2 fun x hx => (mu x).2 (.inr hx))) ?_
  rintro _ h8 ⟨rfl, x8⟩
  have x8 := x7.nil_trans x8
  (change brB false _ _ _; rw [brB_false])
  refine br_sh (fun e4 tail => call_of (within_c (hb.ext x8) (hc.ext x8)) (by
    rintro _ h9 ⟨rfl, x9⟩
    have x9' := x8.nil_trans x9
    refine br_sh (fun e8 tail2 => call_of (wt (within_c (ha.ext x9') (hc.ext x9')) ((Go.Cl.within_iff ra rc).2 fun x hx => (Go.Cl.within_iff rb rc).1 e8 x (w1.1 e4 x hx))) (by
      rintro _ h10 ⟨rfl, x10⟩
      (change brB false _ _ _; rw [brB_false])
      exact tail _ (x9.nil_trans x10))) fun h10 x10 => tail h10 (x9.nil_trans x10))) fun h9 x9 => ?_
  have x9 := x8.nil_trans x9
  refine br_and (q0 := sameP a b) (within_c (hb.ext x9) (ha.ext x9)) (fun h' x => same_c ((ha.ext x9).ext x) ((hb.ext x9).ext x)) ?_ fun h10 x10 => ?_
  · rw [Bool.eq_iff_iff, Bool.and_eq_true, w1, Go.Cl.within_iff rb ra, same_iff ra rb]
    exact ⟨fun ⟨p, q⟩ x => ⟨p x, q x⟩, fun p => ⟨fun x => (p x).1, fun x => (p x).2⟩⟩
  have x10 := x9.nil_trans x10
  refine call_of (same_c (hu.ext x10) (hb.ext x10)) ?_
  rintro _ h11 ⟨rfl, x11⟩
  have x11 := x10.nil_trans x11
  have es : withinP a b = sameP u b := by
    rw [Bool.eq_iff_iff, w1, same_iff ru rb]
    constructor
    · intro p x; rw [mu]; exact ⟨fun q => q.elim (p x) id, .inr⟩
    · intro p x hx; exact (p x).1 ((mu x).2 (.inl hx))
  rw [show (!(withinP a b == sameP u b)) = false by rw [es]; simp, brB_false]
  refine call_of (within_c (ha.ext x11) (hc.ext x11)) ?_
  rintro _ h12 ⟨rfl, x12⟩
  have x12 := x11.nil_trans x12
  refine br_sh (fun e13 tail => call_of (within_c (hb.ext x12) (hc.ext x12)) (by
    rintro _ h13 ⟨rfl, x13⟩
    have x13' := x12.nil_trans x13
    refine br_sh (fun e14 tail2 => call_of (wt (within_c (hu.ext x13') (hc.ext x13')) ((Go.Cl.within_iff ru rc).2 fun x hx => ((mu x).1 hx).elim ((Go.Cl.within_iff ra rc).1 e13 x) ((Go.Cl.within_iff rb rc).1 e14 x))) (by
      rintro _ h14 ⟨rfl, x14⟩
      (change brB false _ _ _; rw [brB_false])
      exact tail _ (x13.nil_trans x14))) fun h14 x14 => tail h14 (x13.nil_trans x14))) fun h13 x13 => ?_
  have x13 := x12.nil_trans x13
  have xx := xx.nil_trans x13
  have ha := ha.ext x13
  have hb := hb.ext x13
  have hu := hu.ext x13
  clear hc x5 x6 x7 x8 x9 x10 x11 x12 x13
  refine lfp_invh (I := fun m σ h2 => ∃ i : Nat, σ = ((i : Int), false, ()) ∧ i ≤ 256 ∧ Ext [] h13 h2 ∧ m = 256 - i) ⟨_, 0, rfl, by omega, Ext.refl' _ _, rfl⟩ ?_
  rintro m σ h20 X ⟨i, rfl, hi, y0, em⟩ hX
  simp only
  by_cases hlt : i < 256
  · rw [show decide ((i : Int) < 256) = true from decide_eq_true (by omega), brB_true, inc_i (show i < 4611686018427387904 by omega), wrap_u8 (x := (i : Int)) (by omega) (by omega)]
    refine call_of (model_c hlt) ?_
    rintro s22 h22 ⟨n22, y1⟩
    have hm : At h22 (li (modelP i) s22) := n22.at.rsl
    have y1 := y0.nil_trans y1
    have lm := model_len i
    refine call_of (holds_c (ha.ext y1) hm (by omega)) ?_
    rintro _ h23 ⟨rfl, y2⟩
    have hm := hm.ext y2
    have y2 := y1.nil_trans y2
    refine call_of (holds_c (hb.ext y2) hm (by omega)) ?_
    rintro _ h24 ⟨rfl, y3⟩
    have hm := hm.ext y3
    have y3 := y2.nil_trans y3
    have eH : holdsP u (modelP i) = (holdsP a (modelP i) || holdsP b (modelP i)) := by
      rw [Bool.eq_iff_iff, Bool.or_eq_true, holds_iff ru, holds_iff ra, holds_iff rb]
      constructor
      · rintro ⟨y, hy, hym⟩
        rcases (mu y).1 hy with h | h
        · exact .inl ⟨y, h, hym⟩
        · exact .inr ⟨y, h, hym⟩
      · rintro (⟨y, hy, hym⟩ | ⟨y, hy, hym⟩)
        · exact ⟨y, (mu y).2 (.inl hy), hym⟩
        · exact ⟨y, (mu y).2 (.inr hy), hym⟩
    refine br_sh (fun e24 tail => br_sh (fun e25 tail2 => ?_) tail) fun h25 y4 => ?_
    · have : holdsP b (modelP i) = true := by
        obtain ⟨y, hy, hym⟩ := (holds_iff ra).1 e25
        exact (holds_iff rb).2 ⟨y, w1.1 e24 y hy, hym⟩
      rw [show (!holdsP b (modelP i)) = false by rw [this]; rfl, brB_false]
      exact tail _ (Ext.refl' _ _)
    · have hm := hm.ext y4
      have y4 := y3.nil_trans y4
      refine call_of (holds_c (hu.ext y4) hm (by omega)) ?_
      rintro _ h26 ⟨rfl, y5⟩
      have y5 := y4.nil_trans y5
      have nx := hX _ _ h26 ⟨i + 1, rfl, by omega, y5, rfl⟩ (by omega)
      rw [eH]
      cases holdsP a (modelP i) with
      | true => simp only [brB_true, Bool.true_or, beq_self_eq_true, Bool.not_true, brB_false]; exact nx
      | false => simp only [Bool.false_or, beq_self_eq_true, Bool.not_true, brB_false]; exact nx
  · rw [show decide ((i : Int) < 256) = false from decide_eq_false (by omega), brB_false]
    exact call_of awake_c fun r h' e => hK r h' ⟨e.1, (xx.nil_trans y0).nil_trans e.2⟩

end Go.Proofs.S
