/-
  The package rat: Join: contract.
-/
import Derived.Test.YtjkgncibelojnaaRaI
import Derived.Test.YtjkgncibelojnaaSxW2
import Derived.Test.YtjkgncibelojnaaRaE
import Derived.Test.YtjkgncibelojnaaSxCk
set_option linter.unusedVariables false
set_option linter.unusedSimpArgs false
namespace Go.Proofs.S
open Go Go.Sx Go.Proofs Go.Cl Go.Rp Go.Rt

variable {h : Heap} {c d A ids : List Int} {l : List Ent} {gs : List Grp} {s s2 sc : Sl} {fr : Fr} {G As : List Asn} {id p : Int} {i : Nat}

end Go.Proofs.S

set_option linter.unusedVariables false
set_option linter.unusedSimpArgs false
namespace Go.Sx
open Go
section
variable {P : Program} {h h' : Heap} {s s2 : Sl} {t : TypeId} {b : Nat}

theorem ldPre {τ : Ty} {x : τ.T} {c rest : List Value} {K : τ.T → HP} (hb : Blk h b t c) (hc : c = τ.vals x ++ rest) (hK : K x h) : ldA τ ⟨b, 0, none⟩ K h :=
  ⟨x, CellsAt_blk' _ hb 0 (fun j hj => by subst hc; rw [Nat.zero_add, List.getElem?_append_left hj]), hK⟩

def W_equalFuncP (P : Program) (t : TypeId) (a0 a1 : Sl) (a2 : Value) (K : Bool → HP) : HP :=
 brB ((a0.len : Int) != (a1.len : Int))
 (K false)
 (lfp (σ := (Int × (Bool × Unit))) (fun X0 s1 =>
 brB (decide (s1.1 < (a0.len : Int)))
 (sx a0.a a0.len s1.1 2 fun p2 =>
 ldA (.cons (.int .i64) (.cons .sl .nil)) p2 fun x3 =>
 nw #[(.int .i64 (0 : Int)), (.slice none 0 0)] t fun b4 =>
 st1 (⟨b4, 0, none⟩ : Addr) (.int .i64 x3.1) <|
 st1 ((⟨b4, 0, none⟩ : Addr).add 1) (.slice x3.2.1.a x3.2.1.len x3.2.1.cap) <|
 sx a1.a a1.len s1.1 2 fun p5 =>
 ldA (.cons (.int .i64) (.cons .sl .nil)) p5 fun x6 =>
 nw #[(.int .i64 (0 : Int)), (.slice none 0 0)] t fun b7 =>
 st1 (⟨b7, 0, none⟩ : Addr) (.int .i64 x6.1) <|
 st1 ((⟨b7, 0, none⟩ : Addr).add 1) (.slice x6.2.1.a x6.2.1.len x6.2.1.cap) <|
 ldA (.cons (.int .i64) (.cons .sl .nil)) (⟨b4, 0, none⟩ : Addr) fun x8 =>
 ldA (.cons (.int .i64) (.cons .sl .nil)) (⟨b7, 0, none⟩ : Addr) fun x9 =>
 callF P a2 #[(.agg #[(.int .i64 x8.1), (.slice x8.2.1.a x8.2.1.len x8.2.1.cap)]), (.agg #[(.int .i64 x9.1), (.slice x9.2.1.a x9.2.1.len x9.2.1.cap)])] .bool fun r10 =>
 brB (!r10)
 (K false)
 (X0 ((IntKind.wrap .i64 (s1.1 + (1 : Int))), s1.2.1, ())))
 (K true))
 ((0 : Int), false, ()))

theorem w_equalFuncP {I J : List Int → Sl → Asn} {fv : Value} {r : Int × List Int → Int × List Int → Bool} {us vs : List (Int × List Int)} (hA : At h (rsp I us s)) (hB : At h (rsp J vs s2)) (hl : us.length ≤ 1099511627776)
    (hc : ∀ x ∈ us, ∀ y ∈ vs, ∀ p q h', Ext [] h h' → At h' (I x.2 p) → At h' (J y.2 q) →
      callF P fv #[(.agg #[(.int .i64 x.1), (.slice p.a p.len p.cap)]), (.agg #[(.int .i64 y.1), (.slice q.a q.len q.cap)])] .bool (fun b h2 => b = r x y ∧ Ext [] h' h2) h') {K : Bool → HP}
    (hK : ∀ (b : Bool) h', (b = true ↔ us.length = vs.length ∧ ∀ i (h1 : i < us.length) (h2 : i < vs.length), r us[i] vs[i] = true) → Ext [] h h' → K b h') : W_equalFuncP P t s s2 fv K h := by
  unfold W_equalFuncP
  have l1 := rsp_len hA
  have l2 := rsp_len hB
  by_cases hlen : us.length = vs.length
  · rw [show ((s.len : Int) != (s2.len : Int)) = false by rw [l1, l2, hlen]; simp, brB_false]
    refine lfp_invh (I := fun m σ h' => ∃ i : Nat, σ = ((i : Int), false, ()) ∧ i ≤ us.length ∧ (∀ j (h1 : j < us.length) (h2 : j < vs.length), j < i → r us[j] vs[j] = true) ∧ Ext [] h h' ∧ m = us.length - i) ⟨_, 0, rfl, by omega, fun j _ _ h => by omega, Ext.refl' _ _, rfl⟩ ?_
    rintro m σ h' X ⟨i, rfl, hi, hall, x, em⟩ hX
    simp only
    by_cases hlt : i < us.length
    · rw [show decide ((i : Int) < (s.len : Int)) = true by rw [l1]; exact dlt_t hlt, brB_true, inc_i (show i < 4611686018427387904 by omega)]
      have hlt2 : i < vs.length := by omega
      refine rdPr (hA.ext x) hlt fun p hp => ?_
      have st := Hs.start h' [rsp J vs s2] (by simp; exact hB.ext x)
      refine st.pr fun b4 h4 x4 st => ?_
      refine rdPr (st.fz 0 rfl) hlt2 fun q hq => ?_
      refine st.pr fun b7 h7 x7 st => ?_
      simp only [List.cons_append, List.nil_append] at st
      refine ldRow (τ := tPr) (x := (us[i].1, p, ())) (st.blk 0 rfl) ?_
      refine ldRow (τ := tPr) (x := (vs[i].1, q, ())) (st.blk 1 rfl) ?_
      have xx := x.nil_trans (x4.nil_trans x7)
      refine callF_of (hc _ (List.getElem_mem hlt) _ (List.getElem_mem hlt2) p q h7 xx (hp.ext (x4.nil_trans x7)) (hq.ext x7)) ?_
      rintro b h2 ⟨eb, x2⟩
      have eb : b = r us[i] vs[i] := eb
      subst eb
      have x2' := xx.nil_trans x2
      cases hr : r us[i] vs[i] with
      | false =>
        simp only [Bool.not_false, brB_true]
        refine hK _ _ ⟨fun h => (by cases h), fun h => ?_⟩ x2'
        have := h.2 i hlt (by omega)
        rw [hr] at this; cases this
      | true =>
        simp only [Bool.not_true, brB_false]
        refine hX _ _ _ ⟨i + 1, rfl, by omega, fun j h1 h2 hj => ?_, x2', rfl⟩ (by omega)
        rcases Nat.lt_or_ge j i with k | k
        · exact hall j h1 h2 k
        · have : j = i := by omega
          subst this; exact hr
    · rw [show decide ((i : Int) < (s.len : Int)) = false by rw [l1]; exact dlt_f hlt, brB_false]
      exact hK _ _ ⟨fun _ => ⟨hlen, fun j h1 h2 => hall j h1 h2 (by omega)⟩, fun _ => rfl⟩ x
  · rw [show ((s.len : Int) != (s2.len : Int)) = true by rw [l1, l2]; simp; omega, brB_true]
    exact hK _ _ ⟨fun h => (by cases h), fun h => absurd h.1 hlen⟩ (Ext.refl' _ _)

def AllP (h : Heap) : List (Int × List Int) → List tPr.T → Prop
  | [], [] => True
  | x :: xs, p :: ps => (p.1 = x.1 ∧ At h (rsl (Ty.int .i64).enc x.2 p.2.1)) ∧ AllP h xs ps
  | _, _ => False
theorem AllP.len : ∀ {cs : List (Int × List Int)} {ps : List tPr.T}, AllP h cs ps → ps.length = cs.length
  | [], [], _ => rfl
  | c :: cs, p :: ps, ⟨_, k⟩ => by simp [AllP.len k]
  | [], _ :: _, k => k.elim
  | _ :: _, [], k => k.elim
theorem AllP.get : ∀ {cs : List (Int × List Int)} {ps : List tPr.T}, AllP h cs ps → ∀ i (h1 : i < cs.length) (h2 : i < ps.length), ps[i].1 = cs[i].1 ∧ At h (rsl (Ty.int .i64).enc cs[i].2 ps[i].2.1)
  | c :: cs, p :: ps, ⟨k, _⟩, 0, _, _ => k
  | c :: cs, p :: ps, ⟨_, k⟩, i + 1, h1, h2 => AllP.get k i (Nat.lt_of_succ_lt_succ h1) (Nat.lt_of_succ_lt_succ h2)
  | [], _, _, i, h1, _ => by simp at h1
  | _ :: _, [], k, _, _, _ => k.elim
theorem rsp_mk {ps : List tPr.T} {cs : List (Int × List Int)} {n : Nat} {vs : List Value} (hb : Blk h b t vs) (hvs : vs = (ps.map tPr.vals).flatten) (hn : n = ps.length) (ha : AllP h cs ps) : At h (rsp (fun c p => rsl (Ty.int .i64).enc c p) cs ⟨some ⟨b, 0, none⟩, n, n⟩) := by
  subst hvs hn
  exact rsp_at ha.len ⟨[b], osn_rsn widePr (t := t) (.inl ⟨b, [], 0, rfl, rfl, by simp, by simpa using hb⟩)⟩ ha.get
end
end Go.Sx
namespace Go.Proofs.S
open Go Go.Sx Go.Proofs Go.Cl Go.Rp Go.Rt

variable {h : Heap} {c d A ids : List Int} {l : List Ent} {gs us vs : List Grp} {s s2 sc : Sl} {fr : Fr} {G As : List Asn} {id p : Int} {i : Nat}

theorem sameGroups1_c {x y : Grp} {p q : Sl} (hA : At h (li x.2 p)) (hB : At h (li y.2 q)) (hl : x.2.length ≤ 1099511627776) :
    callT Try.prog fn_salvorlaw09_sameGroups_1 #[(.agg #[(.int .i64 x.1), (.slice p.a p.len p.cap)]), (.agg #[(.int .i64 y.1), (.slice q.a q.len q.cap)])] .bool (fun r h' => r = decide (x = y) ∧ Ext [] h h') h := by
  refine callT_gen fun K hK => S_salvorlaw09_sameGroups_1 (a0 := (x.1, p, ())) (a1 := (y.1, q, ())) K ?_
  unfold F_salvorlaw09_sameGroups_1
  have st := Hs.start h [li x.2 p, li y.2 q] (by simp [hA, hB])
  refine st.nw fun b0 h1 st => ?_
  refine st.nw fun b1 h2 st => ?_
  simp only [List.cons_append, List.nil_append] at st
  rw [st.ldi 0 0 rfl rfl, st.ldi 1 0 rfl rfl]
  obtain ⟨x1, x2⟩ := x
  obtain ⟨y1, y2⟩ := y
  refine jn_in fun J hJ => ?_
  by_cases e : x1 = y1
  · refine brT (by simpa using e) ?_
    rw [addr_add, addr_add, st.lds 0 1 rfl rfl, st.lds 1 1 rfl rfl]
    refine call_of (equal_int (st.fz 0 rfl) (st.fz 1 rfl) hl) ?_
    rintro _ h3 ⟨rfl, e3⟩; subst e3
    refine hJ _ _ (hK _ _ ⟨?_, st.frame (by simp)⟩)
    simp [e]
  · refine brF (by simpa using e) (hJ _ _ (hK _ _ ⟨?_, st.frame (by simp)⟩))
    simp [e]
theorem equalFunc_groups {fv : Value} {K : Bool → HP} (hW : W_equalFuncP Try.prog ty_rat_Group s s2 fv K h) : callT Try.prog fn_slices_EqualFunc_rat_Group_rat_Group_rat_Group_rat_Group #[.slice s.a s.len s.cap, .slice s2.a s2.len s2.cap, fv] .bool K h :=
  S_slices_EqualFunc_rat_Group_rat_Group_rat_Group_rat_Group (a0 := s) (a1 := s2) (a2 := fv) K hW
theorem sameGroups_c (hA : At h (ent us s)) (hB : At h (ent vs s2)) (hl : us.length ≤ 1099511627776) (hh : ∀ g ∈ us, g.2.length ≤ 1099511627776) :
    callT Try.prog fn_salvorlaw09_sameGroups #[.slice s.a s.len s.cap, .slice s2.a s2.len s2.cap] .bool (fun r h' => r = decide (us = vs) ∧ Ext [] h h') h := by
  refine callT_gen fun K hK => S_salvorlaw09_sameGroups (a0 := s) (a1 := s2) K ?_
  unfold F_salvorlaw09_sameGroups
  refine equalFunc_groups ?_
  refine w_equalFuncP (P := Try.prog) (t := ty_rat_Group) (r := fun x y => decide (x = y)) hA hB hl (fun x hx y hy p q h' x' hp hq => ?_) fun b h' hb x => hK _ _ ⟨?_, x⟩
  · exact callF_func (sameGroups1_c hp hq (hh x hx))
  rw [Bool.eq_iff_iff, hb, decide_eq_true_eq]
  refine ⟨fun ⟨hlen, hall⟩ => List.ext_getElem hlen fun i h1 h2 => by simpa using hall i h1 h2, fun e => ?_⟩
  subst e
  exact ⟨rfl, fun i h1 h2 => by simp⟩

def thr : List Ent := [(1, [1, 2]), (2, [-1, 3]), (3, [-2, -3])]
theorem three_c (h : Heap) : callT Try.prog fn_salvorlaw09_three #[] .sl (fun s' h' => New h.size h' (ent thr s') ∧ Ext [] h h') h := by
  refine callT_gen fun K hK => S_salvorlaw09_three K ?_
  unfold F_salvorlaw09_three
  have st := Hs.start h [] (by simp)
  refine st.nw fun b0 h1 st => ?_
  have st := st.asSl 0 i64.enc [1, 2] rfl rfl
  refine st.nw fun b1 h1 st => ?_
  have st := st.asSl 1 i64.enc [-1, 3] rfl rfl
  refine st.nw fun b2 h1 st => ?_
  have st := st.asSl 2 i64.enc [-2, -3] rfl rfl
  refine st.nw fun b3 h1 st => ?_
  let rows : List tPr.T := [(1, ⟨some ⟨b0, 0, none⟩, 2, 2⟩, ()), (2, ⟨some ⟨b1, 0, none⟩, 2, 2⟩, ()), (3, ⟨some ⟨b2, 0, none⟩, 2, 2⟩, ())]
  have st := st.asSn 3 2 tPr.vals rows rfl rfl
  refine hK _ _ ⟨?_, st.frame (by simp)⟩
  have ho := st.res (h0 := h) (by simp) 3 rfl
  have hr : New h.size h1 (rsn 2 tPr.vals rows ⟨some ⟨b3, 0, none⟩, 3, 3⟩) := let ⟨S, p, q⟩ := ho; ⟨S, osn_rsn widePr p, q⟩
  refine rsp_new (ps := rows) rfl hr fun i h1 h2 => ?_
  match i, h1, h2 with
  | 0, _, _ => exact ⟨rfl, (st.res (h0 := h) (by simp) 0 rfl).rsl⟩
  | 1, _, _ => exact ⟨rfl, (st.res (h0 := h) (by simp) 1 rfl).rsl⟩
  | 2, _, _ => exact ⟨rfl, (st.res (h0 := h) (by simp) 2 rfl).rsl⟩

end Go.Proofs.S
