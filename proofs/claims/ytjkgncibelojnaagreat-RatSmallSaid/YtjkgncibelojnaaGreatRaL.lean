/-
  The laws' helpers of rat: awake.
-/
import Derived.Test.YtjkgncibelojnaaGreatRaI
import Derived.Test.YtjkgncibelojnaaGreatRuE
import Derived.Test.YtjkgncibelojnaaGreatRuG
import Derived.Test.YtjkgncibelojnaaGreatRpS
import Derived.Test.YtjkgncibelojnaaGreatRtT
set_option linter.unusedVariables false
set_option linter.unusedSimpArgs false
namespace Go.Proofs.S
open Go Go.Sx Go.Proofs Go.Cl Go.Rp Go.Rt
variable {h : Heap} {c d A ids : List Int} {l : List Ent} {gs us vs : List Grp} {s s2 sc : Sl} {fr : Fr} {G As : List Asn} {id p : Int} {i : Nat} {b : Nat}
abbrev τ6 : Ty := .cons .sl (.cons .sl (.cons .sl (.cons (.int .u8) (.cons (.int .i64) (.cons (.int .i64) .nil)))))
theorem wide6 : Wide 6 τ6.vals := fun _ => rfl
theorem nil_ent (h : Heap) : At h (ent [] ⟨none, 0, 0⟩) := (rsp_nil (I := fun c p => li c p) 0 none h).at
set_option maxRecDepth 20000 in
set_option maxHeartbeats 1000000 in
theorem awake9_c (h : Heap) : callT Tryz.prog fn_salvorlaw09_awake #[] .bool (fun r h' => r = true ∧ Ext [] h h') h := by
  refine callT_gen fun K hK => S_salvorlaw09_awake K ?_
  unfold F_salvorlaw09_awake
  have st := Hs.start h [li [] ⟨none, 0, 0⟩] (by simp; exact ⟨[], rfl, by simp, .inl ⟨rfl, rfl⟩⟩)
  refine call_of (three_c h) ?_
  rintro s0 h1 ⟨n1, x1⟩
  have st := (st.new x1 n1).freeze 0 rfl
  simp only [List.nil_append, List.eraseIdx_cons_zero, List.cons_append] at st
  refine Hs.lit st [4, 1] 2 rfl rfl fun b1 h1 st => ?_
  refine Hs.lit st [1, 3] 2 rfl rfl fun b2 h1 st => ?_
  refine Hs.lit st [1, 3] 2 rfl rfl fun b3 h1 st => ?_
  refine Hs.lit st [1, 3] 2 rfl rfl fun b4 h1 st => ?_
  refine Hs.lit st [1] 1 rfl rfl fun b5 h1 st => ?_
  refine st.nw fun b6 h1 st => ?_
  have st := st.freeze 0 rfl
  simp only [List.nil_append, List.eraseIdx_cons_zero] at st
  refine Hs.lit st [-3, 1] 2 rfl rfl fun b7 h1 st => ?_
  refine st.nw fun b8 h1 st => ?_
  have st := st.freeze 0 rfl
  simp only [List.nil_append, List.eraseIdx_cons_zero] at st
  refine Hs.lit st [-3, 1] 2 rfl rfl fun b9 h1 st => ?_
  refine st.nw fun b10 h1 st => ?_
  let rows : List τ6.T := [(⟨some ⟨b1, 0, none⟩, 2, 2⟩, ⟨none, 0, 0⟩, ⟨none, 0, 0⟩, 2, 0, 0, ()), (⟨some ⟨b2, 0, none⟩, 2, 2⟩, ⟨some ⟨b3, 0, none⟩, 2, 2⟩, ⟨none, 0, 0⟩, 0, 3, 81, ()), (⟨some ⟨b4, 0, none⟩, 2, 2⟩, ⟨some ⟨b5, 0, none⟩, 1, 1⟩, ⟨some ⟨b6, 0, none⟩, 1, 1⟩, 0, 2, 93, ()), (⟨some ⟨b7, 0, none⟩, 2, 2⟩, ⟨none, 0, 0⟩, ⟨some ⟨b8, 0, none⟩, 1, 1⟩, 2, 0, 0, ()), (⟨some ⟨b9, 0, none⟩, 2, 2⟩, ⟨none, 0, 0⟩, ⟨none, 0, 0⟩, 0, 2, 92, ())]
  have st := st.asSn 0 6 τ6.vals rows rfl rfl
  have st := st.freeze 0 rfl
  simp only [List.cons_append, List.nil_append, List.set_cons_zero, List.eraseIdx_cons_zero] at st
  let T : Asn := osn ty_struct_s_rat_Step_kind_uint8_id_int_e_api_Errno 6 τ6.vals rows ⟨some ⟨b10, 0, none⟩, 5, 5⟩
  let GG : List Asn := [li [] ⟨none, 0, 0⟩, ent thr s0, li [4, 1] ⟨some ⟨b1, 0, none⟩, 2, 2⟩, li [1, 3] ⟨some ⟨b2, 0, none⟩, 2, 2⟩, li [1, 3] ⟨some ⟨b3, 0, none⟩, 2, 2⟩, li [1, 3] ⟨some ⟨b4, 0, none⟩, 2, 2⟩, li [1] ⟨some ⟨b5, 0, none⟩, 1, 1⟩, cl b6 ty_rat_Group [.int .i64 2, .slice none 0 0], li [-3, 1] ⟨some ⟨b7, 0, none⟩, 2, 2⟩, cl b8 ty_rat_Group [.int .i64 2, .slice none 0 0], li [-3, 1] ⟨some ⟨b9, 0, none⟩, 2, 2⟩, T]
  have st : Hs [([], h)] GG [] h1 := st
  have g2 : ∀ (k : Nat) (b : Nat) (h' : Heap) (As : List Asn), Hs [([], h)] GG As h' → GG[k]? = some (cl b ty_rat_Group [.int .i64 2, .slice none 0 0]) → At h' (ent [(2, [])] ⟨some ⟨b, 0, none⟩, 1, 1⟩) := fun k b h' As st hk =>
    rsp_mk (ps := [(2, ⟨none, 0, 0⟩, ())]) (st.fblk k hk) rfl rfl ⟨⟨rfl, nil_li⟩, trivial⟩
  have data : ∀ i (hi : i < rows.length) h' As, Hs [([], h)] GG As h' → ∃ (d ids : List Int) (gs : List Grp), At h' (li d rows[i].1) ∧ At h' (li ids rows[i].2.1) ∧ At h' (ent gs rows[i].2.2.1) ∧ d.length ≤ 5 ∧ ids.length ≤ 5 ∧ gs.length ≤ 5 ∧ (∀ g ∈ gs, g.2.length ≤ 5) ∧ checkS thr ⟨d, ids, gs⟩ = (rows[i].2.2.2.1, rows[i].2.2.2.2.1, rows[i].2.2.2.2.2.1) := by
    intro i hi h' As st
    match i, hi with
    | 0, _ => exact ⟨_, _, _, st.fz 2 rfl, nil_li, nil_ent _, by decide, by decide, by decide, by decide, (by unfold checkS negs; rw [nrm_T]; decide +kernel : checkS thr ⟨[4, 1], [], []⟩ = (2, 0, 0))⟩
    | 1, _ => exact ⟨_, _, _, st.fz 3 rfl, st.fz 4 rfl, nil_ent _, by decide, by decide, by decide, by decide, (by unfold checkS negs; rw [nrm_T]; decide +kernel : checkS thr ⟨[1, 3], [1, 3], []⟩ = (0, 3, 81))⟩
    | 2, _ => exact ⟨_, _, _, st.fz 5 rfl, st.fz 6 rfl, g2 7 b6 _ _ st rfl, by decide, by decide, by decide, by decide, (by unfold checkS negs; rw [nrm_T]; decide +kernel : checkS thr ⟨[1, 3], [1], [(2, [])]⟩ = (0, 2, 93))⟩
    | 3, _ => exact ⟨_, _, _, st.fz 8 rfl, nil_li, g2 9 b8 _ _ st rfl, by decide, by decide, by decide, by decide, (by unfold checkS negs; rw [nrm_T]; decide +kernel : checkS thr ⟨[-3, 1], [], [(2, [])]⟩ = (2, 0, 0))⟩
    | 4, _ => exact ⟨_, _, _, st.fz 10 rfl, nil_li, nil_ent _, by decide, by decide, by decide, by decide, (by unfold checkS negs; rw [nrm_T]; decide +kernel : checkS thr ⟨[-3, 1], [], []⟩ = (0, 2, 92))⟩
  have hrl : rows.length = 5 := rfl
  refine lfp_invh (I := fun m σ h' => ∃ (i : Nat) (x : Bool), σ = ((i : Int), x, ()) ∧ i ≤ rows.length ∧ m = rows.length - i ∧ Hs [([], h)] GG [] h') ⟨_, 0, false, rfl, by omega, rfl, st⟩ ?_
  clear st
  rintro m σ h' X ⟨i, x, rfl, hi, rfl, st⟩ hX
  simp only
  by_cases hlt : i < rows.length
  · refine brT (decide_eq_true (by omega)) ?_
    refine rdN (τ := τ6) (s := ⟨some ⟨b10, 0, none⟩, 5, 5⟩) ((st.fz 11 rfl).rsn wide6) hlt ?_
    have data := data i hlt
    generalize rows[i] = row at data
    obtain ⟨sl, sh, sg, kd, idv, ev, ⟨⟩⟩ := row
    simp only at data ⊢
    refine st.nw fun b11 h2 st => ?_
    refine st.st1 0 0 rfl (by simp) fun h3 st => ?_
    rw [addr_add]
    refine st.st1 0 1 rfl (by simp) fun h4 st => ?_
    rw [addr_add]
    refine st.st1 0 2 rfl (by simp) fun h5 st => ?_
    rw [addr_add]
    refine st.st1 0 3 rfl (by simp) fun h6 st => ?_
    rw [addr_add]
    refine st.st1 0 4 rfl (by simp) fun h7 st => ?_
    rw [addr_add]
    refine st.st1 0 5 rfl (by simp) fun h8 st => ?_
    refine ldPre (τ := .cons .sl (.cons .sl (.cons .sl .nil))) (x := (sl, sh, sg, ())) (rest := [.int .u8 kd, .int .i64 idv, .int .i64 ev]) (st.blk 0 rfl) rfl ?_
    obtain ⟨d, ids, gs, q1, q2, q3, l1, l2, l3, l4, hlook⟩ := data _ _ st
    refine call_of (RatCheck_c (st.fz 1 rfl) q1 q2 q3 (by decide) (by omega) (by omega) (by omega) (fun g hg => by have := l4 g hg; omega)) ?_
    rintro _ h6 ⟨rfl, x6⟩
    have st := st.ext x6
    rw [hlook]
    simp only
    rw [st.ldi 0 3 rfl rfl]
    have fin : X (IntKind.wrap .i64 ((i : Int) + 1), x, ()) h6 := by
      rw [inc_i (by omega)]
      exact hX _ _ _ ⟨i + 1, x, rfl, by omega, rfl, st.drop 0 rfl⟩ (by omega)
    refine jn_in fun J hJ => brF (by simp) ?_
    rw [st.ldi 0 4 rfl rfl]
    refine hJ _ _ ?_
    refine jn_in fun J2 hJ2 => brF (by simp) ?_
    rw [st.ldi 0 5 rfl rfl]
    exact hJ2 _ _ (brF (by simp) fin)
  · refine brF (decide_eq_false (by omega)) ?_
    refine Hs.lit st [5, -7, 2, 3, -8] 5 rfl rfl fun b20 h1 st => ?_
    refine call_of (Split_c (st.fz 12 rfl) (by decide)) ?_
    rintro _ h2 ⟨s1, s2, rfl, n1, n2, x2⟩
    rw [show Rt.splitP [5, -7, 2, 3, -8] = ([5], [(7, [2, 3]), (8, [])], 0) by decide +kernel] at n1 n2 ⊢
    have st := Hs.fzNew (Bs := [nio' [5] s1, ent [(7, [2, 3]), (8, [])] s2]) st x2 (by
      intro B hB
      simp only [List.mem_cons, List.not_mem_nil, or_false] at hB
      rcases hB with rfl | rfl
      · exact n1
      · exact n2)
    refine Hs.lit st [-3, 1] 2 rfl rfl fun b27 h3 st => ?_
    refine Hs.lit st [3, -1] 2 rfl rfl fun b28 h4 st => ?_
    refine call_of (Repair_c (st.fz 15 rfl) (st.fz 16 rfl) (by decide) (by decide)) ?_
    rintro _ h5 ⟨s3, rfl, n3, x3⟩
    rw [show repairP [-3, 1] [3, -1] = ([-3, -1], 0) by decide +kernel] at n3 ⊢
    have st := st.new x3 n3
    simp only [List.nil_append] at st
    refine jn_in fun J hJ => brT rfl ?_
    refine Hs.lit st [5] 1 rfl rfl fun b41 h6 st => ?_
    refine call_of (equal_int (st.fz 13 rfl).rsl (st.fz 17 rfl) (by decide)) ?_
    rintro _ h7 ⟨rfl, e⟩; subst e
    refine hJ _ _ ?_
    clear J hJ
    refine jn_in fun J hJ => brT (by decide) ?_
    refine Hs.lit st [2, 3] 2 rfl rfl fun b38 h7 st => ?_
    refine st.nw fun b39 h8 st => ?_
    simp only [List.cons_append, List.nil_append] at st
    refine call_of (sameGroups_c (vs := [(7, [2, 3]), (8, [])]) (st.fz 14 rfl) (rsp_mk (ps := [(7, ⟨some ⟨b38, 0, none⟩, 2, 2⟩, ()), (8, ⟨none, 0, 0⟩, ())]) (st.blk 1 rfl) rfl rfl ⟨⟨rfl, st.fz 18 rfl⟩, ⟨rfl, nil_li⟩, trivial⟩) (by decide) (by decide)) ?_
    rintro _ h9 ⟨rfl, x9⟩
    have st := st.ext x9
    refine hJ _ _ ?_
    clear J hJ
    refine jn_in fun J hJ => brT (by decide) ?_
    refine Hs.lit st [-3, -1] 2 rfl rfl fun b36 h10 st => ?_
    refine call_of (equal_lit (st.own 0 rfl).rsl (st.fz 19 rfl) (by decide)) ?_
    rintro _ h11 ⟨rfl, e⟩; subst e
    exact hJ _ _ (hK _ _ ⟨rfl, st.frame (by simp)⟩)
end Go.Proofs.S
namespace Go.Proofs.S
open Go Go.Sx Go.Proofs Go.Cl Go.Rp
variable {h : Heap} {c d A us : List Int} {cs ds hs : List (List Int)} {s s2 s3 : Sl} {fr : Fr} {G As : List Asn} {b n : Nat} {t : TypeId}
end Go.Proofs.S
namespace Go.Proofs.S
open Go Go.Sx Go.Proofs Go.Cl Go.Rp Go.Rt
variable {h : Heap} {c d A ids : List Int} {l : List Ent} {cs : List (List Int)} {gs us vs : List Grp} {s s2 sc : Sl} {fr : Fr} {G As : List Asn} {id p : Int} {i : Nat} {b m : Nat}
end Go.Proofs.S
namespace Go.Rt
open Go Go.Cl Go.Rp
variable {l X : List Ent} {A B c : List Int} {p : Int}
end Go.Rt
