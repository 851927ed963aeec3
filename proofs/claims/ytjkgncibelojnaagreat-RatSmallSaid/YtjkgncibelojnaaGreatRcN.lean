/-
  limits.
-/
import Derived.Test.YtjkgncibelojnaaGreatRcC
import Derived.Test.YtjkgncibelojnaaGreatRcA
import Derived.Test.YtjkgncibelojnaaGreatRaW
set_option linter.unusedVariables false
set_option linter.unusedSimpArgs false
namespace Go.Proofs.S
open Go Go.Sx Go.Proofs Go.Cl Go.Rp Go.Rt
variable {h h0 : Heap} {c d A ids : List Int} {l : List Ent} {gs : List Grp} {s s2 s3 s4 s5 sc : Sl} {fr : Fr} {G G' As : List Asn} {id p : Int} {i : Nat} {t tl : TypeId} {L : List (List Int)}
def LmD (x70 : Sl) (b77 : Nat) (y : Bool) (N : Bool → HP) (K : Bool → HP) : HP :=
 lfp (σ := (Int × (Bool × Unit))) (fun X78 s79 =>
 brB (decide (s79.1 < (7 : Int)))
 (sx (some (⟨b77, 0, none⟩ : Addr)) 7 s79.1 1 fun p80 =>
 ldT .sl p80 fun x81 =>
 callT Tryz.prog fn_salvorlaw09_repairs #[(.slice x70.a x70.len x70.cap), (.slice x81.a x81.len x81.cap)] .bool fun r82 =>
 brB (!r82)
 (K false)
 (X78 ((IntKind.wrap .i64 (s79.1 + (1 : Int))), s79.2.1, ())))
 (N s79.2.1))
 ((0 : Int), y, ())
def LmE (b66 : Nat) (x : Bool) (K : Bool → HP) : HP :=
 lfp (σ := (Int × (Bool × Unit))) (fun X67 s68 =>
 brB (decide (s68.1 < (5 : Int)))
 (sx (some (⟨b66, 0, none⟩ : Addr)) 5 s68.1 1 fun p69 =>
 ldT .sl p69 fun x70 =>
 nw #[(.int .i64 (1 : Int))] ty_lits_Lit fun b71 =>
 nw #[(.int .i64 (-1 : Int)), (.int .i64 (-2 : Int))] ty_lits_Lit fun b72 =>
 nw #[(.int .i64 (-2 : Int)), (.int .i64 (-1 : Int)), (.int .i64 (-2 : Int))] ty_lits_Lit fun b73 =>
 nw #[(.int .i64 (1 : Int)), (.int .i64 (-1 : Int))] ty_lits_Lit fun b74 =>
 nw #[(.int .i64 (0 : Int))] ty_lits_Lit fun b75 =>
 nw #[(.int .i64 (-3 : Int)), (.int .i64 (4 : Int))] ty_lits_Lit fun b76 =>
 nw #[(.slice none 0 0), (.slice (some (⟨b71, 0, none⟩ : Addr)) 1 1), (.slice (some (⟨b72, 0, none⟩ : Addr)) 2 2), (.slice (some (⟨b73, 0, none⟩ : Addr)) 3 3), (.slice (some (⟨b74, 0, none⟩ : Addr)) 2 2), (.slice (some (⟨b75, 0, none⟩ : Addr)) 1 1), (.slice (some (⟨b76, 0, none⟩ : Addr)) 2 2)] ty_sl_lits_Lit fun b77 =>
 LmD x70 b77 s68.2.1 (fun y => X67 ((IntKind.wrap .i64 (s68.1 + (1 : Int))), y, ())) K)
 (K true))
 ((0 : Int), x, ())
def LmC (x : Bool) (K : Bool → HP) : HP :=
 nw #[(.int .i64 (0 : Int))] ty_lits_Lit fun b62 =>
 nw #[(.int .i64 (1 : Int)), (.int .i64 (2 : Int))] ty_lits_Lit fun b63 =>
 nw #[(.int .i64 (2 : Int)), (.int .i64 (1 : Int))] ty_lits_Lit fun b64 =>
 nw #[(.int .i64 (3 : Int))] ty_lits_Lit fun b65 =>
 nw #[(.slice none 0 0), (.slice (some (⟨b62, 0, none⟩ : Addr)) 1 1), (.slice (some (⟨b63, 0, none⟩ : Addr)) 2 2), (.slice (some (⟨b64, 0, none⟩ : Addr)) 2 2), (.slice (some (⟨b65, 0, none⟩ : Addr)) 1 1)] ty_clauses_Clause fun b66 =>
 LmE b66 x K
def LmF (b32 : Nat) (x : Bool) (K : Bool → HP) : HP :=
 lfp (σ := (Int × (Bool × Unit))) (fun X33 s34 =>
 brB (decide (s34.1 < (9 : Int)))
 (sx (some (⟨b32, 0, none⟩ : Addr)) 9 s34.1 1 fun p35 =>
 ldT (.int .i64) p35 fun x36 =>
 nw #[(.int .i64 x36)] ty_int fun b37 =>
 callT Tryz.prog fn_salvorlaw09_texts #[(.slice (some (⟨b37, 0, none⟩ : Addr)) 1 1), (.slice none 0 0)] .bool fun r38 =>
 jn (σ := Bool) (fun t40 =>
 jn (σ := Bool) (fun t42 =>
 jn (σ := Bool) (fun t44 =>
 jn (σ := Bool) (fun t46 =>
 brB t46
 (K false)
 (X33 ((IntKind.wrap .i64 (s34.1 + (1 : Int))), s34.2.1, ())))
 (fun J45 =>
 brB t44
 (J45 true)
 (callT Tryz.prog fn_salvorlaw09_three #[] .sl fun r47 =>
 nw #[(.int .i64 (-3 : Int)), (.int .i64 (1 : Int))] ty_lits_Lit fun b48 =>
 nw #[(.int .i64 x36)] ty_int fun b49 =>
 nw #[(.int .i64 (2 : Int)), (.slice (some (⟨b49, 0, none⟩ : Addr)) 1 1), (.int .i64 x36), (.slice none 0 0)] ty_rat_Group fun b50 =>
 callT Tryz.prog fn_salvorlaw09_checks #[(.slice r47.a r47.len r47.cap), (.agg #[(.slice (some (⟨b48, 0, none⟩ : Addr)) 2 2), (.slice none 0 0), (.slice (some (⟨b50, 0, none⟩ : Addr)) 2 2)])] .bool fun r51 =>
 J45 ((!r51)))))
 (fun J43 =>
 brB t42
 (J43 true)
 (callT Tryz.prog fn_salvorlaw09_three #[] .sl fun r52 =>
 nw #[(.int .i64 (4 : Int)), (.int .i64 (1 : Int))] ty_lits_Lit fun b53 =>
 nw #[(.int .i64 x36)] ty_int fun b54 =>
 callT Tryz.prog fn_salvorlaw09_checks #[(.slice r52.a r52.len r52.cap), (.agg #[(.slice (some (⟨b53, 0, none⟩ : Addr)) 2 2), (.slice (some (⟨b54, 0, none⟩ : Addr)) 1 1), (.slice none 0 0)])] .bool fun r55 =>
 J43 ((!r55)))))
 (fun J41 =>
 brB t40
 (J41 true)
 (nw #[(.int .i64 x36)] ty_int fun b56 =>
 nw #[(.int .i64 (3 : Int)), (.slice (some (⟨b56, 0, none⟩ : Addr)) 1 1)] ty_rat_Group fun b57 =>
 callT Tryz.prog fn_salvorlaw09_texts #[(.slice none 0 0), (.slice (some (⟨b57, 0, none⟩ : Addr)) 1 1)] .bool fun r58 =>
 J41 ((!r58)))))
 (fun J39 =>
 brB (!r38)
 (J39 true)
 (nw #[(.int .i64 (-3 : Int)), (.int .i64 x36)] ty_int fun b59 =>
 nw #[(.int .i64 x36), (.slice none 0 0)] ty_rat_Group fun b60 =>
 callT Tryz.prog fn_salvorlaw09_texts #[(.slice (some (⟨b59, 0, none⟩ : Addr)) 2 2), (.slice (some (⟨b60, 0, none⟩ : Addr)) 1 1)] .bool fun r61 =>
 J39 ((!r61)))))
 (LmC s34.2.1 K))
 ((0 : Int), x, ())
def LmB (x : Bool) (K : Bool → HP) : HP :=
 nw #[(.int .i64 (-9223372036854775808 : Int)), (.int .i64 (-1073741825 : Int)), (.int .i64 (-1073741824 : Int)), (.int .i64 (-1 : Int)), (.int .i64 (0 : Int)), (.int .i64 (1 : Int)), (.int .i64 (1073741824 : Int)), (.int .i64 (1073741825 : Int)), (.int .i64 (9223372036854775807 : Int))] ty_int fun b32 =>
 LmF b32 x K
def LmA (b10 : Nat) (K : Bool → HP) : HP :=
 lfp (σ := (Int × (Bool × Unit))) (fun X11 s12 =>
 brB (decide (s12.1 < (9 : Int)))
 (sx (some (⟨b10, 0, none⟩ : Addr)) 9 s12.1 1 fun p13 =>
 ldT .sl p13 fun x14 =>
 callT Tryz.prog fn_salvorlaw09_tells #[(.slice x14.a x14.len x14.cap), (.int .i64 (1 : Int))] .bool fun r15 =>
 jn (σ := Bool) (fun t17 =>
 jn (σ := Bool) (fun t19 =>
 jn (σ := Bool) (fun t21 =>
 jn (σ := Bool) (fun t23 =>
 brB t23
 (K false)
 (X11 ((IntKind.wrap .i64 (s12.1 + (1 : Int))), s12.2.1, ())))
 (fun J22 =>
 brB t21
 (J22 true)
 (nw #[(.int .i64 (0 : Int))] ty_lits_Lit fun b24 =>
 callT Tryz.prog fn_salvorlaw09_searches #[(.slice x14.a x14.len x14.cap), (.slice (some (⟨b24, 0, none⟩ : Addr)) 1 1)] .bool fun r25 =>
 J22 ((!r25)))))
 (fun J20 =>
 brB t19
 (J20 true)
 (nw #[(.int .i64 (-1 : Int))] ty_lits_Lit fun b26 =>
 callT Tryz.prog fn_salvorlaw09_searches #[(.slice x14.a x14.len x14.cap), (.slice (some (⟨b26, 0, none⟩ : Addr)) 1 1)] .bool fun r27 =>
 J20 ((!r27)))))
 (fun J18 =>
 brB t17
 (J18 true)
 (nw #[(.int .i64 (-1 : Int))] ty_lits_Lit fun b28 =>
 nw #[(.int .i64 (1 : Int))] ty_int fun b29 =>
 callT Tryz.prog fn_salvorlaw09_checks #[(.slice x14.a x14.len x14.cap), (.agg #[(.slice (some (⟨b28, 0, none⟩ : Addr)) 1 1), (.slice (some (⟨b29, 0, none⟩ : Addr)) 1 1), (.slice none 0 0)])] .bool fun r30 =>
 J18 ((!r30)))))
 (fun J16 =>
 brB (!r15)
 (J16 true)
 (callT Tryz.prog fn_salvorlaw09_tells #[(.slice x14.a x14.len x14.cap), (.int .i64 (1073741824 : Int))] .bool fun r31 =>
 J16 ((!r31)))))
 (LmB s12.2.1 K))
 ((0 : Int), false, ())
theorem lmD_c {N : Bool → HP} {K : Bool → HP} {b77 : Nat} {y : Bool} {x70 : Sl} (st : Hs [([], h0)] G [] h) (hx : li c x70 ∈ G) (hc : c.length ≤ 3) (r : Lits G L ⟨some ⟨b77, 0, none⟩, 7, 7⟩) (e : L.length = 7) (q : ∀ q ∈ L, q.length ≤ 3)
    (hN : ∀ y h', Hs [([], h0)] G [] h' → N y h') : LmD x70 b77 y N K h := by
  unfold LmD
  refine lfp_invh (I := fun m σ h' => ∃ (n : Nat) (u : Bool), σ = ((n : Int), u, ()) ∧ n ≤ 7 ∧ Hs [([], h0)] G [] h' ∧ m = 7 - n) ⟨_, 0, y, rfl, by omega, st, rfl⟩ ?_
  clear st
  rintro m σ h1 X ⟨n, u, rfl, hn, st, rfl⟩ hX
  simp only
  by_cases hlt : n < 7
  · refine brT (decide_eq_true (by omega)) ?_
    refine r.rd st (i := n) (by omega) fun x81 m81 => ?_
    refine call_of (repairs_c (st.fzm hx) (st.fzm m81) (by omega) (by have := q _ (List.getElem_mem (show n < L.length by omega)); omega)) ?_
    rintro _ h2 ⟨rfl, x2⟩
    refine brF rfl ?_
    rw [inc_i (by omega)]
    exact hX _ _ _ ⟨n + 1, u, rfl, by omega, st.ext x2, rfl⟩ (by omega)
  · exact brF (decide_eq_false (by omega)) (hN _ _ st)
abbrev A7 : List (List Int) := [[], [1], [-1, -2], [-2, -1, -2], [1, -1], [0], [-3, 4]]
theorem lmE_c {K : Bool → HP} {b66 : Nat} {x : Bool} (st : Hs [([], h0)] G [] h) (r : Lits G L ⟨some ⟨b66, 0, none⟩, 5, 5⟩) (e : L.length = 5) (q : ∀ q ∈ L, q.length ≤ 3)
    (hK : ∀ h', Ext [] h0 h' → K true h') : LmE b66 x K h := by
  unfold LmE
  refine lfp_invh (I := fun m σ h' => ∃ (n : Nat) (u : Bool), σ = ((n : Int), u, ()) ∧ n ≤ 5 ∧ Hs [([], h0)] G [] h' ∧ m = 5 - n) ⟨_, 0, x, rfl, by omega, st, rfl⟩ ?_
  clear st
  rintro m σ h1 X ⟨n, u, rfl, hn, st, rfl⟩ hX
  simp only
  by_cases hlt : n < 5
  · refine brT (decide_eq_true (by omega)) ?_
    refine r.rd st (i := n) (by omega) fun x70 m70 => ?_
    show litsW ty_lits_Lit A7 (fun ps => nw (ps.map Ty.sl.enc).toArray ty_sl_lits_Lit fun b77 => LmD x70 b77 u (fun y => X (IntKind.wrap .i64 ((n : Int) + 1), y, ())) K) h1
    refine litsW_c _ st fun ps G' h' hG hl hm st => ?_
    refine Hs.litR st ps 7 (by rw [hl]; rfl) rfl fun b77 h2 st => ?_
    refine lmD_c st (List.mem_append_left _ (hG _ m70)) (q _ (List.getElem_mem (show n < L.length by omega))) ⟨ps, hl, List.mem_append_right _ (by simp), fun i h1 h2 => List.mem_append_left _ (hm i h1 h2)⟩ rfl (by decide) fun y h3 st => ?_
    rw [inc_i (by omega)]
    exact hX _ _ _ ⟨n + 1, y, rfl, by omega, st.less fun A hA => List.mem_append_left _ (hG _ hA), rfl⟩ (by omega)
  · exact brF (decide_eq_false (by omega)) (hK _ (st.frame (by simp)))
abbrev C5 : List (List Int) := [[], [0], [1, 2], [2, 1], [3]]
theorem lmC_c {K : Bool → HP} {x : Bool} (st : Hs [([], h0)] G [] h) (hK : ∀ h', Ext [] h0 h' → K true h') : LmC x K h := by
  show litsW ty_lits_Lit C5 (fun ps => nw (ps.map Ty.sl.enc).toArray ty_clauses_Clause fun b66 => LmE b66 x K) h
  refine litsW_c _ st fun ps G' h' hG hl hm st => ?_
  refine Hs.litR st ps 5 (by rw [hl]; rfl) rfl fun b66 h2 st => ?_
  exact lmE_c st ⟨ps, hl, List.mem_append_right _ (by simp), fun i h1 h2 => List.mem_append_left _ (hm i h1 h2)⟩ rfl (by decide) hK
theorem thr_le : thr.length ≤ 1000 ∧ ∀ x ∈ thr, x.2.length ≤ 1000 := by decide
theorem nil_entA (h : Heap) : At h (ent [] ⟨none, 0, 0⟩) := ⟨[], nil_entP h⟩
set_option maxHeartbeats 1000000 in
theorem lmF_c {K : Bool → HP} {b32 : Nat} {x : Bool} (st : Hs [([], h0)] G [] h) (hN : li c ⟨some ⟨b32, 0, none⟩, 9, 9⟩ ∈ G) (e : c.length = 9) (g0 : li [] ⟨none, 0, 0⟩ ∈ G) (hK : ∀ h', Ext [] h0 h' → K true h') : LmF b32 x K h := by
  unfold LmF
  refine lfp_invh (I := fun m σ h' => ∃ (n : Nat) (u : Bool), σ = ((n : Int), u, ()) ∧ n ≤ 9 ∧ Hs [([], h0)] G [] h' ∧ m = 9 - n) ⟨_, 0, x, rfl, by omega, st, rfl⟩ ?_
  clear st
  rintro m σ h1 X ⟨n, u, rfl, hn, st, rfl⟩ hX
  simp only
  by_cases hlt : n < 9
  rotate_left
  · exact brF (decide_eq_false (by omega)) (lmC_c st hK)
  refine brT (decide_eq_true (by omega)) ?_
  refine rdE (τ := i64) (s := ⟨some ⟨b32, 0, none⟩, 9, 9⟩) (st.fzm hN) (i := n) (by omega) ?_
  generalize c[n]'(by omega) = v
  refine Hs.lit st [v] 1 rfl rfl fun b37 h2 st => ?_
  refine call_of (texts_c (s := ⟨some ⟨b37, 0, none⟩, 1, 1⟩) (s2 := ⟨none, 0, 0⟩) (ids := [v]) (gs := []) (st.fzm (by simp)) (nil_entA _) (by simp) (by simp) (by simp)) ?_
  rintro _ h3 ⟨rfl, x3⟩
  have st := (st.ext x3).less (G' := G) fun A hA => by simp [hA]
  have zero : ∀ {n i : Nat}, n = 1 → i < n → i = 0 := fun a b => by omega
  refine jn_in fun J hJ => brF rfl ?_
  refine Hs.lit st [-3, v] 2 rfl rfl fun b59 h4 st => ?_
  refine Hs.litE st [(v, [])] [(v, ⟨none, 0, 0⟩, ())] 1 rfl rfl rfl (fun i h1 h2 => by
    obtain rfl := zero rfl h1; simp only [List.getElem_cons_zero]; simp [g0]) fun b60 h5 st => ?_
  refine call_of (texts_c (s := ⟨some ⟨b59, 0, none⟩, 2, 2⟩) (s2 := ⟨some ⟨b60, 0, none⟩, 1, 1⟩) (gs := [(v, [])]) (ids := [-3, v]) (st.fzm (by simp)) (st.fzm (by simp)) (by simp) (by simp) (by simp)) ?_
  rintro _ h6 ⟨rfl, x6⟩
  have st := (st.ext x6).less (G' := G) fun A hA => by simp [hA]
  refine hJ _ _ ?_
  clear J hJ
  refine jn_in fun J hJ => brF rfl ?_
  refine Hs.lit st [v] 1 rfl rfl fun b56 h7 st => ?_
  refine Hs.litE st [(3, [v])] [(3, ⟨some ⟨b56, 0, none⟩, 1, 1⟩, ())] 1 rfl rfl rfl (fun i h1 h2 => by
    obtain rfl := zero rfl h1; simp only [List.getElem_cons_zero]; simp) fun b57 h8 st => ?_
  refine call_of (texts_c (s := ⟨none, 0, 0⟩) (s2 := ⟨some ⟨b57, 0, none⟩, 1, 1⟩) (gs := [(3, [v])]) (ids := []) nil_li (st.fzm (by simp)) (by simp) (by simp) (by simp)) ?_
  rintro _ h9 ⟨rfl, x9⟩
  have st := (st.ext x9).less (G' := G) fun A hA => by simp [hA]
  refine hJ _ _ ?_
  clear J hJ
  refine jn_in fun J hJ => brF rfl ?_
  refine call_of (three_c _) ?_
  rintro r52 h10 ⟨n10, x10⟩
  have st := Hs.fzNew (Bs := [ent thr r52]) st x10 (by intro B hB; simp only [List.mem_singleton] at hB; subst hB; exact n10)
  refine Hs.lit st [4, 1] 2 rfl rfl fun b53 h11 st => ?_
  refine Hs.lit st [v] 1 rfl rfl fun b54 h12 st => ?_
  refine call_of (checks_c (l := thr) (sa := r52) (sl := ⟨some ⟨b53, 0, none⟩, 2, 2⟩) (sh := ⟨some ⟨b54, 0, none⟩, 1, 1⟩) (sg := ⟨none, 0, 0⟩) (c := [4, 1]) (ids := [v]) (gs := []) (st.fzm (by simp)) (st.fzm (by simp)) (st.fzm (by simp)) (nil_entA _) thr_le.1 thr_le.2 (by simp) (by simp) (by simp) (by simp)) ?_
  rintro _ h13 ⟨rfl, x13⟩
  have st := (st.ext x13).less (G' := G) fun A hA => by simp [hA]
  refine hJ _ _ ?_
  clear J hJ
  refine jn_in fun J hJ => brF rfl ?_
  refine call_of (three_c _) ?_
  rintro r47 h14 ⟨n14, x14⟩
  have st := Hs.fzNew (Bs := [ent thr r47]) st x14 (by intro B hB; simp only [List.mem_singleton] at hB; subst hB; exact n14)
  refine Hs.lit st [-3, 1] 2 rfl rfl fun b48 h15 st => ?_
  refine Hs.lit st [v] 1 rfl rfl fun b49 h16 st => ?_
  refine Hs.litE st [(2, [v]), (v, [])] [(2, ⟨some ⟨b49, 0, none⟩, 1, 1⟩, ()), (v, ⟨none, 0, 0⟩, ())] 2 rfl rfl rfl (fun i h1 h2 => by
    match i, h1 with
    | 0, _ => simp only [List.getElem_cons_zero]; simp
    | 1, _ => simp only [List.getElem_cons_zero, List.getElem_cons_succ]; simp [g0]) fun b50 h17 st => ?_
  refine call_of (checks_c (l := thr) (sa := r47) (sl := ⟨some ⟨b48, 0, none⟩, 2, 2⟩) (sh := ⟨none, 0, 0⟩) (sg := ⟨some ⟨b50, 0, none⟩, 2, 2⟩) (c := [-3, 1]) (ids := []) (gs := [(2, [v]), (v, [])]) (st.fzm (by simp)) (st.fzm (by simp)) nil_li (st.fzm (by simp)) thr_le.1 thr_le.2 (by simp) (by simp) (by simp) (by simp)) ?_
  rintro _ h18 ⟨rfl, x18⟩
  have st := (st.ext x18).less (G' := G) fun A hA => by simp [hA]
  refine hJ _ _ (brF rfl ?_)
  rw [inc_i (by omega)]
  exact hX _ _ _ ⟨n + 1, u, rfl, by omega, st, rfl⟩ (by omega)
theorem lmB_c {K : Bool → HP} {x : Bool} (st : Hs [([], h0)] G [] h) (hK : ∀ h', Ext [] h0 h' → K true h') : LmB x K h := by
  unfold LmB
  have st := Hs.gain0 st (nil_liP h)
  refine Hs.lit st [-9223372036854775808, -1073741825, -1073741824, -1, 0, 1, 1073741824, 1073741825, 9223372036854775807] 9 rfl rfl fun b32 h2 st => ?_
  exact lmF_c st (List.mem_append_right _ (List.mem_singleton.2 rfl)) rfl (List.mem_append_left _ (List.mem_append_right _ (by simp))) hK
set_option maxHeartbeats 1000000 in
theorem lmA_c {K : Bool → HP} {b10 : Nat} {B : List (List Ent)} (st : Hs [([], h0)] G [] h) (r : Ents G B ⟨some ⟨b10, 0, none⟩, 9, 9⟩) (e : B.length = 9) (q : ∀ l ∈ B, l.length ≤ 2 ∧ ∀ x ∈ l, x.2.length ≤ 3) (hK : ∀ h', Ext [] h0 h' → K true h') : LmA b10 K h := by
  unfold LmA
  refine lfp_invh (I := fun m σ h' => ∃ (n : Nat) (u : Bool), σ = ((n : Int), u, ()) ∧ n ≤ 9 ∧ Hs [([], h0)] G [] h' ∧ m = 9 - n) ⟨_, 0, false, rfl, by omega, st, rfl⟩ ?_
  clear st
  rintro m σ h1 X ⟨n, u, rfl, hn, st, rfl⟩ hX
  simp only
  by_cases hlt : n < 9
  rotate_left
  · exact brF (decide_eq_false (by omega)) (lmB_c st hK)
  refine brT (decide_eq_true (by omega)) ?_
  refine r.rd st (i := n) (by omega) fun x14 mE => ?_
  obtain ⟨q1, q2⟩ := q _ (List.getElem_mem (show n < B.length by omega))
  generalize B[n]'(by omega) = l at mE q1 q2
  have q3 : ∀ x ∈ l, x.2.length ≤ 1000 := fun x hx => by have := q2 x hx; omega
  have q4 : fuelE l ≤ 1000 := by have := fuelE_le q2; omega
  refine call_of (tells_c (st.fzm mE) (by omega) q3 1) ?_
  rintro _ h2 ⟨rfl, x2⟩
  have st := st.ext x2
  refine jn_in fun J hJ => brF rfl ?_
  refine call_of (tells_c (st.fzm mE) (by omega) q3 1073741824) ?_
  rintro _ h3 ⟨rfl, x3⟩
  have st := st.ext x3
  refine hJ _ _ ?_
  clear J hJ
  refine jn_in fun J hJ => brF rfl ?_
  refine Hs.lit st [-1] 1 rfl rfl fun b28 h4 st => ?_
  refine Hs.lit st [1] 1 rfl rfl fun b29 h5 st => ?_
  refine call_of (checks_c (sa := x14) (sl := ⟨some ⟨b28, 0, none⟩, 1, 1⟩) (sh := ⟨some ⟨b29, 0, none⟩, 1, 1⟩) (sg := ⟨none, 0, 0⟩) (c := [-1]) (ids := [1]) (gs := []) (st.fzm (by simp [mE])) (st.fzm (by simp)) (st.fzm (by simp)) (nil_entA _) (by omega) q3 (by simp) (by simp) (by simp) (by simp)) ?_
  rintro _ h6 ⟨rfl, x6⟩
  have st := (st.ext x6).less (G' := G) fun A hA => by simp [hA]
  refine hJ _ _ ?_
  clear J hJ
  refine jn_in fun J hJ => brF rfl ?_
  refine Hs.lit st [-1] 1 rfl rfl fun b26 h7 st => ?_
  refine call_of (searches_c (s := x14) (sc := ⟨some ⟨b26, 0, none⟩, 1, 1⟩) (c := [-1]) (st.fzm (by simp [mE])) (st.fzm (by simp)) (by omega) q3 (by simp) q4) ?_
  rintro _ h8 ⟨rfl, x8⟩
  have st := (st.ext x8).less (G' := G) fun A hA => by simp [hA]
  refine hJ _ _ ?_
  clear J hJ
  refine jn_in fun J hJ => brF rfl ?_
  refine Hs.lit st [0] 1 rfl rfl fun b24 h9 st => ?_
  refine call_of (searches_c (s := x14) (sc := ⟨some ⟨b24, 0, none⟩, 1, 1⟩) (c := [0]) (st.fzm (by simp [mE])) (st.fzm (by simp)) (by omega) q3 (by simp) q4) ?_
  rintro _ h10 ⟨rfl, x10⟩
  have st := (st.ext x10).less (G' := G) fun A hA => by simp [hA]
  refine hJ _ _ (brF rfl ?_)
  rw [inc_i (by omega)]
  exact hX _ _ _ ⟨n + 1, u, rfl, by omega, st, rfl⟩ (by omega)
abbrev B9 : List (List Ent) := [[], [(0, [])], [(-1, [])], [(1, []), (1, [])], [(2, []), (1, [])], [(1073741824, [])], [(1073741825, [])], [(1, [0])], [(1, [1])]]
theorem limits_c (h : Heap) : callT Tryz.prog fn_salvorlaw09_limits #[] .bool (fun r h' => r = true ∧ Ext [] h h') h := by
  refine callT_gen fun K hK => S_salvorlaw09_limits K ?_
  show entsW ty_lits_Lit ty_rat_Entry B9 (fun ps => nw (ps.map Ty.sl.enc).toArray ty_sl_rat_Entry fun b10 => LmA b10 K) h
  have st := Hs.start h [] (by simp)
  refine entsW_c _ st fun ps G' h' hG hl hm st => ?_
  refine Hs.litR st ps 9 (by rw [hl]; rfl) rfl fun b10 h2 st => ?_
  exact lmA_c st ⟨ps, hl, List.mem_append_right _ (by simp), fun i h1 h2 => List.mem_append_left _ (hm i h1 h2)⟩ rfl (by decide) fun h3 x3 => hK _ _ ⟨rfl, x3⟩
end Go.Proofs.S
